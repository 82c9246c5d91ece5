/- Typed words of functions, and that they hold: printed by gen.py (an own tool of this claim) off the model's own form of each function. -/
import Derived.Test.YtgieabpckecjlaaProg
import Derived.Test.YtgieabpckecjlaaTab
import Derived.Test.YtgieabpckecjlaaTwGrow
namespace Go.Proofs.Ytgieabpckecjlaa
open Go Go.RowKit Go.Tw
set_option linter.unusedVariables false

abbrev txtLst1 : ByteArray := ⟨#[108, 101, 110, 32, 111, 117, 116, 32, 111, 102, 32, 114, 97, 110, 103, 101]⟩
abbrev txtLst2 : ByteArray := ⟨#[99, 97, 110, 110, 111, 116, 32, 98, 101, 32, 110, 101, 103, 97, 116, 105, 118, 101]⟩
theorem slFLst_22 : SlF Try.prog 22 3 1 8 (.int .i64 0) := ⟨Try.underlying22, ⟨Try.t3, by kernel_rfl, rfl, rfl, rfl⟩, rfl, Try.sizeOf3, Try.zeroValue3⟩

/-! ### the calls -/

abbrev list_Of (r : World) (l1 : Sl) (h : Heap) (R : Option Addr → Int → Heap → Prop) : Prop :=
  CallsH Try.prog r 44 [(Sl.v l1)] h fun v h' => ∃ (y2 : Option Addr) (y3 : Int), v = (.agg #[(.pointer y2), (.int .i64 y3)]) ∧ R y2 y3 h'

theorem list_Of.mono {r : World} {l1 : Sl} {h : Heap} {R R' : Option Addr → Int → Heap → Prop} (H : list_Of r l1 h R) (hr : ∀ y2 y3 h, R y2 y3 h → R' y2 y3 h) : list_Of r l1 h R' :=
  CallsH.mono H fun _ _ hx => by
    obtain ⟨y2, y3, hv, hR⟩ := hx
    exact ⟨y2, y3, hv, hr _ _ _ hR⟩

abbrev list_List_Len (r : World) (l1 : Option Addr) (l2 : Int) (h : Heap) (R : Int → Heap → Prop) : Prop :=
  CallsH Try.prog r 45 [(.agg #[(.pointer l1), (.int .i64 l2)])] h fun v h' => ∃ (y3 : Int), v = (.int .i64 y3) ∧ R y3 h'

theorem list_List_Len.mono {r : World} {l1 : Option Addr} {l2 : Int} {h : Heap} {R R' : Int → Heap → Prop} (H : list_List_Len r l1 l2 h R) (hr : ∀ y3 h, R y3 h → R' y3 h) : list_List_Len r l1 l2 h R' :=
  CallsH.mono H fun _ _ hx => by
    obtain ⟨y3, hv, hR⟩ := hx
    exact ⟨y3, hv, hr _ _ hR⟩

abbrev slices_Concat_int_int (r : World) (slices1 : Sl) (h : Heap) (R : Sl → Heap → Prop) : Prop :=
  CallsH Try.prog r 46 [(Sl.v slices1)] h fun v h' => ∃ (y2 : Sl), v = (Sl.v y2) ∧ R y2 h'

theorem slices_Concat_int_int.mono {r : World} {slices1 : Sl} {h : Heap} {R R' : Sl → Heap → Prop} (H : slices_Concat_int_int r slices1 h R) (hr : ∀ y2 h, R y2 h → R' y2 h) : slices_Concat_int_int r slices1 h R' :=
  CallsH.mono H fun _ _ hx => by
    obtain ⟨y2, hv, hR⟩ := hx
    exact ⟨y2, hv, hr _ _ hR⟩

abbrev list_List_Rev (r : World) (l1 : Option Addr) (l2 : Int) (h : Heap) (R : Option Addr → Int → Heap → Prop) : Prop :=
  CallsH Try.prog r 47 [(.agg #[(.pointer l1), (.int .i64 l2)])] h fun v h' => ∃ (y3 : Option Addr) (y4 : Int), v = (.agg #[(.pointer y3), (.int .i64 y4)]) ∧ R y3 y4 h'

theorem list_List_Rev.mono {r : World} {l1 : Option Addr} {l2 : Int} {h : Heap} {R R' : Option Addr → Int → Heap → Prop} (H : list_List_Rev r l1 l2 h R) (hr : ∀ y3 y4 h, R y3 y4 h → R' y3 y4 h) : list_List_Rev r l1 l2 h R' :=
  CallsH.mono H fun _ _ hx => by
    obtain ⟨y3, y4, hv, hR⟩ := hx
    exact ⟨y3, y4, hv, hr _ _ _ hR⟩

abbrev list_List_Ints (r : World) (l1 : Option Addr) (l2 : Int) (h : Heap) (R : Sl → Heap → Prop) : Prop :=
  CallsH Try.prog r 48 [(.agg #[(.pointer l1), (.int .i64 l2)])] h fun v h' => ∃ (y3 : Sl), v = (Sl.v y3) ∧ R y3 h'

theorem list_List_Ints.mono {r : World} {l1 : Option Addr} {l2 : Int} {h : Heap} {R R' : Sl → Heap → Prop} (H : list_List_Ints r l1 l2 h R) (hr : ∀ y3 h, R y3 h → R' y3 h) : list_List_Ints r l1 l2 h R' :=
  CallsH.mono H fun _ _ hx => by
    obtain ⟨y3, hv, hR⟩ := hx
    exact ⟨y3, hv, hr _ _ hR⟩

abbrev list_List_Pop (r : World) (l1 : Option Addr) (l2 : Int) (h : Heap) (R : Int → Option Addr → Int → Bool → Heap → Prop) : Prop :=
  CallsH Try.prog r 49 [(.agg #[(.pointer l1), (.int .i64 l2)])] h fun v h' => ∃ (y3 : Int) (y4 : Option Addr) (y5 : Int) (y6 : Bool), v = (.tuple #[(.int .i64 y3), (.agg #[(.pointer y4), (.int .i64 y5)]), (.bool y6)]) ∧ R y3 y4 y5 y6 h'

theorem list_List_Pop.mono {r : World} {l1 : Option Addr} {l2 : Int} {h : Heap} {R R' : Int → Option Addr → Int → Bool → Heap → Prop} (H : list_List_Pop r l1 l2 h R) (hr : ∀ y3 y4 y5 y6 h, R y3 y4 y5 y6 h → R' y3 y4 y5 y6 h) : list_List_Pop r l1 l2 h R' :=
  CallsH.mono H fun _ _ hx => by
    obtain ⟨y3, y4, y5, y6, hv, hR⟩ := hx
    exact ⟨y3, y4, y5, y6, hv, hr _ _ _ _ _ hR⟩

abbrev list_List_Push (r : World) (l1 : Option Addr) (l2 : Int) (x3 : Int) (h : Heap) (R : Option Addr → Int → Heap → Prop) : Prop :=
  CallsH Try.prog r 50 [(.agg #[(.pointer l1), (.int .i64 l2)]), (.int .i64 x3)] h fun v h' => ∃ (y4 : Option Addr) (y5 : Int), v = (.agg #[(.pointer y4), (.int .i64 y5)]) ∧ R y4 y5 h'

theorem list_List_Push.mono {r : World} {l1 : Option Addr} {l2 : Int} {x3 : Int} {h : Heap} {R R' : Option Addr → Int → Heap → Prop} (H : list_List_Push r l1 l2 x3 h R) (hr : ∀ y4 y5 h, R y4 y5 h → R' y4 y5 h) : list_List_Push r l1 l2 x3 h R' :=
  CallsH.mono H fun _ _ hx => by
    obtain ⟨y4, y5, hv, hR⟩ := hx
    exact ⟨y4, y5, hv, hr _ _ _ hR⟩

abbrev list_List_At (r : World) (l1 : Option Addr) (l2 : Int) (i3 : Int) (h : Heap) (R : Int → Bool → Heap → Prop) : Prop :=
  CallsH Try.prog r 56 [(.agg #[(.pointer l1), (.int .i64 l2)]), (.int .i64 i3)] h fun v h' => ∃ (y4 : Int) (y5 : Bool), v = (.tuple #[(.int .i64 y4), (.bool y5)]) ∧ R y4 y5 h'

theorem list_List_At.mono {r : World} {l1 : Option Addr} {l2 : Int} {i3 : Int} {h : Heap} {R R' : Int → Bool → Heap → Prop} (H : list_List_At r l1 l2 i3 h R) (hr : ∀ y4 y5 h, R y4 y5 h → R' y4 y5 h) : list_List_At r l1 l2 i3 h R' :=
  CallsH.mono H fun _ _ hx => by
    obtain ⟨y4, y5, hv, hR⟩ := hx
    exact ⟨y4, y5, hv, hr _ _ _ hR⟩

abbrev slices_Backward_int_int (r : World) (s1 : Sl) (h : Heap) (R : Value → Heap → Prop) : Prop :=
  CallsH Try.prog r 58 [(Sl.v s1)] h R

theorem slices_Backward_int_int.mono {r : World} {s1 : Sl} {h : Heap} {R R' : Value → Heap → Prop} (H : slices_Backward_int_int r s1 h R) (hr : ∀ y h, R y h → R' y h) : slices_Backward_int_int r s1 h R' := CallsH.mono H hr

abbrev slices_Grow_int_int (r : World) (s1 : Sl) (n2 : Int) (h : Heap) (R : Sl → Heap → Prop) : Prop :=
  CallsH Try.prog r 59 [(Sl.v s1), (.int .i64 n2)] h fun v h' => ∃ (y3 : Sl), v = (Sl.v y3) ∧ R y3 h'

theorem slices_Grow_int_int.mono {r : World} {s1 : Sl} {n2 : Int} {h : Heap} {R R' : Sl → Heap → Prop} (H : slices_Grow_int_int r s1 n2 h R) (hr : ∀ y3 h, R y3 h → R' y3 h) : slices_Grow_int_int r s1 n2 h R' :=
  CallsH.mono H fun _ _ hx => by
    obtain ⟨y3, hv, hR⟩ := hx
    exact ⟨y3, hv, hr _ _ hR⟩

abbrev list_List_All (r : World) (l1 : Option Addr) (l2 : Int) (h : Heap) (R : Value → Heap → Prop) : Prop :=
  CallsH Try.prog r 60 [(.agg #[(.pointer l1), (.int .i64 l2)])] h R

theorem list_List_All.mono {r : World} {l1 : Option Addr} {l2 : Int} {h : Heap} {R R' : Value → Heap → Prop} (H : list_List_All r l1 l2 h R) (hr : ∀ y h, R y h → R' y h) : list_List_All r l1 l2 h R' := CallsH.mono H hr

abbrev slices_Collect_int (r : World) (seq1 : Value) (h : Heap) (R : Sl → Heap → Prop) : Prop :=
  CallsH Try.prog r 61 [seq1] h fun v h' => ∃ (y2 : Sl), v = (Sl.v y2) ∧ R y2 h'

theorem slices_Collect_int.mono {r : World} {seq1 : Value} {h : Heap} {R R' : Sl → Heap → Prop} (H : slices_Collect_int r seq1 h R) (hr : ∀ y2 h, R y2 h → R' y2 h) : slices_Collect_int r seq1 h R' :=
  CallsH.mono H fun _ _ hx => by
    obtain ⟨y2, hv, hR⟩ := hx
    exact ⟨y2, hv, hr _ _ hR⟩

abbrev slices_Backward_int_int_1 (r : World) (yield1 : Value) (c2 : Addr) (h : Heap) (R : Heap → Prop) : Prop :=
  CallsH Try.prog r 68 [yield1, (.pointer (some c2))] h fun v h' => v = (.tuple #[]) ∧ R  h'

theorem slices_Backward_int_int_1.mono {r : World} {yield1 : Value} {c2 : Addr} {h : Heap} {R R' : Heap → Prop} (H : slices_Backward_int_int_1 r yield1 c2 h R) (hr : ∀  h, R  h → R'  h) : slices_Backward_int_int_1 r yield1 c2 h R' :=
  CallsH.mono H fun _ _ hx => by
    obtain ⟨hv, hR⟩ := hx
    exact ⟨hv, hr _ hR⟩

abbrev list_List_All_1 (r : World) (yield1 : Value) (c2 : Addr) (h : Heap) (R : Heap → Prop) : Prop :=
  CallsH Try.prog r 69 [yield1, (.pointer (some c2))] h fun v h' => v = (.tuple #[]) ∧ R  h'

theorem list_List_All_1.mono {r : World} {yield1 : Value} {c2 : Addr} {h : Heap} {R R' : Heap → Prop} (H : list_List_All_1 r yield1 c2 h R) (hr : ∀  h, R  h → R'  h) : list_List_All_1 r yield1 c2 h R' :=
  CallsH.mono H fun _ _ hx => by
    obtain ⟨hv, hR⟩ := hx
    exact ⟨hv, hr _ hR⟩

abbrev slices_AppendSeq_int_int (r : World) (s1 : Sl) (seq2 : Value) (h : Heap) (R : Sl → Heap → Prop) : Prop :=
  CallsH Try.prog r 70 [(Sl.v s1), seq2] h fun v h' => ∃ (y3 : Sl), v = (Sl.v y3) ∧ R y3 h'

theorem slices_AppendSeq_int_int.mono {r : World} {s1 : Sl} {seq2 : Value} {h : Heap} {R R' : Sl → Heap → Prop} (H : slices_AppendSeq_int_int r s1 seq2 h R) (hr : ∀ y3 h, R y3 h → R' y3 h) : slices_AppendSeq_int_int r s1 seq2 h R' :=
  CallsH.mono H fun _ _ hx => by
    obtain ⟨y3, hv, hR⟩ := hx
    exact ⟨y3, hv, hr _ _ hR⟩

/-! ### list_Of -/

def list_Of_F (r : World) (l1 : Sl) (h : Heap) (R : Option Addr → Int → Heap → Prop) : Prop :=
  New h (.cells #[(.pointer none), (.int .i64 0)] 34) fun p2 h1 =>
  New h1 (.cells #[(.pointer none), (.int .i64 0)] 34) fun p5 h2 =>
  slices_Backward_int_int r l1 h2 fun y8 h3 =>
  ∀ (D9 : Nat) (o10 : Obj) (h4 : Heap), D9 = Array.size h3 → h4 = (h3.push (.deferred (some []))).push o10 → notCells o10 = true →
    (∀ (a19 : Int) (a20 : Int) (h5 : Heap) (K11 : Value → Heap → Prop), (h5[D9 + 1]? = some o10) →
      (∀ h8 : Heap, h8 = hput h5 (D9 + 1) (busyO o10) →
        LdP h8 (Addr.add p5 0) fun x21 =>
        LdI h8 (Addr.add p5 1) fun x23 =>
        list_List_Push r x21 x23 a20 h8 fun y25 y26 h9 =>
        St h9 p5 2 [(.pointer y25), (.int .i64 y26)] fun h10 =>
        (h10[D9 + 1]? = some (busyO o10)) ∧ K11 (.bool true) (hput h10 (D9 + 1) o10)) →
      YieldH Try.prog r (D9 + 1) [(.int .i64 a19), (.int .i64 a20)] h5 K11) →
  CallF Try.prog r y8 [.func (.yield (D9 + 1)) #[] #[]] h4 fun _ h6 => (h6[D9 + 1]? = some o10) ∧ ∀ (o18 : Obj) (h7 : Heap), h7 = hput h6 (D9 + 1) o18 →
  LdP h7 (Addr.add p5 0) fun x29 =>
  LdI h7 (Addr.add p5 1) fun x31 =>
  St h7 p2 2 [(.pointer x29), (.int .i64 x31)] fun h11 =>
  (h11[D9]? = some (.deferred (some []))) ∧ ∀ h12 : Heap, h12 = hput h11 D9 (.deferred none) →
  LdP h12 (Addr.add p2 0) fun x37 =>
  LdI h12 (Addr.add p2 1) fun x39 =>
  R x37 x39 h12

set_option maxRecDepth 100000 in
theorem list_Of_of {r : World} {l1 : Sl} {h : Heap} {R : Option Addr → Int → Heap → Prop} (H : list_Of_F r l1 h R) : list_Of r l1 h R := by
  unfold list_Of_F at H
  refine calls_of 14 [.cell 2 34] Try.func44 rfl rfl rfl rfl rfl ?_
  refine W_seq ?_
  refine W_region (.ef 0 [] .fin .no) rfl rfl ?_
  obtain ⟨p2, e3⟩ : ∃ p : Addr, p = ⟨h.size, 0, none⟩ := ⟨_, rfl⟩
  obtain ⟨h1, e4⟩ : ∃ hh : Heap, hh = h.push (.cells #[(.pointer none), (.int .i64 0)] 34) := ⟨_, rfl⟩
  have H := H p2 h1 e3 e4
  refine s_ef1 (d := some 2) (v := (.pointer (some p2))) (h' := h1) rfl rfl rfl (fun dr => (r_alloc Try.zeroValue34).trans (by rw [e3, e4]; rfl)) trivial ?_ trivial
  refine s_fin ?_
  show W _ _ _ _ _ _ _ _
  refine W_seq ?_
  refine W_region (.ef 0 [] .fin .no) rfl rfl ?_
  obtain ⟨p5, e6⟩ : ∃ p : Addr, p = ⟨h1.size, 0, none⟩ := ⟨_, rfl⟩
  obtain ⟨h2, e7⟩ : ∃ hh : Heap, hh = h1.push (.cells #[(.pointer none), (.int .i64 0)] 34) := ⟨_, rfl⟩
  have H := H p5 h2 e6 e7
  refine s_ef1 (d := some 3) (v := (.pointer (some p5))) (h' := h2) rfl rfl rfl (fun dr => (r_alloc Try.zeroValue34).trans (by rw [e6, e7]; rfl)) trivial ?_ trivial
  refine s_fin ?_
  show W _ _ _ _ _ _ _ _
  refine W_seq ?_
  refine W_seq ?_
  refine W_region (.pu 0 (.ef 1 [] .fin .no)) rfl rfl ?_
  refine s_pu (d := some 6) (v := (Sl.v l1)) rfl rfl rfl (r_move rfl) ?_
  refine s_ef (d := some 7) rfl rfl rfl (fun dr => r_call Try.call58 rfl rfl H) ?_ trivial
  rintro y8 h3 H
  refine ⟨trivial, ?_⟩
  refine s_fin ?_
  show W _ _ _ _ _ _ _ _
  refine W_block ?_
  refine W_rangeFunc rfl (fun fn o10 e12 => ?_)
  obtain ⟨D9, e13⟩ : ∃ D : Nat, D = Array.size h3 := ⟨_, rfl⟩
  rw [← e13] at e12 ⊢
  obtain ⟨h4, e14⟩ : ∃ hh : Heap, hh = (h3.push (.deferred (some []))).push o10 := ⟨_, rfl⟩
  rw [← e14]
  have H := H D9 o10 h4 e13 e14 (by rw [e12]; rfl) (by
    intro a19 a20 h5 K11 e17 H
    refine round_of e12 e17 rfl ?_
    refine W_region (.pu 0 .fin) rfl rfl ?_
    refine s_pu (d := some 5) (v := (.int .i64 a20)) rfl rfl rfl (r_assign rfl) ?_
    refine s_fin ?_
    refine ⟨rfl, ?_⟩
    obtain ⟨h8, e15⟩ : ∃ hh : Heap, hh = hput h5 (D9 + 1) (busyO o10) := ⟨_, rfl⟩
    rw [← e15]
    have H := H h8 e15
    refine W_block ?_
    refine W_region (.rl 0 (.pu 1 (.ef 2 [] (.ef 3 [] .fin .no) .no))) rfl rfl ?_
    obtain ⟨x21, e22, H⟩ := H
    obtain ⟨x23, e24, H⟩ := H
    refine s_rl (d := some 10) (v := (.agg #[(.pointer x21), (.int .i64 x23)])) rfl rfl rfl (fun dr => r_loadN Try.isAgg34 Try.sizeOf34 (vs := [(.pointer x21), (.int .i64 x23)]) rfl rfl ⟨e22, e24, trivial⟩) ?_
    refine s_pu (d := some 11) (v := (.int .i64 a20)) rfl rfl rfl (r_move rfl) ?_
    refine s_ef (d := some 12) rfl rfl rfl (fun dr => r_call Try.call50 rfl rfl H) ?_ trivial
    rintro _ h9 ⟨y25, y26, rfl, H⟩
    refine ⟨trivial, ?_⟩
    obtain ⟨e28, H⟩ := H
    obtain ⟨h10, e27⟩ : ∃ hh : Heap, hh = hsets h9 p5 0 [(.pointer y25), (.int .i64 y26)] := ⟨_, rfl⟩
    have H := H h10 e27
    refine s_st (d := none) (h' := h10) rfl rfl rfl (fun dr => (r_store (v := (.agg #[(.pointer y25), (.int .i64 y26)])) Try.sizeOf34 rfl rfl rfl (one_all rfl) e28).trans (by rw [e27]; rfl)) trivial ?_ trivial
    refine s_fin ?_
    exact H)
  refine CallF.mono H (fun _ h6 hx => ?_)
  obtain ⟨e17, H⟩ := hx
  refine ⟨e17, fun o18 => ?_⟩
  obtain ⟨h7, e16⟩ : ∃ hh : Heap, hh = hput h6 (D9 + 1) o18 := ⟨_, rfl⟩
  rw [← e16]
  have H := H o18 h7 e16
  show W _ _ _ _ _ _ _ _
  refine W_seq ?_
  refine W_region (.rl 0 (.ef 1 [] .fin .no)) rfl rfl ?_
  obtain ⟨x29, e30, H⟩ := H
  obtain ⟨x31, e32, H⟩ := H
  refine s_rl (d := some 13) (v := (.agg #[(.pointer x29), (.int .i64 x31)])) rfl rfl rfl (fun dr => r_loadN Try.isAgg34 Try.sizeOf34 (vs := [(.pointer x29), (.int .i64 x31)]) rfl rfl ⟨e30, e32, trivial⟩) ?_
  obtain ⟨e34, H⟩ := H
  obtain ⟨h11, e33⟩ : ∃ hh : Heap, hh = hsets h7 p2 0 [(.pointer x29), (.int .i64 x31)] := ⟨_, rfl⟩
  have H := H h11 e33
  refine s_st (d := none) (h' := h11) rfl rfl rfl (fun dr => (r_store (v := (.agg #[(.pointer x29), (.int .i64 x31)])) Try.sizeOf34 rfl rfl rfl (one_all rfl) e34).trans (by rw [e33]; rfl)) trivial ?_ trivial
  refine s_fin ?_
  show W _ _ _ _ _ _ _ _
  refine W_ret ?_
  obtain ⟨e36, H⟩ := H
  obtain ⟨h12, e35⟩ : ∃ hh : Heap, hh = hput h11 D9 (.deferred none) := ⟨_, rfl⟩
  have H := H h12 e35
  refine ⟨D9, rfl, e36, ?_⟩
  rw [← e35]
  obtain ⟨x37, e38, H⟩ := H
  obtain ⟨x39, e40, H⟩ := H
  exact ⟨[(.agg #[(.pointer x37), (.int .i64 x39)])], ⟨_, _, _, rfl, rfl, fun dr => run_loadVarN Try.isAgg34 Try.sizeOf34 (vs := [(.pointer x37), (.int .i64 x39)]) rfl ⟨e38, e40, trivial⟩, rfl⟩, x37, x39, rfl, H⟩

/-! ### list_List_Len -/

def list_List_Len_F (r : World) (l1 : Option Addr) (l2 : Int) (h : Heap) (R : Int → Heap → Prop) : Prop :=
  New h (.cells #[(.pointer l1), (.int .i64 l2)] 34) fun p3 h1 =>
  LdI h1 (Addr.add p3 1) fun x6 =>
  R x6 h1

set_option maxRecDepth 100000 in
theorem list_List_Len_of {r : World} {l1 : Option Addr} {l2 : Int} {h : Heap} {R : Int → Heap → Prop} (H : list_List_Len_F r l1 l2 h R) : list_List_Len r l1 l2 h R := by
  unfold list_List_Len_F at H
  refine calls_of 5 [.tmp 2] Try.func45 rfl rfl rfl rfl rfl ?_
  refine W_seq ?_
  refine W_region (.ef 0 [] (.pu 1 .fin) .no) rfl rfl ?_
  obtain ⟨p3, e4⟩ : ∃ p : Addr, p = ⟨h.size, 0, none⟩ := ⟨_, rfl⟩
  obtain ⟨h1, e5⟩ : ∃ hh : Heap, hh = h.push (.cells #[(.pointer l1), (.int .i64 l2)] 34) := ⟨_, rfl⟩
  have H := H p3 h1 e4 e5
  refine s_ef1 (d := some 1) (v := (.pointer (some p3))) (h' := h1) rfl rfl rfl (fun dr => (r_box (v := (.agg #[(.pointer l1), (.int .i64 l2)])) rfl).trans (by rw [e4, e5]; rfl)) trivial ?_ trivial
  refine s_pu (d := some 2) (v := (.int .i64 0)) rfl rfl rfl (r_assign rfl) ?_
  refine s_fin ?_
  show W _ _ _ _ _ _ _ _
  refine W_seq ?_
  refine W_region (.pu 0 (.rl 1 (.pu 2 .fin))) rfl rfl ?_
  refine s_pu (d := some 3) (v := (.pointer (some (Addr.add p3 1)))) rfl rfl rfl (r_fieldAddr Try.underlying34 Try.sizeOf3 rfl rfl rfl) ?_
  obtain ⟨x6, e7, H⟩ := H
  refine s_rl (d := some 4) (v := (.int .i64 x6)) rfl rfl rfl (fun dr => r_load1 Try.isAgg3 rfl e7) ?_
  refine s_pu (d := some 2) (v := (.int .i64 x6)) rfl rfl rfl (r_assign rfl) ?_
  refine s_fin ?_
  show W _ _ _ _ _ _ _ _
  refine W_ret ?_
  exact ⟨[(.int .i64 x6)], ⟨_, _, rfl, rfl, rfl⟩, x6, rfl, H⟩

/-! ### slices_Concat_int_int -/

def slices_Concat_int_int_F (r : World) (slices1 : Sl) (h : Heap) (R : Sl → Heap → Prop) : Prop :=
  ∀ X4 : Int → Int → Heap → Prop, (∀ (size2 : Int) (x3 : Int) (h1 : Heap),
    (Br (decide (x3 < ((slices1.len : Int)))) (
      ∀ J6 : Int → Heap → Prop, (∀ (size5 : Int) (h2 : Heap),
        (X4 size5 (w64 (x3 + 1)) h2) →
        J6 size5 h2) →
      Ix slices1 x3 1 fun q12 =>
      LdS h1 q12 fun x14 =>
      Br (decide ((w64 (size2 + ((x14.len : Int)))) < 0)) (
        False) (
        J6 (w64 (size2 + ((x14.len : Int)))) h1)) (
      slices_Grow_int_int r Sl.nil size2 h1 fun y17 h3 =>
      ∀ X20 : Sl → Int → Heap → Prop, (∀ (newslice18 : Sl) (x19 : Int) (h4 : Heap),
        (Br (decide (x19 < ((slices1.len : Int)))) (
          Ix slices1 x19 1 fun q25 =>
          LdS h4 q25 fun x27 =>
          App 3 1 8 (.int .i64 0) newslice18 x27 h4 fun s29 h5 =>
          X20 s29 (w64 (x19 + 1)) h5) (
          R newslice18 h4)) →
        X20 newslice18 x19 h4) →
      X20 y17 0 h3)) →
    X4 size2 x3 h1) →
  X4 0 0 h

set_option maxRecDepth 100000 in
theorem slices_Concat_int_int_of {r : World} {slices1 : Sl} {h : Heap} {R : Sl → Heap → Prop} (H : slices_Concat_int_int_F r slices1 h R) : slices_Concat_int_int r slices1 h R := by
  unfold slices_Concat_int_int_F at H
  refine calls_of 36 [.tmp 2] Try.func46 rfl rfl rfl rfl rfl ?_
  refine W_seq ?_
  refine W_region (.pu 0 .fin) rfl rfl ?_
  refine s_pu (d := some 2) (v := (Sl.v Sl.nil)) rfl rfl rfl (r_assign rfl) ?_
  refine s_fin ?_
  show W _ _ _ _ _ _ _ _
  refine W_seq ?_
  refine W_region (.pu 0 .fin) rfl rfl ?_
  refine s_pu (d := some 3) (v := (.int .i64 0)) rfl rfl rfl (r_assign rfl) ?_
  refine s_fin ?_
  show W _ _ _ _ _ _ _ _
  refine W_seq ?_
  refine W_seq ?_
  refine W_region (.pu 0 (.pu 1 (.pu 2 .fin))) rfl rfl ?_
  refine s_pu (d := some 9) (v := (Sl.v slices1)) rfl rfl rfl (r_move rfl) ?_
  refine s_pu (d := some 10) (v := (.int .i64 ((slices1.len : Int)))) rfl rfl rfl (r_len Try.underlying60 rfl) ?_
  refine s_pu (d := some 11) (v := (.int .i64 0)) rfl rfl rfl (r_move rfl) ?_
  refine s_fin ?_
  show W _ _ _ _ _ _ _ _
  refine W_block ?_
  refine W_loop (WL_mk (l := [(0, (Sl.v slices1)), (3, (.int .i64 0)), (9, (Sl.v slices1)), (10, (.int .i64 ((slices1.len : Int)))), (11, (.int .i64 0))]) ?_ ⟨rfl, rfl, rfl, rfl, rfl, trivial⟩)
  refine H (fun (size2 : Int) (x3 : Int) (h1 : Heap) => ∀ b, WL _ _ _ _ _ _ (mkE [(0, (Sl.v slices1)), (3, (.int .i64 size2)), (9, (Sl.v slices1)), (10, (.int .i64 ((slices1.len : Int)))), (11, (.int .i64 x3))] b) h1) ?_
  intro size2 x3 h1 H b
  refine WL_round ?_
  refine W_seq ?_
  refine W_region (.pu 0 .fin) rfl rfl ?_
  refine s_pu (d := some 12) (v := (.bool (decide (x3 < ((slices1.len : Int)))))) rfl rfl rfl (r_lss rfl rfl) ?_
  refine s_fin ?_
  show W _ _ _ _ _ _ _ _
  refine W_seq ?_
  refine W_if (decide (x3 < ((slices1.len : Int)))) rfl (fun g31 => ?_) (fun g31 => ?_)
  · have H := H.1 g31
    refine W_skip ?_
    show W _ _ _ _ _ _ _ _
    refine W_seq ?_
    refine W_set ?_
    intro N7 eN7
    have H := H (fun (size5 : Int) (h2 : Heap) => ∀ b, N7 [] (mkE [(0, (Sl.v slices1)), (3, (.int .i64 size5)), (9, (Sl.v slices1)), (10, (.int .i64 ((slices1.len : Int)))), (11, (.int .i64 x3))] b) h2) (by
      intro size5 h2 H b
      rw [eN7]
      show W _ _ _ _ _ _ _ _
      refine W_region (.pu 0 (.pu 1 .fin)) rfl rfl ?_
      refine s_pu (d := some 22) (v := (.int .i64 (w64 (x3 + 1)))) rfl rfl rfl (r_add rfl rfl) ?_
      refine s_pu (d := some 11) (v := (.int .i64 (w64 (x3 + 1)))) rfl rfl rfl (r_move rfl) ?_
      refine s_fin ?_
      exact WL_mk (l := [(0, (Sl.v slices1)), (3, (.int .i64 size5)), (9, (Sl.v slices1)), (10, (.int .i64 ((slices1.len : Int)))), (11, (.int .i64 (w64 (x3 + 1))))]) H ⟨rfl, rfl, rfl, rfl, rfl, trivial⟩)
    clear eN7
    refine W_block ?_
    refine W_seq ?_
    refine W_region (.pu 0 (.rl 1 (.pu 2 .fin))) rfl rfl ?_
    obtain ⟨p8, e9, e10, e11, H⟩ := H
    obtain ⟨q12, e13⟩ : ∃ q : Addr, q = Addr.add p8 (Int.toNat x3 * 1) := ⟨_, rfl⟩
    rw [← e13] at H
    refine s_pu (d := some 13) (v := (.pointer (some q12))) rfl rfl rfl (fun w => (r_indexAddr Try.underlying60 Try.sizeOf22 rfl rfl e9 e10 e11 w).trans (by rw [e13])) ?_
    obtain ⟨x14, e15, H⟩ := H
    refine s_rl (d := some 14) (v := (Sl.v x14)) rfl rfl rfl (fun dr => r_load1 Try.isAgg22 rfl e15) ?_
    refine s_pu (d := some 5) (v := (Sl.v x14)) rfl rfl rfl (r_assign rfl) ?_
    refine s_fin ?_
    show W _ _ _ _ _ _ _ _
    refine W_seq ?_
    refine W_region (.pu 0 (.pu 1 (.pu 2 (.pu 3 (.pu 4 .fin))))) rfl rfl ?_
    refine s_pu (d := some 15) (v := (.int .i64 size2)) rfl rfl rfl (r_move rfl) ?_
    refine s_pu (d := some 16) (v := (Sl.v x14)) rfl rfl rfl (r_move rfl) ?_
    refine s_pu (d := some 17) (v := (.int .i64 ((x14.len : Int)))) rfl rfl rfl (r_len Try.underlying22 rfl) ?_
    refine s_pu (d := some 18) (v := (.int .i64 (w64 (size2 + ((x14.len : Int)))))) rfl rfl rfl (r_add rfl rfl) ?_
    refine s_pu (d := some 3) (v := (.int .i64 (w64 (size2 + ((x14.len : Int)))))) rfl rfl rfl (r_assign rfl) ?_
    refine s_fin ?_
    show W _ _ _ _ _ _ _ _
    refine W_seq ?_
    refine W_region (.pu 0 (.pu 1 .fin)) rfl rfl ?_
    refine s_pu (d := some 19) (v := (.int .i64 (w64 (size2 + ((x14.len : Int)))))) rfl rfl rfl (r_move rfl) ?_
    refine s_pu (d := some 20) (v := (.bool (decide ((w64 (size2 + ((x14.len : Int)))) < 0)))) rfl rfl rfl (r_lss rfl rfl) ?_
    refine s_fin ?_
    show W _ _ _ _ _ _ _ _
    refine W_if (decide ((w64 (size2 + ((x14.len : Int)))) < 0)) rfl (fun g16 => ?_) (fun g16 => ?_)
    · have H := H.1 g16
      refine W_region (.pu 0 (.ef 1 [] .fin .no)) rfl rfl ?_
      refine s_pu (d := some 21) (v := ((.iface 9 (.string txtLst1)))) rfl rfl rfl (r_iface Try.underlying9 rfl rfl) ?_
      exact H.elim
    · have H := H.2 g16
      refine W_skip ?_
      exact N_mk (l := [(0, (Sl.v slices1)), (3, (.int .i64 (w64 (size2 + ((x14.len : Int)))))), (9, (Sl.v slices1)), (10, (.int .i64 ((slices1.len : Int)))), (11, (.int .i64 x3))]) H ⟨rfl, rfl, rfl, rfl, rfl, trivial⟩
  · have H := H.2 g31
    refine W_exit (inX_here ?_)
    show W _ _ _ _ _ _ _ _
    refine W_seq ?_
    refine W_region (.pu 0 (.ef 1 [] (.pu 2 .fin) .no)) rfl rfl ?_
    refine s_pu (d := some 23) (v := (.int .i64 size2)) rfl rfl rfl (r_move rfl) ?_
    refine s_ef (d := some 24) rfl rfl rfl (fun dr => r_call Try.call59 rfl rfl H) ?_ trivial
    rintro _ h3 ⟨y17, rfl, H⟩
    refine ⟨trivial, ?_⟩
    refine s_pu (d := some 6) (v := (Sl.v y17)) rfl rfl rfl (r_assign rfl) ?_
    refine s_fin ?_
    show W _ _ _ _ _ _ _ _
    refine W_seq ?_
    refine W_seq ?_
    refine W_region (.pu 0 (.pu 1 (.pu 2 .fin))) rfl rfl ?_
    refine s_pu (d := some 25) (v := (Sl.v slices1)) rfl rfl rfl (r_move rfl) ?_
    refine s_pu (d := some 26) (v := (.int .i64 ((slices1.len : Int)))) rfl rfl rfl (r_len Try.underlying60 rfl) ?_
    refine s_pu (d := some 27) (v := (.int .i64 0)) rfl rfl rfl (r_move rfl) ?_
    refine s_fin ?_
    show W _ _ _ _ _ _ _ _
    refine W_block ?_
    refine W_loop (WL_mk (l := [(6, (Sl.v y17)), (25, (Sl.v slices1)), (26, (.int .i64 ((slices1.len : Int)))), (27, (.int .i64 0))]) ?_ ⟨rfl, rfl, rfl, rfl, trivial⟩)
    refine H (fun (newslice18 : Sl) (x19 : Int) (h4 : Heap) => ∀ b, WL _ _ _ _ _ _ (mkE [(6, (Sl.v newslice18)), (25, (Sl.v slices1)), (26, (.int .i64 ((slices1.len : Int)))), (27, (.int .i64 x19))] b) h4) ?_
    intro newslice18 x19 h4 H b
    refine WL_round ?_
    refine W_seq ?_
    refine W_region (.pu 0 .fin) rfl rfl ?_
    refine s_pu (d := some 28) (v := (.bool (decide (x19 < ((slices1.len : Int)))))) rfl rfl rfl (r_lss rfl rfl) ?_
    refine s_fin ?_
    show W _ _ _ _ _ _ _ _
    refine W_seq ?_
    refine W_if (decide (x19 < ((slices1.len : Int)))) rfl (fun g30 => ?_) (fun g30 => ?_)
    · have H := H.1 g30
      refine W_skip ?_
      show W _ _ _ _ _ _ _ _
      refine W_seq ?_
      refine W_block ?_
      refine W_seq ?_
      refine W_region (.pu 0 (.rl 1 (.pu 2 .fin))) rfl rfl ?_
      obtain ⟨p21, e22, e23, e24, H⟩ := H
      obtain ⟨q25, e26⟩ : ∃ q : Addr, q = Addr.add p21 (Int.toNat x19 * 1) := ⟨_, rfl⟩
      rw [← e26] at H
      refine s_pu (d := some 29) (v := (.pointer (some q25))) rfl rfl rfl (fun w => (r_indexAddr Try.underlying60 Try.sizeOf22 rfl rfl e22 e23 e24 w).trans (by rw [e26])) ?_
      obtain ⟨x27, e28, H⟩ := H
      refine s_rl (d := some 30) (v := (Sl.v x27)) rfl rfl rfl (fun dr => r_load1 Try.isAgg22 rfl e28) ?_
      refine s_pu (d := some 8) (v := (Sl.v x27)) rfl rfl rfl (r_assign rfl) ?_
      refine s_fin ?_
      show W _ _ _ _ _ _ _ _
      refine W_region (.pu 0 (.pu 1 (.ef 2 [] (.pu 3 .fin) .no))) rfl rfl ?_
      refine s_pu (d := some 31) (v := (Sl.v newslice18)) rfl rfl rfl (r_move rfl) ?_
      refine s_pu (d := some 32) (v := (Sl.v x27)) rfl rfl rfl (r_move rfl) ?_
      refine s_ef (d := some 33) rfl rfl rfl (fun dr => slFLst_22.append rfl rfl H) ?_ trivial
      rintro _ h5 ⟨s29, rfl, H⟩
      refine ⟨trivial, ?_⟩
      refine s_pu (d := some 6) (v := (Sl.v s29)) rfl rfl rfl (r_assign rfl) ?_
      refine s_fin ?_
      show W _ _ _ _ _ _ _ _
      refine W_region (.pu 0 (.pu 1 .fin)) rfl rfl ?_
      refine s_pu (d := some 34) (v := (.int .i64 (w64 (x19 + 1)))) rfl rfl rfl (r_add rfl rfl) ?_
      refine s_pu (d := some 27) (v := (.int .i64 (w64 (x19 + 1)))) rfl rfl rfl (r_move rfl) ?_
      refine s_fin ?_
      exact WL_mk (l := [(6, (Sl.v s29)), (25, (Sl.v slices1)), (26, (.int .i64 ((slices1.len : Int)))), (27, (.int .i64 (w64 (x19 + 1))))]) H ⟨rfl, rfl, rfl, rfl, trivial⟩
    · have H := H.2 g30
      refine W_exit (inX_here ?_)
      show W _ _ _ _ _ _ _ _
      refine W_seq ?_
      refine W_region (.pu 0 (.pu 1 .fin)) rfl rfl ?_
      refine s_pu (d := some 35) (v := (Sl.v newslice18)) rfl rfl rfl (r_move rfl) ?_
      refine s_pu (d := some 2) (v := (Sl.v newslice18)) rfl rfl rfl (r_assign rfl) ?_
      refine s_fin ?_
      show W _ _ _ _ _ _ _ _
      refine W_ret ?_
      exact ⟨[(Sl.v newslice18)], ⟨_, _, rfl, rfl, rfl⟩, newslice18, rfl, H⟩

/-! ### list_List_Rev -/

def list_List_Rev_F (r : World) (l1 : Option Addr) (l2 : Int) (h : Heap) (R : Option Addr → Int → Heap → Prop) : Prop :=
  New h (.cells #[(.pointer l1), (.int .i64 l2)] 34) fun p3 h1 =>
  New h1 (.cells #[(.pointer none), (.int .i64 0)] 34) fun p6 h2 =>
  New h2 (.cells #[(.pointer none), (.int .i64 0)] 34) fun p9 h3 =>
  LdP h3 (Addr.add p3 0) fun x12 =>
  LdI h3 (Addr.add p3 1) fun x14 =>
  list_List_All r x12 x14 h3 fun y16 h4 =>
  ∀ (D17 : Nat) (o18 : Obj) (h5 : Heap), D17 = Array.size h4 → h5 = (h4.push (.deferred (some []))).push o18 → notCells o18 = true →
    (∀ (a27 : Int) (h6 : Heap) (K19 : Value → Heap → Prop), (h6[D17 + 1]? = some o18) →
      (∀ h9 : Heap, h9 = hput h6 (D17 + 1) (busyO o18) →
        LdP h9 (Addr.add p9 0) fun x28 =>
        LdI h9 (Addr.add p9 1) fun x30 =>
        list_List_Push r x28 x30 a27 h9 fun y32 y33 h10 =>
        St h10 p9 2 [(.pointer y32), (.int .i64 y33)] fun h11 =>
        (h11[D17 + 1]? = some (busyO o18)) ∧ K19 (.bool true) (hput h11 (D17 + 1) o18)) →
      YieldH Try.prog r (D17 + 1) [(.int .i64 a27)] h6 K19) →
  CallF Try.prog r y16 [.func (.yield (D17 + 1)) #[] #[]] h5 fun _ h7 => (h7[D17 + 1]? = some o18) ∧ ∀ (o26 : Obj) (h8 : Heap), h8 = hput h7 (D17 + 1) o26 →
  LdP h8 (Addr.add p9 0) fun x36 =>
  LdI h8 (Addr.add p9 1) fun x38 =>
  St h8 p6 2 [(.pointer x36), (.int .i64 x38)] fun h12 =>
  (h12[D17]? = some (.deferred (some []))) ∧ ∀ h13 : Heap, h13 = hput h12 D17 (.deferred none) →
  LdP h13 (Addr.add p6 0) fun x44 =>
  LdI h13 (Addr.add p6 1) fun x46 =>
  R x44 x46 h13

set_option maxRecDepth 100000 in
theorem list_List_Rev_of {r : World} {l1 : Option Addr} {l2 : Int} {h : Heap} {R : Option Addr → Int → Heap → Prop} (H : list_List_Rev_F r l1 l2 h R) : list_List_Rev r l1 l2 h R := by
  unfold list_List_Rev_F at H
  refine calls_of 12 [.cell 2 34] Try.func47 rfl rfl rfl rfl rfl ?_
  refine W_seq ?_
  refine W_region (.ef 0 [] (.ef 1 [] .fin .no) .no) rfl rfl ?_
  obtain ⟨p3, e4⟩ : ∃ p : Addr, p = ⟨h.size, 0, none⟩ := ⟨_, rfl⟩
  obtain ⟨h1, e5⟩ : ∃ hh : Heap, hh = h.push (.cells #[(.pointer l1), (.int .i64 l2)] 34) := ⟨_, rfl⟩
  have H := H p3 h1 e4 e5
  refine s_ef1 (d := some 1) (v := (.pointer (some p3))) (h' := h1) rfl rfl rfl (fun dr => (r_box (v := (.agg #[(.pointer l1), (.int .i64 l2)])) rfl).trans (by rw [e4, e5]; rfl)) trivial ?_ trivial
  obtain ⟨p6, e7⟩ : ∃ p : Addr, p = ⟨h1.size, 0, none⟩ := ⟨_, rfl⟩
  obtain ⟨h2, e8⟩ : ∃ hh : Heap, hh = h1.push (.cells #[(.pointer none), (.int .i64 0)] 34) := ⟨_, rfl⟩
  have H := H p6 h2 e7 e8
  refine s_ef1 (d := some 2) (v := (.pointer (some p6))) (h' := h2) rfl rfl rfl (fun dr => (r_alloc Try.zeroValue34).trans (by rw [e7, e8]; rfl)) trivial ?_ trivial
  refine s_fin ?_
  show W _ _ _ _ _ _ _ _
  refine W_seq ?_
  refine W_region (.ef 0 [] .fin .no) rfl rfl ?_
  obtain ⟨p9, e10⟩ : ∃ p : Addr, p = ⟨h2.size, 0, none⟩ := ⟨_, rfl⟩
  obtain ⟨h3, e11⟩ : ∃ hh : Heap, hh = h2.push (.cells #[(.pointer none), (.int .i64 0)] 34) := ⟨_, rfl⟩
  have H := H p9 h3 e10 e11
  refine s_ef1 (d := some 3) (v := (.pointer (some p9))) (h' := h3) rfl rfl rfl (fun dr => (r_alloc Try.zeroValue34).trans (by rw [e10, e11]; rfl)) trivial ?_ trivial
  refine s_fin ?_
  show W _ _ _ _ _ _ _ _
  refine W_seq ?_
  refine W_seq ?_
  refine W_region (.rl 0 (.ef 1 [] .fin .no)) rfl rfl ?_
  obtain ⟨x12, e13, H⟩ := H
  obtain ⟨x14, e15, H⟩ := H
  refine s_rl (d := some 5) (v := (.agg #[(.pointer x12), (.int .i64 x14)])) rfl rfl rfl (fun dr => r_loadN Try.isAgg34 Try.sizeOf34 (vs := [(.pointer x12), (.int .i64 x14)]) rfl rfl ⟨e13, e15, trivial⟩) ?_
  refine s_ef (d := some 6) rfl rfl rfl (fun dr => r_call Try.call60 rfl rfl H) ?_ trivial
  rintro y16 h4 H
  refine ⟨trivial, ?_⟩
  refine s_fin ?_
  show W _ _ _ _ _ _ _ _
  refine W_block ?_
  refine W_rangeFunc rfl (fun fn o18 e20 => ?_)
  obtain ⟨D17, e21⟩ : ∃ D : Nat, D = Array.size h4 := ⟨_, rfl⟩
  rw [← e21] at e20 ⊢
  obtain ⟨h5, e22⟩ : ∃ hh : Heap, hh = (h4.push (.deferred (some []))).push o18 := ⟨_, rfl⟩
  rw [← e22]
  have H := H D17 o18 h5 e21 e22 (by rw [e20]; rfl) (by
    intro a27 h6 K19 e25 H
    refine round_of e20 e25 rfl ?_
    refine W_region (.pu 0 .fin) rfl rfl ?_
    refine s_pu (d := some 4) (v := (.int .i64 a27)) rfl rfl rfl (r_assign rfl) ?_
    refine s_fin ?_
    refine ⟨rfl, ?_⟩
    obtain ⟨h9, e23⟩ : ∃ hh : Heap, hh = hput h6 (D17 + 1) (busyO o18) := ⟨_, rfl⟩
    rw [← e23]
    have H := H h9 e23
    refine W_block ?_
    refine W_region (.rl 0 (.pu 1 (.ef 2 [] (.ef 3 [] .fin .no) .no))) rfl rfl ?_
    obtain ⟨x28, e29, H⟩ := H
    obtain ⟨x30, e31, H⟩ := H
    refine s_rl (d := some 8) (v := (.agg #[(.pointer x28), (.int .i64 x30)])) rfl rfl rfl (fun dr => r_loadN Try.isAgg34 Try.sizeOf34 (vs := [(.pointer x28), (.int .i64 x30)]) rfl rfl ⟨e29, e31, trivial⟩) ?_
    refine s_pu (d := some 9) (v := (.int .i64 a27)) rfl rfl rfl (r_move rfl) ?_
    refine s_ef (d := some 10) rfl rfl rfl (fun dr => r_call Try.call50 rfl rfl H) ?_ trivial
    rintro _ h10 ⟨y32, y33, rfl, H⟩
    refine ⟨trivial, ?_⟩
    obtain ⟨e35, H⟩ := H
    obtain ⟨h11, e34⟩ : ∃ hh : Heap, hh = hsets h10 p9 0 [(.pointer y32), (.int .i64 y33)] := ⟨_, rfl⟩
    have H := H h11 e34
    refine s_st (d := none) (h' := h11) rfl rfl rfl (fun dr => (r_store (v := (.agg #[(.pointer y32), (.int .i64 y33)])) Try.sizeOf34 rfl rfl rfl (one_all rfl) e35).trans (by rw [e34]; rfl)) trivial ?_ trivial
    refine s_fin ?_
    exact H)
  refine CallF.mono H (fun _ h7 hx => ?_)
  obtain ⟨e25, H⟩ := hx
  refine ⟨e25, fun o26 => ?_⟩
  obtain ⟨h8, e24⟩ : ∃ hh : Heap, hh = hput h7 (D17 + 1) o26 := ⟨_, rfl⟩
  rw [← e24]
  have H := H o26 h8 e24
  show W _ _ _ _ _ _ _ _
  refine W_seq ?_
  refine W_region (.rl 0 (.ef 1 [] .fin .no)) rfl rfl ?_
  obtain ⟨x36, e37, H⟩ := H
  obtain ⟨x38, e39, H⟩ := H
  refine s_rl (d := some 11) (v := (.agg #[(.pointer x36), (.int .i64 x38)])) rfl rfl rfl (fun dr => r_loadN Try.isAgg34 Try.sizeOf34 (vs := [(.pointer x36), (.int .i64 x38)]) rfl rfl ⟨e37, e39, trivial⟩) ?_
  obtain ⟨e41, H⟩ := H
  obtain ⟨h12, e40⟩ : ∃ hh : Heap, hh = hsets h8 p6 0 [(.pointer x36), (.int .i64 x38)] := ⟨_, rfl⟩
  have H := H h12 e40
  refine s_st (d := none) (h' := h12) rfl rfl rfl (fun dr => (r_store (v := (.agg #[(.pointer x36), (.int .i64 x38)])) Try.sizeOf34 rfl rfl rfl (one_all rfl) e41).trans (by rw [e40]; rfl)) trivial ?_ trivial
  refine s_fin ?_
  show W _ _ _ _ _ _ _ _
  refine W_ret ?_
  obtain ⟨e43, H⟩ := H
  obtain ⟨h13, e42⟩ : ∃ hh : Heap, hh = hput h12 D17 (.deferred none) := ⟨_, rfl⟩
  have H := H h13 e42
  refine ⟨D17, rfl, e43, ?_⟩
  rw [← e42]
  obtain ⟨x44, e45, H⟩ := H
  obtain ⟨x46, e47, H⟩ := H
  exact ⟨[(.agg #[(.pointer x44), (.int .i64 x46)])], ⟨_, _, _, rfl, rfl, fun dr => run_loadVarN Try.isAgg34 Try.sizeOf34 (vs := [(.pointer x44), (.int .i64 x46)]) rfl ⟨e45, e47, trivial⟩, rfl⟩, x44, x46, rfl, H⟩

/-! ### list_List_Ints -/

def list_List_Ints_F (r : World) (l1 : Option Addr) (l2 : Int) (h : Heap) (R : Sl → Heap → Prop) : Prop :=
  New h (.cells #[(.pointer l1), (.int .i64 l2)] 34) fun p3 h1 =>
  LdP h1 (Addr.add p3 0) fun x6 =>
  LdI h1 (Addr.add p3 1) fun x8 =>
  list_List_All r x6 x8 h1 fun y10 h2 =>
  slices_Collect_int r y10 h2 fun y11 h3 =>
  R y11 h3

set_option maxRecDepth 100000 in
theorem list_List_Ints_of {r : World} {l1 : Option Addr} {l2 : Int} {h : Heap} {R : Sl → Heap → Prop} (H : list_List_Ints_F r l1 l2 h R) : list_List_Ints r l1 l2 h R := by
  unfold list_List_Ints_F at H
  refine calls_of 6 [.tmp 2] Try.func48 rfl rfl rfl rfl rfl ?_
  refine W_seq ?_
  refine W_region (.ef 0 [] (.pu 1 .fin) .no) rfl rfl ?_
  obtain ⟨p3, e4⟩ : ∃ p : Addr, p = ⟨h.size, 0, none⟩ := ⟨_, rfl⟩
  obtain ⟨h1, e5⟩ : ∃ hh : Heap, hh = h.push (.cells #[(.pointer l1), (.int .i64 l2)] 34) := ⟨_, rfl⟩
  have H := H p3 h1 e4 e5
  refine s_ef1 (d := some 1) (v := (.pointer (some p3))) (h' := h1) rfl rfl rfl (fun dr => (r_box (v := (.agg #[(.pointer l1), (.int .i64 l2)])) rfl).trans (by rw [e4, e5]; rfl)) trivial ?_ trivial
  refine s_pu (d := some 2) (v := (Sl.v Sl.nil)) rfl rfl rfl (r_assign rfl) ?_
  refine s_fin ?_
  show W _ _ _ _ _ _ _ _
  refine W_seq ?_
  refine W_region (.rl 0 (.ef 1 [] (.ef 2 [] (.pu 3 .fin) .no) .no)) rfl rfl ?_
  obtain ⟨x6, e7, H⟩ := H
  obtain ⟨x8, e9, H⟩ := H
  refine s_rl (d := some 3) (v := (.agg #[(.pointer x6), (.int .i64 x8)])) rfl rfl rfl (fun dr => r_loadN Try.isAgg34 Try.sizeOf34 (vs := [(.pointer x6), (.int .i64 x8)]) rfl rfl ⟨e7, e9, trivial⟩) ?_
  refine s_ef (d := some 4) rfl rfl rfl (fun dr => r_call Try.call60 rfl rfl H) ?_ trivial
  rintro y10 h2 H
  refine ⟨trivial, ?_⟩
  refine s_ef (d := some 5) rfl rfl rfl (fun dr => r_call Try.call61 rfl rfl H) ?_ trivial
  rintro _ h3 ⟨y11, rfl, H⟩
  refine ⟨trivial, ?_⟩
  refine s_pu (d := some 2) (v := (Sl.v y11)) rfl rfl rfl (r_assign rfl) ?_
  refine s_fin ?_
  show W _ _ _ _ _ _ _ _
  refine W_ret ?_
  exact ⟨[(Sl.v y11)], ⟨_, _, rfl, rfl, rfl⟩, y11, rfl, H⟩

/-! ### list_List_Pop -/

def list_List_Pop_F (r : World) (l1 : Option Addr) (l2 : Int) (h : Heap) (R : Int → Option Addr → Int → Bool → Heap → Prop) : Prop :=
  New h (.cells #[(.pointer l1), (.int .i64 l2)] 34) fun p3 h1 =>
  New h1 (.cells #[(.pointer none), (.int .i64 0)] 34) fun p6 h2 =>
  LdP h2 (Addr.add p3 0) fun x9 =>
  Br (Option.isNone x9) (
    St h2 p6 2 [(.pointer none), (.int .i64 0)] fun h3 =>
    LdP h3 (Addr.add p6 0) fun x13 =>
    LdI h3 (Addr.add p6 1) fun x15 =>
    R 0 x13 x15 false h3) (
    LdP h2 (Addr.add p3 0) fun x17 =>
    Ck x17 fun p19 =>
    LdI h2 (Addr.add p19 0) fun x21 =>
    LdP h2 (Addr.add p3 0) fun x23 =>
    Ck x23 fun p25 =>
    LdP h2 (Addr.add p25 1) fun x27 =>
    LdI h2 (Addr.add p3 1) fun x29 =>
    St h2 p6 2 [(.pointer x27), (.int .i64 (w64 (x29 - 1)))] fun h4 =>
    LdP h4 (Addr.add p6 0) fun x33 =>
    LdI h4 (Addr.add p6 1) fun x35 =>
    R x21 x33 x35 true h4)

set_option maxRecDepth 100000 in
theorem list_List_Pop_of {r : World} {l1 : Option Addr} {l2 : Int} {h : Heap} {R : Int → Option Addr → Int → Bool → Heap → Prop} (H : list_List_Pop_F r l1 l2 h R) : list_List_Pop r l1 l2 h R := by
  unfold list_List_Pop_F at H
  refine calls_of 23 [.tmp 2, .cell 3 34, .tmp 4] Try.func49 rfl rfl rfl rfl rfl ?_
  refine W_seq ?_
  refine W_region (.ef 0 [] (.pu 1 (.ef 2 [] (.pu 3 .fin) .no)) .no) rfl rfl ?_
  obtain ⟨p3, e4⟩ : ∃ p : Addr, p = ⟨h.size, 0, none⟩ := ⟨_, rfl⟩
  obtain ⟨h1, e5⟩ : ∃ hh : Heap, hh = h.push (.cells #[(.pointer l1), (.int .i64 l2)] 34) := ⟨_, rfl⟩
  have H := H p3 h1 e4 e5
  refine s_ef1 (d := some 1) (v := (.pointer (some p3))) (h' := h1) rfl rfl rfl (fun dr => (r_box (v := (.agg #[(.pointer l1), (.int .i64 l2)])) rfl).trans (by rw [e4, e5]; rfl)) trivial ?_ trivial
  refine s_pu (d := some 2) (v := (.int .i64 0)) rfl rfl rfl (r_assign rfl) ?_
  obtain ⟨p6, e7⟩ : ∃ p : Addr, p = ⟨h1.size, 0, none⟩ := ⟨_, rfl⟩
  obtain ⟨h2, e8⟩ : ∃ hh : Heap, hh = h1.push (.cells #[(.pointer none), (.int .i64 0)] 34) := ⟨_, rfl⟩
  have H := H p6 h2 e7 e8
  refine s_ef1 (d := some 3) (v := (.pointer (some p6))) (h' := h2) rfl rfl rfl (fun dr => (r_alloc Try.zeroValue34).trans (by rw [e7, e8]; rfl)) trivial ?_ trivial
  refine s_pu (d := some 4) (v := (.bool false)) rfl rfl rfl (r_assign rfl) ?_
  refine s_fin ?_
  show W _ _ _ _ _ _ _ _
  refine W_seq ?_
  refine W_seq ?_
  refine W_region (.pu 0 (.rl 1 (.pu 2 .fin))) rfl rfl ?_
  refine s_pu (d := some 5) (v := (.pointer (some (Addr.add p3 0)))) rfl rfl rfl (r_fieldAddr Try.underlying34 Try.sizeOf32 rfl rfl rfl) ?_
  obtain ⟨x9, e10, H⟩ := H
  refine s_rl (d := some 6) (v := (.pointer x9)) rfl rfl rfl (fun dr => r_load1 Try.isAgg32 rfl e10) ?_
  refine s_pu (d := some 7) (v := (.bool (Option.isNone x9))) rfl rfl rfl (r_nilP Try.underlying32 rfl rfl) ?_
  refine s_fin ?_
  show W _ _ _ _ _ _ _ _
  refine W_if (Option.isNone x9) rfl (fun g37 => ?_) (fun g37 => ?_)
  · have H := H.1 g37
    refine W_seq ?_
    refine W_region (.pu 0 (.pu 1 (.ef 2 [] (.pu 3 .fin) .no))) rfl rfl ?_
    refine s_pu (d := some 8) (v := (.agg #[(.pointer none), (.int .i64 0)])) rfl rfl rfl (fun w => by kernel_rfl) ?_
    refine s_pu (d := some 2) (v := (.int .i64 0)) rfl rfl rfl (r_assign rfl) ?_
    obtain ⟨e12, H⟩ := H
    obtain ⟨h3, e11⟩ : ∃ hh : Heap, hh = hsets h2 p6 0 [(.pointer none), (.int .i64 0)] := ⟨_, rfl⟩
    have H := H h3 e11
    refine s_st (d := none) (h' := h3) rfl rfl rfl (fun dr => (r_store (v := (.agg #[(.pointer none), (.int .i64 0)])) Try.sizeOf34 rfl rfl rfl (one_all rfl) e12).trans (by rw [e11]; rfl)) trivial ?_ trivial
    refine s_pu (d := some 4) (v := (.bool false)) rfl rfl rfl (r_assign rfl) ?_
    refine s_fin ?_
    show W _ _ _ _ _ _ _ _
    refine W_ret ?_
    obtain ⟨x13, e14, H⟩ := H
    obtain ⟨x15, e16, H⟩ := H
    exact ⟨[(.int .i64 0), (.agg #[(.pointer x13), (.int .i64 x15)]), (.bool false)], ⟨_, _, rfl, rfl, ⟨_, _, _, rfl, rfl, fun dr => run_loadVarN Try.isAgg34 Try.sizeOf34 (vs := [(.pointer x13), (.int .i64 x15)]) rfl ⟨e14, e16, trivial⟩, ⟨_, _, rfl, rfl, rfl⟩⟩⟩, 0, x13, x15, false, rfl, H⟩
  · have H := H.2 g37
    refine W_skip ?_
    show W _ _ _ _ _ _ _ _
    refine W_seq ?_
    refine W_draw [0, 1, 3, 7, 15, 0, 32, 96, 224, 480, 0, 1024, 3072, 8160, 31, 32767, 65535] (.pu 0 (.rd 1 (.pu 2 (.pu 3 (.rd 4 (.pu 5 (.rd 6 (.pu 7 (.pu 8 (.rd 9 (.pu 10 (.rd 11 (.pu 12 (.pu 13 (.pu 14 (.ef 15 [1, 4, 6, 9, 11] (.pu 16 .fin) .no)))))))))))))))) (by kernel_rfl) (by kernel_rfl) ?_
    refine s_pu (d := some 9) (v := (.pointer (some (Addr.add p3 0)))) rfl rfl rfl (r_fieldAddr Try.underlying34 Try.sizeOf32 rfl rfl rfl) ?_
    obtain ⟨x17, e18, H⟩ := H
    refine s_rd (d := some 10) (v := (.pointer x17)) rfl rfl rfl (fun dr => r_load1 Try.isAgg32 rfl e18) ?_
    obtain ⟨p19, e20, H⟩ := H
    refine s_pu (d := some 11) (v := (.pointer (some p19))) rfl rfl rfl (r_nilCheck rfl e20) ?_
    refine s_pu (d := some 12) (v := (.pointer (some (Addr.add p19 0)))) rfl rfl rfl (r_fieldAddr Try.underlying95 Try.sizeOf3 rfl rfl rfl) ?_
    obtain ⟨x21, e22, H⟩ := H
    refine s_rd (d := some 13) (v := (.int .i64 x21)) rfl rfl rfl (fun dr => r_load1 Try.isAgg3 rfl e22) ?_
    refine s_pu (d := some 14) (v := (.pointer (some (Addr.add p3 0)))) rfl rfl rfl (r_fieldAddr Try.underlying34 Try.sizeOf32 rfl rfl rfl) ?_
    obtain ⟨x23, e24, H⟩ := H
    refine s_rd (d := some 15) (v := (.pointer x23)) rfl rfl rfl (fun dr => r_load1 Try.isAgg32 rfl e24) ?_
    obtain ⟨p25, e26, H⟩ := H
    refine s_pu (d := some 16) (v := (.pointer (some p25))) rfl rfl rfl (r_nilCheck rfl e26) ?_
    refine s_pu (d := some 17) (v := (.pointer (some (Addr.add p25 1)))) rfl rfl rfl (r_fieldAddr Try.underlying95 Try.sizeOf32 rfl rfl rfl) ?_
    obtain ⟨x27, e28, H⟩ := H
    refine s_rd (d := some 18) (v := (.pointer x27)) rfl rfl rfl (fun dr => r_load1 Try.isAgg32 rfl e28) ?_
    refine s_pu (d := some 19) (v := (.pointer (some (Addr.add p3 1)))) rfl rfl rfl (r_fieldAddr Try.underlying34 Try.sizeOf3 rfl rfl rfl) ?_
    obtain ⟨x29, e30, H⟩ := H
    refine s_rd (d := some 20) (v := (.int .i64 x29)) rfl rfl rfl (fun dr => r_load1 Try.isAgg3 rfl e30) ?_
    refine s_pu (d := some 21) (v := (.int .i64 (w64 (x29 - 1)))) rfl rfl rfl (r_sub rfl rfl) ?_
    refine s_pu (d := some 22) (v := (.agg #[(.pointer x27), (.int .i64 (w64 (x29 - 1)))])) rfl rfl rfl (fun w => by kernel_rfl) ?_
    refine s_pu (d := some 2) (v := (.int .i64 x21)) rfl rfl rfl (r_assign rfl) ?_
    obtain ⟨e32, H⟩ := H
    obtain ⟨h4, e31⟩ : ∃ hh : Heap, hh = hsets h2 p6 0 [(.pointer x27), (.int .i64 (w64 (x29 - 1)))] := ⟨_, rfl⟩
    have H := H h4 e31
    refine s_st (d := none) (h' := h4) rfl rfl rfl (fun dr => (r_store (v := (.agg #[(.pointer x27), (.int .i64 (w64 (x29 - 1)))])) Try.sizeOf34 rfl rfl rfl (one_all rfl) e32).trans (by rw [e31]; rfl)) ⟨trivial, trivial, trivial, trivial, trivial, trivial⟩ ?_ trivial
    refine s_pu (d := some 4) (v := (.bool true)) rfl rfl rfl (r_assign rfl) ?_
    refine s_fin ?_
    show W _ _ _ _ _ _ _ _
    refine W_ret ?_
    obtain ⟨x33, e34, H⟩ := H
    obtain ⟨x35, e36, H⟩ := H
    exact ⟨[(.int .i64 x21), (.agg #[(.pointer x33), (.int .i64 x35)]), (.bool true)], ⟨_, _, rfl, rfl, ⟨_, _, _, rfl, rfl, fun dr => run_loadVarN Try.isAgg34 Try.sizeOf34 (vs := [(.pointer x33), (.int .i64 x35)]) rfl ⟨e34, e36, trivial⟩, ⟨_, _, rfl, rfl, rfl⟩⟩⟩, x21, x33, x35, true, rfl, H⟩

/-! ### list_List_Push -/

def list_List_Push_F (r : World) (l1 : Option Addr) (l2 : Int) (x3 : Int) (h : Heap) (R : Option Addr → Int → Heap → Prop) : Prop :=
  New h (.cells #[(.pointer l1), (.int .i64 l2)] 34) fun p4 h1 =>
  New h1 (.cells #[(.pointer none), (.int .i64 0)] 34) fun p7 h2 =>
  LdP h2 (Addr.add p4 0) fun x10 =>
  New h2 (.cells #[(.int .i64 x3), (.pointer x10)] 95) fun p12 h3 =>
  LdI h3 (Addr.add p4 1) fun x15 =>
  St h3 p7 2 [(.pointer (some p12)), (.int .i64 (w64 (x15 + 1)))] fun h4 =>
  LdP h4 (Addr.add p7 0) fun x19 =>
  LdI h4 (Addr.add p7 1) fun x21 =>
  R x19 x21 h4

set_option maxRecDepth 100000 in
theorem list_List_Push_of {r : World} {l1 : Option Addr} {l2 : Int} {x3 : Int} {h : Heap} {R : Option Addr → Int → Heap → Prop} (H : list_List_Push_F r l1 l2 x3 h R) : list_List_Push r l1 l2 x3 h R := by
  unfold list_List_Push_F at H
  refine calls_of 14 [.cell 4 34] Try.func50 rfl rfl rfl rfl rfl ?_
  refine W_seq ?_
  refine W_region (.ef 0 [] (.ef 1 [] .fin .no) .no) rfl rfl ?_
  obtain ⟨p4, e5⟩ : ∃ p : Addr, p = ⟨h.size, 0, none⟩ := ⟨_, rfl⟩
  obtain ⟨h1, e6⟩ : ∃ hh : Heap, hh = h.push (.cells #[(.pointer l1), (.int .i64 l2)] 34) := ⟨_, rfl⟩
  have H := H p4 h1 e5 e6
  refine s_ef1 (d := some 2) (v := (.pointer (some p4))) (h' := h1) rfl rfl rfl (fun dr => (r_box (v := (.agg #[(.pointer l1), (.int .i64 l2)])) rfl).trans (by rw [e5, e6]; rfl)) trivial ?_ trivial
  obtain ⟨p7, e8⟩ : ∃ p : Addr, p = ⟨h1.size, 0, none⟩ := ⟨_, rfl⟩
  obtain ⟨h2, e9⟩ : ∃ hh : Heap, hh = h1.push (.cells #[(.pointer none), (.int .i64 0)] 34) := ⟨_, rfl⟩
  have H := H p7 h2 e8 e9
  refine s_ef1 (d := some 4) (v := (.pointer (some p7))) (h' := h2) rfl rfl rfl (fun dr => (r_alloc Try.zeroValue34).trans (by rw [e8, e9]; rfl)) trivial ?_ trivial
  refine s_fin ?_
  show W _ _ _ _ _ _ _ _
  refine W_seq ?_
  refine W_region (.pu 0 (.pu 1 (.rl 2 (.pu 3 (.ef 4 [] (.pu 5 (.rl 6 (.pu 7 (.pu 8 (.ef 9 [] .fin .no))))) .no))))) rfl rfl ?_
  refine s_pu (d := some 5) (v := (.int .i64 x3)) rfl rfl rfl (r_move rfl) ?_
  refine s_pu (d := some 6) (v := (.pointer (some (Addr.add p4 0)))) rfl rfl rfl (r_fieldAddr Try.underlying34 Try.sizeOf32 rfl rfl rfl) ?_
  obtain ⟨x10, e11, H⟩ := H
  refine s_rl (d := some 7) (v := (.pointer x10)) rfl rfl rfl (fun dr => r_load1 Try.isAgg32 rfl e11) ?_
  refine s_pu (d := some 8) (v := (.agg #[(.int .i64 x3), (.pointer x10)])) rfl rfl rfl (fun w => by kernel_rfl) ?_
  obtain ⟨p12, e13⟩ : ∃ p : Addr, p = ⟨h2.size, 0, none⟩ := ⟨_, rfl⟩
  obtain ⟨h3, e14⟩ : ∃ hh : Heap, hh = h2.push (.cells #[(.int .i64 x3), (.pointer x10)] 95) := ⟨_, rfl⟩
  have H := H p12 h3 e13 e14
  refine s_ef1 (d := some 9) (v := (.pointer (some p12))) (h' := h3) rfl rfl rfl (fun dr => (r_box (v := (.agg #[(.int .i64 x3), (.pointer x10)])) rfl).trans (by rw [e13, e14]; rfl)) trivial ?_ trivial
  refine s_pu (d := some 10) (v := (.pointer (some (Addr.add p4 1)))) rfl rfl rfl (r_fieldAddr Try.underlying34 Try.sizeOf3 rfl rfl rfl) ?_
  obtain ⟨x15, e16, H⟩ := H
  refine s_rl (d := some 11) (v := (.int .i64 x15)) rfl rfl rfl (fun dr => r_load1 Try.isAgg3 rfl e16) ?_
  refine s_pu (d := some 12) (v := (.int .i64 (w64 (x15 + 1)))) rfl rfl rfl (r_add rfl rfl) ?_
  refine s_pu (d := some 13) (v := (.agg #[(.pointer (some p12)), (.int .i64 (w64 (x15 + 1)))])) rfl rfl rfl (fun w => by kernel_rfl) ?_
  obtain ⟨e18, H⟩ := H
  obtain ⟨h4, e17⟩ : ∃ hh : Heap, hh = hsets h3 p7 0 [(.pointer (some p12)), (.int .i64 (w64 (x15 + 1)))] := ⟨_, rfl⟩
  have H := H h4 e17
  refine s_st (d := none) (h' := h4) rfl rfl rfl (fun dr => (r_store (v := (.agg #[(.pointer (some p12)), (.int .i64 (w64 (x15 + 1)))])) Try.sizeOf34 rfl rfl rfl (one_all rfl) e18).trans (by rw [e17]; rfl)) trivial ?_ trivial
  refine s_fin ?_
  show W _ _ _ _ _ _ _ _
  refine W_ret ?_
  obtain ⟨x19, e20, H⟩ := H
  obtain ⟨x21, e22, H⟩ := H
  exact ⟨[(.agg #[(.pointer x19), (.int .i64 x21)])], ⟨_, _, _, rfl, rfl, fun dr => run_loadVarN Try.isAgg34 Try.sizeOf34 (vs := [(.pointer x19), (.int .i64 x21)]) rfl ⟨e20, e22, trivial⟩, rfl⟩, x19, x21, rfl, H⟩

/-! ### list_List_At -/

def list_List_At_F (r : World) (l1 : Option Addr) (l2 : Int) (i3 : Int) (h : Heap) (R : Int → Bool → Heap → Prop) : Prop :=
  New h (.cells #[(.pointer l1), (.int .i64 l2)] 34) fun p4 h1 =>
  ∀ J8 : Bool → Prop, (∀ (x7 : Bool),
    (Br x7 (
      R 0 false h1) (
      LdP h1 (Addr.add p4 0) fun x10 =>
      ∀ X14 : Int → Option Addr → Prop, (∀ (i12 : Int) (c13 : Option Addr),
        (Br (decide (0 < i12)) (
          Ck c13 fun p15 =>
          LdP h1 (Addr.add p15 1) fun x17 =>
          X14 (w64 (i12 - 1)) x17) (
          Ck c13 fun p19 =>
          LdI h1 (Addr.add p19 0) fun x21 =>
          R x21 true h1)) →
        X14 i12 c13) →
      X14 i3 x10)) →
    J8 x7) →
  Br (decide (i3 < 0)) (
    J8 true) (
    LdI h1 (Addr.add p4 1) fun x26 =>
    J8 (decide (x26 ≤ i3)))

set_option maxRecDepth 100000 in
theorem list_List_At_of {r : World} {l1 : Option Addr} {l2 : Int} {i3 : Int} {h : Heap} {R : Int → Bool → Heap → Prop} (H : list_List_At_F r l1 l2 i3 h R) : list_List_At r l1 l2 i3 h R := by
  unfold list_List_At_F at H
  refine calls_of 29 [.tmp 4, .tmp 5] Try.func56 rfl rfl rfl rfl rfl ?_
  refine W_seq ?_
  refine W_region (.ef 0 [] (.pu 1 (.pu 2 .fin)) .no) rfl rfl ?_
  obtain ⟨p4, e5⟩ : ∃ p : Addr, p = ⟨h.size, 0, none⟩ := ⟨_, rfl⟩
  obtain ⟨h1, e6⟩ : ∃ hh : Heap, hh = h.push (.cells #[(.pointer l1), (.int .i64 l2)] 34) := ⟨_, rfl⟩
  have H := H p4 h1 e5 e6
  refine s_ef1 (d := some 2) (v := (.pointer (some p4))) (h' := h1) rfl rfl rfl (fun dr => (r_box (v := (.agg #[(.pointer l1), (.int .i64 l2)])) rfl).trans (by rw [e5, e6]; rfl)) trivial ?_ trivial
  refine s_pu (d := some 4) (v := (.int .i64 0)) rfl rfl rfl (r_assign rfl) ?_
  refine s_pu (d := some 5) (v := (.bool false)) rfl rfl rfl (r_assign rfl) ?_
  refine s_fin ?_
  show W _ _ _ _ _ _ _ _
  refine W_seq ?_
  refine W_seq ?_
  refine W_set ?_
  intro N9 eN9
  have H := H (fun (x7 : Bool) => ∀ b, N9 [] (mkE [(1, (.int .i64 i3)), (2, (.pointer (some p4))), (14, (.bool x7))] b) h1) (by
    intro x7 H b
    rw [eN9]
    show W _ _ _ _ _ _ _ _
    refine W_if x7 rfl (fun g24 => ?_) (fun g24 => ?_)
    · have H := H.1 g24
      refine W_seq ?_
      refine W_region (.pu 0 (.pu 1 .fin)) rfl rfl ?_
      refine s_pu (d := some 4) (v := (.int .i64 0)) rfl rfl rfl (r_assign rfl) ?_
      refine s_pu (d := some 5) (v := (.bool false)) rfl rfl rfl (r_assign rfl) ?_
      refine s_fin ?_
      show W _ _ _ _ _ _ _ _
      refine W_ret ?_
      exact ⟨[(.int .i64 0), (.bool false)], ⟨_, _, rfl, rfl, ⟨_, _, rfl, rfl, rfl⟩⟩, 0, false, rfl, H⟩
    · have H := H.2 g24
      refine W_skip ?_
      show W _ _ _ _ _ _ _ _
      refine W_seq ?_
      refine W_region (.pu 0 (.rl 1 (.pu 2 .fin))) rfl rfl ?_
      refine s_pu (d := some 15) (v := (.pointer (some (Addr.add p4 0)))) rfl rfl rfl (r_fieldAddr Try.underlying34 Try.sizeOf32 rfl rfl rfl) ?_
      obtain ⟨x10, e11, H⟩ := H
      refine s_rl (d := some 16) (v := (.pointer x10)) rfl rfl rfl (fun dr => r_load1 Try.isAgg32 rfl e11) ?_
      refine s_pu (d := some 6) (v := (.pointer x10)) rfl rfl rfl (r_assign rfl) ?_
      refine s_fin ?_
      show W _ _ _ _ _ _ _ _
      refine W_seq ?_
      refine W_block ?_
      refine W_loop (WL_mk (l := [(1, (.int .i64 i3)), (6, (.pointer x10))]) ?_ ⟨rfl, rfl, trivial⟩)
      refine H (fun (i12 : Int) (c13 : Option Addr) => ∀ b, WL _ _ _ _ _ _ (mkE [(1, (.int .i64 i12)), (6, (.pointer c13))] b) h1) ?_
      intro i12 c13 H b
      refine WL_round ?_
      refine W_seq ?_
      refine W_seq ?_
      refine W_region (.pu 0 (.pu 1 .fin)) rfl rfl ?_
      refine s_pu (d := some 17) (v := (.int .i64 i12)) rfl rfl rfl (r_move rfl) ?_
      refine s_pu (d := some 18) (v := (.bool (decide (0 < i12)))) rfl rfl rfl (r_gtr rfl rfl) ?_
      refine s_fin ?_
      show W _ _ _ _ _ _ _ _
      refine W_if (decide (0 < i12)) rfl (fun g23 => ?_) (fun g23 => ?_)
      · have H := H.1 g23
        refine W_skip ?_
        show W _ _ _ _ _ _ _ _
        refine W_seq ?_
        refine W_block ?_
        refine W_region (.pu 0 (.pu 1 (.pu 2 (.rl 3 (.pu 4 .fin))))) rfl rfl ?_
        refine s_pu (d := some 21) (v := (.pointer c13)) rfl rfl rfl (r_move rfl) ?_
        obtain ⟨p15, e16, H⟩ := H
        refine s_pu (d := some 22) (v := (.pointer (some p15))) rfl rfl rfl (r_nilCheck rfl e16) ?_
        refine s_pu (d := some 23) (v := (.pointer (some (Addr.add p15 1)))) rfl rfl rfl (r_fieldAddr Try.underlying95 Try.sizeOf32 rfl rfl rfl) ?_
        obtain ⟨x17, e18, H⟩ := H
        refine s_rl (d := some 24) (v := (.pointer x17)) rfl rfl rfl (fun dr => r_load1 Try.isAgg32 rfl e18) ?_
        refine s_pu (d := some 6) (v := (.pointer x17)) rfl rfl rfl (r_assign rfl) ?_
        refine s_fin ?_
        show W _ _ _ _ _ _ _ _
        refine W_region (.pu 0 (.pu 1 (.pu 2 .fin))) rfl rfl ?_
        refine s_pu (d := some 19) (v := (.int .i64 i12)) rfl rfl rfl (r_move rfl) ?_
        refine s_pu (d := some 20) (v := (.int .i64 (w64 (i12 - 1)))) rfl rfl rfl (r_sub rfl rfl) ?_
        refine s_pu (d := some 1) (v := (.int .i64 (w64 (i12 - 1)))) rfl rfl rfl (r_assign rfl) ?_
        refine s_fin ?_
        exact WL_mk (l := [(1, (.int .i64 (w64 (i12 - 1)))), (6, (.pointer x17))]) H ⟨rfl, rfl, trivial⟩
      · have H := H.2 g23
        refine W_exit (inX_here ?_)
        show W _ _ _ _ _ _ _ _
        refine W_seq ?_
        refine W_region (.pu 0 (.pu 1 (.pu 2 (.rl 3 (.pu 4 (.pu 5 .fin)))))) rfl rfl ?_
        refine s_pu (d := some 25) (v := (.pointer c13)) rfl rfl rfl (r_move rfl) ?_
        obtain ⟨p19, e20, H⟩ := H
        refine s_pu (d := some 26) (v := (.pointer (some p19))) rfl rfl rfl (r_nilCheck rfl e20) ?_
        refine s_pu (d := some 27) (v := (.pointer (some (Addr.add p19 0)))) rfl rfl rfl (r_fieldAddr Try.underlying95 Try.sizeOf3 rfl rfl rfl) ?_
        obtain ⟨x21, e22, H⟩ := H
        refine s_rl (d := some 28) (v := (.int .i64 x21)) rfl rfl rfl (fun dr => r_load1 Try.isAgg3 rfl e22) ?_
        refine s_pu (d := some 4) (v := (.int .i64 x21)) rfl rfl rfl (r_assign rfl) ?_
        refine s_pu (d := some 5) (v := (.bool true)) rfl rfl rfl (r_assign rfl) ?_
        refine s_fin ?_
        show W _ _ _ _ _ _ _ _
        refine W_ret ?_
        exact ⟨[(.int .i64 x21), (.bool true)], ⟨_, _, rfl, rfl, ⟨_, _, rfl, rfl, rfl⟩⟩, x21, true, rfl, H⟩)
  clear eN9
  refine W_region (.pu 0 (.pu 1 (.pu 2 (.pu 3 (.pu 4 (.rl 5 (.pu 6 (.pu 7 .fin)))))))) rfl rfl ?_
  refine s_pu (d := some 7) (v := (.int .i64 i3)) rfl rfl rfl (r_move rfl) ?_
  refine s_pu (d := some 8) (v := (.bool (decide (i3 < 0)))) rfl rfl rfl (r_lss rfl rfl) ?_
  refine s_pu (d := some 9) (v := (.bool (decide (i3 < 0)))) rfl rfl rfl (r_move rfl) ?_
  rcases Bool.eq_false_or_eq_true (decide (i3 < 0)) with g25 | g25
  · have H := H.1 g25
    refine s_sk (d := some 10) rfl rfl (wants_no rfl rfl rfl rfl g25) ?_
    refine s_sk (d := some 11) rfl rfl (wants_no rfl rfl rfl rfl g25) ?_
    refine s_skl (d := some 12) rfl rfl (wants_no rfl rfl rfl rfl g25) ?_
    refine s_sk (d := some 13) rfl rfl (wants_no rfl rfl rfl rfl g25) ?_
    refine s_pu (d := some 14) (v := (.bool true)) rfl rfl rfl (r_pick1 rfl g25 rfl) ?_
    refine s_fin ?_
    exact N_mk (l := [(1, (.int .i64 i3)), (2, (.pointer (some p4))), (14, (.bool true))]) H ⟨rfl, rfl, rfl, trivial⟩
  · have H := H.2 g25
    refine s_pu (d := some 10) (v := (.int .i64 i3)) rfl rfl (wants_yes rfl rfl rfl rfl g25) (r_move rfl) ?_
    refine s_pu (d := some 11) (v := (.pointer (some (Addr.add p4 1)))) rfl rfl (wants_yes rfl rfl rfl rfl g25) (r_fieldAddr Try.underlying34 Try.sizeOf3 rfl rfl rfl) ?_
    obtain ⟨x26, e27, H⟩ := H
    refine s_rl (d := some 12) (v := (.int .i64 x26)) rfl rfl (wants_yes rfl rfl rfl rfl g25) (fun dr => r_load1 Try.isAgg3 rfl e27) ?_
    refine s_pu (d := some 13) (v := (.bool (decide (x26 ≤ i3)))) rfl rfl (wants_yes rfl rfl rfl rfl g25) (r_geq rfl rfl) ?_
    refine s_pu (d := some 14) (v := (.bool (decide (x26 ≤ i3)))) rfl rfl rfl (r_pick0 rfl g25 rfl) ?_
    refine s_fin ?_
    exact N_mk (l := [(1, (.int .i64 i3)), (2, (.pointer (some p4))), (14, (.bool (decide (x26 ≤ i3))))]) H ⟨rfl, rfl, rfl, trivial⟩

/-! ### slices_Backward_int_int -/

def slices_Backward_int_int_F (r : World) (s1 : Sl) (h : Heap) (R : Value → Heap → Prop) : Prop :=
  New h (.cells #[(Sl.v s1)] 22) fun p2 h1 =>
  R ((.func (.func 68) #[] #[(.pointer (some p2))])) h1

set_option maxRecDepth 100000 in
theorem slices_Backward_int_int_of {r : World} {s1 : Sl} {h : Heap} {R : Value → Heap → Prop} (H : slices_Backward_int_int_F r s1 h R) : slices_Backward_int_int r s1 h R := by
  unfold slices_Backward_int_int_F at H
  refine calls_of 4 [.tmp 2] Try.func58 rfl rfl rfl rfl rfl ?_
  refine W_seq ?_
  refine W_region (.ef 0 [] (.pu 1 .fin) .no) rfl rfl ?_
  obtain ⟨p2, e3⟩ : ∃ p : Addr, p = ⟨h.size, 0, none⟩ := ⟨_, rfl⟩
  obtain ⟨h1, e4⟩ : ∃ hh : Heap, hh = h.push (.cells #[(Sl.v s1)] 22) := ⟨_, rfl⟩
  have H := H p2 h1 e3 e4
  refine s_ef1 (d := some 1) (v := (.pointer (some p2))) (h' := h1) rfl rfl rfl (fun dr => (r_box (v := (Sl.v s1)) rfl).trans (by rw [e3, e4]; rfl)) trivial ?_ trivial
  refine s_pu (d := some 2) (v := .nilFunc) rfl rfl rfl (r_assign rfl) ?_
  refine s_fin ?_
  show W _ _ _ _ _ _ _ _
  refine W_seq ?_
  refine W_region (.pu 0 (.pu 1 .fin)) rfl rfl ?_
  refine s_pu (d := some 3) (v := ((.func (.func 68) #[] #[(.pointer (some p2))]))) rfl rfl rfl (r_makeFunc rfl rfl) ?_
  refine s_pu (d := some 2) (v := ((.func (.func 68) #[] #[(.pointer (some p2))]))) rfl rfl rfl (r_assign rfl) ?_
  refine s_fin ?_
  show W _ _ _ _ _ _ _ _
  refine W_ret ?_
  exact ⟨[((.func (.func 68) #[] #[(.pointer (some p2))]))], ⟨_, _, rfl, rfl, rfl⟩, H⟩

/-! ### slices_Grow_int_int -/

def slices_Grow_int_int_F (r : World) (s1 : Sl) (n2 : Int) (h : Heap) (R : Sl → Heap → Prop) : Prop :=
  ∀ J3 : Heap → Prop, (∀ (h1 : Heap),
    (∀ x5 : Int, x5 = (w64 (n2 - (w64 (((s1.cap : Int)) - ((s1.len : Int)))))) →
    ∀ J8 : Sl → Heap → Prop, (∀ (s7 : Sl) (h2 : Heap),
      (R s7 h2) →
      J8 s7 h2) →
    Br (decide (0 < x5)) (
      Sub s1 0 ((s1.cap : Int)) ((s1.cap : Int)) 1 fun s10 =>
      AppZ 3 1 8 (.int .i64 0) s10 x5 h1 fun s16 h3 =>
      Sub s16 0 ((s1.len : Int)) ((s16.cap : Int)) 1 fun s17 =>
      J8 s17 h3) (
      J8 s1 h1)) →
    J3 h1) →
  Br (decide (n2 < 0)) (
    False) (
    J3 h)

set_option maxRecDepth 100000 in
theorem slices_Grow_int_int_of {r : World} {s1 : Sl} {n2 : Int} {h : Heap} {R : Sl → Heap → Prop} (H : slices_Grow_int_int_F r s1 n2 h R) : slices_Grow_int_int r s1 n2 h R := by
  unfold slices_Grow_int_int_F at H
  refine calls_of 27 [.tmp 4] Try.func59 rfl rfl rfl rfl rfl ?_
  refine W_seq ?_
  refine W_region (.pu 0 .fin) rfl rfl ?_
  refine s_pu (d := some 4) (v := (Sl.v Sl.nil)) rfl rfl rfl (r_assign rfl) ?_
  refine s_fin ?_
  show W _ _ _ _ _ _ _ _
  refine W_seq ?_
  refine W_seq ?_
  refine W_region (.pu 0 (.pu 1 .fin)) rfl rfl ?_
  refine s_pu (d := some 5) (v := (.int .i64 n2)) rfl rfl rfl (r_move rfl) ?_
  refine s_pu (d := some 6) (v := (.bool (decide (n2 < 0)))) rfl rfl rfl (r_lss rfl rfl) ?_
  refine s_fin ?_
  show W _ _ _ _ _ _ _ _
  refine W_set ?_
  intro N4 eN4
  have H := H (fun (h1 : Heap) => ∀ b, N4 [] (mkE [(0, (Sl.v s1)), (1, (.int .i64 n2))] b) h1) (by
    intro h1 H b
    rw [eN4]
    show W _ _ _ _ _ _ _ _
    refine W_seq ?_
    refine W_seq ?_
    refine W_region (.pu 0 (.pu 1 (.pu 2 (.pu 3 (.pu 4 (.pu 5 (.pu 6 (.pu 7 .fin)))))))) rfl rfl ?_
    refine s_pu (d := some 8) (v := (.int .i64 n2)) rfl rfl rfl (r_move rfl) ?_
    refine s_pu (d := some 9) (v := (Sl.v s1)) rfl rfl rfl (r_move rfl) ?_
    refine s_pu (d := some 10) (v := (.int .i64 ((s1.cap : Int)))) rfl rfl rfl (r_cap Try.underlying22 rfl) ?_
    refine s_pu (d := some 11) (v := (Sl.v s1)) rfl rfl rfl (r_move rfl) ?_
    refine s_pu (d := some 12) (v := (.int .i64 ((s1.len : Int)))) rfl rfl rfl (r_len Try.underlying22 rfl) ?_
    refine s_pu (d := some 13) (v := (.int .i64 (w64 (((s1.cap : Int)) - ((s1.len : Int)))))) rfl rfl rfl (r_sub rfl rfl) ?_
    refine s_pu (d := some 14) (v := (.int .i64 (w64 (n2 - (w64 (((s1.cap : Int)) - ((s1.len : Int)))))))) rfl rfl rfl (r_sub rfl rfl) ?_
    obtain ⟨x5, e6⟩ : ∃ x : Int, x = (w64 (n2 - (w64 (((s1.cap : Int)) - ((s1.len : Int)))))) := ⟨_, rfl⟩
    have H := H x5 e6
    refine s_pu (d := some 1) (v := (.int .i64 x5)) rfl rfl rfl (r_assign (congrArg (Value.int .i64) e6.symm)) ?_
    refine s_fin ?_
    show W _ _ _ _ _ _ _ _
    refine W_seq ?_
    refine W_region (.pu 0 (.pu 1 .fin)) rfl rfl ?_
    refine s_pu (d := some 15) (v := (.int .i64 x5)) rfl rfl rfl (r_move rfl) ?_
    refine s_pu (d := some 16) (v := (.bool (decide (0 < x5)))) rfl rfl rfl (r_gtr rfl rfl) ?_
    refine s_fin ?_
    show W _ _ _ _ _ _ _ _
    refine W_set ?_
    intro N9 eN9
    have H := H (fun (s7 : Sl) (h2 : Heap) => ∀ b, N9 [] (mkE [(0, (Sl.v s7))] b) h2) (by
      intro s7 h2 H b
      rw [eN9]
      show W _ _ _ _ _ _ _ _
      refine W_seq ?_
      refine W_region (.pu 0 (.pu 1 .fin)) rfl rfl ?_
      refine s_pu (d := some 26) (v := (Sl.v s7)) rfl rfl rfl (r_move rfl) ?_
      refine s_pu (d := some 4) (v := (Sl.v s7)) rfl rfl rfl (r_assign rfl) ?_
      refine s_fin ?_
      show W _ _ _ _ _ _ _ _
      refine W_ret ?_
      exact ⟨[(Sl.v s7)], ⟨_, _, rfl, rfl, rfl⟩, s7, rfl, H⟩)
    clear eN9
    refine W_if (decide (0 < x5)) rfl (fun g23 => ?_) (fun g23 => ?_)
    · have H := H.1 g23
      refine W_region (.pu 0 (.pu 1 (.pu 2 (.pu 3 (.pu 4 (.ef 5 [] (.pu 6 (.pu 7 (.pu 8 (.pu 9 .fin)))) .no)))))) rfl rfl ?_
      refine s_pu (d := some 17) (v := (Sl.v s1)) rfl rfl rfl (r_move rfl) ?_
      refine s_pu (d := some 18) (v := (Sl.v s1)) rfl rfl rfl (r_move rfl) ?_
      refine s_pu (d := some 19) (v := (.int .i64 ((s1.cap : Int)))) rfl rfl rfl (r_cap Try.underlying22 rfl) ?_
      obtain ⟨e11, e12, e13, e14, H⟩ := H
      obtain ⟨s10, e15⟩ : ∃ t : Sl, t = ⟨sliceA s1.a (Int.toNat ((s1.cap : Int))) (Int.toNat 0) 1, Int.toNat ((s1.cap : Int)) - Int.toNat 0, Int.toNat ((s1.cap : Int)) - Int.toNat 0⟩ := ⟨_, rfl⟩
      have H := H s10 e15
      refine s_pu (d := some 20) (v := (Sl.v s10)) rfl rfl rfl (fun w => (r_slice (lo := .none) (hi := (.some (.tmp 19))) (mx := .none) Try.underlying22 Try.sizeOf3 rfl ((s1.cap : Int)) ((s1.cap : Int)) 0 rfl ⟨_, rfl⟩ rfl e11 e12 (.inr e13) e14 w).trans (by rw [e15]; rfl)) ?_
      refine s_pu (d := some 21) (v := (.int .i64 x5)) rfl rfl rfl (r_move rfl) ?_
      refine s_ef (d := some 22) rfl rfl rfl (fun dr => slFLst_22.appendZ rfl Try.underlying3 rfl rfl H) ?_ trivial
      rintro _ h3 ⟨s16, rfl, H⟩
      refine ⟨trivial, ?_⟩
      refine s_pu (d := some 23) (v := (Sl.v s1)) rfl rfl rfl (r_move rfl) ?_
      refine s_pu (d := some 24) (v := (.int .i64 ((s1.len : Int)))) rfl rfl rfl (r_len Try.underlying22 rfl) ?_
      obtain ⟨e18, e19, e20, e21, H⟩ := H
      obtain ⟨s17, e22⟩ : ∃ t : Sl, t = ⟨sliceA s16.a (Int.toNat ((s16.cap : Int))) (Int.toNat 0) 1, Int.toNat ((s1.len : Int)) - Int.toNat 0, Int.toNat ((s16.cap : Int)) - Int.toNat 0⟩ := ⟨_, rfl⟩
      have H := H s17 e22
      refine s_pu (d := some 25) (v := (Sl.v s17)) rfl rfl rfl (fun w => (r_slice (lo := .none) (hi := (.some (.tmp 24))) (mx := .none) Try.underlying22 Try.sizeOf3 rfl ((s16.cap : Int)) ((s1.len : Int)) 0 rfl ⟨_, rfl⟩ rfl e18 e19 (.inr e20) e21 w).trans (by rw [e22]; rfl)) ?_
      refine s_pu (d := some 0) (v := (Sl.v s17)) rfl rfl rfl (r_assign rfl) ?_
      refine s_fin ?_
      exact N_mk (l := [(0, (Sl.v s17))]) H ⟨rfl, trivial⟩
    · have H := H.2 g23
      refine W_skip ?_
      exact N_mk (l := [(0, (Sl.v s1))]) H ⟨rfl, trivial⟩)
  clear eN4
  refine W_if (decide (n2 < 0)) rfl (fun g24 => ?_) (fun g24 => ?_)
  · have H := H.1 g24
    refine W_region (.pu 0 (.ef 1 [] .fin .no)) rfl rfl ?_
    refine s_pu (d := some 7) (v := ((.iface 9 (.string txtLst2)))) rfl rfl rfl (r_iface Try.underlying9 rfl rfl) ?_
    exact H.elim
  · have H := H.2 g24
    refine W_skip ?_
    exact N_mk (l := [(0, (Sl.v s1)), (1, (.int .i64 n2))]) H ⟨rfl, rfl, trivial⟩

/-! ### list_List_All -/

def list_List_All_F (r : World) (l1 : Option Addr) (l2 : Int) (h : Heap) (R : Value → Heap → Prop) : Prop :=
  New h (.cells #[(.pointer l1), (.int .i64 l2)] 34) fun p3 h1 =>
  R ((.func (.func 69) #[] #[(.pointer (some p3))])) h1

set_option maxRecDepth 100000 in
theorem list_List_All_of {r : World} {l1 : Option Addr} {l2 : Int} {h : Heap} {R : Value → Heap → Prop} (H : list_List_All_F r l1 l2 h R) : list_List_All r l1 l2 h R := by
  unfold list_List_All_F at H
  refine calls_of 4 [.tmp 2] Try.func60 rfl rfl rfl rfl rfl ?_
  refine W_seq ?_
  refine W_region (.ef 0 [] (.pu 1 .fin) .no) rfl rfl ?_
  obtain ⟨p3, e4⟩ : ∃ p : Addr, p = ⟨h.size, 0, none⟩ := ⟨_, rfl⟩
  obtain ⟨h1, e5⟩ : ∃ hh : Heap, hh = h.push (.cells #[(.pointer l1), (.int .i64 l2)] 34) := ⟨_, rfl⟩
  have H := H p3 h1 e4 e5
  refine s_ef1 (d := some 1) (v := (.pointer (some p3))) (h' := h1) rfl rfl rfl (fun dr => (r_box (v := (.agg #[(.pointer l1), (.int .i64 l2)])) rfl).trans (by rw [e4, e5]; rfl)) trivial ?_ trivial
  refine s_pu (d := some 2) (v := .nilFunc) rfl rfl rfl (r_assign rfl) ?_
  refine s_fin ?_
  show W _ _ _ _ _ _ _ _
  refine W_seq ?_
  refine W_region (.pu 0 (.pu 1 .fin)) rfl rfl ?_
  refine s_pu (d := some 3) (v := ((.func (.func 69) #[] #[(.pointer (some p3))]))) rfl rfl rfl (r_makeFunc rfl rfl) ?_
  refine s_pu (d := some 2) (v := ((.func (.func 69) #[] #[(.pointer (some p3))]))) rfl rfl rfl (r_assign rfl) ?_
  refine s_fin ?_
  show W _ _ _ _ _ _ _ _
  refine W_ret ?_
  exact ⟨[((.func (.func 69) #[] #[(.pointer (some p3))]))], ⟨_, _, rfl, rfl, rfl⟩, H⟩

/-! ### slices_Collect_int -/

def slices_Collect_int_F (r : World) (seq1 : Value) (h : Heap) (R : Sl → Heap → Prop) : Prop :=
  slices_AppendSeq_int_int r Sl.nil seq1 h fun y2 h1 =>
  R y2 h1

set_option maxRecDepth 100000 in
theorem slices_Collect_int_of {r : World} {seq1 : Value} {h : Heap} {R : Sl → Heap → Prop} (H : slices_Collect_int_F r seq1 h R) : slices_Collect_int r seq1 h R := by
  unfold slices_Collect_int_F at H
  refine calls_of 5 [.tmp 2] Try.func61 rfl rfl rfl rfl rfl ?_
  refine W_seq ?_
  refine W_region (.pu 0 .fin) rfl rfl ?_
  refine s_pu (d := some 2) (v := (Sl.v Sl.nil)) rfl rfl rfl (r_assign rfl) ?_
  refine s_fin ?_
  show W _ _ _ _ _ _ _ _
  refine W_seq ?_
  refine W_region (.pu 0 (.ef 1 [] (.pu 2 .fin) .no)) rfl rfl ?_
  refine s_pu (d := some 3) (v := seq1) rfl rfl rfl (r_move rfl) ?_
  refine s_ef (d := some 4) rfl rfl rfl (fun dr => r_call Try.call70 rfl rfl H) ?_ trivial
  rintro _ h1 ⟨y2, rfl, H⟩
  refine ⟨trivial, ?_⟩
  refine s_pu (d := some 2) (v := (Sl.v y2)) rfl rfl rfl (r_assign rfl) ?_
  refine s_fin ?_
  show W _ _ _ _ _ _ _ _
  refine W_ret ?_
  exact ⟨[(Sl.v y2)], ⟨_, _, rfl, rfl, rfl⟩, y2, rfl, H⟩

/-! ### slices_Backward_int_int_1 -/

def slices_Backward_int_int_1_F (r : World) (yield1 : Value) (c2 : Addr) (h : Heap) (R : Heap → Prop) : Prop :=
  LdS h c2 fun x3 =>
  ∀ X6 : Int → Heap → Prop, (∀ (i5 : Int) (h1 : Heap),
    (Br (decide (0 ≤ i5)) (
      LdS h1 c2 fun x7 =>
      Ix x7 i5 1 fun q13 =>
      LdI h1 q13 fun x15 =>
      CallV Try.prog r yield1 [(.int .i64 i5), (.int .i64 x15)] h1 fun v19 h2 => ∃ (y17 : Bool), v19 = (.bool y17) ∧
      Br (!y17) (
        R h2) (
        X6 (w64 (i5 - 1)) h2)) (
      R h1)) →
    X6 i5 h1) →
  X6 (w64 (((x3.len : Int)) - 1)) h

set_option maxRecDepth 100000 in
theorem slices_Backward_int_int_1_of {r : World} {yield1 : Value} {c2 : Addr} {h : Heap} {R : Heap → Prop} (H : slices_Backward_int_int_1_F r yield1 c2 h R) : slices_Backward_int_int_1 r yield1 c2 h R := by
  unfold slices_Backward_int_int_1_F at H
  refine calls_of 19 [] Try.func68 rfl rfl rfl rfl rfl ?_
  refine W_seq ?_
  refine W_region (.rl 0 (.pu 1 (.pu 2 (.pu 3 .fin)))) rfl rfl ?_
  obtain ⟨x3, e4, H⟩ := H
  refine s_rl (d := some 4) (v := (Sl.v x3)) rfl rfl rfl (fun dr => r_load1 Try.isAgg22 rfl e4) ?_
  refine s_pu (d := some 5) (v := (.int .i64 ((x3.len : Int)))) rfl rfl rfl (r_len Try.underlying22 rfl) ?_
  refine s_pu (d := some 6) (v := (.int .i64 (w64 (((x3.len : Int)) - 1)))) rfl rfl rfl (r_sub rfl rfl) ?_
  refine s_pu (d := some 3) (v := (.int .i64 (w64 (((x3.len : Int)) - 1)))) rfl rfl rfl (r_assign rfl) ?_
  refine s_fin ?_
  show W _ _ _ _ _ _ _ _
  refine W_block ?_
  refine W_loop (WL_mk (l := [(0, yield1), (1, (.pointer (some c2))), (3, (.int .i64 (w64 (((x3.len : Int)) - 1))))]) ?_ ⟨rfl, rfl, rfl, trivial⟩)
  refine H (fun (i5 : Int) (h1 : Heap) => ∀ b, WL _ _ _ _ _ _ (mkE [(0, yield1), (1, (.pointer (some c2))), (3, (.int .i64 i5))] b) h1) ?_
  intro i5 h1 H b
  refine WL_round ?_
  refine W_seq ?_
  refine W_seq ?_
  refine W_region (.pu 0 (.pu 1 .fin)) rfl rfl ?_
  refine s_pu (d := some 7) (v := (.int .i64 i5)) rfl rfl rfl (r_move rfl) ?_
  refine s_pu (d := some 8) (v := (.bool (decide (0 ≤ i5)))) rfl rfl rfl (r_geq rfl rfl) ?_
  refine s_fin ?_
  show W _ _ _ _ _ _ _ _
  refine W_if (decide (0 ≤ i5)) rfl (fun g20 => ?_) (fun g20 => ?_)
  · have H := H.1 g20
    refine W_skip ?_
    show W _ _ _ _ _ _ _ _
    refine W_seq ?_
    refine W_block ?_
    refine W_seq ?_
    refine W_region (.pu 0 (.pu 1 (.rl 2 (.pu 3 (.pu 4 (.rl 5 (.ef 6 [] (.pu 7 .fin) .no))))))) rfl rfl ?_
    refine s_pu (d := some 11) (v := yield1) rfl rfl rfl (r_move rfl) ?_
    refine s_pu (d := some 12) (v := (.int .i64 i5)) rfl rfl rfl (r_move rfl) ?_
    obtain ⟨x7, e8, H⟩ := H
    refine s_rl (d := some 13) (v := (Sl.v x7)) rfl rfl rfl (fun dr => r_load1 Try.isAgg22 rfl e8) ?_
    refine s_pu (d := some 14) (v := (.int .i64 i5)) rfl rfl rfl (r_move rfl) ?_
    obtain ⟨p9, e10, e11, e12, H⟩ := H
    obtain ⟨q13, e14⟩ : ∃ q : Addr, q = Addr.add p9 (Int.toNat i5 * 1) := ⟨_, rfl⟩
    rw [← e14] at H
    refine s_pu (d := some 15) (v := (.pointer (some q13))) rfl rfl rfl (fun w => (r_indexAddr Try.underlying22 Try.sizeOf3 rfl rfl e10 e11 e12 w).trans (by rw [e14])) ?_
    obtain ⟨x15, e16, H⟩ := H
    refine s_rl (d := some 16) (v := (.int .i64 x15)) rfl rfl rfl (fun dr => r_load1 Try.isAgg3 rfl e16) ?_
    refine s_ef (d := some 17) rfl rfl rfl (fun dr => r_callV rfl rfl H) ?_ trivial
    rintro _ h2 ⟨y17, rfl, H⟩
    refine ⟨trivial, ?_⟩
    refine s_pu (d := some 18) (v := (.bool (!y17))) rfl rfl rfl (r_not rfl) ?_
    refine s_fin ?_
    show W _ _ _ _ _ _ _ _
    refine W_if (!y17) rfl (fun g18 => ?_) (fun g18 => ?_)
    · have H := H.1 g18
      refine W_ret ?_
      exact ⟨[], rfl, rfl, H⟩
    · have H := H.2 g18
      refine W_skip ?_
      show W _ _ _ _ _ _ _ _
      refine W_region (.pu 0 (.pu 1 (.pu 2 .fin))) rfl rfl ?_
      refine s_pu (d := some 9) (v := (.int .i64 i5)) rfl rfl rfl (r_move rfl) ?_
      refine s_pu (d := some 10) (v := (.int .i64 (w64 (i5 - 1)))) rfl rfl rfl (r_sub rfl rfl) ?_
      refine s_pu (d := some 3) (v := (.int .i64 (w64 (i5 - 1)))) rfl rfl rfl (r_assign rfl) ?_
      refine s_fin ?_
      exact WL_mk (l := [(0, yield1), (1, (.pointer (some c2))), (3, (.int .i64 (w64 (i5 - 1))))]) H ⟨rfl, rfl, rfl, trivial⟩
  · have H := H.2 g20
    refine W_exit (inX_here ?_)
    exact ⟨[], rfl, rfl, H⟩

/-! ### list_List_All_1 -/

def list_List_All_1_F (r : World) (yield1 : Value) (c2 : Addr) (h : Heap) (R : Heap → Prop) : Prop :=
  LdP h (Addr.add c2 0) fun x3 =>
  ∀ X6 : Option Addr → Heap → Prop, (∀ (c5 : Option Addr) (h1 : Heap),
    (∀ J8 : Bool → Heap → Prop, (∀ (x7 : Bool) (h2 : Heap),
      (Br x7 (
        Ck c5 fun p10 =>
        LdP h2 (Addr.add p10 1) fun x12 =>
        X6 x12 h2) (
        R h2)) →
      J8 x7 h2) →
    Br (!(Option.isNone c5)) (
      Ck c5 fun p16 =>
      LdI h1 (Addr.add p16 0) fun x18 =>
      CallV Try.prog r yield1 [(.int .i64 x18)] h1 fun v21 h3 => ∃ (y20 : Bool), v21 = (.bool y20) ∧
      J8 y20 h3) (
      J8 false h1)) →
    X6 c5 h1) →
  X6 x3 h

set_option maxRecDepth 100000 in
theorem list_List_All_1_of {r : World} {yield1 : Value} {c2 : Addr} {h : Heap} {R : Heap → Prop} (H : list_List_All_1_F r yield1 c2 h R) : list_List_All_1 r yield1 c2 h R := by
  unfold list_List_All_1_F at H
  refine calls_of 20 [] Try.func69 rfl rfl rfl rfl rfl ?_
  refine W_seq ?_
  refine W_region (.pu 0 (.rl 1 (.pu 2 .fin))) rfl rfl ?_
  refine s_pu (d := some 4) (v := (.pointer (some (Addr.add c2 0)))) rfl rfl rfl (r_fieldAddr Try.underlying34 Try.sizeOf32 rfl rfl rfl) ?_
  obtain ⟨x3, e4, H⟩ := H
  refine s_rl (d := some 5) (v := (.pointer x3)) rfl rfl rfl (fun dr => r_load1 Try.isAgg32 rfl e4) ?_
  refine s_pu (d := some 3) (v := (.pointer x3)) rfl rfl rfl (r_assign rfl) ?_
  refine s_fin ?_
  show W _ _ _ _ _ _ _ _
  refine W_block ?_
  refine W_loop (WL_mk (l := [(0, yield1), (3, (.pointer x3))]) ?_ ⟨rfl, rfl, trivial⟩)
  refine H (fun (c5 : Option Addr) (h1 : Heap) => ∀ b, WL _ _ _ _ _ _ (mkE [(0, yield1), (3, (.pointer c5))] b) h1) ?_
  intro c5 h1 H b
  refine WL_round ?_
  refine W_seq ?_
  refine W_seq ?_
  refine W_set ?_
  intro N9 eN9
  have H := H (fun (x7 : Bool) (h2 : Heap) => ∀ b, N9 [] (mkE [(0, yield1), (3, (.pointer c5)), (15, (.bool x7))] b) h2) (by
    intro x7 h2 H b
    rw [eN9]
    show W _ _ _ _ _ _ _ _
    refine W_if x7 rfl (fun g14 => ?_) (fun g14 => ?_)
    · have H := H.1 g14
      refine W_skip ?_
      show W _ _ _ _ _ _ _ _
      refine W_seq ?_
      refine W_block ?_
      refine W_skip ?_
      show W _ _ _ _ _ _ _ _
      refine W_region (.pu 0 (.pu 1 (.pu 2 (.rl 3 (.pu 4 .fin))))) rfl rfl ?_
      refine s_pu (d := some 16) (v := (.pointer c5)) rfl rfl rfl (r_move rfl) ?_
      obtain ⟨p10, e11, H⟩ := H
      refine s_pu (d := some 17) (v := (.pointer (some p10))) rfl rfl rfl (r_nilCheck rfl e11) ?_
      refine s_pu (d := some 18) (v := (.pointer (some (Addr.add p10 1)))) rfl rfl rfl (r_fieldAddr Try.underlying95 Try.sizeOf32 rfl rfl rfl) ?_
      obtain ⟨x12, e13, H⟩ := H
      refine s_rl (d := some 19) (v := (.pointer x12)) rfl rfl rfl (fun dr => r_load1 Try.isAgg32 rfl e13) ?_
      refine s_pu (d := some 3) (v := (.pointer x12)) rfl rfl rfl (r_assign rfl) ?_
      refine s_fin ?_
      exact WL_mk (l := [(0, yield1), (3, (.pointer x12))]) H ⟨rfl, rfl, trivial⟩
    · have H := H.2 g14
      refine W_exit (inX_here ?_)
      exact ⟨[], rfl, rfl, H⟩)
  clear eN9
  refine W_region (.pu 0 (.pu 1 (.pu 2 (.pu 3 (.pu 4 (.pu 5 (.pu 6 (.rl 7 (.ef 8 [] (.pu 9 .fin) .no))))))))) rfl rfl ?_
  refine s_pu (d := some 6) (v := (.pointer c5)) rfl rfl rfl (r_move rfl) ?_
  refine s_pu (d := some 7) (v := (.bool (!(Option.isNone c5)))) rfl rfl rfl (r_notNilP Try.underlying32 rfl rfl) ?_
  refine s_pu (d := some 8) (v := (.bool (!(Option.isNone c5)))) rfl rfl rfl (r_move rfl) ?_
  rcases Bool.eq_false_or_eq_true (!(Option.isNone c5)) with g15 | g15
  · have H := H.1 g15
    refine s_pu (d := some 9) (v := yield1) rfl rfl (wants_yes rfl rfl rfl rfl g15) (r_move rfl) ?_
    refine s_pu (d := some 10) (v := (.pointer c5)) rfl rfl (wants_yes rfl rfl rfl rfl g15) (r_move rfl) ?_
    obtain ⟨p16, e17, H⟩ := H
    refine s_pu (d := some 11) (v := (.pointer (some p16))) rfl rfl (wants_yes rfl rfl rfl rfl g15) (r_nilCheck rfl e17) ?_
    refine s_pu (d := some 12) (v := (.pointer (some (Addr.add p16 0)))) rfl rfl (wants_yes rfl rfl rfl rfl g15) (r_fieldAddr Try.underlying95 Try.sizeOf3 rfl rfl rfl) ?_
    obtain ⟨x18, e19, H⟩ := H
    refine s_rl (d := some 13) (v := (.int .i64 x18)) rfl rfl (wants_yes rfl rfl rfl rfl g15) (fun dr => r_load1 Try.isAgg3 rfl e19) ?_
    refine s_ef (d := some 14) rfl rfl (wants_yes rfl rfl rfl rfl g15) (fun dr => r_callV rfl rfl H) ?_ trivial
    rintro _ h3 ⟨y20, rfl, H⟩
    refine ⟨trivial, ?_⟩
    refine s_pu (d := some 15) (v := (.bool y20)) rfl rfl rfl (r_pick1 rfl g15 rfl) ?_
    refine s_fin ?_
    exact N_mk (l := [(0, yield1), (3, (.pointer c5)), (15, (.bool y20))]) H ⟨rfl, rfl, rfl, trivial⟩
  · have H := H.2 g15
    refine s_sk (d := some 9) rfl rfl (wants_no rfl rfl rfl rfl g15) ?_
    refine s_sk (d := some 10) rfl rfl (wants_no rfl rfl rfl rfl g15) ?_
    refine s_sk (d := some 11) rfl rfl (wants_no rfl rfl rfl rfl g15) ?_
    refine s_sk (d := some 12) rfl rfl (wants_no rfl rfl rfl rfl g15) ?_
    refine s_skl (d := some 13) rfl rfl (wants_no rfl rfl rfl rfl g15) ?_
    refine s_skf (d := some 14) rfl rfl (wants_no rfl rfl rfl rfl g15) trivial ?_ trivial
    refine s_pu (d := some 15) (v := (.bool false)) rfl rfl rfl (r_pick0 rfl g15 rfl) ?_
    refine s_fin ?_
    exact N_mk (l := [(0, yield1), (3, (.pointer c5)), (15, (.bool false))]) H ⟨rfl, rfl, rfl, trivial⟩

/-! ### slices_AppendSeq_int_int -/

def slices_AppendSeq_int_int_F (r : World) (s1 : Sl) (seq2 : Value) (h : Heap) (R : Sl → Heap → Prop) : Prop :=
  New h (.cells #[(Sl.v s1)] 22) fun p3 h1 =>
  ∀ (D6 : Nat) (o7 : Obj) (h2 : Heap), D6 = Array.size h1 → h2 = (h1.push (.deferred (some []))).push o7 → notCells o7 = true →
    (∀ (a16 : Int) (h3 : Heap) (K8 : Value → Heap → Prop), (h3[D6 + 1]? = some o7) →
      (∀ h6 : Heap, h6 = hput h3 (D6 + 1) (busyO o7) →
        LdS h6 p3 fun x17 =>
        New h6 (.cells #[(.int .i64 a16)] 3) fun p19 h7 =>
        App 3 1 8 (.int .i64 0) x17 ((⟨some p19, 1, 1⟩ : Sl)) h7 fun s22 h8 =>
        St h8 p3 1 [(Sl.v s22)] fun h9 =>
        (h9[D6 + 1]? = some (busyO o7)) ∧ K8 (.bool true) (hput h9 (D6 + 1) o7)) →
      YieldH Try.prog r (D6 + 1) [(.int .i64 a16)] h3 K8) →
  CallF Try.prog r seq2 [.func (.yield (D6 + 1)) #[] #[]] h2 fun _ h4 => (h4[D6 + 1]? = some o7) ∧ ∀ (o15 : Obj) (h5 : Heap), h5 = hput h4 (D6 + 1) o15 →
  LdS h5 p3 fun x25 =>
  (h5[D6]? = some (.deferred (some []))) ∧ ∀ h10 : Heap, h10 = hput h5 D6 (.deferred none) →
  R x25 h10

set_option maxRecDepth 100000 in
theorem slices_AppendSeq_int_int_of {r : World} {s1 : Sl} {seq2 : Value} {h : Heap} {R : Sl → Heap → Prop} (H : slices_AppendSeq_int_int_F r s1 seq2 h R) : slices_AppendSeq_int_int r s1 seq2 h R := by
  unfold slices_AppendSeq_int_int_F at H
  refine calls_of 13 [.tmp 4] Try.func70 rfl rfl rfl rfl rfl ?_
  refine W_seq ?_
  refine W_region (.ef 0 [] (.pu 1 .fin) .no) rfl rfl ?_
  obtain ⟨p3, e4⟩ : ∃ p : Addr, p = ⟨h.size, 0, none⟩ := ⟨_, rfl⟩
  obtain ⟨h1, e5⟩ : ∃ hh : Heap, hh = h.push (.cells #[(Sl.v s1)] 22) := ⟨_, rfl⟩
  have H := H p3 h1 e4 e5
  refine s_ef1 (d := some 2) (v := (.pointer (some p3))) (h' := h1) rfl rfl rfl (fun dr => (r_box (v := (Sl.v s1)) rfl).trans (by rw [e4, e5]; rfl)) trivial ?_ trivial
  refine s_pu (d := some 4) (v := (Sl.v Sl.nil)) rfl rfl rfl (r_assign rfl) ?_
  refine s_fin ?_
  show W _ _ _ _ _ _ _ _
  refine W_seq ?_
  refine W_seq ?_
  refine W_region (.pu 0 .fin) rfl rfl ?_
  refine s_pu (d := some 6) (v := seq2) rfl rfl rfl (r_move rfl) ?_
  refine s_fin ?_
  show W _ _ _ _ _ _ _ _
  refine W_block ?_
  refine W_rangeFunc rfl (fun fn o7 e9 => ?_)
  obtain ⟨D6, e10⟩ : ∃ D : Nat, D = Array.size h1 := ⟨_, rfl⟩
  rw [← e10] at e9 ⊢
  obtain ⟨h2, e11⟩ : ∃ hh : Heap, hh = (h1.push (.deferred (some []))).push o7 := ⟨_, rfl⟩
  rw [← e11]
  have H := H D6 o7 h2 e10 e11 (by rw [e9]; rfl) (by
    intro a16 h3 K8 e14 H
    refine round_of e9 e14 rfl ?_
    refine W_region (.pu 0 .fin) rfl rfl ?_
    refine s_pu (d := some 5) (v := (.int .i64 a16)) rfl rfl rfl (r_assign rfl) ?_
    refine s_fin ?_
    refine ⟨rfl, ?_⟩
    obtain ⟨h6, e12⟩ : ∃ hh : Heap, hh = hput h3 (D6 + 1) (busyO o7) := ⟨_, rfl⟩
    rw [← e12]
    have H := H h6 e12
    refine W_block ?_
    refine W_region (.rl 0 (.pu 1 (.ef 2 [] (.ef 3 [] (.ef 4 [] .fin .no) .no) .no))) rfl rfl ?_
    obtain ⟨x17, e18, H⟩ := H
    refine s_rl (d := some 8) (v := (Sl.v x17)) rfl rfl rfl (fun dr => r_load1 Try.isAgg22 rfl e18) ?_
    refine s_pu (d := some 9) (v := (.int .i64 a16)) rfl rfl rfl (r_move rfl) ?_
    obtain ⟨p19, e20⟩ : ∃ p : Addr, p = ⟨h6.size, 0, none⟩ := ⟨_, rfl⟩
    obtain ⟨h7, e21⟩ : ∃ hh : Heap, hh = h6.push (.cells #[(.int .i64 a16)] 3) := ⟨_, rfl⟩
    have H := H p19 h7 e20 e21
    refine s_ef1 (d := some 10) (v := (Sl.v ((⟨some p19, 1, 1⟩ : Sl)))) (h' := h7) rfl rfl rfl (fun dr => (slFLst_22.build (cells := #[(.int .i64 a16)]) (by decide) rfl (by kernel_rfl)).trans (by rw [e20, e21]; rfl)) trivial ?_ trivial
    refine s_ef (d := some 11) rfl rfl rfl (fun dr => slFLst_22.append rfl rfl H) ?_ trivial
    rintro _ h8 ⟨s22, rfl, H⟩
    refine ⟨trivial, ?_⟩
    obtain ⟨e24, H⟩ := H
    obtain ⟨h9, e23⟩ : ∃ hh : Heap, hh = hsets h8 p3 0 [(Sl.v s22)] := ⟨_, rfl⟩
    have H := H h9 e23
    refine s_st (d := none) (h' := h9) rfl rfl rfl (fun dr => (r_store (v := (Sl.v s22)) Try.sizeOf22 rfl rfl rfl (one_all rfl) e24).trans (by rw [e23]; rfl)) trivial ?_ trivial
    refine s_fin ?_
    exact H)
  refine CallF.mono H (fun _ h4 hx => ?_)
  obtain ⟨e14, H⟩ := hx
  refine ⟨e14, fun o15 => ?_⟩
  obtain ⟨h5, e13⟩ : ∃ hh : Heap, hh = hput h4 (D6 + 1) o15 := ⟨_, rfl⟩
  rw [← e13]
  have H := H o15 h5 e13
  show W _ _ _ _ _ _ _ _
  refine W_seq ?_
  refine W_region (.rl 0 (.pu 1 .fin)) rfl rfl ?_
  obtain ⟨x25, e26, H⟩ := H
  refine s_rl (d := some 12) (v := (Sl.v x25)) rfl rfl rfl (fun dr => r_load1 Try.isAgg22 rfl e26) ?_
  refine s_pu (d := some 4) (v := (Sl.v x25)) rfl rfl rfl (r_assign rfl) ?_
  refine s_fin ?_
  show W _ _ _ _ _ _ _ _
  refine W_ret ?_
  obtain ⟨e28, H⟩ := H
  obtain ⟨h10, e27⟩ : ∃ hh : Heap, hh = hput h5 D6 (.deferred none) := ⟨_, rfl⟩
  have H := H h10 e27
  refine ⟨D6, rfl, e28, ?_⟩
  rw [← e27]
  exact ⟨[(Sl.v x25)], ⟨_, _, rfl, rfl, rfl⟩, x25, rfl, H⟩

end Go.Proofs.Ytgieabpckecjlaa
