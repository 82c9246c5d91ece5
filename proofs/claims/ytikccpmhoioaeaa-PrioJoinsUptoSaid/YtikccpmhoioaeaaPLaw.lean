/- Typed words of functions, and that they hold: printed by gen.py (an own tool of this claim) off the model's own form of each function. -/
import Derived.Test.YtikccpmhoioaeaaProg
import Derived.Test.YtikccpmhoioaeaaPMan
import Derived.Test.YtikccpmhoioaeaaEqI
namespace Go.Proofs.Ytikccpmhoioaeaa
open Go Go.RowKit Go.Tw
set_option linter.unusedVariables false

theorem slFPLaw_35 : SlF Try.prog 35 43 2 16 (.agg #[(.int .i64 0), (.int .i64 0)]) := ⟨Try.underlying35, ⟨Try.t43, by kernel_rfl, rfl, rfl, rfl⟩, rfl, Try.sizeOf43, Try.zeroValue43⟩

/-! ### the calls -/

abbrev prio_Queue_Push (r : World) (q1 : Option Addr) (it2 : Int) (it3 : Int) (h : Heap) (R : Option Addr → Heap → Prop) : Prop :=
  CallsH Try.prog r 18 [(.agg #[(.pointer q1)]), (.agg #[(.int .i64 it2), (.int .i64 it3)])] h fun v h' => ∃ (y4 : Option Addr), v = (.agg #[(.pointer y4)]) ∧ R y4 h'

theorem prio_Queue_Push.mono {r : World} {q1 : Option Addr} {it2 : Int} {it3 : Int} {h : Heap} {R R' : Option Addr → Heap → Prop} (H : prio_Queue_Push r q1 it2 it3 h R) (hr : ∀ y4 h, R y4 h → R' y4 h) : prio_Queue_Push r q1 it2 it3 h R' :=
  CallsH.mono H fun _ _ hx => by
    obtain ⟨y4, hv, hR⟩ := hx
    exact ⟨y4, hv, hr _ _ hR⟩

abbrev prio_Queue_Top (r : World) (q1 : Option Addr) (h : Heap) (R : Int → Int → Bool → Heap → Prop) : Prop :=
  CallsH Try.prog r 19 [(.agg #[(.pointer q1)])] h fun v h' => ∃ (y2 : Int) (y3 : Int) (y4 : Bool), v = (.tuple #[(.agg #[(.int .i64 y2), (.int .i64 y3)]), (.bool y4)]) ∧ R y2 y3 y4 h'

theorem prio_Queue_Top.mono {r : World} {q1 : Option Addr} {h : Heap} {R R' : Int → Int → Bool → Heap → Prop} (H : prio_Queue_Top r q1 h R) (hr : ∀ y2 y3 y4 h, R y2 y3 y4 h → R' y2 y3 y4 h) : prio_Queue_Top r q1 h R' :=
  CallsH.mono H fun _ _ hx => by
    obtain ⟨y2, y3, y4, hv, hR⟩ := hx
    exact ⟨y2, y3, y4, hv, hr _ _ _ _ hR⟩

abbrev prio_Queue_Join (r : World) (q1 : Option Addr) (vr2 : Option Addr) (h : Heap) (R : Option Addr → Heap → Prop) : Prop :=
  CallsH Try.prog r 20 [(.agg #[(.pointer q1)]), (.agg #[(.pointer vr2)])] h fun v h' => ∃ (y3 : Option Addr), v = (.agg #[(.pointer y3)]) ∧ R y3 h'

theorem prio_Queue_Join.mono {r : World} {q1 : Option Addr} {vr2 : Option Addr} {h : Heap} {R R' : Option Addr → Heap → Prop} (H : prio_Queue_Join r q1 vr2 h R) (hr : ∀ y3 h, R y3 h → R' y3 h) : prio_Queue_Join r q1 vr2 h R' :=
  CallsH.mono H fun _ _ hx => by
    obtain ⟨y3, hv, hR⟩ := hx
    exact ⟨y3, hv, hr _ _ hR⟩

abbrev prio_Queue_Items (r : World) (q1 : Option Addr) (h : Heap) (R : Sl → Heap → Prop) : Prop :=
  CallsH Try.prog r 22 [(.agg #[(.pointer q1)])] h fun v h' => ∃ (y2 : Sl), v = (Sl.v y2) ∧ R y2 h'

theorem prio_Queue_Items.mono {r : World} {q1 : Option Addr} {h : Heap} {R R' : Sl → Heap → Prop} (H : prio_Queue_Items r q1 h R) (hr : ∀ y2 h, R y2 h → R' y2 h) : prio_Queue_Items r q1 h R' :=
  CallsH.mono H fun _ _ hx => by
    obtain ⟨y2, hv, hR⟩ := hx
    exact ⟨y2, hv, hr _ _ hR⟩

abbrev prio_Queue_Pop (r : World) (q1 : Option Addr) (h : Heap) (R : Int → Int → Option Addr → Bool → Heap → Prop) : Prop :=
  CallsH Try.prog r 23 [(.agg #[(.pointer q1)])] h fun v h' => ∃ (y2 : Int) (y3 : Int) (y4 : Option Addr) (y5 : Bool), v = (.tuple #[(.agg #[(.int .i64 y2), (.int .i64 y3)]), (.agg #[(.pointer y4)]), (.bool y5)]) ∧ R y2 y3 y4 y5 h'

theorem prio_Queue_Pop.mono {r : World} {q1 : Option Addr} {h : Heap} {R R' : Int → Int → Option Addr → Bool → Heap → Prop} (H : prio_Queue_Pop r q1 h R) (hr : ∀ y2 y3 y4 y5 h, R y2 y3 y4 y5 h → R' y2 y3 y4 y5 h) : prio_Queue_Pop r q1 h R' :=
  CallsH.mono H fun _ _ hx => by
    obtain ⟨y2, y3, y4, y5, hv, hR⟩ := hx
    exact ⟨y2, y3, y4, y5, hv, hr _ _ _ _ _ hR⟩

abbrev prio_Queue_Len (r : World) (q1 : Option Addr) (h : Heap) (R : Int → Heap → Prop) : Prop :=
  CallsH Try.prog r 24 [(.agg #[(.pointer q1)])] h fun v h' => ∃ (y2 : Int), v = (.int .i64 y2) ∧ R y2 h'

theorem prio_Queue_Len.mono {r : World} {q1 : Option Addr} {h : Heap} {R R' : Int → Heap → Prop} (H : prio_Queue_Len r q1 h R) (hr : ∀ y2 h, R y2 h → R' y2 h) : prio_Queue_Len r q1 h R' :=
  CallsH.mono H fun _ _ hx => by
    obtain ⟨y2, hv, hR⟩ := hx
    exact ⟨y2, hv, hr _ _ hR⟩

abbrev prio_Queue_first (r : World) (q1 : Option Addr) (h : Heap) (R : Int → Heap → Prop) : Prop :=
  CallsH Try.prog r 45 [(.agg #[(.pointer q1)])] h fun v h' => ∃ (y2 : Int), v = (.int .i64 y2) ∧ R y2 h'

theorem prio_Queue_first.mono {r : World} {q1 : Option Addr} {h : Heap} {R R' : Int → Heap → Prop} (H : prio_Queue_first r q1 h R) (hr : ∀ y2 h, R y2 h → R' y2 h) : prio_Queue_first r q1 h R' :=
  CallsH.mono H fun _ _ hx => by
    obtain ⟨y2, hv, hR⟩ := hx
    exact ⟨y2, hv, hr _ _ hR⟩

abbrev prio_Queue_first_1 (r : World) (s1 : Bool) (s2 : Int) (c3 : Addr) (h : Heap) (R : Bool → Heap → Prop) : Prop :=
  CallsH Try.prog r 75 [(.agg #[(.bool s1), (.int .i64 s2)]), (.pointer (some c3))] h fun v h' => ∃ (y4 : Bool), v = (.bool y4) ∧ R y4 h'

theorem prio_Queue_first_1.mono {r : World} {s1 : Bool} {s2 : Int} {c3 : Addr} {h : Heap} {R R' : Bool → Heap → Prop} (H : prio_Queue_first_1 r s1 s2 c3 h R) (hr : ∀ y4 h, R y4 h → R' y4 h) : prio_Queue_first_1 r s1 s2 c3 h R' :=
  CallsH.mono H fun _ _ hx => by
    obtain ⟨y4, hv, hR⟩ := hx
    exact ⟨y4, hv, hr _ _ hR⟩

abbrev same_Items (r : World) (a1 : Sl) (vb2 : Sl) (h : Heap) (R : Bool → Heap → Prop) : Prop :=
  CallsH Try.prog r 21 [(Sl.v a1), (Sl.v vb2)] h fun v h' => ∃ (y3 : Bool), v = (.bool y3) ∧ R y3 h'

theorem same_Items.mono {r : World} {a1 : Sl} {vb2 : Sl} {h : Heap} {R R' : Bool → Heap → Prop} (H : same_Items r a1 vb2 h R) (hr : ∀ y3 h, R y3 h → R' y3 h) : same_Items r a1 vb2 h R' :=
  CallsH.mono H fun _ _ hx => by
    obtain ⟨y3, hv, hR⟩ := hx
    exact ⟨y3, hv, hr _ _ hR⟩

abbrev ref1_First (r : World) (l1 : Sl) (h : Heap) (R : Int → Heap → Prop) : Prop :=
  CallsH Try.prog r 36 [(Sl.v l1)] h fun v h' => ∃ (y2 : Int), v = (.int .i64 y2) ∧ R y2 h'

theorem ref1_First.mono {r : World} {l1 : Sl} {h : Heap} {R R' : Int → Heap → Prop} (H : ref1_First r l1 h R) (hr : ∀ y2 h, R y2 h → R' y2 h) : ref1_First r l1 h R' :=
  CallsH.mono H fun _ _ hx => by
    obtain ⟨y2, hv, hR⟩ := hx
    exact ⟨y2, hv, hr _ _ hR⟩

abbrev ref1_LessItem (r : World) (l1 : Sl) (i2 : Int) (h : Heap) (R : Sl → Heap → Prop) : Prop :=
  CallsH Try.prog r 37 [(Sl.v l1), (.int .i64 i2)] h fun v h' => ∃ (y3 : Sl), v = (Sl.v y3) ∧ R y3 h'

theorem ref1_LessItem.mono {r : World} {l1 : Sl} {i2 : Int} {h : Heap} {R R' : Sl → Heap → Prop} (H : ref1_LessItem r l1 i2 h R) (hr : ∀ y3 h, R y3 h → R' y3 h) : ref1_LessItem r l1 i2 h R' :=
  CallsH.mono H fun _ _ hx => by
    obtain ⟨y3, hv, hR⟩ := hx
    exact ⟨y3, hv, hr _ _ hR⟩

abbrev law3_ranked (r : World)  (h : Heap) (R : Bool → Heap → Prop) : Prop :=
  CallsH Try.prog r 17 [] h fun v h' => ∃ (y1 : Bool), v = (.bool y1) ∧ R y1 h'

theorem law3_ranked.mono {r : World}  {h : Heap} {R R' : Bool → Heap → Prop} (H : law3_ranked r  h R) (hr : ∀ y1 h, R y1 h → R' y1 h) : law3_ranked r  h R' :=
  CallsH.mono H fun _ _ hx => by
    obtain ⟨y1, hv, hR⟩ := hx
    exact ⟨y1, hv, hr _ _ hR⟩

abbrev law3_PrioJoins (r : World) (a1 : Sl) (vb2 : Sl) (h : Heap) (R : Bool → Heap → Prop) : Prop :=
  CallsH Try.prog r 4 [(Sl.v a1), (Sl.v vb2)] h fun v h' => ∃ (y3 : Bool), v = (.bool y3) ∧ R y3 h'

theorem law3_PrioJoins.mono {r : World} {a1 : Sl} {vb2 : Sl} {h : Heap} {R R' : Bool → Heap → Prop} (H : law3_PrioJoins r a1 vb2 h R) (hr : ∀ y3 h, R y3 h → R' y3 h) : law3_PrioJoins r a1 vb2 h R' :=
  CallsH.mono H fun _ _ hx => by
    obtain ⟨y3, hv, hR⟩ := hx
    exact ⟨y3, hv, hr _ _ hR⟩

abbrev law3_PrioSorts (r : World) (l1 : Sl) (h : Heap) (R : Bool → Heap → Prop) : Prop :=
  CallsH Try.prog r 5 [(Sl.v l1)] h fun v h' => ∃ (y2 : Bool), v = (.bool y2) ∧ R y2 h'

theorem law3_PrioSorts.mono {r : World} {l1 : Sl} {h : Heap} {R R' : Bool → Heap → Prop} (H : law3_PrioSorts r l1 h R) (hr : ∀ y2 h, R y2 h → R' y2 h) : law3_PrioSorts r l1 h R' :=
  CallsH.mono H fun _ _ hx => by
    obtain ⟨y2, hv, hR⟩ := hx
    exact ⟨y2, hv, hr _ _ hR⟩

abbrev law3_PrioTells (r : World) (l1 : Sl) (takes2 : Sl) (h : Heap) (R : Bool → Heap → Prop) : Prop :=
  CallsH Try.prog r 10 [(Sl.v l1), (Sl.v takes2)] h fun v h' => ∃ (y3 : Bool), v = (.bool y3) ∧ R y3 h'

theorem law3_PrioTells.mono {r : World} {l1 : Sl} {takes2 : Sl} {h : Heap} {R R' : Bool → Heap → Prop} (H : law3_PrioTells r l1 takes2 h R) (hr : ∀ y3 h, R y3 h → R' y3 h) : law3_PrioTells r l1 takes2 h R' :=
  CallsH.mono H fun _ _ hx => by
    obtain ⟨y3, hv, hR⟩ := hx
    exact ⟨y3, hv, hr _ _ hR⟩

/-! ### prio_Queue_Push -/

def prio_Queue_Push_F (r : World) (q1 : Option Addr) (it2 : Int) (it3 : Int) (h : Heap) (R : Option Addr → Heap → Prop) : Prop :=
  New h (.cells #[(.pointer q1)] 40) fun p4 h1 =>
  New h1 (.cells #[(.int .i64 it2), (.int .i64 it3)] 43) fun p7 h2 =>
  New h2 (.cells #[(.pointer none)] 40) fun p10 h3 =>
  LdP h3 (Addr.add (Addr.add p4 0) 0) fun x13 =>
  LdP h3 (Addr.add (Addr.add p4 0) 0) fun x15 =>
  LdI h3 (Addr.add p7 0) fun x17 =>
  LdI h3 (Addr.add p7 1) fun x19 =>
  finger_Many_api_Item_prio_top_prio_tops_Len r x15 h3 fun y21 h4 =>
  (hcell h4 (Addr.add p7 0) = some (.int .i64 x17)) ∧
  (hcell h4 (Addr.add p7 1) = some (.int .i64 x19)) ∧
  (hcell h4 (Addr.add (Addr.add p4 0) 0) = some (.pointer x13)) ∧
  finger_Many_api_Item_prio_top_prio_tops_Insert r x13 y21 x17 x19 h4 fun y25 h5 =>
  St h5 p10 1 [(.pointer y25)] fun h6 =>
  LdP h6 (Addr.add p10 0) fun x28 =>
  R x28 h6

set_option maxRecDepth 100000 in
theorem prio_Queue_Push_of {r : World} {q1 : Option Addr} {it2 : Int} {it3 : Int} {h : Heap} {R : Option Addr → Heap → Prop} (H : prio_Queue_Push_F r q1 it2 it3 h R) : prio_Queue_Push r q1 it2 it3 h R := by
  unfold prio_Queue_Push_F at H
  refine calls_of 13 [.cell 4 40] Try.func18 rfl rfl rfl rfl rfl ?_
  refine W_seq ?_
  refine W_region (.ef 0 [] (.ef 1 [] (.ef 2 [] .fin .no) .no) .no) rfl rfl ?_
  obtain ⟨p4, e5⟩ : ∃ p : Addr, p = ⟨h.size, 0, none⟩ := ⟨_, rfl⟩
  obtain ⟨h1, e6⟩ : ∃ hh : Heap, hh = h.push (.cells #[(.pointer q1)] 40) := ⟨_, rfl⟩
  have H := H p4 h1 e5 e6
  refine s_ef1 (d := some 2) (v := (.pointer (some p4))) (h' := h1) rfl rfl rfl (fun dr => (r_box (v := (.agg #[(.pointer q1)])) rfl).trans (by rw [e5, e6]; rfl)) trivial ?_ trivial
  obtain ⟨p7, e8⟩ : ∃ p : Addr, p = ⟨h1.size, 0, none⟩ := ⟨_, rfl⟩
  obtain ⟨h2, e9⟩ : ∃ hh : Heap, hh = h1.push (.cells #[(.int .i64 it2), (.int .i64 it3)] 43) := ⟨_, rfl⟩
  have H := H p7 h2 e8 e9
  refine s_ef1 (d := some 3) (v := (.pointer (some p7))) (h' := h2) rfl rfl rfl (fun dr => (r_box (v := (.agg #[(.int .i64 it2), (.int .i64 it3)])) rfl).trans (by rw [e8, e9]; rfl)) trivial ?_ trivial
  obtain ⟨p10, e11⟩ : ∃ p : Addr, p = ⟨h2.size, 0, none⟩ := ⟨_, rfl⟩
  obtain ⟨h3, e12⟩ : ∃ hh : Heap, hh = h2.push (.cells #[(.pointer none)] 40) := ⟨_, rfl⟩
  have H := H p10 h3 e11 e12
  refine s_ef1 (d := some 4) (v := (.pointer (some p10))) (h' := h3) rfl rfl rfl (fun dr => (r_alloc Try.zeroValue40).trans (by rw [e11, e12]; rfl)) trivial ?_ trivial
  refine s_fin ?_
  show W _ _ _ _ _ _ _ _
  refine W_seq ?_
  refine W_draw [0, 1, 0, 4, 12, 0, 63, 127, 255] (.pu 0 (.rd 1 (.pu 2 (.rd 3 (.rd 5 (.ef 4 [3] (.ef 6 [1, 3, 5] (.pu 7 (.ef 8 [1, 3, 5] .fin .no)) .no) .no)))))) (by kernel_rfl) (by kernel_rfl) ?_
  refine s_pu (d := some 5) (v := (.pointer (some (Addr.add p4 0)))) rfl rfl rfl (r_fieldAddr Try.underlying40 Try.sizeOf38 rfl rfl rfl) ?_
  obtain ⟨x13, e14, H⟩ := H
  refine s_rd (d := some 6) (v := (.agg #[(.pointer x13)])) rfl rfl rfl (fun dr => r_loadN Try.isAgg38 Try.sizeOf38 (vs := [(.pointer x13)]) rfl rfl ⟨e14, trivial⟩) ?_
  refine s_pu (d := some 7) (v := (.pointer (some (Addr.add p4 0)))) rfl rfl rfl (r_fieldAddr Try.underlying40 Try.sizeOf38 rfl rfl rfl) ?_
  obtain ⟨x15, e16, H⟩ := H
  refine s_rd (d := some 8) (v := (.agg #[(.pointer x15)])) rfl rfl rfl (fun dr => r_loadN Try.isAgg38 Try.sizeOf38 (vs := [(.pointer x15)]) rfl rfl ⟨e16, trivial⟩) ?_
  obtain ⟨x17, e18, H⟩ := H
  obtain ⟨x19, e20, H⟩ := H
  refine s_rd (d := some 10) (v := (.agg #[(.int .i64 x17), (.int .i64 x19)])) rfl rfl rfl (fun dr => r_loadN Try.isAgg43 Try.sizeOf43 (vs := [(.int .i64 x17), (.int .i64 x19)]) rfl rfl ⟨e18, e20, trivial⟩) ?_
  refine s_ef (d := some 9) rfl rfl rfl (fun dr => r_call Try.call43 rfl rfl H) ?_ trivial
  rintro _ h4 ⟨y21, rfl, H⟩
  obtain ⟨e22, H⟩ := H
  obtain ⟨e23, H⟩ := H
  obtain ⟨e24, H⟩ := H
  refine ⟨⟨(.inl ⟨rfl, fun dr => r_loadN Try.isAgg43 Try.sizeOf43 (vs := [(.int .i64 x17), (.int .i64 x19)]) rfl rfl ⟨e22, e23, trivial⟩⟩), trivial, (.inl ⟨rfl, fun dr => r_loadN Try.isAgg38 Try.sizeOf38 (vs := [(.pointer x13)]) rfl rfl ⟨e24, trivial⟩⟩), trivial⟩, ?_⟩
  refine s_ef (d := some 11) rfl rfl rfl (fun dr => r_call Try.call42 rfl rfl H) ?_ trivial
  rintro _ h5 ⟨y25, rfl, H⟩
  refine ⟨⟨trivial, trivial, trivial, trivial⟩, ?_⟩
  refine s_pu (d := some 12) (v := (.agg #[(.pointer y25)])) rfl rfl rfl (fun w => by kernel_rfl) ?_
  obtain ⟨e27, H⟩ := H
  obtain ⟨h6, e26⟩ : ∃ hh : Heap, hh = hsets h5 p10 0 [(.pointer y25)] := ⟨_, rfl⟩
  have H := H h6 e26
  refine s_st (d := none) (h' := h6) rfl rfl rfl (fun dr => (r_store (v := (.agg #[(.pointer y25)])) Try.sizeOf40 rfl rfl rfl (one_all rfl) e27).trans (by rw [e26]; rfl)) ⟨trivial, trivial, trivial, trivial⟩ ?_ trivial
  refine s_fin ?_
  show W _ _ _ _ _ _ _ _
  refine W_ret ?_
  obtain ⟨x28, e29, H⟩ := H
  exact ⟨[(.agg #[(.pointer x28)])], ⟨_, _, _, rfl, rfl, fun dr => run_loadVarN Try.isAgg40 Try.sizeOf40 (vs := [(.pointer x28)]) rfl ⟨e29, trivial⟩, rfl⟩, x28, rfl, H⟩

/-! ### prio_Queue_Top -/

def prio_Queue_Top_F (r : World) (q1 : Option Addr) (h : Heap) (R : Int → Int → Bool → Heap → Prop) : Prop :=
  New h (.cells #[(.pointer q1)] 40) fun p2 h1 =>
  New h1 (.cells #[(.int .i64 0), (.int .i64 0)] 43) fun p5 h2 =>
  LdP h2 (Addr.add p2 0) fun x8 =>
  prio_Queue_Len r x8 h2 fun y10 h3 =>
  Br (decide (y10 = 0)) (
    St h3 p5 2 [(.int .i64 0), (.int .i64 0)] fun h4 =>
    LdI h4 (Addr.add p5 0) fun x13 =>
    LdI h4 (Addr.add p5 1) fun x15 =>
    R x13 x15 false h4) (
    LdP h3 (Addr.add (Addr.add p2 0) 0) fun x17 =>
    LdP h3 (Addr.add p2 0) fun x19 =>
    prio_Queue_first r x19 h3 fun y21 h5 =>
    (hcell h5 (Addr.add (Addr.add p2 0) 0) = some (.pointer x17)) ∧
    finger_Many_api_Item_prio_top_prio_tops_At r x17 y21 h5 fun y23 y24 h6 =>
    St h6 p5 2 [(.int .i64 y23), (.int .i64 y24)] fun h7 =>
    LdI h7 (Addr.add p5 0) fun x27 =>
    LdI h7 (Addr.add p5 1) fun x29 =>
    R x27 x29 true h7)

set_option maxRecDepth 100000 in
theorem prio_Queue_Top_of {r : World} {q1 : Option Addr} {h : Heap} {R : Int → Int → Bool → Heap → Prop} (H : prio_Queue_Top_F r q1 h R) : prio_Queue_Top r q1 h R := by
  unfold prio_Queue_Top_F at H
  refine calls_of 13 [.cell 2 43, .tmp 3] Try.func19 rfl rfl rfl rfl rfl ?_
  refine W_seq ?_
  refine W_region (.ef 0 [] (.ef 1 [] (.pu 2 .fin) .no) .no) rfl rfl ?_
  obtain ⟨p2, e3⟩ : ∃ p : Addr, p = ⟨h.size, 0, none⟩ := ⟨_, rfl⟩
  obtain ⟨h1, e4⟩ : ∃ hh : Heap, hh = h.push (.cells #[(.pointer q1)] 40) := ⟨_, rfl⟩
  have H := H p2 h1 e3 e4
  refine s_ef1 (d := some 1) (v := (.pointer (some p2))) (h' := h1) rfl rfl rfl (fun dr => (r_box (v := (.agg #[(.pointer q1)])) rfl).trans (by rw [e3, e4]; rfl)) trivial ?_ trivial
  obtain ⟨p5, e6⟩ : ∃ p : Addr, p = ⟨h1.size, 0, none⟩ := ⟨_, rfl⟩
  obtain ⟨h2, e7⟩ : ∃ hh : Heap, hh = h1.push (.cells #[(.int .i64 0), (.int .i64 0)] 43) := ⟨_, rfl⟩
  have H := H p5 h2 e6 e7
  refine s_ef1 (d := some 2) (v := (.pointer (some p5))) (h' := h2) rfl rfl rfl (fun dr => (r_alloc Try.zeroValue43).trans (by rw [e6, e7]; rfl)) trivial ?_ trivial
  refine s_pu (d := some 3) (v := (.bool false)) rfl rfl rfl (r_assign rfl) ?_
  refine s_fin ?_
  show W _ _ _ _ _ _ _ _
  refine W_seq ?_
  refine W_seq ?_
  refine W_region (.rl 0 (.ef 1 [] (.pu 2 .fin) .no)) rfl rfl ?_
  obtain ⟨x8, e9, H⟩ := H
  refine s_rl (d := some 4) (v := (.agg #[(.pointer x8)])) rfl rfl rfl (fun dr => r_loadN Try.isAgg40 Try.sizeOf40 (vs := [(.pointer x8)]) rfl rfl ⟨e9, trivial⟩) ?_
  refine s_ef (d := some 5) rfl rfl rfl (fun dr => r_call Try.call24 rfl rfl H) ?_ trivial
  rintro _ h3 ⟨y10, rfl, H⟩
  refine ⟨trivial, ?_⟩
  refine s_pu (d := some 6) (v := (.bool (decide (y10 = 0)))) rfl rfl rfl (r_eql rfl rfl) ?_
  refine s_fin ?_
  show W _ _ _ _ _ _ _ _
  refine W_if (decide (y10 = 0)) rfl (fun g31 => ?_) (fun g31 => ?_)
  · have H := H.1 g31
    refine W_seq ?_
    refine W_region (.pu 0 (.ef 1 [] (.pu 2 .fin) .no)) rfl rfl ?_
    refine s_pu (d := some 7) (v := (.agg #[(.int .i64 0), (.int .i64 0)])) rfl rfl rfl (fun w => by kernel_rfl) ?_
    obtain ⟨e12, H⟩ := H
    obtain ⟨h4, e11⟩ : ∃ hh : Heap, hh = hsets h3 p5 0 [(.int .i64 0), (.int .i64 0)] := ⟨_, rfl⟩
    have H := H h4 e11
    refine s_st (d := none) (h' := h4) rfl rfl rfl (fun dr => (r_store (v := (.agg #[(.int .i64 0), (.int .i64 0)])) Try.sizeOf43 rfl rfl rfl (one_all rfl) e12).trans (by rw [e11]; rfl)) trivial ?_ trivial
    refine s_pu (d := some 3) (v := (.bool false)) rfl rfl rfl (r_assign rfl) ?_
    refine s_fin ?_
    show W _ _ _ _ _ _ _ _
    refine W_ret ?_
    obtain ⟨x13, e14, H⟩ := H
    obtain ⟨x15, e16, H⟩ := H
    exact ⟨[(.agg #[(.int .i64 x13), (.int .i64 x15)]), (.bool false)], ⟨_, _, _, rfl, rfl, fun dr => run_loadVarN Try.isAgg43 Try.sizeOf43 (vs := [(.int .i64 x13), (.int .i64 x15)]) rfl ⟨e14, e16, trivial⟩, ⟨_, _, rfl, rfl, rfl⟩⟩, x13, x15, false, rfl, H⟩
  · have H := H.2 g31
    refine W_skip ?_
    show W _ _ _ _ _ _ _ _
    refine W_seq ?_
    refine W_draw [0, 1, 0, 4, 15, 31, 63] (.pu 0 (.rd 1 (.rd 2 (.ef 3 [2] (.ef 4 [1, 2] (.ef 5 [1, 2] (.pu 6 .fin) .no) .no) .no)))) (by kernel_rfl) (by kernel_rfl) ?_
    refine s_pu (d := some 8) (v := (.pointer (some (Addr.add p2 0)))) rfl rfl rfl (r_fieldAddr Try.underlying40 Try.sizeOf38 rfl rfl rfl) ?_
    obtain ⟨x17, e18, H⟩ := H
    refine s_rd (d := some 9) (v := (.agg #[(.pointer x17)])) rfl rfl rfl (fun dr => r_loadN Try.isAgg38 Try.sizeOf38 (vs := [(.pointer x17)]) rfl rfl ⟨e18, trivial⟩) ?_
    obtain ⟨x19, e20, H⟩ := H
    refine s_rd (d := some 10) (v := (.agg #[(.pointer x19)])) rfl rfl rfl (fun dr => r_loadN Try.isAgg40 Try.sizeOf40 (vs := [(.pointer x19)]) rfl rfl ⟨e20, trivial⟩) ?_
    refine s_ef (d := some 11) rfl rfl rfl (fun dr => r_call Try.call45 rfl rfl H) ?_ trivial
    rintro _ h5 ⟨y21, rfl, H⟩
    obtain ⟨e22, H⟩ := H
    refine ⟨⟨trivial, (.inl ⟨rfl, fun dr => r_loadN Try.isAgg38 Try.sizeOf38 (vs := [(.pointer x17)]) rfl rfl ⟨e22, trivial⟩⟩), trivial⟩, ?_⟩
    refine s_ef (d := some 12) rfl rfl rfl (fun dr => r_call Try.call44 rfl rfl H) ?_ trivial
    rintro _ h6 ⟨y23, y24, rfl, H⟩
    refine ⟨⟨trivial, trivial, trivial⟩, ?_⟩
    obtain ⟨e26, H⟩ := H
    obtain ⟨h7, e25⟩ : ∃ hh : Heap, hh = hsets h6 p5 0 [(.int .i64 y23), (.int .i64 y24)] := ⟨_, rfl⟩
    have H := H h7 e25
    refine s_st (d := none) (h' := h7) rfl rfl rfl (fun dr => (r_store (v := (.agg #[(.int .i64 y23), (.int .i64 y24)])) Try.sizeOf43 rfl rfl rfl (one_all rfl) e26).trans (by rw [e25]; rfl)) ⟨trivial, trivial, trivial⟩ ?_ trivial
    refine s_pu (d := some 3) (v := (.bool true)) rfl rfl rfl (r_assign rfl) ?_
    refine s_fin ?_
    show W _ _ _ _ _ _ _ _
    refine W_ret ?_
    obtain ⟨x27, e28, H⟩ := H
    obtain ⟨x29, e30, H⟩ := H
    exact ⟨[(.agg #[(.int .i64 x27), (.int .i64 x29)]), (.bool true)], ⟨_, _, _, rfl, rfl, fun dr => run_loadVarN Try.isAgg43 Try.sizeOf43 (vs := [(.int .i64 x27), (.int .i64 x29)]) rfl ⟨e28, e30, trivial⟩, ⟨_, _, rfl, rfl, rfl⟩⟩, x27, x29, true, rfl, H⟩

/-! ### prio_Queue_Join -/

def prio_Queue_Join_F (r : World) (q1 : Option Addr) (vr2 : Option Addr) (h : Heap) (R : Option Addr → Heap → Prop) : Prop :=
  New h (.cells #[(.pointer q1)] 40) fun p3 h1 =>
  New h1 (.cells #[(.pointer vr2)] 40) fun p6 h2 =>
  New h2 (.cells #[(.pointer none)] 40) fun p9 h3 =>
  LdP h3 (Addr.add (Addr.add p3 0) 0) fun x12 =>
  LdP h3 (Addr.add (Addr.add p6 0) 0) fun x14 =>
  finger_Many_api_Item_prio_top_prio_tops_Join r x12 x14 h3 fun y16 h4 =>
  St h4 p9 1 [(.pointer y16)] fun h5 =>
  LdP h5 (Addr.add p9 0) fun x19 =>
  R x19 h5

set_option maxRecDepth 100000 in
theorem prio_Queue_Join_of {r : World} {q1 : Option Addr} {vr2 : Option Addr} {h : Heap} {R : Option Addr → Heap → Prop} (H : prio_Queue_Join_F r q1 vr2 h R) : prio_Queue_Join r q1 vr2 h R := by
  unfold prio_Queue_Join_F at H
  refine calls_of 11 [.cell 4 40] Try.func20 rfl rfl rfl rfl rfl ?_
  refine W_seq ?_
  refine W_region (.ef 0 [] (.ef 1 [] (.ef 2 [] .fin .no) .no) .no) rfl rfl ?_
  obtain ⟨p3, e4⟩ : ∃ p : Addr, p = ⟨h.size, 0, none⟩ := ⟨_, rfl⟩
  obtain ⟨h1, e5⟩ : ∃ hh : Heap, hh = h.push (.cells #[(.pointer q1)] 40) := ⟨_, rfl⟩
  have H := H p3 h1 e4 e5
  refine s_ef1 (d := some 2) (v := (.pointer (some p3))) (h' := h1) rfl rfl rfl (fun dr => (r_box (v := (.agg #[(.pointer q1)])) rfl).trans (by rw [e4, e5]; rfl)) trivial ?_ trivial
  obtain ⟨p6, e7⟩ : ∃ p : Addr, p = ⟨h1.size, 0, none⟩ := ⟨_, rfl⟩
  obtain ⟨h2, e8⟩ : ∃ hh : Heap, hh = h1.push (.cells #[(.pointer vr2)] 40) := ⟨_, rfl⟩
  have H := H p6 h2 e7 e8
  refine s_ef1 (d := some 3) (v := (.pointer (some p6))) (h' := h2) rfl rfl rfl (fun dr => (r_box (v := (.agg #[(.pointer vr2)])) rfl).trans (by rw [e7, e8]; rfl)) trivial ?_ trivial
  obtain ⟨p9, e10⟩ : ∃ p : Addr, p = ⟨h2.size, 0, none⟩ := ⟨_, rfl⟩
  obtain ⟨h3, e11⟩ : ∃ hh : Heap, hh = h2.push (.cells #[(.pointer none)] 40) := ⟨_, rfl⟩
  have H := H p9 h3 e10 e11
  refine s_ef1 (d := some 4) (v := (.pointer (some p9))) (h' := h3) rfl rfl rfl (fun dr => (r_alloc Try.zeroValue40).trans (by rw [e10, e11]; rfl)) trivial ?_ trivial
  refine s_fin ?_
  show W _ _ _ _ _ _ _ _
  refine W_seq ?_
  refine W_region (.pu 0 (.rl 1 (.pu 2 (.rl 3 (.ef 4 [] (.pu 5 (.ef 6 [] .fin .no)) .no))))) rfl rfl ?_
  refine s_pu (d := some 5) (v := (.pointer (some (Addr.add p3 0)))) rfl rfl rfl (r_fieldAddr Try.underlying40 Try.sizeOf38 rfl rfl rfl) ?_
  obtain ⟨x12, e13, H⟩ := H
  refine s_rl (d := some 6) (v := (.agg #[(.pointer x12)])) rfl rfl rfl (fun dr => r_loadN Try.isAgg38 Try.sizeOf38 (vs := [(.pointer x12)]) rfl rfl ⟨e13, trivial⟩) ?_
  refine s_pu (d := some 7) (v := (.pointer (some (Addr.add p6 0)))) rfl rfl rfl (r_fieldAddr Try.underlying40 Try.sizeOf38 rfl rfl rfl) ?_
  obtain ⟨x14, e15, H⟩ := H
  refine s_rl (d := some 8) (v := (.agg #[(.pointer x14)])) rfl rfl rfl (fun dr => r_loadN Try.isAgg38 Try.sizeOf38 (vs := [(.pointer x14)]) rfl rfl ⟨e15, trivial⟩) ?_
  refine s_ef (d := some 9) rfl rfl rfl (fun dr => r_call Try.call46 rfl rfl H) ?_ trivial
  rintro _ h4 ⟨y16, rfl, H⟩
  refine ⟨trivial, ?_⟩
  refine s_pu (d := some 10) (v := (.agg #[(.pointer y16)])) rfl rfl rfl (fun w => by kernel_rfl) ?_
  obtain ⟨e18, H⟩ := H
  obtain ⟨h5, e17⟩ : ∃ hh : Heap, hh = hsets h4 p9 0 [(.pointer y16)] := ⟨_, rfl⟩
  have H := H h5 e17
  refine s_st (d := none) (h' := h5) rfl rfl rfl (fun dr => (r_store (v := (.agg #[(.pointer y16)])) Try.sizeOf40 rfl rfl rfl (one_all rfl) e18).trans (by rw [e17]; rfl)) trivial ?_ trivial
  refine s_fin ?_
  show W _ _ _ _ _ _ _ _
  refine W_ret ?_
  obtain ⟨x19, e20, H⟩ := H
  exact ⟨[(.agg #[(.pointer x19)])], ⟨_, _, _, rfl, rfl, fun dr => run_loadVarN Try.isAgg40 Try.sizeOf40 (vs := [(.pointer x19)]) rfl ⟨e20, trivial⟩, rfl⟩, x19, rfl, H⟩

/-! ### prio_Queue_Items -/

def prio_Queue_Items_F (r : World) (q1 : Option Addr) (h : Heap) (R : Sl → Heap → Prop) : Prop :=
  New h (.cells #[(.pointer q1)] 40) fun p2 h1 =>
  LdP h1 (Addr.add (Addr.add p2 0) 0) fun x5 =>
  finger_Many_api_Item_prio_top_prio_tops_All r x5 h1 fun y7 h2 =>
  R y7 h2

set_option maxRecDepth 100000 in
theorem prio_Queue_Items_of {r : World} {q1 : Option Addr} {h : Heap} {R : Sl → Heap → Prop} (H : prio_Queue_Items_F r q1 h R) : prio_Queue_Items r q1 h R := by
  unfold prio_Queue_Items_F at H
  refine calls_of 6 [.tmp 2] Try.func22 rfl rfl rfl rfl rfl ?_
  refine W_seq ?_
  refine W_region (.ef 0 [] (.pu 1 .fin) .no) rfl rfl ?_
  obtain ⟨p2, e3⟩ : ∃ p : Addr, p = ⟨h.size, 0, none⟩ := ⟨_, rfl⟩
  obtain ⟨h1, e4⟩ : ∃ hh : Heap, hh = h.push (.cells #[(.pointer q1)] 40) := ⟨_, rfl⟩
  have H := H p2 h1 e3 e4
  refine s_ef1 (d := some 1) (v := (.pointer (some p2))) (h' := h1) rfl rfl rfl (fun dr => (r_box (v := (.agg #[(.pointer q1)])) rfl).trans (by rw [e3, e4]; rfl)) trivial ?_ trivial
  refine s_pu (d := some 2) (v := (Sl.v Sl.nil)) rfl rfl rfl (r_assign rfl) ?_
  refine s_fin ?_
  show W _ _ _ _ _ _ _ _
  refine W_seq ?_
  refine W_region (.pu 0 (.rl 1 (.ef 2 [] (.pu 3 .fin) .no))) rfl rfl ?_
  refine s_pu (d := some 3) (v := (.pointer (some (Addr.add p2 0)))) rfl rfl rfl (r_fieldAddr Try.underlying40 Try.sizeOf38 rfl rfl rfl) ?_
  obtain ⟨x5, e6, H⟩ := H
  refine s_rl (d := some 4) (v := (.agg #[(.pointer x5)])) rfl rfl rfl (fun dr => r_loadN Try.isAgg38 Try.sizeOf38 (vs := [(.pointer x5)]) rfl rfl ⟨e6, trivial⟩) ?_
  refine s_ef (d := some 5) rfl rfl rfl (fun dr => r_call Try.call47 rfl rfl H) ?_ trivial
  rintro _ h2 ⟨y7, rfl, H⟩
  refine ⟨trivial, ?_⟩
  refine s_pu (d := some 2) (v := (Sl.v y7)) rfl rfl rfl (r_assign rfl) ?_
  refine s_fin ?_
  show W _ _ _ _ _ _ _ _
  refine W_ret ?_
  exact ⟨[(Sl.v y7)], ⟨_, _, rfl, rfl, rfl⟩, y7, rfl, H⟩

/-! ### prio_Queue_Pop -/

def prio_Queue_Pop_F (r : World) (q1 : Option Addr) (h : Heap) (R : Int → Int → Option Addr → Bool → Heap → Prop) : Prop :=
  New h (.cells #[(.pointer q1)] 40) fun p2 h1 =>
  New h1 (.cells #[(.int .i64 0), (.int .i64 0)] 43) fun p5 h2 =>
  New h2 (.cells #[(.pointer none)] 40) fun p8 h3 =>
  LdP h3 (Addr.add p2 0) fun x11 =>
  prio_Queue_Len r x11 h3 fun y13 h4 =>
  Br (decide (y13 = 0)) (
    St h4 p5 2 [(.int .i64 0), (.int .i64 0)] fun h5 =>
    St h5 p8 1 [(.pointer none)] fun h6 =>
    LdI h6 (Addr.add p5 0) fun x18 =>
    LdI h6 (Addr.add p5 1) fun x20 =>
    LdP h6 (Addr.add p8 0) fun x22 =>
    R x18 x20 x22 false h6) (
    LdP h4 (Addr.add p2 0) fun x24 =>
    prio_Queue_first r x24 h4 fun y26 h7 =>
    LdP h7 (Addr.add (Addr.add p2 0) 0) fun x27 =>
    LdP h7 (Addr.add (Addr.add p2 0) 0) fun x29 =>
    finger_Many_api_Item_prio_top_prio_tops_At r x27 y26 h7 fun y31 y32 h8 =>
    (hcell h8 (Addr.add (Addr.add p2 0) 0) = some (.pointer x29)) ∧
    finger_Many_api_Item_prio_top_prio_tops_Cut r x29 y26 (w64 (y26 + 1)) h8 fun y34 h9 =>
    St h9 p5 2 [(.int .i64 y31), (.int .i64 y32)] fun h10 =>
    St h10 p8 1 [(.pointer y34)] fun h11 =>
    LdI h11 (Addr.add p5 0) fun x39 =>
    LdI h11 (Addr.add p5 1) fun x41 =>
    LdP h11 (Addr.add p8 0) fun x43 =>
    R x39 x41 x43 true h11)

set_option maxRecDepth 100000 in
theorem prio_Queue_Pop_of {r : World} {q1 : Option Addr} {h : Heap} {R : Int → Int → Option Addr → Bool → Heap → Prop} (H : prio_Queue_Pop_F r q1 h R) : prio_Queue_Pop r q1 h R := by
  unfold prio_Queue_Pop_F at H
  refine calls_of 24 [.cell 2 43, .cell 3 40, .tmp 4] Try.func23 rfl rfl rfl rfl rfl ?_
  refine W_seq ?_
  refine W_region (.ef 0 [] (.ef 1 [] (.ef 2 [] (.pu 3 .fin) .no) .no) .no) rfl rfl ?_
  obtain ⟨p2, e3⟩ : ∃ p : Addr, p = ⟨h.size, 0, none⟩ := ⟨_, rfl⟩
  obtain ⟨h1, e4⟩ : ∃ hh : Heap, hh = h.push (.cells #[(.pointer q1)] 40) := ⟨_, rfl⟩
  have H := H p2 h1 e3 e4
  refine s_ef1 (d := some 1) (v := (.pointer (some p2))) (h' := h1) rfl rfl rfl (fun dr => (r_box (v := (.agg #[(.pointer q1)])) rfl).trans (by rw [e3, e4]; rfl)) trivial ?_ trivial
  obtain ⟨p5, e6⟩ : ∃ p : Addr, p = ⟨h1.size, 0, none⟩ := ⟨_, rfl⟩
  obtain ⟨h2, e7⟩ : ∃ hh : Heap, hh = h1.push (.cells #[(.int .i64 0), (.int .i64 0)] 43) := ⟨_, rfl⟩
  have H := H p5 h2 e6 e7
  refine s_ef1 (d := some 2) (v := (.pointer (some p5))) (h' := h2) rfl rfl rfl (fun dr => (r_alloc Try.zeroValue43).trans (by rw [e6, e7]; rfl)) trivial ?_ trivial
  obtain ⟨p8, e9⟩ : ∃ p : Addr, p = ⟨h2.size, 0, none⟩ := ⟨_, rfl⟩
  obtain ⟨h3, e10⟩ : ∃ hh : Heap, hh = h2.push (.cells #[(.pointer none)] 40) := ⟨_, rfl⟩
  have H := H p8 h3 e9 e10
  refine s_ef1 (d := some 3) (v := (.pointer (some p8))) (h' := h3) rfl rfl rfl (fun dr => (r_alloc Try.zeroValue40).trans (by rw [e9, e10]; rfl)) trivial ?_ trivial
  refine s_pu (d := some 4) (v := (.bool false)) rfl rfl rfl (r_assign rfl) ?_
  refine s_fin ?_
  show W _ _ _ _ _ _ _ _
  refine W_seq ?_
  refine W_seq ?_
  refine W_region (.rl 0 (.ef 1 [] (.pu 2 .fin) .no)) rfl rfl ?_
  obtain ⟨x11, e12, H⟩ := H
  refine s_rl (d := some 6) (v := (.agg #[(.pointer x11)])) rfl rfl rfl (fun dr => r_loadN Try.isAgg40 Try.sizeOf40 (vs := [(.pointer x11)]) rfl rfl ⟨e12, trivial⟩) ?_
  refine s_ef (d := some 7) rfl rfl rfl (fun dr => r_call Try.call24 rfl rfl H) ?_ trivial
  rintro _ h4 ⟨y13, rfl, H⟩
  refine ⟨trivial, ?_⟩
  refine s_pu (d := some 8) (v := (.bool (decide (y13 = 0)))) rfl rfl rfl (r_eql rfl rfl) ?_
  refine s_fin ?_
  show W _ _ _ _ _ _ _ _
  refine W_if (decide (y13 = 0)) rfl (fun g45 => ?_) (fun g45 => ?_)
  · have H := H.1 g45
    refine W_seq ?_
    refine W_region (.pu 0 (.pu 1 (.ef 2 [] (.ef 3 [] (.pu 4 .fin) .no) .no))) rfl rfl ?_
    refine s_pu (d := some 9) (v := (.agg #[(.int .i64 0), (.int .i64 0)])) rfl rfl rfl (fun w => by kernel_rfl) ?_
    refine s_pu (d := some 10) (v := (.agg #[(.pointer none)])) rfl rfl rfl (fun w => by kernel_rfl) ?_
    obtain ⟨e15, H⟩ := H
    obtain ⟨h5, e14⟩ : ∃ hh : Heap, hh = hsets h4 p5 0 [(.int .i64 0), (.int .i64 0)] := ⟨_, rfl⟩
    have H := H h5 e14
    refine s_st (d := none) (h' := h5) rfl rfl rfl (fun dr => (r_store (v := (.agg #[(.int .i64 0), (.int .i64 0)])) Try.sizeOf43 rfl rfl rfl (one_all rfl) e15).trans (by rw [e14]; rfl)) trivial ?_ trivial
    obtain ⟨e17, H⟩ := H
    obtain ⟨h6, e16⟩ : ∃ hh : Heap, hh = hsets h5 p8 0 [(.pointer none)] := ⟨_, rfl⟩
    have H := H h6 e16
    refine s_st (d := none) (h' := h6) rfl rfl rfl (fun dr => (r_store (v := (.agg #[(.pointer none)])) Try.sizeOf40 rfl rfl rfl (one_all rfl) e17).trans (by rw [e16]; rfl)) trivial ?_ trivial
    refine s_pu (d := some 4) (v := (.bool false)) rfl rfl rfl (r_assign rfl) ?_
    refine s_fin ?_
    show W _ _ _ _ _ _ _ _
    refine W_ret ?_
    obtain ⟨x18, e19, H⟩ := H
    obtain ⟨x20, e21, H⟩ := H
    obtain ⟨x22, e23, H⟩ := H
    exact ⟨[(.agg #[(.int .i64 x18), (.int .i64 x20)]), (.agg #[(.pointer x22)]), (.bool false)], ⟨_, _, _, rfl, rfl, fun dr => run_loadVarN Try.isAgg43 Try.sizeOf43 (vs := [(.int .i64 x18), (.int .i64 x20)]) rfl ⟨e19, e21, trivial⟩, ⟨_, _, _, rfl, rfl, fun dr => run_loadVarN Try.isAgg40 Try.sizeOf40 (vs := [(.pointer x22)]) rfl ⟨e23, trivial⟩, ⟨_, _, rfl, rfl, rfl⟩⟩⟩, x18, x20, x22, false, rfl, H⟩
  · have H := H.2 g45
    refine W_skip ?_
    show W _ _ _ _ _ _ _ _
    refine W_seq ?_
    refine W_region (.rl 0 (.ef 1 [] (.pu 2 .fin) .no)) rfl rfl ?_
    obtain ⟨x24, e25, H⟩ := H
    refine s_rl (d := some 11) (v := (.agg #[(.pointer x24)])) rfl rfl rfl (fun dr => r_loadN Try.isAgg40 Try.sizeOf40 (vs := [(.pointer x24)]) rfl rfl ⟨e25, trivial⟩) ?_
    refine s_ef (d := some 12) rfl rfl rfl (fun dr => r_call Try.call45 rfl rfl H) ?_ trivial
    rintro _ h7 ⟨y26, rfl, H⟩
    refine ⟨trivial, ?_⟩
    refine s_pu (d := some 5) (v := (.int .i64 y26)) rfl rfl rfl (r_assign rfl) ?_
    refine s_fin ?_
    show W _ _ _ _ _ _ _ _
    refine W_seq ?_
    refine W_draw [0, 1, 0, 7, 0, 16, 0, 0, 128, 511, 1023, 1023, 4095, 8191] (.pu 0 (.rd 1 (.pu 2 (.pu 4 (.rd 5 (.pu 6 (.pu 7 (.pu 8 (.ef 3 [1] (.ef 9 [1, 5] (.pu 10 (.ef 11 [1, 5] (.ef 12 [1, 5] (.pu 13 .fin) .no) .no)) .no) .no))))))))) (by kernel_rfl) (by kernel_rfl) ?_
    refine s_pu (d := some 13) (v := (.pointer (some (Addr.add p2 0)))) rfl rfl rfl (r_fieldAddr Try.underlying40 Try.sizeOf38 rfl rfl rfl) ?_
    obtain ⟨x27, e28, H⟩ := H
    refine s_rd (d := some 14) (v := (.agg #[(.pointer x27)])) rfl rfl rfl (fun dr => r_loadN Try.isAgg38 Try.sizeOf38 (vs := [(.pointer x27)]) rfl rfl ⟨e28, trivial⟩) ?_
    refine s_pu (d := some 15) (v := (.int .i64 y26)) rfl rfl rfl (r_move rfl) ?_
    refine s_pu (d := some 17) (v := (.pointer (some (Addr.add p2 0)))) rfl rfl rfl (r_fieldAddr Try.underlying40 Try.sizeOf38 rfl rfl rfl) ?_
    obtain ⟨x29, e30, H⟩ := H
    refine s_rd (d := some 18) (v := (.agg #[(.pointer x29)])) rfl rfl rfl (fun dr => r_loadN Try.isAgg38 Try.sizeOf38 (vs := [(.pointer x29)]) rfl rfl ⟨e30, trivial⟩) ?_
    refine s_pu (d := some 19) (v := (.int .i64 y26)) rfl rfl rfl (r_move rfl) ?_
    refine s_pu (d := some 20) (v := (.int .i64 y26)) rfl rfl rfl (r_move rfl) ?_
    refine s_pu (d := some 21) (v := (.int .i64 (w64 (y26 + 1)))) rfl rfl rfl (r_add rfl rfl) ?_
    refine s_ef (d := some 16) rfl rfl rfl (fun dr => r_call Try.call44 rfl rfl H) ?_ trivial
    rintro _ h8 ⟨y31, y32, rfl, H⟩
    obtain ⟨e33, H⟩ := H
    refine ⟨⟨(.inl ⟨rfl, fun dr => r_loadN Try.isAgg38 Try.sizeOf38 (vs := [(.pointer x29)]) rfl rfl ⟨e33, trivial⟩⟩), trivial, trivial⟩, ?_⟩
    refine s_ef (d := some 22) rfl rfl rfl (fun dr => r_call Try.call48 rfl rfl H) ?_ trivial
    rintro _ h9 ⟨y34, rfl, H⟩
    refine ⟨⟨trivial, trivial, trivial⟩, ?_⟩
    refine s_pu (d := some 23) (v := (.agg #[(.pointer y34)])) rfl rfl rfl (fun w => by kernel_rfl) ?_
    obtain ⟨e36, H⟩ := H
    obtain ⟨h10, e35⟩ : ∃ hh : Heap, hh = hsets h9 p5 0 [(.int .i64 y31), (.int .i64 y32)] := ⟨_, rfl⟩
    have H := H h10 e35
    refine s_st (d := none) (h' := h10) rfl rfl rfl (fun dr => (r_store (v := (.agg #[(.int .i64 y31), (.int .i64 y32)])) Try.sizeOf43 rfl rfl rfl (one_all rfl) e36).trans (by rw [e35]; rfl)) ⟨trivial, trivial, trivial⟩ ?_ trivial
    obtain ⟨e38, H⟩ := H
    obtain ⟨h11, e37⟩ : ∃ hh : Heap, hh = hsets h10 p8 0 [(.pointer y34)] := ⟨_, rfl⟩
    have H := H h11 e37
    refine s_st (d := none) (h' := h11) rfl rfl rfl (fun dr => (r_store (v := (.agg #[(.pointer y34)])) Try.sizeOf40 rfl rfl rfl (one_all rfl) e38).trans (by rw [e37]; rfl)) ⟨trivial, trivial, trivial⟩ ?_ trivial
    refine s_pu (d := some 4) (v := (.bool true)) rfl rfl rfl (r_assign rfl) ?_
    refine s_fin ?_
    show W _ _ _ _ _ _ _ _
    refine W_ret ?_
    obtain ⟨x39, e40, H⟩ := H
    obtain ⟨x41, e42, H⟩ := H
    obtain ⟨x43, e44, H⟩ := H
    exact ⟨[(.agg #[(.int .i64 x39), (.int .i64 x41)]), (.agg #[(.pointer x43)]), (.bool true)], ⟨_, _, _, rfl, rfl, fun dr => run_loadVarN Try.isAgg43 Try.sizeOf43 (vs := [(.int .i64 x39), (.int .i64 x41)]) rfl ⟨e40, e42, trivial⟩, ⟨_, _, _, rfl, rfl, fun dr => run_loadVarN Try.isAgg40 Try.sizeOf40 (vs := [(.pointer x43)]) rfl ⟨e44, trivial⟩, ⟨_, _, rfl, rfl, rfl⟩⟩⟩, x39, x41, x43, true, rfl, H⟩

/-! ### prio_Queue_Len -/

def prio_Queue_Len_F (r : World) (q1 : Option Addr) (h : Heap) (R : Int → Heap → Prop) : Prop :=
  New h (.cells #[(.pointer q1)] 40) fun p2 h1 =>
  LdP h1 (Addr.add (Addr.add p2 0) 0) fun x5 =>
  finger_Many_api_Item_prio_top_prio_tops_Len r x5 h1 fun y7 h2 =>
  R y7 h2

set_option maxRecDepth 100000 in
theorem prio_Queue_Len_of {r : World} {q1 : Option Addr} {h : Heap} {R : Int → Heap → Prop} (H : prio_Queue_Len_F r q1 h R) : prio_Queue_Len r q1 h R := by
  unfold prio_Queue_Len_F at H
  refine calls_of 6 [.tmp 2] Try.func24 rfl rfl rfl rfl rfl ?_
  refine W_seq ?_
  refine W_region (.ef 0 [] (.pu 1 .fin) .no) rfl rfl ?_
  obtain ⟨p2, e3⟩ : ∃ p : Addr, p = ⟨h.size, 0, none⟩ := ⟨_, rfl⟩
  obtain ⟨h1, e4⟩ : ∃ hh : Heap, hh = h.push (.cells #[(.pointer q1)] 40) := ⟨_, rfl⟩
  have H := H p2 h1 e3 e4
  refine s_ef1 (d := some 1) (v := (.pointer (some p2))) (h' := h1) rfl rfl rfl (fun dr => (r_box (v := (.agg #[(.pointer q1)])) rfl).trans (by rw [e3, e4]; rfl)) trivial ?_ trivial
  refine s_pu (d := some 2) (v := (.int .i64 0)) rfl rfl rfl (r_assign rfl) ?_
  refine s_fin ?_
  show W _ _ _ _ _ _ _ _
  refine W_seq ?_
  refine W_region (.pu 0 (.rl 1 (.ef 2 [] (.pu 3 .fin) .no))) rfl rfl ?_
  refine s_pu (d := some 3) (v := (.pointer (some (Addr.add p2 0)))) rfl rfl rfl (r_fieldAddr Try.underlying40 Try.sizeOf38 rfl rfl rfl) ?_
  obtain ⟨x5, e6, H⟩ := H
  refine s_rl (d := some 4) (v := (.agg #[(.pointer x5)])) rfl rfl rfl (fun dr => r_loadN Try.isAgg38 Try.sizeOf38 (vs := [(.pointer x5)]) rfl rfl ⟨e6, trivial⟩) ?_
  refine s_ef (d := some 5) rfl rfl rfl (fun dr => r_call Try.call43 rfl rfl H) ?_ trivial
  rintro _ h2 ⟨y7, rfl, H⟩
  refine ⟨trivial, ?_⟩
  refine s_pu (d := some 2) (v := (.int .i64 y7)) rfl rfl rfl (r_assign rfl) ?_
  refine s_fin ?_
  show W _ _ _ _ _ _ _ _
  refine W_ret ?_
  exact ⟨[(.int .i64 y7)], ⟨_, _, rfl, rfl, rfl⟩, y7, rfl, H⟩

/-! ### prio_Queue_first -/

def prio_Queue_first_F (r : World) (q1 : Option Addr) (h : Heap) (R : Int → Heap → Prop) : Prop :=
  New h (.cells #[(.pointer q1)] 40) fun p2 h1 =>
  LdP h1 (Addr.add (Addr.add p2 0) 0) fun x5 =>
  finger_Many_api_Item_prio_top_prio_tops_Sum r x5 h1 fun y7 y8 h2 =>
  New h2 (.cells #[(.int .i64 0)] 3) fun p9 h3 =>
  St h3 p9 1 [(.int .i64 y8)] fun h4 =>
  LdP h4 (Addr.add (Addr.add p2 0) 0) fun x14 =>
  finger_Many_api_Item_prio_top_prio_tops_Find r x14 ((.func (.func 75) #[] #[(.pointer (some p9))])) h4 fun y16 h5 =>
  R y16 h5

set_option maxRecDepth 100000 in
theorem prio_Queue_first_of {r : World} {q1 : Option Addr} {h : Heap} {R : Int → Heap → Prop} (H : prio_Queue_first_F r q1 h R) : prio_Queue_first r q1 h R := by
  unfold prio_Queue_first_F at H
  refine calls_of 12 [.tmp 2] Try.func45 rfl rfl rfl rfl rfl ?_
  refine W_seq ?_
  refine W_region (.ef 0 [] (.pu 1 .fin) .no) rfl rfl ?_
  obtain ⟨p2, e3⟩ : ∃ p : Addr, p = ⟨h.size, 0, none⟩ := ⟨_, rfl⟩
  obtain ⟨h1, e4⟩ : ∃ hh : Heap, hh = h.push (.cells #[(.pointer q1)] 40) := ⟨_, rfl⟩
  have H := H p2 h1 e3 e4
  refine s_ef1 (d := some 1) (v := (.pointer (some p2))) (h' := h1) rfl rfl rfl (fun dr => (r_box (v := (.agg #[(.pointer q1)])) rfl).trans (by rw [e3, e4]; rfl)) trivial ?_ trivial
  refine s_pu (d := some 2) (v := (.int .i64 0)) rfl rfl rfl (r_assign rfl) ?_
  refine s_fin ?_
  show W _ _ _ _ _ _ _ _
  refine W_seq ?_
  refine W_region (.pu 0 (.rl 1 (.ef 2 [] (.pu 3 (.ef 4 [] (.ef 5 [] .fin .no) .no)) .no))) rfl rfl ?_
  refine s_pu (d := some 4) (v := (.pointer (some (Addr.add p2 0)))) rfl rfl rfl (r_fieldAddr Try.underlying40 Try.sizeOf38 rfl rfl rfl) ?_
  obtain ⟨x5, e6, H⟩ := H
  refine s_rl (d := some 5) (v := (.agg #[(.pointer x5)])) rfl rfl rfl (fun dr => r_loadN Try.isAgg38 Try.sizeOf38 (vs := [(.pointer x5)]) rfl rfl ⟨e6, trivial⟩) ?_
  refine s_ef (d := some 6) rfl rfl rfl (fun dr => r_call Try.call73 rfl rfl H) ?_ trivial
  rintro _ h2 ⟨y7, y8, rfl, H⟩
  refine ⟨trivial, ?_⟩
  refine s_pu (d := some 7) (v := (.int .i64 y8)) rfl rfl rfl (fun w => by kernel_rfl) ?_
  obtain ⟨p9, e10⟩ : ∃ p : Addr, p = ⟨h2.size, 0, none⟩ := ⟨_, rfl⟩
  obtain ⟨h3, e11⟩ : ∃ hh : Heap, hh = h2.push (.cells #[(.int .i64 0)] 3) := ⟨_, rfl⟩
  have H := H p9 h3 e10 e11
  refine s_ef1 (d := some 3) (v := (.pointer (some p9))) (h' := h3) rfl rfl rfl (fun dr => (r_alloc Try.zeroValue3).trans (by rw [e10, e11]; rfl)) trivial ?_ trivial
  obtain ⟨e13, H⟩ := H
  obtain ⟨h4, e12⟩ : ∃ hh : Heap, hh = hsets h3 p9 0 [(.int .i64 y8)] := ⟨_, rfl⟩
  have H := H h4 e12
  refine s_st (d := none) (h' := h4) rfl rfl rfl (fun dr => (r_store (v := (.int .i64 y8)) Try.sizeOf3 rfl rfl rfl (one_all rfl) e13).trans (by rw [e12]; rfl)) trivial ?_ trivial
  refine s_fin ?_
  show W _ _ _ _ _ _ _ _
  refine W_seq ?_
  refine W_region (.pu 0 (.rl 1 (.pu 2 (.ef 3 [] (.pu 4 .fin) .no)))) rfl rfl ?_
  refine s_pu (d := some 8) (v := (.pointer (some (Addr.add p2 0)))) rfl rfl rfl (r_fieldAddr Try.underlying40 Try.sizeOf38 rfl rfl rfl) ?_
  obtain ⟨x14, e15, H⟩ := H
  refine s_rl (d := some 9) (v := (.agg #[(.pointer x14)])) rfl rfl rfl (fun dr => r_loadN Try.isAgg38 Try.sizeOf38 (vs := [(.pointer x14)]) rfl rfl ⟨e15, trivial⟩) ?_
  refine s_pu (d := some 10) (v := ((.func (.func 75) #[] #[(.pointer (some p9))]))) rfl rfl rfl (r_makeFunc rfl rfl) ?_
  refine s_ef (d := some 11) rfl rfl rfl (fun dr => r_call Try.call74 rfl rfl H) ?_ trivial
  rintro _ h5 ⟨y16, rfl, H⟩
  refine ⟨trivial, ?_⟩
  refine s_pu (d := some 2) (v := (.int .i64 y16)) rfl rfl rfl (r_assign rfl) ?_
  refine s_fin ?_
  show W _ _ _ _ _ _ _ _
  refine W_ret ?_
  exact ⟨[(.int .i64 y16)], ⟨_, _, rfl, rfl, rfl⟩, y16, rfl, H⟩

/-! ### prio_Queue_first_1 -/

def prio_Queue_first_1_F (r : World) (s1 : Bool) (s2 : Int) (c3 : Addr) (h : Heap) (R : Bool → Heap → Prop) : Prop :=
  New h (.cells #[(.bool s1), (.int .i64 s2)] 88) fun p4 h1 =>
  ∀ J8 : Bool → Prop, (∀ (x7 : Bool),
    (R x7 h1) →
    J8 x7) →
  LdB h1 (Addr.add p4 0) fun x10 =>
  Br x10 (
    LdI h1 (Addr.add p4 1) fun x13 =>
    LdI h1 c3 fun x15 =>
    J8 (decide (x13 = x15))) (
    J8 false)

set_option maxRecDepth 100000 in
theorem prio_Queue_first_1_of {r : World} {s1 : Bool} {s2 : Int} {c3 : Addr} {h : Heap} {R : Bool → Heap → Prop} (H : prio_Queue_first_1_F r s1 s2 c3 h R) : prio_Queue_first_1 r s1 s2 c3 h R := by
  unfold prio_Queue_first_1_F at H
  refine calls_of 12 [.tmp 3] Try.func75 rfl rfl rfl rfl rfl ?_
  refine W_seq ?_
  refine W_region (.ef 0 [] (.pu 1 .fin) .no) rfl rfl ?_
  obtain ⟨p4, e5⟩ : ∃ p : Addr, p = ⟨h.size, 0, none⟩ := ⟨_, rfl⟩
  obtain ⟨h1, e6⟩ : ∃ hh : Heap, hh = h.push (.cells #[(.bool s1), (.int .i64 s2)] 88) := ⟨_, rfl⟩
  have H := H p4 h1 e5 e6
  refine s_ef1 (d := some 2) (v := (.pointer (some p4))) (h' := h1) rfl rfl rfl (fun dr => (r_box (v := (.agg #[(.bool s1), (.int .i64 s2)])) rfl).trans (by rw [e5, e6]; rfl)) trivial ?_ trivial
  refine s_pu (d := some 3) (v := (.bool false)) rfl rfl rfl (r_assign rfl) ?_
  refine s_fin ?_
  show W _ _ _ _ _ _ _ _
  refine W_seq ?_
  refine W_set ?_
  intro N9 eN9
  have H := H (fun (x7 : Bool) => ∀ b, N9 [] (mkE [(3, (.bool x7))] b) h1) (by
    intro x7 H b
    rw [eN9]
    show W _ _ _ _ _ _ _ _
    refine W_ret ?_
    exact ⟨[(.bool x7)], ⟨_, _, rfl, rfl, rfl⟩, x7, rfl, H⟩)
  clear eN9
  refine W_region (.pu 0 (.rl 1 (.pu 2 (.pu 3 (.rl 4 (.rl 5 (.pu 6 (.pu 7 (.pu 8 .fin))))))))) rfl rfl ?_
  refine s_pu (d := some 4) (v := (.pointer (some (Addr.add p4 0)))) rfl rfl rfl (r_fieldAddr Try.underlying88 Try.sizeOf4 rfl rfl rfl) ?_
  obtain ⟨x10, e11, H⟩ := H
  refine s_rl (d := some 5) (v := (.bool x10)) rfl rfl rfl (fun dr => r_load1 Try.isAgg4 rfl e11) ?_
  refine s_pu (d := some 6) (v := (.bool x10)) rfl rfl rfl (r_move rfl) ?_
  rcases Bool.eq_false_or_eq_true x10 with g12 | g12
  · have H := H.1 g12
    refine s_pu (d := some 7) (v := (.pointer (some (Addr.add p4 1)))) rfl rfl (wants_yes rfl rfl rfl rfl g12) (r_fieldAddr Try.underlying88 Try.sizeOf3 rfl rfl rfl) ?_
    obtain ⟨x13, e14, H⟩ := H
    refine s_rl (d := some 8) (v := (.int .i64 x13)) rfl rfl (wants_yes rfl rfl rfl rfl g12) (fun dr => r_load1 Try.isAgg3 rfl e14) ?_
    obtain ⟨x15, e16, H⟩ := H
    refine s_rl (d := some 9) (v := (.int .i64 x15)) rfl rfl (wants_yes rfl rfl rfl rfl g12) (fun dr => r_load1 Try.isAgg3 rfl e16) ?_
    refine s_pu (d := some 10) (v := (.bool (decide (x13 = x15)))) rfl rfl (wants_yes rfl rfl rfl rfl g12) (r_eql rfl rfl) ?_
    refine s_pu (d := some 11) (v := (.bool (decide (x13 = x15)))) rfl rfl rfl (r_pick1 rfl g12 rfl) ?_
    refine s_pu (d := some 3) (v := (.bool (decide (x13 = x15)))) rfl rfl rfl (r_assign rfl) ?_
    refine s_fin ?_
    exact N_mk (l := [(3, (.bool (decide (x13 = x15))))]) H ⟨rfl, trivial⟩
  · have H := H.2 g12
    refine s_sk (d := some 7) rfl rfl (wants_no rfl rfl rfl rfl g12) ?_
    refine s_skl (d := some 8) rfl rfl (wants_no rfl rfl rfl rfl g12) ?_
    refine s_skl (d := some 9) rfl rfl (wants_no rfl rfl rfl rfl g12) ?_
    refine s_sk (d := some 10) rfl rfl (wants_no rfl rfl rfl rfl g12) ?_
    refine s_pu (d := some 11) (v := (.bool false)) rfl rfl rfl (r_pick0 rfl g12 rfl) ?_
    refine s_pu (d := some 3) (v := (.bool false)) rfl rfl rfl (r_assign rfl) ?_
    refine s_fin ?_
    exact N_mk (l := [(3, (.bool false))]) H ⟨rfl, trivial⟩

/-! ### same_Items -/

def same_Items_F (r : World) (a1 : Sl) (vb2 : Sl) (h : Heap) (R : Bool → Heap → Prop) : Prop :=
  Br (!decide (((a1.len : Int)) = ((vb2.len : Int)))) (
    R false h) (
    ∀ X4 : Int → Prop, (∀ (i3 : Int),
      (Br (decide (i3 < ((a1.len : Int)))) (
        Ix a1 i3 2 fun q9 =>
        LdI h (Addr.add q9 0) fun x11 =>
        LdI h (Addr.add q9 1) fun x13 =>
        Ix vb2 i3 2 fun q19 =>
        LdI h (Addr.add q19 0) fun x21 =>
        LdI h (Addr.add q19 1) fun x23 =>
        Br (!(decide (x11 = x21 ∧ x13 = x23))) (
          R false h) (
          X4 (w64 (i3 + 1)))) (
        R true h)) →
      X4 i3) →
    X4 0)

set_option maxRecDepth 100000 in
theorem same_Items_of {r : World} {a1 : Sl} {vb2 : Sl} {h : Heap} {R : Bool → Heap → Prop} (H : same_Items_F r a1 vb2 h R) : same_Items r a1 vb2 h R := by
  unfold same_Items_F at H
  refine calls_of 26 [.tmp 4] Try.func21 rfl rfl rfl rfl rfl ?_
  refine W_seq ?_
  refine W_region (.pu 0 .fin) rfl rfl ?_
  refine s_pu (d := some 4) (v := (.bool false)) rfl rfl rfl (r_assign rfl) ?_
  refine s_fin ?_
  show W _ _ _ _ _ _ _ _
  refine W_seq ?_
  refine W_seq ?_
  refine W_region (.pu 0 (.pu 1 (.pu 2 (.pu 3 (.pu 4 .fin))))) rfl rfl ?_
  refine s_pu (d := some 6) (v := (Sl.v a1)) rfl rfl rfl (r_move rfl) ?_
  refine s_pu (d := some 7) (v := (.int .i64 ((a1.len : Int)))) rfl rfl rfl (r_len Try.underlying35 rfl) ?_
  refine s_pu (d := some 8) (v := (Sl.v vb2)) rfl rfl rfl (r_move rfl) ?_
  refine s_pu (d := some 9) (v := (.int .i64 ((vb2.len : Int)))) rfl rfl rfl (r_len Try.underlying35 rfl) ?_
  refine s_pu (d := some 10) (v := (.bool (!decide (((a1.len : Int)) = ((vb2.len : Int)))))) rfl rfl rfl (r_neq rfl rfl) ?_
  refine s_fin ?_
  show W _ _ _ _ _ _ _ _
  refine W_if (!decide (((a1.len : Int)) = ((vb2.len : Int)))) rfl (fun g27 => ?_) (fun g27 => ?_)
  · have H := H.1 g27
    refine W_seq ?_
    refine W_region (.pu 0 .fin) rfl rfl ?_
    refine s_pu (d := some 4) (v := (.bool false)) rfl rfl rfl (r_assign rfl) ?_
    refine s_fin ?_
    show W _ _ _ _ _ _ _ _
    refine W_ret ?_
    exact ⟨[(.bool false)], ⟨_, _, rfl, rfl, rfl⟩, false, rfl, H⟩
  · have H := H.2 g27
    refine W_skip ?_
    show W _ _ _ _ _ _ _ _
    refine W_seq ?_
    refine W_seq ?_
    refine W_region (.pu 0 .fin) rfl rfl ?_
    refine s_pu (d := some 5) (v := (.int .i64 0)) rfl rfl rfl (r_assign rfl) ?_
    refine s_fin ?_
    show W _ _ _ _ _ _ _ _
    refine W_block ?_
    refine W_loop (WL_mk (l := [(0, (Sl.v a1)), (1, (Sl.v vb2)), (5, (.int .i64 0))]) ?_ ⟨rfl, rfl, rfl, trivial⟩)
    refine H (fun (i3 : Int) => ∀ b, WL _ _ _ _ _ _ (mkE [(0, (Sl.v a1)), (1, (Sl.v vb2)), (5, (.int .i64 i3))] b) h) ?_
    intro i3 H b
    refine WL_round ?_
    refine W_seq ?_
    refine W_seq ?_
    refine W_region (.pu 0 (.pu 1 (.pu 2 (.pu 3 .fin)))) rfl rfl ?_
    refine s_pu (d := some 11) (v := (.int .i64 i3)) rfl rfl rfl (r_move rfl) ?_
    refine s_pu (d := some 12) (v := (Sl.v a1)) rfl rfl rfl (r_move rfl) ?_
    refine s_pu (d := some 13) (v := (.int .i64 ((a1.len : Int)))) rfl rfl rfl (r_len Try.underlying35 rfl) ?_
    refine s_pu (d := some 14) (v := (.bool (decide (i3 < ((a1.len : Int)))))) rfl rfl rfl (r_lss rfl rfl) ?_
    refine s_fin ?_
    show W _ _ _ _ _ _ _ _
    refine W_if (decide (i3 < ((a1.len : Int)))) rfl (fun g26 => ?_) (fun g26 => ?_)
    · have H := H.1 g26
      refine W_skip ?_
      show W _ _ _ _ _ _ _ _
      refine W_seq ?_
      refine W_block ?_
      refine W_seq ?_
      refine W_draw [0, 0, 3, 7, 0, 0, 48, 112, 255] (.pu 0 (.pu 1 (.pu 2 (.rd 3 (.pu 4 (.pu 5 (.pu 6 (.rd 7 (.pu 8 .fin))))))))) (by kernel_rfl) (by kernel_rfl) ?_
      refine s_pu (d := some 17) (v := (Sl.v a1)) rfl rfl rfl (r_move rfl) ?_
      refine s_pu (d := some 18) (v := (.int .i64 i3)) rfl rfl rfl (r_move rfl) ?_
      obtain ⟨p5, e6, e7, e8, H⟩ := H
      obtain ⟨q9, e10⟩ : ∃ q : Addr, q = Addr.add p5 (Int.toNat i3 * 2) := ⟨_, rfl⟩
      rw [← e10] at H
      refine s_pu (d := some 19) (v := (.pointer (some q9))) rfl rfl rfl (fun w => (r_indexAddr Try.underlying35 Try.sizeOf43 rfl rfl e6 e7 e8 w).trans (by rw [e10])) ?_
      obtain ⟨x11, e12, H⟩ := H
      obtain ⟨x13, e14, H⟩ := H
      refine s_rd (d := some 20) (v := (.agg #[(.int .i64 x11), (.int .i64 x13)])) rfl rfl rfl (fun dr => r_loadN Try.isAgg43 Try.sizeOf43 (vs := [(.int .i64 x11), (.int .i64 x13)]) rfl rfl ⟨e12, e14, trivial⟩) ?_
      refine s_pu (d := some 21) (v := (Sl.v vb2)) rfl rfl rfl (r_move rfl) ?_
      refine s_pu (d := some 22) (v := (.int .i64 i3)) rfl rfl rfl (r_move rfl) ?_
      obtain ⟨p15, e16, e17, e18, H⟩ := H
      obtain ⟨q19, e20⟩ : ∃ q : Addr, q = Addr.add p15 (Int.toNat i3 * 2) := ⟨_, rfl⟩
      rw [← e20] at H
      refine s_pu (d := some 23) (v := (.pointer (some q19))) rfl rfl rfl (fun w => (r_indexAddr Try.underlying35 Try.sizeOf43 rfl rfl e16 e17 e18 w).trans (by rw [e20])) ?_
      obtain ⟨x21, e22, H⟩ := H
      obtain ⟨x23, e24, H⟩ := H
      refine s_rd (d := some 24) (v := (.agg #[(.int .i64 x21), (.int .i64 x23)])) rfl rfl rfl (fun dr => r_loadN Try.isAgg43 Try.sizeOf43 (vs := [(.int .i64 x21), (.int .i64 x23)]) rfl rfl ⟨e22, e24, trivial⟩) ?_
      refine s_pu (d := some 25) (v := (.bool (!(decide (x11 = x21 ∧ x13 = x23))))) rfl rfl rfl (r_neqAgg_Try43 rfl rfl) ?_
      refine s_fin ?_
      show W _ _ _ _ _ _ _ _
      refine W_if (!(decide (x11 = x21 ∧ x13 = x23))) rfl (fun g25 => ?_) (fun g25 => ?_)
      · have H := H.1 g25
        refine W_seq ?_
        refine W_region (.pu 0 .fin) rfl rfl ?_
        refine s_pu (d := some 4) (v := (.bool false)) rfl rfl rfl (r_assign rfl) ?_
        refine s_fin ?_
        show W _ _ _ _ _ _ _ _
        refine W_ret ?_
        exact ⟨[(.bool false)], ⟨_, _, rfl, rfl, rfl⟩, false, rfl, H⟩
      · have H := H.2 g25
        refine W_skip ?_
        show W _ _ _ _ _ _ _ _
        refine W_region (.pu 0 (.pu 1 (.pu 2 .fin))) rfl rfl ?_
        refine s_pu (d := some 15) (v := (.int .i64 i3)) rfl rfl rfl (r_move rfl) ?_
        refine s_pu (d := some 16) (v := (.int .i64 (w64 (i3 + 1)))) rfl rfl rfl (r_add rfl rfl) ?_
        refine s_pu (d := some 5) (v := (.int .i64 (w64 (i3 + 1)))) rfl rfl rfl (r_assign rfl) ?_
        refine s_fin ?_
        exact WL_mk (l := [(0, (Sl.v a1)), (1, (Sl.v vb2)), (5, (.int .i64 (w64 (i3 + 1))))]) H ⟨rfl, rfl, rfl, trivial⟩
    · have H := H.2 g26
      refine W_exit (inX_here ?_)
      show W _ _ _ _ _ _ _ _
      refine W_seq ?_
      refine W_region (.pu 0 .fin) rfl rfl ?_
      refine s_pu (d := some 4) (v := (.bool true)) rfl rfl rfl (r_assign rfl) ?_
      refine s_fin ?_
      show W _ _ _ _ _ _ _ _
      refine W_ret ?_
      exact ⟨[(.bool true)], ⟨_, _, rfl, rfl, rfl⟩, true, rfl, H⟩

/-! ### ref1_First -/

def ref1_First_F (r : World) (l1 : Sl) (h : Heap) (R : Int → Heap → Prop) : Prop :=
  ∀ X4 : Int → Int → Prop, (∀ (best2 : Int) (i3 : Int),
    (Br (decide (i3 < ((l1.len : Int)))) (
      ∀ J6 : Int → Prop, (∀ (best5 : Int),
        (X4 best5 (w64 (i3 + 1))) →
        J6 best5) →
      Ix l1 i3 2 fun q12 =>
      LdI h (Addr.add q12 0) fun x14 =>
      Ix l1 best2 2 fun q20 =>
      LdI h (Addr.add q20 0) fun x22 =>
      Br (decide (x22 < x14)) (
        J6 i3) (
        J6 best2)) (
      R best2 h)) →
    X4 best2 i3) →
  X4 0 1

set_option maxRecDepth 100000 in
theorem ref1_First_of {r : World} {l1 : Sl} {h : Heap} {R : Int → Heap → Prop} (H : ref1_First_F r l1 h R) : ref1_First r l1 h R := by
  unfold ref1_First_F at H
  refine calls_of 24 [.tmp 2] Try.func36 rfl rfl rfl rfl rfl ?_
  refine W_seq ?_
  refine W_region (.pu 0 .fin) rfl rfl ?_
  refine s_pu (d := some 2) (v := (.int .i64 0)) rfl rfl rfl (r_assign rfl) ?_
  refine s_fin ?_
  show W _ _ _ _ _ _ _ _
  refine W_seq ?_
  refine W_region (.pu 0 .fin) rfl rfl ?_
  refine s_pu (d := some 3) (v := (.int .i64 0)) rfl rfl rfl (r_assign rfl) ?_
  refine s_fin ?_
  show W _ _ _ _ _ _ _ _
  refine W_seq ?_
  refine W_seq ?_
  refine W_region (.pu 0 .fin) rfl rfl ?_
  refine s_pu (d := some 4) (v := (.int .i64 1)) rfl rfl rfl (r_assign rfl) ?_
  refine s_fin ?_
  show W _ _ _ _ _ _ _ _
  refine W_block ?_
  refine W_loop (WL_mk (l := [(0, (Sl.v l1)), (3, (.int .i64 0)), (4, (.int .i64 1))]) ?_ ⟨rfl, rfl, rfl, trivial⟩)
  refine H (fun (best2 : Int) (i3 : Int) => ∀ b, WL _ _ _ _ _ _ (mkE [(0, (Sl.v l1)), (3, (.int .i64 best2)), (4, (.int .i64 i3))] b) h) ?_
  intro best2 i3 H b
  refine WL_round ?_
  refine W_seq ?_
  refine W_seq ?_
  refine W_region (.pu 0 (.pu 1 (.pu 2 (.pu 3 .fin)))) rfl rfl ?_
  refine s_pu (d := some 5) (v := (.int .i64 i3)) rfl rfl rfl (r_move rfl) ?_
  refine s_pu (d := some 6) (v := (Sl.v l1)) rfl rfl rfl (r_move rfl) ?_
  refine s_pu (d := some 7) (v := (.int .i64 ((l1.len : Int)))) rfl rfl rfl (r_len Try.underlying35 rfl) ?_
  refine s_pu (d := some 8) (v := (.bool (decide (i3 < ((l1.len : Int)))))) rfl rfl rfl (r_lss rfl rfl) ?_
  refine s_fin ?_
  show W _ _ _ _ _ _ _ _
  refine W_if (decide (i3 < ((l1.len : Int)))) rfl (fun g25 => ?_) (fun g25 => ?_)
  · have H := H.1 g25
    refine W_skip ?_
    show W _ _ _ _ _ _ _ _
    refine W_seq ?_
    refine W_set ?_
    intro N7 eN7
    have H := H (fun (best5 : Int) => ∀ b, N7 [] (mkE [(0, (Sl.v l1)), (3, (.int .i64 best5)), (4, (.int .i64 i3))] b) h) (by
      intro best5 H b
      rw [eN7]
      show W _ _ _ _ _ _ _ _
      refine W_region (.pu 0 (.pu 1 (.pu 2 .fin))) rfl rfl ?_
      refine s_pu (d := some 9) (v := (.int .i64 i3)) rfl rfl rfl (r_move rfl) ?_
      refine s_pu (d := some 10) (v := (.int .i64 (w64 (i3 + 1)))) rfl rfl rfl (r_add rfl rfl) ?_
      refine s_pu (d := some 4) (v := (.int .i64 (w64 (i3 + 1)))) rfl rfl rfl (r_assign rfl) ?_
      refine s_fin ?_
      exact WL_mk (l := [(0, (Sl.v l1)), (3, (.int .i64 best5)), (4, (.int .i64 (w64 (i3 + 1))))]) H ⟨rfl, rfl, rfl, trivial⟩)
    clear eN7
    refine W_block ?_
    refine W_seq ?_
    refine W_draw [0, 0, 3, 7, 15, 0, 0, 96, 224, 480, 1023] (.pu 0 (.pu 1 (.pu 2 (.pu 3 (.rd 4 (.pu 5 (.pu 6 (.pu 7 (.pu 8 (.rd 9 (.pu 10 .fin))))))))))) (by kernel_rfl) (by kernel_rfl) ?_
    refine s_pu (d := some 11) (v := (Sl.v l1)) rfl rfl rfl (r_move rfl) ?_
    refine s_pu (d := some 12) (v := (.int .i64 i3)) rfl rfl rfl (r_move rfl) ?_
    obtain ⟨p8, e9, e10, e11, H⟩ := H
    obtain ⟨q12, e13⟩ : ∃ q : Addr, q = Addr.add p8 (Int.toNat i3 * 2) := ⟨_, rfl⟩
    rw [← e13] at H
    refine s_pu (d := some 13) (v := (.pointer (some q12))) rfl rfl rfl (fun w => (r_indexAddr Try.underlying35 Try.sizeOf43 rfl rfl e9 e10 e11 w).trans (by rw [e13])) ?_
    refine s_pu (d := some 14) (v := (.pointer (some (Addr.add q12 0)))) rfl rfl rfl (r_fieldAddr Try.underlying43 Try.sizeOf3 rfl rfl rfl) ?_
    obtain ⟨x14, e15, H⟩ := H
    refine s_rd (d := some 15) (v := (.int .i64 x14)) rfl rfl rfl (fun dr => r_load1 Try.isAgg3 rfl e15) ?_
    refine s_pu (d := some 16) (v := (Sl.v l1)) rfl rfl rfl (r_move rfl) ?_
    refine s_pu (d := some 17) (v := (.int .i64 best2)) rfl rfl rfl (r_move rfl) ?_
    obtain ⟨p16, e17, e18, e19, H⟩ := H
    obtain ⟨q20, e21⟩ : ∃ q : Addr, q = Addr.add p16 (Int.toNat best2 * 2) := ⟨_, rfl⟩
    rw [← e21] at H
    refine s_pu (d := some 18) (v := (.pointer (some q20))) rfl rfl rfl (fun w => (r_indexAddr Try.underlying35 Try.sizeOf43 rfl rfl e17 e18 e19 w).trans (by rw [e21])) ?_
    refine s_pu (d := some 19) (v := (.pointer (some (Addr.add q20 0)))) rfl rfl rfl (r_fieldAddr Try.underlying43 Try.sizeOf3 rfl rfl rfl) ?_
    obtain ⟨x22, e23, H⟩ := H
    refine s_rd (d := some 20) (v := (.int .i64 x22)) rfl rfl rfl (fun dr => r_load1 Try.isAgg3 rfl e23) ?_
    refine s_pu (d := some 21) (v := (.bool (decide (x22 < x14)))) rfl rfl rfl (r_gtr rfl rfl) ?_
    refine s_fin ?_
    show W _ _ _ _ _ _ _ _
    refine W_if (decide (x22 < x14)) rfl (fun g24 => ?_) (fun g24 => ?_)
    · have H := H.1 g24
      refine W_region (.pu 0 (.pu 1 .fin)) rfl rfl ?_
      refine s_pu (d := some 22) (v := (.int .i64 i3)) rfl rfl rfl (r_move rfl) ?_
      refine s_pu (d := some 3) (v := (.int .i64 i3)) rfl rfl rfl (r_assign rfl) ?_
      refine s_fin ?_
      exact N_mk (l := [(0, (Sl.v l1)), (3, (.int .i64 i3)), (4, (.int .i64 i3))]) H ⟨rfl, rfl, rfl, trivial⟩
    · have H := H.2 g24
      refine W_skip ?_
      exact N_mk (l := [(0, (Sl.v l1)), (3, (.int .i64 best2)), (4, (.int .i64 i3))]) H ⟨rfl, rfl, rfl, trivial⟩
  · have H := H.2 g25
    refine W_exit (inX_here ?_)
    show W _ _ _ _ _ _ _ _
    refine W_seq ?_
    refine W_region (.pu 0 (.pu 1 .fin)) rfl rfl ?_
    refine s_pu (d := some 23) (v := (.int .i64 best2)) rfl rfl rfl (r_move rfl) ?_
    refine s_pu (d := some 2) (v := (.int .i64 best2)) rfl rfl rfl (r_assign rfl) ?_
    refine s_fin ?_
    show W _ _ _ _ _ _ _ _
    refine W_ret ?_
    exact ⟨[(.int .i64 best2)], ⟨_, _, rfl, rfl, rfl⟩, best2, rfl, H⟩

/-! ### ref1_LessItem -/

def ref1_LessItem_F (r : World) (l1 : Sl) (i2 : Int) (h : Heap) (R : Sl → Heap → Prop) : Prop :=
  Sub l1 0 i2 ((l1.cap : Int)) 2 fun s3 =>
  App 43 2 16 (.agg #[(.int .i64 0), (.int .i64 0)]) Sl.nil s3 h fun s9 h1 =>
  Sub l1 (w64 (i2 + 1)) ((l1.len : Int)) ((l1.cap : Int)) 2 fun s10 =>
  App 43 2 16 (.agg #[(.int .i64 0), (.int .i64 0)]) s9 s10 h1 fun s16 h2 =>
  R s16 h2

set_option maxRecDepth 100000 in
theorem ref1_LessItem_of {r : World} {l1 : Sl} {i2 : Int} {h : Heap} {R : Sl → Heap → Prop} (H : ref1_LessItem_F r l1 i2 h R) : ref1_LessItem r l1 i2 h R := by
  unfold ref1_LessItem_F at H
  refine calls_of 17 [.tmp 4] Try.func37 rfl rfl rfl rfl rfl ?_
  refine W_seq ?_
  refine W_region (.pu 0 .fin) rfl rfl ?_
  refine s_pu (d := some 4) (v := (Sl.v Sl.nil)) rfl rfl rfl (r_assign rfl) ?_
  refine s_fin ?_
  show W _ _ _ _ _ _ _ _
  refine W_seq ?_
  refine W_region (.pu 0 .fin) rfl rfl ?_
  refine s_pu (d := some 5) (v := (Sl.v Sl.nil)) rfl rfl rfl (r_assign rfl) ?_
  refine s_fin ?_
  show W _ _ _ _ _ _ _ _
  refine W_seq ?_
  refine W_region (.pu 0 (.pu 1 (.pu 2 (.pu 3 (.ef 4 [] (.pu 5 .fin) .no))))) rfl rfl ?_
  refine s_pu (d := some 6) (v := (Sl.v Sl.nil)) rfl rfl rfl (r_move rfl) ?_
  refine s_pu (d := some 7) (v := (Sl.v l1)) rfl rfl rfl (r_move rfl) ?_
  refine s_pu (d := some 8) (v := (.int .i64 i2)) rfl rfl rfl (r_move rfl) ?_
  obtain ⟨e4, e5, e6, e7, H⟩ := H
  obtain ⟨s3, e8⟩ : ∃ t : Sl, t = ⟨sliceA l1.a (Int.toNat ((l1.cap : Int))) (Int.toNat 0) 2, Int.toNat i2 - Int.toNat 0, Int.toNat ((l1.cap : Int)) - Int.toNat 0⟩ := ⟨_, rfl⟩
  have H := H s3 e8
  refine s_pu (d := some 9) (v := (Sl.v s3)) rfl rfl rfl (fun w => (r_slice (lo := .none) (hi := (.some (.tmp 8))) (mx := .none) Try.underlying35 Try.sizeOf43 rfl ((l1.cap : Int)) i2 0 rfl ⟨_, rfl⟩ rfl e4 e5 (.inr e6) e7 w).trans (by rw [e8]; rfl)) ?_
  refine s_ef (d := some 10) rfl rfl rfl (fun dr => slFPLaw_35.append rfl rfl H) ?_ trivial
  rintro _ h1 ⟨s9, rfl, H⟩
  refine ⟨trivial, ?_⟩
  refine s_pu (d := some 5) (v := (Sl.v s9)) rfl rfl rfl (r_assign rfl) ?_
  refine s_fin ?_
  show W _ _ _ _ _ _ _ _
  refine W_seq ?_
  refine W_region (.pu 0 (.pu 1 (.pu 2 (.pu 3 (.pu 4 (.ef 5 [] (.pu 6 .fin) .no)))))) rfl rfl ?_
  refine s_pu (d := some 11) (v := (Sl.v s9)) rfl rfl rfl (r_move rfl) ?_
  refine s_pu (d := some 12) (v := (Sl.v l1)) rfl rfl rfl (r_move rfl) ?_
  refine s_pu (d := some 13) (v := (.int .i64 i2)) rfl rfl rfl (r_move rfl) ?_
  refine s_pu (d := some 14) (v := (.int .i64 (w64 (i2 + 1)))) rfl rfl rfl (r_add rfl rfl) ?_
  obtain ⟨e11, e12, e13, e14, H⟩ := H
  obtain ⟨s10, e15⟩ : ∃ t : Sl, t = ⟨sliceA l1.a (Int.toNat ((l1.cap : Int))) (Int.toNat (w64 (i2 + 1))) 2, Int.toNat ((l1.len : Int)) - Int.toNat (w64 (i2 + 1)), Int.toNat ((l1.cap : Int)) - Int.toNat (w64 (i2 + 1))⟩ := ⟨_, rfl⟩
  have H := H s10 e15
  refine s_pu (d := some 15) (v := (Sl.v s10)) rfl rfl rfl (fun w => (r_slice (lo := (.some (.tmp 14))) (hi := .none) (mx := .none) Try.underlying35 Try.sizeOf43 rfl ((l1.cap : Int)) ((l1.len : Int)) (w64 (i2 + 1)) rfl ⟨rfl, rfl⟩ ⟨_, rfl⟩ e11 e12 (.inl rfl) e14 w).trans (by rw [e15]; rfl)) ?_
  refine s_ef (d := some 16) rfl rfl rfl (fun dr => slFPLaw_35.append rfl rfl H) ?_ trivial
  rintro _ h2 ⟨s16, rfl, H⟩
  refine ⟨trivial, ?_⟩
  refine s_pu (d := some 4) (v := (Sl.v s16)) rfl rfl rfl (r_assign rfl) ?_
  refine s_fin ?_
  show W _ _ _ _ _ _ _ _
  refine W_ret ?_
  exact ⟨[(Sl.v s16)], ⟨_, _, rfl, rfl, rfl⟩, s16, rfl, H⟩

/-! ### law3_ranked -/

def law3_ranked_F (r : World)  (h : Heap) (R : Bool → Heap → Prop) : Prop :=
  New h (.cells #[(.pointer none)] 40) fun p1 h1 =>
  LdP h1 (Addr.add p1 0) fun x4 =>
  prio_Queue_Push r x4 1 5 h1 fun y6 h2 =>
  prio_Queue_Push r y6 2 3 h2 fun y7 h3 =>
  prio_Queue_Top r y7 h3 fun y8 y9 y10 h4 =>
  New h4 (.cells #[(.int .i64 0), (.int .i64 0)] 43) fun p11 h5 =>
  St h5 p11 2 [(.int .i64 y8), (.int .i64 y9)] fun h6 =>
  ∀ J17 : Bool → Prop, (∀ (x16 : Bool),
    (R x16 h6) →
    J17 x16) →
  Br y10 (
    LdI h6 (Addr.add p11 1) fun x20 =>
    J17 (decide (x20 = 3))) (
    J17 false)

set_option maxRecDepth 100000 in
theorem law3_ranked_of {r : World}  {h : Heap} {R : Bool → Heap → Prop} (H : law3_ranked_F r  h R) : law3_ranked r  h R := by
  unfold law3_ranked_F at H
  refine calls_of 19 [.tmp 0] Try.func17 rfl rfl rfl rfl rfl ?_
  refine W_seq ?_
  refine W_region (.pu 0 .fin) rfl rfl ?_
  refine s_pu (d := some 0) (v := (.bool false)) rfl rfl rfl (r_assign rfl) ?_
  refine s_fin ?_
  show W _ _ _ _ _ _ _ _
  refine W_seq ?_
  refine W_region (.ef 0 [] .fin .no) rfl rfl ?_
  obtain ⟨p1, e2⟩ : ∃ p : Addr, p = ⟨h.size, 0, none⟩ := ⟨_, rfl⟩
  obtain ⟨h1, e3⟩ : ∃ hh : Heap, hh = h.push (.cells #[(.pointer none)] 40) := ⟨_, rfl⟩
  have H := H p1 h1 e2 e3
  refine s_ef1 (d := some 1) (v := (.pointer (some p1))) (h' := h1) rfl rfl rfl (fun dr => (r_alloc Try.zeroValue40).trans (by rw [e2, e3]; rfl)) trivial ?_ trivial
  refine s_fin ?_
  show W _ _ _ _ _ _ _ _
  refine W_seq ?_
  refine W_region (.rl 0 (.pu 1 (.ef 2 [] (.pu 3 (.ef 4 [] (.ef 5 [] (.pu 6 (.pu 7 (.pu 8 (.ef 9 [] (.ef 10 [] (.pu 11 .fin) .no) .no)))) .no) .no)) .no))) rfl rfl ?_
  obtain ⟨x4, e5, H⟩ := H
  refine s_rl (d := some 5) (v := (.agg #[(.pointer x4)])) rfl rfl rfl (fun dr => r_loadN Try.isAgg40 Try.sizeOf40 (vs := [(.pointer x4)]) rfl rfl ⟨e5, trivial⟩) ?_
  refine s_pu (d := some 6) (v := (.agg #[(.int .i64 1), (.int .i64 5)])) rfl rfl rfl (fun w => by kernel_rfl) ?_
  refine s_ef (d := some 7) rfl rfl rfl (fun dr => r_call Try.call18 rfl rfl H) ?_ trivial
  rintro _ h2 ⟨y6, rfl, H⟩
  refine ⟨trivial, ?_⟩
  refine s_pu (d := some 8) (v := (.agg #[(.int .i64 2), (.int .i64 3)])) rfl rfl rfl (fun w => by kernel_rfl) ?_
  refine s_ef (d := some 9) rfl rfl rfl (fun dr => r_call Try.call18 rfl rfl H) ?_ trivial
  rintro _ h3 ⟨y7, rfl, H⟩
  refine ⟨trivial, ?_⟩
  refine s_ef (d := some 10) rfl rfl rfl (fun dr => r_call Try.call19 rfl rfl H) ?_ trivial
  rintro _ h4 ⟨y8, y9, y10, rfl, H⟩
  refine ⟨trivial, ?_⟩
  refine s_pu (d := some 4) (v := (.tuple #[(.agg #[(.int .i64 y8), (.int .i64 y9)]), (.bool y10)])) rfl rfl rfl (r_move rfl) ?_
  refine s_pu (d := some 11) (v := (.agg #[(.int .i64 y8), (.int .i64 y9)])) rfl rfl rfl (r_extract rfl rfl) ?_
  refine s_pu (d := some 12) (v := (.bool y10)) rfl rfl rfl (r_extract rfl rfl) ?_
  obtain ⟨p11, e12⟩ : ∃ p : Addr, p = ⟨h4.size, 0, none⟩ := ⟨_, rfl⟩
  obtain ⟨h5, e13⟩ : ∃ hh : Heap, hh = h4.push (.cells #[(.int .i64 0), (.int .i64 0)] 43) := ⟨_, rfl⟩
  have H := H p11 h5 e12 e13
  refine s_ef1 (d := some 2) (v := (.pointer (some p11))) (h' := h5) rfl rfl rfl (fun dr => (r_alloc Try.zeroValue43).trans (by rw [e12, e13]; rfl)) trivial ?_ trivial
  obtain ⟨e15, H⟩ := H
  obtain ⟨h6, e14⟩ : ∃ hh : Heap, hh = hsets h5 p11 0 [(.int .i64 y8), (.int .i64 y9)] := ⟨_, rfl⟩
  have H := H h6 e14
  refine s_st (d := none) (h' := h6) rfl rfl rfl (fun dr => (r_store (v := (.agg #[(.int .i64 y8), (.int .i64 y9)])) Try.sizeOf43 rfl rfl rfl (one_all rfl) e15).trans (by rw [e14]; rfl)) trivial ?_ trivial
  refine s_pu (d := some 3) (v := (.bool y10)) rfl rfl rfl (r_assign rfl) ?_
  refine s_fin ?_
  show W _ _ _ _ _ _ _ _
  refine W_seq ?_
  refine W_set ?_
  intro N18 eN18
  have H := H (fun (x16 : Bool) => ∀ b, N18 [] (mkE [(0, (.bool x16))] b) h6) (by
    intro x16 H b
    rw [eN18]
    show W _ _ _ _ _ _ _ _
    refine W_ret ?_
    exact ⟨[(.bool x16)], ⟨_, _, rfl, rfl, rfl⟩, x16, rfl, H⟩)
  clear eN18
  refine W_region (.pu 0 (.pu 1 (.pu 2 (.rl 3 (.pu 4 (.pu 5 (.pu 6 .fin))))))) rfl rfl ?_
  refine s_pu (d := some 13) (v := (.bool y10)) rfl rfl rfl (r_move rfl) ?_
  refine s_pu (d := some 14) (v := (.bool y10)) rfl rfl rfl (r_move rfl) ?_
  rcases Bool.eq_false_or_eq_true y10 with g19 | g19
  · have H := H.1 g19
    refine s_pu (d := some 15) (v := (.pointer (some (Addr.add p11 1)))) rfl rfl (wants_yes rfl rfl rfl rfl g19) (r_fieldAddr Try.underlying43 Try.sizeOf3 rfl rfl rfl) ?_
    obtain ⟨x20, e21, H⟩ := H
    refine s_rl (d := some 16) (v := (.int .i64 x20)) rfl rfl (wants_yes rfl rfl rfl rfl g19) (fun dr => r_load1 Try.isAgg3 rfl e21) ?_
    refine s_pu (d := some 17) (v := (.bool (decide (x20 = 3)))) rfl rfl (wants_yes rfl rfl rfl rfl g19) (r_eql rfl rfl) ?_
    refine s_pu (d := some 18) (v := (.bool (decide (x20 = 3)))) rfl rfl rfl (r_pick1 rfl g19 rfl) ?_
    refine s_pu (d := some 0) (v := (.bool (decide (x20 = 3)))) rfl rfl rfl (r_assign rfl) ?_
    refine s_fin ?_
    exact N_mk (l := [(0, (.bool (decide (x20 = 3))))]) H ⟨rfl, trivial⟩
  · have H := H.2 g19
    refine s_sk (d := some 15) rfl rfl (wants_no rfl rfl rfl rfl g19) ?_
    refine s_skl (d := some 16) rfl rfl (wants_no rfl rfl rfl rfl g19) ?_
    refine s_sk (d := some 17) rfl rfl (wants_no rfl rfl rfl rfl g19) ?_
    refine s_pu (d := some 18) (v := (.bool false)) rfl rfl rfl (r_pick0 rfl g19 rfl) ?_
    refine s_pu (d := some 0) (v := (.bool false)) rfl rfl rfl (r_assign rfl) ?_
    refine s_fin ?_
    exact N_mk (l := [(0, (.bool false))]) H ⟨rfl, trivial⟩

/-! ### law3_PrioJoins -/

def law3_PrioJoins_F (r : World) (a1 : Sl) (vb2 : Sl) (h : Heap) (R : Bool → Heap → Prop) : Prop :=
  law3_ranked r h fun y3 h1 =>
  Br (!y3) (
    R false h1) (
    New h1 (.cells #[(.pointer none)] 40) fun p4 h2 =>
    ∀ X8 : Int → Heap → Prop, (∀ (i7 : Int) (h3 : Heap),
      (Br (decide (i7 < ((a1.len : Int)))) (
        LdP h3 (Addr.add p4 0) fun x9 =>
        Ix a1 i7 2 fun q15 =>
        LdI h3 (Addr.add q15 0) fun x17 =>
        LdI h3 (Addr.add q15 1) fun x19 =>
        prio_Queue_Push r x9 x17 x19 h3 fun y21 h4 =>
        St h4 p4 1 [(.pointer y21)] fun h5 =>
        X8 (w64 (i7 + 1)) h5) (
        New h3 (.cells #[(.pointer none)] 40) fun p24 h6 =>
        ∀ X28 : Int → Heap → Prop, (∀ (i27 : Int) (h7 : Heap),
          (Br (decide (i27 < ((vb2.len : Int)))) (
            LdP h7 (Addr.add p24 0) fun x29 =>
            Ix vb2 i27 2 fun q35 =>
            LdI h7 (Addr.add q35 0) fun x37 =>
            LdI h7 (Addr.add q35 1) fun x39 =>
            prio_Queue_Push r x29 x37 x39 h7 fun y41 h8 =>
            St h8 p24 1 [(.pointer y41)] fun h9 =>
            X28 (w64 (i27 + 1)) h9) (
            LdP h7 (Addr.add p4 0) fun x44 =>
            prio_Queue_Top r x44 h7 fun y46 y47 y48 h10 =>
            New h10 (.cells #[(.int .i64 0), (.int .i64 0)] 43) fun p49 h11 =>
            St h11 p49 2 [(.int .i64 y46), (.int .i64 y47)] fun h12 =>
            LdP h12 (Addr.add p24 0) fun x54 =>
            prio_Queue_Top r x54 h12 fun y56 y57 y58 h13 =>
            New h13 (.cells #[(.int .i64 0), (.int .i64 0)] 43) fun p59 h14 =>
            St h14 p59 2 [(.int .i64 y56), (.int .i64 y57)] fun h15 =>
            LdP h15 (Addr.add p4 0) fun x64 =>
            LdP h15 (Addr.add p24 0) fun x66 =>
            prio_Queue_Join r x64 x66 h15 fun y68 h16 =>
            prio_Queue_Top r y68 h16 fun y69 y70 y71 h17 =>
            New h17 (.cells #[(.int .i64 0), (.int .i64 0)] 43) fun p72 h18 =>
            St h18 p72 2 [(.int .i64 y69), (.int .i64 y70)] fun h19 =>
            LdI h19 (Addr.add p49 0) fun x77 =>
            LdI h19 (Addr.add p49 1) fun x79 =>
            New h19 (.cells #[(.int .i64 0), (.int .i64 0)] 43) fun p81 h20 =>
            St h20 p81 2 [(.int .i64 x77), (.int .i64 x79)] fun h21 =>
            ∀ J87 : Bool → Prop, (∀ (x86 : Bool),
              (∀ J89 : Heap → Prop, (∀ (h22 : Heap),
                (LdP h22 (Addr.add p4 0) fun x91 =>
                LdP h22 (Addr.add p24 0) fun x93 =>
                prio_Queue_Join r x91 x93 h22 fun y95 h23 =>
                prio_Queue_Items r y95 h23 fun y96 h24 =>
                New h24 (.cells #[] 43) fun p97 h25 =>
                App 43 2 16 (.agg #[(.int .i64 0), (.int .i64 0)]) ((⟨some p97, 0, 0⟩ : Sl)) a1 h25 fun s100 h26 =>
                App 43 2 16 (.agg #[(.int .i64 0), (.int .i64 0)]) s100 vb2 h26 fun s101 h27 =>
                same_Items r y96 s101 h27 fun y102 h28 =>
                ∀ J104 : Bool → Prop, (∀ (x103 : Bool),
                  (R x103 h28) →
                  J104 x103) →
                Br y102 (
                  Br y48 (
                    Br (y71 == true) (
                      LdI h28 (Addr.add p72 0) fun x109 =>
                      LdI h28 (Addr.add p72 1) fun x111 =>
                      LdI h28 (Addr.add p81 0) fun x113 =>
                      LdI h28 (Addr.add p81 1) fun x115 =>
                      J104 (decide (x109 = x113 ∧ x111 = x115))) (
                      J104 false)) (
                    Br (y71 == y58) (
                      LdI h28 (Addr.add p72 0) fun x118 =>
                      LdI h28 (Addr.add p72 1) fun x120 =>
                      LdI h28 (Addr.add p81 0) fun x122 =>
                      LdI h28 (Addr.add p81 1) fun x124 =>
                      J104 (decide (x118 = x122 ∧ x120 = x124))) (
                      J104 false))) (
                  J104 false)) →
                J89 h22) →
              Br x86 (
                LdI h21 (Addr.add p59 0) fun x126 =>
                LdI h21 (Addr.add p59 1) fun x128 =>
                St h21 p81 2 [(.int .i64 x126), (.int .i64 x128)] fun h29 =>
                J89 h29) (
                J89 h21)) →
              J87 x86) →
            Br (!y48) (
              J87 true) (
              Br y58 (
                LdI h21 (Addr.add p59 0) fun x135 =>
                LdI h21 (Addr.add p49 0) fun x137 =>
                J87 (decide (x137 < x135))) (
                J87 false)))) →
          X28 i27 h7) →
        X28 0 h6)) →
      X8 i7 h3) →
    X8 0 h2)

set_option maxRecDepth 100000 in
theorem law3_PrioJoins_of {r : World} {a1 : Sl} {vb2 : Sl} {h : Heap} {R : Bool → Heap → Prop} (H : law3_PrioJoins_F r a1 vb2 h R) : law3_PrioJoins r a1 vb2 h R := by
  unfold law3_PrioJoins_F at H
  refine calls_of 100 [.tmp 4] Try.func4 rfl rfl rfl rfl rfl ?_
  refine W_seq ?_
  refine W_region (.pu 0 .fin) rfl rfl ?_
  refine s_pu (d := some 4) (v := (.bool false)) rfl rfl rfl (r_assign rfl) ?_
  refine s_fin ?_
  show W _ _ _ _ _ _ _ _
  refine W_seq ?_
  refine W_region (.ef 0 [] (.pu 1 .fin) .no) rfl rfl ?_
  refine s_ef (d := some 18) rfl rfl rfl (fun dr => r_call Try.call17 rfl rfl H) ?_ trivial
  rintro _ h1 ⟨y3, rfl, H⟩
  refine ⟨trivial, ?_⟩
  refine s_pu (d := some 5) (v := (.bool y3)) rfl rfl rfl (r_assign rfl) ?_
  refine s_fin ?_
  show W _ _ _ _ _ _ _ _
  refine W_seq ?_
  refine W_seq ?_
  refine W_region (.pu 0 (.pu 1 .fin)) rfl rfl ?_
  refine s_pu (d := some 19) (v := (.bool y3)) rfl rfl rfl (r_move rfl) ?_
  refine s_pu (d := some 20) (v := (.bool (!y3))) rfl rfl rfl (r_not rfl) ?_
  refine s_fin ?_
  show W _ _ _ _ _ _ _ _
  refine W_if (!y3) rfl (fun g141 => ?_) (fun g141 => ?_)
  · have H := H.1 g141
    refine W_seq ?_
    refine W_region (.pu 0 .fin) rfl rfl ?_
    refine s_pu (d := some 4) (v := (.bool false)) rfl rfl rfl (r_assign rfl) ?_
    refine s_fin ?_
    show W _ _ _ _ _ _ _ _
    refine W_ret ?_
    exact ⟨[(.bool false)], ⟨_, _, rfl, rfl, rfl⟩, false, rfl, H⟩
  · have H := H.2 g141
    refine W_skip ?_
    show W _ _ _ _ _ _ _ _
    refine W_seq ?_
    refine W_region (.ef 0 [] .fin .no) rfl rfl ?_
    obtain ⟨p4, e5⟩ : ∃ p : Addr, p = ⟨h1.size, 0, none⟩ := ⟨_, rfl⟩
    obtain ⟨h2, e6⟩ : ∃ hh : Heap, hh = h1.push (.cells #[(.pointer none)] 40) := ⟨_, rfl⟩
    have H := H p4 h2 e5 e6
    refine s_ef1 (d := some 6) (v := (.pointer (some p4))) (h' := h2) rfl rfl rfl (fun dr => (r_alloc Try.zeroValue40).trans (by rw [e5, e6]; rfl)) trivial ?_ trivial
    refine s_fin ?_
    show W _ _ _ _ _ _ _ _
    refine W_seq ?_
    refine W_seq ?_
    refine W_region (.pu 0 .fin) rfl rfl ?_
    refine s_pu (d := some 7) (v := (.int .i64 0)) rfl rfl rfl (r_assign rfl) ?_
    refine s_fin ?_
    show W _ _ _ _ _ _ _ _
    refine W_block ?_
    refine W_loop (WL_mk (l := [(0, (Sl.v a1)), (1, (Sl.v vb2)), (6, (.pointer (some p4))), (7, (.int .i64 0))]) ?_ ⟨rfl, rfl, rfl, rfl, trivial⟩)
    refine H (fun (i7 : Int) (h3 : Heap) => ∀ b, WL _ _ _ _ _ _ (mkE [(0, (Sl.v a1)), (1, (Sl.v vb2)), (6, (.pointer (some p4))), (7, (.int .i64 i7))] b) h3) ?_
    intro i7 h3 H b
    refine WL_round ?_
    refine W_seq ?_
    refine W_seq ?_
    refine W_region (.pu 0 (.pu 1 (.pu 2 (.pu 3 .fin)))) rfl rfl ?_
    refine s_pu (d := some 21) (v := (.int .i64 i7)) rfl rfl rfl (r_move rfl) ?_
    refine s_pu (d := some 22) (v := (Sl.v a1)) rfl rfl rfl (r_move rfl) ?_
    refine s_pu (d := some 23) (v := (.int .i64 ((a1.len : Int)))) rfl rfl rfl (r_len Try.underlying35 rfl) ?_
    refine s_pu (d := some 24) (v := (.bool (decide (i7 < ((a1.len : Int)))))) rfl rfl rfl (r_lss rfl rfl) ?_
    refine s_fin ?_
    show W _ _ _ _ _ _ _ _
    refine W_if (decide (i7 < ((a1.len : Int)))) rfl (fun g140 => ?_) (fun g140 => ?_)
    · have H := H.1 g140
      refine W_skip ?_
      show W _ _ _ _ _ _ _ _
      refine W_seq ?_
      refine W_block ?_
      refine W_draw [0, 0, 0, 6, 14, 31, 63] (.rd 0 (.pu 1 (.pu 2 (.pu 3 (.rd 4 (.ef 5 [0, 4] (.ef 6 [0, 4] .fin .no) .no)))))) (by kernel_rfl) (by kernel_rfl) ?_
      obtain ⟨x9, e10, H⟩ := H
      refine s_rd (d := some 27) (v := (.agg #[(.pointer x9)])) rfl rfl rfl (fun dr => r_loadN Try.isAgg40 Try.sizeOf40 (vs := [(.pointer x9)]) rfl rfl ⟨e10, trivial⟩) ?_
      refine s_pu (d := some 28) (v := (Sl.v a1)) rfl rfl rfl (r_move rfl) ?_
      refine s_pu (d := some 29) (v := (.int .i64 i7)) rfl rfl rfl (r_move rfl) ?_
      obtain ⟨p11, e12, e13, e14, H⟩ := H
      obtain ⟨q15, e16⟩ : ∃ q : Addr, q = Addr.add p11 (Int.toNat i7 * 2) := ⟨_, rfl⟩
      rw [← e16] at H
      refine s_pu (d := some 30) (v := (.pointer (some q15))) rfl rfl rfl (fun w => (r_indexAddr Try.underlying35 Try.sizeOf43 rfl rfl e12 e13 e14 w).trans (by rw [e16])) ?_
      obtain ⟨x17, e18, H⟩ := H
      obtain ⟨x19, e20, H⟩ := H
      refine s_rd (d := some 31) (v := (.agg #[(.int .i64 x17), (.int .i64 x19)])) rfl rfl rfl (fun dr => r_loadN Try.isAgg43 Try.sizeOf43 (vs := [(.int .i64 x17), (.int .i64 x19)]) rfl rfl ⟨e18, e20, trivial⟩) ?_
      refine s_ef (d := some 32) rfl rfl rfl (fun dr => r_call Try.call18 rfl rfl H) ?_ trivial
      rintro _ h4 ⟨y21, rfl, H⟩
      refine ⟨⟨trivial, trivial, trivial⟩, ?_⟩
      obtain ⟨e23, H⟩ := H
      obtain ⟨h5, e22⟩ : ∃ hh : Heap, hh = hsets h4 p4 0 [(.pointer y21)] := ⟨_, rfl⟩
      have H := H h5 e22
      refine s_st (d := none) (h' := h5) rfl rfl rfl (fun dr => (r_store (v := (.agg #[(.pointer y21)])) Try.sizeOf40 rfl rfl rfl (one_all rfl) e23).trans (by rw [e22]; rfl)) ⟨trivial, trivial, trivial⟩ ?_ trivial
      refine s_fin ?_
      show W _ _ _ _ _ _ _ _
      refine W_region (.pu 0 (.pu 1 (.pu 2 .fin))) rfl rfl ?_
      refine s_pu (d := some 25) (v := (.int .i64 i7)) rfl rfl rfl (r_move rfl) ?_
      refine s_pu (d := some 26) (v := (.int .i64 (w64 (i7 + 1)))) rfl rfl rfl (r_add rfl rfl) ?_
      refine s_pu (d := some 7) (v := (.int .i64 (w64 (i7 + 1)))) rfl rfl rfl (r_assign rfl) ?_
      refine s_fin ?_
      exact WL_mk (l := [(0, (Sl.v a1)), (1, (Sl.v vb2)), (6, (.pointer (some p4))), (7, (.int .i64 (w64 (i7 + 1))))]) H ⟨rfl, rfl, rfl, rfl, trivial⟩
    · have H := H.2 g140
      refine W_exit (inX_here ?_)
      show W _ _ _ _ _ _ _ _
      refine W_seq ?_
      refine W_region (.ef 0 [] .fin .no) rfl rfl ?_
      obtain ⟨p24, e25⟩ : ∃ p : Addr, p = ⟨h3.size, 0, none⟩ := ⟨_, rfl⟩
      obtain ⟨h6, e26⟩ : ∃ hh : Heap, hh = h3.push (.cells #[(.pointer none)] 40) := ⟨_, rfl⟩
      have H := H p24 h6 e25 e26
      refine s_ef1 (d := some 8) (v := (.pointer (some p24))) (h' := h6) rfl rfl rfl (fun dr => (r_alloc Try.zeroValue40).trans (by rw [e25, e26]; rfl)) trivial ?_ trivial
      refine s_fin ?_
      show W _ _ _ _ _ _ _ _
      refine W_seq ?_
      refine W_seq ?_
      refine W_region (.pu 0 .fin) rfl rfl ?_
      refine s_pu (d := some 9) (v := (.int .i64 0)) rfl rfl rfl (r_assign rfl) ?_
      refine s_fin ?_
      show W _ _ _ _ _ _ _ _
      refine W_block ?_
      refine W_loop (WL_mk (l := [(0, (Sl.v a1)), (1, (Sl.v vb2)), (6, (.pointer (some p4))), (8, (.pointer (some p24))), (9, (.int .i64 0))]) ?_ ⟨rfl, rfl, rfl, rfl, rfl, trivial⟩)
      refine H (fun (i27 : Int) (h7 : Heap) => ∀ b, WL _ _ _ _ _ _ (mkE [(0, (Sl.v a1)), (1, (Sl.v vb2)), (6, (.pointer (some p4))), (8, (.pointer (some p24))), (9, (.int .i64 i27))] b) h7) ?_
      intro i27 h7 H b
      refine WL_round ?_
      refine W_seq ?_
      refine W_seq ?_
      refine W_region (.pu 0 (.pu 1 (.pu 2 (.pu 3 .fin)))) rfl rfl ?_
      refine s_pu (d := some 33) (v := (.int .i64 i27)) rfl rfl rfl (r_move rfl) ?_
      refine s_pu (d := some 34) (v := (Sl.v vb2)) rfl rfl rfl (r_move rfl) ?_
      refine s_pu (d := some 35) (v := (.int .i64 ((vb2.len : Int)))) rfl rfl rfl (r_len Try.underlying35 rfl) ?_
      refine s_pu (d := some 36) (v := (.bool (decide (i27 < ((vb2.len : Int)))))) rfl rfl rfl (r_lss rfl rfl) ?_
      refine s_fin ?_
      show W _ _ _ _ _ _ _ _
      refine W_if (decide (i27 < ((vb2.len : Int)))) rfl (fun g139 => ?_) (fun g139 => ?_)
      · have H := H.1 g139
        refine W_skip ?_
        show W _ _ _ _ _ _ _ _
        refine W_seq ?_
        refine W_block ?_
        refine W_draw [0, 0, 0, 6, 14, 31, 63] (.rd 0 (.pu 1 (.pu 2 (.pu 3 (.rd 4 (.ef 5 [0, 4] (.ef 6 [0, 4] .fin .no) .no)))))) (by kernel_rfl) (by kernel_rfl) ?_
        obtain ⟨x29, e30, H⟩ := H
        refine s_rd (d := some 39) (v := (.agg #[(.pointer x29)])) rfl rfl rfl (fun dr => r_loadN Try.isAgg40 Try.sizeOf40 (vs := [(.pointer x29)]) rfl rfl ⟨e30, trivial⟩) ?_
        refine s_pu (d := some 40) (v := (Sl.v vb2)) rfl rfl rfl (r_move rfl) ?_
        refine s_pu (d := some 41) (v := (.int .i64 i27)) rfl rfl rfl (r_move rfl) ?_
        obtain ⟨p31, e32, e33, e34, H⟩ := H
        obtain ⟨q35, e36⟩ : ∃ q : Addr, q = Addr.add p31 (Int.toNat i27 * 2) := ⟨_, rfl⟩
        rw [← e36] at H
        refine s_pu (d := some 42) (v := (.pointer (some q35))) rfl rfl rfl (fun w => (r_indexAddr Try.underlying35 Try.sizeOf43 rfl rfl e32 e33 e34 w).trans (by rw [e36])) ?_
        obtain ⟨x37, e38, H⟩ := H
        obtain ⟨x39, e40, H⟩ := H
        refine s_rd (d := some 43) (v := (.agg #[(.int .i64 x37), (.int .i64 x39)])) rfl rfl rfl (fun dr => r_loadN Try.isAgg43 Try.sizeOf43 (vs := [(.int .i64 x37), (.int .i64 x39)]) rfl rfl ⟨e38, e40, trivial⟩) ?_
        refine s_ef (d := some 44) rfl rfl rfl (fun dr => r_call Try.call18 rfl rfl H) ?_ trivial
        rintro _ h8 ⟨y41, rfl, H⟩
        refine ⟨⟨trivial, trivial, trivial⟩, ?_⟩
        obtain ⟨e43, H⟩ := H
        obtain ⟨h9, e42⟩ : ∃ hh : Heap, hh = hsets h8 p24 0 [(.pointer y41)] := ⟨_, rfl⟩
        have H := H h9 e42
        refine s_st (d := none) (h' := h9) rfl rfl rfl (fun dr => (r_store (v := (.agg #[(.pointer y41)])) Try.sizeOf40 rfl rfl rfl (one_all rfl) e43).trans (by rw [e42]; rfl)) ⟨trivial, trivial, trivial⟩ ?_ trivial
        refine s_fin ?_
        show W _ _ _ _ _ _ _ _
        refine W_region (.pu 0 (.pu 1 (.pu 2 .fin))) rfl rfl ?_
        refine s_pu (d := some 37) (v := (.int .i64 i27)) rfl rfl rfl (r_move rfl) ?_
        refine s_pu (d := some 38) (v := (.int .i64 (w64 (i27 + 1)))) rfl rfl rfl (r_add rfl rfl) ?_
        refine s_pu (d := some 9) (v := (.int .i64 (w64 (i27 + 1)))) rfl rfl rfl (r_assign rfl) ?_
        refine s_fin ?_
        exact WL_mk (l := [(0, (Sl.v a1)), (1, (Sl.v vb2)), (6, (.pointer (some p4))), (8, (.pointer (some p24))), (9, (.int .i64 (w64 (i27 + 1))))]) H ⟨rfl, rfl, rfl, rfl, rfl, trivial⟩
      · have H := H.2 g139
        refine W_exit (inX_here ?_)
        show W _ _ _ _ _ _ _ _
        refine W_seq ?_
        refine W_region (.rl 0 (.ef 1 [] (.pu 2 (.pu 3 (.pu 4 (.ef 5 [] (.ef 6 [] (.pu 7 .fin) .no) .no)))) .no)) rfl rfl ?_
        obtain ⟨x44, e45, H⟩ := H
        refine s_rl (d := some 46) (v := (.agg #[(.pointer x44)])) rfl rfl rfl (fun dr => r_loadN Try.isAgg40 Try.sizeOf40 (vs := [(.pointer x44)]) rfl rfl ⟨e45, trivial⟩) ?_
        refine s_ef (d := some 47) rfl rfl rfl (fun dr => r_call Try.call19 rfl rfl H) ?_ trivial
        rintro _ h10 ⟨y46, y47, y48, rfl, H⟩
        refine ⟨trivial, ?_⟩
        refine s_pu (d := some 45) (v := (.tuple #[(.agg #[(.int .i64 y46), (.int .i64 y47)]), (.bool y48)])) rfl rfl rfl (r_move rfl) ?_
        refine s_pu (d := some 48) (v := (.agg #[(.int .i64 y46), (.int .i64 y47)])) rfl rfl rfl (r_extract rfl rfl) ?_
        refine s_pu (d := some 49) (v := (.bool y48)) rfl rfl rfl (r_extract rfl rfl) ?_
        obtain ⟨p49, e50⟩ : ∃ p : Addr, p = ⟨h10.size, 0, none⟩ := ⟨_, rfl⟩
        obtain ⟨h11, e51⟩ : ∃ hh : Heap, hh = h10.push (.cells #[(.int .i64 0), (.int .i64 0)] 43) := ⟨_, rfl⟩
        have H := H p49 h11 e50 e51
        refine s_ef1 (d := some 10) (v := (.pointer (some p49))) (h' := h11) rfl rfl rfl (fun dr => (r_alloc Try.zeroValue43).trans (by rw [e50, e51]; rfl)) trivial ?_ trivial
        obtain ⟨e53, H⟩ := H
        obtain ⟨h12, e52⟩ : ∃ hh : Heap, hh = hsets h11 p49 0 [(.int .i64 y46), (.int .i64 y47)] := ⟨_, rfl⟩
        have H := H h12 e52
        refine s_st (d := none) (h' := h12) rfl rfl rfl (fun dr => (r_store (v := (.agg #[(.int .i64 y46), (.int .i64 y47)])) Try.sizeOf43 rfl rfl rfl (one_all rfl) e53).trans (by rw [e52]; rfl)) trivial ?_ trivial
        refine s_pu (d := some 11) (v := (.bool y48)) rfl rfl rfl (r_assign rfl) ?_
        refine s_fin ?_
        show W _ _ _ _ _ _ _ _
        refine W_seq ?_
        refine W_region (.rl 0 (.ef 1 [] (.pu 2 (.pu 3 (.pu 4 (.ef 5 [] (.ef 6 [] (.pu 7 .fin) .no) .no)))) .no)) rfl rfl ?_
        obtain ⟨x54, e55, H⟩ := H
        refine s_rl (d := some 51) (v := (.agg #[(.pointer x54)])) rfl rfl rfl (fun dr => r_loadN Try.isAgg40 Try.sizeOf40 (vs := [(.pointer x54)]) rfl rfl ⟨e55, trivial⟩) ?_
        refine s_ef (d := some 52) rfl rfl rfl (fun dr => r_call Try.call19 rfl rfl H) ?_ trivial
        rintro _ h13 ⟨y56, y57, y58, rfl, H⟩
        refine ⟨trivial, ?_⟩
        refine s_pu (d := some 50) (v := (.tuple #[(.agg #[(.int .i64 y56), (.int .i64 y57)]), (.bool y58)])) rfl rfl rfl (r_move rfl) ?_
        refine s_pu (d := some 53) (v := (.agg #[(.int .i64 y56), (.int .i64 y57)])) rfl rfl rfl (r_extract rfl rfl) ?_
        refine s_pu (d := some 54) (v := (.bool y58)) rfl rfl rfl (r_extract rfl rfl) ?_
        obtain ⟨p59, e60⟩ : ∃ p : Addr, p = ⟨h13.size, 0, none⟩ := ⟨_, rfl⟩
        obtain ⟨h14, e61⟩ : ∃ hh : Heap, hh = h13.push (.cells #[(.int .i64 0), (.int .i64 0)] 43) := ⟨_, rfl⟩
        have H := H p59 h14 e60 e61
        refine s_ef1 (d := some 12) (v := (.pointer (some p59))) (h' := h14) rfl rfl rfl (fun dr => (r_alloc Try.zeroValue43).trans (by rw [e60, e61]; rfl)) trivial ?_ trivial
        obtain ⟨e63, H⟩ := H
        obtain ⟨h15, e62⟩ : ∃ hh : Heap, hh = hsets h14 p59 0 [(.int .i64 y56), (.int .i64 y57)] := ⟨_, rfl⟩
        have H := H h15 e62
        refine s_st (d := none) (h' := h15) rfl rfl rfl (fun dr => (r_store (v := (.agg #[(.int .i64 y56), (.int .i64 y57)])) Try.sizeOf43 rfl rfl rfl (one_all rfl) e63).trans (by rw [e62]; rfl)) trivial ?_ trivial
        refine s_pu (d := some 13) (v := (.bool y58)) rfl rfl rfl (r_assign rfl) ?_
        refine s_fin ?_
        show W _ _ _ _ _ _ _ _
        refine W_seq ?_
        refine W_region (.rl 0 (.rl 1 (.ef 2 [] (.ef 3 [] (.pu 4 (.pu 5 (.pu 6 (.ef 7 [] (.ef 8 [] (.pu 9 .fin) .no) .no)))) .no) .no))) rfl rfl ?_
        obtain ⟨x64, e65, H⟩ := H
        refine s_rl (d := some 56) (v := (.agg #[(.pointer x64)])) rfl rfl rfl (fun dr => r_loadN Try.isAgg40 Try.sizeOf40 (vs := [(.pointer x64)]) rfl rfl ⟨e65, trivial⟩) ?_
        obtain ⟨x66, e67, H⟩ := H
        refine s_rl (d := some 57) (v := (.agg #[(.pointer x66)])) rfl rfl rfl (fun dr => r_loadN Try.isAgg40 Try.sizeOf40 (vs := [(.pointer x66)]) rfl rfl ⟨e67, trivial⟩) ?_
        refine s_ef (d := some 58) rfl rfl rfl (fun dr => r_call Try.call20 rfl rfl H) ?_ trivial
        rintro _ h16 ⟨y68, rfl, H⟩
        refine ⟨trivial, ?_⟩
        refine s_ef (d := some 59) rfl rfl rfl (fun dr => r_call Try.call19 rfl rfl H) ?_ trivial
        rintro _ h17 ⟨y69, y70, y71, rfl, H⟩
        refine ⟨trivial, ?_⟩
        refine s_pu (d := some 55) (v := (.tuple #[(.agg #[(.int .i64 y69), (.int .i64 y70)]), (.bool y71)])) rfl rfl rfl (r_move rfl) ?_
        refine s_pu (d := some 60) (v := (.agg #[(.int .i64 y69), (.int .i64 y70)])) rfl rfl rfl (r_extract rfl rfl) ?_
        refine s_pu (d := some 61) (v := (.bool y71)) rfl rfl rfl (r_extract rfl rfl) ?_
        obtain ⟨p72, e73⟩ : ∃ p : Addr, p = ⟨h17.size, 0, none⟩ := ⟨_, rfl⟩
        obtain ⟨h18, e74⟩ : ∃ hh : Heap, hh = h17.push (.cells #[(.int .i64 0), (.int .i64 0)] 43) := ⟨_, rfl⟩
        have H := H p72 h18 e73 e74
        refine s_ef1 (d := some 14) (v := (.pointer (some p72))) (h' := h18) rfl rfl rfl (fun dr => (r_alloc Try.zeroValue43).trans (by rw [e73, e74]; rfl)) trivial ?_ trivial
        obtain ⟨e76, H⟩ := H
        obtain ⟨h19, e75⟩ : ∃ hh : Heap, hh = hsets h18 p72 0 [(.int .i64 y69), (.int .i64 y70)] := ⟨_, rfl⟩
        have H := H h19 e75
        refine s_st (d := none) (h' := h19) rfl rfl rfl (fun dr => (r_store (v := (.agg #[(.int .i64 y69), (.int .i64 y70)])) Try.sizeOf43 rfl rfl rfl (one_all rfl) e76).trans (by rw [e75]; rfl)) trivial ?_ trivial
        refine s_pu (d := some 15) (v := (.bool y71)) rfl rfl rfl (r_assign rfl) ?_
        refine s_fin ?_
        show W _ _ _ _ _ _ _ _
        refine W_seq ?_
        refine W_region (.rl 0 (.ef 1 [] (.ef 2 [] .fin .no) .no)) rfl rfl ?_
        obtain ⟨x77, e78, H⟩ := H
        obtain ⟨x79, e80, H⟩ := H
        refine s_rl (d := some 62) (v := (.agg #[(.int .i64 x77), (.int .i64 x79)])) rfl rfl rfl (fun dr => r_loadN Try.isAgg43 Try.sizeOf43 (vs := [(.int .i64 x77), (.int .i64 x79)]) rfl rfl ⟨e78, e80, trivial⟩) ?_
        obtain ⟨p81, e82⟩ : ∃ p : Addr, p = ⟨h19.size, 0, none⟩ := ⟨_, rfl⟩
        obtain ⟨h20, e83⟩ : ∃ hh : Heap, hh = h19.push (.cells #[(.int .i64 0), (.int .i64 0)] 43) := ⟨_, rfl⟩
        have H := H p81 h20 e82 e83
        refine s_ef1 (d := some 16) (v := (.pointer (some p81))) (h' := h20) rfl rfl rfl (fun dr => (r_alloc Try.zeroValue43).trans (by rw [e82, e83]; rfl)) trivial ?_ trivial
        obtain ⟨e85, H⟩ := H
        obtain ⟨h21, e84⟩ : ∃ hh : Heap, hh = hsets h20 p81 0 [(.int .i64 x77), (.int .i64 x79)] := ⟨_, rfl⟩
        have H := H h21 e84
        refine s_st (d := none) (h' := h21) rfl rfl rfl (fun dr => (r_store (v := (.agg #[(.int .i64 x77), (.int .i64 x79)])) Try.sizeOf43 rfl rfl rfl (one_all rfl) e85).trans (by rw [e84]; rfl)) trivial ?_ trivial
        refine s_fin ?_
        show W _ _ _ _ _ _ _ _
        refine W_seq ?_
        refine W_seq ?_
        refine W_set ?_
        intro N88 eN88
        have H := H (fun (x86 : Bool) => ∀ b, N88 [] (mkE [(0, (Sl.v a1)), (1, (Sl.v vb2)), (6, (.pointer (some p4))), (8, (.pointer (some p24))), (11, (.bool y48)), (12, (.pointer (some p59))), (13, (.bool y58)), (14, (.pointer (some p72))), (15, (.bool y71)), (16, (.pointer (some p81))), (74, (.bool x86))] b) h21) (by
          intro x86 H b
          rw [eN88]
          show W _ _ _ _ _ _ _ _
          refine W_set ?_
          intro N90 eN90
          have H := H (fun (h22 : Heap) => ∀ b, N90 [] (mkE [(0, (Sl.v a1)), (1, (Sl.v vb2)), (6, (.pointer (some p4))), (8, (.pointer (some p24))), (11, (.bool y48)), (13, (.bool y58)), (14, (.pointer (some p72))), (15, (.bool y71)), (16, (.pointer (some p81)))] b) h22) (by
            intro h22 H b
            rw [eN90]
            show W _ _ _ _ _ _ _ _
            refine W_seq ?_
            refine W_region (.rl 0 (.rl 1 (.ef 2 [] (.ef 3 [] (.ef 4 [] (.pu 5 (.ef 6 [] (.pu 7 (.ef 8 [] (.ef 9 [] (.pu 10 .fin) .no) .no)) .no)) .no) .no) .no))) rfl rfl ?_
            obtain ⟨x91, e92, H⟩ := H
            refine s_rl (d := some 76) (v := (.agg #[(.pointer x91)])) rfl rfl rfl (fun dr => r_loadN Try.isAgg40 Try.sizeOf40 (vs := [(.pointer x91)]) rfl rfl ⟨e92, trivial⟩) ?_
            obtain ⟨x93, e94, H⟩ := H
            refine s_rl (d := some 77) (v := (.agg #[(.pointer x93)])) rfl rfl rfl (fun dr => r_loadN Try.isAgg40 Try.sizeOf40 (vs := [(.pointer x93)]) rfl rfl ⟨e94, trivial⟩) ?_
            refine s_ef (d := some 78) rfl rfl rfl (fun dr => r_call Try.call20 rfl rfl H) ?_ trivial
            rintro _ h23 ⟨y95, rfl, H⟩
            refine ⟨trivial, ?_⟩
            refine s_ef (d := some 79) rfl rfl rfl (fun dr => r_call Try.call22 rfl rfl H) ?_ trivial
            rintro _ h24 ⟨y96, rfl, H⟩
            refine ⟨trivial, ?_⟩
            obtain ⟨p97, e98⟩ : ∃ p : Addr, p = ⟨h24.size, 0, none⟩ := ⟨_, rfl⟩
            obtain ⟨h25, e99⟩ : ∃ hh : Heap, hh = h24.push (.cells #[] 43) := ⟨_, rfl⟩
            have H := H p97 h25 e98 e99
            refine s_ef1 (d := some 80) (v := (Sl.v ((⟨some p97, 0, 0⟩ : Sl)))) (h' := h25) rfl rfl rfl (fun dr => (slFPLaw_35.build0).trans (by rw [e98, e99]; rfl)) trivial ?_ trivial
            refine s_pu (d := some 81) (v := (Sl.v a1)) rfl rfl rfl (r_move rfl) ?_
            refine s_ef (d := some 82) rfl rfl rfl (fun dr => slFPLaw_35.append rfl rfl H) ?_ trivial
            rintro _ h26 ⟨s100, rfl, H⟩
            refine ⟨trivial, ?_⟩
            refine s_pu (d := some 83) (v := (Sl.v vb2)) rfl rfl rfl (r_move rfl) ?_
            refine s_ef (d := some 84) rfl rfl rfl (fun dr => slFPLaw_35.append rfl rfl H) ?_ trivial
            rintro _ h27 ⟨s101, rfl, H⟩
            refine ⟨trivial, ?_⟩
            refine s_ef (d := some 85) rfl rfl rfl (fun dr => r_call Try.call21 rfl rfl H) ?_ trivial
            rintro _ h28 ⟨y102, rfl, H⟩
            refine ⟨trivial, ?_⟩
            refine s_pu (d := some 17) (v := (.bool y102)) rfl rfl rfl (r_assign rfl) ?_
            refine s_fin ?_
            show W _ _ _ _ _ _ _ _
            refine W_seq ?_
            refine W_set ?_
            intro N105 eN105
            have H := H (fun (x103 : Bool) => ∀ b, N105 [] (mkE [(4, (.bool x103))] b) h28) (by
              intro x103 H b
              rw [eN105]
              show W _ _ _ _ _ _ _ _
              refine W_ret ?_
              exact ⟨[(.bool x103)], ⟨_, _, rfl, rfl, rfl⟩, x103, rfl, H⟩)
            clear eN105
            refine W_region (.pu 0 (.pu 1 (.pu 2 (.pu 3 (.pu 4 (.pu 5 (.pu 6 (.pu 7 (.pu 8 (.pu 9 (.rl 10 (.rl 11 (.pu 12 (.pu 13 (.pu 14 .fin))))))))))))))) rfl rfl ?_
            refine s_pu (d := some 86) (v := (.bool y102)) rfl rfl rfl (r_move rfl) ?_
            refine s_pu (d := some 87) (v := (.bool y102)) rfl rfl rfl (r_move rfl) ?_
            rcases Bool.eq_false_or_eq_true y102 with g106 | g106
            · have H := H.1 g106
              refine s_pu (d := some 88) (v := (.bool y71)) rfl rfl (wants_yes rfl rfl rfl rfl g106) (r_move rfl) ?_
              refine s_pu (d := some 89) (v := (.bool y48)) rfl rfl (wants_yes rfl rfl rfl rfl g106) (r_move rfl) ?_
              refine s_pu (d := some 90) (v := (.bool y48)) rfl rfl (wants_yes rfl rfl rfl rfl g106) (r_move rfl) ?_
              rcases Bool.eq_false_or_eq_true y48 with g107 | g107
              · have H := H.1 g107
                refine s_sk (d := some 91) rfl rfl (wants_no rfl rfl rfl rfl g107) ?_
                refine s_pu (d := some 92) (v := (.bool true)) rfl rfl (wants_yes rfl rfl rfl rfl g106) (r_pick1 rfl g107 rfl) ?_
                refine s_pu (d := some 93) (v := (.bool (y71 == true))) rfl rfl (wants_yes rfl rfl rfl rfl g106) (r_eqlB Try.underlying4 rfl rfl) ?_
                refine s_pu (d := some 94) (v := (.bool (y71 == true))) rfl rfl rfl (r_pick1 rfl g106 rfl) ?_
                refine s_pu (d := some 95) (v := (.bool (y71 == true))) rfl rfl rfl (r_move rfl) ?_
                rcases Bool.eq_false_or_eq_true (y71 == true) with g108 | g108
                · have H := H.1 g108
                  obtain ⟨x109, e110, H⟩ := H
                  obtain ⟨x111, e112, H⟩ := H
                  refine s_rl (d := some 96) (v := (.agg #[(.int .i64 x109), (.int .i64 x111)])) rfl rfl (wants_yes rfl rfl rfl rfl g108) (fun dr => r_loadN Try.isAgg43 Try.sizeOf43 (vs := [(.int .i64 x109), (.int .i64 x111)]) rfl rfl ⟨e110, e112, trivial⟩) ?_
                  obtain ⟨x113, e114, H⟩ := H
                  obtain ⟨x115, e116, H⟩ := H
                  refine s_rl (d := some 97) (v := (.agg #[(.int .i64 x113), (.int .i64 x115)])) rfl rfl (wants_yes rfl rfl rfl rfl g108) (fun dr => r_loadN Try.isAgg43 Try.sizeOf43 (vs := [(.int .i64 x113), (.int .i64 x115)]) rfl rfl ⟨e114, e116, trivial⟩) ?_
                  refine s_pu (d := some 98) (v := (.bool (decide (x109 = x113 ∧ x111 = x115)))) rfl rfl (wants_yes rfl rfl rfl rfl g108) (r_eqlAgg_Try43 rfl rfl) ?_
                  refine s_pu (d := some 99) (v := (.bool (decide (x109 = x113 ∧ x111 = x115)))) rfl rfl rfl (r_pick1 rfl g108 rfl) ?_
                  refine s_pu (d := some 4) (v := (.bool (decide (x109 = x113 ∧ x111 = x115)))) rfl rfl rfl (r_assign rfl) ?_
                  refine s_fin ?_
                  exact N_mk (l := [(4, (.bool (decide (x109 = x113 ∧ x111 = x115))))]) H ⟨rfl, trivial⟩
                · have H := H.2 g108
                  refine s_skl (d := some 96) rfl rfl (wants_no rfl rfl rfl rfl g108) ?_
                  refine s_skl (d := some 97) rfl rfl (wants_no rfl rfl rfl rfl g108) ?_
                  refine s_sk (d := some 98) rfl rfl (wants_no rfl rfl rfl rfl g108) ?_
                  refine s_pu (d := some 99) (v := (.bool false)) rfl rfl rfl (r_pick0 rfl g108 rfl) ?_
                  refine s_pu (d := some 4) (v := (.bool false)) rfl rfl rfl (r_assign rfl) ?_
                  refine s_fin ?_
                  exact N_mk (l := [(4, (.bool false))]) H ⟨rfl, trivial⟩
              · have H := H.2 g107
                refine s_pu (d := some 91) (v := (.bool y58)) rfl rfl (wants_yes rfl rfl rfl rfl g107) (r_move rfl) ?_
                refine s_pu (d := some 92) (v := (.bool y58)) rfl rfl (wants_yes rfl rfl rfl rfl g106) (r_pick0 rfl g107 rfl) ?_
                refine s_pu (d := some 93) (v := (.bool (y71 == y58))) rfl rfl (wants_yes rfl rfl rfl rfl g106) (r_eqlB Try.underlying4 rfl rfl) ?_
                refine s_pu (d := some 94) (v := (.bool (y71 == y58))) rfl rfl rfl (r_pick1 rfl g106 rfl) ?_
                refine s_pu (d := some 95) (v := (.bool (y71 == y58))) rfl rfl rfl (r_move rfl) ?_
                rcases Bool.eq_false_or_eq_true (y71 == y58) with g117 | g117
                · have H := H.1 g117
                  obtain ⟨x118, e119, H⟩ := H
                  obtain ⟨x120, e121, H⟩ := H
                  refine s_rl (d := some 96) (v := (.agg #[(.int .i64 x118), (.int .i64 x120)])) rfl rfl (wants_yes rfl rfl rfl rfl g117) (fun dr => r_loadN Try.isAgg43 Try.sizeOf43 (vs := [(.int .i64 x118), (.int .i64 x120)]) rfl rfl ⟨e119, e121, trivial⟩) ?_
                  obtain ⟨x122, e123, H⟩ := H
                  obtain ⟨x124, e125, H⟩ := H
                  refine s_rl (d := some 97) (v := (.agg #[(.int .i64 x122), (.int .i64 x124)])) rfl rfl (wants_yes rfl rfl rfl rfl g117) (fun dr => r_loadN Try.isAgg43 Try.sizeOf43 (vs := [(.int .i64 x122), (.int .i64 x124)]) rfl rfl ⟨e123, e125, trivial⟩) ?_
                  refine s_pu (d := some 98) (v := (.bool (decide (x118 = x122 ∧ x120 = x124)))) rfl rfl (wants_yes rfl rfl rfl rfl g117) (r_eqlAgg_Try43 rfl rfl) ?_
                  refine s_pu (d := some 99) (v := (.bool (decide (x118 = x122 ∧ x120 = x124)))) rfl rfl rfl (r_pick1 rfl g117 rfl) ?_
                  refine s_pu (d := some 4) (v := (.bool (decide (x118 = x122 ∧ x120 = x124)))) rfl rfl rfl (r_assign rfl) ?_
                  refine s_fin ?_
                  exact N_mk (l := [(4, (.bool (decide (x118 = x122 ∧ x120 = x124))))]) H ⟨rfl, trivial⟩
                · have H := H.2 g117
                  refine s_skl (d := some 96) rfl rfl (wants_no rfl rfl rfl rfl g117) ?_
                  refine s_skl (d := some 97) rfl rfl (wants_no rfl rfl rfl rfl g117) ?_
                  refine s_sk (d := some 98) rfl rfl (wants_no rfl rfl rfl rfl g117) ?_
                  refine s_pu (d := some 99) (v := (.bool false)) rfl rfl rfl (r_pick0 rfl g117 rfl) ?_
                  refine s_pu (d := some 4) (v := (.bool false)) rfl rfl rfl (r_assign rfl) ?_
                  refine s_fin ?_
                  exact N_mk (l := [(4, (.bool false))]) H ⟨rfl, trivial⟩
            · have H := H.2 g106
              refine s_sk (d := some 88) rfl rfl (wants_no rfl rfl rfl rfl g106) ?_
              refine s_sk (d := some 89) rfl rfl (wants_no rfl rfl rfl rfl g106) ?_
              refine s_sk (d := some 90) rfl rfl (wants_no rfl rfl rfl rfl g106) ?_
              refine s_sk (d := some 91) rfl rfl (wants_un rfl rfl rfl) ?_
              refine s_sk (d := some 92) rfl rfl (wants_no rfl rfl rfl rfl g106) ?_
              refine s_sk (d := some 93) rfl rfl (wants_no rfl rfl rfl rfl g106) ?_
              refine s_pu (d := some 94) (v := (.bool false)) rfl rfl rfl (r_pick0 rfl g106 rfl) ?_
              refine s_pu (d := some 95) (v := (.bool false)) rfl rfl rfl (r_move rfl) ?_
              refine s_skl (d := some 96) rfl rfl (wants_no rfl rfl rfl rfl rfl) ?_
              refine s_skl (d := some 97) rfl rfl (wants_no rfl rfl rfl rfl rfl) ?_
              refine s_sk (d := some 98) rfl rfl (wants_no rfl rfl rfl rfl rfl) ?_
              refine s_pu (d := some 99) (v := (.bool false)) rfl rfl rfl (r_pick0 rfl rfl rfl) ?_
              refine s_pu (d := some 4) (v := (.bool false)) rfl rfl rfl (r_assign rfl) ?_
              refine s_fin ?_
              exact N_mk (l := [(4, (.bool false))]) H ⟨rfl, trivial⟩)
          clear eN90
          refine W_if x86 rfl (fun g132 => ?_) (fun g132 => ?_)
          · have H := H.1 g132
            refine W_region (.rl 0 (.ef 1 [] .fin .no)) rfl rfl ?_
            obtain ⟨x126, e127, H⟩ := H
            obtain ⟨x128, e129, H⟩ := H
            refine s_rl (d := some 75) (v := (.agg #[(.int .i64 x126), (.int .i64 x128)])) rfl rfl rfl (fun dr => r_loadN Try.isAgg43 Try.sizeOf43 (vs := [(.int .i64 x126), (.int .i64 x128)]) rfl rfl ⟨e127, e129, trivial⟩) ?_
            obtain ⟨e131, H⟩ := H
            obtain ⟨h29, e130⟩ : ∃ hh : Heap, hh = hsets h21 p81 0 [(.int .i64 x126), (.int .i64 x128)] := ⟨_, rfl⟩
            have H := H h29 e130
            refine s_st (d := none) (h' := h29) rfl rfl rfl (fun dr => (r_store (v := (.agg #[(.int .i64 x126), (.int .i64 x128)])) Try.sizeOf43 rfl rfl rfl (one_all rfl) e131).trans (by rw [e130]; rfl)) trivial ?_ trivial
            refine s_fin ?_
            exact N_mk (l := [(0, (Sl.v a1)), (1, (Sl.v vb2)), (6, (.pointer (some p4))), (8, (.pointer (some p24))), (11, (.bool y48)), (13, (.bool y58)), (14, (.pointer (some p72))), (15, (.bool y71)), (16, (.pointer (some p81)))]) H ⟨rfl, rfl, rfl, rfl, rfl, rfl, rfl, rfl, rfl, trivial⟩
          · have H := H.2 g132
            refine W_skip ?_
            exact N_mk (l := [(0, (Sl.v a1)), (1, (Sl.v vb2)), (6, (.pointer (some p4))), (8, (.pointer (some p24))), (11, (.bool y48)), (13, (.bool y58)), (14, (.pointer (some p72))), (15, (.bool y71)), (16, (.pointer (some p81)))]) H ⟨rfl, rfl, rfl, rfl, rfl, rfl, rfl, rfl, rfl, trivial⟩)
        clear eN88
        refine W_region (.pu 0 (.pu 1 (.pu 2 (.pu 3 (.pu 4 (.pu 5 (.rl 6 (.pu 7 (.rl 8 (.pu 9 (.pu 10 (.pu 11 .fin)))))))))))) rfl rfl ?_
        refine s_pu (d := some 63) (v := (.bool y48)) rfl rfl rfl (r_move rfl) ?_
        refine s_pu (d := some 64) (v := (.bool (!y48))) rfl rfl rfl (r_not rfl) ?_
        refine s_pu (d := some 65) (v := (.bool (!y48))) rfl rfl rfl (r_move rfl) ?_
        rcases Bool.eq_false_or_eq_true (!y48) with g133 | g133
        · have H := H.1 g133
          refine s_sk (d := some 66) rfl rfl (wants_no rfl rfl rfl rfl g133) ?_
          refine s_sk (d := some 67) rfl rfl (wants_no rfl rfl rfl rfl g133) ?_
          refine s_sk (d := some 68) rfl rfl (wants_un rfl rfl rfl) ?_
          refine s_skl (d := some 69) rfl rfl (wants_un rfl rfl rfl) ?_
          refine s_sk (d := some 70) rfl rfl (wants_un rfl rfl rfl) ?_
          refine s_skl (d := some 71) rfl rfl (wants_un rfl rfl rfl) ?_
          refine s_sk (d := some 72) rfl rfl (wants_un rfl rfl rfl) ?_
          refine s_sk (d := some 73) rfl rfl (wants_no rfl rfl rfl rfl g133) ?_
          refine s_pu (d := some 74) (v := (.bool true)) rfl rfl rfl (r_pick1 rfl g133 rfl) ?_
          refine s_fin ?_
          exact N_mk (l := [(0, (Sl.v a1)), (1, (Sl.v vb2)), (6, (.pointer (some p4))), (8, (.pointer (some p24))), (11, (.bool y48)), (12, (.pointer (some p59))), (13, (.bool y58)), (14, (.pointer (some p72))), (15, (.bool y71)), (16, (.pointer (some p81))), (74, (.bool true))]) H ⟨rfl, rfl, rfl, rfl, rfl, rfl, rfl, rfl, rfl, rfl, rfl, trivial⟩
        · have H := H.2 g133
          refine s_pu (d := some 66) (v := (.bool y58)) rfl rfl (wants_yes rfl rfl rfl rfl g133) (r_move rfl) ?_
          refine s_pu (d := some 67) (v := (.bool y58)) rfl rfl (wants_yes rfl rfl rfl rfl g133) (r_move rfl) ?_
          rcases Bool.eq_false_or_eq_true y58 with g134 | g134
          · have H := H.1 g134
            refine s_pu (d := some 68) (v := (.pointer (some (Addr.add p59 0)))) rfl rfl (wants_yes rfl rfl rfl rfl g134) (r_fieldAddr Try.underlying43 Try.sizeOf3 rfl rfl rfl) ?_
            obtain ⟨x135, e136, H⟩ := H
            refine s_rl (d := some 69) (v := (.int .i64 x135)) rfl rfl (wants_yes rfl rfl rfl rfl g134) (fun dr => r_load1 Try.isAgg3 rfl e136) ?_
            refine s_pu (d := some 70) (v := (.pointer (some (Addr.add p49 0)))) rfl rfl (wants_yes rfl rfl rfl rfl g134) (r_fieldAddr Try.underlying43 Try.sizeOf3 rfl rfl rfl) ?_
            obtain ⟨x137, e138, H⟩ := H
            refine s_rl (d := some 71) (v := (.int .i64 x137)) rfl rfl (wants_yes rfl rfl rfl rfl g134) (fun dr => r_load1 Try.isAgg3 rfl e138) ?_
            refine s_pu (d := some 72) (v := (.bool (decide (x137 < x135)))) rfl rfl (wants_yes rfl rfl rfl rfl g134) (r_gtr rfl rfl) ?_
            refine s_pu (d := some 73) (v := (.bool (decide (x137 < x135)))) rfl rfl (wants_yes rfl rfl rfl rfl g133) (r_pick1 rfl g134 rfl) ?_
            refine s_pu (d := some 74) (v := (.bool (decide (x137 < x135)))) rfl rfl rfl (r_pick0 rfl g133 rfl) ?_
            refine s_fin ?_
            exact N_mk (l := [(0, (Sl.v a1)), (1, (Sl.v vb2)), (6, (.pointer (some p4))), (8, (.pointer (some p24))), (11, (.bool y48)), (12, (.pointer (some p59))), (13, (.bool y58)), (14, (.pointer (some p72))), (15, (.bool y71)), (16, (.pointer (some p81))), (74, (.bool (decide (x137 < x135))))]) H ⟨rfl, rfl, rfl, rfl, rfl, rfl, rfl, rfl, rfl, rfl, rfl, trivial⟩
          · have H := H.2 g134
            refine s_sk (d := some 68) rfl rfl (wants_no rfl rfl rfl rfl g134) ?_
            refine s_skl (d := some 69) rfl rfl (wants_no rfl rfl rfl rfl g134) ?_
            refine s_sk (d := some 70) rfl rfl (wants_no rfl rfl rfl rfl g134) ?_
            refine s_skl (d := some 71) rfl rfl (wants_no rfl rfl rfl rfl g134) ?_
            refine s_sk (d := some 72) rfl rfl (wants_no rfl rfl rfl rfl g134) ?_
            refine s_pu (d := some 73) (v := (.bool false)) rfl rfl (wants_yes rfl rfl rfl rfl g133) (r_pick0 rfl g134 rfl) ?_
            refine s_pu (d := some 74) (v := (.bool false)) rfl rfl rfl (r_pick0 rfl g133 rfl) ?_
            refine s_fin ?_
            exact N_mk (l := [(0, (Sl.v a1)), (1, (Sl.v vb2)), (6, (.pointer (some p4))), (8, (.pointer (some p24))), (11, (.bool y48)), (12, (.pointer (some p59))), (13, (.bool y58)), (14, (.pointer (some p72))), (15, (.bool y71)), (16, (.pointer (some p81))), (74, (.bool false))]) H ⟨rfl, rfl, rfl, rfl, rfl, rfl, rfl, rfl, rfl, rfl, rfl, trivial⟩

/-! ### law3_PrioSorts -/

def law3_PrioSorts_F (r : World) (l1 : Sl) (h : Heap) (R : Bool → Heap → Prop) : Prop :=
  law3_ranked r h fun y2 h1 =>
  Br (!y2) (
    R false h1) (
    New h1 (.cells #[(.pointer none)] 40) fun p3 h2 =>
    ∀ X7 : Int → Heap → Prop, (∀ (i6 : Int) (h3 : Heap),
      (Br (decide (i6 < ((l1.len : Int)))) (
        LdP h3 (Addr.add p3 0) fun x8 =>
        Ix l1 i6 1 fun q14 =>
        LdI h3 q14 fun x16 =>
        prio_Queue_Push r x8 x16 i6 h3 fun y18 h4 =>
        St h4 p3 1 [(.pointer y18)] fun h5 =>
        X7 (w64 (i6 + 1)) h5) (
        New h3 (.cells #[(.int .i64 0), (.int .i64 0)] 43) fun p21 h6 =>
        ∀ X25 : Int → Heap → Prop, (∀ (i24 : Int) (h7 : Heap),
          (Br (decide (i24 < ((l1.len : Int)))) (
            LdP h7 (Addr.add p3 0) fun x26 =>
            prio_Queue_Pop r x26 h7 fun y28 y29 y30 y31 h8 =>
            New h8 (.cells #[(.int .i64 0), (.int .i64 0)] 43) fun p32 h9 =>
            New h9 (.cells #[(.pointer none)] 40) fun p35 h10 =>
            St h10 p32 2 [(.int .i64 y28), (.int .i64 y29)] fun h11 =>
            St h11 p35 1 [(.pointer y30)] fun h12 =>
            ∀ J43 : Bool → Prop, (∀ (x42 : Bool),
              (Br x42 (
                R false h12) (
                ∀ J46 : Bool → Prop, (∀ (x45 : Bool),
                  (Br x45 (
                    R false h12) (
                    LdI h12 (Addr.add p32 0) fun x48 =>
                    LdI h12 (Addr.add p32 1) fun x50 =>
                    St h12 p21 2 [(.int .i64 x48), (.int .i64 x50)] fun h13 =>
                    LdP h13 (Addr.add p35 0) fun x54 =>
                    St h13 p3 1 [(.pointer x54)] fun h14 =>
                    X25 (w64 (i24 + 1)) h14)) →
                  J46 x45) →
                Br (decide (0 < i24)) (
                  LdI h12 (Addr.add p32 0) fun x60 =>
                  LdI h12 (Addr.add p21 0) fun x62 =>
                  Br (decide (x62 < x60)) (
                    J46 true) (
                    LdI h12 (Addr.add p32 0) fun x65 =>
                    LdI h12 (Addr.add p21 0) fun x67 =>
                    Br (decide (x65 = x67)) (
                      LdI h12 (Addr.add p32 1) fun x70 =>
                      LdI h12 (Addr.add p21 1) fun x72 =>
                      J46 (decide (x70 < x72))) (
                      J46 false))) (
                  J46 false))) →
              J43 x42) →
            Br (!y31) (
              J43 true) (
              LdI h12 (Addr.add p32 1) fun x76 =>
              Br (decide (x76 < 0)) (
                J43 true) (
                LdI h12 (Addr.add p32 1) fun x79 =>
                Br (decide (((l1.len : Int)) ≤ x79)) (
                  J43 true) (
                  LdI h12 (Addr.add p32 1) fun x82 =>
                  Ix l1 x82 1 fun q88 =>
                  LdI h12 q88 fun x90 =>
                  LdI h12 (Addr.add p32 0) fun x92 =>
                  J43 (!decide (x90 = x92)))))) (
            LdP h7 (Addr.add p3 0) fun x94 =>
            prio_Queue_Len r x94 h7 fun y96 h15 =>
            R (decide (y96 = 0)) h15)) →
          X25 i24 h7) →
        X25 0 h6)) →
      X7 i6 h3) →
    X7 0 h2)

set_option maxRecDepth 100000 in
theorem law3_PrioSorts_of {r : World} {l1 : Sl} {h : Heap} {R : Bool → Heap → Prop} (H : law3_PrioSorts_F r l1 h R) : law3_PrioSorts r l1 h R := by
  unfold law3_PrioSorts_F at H
  refine calls_of 92 [.tmp 2] Try.func5 rfl rfl rfl rfl rfl ?_
  refine W_seq ?_
  refine W_region (.pu 0 .fin) rfl rfl ?_
  refine s_pu (d := some 2) (v := (.bool false)) rfl rfl rfl (r_assign rfl) ?_
  refine s_fin ?_
  show W _ _ _ _ _ _ _ _
  refine W_seq ?_
  refine W_region (.ef 0 [] (.pu 1 .fin) .no) rfl rfl ?_
  refine s_ef (d := some 11) rfl rfl rfl (fun dr => r_call Try.call17 rfl rfl H) ?_ trivial
  rintro _ h1 ⟨y2, rfl, H⟩
  refine ⟨trivial, ?_⟩
  refine s_pu (d := some 3) (v := (.bool y2)) rfl rfl rfl (r_assign rfl) ?_
  refine s_fin ?_
  show W _ _ _ _ _ _ _ _
  refine W_seq ?_
  refine W_seq ?_
  refine W_region (.pu 0 (.pu 1 .fin)) rfl rfl ?_
  refine s_pu (d := some 12) (v := (.bool y2)) rfl rfl rfl (r_move rfl) ?_
  refine s_pu (d := some 13) (v := (.bool (!y2))) rfl rfl rfl (r_not rfl) ?_
  refine s_fin ?_
  show W _ _ _ _ _ _ _ _
  refine W_if (!y2) rfl (fun g99 => ?_) (fun g99 => ?_)
  · have H := H.1 g99
    refine W_seq ?_
    refine W_region (.pu 0 .fin) rfl rfl ?_
    refine s_pu (d := some 2) (v := (.bool false)) rfl rfl rfl (r_assign rfl) ?_
    refine s_fin ?_
    show W _ _ _ _ _ _ _ _
    refine W_ret ?_
    exact ⟨[(.bool false)], ⟨_, _, rfl, rfl, rfl⟩, false, rfl, H⟩
  · have H := H.2 g99
    refine W_skip ?_
    show W _ _ _ _ _ _ _ _
    refine W_seq ?_
    refine W_region (.ef 0 [] .fin .no) rfl rfl ?_
    obtain ⟨p3, e4⟩ : ∃ p : Addr, p = ⟨h1.size, 0, none⟩ := ⟨_, rfl⟩
    obtain ⟨h2, e5⟩ : ∃ hh : Heap, hh = h1.push (.cells #[(.pointer none)] 40) := ⟨_, rfl⟩
    have H := H p3 h2 e4 e5
    refine s_ef1 (d := some 4) (v := (.pointer (some p3))) (h' := h2) rfl rfl rfl (fun dr => (r_alloc Try.zeroValue40).trans (by rw [e4, e5]; rfl)) trivial ?_ trivial
    refine s_fin ?_
    show W _ _ _ _ _ _ _ _
    refine W_seq ?_
    refine W_seq ?_
    refine W_region (.pu 0 .fin) rfl rfl ?_
    refine s_pu (d := some 5) (v := (.int .i64 0)) rfl rfl rfl (r_assign rfl) ?_
    refine s_fin ?_
    show W _ _ _ _ _ _ _ _
    refine W_block ?_
    refine W_loop (WL_mk (l := [(0, (Sl.v l1)), (4, (.pointer (some p3))), (5, (.int .i64 0))]) ?_ ⟨rfl, rfl, rfl, trivial⟩)
    refine H (fun (i6 : Int) (h3 : Heap) => ∀ b, WL _ _ _ _ _ _ (mkE [(0, (Sl.v l1)), (4, (.pointer (some p3))), (5, (.int .i64 i6))] b) h3) ?_
    intro i6 h3 H b
    refine WL_round ?_
    refine W_seq ?_
    refine W_seq ?_
    refine W_region (.pu 0 (.pu 1 (.pu 2 (.pu 3 .fin)))) rfl rfl ?_
    refine s_pu (d := some 14) (v := (.int .i64 i6)) rfl rfl rfl (r_move rfl) ?_
    refine s_pu (d := some 15) (v := (Sl.v l1)) rfl rfl rfl (r_move rfl) ?_
    refine s_pu (d := some 16) (v := (.int .i64 ((l1.len : Int)))) rfl rfl rfl (r_len Try.underlying22 rfl) ?_
    refine s_pu (d := some 17) (v := (.bool (decide (i6 < ((l1.len : Int)))))) rfl rfl rfl (r_lss rfl rfl) ?_
    refine s_fin ?_
    show W _ _ _ _ _ _ _ _
    refine W_if (decide (i6 < ((l1.len : Int)))) rfl (fun g98 => ?_) (fun g98 => ?_)
    · have H := H.1 g98
      refine W_skip ?_
      show W _ _ _ _ _ _ _ _
      refine W_seq ?_
      refine W_block ?_
      refine W_draw [0, 0, 0, 6, 14, 0, 62, 127, 255] (.rd 0 (.pu 1 (.pu 2 (.pu 3 (.rd 4 (.pu 5 (.pu 6 (.ef 7 [0, 4] (.ef 8 [0, 4] .fin .no) .no)))))))) (by kernel_rfl) (by kernel_rfl) ?_
      obtain ⟨x8, e9, H⟩ := H
      refine s_rd (d := some 20) (v := (.agg #[(.pointer x8)])) rfl rfl rfl (fun dr => r_loadN Try.isAgg40 Try.sizeOf40 (vs := [(.pointer x8)]) rfl rfl ⟨e9, trivial⟩) ?_
      refine s_pu (d := some 21) (v := (Sl.v l1)) rfl rfl rfl (r_move rfl) ?_
      refine s_pu (d := some 22) (v := (.int .i64 i6)) rfl rfl rfl (r_move rfl) ?_
      obtain ⟨p10, e11, e12, e13, H⟩ := H
      obtain ⟨q14, e15⟩ : ∃ q : Addr, q = Addr.add p10 (Int.toNat i6 * 1) := ⟨_, rfl⟩
      rw [← e15] at H
      refine s_pu (d := some 23) (v := (.pointer (some q14))) rfl rfl rfl (fun w => (r_indexAddr Try.underlying22 Try.sizeOf3 rfl rfl e11 e12 e13 w).trans (by rw [e15])) ?_
      obtain ⟨x16, e17, H⟩ := H
      refine s_rd (d := some 24) (v := (.int .i64 x16)) rfl rfl rfl (fun dr => r_load1 Try.isAgg3 rfl e17) ?_
      refine s_pu (d := some 25) (v := (.int .i64 i6)) rfl rfl rfl (r_move rfl) ?_
      refine s_pu (d := some 26) (v := (.agg #[(.int .i64 x16), (.int .i64 i6)])) rfl rfl rfl (fun w => by kernel_rfl) ?_
      refine s_ef (d := some 27) rfl rfl rfl (fun dr => r_call Try.call18 rfl rfl H) ?_ trivial
      rintro _ h4 ⟨y18, rfl, H⟩
      refine ⟨⟨trivial, trivial, trivial⟩, ?_⟩
      obtain ⟨e20, H⟩ := H
      obtain ⟨h5, e19⟩ : ∃ hh : Heap, hh = hsets h4 p3 0 [(.pointer y18)] := ⟨_, rfl⟩
      have H := H h5 e19
      refine s_st (d := none) (h' := h5) rfl rfl rfl (fun dr => (r_store (v := (.agg #[(.pointer y18)])) Try.sizeOf40 rfl rfl rfl (one_all rfl) e20).trans (by rw [e19]; rfl)) ⟨trivial, trivial, trivial⟩ ?_ trivial
      refine s_fin ?_
      show W _ _ _ _ _ _ _ _
      refine W_region (.pu 0 (.pu 1 (.pu 2 .fin))) rfl rfl ?_
      refine s_pu (d := some 18) (v := (.int .i64 i6)) rfl rfl rfl (r_move rfl) ?_
      refine s_pu (d := some 19) (v := (.int .i64 (w64 (i6 + 1)))) rfl rfl rfl (r_add rfl rfl) ?_
      refine s_pu (d := some 5) (v := (.int .i64 (w64 (i6 + 1)))) rfl rfl rfl (r_assign rfl) ?_
      refine s_fin ?_
      exact WL_mk (l := [(0, (Sl.v l1)), (4, (.pointer (some p3))), (5, (.int .i64 (w64 (i6 + 1))))]) H ⟨rfl, rfl, rfl, trivial⟩
    · have H := H.2 g98
      refine W_exit (inX_here ?_)
      show W _ _ _ _ _ _ _ _
      refine W_seq ?_
      refine W_region (.ef 0 [] .fin .no) rfl rfl ?_
      obtain ⟨p21, e22⟩ : ∃ p : Addr, p = ⟨h3.size, 0, none⟩ := ⟨_, rfl⟩
      obtain ⟨h6, e23⟩ : ∃ hh : Heap, hh = h3.push (.cells #[(.int .i64 0), (.int .i64 0)] 43) := ⟨_, rfl⟩
      have H := H p21 h6 e22 e23
      refine s_ef1 (d := some 6) (v := (.pointer (some p21))) (h' := h6) rfl rfl rfl (fun dr => (r_alloc Try.zeroValue43).trans (by rw [e22, e23]; rfl)) trivial ?_ trivial
      refine s_fin ?_
      show W _ _ _ _ _ _ _ _
      refine W_seq ?_
      refine W_seq ?_
      refine W_region (.pu 0 .fin) rfl rfl ?_
      refine s_pu (d := some 7) (v := (.int .i64 0)) rfl rfl rfl (r_assign rfl) ?_
      refine s_fin ?_
      show W _ _ _ _ _ _ _ _
      refine W_block ?_
      refine W_loop (WL_mk (l := [(0, (Sl.v l1)), (4, (.pointer (some p3))), (6, (.pointer (some p21))), (7, (.int .i64 0))]) ?_ ⟨rfl, rfl, rfl, rfl, trivial⟩)
      refine H (fun (i24 : Int) (h7 : Heap) => ∀ b, WL _ _ _ _ _ _ (mkE [(0, (Sl.v l1)), (4, (.pointer (some p3))), (6, (.pointer (some p21))), (7, (.int .i64 i24))] b) h7) ?_
      intro i24 h7 H b
      refine WL_round ?_
      refine W_seq ?_
      refine W_seq ?_
      refine W_region (.pu 0 (.pu 1 (.pu 2 (.pu 3 .fin)))) rfl rfl ?_
      refine s_pu (d := some 28) (v := (.int .i64 i24)) rfl rfl rfl (r_move rfl) ?_
      refine s_pu (d := some 29) (v := (Sl.v l1)) rfl rfl rfl (r_move rfl) ?_
      refine s_pu (d := some 30) (v := (.int .i64 ((l1.len : Int)))) rfl rfl rfl (r_len Try.underlying22 rfl) ?_
      refine s_pu (d := some 31) (v := (.bool (decide (i24 < ((l1.len : Int)))))) rfl rfl rfl (r_lss rfl rfl) ?_
      refine s_fin ?_
      show W _ _ _ _ _ _ _ _
      refine W_if (decide (i24 < ((l1.len : Int)))) rfl (fun g97 => ?_) (fun g97 => ?_)
      · have H := H.1 g97
        refine W_skip ?_
        show W _ _ _ _ _ _ _ _
        refine W_seq ?_
        refine W_block ?_
        refine W_seq ?_
        refine W_region (.rl 0 (.ef 1 [] (.pu 2 (.pu 3 (.pu 4 (.pu 5 (.ef 6 [] (.ef 7 [] (.ef 8 [] (.ef 9 [] (.pu 10 .fin) .no) .no) .no) .no))))) .no)) rfl rfl ?_
        obtain ⟨x26, e27, H⟩ := H
        refine s_rl (d := some 35) (v := (.agg #[(.pointer x26)])) rfl rfl rfl (fun dr => r_loadN Try.isAgg40 Try.sizeOf40 (vs := [(.pointer x26)]) rfl rfl ⟨e27, trivial⟩) ?_
        refine s_ef (d := some 36) rfl rfl rfl (fun dr => r_call Try.call23 rfl rfl H) ?_ trivial
        rintro _ h8 ⟨y28, y29, y30, y31, rfl, H⟩
        refine ⟨trivial, ?_⟩
        refine s_pu (d := some 34) (v := (.tuple #[(.agg #[(.int .i64 y28), (.int .i64 y29)]), (.agg #[(.pointer y30)]), (.bool y31)])) rfl rfl rfl (r_move rfl) ?_
        refine s_pu (d := some 37) (v := (.agg #[(.int .i64 y28), (.int .i64 y29)])) rfl rfl rfl (r_extract rfl rfl) ?_
        refine s_pu (d := some 38) (v := (.agg #[(.pointer y30)])) rfl rfl rfl (r_extract rfl rfl) ?_
        refine s_pu (d := some 39) (v := (.bool y31)) rfl rfl rfl (r_extract rfl rfl) ?_
        obtain ⟨p32, e33⟩ : ∃ p : Addr, p = ⟨h8.size, 0, none⟩ := ⟨_, rfl⟩
        obtain ⟨h9, e34⟩ : ∃ hh : Heap, hh = h8.push (.cells #[(.int .i64 0), (.int .i64 0)] 43) := ⟨_, rfl⟩
        have H := H p32 h9 e33 e34
        refine s_ef1 (d := some 8) (v := (.pointer (some p32))) (h' := h9) rfl rfl rfl (fun dr => (r_alloc Try.zeroValue43).trans (by rw [e33, e34]; rfl)) trivial ?_ trivial
        obtain ⟨p35, e36⟩ : ∃ p : Addr, p = ⟨h9.size, 0, none⟩ := ⟨_, rfl⟩
        obtain ⟨h10, e37⟩ : ∃ hh : Heap, hh = h9.push (.cells #[(.pointer none)] 40) := ⟨_, rfl⟩
        have H := H p35 h10 e36 e37
        refine s_ef1 (d := some 9) (v := (.pointer (some p35))) (h' := h10) rfl rfl rfl (fun dr => (r_alloc Try.zeroValue40).trans (by rw [e36, e37]; rfl)) trivial ?_ trivial
        obtain ⟨e39, H⟩ := H
        obtain ⟨h11, e38⟩ : ∃ hh : Heap, hh = hsets h10 p32 0 [(.int .i64 y28), (.int .i64 y29)] := ⟨_, rfl⟩
        have H := H h11 e38
        refine s_st (d := none) (h' := h11) rfl rfl rfl (fun dr => (r_store (v := (.agg #[(.int .i64 y28), (.int .i64 y29)])) Try.sizeOf43 rfl rfl rfl (one_all rfl) e39).trans (by rw [e38]; rfl)) trivial ?_ trivial
        obtain ⟨e41, H⟩ := H
        obtain ⟨h12, e40⟩ : ∃ hh : Heap, hh = hsets h11 p35 0 [(.pointer y30)] := ⟨_, rfl⟩
        have H := H h12 e40
        refine s_st (d := none) (h' := h12) rfl rfl rfl (fun dr => (r_store (v := (.agg #[(.pointer y30)])) Try.sizeOf40 rfl rfl rfl (one_all rfl) e41).trans (by rw [e40]; rfl)) trivial ?_ trivial
        refine s_pu (d := some 10) (v := (.bool y31)) rfl rfl rfl (r_assign rfl) ?_
        refine s_fin ?_
        show W _ _ _ _ _ _ _ _
        refine W_seq ?_
        refine W_seq ?_
        refine W_set ?_
        intro N44 eN44
        have H := H (fun (x42 : Bool) => ∀ b, N44 [] (mkE [(0, (Sl.v l1)), (4, (.pointer (some p3))), (6, (.pointer (some p21))), (7, (.int .i64 i24)), (8, (.pointer (some p32))), (9, (.pointer (some p35))), (63, (.bool x42))] b) h12) (by
          intro x42 H b
          rw [eN44]
          show W _ _ _ _ _ _ _ _
          refine W_if x42 rfl (fun g74 => ?_) (fun g74 => ?_)
          · have H := H.1 g74
            refine W_seq ?_
            refine W_region (.pu 0 .fin) rfl rfl ?_
            refine s_pu (d := some 2) (v := (.bool false)) rfl rfl rfl (r_assign rfl) ?_
            refine s_fin ?_
            show W _ _ _ _ _ _ _ _
            refine W_ret ?_
            exact ⟨[(.bool false)], ⟨_, _, rfl, rfl, rfl⟩, false, rfl, H⟩
          · have H := H.2 g74
            refine W_skip ?_
            show W _ _ _ _ _ _ _ _
            refine W_seq ?_
            refine W_seq ?_
            refine W_set ?_
            intro N47 eN47
            have H := H (fun (x45 : Bool) => ∀ b, N47 [] (mkE [(0, (Sl.v l1)), (4, (.pointer (some p3))), (6, (.pointer (some p21))), (7, (.int .i64 i24)), (8, (.pointer (some p32))), (9, (.pointer (some p35))), (86, (.bool x45))] b) h12) (by
              intro x45 H b
              rw [eN47]
              show W _ _ _ _ _ _ _ _
              refine W_if x45 rfl (fun g58 => ?_) (fun g58 => ?_)
              · have H := H.1 g58
                refine W_seq ?_
                refine W_region (.pu 0 .fin) rfl rfl ?_
                refine s_pu (d := some 2) (v := (.bool false)) rfl rfl rfl (r_assign rfl) ?_
                refine s_fin ?_
                show W _ _ _ _ _ _ _ _
                refine W_ret ?_
                exact ⟨[(.bool false)], ⟨_, _, rfl, rfl, rfl⟩, false, rfl, H⟩
              · have H := H.2 g58
                refine W_skip ?_
                show W _ _ _ _ _ _ _ _
                refine W_seq ?_
                refine W_region (.rl 0 (.ef 1 [] .fin .no)) rfl rfl ?_
                obtain ⟨x48, e49, H⟩ := H
                obtain ⟨x50, e51, H⟩ := H
                refine s_rl (d := some 87) (v := (.agg #[(.int .i64 x48), (.int .i64 x50)])) rfl rfl rfl (fun dr => r_loadN Try.isAgg43 Try.sizeOf43 (vs := [(.int .i64 x48), (.int .i64 x50)]) rfl rfl ⟨e49, e51, trivial⟩) ?_
                obtain ⟨e53, H⟩ := H
                obtain ⟨h13, e52⟩ : ∃ hh : Heap, hh = hsets h12 p21 0 [(.int .i64 x48), (.int .i64 x50)] := ⟨_, rfl⟩
                have H := H h13 e52
                refine s_st (d := none) (h' := h13) rfl rfl rfl (fun dr => (r_store (v := (.agg #[(.int .i64 x48), (.int .i64 x50)])) Try.sizeOf43 rfl rfl rfl (one_all rfl) e53).trans (by rw [e52]; rfl)) trivial ?_ trivial
                refine s_fin ?_
                show W _ _ _ _ _ _ _ _
                refine W_region (.rl 0 (.ef 1 [] .fin .no)) rfl rfl ?_
                obtain ⟨x54, e55, H⟩ := H
                refine s_rl (d := some 88) (v := (.agg #[(.pointer x54)])) rfl rfl rfl (fun dr => r_loadN Try.isAgg40 Try.sizeOf40 (vs := [(.pointer x54)]) rfl rfl ⟨e55, trivial⟩) ?_
                obtain ⟨e57, H⟩ := H
                obtain ⟨h14, e56⟩ : ∃ hh : Heap, hh = hsets h13 p3 0 [(.pointer x54)] := ⟨_, rfl⟩
                have H := H h14 e56
                refine s_st (d := none) (h' := h14) rfl rfl rfl (fun dr => (r_store (v := (.agg #[(.pointer x54)])) Try.sizeOf40 rfl rfl rfl (one_all rfl) e57).trans (by rw [e56]; rfl)) trivial ?_ trivial
                refine s_fin ?_
                show W _ _ _ _ _ _ _ _
                refine W_region (.pu 0 (.pu 1 (.pu 2 .fin))) rfl rfl ?_
                refine s_pu (d := some 32) (v := (.int .i64 i24)) rfl rfl rfl (r_move rfl) ?_
                refine s_pu (d := some 33) (v := (.int .i64 (w64 (i24 + 1)))) rfl rfl rfl (r_add rfl rfl) ?_
                refine s_pu (d := some 7) (v := (.int .i64 (w64 (i24 + 1)))) rfl rfl rfl (r_assign rfl) ?_
                refine s_fin ?_
                exact WL_mk (l := [(0, (Sl.v l1)), (4, (.pointer (some p3))), (6, (.pointer (some p21))), (7, (.int .i64 (w64 (i24 + 1))))]) H ⟨rfl, rfl, rfl, rfl, trivial⟩)
            clear eN47
            refine W_region (.pu 0 (.pu 1 (.pu 2 (.pu 3 (.rl 4 (.pu 5 (.rl 6 (.pu 7 (.pu 8 (.pu 9 (.rl 10 (.pu 11 (.rl 12 (.pu 13 (.pu 14 (.pu 15 (.rl 16 (.pu 17 (.rl 18 (.pu 19 (.pu 20 (.pu 21 (.pu 22 .fin))))))))))))))))))))))) rfl rfl ?_
            refine s_pu (d := some 64) (v := (.int .i64 i24)) rfl rfl rfl (r_move rfl) ?_
            refine s_pu (d := some 65) (v := (.bool (decide (0 < i24)))) rfl rfl rfl (r_gtr rfl rfl) ?_
            refine s_pu (d := some 66) (v := (.bool (decide (0 < i24)))) rfl rfl rfl (r_move rfl) ?_
            rcases Bool.eq_false_or_eq_true (decide (0 < i24)) with g59 | g59
            · have H := H.1 g59
              refine s_pu (d := some 67) (v := (.pointer (some (Addr.add p32 0)))) rfl rfl (wants_yes rfl rfl rfl rfl g59) (r_fieldAddr Try.underlying43 Try.sizeOf3 rfl rfl rfl) ?_
              obtain ⟨x60, e61, H⟩ := H
              refine s_rl (d := some 68) (v := (.int .i64 x60)) rfl rfl (wants_yes rfl rfl rfl rfl g59) (fun dr => r_load1 Try.isAgg3 rfl e61) ?_
              refine s_pu (d := some 69) (v := (.pointer (some (Addr.add p21 0)))) rfl rfl (wants_yes rfl rfl rfl rfl g59) (r_fieldAddr Try.underlying43 Try.sizeOf3 rfl rfl rfl) ?_
              obtain ⟨x62, e63, H⟩ := H
              refine s_rl (d := some 70) (v := (.int .i64 x62)) rfl rfl (wants_yes rfl rfl rfl rfl g59) (fun dr => r_load1 Try.isAgg3 rfl e63) ?_
              refine s_pu (d := some 71) (v := (.bool (decide (x62 < x60)))) rfl rfl (wants_yes rfl rfl rfl rfl g59) (r_gtr rfl rfl) ?_
              refine s_pu (d := some 72) (v := (.bool (decide (x62 < x60)))) rfl rfl (wants_yes rfl rfl rfl rfl g59) (r_move rfl) ?_
              rcases Bool.eq_false_or_eq_true (decide (x62 < x60)) with g64 | g64
              · have H := H.1 g64
                refine s_sk (d := some 73) rfl rfl (wants_no rfl rfl rfl rfl g64) ?_
                refine s_skl (d := some 74) rfl rfl (wants_no rfl rfl rfl rfl g64) ?_
                refine s_sk (d := some 75) rfl rfl (wants_no rfl rfl rfl rfl g64) ?_
                refine s_skl (d := some 76) rfl rfl (wants_no rfl rfl rfl rfl g64) ?_
                refine s_sk (d := some 77) rfl rfl (wants_no rfl rfl rfl rfl g64) ?_
                refine s_sk (d := some 78) rfl rfl (wants_no rfl rfl rfl rfl g64) ?_
                refine s_sk (d := some 79) rfl rfl (wants_un rfl rfl rfl) ?_
                refine s_skl (d := some 80) rfl rfl (wants_un rfl rfl rfl) ?_
                refine s_sk (d := some 81) rfl rfl (wants_un rfl rfl rfl) ?_
                refine s_skl (d := some 82) rfl rfl (wants_un rfl rfl rfl) ?_
                refine s_sk (d := some 83) rfl rfl (wants_un rfl rfl rfl) ?_
                refine s_sk (d := some 84) rfl rfl (wants_no rfl rfl rfl rfl g64) ?_
                refine s_pu (d := some 85) (v := (.bool true)) rfl rfl (wants_yes rfl rfl rfl rfl g59) (r_pick1 rfl g64 rfl) ?_
                refine s_pu (d := some 86) (v := (.bool true)) rfl rfl rfl (r_pick1 rfl g59 rfl) ?_
                refine s_fin ?_
                exact N_mk (l := [(0, (Sl.v l1)), (4, (.pointer (some p3))), (6, (.pointer (some p21))), (7, (.int .i64 i24)), (8, (.pointer (some p32))), (9, (.pointer (some p35))), (86, (.bool true))]) H ⟨rfl, rfl, rfl, rfl, rfl, rfl, rfl, trivial⟩
              · have H := H.2 g64
                refine s_pu (d := some 73) (v := (.pointer (some (Addr.add p32 0)))) rfl rfl (wants_yes rfl rfl rfl rfl g64) (r_fieldAddr Try.underlying43 Try.sizeOf3 rfl rfl rfl) ?_
                obtain ⟨x65, e66, H⟩ := H
                refine s_rl (d := some 74) (v := (.int .i64 x65)) rfl rfl (wants_yes rfl rfl rfl rfl g64) (fun dr => r_load1 Try.isAgg3 rfl e66) ?_
                refine s_pu (d := some 75) (v := (.pointer (some (Addr.add p21 0)))) rfl rfl (wants_yes rfl rfl rfl rfl g64) (r_fieldAddr Try.underlying43 Try.sizeOf3 rfl rfl rfl) ?_
                obtain ⟨x67, e68, H⟩ := H
                refine s_rl (d := some 76) (v := (.int .i64 x67)) rfl rfl (wants_yes rfl rfl rfl rfl g64) (fun dr => r_load1 Try.isAgg3 rfl e68) ?_
                refine s_pu (d := some 77) (v := (.bool (decide (x65 = x67)))) rfl rfl (wants_yes rfl rfl rfl rfl g64) (r_eql rfl rfl) ?_
                refine s_pu (d := some 78) (v := (.bool (decide (x65 = x67)))) rfl rfl (wants_yes rfl rfl rfl rfl g64) (r_move rfl) ?_
                rcases Bool.eq_false_or_eq_true (decide (x65 = x67)) with g69 | g69
                · have H := H.1 g69
                  refine s_pu (d := some 79) (v := (.pointer (some (Addr.add p32 1)))) rfl rfl (wants_yes rfl rfl rfl rfl g69) (r_fieldAddr Try.underlying43 Try.sizeOf3 rfl rfl rfl) ?_
                  obtain ⟨x70, e71, H⟩ := H
                  refine s_rl (d := some 80) (v := (.int .i64 x70)) rfl rfl (wants_yes rfl rfl rfl rfl g69) (fun dr => r_load1 Try.isAgg3 rfl e71) ?_
                  refine s_pu (d := some 81) (v := (.pointer (some (Addr.add p21 1)))) rfl rfl (wants_yes rfl rfl rfl rfl g69) (r_fieldAddr Try.underlying43 Try.sizeOf3 rfl rfl rfl) ?_
                  obtain ⟨x72, e73, H⟩ := H
                  refine s_rl (d := some 82) (v := (.int .i64 x72)) rfl rfl (wants_yes rfl rfl rfl rfl g69) (fun dr => r_load1 Try.isAgg3 rfl e73) ?_
                  refine s_pu (d := some 83) (v := (.bool (decide (x70 < x72)))) rfl rfl (wants_yes rfl rfl rfl rfl g69) (r_lss rfl rfl) ?_
                  refine s_pu (d := some 84) (v := (.bool (decide (x70 < x72)))) rfl rfl (wants_yes rfl rfl rfl rfl g64) (r_pick1 rfl g69 rfl) ?_
                  refine s_pu (d := some 85) (v := (.bool (decide (x70 < x72)))) rfl rfl (wants_yes rfl rfl rfl rfl g59) (r_pick0 rfl g64 rfl) ?_
                  refine s_pu (d := some 86) (v := (.bool (decide (x70 < x72)))) rfl rfl rfl (r_pick1 rfl g59 rfl) ?_
                  refine s_fin ?_
                  exact N_mk (l := [(0, (Sl.v l1)), (4, (.pointer (some p3))), (6, (.pointer (some p21))), (7, (.int .i64 i24)), (8, (.pointer (some p32))), (9, (.pointer (some p35))), (86, (.bool (decide (x70 < x72))))]) H ⟨rfl, rfl, rfl, rfl, rfl, rfl, rfl, trivial⟩
                · have H := H.2 g69
                  refine s_sk (d := some 79) rfl rfl (wants_no rfl rfl rfl rfl g69) ?_
                  refine s_skl (d := some 80) rfl rfl (wants_no rfl rfl rfl rfl g69) ?_
                  refine s_sk (d := some 81) rfl rfl (wants_no rfl rfl rfl rfl g69) ?_
                  refine s_skl (d := some 82) rfl rfl (wants_no rfl rfl rfl rfl g69) ?_
                  refine s_sk (d := some 83) rfl rfl (wants_no rfl rfl rfl rfl g69) ?_
                  refine s_pu (d := some 84) (v := (.bool false)) rfl rfl (wants_yes rfl rfl rfl rfl g64) (r_pick0 rfl g69 rfl) ?_
                  refine s_pu (d := some 85) (v := (.bool false)) rfl rfl (wants_yes rfl rfl rfl rfl g59) (r_pick0 rfl g64 rfl) ?_
                  refine s_pu (d := some 86) (v := (.bool false)) rfl rfl rfl (r_pick1 rfl g59 rfl) ?_
                  refine s_fin ?_
                  exact N_mk (l := [(0, (Sl.v l1)), (4, (.pointer (some p3))), (6, (.pointer (some p21))), (7, (.int .i64 i24)), (8, (.pointer (some p32))), (9, (.pointer (some p35))), (86, (.bool false))]) H ⟨rfl, rfl, rfl, rfl, rfl, rfl, rfl, trivial⟩
            · have H := H.2 g59
              refine s_sk (d := some 67) rfl rfl (wants_no rfl rfl rfl rfl g59) ?_
              refine s_skl (d := some 68) rfl rfl (wants_no rfl rfl rfl rfl g59) ?_
              refine s_sk (d := some 69) rfl rfl (wants_no rfl rfl rfl rfl g59) ?_
              refine s_skl (d := some 70) rfl rfl (wants_no rfl rfl rfl rfl g59) ?_
              refine s_sk (d := some 71) rfl rfl (wants_no rfl rfl rfl rfl g59) ?_
              refine s_sk (d := some 72) rfl rfl (wants_no rfl rfl rfl rfl g59) ?_
              refine s_sk (d := some 73) rfl rfl (wants_un rfl rfl rfl) ?_
              refine s_skl (d := some 74) rfl rfl (wants_un rfl rfl rfl) ?_
              refine s_sk (d := some 75) rfl rfl (wants_un rfl rfl rfl) ?_
              refine s_skl (d := some 76) rfl rfl (wants_un rfl rfl rfl) ?_
              refine s_sk (d := some 77) rfl rfl (wants_un rfl rfl rfl) ?_
              refine s_sk (d := some 78) rfl rfl (wants_un rfl rfl rfl) ?_
              refine s_sk (d := some 79) rfl rfl (wants_un rfl rfl rfl) ?_
              refine s_skl (d := some 80) rfl rfl (wants_un rfl rfl rfl) ?_
              refine s_sk (d := some 81) rfl rfl (wants_un rfl rfl rfl) ?_
              refine s_skl (d := some 82) rfl rfl (wants_un rfl rfl rfl) ?_
              refine s_sk (d := some 83) rfl rfl (wants_un rfl rfl rfl) ?_
              refine s_sk (d := some 84) rfl rfl (wants_un rfl rfl rfl) ?_
              refine s_sk (d := some 85) rfl rfl (wants_no rfl rfl rfl rfl g59) ?_
              refine s_pu (d := some 86) (v := (.bool false)) rfl rfl rfl (r_pick0 rfl g59 rfl) ?_
              refine s_fin ?_
              exact N_mk (l := [(0, (Sl.v l1)), (4, (.pointer (some p3))), (6, (.pointer (some p21))), (7, (.int .i64 i24)), (8, (.pointer (some p32))), (9, (.pointer (some p35))), (86, (.bool false))]) H ⟨rfl, rfl, rfl, rfl, rfl, rfl, rfl, trivial⟩)
        clear eN44
        refine W_draw [0, 1, 3, 7, 15, 31, 63, 127, 255, 511, 255, 1279, 4095, 8191, 16383, 32767, 32767, 98303, 262143, 524287, 32767, 1081343, 4194303, 8388607] (.pu 0 (.pu 1 (.pu 2 (.pu 3 (.rd 4 (.pu 5 (.pu 6 (.pu 7 (.pu 8 (.rd 9 (.pu 10 (.pu 11 (.pu 12 (.pu 13 (.pu 14 (.pu 15 (.pu 16 (.rd 17 (.pu 18 (.rd 19 (.pu 20 (.rd 21 (.pu 22 (.pu 23 .fin)))))))))))))))))))))))) (by kernel_rfl) (by kernel_rfl) ?_
        refine s_pu (d := some 40) (v := (.bool y31)) rfl rfl rfl (r_move rfl) ?_
        refine s_pu (d := some 41) (v := (.bool (!y31))) rfl rfl rfl (r_not rfl) ?_
        refine s_pu (d := some 42) (v := (.bool (!y31))) rfl rfl rfl (r_move rfl) ?_
        rcases Bool.eq_false_or_eq_true (!y31) with g75 | g75
        · have H := H.1 g75
          refine s_sk (d := some 43) rfl rfl (wants_no rfl rfl rfl rfl g75) ?_
          refine s_skd (d := some 44) rfl rfl (wants_no rfl rfl rfl rfl g75) ?_
          refine s_sk (d := some 45) rfl rfl (wants_no rfl rfl rfl rfl g75) ?_
          refine s_pu (d := some 46) (v := (.bool true)) rfl rfl rfl (r_pick1 rfl g75 rfl) ?_
          refine s_pu (d := some 47) (v := (.bool true)) rfl rfl rfl (r_move rfl) ?_
          refine s_sk (d := some 48) rfl rfl (wants_no rfl rfl rfl rfl rfl) ?_
          refine s_skd (d := some 49) rfl rfl (wants_no rfl rfl rfl rfl rfl) ?_
          refine s_sk (d := some 50) rfl rfl (wants_no rfl rfl rfl rfl rfl) ?_
          refine s_sk (d := some 51) rfl rfl (wants_no rfl rfl rfl rfl rfl) ?_
          refine s_sk (d := some 52) rfl rfl (wants_no rfl rfl rfl rfl rfl) ?_
          refine s_pu (d := some 53) (v := (.bool true)) rfl rfl rfl (r_pick1 rfl rfl rfl) ?_
          refine s_pu (d := some 54) (v := (.bool true)) rfl rfl rfl (r_move rfl) ?_
          refine s_sk (d := some 55) rfl rfl (wants_no rfl rfl rfl rfl rfl) ?_
          refine s_sk (d := some 56) rfl rfl (wants_no rfl rfl rfl rfl rfl) ?_
          refine s_skd (d := some 57) rfl rfl (wants_no rfl rfl rfl rfl rfl) ?_
          refine s_sk (d := some 58) rfl rfl (wants_no rfl rfl rfl rfl rfl) ?_
          refine s_skd (d := some 59) rfl rfl (wants_no rfl rfl rfl rfl rfl) ?_
          refine s_sk (d := some 60) rfl rfl (wants_no rfl rfl rfl rfl rfl) ?_
          refine s_skd (d := some 61) rfl rfl (wants_no rfl rfl rfl rfl rfl) ?_
          refine s_sk (d := some 62) rfl rfl (wants_no rfl rfl rfl rfl rfl) ?_
          refine s_pu (d := some 63) (v := (.bool true)) rfl rfl rfl (r_pick1 rfl rfl rfl) ?_
          refine s_fin ?_
          exact N_mk (l := [(0, (Sl.v l1)), (4, (.pointer (some p3))), (6, (.pointer (some p21))), (7, (.int .i64 i24)), (8, (.pointer (some p32))), (9, (.pointer (some p35))), (63, (.bool true))]) H ⟨rfl, rfl, rfl, rfl, rfl, rfl, rfl, trivial⟩
        · have H := H.2 g75
          refine s_pu (d := some 43) (v := (.pointer (some (Addr.add p32 1)))) rfl rfl (wants_yes rfl rfl rfl rfl g75) (r_fieldAddr Try.underlying43 Try.sizeOf3 rfl rfl rfl) ?_
          obtain ⟨x76, e77, H⟩ := H
          refine s_rd (d := some 44) (v := (.int .i64 x76)) rfl rfl (wants_yes rfl rfl rfl rfl g75) (fun dr => r_load1 Try.isAgg3 rfl e77) ?_
          refine s_pu (d := some 45) (v := (.bool (decide (x76 < 0)))) rfl rfl (wants_yes rfl rfl rfl rfl g75) (r_lss rfl rfl) ?_
          refine s_pu (d := some 46) (v := (.bool (decide (x76 < 0)))) rfl rfl rfl (r_pick0 rfl g75 rfl) ?_
          refine s_pu (d := some 47) (v := (.bool (decide (x76 < 0)))) rfl rfl rfl (r_move rfl) ?_
          rcases Bool.eq_false_or_eq_true (decide (x76 < 0)) with g78 | g78
          · have H := H.1 g78
            refine s_sk (d := some 48) rfl rfl (wants_no rfl rfl rfl rfl g78) ?_
            refine s_skd (d := some 49) rfl rfl (wants_no rfl rfl rfl rfl g78) ?_
            refine s_sk (d := some 50) rfl rfl (wants_no rfl rfl rfl rfl g78) ?_
            refine s_sk (d := some 51) rfl rfl (wants_no rfl rfl rfl rfl g78) ?_
            refine s_sk (d := some 52) rfl rfl (wants_no rfl rfl rfl rfl g78) ?_
            refine s_pu (d := some 53) (v := (.bool true)) rfl rfl rfl (r_pick1 rfl g78 rfl) ?_
            refine s_pu (d := some 54) (v := (.bool true)) rfl rfl rfl (r_move rfl) ?_
            refine s_sk (d := some 55) rfl rfl (wants_no rfl rfl rfl rfl rfl) ?_
            refine s_sk (d := some 56) rfl rfl (wants_no rfl rfl rfl rfl rfl) ?_
            refine s_skd (d := some 57) rfl rfl (wants_no rfl rfl rfl rfl rfl) ?_
            refine s_sk (d := some 58) rfl rfl (wants_no rfl rfl rfl rfl rfl) ?_
            refine s_skd (d := some 59) rfl rfl (wants_no rfl rfl rfl rfl rfl) ?_
            refine s_sk (d := some 60) rfl rfl (wants_no rfl rfl rfl rfl rfl) ?_
            refine s_skd (d := some 61) rfl rfl (wants_no rfl rfl rfl rfl rfl) ?_
            refine s_sk (d := some 62) rfl rfl (wants_no rfl rfl rfl rfl rfl) ?_
            refine s_pu (d := some 63) (v := (.bool true)) rfl rfl rfl (r_pick1 rfl rfl rfl) ?_
            refine s_fin ?_
            exact N_mk (l := [(0, (Sl.v l1)), (4, (.pointer (some p3))), (6, (.pointer (some p21))), (7, (.int .i64 i24)), (8, (.pointer (some p32))), (9, (.pointer (some p35))), (63, (.bool true))]) H ⟨rfl, rfl, rfl, rfl, rfl, rfl, rfl, trivial⟩
          · have H := H.2 g78
            refine s_pu (d := some 48) (v := (.pointer (some (Addr.add p32 1)))) rfl rfl (wants_yes rfl rfl rfl rfl g78) (r_fieldAddr Try.underlying43 Try.sizeOf3 rfl rfl rfl) ?_
            obtain ⟨x79, e80, H⟩ := H
            refine s_rd (d := some 49) (v := (.int .i64 x79)) rfl rfl (wants_yes rfl rfl rfl rfl g78) (fun dr => r_load1 Try.isAgg3 rfl e80) ?_
            refine s_pu (d := some 50) (v := (Sl.v l1)) rfl rfl (wants_yes rfl rfl rfl rfl g78) (r_move rfl) ?_
            refine s_pu (d := some 51) (v := (.int .i64 ((l1.len : Int)))) rfl rfl (wants_yes rfl rfl rfl rfl g78) (r_len Try.underlying22 rfl) ?_
            refine s_pu (d := some 52) (v := (.bool (decide (((l1.len : Int)) ≤ x79)))) rfl rfl (wants_yes rfl rfl rfl rfl g78) (r_geq rfl rfl) ?_
            refine s_pu (d := some 53) (v := (.bool (decide (((l1.len : Int)) ≤ x79)))) rfl rfl rfl (r_pick0 rfl g78 rfl) ?_
            refine s_pu (d := some 54) (v := (.bool (decide (((l1.len : Int)) ≤ x79)))) rfl rfl rfl (r_move rfl) ?_
            rcases Bool.eq_false_or_eq_true (decide (((l1.len : Int)) ≤ x79)) with g81 | g81
            · have H := H.1 g81
              refine s_sk (d := some 55) rfl rfl (wants_no rfl rfl rfl rfl g81) ?_
              refine s_sk (d := some 56) rfl rfl (wants_no rfl rfl rfl rfl g81) ?_
              refine s_skd (d := some 57) rfl rfl (wants_no rfl rfl rfl rfl g81) ?_
              refine s_sk (d := some 58) rfl rfl (wants_no rfl rfl rfl rfl g81) ?_
              refine s_skd (d := some 59) rfl rfl (wants_no rfl rfl rfl rfl g81) ?_
              refine s_sk (d := some 60) rfl rfl (wants_no rfl rfl rfl rfl g81) ?_
              refine s_skd (d := some 61) rfl rfl (wants_no rfl rfl rfl rfl g81) ?_
              refine s_sk (d := some 62) rfl rfl (wants_no rfl rfl rfl rfl g81) ?_
              refine s_pu (d := some 63) (v := (.bool true)) rfl rfl rfl (r_pick1 rfl g81 rfl) ?_
              refine s_fin ?_
              exact N_mk (l := [(0, (Sl.v l1)), (4, (.pointer (some p3))), (6, (.pointer (some p21))), (7, (.int .i64 i24)), (8, (.pointer (some p32))), (9, (.pointer (some p35))), (63, (.bool true))]) H ⟨rfl, rfl, rfl, rfl, rfl, rfl, rfl, trivial⟩
            · have H := H.2 g81
              refine s_pu (d := some 55) (v := (Sl.v l1)) rfl rfl (wants_yes rfl rfl rfl rfl g81) (r_move rfl) ?_
              refine s_pu (d := some 56) (v := (.pointer (some (Addr.add p32 1)))) rfl rfl (wants_yes rfl rfl rfl rfl g81) (r_fieldAddr Try.underlying43 Try.sizeOf3 rfl rfl rfl) ?_
              obtain ⟨x82, e83, H⟩ := H
              refine s_rd (d := some 57) (v := (.int .i64 x82)) rfl rfl (wants_yes rfl rfl rfl rfl g81) (fun dr => r_load1 Try.isAgg3 rfl e83) ?_
              obtain ⟨p84, e85, e86, e87, H⟩ := H
              obtain ⟨q88, e89⟩ : ∃ q : Addr, q = Addr.add p84 (Int.toNat x82 * 1) := ⟨_, rfl⟩
              rw [← e89] at H
              refine s_pu (d := some 58) (v := (.pointer (some q88))) rfl rfl (wants_yes rfl rfl rfl rfl g81) (fun w => (r_indexAddr Try.underlying22 Try.sizeOf3 rfl rfl e85 e86 e87 w).trans (by rw [e89])) ?_
              obtain ⟨x90, e91, H⟩ := H
              refine s_rd (d := some 59) (v := (.int .i64 x90)) rfl rfl (wants_yes rfl rfl rfl rfl g81) (fun dr => r_load1 Try.isAgg3 rfl e91) ?_
              refine s_pu (d := some 60) (v := (.pointer (some (Addr.add p32 0)))) rfl rfl (wants_yes rfl rfl rfl rfl g81) (r_fieldAddr Try.underlying43 Try.sizeOf3 rfl rfl rfl) ?_
              obtain ⟨x92, e93, H⟩ := H
              refine s_rd (d := some 61) (v := (.int .i64 x92)) rfl rfl (wants_yes rfl rfl rfl rfl g81) (fun dr => r_load1 Try.isAgg3 rfl e93) ?_
              refine s_pu (d := some 62) (v := (.bool (!decide (x90 = x92)))) rfl rfl (wants_yes rfl rfl rfl rfl g81) (r_neq rfl rfl) ?_
              refine s_pu (d := some 63) (v := (.bool (!decide (x90 = x92)))) rfl rfl rfl (r_pick0 rfl g81 rfl) ?_
              refine s_fin ?_
              exact N_mk (l := [(0, (Sl.v l1)), (4, (.pointer (some p3))), (6, (.pointer (some p21))), (7, (.int .i64 i24)), (8, (.pointer (some p32))), (9, (.pointer (some p35))), (63, (.bool (!decide (x90 = x92))))]) H ⟨rfl, rfl, rfl, rfl, rfl, rfl, rfl, trivial⟩
      · have H := H.2 g97
        refine W_exit (inX_here ?_)
        show W _ _ _ _ _ _ _ _
        refine W_seq ?_
        refine W_region (.rl 0 (.ef 1 [] (.pu 2 (.pu 3 .fin)) .no)) rfl rfl ?_
        obtain ⟨x94, e95, H⟩ := H
        refine s_rl (d := some 89) (v := (.agg #[(.pointer x94)])) rfl rfl rfl (fun dr => r_loadN Try.isAgg40 Try.sizeOf40 (vs := [(.pointer x94)]) rfl rfl ⟨e95, trivial⟩) ?_
        refine s_ef (d := some 90) rfl rfl rfl (fun dr => r_call Try.call24 rfl rfl H) ?_ trivial
        rintro _ h15 ⟨y96, rfl, H⟩
        refine ⟨trivial, ?_⟩
        refine s_pu (d := some 91) (v := (.bool (decide (y96 = 0)))) rfl rfl rfl (r_eql rfl rfl) ?_
        refine s_pu (d := some 2) (v := (.bool (decide (y96 = 0)))) rfl rfl rfl (r_assign rfl) ?_
        refine s_fin ?_
        show W _ _ _ _ _ _ _ _
        refine W_ret ?_
        exact ⟨[(.bool (decide (y96 = 0)))], ⟨_, _, rfl, rfl, rfl⟩, (decide (y96 = 0)), rfl, H⟩

/-! ### law3_PrioTells -/

def law3_PrioTells_F (r : World) (l1 : Sl) (takes2 : Sl) (h : Heap) (R : Bool → Heap → Prop) : Prop :=
  law3_ranked r h fun y3 h1 =>
  Br (!y3) (
    R false h1) (
    New h1 (.cells #[(.pointer none)] 40) fun p4 h2 =>
    ∀ X9 : Sl → Int → Heap → Prop, (∀ (all7 : Sl) (i8 : Int) (h3 : Heap),
      (Br (decide (i8 < ((l1.len : Int)))) (
        LdP h3 (Addr.add p4 0) fun x10 =>
        Ix l1 i8 2 fun q16 =>
        LdI h3 (Addr.add q16 0) fun x18 =>
        LdI h3 (Addr.add q16 1) fun x20 =>
        prio_Queue_Push r x10 x18 x20 h3 fun y22 h4 =>
        St h4 p4 1 [(.pointer y22)] fun h5 =>
        Ix l1 i8 2 fun q29 =>
        LdI h5 (Addr.add q29 0) fun x31 =>
        LdI h5 (Addr.add q29 1) fun x33 =>
        New h5 (.cells #[(.int .i64 x31), (.int .i64 x33)] 43) fun p35 h6 =>
        App 43 2 16 (.agg #[(.int .i64 0), (.int .i64 0)]) all7 ((⟨some p35, 1, 1⟩ : Sl)) h6 fun s38 h7 =>
        ∀ J40 : Bool → Prop, (∀ (x39 : Bool),
          (∀ J43 : Sl → Heap → Prop, (∀ (all42 : Sl) (h8 : Heap),
            (LdP h8 (Addr.add p4 0) fun x45 =>
            prio_Queue_Items r x45 h8 fun y47 h9 =>
            same_Items r y47 all42 h9 fun y48 h10 =>
            ∀ J50 : Bool → Heap → Prop, (∀ (x49 : Bool) (h11 : Heap),
              (Br x49 (
                R false h11) (
                X9 all42 (w64 (i8 + 1)) h11)) →
              J50 x49 h11) →
            Br (!y48) (
              J50 true h10) (
              LdP h10 (Addr.add p4 0) fun x54 =>
              prio_Queue_Len r x54 h10 fun y56 h12 =>
              J50 (!decide (y56 = ((all42.len : Int)))) h12)) →
            J43 all42 h8) →
          Br x39 (
            ref1_First r s38 h7 fun y57 h13 =>
            LdP h13 (Addr.add p4 0) fun x58 =>
            prio_Queue_Top r x58 h13 fun y60 y61 y62 h14 =>
            New h14 (.cells #[(.int .i64 0), (.int .i64 0)] 43) fun p63 h15 =>
            St h15 p63 2 [(.int .i64 y60), (.int .i64 y61)] fun h16 =>
            LdP h16 (Addr.add p4 0) fun x68 =>
            prio_Queue_Pop r x68 h16 fun y70 y71 y72 y73 h17 =>
            New h17 (.cells #[(.int .i64 0), (.int .i64 0)] 43) fun p74 h18 =>
            New h18 (.cells #[(.pointer none)] 40) fun p77 h19 =>
            St h19 p74 2 [(.int .i64 y70), (.int .i64 y71)] fun h20 =>
            St h20 p77 1 [(.pointer y72)] fun h21 =>
            ∀ J85 : Bool → Prop, (∀ (x84 : Bool),
              (Br x84 (
                R false h21) (
                ref1_LessItem r s38 y57 h21 fun y87 h22 =>
                LdP h22 (Addr.add p77 0) fun x88 =>
                St h22 p4 1 [(.pointer x88)] fun h23 =>
                J43 y87 h23)) →
              J85 x84) →
            Br (!y62) (
              J85 true) (
              Br (!y73) (
                J85 true) (
                LdI h21 (Addr.add p63 0) fun x95 =>
                LdI h21 (Addr.add p63 1) fun x97 =>
                Ix s38 y57 2 fun q103 =>
                LdI h21 (Addr.add q103 0) fun x105 =>
                LdI h21 (Addr.add q103 1) fun x107 =>
                Br (!(decide (x95 = x105 ∧ x97 = x107))) (
                  J85 true) (
                  LdI h21 (Addr.add p74 0) fun x110 =>
                  LdI h21 (Addr.add p74 1) fun x112 =>
                  LdI h21 (Addr.add p63 0) fun x114 =>
                  LdI h21 (Addr.add p63 1) fun x116 =>
                  J85 (!(decide (x110 = x114 ∧ x112 = x116))))))) (
            J43 s38 h7)) →
          J40 x39) →
        Br (decide (i8 < ((takes2.len : Int)))) (
          Ix takes2 i8 1 fun q124 =>
          LdB h7 q124 fun x126 =>
          J40 x126) (
          J40 false)) (
        New h3 (.cells #[(.pointer none)] 40) fun p128 h24 =>
        LdP h24 (Addr.add p128 0) fun x131 =>
        prio_Queue_Top r x131 h24 fun y133 y134 y135 h25 =>
        New h25 (.cells #[(.int .i64 0), (.int .i64 0)] 43) fun p136 h26 =>
        St h26 p136 2 [(.int .i64 y133), (.int .i64 y134)] fun h27 =>
        LdP h27 (Addr.add p128 0) fun x141 =>
        prio_Queue_Pop r x141 h27 fun y143 y144 y145 y146 h28 =>
        New h28 (.cells #[(.int .i64 0), (.int .i64 0)] 43) fun p147 h29 =>
        New h29 (.cells #[(.pointer none)] 40) fun p150 h30 =>
        St h30 p147 2 [(.int .i64 y143), (.int .i64 y144)] fun h31 =>
        St h31 p150 1 [(.pointer y145)] fun h32 =>
        ∀ J158 : Bool → Heap → Prop, (∀ (x157 : Bool) (h33 : Heap),
          (R x157 h33) →
          J158 x157 h33) →
        Br (!y135) (
          Br (!y146) (
            LdI h32 (Addr.add p136 0) fun x162 =>
            LdI h32 (Addr.add p136 1) fun x164 =>
            Br (decide (x162 = 0 ∧ x164 = 0)) (
              LdI h32 (Addr.add p147 0) fun x167 =>
              LdI h32 (Addr.add p147 1) fun x169 =>
              LdI h32 (Addr.add p136 0) fun x171 =>
              LdI h32 (Addr.add p136 1) fun x173 =>
              Br (decide (x167 = x171 ∧ x169 = x173)) (
                LdP h32 (Addr.add p150 0) fun x176 =>
                prio_Queue_Len r x176 h32 fun y178 h34 =>
                J158 (decide (y178 = 0)) h34) (
                J158 false h32)) (
              J158 false h32)) (
            J158 false h32)) (
          J158 false h32))) →
      X9 all7 i8 h3) →
    X9 Sl.nil 0 h2)

set_option maxRecDepth 100000 in
theorem law3_PrioTells_of {r : World} {l1 : Sl} {takes2 : Sl} {h : Heap} {R : Bool → Heap → Prop} (H : law3_PrioTells_F r l1 takes2 h R) : law3_PrioTells r l1 takes2 h R := by
  unfold law3_PrioTells_F at H
  refine calls_of 135 [.tmp 4] Try.func10 rfl rfl rfl rfl rfl ?_
  refine W_seq ?_
  refine W_region (.pu 0 .fin) rfl rfl ?_
  refine s_pu (d := some 4) (v := (.bool false)) rfl rfl rfl (r_assign rfl) ?_
  refine s_fin ?_
  show W _ _ _ _ _ _ _ _
  refine W_seq ?_
  refine W_region (.ef 0 [] (.pu 1 .fin) .no) rfl rfl ?_
  refine s_ef (d := some 22) rfl rfl rfl (fun dr => r_call Try.call17 rfl rfl H) ?_ trivial
  rintro _ h1 ⟨y3, rfl, H⟩
  refine ⟨trivial, ?_⟩
  refine s_pu (d := some 5) (v := (.bool y3)) rfl rfl rfl (r_assign rfl) ?_
  refine s_fin ?_
  show W _ _ _ _ _ _ _ _
  refine W_seq ?_
  refine W_seq ?_
  refine W_region (.pu 0 (.pu 1 .fin)) rfl rfl ?_
  refine s_pu (d := some 23) (v := (.bool y3)) rfl rfl rfl (r_move rfl) ?_
  refine s_pu (d := some 24) (v := (.bool (!y3))) rfl rfl rfl (r_not rfl) ?_
  refine s_fin ?_
  show W _ _ _ _ _ _ _ _
  refine W_if (!y3) rfl (fun g180 => ?_) (fun g180 => ?_)
  · have H := H.1 g180
    refine W_seq ?_
    refine W_region (.pu 0 .fin) rfl rfl ?_
    refine s_pu (d := some 4) (v := (.bool false)) rfl rfl rfl (r_assign rfl) ?_
    refine s_fin ?_
    show W _ _ _ _ _ _ _ _
    refine W_ret ?_
    exact ⟨[(.bool false)], ⟨_, _, rfl, rfl, rfl⟩, false, rfl, H⟩
  · have H := H.2 g180
    refine W_skip ?_
    show W _ _ _ _ _ _ _ _
    refine W_seq ?_
    refine W_region (.ef 0 [] .fin .no) rfl rfl ?_
    obtain ⟨p4, e5⟩ : ∃ p : Addr, p = ⟨h1.size, 0, none⟩ := ⟨_, rfl⟩
    obtain ⟨h2, e6⟩ : ∃ hh : Heap, hh = h1.push (.cells #[(.pointer none)] 40) := ⟨_, rfl⟩
    have H := H p4 h2 e5 e6
    refine s_ef1 (d := some 6) (v := (.pointer (some p4))) (h' := h2) rfl rfl rfl (fun dr => (r_alloc Try.zeroValue40).trans (by rw [e5, e6]; rfl)) trivial ?_ trivial
    refine s_fin ?_
    show W _ _ _ _ _ _ _ _
    refine W_seq ?_
    refine W_region (.pu 0 .fin) rfl rfl ?_
    refine s_pu (d := some 7) (v := (Sl.v Sl.nil)) rfl rfl rfl (r_assign rfl) ?_
    refine s_fin ?_
    show W _ _ _ _ _ _ _ _
    refine W_seq ?_
    refine W_seq ?_
    refine W_region (.pu 0 .fin) rfl rfl ?_
    refine s_pu (d := some 8) (v := (.int .i64 0)) rfl rfl rfl (r_assign rfl) ?_
    refine s_fin ?_
    show W _ _ _ _ _ _ _ _
    refine W_block ?_
    refine W_loop (WL_mk (l := [(0, (Sl.v l1)), (1, (Sl.v takes2)), (6, (.pointer (some p4))), (7, (Sl.v Sl.nil)), (8, (.int .i64 0))]) ?_ ⟨rfl, rfl, rfl, rfl, rfl, trivial⟩)
    refine H (fun (all7 : Sl) (i8 : Int) (h3 : Heap) => ∀ b, WL _ _ _ _ _ _ (mkE [(0, (Sl.v l1)), (1, (Sl.v takes2)), (6, (.pointer (some p4))), (7, (Sl.v all7)), (8, (.int .i64 i8))] b) h3) ?_
    intro all7 i8 h3 H b
    refine WL_round ?_
    refine W_seq ?_
    refine W_seq ?_
    refine W_region (.pu 0 (.pu 1 (.pu 2 (.pu 3 .fin)))) rfl rfl ?_
    refine s_pu (d := some 25) (v := (.int .i64 i8)) rfl rfl rfl (r_move rfl) ?_
    refine s_pu (d := some 26) (v := (Sl.v l1)) rfl rfl rfl (r_move rfl) ?_
    refine s_pu (d := some 27) (v := (.int .i64 ((l1.len : Int)))) rfl rfl rfl (r_len Try.underlying35 rfl) ?_
    refine s_pu (d := some 28) (v := (.bool (decide (i8 < ((l1.len : Int)))))) rfl rfl rfl (r_lss rfl rfl) ?_
    refine s_fin ?_
    show W _ _ _ _ _ _ _ _
    refine W_if (decide (i8 < ((l1.len : Int)))) rfl (fun g179 => ?_) (fun g179 => ?_)
    · have H := H.1 g179
      refine W_skip ?_
      show W _ _ _ _ _ _ _ _
      refine W_seq ?_
      refine W_block ?_
      refine W_seq ?_
      refine W_draw [0, 0, 0, 6, 14, 31, 63] (.rd 0 (.pu 1 (.pu 2 (.pu 3 (.rd 4 (.ef 5 [0, 4] (.ef 6 [0, 4] .fin .no) .no)))))) (by kernel_rfl) (by kernel_rfl) ?_
      obtain ⟨x10, e11, H⟩ := H
      refine s_rd (d := some 31) (v := (.agg #[(.pointer x10)])) rfl rfl rfl (fun dr => r_loadN Try.isAgg40 Try.sizeOf40 (vs := [(.pointer x10)]) rfl rfl ⟨e11, trivial⟩) ?_
      refine s_pu (d := some 32) (v := (Sl.v l1)) rfl rfl rfl (r_move rfl) ?_
      refine s_pu (d := some 33) (v := (.int .i64 i8)) rfl rfl rfl (r_move rfl) ?_
      obtain ⟨p12, e13, e14, e15, H⟩ := H
      obtain ⟨q16, e17⟩ : ∃ q : Addr, q = Addr.add p12 (Int.toNat i8 * 2) := ⟨_, rfl⟩
      rw [← e17] at H
      refine s_pu (d := some 34) (v := (.pointer (some q16))) rfl rfl rfl (fun w => (r_indexAddr Try.underlying35 Try.sizeOf43 rfl rfl e13 e14 e15 w).trans (by rw [e17])) ?_
      obtain ⟨x18, e19, H⟩ := H
      obtain ⟨x20, e21, H⟩ := H
      refine s_rd (d := some 35) (v := (.agg #[(.int .i64 x18), (.int .i64 x20)])) rfl rfl rfl (fun dr => r_loadN Try.isAgg43 Try.sizeOf43 (vs := [(.int .i64 x18), (.int .i64 x20)]) rfl rfl ⟨e19, e21, trivial⟩) ?_
      refine s_ef (d := some 36) rfl rfl rfl (fun dr => r_call Try.call18 rfl rfl H) ?_ trivial
      rintro _ h4 ⟨y22, rfl, H⟩
      refine ⟨⟨trivial, trivial, trivial⟩, ?_⟩
      obtain ⟨e24, H⟩ := H
      obtain ⟨h5, e23⟩ : ∃ hh : Heap, hh = hsets h4 p4 0 [(.pointer y22)] := ⟨_, rfl⟩
      have H := H h5 e23
      refine s_st (d := none) (h' := h5) rfl rfl rfl (fun dr => (r_store (v := (.agg #[(.pointer y22)])) Try.sizeOf40 rfl rfl rfl (one_all rfl) e24).trans (by rw [e23]; rfl)) ⟨trivial, trivial, trivial⟩ ?_ trivial
      refine s_fin ?_
      show W _ _ _ _ _ _ _ _
      refine W_seq ?_
      refine W_region (.pu 0 (.pu 1 (.pu 2 (.pu 3 (.rl 4 (.ef 5 [] (.ef 6 [] (.pu 7 .fin) .no) .no)))))) rfl rfl ?_
      refine s_pu (d := some 37) (v := (Sl.v all7)) rfl rfl rfl (r_move rfl) ?_
      refine s_pu (d := some 38) (v := (Sl.v l1)) rfl rfl rfl (r_move rfl) ?_
      refine s_pu (d := some 39) (v := (.int .i64 i8)) rfl rfl rfl (r_move rfl) ?_
      obtain ⟨p25, e26, e27, e28, H⟩ := H
      obtain ⟨q29, e30⟩ : ∃ q : Addr, q = Addr.add p25 (Int.toNat i8 * 2) := ⟨_, rfl⟩
      rw [← e30] at H
      refine s_pu (d := some 40) (v := (.pointer (some q29))) rfl rfl rfl (fun w => (r_indexAddr Try.underlying35 Try.sizeOf43 rfl rfl e26 e27 e28 w).trans (by rw [e30])) ?_
      obtain ⟨x31, e32, H⟩ := H
      obtain ⟨x33, e34, H⟩ := H
      refine s_rl (d := some 41) (v := (.agg #[(.int .i64 x31), (.int .i64 x33)])) rfl rfl rfl (fun dr => r_loadN Try.isAgg43 Try.sizeOf43 (vs := [(.int .i64 x31), (.int .i64 x33)]) rfl rfl ⟨e32, e34, trivial⟩) ?_
      obtain ⟨p35, e36⟩ : ∃ p : Addr, p = ⟨h5.size, 0, none⟩ := ⟨_, rfl⟩
      obtain ⟨h6, e37⟩ : ∃ hh : Heap, hh = h5.push (.cells #[(.int .i64 x31), (.int .i64 x33)] 43) := ⟨_, rfl⟩
      have H := H p35 h6 e36 e37
      refine s_ef1 (d := some 42) (v := (Sl.v ((⟨some p35, 1, 1⟩ : Sl)))) (h' := h6) rfl rfl rfl (fun dr => (slFPLaw_35.build (cells := #[(.int .i64 x31), (.int .i64 x33)]) (by decide) rfl (by kernel_rfl)).trans (by rw [e36, e37]; rfl)) trivial ?_ trivial
      refine s_ef (d := some 43) rfl rfl rfl (fun dr => slFPLaw_35.append rfl rfl H) ?_ trivial
      rintro _ h7 ⟨s38, rfl, H⟩
      refine ⟨trivial, ?_⟩
      refine s_pu (d := some 7) (v := (Sl.v s38)) rfl rfl rfl (r_assign rfl) ?_
      refine s_fin ?_
      show W _ _ _ _ _ _ _ _
      refine W_seq ?_
      refine W_seq ?_
      refine W_set ?_
      intro N41 eN41
      have H := H (fun (x39 : Bool) => ∀ b, N41 [] (mkE [(0, (Sl.v l1)), (1, (Sl.v takes2)), (6, (.pointer (some p4))), (7, (Sl.v s38)), (8, (.int .i64 i8)), (53, (.bool x39))] b) h7) (by
        intro x39 H b
        rw [eN41]
        show W _ _ _ _ _ _ _ _
        refine W_set ?_
        intro N44 eN44
        have H := H (fun (all42 : Sl) (h8 : Heap) => ∀ b, N44 [] (mkE [(0, (Sl.v l1)), (1, (Sl.v takes2)), (6, (.pointer (some p4))), (7, (Sl.v all42)), (8, (.int .i64 i8))] b) h8) (by
          intro all42 h8 H b
          rw [eN44]
          show W _ _ _ _ _ _ _ _
          refine W_seq ?_
          refine W_region (.rl 0 (.ef 1 [] (.pu 2 (.ef 3 [] (.pu 4 .fin) .no)) .no)) rfl rfl ?_
          obtain ⟨x45, e46, H⟩ := H
          refine s_rl (d := some 90) (v := (.agg #[(.pointer x45)])) rfl rfl rfl (fun dr => r_loadN Try.isAgg40 Try.sizeOf40 (vs := [(.pointer x45)]) rfl rfl ⟨e46, trivial⟩) ?_
          refine s_ef (d := some 91) rfl rfl rfl (fun dr => r_call Try.call22 rfl rfl H) ?_ trivial
          rintro _ h9 ⟨y47, rfl, H⟩
          refine ⟨trivial, ?_⟩
          refine s_pu (d := some 92) (v := (Sl.v all42)) rfl rfl rfl (r_move rfl) ?_
          refine s_ef (d := some 93) rfl rfl rfl (fun dr => r_call Try.call21 rfl rfl H) ?_ trivial
          rintro _ h10 ⟨y48, rfl, H⟩
          refine ⟨trivial, ?_⟩
          refine s_pu (d := some 15) (v := (.bool y48)) rfl rfl rfl (r_assign rfl) ?_
          refine s_fin ?_
          show W _ _ _ _ _ _ _ _
          refine W_seq ?_
          refine W_set ?_
          intro N51 eN51
          have H := H (fun (x49 : Bool) (h11 : Heap) => ∀ b, N51 [] (mkE [(0, (Sl.v l1)), (1, (Sl.v takes2)), (6, (.pointer (some p4))), (7, (Sl.v all42)), (8, (.int .i64 i8)), (102, (.bool x49))] b) h11) (by
            intro x49 h11 H b
            rw [eN51]
            show W _ _ _ _ _ _ _ _
            refine W_if x49 rfl (fun g52 => ?_) (fun g52 => ?_)
            · have H := H.1 g52
              refine W_seq ?_
              refine W_region (.pu 0 .fin) rfl rfl ?_
              refine s_pu (d := some 4) (v := (.bool false)) rfl rfl rfl (r_assign rfl) ?_
              refine s_fin ?_
              show W _ _ _ _ _ _ _ _
              refine W_ret ?_
              exact ⟨[(.bool false)], ⟨_, _, rfl, rfl, rfl⟩, false, rfl, H⟩
            · have H := H.2 g52
              refine W_skip ?_
              show W _ _ _ _ _ _ _ _
              refine W_region (.pu 0 (.pu 1 (.pu 2 .fin))) rfl rfl ?_
              refine s_pu (d := some 29) (v := (.int .i64 i8)) rfl rfl rfl (r_move rfl) ?_
              refine s_pu (d := some 30) (v := (.int .i64 (w64 (i8 + 1)))) rfl rfl rfl (r_add rfl rfl) ?_
              refine s_pu (d := some 8) (v := (.int .i64 (w64 (i8 + 1)))) rfl rfl rfl (r_assign rfl) ?_
              refine s_fin ?_
              exact WL_mk (l := [(0, (Sl.v l1)), (1, (Sl.v takes2)), (6, (.pointer (some p4))), (7, (Sl.v all42)), (8, (.int .i64 (w64 (i8 + 1))))]) H ⟨rfl, rfl, rfl, rfl, rfl, trivial⟩)
          clear eN51
          refine W_region (.pu 0 (.pu 1 (.pu 2 (.rl 3 (.ef 4 [] (.pu 5 (.pu 6 (.pu 7 (.pu 8 .fin)))) .no))))) rfl rfl ?_
          refine s_pu (d := some 94) (v := (.bool y48)) rfl rfl rfl (r_move rfl) ?_
          refine s_pu (d := some 95) (v := (.bool (!y48))) rfl rfl rfl (r_not rfl) ?_
          refine s_pu (d := some 96) (v := (.bool (!y48))) rfl rfl rfl (r_move rfl) ?_
          rcases Bool.eq_false_or_eq_true (!y48) with g53 | g53
          · have H := H.1 g53
            refine s_skl (d := some 97) rfl rfl (wants_no rfl rfl rfl rfl g53) ?_
            refine s_skf (d := some 98) rfl rfl (wants_no rfl rfl rfl rfl g53) trivial ?_ trivial
            refine s_sk (d := some 99) rfl rfl (wants_no rfl rfl rfl rfl g53) ?_
            refine s_sk (d := some 100) rfl rfl (wants_no rfl rfl rfl rfl g53) ?_
            refine s_sk (d := some 101) rfl rfl (wants_no rfl rfl rfl rfl g53) ?_
            refine s_pu (d := some 102) (v := (.bool true)) rfl rfl rfl (r_pick1 rfl g53 rfl) ?_
            refine s_fin ?_
            exact N_mk (l := [(0, (Sl.v l1)), (1, (Sl.v takes2)), (6, (.pointer (some p4))), (7, (Sl.v all42)), (8, (.int .i64 i8)), (102, (.bool true))]) H ⟨rfl, rfl, rfl, rfl, rfl, rfl, trivial⟩
          · have H := H.2 g53
            obtain ⟨x54, e55, H⟩ := H
            refine s_rl (d := some 97) (v := (.agg #[(.pointer x54)])) rfl rfl (wants_yes rfl rfl rfl rfl g53) (fun dr => r_loadN Try.isAgg40 Try.sizeOf40 (vs := [(.pointer x54)]) rfl rfl ⟨e55, trivial⟩) ?_
            refine s_ef (d := some 98) rfl rfl (wants_yes rfl rfl rfl rfl g53) (fun dr => r_call Try.call24 rfl rfl H) ?_ trivial
            rintro _ h12 ⟨y56, rfl, H⟩
            refine ⟨trivial, ?_⟩
            refine s_pu (d := some 99) (v := (Sl.v all42)) rfl rfl (wants_yes rfl rfl rfl rfl g53) (r_move rfl) ?_
            refine s_pu (d := some 100) (v := (.int .i64 ((all42.len : Int)))) rfl rfl (wants_yes rfl rfl rfl rfl g53) (r_len Try.underlying35 rfl) ?_
            refine s_pu (d := some 101) (v := (.bool (!decide (y56 = ((all42.len : Int)))))) rfl rfl (wants_yes rfl rfl rfl rfl g53) (r_neq rfl rfl) ?_
            refine s_pu (d := some 102) (v := (.bool (!decide (y56 = ((all42.len : Int)))))) rfl rfl rfl (r_pick0 rfl g53 rfl) ?_
            refine s_fin ?_
            exact N_mk (l := [(0, (Sl.v l1)), (1, (Sl.v takes2)), (6, (.pointer (some p4))), (7, (Sl.v all42)), (8, (.int .i64 i8)), (102, (.bool (!decide (y56 = ((all42.len : Int))))))]) H ⟨rfl, rfl, rfl, rfl, rfl, rfl, trivial⟩)
        clear eN44
        refine W_if x39 rfl (fun g118 => ?_) (fun g118 => ?_)
        · have H := H.1 g118
          refine W_seq ?_
          refine W_region (.pu 0 (.ef 1 [] (.pu 2 .fin) .no)) rfl rfl ?_
          refine s_pu (d := some 54) (v := (Sl.v s38)) rfl rfl rfl (r_move rfl) ?_
          refine s_ef (d := some 55) rfl rfl rfl (fun dr => r_call Try.call36 rfl rfl H) ?_ trivial
          rintro _ h13 ⟨y57, rfl, H⟩
          refine ⟨trivial, ?_⟩
          refine s_pu (d := some 9) (v := (.int .i64 y57)) rfl rfl rfl (r_assign rfl) ?_
          refine s_fin ?_
          show W _ _ _ _ _ _ _ _
          refine W_seq ?_
          refine W_region (.rl 0 (.ef 1 [] (.pu 2 (.pu 3 (.pu 4 (.ef 5 [] (.ef 6 [] (.pu 7 .fin) .no) .no)))) .no)) rfl rfl ?_
          obtain ⟨x58, e59, H⟩ := H
          refine s_rl (d := some 57) (v := (.agg #[(.pointer x58)])) rfl rfl rfl (fun dr => r_loadN Try.isAgg40 Try.sizeOf40 (vs := [(.pointer x58)]) rfl rfl ⟨e59, trivial⟩) ?_
          refine s_ef (d := some 58) rfl rfl rfl (fun dr => r_call Try.call19 rfl rfl H) ?_ trivial
          rintro _ h14 ⟨y60, y61, y62, rfl, H⟩
          refine ⟨trivial, ?_⟩
          refine s_pu (d := some 56) (v := (.tuple #[(.agg #[(.int .i64 y60), (.int .i64 y61)]), (.bool y62)])) rfl rfl rfl (r_move rfl) ?_
          refine s_pu (d := some 59) (v := (.agg #[(.int .i64 y60), (.int .i64 y61)])) rfl rfl rfl (r_extract rfl rfl) ?_
          refine s_pu (d := some 60) (v := (.bool y62)) rfl rfl rfl (r_extract rfl rfl) ?_
          obtain ⟨p63, e64⟩ : ∃ p : Addr, p = ⟨h14.size, 0, none⟩ := ⟨_, rfl⟩
          obtain ⟨h15, e65⟩ : ∃ hh : Heap, hh = h14.push (.cells #[(.int .i64 0), (.int .i64 0)] 43) := ⟨_, rfl⟩
          have H := H p63 h15 e64 e65
          refine s_ef1 (d := some 10) (v := (.pointer (some p63))) (h' := h15) rfl rfl rfl (fun dr => (r_alloc Try.zeroValue43).trans (by rw [e64, e65]; rfl)) trivial ?_ trivial
          obtain ⟨e67, H⟩ := H
          obtain ⟨h16, e66⟩ : ∃ hh : Heap, hh = hsets h15 p63 0 [(.int .i64 y60), (.int .i64 y61)] := ⟨_, rfl⟩
          have H := H h16 e66
          refine s_st (d := none) (h' := h16) rfl rfl rfl (fun dr => (r_store (v := (.agg #[(.int .i64 y60), (.int .i64 y61)])) Try.sizeOf43 rfl rfl rfl (one_all rfl) e67).trans (by rw [e66]; rfl)) trivial ?_ trivial
          refine s_pu (d := some 11) (v := (.bool y62)) rfl rfl rfl (r_assign rfl) ?_
          refine s_fin ?_
          show W _ _ _ _ _ _ _ _
          refine W_seq ?_
          refine W_region (.rl 0 (.ef 1 [] (.pu 2 (.pu 3 (.pu 4 (.pu 5 (.ef 6 [] (.ef 7 [] (.ef 8 [] (.ef 9 [] (.pu 10 .fin) .no) .no) .no) .no))))) .no)) rfl rfl ?_
          obtain ⟨x68, e69, H⟩ := H
          refine s_rl (d := some 62) (v := (.agg #[(.pointer x68)])) rfl rfl rfl (fun dr => r_loadN Try.isAgg40 Try.sizeOf40 (vs := [(.pointer x68)]) rfl rfl ⟨e69, trivial⟩) ?_
          refine s_ef (d := some 63) rfl rfl rfl (fun dr => r_call Try.call23 rfl rfl H) ?_ trivial
          rintro _ h17 ⟨y70, y71, y72, y73, rfl, H⟩
          refine ⟨trivial, ?_⟩
          refine s_pu (d := some 61) (v := (.tuple #[(.agg #[(.int .i64 y70), (.int .i64 y71)]), (.agg #[(.pointer y72)]), (.bool y73)])) rfl rfl rfl (r_move rfl) ?_
          refine s_pu (d := some 64) (v := (.agg #[(.int .i64 y70), (.int .i64 y71)])) rfl rfl rfl (r_extract rfl rfl) ?_
          refine s_pu (d := some 65) (v := (.agg #[(.pointer y72)])) rfl rfl rfl (r_extract rfl rfl) ?_
          refine s_pu (d := some 66) (v := (.bool y73)) rfl rfl rfl (r_extract rfl rfl) ?_
          obtain ⟨p74, e75⟩ : ∃ p : Addr, p = ⟨h17.size, 0, none⟩ := ⟨_, rfl⟩
          obtain ⟨h18, e76⟩ : ∃ hh : Heap, hh = h17.push (.cells #[(.int .i64 0), (.int .i64 0)] 43) := ⟨_, rfl⟩
          have H := H p74 h18 e75 e76
          refine s_ef1 (d := some 12) (v := (.pointer (some p74))) (h' := h18) rfl rfl rfl (fun dr => (r_alloc Try.zeroValue43).trans (by rw [e75, e76]; rfl)) trivial ?_ trivial
          obtain ⟨p77, e78⟩ : ∃ p : Addr, p = ⟨h18.size, 0, none⟩ := ⟨_, rfl⟩
          obtain ⟨h19, e79⟩ : ∃ hh : Heap, hh = h18.push (.cells #[(.pointer none)] 40) := ⟨_, rfl⟩
          have H := H p77 h19 e78 e79
          refine s_ef1 (d := some 13) (v := (.pointer (some p77))) (h' := h19) rfl rfl rfl (fun dr => (r_alloc Try.zeroValue40).trans (by rw [e78, e79]; rfl)) trivial ?_ trivial
          obtain ⟨e81, H⟩ := H
          obtain ⟨h20, e80⟩ : ∃ hh : Heap, hh = hsets h19 p74 0 [(.int .i64 y70), (.int .i64 y71)] := ⟨_, rfl⟩
          have H := H h20 e80
          refine s_st (d := none) (h' := h20) rfl rfl rfl (fun dr => (r_store (v := (.agg #[(.int .i64 y70), (.int .i64 y71)])) Try.sizeOf43 rfl rfl rfl (one_all rfl) e81).trans (by rw [e80]; rfl)) trivial ?_ trivial
          obtain ⟨e83, H⟩ := H
          obtain ⟨h21, e82⟩ : ∃ hh : Heap, hh = hsets h20 p77 0 [(.pointer y72)] := ⟨_, rfl⟩
          have H := H h21 e82
          refine s_st (d := none) (h' := h21) rfl rfl rfl (fun dr => (r_store (v := (.agg #[(.pointer y72)])) Try.sizeOf40 rfl rfl rfl (one_all rfl) e83).trans (by rw [e82]; rfl)) trivial ?_ trivial
          refine s_pu (d := some 14) (v := (.bool y73)) rfl rfl rfl (r_assign rfl) ?_
          refine s_fin ?_
          show W _ _ _ _ _ _ _ _
          refine W_seq ?_
          refine W_seq ?_
          refine W_set ?_
          intro N86 eN86
          have H := H (fun (x84 : Bool) => ∀ b, N86 [] (mkE [(0, (Sl.v l1)), (1, (Sl.v takes2)), (6, (.pointer (some p4))), (7, (Sl.v s38)), (8, (.int .i64 i8)), (9, (.int .i64 y57)), (13, (.pointer (some p77))), (85, (.bool x84))] b) h21) (by
            intro x84 H b
            rw [eN86]
            show W _ _ _ _ _ _ _ _
            refine W_if x84 rfl (fun g92 => ?_) (fun g92 => ?_)
            · have H := H.1 g92
              refine W_seq ?_
              refine W_region (.pu 0 .fin) rfl rfl ?_
              refine s_pu (d := some 4) (v := (.bool false)) rfl rfl rfl (r_assign rfl) ?_
              refine s_fin ?_
              show W _ _ _ _ _ _ _ _
              refine W_ret ?_
              exact ⟨[(.bool false)], ⟨_, _, rfl, rfl, rfl⟩, false, rfl, H⟩
            · have H := H.2 g92
              refine W_skip ?_
              show W _ _ _ _ _ _ _ _
              refine W_seq ?_
              refine W_region (.pu 0 (.pu 1 (.ef 2 [] (.pu 3 .fin) .no))) rfl rfl ?_
              refine s_pu (d := some 86) (v := (Sl.v s38)) rfl rfl rfl (r_move rfl) ?_
              refine s_pu (d := some 87) (v := (.int .i64 y57)) rfl rfl rfl (r_move rfl) ?_
              refine s_ef (d := some 88) rfl rfl rfl (fun dr => r_call Try.call37 rfl rfl H) ?_ trivial
              rintro _ h22 ⟨y87, rfl, H⟩
              refine ⟨trivial, ?_⟩
              refine s_pu (d := some 7) (v := (Sl.v y87)) rfl rfl rfl (r_assign rfl) ?_
              refine s_fin ?_
              show W _ _ _ _ _ _ _ _
              refine W_region (.rl 0 (.ef 1 [] .fin .no)) rfl rfl ?_
              obtain ⟨x88, e89, H⟩ := H
              refine s_rl (d := some 89) (v := (.agg #[(.pointer x88)])) rfl rfl rfl (fun dr => r_loadN Try.isAgg40 Try.sizeOf40 (vs := [(.pointer x88)]) rfl rfl ⟨e89, trivial⟩) ?_
              obtain ⟨e91, H⟩ := H
              obtain ⟨h23, e90⟩ : ∃ hh : Heap, hh = hsets h22 p4 0 [(.pointer x88)] := ⟨_, rfl⟩
              have H := H h23 e90
              refine s_st (d := none) (h' := h23) rfl rfl rfl (fun dr => (r_store (v := (.agg #[(.pointer x88)])) Try.sizeOf40 rfl rfl rfl (one_all rfl) e91).trans (by rw [e90]; rfl)) trivial ?_ trivial
              refine s_fin ?_
              exact N_mk (l := [(0, (Sl.v l1)), (1, (Sl.v takes2)), (6, (.pointer (some p4))), (7, (Sl.v y87)), (8, (.int .i64 i8))]) H ⟨rfl, rfl, rfl, rfl, rfl, trivial⟩)
          clear eN86
          refine W_draw [0, 1, 3, 7, 15, 31, 63, 127, 127, 127, 895, 1919, 4095, 8191, 16383, 32767, 32767, 131071, 262143] (.pu 0 (.pu 1 (.pu 2 (.pu 3 (.pu 4 (.pu 5 (.pu 6 (.rd 7 (.pu 8 (.pu 9 (.pu 10 (.rd 11 (.pu 12 (.pu 13 (.pu 14 (.rd 15 (.rd 16 (.pu 17 (.pu 18 .fin))))))))))))))))))) (by kernel_rfl) (by kernel_rfl) ?_
          refine s_pu (d := some 67) (v := (.bool y62)) rfl rfl rfl (r_move rfl) ?_
          refine s_pu (d := some 68) (v := (.bool (!y62))) rfl rfl rfl (r_not rfl) ?_
          refine s_pu (d := some 69) (v := (.bool (!y62))) rfl rfl rfl (r_move rfl) ?_
          rcases Bool.eq_false_or_eq_true (!y62) with g93 | g93
          · have H := H.1 g93
            refine s_sk (d := some 70) rfl rfl (wants_no rfl rfl rfl rfl g93) ?_
            refine s_sk (d := some 71) rfl rfl (wants_no rfl rfl rfl rfl g93) ?_
            refine s_pu (d := some 72) (v := (.bool true)) rfl rfl rfl (r_pick1 rfl g93 rfl) ?_
            refine s_pu (d := some 73) (v := (.bool true)) rfl rfl rfl (r_move rfl) ?_
            refine s_skd (d := some 74) rfl rfl (wants_no rfl rfl rfl rfl rfl) ?_
            refine s_sk (d := some 75) rfl rfl (wants_no rfl rfl rfl rfl rfl) ?_
            refine s_sk (d := some 76) rfl rfl (wants_no rfl rfl rfl rfl rfl) ?_
            refine s_sk (d := some 77) rfl rfl (wants_no rfl rfl rfl rfl rfl) ?_
            refine s_skd (d := some 78) rfl rfl (wants_no rfl rfl rfl rfl rfl) ?_
            refine s_sk (d := some 79) rfl rfl (wants_no rfl rfl rfl rfl rfl) ?_
            refine s_pu (d := some 80) (v := (.bool true)) rfl rfl rfl (r_pick1 rfl rfl rfl) ?_
            refine s_pu (d := some 81) (v := (.bool true)) rfl rfl rfl (r_move rfl) ?_
            refine s_skd (d := some 82) rfl rfl (wants_no rfl rfl rfl rfl rfl) ?_
            refine s_skd (d := some 83) rfl rfl (wants_no rfl rfl rfl rfl rfl) ?_
            refine s_sk (d := some 84) rfl rfl (wants_no rfl rfl rfl rfl rfl) ?_
            refine s_pu (d := some 85) (v := (.bool true)) rfl rfl rfl (r_pick1 rfl rfl rfl) ?_
            refine s_fin ?_
            exact N_mk (l := [(0, (Sl.v l1)), (1, (Sl.v takes2)), (6, (.pointer (some p4))), (7, (Sl.v s38)), (8, (.int .i64 i8)), (9, (.int .i64 y57)), (13, (.pointer (some p77))), (85, (.bool true))]) H ⟨rfl, rfl, rfl, rfl, rfl, rfl, rfl, rfl, trivial⟩
          · have H := H.2 g93
            refine s_pu (d := some 70) (v := (.bool y73)) rfl rfl (wants_yes rfl rfl rfl rfl g93) (r_move rfl) ?_
            refine s_pu (d := some 71) (v := (.bool (!y73))) rfl rfl (wants_yes rfl rfl rfl rfl g93) (r_not rfl) ?_
            refine s_pu (d := some 72) (v := (.bool (!y73))) rfl rfl rfl (r_pick0 rfl g93 rfl) ?_
            refine s_pu (d := some 73) (v := (.bool (!y73))) rfl rfl rfl (r_move rfl) ?_
            rcases Bool.eq_false_or_eq_true (!y73) with g94 | g94
            · have H := H.1 g94
              refine s_skd (d := some 74) rfl rfl (wants_no rfl rfl rfl rfl g94) ?_
              refine s_sk (d := some 75) rfl rfl (wants_no rfl rfl rfl rfl g94) ?_
              refine s_sk (d := some 76) rfl rfl (wants_no rfl rfl rfl rfl g94) ?_
              refine s_sk (d := some 77) rfl rfl (wants_no rfl rfl rfl rfl g94) ?_
              refine s_skd (d := some 78) rfl rfl (wants_no rfl rfl rfl rfl g94) ?_
              refine s_sk (d := some 79) rfl rfl (wants_no rfl rfl rfl rfl g94) ?_
              refine s_pu (d := some 80) (v := (.bool true)) rfl rfl rfl (r_pick1 rfl g94 rfl) ?_
              refine s_pu (d := some 81) (v := (.bool true)) rfl rfl rfl (r_move rfl) ?_
              refine s_skd (d := some 82) rfl rfl (wants_no rfl rfl rfl rfl rfl) ?_
              refine s_skd (d := some 83) rfl rfl (wants_no rfl rfl rfl rfl rfl) ?_
              refine s_sk (d := some 84) rfl rfl (wants_no rfl rfl rfl rfl rfl) ?_
              refine s_pu (d := some 85) (v := (.bool true)) rfl rfl rfl (r_pick1 rfl rfl rfl) ?_
              refine s_fin ?_
              exact N_mk (l := [(0, (Sl.v l1)), (1, (Sl.v takes2)), (6, (.pointer (some p4))), (7, (Sl.v s38)), (8, (.int .i64 i8)), (9, (.int .i64 y57)), (13, (.pointer (some p77))), (85, (.bool true))]) H ⟨rfl, rfl, rfl, rfl, rfl, rfl, rfl, rfl, trivial⟩
            · have H := H.2 g94
              obtain ⟨x95, e96, H⟩ := H
              obtain ⟨x97, e98, H⟩ := H
              refine s_rd (d := some 74) (v := (.agg #[(.int .i64 x95), (.int .i64 x97)])) rfl rfl (wants_yes rfl rfl rfl rfl g94) (fun dr => r_loadN Try.isAgg43 Try.sizeOf43 (vs := [(.int .i64 x95), (.int .i64 x97)]) rfl rfl ⟨e96, e98, trivial⟩) ?_
              refine s_pu (d := some 75) (v := (Sl.v s38)) rfl rfl (wants_yes rfl rfl rfl rfl g94) (r_move rfl) ?_
              refine s_pu (d := some 76) (v := (.int .i64 y57)) rfl rfl (wants_yes rfl rfl rfl rfl g94) (r_move rfl) ?_
              obtain ⟨p99, e100, e101, e102, H⟩ := H
              obtain ⟨q103, e104⟩ : ∃ q : Addr, q = Addr.add p99 (Int.toNat y57 * 2) := ⟨_, rfl⟩
              rw [← e104] at H
              refine s_pu (d := some 77) (v := (.pointer (some q103))) rfl rfl (wants_yes rfl rfl rfl rfl g94) (fun w => (r_indexAddr Try.underlying35 Try.sizeOf43 rfl rfl e100 e101 e102 w).trans (by rw [e104])) ?_
              obtain ⟨x105, e106, H⟩ := H
              obtain ⟨x107, e108, H⟩ := H
              refine s_rd (d := some 78) (v := (.agg #[(.int .i64 x105), (.int .i64 x107)])) rfl rfl (wants_yes rfl rfl rfl rfl g94) (fun dr => r_loadN Try.isAgg43 Try.sizeOf43 (vs := [(.int .i64 x105), (.int .i64 x107)]) rfl rfl ⟨e106, e108, trivial⟩) ?_
              refine s_pu (d := some 79) (v := (.bool (!(decide (x95 = x105 ∧ x97 = x107))))) rfl rfl (wants_yes rfl rfl rfl rfl g94) (r_neqAgg_Try43 rfl rfl) ?_
              refine s_pu (d := some 80) (v := (.bool (!(decide (x95 = x105 ∧ x97 = x107))))) rfl rfl rfl (r_pick0 rfl g94 rfl) ?_
              refine s_pu (d := some 81) (v := (.bool (!(decide (x95 = x105 ∧ x97 = x107))))) rfl rfl rfl (r_move rfl) ?_
              rcases Bool.eq_false_or_eq_true (!(decide (x95 = x105 ∧ x97 = x107))) with g109 | g109
              · have H := H.1 g109
                refine s_skd (d := some 82) rfl rfl (wants_no rfl rfl rfl rfl g109) ?_
                refine s_skd (d := some 83) rfl rfl (wants_no rfl rfl rfl rfl g109) ?_
                refine s_sk (d := some 84) rfl rfl (wants_no rfl rfl rfl rfl g109) ?_
                refine s_pu (d := some 85) (v := (.bool true)) rfl rfl rfl (r_pick1 rfl g109 rfl) ?_
                refine s_fin ?_
                exact N_mk (l := [(0, (Sl.v l1)), (1, (Sl.v takes2)), (6, (.pointer (some p4))), (7, (Sl.v s38)), (8, (.int .i64 i8)), (9, (.int .i64 y57)), (13, (.pointer (some p77))), (85, (.bool true))]) H ⟨rfl, rfl, rfl, rfl, rfl, rfl, rfl, rfl, trivial⟩
              · have H := H.2 g109
                obtain ⟨x110, e111, H⟩ := H
                obtain ⟨x112, e113, H⟩ := H
                refine s_rd (d := some 82) (v := (.agg #[(.int .i64 x110), (.int .i64 x112)])) rfl rfl (wants_yes rfl rfl rfl rfl g109) (fun dr => r_loadN Try.isAgg43 Try.sizeOf43 (vs := [(.int .i64 x110), (.int .i64 x112)]) rfl rfl ⟨e111, e113, trivial⟩) ?_
                obtain ⟨x114, e115, H⟩ := H
                obtain ⟨x116, e117, H⟩ := H
                refine s_rd (d := some 83) (v := (.agg #[(.int .i64 x114), (.int .i64 x116)])) rfl rfl (wants_yes rfl rfl rfl rfl g109) (fun dr => r_loadN Try.isAgg43 Try.sizeOf43 (vs := [(.int .i64 x114), (.int .i64 x116)]) rfl rfl ⟨e115, e117, trivial⟩) ?_
                refine s_pu (d := some 84) (v := (.bool (!(decide (x110 = x114 ∧ x112 = x116))))) rfl rfl (wants_yes rfl rfl rfl rfl g109) (r_neqAgg_Try43 rfl rfl) ?_
                refine s_pu (d := some 85) (v := (.bool (!(decide (x110 = x114 ∧ x112 = x116))))) rfl rfl rfl (r_pick0 rfl g109 rfl) ?_
                refine s_fin ?_
                exact N_mk (l := [(0, (Sl.v l1)), (1, (Sl.v takes2)), (6, (.pointer (some p4))), (7, (Sl.v s38)), (8, (.int .i64 i8)), (9, (.int .i64 y57)), (13, (.pointer (some p77))), (85, (.bool (!(decide (x110 = x114 ∧ x112 = x116)))))]) H ⟨rfl, rfl, rfl, rfl, rfl, rfl, rfl, rfl, trivial⟩
        · have H := H.2 g118
          refine W_skip ?_
          exact N_mk (l := [(0, (Sl.v l1)), (1, (Sl.v takes2)), (6, (.pointer (some p4))), (7, (Sl.v s38)), (8, (.int .i64 i8))]) H ⟨rfl, rfl, rfl, rfl, rfl, trivial⟩)
      clear eN41
      refine W_region (.pu 0 (.pu 1 (.pu 2 (.pu 3 (.pu 4 (.pu 5 (.pu 6 (.pu 7 (.rl 8 (.pu 9 .fin)))))))))) rfl rfl ?_
      refine s_pu (d := some 44) (v := (.int .i64 i8)) rfl rfl rfl (r_move rfl) ?_
      refine s_pu (d := some 45) (v := (Sl.v takes2)) rfl rfl rfl (r_move rfl) ?_
      refine s_pu (d := some 46) (v := (.int .i64 ((takes2.len : Int)))) rfl rfl rfl (r_len Try.underlying76 rfl) ?_
      refine s_pu (d := some 47) (v := (.bool (decide (i8 < ((takes2.len : Int)))))) rfl rfl rfl (r_lss rfl rfl) ?_
      refine s_pu (d := some 48) (v := (.bool (decide (i8 < ((takes2.len : Int)))))) rfl rfl rfl (r_move rfl) ?_
      rcases Bool.eq_false_or_eq_true (decide (i8 < ((takes2.len : Int)))) with g119 | g119
      · have H := H.1 g119
        refine s_pu (d := some 49) (v := (Sl.v takes2)) rfl rfl (wants_yes rfl rfl rfl rfl g119) (r_move rfl) ?_
        refine s_pu (d := some 50) (v := (.int .i64 i8)) rfl rfl (wants_yes rfl rfl rfl rfl g119) (r_move rfl) ?_
        obtain ⟨p120, e121, e122, e123, H⟩ := H
        obtain ⟨q124, e125⟩ : ∃ q : Addr, q = Addr.add p120 (Int.toNat i8 * 1) := ⟨_, rfl⟩
        rw [← e125] at H
        refine s_pu (d := some 51) (v := (.pointer (some q124))) rfl rfl (wants_yes rfl rfl rfl rfl g119) (fun w => (r_indexAddr Try.underlying76 Try.sizeOf4 rfl rfl e121 e122 e123 w).trans (by rw [e125])) ?_
        obtain ⟨x126, e127, H⟩ := H
        refine s_rl (d := some 52) (v := (.bool x126)) rfl rfl (wants_yes rfl rfl rfl rfl g119) (fun dr => r_load1 Try.isAgg4 rfl e127) ?_
        refine s_pu (d := some 53) (v := (.bool x126)) rfl rfl rfl (r_pick1 rfl g119 rfl) ?_
        refine s_fin ?_
        exact N_mk (l := [(0, (Sl.v l1)), (1, (Sl.v takes2)), (6, (.pointer (some p4))), (7, (Sl.v s38)), (8, (.int .i64 i8)), (53, (.bool x126))]) H ⟨rfl, rfl, rfl, rfl, rfl, rfl, trivial⟩
      · have H := H.2 g119
        refine s_sk (d := some 49) rfl rfl (wants_no rfl rfl rfl rfl g119) ?_
        refine s_sk (d := some 50) rfl rfl (wants_no rfl rfl rfl rfl g119) ?_
        refine s_sk (d := some 51) rfl rfl (wants_no rfl rfl rfl rfl g119) ?_
        refine s_skl (d := some 52) rfl rfl (wants_no rfl rfl rfl rfl g119) ?_
        refine s_pu (d := some 53) (v := (.bool false)) rfl rfl rfl (r_pick0 rfl g119 rfl) ?_
        refine s_fin ?_
        exact N_mk (l := [(0, (Sl.v l1)), (1, (Sl.v takes2)), (6, (.pointer (some p4))), (7, (Sl.v s38)), (8, (.int .i64 i8)), (53, (.bool false))]) H ⟨rfl, rfl, rfl, rfl, rfl, rfl, trivial⟩
    · have H := H.2 g179
      refine W_exit (inX_here ?_)
      show W _ _ _ _ _ _ _ _
      refine W_seq ?_
      refine W_region (.ef 0 [] .fin .no) rfl rfl ?_
      obtain ⟨p128, e129⟩ : ∃ p : Addr, p = ⟨h3.size, 0, none⟩ := ⟨_, rfl⟩
      obtain ⟨h24, e130⟩ : ∃ hh : Heap, hh = h3.push (.cells #[(.pointer none)] 40) := ⟨_, rfl⟩
      have H := H p128 h24 e129 e130
      refine s_ef1 (d := some 16) (v := (.pointer (some p128))) (h' := h24) rfl rfl rfl (fun dr => (r_alloc Try.zeroValue40).trans (by rw [e129, e130]; rfl)) trivial ?_ trivial
      refine s_fin ?_
      show W _ _ _ _ _ _ _ _
      refine W_seq ?_
      refine W_region (.rl 0 (.ef 1 [] (.pu 2 (.pu 3 (.pu 4 (.ef 5 [] (.ef 6 [] (.pu 7 .fin) .no) .no)))) .no)) rfl rfl ?_
      obtain ⟨x131, e132, H⟩ := H
      refine s_rl (d := some 104) (v := (.agg #[(.pointer x131)])) rfl rfl rfl (fun dr => r_loadN Try.isAgg40 Try.sizeOf40 (vs := [(.pointer x131)]) rfl rfl ⟨e132, trivial⟩) ?_
      refine s_ef (d := some 105) rfl rfl rfl (fun dr => r_call Try.call19 rfl rfl H) ?_ trivial
      rintro _ h25 ⟨y133, y134, y135, rfl, H⟩
      refine ⟨trivial, ?_⟩
      refine s_pu (d := some 103) (v := (.tuple #[(.agg #[(.int .i64 y133), (.int .i64 y134)]), (.bool y135)])) rfl rfl rfl (r_move rfl) ?_
      refine s_pu (d := some 106) (v := (.agg #[(.int .i64 y133), (.int .i64 y134)])) rfl rfl rfl (r_extract rfl rfl) ?_
      refine s_pu (d := some 107) (v := (.bool y135)) rfl rfl rfl (r_extract rfl rfl) ?_
      obtain ⟨p136, e137⟩ : ∃ p : Addr, p = ⟨h25.size, 0, none⟩ := ⟨_, rfl⟩
      obtain ⟨h26, e138⟩ : ∃ hh : Heap, hh = h25.push (.cells #[(.int .i64 0), (.int .i64 0)] 43) := ⟨_, rfl⟩
      have H := H p136 h26 e137 e138
      refine s_ef1 (d := some 17) (v := (.pointer (some p136))) (h' := h26) rfl rfl rfl (fun dr => (r_alloc Try.zeroValue43).trans (by rw [e137, e138]; rfl)) trivial ?_ trivial
      obtain ⟨e140, H⟩ := H
      obtain ⟨h27, e139⟩ : ∃ hh : Heap, hh = hsets h26 p136 0 [(.int .i64 y133), (.int .i64 y134)] := ⟨_, rfl⟩
      have H := H h27 e139
      refine s_st (d := none) (h' := h27) rfl rfl rfl (fun dr => (r_store (v := (.agg #[(.int .i64 y133), (.int .i64 y134)])) Try.sizeOf43 rfl rfl rfl (one_all rfl) e140).trans (by rw [e139]; rfl)) trivial ?_ trivial
      refine s_pu (d := some 18) (v := (.bool y135)) rfl rfl rfl (r_assign rfl) ?_
      refine s_fin ?_
      show W _ _ _ _ _ _ _ _
      refine W_seq ?_
      refine W_region (.rl 0 (.ef 1 [] (.pu 2 (.pu 3 (.pu 4 (.pu 5 (.ef 6 [] (.ef 7 [] (.ef 8 [] (.ef 9 [] (.pu 10 .fin) .no) .no) .no) .no))))) .no)) rfl rfl ?_
      obtain ⟨x141, e142, H⟩ := H
      refine s_rl (d := some 109) (v := (.agg #[(.pointer x141)])) rfl rfl rfl (fun dr => r_loadN Try.isAgg40 Try.sizeOf40 (vs := [(.pointer x141)]) rfl rfl ⟨e142, trivial⟩) ?_
      refine s_ef (d := some 110) rfl rfl rfl (fun dr => r_call Try.call23 rfl rfl H) ?_ trivial
      rintro _ h28 ⟨y143, y144, y145, y146, rfl, H⟩
      refine ⟨trivial, ?_⟩
      refine s_pu (d := some 108) (v := (.tuple #[(.agg #[(.int .i64 y143), (.int .i64 y144)]), (.agg #[(.pointer y145)]), (.bool y146)])) rfl rfl rfl (r_move rfl) ?_
      refine s_pu (d := some 111) (v := (.agg #[(.int .i64 y143), (.int .i64 y144)])) rfl rfl rfl (r_extract rfl rfl) ?_
      refine s_pu (d := some 112) (v := (.agg #[(.pointer y145)])) rfl rfl rfl (r_extract rfl rfl) ?_
      refine s_pu (d := some 113) (v := (.bool y146)) rfl rfl rfl (r_extract rfl rfl) ?_
      obtain ⟨p147, e148⟩ : ∃ p : Addr, p = ⟨h28.size, 0, none⟩ := ⟨_, rfl⟩
      obtain ⟨h29, e149⟩ : ∃ hh : Heap, hh = h28.push (.cells #[(.int .i64 0), (.int .i64 0)] 43) := ⟨_, rfl⟩
      have H := H p147 h29 e148 e149
      refine s_ef1 (d := some 19) (v := (.pointer (some p147))) (h' := h29) rfl rfl rfl (fun dr => (r_alloc Try.zeroValue43).trans (by rw [e148, e149]; rfl)) trivial ?_ trivial
      obtain ⟨p150, e151⟩ : ∃ p : Addr, p = ⟨h29.size, 0, none⟩ := ⟨_, rfl⟩
      obtain ⟨h30, e152⟩ : ∃ hh : Heap, hh = h29.push (.cells #[(.pointer none)] 40) := ⟨_, rfl⟩
      have H := H p150 h30 e151 e152
      refine s_ef1 (d := some 20) (v := (.pointer (some p150))) (h' := h30) rfl rfl rfl (fun dr => (r_alloc Try.zeroValue40).trans (by rw [e151, e152]; rfl)) trivial ?_ trivial
      obtain ⟨e154, H⟩ := H
      obtain ⟨h31, e153⟩ : ∃ hh : Heap, hh = hsets h30 p147 0 [(.int .i64 y143), (.int .i64 y144)] := ⟨_, rfl⟩
      have H := H h31 e153
      refine s_st (d := none) (h' := h31) rfl rfl rfl (fun dr => (r_store (v := (.agg #[(.int .i64 y143), (.int .i64 y144)])) Try.sizeOf43 rfl rfl rfl (one_all rfl) e154).trans (by rw [e153]; rfl)) trivial ?_ trivial
      obtain ⟨e156, H⟩ := H
      obtain ⟨h32, e155⟩ : ∃ hh : Heap, hh = hsets h31 p150 0 [(.pointer y145)] := ⟨_, rfl⟩
      have H := H h32 e155
      refine s_st (d := none) (h' := h32) rfl rfl rfl (fun dr => (r_store (v := (.agg #[(.pointer y145)])) Try.sizeOf40 rfl rfl rfl (one_all rfl) e156).trans (by rw [e155]; rfl)) trivial ?_ trivial
      refine s_pu (d := some 21) (v := (.bool y146)) rfl rfl rfl (r_assign rfl) ?_
      refine s_fin ?_
      show W _ _ _ _ _ _ _ _
      refine W_seq ?_
      refine W_set ?_
      intro N159 eN159
      have H := H (fun (x157 : Bool) (h33 : Heap) => ∀ b, N159 [] (mkE [(4, (.bool x157))] b) h33) (by
        intro x157 h33 H b
        rw [eN159]
        show W _ _ _ _ _ _ _ _
        refine W_ret ?_
        exact ⟨[(.bool x157)], ⟨_, _, rfl, rfl, rfl⟩, x157, rfl, H⟩)
      clear eN159
      refine W_region (.pu 0 (.pu 1 (.pu 2 (.pu 3 (.pu 4 (.pu 5 (.pu 6 (.rl 7 (.pu 8 (.pu 9 (.pu 10 (.pu 11 (.rl 12 (.rl 13 (.pu 14 (.pu 15 (.pu 16 (.rl 17 (.ef 18 [] (.pu 19 (.pu 20 (.pu 21 .fin))) .no))))))))))))))))))) rfl rfl ?_
      refine s_pu (d := some 114) (v := (.bool y135)) rfl rfl rfl (r_move rfl) ?_
      refine s_pu (d := some 115) (v := (.bool (!y135))) rfl rfl rfl (r_not rfl) ?_
      refine s_pu (d := some 116) (v := (.bool (!y135))) rfl rfl rfl (r_move rfl) ?_
      rcases Bool.eq_false_or_eq_true (!y135) with g160 | g160
      · have H := H.1 g160
        refine s_pu (d := some 117) (v := (.bool y146)) rfl rfl (wants_yes rfl rfl rfl rfl g160) (r_move rfl) ?_
        refine s_pu (d := some 118) (v := (.bool (!y146))) rfl rfl (wants_yes rfl rfl rfl rfl g160) (r_not rfl) ?_
        refine s_pu (d := some 119) (v := (.bool (!y146))) rfl rfl rfl (r_pick1 rfl g160 rfl) ?_
        refine s_pu (d := some 120) (v := (.bool (!y146))) rfl rfl rfl (r_move rfl) ?_
        rcases Bool.eq_false_or_eq_true (!y146) with g161 | g161
        · have H := H.1 g161
          obtain ⟨x162, e163, H⟩ := H
          obtain ⟨x164, e165, H⟩ := H
          refine s_rl (d := some 121) (v := (.agg #[(.int .i64 x162), (.int .i64 x164)])) rfl rfl (wants_yes rfl rfl rfl rfl g161) (fun dr => r_loadN Try.isAgg43 Try.sizeOf43 (vs := [(.int .i64 x162), (.int .i64 x164)]) rfl rfl ⟨e163, e165, trivial⟩) ?_
          refine s_pu (d := some 122) (v := (.agg #[(.int .i64 0), (.int .i64 0)])) rfl rfl (wants_yes rfl rfl rfl rfl g161) (fun w => by kernel_rfl) ?_
          refine s_pu (d := some 123) (v := (.bool (decide (x162 = 0 ∧ x164 = 0)))) rfl rfl (wants_yes rfl rfl rfl rfl g161) (r_eqlAgg_Try43 rfl rfl) ?_
          refine s_pu (d := some 124) (v := (.bool (decide (x162 = 0 ∧ x164 = 0)))) rfl rfl rfl (r_pick1 rfl g161 rfl) ?_
          refine s_pu (d := some 125) (v := (.bool (decide (x162 = 0 ∧ x164 = 0)))) rfl rfl rfl (r_move rfl) ?_
          rcases Bool.eq_false_or_eq_true (decide (x162 = 0 ∧ x164 = 0)) with g166 | g166
          · have H := H.1 g166
            obtain ⟨x167, e168, H⟩ := H
            obtain ⟨x169, e170, H⟩ := H
            refine s_rl (d := some 126) (v := (.agg #[(.int .i64 x167), (.int .i64 x169)])) rfl rfl (wants_yes rfl rfl rfl rfl g166) (fun dr => r_loadN Try.isAgg43 Try.sizeOf43 (vs := [(.int .i64 x167), (.int .i64 x169)]) rfl rfl ⟨e168, e170, trivial⟩) ?_
            obtain ⟨x171, e172, H⟩ := H
            obtain ⟨x173, e174, H⟩ := H
            refine s_rl (d := some 127) (v := (.agg #[(.int .i64 x171), (.int .i64 x173)])) rfl rfl (wants_yes rfl rfl rfl rfl g166) (fun dr => r_loadN Try.isAgg43 Try.sizeOf43 (vs := [(.int .i64 x171), (.int .i64 x173)]) rfl rfl ⟨e172, e174, trivial⟩) ?_
            refine s_pu (d := some 128) (v := (.bool (decide (x167 = x171 ∧ x169 = x173)))) rfl rfl (wants_yes rfl rfl rfl rfl g166) (r_eqlAgg_Try43 rfl rfl) ?_
            refine s_pu (d := some 129) (v := (.bool (decide (x167 = x171 ∧ x169 = x173)))) rfl rfl rfl (r_pick1 rfl g166 rfl) ?_
            refine s_pu (d := some 130) (v := (.bool (decide (x167 = x171 ∧ x169 = x173)))) rfl rfl rfl (r_move rfl) ?_
            rcases Bool.eq_false_or_eq_true (decide (x167 = x171 ∧ x169 = x173)) with g175 | g175
            · have H := H.1 g175
              obtain ⟨x176, e177, H⟩ := H
              refine s_rl (d := some 131) (v := (.agg #[(.pointer x176)])) rfl rfl (wants_yes rfl rfl rfl rfl g175) (fun dr => r_loadN Try.isAgg40 Try.sizeOf40 (vs := [(.pointer x176)]) rfl rfl ⟨e177, trivial⟩) ?_
              refine s_ef (d := some 132) rfl rfl (wants_yes rfl rfl rfl rfl g175) (fun dr => r_call Try.call24 rfl rfl H) ?_ trivial
              rintro _ h34 ⟨y178, rfl, H⟩
              refine ⟨trivial, ?_⟩
              refine s_pu (d := some 133) (v := (.bool (decide (y178 = 0)))) rfl rfl (wants_yes rfl rfl rfl rfl g175) (r_eql rfl rfl) ?_
              refine s_pu (d := some 134) (v := (.bool (decide (y178 = 0)))) rfl rfl rfl (r_pick1 rfl g175 rfl) ?_
              refine s_pu (d := some 4) (v := (.bool (decide (y178 = 0)))) rfl rfl rfl (r_assign rfl) ?_
              refine s_fin ?_
              exact N_mk (l := [(4, (.bool (decide (y178 = 0))))]) H ⟨rfl, trivial⟩
            · have H := H.2 g175
              refine s_skl (d := some 131) rfl rfl (wants_no rfl rfl rfl rfl g175) ?_
              refine s_skf (d := some 132) rfl rfl (wants_no rfl rfl rfl rfl g175) trivial ?_ trivial
              refine s_sk (d := some 133) rfl rfl (wants_no rfl rfl rfl rfl g175) ?_
              refine s_pu (d := some 134) (v := (.bool false)) rfl rfl rfl (r_pick0 rfl g175 rfl) ?_
              refine s_pu (d := some 4) (v := (.bool false)) rfl rfl rfl (r_assign rfl) ?_
              refine s_fin ?_
              exact N_mk (l := [(4, (.bool false))]) H ⟨rfl, trivial⟩
          · have H := H.2 g166
            refine s_skl (d := some 126) rfl rfl (wants_no rfl rfl rfl rfl g166) ?_
            refine s_skl (d := some 127) rfl rfl (wants_no rfl rfl rfl rfl g166) ?_
            refine s_sk (d := some 128) rfl rfl (wants_no rfl rfl rfl rfl g166) ?_
            refine s_pu (d := some 129) (v := (.bool false)) rfl rfl rfl (r_pick0 rfl g166 rfl) ?_
            refine s_pu (d := some 130) (v := (.bool false)) rfl rfl rfl (r_move rfl) ?_
            refine s_skl (d := some 131) rfl rfl (wants_no rfl rfl rfl rfl rfl) ?_
            refine s_skf (d := some 132) rfl rfl (wants_no rfl rfl rfl rfl rfl) trivial ?_ trivial
            refine s_sk (d := some 133) rfl rfl (wants_no rfl rfl rfl rfl rfl) ?_
            refine s_pu (d := some 134) (v := (.bool false)) rfl rfl rfl (r_pick0 rfl rfl rfl) ?_
            refine s_pu (d := some 4) (v := (.bool false)) rfl rfl rfl (r_assign rfl) ?_
            refine s_fin ?_
            exact N_mk (l := [(4, (.bool false))]) H ⟨rfl, trivial⟩
        · have H := H.2 g161
          refine s_skl (d := some 121) rfl rfl (wants_no rfl rfl rfl rfl g161) ?_
          refine s_sk (d := some 122) rfl rfl (wants_no rfl rfl rfl rfl g161) ?_
          refine s_sk (d := some 123) rfl rfl (wants_no rfl rfl rfl rfl g161) ?_
          refine s_pu (d := some 124) (v := (.bool false)) rfl rfl rfl (r_pick0 rfl g161 rfl) ?_
          refine s_pu (d := some 125) (v := (.bool false)) rfl rfl rfl (r_move rfl) ?_
          refine s_skl (d := some 126) rfl rfl (wants_no rfl rfl rfl rfl rfl) ?_
          refine s_skl (d := some 127) rfl rfl (wants_no rfl rfl rfl rfl rfl) ?_
          refine s_sk (d := some 128) rfl rfl (wants_no rfl rfl rfl rfl rfl) ?_
          refine s_pu (d := some 129) (v := (.bool false)) rfl rfl rfl (r_pick0 rfl rfl rfl) ?_
          refine s_pu (d := some 130) (v := (.bool false)) rfl rfl rfl (r_move rfl) ?_
          refine s_skl (d := some 131) rfl rfl (wants_no rfl rfl rfl rfl rfl) ?_
          refine s_skf (d := some 132) rfl rfl (wants_no rfl rfl rfl rfl rfl) trivial ?_ trivial
          refine s_sk (d := some 133) rfl rfl (wants_no rfl rfl rfl rfl rfl) ?_
          refine s_pu (d := some 134) (v := (.bool false)) rfl rfl rfl (r_pick0 rfl rfl rfl) ?_
          refine s_pu (d := some 4) (v := (.bool false)) rfl rfl rfl (r_assign rfl) ?_
          refine s_fin ?_
          exact N_mk (l := [(4, (.bool false))]) H ⟨rfl, trivial⟩
      · have H := H.2 g160
        refine s_sk (d := some 117) rfl rfl (wants_no rfl rfl rfl rfl g160) ?_
        refine s_sk (d := some 118) rfl rfl (wants_no rfl rfl rfl rfl g160) ?_
        refine s_pu (d := some 119) (v := (.bool false)) rfl rfl rfl (r_pick0 rfl g160 rfl) ?_
        refine s_pu (d := some 120) (v := (.bool false)) rfl rfl rfl (r_move rfl) ?_
        refine s_skl (d := some 121) rfl rfl (wants_no rfl rfl rfl rfl rfl) ?_
        refine s_sk (d := some 122) rfl rfl (wants_no rfl rfl rfl rfl rfl) ?_
        refine s_sk (d := some 123) rfl rfl (wants_no rfl rfl rfl rfl rfl) ?_
        refine s_pu (d := some 124) (v := (.bool false)) rfl rfl rfl (r_pick0 rfl rfl rfl) ?_
        refine s_pu (d := some 125) (v := (.bool false)) rfl rfl rfl (r_move rfl) ?_
        refine s_skl (d := some 126) rfl rfl (wants_no rfl rfl rfl rfl rfl) ?_
        refine s_skl (d := some 127) rfl rfl (wants_no rfl rfl rfl rfl rfl) ?_
        refine s_sk (d := some 128) rfl rfl (wants_no rfl rfl rfl rfl rfl) ?_
        refine s_pu (d := some 129) (v := (.bool false)) rfl rfl rfl (r_pick0 rfl rfl rfl) ?_
        refine s_pu (d := some 130) (v := (.bool false)) rfl rfl rfl (r_move rfl) ?_
        refine s_skl (d := some 131) rfl rfl (wants_no rfl rfl rfl rfl rfl) ?_
        refine s_skf (d := some 132) rfl rfl (wants_no rfl rfl rfl rfl rfl) trivial ?_ trivial
        refine s_sk (d := some 133) rfl rfl (wants_no rfl rfl rfl rfl rfl) ?_
        refine s_pu (d := some 134) (v := (.bool false)) rfl rfl rfl (r_pick0 rfl rfl rfl) ?_
        refine s_pu (d := some 4) (v := (.bool false)) rfl rfl rfl (r_assign rfl) ?_
        refine s_fin ?_
        exact N_mk (l := [(4, (.bool false))]) H ⟨rfl, trivial⟩

end Go.Proofs.Ytikccpmhoioaeaa
