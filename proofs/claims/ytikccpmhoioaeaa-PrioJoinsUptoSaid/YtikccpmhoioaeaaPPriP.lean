/- The first in rank: what the functions do. -/
import Derived.Test.YtikccpmhoioaeaaPLaw
import Derived.Test.YtikccpmhoioaeaaPManP
import Derived.Test.YtikccpmhoioaeaaPPriL
namespace Go.Proofs.Ytikccpmhoioaeaa.Pr
open Go Go.RowKit Go.Tw Go.Many Go.Pri
set_option linter.unusedVariables false
abbrev Any : Nat → Prop := fun _ => True
theorem any {h : Heap} : ∀ b, h.size ≤ b → Any b := fun _ _ => trivial
section
variable {A A' : Nat → Prop} {r : World} {h : Heap} {q : Option Addr} {l : List It}

theorem plen_ok {R : Int → Heap → Prop} (T : Tr A h q l) (H : ∀ h', Fw h h' → R (l.length : Int) h') : prio_Queue_Len r q h R := by
  apply prio_Queue_Len_of
  exact New.cells fun h1 E1 z1 B1 => ⟨_, B1.ld2 0 0 rfl, len_ok (T.fw E1) fun h2 E2 => H h2 (E1.trans E2)⟩
theorem push_ok {v : It} {R : Option Addr → Heap → Prop} (T : Tr A h q l) (hz : l.length < 1152921504606846970) (hA : ∀ b, h.size ≤ b → A b) (H : ∀ q' h', Fw h h' → Tr A h' q' (l ++ [v]) → R q' h') : prio_Queue_Push r q v.rank v.val h R := by
  apply prio_Queue_Push_of
  refine New.cells fun h1 E1 z1 B1 => New.cells (cs := ec v) fun h2 E2 z2 B2 => New.cells fun h3 E3 z3 B3 => ?_
  have B2 : Blk h2 h1.size [iV v.rank, iV v.val] := B2
  have E13 := (E1.trans E2).trans E3
  have hc : h.size ≤ h2.size := by omega
  have C1 := E3.blk (E2.blk B1)
  have C2 := E3.blk B2
  refine ⟨_, C1.ld2 0 0 rfl, _, C1.ld2 0 0 rfl, _, C2.ld 0 rfl, _, C2.ld 1 rfl, len_ok (T.fw E13) fun h4 E4 => ⟨(E4.blk C2).ld 0 rfl, (E4.blk C2).ld 1 rfl, (E4.blk C1).ld2 0 0 rfl, ?_⟩⟩
  have z4 := E4.1
  refine insert_ok (A := Bs A h2.size) (v := v) (i := l.length) (T.aside (E13.trans E4) hc) (by omega) hz (fun b hb => ⟨hA b (by omega), by omega⟩) fun q' h5 E5 T5 => ?_
  refine St.whole ((E4.trans E5).blk B3) rfl rfl fun h6 B6 o6 z6 => ⟨_, B6.ld 0 rfl, H q' h6 (((E13.trans E4).trans E5).over hc o6 z6) ?_⟩
  rw [List.take_length, List.drop_length] at T5
  exact T5.back o6 z6
theorem pjoin_ok {m : List It} {q2 : Option Addr} {R : Option Addr → Heap → Prop} (T : Tr A h q l) (U : Tr A h q2 m) (hz : l.length + m.length < 1152921504606846970) (hA : ∀ b, h.size ≤ b → A b) (H : ∀ q' h', Fw h h' → Tr A h' q' (l ++ m) → R q' h') : prio_Queue_Join r q q2 h R := by
  apply prio_Queue_Join_of
  refine New.cells fun h1 E1 z1 B1 => New.cells fun h2 E2 z2 B2 => New.cells fun h3 E3 z3 B3 => ?_
  have E13 := (E1.trans E2).trans E3
  have hc : h.size ≤ h2.size := by omega
  refine ⟨_, (E3.blk (E2.blk B1)).ld2 0 0 rfl, _, (E3.blk B2).ld2 0 0 rfl, ?_⟩
  refine tjoin_ok (A := Bs A h2.size) (T.aside E13 hc) (U.aside E13 hc) hz (fun b hb => ⟨hA b (by omega), by omega⟩) fun q' h5 E5 T5 => ?_
  exact St.whole (E5.blk B3) rfl rfl fun h6 B6 o6 z6 => ⟨_, B6.ld 0 rfl, H q' h6 ((E13.trans E5).over hc o6 z6) (T5.back o6 z6)⟩
theorem items_ok {R : Sl → Heap → Prop} (T : Tr A h q l) (hz : l.length ≤ 8796093022208) (H : ∀ s h', Fw h h' → Own h.size 2 h' s (cellsOf l) → R s h') : prio_Queue_Items r q h R := by
  apply prio_Queue_Items_of
  exact New.cells fun h1 E1 z1 B1 => ⟨_, B1.ld2 0 0 rfl, all_ok (T.fw E1) hz fun s h2 E2 O => H s h2 (E1.trans E2) (O.mono E1.1)⟩
theorem ask_first {c : Nat} {x : Int} (C : Blk h c [iV x]) : Ask r (.func (.func 75) #[] #[.pointer (some (ad c 0))]) (fun s => (topS s).any && decide ((topS s).x = x)) h := by
  intro h' E s K HK
  have g : ∀ {g}, Fw h' g → hcell g (ad c 0) = some (iV x) := fun E' => by have := ((E.trans E').blk C).ld 0 (v := iV x) rfl; rwa [ad_add] at this
  have main : prio_Queue_first_1 r (topS s).any (topS s).x (ad c 0) h' fun y h'' => K (.bool y) h'' := by
    apply prio_Queue_first_1_of
    refine New.cells fun h1 E1 z1 B1 => ?_
    intro J HJ
    refine ⟨_, B1.ld 0 rfl, fun c => ⟨_, B1.ld 1 rfl, _, g E1, HJ _ ?_⟩, fun c => HJ _ ?_⟩
    · have := HK h1 E1
      dsimp only at this
      rw [c, Bool.true_and] at this; exact this
    · have := HK h1 E1
      dsimp only at this
      rw [c, Bool.false_and] at this; exact this
  exact .inl ⟨_, _, _, rfl, Try.call75, CallsH.mono main fun v h'' ⟨y, hv, hR⟩ => by rw [hv]; exact hR⟩
theorem first_ok {R : Int → Heap → Prop} (T : Tr A h q l) (hl : l ≠ []) (hz : l.length < 1152921504606846970) (H : ∀ k h', Fw h h' → IsTop l k → R (k : Int) h') : prio_Queue_first r q h R := by
  apply prio_Queue_first_of
  refine New.cells fun h1 E1 z1 B1 => ⟨_, B1.ld2 0 0 rfl, sum_ok (T.fw E1) fun h2 E2 => New.cells fun h3 E3 z3 B3 => ?_⟩
  refine St.whole B3 rfl rfl fun h4 B4 o4 z4 => ?_
  have C1 := ((E2.trans E3).blk B1).other o4 (by have := E2.1; omega)
  have E4 := ((E1.trans E2).trans E3).over (by have := E1.1; have := E2.1; omega) o4 z4
  refine ⟨_, C1.ld2 0 0 rfl, find_ok (T.fw E4) (ask_first B4) rfl hz fun k h5 E5 hk f0 f1 => H k h5 (E4.trans E5) (top_of hl hk f0 f1)⟩
theorem top_ok {R : Int → Int → Bool → Heap → Prop} (T : Tr A h q l) (hz : l.length < 1152921504606846970) (H0 : l = [] → ∀ h', Fw h h' → R 0 0 false h') (H1 : ∀ k x h', Fw h h' → IsTop l k → l[k]? = some x → R x.rank x.val true h') : prio_Queue_Top r q h R := by
  apply prio_Queue_Top_of
  refine New.cells fun h1 E1 z1 B1 => New.cells fun h2 E2 z2 B2 => ⟨_, (E2.blk B1).ld 0 rfl, plen_ok (T.fw (E1.trans E2)) fun h3 E3 => ?_⟩
  have E13 := (E1.trans E2).trans E3
  have B3 := E3.blk B2
  have C3 := (E2.trans E3).blk B1
  refine ⟨fun c => ?_, fun c => ?_⟩
  · have hl : l = [] := by
      have := of_decide_eq_true c
      exact List.eq_nil_of_length_eq_zero (by omega)
    exact St.whole B3 rfl rfl fun h4 B4 o4 z4 => ⟨_, B4.ld 0 rfl, _, B4.ld 1 rfl, H0 hl h4 (E13.over E1.1 o4 z4)⟩
  · have hl : l ≠ [] := by
      have := of_decide_eq_false c
      intro e; subst e; simp at this
    refine ⟨_, C3.ld2 0 0 rfl, _, C3.ld 0 rfl, first_ok (T.fw E13) hl hz fun k h5 E5 K => ⟨(E5.blk C3).ld2 0 0 rfl, ?_⟩⟩
    obtain ⟨x, hx⟩ := K.get
    refine at_ok (T.fw (E13.trans E5)) hx hz fun h6 E6 => ?_
    exact St.whole ((E5.trans E6).blk B3) rfl rfl fun h7 B7 o7 z7 => ⟨_, B7.ld 0 rfl, _, B7.ld 1 rfl, H1 k x h7 (((E13.trans E5).trans E6).over E1.1 o7 z7) K hx⟩
theorem pop_ok {R : Int → Int → Option Addr → Bool → Heap → Prop} (T : Tr A h q l) (hz : l.length < 576460752303423485) (hA : ∀ b, h.size ≤ b → A b) (H0 : l = [] → ∀ h', Fw h h' → R 0 0 none false h')
    (H1 : ∀ k x q' h', Fw h h' → IsTop l k → l[k]? = some x → Tr A h' q' (l.take k ++ l.drop (k + 1)) → R x.rank x.val q' true h') : prio_Queue_Pop r q h R := by
  apply prio_Queue_Pop_of
  refine New.cells fun h1 E1 z1 B1 => New.cells fun h2 E2 z2 B2 => New.cells fun h3 E3 z3 B3 => ⟨_, (E3.blk (E2.blk B1)).ld 0 rfl, plen_ok (T.fw ((E1.trans E2).trans E3)) fun h4 E4 => ?_⟩
  have E14 := ((E1.trans E2).trans E3).trans E4
  have C1 := ((E2.trans E3).trans E4).blk B1
  have C2 := (E3.trans E4).blk B2
  have C3 := E4.blk B3
  have z4 := E4.1
  have hc1 : h.size ≤ h1.size := E1.1
  have hc2 : h.size ≤ h2.size := by omega
  refine ⟨fun c => ?_, fun c => ?_⟩
  · have hl : l = [] := by
      have := of_decide_eq_true c
      exact List.eq_nil_of_length_eq_zero (by omega)
    refine St.whole C2 rfl rfl fun h5 B5 o5 z5 => St.whole (C3.other o5 (by omega)) rfl rfl fun h6 B6 o6 z6 => ?_
    have D5 := B5.other o6 (by omega)
    exact ⟨_, D5.ld 0 rfl, _, D5.ld 1 rfl, _, B6.ld 0 rfl, H0 hl h6 ((E14.over hc1 o5 z5).over hc2 o6 z6)⟩
  · have hl : l ≠ [] := by
      have := of_decide_eq_false c
      intro e; subst e; simp at this
    refine ⟨_, C1.ld 0 rfl, first_ok (T.fw E14) hl (by omega) fun k h5 E5 K => ⟨_, (E5.blk C1).ld2 0 0 rfl, _, (E5.blk C1).ld2 0 0 rfl, ?_⟩⟩
    obtain ⟨x, hx⟩ := K.get
    refine at_ok (T.fw (E14.trans E5)) hx (by omega) fun h6 E6 => ⟨((E5.trans E6).blk C1).ld2 0 0 rfl, ?_⟩
    have hk := K.lt
    have e1 : w64 ((k : Int) + 1) = ((k + 1 : Nat) : Int) := by rw [w64_of] <;> omega
    rw [e1]
    have E16 := (E14.trans E5).trans E6
    have a5 := E5.1
    have a6 := E6.1
    have T6 : Tr (Bs (Bs A h1.size) h2.size) h6 q l := T.to (To.old E16 fun b hb hl => ⟨⟨hb, by omega⟩, by omega⟩)
    refine cut_ok T6 (by omega) (by omega) hz (fun b hb => ⟨⟨hA b (by omega), by omega⟩, by omega⟩) fun q' h7 E7 T7 => ?_
    have a7 := E7.1
    refine St.whole (((E5.trans E6).trans E7).blk C2) rfl rfl fun h8 B8 o8 z8 => St.whole ((((E5.trans E6).trans E7).blk C3).other o8 (by omega)) rfl rfl fun h9 B9 o9 z9 => ?_
    have D8 := B8.other o9 (by omega)
    refine ⟨_, D8.ld 0 rfl, _, D8.ld 1 rfl, _, B9.ld 0 rfl, H1 k x q' h9 (((E16.trans E7).over hc1 o8 z8).over hc2 o9 z9) K hx ?_⟩
    exact ((T7.to (To.over (fun e => e.1.2 rfl) o8 z8)).to (To.over (fun e => e.2 rfl) o9 z9)).weak fun b hb => hb.1.1
theorem ranked_ok {R : Bool → Heap → Prop} (H : ∀ h', Fw h h' → R true h') : law3_ranked r h R := by
  apply law3_ranked_of
  refine New.cells fun h1 E1 z1 B1 => ⟨_, B1.ld 0 rfl, ?_⟩
  refine push_ok (A := Any) (v := ⟨1, 5⟩) (Tr.nil _ _) (by decide) any fun q2 h2 E2 T2 => ?_
  refine push_ok (A := Any) (v := ⟨2, 3⟩) T2 (by decide) any fun q3 h3 E3 T3 => ?_
  have E13 := (E1.trans E2).trans E3
  refine top_ok T3 (by decide) (fun c => by cases c) fun k x h4 E4 K hx => ?_
  have ek : k = 1 := K.uniq ⟨by decide, fun i y x hy hx => ?_, fun i y x hi hy hx => ?_⟩
  · subst ek
    injection hx with hx
    subst hx
    refine New.cells fun h5 E5 z5 B5 => St.whole B5 rfl rfl fun h6 B6 o6 z6 => ?_
    intro J HJ
    refine ⟨fun _ => ⟨_, B6.ld 1 rfl, HJ _ (H h6 (((E13.trans E4).trans E5).over (by have := (E13.trans E4).1; omega) o6 z6))⟩, fun c => by cases c⟩
  · injection hx with hx
    subst hx
    match i, hy with
    | 0, hy => injection hy with hy; subst hy; decide
    | 1, hy => injection hy with hy; subst hy; decide
    | i + 2, hy => cases hy
  · injection hx with hx
    subst hx
    obtain rfl : i = 0 := by omega
    injection hy with hy; subst hy; decide
end
end Go.Proofs.Ytikccpmhoioaeaa.Pr
