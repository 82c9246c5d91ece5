/- A set of numbers, a tree with nearly even weights: what the functions do. -/
import Derived.Test.YthkimbiknhebeaaGreatDoorGWbt
import Derived.Test.YthkimbiknhebeaaGreatDoorTwB
namespace Go.Proofs.YthkimbiknhebeaaGreatDoor.Wb
open Go Go.RowKit Go.Tw Go.Many
set_option linter.unusedVariables false
/-- a tree in memory; its blocks are of A -/
def Nd (A : Nat → Prop) (h : Heap) : B Int → Option Addr → Prop
  | .nil, q => q = none
  | .node l v u, q => ∃ c ql qr, q = some (ad c 0) ∧ A c ∧ Blk h c [iV v, iV ((l.l ++ v :: u.l).length : Int), .pointer ql, .pointer qr] ∧ Nd A h l ql ∧ Nd A h u qr
section
variable {A A' : Nat → Prop} {r : World} {h h' : Heap} {q : Option Addr}
theorem Nd.to (S : To A A' h h') : ∀ {t : B Int} {q : Option Addr}, Nd A h t q → Nd A' h' t q
  | .nil, q, e => e
  | .node l v u, q, ⟨c, ql, qr, e, a, H, L, U⟩ => ⟨c, ql, qr, e, (S.2 c a (isC_blk H)).2, S.blk a H, L.to S, U.to S⟩
theorem Nd.fw {t : B Int} (L : Nd A h t q) (E : Fw h h') : Nd A h' t q := L.to (To.fw E)
theorem size_ok {t : B Int} {R : Int → Heap → Prop} (L : Nd A h t q) (H : R (t.l.length : Int) h) : wbt_node_size r q h R := by
  apply wbt_node_size_of
  cases t with
  | nil => have e : q = none := L
           subst e; exact ⟨fun _ => H, fun c => by cases c⟩
  | node l v u => obtain ⟨c, ql, qr, rfl, a, Bk, _, _⟩ := L
                  exact ⟨fun c => (by cases c), fun _ => ⟨_, rfl, _, Bk.ld 1 rfl, H⟩⟩
theorem weight_ok {t : B Int} {R : Int → Heap → Prop} (L : Nd A h t q) (hz : t.l.length < 1152921504606846970) (H : R ((t.l.length + 1 : Nat) : Int) h) : wbt_node_weight r q h R := by
  apply wbt_node_weight_of
  refine size_ok L ?_
  rw [w64_of (by omega) (by omega)]; exact H
theorem heavy_ok {t u : B Int} {q2 : Option Addr} {R : Bool → Heap → Prop} (L : Nd A h t q) (U : Nd A h u q2) (hz : t.l.length < 1152921504606846970) (hz2 : u.l.length < 1152921504606846970) (H : R (decide (3 * (u.l.length + 1) < t.l.length + 1)) h) : wbt_heavy r q q2 h R := by
  apply wbt_heavy_of
  refine weight_ok L hz (weight_ok U hz2 ?_)
  have e : decide (w64 (3 * ((u.l.length + 1 : Nat) : Int)) < ((t.l.length + 1 : Nat) : Int)) = decide (3 * (u.l.length + 1) < t.l.length + 1) := by
    rw [w64_of (by omega) (by omega)]
    apply decide_eq_decide.2; omega
  rw [e]; exact H
theorem made_ok {l u : B Int} {v : Int} {ql qr : Option Addr} {R : Option Addr → Heap → Prop} (L : Nd A h l ql) (U : Nd A h u qr) (hz : l.l.length + u.l.length < 1152921504606846970) (hA : ∀ b, h.size ≤ b → A b)
    (H : ∀ q h', Fw h h' → Nd A h' (.node l v u) q → R q h') : wbt_made r ql v qr h R := by
  apply wbt_made_of
  have e1 : w64 (w64 (1 + (l.l.length : Int)) + (u.l.length : Int)) = ((l.l ++ v :: u.l).length : Int) := by
    rw [w64_of (n := 1 + (l.l.length : Int)) (by omega) (by omega), w64_of (by omega) (by omega)]; simp; omega
  refine size_ok L (size_ok U ?_)
  rw [e1]
  exact New.cells fun h9 E9 z9 B9 => H _ _ E9 ⟨_, ql, qr, rfl, hA _ (Nat.le_refl _), B9, L.fw E9, U.fw E9⟩
theorem turnL_ok {l u : B Int} {v : Int} {ql qr : Option Addr} {R : Option Addr → Heap → Prop} (L : Nd A h l ql) (U : Nd A h u qr) (hw : 3 * (l.l.length + 1) < u.l.length + 1) (hz : l.l.length + u.l.length < 1152921504606846970) (hA : ∀ b, h.size ≤ b → A b)
    (H : ∀ w q h', Fw h h' → w.l = l.l ++ v :: u.l → Nd A h' w q → R q h') : wbt_turnLeft r ql v qr h R := by
  apply wbt_turnLeft_of
  cases u with
  | nil => simp [B.l] at hw
  | node a x b =>
    have hu : (B.node a x b).l.length = a.l.length + (b.l.length + 1) := by simp [B.l]
    obtain ⟨c, qa, qb, rfl, hc, Bk, La, Lb⟩ := U
    refine ⟨_, rfl, _, Bk.ld 2 rfl, _, rfl, _, Bk.ld 3 rfl, weight_ok La (by omega) ⟨Bk.ld 3 rfl, weight_ok Lb (by omega) ⟨fun _ => ?_, fun c2 => ?_⟩⟩⟩
    · refine ⟨_, rfl, _, Bk.ld 2 rfl, _, rfl, _, Bk.ld 0 rfl, _, rfl, _, Bk.ld 3 rfl, made_ok L La (by omega) hA fun y h2 E2 M => ?_⟩
      have Bk2 := E2.blk Bk
      have hl : (B.node l v a).l.length = l.l.length + (a.l.length + 1) := by simp [B.l]
      refine ⟨Bk2.ld 3 rfl, Bk2.ld 0 rfl, made_ok M (Lb.fw E2) (by omega) (fun b hb => hA b (by have := E2.1; omega)) fun y3 h3 E3 M3 => H _ _ h3 (E2.trans E3) ?_ M3⟩
      simp [B.l]
    · have c2 := of_decide_eq_false c2
      rw [w64_of (by omega) (by omega)] at c2
      cases a with
      | nil => simp [B.l] at c2; omega
      | node a1 y a2 =>
        obtain ⟨c', q1, q2, rfl, hc', Bk', L1, L2⟩ := La
        have ha : (B.node a1 y a2).l.length = a1.l.length + (a2.l.length + 1) := by simp [B.l]
        refine ⟨_, rfl, _, Bk.ld 2 rfl, _, rfl, _, Bk'.ld 2 rfl, _, rfl, _, Bk'.ld 0 rfl, _, rfl, _, Bk'.ld 3 rfl, _, rfl, _, Bk.ld 0 rfl, _, rfl, _, Bk.ld 3 rfl, ?_⟩
        refine made_ok L L1 (by omega) hA fun y5 h5 E5 M5 => ?_
        have hA5 : ∀ b, h5.size ≤ b → A b := fun b hb => hA b (by have := E5.1; omega)
        have K5 := E5.blk Bk
        have K5' := E5.blk Bk'
        refine ⟨K5.ld 3 rfl, K5.ld 0 rfl, K5'.ld 3 rfl, K5'.ld 0 rfl, made_ok (L2.fw E5) (Lb.fw E5) (by omega) hA5 fun y6 h6 E6 M6 => ?_⟩
        have K6' := E6.blk K5'
        have hl5 : (B.node l v a1).l.length = l.l.length + (a1.l.length + 1) := by simp [B.l]
        have hl6 : (B.node a2 x b).l.length = a2.l.length + (b.l.length + 1) := by simp [B.l]
        refine ⟨K6'.ld 0 rfl, made_ok (M5.fw E6) M6 (by omega) (fun b hb => hA5 b (by have := E6.1; omega)) fun y7 h7 E7 M7 => H _ _ h7 ((E5.trans E6).trans E7) ?_ M7⟩
        simp [B.l]
theorem turnR_ok {l u : B Int} {v : Int} {ql qr : Option Addr} {R : Option Addr → Heap → Prop} (L : Nd A h l ql) (U : Nd A h u qr) (hw : 3 * (u.l.length + 1) < l.l.length + 1) (hz : l.l.length + u.l.length < 1152921504606846970) (hA : ∀ b, h.size ≤ b → A b)
    (H : ∀ w q h', Fw h h' → w.l = l.l ++ v :: u.l → Nd A h' w q → R q h') : wbt_turnRight r ql v qr h R := by
  apply wbt_turnRight_of
  cases l with
  | nil => simp [B.l] at hw
  | node a x b =>
    have hu : (B.node a x b).l.length = a.l.length + (b.l.length + 1) := by simp [B.l]
    obtain ⟨c, qa, qb, rfl, hc, Bk, La, Lb⟩ := L
    refine ⟨_, rfl, _, Bk.ld 3 rfl, _, rfl, _, Bk.ld 2 rfl, weight_ok Lb (by omega) ⟨Bk.ld 2 rfl, weight_ok La (by omega) ⟨fun _ => ?_, fun c2 => ?_⟩⟩⟩
    · refine ⟨_, rfl, _, Bk.ld 2 rfl, _, rfl, _, Bk.ld 0 rfl, _, rfl, _, Bk.ld 3 rfl, made_ok Lb U (by omega) hA fun y h2 E2 M => ?_⟩
      have Bk2 := E2.blk Bk
      have hl : (B.node b v u).l.length = b.l.length + (u.l.length + 1) := by simp [B.l]
      refine ⟨Bk2.ld 0 rfl, Bk2.ld 2 rfl, made_ok (La.fw E2) M (by omega) (fun b hb => hA b (by have := E2.1; omega)) fun y3 h3 E3 M3 => H _ _ h3 (E2.trans E3) ?_ M3⟩
      simp [B.l]
    · have c2 := of_decide_eq_false c2
      rw [w64_of (by omega) (by omega)] at c2
      cases b with
      | nil => simp [B.l] at c2; omega
      | node b1 y b2 =>
        obtain ⟨c', q1, q2, rfl, hc', Bk', L1, L2⟩ := Lb
        have ha : (B.node b1 y b2).l.length = b1.l.length + (b2.l.length + 1) := by simp [B.l]
        refine ⟨_, rfl, _, Bk.ld 3 rfl, _, rfl, _, Bk.ld 2 rfl, _, rfl, _, Bk.ld 0 rfl, _, rfl, _, Bk'.ld 2 rfl, _, rfl, _, Bk'.ld 0 rfl, _, rfl, _, Bk'.ld 3 rfl, ?_⟩
        refine made_ok La L1 (by omega) hA fun y5 h5 E5 M5 => ?_
        have hA5 : ∀ b, h5.size ≤ b → A b := fun b hb => hA b (by have := E5.1; omega)
        have K5' := E5.blk Bk'
        refine ⟨K5'.ld 3 rfl, K5'.ld 0 rfl, made_ok (L2.fw E5) (U.fw E5) (by omega) hA5 fun y6 h6 E6 M6 => ?_⟩
        have K6' := E6.blk K5'
        have hl5 : (B.node a x b1).l.length = a.l.length + (b1.l.length + 1) := by simp [B.l]
        have hl6 : (B.node b2 v u).l.length = b2.l.length + (u.l.length + 1) := by simp [B.l]
        refine ⟨K6'.ld 0 rfl, made_ok (M5.fw E6) M6 (by omega) (fun b hb => hA5 b (by have := E6.1; omega)) fun y7 h7 E7 M7 => H _ _ h7 ((E5.trans E6).trans E7) ?_ M7⟩
        simp [B.l]
theorem even_ok {l u : B Int} {v : Int} {ql qr : Option Addr} {R : Option Addr → Heap → Prop} (L : Nd A h l ql) (U : Nd A h u qr) (hz : l.l.length + u.l.length < 1152921504606846970) (hA : ∀ b, h.size ≤ b → A b)
    (H : ∀ w q h', Fw h h' → w.l = l.l ++ v :: u.l → Nd A h' w q → R q h') : wbt_even r ql v qr h R := by
  apply wbt_even_of
  exact heavy_ok U L (by omega) (by omega) ⟨fun c => turnL_ok L U (of_decide_eq_true c) hz hA H, fun _ => heavy_ok L U (by omega) (by omega) ⟨fun c => turnR_ok L U (of_decide_eq_true c) hz hA H, fun _ => made_ok L U hz hA fun q h' E M => H _ q h' E rfl M⟩⟩
theorem link_ok : ∀ (n : Nat) (l u : B Int) (v : Int) (ql qr : Option Addr) (h : Heap) (R : Option Addr → Heap → Prop), l.l.length + u.l.length = n → Nd A h l ql → Nd A h u qr → l.l.length + u.l.length < 1152921504606846970 → (∀ b, h.size ≤ b → A b) →
    (∀ w q h', Fw h h' → w.l = l.l ++ v :: u.l → Nd A h' w q → R q h') → wbt_link r ql v qr h R := by
  intro n
  induction n using Nat.strongRecOn with
  | _ n ih =>
    intro l u v ql qr h R hn L U hz hA H
    apply wbt_link_of
    refine heavy_ok U L (by omega) (by omega) ⟨fun c => ?_, fun _ => heavy_ok L U (by omega) (by omega) ⟨fun c => ?_, fun _ => made_ok L U (by omega) hA fun q h' E M => H _ q h' E rfl M⟩⟩
    · have hw := of_decide_eq_true c
      cases u with
      | nil => simp [B.l] at hw
      | node a x b =>
        have hu : (B.node a x b).l.length = a.l.length + (b.l.length + 1) := by simp [B.l]
        obtain ⟨c, qa, qb, rfl, hc, Bk, La, Lb⟩ := U
        refine ⟨_, rfl, _, Bk.ld 2 rfl, _, rfl, _, Bk.ld 0 rfl, _, rfl, _, Bk.ld 3 rfl, ?_⟩
        refine ih (l.l.length + a.l.length) (by omega) l a v ql qa h _ rfl L La (by omega) hA fun w q2 h2 E2 ew M => ?_
        have Bk2 := E2.blk Bk
        have hwl : w.l.length = l.l.length + (a.l.length + 1) := by rw [ew]; simp
        refine ⟨Bk2.ld 3 rfl, Bk2.ld 0 rfl, even_ok M (Lb.fw E2) (by omega) (fun b hb => hA b (by have := E2.1; omega)) fun w' q' h' E' ew' M' => H w' q' h' (E2.trans E') ?_ M'⟩
        rw [ew', ew]; simp [B.l]
    · have hw := of_decide_eq_true c
      cases l with
      | nil => simp [B.l] at hw
      | node a x b =>
        have hu : (B.node a x b).l.length = a.l.length + (b.l.length + 1) := by simp [B.l]
        obtain ⟨c, qa, qb, rfl, hc, Bk, La, Lb⟩ := L
        refine ⟨_, rfl, _, Bk.ld 2 rfl, _, rfl, _, Bk.ld 0 rfl, _, rfl, _, Bk.ld 3 rfl, ?_⟩
        refine ih (b.l.length + u.l.length) (by omega) b u v qb qr h _ rfl Lb U (by omega) hA fun w q2 h2 E2 ew M => ?_
        have Bk2 := E2.blk Bk
        have hwl : w.l.length = b.l.length + (u.l.length + 1) := by rw [ew]; simp
        refine ⟨Bk2.ld 0 rfl, Bk2.ld 2 rfl, even_ok (La.fw E2) M (by omega) (fun b hb => hA b (by have := E2.1; omega)) fun w' q' h' E' ew' M' => H w' q' h' (E2.trans E') ?_ M'⟩
        rw [ew', ew]; simp [B.l]
theorem first_ok : ∀ (t : B Int) (x : Int) (l : List Int) (q : Option Addr) (h : Heap) (R : Int → Option Addr → Heap → Prop), t.l = x :: l → Nd A h t q → t.l.length < 1152921504606846970 → (∀ b, h.size ≤ b → A b) →
    (∀ w q' h', Fw h h' → w.l = l → Nd A h' w q' → R x q' h') → wbt_node_first r q h R
  | .nil, x, l, q, h, R, e, _, _, _, _ => by cases e
  | .node a y b, x, l, q, h, R, e, L, hz, hA, H => by
    obtain ⟨c, qa, qb, rfl, hc, Bk, La, Lb⟩ := L
    have hu : (B.node a y b).l.length = a.l.length + (b.l.length + 1) := by simp [B.l]
    have e : a.l ++ y :: b.l = x :: l := e
    apply wbt_node_first_of
    refine ⟨_, rfl, _, Bk.ld 2 rfl, ?_⟩
    cases a with
    | nil =>
      have e0 : qa = none := La
      subst e0
      have e : y :: b.l = x :: l := e
      injection e with e1 e2
      subst e1
      exact ⟨fun _ => ⟨_, rfl, _, Bk.ld 0 rfl, _, rfl, _, Bk.ld 3 rfl, H b qb h (Fw.refl h) e2 Lb⟩, fun c => by cases c⟩
    | node a1 z a2 =>
      obtain ⟨m, hm⟩ : ∃ m, (B.node a1 z a2).l = x :: m := by
        cases hh : (B.node a1 z a2).l with
        | nil => simp [B.l] at hh
        | cons p m => rw [hh] at e; injection e with e1 e2; subst e1; exact ⟨m, rfl⟩
      have hq : Option.isNone qa = false := by obtain ⟨c', _, _, rfl, _⟩ := La; rfl
      have e2 : m ++ y :: b.l = l := by rw [hm] at e; injection e with _ e2
      have hml := congrArg List.length hm
      simp only [List.length_cons] at hml
      refine ⟨fun c => (by rw [hq] at c; cases c), fun _ => ⟨_, rfl, _, Bk.ld 2 rfl, ?_⟩⟩
      refine first_ok (.node a1 z a2) x m qa h _ hm La (by omega) hA fun w q' h1 E1 ew M => ?_
      have Bk1 := E1.blk Bk
      refine ⟨_, rfl, _, Bk1.ld 0 rfl, _, rfl, _, Bk1.ld 3 rfl, even_ok M (Lb.fw E1) (by rw [ew]; omega) (fun b hb => hA b (by have := E1.1; omega)) fun w' q2 h2 E2 ew' M' => H w' q2 h2 (E1.trans E2) ?_ M'⟩
      rw [ew', ew, e2]
theorem joined_ok {l u : B Int} {ql qr : Option Addr} {R : Option Addr → Heap → Prop} (L : Nd A h l ql) (U : Nd A h u qr) (hz : l.l.length + u.l.length < 1152921504606846970) (hA : ∀ b, h.size ≤ b → A b)
    (H : ∀ w q h', Fw h h' → w.l = l.l ++ u.l → Nd A h' w q → R q h') : wbt_joined r ql qr h R := by
  apply wbt_joined_of
  cases hu : u.l with
  | nil =>
    have e := l_nil hu
    subst e
    have e0 : qr = none := U
    subst e0
    exact ⟨fun _ => H l ql h (Fw.refl h) (by simp [B.l]) L, fun c => by cases c⟩
  | cons x m =>
    have hq : Option.isNone qr = false := by
      cases u with
      | nil => cases hu
      | node a y b => obtain ⟨c', _, _, rfl, _⟩ := U; rfl
    have hul := congrArg List.length hu
    simp only [List.length_cons] at hul
    refine ⟨fun c => (by rw [hq] at c; cases c), fun _ => first_ok u x m qr h _ hu U (by omega) hA fun w q' h1 E1 ew M => ?_⟩
    refine link_ok _ l w x ql q' h1 _ rfl (L.fw E1) M (by rw [ew]; omega) (fun b hb => hA b (by have := E1.1; omega)) fun w' q2 h2 E2 ew' M' => H w' q2 h2 (E1.trans E2) ?_ M'
    rw [ew', ew, hu]
/-- the numbers rise -/
abbrev Ri (l : List Int) : Prop := l.Pairwise (· < ·)
theorem ri_node {l u : List Int} {v : Int} (h : Ri (l ++ v :: u)) : Ri l ∧ Ri u ∧ (∀ y ∈ l, y < v) ∧ (∀ y ∈ u, v < y) := by
  obtain ⟨h1, h2, h3⟩ := List.pairwise_append.1 h
  obtain ⟨h4, h5⟩ := List.pairwise_cons.1 h2
  exact ⟨h1, h5, fun y hy => h3 y hy v (List.mem_cons_self ..), h4⟩
def lo (x : Int) (l : List Int) : List Int := l.filter fun y => decide (y < x)
def hi (x : Int) (l : List Int) : List Int := l.filter fun y => decide (x < y)
theorem lo_all {x : Int} {l : List Int} (h : ∀ y ∈ l, y < x) : lo x l = l := List.filter_eq_self.2 fun y hy => decide_eq_true (h y hy)
theorem lo_none {x : Int} {l : List Int} (h : ∀ y ∈ l, x ≤ y) : lo x l = [] := List.filter_eq_nil_iff.2 fun y hy => by have := h y hy; simp; omega
theorem hi_all {x : Int} {l : List Int} (h : ∀ y ∈ l, x < y) : hi x l = l := List.filter_eq_self.2 fun y hy => decide_eq_true (h y hy)
theorem hi_none {x : Int} {l : List Int} (h : ∀ y ∈ l, y ≤ x) : hi x l = [] := List.filter_eq_nil_iff.2 fun y hy => by have := h y hy; simp; omega
theorem lo_len (x : Int) (l : List Int) : (lo x l).length ≤ l.length := List.length_filter_le ..
theorem hi_len (x : Int) (l : List Int) : (hi x l).length ≤ l.length := List.length_filter_le ..
theorem lo_node (x : Int) (l u : List Int) (v : Int) : lo x (l ++ v :: u) = lo x l ++ (if v < x then v :: lo x u else lo x u) := by
  unfold lo; rw [List.filter_append, List.filter_cons]; simp
theorem hi_node (x : Int) (l u : List Int) (v : Int) : hi x (l ++ v :: u) = hi x l ++ (if x < v then v :: hi x u else hi x u) := by
  unfold hi; rw [List.filter_append, List.filter_cons]; simp
theorem split_ok : ∀ (t : B Int) (x : Int) (q : Option Addr) (h : Heap) (R : Option Addr → Bool → Option Addr → Heap → Prop), Nd A h t q → Ri t.l → t.l.length < 1152921504606846970 → (∀ b, h.size ≤ b → A b) →
    (∀ a b qa qb y h', Fw h h' → a.l = lo x t.l → b.l = hi x t.l → Nd A h' a qa → Nd A h' b qb → R qa y qb h') → wbt_node_split r q x h R
  | .nil, x, q, h, R, L, hr, hz, hA, H => by
    have e : q = none := L
    subst e
    apply wbt_node_split_of
    exact ⟨fun _ => H .nil .nil none none false h (Fw.refl h) rfl rfl rfl rfl, fun c => by cases c⟩
  | .node l v u, x, q, h, R, L, hr, hz, hA, H => by
    obtain ⟨c, ql, qr, rfl, hc, Bk, La, Lu⟩ := L
    have hu : (B.node l v u).l.length = l.l.length + (u.l.length + 1) := by simp [B.l]
    obtain ⟨r1, r2, r3, r4⟩ := ri_node hr
    apply wbt_node_split_of
    refine ⟨fun c => (by cases c), fun _ => ⟨_, rfl, _, Bk.ld 0 rfl, fun c => ?_, fun c => ⟨_, rfl, _, Bk.ld 0 rfl, fun c2 => ?_, fun c2 => ?_⟩⟩⟩
    · have c := of_decide_eq_true c
      refine ⟨_, rfl, _, Bk.ld 2 rfl, split_ok l x ql h _ La r1 (by omega) hA fun a b qa qb y h1 E1 ea eb Ma Mb => ?_⟩
      have Bk1 := E1.blk Bk
      have := hi_len x l.l
      refine ⟨_, rfl, _, Bk1.ld 0 rfl, _, rfl, _, Bk1.ld 3 rfl, link_ok _ b u v qb qr h1 _ rfl Mb (Lu.fw E1) (by rw [eb]; omega) (fun b hb => hA b (by have := E1.1; omega)) fun w q2 h2 E2 ew M => H a w qa q2 y h2 (E1.trans E2) ?_ ?_ (Ma.fw E2) M⟩
      · rw [ea]
        show _ = lo x (l.l ++ v :: u.l)
        rw [lo_node, if_neg (by omega), lo_none (l := u.l) fun y hy => by have := r4 y hy; omega, List.append_nil]
      · rw [ew, eb]
        show _ = hi x (l.l ++ v :: u.l)
        rw [hi_node, if_pos c, hi_all (l := u.l) fun y hy => by have := r4 y hy; omega]
    · have c2 := of_decide_eq_true c2
      refine ⟨_, rfl, _, Bk.ld 3 rfl, split_ok u x qr h _ Lu r2 (by omega) hA fun a b qa qb y h1 E1 ea eb Ma Mb => ?_⟩
      have Bk1 := E1.blk Bk
      have := lo_len x u.l
      refine ⟨_, rfl, _, Bk1.ld 2 rfl, _, rfl, _, Bk1.ld 0 rfl, link_ok _ l a v ql qa h1 _ rfl (La.fw E1) Ma (by rw [ea]; omega) (fun b hb => hA b (by have := E1.1; omega)) fun w q2 h2 E2 ew M => H w b q2 qb y h2 (E1.trans E2) ?_ ?_ M (Mb.fw E2)⟩
      · rw [ew, ea]
        show _ = lo x (l.l ++ v :: u.l)
        rw [lo_node, if_pos c2, lo_all (l := l.l) fun y hy => by have := r3 y hy; omega]
      · rw [eb]
        show _ = hi x (l.l ++ v :: u.l)
        rw [hi_node, if_neg (by omega), hi_none (l := l.l) fun y hy => by have := r3 y hy; omega, List.nil_append]
    · have c := of_decide_eq_false c
      have c2 := of_decide_eq_false c2
      obtain rfl : x = v := by omega
      refine ⟨_, rfl, _, Bk.ld 2 rfl, _, rfl, _, Bk.ld 3 rfl, H l u ql qr true h (Fw.refl h) ?_ ?_ La Lu⟩
      · show _ = lo x (l.l ++ x :: u.l)
        rw [lo_node, if_neg (by omega), lo_all r3, lo_none (l := u.l) fun y hy => by have := r4 y hy; omega, List.append_nil]
      · show _ = hi x (l.l ++ x :: u.l)
        rw [hi_node, if_neg (by omega), hi_none (l := l.l) (fun y hy => by have := r3 y hy; omega), hi_all r4, List.nil_append]
/-- a tree of these -/
def Tr (A : Nat → Prop) (h : Heap) (q : Option Addr) (l : List Int) : Prop := ∃ t : B Int, t.l = l ∧ Nd A h t q
theorem Tr.to {l : List Int} (S : To A A' h h') (T : Tr A h q l) : Tr A' h' q l := by obtain ⟨t, a, b⟩ := T; exact ⟨t, a, b.to S⟩
theorem Tr.fw {l : List Int} (T : Tr A h q l) (E : Fw h h') : Tr A h' q l := T.to (To.fw E)
theorem Tr.nil (A : Nat → Prop) (h : Heap) : Tr A h none [] := ⟨.nil, rfl, rfl⟩
theorem Tr.weak {l : List Int} (hw : ∀ b, A b → A' b) (T : Tr A h q l) : Tr A' h q l := T.to (To.weak hw h)
theorem wlen_ok {l : List Int} {R : Int → Heap → Prop} (T : Tr A h q l) (H : ∀ h', Fw h h' → R (l.length : Int) h') : wbt_Set_Len r q h R := by
  apply wbt_Set_Len_of
  obtain ⟨t, rfl, L⟩ := T
  exact New.cells fun h1 E1 z1 B1 => ⟨_, B1.ld 0 rfl, size_ok (L.fw E1) (H h1 E1)⟩
theorem wput_ok {l : List Int} {x : Int} {R : Option Addr → Heap → Prop} (T : Tr A h q l) (hr : Ri l) (hz : 2 * l.length < 1152921504606846970) (hA : ∀ b, h.size ≤ b → A b)
    (H : ∀ q' h', Fw h h' → Tr A h' q' (lo x l ++ x :: hi x l) → R q' h') : wbt_Set_Put r q x h R := by
  apply wbt_Set_Put_of
  obtain ⟨t, rfl, L⟩ := T
  refine New.cells fun h1 E1 z1 B1 => New.cells fun h2 E2 z2 B2 => ⟨_, (E2.blk B1).ld 0 rfl, ?_⟩
  have E := E1.trans E2
  have hA2 : ∀ b, h2.size ≤ b → Bs A h1.size b := fun b hb => ⟨hA b (by have := E.1; omega), by have := B2.lt; omega⟩
  have L2 : Nd (Bs A h1.size) h2 t q := L.to (To.old E fun b hb hl => ⟨hb, by have := E1.1; omega⟩)
  refine split_ok t x q h2 _ L2 hr (by omega) hA2 fun a b qa qb y h3 E3 ea eb Ma Mb => ?_
  have := lo_len x t.l
  have := hi_len x t.l
  refine link_ok _ a b x qa qb h3 _ rfl Ma Mb (by rw [ea, eb]; omega) (fun b hb => hA2 b (by have := E3.1; omega)) fun w q2 h4 E4 ew M => ?_
  refine St.whole ((E3.trans E4).blk B2) rfl rfl fun h5 B5 o5 z5 => ⟨_, B5.ld 0 rfl, H q2 h5 (((E.trans E3).trans E4).over E1.1 o5 z5) ⟨w, by rw [ew, ea, eb], ?_⟩⟩
  exact (M.to (To.over (fun e => e.2 rfl) o5 z5)).to (To.weak (fun b hb => hb.1) h5)
theorem wdrop_ok {l : List Int} {x : Int} {R : Option Addr → Heap → Prop} (T : Tr A h q l) (hr : Ri l) (hz : 2 * l.length < 1152921504606846970) (hA : ∀ b, h.size ≤ b → A b)
    (H : ∀ q' h', Fw h h' → Tr A h' q' (lo x l ++ hi x l) → R q' h') : wbt_Set_Drop r q x h R := by
  apply wbt_Set_Drop_of
  obtain ⟨t, rfl, L⟩ := T
  refine New.cells fun h1 E1 z1 B1 => New.cells fun h2 E2 z2 B2 => ⟨_, (E2.blk B1).ld 0 rfl, ?_⟩
  have E := E1.trans E2
  have hA2 : ∀ b, h2.size ≤ b → Bs A h1.size b := fun b hb => ⟨hA b (by have := E.1; omega), by have := B2.lt; omega⟩
  have L2 : Nd (Bs A h1.size) h2 t q := L.to (To.old E fun b hb hl => ⟨hb, by have := E1.1; omega⟩)
  refine split_ok t x q h2 _ L2 hr (by omega) hA2 fun a b qa qb y h3 E3 ea eb Ma Mb => ?_
  have := lo_len x t.l
  have := hi_len x t.l
  refine joined_ok Ma Mb (by rw [ea, eb]; omega) (fun b hb => hA2 b (by have := E3.1; omega)) fun w q2 h4 E4 ew M => ?_
  refine St.whole ((E3.trans E4).blk B2) rfl rfl fun h5 B5 o5 z5 => ⟨_, B5.ld 0 rfl, H q2 h5 (((E.trans E3).trans E4).over E1.1 o5 z5) ⟨w, by rw [ew, ea, eb], ?_⟩⟩
  exact (M.to (To.over (fun e => e.2 rfl) o5 z5)).to (To.weak (fun b hb => hb.1) h5)
theorem wrank_ok {l : List Int} {x : Int} {R : Int → Heap → Prop} (T : Tr A h q l) (hr : Ri l) (hz : 2 * l.length < 1152921504606846970) (H : ∀ h', Fw h h' → R ((lo x l).length : Int) h') : wbt_Set_Rank r q x h R := by
  apply wbt_Set_Rank_of
  obtain ⟨t, rfl, L⟩ := T
  refine New.cells fun h1 E1 z1 B1 => ⟨_, B1.ld 0 rfl, ?_⟩
  have L := L.fw E1
  have H := H h1 E1
  intro X HX
  have key : ∀ (u : B Int) (q : Option Addr) (n : Nat), Nd A h1 u q → Ri u.l → n + u.l.length ≤ t.l.length → n + (lo x u.l).length = (lo x t.l).length → X (n : Int) q h1 := by
    intro u
    induction u with
    | nil =>
      intro q n Lu _ _ e
      have e0 : q = none := Lu
      subst e0
      have e : n = (lo x t.l).length := by simpa [B.l, lo] using e
      subst e
      exact HX _ _ _ ⟨fun c => (by cases c), fun _ => H⟩
    | node a v b iha ihb =>
      intro q n Lu hru hn e
      obtain ⟨c, qa, qb, rfl, hc, Bk, La, Lb⟩ := Lu
      obtain ⟨r1, r2, r3, r4⟩ := ri_node hru
      have hu : (B.node a v b).l.length = a.l.length + (b.l.length + 1) := by simp [B.l]
      have e : n + (lo x (a.l ++ v :: b.l)).length = (lo x t.l).length := e
      rw [lo_node] at e
      refine HX _ _ _ ⟨fun _ => ⟨_, rfl, _, Bk.ld 0 rfl, fun c => ⟨_, rfl, _, Bk.ld 2 rfl, ?_⟩, fun c => ⟨_, rfl, _, Bk.ld 2 rfl, weight_ok La (by omega) ⟨_, rfl, _, Bk.ld 3 rfl, ?_⟩⟩⟩, fun c => by cases c⟩
      · have c := of_decide_eq_true c
        rw [if_neg (by omega), lo_none (l := b.l) (fun y hy => by have := r4 y hy; omega), List.append_nil] at e
        exact iha qa n La r1 (by omega) e
      · have c := of_decide_eq_false c
        rw [if_pos (by omega), lo_all (l := a.l) (fun y hy => by have := r3 y hy; omega)] at e
        simp only [List.length_append, List.length_cons] at e
        have := ihb qb (n + a.l.length + 1) Lb r2 (by omega) (by omega)
        rw [w64_of (by omega) (by omega)]
        rw [show (n : Int) + ((a.l.length + 1 : Nat) : Int) = ((n + a.l.length + 1 : Nat) : Int) by omega]
        exact this
  have := key t q 0 L hr (by omega) (by omega)
  exact this
theorem wat_ok {l : List Int} {i : Nat} {R : Int → Bool → Heap → Prop} (T : Tr A h q l) (hz : 2 * l.length < 1152921504606846970) (hi : i < l.length) (H : ∀ h', Fw h h' → R l[i] true h') : wbt_Set_At r q (i : Int) h R := by
  apply wbt_Set_At_of
  refine New.cells fun h1 E1 z1 B1 => ?_
  have T1 := T.fw E1
  intro J HJ
  refine ⟨fun c => absurd (of_decide_eq_true c) (by omega), fun _ => ⟨_, B1.ld 0 rfl, wlen_ok T1 fun h2 E2 => ?_⟩⟩
  rw [decide_eq_false (by omega)]
  refine HJ _ _ ⟨fun c => (by cases c), fun _ => ⟨_, (E2.blk B1).ld 0 rfl, ?_⟩⟩
  have H := H h2 (E1.trans E2)
  obtain ⟨t, rfl, L⟩ := T1.fw E2
  intro X HX
  have key : ∀ (u : B Int) (q : Option Addr) (k : Nat), Nd A h2 u q → u.l.length ≤ t.l.length → u.l[k]? = some (t.l[i]) → X (k : Int) q h2 := by
    intro u
    induction u with
    | nil => intro q k _ _ e; simp [B.l] at e
    | node a v b iha ihb =>
      intro q k Lu hn e
      obtain ⟨c, qa, qb, rfl, hc, Bk, La, Lb⟩ := Lu
      have hu : (B.node a v b).l.length = a.l.length + (b.l.length + 1) := by simp [B.l]
      have hk := (List.getElem?_eq_some_iff.1 e).1
      have e : (a.l ++ v :: b.l)[k]? = some (t.l[i]) := e
      refine HX _ _ _ ⟨_, rfl, _, Bk.ld 2 rfl, size_ok La ⟨fun c => ⟨_, rfl, _, Bk.ld 2 rfl, ?_⟩, fun c => ⟨fun c2 => ⟨_, rfl, _, Bk.ld 3 rfl, ?_⟩, fun c2 => ⟨_, rfl, _, Bk.ld 0 rfl, ?_⟩⟩⟩⟩
      · have c := of_decide_eq_true c
        rw [List.getElem?_append_left (by omega)] at e
        exact iha qa k La (by omega) e
      · have c := of_decide_eq_false c
        have c2 := of_decide_eq_true c2
        rw [w64_of (n := (k : Int) - (a.l.length : Int)) (by omega) (by omega), w64_of (by omega) (by omega), show (k : Int) - (a.l.length : Int) - 1 = ((k - a.l.length - 1 : Nat) : Int) by omega]
        rw [List.getElem?_append_right (by omega), show k - a.l.length = (k - a.l.length - 1) + 1 by omega, List.getElem?_cons_succ] at e
        exact ihb qb _ Lb (by omega) e
      · have c := of_decide_eq_false c
        have c2 := of_decide_eq_false c2
        rw [List.getElem?_append_right (by omega), show k - a.l.length = 0 by omega] at e
        injection e with e
        rw [e]; exact H
  exact key t q i L (Nat.le_refl _) (List.getElem?_eq_getElem hi)
theorem wints_ok {l : List Int} {R : Sl → Heap → Prop} (T : Tr A h q l) (hz : l.length ≤ 17592186044416) (H : ∀ s h', Fw h h' → Own h.size 1 h' s (l.map iV) → R s h') : wbt_Set_Ints r q h R := by
  apply wbt_Set_Ints_of
  refine New.cells fun h1 E1 z1 B1 => ⟨_, B1.ld 0 rfl, wlen_ok (T.fw E1) fun h2 E2 => ?_⟩
  have hc := B1.lt
  intro X HX
  have key : ∀ (d i : Nat) (so : Sl) (h3 : Heap), i + d = l.length → Fw h2 h3 → Own h2.size 1 h3 so ((l.take i).map iV) → X so (i : Int) h3 := by
    intro d
    induction d with
    | zero =>
      intro i so h3 hi E3 O
      rw [List.take_of_length_le (by omega)] at O
      exact HX _ _ _ ⟨fun c => absurd (of_decide_eq_true c) (by omega), fun _ => H so h3 ((E1.trans E2).trans E3) (O.mono (by have := (E1.trans E2).1; omega))⟩
    | succ d ih =>
      intro i so h3 hi E3 O
      have hil : i < l.length := by omega
      refine HX _ _ _ ⟨fun _ => ⟨_, ((E2.trans E3).blk B1).ld 0 rfl, wat_ok (T.fw ((E1.trans E2).trans E3)) (by omega) hil fun h4 E4 => ?_⟩, fun c => absurd (of_decide_eq_false c) (by omega)⟩
      have O4 := O.ext E4
      have lo := O4.len
      rw [List.length_map, List.length_take] at lo
      refine App.push (cs := [iV l[i]]) O4 rfl rfl (by simp [one]) (E3.trans E4).1 (by omega) fun s5 h5 G => ?_
      rw [w64_of (by omega) (by omega)]
      refine ih (i + 1) s5 h5 (by omega) ((E3.trans E4).trans' G.ext) ?_
      have e : l.take (i + 1) = l.take i ++ [l[i]] := by rw [List.take_add_one, List.getElem?_eq_getElem hil]; rfl
      rw [e, List.map_append]; exact G.own
  exact key l.length 0 Sl.nil h2 (by omega) (Fw.refl _) (Own.nil _ _ _)
end
end Go.Proofs.YthkimbiknhebeaaGreatDoor.Wb
