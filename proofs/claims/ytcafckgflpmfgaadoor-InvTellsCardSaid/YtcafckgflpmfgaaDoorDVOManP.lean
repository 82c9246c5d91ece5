/- Many things in order: what the functions do (printed by mk_man.py). -/
import Derived.Test.YtcafckgflpmfgaaDoorDVOMan
import Derived.Test.YtcafckgflpmfgaaDoorManL
import Derived.Test.YtcafckgflpmfgaaDoorManT
namespace Go.Proofs.YtcafckgflpmfgaaDoor.Or
open Go Go.RowKit Go.Tw Go.Many
set_option linter.unusedVariables false
/-- the cells of one -/
def ec (v : Int) : List Value := [iV v]
/-- a tree in memory; its blocks are of A -/
def Nd (A : Nat → Prop) (h : Heap) : B Int → Option Addr → Prop
  | .nil, q => q = none
  | .node l v u, q => ∃ c ql qr, q = some (ad c 0) ∧ A c ∧ Blk h c ([iV v] ++ [iV ((l.l ++ v :: u.l).length : Int)] ++ [.bool (lastS (l.l ++ v :: u.l)).any, iV (lastS (l.l ++ v :: u.l)).x] ++ [.pointer ql, .pointer qr]) ∧ Nd A h l ql ∧ Nd A h u qr
section
variable {A A' : Nat → Prop} {r : World} {h h' : Heap} {q : Option Addr}
theorem Nd.to (S : To A A' h h') : ∀ {t : B Int} {q : Option Addr}, Nd A h t q → Nd A' h' t q
  | .nil, q, e => e
  | .node l v u, q, ⟨c, ql, qr, e, a, H, L, U⟩ => ⟨c, ql, qr, e, (S.2 c a (isC_blk H)).2, S.blk a H, L.to S, U.to S⟩
theorem Nd.fw {t : B Int} (L : Nd A h t q) (E : Fw h h') : Nd A h' t q := L.to (To.fw E)


theorem sjoin_ok {a b : List Int} {R : Bool → Int → Heap → Prop} (H : ∀ h', Fw h h' → R (lastS (a ++ b)).any (lastS (a ++ b)).x h') : ord_lasts_Join r (lastS a).any (lastS a).x (lastS b).any (lastS b).x h R := by
  apply ord_lasts_Join_of
  refine New.cells (cs := []) fun h1 E1 z1 B1 => New.cells fun h2 E2 z2 B2 => New.cells fun h3 E3 z3 B3 => New.cells fun h4 E4 z4 B4 => ?_
  have C2 := E4.blk (E3.blk B2)
  have C3 := E4.blk B3
  have E := ((E1.trans E2).trans E3).trans E4
  have hc : h.size ≤ h3.size := by omega
  refine ⟨_, C3.ld 0 rfl, fun c => ⟨_, C3.ld 0 rfl, _, C3.ld 1 rfl, ?_⟩, fun c => ⟨_, C2.ld 0 rfl, _, C2.ld 1 rfl, ?_⟩⟩
  · refine St.whole B4 rfl rfl fun h5 B5 o5 z5 => ⟨_, B5.ld 0 rfl, _, B5.ld 1 rfl, ?_⟩
    have := H h5 (E.over hc o5 z5)
    rw [lastS_join, if_pos c] at this; exact this
  · refine St.whole B4 rfl rfl fun h5 B5 o5 z5 => ⟨_, B5.ld 0 rfl, _, B5.ld 1 rfl, ?_⟩
    have := H h5 (E.over hc o5 z5)
    rw [lastS_join, if_neg (by rw [c]; decide)] at this; exact this
theorem sone_ok {x : Int} {R : Bool → Int → Heap → Prop} (H : ∀ h', Fw h h' → R (lastS [x]).any (lastS [x]).x h') : ord_lasts_One r x h R := by
  apply ord_lasts_One_of
  refine New.cells (cs := []) fun h1 E1 z1 B1 => New.cells fun h2 E2 z2 B2 => St.whole B2 rfl rfl fun h5 B5 o5 z5 => ⟨_, B5.ld 0 rfl, _, B5.ld 1 rfl, H h5 ((E1.trans E2).over E1.1 o5 z5)⟩

theorem snone_ok {R : Bool → Int → Heap → Prop} (H : ∀ h', Fw h h' → R (lastS ([])).any (lastS ([])).x h') : ord_lasts_None r h R := by
  apply ord_lasts_None_of
  exact New.cells (cs := []) fun h1 E1 z1 B1 => New.cells fun h2 E2 z2 B2 => St.whole B2 rfl rfl fun h5 B5 o5 z5 => ⟨_, B5.ld 0 rfl, _, B5.ld 1 rfl, H h5 ((E1.trans E2).over E1.1 o5 z5)⟩

theorem size_ok {t : B Int} {R : Int → Heap → Prop} (L : Nd A h t q) (H : R (t.l.length : Int) h) : finger_node_int_ord_last_size r q h R := by
  apply finger_node_int_ord_last_size_of
  cases t with
  | nil => have e : q = none := L
           subst e; exact ⟨fun _ => H, fun c => by cases c⟩
  | node l v u => obtain ⟨c, ql, qr, rfl, a, Bk, _, _⟩ := L
                  exact ⟨fun c => (by cases c), fun _ => ⟨_, rfl, _, Bk.ld 1 rfl, H⟩⟩
theorem weight_ok {t : B Int} {R : Int → Heap → Prop} (L : Nd A h t q) (hz : t.l.length < 1152921504606846976) (H : R ((t.l.length + 1 : Nat) : Int) h) : finger_node_int_ord_last_weight r q h R := by
  apply finger_node_int_ord_last_weight_of
  refine size_ok L ?_
  rw [w64_of (by omega) (by omega)]; exact H
theorem heavy_ok {t u : B Int} {q2 : Option Addr} {R : Bool → Heap → Prop} (L : Nd A h t q) (U : Nd A h u q2) (hz : t.l.length < 1152921504606846976) (hz2 : u.l.length < 1152921504606846976) (H : R (decide (3 * (u.l.length + 1) < t.l.length + 1)) h) : finger_heavy_int_ord_last r q q2 h R := by
  apply finger_heavy_int_ord_last_of
  refine weight_ok L hz (weight_ok U hz2 ?_)
  have e : decide (w64 (3 * ((u.l.length + 1 : Nat) : Int)) < ((t.l.length + 1 : Nat) : Int)) = decide (3 * (u.l.length + 1) < t.l.length + 1) := by
    rw [w64_of (by omega) (by omega)]
    apply decide_eq_decide.2; omega
  rw [e]; exact H
theorem total_ok {t : B Int} {R : Bool → Int → Heap → Prop} (L : Nd A h t q) (H : ∀ h', Fw h h' → R (lastS (t.l)).any (lastS (t.l)).x h') : finger_total_int_ord_last_ord_lasts r q h R := by
  apply finger_total_int_ord_last_ord_lasts_of
  refine New.cells fun h1 E1 z1 B1 => ?_
  cases t with
  | nil =>
    have e : q = none := L
    subst e
    refine ⟨fun _ => New.cells (cs := []) fun h2 E2 z2 B2 => snone_ok fun h3 E3 => ?_, fun c => by cases c⟩
    exact St.whole ((E2.trans E3).blk B1) rfl rfl fun h5 B5 o5 z5 => ⟨_, B5.ld 0 rfl, _, B5.ld 1 rfl, H h5 (((E1.trans E2).trans E3).over (Nat.le_refl _) o5 z5)⟩
  | node l v u =>
    obtain ⟨c, ql, qr, rfl, a, Bk, _, _⟩ := L
    have Bk := E1.blk Bk
    refine ⟨fun c => (by cases c), fun _ => ⟨_, rfl, _, Bk.ld2 2 0 rfl, _, Bk.ld2 2 1 rfl, ?_⟩⟩
    exact St.whole B1 rfl rfl fun h5 B5 o5 z5 => ⟨_, B5.ld 0 rfl, _, B5.ld 1 rfl, H h5 (E1.over (Nat.le_refl _) o5 z5)⟩

theorem made_ok {l u : B Int} {v : Int} {ql qr : Option Addr} {R : Option Addr → Heap → Prop} (L : Nd A h l ql) (U : Nd A h u qr) (hz : l.l.length + u.l.length < 1152921504606846976) (hA : ∀ b, h.size ≤ b → A b)
    (H : ∀ q h', Fw h h' → Nd A h' (.node l v u) q → R q h') : finger_made_int_ord_last_ord_lasts r ql v qr h R := by
  apply finger_made_int_ord_last_ord_lasts_of
  have e1 : w64 (w64 (1 + (l.l.length : Int)) + (u.l.length : Int)) = ((l.l ++ v :: u.l).length : Int) := by
    rw [w64_of (n := 1 + (l.l.length : Int)) (by omega) (by omega), w64_of (by omega) (by omega)]; simp; omega
  have e2 : (l.l ++ [v]) ++ u.l = l.l ++ v :: u.l := by simp

  refine New.cells (cs := []) fun h1 E1 z1 B1 => size_ok (L.fw E1) (size_ok (U.fw E1) (total_ok (L.fw E1) fun h4 E4 => sone_ok fun h5 E5 => sjoin_ok fun h6 E6 => ?_))
  have E16 := ((E1.trans E4).trans E5).trans E6
  refine total_ok (U.fw E16) fun h7 E7 => sjoin_ok fun h8 E8 => ?_
  have E18 := (E16.trans E7).trans E8
  rw [e1, e2]
  exact New.cells fun h9 E9 z9 B9 => H _ _ (E18.trans E9) ⟨_, ql, qr, rfl, hA _ E18.1, B9, L.fw (E18.trans E9), U.fw (E18.trans E9)⟩

theorem mk_ok {l u : B Int} {v : Int} {ql qr : Option Addr} {K : Value → Heap → Prop} (L : Nd A h l ql) (U : Nd A h u qr) (hz : l.l.length + u.l.length < 1152921504606846976) (hA : ∀ b, h.size ≤ b → A b)
    (H : ∀ q h', Fw h h' → Nd A h' (.node l v u) q → K (.pointer q) h') : CallV Tryd.prog r (.func (.func 151) #[] #[]) [.pointer ql, iV v, .pointer qr] h K :=
  .inl ⟨_, _, _, rfl, Tryd.call151, CallsH.mono (made_ok (R := fun q h' => K (.pointer q) h') L U hz hA H) fun w h'' ⟨y, hv, hR⟩ => by rw [hv]; exact hR⟩

theorem even_ok {l u : B Int} {v : Int} {ql qr : Option Addr} {R : Option Addr → Heap → Prop} (L : Nd A h l ql) (U : Nd A h u qr) (hz : l.l.length + u.l.length < 1152921504606846970) (hA : ∀ b, h.size ≤ b → A b)
    (H : ∀ w q h', Fw h h' → w.l = l.l ++ v :: u.l → Nd A h' w q → R q h') : finger_even_int_ord_last_ord_lasts r ql v qr h R := by
  apply finger_even_int_ord_last_ord_lasts_of
  intro J5 HJ5
  -- the right one is the heavier one, by its right part
  have ja : ∀ (a b : B Int) (x : Int), u = .node a x b → J5 true h := by
    intro a b x e
    subst e
    obtain ⟨c, qa, qb, rfl, hc, Bk, La, Lb⟩ := U
    have hu : (B.node a x b).l.length = a.l.length + (b.l.length + 1) := by simp [B.l]
    refine HJ5 _ _ ⟨fun _ => ⟨_, rfl, _, Bk.ld 4 rfl, _, rfl, _, Bk.ld 0 rfl, _, rfl, _, Bk.ld 5 rfl, ?_⟩, fun c => by cases c⟩
    refine mk_ok L La (by omega) hA fun y h2 E2 M => ⟨_, rfl, ?_⟩
    have Bk2 := E2.blk Bk
    have hl : (B.node l v a).l.length = l.l.length + (a.l.length + 1) := by simp [B.l]
    refine ⟨Bk2.ld 5 rfl, Bk2.ld 0 rfl, mk_ok M (Lb.fw E2) (by omega) (fun b hb => hA b (by have := E2.1; omega)) fun y3 h3 E3 M3 => ⟨_, rfl, H _ _ h3 (E2.trans E3) ?_ M3⟩⟩
    simp [B.l]
  -- by its left part
  have jb : ∀ (a1 a2 b : B Int) (x y : Int), u = .node (.node a1 y a2) x b → ∀ ql2, Nd A h l ql2 → ql2 = ql → (3 * (l.l.length + 1) < u.l.length + 1) → J5 false h := by
    intro a1 a2 b x y e ql2 _ _ hw
    subst e
    obtain ⟨c, qa, qb, rfl, hc, Bk, La, Lb⟩ := U
    have U' : Nd A h (.node (.node a1 y a2) x b) (some (ad c 0)) := ⟨c, qa, qb, rfl, hc, Bk, La, Lb⟩
    obtain ⟨c', q1, q2, rfl, hc', Bk', L1, L2⟩ := La
    have hu : (B.node (.node a1 y a2) x b).l.length = a1.l.length + a2.l.length + b.l.length + 2 := by simp [B.l]; omega
    refine HJ5 _ _ ⟨fun c => (by cases c), fun _ => heavy_ok U' L (by omega) (by omega) ⟨fun _ => ?_, fun c => absurd hw (of_decide_eq_false c)⟩⟩
    refine ⟨_, rfl, _, Bk.ld 4 rfl, _, rfl, _, Bk'.ld 4 rfl, _, rfl, _, Bk'.ld 0 rfl, _, rfl, _, Bk'.ld 5 rfl, _, rfl, _, Bk.ld 0 rfl, _, rfl, _, Bk.ld 5 rfl, ?_⟩
    refine mk_ok L L1 (by omega) hA fun y5 h5 E5 M5 => ⟨_, rfl, ?_⟩
    have hA5 : ∀ b, h5.size ≤ b → A b := fun b hb => hA b (by have := E5.1; omega)
    have K5 := E5.blk Bk
    have K5' := E5.blk Bk'
    refine ⟨K5.ld 5 rfl, K5.ld 0 rfl, K5'.ld 5 rfl, K5'.ld 0 rfl, mk_ok (L2.fw E5) (Lb.fw E5) (by omega) hA5 fun y6 h6 E6 M6 => ⟨_, rfl, ?_⟩⟩
    have K6' := E6.blk K5'
    have hl5 : (B.node l v a1).l.length = l.l.length + (a1.l.length + 1) := by simp [B.l]
    have hl6 : (B.node a2 x b).l.length = a2.l.length + (b.l.length + 1) := by simp [B.l]
    refine ⟨K6'.ld 0 rfl, mk_ok (M5.fw E6) M6 (by omega) (fun b hb => hA5 b (by have := E6.1; omega)) fun y7 h7 E7 M7 => ⟨_, rfl, H _ _ h7 ((E5.trans E6).trans E7) ?_ M7⟩⟩
    simp [B.l]

  -- the left one is not lighter
  have jc : ¬ (3 * (l.l.length + 1) < u.l.length + 1) → J5 false h := by
    intro hnw
    refine HJ5 _ _ ⟨fun c => (by cases c), fun _ => heavy_ok U L (by omega) (by omega) ⟨fun c => absurd (of_decide_eq_true c) hnw, fun _ => ?_⟩⟩
    intro J62 HJ62
    have ka : ∀ (a b : B Int) (x : Int), l = .node a x b → J62 true h := by
      intro a b x e
      subst e
      obtain ⟨c, qa, qb, rfl, hc, Bk, La, Lb⟩ := L
      have hu : (B.node a x b).l.length = a.l.length + (b.l.length + 1) := by simp [B.l]
      refine HJ62 _ _ ⟨fun _ => ⟨_, rfl, _, Bk.ld 4 rfl, _, rfl, _, Bk.ld 0 rfl, _, rfl, _, Bk.ld 5 rfl, ?_⟩, fun c => by cases c⟩
      refine mk_ok Lb U (by omega) hA fun y h2 E2 M => ⟨_, rfl, ?_⟩
      have Bk2 := E2.blk Bk
      have hl : (B.node b v u).l.length = b.l.length + (u.l.length + 1) := by simp [B.l]
      refine ⟨Bk2.ld 0 rfl, Bk2.ld 4 rfl, mk_ok (La.fw E2) M (by omega) (fun b hb => hA b (by have := E2.1; omega)) fun y3 h3 E3 M3 => ⟨_, rfl, H _ _ h3 (E2.trans E3) ?_ M3⟩⟩
      simp [B.l]
    have kb : ∀ (a b1 b2 : B Int) (x y : Int), l = .node a x (.node b1 y b2) → J62 false h := by
      intro a b1 b2 x y e
      by_cases hw : 3 * (u.l.length + 1) < l.l.length + 1
      · subst e
        obtain ⟨c, qa, qb, rfl, hc, Bk, La, Lb⟩ := L
        have L' : Nd A h (.node a x (.node b1 y b2)) (some (ad c 0)) := ⟨c, qa, qb, rfl, hc, Bk, La, Lb⟩
        obtain ⟨c', q1, q2, rfl, hc', Bk', L1, L2⟩ := Lb
        have hu : (B.node a x (.node b1 y b2)).l.length = a.l.length + b1.l.length + b2.l.length + 2 := by simp [B.l]; omega
        refine HJ62 _ _ ⟨fun c => (by cases c), fun _ => heavy_ok L' U (by omega) (by omega) ⟨fun _ => ?_, fun c => absurd hw (of_decide_eq_false c)⟩⟩
        refine ⟨_, rfl, _, Bk.ld 5 rfl, _, rfl, _, Bk.ld 4 rfl, _, rfl, _, Bk.ld 0 rfl, _, rfl, _, Bk'.ld 4 rfl, _, rfl, _, Bk'.ld 0 rfl, _, rfl, _, Bk'.ld 5 rfl, ?_⟩
        refine mk_ok La L1 (by omega) hA fun y5 h5 E5 M5 => ⟨_, rfl, ?_⟩
        have hA5 : ∀ b, h5.size ≤ b → A b := fun b hb => hA b (by have := E5.1; omega)
        have K5' := E5.blk Bk'
        refine ⟨K5'.ld 5 rfl, K5'.ld 0 rfl, mk_ok (L2.fw E5) (U.fw E5) (by omega) hA5 fun y6 h6 E6 M6 => ⟨_, rfl, ?_⟩⟩
        have K6' := E6.blk K5'
        have hl5 : (B.node a x b1).l.length = a.l.length + (b1.l.length + 1) := by simp [B.l]
        have hl6 : (B.node b2 v u).l.length = b2.l.length + (u.l.length + 1) := by simp [B.l]
        refine ⟨K6'.ld 0 rfl, mk_ok (M5.fw E6) M6 (by omega) (fun b hb => hA5 b (by have := E6.1; omega)) fun y7 h7 E7 M7 => ⟨_, rfl, H _ _ h7 ((E5.trans E6).trans E7) ?_ M7⟩⟩
        simp [B.l]
      · refine HJ62 _ _ ⟨fun c => (by cases c), fun _ => heavy_ok L U (by omega) (by omega) ⟨fun c => absurd (of_decide_eq_true c) hw, fun _ => ?_⟩⟩
        exact mk_ok L U (by omega) hA fun y h2 E2 M => ⟨_, rfl, H _ _ h2 E2 rfl M⟩
    have kc : ¬ (3 * (u.l.length + 1) < l.l.length + 1) → J62 false h := by
      intro hw
      refine HJ62 _ _ ⟨fun c => (by cases c), fun _ => heavy_ok L U (by omega) (by omega) ⟨fun c => absurd (of_decide_eq_true c) hw, fun _ => ?_⟩⟩
      exact mk_ok L U (by omega) hA fun y h2 E2 M => ⟨_, rfl, H _ _ h2 E2 rfl M⟩
    refine heavy_ok L U (by omega) (by omega) ⟨fun c => ?_, fun c => kc (of_decide_eq_false c)⟩
    have hw := of_decide_eq_true c
    cases l with
    | nil => simp [B.l] at hw
    | node a x b =>
      have hu : (B.node a x b).l.length = a.l.length + (b.l.length + 1) := by simp [B.l]
      have ka := ka a b x rfl
      have kb := kb a
      obtain ⟨c, qa, qb, rfl, hc, Bk, La, Lb⟩ := L
      refine ⟨_, rfl, _, Bk.ld 5 rfl, _, rfl, _, Bk.ld 4 rfl, weight_ok Lb (by omega) ⟨Bk.ld 4 rfl, weight_ok La (by omega) ?_⟩⟩
      by_cases c2 : ((b.l.length + 1 : Nat) : Int) < w64 (2 * ((a.l.length + 1 : Nat) : Int))
      · rw [decide_eq_true c2]; exact ka
      · rw [decide_eq_false c2]
        rw [w64_of (by omega) (by omega)] at c2
        cases b with
        | nil => simp [B.l] at c2; omega
        | node b1 y b2' => exact kb b1 b2' x y rfl
  refine heavy_ok U L (by omega) (by omega) ⟨fun c => ?_, fun c => jc (of_decide_eq_false c)⟩
  have hw := of_decide_eq_true c
  cases u with
  | nil => simp [B.l] at hw
  | node a x b =>
    have hu : (B.node a x b).l.length = a.l.length + (b.l.length + 1) := by simp [B.l]
    have ja := ja a b x rfl
    have jb := fun a1 a3 y (e : a = .node a1 y a3) => jb a1 a3 b x y (by rw [e]) ql L rfl hw
    obtain ⟨c, qa, qb, rfl, hc, Bk, La, Lb⟩ := U
    refine ⟨_, rfl, _, Bk.ld 4 rfl, _, rfl, _, Bk.ld 5 rfl, weight_ok La (by omega) ⟨Bk.ld 5 rfl, weight_ok Lb (by omega) ?_⟩⟩
    by_cases c2 : ((a.l.length + 1 : Nat) : Int) < w64 (2 * ((b.l.length + 1 : Nat) : Int))
    · rw [decide_eq_true c2]; exact ja
    · rw [decide_eq_false c2]
      rw [w64_of (by omega) (by omega)] at c2
      cases a with
      | nil => simp [B.l] at c2; omega
      | node a1' y a2' => exact jb a1' a2' y rfl

theorem link_ok : ∀ (n : Nat) (l u : B Int) (v : Int) (ql qr : Option Addr) (h : Heap) (R : Option Addr → Heap → Prop), l.l.length + u.l.length = n → Nd A h l ql → Nd A h u qr → l.l.length + u.l.length < 1152921504606846970 → (∀ b, h.size ≤ b → A b) →
    (∀ w q h', Fw h h' → w.l = l.l ++ v :: u.l → Nd A h' w q → R q h') → finger_link_int_ord_last_ord_lasts r ql v qr h R := by
  intro n
  induction n using Nat.strongRecOn with
  | _ n ih =>
    intro l u v ql qr h R hn L U hz hA H
    apply finger_link_int_ord_last_ord_lasts_of
    refine heavy_ok U L (by omega) (by omega) ⟨fun c => ?_, fun _ => heavy_ok L U (by omega) (by omega) ⟨fun c => ?_, fun _ => made_ok L U (by omega) hA fun q h' E M => H _ q h' E rfl M⟩⟩
    · have hw := of_decide_eq_true c
      cases u with
      | nil => simp [B.l] at hw
      | node a x b =>
        have hu : (B.node a x b).l.length = a.l.length + (b.l.length + 1) := by simp [B.l]
        obtain ⟨c, qa, qb, rfl, hc, Bk, La, Lb⟩ := U
        refine ⟨_, rfl, _, Bk.ld 4 rfl, _, rfl, _, Bk.ld 0 rfl, _, rfl, _, Bk.ld 5 rfl, ?_⟩
        refine ih (l.l.length + a.l.length) (by omega) l a v ql qa h _ rfl L La (by omega) hA fun w q2 h2 E2 ew M => ?_
        have Bk2 := E2.blk Bk
        have hwl : w.l.length = l.l.length + (a.l.length + 1) := by rw [ew]; simp
        refine ⟨Bk2.ld 5 rfl, Bk2.ld 0 rfl, even_ok M (Lb.fw E2) (by omega) (fun b hb => hA b (by have := E2.1; omega)) fun w' q' h' E' ew' M' => H w' q' h' (E2.trans E') ?_ M'⟩
        rw [ew', ew]; simp [B.l]
    · have hw := of_decide_eq_true c
      cases l with
      | nil => simp [B.l] at hw
      | node a x b =>
        have hu : (B.node a x b).l.length = a.l.length + (b.l.length + 1) := by simp [B.l]
        obtain ⟨c, qa, qb, rfl, hc, Bk, La, Lb⟩ := L
        refine ⟨_, rfl, _, Bk.ld 4 rfl, _, rfl, _, Bk.ld 0 rfl, _, rfl, _, Bk.ld 5 rfl, ?_⟩
        refine ih (b.l.length + u.l.length) (by omega) b u v qb qr h _ rfl Lb U (by omega) hA fun w q2 h2 E2 ew M => ?_
        have Bk2 := E2.blk Bk
        have hwl : w.l.length = b.l.length + (u.l.length + 1) := by rw [ew]; simp
        refine ⟨Bk2.ld 0 rfl, Bk2.ld 4 rfl, even_ok (La.fw E2) M (by omega) (fun b hb => hA b (by have := E2.1; omega)) fun w' q' h' E' ew' M' => H w' q' h' (E2.trans E') ?_ M'⟩
        rw [ew', ew]; simp [B.l]

theorem split_ok : ∀ (t : B Int) (i : Nat) (q : Option Addr) (h : Heap) (R : Option Addr → Option Addr → Heap → Prop), Nd A h t q → i < 4611686018427387904 → t.l.length < 1152921504606846970 → (∀ b, h.size ≤ b → A b) →
    (∀ a b qa qb h', Fw h h' → a.l = t.l.take i → b.l = t.l.drop i → Nd A h' a qa → Nd A h' b qb → R qa qb h') → finger_split_int_ord_last_ord_lasts r q (i : Int) h R
  | .nil, i, q, h, R, L, hi, hz, hA, H => by
    have e : q = none := L
    subst e
    apply finger_split_int_ord_last_ord_lasts_of
    exact ⟨fun _ => H .nil .nil none none h (Fw.refl h) (by simp [B.l]) (by simp [B.l]) rfl rfl, fun c => by cases c⟩
  | .node l v u, i, q, h, R, L, hi, hz, hA, H => by
    obtain ⟨c, ql, qr, rfl, hc, Bk, La, Lu⟩ := L
    have hu : (B.node l v u).l.length = l.l.length + (u.l.length + 1) := by simp [B.l]
    apply finger_split_int_ord_last_ord_lasts_of
    refine ⟨fun c => (by cases c), fun _ => ⟨_, rfl, _, Bk.ld 4 rfl, size_ok La ⟨fun c => ?_, fun c => ?_⟩⟩⟩
    · have c := of_decide_eq_true c
      refine ⟨_, rfl, _, Bk.ld 5 rfl, ?_⟩
      obtain ⟨z, rfl⟩ : ∃ z, i = l.l.length + 1 + z := ⟨i - l.l.length - 1, by omega⟩
      have e : w64 (w64 (((l.l.length + 1 + z : Nat) : Int) - (l.l.length : Int)) - 1) = (z : Int) := by
        rw [w64_of (n := ((l.l.length + 1 + z : Nat) : Int) - (l.l.length : Int)) (by omega) (by omega), w64_of (by omega) (by omega)]; omega
      rw [e]
      refine split_ok u z qr h _ Lu (by omega) (by omega) hA fun a b qa qb h2 E2 ea eb Ma Mb => ?_
      have Bk2 := E2.blk Bk
      have hla : a.l.length ≤ u.l.length := by rw [ea]; simp; omega
      refine ⟨_, rfl, _, Bk2.ld 4 rfl, _, rfl, _, Bk2.ld 0 rfl, ?_⟩
      refine link_ok _ l a v _ _ h2 _ rfl (La.fw E2) Ma (by omega) (fun b hb => hA b (by have := E2.1; omega)) fun w q' h' E' ew M => H w b q' qb h' (E2.trans E') ?_ ?_ M (Mb.fw E')
      · rw [ew, ea]
        show _ = (l.l ++ v :: u.l).take (l.l.length + 1 + z)
        rw [List.take_append, List.take_of_length_le (l := l.l) (by omega), show l.l.length + 1 + z - l.l.length = z + 1 by omega, List.take_succ_cons]
      · rw [eb]
        show _ = (l.l ++ v :: u.l).drop (l.l.length + 1 + z)
        rw [List.drop_append, List.drop_of_length_le (l := l.l) (by omega), show l.l.length + 1 + z - l.l.length = z + 1 by omega, List.drop_succ_cons, List.nil_append]
    · have c := of_decide_eq_false c
      refine ⟨_, rfl, _, Bk.ld 4 rfl, ?_⟩
      refine split_ok l i ql h _ La hi (by omega) hA fun a b qa qb h2 E2 ea eb Ma Mb => ?_
      have Bk2 := E2.blk Bk
      have hlb : b.l.length ≤ l.l.length := by rw [eb]; simp
      refine ⟨_, rfl, _, Bk2.ld 0 rfl, _, rfl, _, Bk2.ld 5 rfl, ?_⟩
      refine link_ok _ b u v _ _ h2 _ rfl Mb (Lu.fw E2) (by omega) (fun b hb => hA b (by have := E2.1; omega)) fun w q' h' E' ew M => H a w qa q' h' (E2.trans E') ?_ ?_ (Ma.fw E') M
      · rw [ea]
        show _ = (l.l ++ v :: u.l).take i
        rw [List.take_append_of_le_length (by omega)]
      · rw [ew, eb]
        show _ = (l.l ++ v :: u.l).drop i
        rw [List.drop_append_of_le_length (by omega)]


/-- a tree of these -/
def Tr (A : Nat → Prop) (h : Heap) (q : Option Addr) (l : List Int) : Prop := ∃ t : B Int, t.l = l ∧ Nd A h t q
theorem Tr.to {l : List Int} (S : To A A' h h') (T : Tr A h q l) : Tr A' h' q l := by obtain ⟨t, a, b⟩ := T; exact ⟨t, a, b.to S⟩
theorem Tr.fw {l : List Int} (T : Tr A h q l) (E : Fw h h') : Tr A h' q l := T.to (To.fw E)
theorem Tr.nil (A : Nat → Prop) (h : Heap) : Tr A h none [] := ⟨.nil, rfl, rfl⟩
theorem Tr.weak {l : List Int} (hw : ∀ b, A b → A' b) (T : Tr A h q l) : Tr A' h q l := T.to (To.weak hw h)
theorem Tr.back {l : List Int} {c : Nat} (T : Tr (Bs A c) h q l) (ho : ∀ d, d ≠ c → h'[d]? = h[d]?) (hz : h'.size = h.size) : Tr A h' q l := (T.to (To.over (fun e => e.2 rfl) ho hz)).weak fun b hb => hb.1
theorem Tr.aside {l : List Int} {c : Nat} (T : Tr A h q l) (E : Fw h h') (hc : h.size ≤ c) : Tr (Bs A c) h' q l := T.to (To.old E fun b hb hl => ⟨hb, by omega⟩)
theorem tsplit_ok {l : List Int} {i : Nat} {R : Option Addr → Option Addr → Heap → Prop} (T : Tr A h q l) (hi : i < 4611686018427387904) (hz : l.length < 1152921504606846970) (hA : ∀ b, h.size ≤ b → A b)
    (H : ∀ qa qb h', Fw h h' → Tr A h' qa (l.take i) → Tr A h' qb (l.drop i) → R qa qb h') : finger_Many_int_ord_last_ord_lasts_Split r q (i : Int) h R := by
  apply finger_Many_int_ord_last_ord_lasts_Split_of
  refine New.cells fun h1 E1 z1 B1 => New.cells fun h2 E2 z2 B2 => New.cells fun h3 E3 z3 B3 => ⟨_, (E3.blk (E2.blk B1)).ld 0 rfl, ?_⟩
  have E13 := (E1.trans E2).trans E3
  have hc2 := (E3.blk B2).lt
  have hc3 := B3.lt
  obtain ⟨t, rfl, L⟩ := T
  have L3 : Nd (Bs (Bs A h1.size) h2.size) h3 t q := L.to (To.old E13 fun b hb hl => ⟨⟨hb, by omega⟩, by omega⟩)
  refine split_ok t i q h3 _ L3 hi hz (fun b hb => ⟨⟨hA b (by omega), by omega⟩, by omega⟩) fun a b qa qb h4 E4 ea eb Ma Mb => ?_
  refine St.whole (E4.blk (E3.blk B2)) rfl rfl fun h5 B5 o5 z5 => ?_
  refine St.whole ((E4.blk B3).other o5 (by omega)) rfl rfl fun h6 B6 o6 z6 => ?_
  have C5 := B5.other o6 (by omega)
  refine ⟨_, C5.ld 0 rfl, _, B6.ld 0 rfl, ?_⟩
  have S5 : To (Bs (Bs A h1.size) h2.size) (Bs (Bs A h1.size) h2.size) h4 h5 := To.over (fun e => e.1.2 rfl) o5 z5
  have S6 : To (Bs (Bs A h1.size) h2.size) (Bs (Bs A h1.size) h2.size) h5 h6 := To.over (fun e => e.2 rfl) o6 z6
  have S7 : To (Bs (Bs A h1.size) h2.size) A h6 h6 := To.weak (fun b hb => hb.1.1) h6
  exact H qa qb h6 (((E13.trans E4).over E1.1 o5 z5).over (by omega) o6 z6) ⟨a, ea, ((Ma.to S5).to S6).to S7⟩ ⟨b, eb, ((Mb.to S5).to S6).to S7⟩

theorem insert_ok {l : List Int} {i : Nat} {v : Int} {R : Option Addr → Heap → Prop} (T : Tr A h q l) (hi : i < 4611686018427387904) (hz : l.length < 1152921504606846970) (hA : ∀ b, h.size ≤ b → A b)
    (H : ∀ q' h', Fw h h' → Tr A h' q' (l.take i ++ v :: l.drop i) → R q' h') : finger_Many_int_ord_last_ord_lasts_Insert r q (i : Int) v h R := by
  apply finger_Many_int_ord_last_ord_lasts_Insert_of
  refine New.cells fun h1 E1 z1 B1 => New.cells fun h2 E2 z2 B2 => ⟨_, (E2.blk B1).ld 0 rfl, ?_⟩
  have E13 := E1.trans E2
  have hc3 := B2.lt
  have hc : h.size ≤ h1.size := by omega
  obtain ⟨t, rfl, L⟩ := T
  have hA3 : ∀ b, h2.size ≤ b → Bs A h1.size b := fun b hb => ⟨hA b (by omega), by omega⟩
  refine split_ok t i q h2 _ (L.to (To.old E13 fun b hb hl => ⟨hb, by omega⟩)) hi hz hA3 fun a b qa qb h5 E5 ea eb Ma Mb => ?_
  have hl := congrArg List.length ea
  have hl2 := congrArg List.length eb
  simp only [List.length_take, List.length_drop] at hl hl2
  refine link_ok _ a b v _ _ h5 _ rfl Ma Mb (by omega) (fun b hb => hA3 b (by have := E5.1; omega)) fun w q' h6 E6 ew M => ?_
  refine St.whole ((E5.trans E6).blk B2) rfl rfl fun h7 B7 o7 z7 => ⟨_, B7.ld 0 rfl, H q' h7 (((E13.trans E5).trans E6).over hc o7 z7) ⟨w, by rw [ew, ea, eb], ?_⟩⟩
  exact (M.to (To.over (fun e => e.2 rfl) o7 z7)).to (To.weak (fun b hb => hb.1) h7)

/-- a teller of sums, of beginnings -/
def Ask (r : World) (p : Value) (f : List Int → Bool) (h0 : Heap) : Prop := ∀ h', Fw h0 h' → ∀ (s : List Int) (K : Value → Heap → Prop), (∀ h'', Fw h' h'' → K (.bool (f s)) h'') → CallV Tryd.prog r p [.agg #[.bool (lastS (s)).any, iV (lastS (s)).x]] h' K
theorem Ask.fw {p : Value} {f : List Int → Bool} (H : Ask r p f h) (E : Fw h h') : Ask r p f h' := fun h2 E2 => H h2 (E.trans E2)
theorem find_ok {l : List Int} {p : Value} {f : List Int → Bool} {R : Int → Heap → Prop} (T : Tr A h q l) (hp : Ask r p f h) (h0 : f [] = false) (hz : l.length < 1152921504606846970)
    (H : ∀ (k : Nat) h', Fw h h' → k ≤ l.length → f (l.take k) = false → (k < l.length → f (l.take (k + 1)) = true) → R (k : Int) h') : finger_Many_int_ord_last_ord_lasts_Find r q p h R := by
  apply finger_Many_int_ord_last_ord_lasts_Find_of
  refine New.cells fun h1 E1 z1 B1 => New.cells (cs := []) fun h2 E2 z2 B2 => snone_ok fun h3 E3 => New.cells fun h4 E4 z4 B4 => ?_
  have E13 := (E1.trans E2).trans E3
  have hc : h.size ≤ h3.size := E13.1
  refine St.whole B4 rfl rfl fun h5 B5 o5 z5 => ?_
  have C1 := ((E2.trans E3).trans E4).blk B1
  have hc1 := B1.lt
  have h13 := (E2.trans E3).1
  have C1 := C1.other o5 (by omega)
  refine ⟨_, C1.ld 0 rfl, ?_⟩
  have E5 := (E13.trans E4).over hc o5 z5
  obtain ⟨t, rfl, L⟩ := T
  intro X HX
  have key : ∀ (u : B Int) (pre : List Int) (qu : Option Addr) (h6 : Heap), Nd A h u qu → Fw h h6 → h3.size < h6.size → Blk h6 h3.size [.bool (lastS (pre)).any, iV (lastS (pre)).x] → f pre = false → (∃ post, t.l = pre ++ u.l ++ post ∧ (post = [] ∨ f (pre ++ u.l) = true)) → X (pre.length : Int) qu h6 := by
    intro u
    induction u with
    | nil =>
      intro pre qu h6 U E6 hz6 B6 hf hpost
      have e : qu = none := U
      subst e
      obtain ⟨post, e1, e2⟩ := hpost
      have e3 : t.l = pre := by
        rcases e2 with e2 | e2
        · rw [e1, e2]; simp [B.l]
        · rw [show pre ++ (B.nil : B Int).l = pre by simp [B.l], hf] at e2; cases e2
      refine HX _ _ _ ⟨fun c => (by cases c), fun _ => H pre.length h6 E6 (by rw [e3]; exact Nat.le_refl _) (by rw [e3, List.take_length]; exact hf) (fun c => by rw [e3] at c; omega)⟩
    | node a x b ia ib =>
      intro pre qu h6 U E6 hz6 B6 hf hpost
      obtain ⟨c, qa, qb, rfl, hcA, Bk0, Ua, Ub⟩ := U
      have Bk := E6.blk Bk0
      have hcl : c < h.size := Bk0.lt
      obtain ⟨post, e1, e2⟩ := hpost
      have hlen : t.l.length = pre.length + (a.l.length + (b.l.length + 1)) + post.length := by rw [e1]; simp [B.l]; omega
      refine HX _ _ _ ⟨fun _ => ?_, fun c => by cases c⟩
      intro J22 HJ22
      -- with the left part
      have left : ∀ (p21 : Nat) (h7 : Heap), Fw h6 h7 → Blk h7 p21 [.bool (lastS (pre ++ a.l)).any, iV (lastS (pre ++ a.l)).x] → J22 (ad p21 0) h7 := by
        intro p21 h7 E7 B7
        have Bk7 := E7.blk Bk
        refine HJ22 _ _ ⟨_, B7.ld 0 rfl, _, B7.ld 1 rfl, hp h7 (E6.trans E7) (pre ++ a.l) _ fun h8 E8 => ⟨_, rfl, fun c => ?_, fun c => ?_⟩⟩
        · refine ⟨_, rfl, _, (E8.blk Bk7).ld 4 rfl, ?_⟩
          have E68 := E7.trans E8
          refine ia pre qa h8 Ua (E6.trans E68) (by have := E68.1; omega) (E68.blk B6) hf ⟨x :: b.l ++ post, by rw [e1]; simp [B.l], .inr c⟩
        · intro J34 HJ34
          have B8 := E8.blk B7
          have Bk8 := E8.blk Bk7
          have hf2 : f (pre ++ a.l) = false := c
          have right : ∀ (p33 : Nat) (h9 : Heap), Fw h8 h9 → Blk h9 p33 [.bool (lastS (pre ++ a.l ++ [x])).any, iV (lastS (pre ++ a.l ++ [x])).x] → p33 ≠ h3.size → J34 (ad p33 0) h9 := by
            intro p33 h9 E9 B9 hne
            have Bk9 := E9.blk Bk8
            refine HJ34 _ _ ⟨_, B9.ld 0 rfl, _, B9.ld 1 rfl, hp h9 (((E6.trans E7).trans E8).trans E9) (pre ++ a.l ++ [x]) _ fun h10 E10 => ⟨_, rfl, fun c => ?_, fun c => ?_⟩⟩
            · have B10 := E10.blk B9
              have Bk10 := E10.blk Bk9
              have E610 := ((E7.trans E8).trans E9).trans E10
              have E010 := E6.trans E610
              refine ⟨_, B10.ld 0 rfl, _, B10.ld 1 rfl, _, rfl, _, Bk10.ld 4 rfl, _, rfl, _, Bk10.ld 5 rfl, size_ok (Ua.fw E010) ⟨Bk10.ld 5 rfl, B10.ld 0 rfl, B10.ld 1 rfl, ?_⟩⟩
              refine St.whole (E610.blk B6) rfl rfl fun h12 B12 o12 z12 => ⟨(Bk10.other o12 (by omega)).ld 5 rfl, ?_⟩
              have e : w64 (w64 ((pre.length : Int) + (a.l.length : Int)) + 1) = ((pre ++ a.l ++ [x]).length : Int) := by
                rw [w64_of (n := (pre.length : Int) + (a.l.length : Int)) (by omega) (by omega), w64_of (by omega) (by omega)]; simp; omega
              rw [e]
              have c : f (pre ++ a.l ++ [x]) = false := by simpa using c
              refine ib (pre ++ a.l ++ [x]) qb h12 Ub (E010.over hc o12 z12) (by have := E610.1; omega) B12 c ⟨post, by rw [e1]; simp [B.l], ?_⟩
              rcases e2 with e2 | e2
              · exact .inl e2
              · refine .inr ?_
                rw [← e2]; congr 1; simp [B.l]
            · refine ⟨_, rfl, _, (E10.blk Bk9).ld 4 rfl, size_ok (Ua.fw ((((E6.trans E7).trans E8).trans E9).trans E10)) ?_⟩
              have e : w64 ((pre.length : Int) + (a.l.length : Int)) = ((pre ++ a.l).length : Int) := by
                rw [w64_of (by omega) (by omega)]; simp
              rw [e]
              have c : f (pre ++ a.l ++ [x]) = true := by simpa using c
              have t1 : t.l.take (pre ++ a.l).length = pre ++ a.l := by
                rw [e1, show pre ++ (B.node a x b).l ++ post = (pre ++ a.l) ++ (x :: b.l ++ post) by simp [B.l], List.take_left]
              have t2 : t.l.take ((pre ++ a.l).length + 1) = pre ++ a.l ++ [x] := by
                rw [e1, show pre ++ (B.node a x b).l ++ post = (pre ++ a.l ++ [x]) ++ (b.l ++ post) by simp [B.l], show (pre ++ a.l).length + 1 = (pre ++ a.l ++ [x]).length by simp; omega, List.take_left]
              refine H _ h10 ((((E6.trans E7).trans E8).trans E9).trans E10) (by simp; omega) (by rw [t1]; exact hf2) fun _ => by rw [t2]; exact c

          refine ⟨_, B8.ld 0 rfl, _, B8.ld 1 rfl, _, rfl, _, Bk8.ld 0 rfl, ⟨?_, ?_⟩⟩
          · refine sone_ok fun h14 E14 => ⟨(E14.blk B8).ld 0 rfl, (E14.blk B8).ld 1 rfl, ⟨?_, ?_⟩⟩
            · refine sjoin_ok fun h15 E15 => New.cells fun h16 E16 z16 B16 => ?_
              have Ex := (E14.trans E15).trans E16
              refine ⟨(Ex.blk Bk8).ld 0 rfl, (Ex.blk B8).ld 0 rfl, (Ex.blk B8).ld 1 rfl, ?_⟩
              exact St.whole B16 rfl rfl fun h17 B17 o17 z17 => right _ h17 (Ex.over (by have := (E14.trans E15).1; omega) o17 z17) B17 (by have := (E7.trans E8).1; have := (E14.trans E15).1; omega)
            · refine New.cells fun h18 E18 z18 B18 => ⟨((E14.trans E18).blk Bk8).ld 0 rfl, ((E14.trans E18).blk B8).ld 0 rfl, ((E14.trans E18).blk B8).ld 1 rfl, sjoin_ok fun h19 E19 => ?_⟩
              exact St.whole (E19.blk B18) rfl rfl fun h20 B20 o20 z20 => right _ h20 (((E14.trans E18).trans E19).over (by have := E14.1; omega) o20 z20) B20 (by have := (E7.trans E8).1; have := E14.1; omega)
          · refine New.cells fun h21 E21 z21 B21 => ⟨(E21.blk Bk8).ld 0 rfl, (E21.blk B8).ld 0 rfl, (E21.blk B8).ld 1 rfl, sone_ok fun h22 E22 => ⟨((E21.trans E22).blk B8).ld 0 rfl, ((E21.trans E22).blk B8).ld 1 rfl, sjoin_ok fun h23 E23 => ?_⟩⟩
            exact St.whole ((E22.trans E23).blk B21) rfl rfl fun h24 B24 o24 z24 => right _ h24 (((E21.trans E22).trans E23).over (Nat.le_refl _) o24 z24) B24 (by have := (E7.trans E8).1; omega)
      refine ⟨_, B6.ld 0 rfl, _, B6.ld 1 rfl, _, rfl, _, Bk.ld 4 rfl, ⟨?_, ?_⟩⟩
      · refine total_ok (Ua.fw E6) fun h25 E25 => ⟨(E25.blk B6).ld 0 rfl, (E25.blk B6).ld 1 rfl, ⟨?_, ?_⟩⟩
        · refine sjoin_ok fun h26 E26 => New.cells fun h27 E27 z27 B27 => ?_
          have Ex := (E25.trans E26).trans E27
          refine ⟨(Ex.blk Bk).ld 4 rfl, (Ex.blk B6).ld 0 rfl, (Ex.blk B6).ld 1 rfl, ?_⟩
          exact St.whole B27 rfl rfl fun h28 B28 o28 z28 => left _ h28 (Ex.over (by have := (E25.trans E26).1; omega) o28 z28) B28
        · refine New.cells fun h29 E29 z29 B29 => ⟨((E25.trans E29).blk Bk).ld 4 rfl, ((E25.trans E29).blk B6).ld 0 rfl, ((E25.trans E29).blk B6).ld 1 rfl, sjoin_ok fun h30 E30 => ?_⟩
          exact St.whole (E30.blk B29) rfl rfl fun h31 B31 o31 z31 => left _ h31 (((E25.trans E29).trans E30).over (by have := E25.1; omega) o31 z31) B31
      · refine New.cells fun h32 E32 z32 B32 => ⟨(E32.blk Bk).ld 4 rfl, (E32.blk B6).ld 0 rfl, (E32.blk B6).ld 1 rfl, total_ok (Ua.fw (E6.trans E32)) fun h33 E33 => ⟨((E32.trans E33).blk B6).ld 0 rfl, ((E32.trans E33).blk B6).ld 1 rfl, sjoin_ok fun h34 E34 => ?_⟩⟩
        exact St.whole ((E33.trans E34).blk B32) rfl rfl fun h35 B35 o35 z35 => left _ h35 (((E32.trans E33).trans E34).over (Nat.le_refl _) o35 z35) B35
  exact key t [] q h5 L E5 (by omega) B5 h0 ⟨[], by simp, .inl rfl⟩


/-! ### All -/
def cellsOf (l : List Int) : List Value := l.flatMap ec
theorem cells_len (l : List Int) : (cellsOf l).length = l.length * 1 := by
  induction l with
  | nil => rfl
  | cons x l ih => simp only [cellsOf, List.flatMap_cons, List.length_append] at ih ⊢; rw [ih]; simp [ec]; omega
theorem cells_snoc (l : List Int) (x : Int) : cellsOf (l ++ [x]) = cellsOf l ++ [iV x] := by simp [cellsOf, ec]
def walkV (b8 b5 : Nat) : Value := .func (.func 141) #[] #[.pointer (some (ad b8 0)), .pointer (some (ad b5 0))]
/-- what is told so far -/
structure Told (h0 h : Heap) (b5 b8 : Nat) (done : List Int) : Prop where
  fw : Fw h0 h
  ex : ∃ out, Fam h0.size h [(1, ⟨some (ad b5 0), 1, 1⟩, [Sl.v out]), (1, out, cellsOf done), (1, ⟨some (ad b8 0), 1, 1⟩, [walkV b8 b5])]
theorem walk_ok {h0 : Heap} {b5 b8 : Nat} : ∀ (t : B Int) (done : List Int) (q : Option Addr) (h : Heap) (R : Heap → Prop), Nd A h0 t q → Told h0 h b5 b8 done → done.length + t.l.length ≤ 17592186044416 →
    (∀ h', Told h0 h' b5 b8 (done ++ t.l) → R h') → finger_Many_int_ord_last_ord_lasts_All_1 r q (ad b8 0) (ad b5 0) h R
  | .nil, done, q, h, R, L, T, hz, H => by
    have e : q = none := L
    subst e
    apply finger_Many_int_ord_last_ord_lasts_All_1_of
    exact ⟨fun c => (by cases c), fun _ => H h (by simpa [B.l] using T)⟩
  | .node l v u, done, q, h, R, L, T, hz, H => by
    obtain ⟨c, ql, qr, rfl, hc, Bk, La, Lu⟩ := L
    have hu : (B.node l v u).l.length = l.l.length + (u.l.length + 1) := by simp [B.l]
    obtain ⟨E1, out, F1⟩ := T
    apply finger_Many_int_ord_last_ord_lasts_All_1_of
    refine ⟨fun _ => ⟨_, (F1.ownI (j := 2) rfl).cell (o := 0) rfl rfl, _, rfl, _, (E1.blk Bk).ld 4 rfl, ?_⟩, fun c => by cases c⟩
    refine .inl ⟨_, _, _, rfl, Tryd.call141, CallsH.mono (walk_ok l done ql h _ La ⟨E1, out, F1⟩ (by omega) fun h1 T1 => ?_) fun v h' ⟨hv, hR⟩ => ⟨hv, hR⟩⟩
    obtain ⟨E2, out2, F2⟩ := T1
    refine ⟨_, (F2.ownI (j := 0) rfl).cell (o := 0) rfl rfl, _, rfl, _, (E2.blk Bk).ld 0 rfl, ?_⟩
    intro p33 h4 hp hh
    have F4 := F2.new (sz := 1) (el := 3) (vs := ec v) (n := 1) E2.1 rfl
    have E4 : Fw h0 (h1.push (.cells (ec v).toArray 3)) := E2.trans (Ext.push (Nat.le_refl _))
    have hh : h4 = h1.push (.cells (ec v).toArray 3) := hh
    rw [← hh] at F4 E4
    subst hp
    clear hh
    refine ⟨(F4.ownI (j := 1) rfl).cell (o := 0) rfl rfl, ?_⟩
    have O4 := F4.ownI (j := 2) rfl
    have X4 := F4.ownI (j := 0) rfl
    have hl4 := O4.rs.len
    rw [cells_len, List.length_append] at hl4
    refine App.own (ys := ec v) O4 X4.rs rfl (by simp [ec, one]) E4.1 (by dsimp only; omega) fun s37 h5 G => ?_
    have F5 := F4.grownI (j := 2) rfl G
    have O1 := F5.ownI (j := 1) rfl
    have E5 : Fw h0 h5 := Ext.trans E4 G.ext
    refine St.one' (b := b5) (o := 0) O1 rfl (by simp) ?_
    have F6 := F5.setI (j := 1) (o := 0) (v := Sl.v s37) rfl rfl (by simp)
    have E6 : Fw h0 (hset h5 (ad b5 0) (Sl.v s37)) := Ext.trans E5 (Ext.set (O1.lt' rfl).2)
    generalize hset h5 (ad b5 0) (Sl.v s37) = h6 at F6 E6 ⊢
    have F7 : Fam h0.size h6 [(1, ⟨some (ad b5 0), 1, 1⟩, [Sl.v s37]), (1, s37, cellsOf (done ++ l.l ++ [v])), (1, ⟨some (ad b8 0), 1, 1⟩, [walkV b8 b5])] := by
      rw [cells_snoc]; exact F6.tail
    refine ⟨_, (F7.ownI (j := 2) rfl).cell (o := 0) rfl rfl, _, rfl, _, (E6.blk Bk).ld 5 rfl, ?_⟩
    refine .inl ⟨_, _, _, rfl, Tryd.call141, CallsH.mono (walk_ok u (done ++ l.l ++ [v]) qr h6 _ Lu ⟨E6, s37, F7⟩ (by simp only [List.length_append, List.length_cons, List.length_nil]; omega) fun h1 T1 => ?_) fun v h' ⟨hv, hR⟩ => ⟨hv, hR⟩⟩
    refine H h1 ?_
    have e : done ++ (B.node l v u).l = done ++ l.l ++ [v] ++ u.l := by simp [B.l]
    rw [e]; exact T1
theorem all_ok {l : List Int} {R : Sl → Heap → Prop} (T : Tr A h q l) (hz : l.length ≤ 17592186044416) (H : ∀ s h', Fw h h' → Own h.size 1 h' s (cellsOf l) → R s h') : finger_Many_int_ord_last_ord_lasts_All r q h R := by
  apply finger_Many_int_ord_last_ord_lasts_All_of
  obtain ⟨t, rfl, L⟩ := T
  refine New.cells fun h1 E1 z1 B1 => ?_
  intro p5 h2 hp hh
  subst hp; subst hh
  have F0 := (Fam.none h.size h1).empty 1
  have F2 := push_own (el := 22) (v := Sl.v Sl.nil) E1.1 F0
  have E2 : Fw h (h1.push (.cells #[Sl.v Sl.nil] 22)) := E1.trans (Ext.push (Nat.le_refl _))
  have C2 := (Ext.push (n := h1.size) (x := .cells #[Sl.v Sl.nil] 22) (Nat.le_refl _)).blk B1 B1.lt
  generalize h1.size = b5 at F2 C2 ⊢
  generalize h1.push (.cells #[Sl.v Sl.nil] 22) = h2 at F2 E2 C2 ⊢
  intro p8 h3 hp hh
  subst hp; subst hh
  have F3 := push_own (el := 195) (v := .nilFunc) E2.1 F2
  have E3 : Fw h (h2.push (.cells #[.nilFunc] 195)) := E2.trans (Ext.push (Nat.le_refl _))
  have C3 := (Ext.push (n := h2.size) (x := .cells #[.nilFunc] 195) (Nat.le_refl _)).blk C2 C2.lt
  have c38 : h.size ≠ h2.size := by have := C2.lt; omega
  generalize h2.size = b8 at F3 C3 c38 ⊢
  generalize h2.push (.cells #[.nilFunc] 195) = h3 at F3 E3 C3 ⊢
  have O3 := F3.ownI (j := 0) rfl
  refine St.one' (b := b8) (o := 0) O3 rfl (by simp) ?_
  have F4 := F3.setI (j := 0) (o := 0) (v := walkV b8 b5) rfl rfl (by simp)
  have E4 : Fw h (hset h3 (ad b8 0) (walkV b8 b5)) := Ext.trans E3 (Ext.set (O3.lt' rfl).2)
  have C4 : Blk (hset h3 (ad b8 0) (walkV b8 b5)) h.size _ := C3.set_ne (fun e => c38 (by have e : b8 = h.size := e; omega))
  have e4 : hset h3 (ad b8 0) (walkV b8 b5) = hset h3 (ad b8 0) (.func (.func 141) #[] #[(.pointer (some (ad b8 0))), (.pointer (some (ad b5 0)))]) := rfl
  rw [e4] at F4 E4 C4
  generalize hset h3 (ad b8 0) (.func (.func 141) #[] #[(.pointer (some (ad b8 0))), (.pointer (some (ad b5 0)))]) = h4 at F4 E4 C4 ⊢
  refine ⟨_, (F4.ownI (j := 0) rfl).cell (o := 0) rfl rfl, _, C4.ld 0 rfl, ?_⟩
  have F5 : Fam h.size h4 [(1, ⟨some (ad b5 0), 1, 1⟩, [Sl.v Sl.nil]), (1, Sl.nil, cellsOf []), (1, ⟨some (ad b8 0), 1, 1⟩, [walkV b8 b5])] := F4.perm (List.perm_append_comm (l₁ := [_]) (l₂ := [_, _]))
  refine .inl ⟨_, _, _, rfl, Tryd.call141, CallsH.mono (walk_ok (A := A) t [] q h4 _ L ⟨E4, Sl.nil, F5⟩ (by simpa using hz) fun h5 T5 => ?_) fun v h' ⟨hv, hR⟩ => ⟨hv, hR⟩⟩
  obtain ⟨E5, out, F5⟩ := T5
  exact ⟨_, (F5.ownI (j := 0) rfl).cell (o := 0) rfl rfl, H out h5 E5 (by simpa using F5.ownI (j := 1) rfl)⟩

end
end Go.Proofs.YtcafckgflpmfgaaDoor.Or
