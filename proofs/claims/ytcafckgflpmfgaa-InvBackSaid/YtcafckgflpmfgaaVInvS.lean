/- How much is out of order: the laws. -/
import Derived.Test.YtcafckgflpmfgaaVInvR
import Derived.Test.YtcafckgflpmfgaaVLaw
namespace Go.Proofs.Ytcafckgflpmfgaa
open Go Go.RowKit Go.Tw Go.Many Go.Ord Go.Inv
open Go.Proofs.Ytcafckgflpmfgaa.Or (Tr obetween_ok oinsert_ok oints_ok)
set_option linter.unusedVariables false
section
variable {r : World} {h : Heap}
theorem isP_test : IsP [2, 0, 1] := ⟨by decide, by decide⟩
theorem inv_test : w64 (inv [3, 1, 2] : Int) = 2 := by
  have : inv [3, 1, 2] = 2 := by decide
  rw [this]; exact w64_of (by decide) (by decide)
theorem leh_test : leh [2, 0, 1] = [2, 0, 0] := by decide
theorem vsorted_ok {R : Bool → Heap → Prop} (H : ∀ h', Fw h h' → R true h') : law5_sorted r h R := by
  apply law5_sorted_of
  refine New.cells (cs := [iV 3, iV 1, iV 2]) fun h1 E1 z1 B1 => ?_
  refine count_ok (n := h1.size) (l := [3, 1, 2]) (RI.of_blk (l := [3, 1, 2]) (c := 3) B1 (by omega) (List.prefix_refl _) (by decide)) (Nat.le_refl _) (by decide) fun h2 E2 => ?_
  refine New.cells (cs := [iV 2, iV 0, iV 1]) fun h3 E3 z3 B3 => ?_
  refine lehmer_ok (n := h3.size) (l := [2, 0, 1]) (RI.of_blk (l := [2, 0, 1]) (c := 3) B3 (by omega) (List.prefix_refl _) (by decide)) (Nat.le_refl _) (fun c => absurd c (by decide)) (fun _ c => absurd isP_test c) fun _ _ s4 h4 E4 O4 => ?_
  refine New.cells (cs := [iV 2, iV 0, iV 0]) fun h5 E5 z5 B5 => ?_
  refine same_Ints_ok (n' := h5.size) (Rs.ext O4.rs E5 (Nat.le_refl _)) (RI.of_blk (l := [2, 0, 0]) (c := 3) B5 (by omega) (List.prefix_refl _) (by decide)) (by decide) ⟨rfl, ?_⟩
  rw [inv_test, leh_test]
  exact H h5 ((((E1.trans E2).trans E3).trans E4).trans E5)

theorem swaps_law {l1 : Sl} {l : List Int} {i : Int} (S : RI h.size h l1 l) (hz : l.length ≤ 1048576) (hi0 : -9223372036854775808 ≤ i) (hi1 : i < 9223372036854775808) : law5_InvSwaps r l1 i h fun y h' => y = true ∧ Ext h.size h h' := by
  apply law5_InvSwaps_of
  have sl := S.len
  refine vsorted_ok fun h1 E1 => ⟨fun c => (by cases c), fun _ => ?_⟩
  refine count_ok (S.ext E1 (Nat.le_refl _)) E1.1 (by omega) fun h2 E2 => ?_
  have E02 := E1.trans E2
  have hle := inv_le l
  have hP : l.length * (l.length - 1) ≤ 1048576 * 1048576 := Nat.mul_le_mul hz (by omega)
  have hc : (l.length : Int) * ((l.length : Int) - 1) = ((l.length * (l.length - 1) : Nat) : Int) := by
    rcases Nat.eq_zero_or_pos l.length with h0 | h0
    · rw [h0]; rfl
    · rw [Int.natCast_mul, Int.natCast_sub h0]; rfl
  rw [w64_of (n := (inv l : Int)) (by omega) (by omega)]
  refine ⟨fun c => ?_, fun _ => ⟨fun _ => ⟨rfl, E02⟩, fun c => ?_⟩⟩
  · exfalso
    rw [sl, w64_of (n := (l.length : Int) - 1) (by omega) (by omega), hc, w64_of (n := ((l.length * (l.length - 1) : Nat) : Int)) (by omega) (by omega), w64_of (n := 2 * (inv l : Int)) (by omega) (by omega)] at c
    simp only [Bool.or_eq_true, decide_eq_true_eq] at c
    omega
  · simp only [Bool.or_eq_false_iff, decide_eq_false_iff_not] at c
    rw [sl, w64_of (n := (l.length : Int) - 1) (by omega) (by omega)] at c
    obtain ⟨k, rfl⟩ : ∃ k : Nat, i = (k : Int) := ⟨i.toNat, by omega⟩
    have hk : k + 1 < l.length := by omega
    obtain ⟨pre, x, y, post, hl, hpre⟩ : ∃ pre x y post, l = pre ++ x :: y :: post ∧ pre.length = k := by
      refine ⟨l.take k, l[k], l[k + 1], l.drop (k + 2), ?_, by rw [List.length_take]; omega⟩
      conv => lhs; rw [← List.take_append_drop k l, List.drop_eq_getElem_cons (by omega), List.drop_eq_getElem_cons hk]
    have ew : w64 ((k : Int) + 1) = ((k + 1 : Nat) : Int) := by rw [w64_of (by omega) (by omega)]; omega
    have ex : l[(k : Int).toNat]! = x := by rw [Int.toNat_natCast, hl, getElem!_pos _ k (by simp; omega)]; simp [← hpre]
    have ey : l[((k + 1 : Nat) : Int).toNat]! = y := by rw [Int.toNat_natCast, hl, getElem!_pos _ (k + 1) (by simp; omega)]; simp [← hpre, List.getElem_append_right]
    rw [ew]
    refine RI.ix (S.ext E02 (Nat.le_refl _)) (by omega) (by omega) fun p0 _ hp0 => ⟨_, hp0, ?_⟩
    refine RI.ix (S.ext E02 (Nat.le_refl _)) (by omega) (by omega) fun p1 hb1 hp1 => ⟨_, hp1, ?_⟩
    rw [ex, ey]
    rw [ex] at hp1
    refine put_ok (S.ext E02 (Nat.le_refl _)) E02.1 (by omega) (by omega) fun s3 h3 E3 O3 => ⟨?_, ?_⟩
    · rw [Ext.cell E3 (by have := E02.1; omega)]; exact hp1
    refine put_ok O3.rs (Nat.le_refl _) (by simp; omega) (by simp; omega) fun s4 h4 E4 O4 => ?_
    have el : (l.set k y).set (k + 1) x = pre ++ y :: x :: post := by
      rw [hl, List.set_append_right _ _ (by omega), hpre, Nat.sub_self, List.set_cons_zero, List.set_append_right _ _ (by omega), hpre, Nat.add_sub_cancel_left]; rfl
    rw [el] at O4
    have hlen : (pre ++ y :: x :: post).length = l.length := by rw [hl]; simp
    refine count_ok O4.rs (Nat.le_refl _) (by omega) fun h5 E5 => ?_
    have E05 := ((E02.trans E3).trans E4).trans E5
    have hle2 := inv_le (pre ++ y :: x :: post)
    rw [hlen] at hle2
    have sw := inv_swap pre post x y
    rw [← hl] at sw
    have hix : ∀ {K : Addr → Prop}, (∀ p, hcell h5 p = some (iV x) → K p) → Ix l1 (k : Int) 1 K := fun hK => RI.ix (S.ext E05 (Nat.le_refl _)) (by omega) (by omega) fun p _ hp => hK p (by rw [ex] at hp; exact hp)
    have hiy : ∀ {K : Addr → Prop}, (∀ p, hcell h5 p = some (iV y) → K p) → Ix l1 ((k + 1 : Nat) : Int) 1 K := fun hK => RI.ix (S.ext E05 (Nat.le_refl _)) (by omega) (by omega) fun p _ hp => hK p (by rw [ey] at hp; exact hp)
    refine hix fun q1 hq1 => ⟨_, hq1, hiy fun q2 hq2 => ⟨_, hq2, fun c1 => ⟨?_, E05⟩, fun c1 => hix fun q3 hq3 => ⟨_, hq3, hiy fun q4 hq4 => ⟨_, hq4, fun c2 => ⟨?_, E05⟩, fun c2 => ⟨?_, E05⟩⟩⟩⟩⟩
    · have c1 := of_decide_eq_true c1
      rw [if_pos c1, if_neg (by omega)] at sw
      rw [decide_eq_true]
      rw [w64_of (by omega) (by omega), w64_of (by omega) (by omega)]; omega
    · have c1 := of_decide_eq_false c1
      have c2 := of_decide_eq_true c2
      rw [if_neg c1, if_pos c2] at sw
      rw [decide_eq_true]
      rw [w64_of (by omega) (by omega), w64_of (by omega) (by omega)]; omega
    · have c1 := of_decide_eq_false c1
      have c2 := of_decide_eq_false c2
      rw [if_neg c1, if_neg c2] at sw
      rw [decide_eq_true]
      rw [w64_of (by omega) (by omega)]; omega

theorem sign_any {s : Sl} {l : List Int} {n : Nat} {R : Int → Value → Heap → Prop} (S : RI n h s l) (hn : n ≤ h.size)
    (H : ∀ v e h', Fw h h' → isIface e = true → (isNil e = true → l.length ≤ 20 ∧ IsP l ∧ v = 1 - 2 * ((inv l % 2 : Nat) : Int)) → R v e h') : inv_Sign r s h R :=
  sign_ok S hn (fun _ => H _ _ h (Fw.refl h) rfl fun c => by cases c) (fun _ _ => H _ _ h (Fw.refl h) rfl fun c => by cases c) fun a b h' E => H _ _ h' E rfl fun _ => ⟨a, b, rfl⟩
theorem nodup_at {p : List Int} (hn : p.Nodup) {i j : Nat} (hi : i < p.length) (hj : j < p.length) (e : p[i] = p[j]) : i = j := by
  rcases Nat.lt_trichotomy i j with c | c | c
  · exact absurd e (List.pairwise_iff_getElem.1 hn i j hi hj c)
  · exact c
  · exact absurd e.symm (List.pairwise_iff_getElem.1 hn j i hj hi c)
theorem comp_isP {p q : List Int} (hp : IsP p) (hq : IsP q) (hl : p.length = q.length) : IsP (q.map fun j => p[j.toNat]!) ∧ (inv (q.map fun j => p[j.toNat]!) + inv p + inv q) % 2 = 0 := by
  have inj : ∀ x ∈ q, ∀ y ∈ q, p[x.toNat]! = p[y.toNat]! → x = y := by
    intro x hx y hy e
    have a := hq.rng x hx
    have b := hq.rng y hy
    rw [getElem!_pos p _ (by omega), getElem!_pos p _ (by omega)] at e
    have := nodup_at hp.nd _ _ e
    omega
  constructor
  · refine ⟨fun z hz => ?_, ?_⟩
    · obtain ⟨j, hj, rfl⟩ := List.mem_map.1 hz
      have a := hq.rng j hj
      rw [getElem!_pos p _ (by omega), List.length_map, ← hl]
      exact hp.rng _ (List.getElem_mem _)
    · exact List.pairwise_map.2 (hq.nd.imp_of_mem fun {a b} ha hb hne e => hne (inj a ha b hb e))
  · have := inv_map (f := fun j => p[j.toNat]!) hq.perm hq.nd inj
    rw [inv_up (rangeI_up _)] at this
    have e : (rangeI q.length).map (fun j => p[j.toNat]!) = p := by
      apply List.ext_getElem?
      intro i
      rw [List.getElem?_map, ← hl]
      by_cases c : i < p.length
      · rw [rangeI_get c, List.getElem?_eq_getElem c]
        show some (p[(i : Int).toNat]!) = _
        rw [Int.toNat_natCast, getElem!_pos p _ c]
      · rw [List.getElem?_eq_none (by rw [rangeI_len]; omega), List.getElem?_eq_none (by omega)]; rfl
    rw [e] at this
    omega
theorem signs_law {p1 q2 : Sl} {p q : List Int} (P : RI h.size h p1 p) (Q : RI h.size h q2 q) : law5_InvSigns r p1 q2 h fun y h' => y = true ∧ Ext h.size h h' := by
  apply law5_InvSigns_of
  have pl := P.len
  have ql := Q.len
  refine vsorted_ok fun h1 E1 => ⟨fun c => (by cases c), fun _ => ?_⟩
  refine sign_any (P.ext E1 (Nat.le_refl _)) E1.1 fun a e1 h2 E2 i1 H1 => ?_
  have E02 := E1.trans E2
  refine sign_any (Q.ext E02 (Nat.le_refl _)) E02.1 fun b e2 h3 E3 i2 H2 => ⟨i1, i2, fun _ => ⟨rfl, E02.trans E3⟩, fun c => ?_⟩
  have E03 := E02.trans E3
  simp only [Bool.or_eq_false_iff] at c
  obtain ⟨⟨c1, c2⟩, c3⟩ := c
  obtain ⟨hp20, hp, rfl⟩ := H1 (by simpa using c1)
  obtain ⟨hq20, hq, rfl⟩ := H2 (by simpa using c2)
  have hl : p.length = q.length := by
    have : (p1.len : Int) = (q2.len : Int) := by simpa using c3
    omega
  obtain ⟨K1, K2⟩ := comp_isP hp hq hl
  intro X HX
  have key : ∀ (d i : Nat) (so : Sl) (h4 : Heap), i + d = p.length → Fw h h4 → Own h.size 1 h4 so (((q.take i).map fun j => p[j.toNat]!).map iV) → X so (i : Int) h4 := by
    intro d
    induction d with
    | zero =>
      intro i so h4 hi E4 O
      rw [List.take_of_length_le (by omega)] at O
      refine HX _ _ _ ⟨fun c => absurd (of_decide_eq_true c) (by omega), fun _ => ?_⟩
      refine sign_ok O.rs (Nat.le_refl _) (fun c => by simp at c; omega) (fun _ c => absurd K1 c) fun _ _ h7 E7 => ?_
      intro J HJ
      refine ⟨rfl, fun _ => ⟨fun _ => ⟨fun _ => HJ _ ⟨rfl, E4.trans E7⟩, fun c => HJ _ ⟨?_, E4.trans E7⟩⟩, fun c => ?_⟩, fun c => by cases c⟩
      · have c := of_decide_eq_false c
        rw [decide_eq_true]; omega
      · exfalso
        have c := of_decide_eq_false c
        apply c
        generalize inv (q.map fun j => p[j.toNat]!) = x at *
        generalize inv p = y at *
        generalize inv q = z at *
        rcases Nat.mod_two_eq_zero_or_one y with hy | hy <;> rcases Nat.mod_two_eq_zero_or_one z with hz | hz <;> rw [hy, hz]
        · rw [show x % 2 = 0 by omega]; exact (w64_of (by decide) (by decide)).symm
        · rw [show x % 2 = 1 by omega]; exact (w64_of (by decide) (by decide)).symm
        · rw [show x % 2 = 1 by omega]; exact (w64_of (by decide) (by decide)).symm
        · rw [show x % 2 = 0 by omega]; exact (w64_of (by decide) (by decide)).symm
    | succ d ih =>
      intro i so h4 hi E4 O
      have hil : i < q.length := by omega
      have ex : q[(i : Int).toNat]! = q[i] := by rw [Int.toNat_natCast, getElem!_pos q i hil]
      have rg := hq.rng q[i] (List.getElem_mem hil)
      refine HX _ _ _ ⟨fun _ => RI.ix (Q.ext E4 (Nat.le_refl _)) (by omega) (by omega) fun a1 _ ha1 => ⟨_, ha1, ?_⟩, fun c => absurd (of_decide_eq_false c) (by omega)⟩
      rw [ex]
      refine RI.ix (P.ext E4 (Nat.le_refl _)) (by omega) (by omega) fun a2 _ ha2 => ⟨_, ha2, ?_⟩
      have lo := O.len
      rw [List.length_map, List.length_map, List.length_take] at lo
      refine App.push (cs := [iV (p[q[i].toNat]!)]) O rfl rfl (by simp [one]) E4.1 (by omega) fun s6 h6 G => ?_
      rw [w64_of (by omega) (by omega)]
      refine ih (i + 1) s6 h6 (by omega) (E4.trans' G.ext) ?_
      have e : q.take (i + 1) = q.take i ++ [q[i]] := by rw [List.take_add_one, List.getElem?_eq_getElem hil]; rfl
      rw [e, List.map_append, List.map_append]; exact G.own
  exact key p.length 0 Sl.nil h3 (by omega) E03 (Own.nil _ _ _)

theorem ranks_law {n a b : Int} (ha : a < 9223372036854775808) (hb : b < 9223372036854775808) : law5_InvRanks r n a b h fun y h' => y = true ∧ Ext h.size h h' := by
  apply law5_InvRanks_of
  refine vsorted_ok fun h1 E1 => ⟨fun c => (by cases c), fun _ => ?_⟩
  refine perm_ok ha (fun _ h2 E2 => ?_) fun n0 n20 a0 a1 s2 h2 E2 O2 => ?_
  · refine perm_ok hb (fun _ h3 E3 => ⟨rfl, rfl, fun _ => ⟨rfl, rfl, rfl, (E1.trans E2).trans E3⟩, fun c => by cases c⟩) fun _ _ _ _ s3 h3 E3 O3 => ⟨rfl, rfl, fun _ => ⟨rfl, rfl, rfl, (E1.trans E2).trans E3⟩, fun c => by cases c⟩
  · refine perm_ok hb (fun _ h3 E3 => ⟨rfl, rfl, fun _ => ⟨rfl, rfl, rfl, (E1.trans E2).trans E3⟩, fun c => by cases c⟩) fun _ _ b0 b1 s3 h3 E3 O3 => ⟨rfl, rfl, fun c => ?_, fun _ => ?_⟩
    all_goals
      obtain ⟨c1, v1, q1, e1⟩ := digs_ok n.toNat a a0
      obtain ⟨c2, v2, q2, e2⟩ := digs_ok n.toNat b b0
      have l2 := RI.len O2.rs
      have l3 := RI.len O3.rs
      rw [unc_len, c1] at l2
      rw [unc_len, c2] at l3
    · exfalso
      simp only [isNil, Bool.not_true, Bool.false_or, Bool.not_eq_true', decide_eq_false_iff_not] at c
      omega
    · have f := fact_pos n.toNat
      obtain ⟨w1, w2⟩ := val_bound v1
      obtain ⟨w3, w4⟩ := val_bound v2
      rw [c1] at w2
      rw [c2] at w4
      have z1 : (digs n.toNat a).2 = 0 := by
        rcases Int.lt_or_le 0 (digs n.toNat a).2 with c | c
        · have := Int.mul_le_mul_of_nonneg_left (show (1 : Int) ≤ (digs n.toNat a).2 by omega) (Int.le_of_lt f)
          rw [Int.mul_one] at this; omega
        · omega
      have z2 : (digs n.toNat b).2 = 0 := by
        rcases Int.lt_or_le 0 (digs n.toNat b).2 with c | c
        · have := Int.mul_le_mul_of_nonneg_left (show (1 : Int) ≤ (digs n.toNat b).2 by omega) (Int.le_of_lt f)
          rw [Int.mul_one] at this; omega
        · omega
      rw [z1, Int.mul_zero, Int.add_zero] at e1
      rw [z2, Int.mul_zero, Int.add_zero] at e2
      have E := (E1.trans E2).trans E3
      have R2 : RI h3.size h3 s2 _ := (Rs.ext O2.rs E3 (Nat.le_refl _)).mono E3.1
      have R3 : RI h3.size h3 s3 _ := O3.rs
      have cmp := unc_cmp (c := (digs n.toNat a).1) (d := (digs n.toNat b).1) (rangeI_lt n.toNat) (by rw [rangeI_len, c1]) (by rw [c1, c2]) v1 v2
      have inj := unc_inj (c := (digs n.toNat a).1) (d := (digs n.toNat b).1) (rangeI_lt n.toNat) (by rw [rangeI_len, c1]) (by rw [c1, c2]) v1 v2
      have u1 := unc_len (digs n.toNat a).1 (rangeI n.toNat)
      have u2 := unc_len (digs n.toNat b).1 (rangeI n.toNat)
      rw [c1] at u1
      rw [c2] at u2
      rw [e1, e2] at cmp
      have e12 : (digs n.toNat a).1 = (digs n.toNat b).1 → a = b := fun e => by rw [← e1, ← e2, e]
      generalize unc (rangeI n.toNat) (digs n.toNat a).1 = p at *
      generalize unc (rangeI n.toNat) (digs n.toNat b).1 = q at *
      intro X HX
      have key : ∀ (d i : Nat), i + d = n.toNat → p.take i = q.take i → X (i : Int) := by
        intro d
        induction d with
        | zero =>
          intro i hi ht
          rw [List.take_of_length_le (by omega), List.take_of_length_le (by omega)] at ht
          refine HX _ ⟨fun c => absurd (of_decide_eq_true c) (by omega), fun _ => ⟨?_, E⟩⟩
          exact decide_eq_true (e12 (inj ht))
        | succ d ih =>
          intro i hi ht
          have hp : i < p.length := by omega
          have hq : i < q.length := by omega
          have ep : p[(i : Int).toNat]! = p[i] := by rw [Int.toNat_natCast, getElem!_pos p i hp]
          have eq : q[(i : Int).toNat]! = q[i] := by rw [Int.toNat_natCast, getElem!_pos q i hq]
          refine HX _ ⟨fun _ => RI.ix R2 (by omega) (by omega) fun a1 _ ha1 => ⟨_, ha1, RI.ix R3 (by omega) (by omega) fun a2 _ ha2 => ⟨_, ha2, ?_⟩⟩, fun c => absurd (of_decide_eq_false c) (by omega)⟩
          rw [ep, eq]
          refine ⟨fun c => RI.ix R2 (by omega) (by omega) fun a1 _ ha1 => ⟨_, ha1, RI.ix R3 (by omega) (by omega) fun a2 _ ha2 => ⟨_, ha2, ?_, E⟩⟩, fun c => ?_⟩
          · rw [ep, eq]
            have c : p[i] ≠ q[i] := by simpa using c
            have := cmp i ht p[i] q[i] (List.getElem?_eq_getElem hp) (List.getElem?_eq_getElem hq) c
            rw [decide_eq_decide.2 this]
            exact beq_self_eq_true _
          · have c : p[i] = q[i] := by simpa using c
            rw [w64_of (by omega) (by omega)]
            refine ih (i + 1) (by omega) ?_
            rw [List.take_add_one, List.take_add_one, List.getElem?_eq_getElem hp, List.getElem?_eq_getElem hq, ht, c]
      exact key n.toNat 0 (by omega) (by simp)

theorem sumOf_ok {s : Sl} {l : List Int} {n : Nat} {R : Int → Heap → Prop} (S : RI n h s l) (hz : l.length ≤ 17592186044416) (H : R (w64 l.sum) h) : ref1_SumOf r s h R := by
  apply ref1_SumOf_of
  have sl := S.len
  intro X HX
  have key : ∀ (d i : Nat), i + d = l.length → X (w64 (l.take i).sum) (i : Int) := by
    intro d
    induction d with
    | zero =>
      intro i hi
      rw [List.take_of_length_le (by omega)]
      exact HX _ _ ⟨fun c => absurd (of_decide_eq_true c) (by omega), fun _ => H⟩
    | succ d ih =>
      intro i hi
      have hil : i < l.length := by omega
      have ex : l[(i : Int).toNat]! = l[i] := by rw [Int.toNat_natCast, getElem!_pos l i hil]
      have e : l.take (i + 1) = l.take i ++ [l[i]] := by rw [List.take_add_one, List.getElem?_eq_getElem hil]; rfl
      refine HX _ _ ⟨fun _ => RI.ix S (by omega) (by omega) fun p _ hp => ⟨_, hp, ?_⟩, fun c => absurd (of_decide_eq_false c) (by omega)⟩
      rw [ex]
      dsimp only
      rw [w64_sumr, w64_of (n := (i : Int) + 1) (by omega) (by omega)]
      have := ih (i + 1) (by omega)
      rw [e, List.sum_append] at this
      simpa using this
  have := key l.length 0 (by omega)
  rw [List.take_zero, List.sum_nil, w64_of (by decide) (by decide)] at this
  exact this
theorem back_law {p1 : Sl} {p : List Int} (P : RI h.size h p1 p) : law5_InvBack r p1 h fun y h' => y = true ∧ Ext h.size h h' := by
  apply law5_InvBack_of
  have pl := P.len
  refine vsorted_ok fun h1 E1 => ⟨fun c => (by cases c), fun _ => ?_⟩
  have P1 := P.ext E1 (Nat.le_refl _)
  refine lehmer_ok P1 E1.1 (fun q => ⟨rfl, fun _ => ?_, fun c => by cases c⟩) (fun q q2 => ⟨rfl, fun _ => ?_, fun c => by cases c⟩) fun h20 hp s3 h2 E2 O2 => ⟨rfl, fun c => (by cases c), fun _ => ?_⟩
  · exact check_ok P1 E1.1 (fun _ => ⟨rfl, rfl, E1⟩) (fun c _ => by omega) fun c _ => by omega
  · exact check_ok P1 E1.1 (fun _ => ⟨rfl, rfl, E1⟩) (fun _ _ => ⟨rfl, rfl, E1⟩) fun _ c => absurd c q2
  · have hl := leh_len p
    have hv := leh_val p
    have E02 := E1.trans E2
    refine order_ok O2.rs (Nat.le_refl _) (fun c => by omega) (fun _ c => absurd hv c) fun _ _ s8 h4 E4 O4 => ?_
    rw [hl, unc_leh p _ (rangeI_lt _) hp.perm.symm] at O4
    have E04 := E02.trans E4
    refine rank_ok (P.ext E04 (Nat.le_refl _)) E04.1 (fun c => by omega) (fun _ c => absurd hp c) fun _ _ h5 E5 => ?_
    obtain ⟨v0, v1⟩ := val_bound hv
    rw [hl] at v1
    have f20 : fact p.length ≤ fact 20 := fact_mono h20
    have e20 := fact_20
    rw [pl]
    refine perm_ok (by omega) (fun c => ?_) fun _ _ _ _ s12 h6 E6 O6 => ?_
    · exfalso
      rw [Int.toNat_natCast] at c
      omega
    rw [Int.toNat_natCast] at O6
    obtain ⟨d1, d2, d3, d4⟩ := digs_ok p.length (val (leh p)) v0
    have f := fact_pos p.length
    obtain ⟨x0, x1⟩ := val_bound d2
    rw [d1] at x1
    have z : (digs p.length (val (leh p))).2 = 0 := by
      rcases Int.lt_or_le 0 (digs p.length (val (leh p))).2 with c | c
      · have := Int.mul_le_mul_of_nonneg_left (show (1 : Int) ≤ (digs p.length (val (leh p))).2 by omega) (Int.le_of_lt f)
        rw [Int.mul_one] at this; omega
      · omega
    rw [z, Int.mul_zero, Int.add_zero] at d4
    rw [val_inj (by rw [d1, hl]) d2 hv d4, unc_leh p _ (rangeI_lt _) hp.perm.symm] at O6
    have E46 := E5.trans E6
    have E06 := E04.trans E46
    have P6 := (P.ext E06 (Nat.le_refl _)).mono E06.1
    refine same_Ints_ok ((Rs.ext O4.rs E46 (Nat.le_refl _)).mono E46.1 : RI h6.size h6 s8 p) P6 (by omega) ?_
    refine same_Ints_ok O6.rs P6 (by omega) ?_
    rw [decide_eq_true rfl]
    intro J HJ
    refine ⟨rfl, fun _ => ⟨rfl, fun _ => ⟨rfl, fun _ => ⟨fun _ => ⟨fun _ => ?_, fun c => by cases c⟩, fun c => by cases c⟩, fun c => by cases c⟩, fun c => by cases c⟩, fun c => by cases c⟩
    have E26 := E4.trans E46
    refine sumOf_ok (Rs.ext O2.rs E26 (Nat.le_refl _)) (by omega) ?_
    refine count_ok P6 (Nat.le_refl _) (by omega) fun h11 E11 => HJ _ _ ⟨?_, E06.trans E11⟩
    rw [leh_sum, decide_eq_true rfl]

theorem topranks_law {l1 : Sl} {l : List Int} (S : RI h.size h l1 l) (hz : l.length ≤ 17592186044415) (hr : ∀ x ∈ l, -9223372036854775808 ≤ x) : top_TopRanks r l1 h fun y h' => y = true ∧ Ext h.size h h' := by
  apply top_TopRanks_of
  have sl := S.len
  refine New.cells fun h1 E1 z1 B1 => New.cells (cs := [iV 3, iV 1, iV 2]) fun h2 E2 z2 B2 => ?_
  refine count_ok (n := h2.size) (l := [3, 1, 2]) (RI.of_blk (l := [3, 1, 2]) (c := 3) B2 (by omega) (List.prefix_refl _) (by decide)) (Nat.le_refl _) (by decide) fun h3 E3 => ?_
  rw [inv_test]
  have E03 := (E1.trans E2).trans E3
  intro X HX
  have key : ∀ (d i : Nat) (h4 : Heap) (q : Option Addr) (u : List Int), i + d = l.length → Fw h h4 → Blk h4 h.size [.pointer q] → Tr (Bs (fun _ => True) h.size) h4 q u → Up u → u.Perm (l.take i) → X (w64 (inv (l.take i) : Int)) (i : Int) h4 := by
    intro d
    induction d with
    | zero =>
      intro i h4 q u hi E4 B4 T4 hu hp
      rw [List.take_of_length_le (by omega)] at hp ⊢
      have ul := hp.length_eq
      refine HX _ _ _ ⟨fun c => absurd (of_decide_eq_true c) (by omega), fun _ => ?_⟩
      intro J HJ
      refine ⟨fun _ => count_ok (S.ext E4 (Nat.le_refl _)) E4.1 (by omega) fun h9 E9 => ⟨fun _ => ⟨_, (E9.blk B4).ld 0 rfl, oints_ok (T4.fw E9) (by omega) fun s10 h10 E10 O10 => HJ _ _ ⟨?_, (E4.trans E9).trans E10⟩⟩, fun c => absurd rfl (of_decide_eq_false c)⟩, fun c => absurd rfl (of_decide_eq_false c)⟩
      have := O10.len
      rw [List.length_map] at this
      exact decide_eq_true (by omega)
    | succ d ih =>
      intro i h4 q u hi E4 B4 T4 hu hp
      have hil : i < l.length := by omega
      have ul := hp.length_eq
      rw [List.length_take] at ul
      have ex : l[(i : Int).toNat]! = l[i] := by rw [Int.toNat_natCast, getElem!_pos l i hil]
      have e : l.take (i + 1) = l.take i ++ [l[i]] := by rw [List.take_add_one, List.getElem?_eq_getElem hil]; rfl
      have lt4 := B4.lt
      refine HX _ _ _ ⟨fun _ => ⟨_, B4.ld 0 rfl, RI.ix (S.ext E4 (Nat.le_refl _)) (by omega) (by omega) fun p _ hp0 => ⟨_, hp0, ?_⟩⟩, fun c => absurd (of_decide_eq_false c) (by omega)⟩
      rw [ex]
      refine obetween_ok T4 hu (by omega) (fun b hb => ⟨trivial, by omega⟩) fun s5 h5 E5 O5 => ⟨_, (E5.blk B4).ld 0 rfl, RI.ix (S.ext (E4.trans E5) (Nat.le_refl _)) (by omega) (by omega) fun p _ hp0 => ⟨_, hp0, ?_⟩⟩
      rw [ex]
      have a5 := E5.1
      refine oinsert_ok (T4.fw E5) hu (by omega) (fun b hb => ⟨trivial, by omega⟩) fun q6 h6 E6 T6 => ?_
      refine St.whole (E6.blk (E5.blk B4)) rfl rfl fun h7 B7 o7 z7 => ?_
      have l5 := O5.len
      rw [List.length_map] at l5
      -- how many are greater
      have hcnt : ((btw (-9223372036854775808) l[i] u).length : Int) + (((l.take i).filter fun y => decide (l[i] < y)).length : Int) = (i : Int) := by
        have a1 : (btw (-9223372036854775808) l[i] u).length = ((l.take i).filter fun y => !decide (l[i] < y)).length := by
          have : btw (-9223372036854775808) l[i] u = u.filter fun y => !decide (l[i] < y) := by
            unfold btw
            apply List.filter_congr
            intro y hy
            have hm : y ∈ l := List.mem_of_mem_take (hp.mem_iff.1 hy)
            have := hr y hm
            apply Bool.eq_iff_iff.2
            simp; omega
          rw [this]
          exact (hp.filter _).length_eq
        have a2 := (List.filter_append_perm (fun y => decide (l[i] < y)) (l.take i)).length_eq
        rw [List.length_append, List.length_take] at a2
        omega
      have ew : w64 (w64 (inv (l.take i) : Int) + w64 ((i : Int) - (s5.len : Int))) = w64 (inv (l.take (i + 1)) : Int) := by
        rw [w64_sum, e, inv_snoc]
        congr 1
        omega
      rw [ew, w64_of (n := (i : Int) + 1) (by omega) (by omega)]
      refine ih (i + 1) h7 q6 _ (by omega) (((E4.trans E5).trans E6).over (Nat.le_refl _) o7 z7) B7 (T6.to (To.over (fun e => e.2 rfl) o7 z7)) (ins_up hu) ?_
      rw [e]
      exact (ins_perm _ u).trans ((hp.cons _).trans (List.perm_append_singleton _ _).symm)
  have := key l.length 0 h3 none [] (by omega) E03 ((E2.trans E3).blk B1) (Or.Tr.nil _ _) List.Pairwise.nil (by simp)
  rw [List.take_zero, show w64 (inv ([] : List Int) : Int) = 0 from w64_of (by decide) (by decide)] at this
  exact this
end
end Go.Proofs.Ytcafckgflpmfgaa
