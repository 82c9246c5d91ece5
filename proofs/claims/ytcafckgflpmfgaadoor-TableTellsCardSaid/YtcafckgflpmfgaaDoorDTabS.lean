/- A table of least places: the law 'TableTells'. -/
import Derived.Test.YtcafckgflpmfgaaDoorDTabR
namespace Go.Proofs.YtcafckgflpmfgaaDoor
open Go Go.RowKit Go.Tw Go.Tab
set_option linter.unusedVariables false
section
variable {r : World} {h : Heap} {b : Nat} {l : List Int}
theorem told_err {rows cl : Sl} {i j : Int} {f : Value} {R : Int → Value → Heap → Prop} (h0 : hcell h (ad b 0) = some (Sl.v cl)) (hc : cl.len = l.length) (H1 : ¬ (0 ≤ i ∧ i ≤ j ∧ j ≤ l.length) → R 0 (Ev 1) h) (H2 : (0 ≤ i ∧ i ≤ j ∧ j ≤ l.length) → i = j ∧ R 0 (Ev 2) h) : table_Table_told r (some (ad b 0)) rows i j f h R := by
  apply table_Table_told_of
  intro J HJ
  have bad : ¬ (0 ≤ i ∧ i ≤ j ∧ j ≤ l.length) → J true := fun c => HJ _ ⟨fun _ => H1 c, fun c => by cases c⟩
  have good : (0 ≤ i ∧ i ≤ j ∧ j ≤ l.length) → J false := fun c => HJ _ ⟨fun c => (by cases c), fun _ => ⟨fun _ => (H2 c).2, fun q => absurd (H2 c).1 (of_decide_eq_false q)⟩⟩
  have h0' : hcell h (Addr.add (ad b 0) 0) = some (Sl.v cl) := by rw [ad_add]; exact h0
  refine ⟨fun q => bad (by have := of_decide_eq_true q; omega), fun q => ⟨fun q2 => bad (by have := of_decide_eq_true q2; omega), fun q2 => ⟨_, rfl, _, h0', ?_⟩⟩⟩
  have q := of_decide_eq_false q
  have q2 := of_decide_eq_false q2
  dsimp only
  by_cases q3 : (cl.len : Int) < j
  · rw [decide_eq_true q3]; exact bad (by omega)
  · rw [decide_eq_false q3]; exact good (by omega)
theorem least_err {i j : Int} {R : Int → Value → Heap → Prop} (T : TabSt h b l) (H1 : ¬ (0 ≤ i ∧ i ≤ j ∧ j ≤ l.length) → R 0 (Ev 1) h) (H2 : (0 ≤ i ∧ i ≤ j ∧ j ≤ l.length) → i = j ∧ R 0 (Ev 2) h) : table_Table_Least r (some (ad b 0)) i j h R := by
  apply table_Table_Least_of
  obtain ⟨cl, a1, a2⟩ := T.c0
  obtain ⟨s, ss, b1, _⟩ := T.c1
  exact ⟨_, rfl, _, by rw [ad_add]; exact b1, told_err a1 a2.len H1 H2⟩
theorem most_err {i j : Int} {R : Int → Value → Heap → Prop} (T : TabSt h b l) (H1 : ¬ (0 ≤ i ∧ i ≤ j ∧ j ≤ l.length) → R 0 (Ev 1) h) (H2 : (0 ≤ i ∧ i ≤ j ∧ j ≤ l.length) → i = j ∧ R 0 (Ev 2) h) : table_Table_Most r (some (ad b 0)) i j h R := by
  apply table_Table_Most_of
  obtain ⟨cl, a1, a2⟩ := T.c0
  obtain ⟨s, ss, b1, _⟩ := T.c2
  exact ⟨_, rfl, _, by rw [ad_add]; exact b1, told_err a1 a2.len H1 H2⟩
theorem new_full {l1 : Sl} {n : Nat} {R : Option Addr → Value → Heap → Prop} (hl : RI n h l1 l) (hll : 5000 < l.length) (H : R none (Ev 4) h) : table_New r l1 h R := by
  apply table_New_of
  have := hl.len
  exact ⟨fun _ => H, fun c => absurd (of_decide_eq_false c) (by omega)⟩
theorem spot_ok {s : Sl} {n i j : Nat} {most : Bool} {R : Int → Heap → Prop} (S : RI n h s l) (hij : i < j) (hjl : j ≤ l.length) (hz : l.length ≤ 5000) (H : ∀ z, Low (if most then neg_ l else val_ l) i (j - i) z → R (z : Int) h) : ref1_Spot r s i j most h R := by
  apply ref1_Spot_of
  have sl := S.len
  intro X HX
  generalize hv : (if most then neg_ l else val_ l) = v at H
  have key : ∀ (d k z : Nat), k + d = j → i < k → Low v i (k - i) z → X (z : Int) (k : Int) := by
    intro d
    induction d with
    | zero =>
      intro k z hk hik hz2
      obtain rfl : k = j := by omega
      exact HX _ _ ⟨fun c => absurd (of_decide_eq_true c) (by omega), fun _ => H z hz2⟩
    | succ d ih =>
      intro k z hk hik hz2
      have hkl : k < l.length := by omega
      have hzl : z < l.length := by have := hz2.2.1; omega
      have ek : l[(k : Int).toNat]! = l[k]! := by rw [Int.toNat_natCast]
      have ez : l[(z : Int).toNat]! = l[z]! := by rw [Int.toNat_natCast]
      refine HX _ _ ⟨fun _ => ?_, fun c => absurd (of_decide_eq_false c) (by omega)⟩
      intro J9 HJ9 J12 HJ12
      have ew : w64 ((k : Int) + 1) = ((k + 1 : Nat) : Int) := by rw [w64_of (by omega) (by omega)]; omega
      have go : J12 (decide (v k < v z)) := by
        have hp := hz2.join (Low.one v k) (by omega) (by omega) (by omega)
        rw [show k + 1 - i = k + 1 - i from rfl] at hp
        unfold pick at hp
        refine HJ12 _ ⟨fun c => HJ9 _ ?_, fun c => HJ9 _ ?_⟩
        · rw [ew]
          rw [if_pos (of_decide_eq_true c)] at hp
          exact ih (k + 1) k (by omega) (by omega) hp
        · rw [ew]
          rw [if_neg (of_decide_eq_false c)] at hp
          exact ih (k + 1) z (by omega) (by omega) hp
      have hix : ∀ {q : Nat} {K : Addr → Prop}, q < l.length → (∀ p, hcell h p = some (iV l[q]!) → K p) → Ix s (q : Int) 1 K := fun hq hK => RI.ix S (by omega) (by omega) fun p _ hp => hK p (by rw [Int.toNat_natCast] at hp; exact hp)
      refine ⟨fun c => ?_, fun c => ⟨fun _ => ?_, fun c2 => ?_⟩⟩
      · have e : v = neg_ l := by rw [← hv, c]; rfl
        have e1 : (decide (v k < v z)) = decide (l[z]! < l[k]!) := by
          rw [e]; apply decide_eq_decide.2; show 0 - l[k]! < 0 - l[z]! ↔ _; omega
        rw [e1] at go
        refine hix hkl fun p hp => ⟨_, hp, hix hzl fun p2 hp2 => ⟨_, hp2, fun c2 => ?_, fun c2 => ⟨fun c3 => ?_, fun _ => ?_⟩⟩⟩
        · rw [c2] at go; exact go
        · rw [c] at c3; cases c3
        · rw [c2] at go; exact go
      · have e : v = val_ l := by rw [← hv, c]; rfl
        rw [e] at go
        exact hix hkl fun p hp => ⟨_, hp, hix hzl fun p2 hp2 => ⟨_, hp2, go⟩⟩
      · rw [c] at c2; cases c2
  have := key (j - i - 1) (i + 1) i (by omega) (by omega) (by rw [show i + 1 - i = 1 by omega]; exact Low.one v i)
  rw [show w64 ((i : Int) + 1) = ((i + 1 : Nat) : Int) by rw [w64_of (by omega) (by omega)]; omega]
  exact this
theorem tabletells_law {l1 : Sl} {i j : Int} (hg : Er h) (hl1 : RI h.size h l1 l) : law5_TableTells r l1 i j h fun y h' => y = true ∧ Ext h.size h h' := by
  apply law5_TableTells_of
  have sl := hl1.len
  refine tabled_ok fun h1 E1 => ?_
  have hg1 := hg.fw E1
  by_cases hl : 5000 < l.length
  · refine new_full (hl1.ext E1 (Nat.le_refl _)) hl ?_
    intro J8 HJ8
    have ok : J8 4 := by
      refine HJ8 _ (err_ok (n := 4) hg1 fun h3 E3 => ?_)
      intro J HJ
      exact ⟨fun c => (by cases c), fun _ => ⟨fun c => (by cases c), fun _ => ⟨fun _ => HJ _ ⟨fun c => (by cases c), fun _ => ⟨fun _ => ⟨rfl, Fw.trans E1 E3⟩, fun c => by simp at c⟩⟩, fun c => by simp at c⟩⟩⟩
    exact ⟨fun _ => ok, fun c => absurd (of_decide_eq_false c) (by omega)⟩
  · refine new_ok (hl1.ext E1 (Nat.le_refl _)) E1.1 (by omega) fun b h2 T E2 => ?_
    have E02 : Fw h h2 := Fw.trans E1 E2
    have hg2 := hg.fw E02
    intro J8 HJ8
    have ok : J8 0 := by
      refine HJ8 _ (err_ok (n := 0) hg2 fun h3 E3 => ?_)
      have T3 := T.ext E3
      have hg3 := hg2.fw E3
      have E03 : Fw h h3 := E02.trans E3
      intro J16 HJ16
      have go : J16 false := by
        refine HJ16 _ ⟨fun c => (by cases c), fun _ => ⟨fun c => (by simp at c), fun _ => ?_⟩⟩
        apply law5_within_of
        intro x10 hx
        intro J22 HJ22
        have rest : ∀ (ve lo hi : Int), (∀ (h : Heap) (R : Int → Value → Heap → Prop), TabSt h b l → R lo (Ev ve) h → table_Table_Least r (some (ad b 0)) i j h R) → (∀ (h : Heap) (R : Int → Value → Heap → Prop), TabSt h b l → R hi (Ev ve) h → table_Table_Most r (some (ad b 0)) i j h R) → J22 ve lo hi h3 := by
          intro ve lo hi hL hM
          refine HJ22 _ _ _ _ (hL h3 _ T3 (err_ok hg3 fun h7 E7 => hM h7 _ (T3.ext E7) (err_ok (hg3.fw E7) fun h9 E9 => ?_)))
          have T9 := (T3.ext E7).ext E9
          have E09 := (E03.trans E7).trans E9
          intro X HX
          have key : ∀ (d n k : Nat), n ≤ d → n = l.length / 2 ^ k → (∀ q, q < k → 2 ^ q ≤ l.length) → X (k : Int) (n : Int) := by
            intro d
            induction d with
            | zero =>
              intro n k hn he hq
              obtain rfl : n = 0 := by omega
              refine HX _ _ ⟨fun c => (by simp at c), fun _ => ?_⟩
              intro J HJ
              refine ⟨fun _ => ⟨fun _ => ⟨fun _ => ⟨fun _ => ?_, fun c => by simp at c⟩, fun c => by simp at c⟩, fun c => by cases c⟩, fun c => by cases c⟩
              refine rows_ok (m := k) T9 (fun q => ?_) (HJ _ _ ⟨by simp, E09⟩)
              constructor
              · intro h1
                apply Nat.lt_of_not_le; intro h2
                have h3 := Nat.pow_le_pow_right (n := 2) (by omega) h2
                have h4 := Nat.div_eq_zero_iff.1 he.symm
                have := Nat.two_pow_pos k
                omega
              · exact hq q
            | succ d ih =>
              intro n k hn he hq
              by_cases h0 : n = 0
              · exact ih n k (by omega) he hq
              · refine HX _ _ ⟨fun _ => ?_, fun c => absurd (of_decide_eq_false c) (by omega)⟩
                have e1 : w64 ((k : Int) + 1) = ((k + 1 : Nat) : Int) := by
                  have hk : k ≤ 5000 := by
                    rcases Nat.eq_zero_or_pos k with h | h
                    · omega
                    · have := hq (k - 1) (by omega)
                      have := Nat.lt_two_pow_self (n := k - 1)
                      omega
                  rw [w64_of (by omega) (by omega)]; omega
                have hnl : n ≤ l.length := by rw [he]; exact Nat.div_le_self ..
                have e2 : w64 (Int.tdiv (n : Int) 2) = ((n / 2 : Nat) : Int) := by
                  rw [show Int.tdiv (n : Int) 2 = ((n / 2 : Nat) : Int) by rw [Int.tdiv_eq_ediv_of_nonneg (by omega)]; omega, w64_of (by omega) (by omega)]
                rw [e1, e2]
                refine ih (n / 2) (k + 1) (by omega) (by rw [he, Nat.div_div_eq_div_mul, Nat.pow_succ]) fun q hqk => ?_
                rcases Nat.lt_or_ge q k with h | h
                · exact hq q h
                · obtain rfl : q = k := by omega
                  apply Nat.le_of_not_lt; intro h5
                  rw [Nat.div_eq_of_lt h5] at he; omega
          have := key l.length l.length 0 (Nat.le_refl _) (by simp) (fun q hq => by omega)
          rw [sl]; exact this
        by_cases hw : 0 ≤ i ∧ i ≤ j ∧ j ≤ l.length
        · have ex : x10 = true := by rw [hx, sl]; simp; omega
          rw [ex]
          refine ⟨fun c => (by cases c), fun _ => ⟨fun c => ?_, fun c => ?_⟩⟩
          · have c := of_decide_eq_true c
            exact rest 2 0 0 (fun h R T H => least_err T (fun q => absurd hw q) fun _ => ⟨c, H⟩) fun h R T H => most_err T (fun q => absurd hw q) fun _ => ⟨c, H⟩
          · have c := of_decide_eq_false c
            obtain ⟨i', rfl⟩ : ∃ i' : Nat, i = (i' : Int) := ⟨i.toNat, by omega⟩
            obtain ⟨j', rfl⟩ : ∃ j' : Nat, j = (j' : Int) := ⟨j.toNat, by omega⟩
            refine spot_ok (most := false) (hl1.ext E03 (Nat.le_refl _)) (by omega) (by omega) (by omega) fun z hz => ?_
            refine spot_ok (most := true) (hl1.ext E03 (Nat.le_refl _)) (by omega) (by omega) (by omega) fun w hw2 => ?_
            refine rest 0 _ _ (fun h R T H => least_ok T (by omega) (by omega) (by omega) fun z2 hz2 => ?_) fun h R T H => most_ok T (by omega) (by omega) (by omega) fun z2 hz2 => ?_
            · obtain rfl := hz2.uniq hz; exact H
            · obtain rfl := hz2.uniq hw2; exact H
        · have ex : x10 = false := by
            rw [hx, sl]
            cases e : (((decide (0 ≤ i)) && (decide (i ≤ j))) && (decide (j ≤ (l.length : Int)))) with
            | false => rfl
            | true =>
              simp only [Bool.and_eq_true, decide_eq_true_eq] at e
              exact absurd ⟨e.1.1, e.1.2, e.2⟩ hw
          rw [ex]
          exact ⟨fun _ => rest 1 0 0 (fun h R T H => least_err T (fun _ => H) fun q => absurd q hw) fun h R T H => most_err T (fun _ => H) fun q => absurd q hw, fun c => by cases c⟩
      exact ⟨fun c => (by cases c), fun _ => ⟨fun c => (by cases c), fun _ => ⟨fun c => (by simp at c), fun _ => go⟩⟩⟩
    exact ⟨fun c => absurd (of_decide_eq_true c) (by omega), fun _ => ok⟩
end
end Go.Proofs.YtcafckgflpmfgaaDoor
