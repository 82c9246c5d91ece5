/- How much is out of order: the law 'InvTells'. -/
import Derived.Test.YtcafckgflpmfgaaDoorDVInvS
import Derived.Test.YtcafckgflpmfgaaDoorDOften
import Derived.Test.YtcafckgflpmfgaaDoorDWith
import Derived.Test.YtcafckgflpmfgaaDoorDBasP
namespace Go.Proofs.YtcafckgflpmfgaaDoor.Vi
open Go Go.RowKit Go.Tw Go.Many Go.Ord Go.Inv
set_option linter.unusedVariables false
section
variable {r : World} {h : Heap}
theorem rs_nil (n : Nat) (h : Heap) : RI n h Sl.nil [] := ⟨rfl, Nat.le_refl _, .inl rfl⟩
theorem turned_ok {s : Sl} {l : List Int} {n : Nat} {R : Int → Heap → Prop} (S : RI n h s l) (hz : l.length ≤ 17592186044416) (H : R (w64 (inv l : Int)) h) : ref1_Turned r s h R := by
  apply ref1_Turned_of
  have sl := S.len
  intro X HX
  have outer : ∀ (d i : Nat) (a : Int), i + d = l.length → a + (inv (l.drop i) : Int) = inv l → X (w64 a) (i : Int) := by
    intro d
    induction d with
    | zero =>
      intro i a hi ha
      rw [List.drop_of_length_le (by omega)] at ha
      have ha : a = inv l := by simpa [inv] using ha
      rw [ha]
      exact HX _ _ ⟨fun c => absurd (of_decide_eq_true c) (by omega), fun _ => H⟩
    | succ d ih =>
      intro i a hi ha
      have hil : i < l.length := by omega
      have ex : l[(i : Int).toNat]! = l[i] := by rw [Int.toNat_natCast, getElem!_pos l i hil]
      rw [List.drop_eq_getElem_cons hil] at ha
      have ha : a + ((lessN l[i] (l.drop (i + 1)) + inv (l.drop (i + 1)) : Nat) : Int) = inv l := ha
      have ew : w64 ((i : Int) + 1) = ((i + 1 : Nat) : Int) := by rw [w64_of (by omega) (by omega)]; omega
      refine HX _ _ ⟨fun _ => ?_, fun c => absurd (of_decide_eq_false c) (by omega)⟩
      intro Y HY
      rw [ew]
      have inner : ∀ (e k : Nat) (b : Int), k + e = l.length → b + (lessN l[i] (l.drop k) : Int) = a + lessN l[i] (l.drop (i + 1)) → Y (w64 b) (k : Int) := by
        intro e
        induction e with
        | zero =>
          intro k b hk hb
          rw [List.drop_of_length_le (by omega)] at hb
          have hb : b = a + lessN l[i] (l.drop (i + 1)) := by simpa [lessN] using hb
          refine HY _ _ ⟨fun c => absurd (of_decide_eq_true c) (by omega), fun _ => ?_⟩
          rw [ew]
          exact ih (i + 1) b (by omega) (by omega)
        | succ e ihe =>
          intro k b hk hb
          have hkl : k < l.length := by omega
          have ek : l[(k : Int).toNat]! = l[k] := by rw [Int.toNat_natCast, getElem!_pos l k hkl]
          rw [List.drop_eq_getElem_cons hkl, lessN_cons] at hb
          refine HY _ _ ⟨fun _ => ?_, fun c => absurd (of_decide_eq_false c) (by omega)⟩
          intro J HJ
          have ew2 : w64 ((k : Int) + 1) = ((k + 1 : Nat) : Int) := by rw [w64_of (by omega) (by omega)]; omega
          refine RI.ix S (by omega) (by omega) fun p _ hp => ⟨_, hp, RI.ix S (by omega) (by omega) fun p2 _ hp2 => ⟨_, hp2, ?_⟩⟩
          rw [ex, ek]
          refine ⟨fun c => HJ _ ?_, fun c => HJ _ ?_⟩
          · rw [if_pos (of_decide_eq_true c)] at hb
            rw [w64_sumr, ew2]
            exact ihe (k + 1) _ (by omega) (by omega)
          · rw [if_neg (of_decide_eq_false c)] at hb
            rw [ew2]
            exact ihe (k + 1) _ (by omega) (by omega)
      exact inner (l.length - (i + 1)) (i + 1) a (by omega) rfl
  have := outer l.length 0 0 (by omega) (by simp)
  exact this
theorem fault_ok {s : Sl} {l : List Int} {n : Nat} {R : Int → Heap → Prop} (S : RI n h s l) (H0 : 20 < l.length → R 4 h) (H1 : l.length ≤ 20 → ¬ IsP l → R 3 h) (H2 : l.length ≤ 20 → IsP l → R 0 h) : ref1_OrderFault r s h R := by
  apply ref1_OrderFault_of
  have sl := S.len
  refine ⟨fun c => H0 (by have := of_decide_eq_true c; omega), fun c => ?_⟩
  have h20 : l.length ≤ 20 := by have := of_decide_eq_false c; omega
  intro X HX
  have key : ∀ (d i : Nat), i + d = l.length → (∀ x ∈ l.take i, 0 ≤ x ∧ x < l.length) → (l.take i).Nodup → X (i : Int) h := by
    intro d
    induction d with
    | zero =>
      intro i hi hr hd
      rw [List.take_of_length_le (by omega)] at hr hd
      exact HX _ _ ⟨fun c => absurd (of_decide_eq_true c) (by omega), fun _ => H2 h20 ⟨hr, hd⟩⟩
    | succ d ih =>
      intro i hi hr hd
      have hil : i < l.length := by omega
      have ex : l[(i : Int).toNat]! = l[i] := by rw [Int.toNat_natCast, getElem!_pos l i hil]
      have e : l.take (i + 1) = l.take i ++ [l[i]] := by rw [List.take_add_one, List.getElem?_eq_getElem hil]; rfl
      have hm : l[i] ∈ l := List.getElem_mem hil
      refine HX _ _ ⟨fun _ => ?_, fun c => absurd (of_decide_eq_false c) (by omega)⟩
      intro J HJ
      have bad : ¬ IsP l → J true h := fun hb => HJ _ _ ⟨fun _ => H1 h20 hb, fun c => by cases c⟩
      refine RI.ix S (by omega) (by omega) fun p _ hp => ⟨_, hp, ?_⟩
      rw [ex]
      refine ⟨fun c => bad fun P => ?_, fun c => RI.ix S (by omega) (by omega) fun p _ hp => ⟨_, hp, ?_⟩⟩
      · have := of_decide_eq_true c; have := P.rng _ hm; omega
      rw [ex]
      refine ⟨fun c2 => bad fun P => ?_, fun c2 => ?_⟩
      · have := of_decide_eq_true c2; have := P.rng _ hm; omega
      · have c := of_decide_eq_false c
        have c2 := of_decide_eq_false c2
        refine Sub.in_ (lo := 0) (hi := i) S (by omega) (by omega) fun t T => ?_
        rw [List.drop_zero, Nat.sub_zero] at T
        refine RI.ix S (by omega) (by omega) fun p _ hp => ⟨_, hp, ?_⟩
        rw [ex]
        refine often_ok T (by rw [List.length_take]; omega) ?_
        by_cases hc : l[i] ∈ l.take i
        · have := List.count_pos_iff.2 hc
          rw [decide_eq_true (by omega)]
          refine bad fun P => ?_
          have := P.nd
          rw [← List.take_append_drop i l, List.drop_eq_getElem_cons hil] at this
          exact (List.nodup_append.1 this).2.2 _ hc _ (List.mem_cons_self (l := l.drop (i + 1))) rfl
        · have := List.count_eq_zero.2 hc
          rw [decide_eq_false (by omega)]
          refine HJ _ _ ⟨fun c => (by cases c), fun _ => ?_⟩
          rw [w64_of (by omega) (by omega)]
          refine ih (i + 1) (by omega) ?_ ?_
          · rw [e]
            intro x hx
            rcases List.mem_append.1 hx with hx | hx
            · exact hr x hx
            · simp at hx; subst hx; omega
          · rw [e]
            exact List.nodup_append.2 ⟨hd, by simp, fun a ha b hb e => by simp at hb; subst hb; subst e; exact hc ha⟩
  exact key l.length 0 (by omega) (by simp) (by simp)
theorem leh_get : ∀ (l : List Int) (i : Nat) (hi : i < l.length), (leh l)[i]? = some (lessN l[i] (l.drop (i + 1)) : Int)
  | [], i, hi => by simp at hi
  | x :: l, 0, _ => by simp [leh]
  | x :: l, i + 1, hi => by
    have := leh_get l i (by simpa using hi)
    simpa [leh] using this
theorem lehOf_ok {s : Sl} {l : List Int} {n : Nat} {R : Sl → Heap → Prop} (S : RI n h s l) (hn : n ≤ h.size) (h20 : l.length ≤ 20) (H : ∀ s' h', Fw h h' → Own h.size 1 h' s' ((leh l).map iV) → R s' h') : ref1_LehmerOf r s h R := by
  apply ref1_LehmerOf_of
  have sl := S.len
  intro X HX
  have key : ∀ (d i : Nat) (so : Sl) (h1 : Heap), i + d = l.length → Fw h h1 → Own h.size 1 h1 so (((leh l).take i).map iV) → X so (i : Int) h1 := by
    intro d
    induction d with
    | zero =>
      intro i so h1 hi E O
      rw [List.take_of_length_le (by rw [leh_len]; omega)] at O
      exact HX _ _ _ ⟨fun c => absurd (of_decide_eq_true c) (by omega), fun _ => H so h1 E O⟩
    | succ d ih =>
      intro i so h1 hi E O
      have hil : i < l.length := by omega
      have ex : l[(i : Int).toNat]! = l[i] := by rw [Int.toNat_natCast, getElem!_pos l i hil]
      have ew : w64 ((i : Int) + 1) = ((i + 1 : Nat) : Int) := by rw [w64_of (by omega) (by omega)]; omega
      refine HX _ _ _ ⟨fun _ => ?_, fun c => absurd (of_decide_eq_false c) (by omega)⟩
      rw [ew, sl]
      refine Sub.in_ (S.ext E hn) (by omega) (by omega) fun t T => ?_
      rw [List.take_of_length_le (by simp)] at T
      refine RI.ix (S.ext E hn) (by omega) (by omega) fun p _ hp => ⟨_, hp, ?_⟩
      rw [ex]
      refine below_ok T (by simp; omega) ?_
      have lo := O.len
      rw [List.length_map, List.length_take, leh_len] at lo
      refine App.push (cs := [iV (lessN l[i] (l.drop (i + 1)) : Int)]) O rfl rfl (by simp [one]) E.1 (by omega) fun s2 h2 G => ?_
      refine ih (i + 1) s2 h2 (by omega) (E.trans' G.ext) ?_
      have e : (leh l).take (i + 1) = (leh l).take i ++ [(lessN l[i] (l.drop (i + 1)) : Int)] := by rw [List.take_add_one, leh_get l i hil]; rfl
      rw [e, List.map_append]; exact G.own
  exact key l.length 0 Sl.nil h (by omega) (Fw.refl h) (Own.nil _ _ _)
theorem fact_fit {k : Nat} (hk : k ≤ 20) : 0 < fact k ∧ fact k ≤ 2432902008176640000 := ⟨fact_pos k, by have := fact_mono hk; rw [fact_20] at this; exact this⟩
theorem orders_ok {m : Nat} {R : Int → Heap → Prop} (hm : m ≤ 20) (H : R (fact m) h) : ref1_Orders r (m : Int) h R := by
  apply ref1_Orders_of
  intro X HX
  have key : ∀ (d j : Nat), 1 ≤ j → j + d = m → X (fact j) ((j + 1 : Nat) : Int) := by
    intro d
    induction d with
    | zero =>
      intro j h1 hj
      obtain rfl : j = m := by omega
      exact HX _ _ ⟨fun c => absurd (of_decide_eq_true c) (by omega), fun _ => H⟩
    | succ d ih =>
      intro j h1 hj
      refine HX _ _ ⟨fun _ => ?_, fun c => absurd (of_decide_eq_false c) (by omega)⟩
      have f := fact_fit (show j + 1 ≤ 20 by omega)
      have e : fact j * ((j + 1 : Nat) : Int) = fact (j + 1) := Int.mul_comm _ _
      rw [e, w64_of (n := fact (j + 1)) (by omega) (by omega), w64_of (n := ((j + 1 : Nat) : Int) + 1) (by omega) (by omega)]
      exact ih (j + 1) (by omega) (by omega)
  rcases Nat.eq_zero_or_pos m with h0 | h0
  · subst h0
    exact HX _ _ ⟨fun c => absurd (of_decide_eq_true c) (by decide), fun _ => H⟩
  · exact key (m - 1) 1 (Nat.le_refl _) (by omega)
theorem rankOf_ok {s : Sl} {l : List Int} {n : Nat} {R : Int → Heap → Prop} (S : RI n h s l) (h20 : l.length ≤ 20) (H : R (val (leh l)) h) : ref1_RankOf r s h R := by
  apply ref1_RankOf_of
  have sl := S.len
  obtain ⟨v0, v1⟩ := val_bound (leh_val l)
  rw [leh_len] at v1
  have f20 := fact_fit h20
  intro X HX
  have key : ∀ (d i : Nat) (a : Int), i + d = l.length → 0 ≤ a → a + val (leh (l.drop i)) = val (leh l) → X a (i : Int) h := by
    intro d
    induction d with
    | zero =>
      intro i a hi h0 ha
      rw [List.drop_of_length_le (by omega)] at ha
      have ha : a = val (leh l) := by simpa [leh, val] using ha
      rw [ha]
      exact HX _ _ _ ⟨fun c => absurd (of_decide_eq_true c) (by omega), fun _ => H⟩
    | succ d ih =>
      intro i a hi h0 ha
      have hil : i < l.length := by omega
      have ex : l[(i : Int).toNat]! = l[i] := by rw [Int.toNat_natCast, getElem!_pos l i hil]
      have ew : w64 ((i : Int) + 1) = ((i + 1 : Nat) : Int) := by rw [w64_of (by omega) (by omega)]; omega
      have el : (l.drop (i + 1)).length = d := by rw [List.length_drop]; omega
      rw [List.drop_eq_getElem_cons hil] at ha
      have ha : a + ((lessN l[i] (l.drop (i + 1)) : Int) * fact (leh (l.drop (i + 1))).length + val (leh (l.drop (i + 1)))) = val (leh l) := ha
      rw [leh_len, el] at ha
      refine HX _ _ _ ⟨fun _ => ?_, fun c => absurd (of_decide_eq_false c) (by omega)⟩
      rw [ew, sl]
      refine Sub.in_ S (by omega) (by omega) fun t T => ?_
      rw [List.take_of_length_le (by simp)] at T
      refine RI.ix S (by omega) (by omega) fun p _ hp => ⟨_, hp, ?_⟩
      rw [ex]
      refine below_ok T (by simp; omega) ?_
      have ed : w64 (w64 ((l.length : Int) - 1) - (i : Int)) = (d : Int) := by rw [w64_of (n := (l.length : Int) - 1) (by omega) (by omega), w64_of (by omega) (by omega)]; omega
      rw [ed]
      refine orders_ok (by omega) ?_
      have p0 := (val_bound (leh_val (l.drop (i + 1)))).1
      have p1 : 0 ≤ (lessN l[i] (l.drop (i + 1)) : Int) * fact d := Int.mul_nonneg (by omega) (Int.le_of_lt (fact_pos d))
      show X (w64 (a + w64 ((lessN l[i] (l.drop (i + 1)) : Int) * fact d))) _ h
      generalize (lessN l[i] (l.drop (i + 1)) : Int) * fact d = y at *
      rw [w64_of (n := y) (by omega) (by omega), w64_of (n := a + y) (by omega) (by omega)]
      exact ih (i + 1) _ (by omega) (by omega) (by omega)
  exact key l.length 0 0 (by omega) (Int.le_refl _) (by simp)
theorem orderOf_ok {s : Sl} {c : List Int} {n : Nat} {R : Sl → Int → Heap → Prop} (S : RI n h s c) (hn : n ≤ h.size) (H0 : 20 < c.length → R Sl.nil 4 h) (H1 : c.length ≤ 20 → ¬ Val c → ∀ h', Fw h h' → R Sl.nil 3 h')
    (H2 : c.length ≤ 20 → Val c → ∀ s' h', Fw h h' → Own h.size 1 h' s' ((unc (rangeI c.length) c).map iV) → R s' 0 h') : ref1_OrderOf r s h R := by
  apply ref1_OrderOf_of
  have sl := S.len
  refine ⟨fun q => H0 (by have := of_decide_eq_true q; omega), fun q => ?_⟩
  have h20 : c.length ≤ 20 := by have := of_decide_eq_false q; omega
  intro X HX
  have key1 : ∀ (d i : Nat) (so : Sl) (h1 : Heap), i + d = c.length → Fw h h1 → Own h.size 1 h1 so ((rangeI i).map iV) → X so (i : Int) h1 := by
    intro d
    induction d with
    | succ d ih =>
      intro i so h1 hi E1 O
      refine HX _ _ _ ⟨fun _ => ?_, fun q => absurd (of_decide_eq_false q) (by omega)⟩
      have lo := O.len
      rw [List.length_map, rangeI_len] at lo
      refine App.push (cs := [iV (i : Int)]) O rfl rfl (by simp [one]) E1.1 (by omega) fun s2 h2 G => ?_
      rw [w64_of (by omega) (by omega)]
      refine ih (i + 1) s2 h2 (by omega) (E1.trans' G.ext) ?_
      have e : rangeI (i + 1) = rangeI i ++ [(i : Int)] := by simp [rangeI, List.range_succ]
      rw [e, List.map_append]; exact G.own
    | zero =>
      intro i so h1 hi E1 O
      obtain rfl : i = c.length := by omega
      refine HX _ _ _ ⟨fun q => absurd (of_decide_eq_true q) (by omega), fun _ => ?_⟩
      intro Y HY
      have key2 : ∀ (d i : Nat) (L done : List Int) (sl so : Sl) (h2 : Heap), i + d = c.length → L.length = d → done.length = i → Fw h h2 → Fam h.size h2 [(1, sl, L.map iV), (1, so, done.map iV)] → (Val (c.drop i) ↔ Val c) → (Val c → done ++ unc L (c.drop i) = unc (rangeI c.length) c) → Y sl so (i : Int) h2 := by
        intro d
        induction d with
        | zero =>
          intro i L done sl so h2 hi hL hd E2 F hv he
          refine HY _ _ _ _ ⟨fun q => absurd (of_decide_eq_true q) (by omega), fun _ => ?_⟩
          have v : Val c := hv.1 (by rw [List.drop_of_length_le (by omega)]; trivial)
          refine H2 h20 v so h2 E2 ?_
          have := he v
          rw [List.drop_of_length_le (by omega)] at this
          rw [← this]
          simpa [unc] using F.ownI (j := 1) rfl
        | succ d ih =>
          intro i L done sl so h2 hi hL hd E2 F hv he
          have hil : i < c.length := by omega
          have ex : c[(i : Int).toNat]! = c[i] := by rw [Int.toNat_natCast, getElem!_pos c i hil]
          have ed : c.drop i = c[i] :: c.drop (i + 1) := List.drop_eq_getElem_cons hil
          have el : (c.drop (i + 1)).length = d := by rw [List.length_drop]; omega
          have ll := (F.ownI (j := 0) rfl).len
          rw [List.length_map] at ll
          have ll : sl.len = d + 1 := by rw [← hL]; omega
          refine HY _ _ _ _ ⟨fun _ => ?_, fun q => absurd (of_decide_eq_false q) (by omega)⟩
          intro J HJ
          have bad : ¬ (0 ≤ c[i] ∧ c[i] < (d : Int) + 1) → J true := fun hb => HJ _ ⟨fun _ => H1 h20 (fun v => by
            have := hv.2 v
            rw [ed] at this
            obtain ⟨a, b, _⟩ := this
            rw [el] at b
            exact hb ⟨a, b⟩) h2 E2, fun q => by cases q⟩
          have good : (0 ≤ c[i] ∧ c[i] < (d : Int) + 1) → J false := fun q => by
            refine HJ _ ⟨fun q => (by cases q), fun _ => ?_⟩
            refine RI.ix (S.ext E2 hn) (by omega) (by omega) fun p _ hp => ⟨_, hp, ?_⟩
            rw [ex]
            obtain ⟨k, hk⟩ : ∃ k : Nat, c[i] = (k : Int) := ⟨c[i].toNat, by omega⟩
            rw [hk]
            have hkl : k < L.length := by omega
            refine own_int (F.ownI (j := 0) rfl) hkl fun b hb hc0 => ⟨_, hc0, ?_⟩
            refine Fam.push F (j := 1) rfl rfl (by rfl) E2.1 (by simp; omega) fun s6 h6 F6 E6 => ?_
            have E06 : Fw h h6 := E2.trans' E6
            refine RI.ix (S.ext E06 hn) (by omega) (by omega) fun p _ hp => ⟨_, hp, ?_⟩
            rw [ex, hk]
            have O6 : Own h.size 1 h6 sl (L.map iV) := F6.ownI (j := 0) rfl
            have Q6 : Own h.size 1 h6 s6 ((done ++ [L[k]!]).map iV) := by simpa using F6.ownI (j := 1) rfl
            have P6 : RI h6.size h6 sl L := Rs.mono O6.rs (Nat.le_refl _)
            refine without_ok P6 (Nat.le_refl _) hkl (by omega) fun s7 h7 E7 O7 => ?_
            rw [w64_of (n := (i : Int) + 1) (by omega) (by omega)]
            have hL0 : L[k]! = L[k] := getElem!_pos L k hkl
            have Q7 := Q6.ext E7
            rw [← List.eraseIdx_eq_take_drop_succ] at O7
            have F7 : Fam h.size h7 [(1, s7, (L.eraseIdx k).map iV), (1, s6, (done ++ [L[k]!]).map iV)] :=
              ((Fam.none _ _).cons Q7 fun x hx => by cases hx).cons (O7.mono E06.1) fun x hx p q hp hq e => by
                simp at hx; subst hx
                have a1 := (O7.lt hp).2
                have a2 := (Q6.lt hq).1
                omega
            refine ih (i + 1) (L.eraseIdx k) (done ++ [L[k]!]) s7 s6 h7 (by omega) (by rw [List.length_eraseIdx, if_pos hkl]; omega) (by simp; omega) (E06.trans E7) F7 ?_ fun v => ?_
            · rw [← hv, ed]
              constructor
              · intro v; exact ⟨by omega, by rw [el]; omega, v⟩
              · intro v; exact v.2.2
            · rw [← he v, ed, hk]
              simp [unc]
          refine RI.ix (S.ext E2 hn) (by omega) (by omega) fun p _ hp => ⟨_, hp, ?_⟩
          rw [ex]
          refine ⟨fun q => bad (by have := of_decide_eq_true q; omega), fun q => RI.ix (S.ext E2 hn) (by omega) (by omega) fun p _ hp => ⟨_, hp, ?_⟩⟩
          have q := of_decide_eq_false q
          rw [ex]
          dsimp only
          by_cases q2 : ((sl.len : Nat) : Int) ≤ c[i]
          · rw [decide_eq_true q2]; exact bad (by omega)
          · rw [decide_eq_false q2]; exact good (by omega)
      exact key2 c.length 0 (rangeI c.length) [] so Sl.nil h1 (by omega) (rangeI_len _) rfl E1 (((Fam.none _ _).empty 1).cons O fun x hx => by simp at hx; subst hx; exact (Dis.nil _).symm) (by simp) (fun _ => by simp)
  exact key1 c.length 0 Sl.nil h (by omega) (Fw.refl h) (Own.nil _ _ _)

/-- what is told of an order -/
structure PF (r : World) (h : Heap) (p : Sl) (e : Int) (codes : List Int) (place sign : Int) : Prop where
  fault : ∀ (g : Heap) (R : Int → Heap → Prop), Fw h g → R e g → ref1_OrderFault r p g R
  check : ∀ (g : Heap) (R : Value → Heap → Prop), Fw h g → R (Ev e) g → inv_Check r p g R
  lehmer : ∀ (g : Heap) (R : Sl → Value → Heap → Prop), Fw h g → (∀ s g', Fw g g' → RI g'.size g' s codes → R s (Ev e) g') → inv_Lehmer r p g R
  rank : ∀ (g : Heap) (R : Int → Value → Heap → Prop), Fw h g → (∀ g', Fw g g' → R place (Ev e) g') → inv_Rank r p g R
  sgn : ∀ (g : Heap) (R : Int → Value → Heap → Prop), Fw h g → (∀ g', Fw g g' → R sign (Ev e) g') → inv_Sign r p g R
  lhm : e = 0 → ∀ (g : Heap) (R : Sl → Heap → Prop), Fw h g → (∀ s g', Fw g g' → RI g'.size g' s codes → R s g') → ref1_LehmerOf r p g R
  rnk : e = 0 → ∀ (g : Heap) (R : Int → Heap → Prop), Fw h g → R place g → ref1_RankOf r p g R
  trn : e = 0 → ∀ (g : Heap) (R : Int → Heap → Prop), Fw h g → (∀ y, w64 (1 - w64 (2 * Int.tmod y 2)) = sign → R y g) → ref1_Turned r p g R
  no : e ≠ 0 → codes = [] ∧ place = 0 ∧ sign = 0
  small : codes.length ≤ 20
theorem own_ri {N : Nat} {s : Sl} {l : List Int} (O : Own N 1 h s (l.map iV)) : RI h.size h s l := Rs.mono O.rs (Nat.le_refl _)
theorem pf {p : Sl} {l : List Int} (P : RI h.size h p l) : ∃ e codes place sign, PF r h p e codes place sign := by
  by_cases h20 : 20 < l.length
  · refine ⟨4, [], 0, 0, ⟨fun g R E H => fault_ok (P.ext E (Nat.le_refl _)) (fun _ => H) (fun c => by omega) (fun c => by omega), fun g R E H => check_ok (P.ext E (Nat.le_refl _)) E.1 (fun _ => H) (fun c => by omega) (fun c => by omega), fun g R E H => lehmer_ok (P.ext E (Nat.le_refl _)) E.1 (fun _ => H _ _ (Fw.refl _) (rs_nil _ _)) (fun c => by omega) (fun c => by omega), fun g R E H => rank_ok (P.ext E (Nat.le_refl _)) E.1 (fun _ => H _ (Fw.refl _)) (fun c => by omega) (fun c => by omega), fun g R E H => sign_ok (P.ext E (Nat.le_refl _)) E.1 (fun _ => H _ (Fw.refl _)) (fun c => by omega) (fun c => by omega), fun c => absurd c (by decide), fun c => absurd c (by decide), fun c => absurd c (by decide), fun _ => ⟨rfl, rfl, rfl⟩, Nat.zero_le _⟩⟩
  have h20 : l.length ≤ 20 := by omega
  by_cases hp : IsP l
  · refine ⟨0, leh l, val (leh l), 1 - 2 * ((inv l % 2 : Nat) : Int), ⟨fun g R E H => fault_ok (P.ext E (Nat.le_refl _)) (fun c => by omega) (fun _ c => absurd hp c) (fun _ _ => H), fun g R E H => check_ok (P.ext E (Nat.le_refl _)) E.1 (fun c => by omega) (fun _ c => absurd hp c) (fun _ _ => H), fun g R E H => lehmer_ok (P.ext E (Nat.le_refl _)) E.1 (fun c => by omega) (fun _ c => absurd hp c) (fun _ _ s g' E' O => H s g' E' (own_ri O)), fun g R E H => rank_ok (P.ext E (Nat.le_refl _)) E.1 (fun c => by omega) (fun _ c => absurd hp c) (fun _ _ g' E' => H g' E'), fun g R E H => sign_ok (P.ext E (Nat.le_refl _)) E.1 (fun c => by omega) (fun _ c => absurd hp c) (fun _ _ g' E' => H g' E'), fun _ g R E H => lehOf_ok (P.ext E (Nat.le_refl _)) E.1 h20 (fun s g' E' O => H s g' E' (own_ri O)), fun _ g R E H => rankOf_ok (P.ext E (Nat.le_refl _)) h20 H, fun _ g R E H => turned_ok (P.ext E (Nat.le_refl _)) (by omega) (H _ ?_), fun c => absurd rfl c, by rw [leh_len]; exact h20⟩⟩
    have b := inv_le l
    have b2 : l.length * (l.length - 1) ≤ 20 * 20 := Nat.mul_le_mul h20 (by omega)
    rw [w64_of (n := (inv l : Int)) (by omega) (by omega)]
    have e : Int.tmod (inv l : Int) 2 = ((inv l % 2 : Nat) : Int) := rfl
    rw [e, w64_of (n := 2 * ((inv l % 2 : Nat) : Int)) (by omega) (by omega), w64_of (by omega) (by omega)]
  · refine ⟨3, [], 0, 0, ⟨fun g R E H => fault_ok (P.ext E (Nat.le_refl _)) (fun c => by omega) (fun _ _ => H) (fun _ c => absurd c hp), fun g R E H => check_ok (P.ext E (Nat.le_refl _)) E.1 (fun c => by omega) (fun _ _ => H) (fun _ c => absurd c hp), fun g R E H => lehmer_ok (P.ext E (Nat.le_refl _)) E.1 (fun c => by omega) (fun _ _ => H _ _ (Fw.refl _) (rs_nil _ _)) (fun _ c => absurd c hp), fun g R E H => rank_ok (P.ext E (Nat.le_refl _)) E.1 (fun c => by omega) (fun _ _ => H _ (Fw.refl _)) (fun _ c => absurd c hp), fun g R E H => sign_ok (P.ext E (Nat.le_refl _)) E.1 (fun c => by omega) (fun _ _ => H _ (Fw.refl _)) (fun _ c => absurd c hp), fun c => absurd c (by decide), fun c => absurd c (by decide), fun c => absurd c (by decide), fun _ => ⟨rfl, rfl, rfl⟩, Nat.zero_le _⟩⟩
/-- what is told of codes -/
structure CF (r : World) (h : Heap) (c : Sl) (f : Int) (W : List Int) : Prop where
  ref : ∀ (g : Heap) (R : Sl → Int → Heap → Prop), Fw h g → (∀ s g', Fw g g' → RI g'.size g' s W → R s f g') → ref1_OrderOf r c g R
  code : ∀ (g : Heap) (R : Sl → Value → Heap → Prop), Fw h g → (∀ s g', Fw g g' → RI g'.size g' s W → R s (Ev f) g') → inv_Order r c g R
  small : W.length ≤ 20
theorem cf {p : Sl} {c : List Int} (P : RI h.size h p c) : ∃ f W, CF r h p f W := by
  by_cases h20 : 20 < c.length
  · exact ⟨4, [], ⟨fun g R E H => orderOf_ok (P.ext E (Nat.le_refl _)) E.1 (fun _ => H _ _ (Fw.refl _) (rs_nil _ _)) (fun c => by omega) (fun c => by omega), fun g R E H => order_ok (P.ext E (Nat.le_refl _)) E.1 (fun _ => H _ _ (Fw.refl _) (rs_nil _ _)) (fun c => by omega) (fun c => by omega), Nat.zero_le _⟩⟩
  by_cases hv : Val c
  · exact ⟨0, unc (rangeI c.length) c, ⟨fun g R E H => orderOf_ok (P.ext E (Nat.le_refl _)) E.1 (fun c => by omega) (fun _ c => absurd hv c) (fun _ _ s g' E' O => H s g' E' (own_ri O)), fun g R E H => order_ok (P.ext E (Nat.le_refl _)) E.1 (fun c => by omega) (fun _ c => absurd hv c) (fun _ _ s g' E' O => H s g' E' (own_ri O)), by rw [unc_len]; omega⟩⟩
  · exact ⟨3, [], ⟨fun g R E H => orderOf_ok (P.ext E (Nat.le_refl _)) E.1 (fun c => by omega) (fun _ _ g' E' => H _ _ E' (rs_nil _ _)) (fun _ c => absurd c hv), fun g R E H => order_ok (P.ext E (Nat.le_refl _)) E.1 (fun c => by omega) (fun _ _ g' E' => H _ _ E' (rs_nil _ _)) (fun _ c => absurd c hv), Nat.zero_le _⟩⟩
/-- an order of a rank -/
theorem perm_facts {m : Nat} {rank : Int} (h0 : 0 ≤ rank) (h1 : rank < fact m) : IsP (unc (rangeI m) (digs m rank).1) ∧ (unc (rangeI m) (digs m rank).1).length = m ∧ val (leh (unc (rangeI m) (digs m rank).1)) = rank := by
  obtain ⟨d1, d2, d3, d4⟩ := digs_ok m rank h0
  have f := fact_pos m
  obtain ⟨x0, x1⟩ := val_bound d2
  rw [d1] at x1
  have z : (digs m rank).2 = 0 := by
    rcases Int.lt_or_le 0 (digs m rank).2 with c | c
    · have := Int.mul_le_mul_of_nonneg_left (show (1 : Int) ≤ (digs m rank).2 by omega) (Int.le_of_lt f)
      rw [Int.mul_one] at this; omega
    · omega
  rw [z, Int.mul_zero, Int.add_zero] at d4
  have ul : (unc (rangeI m) (digs m rank).1).length = m := by rw [unc_len, d1]
  have pm := unc_mem (c := (digs m rank).1) (L := rangeI m) (by rw [rangeI_len, d1]) d2
  have hp : IsP (unc (rangeI m) (digs m rank).1) := ⟨fun x hx => by rw [ul]; exact rangeI_mem.1 (pm.mem_iff.1 hx), pm.nodup_iff.2 (rangeI_nodup m)⟩
  refine ⟨hp, ul, ?_⟩
  have e := unc_leh _ (rangeI m) (rangeI_lt m) pm.symm
  have ll : (leh (unc (rangeI m) (digs m rank).1)).length = m := by rw [leh_len, ul]
  have := unc_inj (c := leh (unc (rangeI m) (digs m rank).1)) (d := (digs m rank).1) (rangeI_lt m) (by rw [rangeI_len, ll]) (by rw [ll, d1]) (leh_val _) d2 e
  rw [this, d4]
set_option maxHeartbeats 1600000 in
theorem invtells_law {l1 p2 c3 : Sl} {l p c : List Int} {n rank : Int} (hg : Er h) (L : RI h.size h l1 l) (hz : l.length ≤ 17592186044415) (P : RI h.size h p2 p) (C : RI h.size h c3 c) (hr : rank < 9223372036854775808) :
    law5_InvTells r l1 p2 c3 n rank h fun y h' => y = true ∧ Ext h.size h h' := by
  apply law5_InvTells_of
  refine vsorted_ok fun h1 E1 => ?_
  intro J8 HJ8
  have go : ∀ g, Fw h g → J8 false g := by
    intro g E
    refine HJ8 _ _ ⟨fun c => (by cases c), fun _ => ?_⟩
    obtain ⟨e, codes, place, sign, F⟩ := pf (r := r) P
    obtain ⟨f, W, K⟩ := cf (r := r) C
    refine F.fault _ _ E (F.check _ _ E (err_ok (hg.fw E) fun h5 E5 => ?_))
    have E05 : Fw h h5 := E.trans E5
    intro J16 HJ16
    have rest : ∀ (s : Sl) (g6 : Heap), Fw h g6 → RI g6.size g6 s codes → J16 s place sign g6 := by
      intro s g6 E6 S
      refine HJ16 _ _ _ _ (F.lehmer _ _ E6 fun s7 h7 E7 S7 => ?_)
      have E07 : Fw h h7 := E6.trans E7
      refine err_ok (hg.fw E07) fun h8 E8 => ?_
      have E08 : Fw h h8 := E07.trans E8
      refine same_Ints_ok (S7.ext E8 (Nat.le_refl _)) (S.ext (E7.trans E8) (Nat.le_refl _)) (by have := F.small; omega) ?_
      rw [decide_eq_true rfl]
      refine F.rank _ _ E08 fun h10 E10 => ?_
      have E010 : Fw h h10 := E08.trans E10
      refine err_ok (hg.fw E010) fun h11 E11 => ?_
      have E011 : Fw h h11 := E010.trans E11
      refine F.sgn _ _ E011 fun h12 E12 => ?_
      have E012 : Fw h h12 := E011.trans E12
      refine err_ok (hg.fw E012) fun h13 E13 => ?_
      have E013 : Fw h h13 := E012.trans E13
      refine ⟨fun c => by simp at c, fun _ => ?_⟩
      refine K.ref _ _ E013 fun s14 h14 E14 S14 => ?_
      have E014 : Fw h h14 := E013.trans E14
      refine K.code _ _ E014 fun s15 h15 E15 S15 => ?_
      have E015 : Fw h h15 := E014.trans E15
      refine err_ok (hg.fw E015) fun h16 E16 => ?_
      have E016 : Fw h h16 := E015.trans E16
      refine same_Ints_ok (S15.ext E16 (Nat.le_refl _)) (S14.ext (E15.trans E16) (Nat.le_refl _)) (by have := K.small; omega) ?_
      rw [decide_eq_true rfl]
      refine ⟨fun c => by simp at c, fun _ => ?_⟩
      have hg16 := hg.fw E016
      intro J56 HJ56
      have bad : (n < 0 ∨ 20 < n ∨ rank < 0 ∨ fact n.toNat ≤ rank) → J56 true h16 := by
        intro hb
        refine HJ56 _ _ ?_
        intro J59 HJ59
        refine ⟨fun _ => HJ59 _ (perm_ok hr (fun _ h19 E19 => err_ok (n := 1) (hg16.fw E19) fun h20 E20 => ?_) fun a1 a2 a3 a4 => by omega), fun c => by cases c⟩
        intro J66 HJ66
        have hf : J66 false := HJ66 _ ⟨fun c => (by cases c), fun _ J69 HJ69 => ⟨fun _ => HJ69 _ _ ⟨rfl, (E016.trans E19).trans E20⟩, fun c => by simp at c⟩⟩
        refine ⟨fun c => (by cases c), fun _ => ⟨fun _ => ?_, fun c => by simp at c⟩⟩
        rw [show decide (0 < ((Sl.nil.len : Nat) : Int)) = false by decide]
        exact hf
      have good : 0 ≤ n → n ≤ 20 → 0 ≤ rank → rank < fact n.toNat → J56 false h16 := by
        intro g1 g2 g3 g4
        refine HJ56 _ _ ?_
        intro J59 HJ59
        refine ⟨fun c => (by cases c), fun _ => HJ59 _ (perm_ok hr (fun hb => by omega) fun _ _ _ _ s19 h19 E19 O19 => err_ok (n := 0) (hg16.fw E19) fun h20 E20 => ?_)⟩
        obtain ⟨q1, q2, q3⟩ := perm_facts g3 g4
        have O20 := own_ri (O19.ext E20)
        have ol := O20.len
        rw [q2] at ol
        intro J66 HJ66
        refine ⟨fun c => (by cases c), fun _ => ⟨fun c => by simp at c, fun _ => HJ66 _ ⟨fun c => (by cases c), fun _ => ?_⟩⟩⟩
        intro J69 HJ69
        refine ⟨fun c => by simp at c, fun _ => fault_ok O20 (fun c => by omega) (fun _ c => absurd q1 c) fun _ _ => ⟨fun _ => ⟨fun _ => ?_, fun c => ?_⟩, fun c => by simp at c⟩⟩
        · refine rankOf_ok O20 (by omega) (HJ69 _ _ ⟨decide_eq_true q3, (E016.trans E19).trans E20⟩)
        · exact absurd (of_decide_eq_false c) (by omega)
      refine ⟨fun c => bad (.inl (of_decide_eq_true c)), fun c => ⟨fun c2 => bad (.inr (.inl (of_decide_eq_true c2))), fun c2 => ⟨fun c3 => bad (.inr (.inr (.inl (of_decide_eq_true c3)))), fun c3 => ?_⟩⟩⟩
      have c := of_decide_eq_false c
      have c2 := of_decide_eq_false c2
      have c3 := of_decide_eq_false c3
      have en : ((n.toNat : Nat) : Int) = n := by omega
      have := orders_ok (r := r) (h := h16) (m := n.toNat) (R := fun y84 h24 => J56 (decide (y84 ≤ rank)) h24) (by omega) (by
        show J56 (decide (fact n.toNat ≤ rank)) h16
        by_cases c4 : fact n.toNat ≤ rank
        · rw [decide_eq_true c4]; exact bad (.inr (.inr (.inr c4)))
        · rw [decide_eq_false c4]; exact good (by omega) (by omega) (by omega) (by omega))
      rw [en] at this
      exact this
    refine ⟨fun c => ?_, fun c => ?_⟩
    · have c := of_decide_eq_true c
      refine F.lhm c _ _ E05 fun s g' E' S => ?_
      have E0' : Fw h g' := E05.trans E'
      refine F.rnk c _ _ E0' (F.trn c _ _ E0' fun y hy => ?_)
      rw [hy]
      exact rest s g' E0' S
    · have c := of_decide_eq_false c
      obtain ⟨e1, e2, e3⟩ := F.no c
      have := rest Sl.nil h5 E05 (by rw [e1]; exact rs_nil _ _)
      rw [e2, e3] at this
      exact this
  refine ⟨fun c => (by cases c), fun _ => ?_⟩
  refine count_ok (L.ext E1 (Nat.le_refl _)) E1.1 hz fun h2 E2 => turned_ok ((L.ext E1 (Nat.le_refl _)).ext E2 E1.1) (by omega) ?_
  rw [decide_eq_true rfl]
  exact go h2 (E1.trans E2)
end
end Go.Proofs.YtcafckgflpmfgaaDoor.Vi
