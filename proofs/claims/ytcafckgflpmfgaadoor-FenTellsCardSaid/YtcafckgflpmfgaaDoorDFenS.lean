/- Sums of beginnings: the law 'FenTells'. -/
import Derived.Test.YtcafckgflpmfgaaDoorDFenR
import Derived.Test.YtcafckgflpmfgaaDoorDBasP
namespace Go.Proofs.YtcafckgflpmfgaaDoor
open Go Go.RowKit Go.Tw Go.Fen
set_option linter.unusedVariables false
section
variable {r : World} {h : Heap}
def lstOf (m : Nat) (v : Nat → Int) : List Int := (List.range m).map v
theorem lstOf_len (m : Nat) (v : Nat → Int) : (lstOf m v).length = m := by simp [lstOf]
theorem lstOf_get {m i : Nat} {v : Nat → Int} (h : i < m) : (lstOf m v)[i]! = v i := by
  rw [getElem!_pos _ i (by rw [lstOf_len]; exact h)]; simp [lstOf]
theorem lstOf_sum (v : Nat → Int) : ∀ (m i : Nat), i ≤ m → ((lstOf m v).take i).sum = ps v i := by
  intro m i hi
  have : (lstOf m v).take i = lstOf i v := by
    unfold lstOf
    rw [← List.map_take, List.take_range, Nat.min_eq_left hi]
  rw [this]
  clear this hi
  induction i with
  | zero => rfl
  | succ i ih =>
    have e : lstOf (i + 1) v = lstOf i v ++ [v i] := by simp [lstOf, List.range_succ]
    rw [e, List.sum_append, ih]
    simp [ps]
theorem lstOf_more {m i : Nat} {v : Nat → Int} {x : Int} (hi : i < m) : (lstOf m v).set i (v i + x) = lstOf m (more v i x) := by
  apply List.ext_getElem?
  intro j
  rw [List.getElem?_set]
  by_cases e : i = j
  · subst e
    rw [if_pos rfl, if_pos (by rw [lstOf_len]; exact hi)]
    simp [lstOf, more, hi]
  · rw [if_neg e]
    by_cases hj : j < m
    · simp [lstOf, more, hj, show ¬ j = i from fun c => e c.symm]
    · simp [lstOf, hj]
theorem fentells_law {n i k : Int} {is xs : Sl} {li lx : List Int} (hg : Er h) (hn : -9223372036854775808 ≤ n ∧ n < 9223372036854775808) (hi : -9223372036854775808 ≤ i ∧ i < 9223372036854775808) (hk : k < 9223372036854775808)
    (his : RI h.size h is li) (hxs : RI h.size h xs lx) : law5_FenTells r n is xs i k h fun y h' => y = true ∧ Ext h.size h h' := by
  apply law5_FenTells_of
  have hsl := his.len
  have hxl := hxs.len
  refine fenned_ok fun h1 E1 => ?_
  have hg1 := hg.fw E1
  by_cases hn2 : n < 0 ∨ 5000 < n
  · refine new_err hn2 ?_
    intro J13 HJ
    have ok : J13 1 := by
      refine HJ _ (err_ok (n := 1) hg1 fun h3 E3 => ?_)
      intro J21 HJ21
      refine ⟨fun c => (by cases c), fun _ => ⟨fun c => (by cases c), fun _ => ⟨fun _ => HJ21 _ ⟨fun c => (by cases c), fun _ => ⟨fun _ => ⟨rfl, E1.trans (E3.mono E1.1)⟩, fun c => by simp at c⟩⟩, fun c => by simp at c⟩⟩⟩
    refine ⟨fun _ => ok, fun c => ?_⟩
    simp only [Bool.or_eq_false_iff, decide_eq_false_iff_not] at c
    omega
  · obtain ⟨m, rfl⟩ : ∃ m : Nat, n = m := ⟨n.toNat, by omega⟩
    refine new_ok (by omega) (by omega) fun b c h2 hb hc F E2 => ?_
    rw [Int.toNat_natCast] at F
    have E12 : Ext h.size h h2 := E1.trans (E2.mono E1.1)
    have hg2 : Er h2 := hg.ext E12 hg.lt
    intro J13 HJ
    have ok : J13 0 := by
      refine HJ _ (err_ok (n := 0) hg2 fun h3 E3 => ?_)
      have E03 : Ext h.size h h3 := E12.trans (E3.mono E12.1)
      have hg3 := hg2.fw E3
      intro J21 HJ21
      have go : J21 false := by
        refine HJ21 _ ⟨fun c => (by cases c), fun _ => ⟨fun _ => ⟨rfl, E03⟩, fun q => ?_⟩⟩
        simp only [Bool.or_eq_false_iff, decide_eq_false_iff_not] at q
        obtain ⟨⟨_, q1⟩, q2⟩ := q
        have hm : m ≤ 200 := by omega
        have h100 : li.length ≤ 100 := by omega
        have hb2 : b < h2.size := F.top.lt
        have hc2 : c < h2.size := by obtain ⟨s, hs, _⟩ := F.row; exact hs.lt
        have a1 := E1.1
        have F3 : FenSt h3 b c m (fun _ => 0) := F.ext (n := 0) (E3.2 b hb2) (E3.2 c hc2)
        have a3 := E3.1
        have g0 := hg.lt
        refine MkS.own (N := h3.size) (n := m) rfl (Nat.le_refl _) (by omega) (by decide) fun s29 h4 hs29 O4 E4 => ?_
        have e0 : List.replicate m (iV 0) = (lstOf m fun _ => 0).map iV := by
          apply List.ext_getElem?
          intro j
          by_cases hj : j < m
          · simp [lstOf, hj]
          · simp [lstOf, hj]
        have O4 : Own h3.size 1 h4 s29 ((lstOf m fun _ => 0).map iV) := by rw [← e0]; exact O4
        have F4 : FenSt h4 b c m (fun _ => 0) := F3.ext (n := 0) (E4.2 b (by omega)) (E4.2 c (by omega))
        have E04 : Ext h.size h h4 := E03.trans (E4.mono E03.1)
        intro X HX
        have key : ∀ (d a : Nat) (h5 : Heap) (v : Nat → Int), 100 - a ≤ d → a ≤ 100 → FenSt h5 b c m v → Own h3.size 1 h5 s29 ((lstOf m v).map iV) → (∀ j, 0 ≤ v j) → ps v m ≤ a * 1073741824 → Ext h.size h h5 → X (a : Int) h5 := by
          have stop : ∀ (a : Nat) (h5 : Heap) (v : Nat → Int), a ≤ 100 → ¬ (a < li.length ∧ a < lx.length) → FenSt h5 b c m v → Own h3.size 1 h5 s29 ((lstOf m v).map iV) → (∀ j, 0 ≤ v j) → ps v m ≤ a * 1073741824 → Ext h.size h h5 → X (a : Int) h5 := by
            intro a h5 v ha hc3 F O hv hB E
            have hB' : ps v m ≤ 1099511627776 := by omega
            have hg5 : Er h5 := hg.ext E g0
            have hfb : b < h5.size := F.top.lt
            have hfc : c < h5.size := by obtain ⟨s, hs, _⟩ := F.row; exact hs.lt
            refine HX _ _ ⟨fun q => ?_, fun _ => ?_⟩
            · simp only [Bool.and_eq_true, decide_eq_true_eq] at q
              omega
            intro J141 HJ141
            have more1 : ∀ (ve sum : Int) (y143 : Int), (fen_Fen_Sum r (some (ad b 0)) i h5 fun y e h' => y = y143 ∧ e = Ev ve ∧ h' = h5) → y143 = sum → J141 ve sum h5 := by
              intro ve sum y143 hsum hy
              refine HJ141 _ _ _ (fen_Fen_Sum.mono hsum fun y e h' hh => ?_)
              obtain ⟨rfl, rfl, rfl⟩ := hh
              refine err_ok hg5 fun h12 E12' => ?_
              have F12 : FenSt h12 b c m v := F.ext (n := 0) (E12'.2 b hfb) (E12'.2 c hfc)
              have O12 := O.ext E12'
              have Eh12 : Ext h.size h h12 := E.trans (E12'.mono E.1)
              have hg12 := hg5.fw E12'
              intro X148 HX148
              have key2 : ∀ (d at_ : Nat), at_ + d = m → (∀ j, j < at_ → ps v j < k) → X148 (at_ : Int) (ps v at_) := by
                intro d
                have fin : ∀ (at_ : Nat), at_ ≤ m → (∀ j, j < at_ → ps v j < k) → ¬ (at_ < m ∧ ps v at_ < k) → (∀ J162 : Int → Int → Prop, (∀ (ve160 va161 : Int), (fen_Fen_Find r (some (ad b 0)) k h12 fun y164 y165 h13 =>
                    same_Error r y165 ve160 h13 fun y166 h14 =>
                    fen_Fen_Ints r (some (ad b 0)) h14 fun y167 h15 =>
                    same_Ints r y167 s29 h15 fun y168 h16 =>
                    ∀ x181 : Bool, x181 = ((((true && y166) && y168) && (decide (y = sum))) && (decide (y164 = va161))) →
                    (x181 = true ∧ Ext h.size h h16)) → J162 ve160 va161) → Br (decide (ps v at_ < k)) (J162 2 0) (J162 0 (at_ : Int))) := by
                  intro at_ hat hlt hst J162 HJ162
                  have tail : ∀ (z va : Int) (ve : Int), z = va → (same_Error r (Ev ve) ve h12 fun y166 h14 =>
                    fen_Fen_Ints r (some (ad b 0)) h14 fun y167 h15 =>
                    same_Ints r y167 s29 h15 fun y168 h16 =>
                    ∀ x181 : Bool, x181 = ((((true && y166) && y168) && (decide (y = sum))) && (decide (z = va))) →
                    (x181 = true ∧ Ext h.size h h16)) := by
                    intro z va ve hz
                    refine err_ok hg12 fun h14 E14 => ?_
                    have F14 : FenSt h14 b c m v := F12.ext (n := 0) (E14.2 b F12.top.lt) (E14.2 c (by obtain ⟨s, hs, _⟩ := F12.row; exact hs.lt))
                    refine ints_ok F14 hm hv hB' fun s h15 S E15 => ?_
                    have O15 := (O12.ext E14).ext E15
                    refine same_Ints_ok S O15.rs (by simp; omega) fun x hx => ⟨?_, (Eh12.trans (E14.mono Eh12.1)).trans (E15.mono (Eh12.trans (E14.mono Eh12.1)).1)⟩
                    rw [hx, hy, hz]
                    have e : (List.range m).map v = lstOf m v := rfl
                    rw [e]; simp
                  refine ⟨fun q => HJ162 _ _ ?_, fun q => HJ162 _ _ ?_⟩
                  · have q := of_decide_eq_true q
                    have em : at_ = m := by
                      rcases Nat.lt_or_ge at_ m with h | h
                      · exact absurd ⟨h, q⟩ hst
                      · omega
                    subst em
                    have k0 : 0 < k := by have : 0 ≤ ps v at_ := ps_le hv (Nat.zero_le _); omega
                    refine find_ok F12 hm k0 hk hv hB' (fun a ha h1 h2 => ?_) fun _ => tail 0 0 2 rfl
                    have := ps_le hv (show a + 1 ≤ at_ by omega); omega
                  · have q := of_decide_eq_false q
                    by_cases k0 : k ≤ 0
                    · have e0 : at_ = 0 := by
                        rcases Nat.eq_zero_or_pos at_ with h | h
                        · exact h
                        · have := hlt 0 h; simp [ps] at this; omega
                      subst e0
                      exact find_zero k0 (tail 0 _ 0 rfl)
                    · refine find_ok F12 hm (by omega) hk hv hB' (fun a ha h1 h2 => tail _ _ 0 ?_) fun h1 => ?_
                      · have : a + 1 = at_ := by
                          rcases Nat.lt_trichotomy (a + 1) at_ with h | h | h
                          · have := hlt (a + 1) h; omega
                          · exact h
                          · have := ps_le hv (show at_ ≤ a by omega); omega
                        omega
                      · have := ps_le hv hat; omega
                induction d with
                | zero =>
                  intro at_ hat hlt
                  refine HX148 _ _ ⟨fun q => ?_, fun _ => fin at_ (by omega) hlt (by omega)⟩
                  simp only [Bool.and_eq_true, decide_eq_true_eq] at q
                  omega
                | succ d ih =>
                  intro at_ hat hlt
                  by_cases hst : at_ < m ∧ ps v at_ < k
                  · refine HX148 _ _ ⟨fun _ => own_int O12 (by rw [lstOf_len]; exact hst.1) fun b0 _ hc0 => ⟨_, hc0, ?_⟩, fun q => ?_⟩
                    · rw [lstOf_get hst.1]
                      have x1 : ps v (at_ + 1) ≤ ps v m := ps_le hv (by omega)
                      have x2 : ps v (at_ + 1) = ps v at_ + v at_ := rfl
                      have x3 : 0 ≤ ps v at_ := ps_le hv (Nat.zero_le _)
                      have x4 := hv at_
                      dsimp only
                      rw [w64_of (n := (at_ : Int) + 1) (by omega) (by omega), w64_of (n := ps v at_ + v at_) (by omega) (by omega), ← x2]
                      refine ih (at_ + 1) (by omega) fun j hj => ?_
                      rcases Nat.lt_or_ge j at_ with h | h
                      · exact hlt j h
                      · obtain rfl : j = at_ := by omega
                        exact hst.2
                    · simp only [Bool.and_eq_false_iff, decide_eq_false_iff_not] at q
                      exfalso; omega
                  · refine HX148 _ _ ⟨fun q => ?_, fun _ => fin at_ (by omega) hlt hst⟩
                    simp only [Bool.and_eq_true, decide_eq_true_eq] at q
                    exfalso; omega
              exact key2 m 0 (by omega) (fun j hj => by omega)
            refine ⟨fun q => ?_, fun q => ?_⟩
            · simp only [Bool.or_eq_true, decide_eq_true_eq] at q
              exact more1 1 0 0 (sum_err F hm q ⟨rfl, rfl, rfl⟩) rfl
            · simp only [Bool.or_eq_false_iff, decide_eq_false_iff_not] at q
              obtain ⟨i', rfl⟩ : ∃ i' : Nat, i = (i' : Int) := ⟨i.toNat, by omega⟩
              refine Subs.at_ (lo := 0) (hi := i') O.rs (by omega) (by rw [lstOf_len]; omega) fun t T => ?_
              rw [List.drop_zero, Nat.sub_zero] at T
              refine sumOf_ok T (by rw [List.length_take, lstOf_len]; omega) ?_
              rw [lstOf_sum v m i' (by omega)]
              have y1 : ps v i' ≤ ps v m := ps_le hv (by omega)
              have y2 : 0 ≤ ps v i' := ps_le hv (Nat.zero_le _)
              rw [w64_of (by omega) (by omega)]
              exact more1 0 _ _ (sum_ok F hm (by omega) hv hB' ⟨rfl, rfl, rfl⟩) rfl
          intro d
          induction d with
          | zero => intro a h5 v hd ha F O hv hB E; exact stop a h5 v ha (by omega) F O hv hB E
          | succ d ih =>
            intro a h5 v hd ha F O hv hB E
            by_cases hcc : a < li.length ∧ a < lx.length
            · have hB' : ps v m ≤ 1099511627776 := by omega
              have hg5 : Er h5 := hg.ext E g0
              have hfb : b < h5.size := F.top.lt
              have hfc : c < h5.size := by obtain ⟨s, hs, _⟩ := F.row; exact hs.lt
              have i0 : li[(a : Int).toNat]! = li[a] := by rw [Int.toNat_natCast, getElem!_pos li a hcc.1]
              have x0 : lx[(a : Int).toNat]! = lx[a] := by rw [Int.toNat_natCast, getElem!_pos lx a hcc.2]
              have hix : ∀ {g : Heap} {K : Addr → Prop}, Ext h.size h g → (∀ p, hcell g p = some (iV li[a]) → K p) → Ix is (a : Int) 1 K := fun Eg hK => RI.ix (his.ext Eg (Nat.le_refl _)) (by omega) (by omega) fun p _ hp => hK p (by rw [i0] at hp; exact hp)
              have hxx : ∀ {g : Heap} {K : Addr → Prop}, Ext h.size h g → (∀ p, hcell g p = some (iV lx[a]) → K p) → Ix xs (a : Int) 1 K := fun Eg hK => RI.ix (hxs.ext Eg (Nat.le_refl _)) (by omega) (by omega) fun p _ hp => hK p (by rw [x0] at hp; exact hp)
              have ew : w64 ((a : Int) + 1) = ((a + 1 : Nat) : Int) := by rw [w64_of (by omega) (by omega)]; omega
              refine HX _ _ ⟨fun _ => ?_, fun q => ?_⟩
              · intro J40 HJ40 J43 HJ43
                have bad : ¬ (0 ≤ li[a] ∧ li[a] < m ∧ 0 ≤ lx[a] ∧ lx[a] ≤ 1073741824) → J43 true := by
                  intro hbad
                  refine HJ43 _ ?_
                  intro J46 HJ46
                  refine ⟨fun _ => HJ46 _ (hix E fun p hp => ⟨_, hp, hxx E fun p2 hp2 => ⟨_, hp2, ?_⟩⟩), fun c => by cases c⟩
                  refine add_err F hm (by omega) (err_ok (n := 1) hg5 fun h8 E8 => ⟨fun c => (by cases c), fun _ => ⟨fun c => (by simp at c), fun _ => HJ40 _ ?_⟩⟩)
                  rw [ew]
                  refine ih (a + 1) h8 v (by omega) (by omega) (F.ext (n := 0) (E8.2 b hfb) (E8.2 c hfc)) (O.ext E8) hv (by omega) (E.trans (E8.mono E.1))
                have good : (0 ≤ li[a] ∧ li[a] < m ∧ 0 ≤ lx[a] ∧ lx[a] ≤ 1073741824) → J43 false := by
                  rintro ⟨p1, p2, p3, p4⟩
                  refine HJ43 _ ?_
                  intro J46 HJ46
                  refine ⟨fun c => (by cases c), fun _ => HJ46 _ (hix E fun p hp => ⟨_, hp, hxx E fun p2 hp2 => ⟨_, hp2, ?_⟩⟩)⟩
                  obtain ⟨i', hi'⟩ : ∃ i' : Nat, li[a] = (i' : Int) := ⟨li[a].toNat, by omega⟩
                  rw [hi']
                  refine add_ok F hm (i := i') (by omega) p3 p4 hv hB' fun h7 F7 o7 z7 => err_ok (n := 0) (hg5.eq (o7 0 (by omega))) fun h8 E8 => ⟨fun c => (by cases c), fun _ => ⟨fun _ => ?_, fun c => by simp at c⟩⟩
                  have E7 : Ext h.size h h7 := E.trans ⟨by omega, fun d hd => o7 d (by omega)⟩
                  have E08 : Ext h.size h h8 := E7.trans (E8.mono E7.1)
                  have O7 : Own h3.size 1 h7 s29 ((lstOf m v).map iV) := O.keep fun p hp => o7 _ (fun e => by have := (O.lt hp).2; omega)
                  have O8 := O7.ext E8
                  have F8 : FenSt h8 b c m (more v i' lx[a]) := F7.ext (n := 0) (E8.2 b (by omega)) (E8.2 c (by omega))
                  have y1 : v i' ≤ ps v m := by
                    have a1 : ps v (i' + 1) ≤ ps v m := ps_le hv (by omega)
                    have a2 : ps v (i' + 1) = ps v i' + v i' := rfl
                    have a3 : 0 ≤ ps v i' := ps_le hv (Nat.zero_le _)
                    omega
                  have y2 := hv i'
                  refine hix E08 fun q1 hq1 => ⟨_, hq1, ?_⟩
                  rw [hi']
                  refine own_int O8 (by rw [lstOf_len]; omega) fun b0 hb0 hc0 => ⟨_, hc0, hxx E08 fun q2 hq2 => ⟨_, hq2, own_int O8 (by rw [lstOf_len]; omega) fun b1 hb1 _ => St.one' O8 hb1 (by simp [lstOf_len]; omega) (HJ40 _ ?_)⟩⟩
                  rw [lstOf_get (show i' < m by omega), w64_of (n := v i' + lx[a]) (by omega) (by omega), ew]
                  have A := (Fam.none h3.size h8).cons O8 (fun x hx => by cases hx)
                  have A2 := (A.set hb1 (o := i') (v := iV (v i' + lx[a])) (by simp [lstOf_len]; omega)).head
                  rw [← List.map_set, lstOf_more (by omega)] at A2
                  have lb1 := (O8.lt' hb1).2
                  refine ih (a + 1) _ (more v i' lx[a]) (by omega) (by omega) (F8.ext (n := 0) (hset_other (fun e => by have e : b1 = b := e; omega)) (hset_other (fun e => by have e : b1 = c := e; omega))) A2 (more_nonneg hv p3) ?_ (E08.trans (Ext.set (by show h.size ≤ b1; omega)))
                  rw [ps_more, if_pos (by omega)]; omega
                refine hix E fun p hp => ⟨_, hp, fun c1 => bad (by have := of_decide_eq_true c1; omega), fun c1 => hix E fun p hp => ⟨_, hp, fun c2 => bad (by have := of_decide_eq_true c2; omega), fun c2 => hxx E fun p hp => ⟨_, hp, fun c3 => bad (by have := of_decide_eq_true c3; omega), fun c3 => hxx E fun p hp => ⟨_, hp, ?_⟩⟩⟩⟩
                have c1 := of_decide_eq_false c1
                have c2 := of_decide_eq_false c2
                have c3 := of_decide_eq_false c3
                dsimp only
                by_cases c4 : 1073741824 < lx[a]
                · rw [decide_eq_true c4]; exact bad (by omega)
                · rw [decide_eq_false c4]; exact good (by omega)
              · simp only [Bool.and_eq_false_iff, decide_eq_false_iff_not] at q
                exfalso; omega
            · exact stop a h5 v ha hcc F O hv hB E
        have v0 : ps (fun _ => 0) m = 0 := ps_zero m
        exact key 100 0 h4 (fun _ => 0) (by omega) (by omega) F4 O4 (fun _ => Int.le_refl _) (by rw [v0]; decide) E04
      exact ⟨fun c => (by cases c), fun _ => ⟨fun c => (by cases c), fun _ => ⟨fun c => (by simp at c), fun _ => go⟩⟩⟩
    refine ⟨fun q => ?_, fun _ => ok⟩
    simp only [Bool.or_eq_true, decide_eq_true_eq] at q
    omega
end
end Go.Proofs.YtcafckgflpmfgaaDoor
