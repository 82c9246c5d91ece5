/- A tree of parts: the law 'SegTells'. -/
import Derived.Test.YtcafckgflpmfgaaDoorDSegT
import Derived.Test.YtcafckgflpmfgaaDoorDSpot
import Derived.Test.YtcafckgflpmfgaaDoorDRcat
import Derived.Test.YtcafckgflpmfgaaDoorDBasP
import Derived.Test.YtcafckgflpmfgaaDoorDSame
namespace Go.Proofs.YtcafckgflpmfgaaDoor.SegX
open Go Go.RowKit Go.Tw Go.Seg Go.Tab
set_option linter.unusedVariables false
theorem chg_get (put : Bool) (x : Int) (i j : Nat) (v : List Int) (k : Nat) : (chg put x i j v)[k]? = v[k]?.map fun y => if i ≤ k ∧ k < j then (if put then x else w64 (y + x)) else y := by
  unfold chg; rw [List.getElem?_mapIdx]
theorem chg_zero {i j : Nat} {v : List Int} (hin : ∀ y ∈ v, In y) : chg false 0 i j v = v := by
  apply List.ext_getElem?
  intro k
  rw [chg_get]
  cases e : v[k]? with
  | none => rfl
  | some y =>
    have e2 : w64 (y + 0) = y := by rw [Int.add_zero]; exact w64_id (hin y (List.mem_of_getElem? e))
    rw [Option.map_some, e2]; simp
theorem chg_at {put : Bool} {x : Int} {i t : Nat} {v : List Int} (ht : t < v.length) : (chg put x i t v)[t]! = v[t]! := by
  rw [List.getElem!_eq_getElem?_getD, List.getElem!_eq_getElem?_getD, chg_get, List.getElem?_eq_getElem ht]; simp
theorem chg_step {put : Bool} {x : Int} {i t : Nat} {v : List Int} (hi : i ≤ t) (ht : t < v.length) : (chg put x i t v).set t (if put then x else w64 (v[t]! + x)) = chg put x i (t + 1) v := by
  apply List.ext_getElem?
  intro k
  rw [chg_get, List.getElem?_set]
  by_cases e : t = k
  · subst e
    rw [if_pos rfl, if_pos (by rw [chg_len]; exact ht), List.getElem?_eq_getElem ht, Option.map_some, if_pos (show i ≤ t ∧ t < t + 1 from ⟨hi, Nat.lt_succ_self _⟩), getElem!_pos v t ht]
  · rw [if_neg e, chg_get]
    cases v[k]? with
    | none => rfl
    | some y =>
      simp only [Option.map_some]
      by_cases hk : i ≤ k ∧ k < t
      · rw [if_pos hk, if_pos (show i ≤ k ∧ k < t + 1 from ⟨hk.1, by omega⟩)]
      · rw [if_neg hk, if_neg (show ¬ (i ≤ k ∧ k < t + 1) by omega)]
theorem mem_cut {v : List Int} {i j : Nat} {x : Int} : x ∈ cut v i j ↔ ∃ k, i ≤ k ∧ k < j ∧ v[k]? = some x := by
  unfold cut
  rw [List.mem_iff_getElem?]
  constructor
  · rintro ⟨n, hn⟩
    rw [List.getElem?_take] at hn
    split at hn
    · rw [List.getElem?_drop] at hn
      exact ⟨i + n, by omega, by omega, hn⟩
    · cases hn
  · rintro ⟨k, h1, h2, h3⟩
    refine ⟨k - i, ?_⟩
    rw [List.getElem?_take, if_pos (by omega), List.getElem?_drop, show i + (k - i) = k by omega, h3]
theorem spot_mn {v : List Int} {i j z : Nat} (hz : Low (val_ v) i (j - i) z) (hj : j ≤ v.length) : Mn (cut v i j) v[z]! := by
  obtain ⟨h1, h2, h3⟩ := hz
  have e : v[z]? = some v[z]! := by rw [getElem!_pos v z (by omega), List.getElem?_eq_getElem]
  refine ⟨mem_cut.2 ⟨z, h1, by omega, e⟩, fun x hx => ?_⟩
  obtain ⟨k, a1, a2, a3⟩ := mem_cut.1 hx
  have this : v[z]! ≤ v[k]! := (h3 k a1 (by omega)).1
  have e2 : v[k]! = x := by rw [List.getElem!_eq_getElem?_getD, a3]; rfl
  omega
theorem spot_mx {v : List Int} {i j z : Nat} (hz : Low (neg_ v) i (j - i) z) (hj : j ≤ v.length) : Mx (cut v i j) v[z]! := by
  obtain ⟨h1, h2, h3⟩ := hz
  have e : v[z]? = some v[z]! := by rw [getElem!_pos v z (by omega), List.getElem?_eq_getElem]
  refine ⟨mem_cut.2 ⟨z, h1, by omega, e⟩, fun x hx => ?_⟩
  obtain ⟨k, a1, a2, a3⟩ := mem_cut.1 hx
  have this : 0 - v[z]! ≤ 0 - v[k]! := (h3 k a1 (by omega)).1
  have e2 : v[k]! = x := by rw [List.getElem!_eq_getElem?_getD, a3]; rfl
  omega
instance {n : Nat} {i j : Int} : Decidable (Within n i j) := by unfold Within; infer_instance
/-- an act: none where it may not be -/
def act (put : Bool) (x i j : Int) (v : List Int) : List Int := if Within v.length i j then chg put x i.toNat j.toNat v else v
theorem act_len {put : Bool} {x i j : Int} {v : List Int} : (act put x i j v).length = v.length := by unfold act; split; exact chg_len; rfl
theorem act_zero {i j : Int} {v : List Int} (hin : ∀ y ∈ v, In y) : act false 0 i j v = v := by unfold act; split; exact chg_zero hin; rfl
def vE (n : Nat) (i j : Int) : Int := if Within n i j then 0 else 1
section
variable {r : World} {h : Heap} {sp : Addr} {b : Nat} {v l : List Int}
theorem rs_nil (n : Nat) (h : Heap) : RI n h Sl.nil [] := ⟨rfl, Nat.le_refl _, .inl rfl⟩
theorem add_ev {x i j : Int} {R : Value → Heap → Prop} (hx : In x) (T : SegAt h sp b v) (H : ∀ h', Only b h h' → SegAt h' sp b (act false x i j v) → R (Ev (vE v.length i j)) h') : seg_Seg_Add r (some sp) i j x h R := by
  refine add_ok hx T (fun w => ?_) fun w h' S T' => ?_
  · have := H h (Only.refl _ _) (by rw [act, if_neg w]; exact T)
    rw [vE, if_neg w] at this; exact this
  · have := H h' S (by rw [act, if_pos w]; exact T')
    rw [vE, if_pos w] at this; exact this
theorem put_ev {x i j : Int} {R : Value → Heap → Prop} (hx : In x) (T : SegAt h sp b v) (H : ∀ h', Only b h h' → SegAt h' sp b (act true x i j v) → R (Ev (vE v.length i j)) h') : seg_Seg_Put r (some sp) i j x h R := by
  refine putt_ok hx T (fun w => ?_) fun w h' S T' => ?_
  · have := H h (Only.refl _ _) (by rw [act, if_neg w]; exact T)
    rw [vE, if_neg w] at this; exact this
  · have := H h' S (by rw [act, if_pos w]; exact T')
    rw [vE, if_pos w] at this; exact this
theorem sum_ev {i j : Int} {R : Int → Value → Heap → Prop} (T : SegAt h sp b v) (H : ∀ h', Only b h h' → SegAt h' sp b v → R (if Within v.length i j then w64 (cut v i.toNat j.toNat).sum else 0) (Ev (vE v.length i j)) h') : seg_Seg_Sum r (some sp) i j h R := by
  refine sum_ok T (fun w => ?_) fun w h' S T' => ?_
  · have := H h (Only.refl _ _) T
    rw [vE, if_neg w, if_neg w] at this; exact this
  · have := H h' S T'
    rw [vE, if_pos w, if_pos w] at this; exact this
/-- what is to be told -/
structure Ans (v : List Int) (i j f low high : Int) : Prop where
  no : ¬ Within v.length i j → f = 1 ∧ low = 0 ∧ high = 0
  none : Within v.length i j → j ≤ i → f = 2 ∧ low = 0 ∧ high = 0
  some : Within v.length i j → i < j → f = 0 ∧ Mn (cut v i.toNat j.toNat) low ∧ Mx (cut v i.toNat j.toNat) high
theorem Ans.told {i j f low high : Int} {q : Part} {e : Value} (A : Ans v i j f low high) (D : Told v i j q e) : e = Ev f ∧ q.least = low ∧ q.most = high := by
  by_cases w : Within v.length i j
  · by_cases c : j ≤ i
    · obtain ⟨e1, e2⟩ := D.none w c
      obtain ⟨rfl, rfl, rfl⟩ := A.none w c
      subst e1; subst e2
      exact ⟨rfl, rfl, rfl⟩
    · obtain ⟨e1, T⟩ := D.some w (by omega)
      obtain ⟨rfl, a1, a2⟩ := A.some w (by omega)
      exact ⟨e1, T.least.uniq a1, T.most.uniq a2⟩
  · obtain ⟨e1, e2⟩ := D.no w
    obtain ⟨rfl, rfl, rfl⟩ := A.no w
    subst e1; subst e2
    exact ⟨rfl, rfl, rfl⟩
theorem Only.ext0 {n : Nat} {g h h' : Heap} (E : Ext n g h) (S : Only b h h') (hn : n ≤ b) (hg : n ≤ g.size) : Ext n g h' :=
  ⟨Nat.le_trans E.1 S.size, fun c hc => by rw [S.out c (by omega) (by have := E.1; omega), E.2 c hc]⟩
theorem own_only {N : Nat} {h h' : Heap} {s : Sl} {vs : List Value} (O : Own N 1 h s vs) (S : Only b h h') (hb : b < N) : Own N 1 h' s vs :=
  O.keep fun p hp => S.out _ (by have := (O.lt hp).2; omega) (O.lt hp).1
theorem SegAt.fw {h' : Heap} (T : SegAt h sp b v) (E : Fw h h') : SegAt h' sp b v := T.ext E T.lt.1 T.lt.2
set_option maxHeartbeats 1600000 in
theorem segtells_law {l1 puts is js xs : Sl} {lp : List Bool} {li lj lx : List Int} (hg : Er h) (hl1 : RI h.size h l1 l) (hin : ∀ y ∈ l, In y) (hp : Rs h.size 1 h puts (lp.map Value.bool)) (his : RI h.size h is li) (hjs : RI h.size h js lj) (hxs : RI h.size h xs lx) (hxin : ∀ y ∈ lx, In y) :
    law5_SegTells r l1 puts is js xs h fun y h' => y = true ∧ Ext h.size h h' := by
  apply law5_SegTells_of
  have sl := hl1.len
  have slp : puts.len = lp.length := by have := hp.len; simpa using this
  have sli := his.len
  have slj := hjs.len
  have slx := hxs.len
  have g0 := hg.lt
  refine segged_ok fun h1 E1 => ?_
  have hg1 := hg.fw E1
  by_cases hl : 5000 < l.length
  · refine new_full (by omega) ?_
    intro J10 HJ10
    have ok : J10 4 := by
      refine HJ10 _ (err_ok (n := 4) hg1 fun h3 E3 => ?_)
      intro J HJ
      exact ⟨fun c => (by cases c), fun _ => ⟨fun c => (by cases c), fun _ => ⟨fun _ => HJ _ ⟨fun c => (by cases c), fun _ => ⟨fun _ => ⟨rfl, Fw.trans E1 E3⟩, fun c => by simp at c⟩⟩, fun c => by simp at c⟩⟩⟩
    exact ⟨fun _ => ok, fun c => absurd (of_decide_eq_false c) (by omega)⟩
  · refine new_ok (hl1.ext E1 (Nat.le_refl _)) E1.1 hin (by omega) fun sp b h2 T2 n1 n2 E2 => ?_
    have E02 : Fw h h2 := Fw.trans E1 E2
    have hg2 := hg.fw E02
    have z1 := E1.1
    intro J10 HJ10
    have ok : J10 0 := by
      refine HJ10 _ (err_ok (n := 0) hg2 fun h3 E3 => ?_)
      have T3 := T2.fw E3
      have hg3 := hg2.fw E3
      have E03 : Fw h h3 := E02.trans E3
      intro J18 HJ18
      have go : J18 false := by
        refine HJ18 _ ⟨fun c => (by cases c), fun _ => ⟨fun _ => ⟨rfl, E03⟩, fun c => ?_⟩⟩
        simp only [Bool.or_eq_false_iff, decide_eq_false_iff_not] at c
        obtain ⟨⟨_, c1⟩, c2⟩ := c
        have hl60 : l.length ≤ 60 := by omega
        have hp20 : lp.length ≤ 20 := by omega
        refine refcat_ok (n := h.size) (hl1.ext E03 (Nat.le_refl _)) (rs_nil _ _) E03.1 (by simp; omega) fun s26 h4 E4 O4 => ?_
        rw [List.append_nil] at O4
        have T4 := T3.fw E4
        have E04 : Fw h h4 := E03.trans E4
        have hspN : sp.block < h3.size ∧ b < h3.size := T3.lt
        have hsph : h.size ≤ sp.block ∧ h.size ≤ b := by omega
        have h3N : h.size ≤ h3.size := E03.1
        generalize hN : h3.size = N at *
        clear hN
        intro X HX
        have key : ∀ (d k : Nat) (h5 : Heap) (v : List Int), lp.length ≤ k + d → k ≤ 20 → SegAt h5 sp b v → Own N 1 h5 s26 (v.map iV) → v.length = l.length → Fw h h5 → X (k : Int) h5 := by
          intro d
          have stop : ∀ (k : Nat) (h5 : Heap), ¬ (k < lp.length ∧ k < li.length ∧ k < lj.length ∧ k < lx.length) → Fw h h5 → X (k : Int) h5 := by
            intro k h5 hk E
            refine HX _ _ ⟨fun q => ?_, fun _ => ⟨rfl, E⟩⟩
            simp only [Bool.and_eq_true, decide_eq_true_eq] at q
            exfalso; omega
          induction d with
          | zero => intro k h5 v hd _ T O hv E; exact stop k h5 (by omega) E
          | succ d ih =>
            intro k h5 v hd hk20 T O hv E
            by_cases hcc : k < lp.length ∧ k < li.length ∧ k < lj.length ∧ k < lx.length
            · have ew : w64 ((k : Int) + 1) = ((k + 1 : Nat) : Int) := by rw [w64_of (by omega) (by omega)]; omega
              have i0 : li[(k : Int).toNat]! = li[k]'hcc.2.1 := by rw [Int.toNat_natCast, getElem!_pos li k hcc.2.1]
              have j0 : lj[(k : Int).toNat]! = lj[k]'hcc.2.2.1 := by rw [Int.toNat_natCast, getElem!_pos lj k hcc.2.2.1]
              have x0 : lx[(k : Int).toNat]! = lx[k]'hcc.2.2.2 := by rw [Int.toNat_natCast, getElem!_pos lx k hcc.2.2.2]
              obtain ⟨i, hi⟩ : ∃ i, li[k]'hcc.2.1 = i := ⟨_, rfl⟩
              obtain ⟨j, hj⟩ : ∃ j, lj[k]'hcc.2.2.1 = j := ⟨_, rfl⟩
              obtain ⟨x, hx⟩ : ∃ x, lx[k]'hcc.2.2.2 = x := ⟨_, rfl⟩
              obtain ⟨put, hput⟩ : ∃ put, lp[k]'hcc.1 = put := ⟨_, rfl⟩
              have xin : In x := by rw [← hx]; exact hxin _ (List.getElem_mem _)
              rw [hi] at i0; rw [hj] at j0; rw [hx] at x0
              have hix : ∀ {g : Heap} {K : Addr → Prop}, Fw h g → (∀ p, hcell g p = some (iV i) → K p) → Ix is (k : Int) 1 K := fun Eg hK => RI.ix (his.ext Eg (Nat.le_refl _)) (by omega) (by omega) fun p _ hp => hK p (by rw [i0] at hp; exact hp)
              have hjx : ∀ {g : Heap} {K : Addr → Prop}, Fw h g → (∀ p, hcell g p = some (iV j) → K p) → Ix js (k : Int) 1 K := fun Eg hK => RI.ix (hjs.ext Eg (Nat.le_refl _)) (by omega) (by omega) fun p _ hp => hK p (by rw [j0] at hp; exact hp)
              have hxx : ∀ {g : Heap} {K : Addr → Prop}, Fw h g → (∀ p, hcell g p = some (iV x) → K p) → Ix xs (k : Int) 1 K := fun Eg hK => RI.ix (hxs.ext Eg (Nat.le_refl _)) (by omega) (by omega) fun p _ hp => hK p (by rw [x0] at hp; exact hp)
              have hpx : ∀ {g : Heap} {K : Addr → Prop}, Fw h g → (∀ p, hcell g p = some (.bool put) → K p) → Ix puts (k : Int) 1 K := fun Eg hK => by
                refine Rs.ix (hp.ext Eg (Nat.le_refl _)) (by omega) (by omega) (by decide) fun b o hb _ hc => hK _ ?_
                have := hc 0 (by decide)
                simp only [Nat.add_zero, Nat.mul_one] at this ⊢
                rw [this, List.getElem?_map, Int.toNat_natCast, List.getElem?_eq_getElem hcc.1, hput]; rfl
              have T60 : v.length ≤ 60 := by omega
              refine HX _ _ ⟨fun _ => ?_, fun q => ?_⟩
              · refine hix E fun p1 hp1 => ⟨_, hp1, hjx E fun p2 hp2 => ⟨_, hp2, ?_⟩⟩
                apply law5_within_of
                intro x10 hx10
                intro J56 HJ56
                have body : ∀ ve, ve = vE v.length i j → J56 ve := by
                  intro ve hve
                  refine HJ56 _ (hix E fun p1 hp1 => ⟨_, hp1, hjx E fun p2 hp2 => ⟨_, hp2, ?_⟩⟩)
                  refine add_ev (by decide) T fun h7 S7 T7 => ?_
                  rw [act_zero T.all] at T7
                  rw [← hve]
                  have E7 : Fw h h7 := Only.ext0 E S7 hsph.2 (Nat.le_refl _)
                  have O7 := own_only O S7 hspN.2
                  refine hpx E7 fun p3 hp3 => ⟨_, hp3, ?_⟩
                  intro J84 HJ84
                  have body2 : ∀ h8, Only b h7 h8 → SegAt h8 sp b (act put x i j v) → J84 (Ev ve) h8 := by
                    intro h8 S8 T8
                    have E8 : Fw h h8 := Only.ext0 E7 S8 hsph.2 (Nat.le_refl _)
                    have O8 := own_only O7 S8 hspN.2
                    refine HJ84 _ _ (err_ok (hg.fw E8) fun h9 E9 => ⟨fun c => (by cases c), fun _ => ?_⟩)
                    have T9 := T8.fw E9
                    have E09 : Fw h h9 := E8.trans E9
                    have O9 := O8.ext E9
                    refine hix E09 fun p1 hp1 => ⟨_, hp1, ?_⟩
                    generalize hw : act put x i j v = w at *
                    have wl : w.length = v.length := by rw [← hw, act_len]
                    intro X96 HX96
                    have hW : ve = 0 ↔ Within w.length i j := by
                      rw [hve, vE, wl]; split
                      · exact ⟨fun _ => ‹_›, fun _ => rfl⟩
                      · exact ⟨fun hh => (by cases hh), fun hh => absurd hh ‹_›⟩
                    have hW1 : ¬ Within w.length i j → ve = 1 := by
                      intro hn; rw [hve, vE, ← wl, if_neg hn]
                    have tail : ∀ (i95 : Int) (h10 : Heap), Own N 1 h10 s26 (w.map iV) → SegAt h10 sp b w → Fw h h10 → (ve = 0 → ¬ i95 < j) → X96 i95 h10 := by
                      intro i95 h10 O10 T10 E10 hstop
                      refine HX96 _ _ ?_
                      intro J98 HJ98
                      have stp : J98 false := by
                        refine HJ98 _ ⟨fun c => (by cases c), fun _ => ?_⟩
                        intro J152 HJ152
                        have f152 : ∀ y, y = decide (ve = 0 ∧ i = j) → J152 y := by
                          intro y hy
                          refine HJ152 _ ?_
                          intro J155 HJ155
                          have f155 : ∀ f, f = (if ve = 0 ∧ i = j then 2 else ve) → J155 f := by
                            intro f hf
                            refine HJ155 _ ?_
                            intro J158 HJ158
                            have f158 : J158 (if Within w.length i j then w64 (cut w i.toNat j.toNat).sum else 0) h10 := by
                              refine HJ158 _ _ ?_
                              intro J162 HJ162
                              have ask : ∀ low high, Ans w i j f low high → J162 low high h10 := by
                                intro low high A
                                refine HJ162 _ _ _ (hix E10 fun p1 hp1 => ⟨_, hp1, hjx E10 fun p2 hp2 => ⟨_, hp2, ?_⟩⟩)
                                refine sum_ev T10 fun h16 S16 T16 => ?_
                                have F16 : Fw h h16 := Only.ext0 E10 S16 hsph.2 (Nat.le_refl _)
                                have O16 := own_only O10 S16 hspN.2
                                rw [show vE w.length i j = ve by rw [wl, hve]]
                                refine err_ok (hg.fw F16) fun h17 E17 => ?_
                                have F17 : Fw h h17 := F16.trans E17
                                have T17 := T16.fw E17
                                have O17 := O16.ext E17
                                refine hix F17 fun p1 hp1 => ⟨_, hp1, hjx F17 fun p2 hp2 => ⟨_, hp2, least_ok T17 fun q e h18 D _ S18 T18 => ?_⟩⟩
                                obtain ⟨e1, e2, _⟩ := A.told D
                                rw [e1, e2]
                                have F18 : Fw h h18 := Only.ext0 F17 S18 hsph.2 (Nat.le_refl _)
                                have O18 := own_only O17 S18 hspN.2
                                refine err_ok (hg.fw F18) fun h19 E19 => ?_
                                have F19 : Fw h h19 := F18.trans E19
                                have T19 := T18.fw E19
                                have O19 := O18.ext E19
                                refine hix F19 fun p1 hp1 => ⟨_, hp1, hjx F19 fun p2 hp2 => ⟨_, hp2, most_ok T19 fun q e h20 D _ S20 T20 => ?_⟩⟩
                                obtain ⟨e1, _, e2⟩ := A.told D
                                rw [e1, e2]
                                have F20 : Fw h h20 := Only.ext0 F19 S20 hsph.2 (Nat.le_refl _)
                                have O20 := own_only O19 S20 hspN.2
                                refine err_ok (hg.fw F20) fun h21 E21 => ?_
                                have F21 : Fw h h21 := F20.trans E21
                                have T21 := T20.fw E21
                                have O21 := O20.ext E21
                                refine ints_ok T21 fun s22 h22 R22 S22 T22 => ?_
                                have F22 : Fw h h22 := Only.ext0 F21 S22 hsph.2 (Nat.le_refl _)
                                have O22 := own_only O21 S22 hspN.2
                                refine same_Ints_ok R22.rs O22.rs (by omega) ?_
                                rw [decide_eq_true rfl]
                                refine ⟨fun c => by simp at c, fun _ => ?_⟩
                                rw [ew]
                                exact ih (k + 1) h22 w (by omega) (by omega) T22 O22 (by omega) F22
                              refine ⟨fun c => ?_, fun c => ?_⟩
                              · have c := of_decide_eq_true c
                                have hij : ¬ (ve = 0 ∧ i = j) := fun hh => by rw [if_pos hh] at hf; omega
                                rw [if_neg hij] at hf
                                have ve0 : ve = 0 := by omega
                                have hwi := hW.1 ve0
                                have hne : i ≠ j := fun hh => hij ⟨ve0, hh⟩
                                obtain ⟨w1, w2, w3⟩ := hwi
                                have hzi : ((i.toNat : Nat) : Int) = i := by omega
                                have hzj : ((j.toNat : Nat) : Int) = j := by omega
                                have sp1 : ∀ {g : Heap} (most : Bool) {R : Int → Heap → Prop}, Own N 1 g s26 (w.map iV) → (∀ z, Low (if most then neg_ w else val_ w) i.toNat (j.toNat - i.toNat) z → R (z : Int) g) → ref1_Spot r s26 i j most g R := by
                                  intro g most R Og H
                                  have := spot_ok (i := i.toNat) (j := j.toNat) (most := most) (r := r) (R := R) Og.rs (by omega) (by omega) (by omega) H
                                  rw [hzi, hzj] at this
                                  exact this
                                refine hix E10 fun p1 hp1 => ⟨_, hp1, hjx E10 fun p2 hp2 => ⟨_, hp2, ?_⟩⟩
                                refine sp1 false O10 fun z hz => own_int O10 (by have := hz.2.1; omega) fun b1 _ hc1 => ⟨_, hc1, ?_⟩
                                refine hix E10 fun p1 hp1 => ⟨_, hp1, hjx E10 fun p2 hp2 => ⟨_, hp2, ?_⟩⟩
                                refine sp1 true O10 fun z2 hz2 => own_int O10 (by have := hz2.2.1; omega) fun b2 _ hc2 => ⟨_, hc2, ?_⟩
                                exact ask _ _ ⟨fun hh => absurd ⟨w1, w2, w3⟩ hh, fun _ hh => absurd hh (by omega), fun _ _ => ⟨c, spot_mn hz (by omega), spot_mx hz2 (by omega)⟩⟩
                              · have c := of_decide_eq_false c
                                refine ask 0 0 ⟨fun hh => ⟨?_, rfl, rfl⟩, fun hh hji => ⟨?_, rfl, rfl⟩, fun hh hlt => ?_⟩
                                · have := hW1 hh
                                  rw [hf, if_neg (by omega), this]
                                · rw [hf, if_pos ⟨hW.2 hh, by have := hh.2.1; omega⟩]
                                · have := hW.2 hh
                                  rw [if_neg (by omega)] at hf
                                  omega
                            refine ⟨fun c => ?_, fun c => ?_⟩
                            · have hwi := hW.1 (of_decide_eq_true c)
                              rw [if_pos hwi] at f158
                              obtain ⟨w1, w2, w3⟩ := hwi
                              refine hix E10 fun p1 hp1 => ⟨_, hp1, hjx E10 fun p2 hp2 => ⟨_, hp2, ?_⟩⟩
                              have hzi : ((i.toNat : Nat) : Int) = i := by omega
                              have hzj : ((j.toNat : Nat) : Int) = j := by omega
                              have := Subs.at_ (lo := i.toNat) (hi := j.toNat) (K := fun s315 => ref1_SumOf r s315 h10 fun y321 h26 => J158 y321 h26) O10.rs (by omega) (by omega) fun t ht => sumOf_ok ht (by simp; omega) f158
                              rw [hzi, hzj] at this
                              exact this
                            · rw [if_neg (fun hh => of_decide_eq_false c (hW.2 hh))] at f158
                              exact f158
                          refine ⟨fun c => f155 2 ?_, fun c => f155 ve ?_⟩
                          · rw [hy] at c; rw [if_pos (of_decide_eq_true c)]
                          · rw [hy] at c; rw [if_neg (of_decide_eq_false c)]
                        refine ⟨fun c => hix E10 fun p1 hp1 => ⟨_, hp1, hjx E10 fun p2 hp2 => ⟨_, hp2, f152 _ ?_⟩⟩, fun c => f152 _ ?_⟩
                        · have c := of_decide_eq_true c
                          simp [c]
                        · have c := of_decide_eq_false c
                          simp [c]
                      refine ⟨fun c => hjx E10 fun p hp => ⟨_, hp, ?_⟩, fun _ => stp⟩
                      dsimp only
                      rw [decide_eq_false (hstop (of_decide_eq_true c))]
                      exact stp
                    by_cases hwi : Within v.length i j
                    · have ve0 : ve = 0 := by rw [hve, vE, if_pos hwi]
                      rw [act, if_pos hwi] at hw
                      obtain ⟨w1, w2, w3⟩ := hwi
                      have loop : ∀ (d t : Nat) (h10 : Heap), i.toNat ≤ t → t + d = j.toNat → Own N 1 h10 s26 ((chg put x i.toNat t v).map iV) → SegAt h10 sp b w → Fw h h10 → X96 (t : Int) h10 := by
                        intro d
                        induction d with
                        | zero =>
                          intro t h10 h1 h2 O10 T10 E10
                          rw [show t = j.toNat by omega, hw] at O10
                          exact tail _ _ O10 T10 E10 fun _ => by omega
                        | succ d ihd =>
                          intro t h10 h1 h2 O10 T10 E10
                          have htv : t < v.length := by omega
                          refine HX96 _ _ ?_
                          intro J98 HJ98
                          refine ⟨fun c => hjx E10 fun p hp => ⟨_, hp, ?_⟩, fun c => absurd (of_decide_eq_false c) (by omega)⟩
                          dsimp only
                          rw [decide_eq_true (show (t : Int) < j by omega)]
                          refine HJ98 _ ⟨fun _ => ?_, fun c => by cases c⟩
                          intro J100 HJ100
                          have fin : ∀ y, y = (if put then x else w64 (v[t]! + x)) → ∀ b1, s26.a = some (ad b1 0) → J100 (hset h10 (ad b1 t) (iV y)) := by
                            intro y hy b1 hb1
                            refine HJ100 _ ?_
                            rw [show w64 ((t : Int) + 1) = ((t + 1 : Nat) : Int) by rw [w64_of (by omega) (by omega)]; omega]
                            have A := (Fam.none N h10).cons O10 (fun x hx => by cases hx)
                            have A2 := (A.set hb1 (o := t) (v := iV y) (by simp [chg_len]; omega)).head
                            rw [← List.map_set, hy, chg_step h1 htv, ← hy] at A2
                            have lb1 := (O10.lt' hb1).2
                            exact ihd (t + 1) _ (by omega) (by omega) A2 (T10.keep (hset_other (fun e => by have e : b1 = sp.block := e; omega)) (hset_other (fun e => by have e : b1 = b := e; omega))) (Fw.trans' E10 (Ext.set (by show h.size ≤ b1; omega)))
                          have hcl : (chg put x i.toNat t v).length = v.length := chg_len
                          refine hpx E10 fun p3 hp3 => ⟨_, hp3, fun c => ?_, fun c => ?_⟩
                          · refine hxx E10 fun p4 hp4 => ⟨_, hp4, own_int O10 (by omega) fun b1 hb1 _ => St.one' O10 hb1 (by simp; omega) (fin x ?_ b1 hb1)⟩
                            rw [if_pos c]
                          · refine own_int O10 (by omega) fun b0 _ hc0 => ⟨_, hc0, hxx E10 fun p4 hp4 => ⟨_, hp4, own_int O10 (by omega) fun b1 hb1 _ => St.one' O10 hb1 (by simp; omega) (fin _ ?_ b1 hb1)⟩⟩
                            rw [if_neg (by rw [c]; decide), chg_at htv]
                      have := loop (j.toNat - i.toNat) i.toNat h9 (Nat.le_refl _) (by omega) (by rw [chg_none (Nat.le_refl _)]; exact O9) T9 E09
                      rw [show ((i.toNat : Nat) : Int) = i by omega] at this
                      exact this
                    · have ve1 : ve = 1 := by rw [hve, vE, if_neg hwi]
                      rw [act, if_neg hwi] at hw
                      rw [hw] at O9
                      exact tail _ _ O9 T9 E09 fun hh => by omega
                  refine ⟨fun c => ?_, fun c => ⟨Ev.isIface _, fun c2 => ?_, fun c2 => ?_⟩⟩
                  · refine hix E7 fun p1 hp1 => ⟨_, hp1, hjx E7 fun p2 hp2 => ⟨_, hp2, hxx E7 fun p4 hp4 => ⟨_, hp4, ?_⟩⟩⟩
                    refine put_ev xin T7 fun h8 S8 T8 => ?_
                    rw [← hve]
                    rw [c] at body2
                    exact body2 h8 S8 T8
                  · refine hix E7 fun p1 hp1 => ⟨_, hp1, hjx E7 fun p2 hp2 => ⟨_, hp2, hxx E7 fun p4 hp4 => ⟨_, hp4, ?_⟩⟩⟩
                    refine add_ev xin T7 fun h8 S8 T8 => ?_
                    rw [← hve]
                    rw [c] at body2
                    exact body2 h8 S8 T8
                  · rw [Ev.isNil] at c2
                    have c2 := of_decide_eq_false c2
                    have hn : ¬ Within v.length i j := fun hh => c2 (by rw [hve, vE, if_pos hh])
                    exact body2 h7 (Only.refl _ _) (by rw [act, if_neg hn]; exact T7)
                have hx10' : x10 = true ↔ Within v.length i j := by
                  rw [hx10, sl, ← hv]; simp [Within, and_assoc]
                refine ⟨fun c => body 1 ?_, fun c => body 0 ?_⟩
                · rw [vE, if_neg (fun hh => by rw [hx10'.2 hh] at c; cases c)]
                · rw [vE, if_pos (hx10'.1 (by simpa using c))]
              · simp only [Bool.and_eq_false_iff, decide_eq_false_iff_not] at q
                exfalso; omega
            · exact stop k h5 hcc E
        exact key 20 0 h4 l (by omega) (by omega) T4 O4 rfl E04
      exact ⟨fun c => (by cases c), fun _ => ⟨fun c => (by cases c), fun _ => ⟨fun c => (by simp at c), fun _ => go⟩⟩⟩
    exact ⟨fun c => absurd (of_decide_eq_true c) (by omega), fun _ => ok⟩
end
end Go.Proofs.YtcafckgflpmfgaaDoor.SegX
