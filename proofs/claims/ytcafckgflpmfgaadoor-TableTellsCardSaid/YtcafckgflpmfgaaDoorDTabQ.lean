/- The least of any: what the functions do. -/
import Derived.Test.YtcafckgflpmfgaaDoorDTabP
import Derived.Test.YtcafckgflpmfgaaDoorTabL
namespace Go.Proofs.YtcafckgflpmfgaaDoor
open Go Go.RowKit Go.Tw Go.Tab
set_option linter.unusedVariables false
theorem clone_ok {r : World} {h : Heap} {s : Sl} {l : List Int} {N n : Nat} {F : List (Nat × Sl × List Value)} {R : Sl → Heap → Prop} (hl : RI n h s l) (hn : n ≤ h.size) (hz : l.length ≤ 1099511627776) (A : Fam N h F) (hN : N ≤ h.size)
    (H : ∀ s' h', Fam N h' ((1, s', l.map iV) :: F) → Ext h.size h h' → R s' h') : slices_Clone_int_int r s h R := by
  apply slices_Clone_int_int_of
  have hlen := hl.len
  refine ⟨fun q => ?_, fun q => ?_⟩
  · have e : l = [] := by
      rcases hl.at_ with e | ⟨b, o, e, _⟩
      · simpa using e
      · rw [e] at q; simp at q
    subst e
    exact H _ _ (A.empty 1) (Ext.refl _ _)
  · intro p2 h1 hp hh
    subst hp; subst hh
    have A1 := A.new (el := 3) (sz := 1) (vs := []) hN (n := 0) rfl
    have E1 : Ext h.size h (h.push (.cells #[] 3)) := Ext.push (Nat.le_refl _)
    refine App.own (n := N) (vs := []) (ys := l.map iV) A1.head (Rs.ext hl E1 hn) rfl (by intro v hv; obtain ⟨x, _, rfl⟩ := List.mem_map.1 hv; rfl) (by simp; omega) (by simp; omega) fun s' h' G => ?_
    have A2 := A1.grown G
    rw [List.nil_append] at A2
    refine H s' h' A2 ⟨Nat.le_trans E1.1 G.ext.1, fun b hb => ?_⟩
    rw [G.others b (by simp; omega) (fun p hp => by cases hp; show h.size ≠ b; omega)]
    exact E1.2 b hb

/-- the table's block: the list, the rows -/
abbrev topF (b : Nat) (cl least most : Sl) : Nat × Sl × List Value := (1, ⟨some (ad b 0), 3, 3⟩, [Sl.v cl, Sl.v least, Sl.v most])

section
variable {r : World} {N b : Nat} {cl least most : Sl} {l : List Int}

theorem low_ok {h : Heap} {i j : Nat} {R : Int → Heap → Prop} (h0 : hcell h (ad b 0) = some (Sl.v cl)) (hc : RI h.size h cl l) (hi : i < l.length) (hj : j < l.length) (H : R (pick (val_ l) i j : Int) h) : table_Table_low r (some (ad b 0)) i j h R := by
  apply table_Table_low_of
  have h0' : hcell h (Addr.add (ad b 0) 0) = some (Sl.v cl) := by rw [ad_add]; exact h0
  refine ⟨_, rfl, _, h0', RI.ix hc (by omega) (by omega) fun p _ hp => ⟨_, hp, _, rfl, _, h0', RI.ix hc (by omega) (by omega) fun p2 _ hp2 => ⟨_, hp2, ?_⟩⟩⟩
  simp only [Int.toNat_natCast]
  unfold pick at H
  refine ⟨fun q => ?_, fun q => ?_⟩
  · rwa [if_pos (of_decide_eq_true q)] at H
  · rwa [if_neg (of_decide_eq_false q)] at H
theorem high_ok {h : Heap} {i j : Nat} {R : Int → Heap → Prop} (h0 : hcell h (ad b 0) = some (Sl.v cl)) (hc : RI h.size h cl l) (hi : i < l.length) (hj : j < l.length) (H : R (pick (neg_ l) i j : Int) h) : table_Table_high r (some (ad b 0)) i j h R := by
  apply table_Table_high_of
  have h0' : hcell h (Addr.add (ad b 0) 0) = some (Sl.v cl) := by rw [ad_add]; exact h0
  refine ⟨_, rfl, _, h0', RI.ix hc (by omega) (by omega) fun p _ hp => ⟨_, hp, _, rfl, _, h0', RI.ix hc (by omega) (by omega) fun p2 _ hp2 => ⟨_, hp2, ?_⟩⟩⟩
  simp only [Int.toNat_natCast]
  unfold pick at H
  refine ⟨fun q => ?_, fun q => ?_⟩
  · rwa [if_pos (by have := of_decide_eq_true q; show 0 - l[j]! < 0 - l[i]!; omega)] at H
  · rwa [if_neg (by have := of_decide_eq_false q; show ¬ 0 - l[j]! < 0 - l[i]!; omega)] at H

/-- what a comparer does: it reads and tells -/
def Picks (r : World) (f : Value) (v : Nat → Int) (len : Nat) (h : Heap) : Prop := ∀ (i j : Nat), i < len → j < len → ∀ K : Value → Heap → Prop, K (.int .i64 (pick v i j : Int)) h → CallV Tryd.prog r f [.int .i64 i, .int .i64 j] h K

theorem picks_low {h : Heap} (h0 : hcell h (ad b 0) = some (Sl.v cl)) (hc : RI h.size h cl l) : Picks r (.func (.func 75) #[(.pointer (some (ad b 0)))] #[]) (val_ l) l.length h := fun i j hi hj K hK =>
  .inl ⟨_, _, _, rfl, Tryd.call75, CallsH.mono (low_ok (r := r) (R := fun y h' => K (.int .i64 y) h') h0 hc hi hj hK) fun v h' ⟨y, hv, hR⟩ => by rw [hv]; exact hR⟩
theorem picks_high {h : Heap} (h0 : hcell h (ad b 0) = some (Sl.v cl)) (hc : RI h.size h cl l) : Picks r (.func (.func 76) #[(.pointer (some (ad b 0)))] #[]) (neg_ l) l.length h := fun i j hi hj K hK =>
  .inl ⟨_, _, _, rfl, Tryd.call76, CallsH.mono (high_ok (r := r) (R := fun y h' => K (.int .i64 y) h') h0 hc hi hj hK) fun v h' ⟨y, hv, hR⟩ => by rw [hv]; exact hR⟩

theorem next_ok {h : Heap} {F : List (Nat × Sl × List Value)} {row : Sl} {p : List Nat} {n len : Nat} {f : Value} {v : Nat → Int} {R : Sl → Heap → Prop} {a : Option Addr} (A : Fam N h F) (hN : N ≤ h.size) (hr : (1, row, p.map nV) ∈ F)
    (hp : ∀ x ∈ p, x < len) (hpl : p.length ≤ 1048576) (hn : n ≤ 1048576) (hf : ∀ h', Ext h.size h h' → Picks r f v len h') (H : ∀ s' h', Fam N h' ((1, s', (next v p n).map nV) :: F) → Ext h.size h h' → R s' h') : table_Table_next r a row n f h R := by
  apply table_Table_next_of
  intro X HX
  have hlen : row.len = p.length := by have := (A.own _ hr).len; simpa using this
  have key : ∀ d (i : Nat) (out : Sl) (h1 : Heap), i + d = p.length - n → Fam N h1 ((1, out, ((List.range i).map fun i => pick v p[i]! p[i + n]!).map nV) :: F) → Own h.size 1 h1 out (((List.range i).map fun i => pick v p[i]! p[i + n]!).map nV) → Ext h.size h h1 → X out (i : Int) h1 := by
    intro d
    induction d with
    | zero =>
      intro i out h1 hi A1 O1 E1
      refine HX _ _ _ ⟨fun q => absurd (of_decide_eq_true q) (by rw [w64_of] <;> omega), fun _ => ?_⟩
      have : i = p.length - n := by omega
      subst this
      exact H out h1 A1 E1
    | succ d ih =>
      intro i out h1 hi A1 O1 E1
      have e1 : w64 ((i : Int) + n) = ((i + n : Nat) : Int) := by rw [w64_of] <;> omega
      refine HX _ _ _ ⟨fun _ => ?_, fun q => absurd (of_decide_eq_false q) (by rw [e1]; omega)⟩
      have Or := A1.own _ (List.mem_cons_of_mem _ hr)
      have hi1 : i < p.length := by omega
      have hi2 : i + n < p.length := by omega
      refine Ix.own Or (by omega) (by simp; omega) fun bb hbb => ⟨(p[i]! : Int), Or.cell hbb (by rw [Int.toNat_natCast, List.getElem?_map, List.getElem?_eq_getElem hi1, getElem!_pos p i hi1]; rfl), ?_⟩
      rw [e1]
      refine Ix.own Or (by omega) (by simp; omega) fun b2 hb2 => ⟨(p[i + n]! : Int), Or.cell hb2 (by rw [Int.toNat_natCast, List.getElem?_map, List.getElem?_eq_getElem hi2, getElem!_pos p _ hi2]; rfl), ?_⟩
      have q1 : p[i]! < len := hp _ (by rw [getElem!_pos p i hi1]; exact List.getElem_mem hi1)
      have q2 : p[i + n]! < len := hp _ (by rw [getElem!_pos p _ hi2]; exact List.getElem_mem hi2)
      refine hf h1 E1 _ _ q1 q2 _ ⟨_, rfl, ?_⟩
      have hol : out.len = i := by simpa using O1.len
      refine App.push (cs := [nV (pick v p[i]! p[i + n]!)]) O1 rfl rfl (one_all rfl) E1.1 (by rw [hol]; omega) fun s' h' G => ?_
      have A2 := A1.grown (G.mono hN)
      have O2 := G.own
      rw [show w64 ((i : Int) + 1) = ((i + 1 : Nat) : Int) by rw [w64_of] <;> omega]
      have el : ((List.range i).map fun i => pick v p[i]! p[i + n]!).map nV ++ [nV (pick v p[i]! p[i + n]!)] = ((List.range (i + 1)).map fun i => pick v p[i]! p[i + n]!).map nV := by
        rw [List.range_succ, List.map_append, List.map_append]; rfl
      rw [el] at A2 O2
      exact ih (i + 1) s' h' (by omega) A2 O2 (E1.trans G.ext)
  exact key (p.length - n) 0 Sl.nil h (by omega) (A.empty 1) (Own.nil _ _ _) (Ext.refl _ _)

/-- a list of rows that lie in a family -/
def RowsIn (F : List (Nat × Sl × List Value)) (ss : List Sl) (rows : Nat → List Nat) : Prop := ∀ (k : Nat) (s : Sl), ss[k]? = some s → (1, s, (rows k).map nV) ∈ F
theorem RowsIn.snoc {F : List (Nat × Sl × List Value)} {ss : List Sl} {rows : Nat → List Nat} {s : Sl} (H : RowsIn F ss rows) (hs : (1, s, (rows ss.length).map nV) ∈ F) : RowsIn F (ss ++ [s]) rows := fun k t hk => by
  by_cases h : k < ss.length
  · rw [List.getElem?_append_left h] at hk; exact H k t hk
  · have : k = ss.length := by
      have := (List.getElem?_eq_some_iff.1 hk).1
      simp at this; omega
    subst this
    rw [List.getElem?_append_right (Nat.le_refl _)] at hk
    simp at hk; subst hk; exact hs
theorem RowsIn.mono {F G : List (Nat × Sl × List Value)} {ss : List Sl} {rows : Nat → List Nat} (H : RowsIn F ss rows) (hm : ∀ x ∈ F, x ∈ G) : RowsIn G ss rows := fun k s hk => hm _ (H k s hk)

/-- the table -/
structure TabSt (h : Heap) (b : Nat) (l : List Int) : Prop where
  c0 : ∃ cl, hcell h (ad b 0) = some (Sl.v cl) ∧ RI h.size h cl l
  c1 : ∃ (s : Sl) (ss : List Sl), hcell h (ad b 1) = some (Sl.v s) ∧ Rs h.size 1 h s (ss.map Sl.v) ∧ (∀ k, 2 ^ k ≤ l.length ↔ k < ss.length) ∧ ∀ (k : Nat) (t : Sl), ss[k]? = some t → RI h.size h t ((rowOf (val_ l) l.length k).map Int.ofNat)
  c2 : ∃ (s : Sl) (ss : List Sl), hcell h (ad b 2) = some (Sl.v s) ∧ Rs h.size 1 h s (ss.map Sl.v) ∧ (∀ k, 2 ^ k ≤ l.length ↔ k < ss.length) ∧ ∀ (k : Nat) (t : Sl), ss[k]? = some t → RI h.size h t ((rowOf (neg_ l) l.length k).map Int.ofNat)

theorem TabSt.ext {h h' : Heap} {b : Nat} {l : List Int} (T : TabSt h b l) (E : Ext h.size h h') : TabSt h' b l := by
  obtain ⟨⟨cl, a1, a2⟩, ⟨s, ss, b1, b2, b3, b4⟩, ⟨t, tt, c1, c2, c3, c4⟩⟩ := T
  have le := E.1
  exact ⟨⟨cl, by rw [E.cell (hcell_lt a1)]; exact a1, (Rs.ext a2 E (Nat.le_refl _)).mono le⟩, ⟨s, ss, by rw [E.cell (hcell_lt b1)]; exact b1, (b2.ext E (Nat.le_refl _)).mono le, b3, fun k t hk => (Rs.ext (b4 k t hk) E (Nat.le_refl _)).mono le⟩,
    ⟨t, tt, by rw [E.cell (hcell_lt c1)]; exact c1, (c2.ext E (Nat.le_refl _)).mono le, c3, fun k t hk => (Rs.ext (c4 k t hk) E (Nat.le_refl _)).mono le⟩⟩

theorem new_ok {h : Heap} {l1 : Sl} {n : Nat} {R : Option Addr → Value → Heap → Prop} (hl : RI n h l1 l) (hn : n ≤ h.size) (hll : l.length ≤ 5000) (H : ∀ b h', TabSt h' b l → Ext h.size h h' → R (some (ad b 0)) .nilIface h') : table_New r l1 h R := by
  apply table_New_of
  have hlen := hl.len
  refine ⟨fun q => absurd (of_decide_eq_true q) (by omega), fun _ => ?_⟩
  refine clone_ok hl hn (by omega) (Fam.none h.size h) (Nat.le_refl _) fun cl h1 A1 E1 => ?_
  intro p3 h2 hp3 hh2
  subst hp3; subst hh2
  have A2 := A1.new (el := 101) (sz := 1) (vs := [Sl.v cl, Sl.v Sl.nil, Sl.v Sl.nil]) E1.1 (n := 3) rfl
  have E2 : Ext h.size h (h1.push (.cells #[Sl.v cl, Sl.v Sl.nil, Sl.v Sl.nil] 101)) := E1.trans (Ext.push E1.1)
  generalize h1.size = b at A2 ⊢
  generalize h1.push (.cells #[Sl.v cl, Sl.v Sl.nil, Sl.v Sl.nil] 101) = h2 at A2 E2 ⊢
  intro X HX
  -- the first row
  have first : ∀ d (i : Nat) (row : Sl) (h3 : Heap), i + d = l.length → Fam h.size h3 ((1, row, (List.range i).map nV) :: topF b cl Sl.nil Sl.nil :: [(1, cl, l.map iV)]) → Ext h.size h h3 → X row (i : Int) h3 := by
    intro d
    induction d with
    | succ d ih =>
      intro i row h3 hi A3 E3
      refine HX _ _ _ ⟨fun _ => ?_, fun q => absurd (of_decide_eq_false q) (by omega)⟩
      refine Fam.push (j := 0) (v := nV i) A3 rfl rfl rfl E3.1 (by simp; omega) fun s' h' A4 E4 => ?_
      rw [show w64 ((i : Int) + 1) = ((i + 1 : Nat) : Int) by rw [w64_of] <;> omega]
      refine ih (i + 1) s' h' (by omega) ?_ (E3.trans E4)
      have A4 : Fam h.size h' ((1, s', (List.range i).map nV ++ [nV i]) :: topF b cl Sl.nil Sl.nil :: [(1, cl, l.map iV)]) := A4
      rw [List.range_succ, List.map_append]; exact A4
    | zero =>
      intro i row h3 hi A3 E3
      obtain rfl : i = l.length := by omega
      refine HX _ _ _ ⟨fun q => absurd (of_decide_eq_true q) (by omega), fun _ => ?_⟩
      intro X16 HX16
      have key : ∀ d (k : Nat) (low high least most : Sl) (ss tt : List Sl) (G : List (Nat × Sl × List Value)) (h6 : Heap), l.length + 1 - 2 ^ k ≤ d → 2 ^ k ≤ 16384 → Fam h.size h6 (topF b cl least most :: (1, least, ss.map Sl.v) :: (1, most, tt.map Sl.v) :: G) → (1, cl, l.map iV) ∈ G →
          ss.length = k → tt.length = k → RowsIn G ss (rowOf (val_ l) l.length) → RowsIn G tt (rowOf (neg_ l) l.length) → (1, low, (rowOf (val_ l) l.length k).map nV) ∈ G → (1, high, (rowOf (neg_ l) l.length k).map nV) ∈ G → (∀ j, j < k → 2 ^ j ≤ l.length) → Ext h.size h h6 → X16 low high ((2 ^ k : Nat) : Int) h6 := by
        intro d
        have stop : ∀ (k : Nat) (low high least most : Sl) (ss tt : List Sl) (G : List (Nat × Sl × List Value)) (h6 : Heap), l.length < 2 ^ k → Fam h.size h6 (topF b cl least most :: (1, least, ss.map Sl.v) :: (1, most, tt.map Sl.v) :: G) → (1, cl, l.map iV) ∈ G →
          ss.length = k → tt.length = k → RowsIn G ss (rowOf (val_ l) l.length) → RowsIn G tt (rowOf (neg_ l) l.length) → (∀ j, j < k → 2 ^ j ≤ l.length) → Ext h.size h h6 → X16 low high ((2 ^ k : Nat) : Int) h6 := by
          intro k low high least most ss tt G h6 hk A hcl hs ht Rs1 Rs2 hpow E
          refine HX16 _ _ _ _ ⟨fun q => absurd (of_decide_eq_true q) (by omega), fun _ => H b h6 ?_ E⟩
          have Ot := A.ownI (j := 0) rfl
          have hcount : ∀ j, 2 ^ j ≤ l.length ↔ j < k := fun j => ⟨fun hj => by
            apply Nat.lt_of_not_le; intro hle
            have := Nat.pow_le_pow_right (n := 2) (by omega) hle
            omega, hpow j⟩
          have mem : ∀ x ∈ G, x ∈ topF b cl least most :: (1, least, ss.map Sl.v) :: (1, most, tt.map Sl.v) :: G := fun x hx => by simp [hx]
          have rd : ∀ (s : Sl) (p : List Nat), (1, s, p.map nV) ∈ G → RI h6.size h6 s (p.map Int.ofNat) := fun s p hm => by
            have := (A.own _ (mem _ hm)).rs
            show Rs _ 1 _ _ ((p.map Int.ofNat).map iV)
            rw [List.map_map]; exact this
          exact ⟨⟨cl, Ot.cell (o := 0) rfl rfl, (A.own _ (mem _ hcl)).rs⟩,
            ⟨least, ss, Ot.cell (o := 1) rfl rfl, (A.ownI (j := 1) rfl).rs, fun j => by rw [hs]; exact hcount j, fun j t hj => rd t _ (Rs1 j t hj)⟩,
            ⟨most, tt, Ot.cell (o := 2) rfl rfl, (A.ownI (j := 2) rfl).rs, fun j => by rw [ht]; exact hcount j, fun j t hj => rd t _ (Rs2 j t hj)⟩⟩
        induction d with
        | zero =>
          intro k low high least most ss tt G h6 hd h8 A hcl hs ht Rs1 Rs2 hlo hhi hpow E
          exact stop k low high least most ss tt G h6 (by omega) A hcl hs ht Rs1 Rs2 hpow E
        | succ d ih =>
          intro k low high least most ss tt G h6 hd h8 A hcl hs ht Rs1 Rs2 hlo hhi hpow E
          by_cases hkl : l.length < 2 ^ k
          · exact stop k low high least most ss tt G h6 hkl A hcl hs ht Rs1 Rs2 hpow E
          have hpos := Nat.one_le_two_pow (n := k)
          have hk13 : k ≤ 5000 := by
            have := Nat.lt_two_pow_self (n := k); omega
          refine HX16 _ _ _ _ ⟨fun _ => ?_, fun q => absurd (of_decide_eq_false q) (by omega)⟩
          intro J17 HJ17
          -- behind the two appends
          have J : ∀ (least' most' : Sl) (h7 : Heap), Fam h.size h7 (topF b cl least' most' :: (1, least', (ss ++ [low]).map Sl.v) :: (1, most', (tt ++ [high]).map Sl.v) :: G) → Ext h.size h h7 → J17 h7 := by
            intro least' most' h7 A7 E7
            refine HJ17 _ ?_
            have mem : ∀ x ∈ G, x ∈ topF b cl least' most' :: (1, least', (ss ++ [low]).map Sl.v) :: (1, most', (tt ++ [high]).map Sl.v) :: G := fun x hx => by simp [hx]
            have rdc : ∀ {h' : Heap} {F : List (Nat × Sl × List Value)}, Fam h.size h' F → topF b cl least' most' ∈ F → (1, cl, l.map iV) ∈ F → hcell h' (ad b 0) = some (Sl.v cl) ∧ RI h'.size h' cl l := fun A' m1 m2 => ⟨(A'.own _ m1).cell (o := 0) rfl rfl, (A'.own _ m2).rs⟩
            have rdx : ∀ {h' h'' : Heap}, hcell h' (ad b 0) = some (Sl.v cl) ∧ RI h'.size h' cl l → Ext h'.size h' h'' → hcell h'' (ad b 0) = some (Sl.v cl) ∧ RI h''.size h'' cl l := fun ⟨q1, q2⟩ E' => ⟨by rw [E'.cell (hcell_lt q1)]; exact q1, (Rs.ext q2 E' (Nat.le_refl _)).mono E'.1⟩
            have r7 := rdc A7 (by simp) (mem _ hcl)
            refine next_ok (p := rowOf (val_ l) l.length k) (v := val_ l) (len := l.length) A7 E7.1 (mem _ hlo) (fun x hx => row_mem _ _ k hx) (by rw [row_len]; omega) (by omega) (fun h' E' => picks_low (rdx r7 E').1 (rdx r7 E').2) fun y19 h8 A8 E8 => ?_
            have E8' := E7.trans (E8.mono E7.1)
            have r8 := rdx r7 E8
            refine next_ok (p := rowOf (neg_ l) l.length k) (v := neg_ l) (len := l.length) A8 E8'.1 (List.mem_cons_of_mem _ (mem _ hhi)) (fun x hx => row_mem _ _ k hx) (by rw [row_len]; omega) (by omega) (fun h' E' => picks_high (rdx r8 E').1 (rdx r8 E').2) fun y20 h9 A9 E9 => ?_
            have E9' := E8'.trans (E9.mono E8'.1)
            have e2 : w64 (((2 ^ k : Nat) : Int) * 2) = ((2 ^ (k + 1) : Nat) : Int) := by rw [Nat.pow_succ, w64_of] <;> omega
            rw [e2]
            refine ih (k + 1) y19 y20 least' most' (ss ++ [low]) (tt ++ [high]) ((1, y20, (next (neg_ l) (rowOf (neg_ l) l.length k) (2 ^ k)).map nV) :: (1, y19, (next (val_ l) (rowOf (val_ l) l.length k) (2 ^ k)).map nV) :: G) h9 ?_ ?_ ?_ ?_ (by simp [hs]) (by simp [ht]) ?_ ?_ ?_ ?_ ?_ E9'
            · rw [Nat.pow_succ]; omega
            · rw [Nat.pow_succ]; omega
            · exact A9.perm (List.perm_append_comm_assoc (l₁ := [_, _]) (l₂ := [_, _, _]) (l₃ := G))
            · simp [hcl]
            · exact (RowsIn.snoc Rs1 (by rw [hs]; exact hlo)).mono fun x hx => by simp [hx]
            · exact (RowsIn.snoc Rs2 (by rw [ht]; exact hhi)).mono fun x hx => by simp [hx]
            · exact List.mem_cons_of_mem _ (List.mem_cons_self ..)
            · exact List.mem_cons_self ..
            · intro j hj
              by_cases hjk : j < k
              · exact hpow j hjk
              · obtain rfl : j = k := by omega
                omega
          have fin : ∀ (least' most' : Sl) (h13 : Heap) (x1 x2 : Nat × Sl × List Value), Fam h.size h13 (x1 :: x2 :: topF b cl least most :: (1, least', ss.map Sl.v ++ [Sl.v low]) :: (1, most', tt.map Sl.v ++ [Sl.v high]) :: G) → Ext h.size h h13 →
              St h13 (ad b 1) 1 [Sl.v least'] fun h14 => St h14 (ad b 2) 1 [Sl.v most'] fun h15 => J17 h15 := by
            intro least' most' h13 x1 x2 A13 E13
            refine St.one' (b := b) (o := 1) (A13.ownI (j := 2) rfl) rfl (by simp) ?_
            have A14 := A13.setI (j := 2) (o := 1) (v := Sl.v least') rfl rfl (by simp)
            have E14 := E13.trans (Ext.set (n := h.size) (a := ad b 1) (v := Sl.v least') ((A13.ownI (j := 2) rfl).lt' rfl).2)
            refine St.one' (b := b) (o := 2) (A14.ownI (j := 2) rfl) rfl (by simp) ?_
            have A15 := A14.setI (j := 2) (o := 2) (v := Sl.v most') rfl rfl (by simp)
            have E15 := E14.trans (Ext.set (n := h.size) (a := ad b 2) (v := Sl.v most') ((A14.ownI (j := 2) rfl).lt' rfl).2)
            refine J least' most' _ ?_ E15
            rw [List.map_append, List.map_append]
            exact A15.tail.tail
          have c1 : ∀ {h' : Heap} {F : List (Nat × Sl × List Value)} (j : Nat), Fam h.size h' F → F[j]? = some (topF b cl least most) → hcell h' (Addr.add (ad b 0) 1) = some (Sl.v least) := fun j A' hj => (A'.ownI hj).cell (b := b) (o := 1) rfl rfl
          have c2 : ∀ {h' : Heap} {F : List (Nat × Sl × List Value)} (j : Nat), Fam h.size h' F → F[j]? = some (topF b cl least most) → hcell h' (Addr.add (ad b 0) 2) = some (Sl.v most) := fun j A' hj => (A'.ownI hj).cell (b := b) (o := 2) rfl rfl
          have bs : ((ss.map Sl.v).length + 1) * 24 ≤ 140737488355328 := by simp; omega
          have bt : ((tt.map Sl.v).length + 1) * 24 ≤ 140737488355328 := by simp; omega
          refine ⟨_, c1 0 A rfl, _, c2 0 A rfl, ?_, ?_⟩
          · intro p25 h10 hp25 hh10
            subst hp25; subst hh10
            have A10 := push_own (el := 22) (v := Sl.v low) E.1 A
            have E10 := E.trans (Ext.push (x := .cells #[Sl.v low] 22) E.1)
            generalize h6.size = b25 at A10 ⊢
            generalize h6.push (.cells #[Sl.v low] 22) = h10 at A10 E10 ⊢
            refine ⟨c2 1 A10 rfl, c1 1 A10 rfl, ?_, ?_⟩
            · refine Fam.app (j := 2) (v := Sl.v low) A10 rfl rfl rfl E10.1 bs ((A10.ownI (j := 0) rfl).cell (o := 0) rfl rfl) fun s30 h11 A11 E11 => ?_
              have E11 := E10.trans E11
              refine ⟨c2 1 A11 rfl, ?_⟩
              intro p32 h12 hp32 hh12
              subst hp32; subst hh12
              have A12 := push_own (el := 22) (v := Sl.v high) E11.1 A11
              have E12 := E11.trans (Ext.push (x := .cells #[Sl.v high] 22) E11.1)
              generalize h11.size = b32 at A12 ⊢
              generalize h11.push (.cells #[Sl.v high] 22) = h12 at A12 E12 ⊢
              refine ⟨c2 2 A12 rfl, c1 2 A12 rfl, ?_⟩
              refine Fam.app (j := 4) (v := Sl.v high) A12 rfl rfl rfl E12.1 bt ((A12.ownI (j := 0) rfl).cell (o := 0) rfl rfl) fun s37 h13 A13 E13 => ?_
              exact fin s30 s37 h13 _ _ A13 (E12.trans E13)
            · intro p42 h16 hp42 hh16
              subst hp42; subst hh16
              have A16 := push_own (el := 22) (v := Sl.v high) E10.1 A10
              have E16 := E10.trans (Ext.push (x := .cells #[Sl.v high] 22) E10.1)
              generalize h10.size = b42 at A16 ⊢
              generalize h10.push (.cells #[Sl.v high] 22) = h16 at A16 E16 ⊢
              refine ⟨c2 2 A16 rfl, c1 2 A16 rfl, ?_⟩
              refine Fam.app (j := 3) (v := Sl.v low) A16 rfl rfl rfl E16.1 bs ((A16.ownI (j := 1) rfl).cell (o := 0) rfl rfl) fun s47 h17 A17 E17 => ?_
              have E17 := E16.trans E17
              refine ⟨c2 2 A17 rfl, ?_⟩
              refine Fam.app (j := 4) (v := Sl.v high) A17 rfl rfl rfl E17.1 bt ((A17.ownI (j := 0) rfl).cell (o := 0) rfl rfl) fun s49 h18 A18 E18 => ?_
              exact fin s47 s49 h18 _ _ A18 (E17.trans E18)
          · intro p54 h21 hp54 hh21
            subst hp54; subst hh21
            have A21 := push_own (el := 22) (v := Sl.v high) E.1 A
            have E21 := E.trans (Ext.push (x := .cells #[Sl.v high] 22) E.1)
            generalize h6.size = b54 at A21 ⊢
            generalize h6.push (.cells #[Sl.v high] 22) = h21 at A21 E21 ⊢
            refine ⟨c2 1 A21 rfl, c1 1 A21 rfl, ?_⟩
            intro p59 h22 hp59 hh22
            subst hp59; subst hh22
            have A22 := push_own (el := 22) (v := Sl.v low) E21.1 A21
            have E22 := E21.trans (Ext.push (x := .cells #[Sl.v low] 22) E21.1)
            generalize h21.size = b59 at A22 ⊢
            generalize h21.push (.cells #[Sl.v low] 22) = h22 at A22 E22 ⊢
            refine ⟨c2 2 A22 rfl, c1 2 A22 rfl, ?_⟩
            refine Fam.app (j := 3) (v := Sl.v low) A22 rfl rfl rfl E22.1 bs ((A22.ownI (j := 0) rfl).cell (o := 0) rfl rfl) fun s64 h23 A23 E23 => ?_
            have E23 := E22.trans E23
            refine ⟨c2 2 A23 rfl, ?_⟩
            refine Fam.app (j := 4) (v := Sl.v high) A23 rfl rfl rfl E23.1 bt ((A23.ownI (j := 1) rfl).cell (o := 0) rfl rfl) fun s66 h24 A24 E24 => ?_
            exact fin s64 s66 h24 _ _ A24 (E23.trans E24)
      have e0 : rowOf (val_ l) l.length 0 = List.range l.length := rfl
      have e1 : rowOf (neg_ l) l.length 0 = List.range l.length := rfl
      have A0 : Fam h.size h3 (topF b cl Sl.nil Sl.nil :: (1, Sl.nil, ([] : List Sl).map Sl.v) :: (1, Sl.nil, ([] : List Sl).map Sl.v) :: (1, row, (List.range l.length).map nV) :: [(1, cl, l.map iV)]) := by
        have := (A3.empty 1).empty 1
        exact this.perm (List.perm_append_comm_assoc (l₁ := [_, _, _]) (l₂ := [_]) (l₃ := [_]) |>.trans (List.Perm.refl _))
      exact key (l.length + 1) 0 row row Sl.nil Sl.nil [] [] _ h3 (by omega) (by decide) A0 (by simp) rfl rfl (fun k s hk => by simp at hk) (fun k s hk => by simp at hk) (List.mem_cons_self ..) (List.mem_cons_self ..) (fun j hj => by omega) E3
  exact first l.length 0 Sl.nil h2 (by omega) (A2.empty 1) E2
end
end Go.Proofs.YtcafckgflpmfgaaDoor
