/- All beginnings: the law 'ScanLevels'. -/
import Derived.Test.YtcafckgflpmfgaaDoorDScanV
import Derived.Test.YtcafckgflpmfgaaDoorDRows
namespace Go.Proofs.YtcafckgflpmfgaaDoor
open Go Go.RowKit Go.Tw Go.Scan
set_option linter.unusedVariables false
section
variable {r : World} {h : Heap} {op : Int} {l2 : Sl} {l : List Int}
/-- two by two, and so again -/
def lv (g : Int → Int → Int) : Nat → List Int → List (List Int)
  | 0, _ => []
  | n + 1, l => if 1 < l.length then pairs g l :: lv g n (pairs g l) else []
theorem opG_comm (n a b : Int) : opG n a b = opG n b a := by
  unfold opG
  split
  · show w64 (a + b) = w64 (b + a); rw [Int.add_comm]
  · split
    · exact Int.max_comm a b
    · split
      · exact Int.min_comm a b
      · show bXor .i64 a b = bXor .i64 b a
        rw [bXor_eq, bXor_eq, BitVec.xor_comm]
theorem pairs_in {n : Int} : ∀ (l : List Int), (∀ x ∈ l, In64 x) → ∀ x ∈ pairs (opG n) l, In64 x
  | [], h, x, hx => h x hx
  | [a], h, x, hx => h x hx
  | a :: b :: l, h, x, hx => by
    rcases List.mem_cons.1 hx with rfl | hx
    · exact op_in n (h a (by simp)) (h b (by simp))
    · exact pairs_in l (fun y hy => h y (by simp [hy])) x hx
/-- the last of all is what all come to -/
theorem lv_last {n : Int} (e : Int) (he : ∀ a, In64 a → opG n e a = a) : ∀ (k : Nat) (l : List Int), l ≠ [] → l.length ≤ k + 1 → (∀ x ∈ l, In64 x) → ∃ Q, (l :: lv (opG n) k l) = Q ++ [[l.foldl (opG n) e]]
  | 0, l, h0, hk, hin => by
    match l, h0, hk with
    | [a], _, _ => exact ⟨[], by simp [lv, he a (hin a (by simp))]⟩
    | a :: b :: l, _, hk => simp at hk
  | k + 1, l, h0, hk, hin => by
    by_cases c : 1 < l.length
    · have hl := pairs_len (opG n) l
      have hne : pairs (opG n) l ≠ [] := by intro q; rw [q] at hl; simp at hl; omega
      obtain ⟨Q, hQ⟩ := lv_last e he k (pairs (opG n) l) hne (by omega) (pairs_in l hin)
      refine ⟨l :: Q, ?_⟩
      simp only [lv, if_pos c]
      rw [hQ, pairs_fold (op_assoc n)]; rfl
    · have hl : l.length = 1 := by have := List.length_pos_iff.2 h0; omega
      match l, hl with
      | [a], _ => exact ⟨[], by simp [lv, he a (hin a (by simp))]⟩
theorem paired_ok {n : Nat} {R : Sl → Heap → Prop} (h1 : 1 ≤ op) (h4 : op ≤ 4) (S : RI n h l2 l) (hn : n ≤ h.size) (hz : l.length ≤ 17592186043904) (H : ∀ s h', Fw h h' → Own h.size 1 h' s ((pairs (opG op) l).map iV) → R s h') : ref1_Paired r op l2 h R := by
  apply ref1_Paired_of
  have sl := S.len
  intro X HX
  have key : ∀ (m k : Nat) (so : Sl) (h2 : Heap), l.length - 2 * k ≤ m → 2 * k ≤ l.length + 1 → Fw h h2 → Own h.size 1 h2 so ((pairs (opG op) (l.take (2 * k))).map iV) → X so ((2 * k : Nat) : Int) h2 := by
    intro m
    have stop : ∀ (k : Nat) (so : Sl) (h2 : Heap), ¬ 2 * k < l.length → Fw h h2 → Own h.size 1 h2 so ((pairs (opG op) (l.take (2 * k))).map iV) → X so ((2 * k : Nat) : Int) h2 := by
      intro k so h2 hk E O
      rw [List.take_of_length_le (by omega)] at O
      exact HX _ _ _ ⟨fun c => absurd (of_decide_eq_true c) (by omega), fun _ => H so h2 E O⟩
    induction m with
    | zero => intro k so h2 hm h2k E O; exact stop k so h2 (by omega) E O
    | succ m ih =>
      intro k so h2 hm h2k E O
      by_cases hk : 2 * k < l.length
      · have lo := O.len
        rw [List.length_map, pairs_len, List.length_take] at lo
        have ew : w64 (((2 * k : Nat) : Int) + 2) = ((2 * (k + 1) : Nat) : Int) := by rw [w64_of (by omega) (by omega)]; omega
        have ew1 : w64 (((2 * k : Nat) : Int) + 1) = ((2 * k + 1 : Nat) : Int) := by rw [w64_of (by omega) (by omega)]; omega
        refine HX _ _ _ ⟨fun _ => ?_, fun c => absurd (of_decide_eq_false c) (by omega)⟩
        intro J HJ
        rw [ew1]
        have ex : l[((2 * k : Nat) : Int).toNat]! = l[2 * k] := by rw [Int.toNat_natCast, getElem!_pos l _ hk]
        have htl : (l.take (2 * k)).length = 2 * k := by rw [List.length_take]; omega
        refine ⟨fun c => ?_, fun c => ?_⟩
        · have c := of_decide_eq_true c
          have hk1 : 2 * k + 1 < l.length := by omega
          have ex1 : l[((2 * k + 1 : Nat) : Int).toNat]! = l[2 * k + 1] := by rw [Int.toNat_natCast, getElem!_pos l _ hk1]
          refine RI.ix (S.ext E hn) (by omega) (by omega) fun p _ hp => ⟨_, hp, RI.ix (S.ext E hn) (by omega) (by omega) fun p2 _ hp2 => ⟨_, hp2, taken_ok h1 h4 ?_⟩⟩
          rw [ex, ex1]
          refine App.push (cs := [iV (opG op l[2 * k] l[2 * k + 1])]) O rfl rfl (by simp [one]) E.1 (by omega) fun s5 h5 G => HJ _ _ ?_
          rw [ew]
          refine ih (k + 1) s5 h5 (by omega) (by omega) (E.trans' G.ext) ?_
          have e : l.take (2 * (k + 1)) = l.take (2 * k) ++ [l[2 * k], l[2 * k + 1]] := by
            rw [show 2 * (k + 1) = 2 * k + 1 + 1 by omega, List.take_add_one, List.take_add_one, List.getElem?_eq_getElem hk, List.getElem?_eq_getElem hk1, List.append_assoc]; rfl
          rw [e, pairs_snoc _ k _ _ htl, List.map_append]; exact G.own
        · have c := of_decide_eq_false c
          refine RI.ix (S.ext E hn) (by omega) (by omega) fun p _ hp => ⟨_, hp, ?_⟩
          rw [ex]
          refine App.push (cs := [iV l[2 * k]]) O rfl rfl (by simp [one]) E.1 (by omega) fun s5 h5 G => HJ _ _ ?_
          rw [ew]
          refine ih (k + 1) s5 h5 (by omega) (by omega) (E.trans' G.ext) ?_
          have e : l.take (2 * (k + 1)) = l.take (2 * k) ++ [l[2 * k]] := by
            have ht := List.take_append_drop (2 * k) l
            rw [List.drop_eq_getElem_cons hk, List.drop_of_length_le (by omega)] at ht
            rw [List.take_of_length_le (by omega)]
            exact ht.symm
          rw [e, pairs_snoc1 _ k _ htl, List.map_append]; exact G.own
      · exact stop k so h2 hk E O
  have := key l.length 0 Sl.nil h (by omega) (by omega) (Fw.refl h) (by simp [pairs]; exact Own.nil _ _ _)
  exact this
theorem rows_few {q m n : Nat} (h : 2 ^ q * (m - 1) ≤ 2 * n) (hm : 2 ≤ m) (hn : n ≤ 17592186043904) : q ≤ 45 := by
  apply Nat.le_of_not_lt; intro c
  have a : 2 ^ 46 ≤ 2 ^ q := Nat.pow_le_pow_right (by omega) (by omega)
  have b : 2 ^ q * 1 ≤ 2 ^ q * (m - 1) := Nat.mul_le_mul_left _ (by omega)
  have e : (2 : Nat) ^ 46 = 70368744177664 := by decide
  omega
theorem lv_more (op : Int) : ∀ (a b : Nat) (c : List Int), c.length ≤ a → c.length ≤ b → lv (opG op) a c = lv (opG op) b c := by
  intro a
  induction a with
  | zero =>
    intro b c ha hb
    have hc : ¬ 1 < c.length := by omega
    cases b with
    | zero => rfl
    | succ b => simp only [lv, if_neg hc]
  | succ a iha =>
    intro b c ha hb
    by_cases hc : 1 < c.length
    · obtain ⟨b, rfl⟩ : ∃ b', b = b' + 1 := ⟨b - 1, by omega⟩
      have := pairs_len (opG op) c
      simp only [lv, if_pos hc]
      rw [iha b (pairs (opG op) c) (by omega) (by omega)]
    · cases b with
      | zero => simp only [lv, if_neg hc]
      | succ b => simp only [lv, if_neg hc]
theorem levels_ok {n : Nat} {R : Sl → Value → Heap → Prop} (h1 : 1 ≤ op) (h4 : op ≤ 4) (S : RI n h l2 l) (hn : n ≤ h.size) (hz : l.length ≤ 17592186043904) (h0 : l ≠ []) (H : ∀ s h', RR h'.size h' s (l :: lv (opG op) l.length l) → Fw h h' → R s .nilIface h') : scan_Levels r op l2 h R := by
  apply scan_Levels_of
  have sl := S.len
  have hpos := List.length_pos_iff.2 h0
  refine of_ok h1 h4 fun h1' E1 => New.cells fun h2 E2 z2 B2 => ⟨one_fv op, St.whole B2 rfl rfl fun h3 B3 o3 z3 => ⟨rfl, fun c => (by cases c), fun _ => ⟨fun c => absurd (of_decide_eq_true c) (by omega), fun _ => ?_⟩⟩⟩
  have F3 : Fw h h3 := (Fw.trans E1 E2).over E1.1 o3 z3
  refine clone_own (S.ext F3 hn) (Nat.le_trans hn F3.1) (by omega) fun s12 h4' E4 O12 => New.cells (cs := [Sl.v s12]) fun h5 E5 z5 B5 => ?_
  have A5 : Fam h3.size h5 ((1, (⟨some (ad h4'.size 0), 1, 1⟩ : Sl), [s12].map Sl.v) :: rowsF iV [s12] [l]) := by
    have A0 := ((Fam.none h3.size h5).cons (O12.ext E5) (fun x hx => by cases hx))
    refine A0.cons ⟨rfl, Nat.le_refl _, .inr ⟨_, [], rfl, E4.1, B5, rfl⟩⟩ fun x hx p q hp hq => ?_
    simp at hx
    subst hx
    cases hp
    have := (O12.lt hq).1
    show h4'.size ≠ q.block
    omega
  have z34 : h3.size ≤ h5.size := by have := E4.1; omega
  have hb3 := B3.lt
  have E35 : Ext h3.size h3 h5 := Fw.trans E4 E5
  intro X HX
  have key : ∀ (d : Nat) (cur : List Int) (sc so : Sl) (ss : List Sl) (Q : List (List Int)) (h6 : Heap), cur.length ≤ d → RI h6.size h6 sc cur → Fam h3.size h6 ((1, so, ss.map Sl.v) :: rowsF iV ss Q) → ss.length = Q.length → Ext h3.size h3 h6 → 2 ^ Q.length * (cur.length - 1) ≤ 2 * l.length → cur.length ≤ l.length →
      (∀ k, cur.length ≤ k → Q ++ lv (opG op) k cur = l :: lv (opG op) l.length l) → X sc so h6 := by
    intro d
    induction d with
    | zero =>
      intro cur sc so ss Q h6 hd Rc A hq E hb hc hlv
      have lc := Rc.len
      refine HX _ _ _ ⟨fun c => absurd (of_decide_eq_true c) (by omega), fun _ => H so h6 ?_ (F3.trans E)⟩
      have := hlv 0 (by omega)
      simp only [lv, List.append_nil] at this
      rw [← this]; exact RR.of_fam A hq
    | succ d ih =>
      intro cur sc so ss Q h6 hd Rc A hq E hb hc hlv
      have lc := Rc.len
      by_cases c1 : 1 < cur.length
      · refine HX _ _ _ ⟨fun _ => ?_, fun c => absurd (of_decide_eq_false c) (by omega)⟩
        have B6 : Blk h6 h1'.size [iV (opE op), fvOf op] := E.blk B3 hb3
        have hz6 := E.1
        refine ⟨_, B6.ld 0 rfl, _, B6.ld 1 rfl, pairs_ok (opV_ok r op) Rc (Nat.le_refl _) (by omega) fun s23 h7 O7 E7 => ?_⟩
        have A7 : Fam h3.size h7 ((1, s23, (pairs (opG op) cur).map iV) :: (1, so, ss.map Sl.v) :: rowsF iV ss Q) := by
          refine (A.ext E7).cons (O7.mono hz6) fun x hx p q hp hq2 => ?_
          have a1 := (O7.lt hp).2
          have a2 := ((A.own x hx).lt hq2).1
          omega
        have a7 := E7.1
        have hq2 := rows_few hb (by omega) hz
        have pl := pairs_len (opG op) cur
        refine Fam.push A7 (j := 1) rfl rfl (by rfl) (by omega) (by simp; omega) fun s27 h9 A9 E9 => ?_
        have A9' : Fam h3.size h9 ((1, s27, (ss ++ [s23]).map Sl.v) :: rowsF iV (ss ++ [s23]) (Q ++ [pairs (opG op) cur])) := by
          rw [rowsF_snoc hq, List.map_append]
          refine A9.perm ?_
          simp only [List.set_cons_succ, List.set_cons_zero]
          refine (List.Perm.swap _ _ _).trans (List.Perm.cons _ ?_)
          exact (List.perm_append_singleton _ _).symm
        have R23 : RI h9.size h9 s23 (pairs (opG op) cur) := (A9'.own (1, s23, (pairs (opG op) cur).map iV) (by rw [rowsF_snoc hq]; simp)).rs
        refine ih (pairs (opG op) cur) s23 s27 (ss ++ [s23]) (Q ++ [pairs (opG op) cur]) h9 (by omega) R23 A9' (by simp; omega) ((E.trans (E7.mono hz6)).trans E9) ?_ (by omega) fun k hk => ?_
        · rw [List.length_append, List.length_singleton, Nat.pow_succ, pl, Nat.mul_assoc]
          refine Nat.le_trans (Nat.mul_le_mul_left _ ?_) hb
          omega
        · rw [List.append_assoc, lv_more op k cur.length _ hk (by omega)]
          have := hlv (cur.length + 1) (by omega)
          rw [← this]
          simp only [lv, if_pos c1]; rfl
      · refine HX _ _ _ ⟨fun c => absurd (of_decide_eq_true c) (by omega), fun _ => H so h6 ?_ (F3.trans E)⟩
        have := hlv cur.length (Nat.le_refl _)
        have e : lv (opG op) cur.length cur = [] := by
          cases cur.length with
          | zero => rfl
          | succ k => simp only [lv, if_neg c1]
        rw [e, List.append_nil] at this
        rw [← this]; exact RR.of_fam A hq
  refine key l.length l l2 _ [s12] [l] h5 (Nat.le_refl _) ((S.ext (F3.trans E35) hn).mono (by have := F3.1; omega)) A5 rfl E35 (by simp; omega) (Nat.le_refl _) fun k hk => ?_
  rw [lv_more op k l.length l hk (Nat.le_refl _)]; rfl
theorem levels_bad {R : Sl → Value → Heap → Prop} (hn : ¬ (1 ≤ op ∧ op ≤ 4)) (H : ∀ h', Fw h h' → R Sl.nil (Ev 3) h') : scan_Levels r op l2 h R := by
  apply scan_Levels_of
  refine of_err hn fun h1' E1 => New.cells fun h2 E2 z2 B2 => ⟨rfl, St.whole B2 rfl rfl fun h3 B3 o3 z3 => ⟨rfl, fun _ => H h3 ((Fw.trans E1 E2).over E1.1 o3 z3), fun c => by cases c⟩⟩
theorem levels_none {R : Sl → Value → Heap → Prop} (h1 : 1 ≤ op) (h4 : op ≤ 4) (h0 : l2.len = 0) (H : ∀ h', Fw h h' → R Sl.nil (Ev 2) h') : scan_Levels r op l2 h R := by
  apply scan_Levels_of
  refine of_ok h1 h4 fun h1' E1 => New.cells fun h2 E2 z2 B2 => ⟨one_fv op, St.whole B2 rfl rfl fun h3 B3 o3 z3 => ⟨rfl, fun c => (by cases c), fun _ => ⟨fun _ => H h3 ((Fw.trans E1 E2).over E1.1 o3 z3), fun c => absurd (of_decide_eq_false c) (by omega)⟩⟩⟩
theorem RR.nil (n : Nat) (h : Heap) : RR n h Sl.nil [] := ⟨[], rfl, ⟨rfl, Nat.le_refl _, .inl rfl⟩, fun k s' q h1 => by simp at h1⟩
theorem scanlevels_law (hg : Er h) (hl : RI h.size h l2 l) (hz : l.length ≤ 17592186043904) (hin : ∀ x ∈ l, In64 x) : law5_ScanLevels r op l2 h fun y h' => y = true ∧ Ext h.size h h' := by
  apply law5_ScanLevels_of
  have sl := hl.len
  refine scanned_ok fun h1 E1 => opOk_ok ?_
  intro J HJ
  by_cases hop : 1 ≤ op ∧ op ≤ 4
  · obtain ⟨o1, o4⟩ := hop
    refine ⟨fun c => (by rw [decide_eq_true o1, decide_eq_true o4] at c; cases c), fun _ => ⟨fun c => ?_, fun c => ?_⟩⟩
    · have c := of_decide_eq_true c
      refine HJ _ _ _ (levels_none o1 o4 (by omega) fun h4 E4 => err_ok ((hg.fw E1).fw E4) fun h5 E5 => ?_)
      refine same_Rows_ok (RR.nil h5.size h5) (RR.nil h5.size h5) (by simp) (by simp) ?_
      rw [decide_eq_true rfl]
      exact ⟨fun c => (by simp at c), fun _ => ⟨fun _ => ⟨rfl, (Fw.trans E1 E4).trans E5⟩, fun c => by simp at c⟩⟩
    · have c := of_decide_eq_false c
      have h0 : l ≠ [] := by intro e; subst e; simp at sl; omega
      have hpos := List.length_pos_iff.2 h0
      have z1 := E1.1
      refine Fam.push ((Fam.none h1.size h1).empty 1) (j := 0) rfl rfl (by rfl) (Nat.le_refl _) (by simp) fun s58 h9 A9 E9 => ?_
      have A9 : Fam h1.size h9 ((1, s58, ([l2]).map Sl.v) :: rowsF iV [] []) := A9
      intro X HX
      have key : ∀ (d : Nat) (cur : List Int) (sc so : Sl) (ss : List Sl) (Q : List (List Int)) (h6 : Heap), cur.length ≤ d → RI h6.size h6 sc cur → Fam h1.size h6 ((1, so, (l2 :: ss).map Sl.v) :: rowsF iV ss Q) → ss.length = Q.length → Fw h1 h6 → 2 ^ (Q.length + 1) * (cur.length - 1) ≤ 2 * l.length → cur.length ≤ l.length →
          (∀ k, cur.length ≤ k → (l :: Q) ++ lv (opG op) k cur = l :: lv (opG op) l.length l) → X so sc h6 := by
        have fin : ∀ (cur : List Int) (sc so : Sl) (ss : List Sl) (Q : List (List Int)) (h6 : Heap), ¬ 1 < cur.length → RI h6.size h6 sc cur → Fam h1.size h6 ((1, so, (l2 :: ss).map Sl.v) :: rowsF iV ss Q) → ss.length = Q.length → Fw h1 h6 → (∀ k, cur.length ≤ k → (l :: Q) ++ lv (opG op) k cur = l :: lv (opG op) l.length l) → X so sc h6 := by
          intro cur sc so ss Q h6 hc1 Rc A hq E hlv
          have lc := Rc.len
          have E06 : Fw h h6 := Fw.trans E1 E
          refine HX _ _ _ ⟨fun c => absurd (of_decide_eq_true c) (by omega), fun _ => HJ _ _ _ ?_⟩
          have hall := hlv cur.length (Nat.le_refl _)
          have e : lv (opG op) cur.length cur = [] := by
            cases cur.length with
            | zero => rfl
            | succ k => simp only [lv, if_neg hc1]
          rw [e, List.append_nil] at hall
          have want : RR h6.size h6 so (l :: lv (opG op) l.length l) := by
            rw [← hall]
            refine ⟨l2 :: ss, by simp [hq], (A.ownI (j := 0) rfl).rs, fun k s' q a b => ?_⟩
            cases k with
            | zero =>
              simp only [List.getElem?_cons_zero, Option.some.injEq] at a b
              subst a; subst b
              exact (hl.ext E06 (Nat.le_refl _)).mono E06.1
            | succ k =>
              simp only [List.getElem?_cons_succ] at a b
              exact (A.ownI (j := k + 1) (rowsF_at a b)).rs
          refine levels_ok o1 o4 (hl.ext E06 (Nat.le_refl _)) E06.1 hz h0 fun s9 h4 G9 E4 => err_ok (n := 0) ((hg.fw E06).fw E4) fun h5 E5 => ?_
          have G5 := G9.ext E5 (Nat.le_refl _)
          have W5 := want.ext (E4.trans E5) (Nat.le_refl _)
          have hlast := lv_last (n := op) (opE op) (fun a ha => by rw [opG_comm]; exact op_nought op ha) l.length l h0 (by omega) hin
          obtain ⟨Q2, hQ2⟩ := hlast
          have lenb : ∀ (k : Nat) (c : List Int), ∀ q ∈ lv (opG op) k c, q.length ≤ c.length := by
            intro k
            induction k with
            | zero => intro c q hq; simp [lv] at hq
            | succ k ih =>
              intro c q hq
              by_cases hc : 1 < c.length
              · simp only [lv, if_pos hc] at hq
                have := pairs_len (opG op) c
                rcases List.mem_cons.1 hq with rfl | hq
                · omega
                · have := ih _ q hq; omega
              · simp only [lv, if_neg hc] at hq; cases hq
          have few : ∀ (k : Nat) (c : List Int), (lv (opG op) k c).length ≤ c.length := by
            intro k
            induction k with
            | zero => intro c; simp [lv]
            | succ k ih =>
              intro c
              by_cases hc : 1 < c.length
              · simp only [lv, if_pos hc, List.length_cons]
                have := pairs_len (opG op) c
                have := ih (pairs (opG op) c)
                omega
              · simp only [lv, if_neg hc]; simp
          refine same_Rows_ok G5 W5 (by have := few l.length l; simp; omega) (fun q hq => ?_) ?_
          · rcases List.mem_cons.1 hq with rfl | hq
            · omega
            · have := lenb _ _ q hq; omega
          rw [decide_eq_true rfl]
          refine ⟨fun c => (by simp at c), fun _ => ⟨fun c => (by simp at c), fun _ => ?_⟩⟩
          have E05 := (E06.trans E4).trans E5
          refine fold_ok o1 o4 (hl.ext E05 (Nat.le_refl _)) E05.1 hz fun h7 E7 => ?_
          intro J22 HJ22
          have G7 := G5.ext E7 E5.1
          have gl := G7.len
          have glen : (l :: lv (opG op) l.length l).length = Q2.length + 1 := by rw [hQ2]; simp
          have fewl := few l.length l
          simp only [List.length_cons] at glen
          have ew : w64 ((s9.len : Int) - 1) = ((Q2.length : Nat) : Int) := by
            simp only [List.length_cons] at gl
            rw [w64_of (by omega) (by omega)]; omega
          have hget : ∀ hh : Q2.length < (l :: lv (opG op) l.length l).length, (l :: lv (opG op) l.length l)[Q2.length] = [l.foldl (opG op) (opE op)] := by
            intro hh
            have : (l :: lv (opG op) l.length l)[Q2.length]? = some [l.foldl (opG op) (opE op)] := by rw [hQ2]; simp
            rw [List.getElem?_eq_getElem hh] at this
            injection this
          refine ⟨rfl, fun _ => ?_, fun c => by cases c⟩
          rw [ew]
          refine G7.ix (i := Q2.length) (by simp only [List.length_cons]; omega) fun p s' _ hp hr => ⟨_, hp, ?_⟩
          rw [hget (by simp only [List.length_cons]; omega)] at hr
          have l1 := hr.len
          refine ⟨fun _ => G7.ix (i := Q2.length) (by simp only [List.length_cons]; omega) fun p s2 _ hp hr2 => ⟨_, hp, ?_⟩, fun c => absurd (of_decide_eq_false c) (by simp at l1; omega)⟩
          rw [hget (by simp only [List.length_cons]; omega)] at hr2
          refine RI.ix hr2 (by decide) (by simp) fun p3 _ hp3 => ⟨_, hp3, HJ22 _ ⟨?_, E05.trans' (E7.mono E05.1)⟩⟩
          simp
        intro d
        induction d with
        | zero => intro cur sc so ss Q h6 hd Rc A hq E hb hc hlv; exact fin cur sc so ss Q h6 (by omega) Rc A hq E hlv
        | succ d ih =>
          intro cur sc so ss Q h6 hd Rc A hq E hb hc hlv
          have lc := Rc.len
          by_cases c1 : 1 < cur.length
          · refine HX _ _ _ ⟨fun _ => ?_, fun c => absurd (of_decide_eq_false c) (by omega)⟩
            have hz6 := E.1
            refine paired_ok o1 o4 Rc (Nat.le_refl _) (by omega) fun s23 h7 E7 O7 => ?_
            have A7 : Fam h1.size h7 ((1, s23, (pairs (opG op) cur).map iV) :: (1, so, (l2 :: ss).map Sl.v) :: rowsF iV ss Q) := by
              refine (A.ext E7).cons (O7.mono hz6) fun x hx p q hp hq2 => ?_
              have a1 := (O7.lt hp).2
              have a2 := ((A.own x hx).lt hq2).1
              omega
            have a7 := E7.1
            have hq2 := rows_few hb (by omega) hz
            have pl := pairs_len (opG op) cur
            refine Fam.push A7 (j := 1) rfl rfl (by rfl) (by omega) (by simp; omega) fun s27 h9 A9 E9 => ?_
            have A9' : Fam h1.size h9 ((1, s27, (l2 :: (ss ++ [s23])).map Sl.v) :: rowsF iV (ss ++ [s23]) (Q ++ [pairs (opG op) cur])) := by
              have e1 : (l2 :: (ss ++ [s23])).map Sl.v = (l2 :: ss).map Sl.v ++ [Sl.v s23] := by simp
              rw [rowsF_snoc hq, e1]
              refine A9.perm ?_
              simp only [List.set_cons_succ, List.set_cons_zero]
              refine (List.Perm.swap _ _ _).trans (List.Perm.cons _ ?_)
              exact (List.perm_append_singleton _ _).symm
            have R23 : RI h9.size h9 s23 (pairs (opG op) cur) := (A9'.own (1, s23, (pairs (opG op) cur).map iV) (by rw [rowsF_snoc hq]; simp)).rs
            refine ih (pairs (opG op) cur) s23 s27 (ss ++ [s23]) (Q ++ [pairs (opG op) cur]) h9 (by omega) R23 A9' (by simp; omega) ((E.trans E7).trans' (E9.mono (Nat.le_refl _))) ?_ (by omega) fun k hk => ?_
            · rw [List.length_append, List.length_singleton, Nat.pow_succ, pl, Nat.mul_assoc]
              refine Nat.le_trans (Nat.mul_le_mul_left _ ?_) hb
              omega
            · rw [lv_more op k cur.length _ hk (by omega)]
              have := hlv (cur.length + 1) (by omega)
              rw [← this]
              simp only [lv, if_pos c1]
              simp
          · exact fin cur sc so ss Q h6 c1 Rc A hq E hlv
      refine key l.length l l2 s58 [] [] h9 (Nat.le_refl _) ((hl.ext (Fw.trans E1 E9) (Nat.le_refl _)).mono (Fw.trans E1 E9).1) A9 rfl E9 (by simp; omega) (Nat.le_refl _) fun k hk => ?_
      rw [lv_more op k l.length l hk (Nat.le_refl _)]; rfl
  · refine ⟨fun _ => HJ _ _ _ (levels_bad hop fun h4 E4 => err_ok ((hg.fw E1).fw E4) fun h5 E5 => ?_), fun c => ?_⟩
    · refine same_Rows_ok (RR.nil h5.size h5) (RR.nil h5.size h5) (by simp) (by simp) ?_
      rw [decide_eq_true rfl]
      exact ⟨fun c => (by simp at c), fun _ => ⟨fun _ => ⟨rfl, (Fw.trans E1 E4).trans E5⟩, fun c => by simp at c⟩⟩
    · exfalso
      have c : (decide (1 ≤ op) && decide (op ≤ 4)) = true := by simpa using c
      simp only [Bool.and_eq_true, decide_eq_true_eq] at c
      exact hop c
end
end Go.Proofs.YtcafckgflpmfgaaDoor
