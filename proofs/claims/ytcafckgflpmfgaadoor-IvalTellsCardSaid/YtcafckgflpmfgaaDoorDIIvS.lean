/- Spans in order: the law 'IvalTells'. -/
import Derived.Test.YtcafckgflpmfgaaDoorDIIvP
import Derived.Test.YtcafckgflpmfgaaDoorDBasP
namespace Go.Proofs.YtcafckgflpmfgaaDoor.Iv
open Go Go.RowKit Go.Tw Go.Many Go.Ival
set_option linter.unusedVariables false
section
variable {r : World} {h : Heap} {l : List Spn}
theorem same_Spans_ok {n n' : Nat} {a b : Sl} {R : Bool → Heap → Prop} (ha : Rs n 3 h a (cellsP l)) (hb : Rs n' 3 h b (cellsP l)) (hz : l.length ≤ 1125899906842624) (H : R true h) : same_Spans r a b h R := by
  apply same_Spans_of
  have la := ss_len ha
  have lb := ss_len hb
  refine ⟨fun c => ?_, fun _ => ?_⟩
  · rw [decide_eq_true (by omega)] at c; cases c
  intro X HX
  have key : ∀ (d i : Nat), i + d = l.length → X (i : Int) := by
    intro d
    induction d with
    | zero => exact fun i hi => HX _ ⟨fun c => absurd (of_decide_eq_true c) (by omega), fun _ => H⟩
    | succ d ih =>
      intro i hi
      refine HX _ ⟨fun _ => ?_, fun c => absurd (of_decide_eq_false c) (by omega)⟩
      refine SS.ix ha (by omega) (by omega) fun p p0 p1 p2 => ⟨_, p0, _, p1, _, p2, SS.ix hb (by omega) (by omega) fun q q0 q1 q2 => ⟨_, q0, _, q1, _, q2, ?_⟩⟩
      refine ⟨fun c => (by simp at c), fun _ => ?_⟩
      rw [w64_of (n := (i : Int) + 1) (by omega) (by omega)]
      exact ih (i + 1) (by omega)
  exact key l.length 0 (by omega)
theorem met_ok {n : Nat} {s : Sl} {low high : Int} {R : Sl → Heap → Prop} (S : Rs n 3 h s (cellsP l)) (hn : n ≤ h.size) (hz : l.length ≤ 5864062014700) (H : ∀ s' h', Fw h h' → Own h.size 3 h' s' (cellsP (ovF low high l)) → R s' h') : ref1_Met r s low high h R := by
  apply ref1_Met_of
  have sl := ss_len S
  intro X HX
  have snoc : ∀ (u : List Spn) (y : Spn), ovF low high (u ++ [y]) = ovF low high u ++ (if (decide (low ≤ high) && (decide (y.lo ≤ high) && decide (low ≤ y.hi))) = true then [y] else []) := by
    intro u y
    by_cases c : low ≤ high
    · rw [ovF_eq c, ovF_eq c, List.filter_append, List.filter_cons, List.filter_nil, decide_eq_true c, Bool.true_and]
    · rw [show ovF low high (u ++ [y]) = [] from if_pos (by omega), show ovF low high u = [] from if_pos (by omega), decide_eq_false c, Bool.false_and]; rfl
  have key : ∀ (d i : Nat) (so : Sl) (h2 : Heap), i + d = l.length → Fw h h2 → Own h.size 3 h2 so (cellsP (ovF low high (l.take i))) → X so (i : Int) h2 := by
    intro d
    induction d with
    | zero =>
      intro i so h2 hi E O
      rw [List.take_of_length_le (by omega)] at O
      exact HX _ _ _ ⟨fun c => absurd (of_decide_eq_true c) (by omega), fun _ => H so h2 E O⟩
    | succ d ih =>
      intro i so h2 hi E O
      have hil : i < l.length := by omega
      have ex : l[(i : Int).toNat]! = l[i] := by rw [Int.toNat_natCast, getElem!_pos l i hil]
      have e : l.take (i + 1) = l.take i ++ [l[i]] := by rw [List.take_add_one, List.getElem?_eq_getElem hil]; rfl
      have ih := ih (i + 1)
      rw [e, snoc] at ih
      have e1 : w64 ((i : Int) + 1) = ((i + 1 : Nat) : Int) := by rw [w64_of (by omega) (by omega)]; omega
      have lo := ss_len O.rs
      have lo2 := ovF_len low high (l.take i)
      rw [List.length_take] at lo2
      refine HX _ _ _ ⟨fun _ => ?_, fun c => absurd (of_decide_eq_false c) (by omega)⟩
      intro J8 HJ8 J11 HJ11
      have yes : (decide (low ≤ high) && (decide (l[i].lo ≤ high) && decide (low ≤ l[i].hi))) = true → J11 true := fun c => HJ11 _ ⟨fun _ => SS.ix (S.ext E hn) (by omega) (by omega) fun p p0 p1 p2 => ⟨_, p0, _, p1, _, p2, by
        rw [ex]
        refine App.push (cs := [iV l[i].lo, iV l[i].hi, iV l[i].val]) O rfl rfl (by simp [one]) E.1 (by omega) fun s4 h4 G => HJ8 _ _ ?_
        rw [e1]
        rw [if_pos c] at ih
        refine ih s4 h4 (by omega) (E.trans' G.ext) ?_
        rw [cellsP_append]; exact G.own⟩, fun c => by cases c⟩
      have no : ¬ (decide (low ≤ high) && (decide (l[i].lo ≤ high) && decide (low ≤ l[i].hi))) = true → J11 false := fun c => HJ11 _ ⟨fun c => (by cases c), fun _ => HJ8 _ _ (by
        rw [e1]
        rw [if_neg c, List.append_nil] at ih
        exact ih so h2 (by omega) E O)⟩
      refine ⟨fun c => SS.ix (S.ext E hn) (by omega) (by omega) fun p p0 p1 p2 => ⟨_, p0, ?_⟩, fun c => no (by rw [c]; simp)⟩
      rw [ex]
      refine ⟨fun c2 => SS.ix (S.ext E hn) (by omega) (by omega) fun p p0 p1 p2 => ⟨_, p1, ?_⟩, fun c2 => no (by rw [c2]; simp)⟩
      rw [ex]
      dsimp only
      by_cases c3 : low ≤ l[i].hi
      · rw [decide_eq_true c3]; exact yes (by rw [c, c2, decide_eq_true c3]; rfl)
      · rw [decide_eq_false c3]; exact no (by rw [decide_eq_false c3]; simp)
  refine key l.length 0 Sl.nil h (by omega) (Fw.refl h) ?_
  have : ovF low high (l.take 0) = [] := by simp [ovF]
  rw [this]; exact Own.nil _ _ _
theorem cellsP_take (a : List Spn) (k : Nat) : cellsP (a.take k) = (cellsP a).take (k * 3) := by
  induction a generalizing k with
  | nil => simp [cellsP]
  | cons x a ih =>
    cases k with
    | zero => simp [cellsP]
    | succ k =>
      rw [List.take_succ_cons, show (k + 1) * 3 = k * 3 + 1 + 1 + 1 by omega]
      simp only [cellsP, List.flatMap_cons, List.cons_append, List.nil_append, List.take_succ_cons] at ih ⊢
      rw [ih]
theorem cellsP_drop (a : List Spn) (k : Nat) : cellsP (a.drop k) = (cellsP a).drop (k * 3) := by
  induction a generalizing k with
  | nil => simp [cellsP]
  | cons x a ih =>
    cases k with
    | zero => simp
    | succ k =>
      rw [List.drop_succ_cons, show (k + 1) * 3 = k * 3 + 1 + 1 + 1 by omega, ih]
      rfl
theorem cellsP_one (a : List Spn) : ∀ v ∈ cellsP a, one v = true := by
  intro v hv
  obtain ⟨x, _, hx⟩ := List.mem_flatMap.1 hv
  simp at hx
  rcases hx with rfl | rfl | rfl <;> rfl
theorem SS.sub {n : Nat} {s : Sl} {lo hi : Nat} {K : Sl → Prop} (S : Rs n 3 h s (cellsP l)) (h1 : lo ≤ hi) (h2 : hi ≤ l.length) (hK : ∀ t, Rs n 3 h t (cellsP ((l.drop lo).take (hi - lo))) → K t) : Sub s (lo : Int) (hi : Int) (s.cap : Int) 3 K := by
  have hl := ss_len S
  have hc := S.cap
  refine ⟨by omega, by omega, by omega, by omega, fun t ht => hK t ?_⟩
  have et : t = ⟨sliceA s.a s.cap lo 3, hi - lo, s.cap - lo⟩ := by rw [ht]; simp only [Int.toNat_natCast]
  rw [et]
  refine ⟨by rw [three_len, List.length_take, List.length_drop]; show (hi - lo) * 3 = _; omega, by show hi - lo ≤ s.cap - lo; omega, ?_⟩
  by_cases c : lo = hi
  · subst c; left; simp [cellsP]
  right
  rcases S.at_ with e | ⟨b, o, e1, e2, e3⟩
  · have := congrArg List.length e
    rw [three_len] at this; simp at this; omega
  · refine ⟨b, o + lo * 3, ?_, e2, fun i hi' => ?_⟩
    · unfold sliceA
      rw [if_neg (by omega), e1]
      show some (Addr.add (ad b o) (lo * 3)) = _
      rw [ad_add]
    · rw [three_len, List.length_take, List.length_drop] at hi'
      rw [show o + lo * 3 + i = o + (lo * 3 + i) by omega, e3 _ (by rw [three_len]; omega)]
      have e4 := cellsP_take (l.drop lo) (hi - lo)
      have e5 := cellsP_drop l lo
      rw [e4, e5, List.getElem?_take, if_pos (by omega), List.getElem?_drop]
theorem laid_ok {n : Nat} {s : Sl} {y : Spn} {R : Sl → Heap → Prop} (S : Rs n 3 h s (cellsP l)) (hn : n ≤ h.size) (hu : UpS l) (hz : l.length + 1 ≤ 5864062014700) (H : ∀ s' h', Fw h h' → Own h.size 3 h' s' (cellsP (insS y l)) → R s' h') : ref1_Laid r s y.lo y.hi y.val h R := by
  apply ref1_Laid_of
  have sl := ss_len S
  refine New.cells (cs := [iV y.lo, iV y.hi, iV y.val]) fun h1 E1 z1 B1 => ?_
  have S1 := S.ext E1 hn
  have hu' : l.Pairwise fun a b => a.lo ≤ b.lo := List.pairwise_map.1 hu
  intro X HX
  have fin : ∀ (k : Nat), CtS (fun x => decide (x.lo ≤ y.lo)) l k → (∀ (J11 : Bool → Prop), (Br false (X (w64 ((k : Int) + 1))) (
        Sub s 0 (k : Int) ((s.cap : Int)) 3 fun s13 =>
        App 74 3 24 (.agg #[(.int .i64 0), (.int .i64 0), (.int .i64 0)]) Sl.nil s13 h1 fun s19 h2 =>
        LdI h2 (Addr.add (ad h.size 0) 0) fun x20 =>
        LdI h2 (Addr.add (ad h.size 0) 1) fun x22 =>
        LdI h2 (Addr.add (ad h.size 0) 2) fun x24 =>
        New h2 (.cells #[(.int .i64 x20), (.int .i64 x22), (.int .i64 x24)] 74) fun p26 h3 =>
        App 74 3 24 (.agg #[(.int .i64 0), (.int .i64 0), (.int .i64 0)]) s19 ((⟨some p26, 1, 1⟩ : Sl)) h3 fun s29 h4 =>
        Sub s (k : Int) ((s.len : Int)) ((s.cap : Int)) 3 fun s30 =>
        App 74 3 24 (.agg #[(.int .i64 0), (.int .i64 0), (.int .i64 0)]) s29 s30 h4 fun s36 h5 =>
        R s36 h5) → J11 false) → J11 false) := by
    intro k K J11 hJ
    refine hJ ⟨fun c => (by cases c), fun _ => ?_⟩
    have hk := K.le
    refine SS.sub (lo := 0) (hi := k) S1 (by omega) hk fun t T => ?_
    rw [List.drop_zero, Nat.sub_zero] at T
    have tl := ss_len T
    rw [List.length_take] at tl
    refine App.own (Own.nil h.size 3 h1) T rfl (cellsP_one _) E1.1 (by simp [Sl.nil]; omega) fun s2 h2 G2 => ?_
    have O2 := G2.own
    rw [List.nil_append] at O2
    have l2 := ss_len O2.rs
    rw [List.length_take] at l2
    have B2 : Blk h2 h.size [iV y.lo, iV y.hi, iV y.val] := by
      have := G2.others h.size (by omega) (fun p hp => by cases hp)
      exact B1.of_eq this
    have z2 : h.size ≤ h2.size := Nat.le_trans E1.1 G2.ext.1
    refine ⟨_, B2.ld 0 rfl, _, B2.ld 1 rfl, _, B2.ld 2 rfl, ?_⟩
    refine App.push (cs := [iV y.lo, iV y.hi, iV y.val]) O2 rfl rfl (by simp [one]) z2 (by omega) fun s3 h3 G3 => ?_
    have O3 := G3.own
    have e3 : cellsP (l.take k) ++ [iV y.lo, iV y.hi, iV y.val] = cellsP (l.take k ++ [y]) := by rw [cellsP_append]; rfl
    rw [e3] at O3
    have l3 := ss_len O3.rs
    simp only [List.length_append, List.length_take, List.length_singleton] at l3
    have E3 : Fw h h3 := (Fw.trans' E1 G2.ext).trans' G3.ext
    have e4 : (s.len : Int) = ((l.length : Nat) : Int) := by omega
    rw [e4]
    refine SS.sub (lo := k) (hi := l.length) (S.ext E3 hn) hk (Nat.le_refl _) fun u U => ?_
    rw [List.take_of_length_le (by rw [List.length_drop]; omega)] at U
    have ul := ss_len U
    rw [List.length_drop] at ul
    refine App.own O3 U rfl (cellsP_one _) E3.1 (by omega) fun s4 h4 G4 => H s4 h4 (E3.trans' G4.ext) ?_
    have O4 := G4.own
    rw [← K.ins]
    have e5 : cellsP (l.take k ++ [y]) ++ cellsP (l.drop k) = cellsP (l.take k ++ y :: l.drop k) := by rw [← cellsP_append]; simp
    rw [← e5]; exact O4
  have key : ∀ (d k : Nat), k + d = l.length → (∀ z ∈ l.take k, z.lo ≤ y.lo) → X (k : Int) := by
    intro d
    induction d with
    | zero =>
      intro k hk hall
      refine HX _ ?_
      intro J11 HJ11
      refine ⟨fun c => absurd (of_decide_eq_true c) (by omega), fun _ => fin k ⟨by omega, fun z hz => by simpa using hall z hz, fun z hz => ?_⟩ J11 fun hb => HJ11 _ hb⟩
      rw [List.drop_of_length_le (by omega)] at hz; cases hz
    | succ d ih =>
      intro k hk hall
      have hkl : k < l.length := by omega
      have ex : l[(k : Int).toNat]! = l[k] := by rw [Int.toNat_natCast, getElem!_pos l k hkl]
      refine HX _ ?_
      intro J11 HJ11
      refine ⟨fun _ => SS.ix S1 (by omega) (by omega) fun p p0 p1 p2 => ⟨_, p0, _, B1.ld 0 rfl, ?_⟩, fun c => absurd (of_decide_eq_false c) (by omega)⟩
      rw [ex]
      dsimp only
      by_cases c : l[k].lo ≤ y.lo
      · rw [decide_eq_true c]
        refine HJ11 _ ⟨fun _ => ?_, fun c => by cases c⟩
        rw [w64_of (n := (k : Int) + 1) (by omega) (by omega)]
        refine ih (k + 1) (by omega) fun z hz => ?_
        rw [List.take_add_one, List.getElem?_eq_getElem hkl] at hz
        simp only [Option.toList_some, List.mem_append, List.mem_singleton] at hz
        rcases hz with hz | rfl
        · exact hall z hz
        · exact c
      · rw [decide_eq_false c]
        refine fin k ⟨by omega, fun z hz => by simpa using hall z hz, fun z hz => ?_⟩ J11 fun hb => HJ11 _ hb
        obtain ⟨j, hj, rfl⟩ := List.mem_iff_getElem.1 hz
        rw [List.length_drop] at hj
        rw [List.getElem_drop]
        rcases Nat.eq_zero_or_pos j with h0 | h0
        · subst h0; simpa using c
        · have := List.pairwise_iff_getElem.1 hu' k (k + j) hkl (by omega) (by omega)
          simp; omega
  exact key l.length 0 (by omega) (fun z hz => by simp at hz)
theorem ilen_ok {A : Nat → Prop} {q : Option Addr} {R : Int → Heap → Prop} (T : Tr A h q l) (H : ∀ h', Fw h h' → R (l.length : Int) h') : ival_Map_Len r q h R := by
  apply ival_Map_Len_of
  exact New.cells fun h1 E1 z1 B1 => ⟨_, B1.ld2 0 0 rfl, len_ok (T.fw E1) fun h2 E2 => H h2 (E1.trans E2)⟩
theorem ispans_ok {A : Nat → Prop} {q : Option Addr} {R : Sl → Heap → Prop} (T : Tr A h q l) (hz : l.length ≤ 5864062014700) (H : ∀ s h', Fw h h' → Own h.size 3 h' s (cellsP l) → R s h') : ival_Map_Spans r q h R := by
  apply ival_Map_Spans_of
  exact New.cells fun h1 E1 z1 B1 => ⟨_, B1.ld2 0 0 rfl, all_ok (T.fw E1) (by omega) fun s h2 E2 O => H s h2 (E1.trans E2) (O.mono E1.1)⟩
theorem ivaltells_law {l1 : Sl} {x low high : Int} (hg : Er h) (hl1 : Rs h.size 3 h l1 (cellsP l)) (hz : l.length ≤ 5864062014690) : law3_IvalTells r l1 x low high h fun y h' => y = true ∧ Ext h.size h h' := by
  apply law3_IvalTells_of
  have hlen := ss_len hl1
  refine spanned_ok fun h2 E2 => ⟨fun c => (by cases c), fun _ => New.cells fun h3 E3 z3 B3 => ?_⟩
  have E03 := E2.trans E3
  have hc : h.size ≤ h2.size := E2.1
  have step : ∀ i : Nat, i < l.length → w64 ((i : Int) + 1) = ((i + 1 : Nat) : Int) := fun i hi => by rw [w64_of] <;> omega
  intro X HX
  have key : ∀ (d i : Nat) (h4 : Heap) (q : Option Addr) (sa : Sl) (L : List Spn), i + d = l.length → Fw h h4 → h3.size ≤ h4.size → Blk h4 h2.size [.pointer q] → Tr (Bs Any h2.size) h4 q L → Own h3.size 3 h4 sa (cellsP L) → UpS L → L.length ≤ i → X sa (i : Int) h4 := by
    intro d
    induction d with
    | zero =>
      intro i h4 q sa L hi E4 hz4 B4 T4 O4 hu hL
      have Ra : Rs h4.size 3 h4 sa (cellsP L) := O4.rs
      have la := ss_len Ra
      refine HX _ _ _ ⟨fun c => absurd (of_decide_eq_true c) (by omega), fun _ => ⟨_, B4.ld 0 rfl, ?_⟩⟩
      refine ispans_ok T4 (by omega) fun s97 h15 E15 O15 => same_Spans_ok O15.rs (Ra.ext E15 (Nat.le_refl _)) (by omega) ⟨_, (E15.blk B4).ld 0 rfl, ?_⟩
      refine iall_ok (T4.fw E15) hu (by omega) fun s101 h17 E17 O17 => ?_
      have F17 := E15.trans E17
      refine met_ok (Ra.ext F17 (Nat.le_refl _)) F17.1 (by omega) fun s102 h18 E18 O18 => ?_
      have ov1 := ovF_len x x L
      refine same_Spans_ok (Rs.ext O17.rs E18 (Nat.le_refl _)) O18.rs (by omega) ?_
      have F18 := F17.trans E18
      refine ⟨_, (F18.blk B4).ld 0 rfl, over_ok (T4.fw F18) hu (by omega) fun s106 h20 E20 O20 => ?_⟩
      have F20 := F18.trans E20
      refine met_ok (Ra.ext F20 (Nat.le_refl _)) F20.1 (by omega) fun s107 h21 E21 O21 => ?_
      have ov2 := ovF_len low high L
      refine same_Spans_ok (Rs.ext O20.rs E21 (Nat.le_refl _)) O21.rs (by omega) ?_
      have F21 := F20.trans E21
      refine ⟨_, (F21.blk B4).ld 0 rfl, ?_⟩
      have rest : ∀ (a b c : Int) (has : Bool) (h23 : Heap), Fw h21 h23 → ((ovF x x L = [] ∧ a = 0 ∧ b = 0 ∧ c = 0 ∧ has = false) ∨ ∃ s rest, ovF x x L = s :: rest ∧ a = s.lo ∧ b = s.hi ∧ c = s.val ∧ has = true) →
          (New h23 (.cells #[(.int .i64 0), (.int .i64 0), (.int .i64 0)] 74) fun p115 h24 =>
        St h24 p115 3 [(.int .i64 a), (.int .i64 b), (.int .i64 c)] fun h25 =>
        New h25 (.cells #[(.int .i64 0), (.int .i64 0), (.int .i64 0)] 74) fun p120 h26 =>
        ref1_Met r sa x x h26 fun y123 h27 =>
        ∀ J124 : Heap → Prop, (∀ (h28 : Heap),
          (∀ J127 : Bool → Heap → Prop, (∀ (x126 : Bool) (h29 : Heap),
            (x126 = true ∧ Ext h.size h h29) →
            J127 x126 h29) →
          Br true (
            Br true (
              Br true (
                LdP h28 (Addr.add (ad h2.size 0) 0) fun x132 =>
                ival_Map_Len r x132 h28 fun y134 h30 =>
                Br (decide (y134 = ((sa.len : Int)))) (
                  ref1_Met r sa x x h30 fun y136 h31 =>
                  Br (has == (decide (0 < ((y136.len : Int))))) (
                    LdI h31 (Addr.add p115 0) fun x138 =>
                    LdI h31 (Addr.add p115 1) fun x140 =>
                    LdI h31 (Addr.add p115 2) fun x142 =>
                    LdI h31 (Addr.add p120 0) fun x144 =>
                    LdI h31 (Addr.add p120 1) fun x146 =>
                    LdI h31 (Addr.add p120 2) fun x148 =>
                    J127 (decide (x138 = x144 ∧ x140 = x146 ∧ x142 = x148)) h31) (
                    J127 false h31)) (
                  J127 false h30)) (
                J127 false h28)) (
              J127 false h28)) (
            J127 false h28)) →
          J124 h28) →
        Br (decide (0 < ((y123.len : Int)))) (
          ref1_Met r sa x x h27 fun y150 h32 =>
          Ix y150 0 3 fun q155 =>
          LdI h32 (Addr.add q155 0) fun x157 =>
          LdI h32 (Addr.add q155 1) fun x159 =>
          LdI h32 (Addr.add q155 2) fun x161 =>
          St h32 p120 3 [(.int .i64 x157), (.int .i64 x159), (.int .i64 x161)] fun h33 =>
          J124 h33) (
          J124 h27)) := by
        intro a b c has h23 E23 hcase
        have F23 := F21.trans E23
        refine New.cells fun h24 E24 z24 B24 => St.whole B24 rfl rfl fun h25 B25 o25 z25 => New.cells fun h26 E26 z26 B26 => ?_
        have F25 : Fw h23 h25 := E24.over (Nat.le_refl _) o25 z25
        have F26 := (F23.trans F25).trans E26
        have C26 := E26.blk B25
        refine met_ok (Ra.ext F26 (Nat.le_refl _)) F26.1 (by omega) fun s123 h27 E27 O27 => ?_
        have n123 := ss_len O27.rs
        have F27 := F26.trans E27
        intro J124 HJ124
        have fin : ∀ (h28 : Heap), Fw h4 h28 → Blk h28 h23.size [iV a, iV b, iV c] → Blk h28 h25.size [iV a, iV b, iV c] → J124 h28 := by
          intro h28 F28 C28 D28
          refine HJ124 _ ?_
          intro J127 HJ127
          refine ⟨fun _ => ⟨fun _ => ⟨fun _ => ⟨_, (F28.blk B4).ld 0 rfl, ilen_ok (T4.fw F28) fun h30 E30 => ⟨fun _ => ?_, fun c => absurd (of_decide_eq_false c) (by omega)⟩⟩, fun c => by cases c⟩, fun c => by cases c⟩, fun c => by cases c⟩
          have F30 := F28.trans E30
          refine met_ok (Ra.ext F30 (Nat.le_refl _)) F30.1 (by omega) fun s136 h31 E31 O31 => ?_
          have n136 := ss_len O31.rs
          have C31 := (E30.trans E31).blk C28
          have D31 := (E30.trans E31).blk D28
          have eh : (has == decide (0 < ((s136.len : Int)))) = true := by
            rcases hcase with ⟨e, _, _, _, rfl⟩ | ⟨s, rest, e, _, _, _, rfl⟩
            · rw [e] at n136; simp at n136; rw [n136]; rfl
            · rw [e] at n136; simp at n136; rw [decide_eq_true (by omega)]; rfl
          refine ⟨fun _ => ⟨_, C31.ld 0 rfl, _, C31.ld 1 rfl, _, C31.ld 2 rfl, _, D31.ld 0 rfl, _, D31.ld 1 rfl, _, D31.ld 2 rfl, HJ127 _ _ ⟨by simp, (E4.trans F30).trans E31⟩⟩, fun c => ?_⟩
          rw [eh] at c; cases c
        have hne : h23.size ≠ h25.size := by omega
        rcases hcase with ⟨e, rfl, rfl, rfl, rfl⟩ | ⟨s, rest, e, rfl, rfl, rfl, rfl⟩
        · refine ⟨fun q => ?_, fun _ => fin h27 F27 (E27.blk C26) (E27.blk B26)⟩
          rw [e] at n123; simp at n123
          rw [n123] at q; simp at q
        · refine ⟨fun _ => met_ok (Ra.ext F27 (Nat.le_refl _)) F27.1 (by omega) fun s150 h32 E32 O32 => ?_, fun q => ?_⟩
          · have F32 := F27.trans E32
            rw [e] at O32
            refine SS.ix (i := 0) O32.rs (by decide) (by simp) fun p p0 p1 p2 => ⟨_, p0, _, p1, _, p2, ?_⟩
            refine St.whole ((E27.trans E32).blk B26) rfl rfl fun h33 B33 o33 z33 => ?_
            exact fin h33 (F32.over (by have := (F23.trans F25).1; omega) o33 z33) ((((E27.trans E32).blk C26)).other o33 hne) B33
          · rw [e] at n123; simp at n123
            exact absurd (of_decide_eq_false q) (by omega)
      exact iany_ok (T4.fw F21) hu (by omega) (fun e h23 E23 => rest 0 0 0 false h23 E23 (.inl ⟨e, rfl, rfl, rfl, rfl⟩)) fun s rs h23 e E23 => rest _ _ _ true h23 E23 (.inr ⟨s, rs, e, rfl, rfl, rfl, rfl⟩)
    | succ d ih =>
      intro i h4 q sa L hi E4 hz4 B4 T4 O4 hu hL
      have hil : i < l.length := by omega
      have ex : l[(i : Int).toNat]! = l[i] := by rw [Int.toNat_natCast, getElem!_pos l i hil]
      have hix : ∀ {g : Heap} {K : Addr → Prop}, Fw h g → (∀ p, hcell g (p.add 0) = some (iV l[i].lo) → hcell g (p.add 1) = some (iV l[i].hi) → hcell g (p.add 2) = some (iV l[i].val) → K p) → Ix l1 (i : Int) 3 K := fun Eg hK => SS.ix (hl1.ext Eg (Nat.le_refl _)) (by omega) (by omega) fun p p0 p1 p2 => hK p (by rw [ex] at p0; exact p0) (by rw [ex] at p1; exact p1) (by rw [ex] at p2; exact p2)
      refine HX _ _ _ ⟨fun _ => ?_, fun c => absurd (of_decide_eq_false c) (by omega)⟩
      intro J13 HJ13
      have hlt := B4.lt
      have hA : ∀ b, h4.size ≤ b → Bs Any h2.size b := fun b hb => ⟨trivial, by omega⟩
      refine hix E4 fun a1 b0 b1 b2 => ⟨_, b0, hix E4 fun a2 c0 c1 c2 => ⟨_, c1, ?_⟩⟩
      intro J32 HJ32
      have main : ∀ (ve : Int), (ve = if l[i].hi < l[i].lo then 3 else 0) → J32 ve := by
        intro ve hve
        refine HJ32 _ ?_
        intro J36 HJ36
        have bad : l[i].hi < l[i].lo → ∀ (pa : Addr) (h6 : Heap), Fw h4 h6 → J36 pa (.iface 29 (.int .i64 3)) h6 := by
          intro hb pa h6 F6
          have hv3 : ve = 3 := by rw [hve, if_pos hb]
          subst hv3
          refine HJ36 _ _ _ (err_ok (n := 3) (hg.fw (E4.trans F6)) fun h7 E7 => ⟨fun c => (by cases c), fun _ => ⟨fun c => (by simp at c), fun _ => HJ13 _ _ ?_⟩⟩)
          rw [step i hil]
          have F7 := F6.trans E7
          exact ih (i + 1) h7 q sa L (by omega) (E4.trans F7) (by have := F7.1; omega) (F7.blk B4) (T4.fw F7) (O4.ext F7) hu (by omega)
        have good : l[i].lo ≤ l[i].hi → ∀ (pa : Nat) (q' : Option Addr) (h6 : Heap), Fw h4 h6 → Blk h6 pa [.pointer q'] → Tr (Bs Any h2.size) h6 q' (insS l[i] L) → J36 (ad pa 0) .nilIface h6 := by
          intro hb pa q' h6 F6 Ba T6
          have hv0 : ve = 0 := by rw [hve, if_neg (by omega)]
          subst hv0
          refine HJ36 _ _ _ (err_ok (n := 0) (hg.fw (E4.trans F6)) fun h7 E7 => ⟨fun c => (by cases c), fun _ => ⟨fun _ => ⟨_, (E7.blk Ba).ld 0 rfl, ?_⟩, fun c => by simp at c⟩⟩)
          have F7 := F6.trans E7
          have a7 := F7.1
          refine St.whole (F7.blk B4) rfl rfl fun h8 B8 o8 z8 => ?_
          have E8 : Fw h h8 := (E4.trans F7).over hc o8 z8
          have O8 : Own h3.size 3 h8 sa (cellsP L) := (O4.ext F7).keep fun p hp => o8 _ (fun e => by have := (O4.lt hp).2; omega)
          refine hix E8 fun p p0 p1 p2 => ⟨_, p0, _, p1, _, p2, ?_⟩
          refine laid_ok (y := l[i]) O8.rs (Nat.le_refl _) hu (by omega) fun s55 h9 E9 O9 => HJ13 _ _ ?_
          rw [step i hil]
          have a9 := E9.1
          exact ih (i + 1) h9 q' s55 _ (by omega) (E8.trans E9) (by omega) (E9.blk B8) (((T6.fw E7).to (To.over (fun e => e.2 rfl) o8 z8)).fw E9) (O9.mono (by omega)) (insS_up hu) (by rw [insS_len]; omega)
        refine ⟨_, B4.ld 0 rfl, hix E4 fun p p0 p1 p2 => ⟨_, p0, _, p1, _, p2, ?_⟩⟩
        have pc : ∀ {g : Heap} {a : Addr} {v : Value}, Fw h4 g → hcell h4 a = some v → hcell g a = some v := fun F hv => by rw [Ext.cell F (hcell_lt hv)]; exact hv
        refine ⟨?_, ?_⟩
        · refine add_ok (s := l[i]) T4 hu (by omega) hA (fun hb h8 F8 => ?_) fun hb q8 h8 F8 T8 => ?_
          · refine New.cells fun h9 F9 z9 B9 => ⟨pc (F8.trans F9) p0, pc (F8.trans F9) p1, pc (F8.trans F9) p2, ((F8.trans F9).blk B4).ld 0 rfl, St.whole B9 rfl rfl fun h10 B10 o10 z10 => ?_⟩
            exact bad hb _ h10 ((F8.trans F9).over F8.1 o10 z10)
          · refine New.cells fun h9 F9 z9 B9 => ⟨pc (F8.trans F9) p0, pc (F8.trans F9) p1, pc (F8.trans F9) p2, ((F8.trans F9).blk B4).ld 0 rfl, St.whole B9 rfl rfl fun h10 B10 o10 z10 => ?_⟩
            have S8 : Tr (Xs (Bs Any h2.size) [h8.size]) h9 q8 (insS l[i] L) := T8.to (To.old F9 fun b hb hl => ⟨hb, by simp; omega⟩)
            exact good hb _ q8 h10 ((F8.trans F9).over F8.1 o10 z10) B10 ((S8.to (To.over (fun e => e.2 (by simp)) o10 z10)).weak fun b hb => hb.1)
        · refine New.cells fun h9 F9 z9 B9 => ⟨pc F9 p0, pc F9 p1, pc F9 p2, (F9.blk B4).ld 0 rfl, ?_⟩
          have T9 : Tr (Xs (Bs Any h2.size) [h4.size]) h9 q L := T4.to (To.old F9 fun b hb hl => ⟨hb, by simp; omega⟩)
          refine add_ok (s := l[i]) T9 hu (by omega) (fun b hb => ⟨hA b (by omega), by simp; omega⟩) (fun hb h10 F10 => ?_) fun hb q10 h10 F10 T10 => ?_
          · refine St.whole (F10.blk B9) rfl rfl fun h11 B11 o11 z11 => ?_
            exact bad hb _ h11 ((F9.trans F10).over (Nat.le_refl _) o11 z11)
          · refine St.whole (F10.blk B9) rfl rfl fun h11 B11 o11 z11 => ?_
            exact good hb _ q10 h11 ((F9.trans F10).over (Nat.le_refl _) o11 z11) B11 ((T10.to (To.over (fun e => e.2 (by simp)) o11 z11)).weak fun b hb => hb.1)
      refine ⟨fun c => main 3 (by rw [if_pos (of_decide_eq_true c)]), fun c => main 0 (by rw [if_neg (of_decide_eq_false c)])⟩
  exact key l.length 0 h3 none Sl.nil [] (by omega) E03 (Nat.le_refl _) B3 (Tr.nil _ _) (Own.nil _ _ _) List.Pairwise.nil (by simp)
end
end Go.Proofs.YtcafckgflpmfgaaDoor.Iv
