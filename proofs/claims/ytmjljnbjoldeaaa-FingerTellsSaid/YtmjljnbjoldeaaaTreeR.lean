/- Trees with both ends at hand: the laws 'FingerEnds' and 'FingerSplits'. -/
import Derived.Test.YtmjljnbjoldeaaaTreeQ
namespace Go.Proofs.Ytmjljnbjoldeaaa
open Go Go.RowKit Go.Tw Go.Mono Go.Fing
set_option linter.unusedVariables false

section
variable {A : Nat → Prop} {r : World} {h : Heap} {q : Option Addr} {l : List Int}

theorem popr_any {R : Int → Option Addr → Bool → Heap → Prop} (T : Tr A h q l) (hz : l.length < 4611686018427387904) (hA : ∀ b, h.size ≤ b → A b)
    (H : ∀ x t q' has h', Fw h h' → Tr A h' q' t → (has = true ∧ l = t ++ [x]) ∨ (has = false ∧ l = [] ∧ x = 0 ∧ t = []) → R x q' has h') : finger_Tree_PopRight r q h R :=
  tpopr_ok T hz hA (fun e h' E => H 0 [] none false h' E (Tr.nil _ _) (.inr ⟨rfl, e, rfl, rfl⟩)) fun x t q' h' e E T' => H x t q' true h' E T' (.inl ⟨rfl, e⟩)
theorem popl_any {R : Int → Option Addr → Bool → Heap → Prop} (T : Tr A h q l) (hz : l.length < 4611686018427387904) (hA : ∀ b, h.size ≤ b → A b)
    (H : ∀ x t q' has h', Fw h h' → Tr A h' q' t → (has = true ∧ l = x :: t) ∨ (has = false ∧ l = [] ∧ x = 0 ∧ t = []) → R x q' has h') : finger_Tree_PopLeft r q h R :=
  tpopl_ok T hz hA (fun e h' E => H 0 [] none false h' E (Tr.nil _ _) (.inr ⟨rfl, e, rfl, rfl⟩)) fun x t q' h' e E T' => H x t q' true h' E T' (.inl ⟨rfl, e⟩)

theorem ends_law {l1 m2 : Sl} {l m : List Int} (hl1 : RI h.size h l1 l) (hm2 : RI h.size h m2 m) (hlin : ∀ x ∈ l, In x) (hmin : ∀ x ∈ m, In x) (hzl : l.length ≤ 1048576) (hzm : m.length ≤ 1048576) : law3_FingerEnds r l1 m2 h fun y h' => y = true ∧ Ext h.size h h' := by
  apply law3_FingerEnds_of
  refine fingered_ok fun h1 E1 => ⟨fun c => (by cases c), fun _ => ?_⟩
  have hll := hl1.len
  have hml := hm2.len
  refine tof_ok (A := Any) (hl1.ext E1 (Nat.le_refl _)) E1.1 hlin (by omega) any fun qa h2 E2 Ta => ?_
  refine var_ok fun h4 E4 B4 => ?_
  have E04 := (E1.trans E2).trans E4
  have lt4 := B4.lt
  refine rev_ok (hl1.ext E04 (Nat.le_refl _)) E04.1 (by omega) fun s5 h5 E5 O5 => ?_
  have R5 : RI h5.size h5 s5 l.reverse := O5.rs
  have hc5 : h.size ≤ h2.size := (E1.trans E2).1
  refine tof_ok (A := Bs Any h2.size) R5 (Nat.le_refl _) (fun x hx => hlin x (by simpa using hx)) (by simp; omega) (fun b hb => ⟨trivial, by have := E5.1; omega⟩) fun qb h6 E6 Tb => ?_
  refine var_ok fun h8 E8 B8 => ?_
  have lt8 := B8.lt
  have E06 := (E04.trans E5).trans E6
  have E08 := E06.trans E8
  have hc12 : h.size ≤ h6.size := E06.1
  have h46 : h4.size ≤ h6.size := (E5.trans E6).1
  have Ta : Tr (Bs (Bs Any h2.size) h6.size) h8 qa l := Ta.to (To.old (((E4.trans E5).trans E6).trans E8) fun b hb hl => ⟨⟨hb, by omega⟩, by have := (E4.trans (E5.trans E6)).1; omega⟩)
  have Tb : Tr (Bs (Bs Any h2.size) h6.size) h8 qb l.reverse := Tb.to (To.old E8 fun b hb hl => ⟨hb, by omega⟩)
  have B4 := ((E5.trans E6).trans E8).blk B4
  have h24 : h2.size < h6.size := by omega
  have h68 := E8.1
  generalize h2.size = c5 at *
  generalize h6.size = c12 at *
  clear E1 E2 E4 E5 E6 E8 E04 E06 O5 R5
  have hA : ∀ (g : Heap), h8.size ≤ g.size → ∀ b, g.size ≤ b → Bs (Bs Any c5) c12 b := fun g hg b hb => ⟨⟨trivial, by omega⟩, by omega⟩
  intro X HX
  have key : ∀ (d i : Nat) (h9 : Heap) (qa qb : Option Addr), i + d = m.length → Fw h h9 → h8.size ≤ h9.size → Blk h9 c5 [.pointer qa] → Blk h9 c12 [.pointer qb] → Tr (Bs (Bs Any c5) c12) h9 qa (l ++ m.take i) → Tr (Bs (Bs Any c5) c12) h9 qb ((m.take i).reverse ++ l.reverse) → X (i : Int) h9 := by
    intro d
    induction d with
    | zero =>
      intro i h9 qa qb hi E9 hz9 C5 C12 Ta Tb
      rw [List.take_of_length_le (by omega)] at Ta Tb
      have hrev : m.reverse ++ l.reverse = (l ++ m).reverse := by simp
      rw [hrev] at Tb
      have hlm : (l ++ m).length = l.length + m.length := by simp
      generalize hL : l ++ m = L at *
      refine HX _ _ ⟨fun c => absurd (of_decide_eq_true c) (by omega), fun _ => ⟨_, C5.ld 0 rfl, _, C12.ld 0 rfl, ?_⟩⟩
      refine tints_ok Ta (by omega) fun s14 h14 E14 O14 => ⟨(E14.blk C12).ld 0 rfl, ?_⟩
      refine tints_ok (Tb.fw E14) (by simp; omega) fun s15 h15 E15 O15 => ?_
      have R15 : RI h15.size h15 s15 L.reverse := O15.rs
      refine rev_ok R15 (Nat.le_refl _) (by simp; omega) fun s16 h16 E16 O16 => ?_
      rw [List.reverse_reverse] at O16
      have S14 : RI h14.size h16 s14 L := Rs.ext O14.rs (E15.trans E16) (Nat.le_refl _)
      have S16 : RI h16.size h16 s16 L := O16.rs
      refine same_Ints_ok S14 S16 (by omega) ?_
      rw [decide_eq_true rfl]
      have E916 := (E14.trans E15).trans E16
      refine ⟨_, (E916.blk C5).ld 0 rfl, ?_⟩
      refine popr_any (Ta.fw E916) (by omega) (hA h16 (by have := E916.1; omega)) fun x t q1 has h18 E18 T18 hx => ?_
      refine var_ok fun h20 E20 B20 => ?_
      have E1620 := E18.trans E20
      have E920 := E916.trans E1620
      refine ⟨_, (E920.blk C12).ld 0 rfl, ?_⟩
      refine popl_any (Tb.fw E920) (by simp; omega) (hA h20 (by have := E920.1; omega)) fun x' t' q2 has' h21 E21 T21 hx' => ?_
      refine var_ok fun h23 E23 B23 => ?_
      refine ⟨_, ((E21.trans E23).blk B20).ld 0 rfl, _, B23.ld 0 rfl, ?_⟩
      have htl : t.length ≤ L.length := by rcases hx with ⟨_, e⟩ | ⟨_, _, _, e⟩ <;> rw [e] <;> simp
      have htl' : t'.length ≤ L.length := by
        rcases hx' with ⟨_, e⟩ | ⟨_, _, _, e⟩
        · have := congrArg List.length e; simp at this; omega
        · rw [e]; simp
      refine tints_ok (T18.fw ((E20.trans E21).trans E23)) (by omega) fun s24 h24 E24 O24 => ⟨(E24.blk B23).ld 0 rfl, ?_⟩
      refine tints_ok (T21.fw (E23.trans E24)) (by omega) fun s25 h25 E25 O25 => ?_
      have R25 : RI h25.size h25 s25 t' := O25.rs
      refine rev_ok R25 (Nat.le_refl _) (by omega) fun s26 h26 E26 O26 => ?_
      have S24 : RI h24.size h26 s24 t := Rs.ext O24.rs (E25.trans E26) (Nat.le_refl _)
      have S26 : RI h26.size h26 s26 t'.reverse := O26.rs
      have hall : x = x' ∧ t = t'.reverse ∧ has = has' ∧ has = decide (0 < L.length) := by
        rcases hx with ⟨e1, e2⟩ | ⟨e1, e2, e3, e4⟩
        · rw [e2, List.reverse_append] at hx'
          rcases hx' with ⟨f1, f2⟩ | ⟨f1, f2, _⟩
          · simp at f2
            refine ⟨f2.1, by rw [← f2.2]; simp, by rw [e1, f1], ?_⟩
            rw [e1, e2]; simp
          · simp at f2
        · rw [e2] at hx'
          rcases hx' with ⟨f1, f2⟩ | ⟨f1, f2, f3, f4⟩
          · simp at f2
          · exact ⟨by rw [e3, f3], by rw [e4, f4]; rfl, by rw [e1, f1], by rw [e1, e2]; rfl⟩
      obtain ⟨a1, a2, a3, a4⟩ := hall
      refine same_Ints_ok S24 S26 (by omega) ?_
      rw [decide_eq_true a2]
      intro z hz
      have E926 : Fw h9 h26 := (((((E920.trans E21).trans E23).trans E24).trans E25).trans E26)
      refine ⟨?_, E9.trans E926⟩
      rw [hz, hll, hml, show w64 ((l.length : Int) + (m.length : Int)) = ((L.length : Nat) : Int) by rw [w64_of] <;> omega]
      have e0 : decide ((0 : Int) < ((L.length : Nat) : Int)) = decide (0 < L.length) := by
        by_cases h0 : 0 < L.length
        · rw [decide_eq_true h0, decide_eq_true (by omega)]
        · rw [decide_eq_false h0, decide_eq_false (by omega)]
      rw [e0, ← a3, ← a4, a1]; simp
    | succ d ih =>
      intro i h9 qa qb hi E9 hz9 C5 C12 Ta Tb
      have him : i < m.length := by omega
      have ex : m[(i : Int).toNat]! = m[i] := by rw [Int.toNat_natCast, getElem!_pos m i him]
      have em : m.take (i + 1) = m.take i ++ [m[i]] := by rw [List.take_add_one, List.getElem?_eq_getElem him]; rfl
      have get : ∀ {h' : Heap} {K : Addr → Prop}, Fw h h' → (∀ p, hcell h' p = some (iV m[i]) → K p) → Ix m2 (i : Int) 1 K := fun E hK => RI.ix (hm2.ext E (Nat.le_refl _)) (by omega) (by omega) fun p _ hp => hK p (by rw [hp, ex])
      refine HX _ _ ⟨fun _ => ⟨_, C5.ld 0 rfl, get E9 fun p hp => ⟨_, hp, ?_⟩⟩, fun c => absurd (of_decide_eq_false c) (by omega)⟩
      refine tpr_ok Ta (hmin _ (List.getElem_mem him)) (by simp; omega) (hA h9 hz9) fun q1 h10 E10 T10 => ?_
      have hz10 := E10.1
      refine St.whole (E10.blk C5) rfl rfl fun h11 B11 o11 z11 => ?_
      have E11 : Fw h h11 := (E9.trans E10).over hc5 o11 z11
      have S11 : To (Bs (Bs Any c5) c12) (Bs (Bs Any c5) c12) h10 h11 := To.over (fun e => e.1.2 rfl) o11 z11
      have D12 := (E10.blk C12).other o11 (by omega)
      refine ⟨_, D12.ld 0 rfl, get E11 fun p hp => ⟨_, hp, ?_⟩⟩
      refine tpl_ok ((Tb.fw E10).to S11) (hmin _ (List.getElem_mem him)) (by simp; omega) (hA h11 (by omega)) fun q2 h12 E12 T12 => ?_
      have hz12 := E12.1
      refine St.whole (E12.blk D12) rfl rfl fun h13 B13 o13 z13 => ?_
      have S13 : To (Bs (Bs Any c5) c12) (Bs (Bs Any c5) c12) h12 h13 := To.over (fun e => e.2 rfl) o13 z13
      rw [w64_of (by omega) (by omega)]
      refine ih (i + 1) h13 q1 q2 (by omega) ((E11.trans E12).over hc12 o13 z13) (by omega) ((E12.blk B11).other o13 (by omega)) B13 ?_ ?_
      · rw [em, ← List.append_assoc]; exact ((T10.to S11).fw E12).to S13
      · rw [em, List.reverse_append]; exact T12.to S13
  exact key m.length 0 h8 qa qb (by omega) E08 (Nat.le_refl _) B4 B8 (by simpa using Ta) (by simpa using Tb)

/-! ### Where it becomes so -/
def askF (n : Int) (most : Bool) (s : List Int) : Bool := if most then (decide (0 < s.length) && decide (n ≤ mst s)) else decide (n < (s.length : Int))
theorem askF_mono {n : Int} {most : Bool} {s t : List Int} (H : askF n most s = true) : askF n most (s ++ t) = true := by
  unfold askF at *
  cases most with
  | true =>
    simp only [if_true, Bool.and_eq_true, decide_eq_true_eq] at *
    refine ⟨by simp; omega, ?_⟩
    rw [mst_append]
    have := H.2
    omega
  | false =>
    simp only [Bool.false_eq_true, if_false, decide_eq_true_eq] at *
    simp; omega

theorem ask_ok {c4 c7 : Nat} {n : Int} {most : Bool} (B4 : Blk h c4 [iV n]) (B7 : Blk h c7 [.bool most]) : AskV r (.func (.func 24) #[] #[.pointer (some (ad c7 0)), .pointer (some (ad c4 0))]) (askF n most) h := by
  intro h' E s hs K HK
  have g4 : ∀ {g}, Fw h' g → hcell g (ad c4 0) = some (iV n) := fun E' => by have := ((E.trans E').blk B4).ld 0 (v := iV n) rfl; rwa [ad_add] at this
  have g7 : ∀ {g}, Fw h' g → hcell g (ad c7 0) = some (.bool most) := fun E' => by have := ((E.trans E').blk B7).ld 0 (v := .bool most) rfl; rwa [ad_add] at this
  have main : law3_FingerSplits_1 r (meas s).n (meas s).sum (meas s).least (meas s).most (meas s).hash (ad c7 0) (ad c4 0) h' fun y h'' => K (.bool y) h'' := by
    apply law3_FingerSplits_1_of
    refine New.cells fun h1 E1 z1 B1 => ⟨most, g7 E1, fun c => ?_, fun c => ?_⟩
    · intro J HJ
      subst c
      refine ⟨_, B1.ld 0 rfl, fun c => ⟨_, B1.ld 3 rfl, _, g4 E1, HJ _ ?_⟩, fun c => HJ _ ?_⟩
      · have c : (0 : Int) < (s.length : Int) := of_decide_eq_true c
        have := HK h1 E1
        unfold askF at this
        rw [if_pos rfl, decide_eq_true (by omega : 0 < s.length), Bool.true_and] at this
        exact this
      · have c : ¬ (0 : Int) < (s.length : Int) := of_decide_eq_false c
        have := HK h1 E1
        unfold askF at this
        rw [if_pos rfl, decide_eq_false (by omega : ¬ 0 < s.length), Bool.false_and] at this
        exact this
    · subst c
      refine ⟨_, B1.ld 0 rfl, _, g4 E1, ?_⟩
      have := HK h1 E1
      unfold askF at this
      rw [if_neg (by decide)] at this
      exact this
  exact .inl ⟨_, _, _, rfl, Try.call24, CallsH.mono main fun v h'' ⟨y, hv, hR⟩ => by rw [hv]; exact hR⟩

theorem splits_law {l1 : Sl} {n : Int} {most : Bool} (hl1 : RI h.size h l1 l) (hin : ∀ x ∈ l, In x) (hz : l.length ≤ 17592186044416) : law3_FingerSplits r l1 n most h fun y h' => y = true ∧ Ext h.size h h' := by
  apply law3_FingerSplits_of
  have hll := hl1.len
  refine New.cells (cs := [iV n]) fun h1 E1 z1 B1 => New.cells (cs := [.bool most]) fun h2 E2 z2 B2 => ?_
  refine fingered_ok fun h3 E3 => ⟨fun c => (by cases c), fun _ => ?_⟩
  have E03 := (E1.trans E2).trans E3
  refine tof_ok (A := Any) (hl1.ext E03 (Nat.le_refl _)) E03.1 hin (by omega) any fun q h4 E4 T4 => ?_
  refine var_ok fun h6 E6 B6 => ⟨_, B6.ld 0 rfl, ?_⟩
  have E06 := (E03.trans E4).trans E6
  have hask : AskV r (.func (.func 24) #[] #[.pointer (some (ad h1.size 0)), .pointer (some (ad h.size 0))]) (askF n most) h6 := ask_ok ((((E2.trans E3).trans E4).trans E6).blk B1) (((E3.trans E4).trans E6).blk B2)
  refine tsplit_ok (T4.fw E6) hask (by omega) any fun a b q1 q2 h7 E7 hs Ta Tb => ?_
  have hab : a.length + b.length = l.length := by rw [← hs.all]; simp
  refine New.cells fun h8 E8 z8 B8 => New.cells fun h9 E9 z9 B9 => ?_
  have hc21 := B8.lt
  refine St.whole (E9.blk B8) rfl rfl fun h10 B10 o10 z10 => ?_
  refine St.whole (B9.other o10 (by omega)) rfl rfl fun h11 B11 o11 z11 => ?_
  have E711 : Fw h7 h11 := ((E8.trans E9).over (Nat.le_refl _) o10 z10).over (by omega) o11 z11
  have B10 := B10.other o11 (by omega)
  have Ta : TA h11 q1 a := Ta.fw E711
  have Tb : TA h11 q2 b := Tb.fw E711
  have hask := hask.fw (E7.trans E711)
  have E011 := (E06.trans E7).trans E711
  generalize h7.size = c21 at *
  generalize h8.size = c24 at *
  refine ⟨_, B10.ld 0 rfl, _, B11.ld 0 rfl, ?_⟩
  refine tints_ok Ta (by omega) fun s12 h12 E12 O12 => ⟨(E12.blk B11).ld 0 rfl, ?_⟩
  refine tints_ok (Tb.fw E12) (by omega) fun s13 h13 E13 O13 => ?_
  have R12 : RI h13.size h13 s12 a := (Rs.ext O12.rs E13 (Nat.le_refl _)).mono E13.1
  have R13 : RI h13.size h13 s13 b := O13.rs
  refine cat_ok R12 R13 (Nat.le_refl _) (by omega) fun s14 h14 E14 O14 => ?_
  rw [hs.all] at O14
  have E1114 := (E12.trans E13).trans E14
  have R14 : RI h14.size h14 s14 l := O14.rs
  refine same_Ints_ok R14 (hl1.ext (E011.trans E1114) (Nat.le_refl _)) (by omega) ?_
  rw [decide_eq_true rfl]
  refine ⟨fun c => (by cases c), fun _ => ?_⟩
  intro X HX
  -- at last
  have fin : ∀ (k : Nat) (h17 : Heap), Fw h11 h17 → k ≤ l.length → (∀ j, 1 ≤ j → j ≤ k → askF n most (l.take j) = false) → (k < l.length → askF n most (l.take (k + 1)) = true) → ∀ (J : Heap → Prop), (∀ h17' : Heap, h17' = h17 →
      (ref1_MeasureOf r Sl.nil h17 fun y45 y46 y47 y48 y49 h18 =>
            CallV Try.prog r ((.func (.func 24) #[] #[(.pointer (some (ad h1.size 0))), (.pointer (some (ad h.size 0)))])) [(.agg #[(.int .i64 y45), (.int .i64 y46), (.int .i64 y47), (.int .i64 y48), (.int .i64 y49)])] h18 fun v73 h19 => ∃ (y50 : Bool), v73 = (.bool y50) ∧
            ∀ J52 : Int → Prop, (∀ (k51 : Int),
              (∀ J55 : Bool → Heap → Prop, (∀ (x54 : Bool) (h20 : Heap),
                (x54 = true ∧ Ext h.size h h20) →
                J55 x54 h20) →
              LdP h19 (Addr.add (ad c21 0) 0) fun x57 =>
              finger_Tree_Measure r x57 h19 fun y59 y60 y61 y62 y63 h21 =>
              Br (decide (y59 = k51)) (
                LdP h21 (Addr.add (ad c24 0) 0) fun x65 =>
                finger_Tree_Measure r x65 h21 fun y67 y68 y69 y70 y71 h22 =>
                J55 (decide (y67 = (w64 (((l1.len : Int)) - k51)))) h22) (
                J55 false h21)) →
              J52 k51) →
            Br y50 (
              J52 0) (
              J52 (k : Int))) → J h17) → J h17 := by
    intro k h17 E17 hk hlow hhigh J HJ
    refine HJ h17 rfl ?_
    refine measureOf_ok (RI.nil 0 h17) (by omega) (by simp) (by simp) fun h18 E18 => ?_
    have E1118 := E17.trans E18
    refine hask h18 E1118 [] (by simp) _ fun h19 E19 => ⟨_, rfl, ?_⟩
    have E1119 := E1118.trans E19
    intro J52 HJ52
    have good : ∀ k51 : Nat, k51 = a.length → J52 (k51 : Int) := by
      intro k51 e
      subst e
      refine HJ52 _ ?_
      intro J55 HJ55
      refine ⟨_, (E1119.blk B10).ld 0 rfl, tmeasure_ok (Ta.fw E1119) fun h21 E21 => ⟨fun _ => ⟨_, ((E1119.trans E21).blk B11).ld 0 rfl, tmeasure_ok (Tb.fw (E1119.trans E21)) fun h22 E22 => HJ55 _ _ ⟨decide_eq_true ?_, (E011.trans E1119).trans (E21.trans E22)⟩⟩, fun c => absurd (of_decide_eq_false c) (fun hh => hh rfl)⟩⟩
      show (b.length : Int) = _
      rw [hll, w64_of (by omega) (by omega)]; omega
    refine ⟨fun h0 => ?_, fun h0 => ?_⟩
    · -- so from the first on
      have hfl : askF n most l = true := by have := askF_mono (t := l) h0; simpa using this
      have : a = [] := by
        by_cases e : l = []
        · rw [(hs.none (.inl e)).1, e]
        · exact (hs.first e hfl h0).1
      have := good 0 (by rw [this]; rfl)
      exact this
    · refine good k ?_
      by_cases hl : l = [] ∨ askF n most l = false
      · have ea := (hs.none hl).1
        rw [ea]
        rcases Nat.lt_or_ge k l.length with h | h
        · exfalso
          have h1 := hhigh h
          rcases hl with e | e
          · rw [e] at h; simp at h
          · have := askF_mono (t := l.drop (k + 1)) h1
            rw [List.take_append_drop, e] at this; cases this
        · omega
      · have hl1' : l ≠ [] := fun e => hl (.inl e)
        have hf : askF n most l = true := by
          cases e : askF n most l with
          | true => rfl
          | false => exact absurd (.inr e) hl
        obtain ⟨fa, x, t, eb, fx⟩ := hs.here hl1' hf h0
        have el : l = (a ++ [x]) ++ t := by rw [← hs.all, eb]; simp
        have ta : l.take (a.length + 1) = a ++ [x] := by rw [el, List.take_left' (by simp)]
        have ta0 : l.take a.length = a := by rw [← hs.all, List.take_left' rfl]
        have hal : a.length + 1 ≤ l.length := by rw [el]; simp
        rcases Nat.lt_trichotomy a.length k with h | h | h
        · exfalso
          have := hlow (a.length + 1) (by omega) (by omega)
          rw [ta, fx] at this; cases this
        · exact h.symm
        · exfalso
          have h1 := hhigh (by omega)
          have := askF_mono (t := a.drop (k + 1)) h1
          rw [show l.take (k + 1) = a.take (k + 1) by rw [← ta0, List.take_take]; congr 1; omega, List.take_append_drop, fa] at this
          cases this
  have key : ∀ (d k : Nat) (h16 : Heap), k + d = l.length → Fw h11 h16 → (∀ j, 1 ≤ j → j ≤ k → askF n most (l.take j) = false) → X (k : Int) h16 := by
    intro d
    induction d with
    | zero =>
      intro k h16 hk E16 hlow
      refine HX _ _ ?_
      intro J HJ
      refine ⟨fun c => absurd (of_decide_eq_true c) (by omega), fun _ => ?_⟩
      refine fin k h16 E16 (by omega) hlow (fun h => absurd h (by omega)) (fun h' => J false h') fun h17' e hh => ?_
      exact HJ _ _ ⟨fun c => (by cases c), fun _ => hh⟩
    | succ d ih =>
      intro k h16 hk E16 hlow
      refine HX _ _ ?_
      intro J HJ
      refine ⟨fun _ => ?_, fun c => absurd (of_decide_eq_false c) (by omega)⟩
      rw [show w64 ((k : Int) + 1) = ((k + 1 : Nat) : Int) by rw [w64_of] <;> omega]
      have S16 := hl1.ext (E011.trans E16) (Nat.le_refl _)
      refine Sub.in_ (lo := 0) (hi := k + 1) S16 (Nat.zero_le _) (by omega) fun s76 S76 => ?_
      have S76 : RI h.size h16 s76 (l.take (k + 1)) := by simpa using S76
      refine measureOf_ok S76 (E011.trans E16).1 (fun x hx => hin x (List.mem_of_mem_take hx)) (by simp; omega) fun h23 E23 => ?_
      refine hask h23 (E16.trans E23) (l.take (k + 1)) (by simp; omega) _ fun h24 E24 => ⟨_, rfl, ?_⟩
      have E1124 := (E16.trans E23).trans E24
      cases hf : askF n most (l.take (k + 1)) with
      | false =>
        refine HJ _ _ ⟨fun _ => ?_, fun c => (by cases c)⟩
        rw [show w64 ((k : Int) + 1) = ((k + 1 : Nat) : Int) by rw [w64_of] <;> omega]
        refine ih (k + 1) h24 (by omega) E1124 fun j h1 h2 => ?_
        rcases Nat.lt_or_ge j (k + 1) with h | h
        · exact hlow j h1 (by omega)
        · rw [show j = k + 1 by omega]; exact hf
      | true =>
        refine fin k h24 E1124 (by omega) hlow (fun _ => hf) (fun h' => J (!true) h') fun h17' e hh => ?_
        exact HJ _ _ ⟨fun c => (by cases c), fun _ => hh⟩
  exact key l.length 0 h14 (by omega) E1114 fun j h1 h2 => by omega
end
end Go.Proofs.Ytmjljnbjoldeaaa
