/- Numbers in places: the laws 'SeqSlices' and 'SeqTells'. -/
import Derived.Test.YtmjljnbjoldeaaaSeqQ
namespace Go.Proofs.Ytmjljnbjoldeaaa
open Go Go.RowKit Go.Tw Go.Mono Go.Fing
set_option linter.unusedVariables false

section
variable {A : Nat → Prop} {r : World} {h : Heap} {q : Option Addr} {l : List Int}

/-- what comes of it, or not -/
abbrev Eit (e : Bool) (yes no : Prop) : Prop := (e = true ∧ yes) ∨ (e = false ∧ no)

theorem sslice_any {i j : Int} {R : Option Addr → Bool → Heap → Prop} (T : Tr A h q l) (hz : l.length < 4611686018427387904) (hA : ∀ b, h.size ≤ b → A b)
    (H : ∀ q' e m h', Fw h h' → Tr A h' q' m → Eit e (∃ a b : Nat, i = a ∧ j = b ∧ a ≤ b ∧ b ≤ l.length ∧ m = (l.take b).drop a) (¬ (0 ≤ i ∧ i ≤ j ∧ j ≤ l.length) ∧ m = []) → R q' e h') : seq_Seq_Slice r q i j h R :=
  sslice_ok T hz hA (fun hn h' E => H none false [] h' E (Tr.nil _ _) (.inr ⟨rfl, hn, rfl⟩)) fun a b q' h' ea eb hab hbl E T' => H q' true _ h' E T' (.inl ⟨rfl, a, b, ea, eb, hab, hbl, rfl⟩)
theorem sset_any {i x : Int} {R : Option Addr → Bool → Heap → Prop} (T : Tr A h q l) (hx : In x) (hz : l.length + 1 < 4611686018427387904) (hA : ∀ b, h.size ≤ b → A b)
    (H : ∀ q' e m h', Fw h h' → Tr A h' q' m → Eit e (∃ n : Nat, i = n ∧ n < l.length ∧ m = l.set n x) (¬ (0 ≤ i ∧ i < l.length) ∧ m = []) → R q' e h') : seq_Seq_Set r q i x h R :=
  sset_ok T hx hz hA (fun hn h' E => H none false [] h' E (Tr.nil _ _) (.inr ⟨rfl, hn, rfl⟩)) fun n q' h' en hn E T' => H q' true _ h' E T' (.inl ⟨rfl, n, en, hn, rfl⟩)
theorem sdelete_any {i : Int} {R : Option Addr → Bool → Heap → Prop} (T : Tr A h q l) (hz : l.length < 4611686018427387904) (hA : ∀ b, h.size ≤ b → A b)
    (H : ∀ q' e m h', Fw h h' → Tr A h' q' m → Eit e (∃ n : Nat, i = n ∧ n < l.length ∧ m = l.take n ++ l.drop (n + 1)) (¬ (0 ≤ i ∧ i < l.length) ∧ m = []) → R q' e h') : seq_Seq_Delete r q i h R :=
  sdelete_ok T hz hA (fun hn h' E => H none false [] h' E (Tr.nil _ _) (.inr ⟨rfl, hn, rfl⟩)) fun n q' h' en hn E T' => H q' true _ h' E T' (.inl ⟨rfl, n, en, hn, rfl⟩)
theorem sinsert_any {i x : Int} {R : Option Addr → Bool → Heap → Prop} (T : Tr A h q l) (hx : In x) (hz : l.length + 1 < 4611686018427387904) (hA : ∀ b, h.size ≤ b → A b)
    (H : ∀ q' e m h', Fw h h' → Tr A h' q' m → Eit e (∃ n : Nat, i = n ∧ n ≤ l.length ∧ m = l.take n ++ x :: l.drop n) (¬ (0 ≤ i ∧ i ≤ l.length) ∧ m = []) → R q' e h') : seq_Seq_Insert r q i x h R :=
  sinsert_ok T hx hz hA (fun hn h' E => H none false [] h' E (Tr.nil _ _) (.inr ⟨rfl, hn, rfl⟩)) fun n q' h' en hn E T' => H q' true _ h' E T' (.inl ⟨rfl, n, en, hn, rfl⟩)

theorem slices_law {l1 : Sl} {i j a b : Int} (hl1 : RI h.size h l1 l) (hlin : ∀ x ∈ l, In x) (hz : l.length ≤ 17592186044416) : law3_SeqSlices r l1 i j a b h fun y h' => y = true ∧ Ext h.size h h' := by
  apply law3_SeqSlices_of
  refine placed_ok fun h1 E1 => ⟨fun c => (by cases c), fun _ => ?_⟩
  have hll := hl1.len
  refine sof_ok (A := Any) (hl1.ext E1 (Nat.le_refl _)) E1.1 hlin (by omega) any fun q h2 E2 T2 => ?_
  refine var1 fun h4 E4 B4 => ⟨_, B4.ld 0 rfl, ?_⟩
  have E04 := (E1.trans E2).trans E4
  have T4 : TA h4 q l := T2.fw E4
  generalize h2.size = c8 at *
  refine sslice_any T4 (by omega) any fun q5 e5 m5 h5 E5 T5 H5 => ?_
  refine var1 fun h7 E7 B7 => ?_
  have E47 := E5.trans E7
  have E07 := E04.trans E47
  rcases H5 with ⟨rfl, x, y, rfl, rfl, hxy, hyl, rfl⟩ | ⟨rfl, hn, rfl⟩
  case inr =>
    refine ⟨fun _ z hz => ⟨?_, E07⟩, fun c => (by cases c)⟩
    rw [hz, hll, Bool.or_eq_true, Bool.or_eq_true, decide_eq_true_eq, decide_eq_true_eq, decide_eq_true_eq]
    omega
  refine ⟨fun c => (by cases c), fun _ => ?_⟩
  have T7 : TA h7 q5 ((l.take y).drop x) := T5.fw E7
  generalize h5.size = c17 at *
  refine ⟨_, (E47.blk B4).ld 0 rfl, sslice_ok (T4.fw E47) (by omega) any (fun hno => absurd ⟨by omega, by omega, by omega⟩ hno) fun a1 b1 q8 h8 ea1 eb1 _ _ E8 T8 => ?_⟩
  obtain rfl : a1 = 0 := by omega
  obtain rfl : b1 = x := by omega
  rw [List.drop_zero] at T8
  refine var1 fun h10 E10 B10 => ?_
  have E710 := E8.trans E10
  rw [hll]
  refine ⟨_, ((E47.trans E710).blk B4).ld 0 rfl, sslice_ok (T4.fw (E47.trans E710)) (by omega) any (fun hno => absurd ⟨by omega, by omega, by omega⟩ hno) fun a2 b2 q11 h11 ea2 eb2 _ _ E11 T11 => ?_⟩
  obtain rfl : a2 = y := by omega
  obtain rfl : b2 = l.length := by omega
  rw [List.take_of_length_le (Nat.le_refl _)] at T11
  refine var1 fun h13 E13 B13 => ?_
  have E1013 := E11.trans E13
  have E713 := E710.trans E1013
  refine ⟨_, (E1013.blk B10).ld 0 rfl, _, (E713.blk B7).ld 0 rfl, _, B13.ld 0 rfl, ?_⟩
  refine sjoin_ok (T8.fw (E10.trans E1013)) (T7.fw E713) (by simp; omega) any fun q14 h14 E14 T14 => ⟨(E14.blk B13).ld 0 rfl, ?_⟩
  refine sjoin_ok T14 (T11.fw (E13.trans E14)) (by simp; omega) any fun q15 h15 E15 T15 => ?_
  have eall : (l.take b1 ++ (l.take a2).drop b1) ++ l.drop a2 = l := by
    have e : l.take b1 ++ (l.take a2).drop b1 = l.take a2 := by
      have := List.take_append_drop b1 (l.take a2)
      rwa [List.take_take, Nat.min_eq_left hxy] at this
    rw [e, List.take_append_drop]
  rw [eall] at T15
  refine sints_ok T15 hz fun s16 h16 E16 O16 => ?_
  have E1316 := (E14.trans E15).trans E16
  have R16 : RI h16.size h16 s16 l := O16.rs
  have E716 := E713.trans E1316
  refine same_Ints_ok R16 (hl1.ext (E07.trans E716) (Nat.le_refl _)) (by omega) ?_
  rw [decide_eq_true rfl]
  have hpl : ((l.take a2).drop b1).length = a2 - b1 := by simp; omega
  have ew : w64 ((a2 : Int) - (b1 : Int)) = ((a2 - b1 : Nat) : Int) := by rw [w64_of] <;> omega
  refine ⟨_, (E716.blk B7).ld 0 rfl, sslice_any (T7.fw E716) (by omega) any fun q18 e18 m18 h18 E18 T18 H18 => ?_⟩
  refine var1 fun h20 E20 B20 => ?_
  have E1620 := E18.trans E20
  have E720 := E716.trans E1620
  intro J71 HJ71
  have good : ∀ h21, Fw h20 h21 → J71 false h21 := by
    intro h21 E21
    refine HJ71 _ _ ⟨fun c => (by cases c), fun _ => ?_⟩
    rcases H18 with ⟨rfl, u, v, rfl, rfl, huv, hvl, rfl⟩ | ⟨rfl, hn, rfl⟩
    case inr =>
      refine ⟨fun _ z hz => ⟨?_, (E07.trans E720).trans E21⟩, fun c => (by cases c)⟩
      rw [hz, ew, Bool.or_eq_true, Bool.or_eq_true, decide_eq_true_eq, decide_eq_true_eq, decide_eq_true_eq]
      omega
    refine ⟨fun c => (by cases c), fun _ => ?_⟩
    rw [show w64 ((b1 : Int) + (u : Int)) = ((b1 + u : Nat) : Int) by rw [w64_of] <;> omega, show w64 ((b1 : Int) + (v : Int)) = ((b1 + v : Nat) : Int) by rw [w64_of] <;> omega]
    have E721 := E720.trans E21
    refine ⟨_, ((E47.trans E721).blk B4).ld 0 rfl, sslice_ok (T4.fw (E47.trans E721)) (by omega) any (fun hno => absurd ⟨by omega, by omega, by omega⟩ hno) fun a3 b3 q22 h22 ea3 eb3 _ _ E22 T22 => ?_⟩
    obtain rfl : a3 = b1 + u := by omega
    obtain rfl : b3 = b1 + v := by omega
    refine var1 fun h24 E24 B24 => ⟨_, ((E21.trans (E22.trans E24)).blk B20).ld 0 rfl, _, B24.ld 0 rfl, ?_⟩
    have E2024 := E21.trans (E22.trans E24)
    refine sints_ok (T18.fw (E20.trans E2024)) (by simp; omega) fun s25 h25 E25 O25 => ⟨(E25.blk B24).ld 0 rfl, ?_⟩
    refine sints_ok (T22.fw (E24.trans E25)) (by simp; omega) fun s26 h26 E26 O26 => ?_
    have R25 : RI h25.size h26 s25 ((((l.take a2).drop b1).take v).drop u) := Rs.ext O25.rs E26 (Nat.le_refl _)
    have R26 : RI h26.size h26 s26 ((l.take (b1 + v)).drop (b1 + u)) := O26.rs
    have e : (((l.take a2).drop b1).take v).drop u = (l.take (b1 + v)).drop (b1 + u) := by
      rw [List.take_drop, List.drop_drop, List.take_take, Nat.min_eq_left (by omega)]
    refine same_Ints_ok R25 R26 (by simp; omega) ?_
    rw [decide_eq_true e]
    exact ⟨rfl, ((E07.trans E721).trans (E22.trans E24)).trans (E25.trans E26)⟩
  refine ⟨fun c => (by cases c), fun _ => ⟨fun c => (by cases c), fun _ => ⟨fun c => (by cases c), fun _ => ⟨_, (E720.blk B7).ld 0 rfl, slen_ok (T7.fw E720) fun h28 E28 => ?_⟩⟩⟩⟩
  rw [hpl, ew, decide_eq_true rfl]
  exact good h28 E28

theorem bool_iff {e : Bool} {P : Prop} {b : Bool} (h1 : e = true → P) (h2 : e = false → ¬ P) (hb : b = true ↔ P) : e = b := by
  cases e with
  | true => exact (hb.2 (h1 rfl)).symm
  | false =>
    cases b with
    | false => rfl
    | true => exact absurd (hb.1 rfl) (h2 rfl)

theorem tells_law {l1 : Sl} {i j x : Int} (hl1 : RI h.size h l1 l) (hlin : ∀ x ∈ l, In x) (hx : In x) (hz : l.length + 1 ≤ 17592186044416) : law3_SeqTells r l1 i j x h fun y h' => y = true ∧ Ext h.size h h' := by
  apply law3_SeqTells_of
  refine placed_ok fun h1 E1 => ⟨fun c => (by cases c), fun _ => ?_⟩
  have hll := hl1.len
  refine sof_ok (A := Any) (hl1.ext E1 (Nat.le_refl _)) E1.1 hlin (by omega) any fun q h2 E2 T2 => ?_
  refine var1 fun h4 E4 B4 => ?_
  have E04 := (E1.trans E2).trans E4
  have T4 : TA h4 q l := T2.fw E4
  generalize h2.size = c7 at *
  intro there hthere
  have hth : there = true ↔ (0 ≤ i ∧ i < l.length) := by rw [hthere, hll, Bool.and_eq_true, decide_eq_true_eq, decide_eq_true_eq]
  clear hthere
  refine ⟨_, B4.ld 0 rfl, sat_any T4 (by omega) any fun y e5 h5 E5 H5 => ?_⟩
  have a5 : e5 = there := bool_iff (P := 0 ≤ i ∧ i < l.length) (fun e => by
    rcases H5 with ⟨_, n, en, ex⟩ | ⟨e', _⟩
    · have := (List.getElem?_eq_some_iff.1 ex).1; omega
    · rw [e] at e'; cases e') (fun e => by
    rcases H5 with ⟨e', _⟩ | ⟨_, _, hn⟩
    · rw [e] at e'; cases e'
    · exact hn) hth
  subst a5
  refine ⟨_, (E5.blk B4).ld 0 rfl, sset_any (T4.fw E5) hx (by omega) any fun q6 e6 m6 h6 E6 T6 H6 => ?_⟩
  have a6 : e6 = e5 := bool_iff (P := 0 ≤ i ∧ i < l.length) (fun e => by
    rcases H6 with ⟨_, n, en, ex, _⟩ | ⟨e', _⟩
    · omega
    · rw [e] at e'; cases e') (fun e => by
    rcases H6 with ⟨e', _⟩ | ⟨_, hn, _⟩
    · rw [e] at e'; cases e'
    · exact hn) hth
  subst a6
  refine var1 fun h8 E8 B8 => ?_
  have E48 := (E5.trans E6).trans E8
  refine ⟨_, (E48.blk B4).ld 0 rfl, sdelete_any (T4.fw E48) (by omega) any fun q9 e9 m9 h9 E9 T9 H9 => ?_⟩
  have a9 : e9 = e6 := bool_iff (P := 0 ≤ i ∧ i < l.length) (fun e => by
    rcases H9 with ⟨_, n, en, ex, _⟩ | ⟨e', _⟩
    · omega
    · rw [e] at e'; cases e') (fun e => by
    rcases H9 with ⟨e', _⟩ | ⟨_, hn, _⟩
    · rw [e] at e'; cases e'
    · exact hn) hth
  subst a9
  refine var1 fun h11 E11 B11 => ?_
  have E811 := E9.trans E11
  have E411 := E48.trans E811
  have E011 := E04.trans E411
  have T6 := T6.fw (E8.trans E811)
  have T9 := T9.fw E11
  have B8 := E811.blk B8
  have B4' := E411.blk B4
  have T11 : TA h11 q l := T4.fw E411
  generalize h6.size = c25 at *
  generalize h9.size = c34 at *
  have R11 := hl1.ext E011 (Nat.le_refl _)
  intro J40 HJ40
  have good : J40 false := by
    refine HJ40 _ ⟨fun c => (by cases c), fun _ => ?_⟩
    intro J44 HJ44
    have main : ∀ (set42 less43 : Sl) (h12 : Heap), Fw h11 h12 → RI h12.size h12 set42 m6 → RI h12.size h12 less43 m9 → J44 set42 less43 h12 := by
      intro set42 less43 h12 E12 Rset Rless
      have hm6 : m6.length ≤ l.length := by rcases H6 with ⟨_, n, _, _, e⟩ | ⟨_, _, e⟩ <;> rw [e] <;> simp
      have hm9 : m9.length ≤ l.length := by rcases H9 with ⟨_, n, _, hn, e⟩ | ⟨_, _, e⟩ <;> rw [e] <;> simp <;> omega
      refine HJ44 _ _ _ ⟨_, (E12.blk B8).ld 0 rfl, sints_ok (T6.fw E12) (by omega) fun s13 h13 E13 O13 => ?_⟩
      have R13 : RI h13.size h13 s13 m6 := O13.rs
      refine same_Ints_ok R13 (Rs.ext Rset E13 (Nat.le_refl _)) (by omega) ?_
      rw [decide_eq_true rfl]
      have E1113 := E12.trans E13
      refine ⟨_, (E1113.blk B11).ld 0 rfl, sints_ok (T9.fw E1113) (by omega) fun s15 h15 E15 O15 => ?_⟩
      have R15 : RI h15.size h15 s15 m9 := O15.rs
      refine same_Ints_ok R15 (Rs.ext Rless (E13.trans E15) (Nat.le_refl _)) (by omega) ?_
      rw [decide_eq_true rfl]
      have E1115 := E1113.trans E15
      intro inn hinn
      have hin' : inn = true ↔ (0 ≤ i ∧ i ≤ l.length) := by rw [hinn, hll, Bool.and_eq_true, decide_eq_true_eq, decide_eq_true_eq]
      clear hinn
      intro J60 HJ60
      have next : ∀ (more59 : Sl) (h17 : Heap) (mm : List Int), Fw h15 h17 → RI h17.size h17 more59 mm → Eit inn (∃ n : Nat, i = n ∧ n ≤ l.length ∧ mm = l.take n ++ x :: l.drop n) (mm = []) → J60 more59 h17 := by
        intro more59 h17 mm E17 Rmore Hmm
        have E1117 := E1115.trans E17
        refine HJ60 _ _ ⟨_, (E1117.blk B4').ld 0 rfl, sinsert_any (T11.fw E1117) hx (by omega) any fun q18 e18 m18 h18 E18 T18 H18 => ?_⟩
        have a18 : e18 = inn := bool_iff (P := 0 ≤ i ∧ i ≤ l.length) (fun e => by
          rcases H18 with ⟨_, n, en, ex, _⟩ | ⟨e', _⟩
          · omega
          · rw [e] at e'; cases e') (fun e => by
          rcases H18 with ⟨e', _⟩ | ⟨_, hn, _⟩
          · rw [e] at e'; cases e'
          · exact hn) hin'
        subst a18
        have emm : m18 = mm := by
          rcases H18 with ⟨e, n, en, _, em⟩ | ⟨e, _, em⟩
          · rcases Hmm with ⟨_, n', en', _, em'⟩ | ⟨e', _⟩
            · obtain rfl : n = n' := by omega
              rw [em, em']
            · rw [e] at e'; cases e'
          · rcases Hmm with ⟨e', _⟩ | ⟨_, em'⟩
            · rw [e] at e'; cases e'
            · rw [em, em']
        subst emm
        have hm18 : m18.length ≤ l.length + 1 := by rcases H18 with ⟨_, n, _, hn, e⟩ | ⟨_, _, e⟩ <;> rw [e] <;> simp; omega
        refine var1 fun h20 E20 B20 => ⟨_, B20.ld 0 rfl, sints_ok (T18.fw E20) (by omega) fun s21 h21 E21 O21 => ?_⟩
        have R21 : RI h21.size h21 s21 m18 := O21.rs
        have E1721 := (E18.trans E20).trans E21
        refine same_Ints_ok R21 (Rs.ext Rmore E1721 (Nat.le_refl _)) (by omega) ?_
        rw [decide_eq_true rfl]
        have E1121 := E1117.trans E1721
        intro right hright
        have hri : right = true ↔ (0 ≤ i ∧ i ≤ j ∧ j ≤ l.length) := by rw [hright, hll, Bool.and_eq_true, Bool.and_eq_true, decide_eq_true_eq, decide_eq_true_eq, decide_eq_true_eq, and_assoc]
        clear hright
        refine New.cells fun h23 E23 z23 B23 => ?_
        intro J87 HJ87
        have E1123 := E1121.trans E23
        have last : ∀ (vs86 : Sl) (h24 : Heap) (mp : List Int) (k1 k2 k3 k4 k5 : Int), Fw h11 h24 → RI h24.size h24 vs86 mp → Blk h24 h21.size [iV k1, iV k2, iV k3, iV k4, iV k5] →
            Eit right (∃ a b : Nat, i = a ∧ j = b ∧ a ≤ b ∧ b ≤ l.length ∧ mp = (l.take b).drop a ∧ k1 = (meas mp).n ∧ k2 = (meas mp).sum ∧ k3 = (meas mp).least ∧ k4 = (meas mp).most ∧ k5 = (meas mp).hash) (mp = [] ∧ k1 = 0 ∧ k2 = 0 ∧ k3 = 0 ∧ k4 = 0 ∧ k5 = 0) → J87 vs86 h24 := by
          intro vs86 h24 mp k1 k2 k3 k4 k5 E24 Rvs B83 Hp
          refine HJ87 _ _ ⟨_, (E24.blk B4').ld 0 rfl, sslice_any (T11.fw E24) (by omega) any fun q25 e25 m25 h25 E25 T25 H25 => ?_⟩
          have a25 : e25 = right := bool_iff (P := 0 ≤ i ∧ i ≤ j ∧ j ≤ l.length) (fun e => by
            rcases H25 with ⟨_, a, b, ea, eb, hab, hbl, _⟩ | ⟨e', _⟩
            · omega
            · rw [e] at e'; cases e') (fun e => by
            rcases H25 with ⟨e', _⟩ | ⟨_, hn, _⟩
            · rw [e] at e'; cases e'
            · exact hn) hri
          subst a25
          have emp : m25 = mp := by
            rcases H25 with ⟨e, a, b, ea, eb, _, _, em⟩ | ⟨e, _, em⟩
            · rcases Hp with ⟨_, a', b', ea', eb', _, _, em', _⟩ | ⟨e', _⟩
              · obtain rfl : a = a' := by omega
                obtain rfl : b = b' := by omega
                rw [em, em']
              · rw [e] at e'; cases e'
            · rcases Hp with ⟨e', _⟩ | ⟨_, em', _⟩
              · rw [e] at e'; cases e'
              · rw [em, em']
          subst emp
          have hm25 : m25.length ≤ l.length := by rcases H25 with ⟨_, a, b, _, _, _, _, e⟩ | ⟨_, _, e⟩ <;> rw [e] <;> simp; omega
          refine var1 fun h27 E27 B27 => ?_
          have E2427 := E25.trans E27
          refine ⟨_, ((E24.trans E2427).blk B4').ld 0 rfl, smeasure_any (T11.fw (E24.trans E2427)) (by omega) any fun n1 n2 n3 n4 n5 e28 h28 E28 M28 => mvar fun c106 h30 E30 B30 => ?_⟩
          have a28 : e28 = e25 := bool_iff (P := 0 ≤ i ∧ i ≤ j ∧ j ≤ l.length) (fun e => by
            obtain ⟨a, b, ea, eb, hab, hbl, _⟩ := M28.yes e
            omega) (fun e => (M28.no e).1) hri
          have eqs : n1 = k1 ∧ n2 = k2 ∧ n3 = k3 ∧ n4 = k4 ∧ n5 = k5 := by
            rcases Hp with ⟨e, a, b, ea, eb, _, _, em, g1, g2, g3, g4, g5⟩ | ⟨e, _, g1, g2, g3, g4, g5⟩
            · obtain ⟨a', b', ea', eb', _, _, f1, f2, f3, f4, f5⟩ := M28.yes (a28.trans e)
              obtain rfl : a = a' := by omega
              obtain rfl : b = b' := by omega
              rw [← em] at f1 f2 f3 f4 f5
              exact ⟨f1.trans g1.symm, f2.trans g2.symm, f3.trans g3.symm, f4.trans g4.symm, f5.trans g5.symm⟩
            · obtain ⟨_, f1, f2, f3, f4, f5⟩ := M28.no (a28.trans e)
              exact ⟨f1.trans g1.symm, f2.trans g2.symm, f3.trans g3.symm, f4.trans g4.symm, f5.trans g5.symm⟩
          have E2730 := E28.trans E30
          refine ⟨_, (E2730.blk B27).ld 0 rfl, sints_ok (T25.fw (E27.trans E2730)) (by omega) fun s31 h31 E31 O31 => ?_⟩
          have R31 : RI h31.size h31 s31 m25 := O31.rs
          have E2431 := (E2427.trans E2730).trans E31
          refine same_Ints_ok R31 (Rs.ext Rvs E2431 (Nat.le_refl _)) (by omega) ?_
          rw [decide_eq_true rfl]
          have E1131 := E24.trans E2431
          refine ⟨_, (E1131.blk B4').ld 0 rfl, sints_ok (T11.fw E1131) (by omega) fun s33 h33 E33 O33 => ?_⟩
          have R33 : RI h33.size h33 s33 l := O33.rs
          have E1133 := E1131.trans E33
          refine same_Ints_ok R33 (hl1.ext (E011.trans E1133) (Nat.le_refl _)) (by omega) ?_
          rw [decide_eq_true rfl]
          intro J120 HJ120
          have B30 := (E31.trans E33).blk B30
          have B83 := (E2431.trans E33).blk B83
          have tt : ∀ b : Bool, (b == b) = true := fun b => by cases b <;> rfl
          refine ⟨fun _ => ⟨fun _ => ⟨fun _ => ⟨fun _ => ⟨fun _ => ⟨fun _ => ⟨fun _ => ⟨fun _ => ⟨_, B30.ld 0 rfl, _, B30.ld 1 rfl, _, B30.ld 2 rfl, _, B30.ld 3 rfl, _, B30.ld 4 rfl, _, B83.ld 0 rfl, _, B83.ld 1 rfl, _, B83.ld 2 rfl, _, B83.ld 3 rfl, _, B83.ld 4 rfl, fun y hy => HJ120 _ ⟨?_, E011.trans E1133⟩⟩, fun c => ?_⟩, fun c => ?_⟩, fun c => ?_⟩, fun c => (by cases c)⟩, fun c => (by cases c)⟩, fun c => (by cases c)⟩, fun c => (by cases c)⟩, fun c => (by cases c)⟩
          · rw [hy]; exact decide_eq_true eqs
          · rw [a28, tt] at c; cases c
          · rw [tt] at c; cases c
          · rw [tt] at c; cases c
        refine ⟨fun c => ?_, fun c => ?_⟩
        · have hr := hri.1 c
          obtain ⟨a, rfl⟩ : ∃ n : Nat, i = n := ⟨i.toNat, by omega⟩
          obtain ⟨b, rfl⟩ : ∃ n : Nat, j = n := ⟨j.toNat, by omega⟩
          have S23 := hl1.ext (E011.trans E1123) (Nat.le_refl _)
          refine Sub.in_ S23 (by omega) (by omega) fun s152 S152 => ?_
          have S152 : RI h.size h23 s152 ((l.take b).drop a) := by
            rw [List.drop_take]; exact S152
          refine measureOf_ok S152 (E011.trans E1123).1 (fun y hy => hlin y (List.mem_of_mem_take (List.mem_of_mem_drop hy))) (by simp; omega) fun h35 E35 => ?_
          refine St.whole (E35.blk B23) rfl rfl fun h36 B36 o36 z36 => ?_
          have E2136 : Fw h21 h36 := (E23.trans E35).over (Nat.le_refl _) o36 z36
          refine last s152 h36 ((l.take b).drop a) _ _ _ _ _ (E1121.trans E2136) ?_ B36 (.inl ⟨c, a, b, rfl, rfl, by omega, by omega, rfl, rfl, rfl, rfl, rfl, rfl⟩)
          have : RI h.size h36 s152 ((l.take b).drop a) := RI.over (Rs.ext S152 E35 (E011.trans E1123).1) (fun hu p hp => ?_) o36
          · exact Rs.mono this (by have := (E011.trans E1121).trans E2136; exact this.1)
          · rcases S152.at_ with e | ⟨b', o, e1, e2, e3⟩
            · exact absurd (List.map_eq_nil_iff.1 e) hu
            · rw [hp] at e1; cases e1
              have := (E011.trans E1121).1
              show b' ≠ h21.size; omega
        · exact last Sl.nil h23 [] 0 0 0 0 0 E1123 (RI.nil _ _) B23 (.inr ⟨c, rfl, rfl, rfl, rfl, rfl, rfl⟩)
      refine ⟨fun c => ?_, fun c => next Sl.nil h15 [] (Fw.refl _) (RI.nil _ _) (.inr ⟨c, rfl⟩)⟩
      have hr := hin'.1 c
      obtain ⟨n, rfl⟩ : ∃ n : Nat, i = n := ⟨i.toNat, by omega⟩
      refine with_ok (hl1.ext (E011.trans E1115) (Nat.le_refl _)) (E011.trans E1115).1 (by omega) (by omega) fun s' h37 E37 O37 => next s' h37 _ E37 O37.rs (.inl ⟨c, n, rfl, by omega, rfl⟩)
    refine ⟨fun c => ?_, fun c => main Sl.nil Sl.nil h11 (Fw.refl _) ?_ ?_⟩
    · have hr := hth.1 c
      obtain ⟨n, rfl⟩ : ∃ n : Nat, i = n := ⟨i.toNat, by omega⟩
      refine put_ok R11 E011.1 (by omega) (by omega) fun s' h38 E38 O38 => ?_
      refine without_ok (hl1.ext (E011.trans E38) (Nat.le_refl _)) (E011.trans E38).1 (by omega) (by omega) fun s'' h39 E39 O39 => ?_
      have e6 : m6 = l.set n x := by
        rcases H6 with ⟨_, n', en, _, e⟩ | ⟨e, _⟩
        · obtain rfl : n = n' := by omega
          exact e
        · rw [c] at e; cases e
      have e9 : m9 = l.take n ++ l.drop (n + 1) := by
        rcases H9 with ⟨_, n', en, _, e⟩ | ⟨e, _⟩
        · obtain rfl : n = n' := by omega
          exact e
        · rw [c] at e; cases e
      refine main s' s'' h39 (E38.trans E39) ?_ ?_
      · rw [e6]; exact (Rs.ext O38.rs E39 (Nat.le_refl _)).mono E39.1
      · rw [e9]; exact O39.rs
    · rcases H6 with ⟨e, _⟩ | ⟨_, _, e⟩
      · rw [c] at e; cases e
      · rw [e]; exact RI.nil _ _
    · rcases H9 with ⟨e, _⟩ | ⟨_, _, e⟩
      · rw [c] at e; cases e
      · rw [e]; exact RI.nil _ _
  refine ⟨fun c => by simp at c, fun _ => ⟨fun c => by simp at c, fun _ => ⟨fun c => by simp at c, fun _ => ⟨fun c => ?_, fun c => ⟨fun _ => ?_, fun c' => by rw [c] at c'; cases c'⟩⟩⟩⟩⟩
  · rcases H5 with ⟨_, n, en, ex⟩ | ⟨e, _⟩
    · have hn := (List.getElem?_eq_some_iff.1 ex).1
      subst en
      refine RI.ix R11 (by omega) (by omega) fun p _ hp => ⟨y, ?_, fun c' => by simp at c', fun _ => ⟨fun c' => (by rw [c] at c'; cases c'), fun _ => good⟩⟩
      rw [hp, Int.toNat_natCast, getElem!_pos l n hn]
      rw [List.getElem?_eq_getElem hn] at ex
      rw [Option.some.inj ex]
    · rw [c] at e; cases e
  · rcases H5 with ⟨e, _⟩ | ⟨_, ey, _⟩
    · rw [c] at e; cases e
    · have e : (!decide (y = 0)) = false := by rw [ey]; rfl
      rw [e]; exact good
end
end Go.Proofs.Ytmjljnbjoldeaaa
