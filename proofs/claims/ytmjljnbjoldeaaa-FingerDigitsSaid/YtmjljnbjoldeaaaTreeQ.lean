/- Trees with both ends at hand: the laws 'FingerJoins' and 'FingerEnds'. -/
import Derived.Test.YtmjljnbjoldeaaaTreeX
import Derived.Test.YtmjljnbjoldeaaaTreeP
import Derived.Test.YtmjljnbjoldeaaaRefP
namespace Go.Proofs.Ytmjljnbjoldeaaa
open Go Go.RowKit Go.Tw Go.Mono Go.Fing
set_option linter.unusedVariables false

abbrev Any : Nat → Prop := fun _ => True
abbrev TA (h : Heap) (q : Option Addr) (l : List Int) : Prop := Tr Any h q l
theorem any {h : Heap} : ∀ b, h.size ≤ b → Any b := fun _ _ => trivial

section
variable {r : World} {h : Heap}

/-- a tree's own place -/
theorem var_ok {q : Option Addr} {K : Addr → Heap → Prop} (H : ∀ h', Fw h h' → Blk h' h.size [.pointer q] → K (ad h.size 0) h') : New h (.cells #[.pointer none] 26) fun p h3 => St h3 p 1 [.pointer q] fun h4 => K p h4 :=
  New.cells fun h3 E3 z3 B3 => St.whole B3 rfl rfl fun h4 B4 o4 z4 => H h4 (E3.over (Nat.le_refl _) o4 z4) B4

theorem fingered_ok {R : Bool → Heap → Prop} (H : ∀ h', Fw h h' → R true h') : law3_fingered r h R := by
  apply law3_fingered_of
  refine New.cells (cs := [iV 5, iV 3]) fun h1 E1 z1 B1 => ?_
  have hr : RI h1.size h1 ⟨some (ad h.size 0), 2, 2⟩ [5, 3] := RI.of_blk (l := [5, 3]) (c := 2) B1 (by omega) (List.prefix_refl _) (by decide)
  refine tof_ok (A := Any) hr (Nat.le_refl _) (by decide) (by decide) any fun q h2 E2 T2 => ?_
  refine var_ok fun h4 E4 B4 => ⟨_, B4.ld 0 rfl, ?_⟩
  refine tpopr_ok (T2.fw E4) (by decide) any (fun e => by cases e) fun x t q' h5 e E5 T5 => ?_
  obtain ⟨rfl, rfl⟩ : t = [5] ∧ x = 3 := by
    match t, e with
    | [a], e => simp at e; exact ⟨by rw [e.1], e.2.symm⟩
    | [], e => simp at e
    | [a, b], e => simp at e
    | a :: b :: c :: t, e => simp at e
  refine var_ok fun h7 E7 B7 => ?_
  intro J HJ
  refine ⟨fun _ => ⟨fun _ => ⟨_, B7.ld 0 rfl, tmeasure_ok (T5.fw E7) fun h9 E9 => HJ _ _ (H h9 (((((E1.trans E2).trans E4).trans E5).trans E7).trans E9))⟩, fun c => (by cases c)⟩, fun c => absurd c (by decide)⟩

theorem joins_law {a1 b2 c3 : Sl} {a b c : List Int} (ha : RI h.size h a1 a) (hb : RI h.size h b2 b) (hc : RI h.size h c3 c) (hain : ∀ x ∈ a, In x) (hbin : ∀ x ∈ b, In x) (hcin : ∀ x ∈ c, In x) (hza : a.length ≤ 1048576) (hzb : b.length ≤ 1048576) (hzc : c.length ≤ 1048576) :
    law3_FingerJoins r a1 b2 c3 h fun y h' => y = true ∧ Ext h.size h h' := by
  apply law3_FingerJoins_of
  refine fingered_ok fun h1 E1 => ⟨fun c => (by cases c), fun _ => ?_⟩
  refine tof_ok (A := Any) (ha.ext E1 (Nat.le_refl _)) E1.1 hain (by omega) any fun qa h2 E2 Ta => ?_
  refine var_ok fun h4 E4 B4 => ?_
  have E04 := (E1.trans E2).trans E4
  refine tof_ok (A := Any) (hb.ext E04 (Nat.le_refl _)) E04.1 hbin (by omega) any fun qb h5 E5 Tb => ?_
  refine var_ok fun h7 E7 B7 => ?_
  have E07 := (E04.trans E5).trans E7
  refine tof_ok (A := Any) (hc.ext E07 (Nat.le_refl _)) E07.1 hcin (by omega) any fun qc h8 E8 Tc => ?_
  refine var_ok fun h10 E10 B10 => ?_
  have E010 := (E07.trans E8).trans E10
  have Ta : TA h10 qa a := Ta.fw ((((E4.trans E5).trans E7).trans E8).trans E10)
  have Tb : TA h10 qb b := Tb.fw ((E7.trans E8).trans E10)
  have Tc : TA h10 qc c := Tc.fw E10
  have B4 := (((E5.trans E7).trans E8).trans E10).blk B4
  have B7 := (E8.trans E10).blk B7
  have lt4 := B4.lt
  have lt7 := B7.lt
  have lt10 := B10.lt
  generalize h2.size = c4 at *
  generalize h5.size = c7 at *
  generalize h8.size = c10 at *
  clear E1 E2 E4 E5 E7 E8 E10 E04 E07
  intro J24 HJ24
  have fin24 : ∀ (c23 : Nat) (h11 : Heap) (q : Option Addr), Fw h10 h11 → Blk h11 c23 [.pointer q] → TA h11 q ((a ++ b) ++ c) → J24 (ad c23 0) h11 := by
    intro c23 h11 q E11 B11 T11
    apply HJ24
    intro J27 HJ27
    have fin27 : ∀ (c26 : Nat) (h12 : Heap) (q' : Option Addr), Fw h11 h12 → Blk h12 c26 [.pointer q'] → TA h12 q' (a ++ (b ++ c)) → J27 (ad c26 0) h12 := by
      intro c26 h12 q' E12 B12 T12
      have E1012 := E11.trans E12
      have E012 := E010.trans E1012
      refine HJ27 _ _ ⟨_, (E12.blk B11).ld 0 rfl, ?_⟩
      refine tints_ok (T11.fw E12) (by simp; omega) fun s1 h13 E13 O13 => ?_
      refine cat_ok (ha.ext (E012.trans E13) (Nat.le_refl _)) (hb.ext (E012.trans E13) (Nat.le_refl _)) (E012.trans E13).1 (by omega) fun s2 h14 E14 O14 => ?_
      have E014 := (E012.trans E13).trans E14
      have R14 : RI h14.size h14 s2 (a ++ b) := O14.rs
      refine cat_ok R14 (Rs.mono (hc.ext E014 (Nat.le_refl _)) E014.1) (Nat.le_refl _) (by simp; omega) fun s3 h15 E15 O15 => ?_
      have R15 : RI h15.size h15 s3 ((a ++ b) ++ c) := O15.rs
      have S15 : RI h13.size h15 s1 ((a ++ b) ++ c) := Rs.ext O13.rs (E14.trans E15) (Nat.le_refl _)
      refine same_Ints_ok S15 R15 (by simp; omega) ?_
      rw [decide_eq_true rfl]
      have E1215 := (E13.trans E14).trans E15
      refine ⟨_, (E1215.blk B12).ld 0 rfl, _, ((E12.trans E1215).blk B11).ld 0 rfl, ?_⟩
      refine tints_ok (T12.fw E1215) (by simp; omega) fun s4 h17 E17 O17 => ⟨(((E12.trans E1215).trans E17).blk B11).ld 0 rfl, ?_⟩
      refine tints_ok (T11.fw ((E12.trans E1215).trans E17)) (by simp; omega) fun s5 h18 E18 O18 => ?_
      have S17 : RI h17.size h18 s4 (a ++ (b ++ c)) := Rs.ext O17.rs E18 (Nat.le_refl _)
      have S18 : RI h18.size h18 s5 ((a ++ b) ++ c) := O18.rs
      refine same_Ints_ok S17 S18 (by simp; omega) ?_
      rw [decide_eq_true (List.append_assoc a b c).symm]
      intro J44 HJ44
      have E1218 := (E1215.trans E17).trans E18
      have E1018 := E1012.trans E1218
      refine ⟨fun _ => ⟨fun _ => ⟨_, (E1018.blk B4).ld 0 rfl, _, (E1018.blk B7).ld 0 rfl, _, (E1018.blk B4).ld 0 rfl, _, (E1018.blk B7).ld 0 rfl, ?_⟩, fun c => (by cases c)⟩, fun c => (by cases c)⟩
      refine tjoin_ok (Ta.fw E1018) (Tb.fw E1018) (by omega) any fun q5 h21 E21 T21 => ?_
      have E1021 := E1018.trans E21
      refine ⟨(E1021.blk B7).ld 0 rfl, (E1021.blk B4).ld 0 rfl, tmeasure_ok T21 fun h22 E22 => ?_⟩
      have E1022 := E1021.trans E22
      refine ⟨(E1022.blk B7).ld 0 rfl, (E1022.blk B4).ld 0 rfl, tmeasure_ok (Ta.fw E1022) fun h23 E23 => ?_⟩
      have E1023 := E1022.trans E23
      refine ⟨(E1023.blk B7).ld 0 rfl, tmeasure_ok (Tb.fw E1023) fun h24 E24 => join_ok (by omega) fun h25 E25 => ?_⟩
      have E1025 := (E1023.trans E24).trans E25
      have E1225 : Fw h12 h25 := ((((E1218.trans E21).trans E22).trans E23).trans E24).trans E25
      refine ⟨fun _ => ⟨_, ((E12.trans E1225).blk B11).ld 0 rfl, _, (E1225.blk B12).ld 0 rfl, ?_⟩, fun c => absurd c (by simp)⟩
      refine tmeasure_ok (T11.fw (E12.trans E1225)) fun h26 E26 => ⟨(E26.blk (E1225.blk B12)).ld 0 rfl, tmeasure_ok (T12.fw (E1225.trans E26)) fun h27 E27 => fun x hx => HJ44 _ _ ⟨?_, ((E010.trans E1025).trans E26).trans E27⟩⟩
      rw [hx, List.append_assoc]; simp
    have g4 := E11.blk B4
    have g7 := E11.blk B7
    have g10 := E11.blk B10
    refine ⟨_, g4.ld 0 rfl, _, g7.ld 0 rfl, _, g10.ld 0 rfl, ⟨?_, ?_⟩⟩
    · refine tjoin_ok (Tb.fw E11) (Tc.fw E11) (by omega) any fun q1 h28 E28 T28 => ⟨(E28.blk g4).ld 0 rfl, ?_, ?_⟩
      · refine tjoin_ok (Ta.fw (E11.trans E28)) T28 (by simp; omega) any fun q2 h29 E29 T29 => ?_
        refine New.cells fun h30 E30 z30 B30 => ?_
        have E3 := (E28.trans E29).trans E30
        refine ⟨(E3.blk g10).ld 0 rfl, (E3.blk g7).ld 0 rfl, (E3.blk g4).ld 0 rfl, ?_⟩
        refine St.whole B30 rfl rfl fun h31 B31 o31 z31 => ?_
        have E4 : Fw h29 h31 := E30.over (Nat.le_refl _) o31 z31
        exact fin27 _ h31 q2 ((E28.trans E29).trans E4) B31 (T29.fw E4)
      · refine New.cells fun h32 E32 z32 B32 => ?_
        have E3 := E28.trans E32
        have hl := B32.lt
        refine ⟨(E3.blk g10).ld 0 rfl, (E3.blk g7).ld 0 rfl, (E3.blk g4).ld 0 rfl, ?_⟩
        refine tjoin_ok (A := Bs Any h28.size) (Ta.aside (E11.trans E3) (E11.trans E28).1) (T28.aside E32 (Nat.le_refl _)) (by simp; omega) (bs_new any hl E32) fun q2 h33 E33 T33 => ?_
        refine St.whole (E33.blk B32) rfl rfl fun h34 B34 o34 z34 => ?_
        exact fin27 _ h34 q2 ((E3.trans E33).over (c := h28.size) E28.1 o34 z34) B34 (T33.back o34 z34)
    · refine New.cells fun h35 E35 z35 B35 => ?_
      have hl := B35.lt
      refine ⟨(E35.blk g10).ld 0 rfl, (E35.blk g7).ld 0 rfl, (E35.blk g4).ld 0 rfl, ?_⟩
      refine tjoin_ok (A := Bs Any h11.size) (Tb.aside (E11.trans E35) E11.1) (Tc.aside (E11.trans E35) E11.1) (by omega) (bs_new any hl E35) fun q1 h36 E36 T36 => ⟨((E35.trans E36).blk g4).ld 0 rfl, ?_⟩
      have E3 := E35.trans E36
      refine tjoin_ok (A := Bs Any h11.size) (Ta.aside (E11.trans E3) E11.1) T36 (by simp; omega) (bs_new any (by have := E36.1; omega) E3) fun q2 h37 E37 T37 => ?_
      refine St.whole ((E36.trans E37).blk B35) rfl rfl fun h38 B38 o38 z38 => ?_
      exact fin27 _ h38 q2 ((E3.trans E37).over (c := h11.size) (Nat.le_refl _) o38 z38) B38 (T37.back o38 z38)
  refine ⟨_, B4.ld 0 rfl, _, B7.ld 0 rfl, _, B10.ld 0 rfl, ⟨?_, ?_⟩⟩
  · refine tjoin_ok Ta Tb (by omega) any fun q1 h39 E39 T39 => ⟨(E39.blk B10).ld 0 rfl, ?_, ?_⟩
    · refine tjoin_ok T39 (Tc.fw E39) (by simp; omega) any fun q2 h40 E40 T40 => ?_
      refine New.cells fun h41 E41 z41 B41 => ?_
      have E3 := (E39.trans E40).trans E41
      refine ⟨(E3.blk B10).ld 0 rfl, (E3.blk B7).ld 0 rfl, (E3.blk B4).ld 0 rfl, ?_⟩
      refine St.whole B41 rfl rfl fun h42 B42 o42 z42 => ?_
      have E4 : Fw h40 h42 := E41.over (Nat.le_refl _) o42 z42
      exact fin24 _ h42 q2 ((E39.trans E40).trans E4) B42 (T40.fw E4)
    · refine New.cells fun h43 E43 z43 B43 => ?_
      have E3 := E39.trans E43
      have hl := B43.lt
      refine ⟨(E3.blk B10).ld 0 rfl, (E3.blk B7).ld 0 rfl, (E3.blk B4).ld 0 rfl, ?_⟩
      refine tjoin_ok (A := Bs Any h39.size) (T39.aside E43 (Nat.le_refl _)) (Tc.aside E3 E39.1) (by simp; omega) (bs_new any hl E43) fun q2 h44 E44 T44 => ?_
      refine St.whole (E44.blk B43) rfl rfl fun h45 B45 o45 z45 => ?_
      exact fin24 _ h45 q2 ((E3.trans E44).over (c := h39.size) E39.1 o45 z45) B45 (T44.back o45 z45)
  · refine New.cells fun h46 E46 z46 B46 => ?_
    have hl := B46.lt
    refine ⟨(E46.blk B10).ld 0 rfl, (E46.blk B7).ld 0 rfl, (E46.blk B4).ld 0 rfl, ?_⟩
    refine tjoin_ok (A := Bs Any h10.size) (Ta.aside E46 (Nat.le_refl _)) (Tb.aside E46 (Nat.le_refl _)) (by omega) (bs_new any hl E46) fun q1 h47 E47 T47 => ⟨((E46.trans E47).blk B10).ld 0 rfl, ?_⟩
    have E3 := E46.trans E47
    refine tjoin_ok (A := Bs Any h10.size) T47 (Tc.aside E3 (Nat.le_refl _)) (by simp; omega) (bs_new any (by have := E47.1; omega) E3) fun q2 h48 E48 T48 => ?_
    refine St.whole ((E47.trans E48).blk B46) rfl rfl fun h49 B49 o49 z49 => ?_
    exact fin24 _ h49 q2 ((E3.trans E48).over (c := h10.size) (Nat.le_refl _) o49 z49) B49 (T48.back o49 z49)
end
end Go.Proofs.Ytmjljnbjoldeaaa
