/- Numbers in places: what the functions do. -/
import Derived.Test.YtfiemlcoliijoaaHTreeP
namespace Go.Proofs.Ytfiemlcoliijoaa.Mo
open Go Go.RowKit Go.Tw Go.Mono Go.Fing
set_option linter.unusedVariables false
section
variable {A : Nat → Prop} {r : World} {h : Heap} {q : Option Addr} {l : List Int}

theorem var1 {el : TypeId} {q : Option Addr} {K : Addr → Heap → Prop} (H : ∀ h', Fw h h' → Blk h' h.size [.pointer q] → K (ad h.size 0) h') : New h (.cells #[.pointer none] el) fun p h3 => St h3 p 1 [.pointer q] fun h4 => K p h4 :=
  New.cells fun h3 E3 z3 B3 => St.whole B3 rfl rfl fun h4 B4 o4 z4 => H h4 (E3.over (Nat.le_refl _) o4 z4) B4
theorem var2 {el : TypeId} {q1 q2 : Option Addr} {K : Addr → Addr → Heap → Prop} (H : ∀ c1 c2 h', Fw h h' → Blk h' c1 [.pointer q1] → Blk h' c2 [.pointer q2] → K (ad c1 0) (ad c2 0) h') :
    New h (.cells #[.pointer none] el) fun p h3 => New h3 (.cells #[.pointer none] el) fun p2 h4 => St h4 p 1 [.pointer q1] fun h5 => St h5 p2 1 [.pointer q2] fun h6 => K p p2 h6 :=
  New.cells fun h3 E3 z3 B3 => New.cells fun h4 E4 z4 B4 => St.whole (E4.blk B3) rfl rfl fun h5 B5 o5 z5 => St.whole (B4.other o5 (by omega)) rfl rfl fun h6 B6 o6 z6 =>
    H _ _ h6 (((E3.trans E4).over (Nat.le_refl _) o5 z5).over E3.1 o6 z6) (B5.other o6 (by omega)) B6

theorem sof_ok {s : Sl} {n : Nat} {R : Option Addr → Heap → Prop} (hs : RI n h s l) (hn : n ≤ h.size) (hin : ∀ x ∈ l, In x) (hz : l.length < 4611686018427387903) (hA : ∀ b, h.size ≤ b → A b) (H : ∀ q' h', Fw h h' → Tr A h' q' l → R q' h') : seq_Of r s h R := by
  apply seq_Of_of
  refine New.cells fun h1 E1 z1 B1 => ?_
  refine tof_ok (A := Bs A h.size) (hs.ext E1 hn) (by omega) hin hz (bs_new hA B1.lt E1) fun q2 h2 E2 T2 => ?_
  refine St.whole (E2.blk B1) rfl rfl fun h3 B3 o3 z3 => ⟨_, B3.ld 0 rfl, H q2 h3 ((E1.trans E2).over (Nat.le_refl _) o3 z3) (T2.back o3 z3)⟩

theorem slen_ok {R : Int → Heap → Prop} (T : Tr A h q l) (H : ∀ h', Fw h h' → R (l.length : Int) h') : seq_Seq_Len r q h R := by
  apply seq_Seq_Len_of
  refine New.cells fun h1 E1 z1 B1 => ⟨_, B1.ld2 0 0 rfl, tmeasure_ok (T.fw E1) fun h2 E2 => H h2 (E1.trans E2)⟩

theorem scut_ok {i : Nat} {R : Option Addr → Option Addr → Heap → Prop} (T : Tr A h q l) (hi : i ≤ l.length) (hz : l.length < 4611686018427387904) (hA : ∀ b, h.size ≤ b → A b) (H : ∀ q1 q2 h', Fw h h' → Tr A h' q1 (l.take i) → Tr A h' q2 (l.drop i) → R q1 q2 h') : seq_Seq_cut r q (i : Int) h R := by
  apply seq_Seq_cut_of
  refine New.cells fun h1 E1 z1 B1 => New.cells (cs := [iV (i : Int)]) fun h2 E2 z2 B2 => New.cells fun h3 E3 z3 B3 => New.cells fun h4 E4 z4 B4 => ?_
  have E14 := ((E1.trans E2).trans E3).trans E4
  have hz3 := B4.lt
  refine ⟨_, ((E2.trans (E3.trans E4)).blk B1).ld2 0 0 rfl, ?_⟩
  have C6 := (E3.trans E4).blk B2
  have hask : AskV r (.func (.func 52) #[] #[.pointer (some (ad h1.size 0))]) (fun s => decide ((i : Int) < (s.length : Int))) h4 := by
    intro h' E s hs K HK
    have main : seq_Seq_cut_1 r (meas s).n (meas s).sum (meas s).least (meas s).most (meas s).hash (ad h1.size 0) h' fun y h'' => K (.bool y) h'' := by
      apply seq_Seq_cut_1_of
      refine New.cells fun g1 F1 w1 D1 => ⟨_, D1.ld 0 rfl, _, ?_, HK g1 F1⟩
      have := ((E.trans F1).blk C6).ld 0 (v := iV (i : Int)) rfl
      rwa [ad_add] at this
    exact .inl ⟨_, _, _, rfl, Try.call52, CallsH.mono main fun v h'' ⟨y, hv, hR⟩ => by rw [hv]; exact hR⟩
  have Ta : Tr (Bs (Bs A h2.size) h3.size) h4 q l := T.to (To.old E14 fun b hb hl => ⟨⟨hb, by omega⟩, by omega⟩)
  refine tsplit_ok Ta hask hz (fun b hb => ⟨⟨hA b (by have := E14.1; omega), by omega⟩, by omega⟩) fun a b q1 q2 h5 E5 hs Ta Tb => ?_
  refine St.whole (E5.blk (E4.blk B3)) rfl rfl fun h6 B6 o6 z6 => ?_
  refine St.whole ((E5.blk B4).other o6 (by omega)) rfl rfl fun h7 B7 o7 z7 => ⟨_, (B6.other o7 (by omega)).ld 0 rfl, _, B7.ld 0 rfl, ?_⟩
  have S6 : To (Bs (Bs A h2.size) h3.size) (Bs (Bs A h2.size) h3.size) h5 h6 := To.over (fun e => e.1.2 rfl) o6 z6
  have S7 : To (Bs (Bs A h2.size) h3.size) (Bs (Bs A h2.size) h3.size) h6 h7 := To.over (fun e => e.2 rfl) o7 z7
  have hal : a.length = i := by
    by_cases hl : l = []
    · rw [(hs.none (.inl hl)).1, hl]; rw [hl] at hi; simp at hi; simp [hi]
    · by_cases hf : (i : Int) < (l.length : Int)
      · obtain ⟨fa, x, t, eb, fx⟩ := hs.here hl (decide_eq_true hf) (decide_eq_false (by simp))
        have fa := of_decide_eq_false fa
        have fx := of_decide_eq_true fx
        simp at fx
        omega
      · rw [(hs.none (.inr (decide_eq_false hf))).1]; omega
  have e1 : a = l.take i := by rw [← hs.all, ← hal, List.take_left' rfl]
  have e2 : b = l.drop i := by rw [← hs.all, ← hal, List.drop_left' rfl]
  subst e1; subst e2
  refine H q1 q2 h7 (((E14.trans E5).over (by omega) o6 z6).over (by omega) o7 z7) (((Ta.to S6).to S7).weak fun b hb => hb.1.1) (((Tb.to S6).to S7).weak fun b hb => hb.1.1)

theorem sslice_ok {i j : Int} {R : Option Addr → Bool → Heap → Prop} (T : Tr A h q l) (hz : l.length < 4611686018427387904) (hA : ∀ b, h.size ≤ b → A b) (H0 : ¬ (0 ≤ i ∧ i ≤ j ∧ j ≤ l.length) → ∀ h', Fw h h' → R none false h')
    (H1 : ∀ (a b : Nat) q' h', i = a → j = b → a ≤ b → b ≤ l.length → Fw h h' → Tr A h' q' ((l.take b).drop a) → R q' true h') : seq_Seq_Slice r q i j h R := by
  apply seq_Seq_Slice_of
  refine New.cells fun h1 E1 z1 B1 => New.cells fun h2 E2 z2 B2 => ?_
  have E12 := E1.trans E2
  have hb2 := B2.lt
  intro J HJ
  have no : ∀ h3, Fw h2 h3 → ¬ (0 ≤ i ∧ i ≤ j ∧ j ≤ l.length) → J true h3 := fun h3 E3 hn => HJ _ _ ⟨fun _ => St.whole (E3.blk B2) rfl rfl fun h4 B4 o4 z4 => ⟨_, B4.ld 0 rfl, H0 hn h4 ((E12.trans E3).over E1.1 o4 z4)⟩, fun c => (by cases c)⟩
  refine ⟨fun c => no h2 (Fw.refl _) (by have := of_decide_eq_true c; omega), fun c => ⟨fun c1 => no h2 (Fw.refl _) (by have := of_decide_eq_true c1; omega), fun c1 => ⟨_, (E2.blk B1).ld 0 rfl, slen_ok (T.fw E12) fun h3 E3 => ?_⟩⟩⟩
  have c := of_decide_eq_false c
  have c1 := of_decide_eq_false c1
  by_cases hi : j ≤ l.length
  · rw [decide_eq_false (by omega)]
    refine HJ _ _ ⟨fun c => (by cases c), fun _ => ⟨_, ((E2.trans E3).blk B1).ld 0 rfl, ?_⟩⟩
    obtain ⟨a, rfl⟩ : ∃ n : Nat, i = n := ⟨i.toNat, by omega⟩
    obtain ⟨b, rfl⟩ : ∃ n : Nat, j = n := ⟨j.toNat, by omega⟩
    have E13 := E12.trans E3
    have hA2 := bs_new (c := h1.size) hA (by have := E3.1; omega) E13
    refine scut_ok (A := Bs A h1.size) (T.aside E13 E1.1) (by omega) (by omega) hA2 fun q1 q2 h5 E5 T1 T2 => ?_
    refine var2 fun c1 c2 h9 E9 B9 C9 => ⟨_, B9.ld 0 rfl, ?_⟩
    have E39 := E5.trans E9
    refine scut_ok (T1.fw E9) (by simp; omega) (by simp; omega) (new_A hA2 E39) fun q3 q4 h10 E10 T3 T4 => ?_
    refine var2 fun c3 c4 h14 E14 B14 C14 => ⟨_, C14.ld 0 rfl, ?_⟩
    have E314 := (E39.trans E10).trans E14
    refine St.whole ((E3.trans E314).blk B2) rfl rfl fun h15 B15 o15 z15 => ⟨_, B15.ld 0 rfl, H1 a b q4 h15 rfl rfl (by omega) (by omega) ((E13.trans E314).over E1.1 o15 z15) ((T4.fw E14).back o15 z15)⟩
  · rw [decide_eq_true (by omega)]
    exact no h3 E3 (by omega)

theorem smeasure_ok {i j : Int} {R : Int → Int → Int → Int → Int → Bool → Heap → Prop} (T : Tr A h q l) (hz : l.length < 4611686018427387904) (hA : ∀ b, h.size ≤ b → A b) (H0 : ¬ (0 ≤ i ∧ i ≤ j ∧ j ≤ l.length) → ∀ h', Fw h h' → R 0 0 0 0 0 false h')
    (H1 : ∀ (a b : Nat) h', i = a → j = b → a ≤ b → b ≤ l.length → Fw h h' → R (meas ((l.take b).drop a)).n (meas ((l.take b).drop a)).sum (meas ((l.take b).drop a)).least (meas ((l.take b).drop a)).most (meas ((l.take b).drop a)).hash true h') : seq_Seq_Measure r q i j h R := by
  apply seq_Seq_Measure_of
  refine New.cells fun h1 E1 z1 B1 => New.cells fun h2 E2 z2 B2 => ⟨_, (E2.blk B1).ld 0 rfl, ?_⟩
  have E12 := E1.trans E2
  refine sslice_ok (T.fw E12) hz (new_A hA E12) (fun hn h3 E3 => ?_) fun a b q' h3 ea eb hab hbl E3 T3 => ?_
  · refine var1 fun h5 E5 B5 => ⟨fun _ => ?_, fun c => (by cases c)⟩
    have E25 := E3.trans E5
    exact St.whole (E25.blk B2) rfl rfl fun h6 B6 o6 z6 => ⟨_, B6.ld 0 rfl, _, B6.ld 1 rfl, _, B6.ld 2 rfl, _, B6.ld 3 rfl, _, B6.ld 4 rfl, H0 hn h6 ((E12.trans E25).over E1.1 o6 z6)⟩
  · refine var1 fun h5 E5 B5 => ⟨fun c => (by cases c), fun _ => ⟨_, B5.ld2 0 0 rfl, tmeasure_ok (T3.fw E5) fun h7 E7 => ?_⟩⟩
    have E27 := (E3.trans E5).trans E7
    exact St.whole (E27.blk B2) rfl rfl fun h8 B8 o8 z8 => ⟨_, B8.ld 0 rfl, _, B8.ld 1 rfl, _, B8.ld 2 rfl, _, B8.ld 3 rfl, _, B8.ld 4 rfl, H1 a b h8 ea eb hab hbl ((E12.trans E27).over E1.1 o8 z8)⟩
end
end Go.Proofs.Ytfiemlcoliijoaa.Mo
