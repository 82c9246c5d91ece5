/- Trees with both ends at hand: the law 'FingerTells'. -/
import Derived.Test.YtmjljnbjoldeaaaTreeR
namespace Go.Proofs.Ytmjljnbjoldeaaa
open Go Go.RowKit Go.Tw Go.Mono Go.Fing
set_option linter.unusedVariables false

section
variable {r : World} {h : Heap} {l : List Int}

theorem Sub.in2 {n : Nat} {s : Sl} {u : List Int} {lo hi : Nat} {K : Sl → Prop} (S : RI n h s u) (h1 : lo ≤ hi) (h2 : hi ≤ u.length) (hK : ∀ t, RI n h t ((u.drop lo).take (hi - lo)) → (∀ p, t.a = some p → ∃ p0, s.a = some p0 ∧ p.block = p0.block) → K t) : Sub s (lo : Int) (hi : Int) (s.cap : Int) 1 K := by
  have hc := S.cap
  have hl := S.len
  refine ⟨by omega, by omega, by omega, by omega, fun t ht => ?_⟩
  have et : t = ⟨sliceA s.a s.cap lo 1, hi - lo, s.cap - lo⟩ := by rw [ht]; simp only [Int.toNat_natCast]
  refine hK t ?_ ?_
  · rw [et]
    by_cases he : lo = hi
    · subst he
      refine ⟨by simp, by simp, .inl (by simp)⟩
    · have := Rs.sub S (lo := lo) (hi := hi) (mx := s.cap) (by omega) (by simp; omega) (by omega)
      rwa [← List.map_drop, ← List.map_take] at this
  · intro p hp
    rw [et] at hp
    unfold sliceA at hp
    dsimp only at hp
    split at hp
    · exact ⟨p, hp, rfl⟩
    · cases ha : s.a with
      | none => rw [ha] at hp; cases hp
      | some p0 =>
        rw [ha] at hp
        cases hp
        exact ⟨p0, rfl, Addr.add_block _ _⟩

theorem tells_law {l1 acts2 : Sl} {acts : List Int} (hl1 : RI h.size h l1 l) (hac : RI h.size h acts2 acts) (hlin : ∀ x ∈ l, In x) (hz : l.length ≤ 17592186043904) : law3_FingerTells r l1 acts2 h fun y h' => y = true ∧ Ext h.size h h' := by
  apply law3_FingerTells_of
  refine fingered_ok fun h1 E1 => ⟨fun c => (by cases c), fun _ => ?_⟩
  have hll := hl1.len
  have hla := hac.len
  refine New.cells fun h2 E2 z2 B2 => ?_
  have E02 := E1.trans E2
  have hc4 : h.size ≤ h1.size := E1.1
  have hc4' := B2.lt
  generalize h1.size = c4 at *
  intro X HX
  have key : ∀ (d i : Nat) (all : Sl) (u : List Int) (q : Option Addr) (h3 : Heap), l.length - i ≤ d → i ≤ l.length → Fw h h3 → Blk h3 c4 [.pointer q] → Tr (Bs Any c4) h3 q u → RI h3.size h3 all u → (u ≠ [] → ∀ p, all.a = some p → p.block ≠ c4) → (∀ x ∈ u, In x) → u.length ≤ i → X all (i : Int) h3 := by
    intro d
    induction d with
    | zero =>
      intro i all u q h3 hd hi E3 B3 T3 R3 hne hin hu
      refine HX _ _ _ ⟨fun c => ?_, fun _ => ?_⟩
      · rw [Bool.and_eq_true, decide_eq_true_eq] at c; omega
      · refine tof_ok (A := Any) (hl1.ext E3 (Nat.le_refl _)) E3.1 hlin (by omega) any fun q2 h35 E35 T35 => ?_
        refine tints_ok T35 (by omega) fun s h36 E36 O36 => ?_
        have R36 : RI h36.size h36 s l := O36.rs
        refine same_Ints_ok R36 (hl1.ext ((E3.trans E35).trans E36) (Nat.le_refl _)) (by omega) ?_
        exact ⟨decide_eq_true rfl, (E3.trans E35).trans E36⟩
    | succ d ih =>
      intro i all u q h3 hd hi E3 B3 T3 R3 hne hin hu
      refine HX _ _ _ ⟨fun cc => ?_, fun _ => ?_⟩
      case refine_2 =>
        refine tof_ok (A := Any) (hl1.ext E3 (Nat.le_refl _)) E3.1 hlin (by omega) any fun q2 h35 E35 T35 => ?_
        refine tints_ok T35 (by omega) fun s h36 E36 O36 => ?_
        have R36 : RI h36.size h36 s l := O36.rs
        refine same_Ints_ok R36 (hl1.ext ((E3.trans E35).trans E36) (Nat.le_refl _)) (by omega) ?_
        exact ⟨decide_eq_true rfl, (E3.trans E35).trans E36⟩
      rw [Bool.and_eq_true, decide_eq_true_eq, decide_eq_true_eq] at cc
      have hil : i < l.length := by omega
      have hia : i < acts.length := by omega
      have hal := R3.len
      have hx := hlin _ (List.getElem_mem hil)
      refine ⟨_, B3.ld 0 rfl, ?_⟩
      refine New.cells fun h4 E4 z4 B4 => St.whole B4 rfl rfl fun h5 B5 o5 z5 => ?_
      have E35 : Fw h3 h5 := E4.over (Nat.le_refl _) o5 z5
      have E5 := E3.trans E35
      have C5 := E35.blk B3
      have hc15 := B5.lt
      have hc3 := B3.lt
      have T5 : Tr (Bs (Bs Any c4) h3.size) h5 q u := T3.aside E35 (Nat.le_refl _)
      have R5 : RI h3.size h5 all u := Rs.ext R3 E35 (Nat.le_refl _)
      have hne15 : h3.size ≠ c4 := by omega
      have h3h := E3.1
      generalize h3.size = c15 at *
      have hA5 : ∀ {g : Heap}, h5.size ≤ g.size → ∀ b, g.size ≤ b → Bs (Bs Any c4) c15 b := fun hg b hb => ⟨⟨trivial, by omega⟩, by omega⟩
      have act : ∀ {K : Addr → Prop}, (∀ p, hcell h5 p = some (iV acts[i]) → K p) → Ix acts2 (i : Int) 1 K := fun hK => RI.ix (hac.ext E5 (Nat.le_refl _)) (by omega) (by omega) fun p _ hp => hK p (by rw [hp, Int.toNat_natCast, getElem!_pos acts i hia])
      have lat : ∀ {h' : Heap} {K : Addr → Prop}, Fw h h' → (∀ p, hcell h' p = some (iV l[i]) → p.block < h.size → K p) → Ix l1 (i : Int) 1 K := fun E hK => RI.ix (hl1.ext E (Nat.le_refl _)) (by omega) (by omega) fun p hb hp => hK p (by rw [hp, Int.toNat_natCast, getElem!_pos l i hil]) hb
      generalize l[i] = x at *
      refine act fun p hp => ⟨_, hp, ?_⟩
      intro J HJ
      have Jok : ∀ (all' : Sl) (u' : List Int) (q' : Option Addr) (y : Int) (h6 : Heap), Fw h h6 → Blk h6 c15 [.pointer q'] → Blk h6 c4 [.pointer q] → Tr (Bs Any c4) h6 q' u' → RI h6.size h6 all' u' → (u' ≠ [] → ∀ p, all'.a = some p → p.block ≠ c4) → (∀ x ∈ u', In x) → u'.length ≤ i + 1 → J all' y true y h6 := by
        intro all' u' q' y h6 E6 B6 C6 T6 R6 hne6 hin6 hu6
        refine HJ _ _ _ _ _ ⟨_, B6.ld 0 rfl, ?_⟩
        refine St.whole C6 rfl rfl fun h7 B7 o7 z7 => ⟨_, B7.ld 0 rfl, ?_⟩
        have E7 : Fw h h7 := E6.over hc4 o7 z7
        have T7 : Tr (Bs Any c4) h7 q' u' := T6.to (To.over (fun e => e.2 rfl) o7 z7)
        have R7 : RI h7.size h7 all' u' := by rw [z7]; exact RI.over R6 hne6 o7
        refine tints_ok T7 (by omega) fun s h8 E8 O8 => ?_
        have R8 : RI h8.size h8 all' u' := (Rs.ext R7 E8 (Nat.le_refl _)).mono E8.1
        have S8 : RI h8.size h8 s u' := O8.rs
        refine same_Ints_ok S8 R8 (by omega) ?_
        rw [decide_eq_true rfl]
        intro J43 HJ43
        refine ⟨fun c => (by cases c), fun _ => ⟨fun c => (by cases c), fun _ => ⟨fun c => by simp at c, fun _ => ⟨_, (E8.blk B7).ld 0 rfl, tmeasure_ok (T7.fw E8) fun h11 E11 => ?_⟩⟩⟩⟩
        refine measureOf_ok (Rs.ext R8 E11 (Nat.le_refl _)) E11.1 hin6 (by omega) fun h12 E12 => ?_
        have E812 := E11.trans E12
        have e : (!(decide ((meas u').n = (meas u').n ∧ (meas u').sum = (meas u').sum ∧ (meas u').least = (meas u').least ∧ (meas u').most = (meas u').most ∧ (meas u').hash = (meas u').hash))) = false := by simp
        rw [e]
        refine HJ43 _ _ ⟨fun c => (by cases c), fun _ => ?_⟩
        rw [show w64 ((i : Int) + 1) = ((i + 1 : Nat) : Int) by rw [w64_of] <;> omega]
        exact ih (i + 1) all' u' q' h12 (by omega) (by omega) ((E7.trans E8).trans E812) ((E8.trans E812).blk B7) ((T7.fw E8).fw E812) ((Rs.ext R8 E812 (Nat.le_refl _)).mono E812.1) hne6 hin6 (by omega)
      -- what lies beside the new tree
      have lay : ∀ (h13 : Heap) (q' : Option Addr) (u' : List Int) (K : Heap → Prop), Fw h5 h13 → Tr (Bs (Bs Any c4) c15) h13 q' u' → (∀ h14, Fw h h14 → h13.size ≤ h14.size → Blk h14 c15 [.pointer q'] → Blk h14 c4 [.pointer q] → Tr (Bs Any c4) h14 q' u' → RI c15 h14 all u → K h14) → St h13 (ad c15 0) 1 [.pointer q'] K := by
        intro h13 q' u' K E13 T13 HK
        refine St.whole (E13.blk B5) rfl rfl fun h14 B14 o14 z14 => ?_
        refine HK h14 ((E5.trans E13).over h3h o14 z14) (by omega) B14 ((E13.blk C5).other o14 (fun e => hne15 e.symm)) (T13.back o14 z14) ?_
        refine RI.over (Rs.ext R5 E13 (by omega)) (fun hu p hp => ?_) o14
        rcases R5.at_ with e | ⟨b, o, e1, e2, e3⟩
        · exact absurd (List.map_eq_nil_iff.1 e) hu
        · rw [hp] at e1; cases e1
          show b ≠ c15; omega
      refine ⟨fun _ => ?_, fun _ => act fun p hp => ⟨_, hp, fun _ => ?_, fun _ => ⟨fun c0 => ?_, fun c0 => act fun p hp => ⟨_, hp, fun _ => ?_, fun _ => ?_⟩⟩⟩⟩
      · -- put on the left
        refine ⟨_, C5.ld 0 rfl, lat E5 fun p hp _ => ⟨_, hp, ?_⟩⟩
        refine tpl_ok T5 hx (by omega) (hA5 (Nat.le_refl _)) fun q' h13 E13 T13 => ?_
        refine lay h13 q' _ _ E13 T13 fun h14 E14 z14 B14 C14 T14 R14 => lat E14 fun p hp _ => ⟨_, hp, ?_⟩
        refine New.cells (cs := [iV x]) fun h15 E15 z15 B15 => ?_
        have hlt := C14.lt
        have O15 : Own h14.size 1 h15 ⟨some (ad h14.size 0), 1, 1⟩ ([x].map iV) := ⟨rfl, Nat.le_refl _, .inr ⟨h14.size, [], rfl, Nat.le_refl _, B15, rfl⟩⟩
        refine App.in_ (u := [x]) O15 (Rs.ext R14 E15 (by have := B14.lt; omega)) E15.1 (by simp; omega) fun s' h16 E16 O16 => ?_
        have E1416 : Fw h14 h16 := Ext.trans E15 E16
        exact Jok s' ([x] ++ u) q' 0 h16 (E14.trans E1416) (E1416.blk B14) (E1416.blk C14) (T14.fw E1416) O16.rs (fun _ p hp => by have := (O16.lt hp).2; omega) (by intro y hy; rcases List.mem_append.1 hy with hy | hy; simp at hy; subst hy; exact hx; exact hin y hy) (by simp; omega)
      · -- put on the right
        refine ⟨_, C5.ld 0 rfl, lat E5 fun p hp _ => ⟨_, hp, ?_⟩⟩
        refine tpr_ok T5 hx (by omega) (hA5 (Nat.le_refl _)) fun q' h17 E17 T17 => ?_
        refine lay h17 q' _ _ E17 T17 fun h18 E18 z18 B18 C18 T18 R18 => lat E18 fun p hp hpb => ⟨_, hp, ?_, ?_⟩
        · have hlt := C18.lt
          refine cat_ok (v := []) R18 (RI.nil _ _) (by have := B18.lt; omega) (by simp; omega) fun s1 h19 E19 O19 => ⟨by rw [E19.cell (by have := E18.1; omega)]; exact hp, ?_⟩
          rw [List.append_nil] at O19
          refine New.cells (cs := [iV x]) fun h20 E20 z20 B20 => ?_
          refine App.in_ (v := [x]) (O19.ext E20) (RI.of_blk (n := h20.size) (l := [x]) B20 (by omega) (List.prefix_refl _) (Nat.le_refl 1)) (E19.trans E20).1 (by simp; omega) fun s' h21 E21 O21 => ?_
          have E1821 : Fw h18 h21 := Ext.trans (E19.trans E20) E21
          exact Jok s' (u ++ [x]) q' 0 h21 (E18.trans E1821) (E1821.blk B18) (E1821.blk C18) (T18.fw E1821) O21.rs (fun _ p hp => by have := (O21.lt hp).2; omega) (by intro y hy; rcases List.mem_append.1 hy with hy | hy; exact hin y hy; simp at hy; subst hy; exact hx) (by simp; omega)
        · have hlt := C18.lt
          refine New.cells (cs := [iV x]) fun h22 E22 z22 B22 => ?_
          refine cat_ok (v := []) (Rs.ext R18 E22 (by have := B18.lt; omega)) (RI.nil _ _) (by have := B18.lt; omega) (by simp; omega) fun s1 h23 E23 O23 => ⟨by rw [(E22.trans E23).cell (by have := E18.1; omega)]; exact hp, ?_⟩
          rw [List.append_nil] at O23
          have B23 := E23.blk B22
          refine App.in_ (v := [x]) O23 (RI.of_blk (n := h23.size) (l := [x]) B23 B23.lt (List.prefix_refl _) (Nat.le_refl 1)) E23.1 (by simp; omega) fun s' h24 E24 O24 => ?_
          have E2224 : Fw h22 h24 := Ext.trans E23 E24
          have E1824 : Fw h18 h24 := E22.trans E2224
          exact Jok s' (u ++ [x]) q' 0 h24 (E18.trans E1824) (E1824.blk B18) (E1824.blk C18) (T18.fw E1824) O24.rs (fun _ p hp => by have := (O24.lt hp).2; omega) (by intro y hy; rcases List.mem_append.1 hy with hy | hy; exact hin y hy; simp at hy; subst hy; exact hx) (by simp; omega)
      · -- there is none
        have hu0 : u = [] := List.eq_nil_of_length_eq_zero (by have := of_decide_eq_true c0; omega)
        subst hu0
        refine ⟨_, C5.ld 0 rfl, popl_any T5 (by simp) (hA5 (Nat.le_refl _)) fun x1 t1 q1 has1 h25 E25 T25 H1 => ?_⟩
        refine var_ok fun h27 E27 B27 => ?_
        have E527 := E25.trans E27
        refine ⟨_, (E527.blk C5).ld 0 rfl, popr_any (T5.fw E527) (by simp) (hA5 E527.1) fun x2 t2 q2 has2 h28 E28 T28 H2 => ?_⟩
        refine var_ok fun h30 E30 B30 => ?_
        have f1 : has1 = false := by rcases H1 with ⟨_, e⟩ | ⟨e, _⟩; cases e; exact e
        have f2 : has2 = false := by rcases H2 with ⟨_, e⟩ | ⟨e, _⟩; simp at e; exact e
        subst f1; subst f2
        have E530 := (E527.trans E28).trans E30
        refine ⟨fun c => (by cases c), fun _ => ?_⟩
        exact Jok all [] q 0 h30 (E5.trans E530) (E530.blk B5) (E530.blk C5) ((T5.fw E530).weak fun b hb => hb.1) ((Rs.ext R5 E530 (by omega)).mono (by have := E530.1; omega)) (fun hh => absurd rfl hh) (by simp) (by simp)
      · -- taken on the left
        have c0 := of_decide_eq_false c0
        refine ⟨_, C5.ld 0 rfl, popl_any T5 (by omega) (hA5 (Nat.le_refl _)) fun x1 t1 q1 has1 h31 E31 T31 H1 => ?_⟩
        rcases H1 with ⟨rfl, eu⟩ | ⟨_, eu, _⟩
        case inr => rw [eu] at hal; simp at hal; omega
        have hul : u.length = t1.length + 1 := by rw [eu]; simp
        refine lay h31 q1 _ _ E31 T31 fun h32 E32 z32 B32 C32 T32 R32 => ?_
        refine RI.ix R32 (by omega) (by omega) fun p _ hp => ⟨x1, ?_, ?_⟩
        · rw [hp, eu]; rfl
        · rw [hal]
          refine Sub.in2 (lo := 1) (hi := u.length) R32 (by omega) (Nat.le_refl _) fun s' S' hb' => ?_
          have S' : RI c15 h32 s' t1 := by
            have : (u.drop 1).take (u.length - 1) = t1 := by rw [eu]; simp
            rwa [this] at S'
          exact Jok s' t1 q1 x1 h32 E32 B32 C32 T32 (S'.mono (by have := B32.lt; omega)) (fun _ p hp => by
            obtain ⟨p0, e0, e1⟩ := hb' p hp
            rw [e1]; exact hne (by rw [eu]; simp) p0 e0) (fun y hy => hin y (by rw [eu]; simp [hy])) (by omega)
      · -- taken on the right
        have c0 := of_decide_eq_false c0
        refine ⟨_, C5.ld 0 rfl, popr_any T5 (by omega) (hA5 (Nat.le_refl _)) fun x1 t1 q1 has1 h33 E33 T33 H1 => ?_⟩
        rcases H1 with ⟨rfl, eu⟩ | ⟨_, eu, _⟩
        case inr => rw [eu] at hal; simp at hal; omega
        have hul : u.length = t1.length + 1 := by rw [eu]; simp
        refine lay h33 q1 _ _ E33 T33 fun h34 E34 z34 B34 C34 T34 R34 => ?_
        rw [show w64 ((all.len : Int) - 1) = (t1.length : Int) by rw [w64_of] <;> omega]
        refine RI.ix R34 (by omega) (by omega) fun p _ hp => ⟨x1, ?_, ?_⟩
        · rw [hp, Int.toNat_natCast, getElem!_pos u _ (by omega)]
          have : u[t1.length]? = some x1 := by rw [eu, List.getElem?_append_right (Nat.le_refl _), Nat.sub_self]; rfl
          rw [List.getElem?_eq_getElem (by omega)] at this
          rw [Option.some.inj this]
        · refine Sub.in2 (lo := 0) (hi := t1.length) R34 (by omega) (by omega) fun s' S' hb' => ?_
          have S' : RI c15 h34 s' t1 := by
            have : (u.drop 0).take (t1.length - 0) = t1 := by rw [eu]; simp
            rwa [this] at S'
          exact Jok s' t1 q1 x1 h34 E34 B34 C34 T34 (S'.mono (by have := B34.lt; omega)) (fun _ p hp => by
            obtain ⟨p0, e0, e1⟩ := hb' p hp
            rw [e1]; exact hne (by rw [eu]; simp) p0 e0) (fun y hy => hin y (by rw [eu]; simp [hy])) (by omega)
  exact key l.length 0 Sl.nil [] none h2 (by omega) (by omega) E02 B2 (Tr.nil _ _) (RI.nil _ _) (fun hh => absurd rfl hh) (by simp) (by simp)
end
end Go.Proofs.Ytmjljnbjoldeaaa
