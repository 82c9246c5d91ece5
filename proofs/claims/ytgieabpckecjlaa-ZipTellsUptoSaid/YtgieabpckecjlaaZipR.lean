/- A place in a list: the law 'ZipTells'. -/
import Derived.Test.YtgieabpckecjlaaZipQ
namespace Go.Proofs.Ytgieabpckecjlaa
open Go Go.RowKit Go.Tw
set_option linter.unusedVariables false

theorem RI.over {n c : Nat} {h h' : Heap} {s : Sl} {u : List Int} (S : RI n h s u) (hne : u ≠ [] → ∀ p, s.a = some p → p.block ≠ c) (ho : ∀ d, d ≠ c → h'[d]? = h[d]?) : RI n h' s u := by
  refine ⟨Rs.len S, S.cap, ?_⟩
  rcases S.at_ with e | ⟨b, o, e1, e2, e3⟩
  · exact .inl e
  · by_cases hu : u = []
    · exact .inl (by rw [hu]; rfl)
    · refine .inr ⟨b, o, e1, e2, fun i hi => ?_⟩
      rw [hcell_of_eq (h := h) (ho _ (show (ad b (o + i)).block ≠ c from (show (ad b o).block ≠ c from hne hu _ e1)))]
      exact e3 i hi

theorem RI.lt {n : Nat} {h : Heap} {s : Sl} {u : List Int} (S : RI n h s u) (hu : u ≠ []) : ∀ p, s.a = some p → p.block < n := by
  intro p hp
  rcases S.at_ with e | ⟨b, o, e1, e2, e3⟩
  · exact absurd (List.map_eq_nil_iff.1 e) hu
  · rw [hp] at e1; cases e1; exact e2
theorem RI.over' {n c : Nat} {h h' : Heap} {s : Sl} {u : List Int} (S : RI n h s u) (hn : n ≤ c) (ho : ∀ d, d ≠ c → h'[d]? = h[d]?) : RI n h' s u :=
  RI.over S (fun hu p hp => by have := RI.lt S hu p hp; omega) ho

section
variable {r : World} {h : Heap}

theorem with_ok {s : Sl} {u : List Int} {n i : Nat} {x : Int} {R : Sl → Heap → Prop} (S : RI n h s u) (hn : n ≤ h.size) (hi : i ≤ u.length) (hz : u.length + 1 ≤ 17592186044416) (H : ∀ s' h', Fw h h' → Own h.size 1 h' s' ((u.take i ++ x :: u.drop i).map iV) → R s' h') : ref1_With r s (i : Int) x h R := by
  apply ref1_With_of
  have hl := S.len
  refine Sub.in_ (lo := 0) S (by omega) (by omega) fun t T => ?_
  refine App.in_ (u := []) (Own.nil h.size 1 h) T (Nat.le_refl _) (by simp; omega) fun s1 h1 E1 O1 => ?_
  refine New.cells (cs := [iV x]) fun h2 E2 z2 B2 => ?_
  refine App.in_ (v := [x]) (O1.ext E2) (RI.of_blk (n := h2.size) (l := [x]) B2 (by omega) (List.prefix_refl _) (Nat.le_refl 1)) (by have := E1.1; omega) (by simp; omega) fun s3 h3 E3 O3 => ?_
  rw [hl]
  have E13 : Fw h h3 := Ext.trans (Ext.trans E1 (Ext.mono E2 E1.1)) E3
  refine Sub.in_ (S.ext E13 hn) (by omega) (by omega) fun t2 T2 => ?_
  refine App.in_ O3 T2 E13.1 (by simp; omega) fun s4 h4 E4 O4 => H s4 h4 (Ext.trans E13 E4) ?_
  have e : [] ++ (u.drop 0).take (i - 0) ++ [x] ++ (u.drop i).take (u.length - i) = u.take i ++ x :: u.drop i := by
    rw [List.nil_append, List.drop_zero, Nat.sub_zero, List.take_of_length_le (l := u.drop i) (by simp), List.append_assoc]; rfl
  rwa [e] at O4

theorem put_ok {s : Sl} {u : List Int} {n i : Nat} {x : Int} {R : Sl → Heap → Prop} (S : RI n h s u) (hn : n ≤ h.size) (hi : i < u.length) (hz : u.length ≤ 17592186044416) (H : ∀ s' h', Fw h h' → Own h.size 1 h' s' ((u.set i x).map iV) → R s' h') : ref1_Put r s (i : Int) x h R := by
  apply ref1_Put_of
  refine cat_ok (v := []) S (RI.nil _ _) hn (by simp; omega) fun s1 h1 E1 O1 => ?_
  rw [List.append_nil] at O1
  refine own_int O1 hi fun b hb _ => ?_
  refine St.one' O1 hb (by simpa using hi) ?_
  have A := (Fam.none h.size h1).cons O1 (fun x hx => by cases hx)
  have A2 := (A.set hb (o := i) (v := iV x) (by simpa using hi)).head
  rw [← List.map_set] at A2
  exact H s1 _ (Ext.trans E1 (Ext.set (O1.lt' hb).2)) A2

theorem tells_law {l1 acts2 xs3 : Sl} {l acts xs : List Int} (hl1 : RI h.size h l1 l) (hac : RI h.size h acts2 acts) (hxs : RI h.size h xs3 xs) (hz : l.length ≤ 1048576) (hza : acts.length ≤ 1048576) : law3_ZipTells r l1 acts2 xs3 h fun y h' => y = true ∧ Ext h.size h h' := by
  apply law3_ZipTells_of
  refine zipped_ok fun h1 E1 => ⟨fun c => (by cases c), fun _ => ?_⟩
  have hlen := hl1.len
  have hla := hac.len
  have hlx := hxs.len
  refine zof_ok (hl1.ext E1 (Nat.le_refl _)) E1.1 (by omega) fun q h2 E2 L2 => ?_
  have E02 := E1.trans E2
  refine New.cells fun h3 E3 z3 B3 => St.whole B3 rfl rfl fun h4 B4 o4 z4 => ?_
  have E04 : Fw h h4 := (E02.trans E3).over (c := h2.size) E02.1 o4 z4
  have L4 := ((L2.fw E3).over B3 (fun x q e => by simp at e) o4)
  have c9 : h.size ≤ h2.size := E02.1
  generalize h2.size = c at *
  intro X HX
  have key : ∀ (d i : Nat) (all : Sl) (u a b : List Int) (q1 q3 : Option Addr) (h5 : Heap), acts.length - i ≤ d → i ≤ acts.length → Fw h h5 → Blk h5 c (zipC q1 a.length q3 b.length) → Lk h5 a q1 → Lk h5 b q3 → RI h5.size h5 all u → (u ≠ [] → ∀ p, all.a = some p → p.block ≠ c) → a.reverse ++ b = u → u.length ≤ l.length + i → X all (a.length : Int) (i : Int) h5 := by
    intro d
    induction d with
    | zero =>
      intro i all u a b q1 q3 h5 hd hi E5 B5 A5 L5 R5 hne he hu
      refine HX _ _ _ _ ⟨fun c => ?_, fun _ => ⟨rfl, E5⟩⟩
      rw [Bool.and_eq_true, decide_eq_true_eq] at c
      omega
    | succ d ih =>
      intro i all u a b q1 q3 h5 hd hi E5 B5 A5 L5 R5 hne he hu
      refine HX _ _ _ _ ⟨fun cc => ?_, fun _ => ⟨rfl, E5⟩⟩
      rw [Bool.and_eq_true, decide_eq_true_eq, decide_eq_true_eq] at cc
      have hia : i < acts.length := by omega
      have hix : i < xs.length := by omega
      have hab : a.length + b.length = u.length := by have := congrArg List.length he; simpa using this
      have hal := R5.len
      refine ⟨_, B5.ld 0 rfl, _, B5.ld 1 rfl, _, B5.ld 2 rfl, _, B5.ld 3 rfl, ?_⟩
      refine New.cells fun h6 E6 z6 B6 => St.whole B6 rfl rfl fun h7 B7 o7 z7 => ?_
      have E57 : Fw h5 h7 := E6.over (c := h5.size) (Nat.le_refl _) o7 z7
      have E7 := E5.trans E57
      have C7 := E57.blk B5
      have A7 := A5.fw E57
      have L7 := L5.fw E57
      have R7 := Rs.ext R5 E57 (Nat.le_refl _)
      have hc5 : c < h5.size := B5.lt
      generalize h5.size = c29 at *
      have act : ∀ {K : Addr → Prop}, (∀ p, hcell h7 p = some (iV (acts[i]!)) → K p) → Ix acts2 (i : Int) 1 K := fun hK => RI.ix (hac.ext E7 (Nat.le_refl _)) (by omega) (by omega) fun p _ hp => hK p (by simpa using hp)
      have xat : ∀ {h' : Heap} {K : Addr → Prop}, Fw h7 h' → (∀ p, hcell h' p = some (iV (xs[i]!)) → K p) → Ix xs3 (i : Int) 1 K := fun E hK => RI.ix (hxs.ext (E7.trans E) (Nat.le_refl _)) (by omega) (by omega) fun p _ hp => hK p (by simpa using hp)
      refine act fun p hp => ⟨_, hp, ?_⟩
      intro J HJ
      have Jok : ∀ (all' : Sl) (u' a' b' : List Int) (p1 p3 : Option Addr) (y : Bool) (h8 : Heap), Fw h h8 → Blk h8 c (zipC q1 a.length q3 b.length) → Blk h8 c29 (zipC p1 a'.length p3 b'.length) → Lk h8 a' p1 → Lk h8 b' p3 → RI h8.size h8 all' u' → (u' ≠ [] → ∀ p, all'.a = some p → p.block ≠ c) → a'.reverse ++ b' = u' → u'.length ≤ l.length + (i + 1) → J all' (a'.length : Int) y y h8 := by
        intro all' u' a' b' p1 p3 y h8 E8 C8 B8 A8 L8 R8 hne8 he8 hu8
        have hab8 : a'.length + b'.length = u'.length := by have := congrArg List.length he8; simpa using this
        have hal8 := R8.len
        refine HJ _ _ _ _ _ ⟨_, B8.ld 0 rfl, _, B8.ld 1 rfl, _, B8.ld 2 rfl, _, B8.ld 3 rfl, ?_⟩
        refine St.whole C8 rfl rfl fun h9 B9 o9 z9 => ⟨_, B9.ld 0 rfl, _, B9.ld 1 rfl, _, B9.ld 2 rfl, _, B9.ld 3 rfl, ?_⟩
        have E9 : Fw h h9 := E8.over c9 o9 z9
        have A9 := A8.over C8 (fun x q e => by simp at e) o9
        have L9 := L8.over C8 (fun x q e => by simp at e) o9
        have R9 : RI h9.size h9 all' u' := by rw [z9]; exact RI.over R8 hne8 o9
        refine zints_ok A9 L9 (by omega) fun s h10 E10 O10 => ?_
        rw [he8] at O10
        have R10 : RI h10.size h10 all' u' := (Rs.ext R9 E10 (Nat.le_refl _)).mono E10.1
        have S10 : RI h10.size h10 s u' := O10.rs
        refine same_Ints_ok S10 R10 (by omega) ?_
        rw [decide_eq_true rfl]
        have B10 := E10.blk B9
        refine ⟨_, B10.ld 0 rfl, _, B10.ld 1 rfl, _, B10.ld 2 rfl, _, B10.ld 3 rfl, ?_⟩
        have next : ∀ h13, Fw h10 h13 → X all' (a'.length : Int) ((i + 1 : Nat) : Int) h13 := fun h13 E13 => by
          refine ih (i + 1) all' u' a' b' p1 p3 h13 (by omega) (by omega) ((E9.trans E10).trans E13) (E13.blk B10) ((A9.fw E10).fw E13) ((L9.fw E10).fw E13) ((Rs.ext R10 E13 (Nat.le_refl _)).mono E13.1) hne8 he8 hu8
        have ei : w64 ((i : Int) + 1) = ((i + 1 : Nat) : Int) := by rw [w64_of] <;> omega
        refine zat_ok (L9.fw E10) (fun e h12 E12 => ?_) fun x t h12 e E12 => ?_
        · intro J79 HJ79
          have B12 := E12.blk B10
          refine ⟨fun c => by simp at c, fun _ => ⟨fun c => (by cases c), fun _ => ⟨_, B12.ld 0 rfl, _, B12.ld 1 rfl, _, B12.ld 2 rfl, _, B12.ld 3 rfl, place_ok fun h14 E14 => ?_⟩⟩⟩
          have hb0 : b'.length = 0 := by rw [e]; rfl
          refine ⟨fun c => by simp at c, fun _ => ⟨fun c => ?_, fun _ => ⟨fun c => (by cases c), fun _ => ⟨fun _ => HJ79 _ _ ⟨fun c => by simp at c, fun _ => ?_⟩, fun c => (by cases c)⟩⟩⟩⟩
          · rw [decide_eq_false (by omega)] at c; cases c
          · rw [ei]; exact next h14 (E12.trans E14)
        · intro J79 HJ79
          have B12 := E12.blk B10
          refine ⟨fun c => by simp at c, fun _ => ⟨fun c => (by cases c), fun _ => ⟨_, B12.ld 0 rfl, _, B12.ld 1 rfl, _, B12.ld 2 rfl, _, B12.ld 3 rfl, place_ok fun h14 E14 => ?_⟩⟩⟩
          have hb1 : b'.length = t.length + 1 := by rw [e]; simp
          refine ⟨fun c => by simp at c, fun _ => ⟨fun c => ?_, fun _ => ⟨fun _ => ?_, fun c => (by cases c)⟩⟩⟩
          · rw [decide_eq_true (by omega)] at c; cases c
          · have E1014 := E12.trans E14
            have R14 : RI h10.size h14 all' u' := Rs.ext R10 E1014 (Nat.le_refl _)
            refine RI.ix R14 (by omega) (by omega) fun p _ hp => ⟨x, ?_, fun c => by simp at c, fun _ => ⟨fun c => (by cases c), fun _ => HJ79 _ _ ⟨fun c => (by cases c), fun _ => ?_⟩⟩⟩
            · rw [hp, Int.toNat_natCast, getElem!_pos u' _ (by omega)]
              have : u'[a'.length]? = some x := by rw [← he8, e, List.getElem?_append_right (by simp)]; simp
              rw [List.getElem?_eq_getElem (by omega)] at this
              rw [Option.some.inj this]
            · rw [ei]; exact next h14 E1014
      have hc29 : h.size ≤ c29 := by have := E5.1; omega
      have e29 : c29 ≤ h7.size := Nat.le_of_lt B7.lt
      have va1 : 0 < a.length → w64 ((a.length : Int) - 1) = ((a.length - 1 : Nat) : Int) := fun h0 => by rw [w64_of] <;> omega
      have va2 : w64 ((a.length : Int) + 1) = ((a.length + 1 : Nat) : Int) := by rw [w64_of] <;> omega
      -- what a move leaves
      have step : ∀ (h15 : Heap) (w1 w3 : Option Addr) (a' b' : List Int) (K : Heap → Prop), Fw h7 h15 → Lk h15 a' w1 → Lk h15 b' w3 →
          (∀ h16, Fw h h16 → Blk h16 c (zipC q1 a.length q3 b.length) → Blk h16 c29 (zipC w1 a'.length w3 b'.length) → Lk h16 a' w1 → Lk h16 b' w3 → RI h16.size h16 all u → Fw h7 h16 ∨ (∀ d, d < h7.size → d ≠ c29 → h16[d]? = h7[d]?) → h7.size ≤ h16.size → K h16) →
          St h15 (ad c29 0) 4 [(.pointer w1), (.int .i64 (a'.length : Int)), (.pointer w3), (.int .i64 (b'.length : Int))] K := by
        intro h15 w1 w3 a' b' K E15 A15 L15 HK
        have B15 := E15.blk B7
        refine St.whole B15 rfl rfl fun h16 B16 o16 z16 => ?_
        refine HK h16 ((E7.trans E15).over hc29 o16 z16) ((E15.blk C7).other o16 (by omega)) B16 (A15.over B15 (fun x q e => by simp at e) o16) (L15.over B15 (fun x q e => by simp at e) o16) ?_ (.inr fun d hd hne => (o16 d hne).trans (E15.2 d hd)) (by rw [z16]; exact E15.1)
        exact (RI.over' (Rs.ext R7 E15 e29) (Nat.le_refl _) o16).mono (by have := E15.1; omega)
      have xat' : ∀ {h' : Heap} {K : Addr → Prop}, Fw h h' → (∀ p, hcell h' p = some (iV (xs[i]!)) → K p) → Ix xs3 (i : Int) 1 K := fun E hK => RI.ix (hxs.ext E (Nat.le_refl _)) (by omega) (by omega) fun p _ hp => hK p (by simpa using hp)
      refine ⟨fun _ => ?_, fun _ => act fun p hp => ⟨_, hp, fun _ => ?_, fun _ => act fun p hp => ⟨_, hp, fun _ => ?_, fun _ => act fun p hp => ⟨_, hp, fun _ => ?_, fun _ => act fun p hp => ⟨_, hp, fun _ => ?_, fun _ => ?_⟩⟩⟩⟩⟩
      · -- to the left
        refine ⟨_, C7.ld 0 rfl, _, C7.ld 1 rfl, _, C7.ld 2 rfl, _, C7.ld 3 rfl, ?_⟩
        refine left_any A7 L7 (by omega) fun a' b' w1 w3 y h15 E15 A15 L15 y1 y0 => ?_
        refine step h15 w1 w3 a' b' _ E15 A15 L15 fun h16 E16 C16 B16 A16 L16 R16 _ _ => ?_
        cases y with
        | true =>
          obtain ⟨x, u1, u2⟩ := y1 rfl
          have ea : a.length = a'.length + 1 := by rw [u1]; simp
          rw [decide_eq_true (by omega), va1 (by omega), show a.length - 1 = a'.length by omega]
          refine ⟨fun _ => ?_, fun c => (by cases c)⟩
          exact Jok all u a' b' w1 w3 true h16 E16 C16 B16 A16 L16 R16 hne (by rw [u2, ← he, u1]; simp) (by omega)
        | false =>
          obtain ⟨u0, u1, u2⟩ := y0 rfl
          have ea : a.length = 0 := by rw [u0]; rfl
          rw [decide_eq_false (by omega)]
          subst u1; subst u2
          exact ⟨fun c => (by cases c), fun _ => Jok all u _ _ w1 w3 false h16 E16 C16 B16 A16 L16 R16 hne he (by omega)⟩
      · -- to the right
        refine ⟨_, C7.ld 0 rfl, _, C7.ld 1 rfl, _, C7.ld 2 rfl, _, C7.ld 3 rfl, ?_⟩
        refine right_any A7 L7 (by omega) fun a' b' w1 w3 y h15 E15 A15 L15 y1 y0 => ?_
        refine step h15 w1 w3 a' b' _ E15 A15 L15 fun h16 E16 C16 B16 A16 L16 R16 _ _ => ?_
        rw [hal]
        cases y with
        | true =>
          obtain ⟨x, u1, u2⟩ := y1 rfl
          have ea : b.length = b'.length + 1 := by rw [u2]; simp
          have ea' : a'.length = a.length + 1 := by rw [u1]; simp
          rw [decide_eq_true (by omega), va2, ← ea']
          refine ⟨fun _ => ?_, fun c => (by cases c)⟩
          exact Jok all u a' b' w1 w3 true h16 E16 C16 B16 A16 L16 R16 hne (by rw [u1, ← he, u2]; simp) (by omega)
        | false =>
          obtain ⟨u0, u1, u2⟩ := y0 rfl
          have ea : b.length = 0 := by rw [u0]; rfl
          rw [decide_eq_false (by omega)]
          subst u1; subst u2
          exact ⟨fun c => (by cases c), fun _ => Jok all u _ _ w1 w3 false h16 E16 C16 B16 A16 L16 R16 hne he (by omega)⟩
      · -- one put in
        refine ⟨_, C7.ld 0 rfl, _, C7.ld 1 rfl, _, C7.ld 2 rfl, _, C7.ld 3 rfl, xat (Fw.refl _) fun p hp => ⟨_, hp, ?_⟩⟩
        refine insert_ok A7 L7 (by omega) fun w1 h15 E15 A15 L15 => ?_
        refine step h15 w1 q3 (xs[i]! :: a) b _ E15 A15 L15 fun h16 E16 C16 B16 A16 L16 R16 _ _ => ?_
        refine xat' E16 fun p hp => ⟨_, hp, ?_⟩
        refine with_ok R16 (Nat.le_refl _) (by omega) (by omega) fun s' h17 E17 O17 => ?_
        rw [va2]
        have := Jok s' (u.take a.length ++ xs[i]! :: u.drop a.length) (xs[i]! :: a) b w1 q3 true h17 (E16.trans E17) (E17.blk C16) (E17.blk B16) (A16.fw E17) (L16.fw E17) O17.rs (fun _ p hp => by have := (O17.lt hp).2; have := C16.lt; omega) (by
          rw [← he, List.take_left' (by simp), List.drop_left' (by simp)]; simp) (by simp; omega)
        simpa using this
      · -- one taken out
        refine ⟨_, C7.ld 0 rfl, _, C7.ld 1 rfl, _, C7.ld 2 rfl, _, C7.ld 3 rfl, ?_⟩
        refine delete_ok A7 L7 (by omega) (fun e h15 E15 => ?_) fun x t w3 h15 e E15 A15 L15 => ?_
        · refine step h15 q1 q3 a b _ E15 (A7.fw E15) (L7.fw E15) fun h16 E16 C16 B16 A16 L16 R16 _ _ => ?_
          have ea : b.length = 0 := by rw [e]; rfl
          rw [hal, decide_eq_false (by omega)]
          exact ⟨fun c => (by cases c), fun _ => Jok all u a b q1 q3 false h16 E16 C16 B16 A16 L16 R16 hne he (by omega)⟩
        · refine step h15 q1 w3 a t _ E15 A15 L15 fun h16 E16 C16 B16 A16 L16 R16 _ _ => ?_
          have ea : b.length = t.length + 1 := by rw [e]; simp
          rw [hal, decide_eq_true (by omega)]
          refine ⟨fun _ => ?_, fun c => (by cases c)⟩
          refine without_ok R16 (Nat.le_refl _) (by omega) (by omega) fun s' h17 E17 O17 => ?_
          refine Jok s' _ a t q1 w3 true h17 (E16.trans E17) (E17.blk C16) (E17.blk B16) (A16.fw E17) (L16.fw E17) O17.rs (fun _ p hp => by have := (O17.lt hp).2; have := C16.lt; omega) ?_ (by simp; omega)
          have := drop_at (a := a.reverse) (x := x) (t := t)
          rw [List.length_reverse] at this
          rw [← this, ← he, e]
      · -- one set
        refine ⟨_, C7.ld 0 rfl, _, C7.ld 1 rfl, _, C7.ld 2 rfl, _, C7.ld 3 rfl, xat (Fw.refl _) fun p hp => ⟨_, hp, ?_⟩⟩
        refine set_ok A7 L7 (by omega) (fun e h15 E15 => ?_) fun x t w3 h15 e E15 A15 L15 => ?_
        · refine step h15 q1 q3 a b _ E15 (A7.fw E15) (L7.fw E15) fun h16 E16 C16 B16 A16 L16 R16 _ _ => ?_
          have ea : b.length = 0 := by rw [e]; rfl
          rw [hal, decide_eq_false (by omega)]
          exact ⟨fun c => (by cases c), fun _ => Jok all u a b q1 q3 false h16 E16 C16 B16 A16 L16 R16 hne he (by omega)⟩
        · refine step h15 q1 w3 a (xs[i]! :: t) _ E15 A15 L15 fun h16 E16 C16 B16 A16 L16 R16 _ _ => ?_
          have ea : b.length = t.length + 1 := by rw [e]; simp
          rw [hal, decide_eq_true (by omega)]
          refine ⟨fun _ => ?_, fun c => (by cases c)⟩
          refine xat' E16 fun p hp => ⟨_, hp, ?_⟩
          refine put_ok R16 (Nat.le_refl _) (by omega) (by omega) fun s' h17 E17 O17 => ?_
          refine Jok s' _ a (xs[i]! :: t) q1 w3 true h17 (E16.trans E17) (E17.blk C16) (E17.blk B16) (A16.fw E17) (L16.fw E17) O17.rs (fun _ p hp => by have := (O17.lt hp).2; have := C16.lt; omega) ?_ (by simp; omega)
          rw [← he, e, List.set_append_right _ _ (by simp)]
          simp
      · -- gone to
        refine ⟨_, C7.ld 0 rfl, _, C7.ld 1 rfl, _, C7.ld 2 rfl, _, C7.ld 3 rfl, xat (Fw.refl _) fun p hp => ⟨_, hp, ?_⟩⟩
        refine go_any A7 L7 (by omega) fun a' b' w1 w3 y h15 E15 A15 L15 e15 hy yt yf => ?_
        refine step h15 w1 w3 a' b' _ E15 A15 L15 fun h16 E16 C16 B16 A16 L16 R16 _ _ => ?_
        intro J2 HJ2
        have fin : J2 y := by
          refine HJ2 _ ⟨fun c => xat' E16 fun p hp => ⟨_, hp, ?_⟩, fun c => ?_⟩
          · rw [← yt c]
            exact Jok all u a' b' w1 w3 y h16 E16 C16 B16 A16 L16 R16 hne (e15.trans he) (by omega)
          · obtain ⟨u1, u2⟩ := yf c
            have := Jok all u a' b' w1 w3 y h16 E16 C16 B16 A16 L16 R16 hne (e15.trans he) (by omega)
            rwa [u1] at this
        refine xat' E16 fun p hp => ⟨_, hp, fun c => xat' E16 fun p hp => ⟨_, hp, ?_⟩, fun c => ?_⟩
        · rw [hal, ← hab]
          rw [hy, c, Bool.true_and] at fin
          exact fin
        · rw [hy, c, Bool.false_and] at fin
          exact fin
  have R4 : RI h4.size h4 l1 l := (hl1.ext E04 (Nat.le_refl _)).mono E04.1
  exact key acts.length 0 l1 l [] l none q h4 (by omega) (by omega) E04 B4 rfl L4 R4 (fun hu p hp => by have := RI.lt hl1 hu p hp; omega) rfl (by omega)
end
end Go.Proofs.Ytgieabpckecjlaa
