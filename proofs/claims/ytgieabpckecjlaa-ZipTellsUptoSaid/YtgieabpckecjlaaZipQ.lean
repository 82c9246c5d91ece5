/- A place in a list: the laws 'ZipMoves' and 'ZipEdits'. -/
import Derived.Test.YtgieabpckecjlaaZipX
import Derived.Test.YtgieabpckecjlaaZipP
import Derived.Test.YtgieabpckecjlaaTabP
namespace Go.Proofs.Ytgieabpckecjlaa
open Go Go.RowKit Go.Tw
set_option linter.unusedVariables false

section
variable {r : World} {h : Heap} {z1 z3 : Option Addr} {a b : List Int}

theorem zipped_ok {R : Bool → Heap → Prop} (H : ∀ h', Fw h h' → R true h') : law3_zipped r h R := by
  apply law3_zipped_of
  refine New.cells (cs := [iV 5, iV 3]) fun h1 E1 z1 B1 => ?_
  have hr : RI h1.size h1 ⟨some (ad h.size 0), 2, 2⟩ [5, 3] := RI.of_blk (l := [5, 3]) (c := 2) B1 (by omega) (List.prefix_refl _) (by decide)
  refine zof_ok hr (Nat.le_refl _) (by decide) fun q h2 E2 L2 => ?_
  refine right_ok (a := []) (b := [5, 3]) rfl L2 (by decide) (by decide) (fun e => by cases e) fun x t q1 q3 h3 e E3 A3 B3 => ?_
  obtain ⟨rfl, rfl⟩ : 5 = x ∧ [3] = t := by simpa using e
  refine New.cells fun h4 E4 z4 B4 => St.whole B4 rfl rfl fun h5 B5 o5 z5 => ⟨_, B5.ld 0 rfl, _, B5.ld 1 rfl, _, B5.ld 2 rfl, _, B5.ld 3 rfl, ?_⟩
  have E15 := (((E1.trans E2).trans E3).trans E4).over (c := h3.size) ((E1.trans E2).trans E3).1 o5 z5
  have L5 := ((B3.fw E4).over B4 (fun x q e => by simp at e) o5)
  refine zat_ok L5 (fun e => by cases e) fun y t h6 e E6 => ?_
  obtain ⟨rfl, rfl⟩ : 3 = y ∧ [] = t := by simpa using e
  intro J HJ
  have B6 := E6.blk B5
  refine ⟨fun _ => ⟨fun _ => ⟨fun _ => ⟨_, B6.ld 0 rfl, _, B6.ld 1 rfl, _, B6.ld 2 rfl, _, B6.ld 3 rfl, place_ok fun h7 E7 => HJ _ _ (H h7 ((E15.trans E6).trans E7))⟩, fun c => (by cases c)⟩, fun c => (by cases c)⟩, fun c => (by cases c)⟩

theorem go_any {i : Int} {R : Option Addr → Int → Option Addr → Int → Bool → Heap → Prop} (A : Lk h a z1) (B : Lk h b z3) (hz : a.length + b.length ≤ 281474976710656)
    (H : ∀ a' b' q1 q3 y h', Fw h h' → Lk h' a' q1 → Lk h' b' q3 → a'.reverse ++ b' = a.reverse ++ b → y = (decide (0 ≤ i) && decide (i ≤ (a.length + b.length : Nat))) → (y = true → (a'.length : Int) = i) → (y = false → a' = a ∧ b' = b) → R q1 (a'.length : Int) q3 (b'.length : Int) y h') :
    zip_Zip_Go r z1 (a.length : Int) z3 (b.length : Int) i h R := by
  refine go_ok A B hz (fun hn h1 E1 => ?_) fun hy a' b' q1 q3 h1 E1 A1 B1 e1 e2 => ?_
  · refine H a b z1 z3 false h1 E1 (A.fw E1) (B.fw E1) rfl ?_ (fun c => by cases c) (fun _ => ⟨rfl, rfl⟩)
    cases hd : (decide (0 ≤ i) && decide (i ≤ ((a.length + b.length : Nat) : Int))) with
    | false => rfl
    | true => rw [Bool.and_eq_true, decide_eq_true_eq, decide_eq_true_eq] at hd; exact absurd hd hn
  · refine H a' b' q1 q3 true h1 E1 A1 B1 e1 ?_ (fun _ => e2) (fun c => by cases c)
    rw [decide_eq_true hy.1, decide_eq_true hy.2]; rfl

theorem right_any {R : Option Addr → Int → Option Addr → Int → Bool → Heap → Prop} (A : Lk h a z1) (B : Lk h b z3) (hz : a.length + b.length ≤ 281474976710656)
    (H : ∀ a' b' q1 q3 y h', Fw h h' → Lk h' a' q1 → Lk h' b' q3 → (y = true → ∃ x, a' = x :: a ∧ b = x :: b') → (y = false → b = [] ∧ a' = a ∧ b' = b) → R q1 (a'.length : Int) q3 (b'.length : Int) y h') :
    zip_Zip_Right r z1 (a.length : Int) z3 (b.length : Int) h R := by
  refine right_ok A B (by omega) (by omega) (fun e h1 E1 => ?_) fun x t q1 q3 h1 e E1 A1 B1 => ?_
  · exact H a b z1 z3 false h1 E1 (A.fw E1) (B.fw E1) (fun c => by cases c) (fun _ => ⟨e, rfl, rfl⟩)
  · exact H (x :: a) t q1 q3 true h1 E1 A1 B1 (fun _ => ⟨x, rfl, e⟩) (fun c => by cases c)
theorem left_any {R : Option Addr → Int → Option Addr → Int → Bool → Heap → Prop} (A : Lk h a z1) (B : Lk h b z3) (hz : a.length + b.length ≤ 281474976710656)
    (H : ∀ a' b' q1 q3 y h', Fw h h' → Lk h' a' q1 → Lk h' b' q3 → (y = true → ∃ x, a = x :: a' ∧ b' = x :: b) → (y = false → a = [] ∧ a' = a ∧ b' = b) → R q1 (a'.length : Int) q3 (b'.length : Int) y h') :
    zip_Zip_Left r z1 (a.length : Int) z3 (b.length : Int) h R := by
  refine left_ok A B (by omega) (by omega) (fun e h1 E1 => ?_) fun x t q1 q3 h1 e E1 A1 B1 => ?_
  · exact H a b z1 z3 false h1 E1 (A.fw E1) (B.fw E1) (fun c => by cases c) (fun _ => ⟨e, rfl, rfl⟩)
  · exact H t (x :: b) q1 q3 true h1 E1 A1 B1 (fun _ => ⟨x, e, rfl⟩) (fun c => by cases c)

theorem moves_law {l1 : Sl} {l : List Int} {i j : Int} (hl1 : RI h.size h l1 l) (hz : l.length ≤ 17592186044416) : law3_ZipMoves r l1 i j h fun y h' => y = true ∧ Ext h.size h h' := by
  apply law3_ZipMoves_of
  refine zipped_ok fun h1 E1 => ⟨fun c => (by cases c), fun _ => ?_⟩
  have hlen := hl1.len
  refine zof_ok (hl1.ext E1 (Nat.le_refl _)) E1.1 (by omega) fun q h2 E2 L2 => ?_
  refine go_any (a := []) (b := l) rfl L2 (by simp; omega) fun a b z1 z3 y h3 E3 A3 B3 e3 hy hi _ => ?_
  have e3 : a.reverse ++ b = l := e3
  have hab : a.length + b.length = l.length := by have := congrArg List.length e3; simpa using this
  have hy : y = (decide (0 ≤ i) && decide (i ≤ (l1.len : Int))) := by rw [hy, hlen]; simp
  refine New.cells fun h4 E4 z4 B4 => St.whole B4 rfl rfl fun h5 B5 o5 z5 => ⟨_, B5.ld 0 rfl, _, B5.ld 1 rfl, _, B5.ld 2 rfl, _, B5.ld 3 rfl, ?_⟩
  have E13 := (E1.trans E2).trans E3
  have E15 := (E13.trans E4).over (c := h3.size) E13.1 o5 z5
  have A5 := ((A3.fw E4).over B4 (fun x q e => by simp at e) o5)
  have L5 := ((B3.fw E4).over B4 (fun x q e => by simp at e) o5)
  refine zints_ok A5 L5 (by omega) fun s h6 E6 O6 => ?_
  rw [e3] at O6
  have R6 : RI h6.size h6 s l := O6.rs
  refine same_Ints_ok R6 (hl1.ext (E15.trans E6) (Nat.le_refl _)) (by omega) ?_
  rw [decide_eq_true rfl]
  refine ⟨fun c => absurd c (by rw [hy]; simp), fun _ => ?_⟩
  have B6 := E6.blk B5
  have A6 := A5.fw E6
  have L6 := L5.fw E6
  refine ⟨_, B6.ld 0 rfl, _, B6.ld 1 rfl, _, B6.ld 2 rfl, _, B6.ld 3 rfl, ?_⟩
  refine right_any A6 L6 (by omega) fun a1 b1 q1 q3 e1 h8 E8 A8 L8 r1 r0 => ?_
  have hab1 : a1.length + b1.length = l.length := by
    cases e1 with
    | true => obtain ⟨x, u, v⟩ := r1 rfl; subst u; subst v; simp at hab ⊢; omega
    | false => obtain ⟨_, u, v⟩ := r0 rfl; subst u; subst v; exact hab
  refine New.cells fun h9 E9 z9 B9 => St.whole B9 rfl rfl fun h10 B10 o10 z10 => ⟨_, B10.ld 0 rfl, _, B10.ld 1 rfl, _, B10.ld 2 rfl, _, B10.ld 3 rfl, ?_⟩
  have E10 : Fw h6 h10 := (E8.trans E9).over (c := h8.size) E8.1 o10 z10
  have A10 := ((A8.fw E9).over B9 (fun x q e => by simp at e) o10)
  have L10 := ((L8.fw E9).over B9 (fun x q e => by simp at e) o10)
  refine left_any A10 L10 (by omega) fun a2 b2 p1 p3 e2 h11 E11 A11 L11 s1 s0 => ?_
  refine New.cells fun h12 E12 z12 B12 => St.whole B12 rfl rfl fun h13 B13 o13 z13 => ?_
  have E613 : Fw h6 h13 := ((E10.trans E11).trans E12).over (c := h11.size) (E10.trans E11).1 o13 z13
  have C13 := E613.blk B6
  refine ⟨_, C13.ld 0 rfl, _, C13.ld 1 rfl, _, C13.ld 2 rfl, _, C13.ld 3 rfl, ?_⟩
  have A13 := A6.fw E613
  have L13 := L6.fw E613
  refine go_any A13 L13 (by omega) fun a3 b3 w1 w3 v h14 E14 A14 L14 e14 hv _ _ => ?_
  have hv : v = (decide (0 ≤ j) && decide (j ≤ (l1.len : Int))) := by rw [hv, hlen, hab]
  have hab3 : a3.length + b3.length = l.length := by have := congrArg List.length e14; simp at this; omega
  refine New.cells fun h15 E15' z15 B15 => St.whole B15 rfl rfl fun h16 B16 o16 z16 => ?_
  have E1316 : Fw h13 h16 := (E14.trans E15').over (c := h14.size) E14.1 o16 z16
  have A16 := ((A14.fw E15').over B15 (fun x q e => by simp at e) o16)
  have L16 := ((L14.fw E15').over B15 (fun x q e => by simp at e) o16)
  have C16 := E1316.blk C13
  have D16 := E1316.blk B13
  have E016 : Fw h h16 := (((E15.trans E6).trans E613).trans E1316)
  intro J91 HJ91
  have fin : ∀ (c89 : Nat) (h17 : Heap) (w w' : Option Addr) (m2 : Int), Fw h16 h17 → Blk h17 c89 (zipC w (a.length : Int) w' m2) → J91 (ad c89 0) true h17 := by
    intro c89 h17 w w' m2 E17 B17
    apply HJ91
    intro J94 HJ94
    have J94ok : ∀ h18, Fw h17 h18 → J94 false h18 := by
      intro h18 E18
      refine HJ94 _ _ ⟨fun c => (by cases c), fun _ => ?_⟩
      intro J97 HJ97
      have B18 := E18.blk B17
      have C18 := E18.blk (E17.blk C16)
      refine ⟨fun _ => ⟨_, B18.ld 0 rfl, _, B18.ld 1 rfl, _, B18.ld 2 rfl, _, B18.ld 3 rfl, _, C18.ld 0 rfl, _, C18.ld 1 rfl, _, C18.ld 2 rfl, _, C18.ld 3 rfl, place_ok fun h20 E20 => ?_⟩, fun c => (by cases c)⟩
      have C20 := E20.blk C18
      refine ⟨C20.ld 0 rfl, C20.ld 1 rfl, C20.ld 2 rfl, C20.ld 3 rfl, place_ok fun h21 E21 => HJ97 _ _ ⟨decide_eq_true rfl, ?_⟩⟩
      exact (((E016.trans E17).trans E18).trans E20).trans E21
    have last : ∀ h18, Fw h17 h18 → Br (decide (0 ≤ j)) (J94 (v != (decide (j ≤ ((l1.len : Int))))) h18) (J94 (v != false) h18) := by
      intro h18 E18
      refine ⟨fun c => ?_, fun c => ?_⟩
      · have : (v != decide (j ≤ (l1.len : Int))) = false := by rw [hv, c]; simp
        rw [this]; exact J94ok h18 E18
      · have : (v != false) = false := by rw [hv, c]; simp
        rw [this]; exact J94ok h18 E18
    refine ⟨fun he1 => ?_, fun _ => last h17 (Fw.refl _)⟩
    obtain ⟨x, u1, u2⟩ := r1 he1
    have he2 : e2 = true := by
      cases e2 with
      | true => rfl
      | false => have := (s0 rfl).1; rw [u1] at this; cases this
    obtain ⟨x', u3, u4⟩ := s1 he2
    have ea : a2 = a := by rw [u1] at u3; simp at u3; exact u3.2.symm
    have C17 := E17.blk C16
    have D17 := E17.blk D16
    refine ⟨fun c => absurd c (by rw [he2]; decide), fun _ => ⟨_, D17.ld 0 rfl, _, D17.ld 1 rfl, _, D17.ld 2 rfl, _, D17.ld 3 rfl, _, C17.ld 0 rfl, _, C17.ld 1 rfl, _, C17.ld 2 rfl, _, C17.ld 3 rfl, place_ok fun h22 E22 => ?_⟩⟩
    have C22 := E22.blk C17
    refine ⟨C22.ld 0 rfl, C22.ld 1 rfl, C22.ld 2 rfl, C22.ld 3 rfl, place_ok fun h23 E23 => ⟨fun c => absurd c (by rw [ea]; simp), fun _ => last h23 (E22.trans E23)⟩⟩
  have goal : ∀ (h24 : Heap) (R' : Option Addr → Int → Option Addr → Int → Bool → Heap → Prop), Fw h16 h24 → (∀ q1 q3 n2 h25, Fw h24 h25 → R' q1 (a.length : Int) q3 n2 true h25) → zip_Zip_Go r w1 (a3.length : Int) w3 (b3.length : Int) (a.length : Int) h24 R' := by
    intro h24 R' E24 H
    refine go_ok (A16.fw E24) (L16.fw E24) (by omega) (fun hno => absurd ⟨by omega, by omega⟩ hno) fun _ a4 b4 q1 q3 h25 E25 _ _ _ e4 => ?_
    rw [e4]
    exact H q1 q3 _ h25 E25
  refine ⟨_, B16.ld 0 rfl, _, B16.ld 1 rfl, _, B16.ld 2 rfl, _, B16.ld 3 rfl, _, C16.ld 0 rfl, _, C16.ld 1 rfl, _, C16.ld 2 rfl, _, C16.ld 3 rfl, ?_, ?_⟩
  · refine place_ok fun h24 E24 => ?_
    have B24 := E24.blk B16
    have C24 := E24.blk C16
    refine ⟨B24.ld 0 rfl, B24.ld 1 rfl, B24.ld 2 rfl, B24.ld 3 rfl, ?_, ?_⟩
    · refine goal h24 _ E24 fun q1 q3 n2 h25 E25 => New.cells fun h26 E26 z26 B26 => ?_
      have B26' := E26.blk (E25.blk B24)
      have C26' := E26.blk (E25.blk C24)
      refine ⟨C26'.ld 0 rfl, C26'.ld 1 rfl, C26'.ld 2 rfl, C26'.ld 3 rfl, B26'.ld 0 rfl, B26'.ld 1 rfl, B26'.ld 2 rfl, B26'.ld 3 rfl, ?_⟩
      refine St.whole B26 rfl rfl fun h27 B27 o27 z27 => fin _ h27 _ _ _ (((E24.trans E25).trans E26).over (c := h25.size) (E24.trans E25).1 o27 z27) B27
    · refine New.cells fun h28 E28 z28 B28 => ?_
      have B28' := E28.blk B24
      have C28' := E28.blk C24
      refine ⟨C28'.ld 0 rfl, C28'.ld 1 rfl, C28'.ld 2 rfl, C28'.ld 3 rfl, B28'.ld 0 rfl, B28'.ld 1 rfl, B28'.ld 2 rfl, B28'.ld 3 rfl, ?_⟩
      refine goal h28 _ (E24.trans E28) fun q1 q3 n2 h29 E29 => ?_
      refine St.whole (E29.blk B28) rfl rfl fun h30 B30 o30 z30 => fin _ h30 _ _ _ (((E24.trans E28).trans E29).over (c := h24.size) E24.1 o30 z30) B30
  · refine New.cells fun h31 E31 z31 B31 => ?_
    have B31' := E31.blk B16
    have C31' := E31.blk C16
    refine ⟨C31'.ld 0 rfl, C31'.ld 1 rfl, C31'.ld 2 rfl, C31'.ld 3 rfl, B31'.ld 0 rfl, B31'.ld 1 rfl, B31'.ld 2 rfl, B31'.ld 3 rfl, place_ok fun h32 E32 => ?_⟩
    have B32' := E32.blk B31'
    refine ⟨B32'.ld 0 rfl, B32'.ld 1 rfl, B32'.ld 2 rfl, B32'.ld 3 rfl, ?_⟩
    refine goal h32 _ (E31.trans E32) fun q1 q3 n2 h33 E33 => ?_
    refine St.whole (E33.blk (E32.blk B31)) rfl rfl fun h34 B34 o34 z34 => fin _ h34 _ _ _ (((E31.trans E32).trans E33).over (c := h16.size) (Nat.le_refl _) o34 z34) B34

/-! ### One place alone -/
theorem cat_ok {s t : Sl} {u v : List Int} {n : Nat} {R : Sl → Heap → Prop} (hs : RI n h s u) (ht : RI n h t v) (hn : n ≤ h.size) (hz : u.length + v.length ≤ 17592186044416) (H : ∀ s' h', Fw h h' → Own h.size 1 h' s' ((u ++ v).map iV) → R s' h') : ref1_Cat r s t h R := by
  apply ref1_Cat_of
  have ls := hs.len
  have lt := ht.len
  refine App.own (Own.nil h.size 1 h) hs rfl (by intro v hv; obtain ⟨x, _, rfl⟩ := List.mem_map.1 hv; rfl) (Nat.le_refl _) (by simp [Sl.nil]; omega) fun s1 h1 G1 => ?_
  have O1 := G1.own
  have l1 : s1.len = u.length := by have := O1.len; simp at this; omega
  refine App.own O1 (ht.ext G1.ext hn) rfl (by intro v hv; obtain ⟨x, _, rfl⟩ := List.mem_map.1 hv; rfl) G1.ext.1 (by omega) fun s2 h2 G2 => ?_
  refine H s2 h2 (Ext.trans G1.ext G2.ext) ?_
  have := G2.own
  simpa using this

theorem App.in_ {el : TypeId} {N n : Nat} {s x : Sl} {u v : List Int} {K : Sl → Heap → Prop} (O : Own N 1 h s (u.map iV)) (X : RI n h x v) (hN : N ≤ h.size) (hz : u.length + v.length ≤ 17592186044416) (hK : ∀ s' h', Tw.Ext N h h' → Own N 1 h' s' ((u ++ v).map iV) → K s' h') : App el 1 8 (.int .i64 0) s x h K := by
  have ls : s.len = u.length := by have := O.len; simp at this; omega
  have lx := X.len
  refine App.own O X rfl (by intro v hv; obtain ⟨x, _, rfl⟩ := List.mem_map.1 hv; rfl) hN (by omega) fun s' h' G => hK s' h' G.ext ?_
  have := G.own
  simpa using this

theorem Sub.in_ {n : Nat} {s : Sl} {u : List Int} {lo hi : Nat} {K : Sl → Prop} (S : RI n h s u) (h1 : lo ≤ hi) (h2 : hi ≤ u.length) (hK : ∀ t, RI n h t ((u.drop lo).take (hi - lo)) → K t) : Sub s (lo : Int) (hi : Int) (s.cap : Int) 1 K := by
  have hc := S.cap
  have hl := S.len
  refine ⟨by omega, by omega, by omega, by omega, fun t ht => hK t ?_⟩
  have et : t = ⟨sliceA s.a s.cap lo 1, hi - lo, s.cap - lo⟩ := by rw [ht]; simp only [Int.toNat_natCast]
  rw [et]
  by_cases he : lo = hi
  · subst he
    refine ⟨by simp, by simp, .inl (by simp)⟩
  · have := Rs.sub S (lo := lo) (hi := hi) (mx := s.cap) (by omega) (by simp; omega) (by omega)
    rwa [← List.map_drop, ← List.map_take] at this

theorem without_ok {s : Sl} {u : List Int} {n i : Nat} {R : Sl → Heap → Prop} (S : RI n h s u) (hn : n ≤ h.size) (hi : i < u.length) (hz : u.length ≤ 17592186044416) (H : ∀ s' h', Fw h h' → Own h.size 1 h' s' ((u.take i ++ u.drop (i + 1)).map iV) → R s' h') : ref1_Without r s (i : Int) h R := by
  apply ref1_Without_of
  have hl := S.len
  refine Sub.in_ (lo := 0) S (by omega) (by omega) fun t T => ?_
  refine App.in_ (u := []) (Own.nil h.size 1 h) T (Nat.le_refl _) (by simp; omega) fun s1 h1 E1 O1 => ?_
  rw [show w64 ((i : Int) + 1) = ((i + 1 : Nat) : Int) by rw [w64_of] <;> omega, hl]
  refine Sub.in_ (S.ext E1 hn) (by omega) (by omega) fun t2 T2 => ?_
  refine App.in_ O1 T2 E1.1 (by simp; omega) fun s2 h2 E2 O2 => H s2 h2 (Ext.trans E1 E2) ?_
  have e : [] ++ (u.drop 0).take (i - 0) ++ (u.drop (i + 1)).take (u.length - (i + 1)) = u.take i ++ u.drop (i + 1) := by
    rw [List.nil_append, List.drop_zero, Nat.sub_zero, List.take_of_length_le (l := u.drop (i + 1)) (by simp)]
  rwa [e] at O2

theorem drop_at {a : List Int} {x : Int} {t : List Int} : (a ++ x :: t).take a.length ++ (a ++ x :: t).drop (a.length + 1) = a ++ t := by
  rw [List.take_left' rfl, List.drop_append]
  simp

theorem edits_law {l1 : Sl} {l : List Int} {i x : Int} (hl1 : RI h.size h l1 l) (hz : l.length + 1 ≤ 17592186044416) : law3_ZipEdits r l1 i x h fun y h' => y = true ∧ Ext h.size h h' := by
  apply law3_ZipEdits_of
  refine zipped_ok fun h1 E1 => ⟨fun c => (by cases c), fun _ => ?_⟩
  have hlen := hl1.len
  refine zof_ok (hl1.ext E1 (Nat.le_refl _)) E1.1 (by omega) fun q h2 E2 L2 => ?_
  refine go_any (a := []) (b := l) rfl L2 (by simp; omega) fun a b z1 z3 y h3 E3 A3 B3 e3 hy hi _ => ?_
  have e3 : a.reverse ++ b = l := e3
  have hab : a.length + b.length = l.length := by have := congrArg List.length e3; simpa using this
  refine New.cells fun h4 E4 z4 B4 => St.whole B4 rfl rfl fun h5 B5 o5 z5 => ?_
  have E13 := (E1.trans E2).trans E3
  have E15 := (E13.trans E4).over (c := h3.size) E13.1 o5 z5
  have A5 := ((A3.fw E4).over B4 (fun x q e => by simp at e) o5)
  have L5 := ((B3.fw E4).over B4 (fun x q e => by simp at e) o5)
  refine ⟨fun _ => ⟨rfl, E15⟩, fun c => ?_⟩
  have hi := hi (by simpa using c)
  refine ⟨_, B5.ld 0 rfl, _, B5.ld 1 rfl, _, B5.ld 2 rfl, _, B5.ld 3 rfl, ?_⟩
  refine insert_ok A5 L5 (by omega) fun q1 h6 E6 A6 L6 => ?_
  refine New.cells fun h7 E7 z7 B7 => St.whole B7 rfl rfl fun h8 B8 o8 z8 => ⟨_, B8.ld 0 rfl, _, B8.ld 1 rfl, _, B8.ld 2 rfl, _, B8.ld 3 rfl, ?_⟩
  have E58 : Fw h5 h8 := (E6.trans E7).over (c := h6.size) E6.1 o8 z8
  refine left_ok (a := x :: a) (b := b) ((A6.fw E7).over B7 (fun x q e => by simp at e) o8) ((L6.fw E7).over B7 (fun x q e => by simp at e) o8) (by simp; omega) (by omega) (fun e => by cases e) fun x' t p1 p3 h9 e E9 A9 L9 => ?_
  obtain ⟨rfl, rfl⟩ : x = x' ∧ a = t := by simpa using e
  refine New.cells fun h10 E10 z10 B10 => St.whole B10 rfl rfl fun h11 B11 o11 z11 => ⟨_, B11.ld 0 rfl, _, B11.ld 1 rfl, _, B11.ld 2 rfl, _, B11.ld 3 rfl, ?_⟩
  have E511 : Fw h5 h11 := ((E58.trans E9).trans E10).over (c := h9.size) (E58.trans E9).1 o11 z11
  have A11 := ((A9.fw E10).over B10 (fun x q e => by simp at e) o11)
  have L11 := ((L9.fw E10).over B10 (fun x q e => by simp at e) o11)
  refine zat_ok (b := x :: b) L11 (fun e => by cases e) fun x' t h12 e E12 => ?_
  obtain ⟨rfl, rfl⟩ : x = x' ∧ b = t := by simpa using e
  have B12 := E12.blk B11
  refine ⟨_, B12.ld 0 rfl, _, B12.ld 1 rfl, _, B12.ld 2 rfl, _, B12.ld 3 rfl, ?_⟩
  refine delete_ok (a := a) (b := x :: b) (A11.fw E12) (L11.fw E12) (by simp; omega) (fun e => by cases e) fun x' t w3 h13 e E13' A13 L13 => ?_
  obtain ⟨rfl, rfl⟩ : x = x' ∧ b = t := by simpa using e
  refine New.cells fun h14 E14 z14 B14 => St.whole B14 rfl rfl fun h15 B15 o15 z15 => ⟨_, B15.ld 0 rfl, _, B15.ld 1 rfl, _, B15.ld 2 rfl, _, B15.ld 3 rfl, ?_⟩
  have E513 := (E511.trans E12).trans E13'
  have E515 : Fw h5 h15 := (E513.trans E14).over (c := h13.size) E513.1 o15 z15
  have A15 := ((A13.fw E14).over B14 (fun x q e => by simp at e) o15)
  have L15 := ((L13.fw E14).over B14 (fun x q e => by simp at e) o15)
  refine zints_ok A15 L15 (by omega) fun s h16 E16 O16 => ?_
  rw [e3] at O16
  have R16 : RI h16.size h16 s l := O16.rs
  have E016 := (E15.trans E515).trans E16
  refine same_Ints_ok R16 (hl1.ext E016 (Nat.le_refl _)) (by omega) ?_
  rw [decide_eq_true rfl]
  intro J HJ
  have E516 := E515.trans E16
  have tail_ : ∀ h18, Fw h16 h18 → J false h18 := by
    intro h18 E18
    have B18 := (E516.trans E18).blk B5
    refine HJ _ _ ⟨fun c => (by cases c), fun _ => ⟨_, B18.ld 0 rfl, _, B18.ld 1 rfl, _, B18.ld 2 rfl, _, B18.ld 3 rfl, ?_⟩⟩
    -- the list with one set
    have A18 := A5.fw (E516.trans E18)
    have L18 := L5.fw (E516.trans E18)
    have E018 := E016.trans E18
    have hmin : min i (l1.len : Int) = (a.length : Int) := by omega
    refine set_ok A18 L18 (by omega) (fun e h19 E19 => ?_) fun x' t w3 h19 e E19 A19 L19 => ?_
    · refine New.cells fun h20 E20 z20 B20 => St.whole B20 rfl rfl fun h21 B21 o21 z21 => ⟨_, B21.ld 0 rfl, _, B21.ld 1 rfl, _, B21.ld 2 rfl, _, B21.ld 3 rfl, ?_⟩
      have E21 : Fw h18 h21 := (E19.trans E20).over (c := h19.size) E19.1 o21 z21
      refine zat_ok (L18.fw E21) (fun _ h22 E22 => ?_) fun x' t h22 e' => by rw [e] at e'; cases e'
      have B22 := E22.blk B21
      refine ⟨_, B22.ld 0 rfl, _, B22.ld 1 rfl, _, B22.ld 2 rfl, _, B22.ld 3 rfl, ?_⟩
      have E22' := E21.trans E22
      refine zints_ok (A18.fw E22') (L18.fw E22') (by omega) fun s1 h23 E23 O23 => ?_
      rw [e3] at O23
      have E023 := (E018.trans E22').trans E23
      refine New.cells (cs := [iV 0]) fun h24 E24 z24 B24 => ?_
      have O24 := O23.ext E24
      have hN : h22.size ≤ h24.size := (E23.trans E24).1
      refine App.in_ (v := [0]) O24 (RI.of_blk (n := h24.size) (l := [0]) B24 (by omega) (List.prefix_refl _) (by decide)) hN (by simp; omega) fun s2 h25 E25 O25 => ?_
      rw [hmin]
      have R25 : RI h25.size h25 s2 (l ++ [0]) := O25.rs
      refine without_ok R25 (Nat.le_refl _) (by simp; omega) (by simp; omega) fun s3 h26 E26 O26 => ?_
      have E2226 : Tw.Ext h22.size h22 h26 := Ext.trans (Ext.trans (E23.trans E24) E25) (E26.mono (by have := E25.1; omega))
      have E026 : Fw h h26 := Ext.trans (E018.trans E22') (E2226.mono (by have := (E018.trans E22').1; omega))
      refine cat_ok (v := []) (hl1.ext E026 (Nat.le_refl _)) (RI.nil _ _) E026.1 (by simp; omega) fun s4 h27 E27 O27 => ?_
      rw [List.append_nil] at O27
      refine New.cells (cs := [iV 0]) fun h28 E28 z28 B28 => ?_
      have O28 := O27.ext E28
      refine App.in_ (v := [0]) O28 (RI.of_blk (n := h28.size) (l := [0]) B28 (by omega) (List.prefix_refl _) (by decide)) (E27.trans E28).1 (by simp; omega) fun s5 h29 E29 O29 => ?_
      have R29 : RI h29.size h29 s5 (l ++ [0]) := O29.rs
      refine without_ok R29 (Nat.le_refl _) (by simp; omega) (by simp; omega) fun s6 h30 E30 O30 => ?_
      have E2630 : Fw h26 h30 := Ext.trans (Ext.trans (E27.trans E28) E29) (E30.mono (by have := (E27.trans E28).1; have := E29.1; omega))
      have R26 : RI h26.size h30 s3 ((l ++ [0]).take a.length ++ (l ++ [0]).drop (a.length + 1)) := Rs.ext O26.rs E2630 (Nat.le_refl _)
      have R30 : RI h30.size h30 s6 ((l ++ [0]).take a.length ++ (l ++ [0]).drop (a.length + 1)) := O30.rs
      refine same_Ints_ok R26 R30 (by simp; omega) ?_
      rw [decide_eq_true rfl]
      intro J2 HJ2
      have hb0 : b.length = 0 := by rw [e]; rfl
      refine ⟨fun _ => ⟨fun _ => HJ2 _ ⟨rfl, E026.trans E2630⟩, fun c => (by cases c)⟩, fun c => ?_⟩
      rw [decide_eq_false (by omega)] at c; cases c
    · refine New.cells fun h20 E20 z20 B20 => St.whole B20 rfl rfl fun h21 B21 o21 z21 => ⟨_, B21.ld 0 rfl, _, B21.ld 1 rfl, _, B21.ld 2 rfl, _, B21.ld 3 rfl, ?_⟩
      have E21 : Fw h18 h21 := (E19.trans E20).over (c := h19.size) E19.1 o21 z21
      have A21 := ((A19.fw E20).over B20 (fun x q e => by simp at e) o21)
      have L21 := ((L19.fw E20).over B20 (fun x q e => by simp at e) o21)
      have hbt : b.length = t.length + 1 := by rw [e]; simp
      refine zat_ok (b := x :: t) L21 (fun e => by cases e) fun x2 t2 h22 e' E22 => ?_
      obtain ⟨rfl, rfl⟩ : x = x2 ∧ t = t2 := by simpa using e'
      have B22 := E22.blk B21
      refine ⟨_, B22.ld 0 rfl, _, B22.ld 1 rfl, _, B22.ld 2 rfl, _, B22.ld 3 rfl, ?_⟩
      have E22' := E21.trans E22
      refine zints_ok (A21.fw E22) (L21.fw E22) (by simp; omega) fun s1 h23 E23 O23 => ?_
      have E023 := (E018.trans E22').trans E23
      refine New.cells (cs := [iV 0]) fun h24 E24 z24 B24 => ?_
      have O24 := O23.ext E24
      have hN : h22.size ≤ h24.size := (E23.trans E24).1
      refine App.in_ (v := [0]) O24 (RI.of_blk (n := h24.size) (l := [0]) B24 (by omega) (List.prefix_refl _) (by decide)) hN (by simp; omega) fun s2 h25 E25 O25 => ?_
      rw [hmin]
      have R25 : RI h25.size h25 s2 (a.reverse ++ x :: t ++ [0]) := O25.rs
      refine without_ok R25 (Nat.le_refl _) (by simp) (by simp; omega) fun s3 h26 E26 O26 => ?_
      have E2226 : Tw.Ext h22.size h22 h26 := Ext.trans (Ext.trans (E23.trans E24) E25) (E26.mono (by have := E25.1; omega))
      have E026 : Fw h h26 := Ext.trans (E018.trans E22') (E2226.mono (by have := (E018.trans E22').1; omega))
      refine cat_ok (v := []) (hl1.ext E026 (Nat.le_refl _)) (RI.nil _ _) E026.1 (by simp; omega) fun s4 h27 E27 O27 => ?_
      rw [List.append_nil] at O27
      refine New.cells (cs := [iV 0]) fun h28 E28 z28 B28 => ?_
      have O28 := O27.ext E28
      refine App.in_ (v := [0]) O28 (RI.of_blk (n := h28.size) (l := [0]) B28 (by omega) (List.prefix_refl _) (by decide)) (E27.trans E28).1 (by simp; omega) fun s5 h29 E29 O29 => ?_
      have R29 : RI h29.size h29 s5 (l ++ [0]) := O29.rs
      refine without_ok R29 (Nat.le_refl _) (by simp; omega) (by simp; omega) fun s6 h30 E30 O30 => ?_
      have E2630 : Fw h26 h30 := Ext.trans (Ext.trans (E27.trans E28) E29) (E30.mono (by have := (E27.trans E28).1; have := E29.1; omega))
      have R26 : RI h26.size h30 s3 ((a.reverse ++ x :: t ++ [0]).take a.length ++ (a.reverse ++ x :: t ++ [0]).drop (a.length + 1)) := Rs.ext O26.rs E2630 (Nat.le_refl _)
      have R30 : RI h30.size h30 s6 ((l ++ [0]).take a.length ++ (l ++ [0]).drop (a.length + 1)) := O30.rs
      have d1 : (a.reverse ++ x :: t ++ [0]).take a.length ++ (a.reverse ++ x :: t ++ [0]).drop (a.length + 1) = a.reverse ++ (t ++ [0]) := by
        have := drop_at (a := a.reverse) (x := x) (t := t ++ [0])
        rw [List.length_reverse] at this
        rw [← this]; simp
      have d2 : (l ++ [0]).take a.length ++ (l ++ [0]).drop (a.length + 1) = a.reverse ++ (t ++ [0]) := by
        have := drop_at (a := a.reverse) (x := x') (t := t ++ [0])
        rw [List.length_reverse] at this
        rw [← this, ← e3, e]; simp
      rw [d1] at R26
      rw [d2] at R30
      refine same_Ints_ok R26 R30 (by simp; omega) ?_
      rw [decide_eq_true rfl]
      intro J2 HJ2
      refine ⟨fun _ => ⟨fun c => (by cases c), fun _ => ⟨fun _ => ⟨fun _ => HJ2 _ ⟨rfl, E026.trans E2630⟩, fun c => by simp at c⟩, fun c => (by cases c)⟩⟩, fun c => ?_⟩
      rw [decide_eq_true (by omega)] at c; cases c
  refine ⟨fun c => (by cases c), fun _ => ⟨fun c => (by cases c), fun _ => ⟨fun c => (by cases c), fun _ => ⟨fun c => by simp at c, fun _ => ⟨fun c => by simp at c, fun _ => ?_⟩⟩⟩⟩⟩
  have B16 := E16.blk B15
  refine ⟨_, B16.ld 0 rfl, _, B16.ld 1 rfl, _, B16.ld 2 rfl, _, B16.ld 3 rfl, place_ok fun h32 E32 => ?_⟩
  rw [hi, decide_eq_true rfl]
  exact tail_ h32 E32
end
end Go.Proofs.Ytgieabpckecjlaa
