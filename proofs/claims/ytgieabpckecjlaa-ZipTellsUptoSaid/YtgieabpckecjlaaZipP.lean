/- A place in a list: what the functions do. -/
import Derived.Test.YtgieabpckecjlaaZip
import Derived.Test.YtgieabpckecjlaaLstQ
namespace Go.Proofs.Ytgieabpckecjlaa
open Go Go.RowKit Go.Tw
set_option linter.unusedVariables false

abbrev zipC (z1 : Option Addr) (n1 : Int) (z3 : Option Addr) (n2 : Int) : List Value := [.pointer z1, iV n1, .pointer z3, iV n2]
section
variable {r : World} {h : Heap} {z1 z3 : Option Addr} {a b : List Int}

theorem zof_ok {s : Sl} {l : List Int} {n : Nat} {R : Option Addr → Int → Option Addr → Int → Heap → Prop} (hs : RI n h s l) (hn : n ≤ h.size) (hl : l.length ≤ 281474976710656) (H : ∀ q h', Fw h h' → Lk h' l q → R none 0 q (l.length : Int) h') : zip_Of r s h R := by
  apply zip_Of_of
  refine New.cells fun h1 E1 z1 B1 => ?_
  refine of_ok (hs.ext E1 hn) (by omega) hl fun q h2 E2 L2 => ?_
  refine St.whole (E2.blk B1) rfl rfl fun h3 B3 o3 z3 => ⟨_, B3.ld 0 rfl, _, B3.ld 1 rfl, _, B3.ld 2 rfl, _, B3.ld 3 rfl, ?_⟩
  exact H q h3 ((E1.trans E2).over (Nat.le_refl _) o3 z3) (L2.over (E2.blk B1) (fun x q e => by simp at e) o3)

theorem place_ok {R : Int → Heap → Prop} {n1 n2 : Int} (H : ∀ h', Fw h h' → R n1 h') : zip_Zip_Place r z1 n1 z3 n2 h R := by
  apply zip_Zip_Place_of
  refine New.cells fun h1 E1 z1 B1 => ⟨_, B1.ld2 0 0 rfl, _, B1.ld2 0 1 rfl, ?_⟩
  exact len_ok fun h2 E2 => H h2 (E1.trans E2)

theorem zat_ok {R : Int → Bool → Heap → Prop} {n1 : Int} (B : Lk h b z3) (H0 : b = [] → ∀ h', Fw h h' → R 0 false h') (H1 : ∀ x t h', b = x :: t → Fw h h' → R x true h') : zip_Zip_At r z1 n1 z3 (b.length : Int) h R := by
  apply zip_Zip_At_of
  refine New.cells fun h1 E1 z1 B1 => ⟨_, B1.ld2 2 0 rfl, _, B1.ld2 2 1 rfl, ?_⟩
  exact at0_ok (B.fw E1) (fun e h2 E2 => H0 e h2 (E1.trans E2)) fun x t h2 e E2 => H1 x t h2 e (E1.trans E2)

theorem left_ok {R : Option Addr → Int → Option Addr → Int → Bool → Heap → Prop} (A : Lk h a z1) (B : Lk h b z3) (ha : a.length ≤ 281474976710656) (hb : b.length ≤ 281474976710656) (H0 : a = [] → ∀ h', Fw h h' → R z1 (a.length : Int) z3 (b.length : Int) false h')
    (H1 : ∀ x t q1 q3 h', a = x :: t → Fw h h' → Lk h' t q1 → Lk h' (x :: b) q3 → R q1 (t.length : Int) q3 ((b.length + 1 : Nat) : Int) true h') : zip_Zip_Left r z1 (a.length : Int) z3 (b.length : Int) h R := by
  apply zip_Zip_Left_of
  refine New.cells fun h1 E1 z1' B1 => New.cells fun h2 E2 z2 B2 => ⟨_, (E2.blk B1).ld2 0 0 rfl, _, (E2.blk B1).ld2 0 1 rfl, ?_⟩
  have E12 := E1.trans E2
  refine pop_ok (A.fw E12) ha (fun e h3 E3 => ?_) fun x t q h3 e E3 L3 => ?_
  · refine New.cells fun h4 E4 z4 B4 => St.whole B4 rfl rfl fun h5 B5 o5 z5 => ?_
    have E5 := ((E12.trans E3).trans E4).over (c := h3.size) (E12.trans E3).1 o5 z5
    have C5 : Blk h5 h.size _ := (E4.blk (E3.blk (E2.blk B1))).other o5 (by have := E3.1; omega)
    have D5 : Blk h5 h1.size _ := (E4.blk (E3.blk B2)).other o5 (by have := E3.1; omega)
    refine ⟨fun _ => ⟨_, C5.ld 0 rfl, _, C5.ld 1 rfl, _, C5.ld 2 rfl, _, C5.ld 3 rfl, ?_⟩, fun c => (by cases c)⟩
    refine St.whole D5 rfl rfl fun h6 B6 o6 z6 => ⟨_, B6.ld 0 rfl, _, B6.ld 1 rfl, _, B6.ld 2 rfl, _, B6.ld 3 rfl, ?_⟩
    exact H0 e h6 (E5.over E1.1 o6 z6)
  · refine New.cells fun h4 E4 z4 B4 => St.whole B4 rfl rfl fun h5 B5 o5 z5 => ?_
    have E14 := (E12.trans E3).trans E4
    have E5 := E14.over (c := h3.size) (E12.trans E3).1 o5 z5
    have C5 : Blk h5 h.size _ := (E4.blk (E3.blk (E2.blk B1))).other o5 (by have := E3.1; omega)
    have D5 : Blk h5 h1.size _ := (E4.blk (E3.blk B2)).other o5 (by have := E3.1; omega)
    refine ⟨fun c => (by cases c), fun _ => ⟨_, B5.ld 0 rfl, _, B5.ld 1 rfl, _, C5.ld2 2 0 rfl, _, C5.ld2 2 1 rfl, ?_⟩⟩
    refine push_ok ((B.fw E14).over B4 (fun x q e => by simp at e) o5) hb fun q3 h7 E7 L7 => ?_
    refine ⟨(E7.blk B5).ld 0 rfl, (E7.blk B5).ld 1 rfl, ?_⟩
    refine St.whole (E7.blk D5) rfl rfl fun h6 B6 o6 z6 => ⟨_, B6.ld 0 rfl, _, B6.ld 1 rfl, _, B6.ld 2 rfl, _, B6.ld 3 rfl, ?_⟩
    refine H1 x t q q3 h6 e ((E5.trans E7).over E1.1 o6 z6) ?_ (L7.over (E7.blk D5) (fun x q e => by simp at e) o6)
    exact ((((L3.fw E4).over B4 (fun x q e => by simp at e) o5).fw E7).over (E7.blk D5) (fun x q e => by simp at e) o6)

theorem right_ok {R : Option Addr → Int → Option Addr → Int → Bool → Heap → Prop} (A : Lk h a z1) (B : Lk h b z3) (ha : a.length ≤ 281474976710656) (hb : b.length ≤ 281474976710656) (H0 : b = [] → ∀ h', Fw h h' → R z1 (a.length : Int) z3 (b.length : Int) false h')
    (H1 : ∀ x t q1 q3 h', b = x :: t → Fw h h' → Lk h' (x :: a) q1 → Lk h' t q3 → R q1 ((a.length + 1 : Nat) : Int) q3 (t.length : Int) true h') : zip_Zip_Right r z1 (a.length : Int) z3 (b.length : Int) h R := by
  apply zip_Zip_Right_of
  refine New.cells fun h1 E1 z1' B1 => New.cells fun h2 E2 z2 B2 => ⟨_, (E2.blk B1).ld2 2 0 rfl, _, (E2.blk B1).ld2 2 1 rfl, ?_⟩
  have E12 := E1.trans E2
  refine pop_ok (B.fw E12) hb (fun e h3 E3 => ?_) fun x t q h3 e E3 L3 => ?_
  · refine New.cells fun h4 E4 z4 B4 => St.whole B4 rfl rfl fun h5 B5 o5 z5 => ?_
    have E5 := ((E12.trans E3).trans E4).over (c := h3.size) (E12.trans E3).1 o5 z5
    have C5 : Blk h5 h.size _ := (E4.blk (E3.blk (E2.blk B1))).other o5 (by have := E3.1; omega)
    have D5 : Blk h5 h1.size _ := (E4.blk (E3.blk B2)).other o5 (by have := E3.1; omega)
    refine ⟨fun _ => ⟨_, C5.ld 0 rfl, _, C5.ld 1 rfl, _, C5.ld 2 rfl, _, C5.ld 3 rfl, ?_⟩, fun c => (by cases c)⟩
    refine St.whole D5 rfl rfl fun h6 B6 o6 z6 => ⟨_, B6.ld 0 rfl, _, B6.ld 1 rfl, _, B6.ld 2 rfl, _, B6.ld 3 rfl, ?_⟩
    exact H0 e h6 (E5.over E1.1 o6 z6)
  · refine New.cells fun h4 E4 z4 B4 => St.whole B4 rfl rfl fun h5 B5 o5 z5 => ?_
    have E14 := (E12.trans E3).trans E4
    have E5 := E14.over (c := h3.size) (E12.trans E3).1 o5 z5
    have C5 : Blk h5 h.size _ := (E4.blk (E3.blk (E2.blk B1))).other o5 (by have := E3.1; omega)
    have D5 : Blk h5 h1.size _ := (E4.blk (E3.blk B2)).other o5 (by have := E3.1; omega)
    refine ⟨fun c => (by cases c), fun _ => ⟨_, C5.ld2 0 0 rfl, _, C5.ld2 0 1 rfl, _, B5.ld 0 rfl, _, B5.ld 1 rfl, ?_⟩⟩
    refine push_ok ((A.fw E14).over B4 (fun x q e => by simp at e) o5) ha fun q1 h7 E7 L7 => ?_
    refine ⟨(E7.blk B5).ld 0 rfl, (E7.blk B5).ld 1 rfl, ?_⟩
    refine St.whole (E7.blk D5) rfl rfl fun h6 B6 o6 z6 => ⟨_, B6.ld 0 rfl, _, B6.ld 1 rfl, _, B6.ld 2 rfl, _, B6.ld 3 rfl, ?_⟩
    refine H1 x t q1 q h6 e ((E5.trans E7).over E1.1 o6 z6) (L7.over (E7.blk D5) (fun x q e => by simp at e) o6) ?_
    exact ((((L3.fw E4).over B4 (fun x q e => by simp at e) o5).fw E7).over (E7.blk D5) (fun x q e => by simp at e) o6)

theorem insert_ok {x : Int} {n2 : Int} {R : Option Addr → Int → Option Addr → Int → Heap → Prop} (A : Lk h a z1) (B : Lk h b z3) (ha : a.length ≤ 281474976710656) (H : ∀ q1 h', Fw h h' → Lk h' (x :: a) q1 → Lk h' b z3 → R q1 ((a.length + 1 : Nat) : Int) z3 n2 h') :
    zip_Zip_Insert r z1 (a.length : Int) z3 n2 x h R := by
  apply zip_Zip_Insert_of
  refine New.cells fun h1 E1 z1' B1 => New.cells fun h2 E2 z2 B2 => ⟨_, (E2.blk B1).ld2 0 0 rfl, _, (E2.blk B1).ld2 0 1 rfl, _, (E2.blk B1).ld2 2 0 rfl, _, (E2.blk B1).ld2 2 1 rfl, ?_⟩
  have E12 := E1.trans E2
  refine push_ok (A.fw E12) ha fun q1 h3 E3 L3 => ⟨(E3.blk (E2.blk B1)).ld2 2 0 rfl, (E3.blk (E2.blk B1)).ld2 2 1 rfl, ?_⟩
  refine St.whole (E3.blk B2) rfl rfl fun h6 B6 o6 z6 => ⟨_, B6.ld 0 rfl, _, B6.ld 1 rfl, _, B6.ld 2 rfl, _, B6.ld 3 rfl, ?_⟩
  exact H q1 h6 ((E12.trans E3).over E1.1 o6 z6) (L3.over (E3.blk B2) (fun x q e => by simp at e) o6) ((B.fw (E12.trans E3)).over (E3.blk B2) (fun x q e => by simp at e) o6)

theorem delete_ok {R : Option Addr → Int → Option Addr → Int → Bool → Heap → Prop} (A : Lk h a z1) (B : Lk h b z3) (hb : b.length ≤ 281474976710656) (H0 : b = [] → ∀ h', Fw h h' → R z1 (a.length : Int) z3 (b.length : Int) false h')
    (H1 : ∀ x t q3 h', b = x :: t → Fw h h' → Lk h' a z1 → Lk h' t q3 → R z1 (a.length : Int) q3 (t.length : Int) true h') : zip_Zip_Delete r z1 (a.length : Int) z3 (b.length : Int) h R := by
  apply zip_Zip_Delete_of
  refine New.cells fun h1 E1 z1' B1 => New.cells fun h2 E2 z2 B2 => ⟨_, (E2.blk B1).ld2 2 0 rfl, _, (E2.blk B1).ld2 2 1 rfl, ?_⟩
  have E12 := E1.trans E2
  refine pop_ok (B.fw E12) hb (fun e h3 E3 => ?_) fun x t q h3 e E3 L3 => ?_
  · refine New.cells fun h4 E4 z4 B4 => St.whole B4 rfl rfl fun h5 B5 o5 z5 => ?_
    have E5 := ((E12.trans E3).trans E4).over (c := h3.size) (E12.trans E3).1 o5 z5
    have C5 : Blk h5 h.size _ := (E4.blk (E3.blk (E2.blk B1))).other o5 (by have := E3.1; omega)
    have D5 : Blk h5 h1.size _ := (E4.blk (E3.blk B2)).other o5 (by have := E3.1; omega)
    refine ⟨fun _ => ⟨_, C5.ld 0 rfl, _, C5.ld 1 rfl, _, C5.ld 2 rfl, _, C5.ld 3 rfl, ?_⟩, fun c => (by cases c)⟩
    refine St.whole D5 rfl rfl fun h6 B6 o6 z6 => ⟨_, B6.ld 0 rfl, _, B6.ld 1 rfl, _, B6.ld 2 rfl, _, B6.ld 3 rfl, ?_⟩
    exact H0 e h6 (E5.over E1.1 o6 z6)
  · refine New.cells fun h4 E4 z4 B4 => St.whole B4 rfl rfl fun h5 B5 o5 z5 => ?_
    have E14 := (E12.trans E3).trans E4
    have E5 := E14.over (c := h3.size) (E12.trans E3).1 o5 z5
    have C5 : Blk h5 h.size _ := (E4.blk (E3.blk (E2.blk B1))).other o5 (by have := E3.1; omega)
    have D5 : Blk h5 h1.size _ := (E4.blk (E3.blk B2)).other o5 (by have := E3.1; omega)
    refine ⟨fun c => (by cases c), fun _ => ⟨_, C5.ld2 0 0 rfl, _, C5.ld2 0 1 rfl, _, B5.ld 0 rfl, _, B5.ld 1 rfl, ?_⟩⟩
    refine St.whole D5 rfl rfl fun h6 B6 o6 z6 => ⟨_, B6.ld 0 rfl, _, B6.ld 1 rfl, _, B6.ld 2 rfl, _, B6.ld 3 rfl, ?_⟩
    refine H1 x t q h6 e (E5.over E1.1 o6 z6) (((A.fw E14).over B4 (fun x q e => by simp at e) o5).over D5 (fun x q e => by simp at e) o6) ?_
    exact (((L3.fw E4).over B4 (fun x q e => by simp at e) o5).over D5 (fun x q e => by simp at e) o6)

theorem set_ok {y : Int} {R : Option Addr → Int → Option Addr → Int → Bool → Heap → Prop} (A : Lk h a z1) (B : Lk h b z3) (hb : b.length ≤ 281474976710656) (H0 : b = [] → ∀ h', Fw h h' → R z1 (a.length : Int) z3 (b.length : Int) false h')
    (H1 : ∀ x t q3 h', b = x :: t → Fw h h' → Lk h' a z1 → Lk h' (y :: t) q3 → R z1 (a.length : Int) q3 ((t.length + 1 : Nat) : Int) true h') : zip_Zip_Set r z1 (a.length : Int) z3 (b.length : Int) y h R := by
  apply zip_Zip_Set_of
  refine New.cells fun h1 E1 z1' B1 => New.cells fun h2 E2 z2 B2 => ⟨_, (E2.blk B1).ld2 2 0 rfl, _, (E2.blk B1).ld2 2 1 rfl, ?_⟩
  have E12 := E1.trans E2
  refine pop_ok (B.fw E12) hb (fun e h3 E3 => ?_) fun x t q h3 e E3 L3 => ?_
  · refine New.cells fun h4 E4 z4 B4 => St.whole B4 rfl rfl fun h5 B5 o5 z5 => ?_
    have E5 := ((E12.trans E3).trans E4).over (c := h3.size) (E12.trans E3).1 o5 z5
    have C5 : Blk h5 h.size _ := (E4.blk (E3.blk (E2.blk B1))).other o5 (by have := E3.1; omega)
    have D5 : Blk h5 h1.size _ := (E4.blk (E3.blk B2)).other o5 (by have := E3.1; omega)
    refine ⟨fun _ => ⟨_, C5.ld 0 rfl, _, C5.ld 1 rfl, _, C5.ld 2 rfl, _, C5.ld 3 rfl, ?_⟩, fun c => (by cases c)⟩
    refine St.whole D5 rfl rfl fun h6 B6 o6 z6 => ⟨_, B6.ld 0 rfl, _, B6.ld 1 rfl, _, B6.ld 2 rfl, _, B6.ld 3 rfl, ?_⟩
    exact H0 e h6 (E5.over E1.1 o6 z6)
  · refine New.cells fun h4 E4 z4 B4 => St.whole B4 rfl rfl fun h5 B5 o5 z5 => ?_
    have E14 := (E12.trans E3).trans E4
    have E5 := E14.over (c := h3.size) (E12.trans E3).1 o5 z5
    have C5 : Blk h5 h.size _ := (E4.blk (E3.blk (E2.blk B1))).other o5 (by have := E3.1; omega)
    have D5 : Blk h5 h1.size _ := (E4.blk (E3.blk B2)).other o5 (by have := E3.1; omega)
    refine ⟨fun c => (by cases c), fun _ => ⟨_, C5.ld2 0 0 rfl, _, C5.ld2 0 1 rfl, _, B5.ld 0 rfl, _, B5.ld 1 rfl, ?_⟩⟩
    have htl : t.length ≤ 281474976710656 := by rw [e] at hb; simp at hb; omega
    refine push_ok ((L3.fw E4).over B4 (fun x q e => by simp at e) o5) htl fun q3 h7 E7 L7 => ?_
    refine ⟨(E7.blk C5).ld2 0 0 rfl, (E7.blk C5).ld2 0 1 rfl, ?_⟩
    refine St.whole (E7.blk D5) rfl rfl fun h6 B6 o6 z6 => ⟨_, B6.ld 0 rfl, _, B6.ld 1 rfl, _, B6.ld 2 rfl, _, B6.ld 3 rfl, ?_⟩
    refine H1 x t q3 h6 e ((E5.trans E7).over E1.1 o6 z6) ?_ (L7.over (E7.blk D5) (fun x q e => by simp at e) o6)
    exact ((((A.fw E14).over B4 (fun x q e => by simp at e) o5).fw E7).over (E7.blk D5) (fun x q e => by simp at e) o6)

theorem zints_ok {R : Sl → Heap → Prop} {n1 n2 : Int} (A : Lk h a z1) (B : Lk h b z3) (hz : a.length + b.length ≤ 17592186044416) (H : ∀ s h', Fw h h' → Own h.size 1 h' s ((a.reverse ++ b).map iV) → R s h') : zip_Zip_Ints r z1 n1 z3 n2 h R := by
  apply zip_Zip_Ints_of
  refine New.cells fun h1 E1 z1' B1 => ⟨_, B1.ld2 0 0 rfl, _, B1.ld2 0 1 rfl, _, B1.ld2 2 0 rfl, _, B1.ld2 2 1 rfl, ?_⟩
  refine rev_ok (A.fw E1) (by omega) fun q h2 E2 L2 => ⟨(E2.blk B1).ld2 2 0 rfl, (E2.blk B1).ld2 2 1 rfl, ?_⟩
  refine ints_ok L2 (by simp; omega) fun s h3 E3 O3 => ⟨(E3.blk (E2.blk B1)).ld2 2 0 rfl, (E3.blk (E2.blk B1)).ld2 2 1 rfl, ?_⟩
  have E13 := (E1.trans E2).trans E3
  refine ints_ok (B.fw E13) (by omega) fun t h4 E4 O4 => ?_
  refine New.cells fun h5 E5 z5 B5 => ?_
  have R1 : RI h5.size h5 s a.reverse := (Rs.ext O3.rs (E4.trans E5) (Nat.le_refl _)).mono (by have := E4.1; have := E5.1; omega)
  have R2 : RI h5.size h5 t b := (Rs.ext O4.rs E5 (Nat.le_refl _)).mono E5.1
  refine concat_ok B5 R1 R2 (Nat.le_refl _) (by simp; omega) fun s' h6 E6 O6 => ?_
  have E15 := (E13.trans E4).trans E5
  exact H s' h6 (E15.trans E6) (O6.mono E15.1)

theorem go_ok {i : Int} {R : Option Addr → Int → Option Addr → Int → Bool → Heap → Prop} (A : Lk h a z1) (B : Lk h b z3) (hz : a.length + b.length ≤ 281474976710656)
    (H0 : ¬ (0 ≤ i ∧ i ≤ (a.length + b.length : Nat)) → ∀ h', Fw h h' → R z1 (a.length : Int) z3 (b.length : Int) false h')
    (H1 : 0 ≤ i ∧ i ≤ (a.length + b.length : Nat) → ∀ a' b' q1 q3 h', Fw h h' → Lk h' a' q1 → Lk h' b' q3 → a'.reverse ++ b' = a.reverse ++ b → (a'.length : Int) = i → R q1 (a'.length : Int) q3 (b'.length : Int) true h') :
    zip_Zip_Go r z1 (a.length : Int) z3 (b.length : Int) i h R := by
  apply zip_Zip_Go_of
  refine New.cells fun h1 E1 z1' B1 => New.cells fun h2 E2 z2 B2 => ?_
  have E12 := E1.trans E2
  have C2 := E2.blk B1
  intro J HJ
  have no : ∀ h3, Fw h2 h3 → ¬ (0 ≤ i ∧ i ≤ (a.length + b.length : Nat)) → J true h3 := by
    intro h3 E3 hno
    have C3 := E3.blk C2
    refine HJ _ _ ⟨fun _ => ⟨_, C3.ld 0 rfl, _, C3.ld 1 rfl, _, C3.ld 2 rfl, _, C3.ld 3 rfl, ?_⟩, fun c => (by cases c)⟩
    refine St.whole (E3.blk B2) rfl rfl fun h6 B6 o6 z6 => ⟨_, B6.ld 0 rfl, _, B6.ld 1 rfl, _, B6.ld 2 rfl, _, B6.ld 3 rfl, ?_⟩
    exact H0 hno h6 ((E12.trans E3).over E1.1 o6 z6)
  refine ⟨fun c => no h2 (Fw.refl _) (by have := of_decide_eq_true c; omega), fun c => ⟨_, C2.ld2 0 0 rfl, _, C2.ld2 0 1 rfl, _, C2.ld2 2 0 rfl, _, C2.ld2 2 1 rfl, ?_⟩⟩
  have c := of_decide_eq_false c
  refine len_ok fun h3 E3 => ⟨(E3.blk C2).ld2 2 0 rfl, (E3.blk C2).ld2 2 1 rfl, ?_⟩
  refine len_ok fun h4 E4 => ?_
  have E24 := E3.trans E4
  rw [show w64 ((a.length : Int) + (b.length : Int)) = ((a.length + b.length : Nat) : Int) by rw [w64_of] <;> omega]
  by_cases hin : i ≤ (a.length + b.length : Nat)
  case neg =>
    rw [decide_eq_true (by omega)]
    exact no h4 E24 (by omega)
  rw [decide_eq_false (by omega)]
  have hin : 0 ≤ i ∧ i ≤ (a.length + b.length : Nat) := ⟨by omega, hin⟩
  have H1 := H1 hin
  clear no H0
  refine HJ _ _ ⟨fun c => (by cases c), fun _ => ?_⟩
  intro X HX
  have second : ∀ (d : Nat) (a' b' : List Int) (q1 q3 : Option Addr) (h5 : Heap) (X58 : Heap → Prop),
      (∀ (h9 : Heap), (LdP h9 (Addr.add (ad h.size 0) 0) fun x59 => LdI h9 (Addr.add (ad h.size 0) 1) fun x61 => LdP h9 (Addr.add (ad h.size 0) 2) fun x63 => LdI h9 (Addr.add (ad h.size 0) 3) fun x65 =>
            zip_Zip_Place r x59 x61 x63 x65 h9 fun y67 h10 =>
            Br (decide (y67 < i)) (
              LdP h10 (Addr.add (ad h.size 0) 0) fun x68 => LdI h10 (Addr.add (ad h.size 0) 1) fun x70 => LdP h10 (Addr.add (ad h.size 0) 2) fun x72 => LdI h10 (Addr.add (ad h.size 0) 3) fun x74 =>
              zip_Zip_Right r x68 x70 x72 x74 h10 fun y76 y77 y78 y79 y80 h11 =>
              St h11 (ad h.size 0) 4 [(.pointer y76), (.int .i64 y77), (.pointer y78), (.int .i64 y79)] fun h12 =>
              X58 h12) (
              LdP h10 (Addr.add (ad h.size 0) 0) fun x83 => LdI h10 (Addr.add (ad h.size 0) 1) fun x85 => LdP h10 (Addr.add (ad h.size 0) 2) fun x87 => LdI h10 (Addr.add (ad h.size 0) 3) fun x89 =>
              St h10 (ad h1.size 0) 4 [(.pointer x83), (.int .i64 x85), (.pointer x87), (.int .i64 x89)] fun h13 =>
              LdP h13 (Addr.add (ad h1.size 0) 0) fun x93 => LdI h13 (Addr.add (ad h1.size 0) 1) fun x95 => LdP h13 (Addr.add (ad h1.size 0) 2) fun x97 => LdI h13 (Addr.add (ad h1.size 0) 3) fun x99 =>
              R x93 x95 x97 x99 true h13)) → X58 h9) →
      (i - (a'.length : Int)).toNat ≤ d → (a'.length : Int) ≤ i → a'.reverse ++ b' = a.reverse ++ b → Fw h h5 → Blk h5 h.size (zipC q1 a'.length q3 b'.length) → (∃ cs, Blk h5 h1.size cs ∧ cs = zipC none 0 none 0) → Lk h5 a' q1 → Lk h5 b' q3 → X58 h5 := by
    intro d
    induction d with
    | zero =>
      intro a' b' q1 q3 h5 X58 HX58 hd hi he E5 C5 ⟨cs, D5, ecs⟩ A5 B5
      subst ecs
      refine HX58 _ ⟨_, C5.ld 0 rfl, _, C5.ld 1 rfl, _, C5.ld 2 rfl, _, C5.ld 3 rfl, place_ok fun h6 E6 => ⟨fun c => absurd (of_decide_eq_true c) (by omega), fun _ => ?_⟩⟩
      have C6 := E6.blk C5
      refine ⟨_, C6.ld 0 rfl, _, C6.ld 1 rfl, _, C6.ld 2 rfl, _, C6.ld 3 rfl, ?_⟩
      refine St.whole (E6.blk D5) rfl rfl fun h7 B7 o7 z7 => ⟨_, B7.ld 0 rfl, _, B7.ld 1 rfl, _, B7.ld 2 rfl, _, B7.ld 3 rfl, ?_⟩
      exact H1 a' b' q1 q3 h7 ((E5.trans E6).over E1.1 o7 z7) ((A5.fw E6).over (E6.blk D5) (fun x q e => by simp at e) o7) ((B5.fw E6).over (E6.blk D5) (fun x q e => by simp at e) o7) he (by omega)
    | succ d ih =>
      intro a' b' q1 q3 h5 X58 HX58 hd hi he E5 C5 ⟨cs, D5, ecs⟩ A5 B5
      have hlen : a'.length + b'.length = a.length + b.length := by have := congrArg List.length he; simpa using this
      subst ecs
      refine HX58 _ ⟨_, C5.ld 0 rfl, _, C5.ld 1 rfl, _, C5.ld 2 rfl, _, C5.ld 3 rfl, place_ok fun h6 E6 => ⟨fun c => ?_, fun c => ?_⟩⟩
      · have c := of_decide_eq_true c
        have C6 := E6.blk C5
        refine ⟨_, C6.ld 0 rfl, _, C6.ld 1 rfl, _, C6.ld 2 rfl, _, C6.ld 3 rfl, ?_⟩
        refine right_ok (A5.fw E6) (B5.fw E6) (by omega) (by omega) (fun e => by subst e; simp at hlen; omega) fun x t p1 p3 h7 e E7 A7 B7 => ?_
        have C7 := E7.blk C6
        have e1 : b'.length = t.length + 1 := by rw [e]; simp
        refine St.whole C7 rfl rfl fun h8 B8 o8 z8 => ?_
        refine ih (x :: a') t p1 p3 h8 X58 HX58 (by simp; omega) (by simp; omega) (by rw [← he, e]; simp) (((E5.trans E6).trans E7).over (Nat.le_refl _) o8 z8) (by simpa using B8) ⟨_, (E7.blk (E6.blk D5)).other o8 (by omega), rfl⟩
          (A7.over C7 (fun x q e => by simp at e) o8) (B7.over C7 (fun x q e => by simp at e) o8)
      · have c := of_decide_eq_false c
        have C6 := E6.blk C5
        refine ⟨_, C6.ld 0 rfl, _, C6.ld 1 rfl, _, C6.ld 2 rfl, _, C6.ld 3 rfl, ?_⟩
        refine St.whole (E6.blk D5) rfl rfl fun h7 B7 o7 z7 => ⟨_, B7.ld 0 rfl, _, B7.ld 1 rfl, _, B7.ld 2 rfl, _, B7.ld 3 rfl, ?_⟩
        exact H1 a' b' q1 q3 h7 ((E5.trans E6).over E1.1 o7 z7) ((A5.fw E6).over (E6.blk D5) (fun x q e => by simp at e) o7) ((B5.fw E6).over (E6.blk D5) (fun x q e => by simp at e) o7) he (by omega)
  have first : ∀ (d : Nat) (a' b' : List Int) (q1 q3 : Option Addr) (h5 : Heap),
      ((a'.length : Int) - i).toNat ≤ d → a'.reverse ++ b' = a.reverse ++ b → Fw h h5 → Blk h5 h.size (zipC q1 a'.length q3 b'.length) → (∃ cs, Blk h5 h1.size cs ∧ cs = zipC none 0 none 0) → Lk h5 a' q1 → Lk h5 b' q3 → X h5 := by
    intro d
    induction d with
    | zero =>
      intro a' b' q1 q3 h5 hd he E5 C5 ⟨cs, D5, ecs⟩ A5 B5
      subst ecs
      refine HX _ ⟨_, C5.ld 0 rfl, _, C5.ld 1 rfl, _, C5.ld 2 rfl, _, C5.ld 3 rfl, place_ok fun h6 E6 => ⟨fun c => absurd (of_decide_eq_true c) (by omega), fun _ => ?_⟩⟩
      intro X58 HX58
      exact second _ a' b' q1 q3 h6 X58 HX58 (Nat.le_refl _) (by omega) he (E5.trans E6) (E6.blk C5) ⟨_, E6.blk D5, rfl⟩ (A5.fw E6) (B5.fw E6)
    | succ d ih =>
      intro a' b' q1 q3 h5 hd he E5 C5 ⟨cs, D5, ecs⟩ A5 B5
      have hlen : a'.length + b'.length = a.length + b.length := by have := congrArg List.length he; simpa using this
      subst ecs
      refine HX _ ⟨_, C5.ld 0 rfl, _, C5.ld 1 rfl, _, C5.ld 2 rfl, _, C5.ld 3 rfl, place_ok fun h6 E6 => ⟨fun c => ?_, fun c => ?_⟩⟩
      · have c := of_decide_eq_true c
        have C6 := E6.blk C5
        refine ⟨_, C6.ld 0 rfl, _, C6.ld 1 rfl, _, C6.ld 2 rfl, _, C6.ld 3 rfl, ?_⟩
        refine left_ok (A5.fw E6) (B5.fw E6) (by omega) (by omega) (fun e => by subst e; simp at c; omega) fun x t p1 p3 h7 e E7 A7 B7 => ?_
        have C7 := E7.blk C6
        have e1 : a'.length = t.length + 1 := by rw [e]; simp
        refine St.whole C7 rfl rfl fun h8 B8 o8 z8 => ?_
        refine ih t (x :: b') p1 p3 h8 (by omega) (by rw [← he, e]; simp) (((E5.trans E6).trans E7).over (Nat.le_refl _) o8 z8) (by simpa using B8) ⟨_, (E7.blk (E6.blk D5)).other o8 (by omega), rfl⟩
          (A7.over C7 (fun x q e => by simp at e) o8) (B7.over C7 (fun x q e => by simp at e) o8)
      · have c := of_decide_eq_false c
        intro X58 HX58
        exact second _ a' b' q1 q3 h6 X58 HX58 (Nat.le_refl _) (by omega) he (E5.trans E6) (E6.blk C5) ⟨_, E6.blk D5, rfl⟩ (A5.fw E6) (B5.fw E6)
  exact first _ a b z1 z3 h4 (Nat.le_refl _) rfl (E12.trans E24) (E24.blk C2) ⟨_, E24.blk B2, rfl⟩ (A.fw (E12.trans E24)) (B.fw (E12.trans E24))
end
end Go.Proofs.Ytgieabpckecjlaa
