/- Text: what the statements ask of it. The library's pieces are the reference's. Text: numbers in it. A number's text, read by the library. -/
import Derived.Test.YthkimbiknhebeaaGreatDoorGStr
import Derived.Test.YthkimbiknhebeaaGreatDoorTwB
import Derived.Lib.ItoaNum
import Derived.Lib.Split
import Derived.Lib.CountLaws
import Derived.Lib.CutLaws
import Derived.Lib.IndexBytes
import Derived.Lib.IndexLaws
import Derived.Lib.Join
import Derived.Lib.AtoiAll
namespace Go.Proofs.YthkimbiknhebeaaGreatDoor.St
open Go Go.RowKit Go.Tw
set_option linter.unusedVariables false
abbrev sV (s : List UInt8) : Value := .string ⟨s.toArray⟩
/-- the pieces between the places of a byte -/
def pcs (b : UInt8) : List UInt8 → List (List UInt8)
  | [] => [[]]
  | x :: l => if x = b then [] :: pcs b l else match pcs b l with
    | [] => [[x]]
    | p :: ps => (x :: p) :: ps
theorem pcs_cons (b x : UInt8) (l : List UInt8) : pcs b (x :: l) = if x = b then [] :: pcs b l else match pcs b l with
    | [] => [[x]]
    | p :: ps => (x :: p) :: ps := rfl
theorem pcs_ne (b : UInt8) : ∀ l, pcs b l ≠ []
  | [] => by simp [pcs]
  | x :: l => by
    unfold pcs; split
    · simp
    · split <;> simp
theorem pcs_end {b : UInt8} : ∀ {a : List UInt8}, (∀ x ∈ a, x ≠ b) → pcs b a = [a]
  | [], _ => rfl
  | x :: a, h => by
    unfold pcs
    rw [if_neg (h x (by simp)), pcs_end (a := a) fun y hy => h y (List.mem_cons_of_mem _ hy)]
theorem pcs_cut {b : UInt8} : ∀ {a : List UInt8} (c : List UInt8), (∀ x ∈ a, x ≠ b) → pcs b (a ++ b :: c) = a :: pcs b c
  | [], c, _ => by simp [pcs]
  | x :: a, c, h => by
    rw [List.cons_append, pcs_cons, if_neg (h x (by simp)), pcs_cut (a := a) c fun y hy => h y (List.mem_cons_of_mem _ hy)]
theorem pcs_len (b : UInt8) : ∀ l, (pcs b l).length ≤ l.length + 1
  | [] => by simp [pcs]
  | x :: l => by
    have ih := pcs_len b l
    unfold pcs; split
    · simp only [List.length_cons]; omega
    · split
      · simp
      · rename_i p ps e; rw [e] at ih; simp only [List.length_cons] at ih ⊢; omega
theorem ext_ba (s : ByteArray) (f t : Nat) : ByteArray.extract s f t = ⟨((s.data.toList.drop f).take (t - f)).toArray⟩ := by
  apply ByteArray.ext
  rw [ByteArray.data_extract]
  apply Array.toList_inj.1
  rw [Array.toList_extract]
theorem str_at {s : ByteArray} {i : Nat} (h : i < s.data.toList.length) : strAt s (i : Int) = ((s.data.toList[i]).toNat : Int) := by
  unfold strAt
  have h2 : i < s.data.size := by simpa using h
  rw [Int.toNat_natCast, Array.getElem?_eq_getElem h2]
  simp
section
variable {r : World} {h : Heap}
theorem texts_ok {n n' : Nat} {a b : Sl} {l m : List (List UInt8)} {R : Bool → Heap → Prop} (ha : Rs n 1 h a (l.map sV)) (hb : Rs n' 1 h b (m.map sV)) (hl : l.length ≤ 4611686018427387904) (H : R (decide (l = m)) h) : same_Texts r a b h R := by
  apply same_Texts_of
  have la : a.len = l.length := by have := ha.len; simpa using this
  have lb : b.len = m.length := by have := hb.len; simpa using this
  have ix : ∀ {n : Nat} {s : Sl} {l : List (List UInt8)} {i : Nat} {K : Addr → Prop} (S : Rs n 1 h s (l.map sV)) (hi : i < l.length), (∀ p, hcell h p = some (sV l[i]) → K p) → Ix s (i : Int) 1 K := fun {n s l i K} S hi hK => by
    have ls : s.len = l.length := by have := S.len; simpa using this
    refine Rs.ix S (by omega) (by omega) (by decide) fun b o hb _ hc => hK _ ?_
    have := hc 0 (by decide)
    simp only [Nat.add_zero, Nat.mul_one] at this ⊢
    rw [this, List.getElem?_map, Int.toNat_natCast, List.getElem?_eq_getElem hi]; rfl
  refine ⟨fun c => ?_, fun c => ?_⟩
  · have c : ¬ ((a.len : Int) = (b.len : Int)) := by simpa using c
    rw [decide_eq_false (fun e => c (by rw [la, lb, e]))] at H
    exact H
  · have c : l.length = m.length := by have c : (a.len : Int) = (b.len : Int) := by simpa using c
                                       omega
    intro X HX
    have key : ∀ (d i : Nat), i + d = l.length → l.take i = m.take i → X (i : Int) := by
      intro d
      induction d with
      | zero =>
        intro i hi e
        rw [List.take_of_length_le (by omega), List.take_of_length_le (by omega)] at e
        rw [decide_eq_true e] at H
        exact HX _ ⟨fun q => absurd (of_decide_eq_true q) (by omega), fun _ => H⟩
      | succ d ih =>
        intro i hi e
        have h1 : i < l.length := by omega
        have h2 : i < m.length := by omega
        refine HX _ ⟨fun _ => ix ha h1 fun p hp => ⟨_, hp, ix hb h2 fun q hq => ⟨_, hq, fun c3 => ?_, fun c3 => ?_⟩⟩, fun q => absurd (of_decide_eq_false q) (by omega)⟩
        · have c3 : ¬ ((⟨l[i].toArray⟩ : ByteArray) = ⟨m[i].toArray⟩) := by simpa using c3
          rw [decide_eq_false (fun e => c3 (by subst e; rfl))] at H
          exact H
        · have c3 : (⟨l[i].toArray⟩ : ByteArray) = ⟨m[i].toArray⟩ := by simpa using c3
          have c4 : l[i] = m[i] := by
            have := congrArg (fun b : ByteArray => b.data.toList) c3
            simpa using this
          rw [w64_of (by omega) (by omega)]
          refine ih (i + 1) (by omega) ?_
          rw [List.take_add_one, List.take_add_one, List.getElem?_eq_getElem h1, List.getElem?_eq_getElem h2, e, c4]
    exact key l.length 0 (by omega) (by rw [List.take_zero, List.take_zero])
theorem cut_ok {s : ByteArray} {b : UInt8} {R : Sl → Heap → Prop} (hz : s.data.toList.length < 8796093022208) (H : ∀ s' h', Fw h h' → Own h.size 1 h' s' ((pcs b s.data.toList).map sV) → R s' h') : ref1_Cut r s (b.toNat : Int) h R := by
  apply ref1_Cut_of
  have sl : s.size = s.data.toList.length := (Array.length_toList).symm
  generalize hl : s.data.toList = l at *
  intro X HX
  have push : ∀ {h1 : Heap} {out : Sl} {D : List (List UInt8)} {p : List UInt8} {K : Sl → Heap → Prop}, Fw h h1 → Own h.size 1 h1 out (D.map sV) → D.length < 8796093022208 → (∀ s2 h2, Fw h1 h2 ∨ True → Fw h h2 → Own h.size 1 h2 s2 ((D ++ [p]).map sV) → K s2 h2) →
      New h1 (.cells #[.string ⟨p.toArray⟩] 9) fun q h3 => App 9 1 16 (.string (⟨#[]⟩)) out ⟨some q, 1, 1⟩ h3 K := by
    intro h1 out D p K E O hD hK
    have lo := O.len
    rw [List.length_map] at lo
    refine App.push (cs := [sV p]) O rfl rfl (one_all rfl) E.1 (by omega) fun s2 h2 G => hK s2 h2 (.inr trivial) (E.trans' G.ext) ?_
    have := G.own
    simpa using this
  have key : ∀ (d i f : Nat) (D : List (List UInt8)) (out : Sl) (h1 : Heap), i + d = l.length → f ≤ i → D.length ≤ i → (∀ x ∈ (l.drop f).take (i - f), x ≠ b) → D ++ pcs b (l.drop f) = pcs b l → Fw h h1 → Own h.size 1 h1 out (D.map sV) → X out (f : Int) (i : Int) h1 := by
    intro d
    induction d with
    | zero =>
      intro i f D out h1 hi hf hD hx e E O
      refine HX _ _ _ _ ⟨fun c => absurd (of_decide_eq_true c) (by omega), fun _ => ⟨⟨by omega, by omega, Int.le_refl _⟩, ?_⟩⟩
      rw [ext_ba, hl, Int.toNat_natCast, Int.toNat_natCast, sl]
      refine push E O (by omega) fun s2 h2 _ E2 O2 => H s2 h2 E2 ?_
      have e2 : (l.drop f).take (l.length - f) = l.drop f := List.take_of_length_le (by simp)
      rw [show i - f = l.length - f by omega, e2] at hx
      rw [e2] at O2
      rw [← e, pcs_end hx]; exact O2
    | succ d ih =>
      intro i f D out h1 hi hf hD hx e E O
      have hil : i < l.length := by omega
      have ew : w64 ((i : Int) + 1) = ((i + 1 : Nat) : Int) := by rw [w64_of (by omega) (by omega)]; omega
      have et : (l.drop f).take (i + 1 - f) = (l.drop f).take (i - f) ++ [l[i]] := by
        rw [show i + 1 - f = (i - f) + 1 by omega, List.take_add_one, List.getElem?_drop, show f + (i - f) = i by omega, List.getElem?_eq_getElem hil]; rfl
      refine HX _ _ _ _ ⟨fun _ => ?_, fun c => absurd (of_decide_eq_false c) (by omega)⟩
      intro J HJ
      refine ⟨by omega, by omega, ?_⟩
      rw [str_at (by rw [hl]; exact hil)]
      simp only [hl]
      refine ⟨fun c => ?_, fun c => ?_⟩
      · have c : l[i] = b := by have c := of_decide_eq_true c; exact UInt8.toNat_inj.1 (by omega)
        refine ⟨⟨by omega, by omega, by omega⟩, ?_⟩
        rw [ext_ba, hl, Int.toNat_natCast, Int.toNat_natCast]
        refine push E O (by omega) fun s2 h2 _ E2 O2 => HJ _ _ _ ?_
        rw [ew]
        refine ih (i + 1) (i + 1) (D ++ [(l.drop f).take (i - f)]) s2 h2 (by omega) (Nat.le_refl _) (by simp; omega) (by simp) ?_ E2 O2
        rw [← e]
        have e3 : l.drop f = (l.drop f).take (i - f) ++ b :: l.drop (i + 1) := by
          conv => lhs; rw [← List.take_append_drop (i - f) (l.drop f), List.drop_drop, show f + (i - f) = i by omega, List.drop_eq_getElem_cons hil, c]
        rw [List.append_assoc]
        congr 1
        conv => rhs; rw [e3]
        rw [pcs_cut _ hx]; rfl
      · have c : l[i] ≠ b := fun e => of_decide_eq_false c (by rw [e])
        refine HJ _ _ _ ?_
        rw [ew]
        refine ih (i + 1) f D out h1 (by omega) (by omega) (by omega) ?_ e E O
        rw [et]
        intro x hx2
        rcases List.mem_append.1 hx2 with hx2 | hx2
        · exact hx x hx2
        · simp at hx2; subst hx2; exact c
  exact key l.length 0 0 [] Sl.nil h (by omega) (Nat.le_refl _) (by simp) (by simp) rfl (Fw.refl h) (Own.nil _ _ _)
theorem ba_append (a b : List UInt8) : (⟨a.toArray⟩ : ByteArray) ++ ⟨b.toArray⟩ = ⟨(a ++ b).toArray⟩ := ByteArray.mk_append_mk a b
theorem ba_size (a : List UInt8) : ByteArray.size ⟨a.toArray⟩ = a.length := by simp [ByteArray.size]
theorem dec_len10 : ∀ (k u : Nat), u < 10 ^ (k + 1) → (Lib.decDigits u).length ≤ k + 1
  | 0, u, hu => by
    rw [Lib.decDigits_one (by simpa using hu)]; simp
  | k + 1, u, hu => by
    rw [Lib.decDigits]
    split
    · simp
    · have := dec_len10 k (u / 10) (by rw [Nat.pow_succ] at hu; omega)
      simp only [List.length_append, List.length_cons, List.length_nil]; omega
theorem dec_len (u : Nat) (hu : u < 9223372036854775809) : (Lib.decDigits u).length ≤ 19 := dec_len10 18 u (by omega)
theorem byteStr_eq (u : Nat) (hu : u < 10) : byteStr (IntKind.wrap .u8 (w64 (48 + (u : Int)))) = ⟨#[UInt8.ofNat (48 + u)]⟩ := by
  have h1 : w64 (48 + (u : Int)) = 48 + (u : Int) := w64_of (by omega) (by omega)
  have h2 : IntKind.wrap .u8 (48 + (u : Int)) = 48 + (u : Int) := by
    have : u = 0 ∨ u = 1 ∨ u = 2 ∨ u = 3 ∨ u = 4 ∨ u = 5 ∨ u = 6 ∨ u = 7 ∨ u = 8 ∨ u = 9 := by omega
    rcases this with rfl | rfl | rfl | rfl | rfl | rfl | rfl | rfl | rfl | rfl <;> rfl
  rw [h1, h2]
  unfold byteStr strOfNums
  simp only [List.map_cons, List.map_nil]
  rw [show (48 + (u : Int)).toNat = 48 + u by omega]
theorem dig_ok : ∀ (n u : Nat) (h : Heap) (R : ByteArray → Heap → Prop), u ≤ n → u < 9223372036854775808 → (∀ h', Fw h h' → R ⟨(Lib.decDigits u).toArray⟩ h') → ref1_Digits r (u : Int) h R := by
  intro n
  induction n with
  | zero =>
    intro u h R hn hb H
    obtain rfl : u = 0 := by omega
    apply ref1_Digits_of
    refine ⟨fun c => absurd (of_decide_eq_true c) (by omega), fun _ => ⟨fun _ => New.cells fun h1 E1 z1 B1 => ⟨_, B1.ld 0 rfl, ?_⟩, fun c => absurd (of_decide_eq_false c) (by omega)⟩⟩
    dsimp only
    rw [byteStr_eq 0 (by omega)]
    have := H h1 E1
    rw [Lib.decDigits_one (by omega)] at this
    exact this
  | succ n ih =>
    intro u h R hn hb H
    apply ref1_Digits_of
    refine ⟨fun c => absurd (of_decide_eq_true c) (by omega), fun _ => ⟨fun c => New.cells fun h1 E1 z1 B1 => ⟨_, B1.ld 0 rfl, ?_⟩, fun c => ?_⟩⟩
    · have c := of_decide_eq_true c
      dsimp only
      rw [byteStr_eq u (by omega)]
      have := H h1 E1
      rw [Lib.decDigits_one (by omega)] at this
      exact this
    · have c := of_decide_eq_false c
      have e1 : w64 (Int.tdiv (u : Int) 10) = ((u / 10 : Nat) : Int) := by
        rw [show Int.tdiv (u : Int) 10 = ((u / 10 : Nat) : Int) from rfl, w64_of (by omega) (by omega)]
      have e2 : Int.tmod (u : Int) 10 = ((u % 10 : Nat) : Int) := rfl
      rw [e1, e2]
      refine ih (u / 10) h _ (by omega) (by omega) fun h1 E1 => ?_
      refine ih (u % 10) h1 _ (by omega) (by omega) fun h2 E2 => ?_
      rw [ba_append, ba_size, ba_size]
      have l1 := dec_len (u / 10) (by omega)
      have l2 := dec_len (u % 10) (by omega)
      refine ⟨by omega, ?_⟩
      have := H h2 (E1.trans E2)
      rw [Lib.decDigits, dif_neg (by omega)] at this
      rw [Lib.decDigits_one (i := u % 10) (by omega)]
      exact this
theorem digits_ok {n : Int} {R : ByteArray → Heap → Prop} (h0 : -9223372036854775807 ≤ n) (h1 : n < 9223372036854775808) (H : ∀ h', Fw h h' → R ⟨(Lib.itoa n).toArray⟩ h') : ref1_Digits r n h R := by
  by_cases hn : n < 0
  · apply ref1_Digits_of
    refine ⟨fun _ => ?_, fun c => absurd hn (of_decide_eq_false c)⟩
    rw [w64_of (n := 0 - n) (by omega) (by omega), show 0 - n = ((n.natAbs : Nat) : Int) by omega]
    refine dig_ok n.natAbs n.natAbs h _ (Nat.le_refl _) (by omega) fun h2 E2 => ?_
    have l1 := dec_len n.natAbs (by omega)
    have e : (⟨#[45]⟩ : ByteArray) = ⟨[45].toArray⟩ := rfl
    rw [e, ba_append, ba_size, ba_size]
    refine ⟨by simp; omega, ?_⟩
    have := H h2 E2
    rw [Lib.itoa, if_pos hn] at this
    exact this
  · obtain ⟨u, rfl⟩ : ∃ u : Nat, n = u := ⟨n.toNat, by omega⟩
    refine dig_ok u u h R (Nat.le_refl _) (by omega) fun h2 E2 => ?_
    have := H h2 E2
    rw [Lib.itoa, if_neg hn, Int.toNat_natCast] at this
    exact this
end
end Go.Proofs.YthkimbiknhebeaaGreatDoor.St
namespace Go.Proofs.YthkimbiknhebeaaGreatDoor.St
open Go Go.RowKit Go.Tw
set_option linter.unusedVariables false
theorem ba_self (s : ByteArray) : (⟨s.data.toList.toArray⟩ : ByteArray) = s := by cases s; simp
theorem split_pcs (b : UInt8) : ∀ (n : Nat) (s : ByteArray), s.data.toList.length ≤ n → (Lib.splitB ⟨#[b]⟩ 0 (Lib.countB s ⟨#[b]⟩) s).map Value.string = (pcs b s.data.toList).map sV := by
 intro n
 induction n using Nat.strongRecOn with
 | _ n ih =>
  intro s hs
  have ss : s.size = s.data.toList.length := (Array.length_toList).symm
  rcases Lib.indexB_cases s ⟨#[b]⟩ with e | ⟨i, e, hi⟩
  ·rw [Lib.countB_miss s _ e, Lib.splitB_zero]
   have e1 : Lib.indexByte s.data.toList b = -1 := by rw [← Lib.index_one]; exact e
   have hn := Lib.indexByte_none e1
   rw [pcs_end fun x hx hb => by
    obtain ⟨k, hk⟩ := List.mem_iff_getElem?.1 hx
    exact hn k (by rw [hk, hb])]
   simp only [List.map_cons, List.map_nil, sV, ba_self]
  ·have e1 : Lib.indexByte s.data.toList b = (i : Int) := by rw [← Lib.index_one]; exact e
   obtain ⟨hb, hlt⟩ := Lib.indexByte_some e1
   have hil : i < s.data.toList.length := (List.getElem?_eq_some_iff.1 hb).1
   have hbe : s.data.toList[i] = b := (List.getElem?_eq_some_iff.1 hb).2
   have sz1 : ByteArray.size ⟨#[b]⟩ = 1 := rfl
   rw [Lib.countB_hit s ⟨#[b]⟩ i (Nat.le_refl 1) e, Nat.add_comm 1, Lib.splitB_hit _ _ _ _ i e, List.map_cons, sz1]
   have e2 : s.extract (i + 1) s.size = ⟨(s.data.toList.drop (i + 1)).toArray⟩ := by
    rw [ext_ba, List.take_of_length_le (by simp)]
   have e3 : (s.extract (i + 1) s.size).data.toList = s.data.toList.drop (i + 1) := by rw [e2]
   have := ih (s.data.toList.drop (i + 1)).length (by simp; omega) (s.extract (i + 1) s.size) (by rw [e3]; exact Nat.le_refl _)
   rw [this, e3]
   have hp : s.data.toList = s.data.toList.take i ++ b :: s.data.toList.drop (i + 1) := by
    conv => lhs; rw [← List.take_append_drop i s.data.toList, List.drop_eq_getElem_cons hil, hbe]
   conv => rhs; rw [hp]
   rw [pcs_cut _ fun x hx hxb => by
    obtain ⟨k, hk⟩ := List.mem_iff_getElem?.1 hx
    rw [List.getElem?_take] at hk
    split at hk
    ·exact hlt k (by omega) (by rw [hk, hxb])
    ·cases hk]
   rw [List.map_cons]
   congr 1
   rw [ext_ba, List.drop_zero]
   simp
end Go.Proofs.YthkimbiknhebeaaGreatDoor.St
namespace Go.Proofs.YthkimbiknhebeaaGreatDoor.St
open Go Go.RowKit Go.Tw
set_option linter.unusedVariables false
theorem join_snoc (xs : List (List UInt8)) (y sep : List UInt8) : Lib.join (xs ++ [y]) sep = if xs = [] then y else Lib.join xs sep ++ sep ++ y := by
 unfold Lib.join
 induction xs with
 | nil => simp [List.intercalate]
 | cons x xs ih =>
  cases xs with
  | nil => simp [List.intercalate]
  | cons z xs =>
   rw [if_neg (by simp)] at ih ⊢
   simp only [List.intercalate, List.cons_append, List.intersperse_cons_cons, List.flatten_cons] at ih ⊢
   rw [ih]
   simp
theorem u8_of {x : Nat} (h : x < 10) : (UInt8.ofNat (48 + x)).toNat = 48 + x := by
 rw [UInt8.toNat_ofNat']; omega
def dig (c : UInt8) : Prop := 48 ≤ c.toNat ∧ c.toNat ≤ 57
theorem dec_dig : ∀ (n u : Nat), u ≤ n → ∀ c ∈ Lib.decDigits u, dig c := by
 intro n
 induction n with
 | zero =>
  intro u hu c hc
  rw [Lib.decDigits_one (by omega)] at hc
  rw [List.mem_singleton] at hc; subst hc
  unfold dig; rw [u8_of (by omega)]; omega
 | succ n ih =>
  intro u hu c hc
  by_cases h : u < 10
  ·rw [Lib.decDigits_one h] at hc
   rw [List.mem_singleton] at hc; subst hc
   unfold dig; rw [u8_of h]; omega
  ·rw [Lib.decDigits, dif_neg h] at hc
   rcases List.mem_append.1 hc with hc | hc
   ·exact ih (u / 10) (by omega) c hc
   ·rw [List.mem_singleton] at hc; subst hc
    unfold dig; rw [u8_of (by omega)]; omega
def pval (l : List UInt8) : Nat := l.foldl (fun n c => 10 * n + (c.toNat - 48)) 0
theorem pval_snoc (a : List UInt8) (c : UInt8) : pval (a ++ [c]) = 10 * pval a + (c.toNat - 48) := by simp [pval, List.foldl_append]
theorem pval_lt : ∀ (n : Nat) (a : List UInt8), a.length = n → (∀ c ∈ a, dig c) → pval a < 10 ^ n := by
 intro n
 induction n with
 | zero => intro a h _; obtain rfl := List.eq_nil_of_length_eq_zero h; simp [pval]
 | succ n ih =>
  intro a h hd
  have e : a = a.dropLast ++ [a.getLast (by intro e; subst e; cases h)] := (List.dropLast_concat_getLast _).symm
  rw [e] at hd ⊢
  rw [pval_snoc]
  have := ih a.dropLast (by simp [h]) fun c hc => hd c (by simp [hc])
  have d := hd (a.getLast (by intro e; subst e; cases h)) (by simp)
  unfold dig at d
  rw [Nat.pow_succ]; omega
theorem dec_val : ∀ (n u : Nat), u ≤ n → pval (Lib.decDigits u) = u := by
 intro n
 induction n with
 | zero =>
  intro u hu
  rw [Lib.decDigits_one (by omega)]
  show 10 * 0 + ((UInt8.ofNat (48 + u)).toNat - 48) = u
  rw [u8_of (by omega)]; omega
 | succ n ih =>
  intro u hu
  by_cases h : u < 10
  ·rw [Lib.decDigits_one h]
   show 10 * 0 + ((UInt8.ofNat (48 + u)).toNat - 48) = u
   rw [u8_of h]; omega
  ·rw [Lib.decDigits, dif_neg h, pval_snoc, ih (u / 10) (by omega), u8_of (by omega)]; omega
theorem dec_ne (u : Nat) : Lib.decDigits u ≠ [] := by
 by_cases h : u < 10
 ·rw [Lib.decDigits_one h]; simp
 ·rw [Lib.decDigits, dif_neg h]; simp
theorem itoa_len {m : Int} (h0 : -9223372036854775808 ≤ m) (h1 : m < 9223372036854775808) : (Lib.itoa m).length ≤ 20 := by
 unfold Lib.itoa
 split
 ·have := dec_len m.natAbs (by omega); simp only [List.length_cons]; omega
 ·have := dec_len m.toNat (by omega); omega
theorem itoa_len11 {m : Int} (h0 : -1073741824 ≤ m) (h1 : m ≤ 1073741824) : (Lib.itoa m).length ≤ 11 := by
 unfold Lib.itoa
 split
 ·have := dec_len10 9 m.natAbs (by omega); simp only [List.length_cons]; omega
 ·have := dec_len10 9 m.toNat (by omega); omega
/-- is there a sign -/
def Sg (l : List UInt8) (k : Nat) : Prop := (k = 1 ∧ l[0]? = some 45) ∨ (k = 0 ∧ l[0]? ≠ some 45)
def sval (k : Nat) (l : List UInt8) : Int := if k = 1 then 0 - (pval (l.drop 1) : Int) else (pval l : Int)
theorem cand {l : List UInt8} {k : Nat} {m : Int} (hk : Sg l k) (h : l = Lib.itoa m) : (∀ c ∈ l.drop k, dig c) ∧ sval k l = m := by
 unfold Lib.itoa at h
 split at h
 ·rename_i hm
  rcases hk with ⟨rfl, e⟩ | ⟨rfl, e⟩
  ·subst h
   refine ⟨fun c hc => dec_dig _ _ (Nat.le_refl _) c (by simpa using hc), ?_⟩
   unfold sval
   rw [if_pos rfl, List.drop_succ_cons, List.drop_zero, dec_val _ _ (Nat.le_refl _)]; omega
  ·subst h; exact absurd rfl e
 ·rename_i hm
  have hd := dec_dig m.toNat m.toNat (Nat.le_refl _)
  rcases hk with ⟨rfl, e⟩ | ⟨rfl, e⟩
  ·exfalso
   rw [h] at e
   have := hd 45 (List.mem_of_getElem? e)
   unfold dig at this
   have e45 : (45 : UInt8).toNat = 45 := rfl
   omega
  ·subst h
   refine ⟨fun c hc => hd c (by simpa using hc), ?_⟩
   unfold sval
   rw [if_neg (by decide), dec_val _ _ (Nat.le_refl _)]; omega
theorem wrap9 {x : Nat} (h : x ≤ 9) : IntKind.wrap .u8 (x : Int) = x := by
 have : x = 0 ∨ x = 1 ∨ x = 2 ∨ x = 3 ∨ x = 4 ∨ x = 5 ∨ x = 6 ∨ x = 7 ∨ x = 8 ∨ x = 9 := by omega
 rcases this with rfl | rfl | rfl | rfl | rfl | rfl | rfl | rfl | rfl | rfl <;> rfl
section
variable {r : World} {h : Heap}
theorem text_ok {s : Sl} {l : List Int} {n : Nat} {R : ByteArray → Heap → Prop} (S : RI n h s l) (hn : n ≤ h.size) (hz : l.length ≤ 1099511627776) (hin : ∀ x ∈ l, -9223372036854775807 ≤ x ∧ x < 9223372036854775808) (H : ∀ h', Fw h h' → R ⟨(Lib.join (l.map Lib.itoa) [32]).toArray⟩ h') : ref1_Text r s h R := by
 apply ref1_Text_of
 have sl := S.len
 intro X HX
 have key : ∀ (d i : Nat) (t : List UInt8) (h1 : Heap), i + d = l.length → t = Lib.join ((l.take i).map Lib.itoa) [32] → t.length ≤ 21 * i → Fw h h1 → X ⟨t.toArray⟩ (i : Int) h1 := by
  intro d
  induction d with
  | zero =>
   intro i t h1 hi ht htl E
   rw [List.take_of_length_le (by omega)] at ht
   subst ht
   exact HX _ _ _ ⟨fun c => absurd (of_decide_eq_true c) (by omega), fun _ => H h1 E⟩
  | succ d ih =>
   intro i t h1 hi ht htl E
   have hil : i < l.length := by omega
   have ex : l[(i : Int).toNat]! = l[i] := by rw [Int.toNat_natCast, getElem!_pos l i hil]
   have b := hin l[i] (List.getElem_mem hil)
   have il := itoa_len (m := l[i]) (by omega) b.2
   have ej : Lib.join ((l.take (i + 1)).map Lib.itoa) [32] = if (l.take i).map Lib.itoa = [] then Lib.itoa l[i] else t ++ [32] ++ Lib.itoa l[i] := by
    rw [List.take_add_one, List.getElem?_eq_getElem hil, Option.toList_some, List.map_append, List.map_singleton, join_snoc, ht]
   refine HX _ _ _ ⟨fun _ => ?_, fun c => absurd (of_decide_eq_false c) (by omega)⟩
   intro J HJ
   have go : ∀ u : List UInt8, u.length ≤ 21 * i + 1 → u ++ Lib.itoa l[i] = Lib.join ((l.take (i + 1)).map Lib.itoa) [32] → J ⟨u.toArray⟩ := by
    intro u hu eu
    refine HJ _ (RI.ix (S.ext E hn) (by omega) (by omega) fun p _ hp => ⟨_, hp, ?_⟩)
    rw [ex]
    refine digits_ok b.1 b.2 fun h2 E2 => ?_
    rw [ba_append, ba_size, ba_size]
    refine ⟨by omega, ?_⟩
    rw [w64_of (by omega) (by omega)]
    exact ih (i + 1) _ h2 (by omega) eu (by rw [List.length_append]; omega) (E.trans E2)
   have ee : (⟨#[32]⟩ : ByteArray) = ⟨[32].toArray⟩ := rfl
   refine ⟨fun c => ?_, fun c => ?_⟩
   ·have c := of_decide_eq_true c
    rw [if_neg (by intro e; have := congrArg List.length e; rw [List.length_map, List.length_take, List.length_nil] at this; omega)] at ej
    rw [ee, ba_append, ba_size, ba_size]
    exact ⟨by simp; omega, go _ (by simp; omega) ej.symm⟩
   ·have c := of_decide_eq_false c
    obtain rfl : i = 0 := by omega
    have et : t = [] := by rw [ht]; rfl
    subst et
    rw [if_pos (by simp)] at ej
    exact go [] (by simp) ej.symm
 exact key l.length 0 [] h (by omega) (by simp [Lib.join, List.intercalate]) (Nat.zero_le _) (Fw.refl h)
/-- a word that is a number -/
def NumW (l : List UInt8) (m : Int) : Prop := l = Lib.itoa m ∧ -1073741824 ≤ m ∧ m ≤ 1073741824
theorem number_ok {s : ByteArray} {R : Int → Bool → Heap → Prop} (hz : s.data.toList.length < 9223372036854775807) (H0 : (∀ m, ¬ NumW s.data.toList m) → ∀ h', Fw h h' → R 0 false h') (H1 : ∀ m h', NumW s.data.toList m → Fw h h' → R m true h') : ref1_NumberOf r s h R := by
 apply ref1_NumberOf_of
 have sl : s.size = s.data.toList.length := (Array.length_toList).symm
 have es : s = ⟨s.data.toList.toArray⟩ := by cases s; simp
 generalize hl : s.data.toList = l at *
 intro J3 HJ3
 have body : ∀ (x2 : Bool) (k : Nat), (x2 = true ↔ k = 1) → Sg l k → k ≤ l.length → J3 x2 := by
  intro x2 k hx hk hkl
  refine HJ3 _ ?_
  intro J6 HJ6
  have go : J6 (k : Int) := by
   refine HJ6 _ ⟨fun c => ?_, fun c => ?_⟩
   ·have c := of_decide_eq_true c
    refine H0 (fun m hm => ?_) h (Fw.refl h)
    have := itoa_len11 hm.2.1 hm.2.2
    rw [← hm.1] at this; omega
   ·have c := of_decide_eq_false c
    have l12 : l.length ≤ 12 := by omega
    intro X HX
    have key : ∀ (d i : Nat), i + d = l.length → k ≤ i → (∀ c ∈ (l.drop k).take (i - k), dig c) → X (pval ((l.drop k).take (i - k)) : Int) (i : Int) := by
     intro d
     induction d with
     | zero =>
      intro i hi hki hd
      rw [List.take_of_length_le (by simp; omega)] at hd ⊢
      have pl := pval_lt _ (l.drop k) rfl hd
      have pb : pval (l.drop k) < 10 ^ 12 := Nat.lt_of_lt_of_le pl (Nat.pow_le_pow_right (by omega) (by simp; omega))
      refine HX _ _ ⟨fun c => absurd (of_decide_eq_true c) (by omega), fun _ => ?_⟩
      intro J25 HJ25
      have fin : J25 (sval k l) := by
       have sb : -1000000000000 ≤ sval k l ∧ sval k l ≤ 1000000000000 := by
        unfold sval
        rcases hk with ⟨rfl, _⟩ | ⟨rfl, _⟩
        ·rw [if_pos rfl]; omega
        ·rw [if_neg (by decide)]; rw [List.drop_zero] at pb; omega
       refine HJ25 _ ?_
       intro J28 HJ28
       have bad : (∀ m, ¬ NumW l m) → ∀ h', Fw h h' → J28 true h' := fun hb h' E => HJ28 _ _ ⟨fun _ => H0 hb h' E, fun c => by cases c⟩
       refine ⟨fun c => bad (fun m hm => ?_) h (Fw.refl h), fun c => ⟨fun c2 => bad (fun m hm => ?_) h (Fw.refl h), fun c2 => ?_⟩⟩
       ·have c := of_decide_eq_true c
        have := (cand hk hm.1).2
        have := hm.2.1; omega
       ·have c2 := of_decide_eq_true c2
        have := (cand hk hm.1).2
        have := hm.2.2; omega
       ·have c := of_decide_eq_false c
        have c2 := of_decide_eq_false c2
        refine digits_ok (by omega) (by omega) fun h2 E2 => ?_
        by_cases e : Lib.itoa (sval k l) = l
        ·rw [decide_eq_true (show (⟨(Lib.itoa (sval k l)).toArray⟩ : ByteArray) = s by rw [e]; exact es.symm)]
         exact HJ28 _ _ ⟨fun c => (by cases c), fun _ => H1 _ h2 ⟨e.symm, by omega, by omega⟩ E2⟩
        ·rw [decide_eq_false (fun e2 : (⟨(Lib.itoa (sval k l)).toArray⟩ : ByteArray) = s => e (by
          have := congrArg (fun b : ByteArray => b.data.toList) e2
          have t : Lib.itoa (sval k l) = s.data.toList := by simpa using this
          exact t.trans hl))]
         refine bad (fun m hm => e ?_) h2 E2
         rw [(cand hk hm.1).2]; exact hm.1.symm
      refine ⟨fun c => ?_, fun c => ?_⟩
      ·have c := of_decide_eq_true c
       obtain rfl : k = 1 := by omega
       have e : w64 (0 - (pval (l.drop 1) : Int)) = sval 1 l := by unfold sval; rw [if_pos rfl, w64_of (by omega) (by omega)]
       rw [e]; exact fin
      ·have c := of_decide_eq_false c
       rcases hk with ⟨rfl, _⟩ | ⟨rfl, _⟩
       ·exact absurd rfl c
       ·have e : (pval (l.drop 0) : Int) = sval 0 l := by unfold sval; rw [if_neg (by decide), List.drop_zero]
        rw [e]; exact fin
     | succ d ih =>
      intro i hi hki hd
      have hil : i < l.length := by omega
      have et : (l.drop k).take (i + 1 - k) = (l.drop k).take (i - k) ++ [l[i]] := by
       rw [show i + 1 - k = (i - k) + 1 by omega, List.take_add_one, List.getElem?_drop, show k + (i - k) = i by omega, List.getElem?_eq_getElem hil]; rfl
      have sa : strAt s (i : Int) = ((l[i]).toNat : Int) := by rw [str_at (by rw [hl]; exact hil)]; simp only [hl]
      have hmem : l[i] ∈ l.drop k := by
       rw [List.mem_iff_getElem?]
       exact ⟨i - k, by rw [List.getElem?_drop, show k + (i - k) = i by omega, List.getElem?_eq_getElem hil]⟩
      refine HX _ _ ⟨fun _ => ?_, fun c => absurd (of_decide_eq_false c) (by omega)⟩
      intro J12 HJ12
      rw [sa]
      have bad : ¬ dig l[i] → J12 true := fun hb => HJ12 _ ⟨fun _ => H0 (fun m hm => hb ((cand hk hm.1).1 _ hmem)) h (Fw.refl h), fun c => by cases c⟩
      have good : dig l[i] → J12 false := fun hg => by
       refine HJ12 _ ⟨fun c => (by cases c), fun _ => ⟨by omega, by omega, fun x hx => ?_⟩⟩
       rw [sa] at hx
       have pl := pval_lt _ ((l.drop k).take (i - k)) rfl hd
       have pb : pval ((l.drop k).take (i - k)) < 10 ^ 12 := Nat.lt_of_lt_of_le pl (Nat.pow_le_pow_right (by omega) (by simp; omega))
       have hg1 := hg.1
       have hg2 := hg.2
       have ez : x = ((10 * pval ((l.drop k).take (i - k)) + ((l[i]).toNat - 48) : Nat) : Int) := by
        rw [hx, show ((l[i]).toNat : Int) - 48 = (((l[i]).toNat - 48 : Nat) : Int) by omega, wrap9 (by omega), w64_of (n := (((l[i]).toNat - 48 : Nat) : Int)) (by omega) (by omega), w64_of (n := 10 * (pval ((l.drop k).take (i - k)) : Int)) (by omega) (by omega), w64_of (by omega) (by omega)]
        omega
       rw [ez, ← pval_snoc, ← et, w64_of (n := (i : Int) + 1) (by omega) (by omega)]
       refine ih (i + 1) (by omega) (by omega) ?_
       rw [et]
       intro c hc
       rcases List.mem_append.1 hc with hc | hc
       ·exact hd c hc
       ·simp at hc; subst hc; exact hg
      refine ⟨by omega, by omega, fun c1 => bad (fun hg => ?_), fun c1 => ⟨by omega, by omega, ?_⟩⟩
      ·have c1 := of_decide_eq_true c1
       have := hg.1; omega
      ·have c1 := of_decide_eq_false c1
       by_cases c2 : 57 < ((l[i]).toNat : Int)
       ·rw [decide_eq_true c2]; exact bad fun hg => by have := hg.2; omega
       ·rw [decide_eq_false c2]; exact good ⟨by omega, by omega⟩
    have := key (l.length - k) k (by omega) (Nat.le_refl _) (by simp)
    rw [Nat.sub_self, List.take_zero] at this
    exact this
  refine ⟨fun c => ?_, fun c => ?_⟩
  ·obtain rfl := hx.1 c; exact go
  ·have : k ≠ 1 := fun e => by rw [hx.2 e] at c; cases c
   rcases hk with ⟨rfl, _⟩ | ⟨rfl, _⟩
   ·exact absurd rfl this
   ·exact go
 refine ⟨fun c => ?_, fun c => ?_⟩
 ·have c := of_decide_eq_true c
  have h0 : 0 < l.length := by omega
  refine ⟨Int.le_refl _, by omega, ?_⟩
  have sa : strAt s 0 = ((l[0]).toNat : Int) := by
   have := str_at (s := s) (i := 0) (by rw [hl]; exact h0)
   simp only [hl] at this
   exact this
  rw [sa]
  by_cases e : l[0] = 45
  ·rw [e]
   exact body true 1 ⟨fun _ => rfl, fun _ => rfl⟩ (.inl ⟨rfl, by rw [List.getElem?_eq_getElem h0, e]⟩) (by omega)
  ·rw [decide_eq_false (fun e2 => e (UInt8.toNat_inj.1 (by have e45 : (45 : UInt8).toNat = 45 := rfl; omega)))]
   exact body false 0 ⟨fun c => (by cases c), fun c => (by cases c)⟩ (.inr ⟨rfl, fun e2 => by rw [List.getElem?_eq_getElem h0] at e2; exact e (Option.some.inj e2)⟩) (by omega)
 ·have c := of_decide_eq_false c
  have h0 : l = [] := List.eq_nil_of_length_eq_zero (by omega)
  exact body false 0 ⟨fun c => (by cases c), fun c => (by cases c)⟩ (.inr ⟨rfl, by rw [h0]; simp⟩) (Nat.zero_le _)
end
end Go.Proofs.YthkimbiknhebeaaGreatDoor.St
namespace Go.Proofs.YthkimbiknhebeaaGreatDoor.St
open Go Go.RowKit Go.Tw
set_option linter.unusedVariables false
theorem fold_pval : ∀ (l : List UInt8) (n : Nat), l.foldl (fun n c => 10 * n + (c.toNat - 48)) n = n * 10 ^ l.length + pval l
 | [], n => by simp [pval]
 | c :: l, n => by
  have e : pval (c :: l) = (10 * 0 + (c.toNat - 48)) * 10 ^ l.length + pval l := by
   show l.foldl _ (10 * 0 + (c.toNat - 48)) = _
   exact fold_pval l _
  rw [e, List.foldl_cons, fold_pval l, List.length_cons, Nat.pow_succ, Nat.add_mul, Nat.add_mul, Nat.mul_zero, Nat.zero_mul, Nat.zero_add, Nat.mul_comm 10 n, Nat.mul_assoc, Nat.mul_comm 10, Nat.add_assoc]
theorem pval_cons (c : UInt8) (l : List UInt8) : pval (c :: l) = (c.toNat - 48) * 10 ^ l.length + pval l := by
 show l.foldl _ (10 * 0 + (c.toNat - 48)) = _
 rw [fold_pval l, Nat.mul_zero, Nat.zero_add]
theorem parse_ok : ∀ (l : List UInt8) (acc : Nat), (∀ c ∈ l, dig c) → acc * 10 ^ l.length + pval l < 1844674407370955162 → Lib.parseUint10 acc l = .ok (acc * 10 ^ l.length + pval l)
 | [], acc, _, _ => by simp [Lib.parseUint10, pval]
 | c :: l, acc, hd, hb => by
  have hc : 48 ≤ c.toNat ∧ c.toNat ≤ 57 := hd c (by simp)
  have e : acc * 10 ^ (c :: l).length + pval (c :: l) = (acc * 10 + (c.toNat - 48)) * 10 ^ l.length + pval l := by
   rw [pval_cons, List.length_cons, Nat.pow_succ, Nat.add_mul, Nat.mul_assoc, Nat.mul_comm 10, Nat.add_assoc]
  rw [e] at hb ⊢
  have hp : 1 ≤ 10 ^ l.length := Nat.pow_pos (by decide)
  have hle : acc * 10 + (c.toNat - 48) ≤ (acc * 10 + (c.toNat - 48)) * 10 ^ l.length := Nat.le_mul_of_pos_right _ hp
  unfold Lib.parseUint10
  rw [if_pos hc, if_neg (by omega), if_neg (by omega)]
  exact parse_ok l _ (fun d h => hd d (List.mem_cons_of_mem _ h)) hb
theorem mag_dec {u : Nat} (h : u ≤ 1073741824) : Lib.parseMag (Lib.decDigits u) = .ok u := by
 unfold Lib.parseMag
 rw [if_neg (dec_ne u)]
 have := parse_ok (Lib.decDigits u) 0 (dec_dig u u (Nat.le_refl _)) (by rw [Nat.zero_mul, Nat.zero_add, dec_val u u (Nat.le_refl _)]; omega)
 rw [Nat.zero_mul, Nat.zero_add, dec_val u u (Nat.le_refl _)] at this
 exact this
theorem atoi_itoa {m : Int} (h0 : -1073741824 ≤ m) (h1 : m ≤ 1073741824) : Lib.atoiAll (Lib.itoa m) = .ok m := by
 unfold Lib.itoa
 split
 ·rename_i hm
  have e := mag_dec (u := m.natAbs) (by omega)
  unfold Lib.atoiAll
  have c45 : (45 : UInt8).toNat = 45 := rfl
  simp only [c45, or_true, if_true, e]
  rw [if_neg (by simp), if_neg (by omega)]
  simp; omega
 ·rename_i hm
  have e := mag_dec (u := m.toNat) (by omega)
  have hd := dec_dig m.toNat m.toNat (Nat.le_refl _)
  have hne := dec_ne m.toNat
  generalize Lib.decDigits m.toNat = l at *
  cases l with
  | nil => exact absurd rfl hne
  | cons c l =>
   have hc := hd c (by simp)
   unfold dig at hc
   unfold Lib.atoiAll
   simp only []
   rw [if_neg (show ¬ (c.toNat = 43 ∨ c.toNat = 45) by omega), e]
   simp only []
   rw [if_neg (by omega), if_neg (by omega), if_neg (by omega)]
   congr 1; omega
/-- what a word is, told by the library -/
theorem numW_atoi {l : List UInt8} {m : Int} : NumW l m ↔ Lib.atoiAll l = .ok m ∧ -1073741824 ≤ m ∧ m ≤ 1073741824 ∧ Lib.itoa m = l := by
 constructor
 ·rintro ⟨e, h0, h1⟩
  exact ⟨by rw [e]; exact atoi_itoa h0 h1, h0, h1, e.symm⟩
 ·rintro ⟨_, h0, h1, e⟩
  exact ⟨e.symm, h0, h1⟩
end Go.Proofs.YthkimbiknhebeaaGreatDoor.St
