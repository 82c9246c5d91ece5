/- What the statements ask alike: lists, measures. Numbers in order, also twice: what the functions do. What the statements ask alike: a sum; other things that errors are. Numbers, each once; those that are not one: what the reference's set does. The reference's desk: a line with one number. The reference's desk: a line. The reference's desk: a line, walked. -/
import Derived.Test.YthkimbiknhebeaaGreatDoorGMono
import Derived.Test.YthkimbiknhebeaaGreatDoorTwB
import Derived.Test.YthkimbiknhebeaaGreatDoorGWbtP
import Derived.Test.YthkimbiknhebeaaGreatDoorGRef
import Derived.Test.YthkimbiknhebeaaGreatDoorStrA
namespace Go.Proofs.YthkimbiknhebeaaGreatDoor.St
open Go Go.RowKit Go.Tw Go.Mono
set_option linter.unusedVariables false
theorem RI.over {n c : Nat} {h h' : Heap} {s : Sl} {u : List Int} (S : RI n h s u) (hne : u ≠ [] → ∀ p, s.a = some p → p.block ≠ c) (ho : ∀ d, d ≠ c → h'[d]? = h[d]?) : RI n h' s u := by
 refine ⟨Rs.len S, S.cap, ?_⟩
 rcases S.at_ with e | ⟨b, o, e1, e2, e3⟩
 ·exact .inl e
 ·by_cases hu : u = []
  ·exact .inl (by rw [hu]; rfl)
  ·refine .inr ⟨b, o, e1, e2, fun i hi => ?_⟩
   rw [hcell_of_eq (h := h) (ho _ (show (ad b (o + i)).block ≠ c from (show (ad b o).block ≠ c from hne hu _ e1)))]
   exact e3 i hi
theorem RI.lt {n : Nat} {h : Heap} {s : Sl} {u : List Int} (S : RI n h s u) (hu : u ≠ []) : ∀ p, s.a = some p → p.block < n := by
 intro p hp
 rcases S.at_ with e | ⟨b, o, e1, e2, e3⟩
 ·exact absurd (List.map_eq_nil_iff.1 e) hu
 ·rw [hp] at e1; cases e1; exact e2
theorem RI.over' {n c : Nat} {h h' : Heap} {s : Sl} {u : List Int} (S : RI n h s u) (hn : n ≤ c) (ho : ∀ d, d ≠ c → h'[d]? = h[d]?) : RI n h' s u :=
 RI.over S (fun hu p hp => by have := RI.lt S hu p hp; omega) ho
section
variable {r : World} {h : Heap}
theorem cat_ok {s t : Sl} {u v : List Int} {n : Nat} {R : Sl → Heap → Prop} (hs : RI n h s u) (ht : RI n h t v) (hn : n ≤ h.size) (hz : u.length + v.length ≤ 17592186044416) (H : ∀ s' h', Fw h h' → Own h.size 1 h' s' ((u ++ v).map iV) → R s' h') : ref1_Cat r s t h R := by
 apply ref1_Cat_of
 have ls := hs.len
 have lt := ht.len
 refine App.own (Own.nil h.size 1 h) hs rfl (by intro v hv; obtain ⟨x, _, rfl⟩ := List.mem_map.1 hv; rfl) (Nat.le_refl _) (by simp [Sl.nil]; omega) fun s1 h1 G1 => ?_
 have O1 := G1.own
 have l1 : s1.len = u.length := by have := O1.len; simp at this; omega
 refine App.own O1 (ht.ext G1.ext hn) rfl (by intro v hv; obtain ⟨x, _, rfl⟩ := List.mem_map.1 hv; rfl) G1.ext.1 (by omega) fun s2 h2 G2 => ?_
 refine H s2 h2 (Ext.trans G1.ext G2.ext) ?_
 have := G2.own
 simpa using this
theorem App.in_ {el : TypeId} {N n : Nat} {s x : Sl} {u v : List Int} {K : Sl → Heap → Prop} (O : Own N 1 h s (u.map iV)) (X : RI n h x v) (hN : N ≤ h.size) (hz : u.length + v.length ≤ 17592186044416) (hK : ∀ s' h', Tw.Ext N h h' → Own N 1 h' s' ((u ++ v).map iV) → K s' h') : App el 1 8 (.int .i64 0) s x h K := by
 have ls : s.len = u.length := by have := O.len; simp at this; omega
 have lx := X.len
 refine App.own O X rfl (by intro v hv; obtain ⟨x, _, rfl⟩ := List.mem_map.1 hv; rfl) hN (by omega) fun s' h' G => hK s' h' G.ext ?_
 have := G.own
 simpa using this
theorem Sub.in_ {n : Nat} {s : Sl} {u : List Int} {lo hi : Nat} {K : Sl → Prop} (S : RI n h s u) (h1 : lo ≤ hi) (h2 : hi ≤ u.length) (hK : ∀ t, RI n h t ((u.drop lo).take (hi - lo)) → K t) : Sub s (lo : Int) (hi : Int) (s.cap : Int) 1 K := by
 have hc := S.cap
 have hl := S.len
 refine ⟨by omega, by omega, by omega, by omega, fun t ht => hK t ?_⟩
 have et : t = ⟨sliceA s.a s.cap lo 1, hi - lo, s.cap - lo⟩ := by rw [ht]; simp only [Int.toNat_natCast]
 rw [et]
 by_cases he : lo = hi
 ·subst he
  refine ⟨by simp, by simp, .inl (by simp)⟩
 ·have := Rs.sub S (lo := lo) (hi := hi) (mx := s.cap) (by omega) (by simp; omega) (by omega)
  rwa [← List.map_drop, ← List.map_take] at this
theorem without_ok {s : Sl} {u : List Int} {n i : Nat} {R : Sl → Heap → Prop} (S : RI n h s u) (hn : n ≤ h.size) (hi : i < u.length) (hz : u.length ≤ 17592186044416) (H : ∀ s' h', Fw h h' → Own h.size 1 h' s' ((u.take i ++ u.drop (i + 1)).map iV) → R s' h') : ref1_Without r s (i : Int) h R := by
 apply ref1_Without_of
 have hl := S.len
 refine Sub.in_ (lo := 0) S (by omega) (by omega) fun t T => ?_
 refine App.in_ (u := []) (Own.nil h.size 1 h) T (Nat.le_refl _) (by simp; omega) fun s1 h1 E1 O1 => ?_
 rw [show w64 ((i : Int) + 1) = ((i + 1 : Nat) : Int) by rw [w64_of] <;> omega, hl]
 refine Sub.in_ (S.ext E1 hn) (by omega) (by omega) fun t2 T2 => ?_
 refine App.in_ O1 T2 E1.1 (by simp; omega) fun s2 h2 E2 O2 => H s2 h2 (Ext.trans E1 E2) ?_
 have e : [] ++ (u.drop 0).take (i - 0) ++ (u.drop (i + 1)).take (u.length - (i + 1)) = u.take i ++ u.drop (i + 1) := by
  rw [List.nil_append, List.drop_zero, Nat.sub_zero, List.take_of_length_le (l := u.drop (i + 1)) (by simp)]
 rwa [e] at O2
theorem with_ok {s : Sl} {u : List Int} {n i : Nat} {x : Int} {R : Sl → Heap → Prop} (S : RI n h s u) (hn : n ≤ h.size) (hi : i ≤ u.length) (hz : u.length + 1 ≤ 17592186044416) (H : ∀ s' h', Fw h h' → Own h.size 1 h' s' ((u.take i ++ x :: u.drop i).map iV) → R s' h') : ref1_With r s (i : Int) x h R := by
 apply ref1_With_of
 have hl := S.len
 refine Sub.in_ (lo := 0) S (by omega) (by omega) fun t T => ?_
 refine App.in_ (u := []) (Own.nil h.size 1 h) T (Nat.le_refl _) (by simp; omega) fun s1 h1 E1 O1 => ?_
 refine New.cells (cs := [iV x]) fun h2 E2 z2 B2 => ?_
 refine App.in_ (v := [x]) (O1.ext E2) (RI.of_blk (n := h2.size) (l := [x]) B2 (by omega) (List.prefix_refl _) (Nat.le_refl 1)) (by have := E1.1; omega) (by simp; omega) fun s3 h3 E3 O3 => ?_
 rw [hl]
 have E13 : Fw h h3 := Ext.trans (Ext.trans E1 (Ext.mono E2 E1.1)) E3
 refine Sub.in_ (S.ext E13 hn) (by omega) (by omega) fun t2 T2 => ?_
 refine App.in_ O3 T2 E13.1 (by simp; omega) fun s4 h4 E4 O4 => H s4 h4 (Ext.trans E13 E4) ?_
 have e : [] ++ (u.drop 0).take (i - 0) ++ [x] ++ (u.drop i).take (u.length - i) = u.take i ++ x :: u.drop i := by
  rw [List.nil_append, List.drop_zero, Nat.sub_zero, List.take_of_length_le (l := u.drop i) (by simp), List.append_assoc]; rfl
 rwa [e] at O4
theorem St.at_ {c k : Nat} {cs : List Value} {v : Value} {K : Heap → Prop} (B : Blk h c cs) (hk : k < cs.length) (hK : ∀ h', Blk h' c (cs.set k v) → (∀ d, d ≠ c → h'[d]? = h[d]?) → h'.size = h.size → K h') : St h (Addr.add (ad c 0) k) 1 [v] K := by
 rw [ad_add, Nat.zero_add]
 refine St.one B hk (hK _ B.set (fun d hd => hset_other (show c ≠ d from fun e => hd e.symm)) (hset_size _ _ _))
end
end Go.Proofs.YthkimbiknhebeaaGreatDoor.St
namespace Go.Proofs.YthkimbiknhebeaaGreatDoor.St
open Go Go.RowKit Go.Tw
set_option linter.unusedVariables false
section
variable {r : World} {h : Heap} {x : Int}
/-! ### The statements' own words -/
theorem often_ok {s : Sl} {n : Nat} {m : List Int} {R : Int → Heap → Prop} (hs : RI n h s m) (hz : m.length < 4611686018427387904) (H : R (m.count x : Int) h) : ref1_Often r s x h R := by
 apply ref1_Often_of
 have hlen := hs.len
 intro X HX
 have key : ∀ (d i : Nat), i + d = m.length → X ((m.take i).count x : Int) (i : Int) := by
  intro d
  induction d with
  | zero =>
   intro i hi
   rw [List.take_of_length_le (by omega)]
   exact HX _ _ ⟨fun c => absurd (of_decide_eq_true c) (by omega), fun _ => H⟩
  | succ d ih =>
   intro i hi
   have hil : i < m.length := by omega
   refine HX _ _ ⟨fun _ => ?_, fun c => absurd (of_decide_eq_false c) (by omega)⟩
   intro J HJ
   refine RI.ix hs (by omega) (by omega) fun p _ hp => ⟨_, hp, ?_⟩
   have ex : m[(i : Int).toNat]! = m[i] := by rw [Int.toNat_natCast, getElem!_pos m i hil]
   rw [ex]
   have e : m.take (i + 1) = m.take i ++ [m[i]] := by rw [List.take_add_one, List.getElem?_eq_getElem hil]; rfl
   have ih := ih (i + 1) (by omega)
   rw [e, List.count_append, List.count_singleton] at ih
   have hc : (m.take i).count x ≤ i := Nat.le_trans List.count_le_length (by rw [List.length_take]; omega)
   have e1 : w64 ((i : Int) + 1) = ((i + 1 : Nat) : Int) := by rw [w64_of] <;> omega
   refine ⟨fun c => HJ _ ?_, fun c => HJ _ ?_⟩
   ·have c := of_decide_eq_true c
    rw [if_pos (by simpa using c)] at ih
    rw [e1, w64_of (by omega) (by omega)]; exact ih
   ·have c := of_decide_eq_false c
    rw [if_neg (by simpa using c)] at ih
    rw [e1]; exact ih
 exact key m.length 0 (by omega)
theorem below_ok {s : Sl} {n : Nat} {m : List Int} {R : Int → Heap → Prop} (hs : RI n h s m) (hz : m.length < 4611686018427387904) (H : R ((m.filter fun y => decide (y < x)).length : Int) h) : ref1_Below r s x h R := by
 apply ref1_Below_of
 have hlen := hs.len
 intro X HX
 have key : ∀ (d i : Nat), i + d = m.length → X (((m.take i).filter fun y => decide (y < x)).length : Int) (i : Int) := by
  intro d
  induction d with
  | zero =>
   intro i hi
   rw [List.take_of_length_le (by omega)]
   exact HX _ _ ⟨fun c => absurd (of_decide_eq_true c) (by omega), fun _ => H⟩
  | succ d ih =>
   intro i hi
   have hil : i < m.length := by omega
   refine HX _ _ ⟨fun _ => ?_, fun c => absurd (of_decide_eq_false c) (by omega)⟩
   intro J HJ
   refine RI.ix hs (by omega) (by omega) fun p _ hp => ⟨_, hp, ?_⟩
   have ex : m[(i : Int).toNat]! = m[i] := by rw [Int.toNat_natCast, getElem!_pos m i hil]
   rw [ex]
   have e : m.take (i + 1) = m.take i ++ [m[i]] := by rw [List.take_add_one, List.getElem?_eq_getElem hil]; rfl
   have ih := ih (i + 1) (by omega)
   rw [e, List.filter_append, List.length_append] at ih
   have hc : ((m.take i).filter fun y => decide (y < x)).length ≤ i := Nat.le_trans (List.length_filter_le ..) (by rw [List.length_take]; omega)
   have e1 : w64 ((i : Int) + 1) = ((i + 1 : Nat) : Int) := by rw [w64_of] <;> omega
   refine ⟨fun c => HJ _ ?_, fun c => HJ _ ?_⟩
   ·rw [List.filter_cons, if_pos c] at ih
    rw [e1, w64_of (by omega) (by omega)]; exact ih
   ·rw [List.filter_cons, if_neg (by rw [c]; decide)] at ih
    rw [e1]; exact ih
 exact key m.length 0 (by omega)
end
end Go.Proofs.YthkimbiknhebeaaGreatDoor.St
namespace Go.Proofs.YthkimbiknhebeaaGreatDoor.St
open Go Go.RowKit Go.Tw
set_option linter.unusedVariables false
section
variable {r : World} {h : Heap}
theorem w64_sumr (x y : Int) : w64 (w64 x + y) = w64 (x + y) := by
 simp only [w64, IntKind.wrap_i64]; omega
theorem sumOf_ok {s : Sl} {l : List Int} {n : Nat} {R : Int → Heap → Prop} (S : RI n h s l) (hz : l.length ≤ 17592186044416) (H : R (w64 l.sum) h) : ref1_SumOf r s h R := by
 apply ref1_SumOf_of
 have sl := S.len
 intro X HX
 have key : ∀ (d i : Nat), i + d = l.length → X (w64 (l.take i).sum) (i : Int) := by
  intro d
  induction d with
  | zero =>
   intro i hi
   rw [List.take_of_length_le (by omega)]
   exact HX _ _ ⟨fun c => absurd (of_decide_eq_true c) (by omega), fun _ => H⟩
  | succ d ih =>
   intro i hi
   have hil : i < l.length := by omega
   have ex : l[(i : Int).toNat]! = l[i] := by rw [Int.toNat_natCast, getElem!_pos l i hil]
   have e : l.take (i + 1) = l.take i ++ [l[i]] := by rw [List.take_add_one, List.getElem?_eq_getElem hil]; rfl
   refine HX _ _ ⟨fun _ => RI.ix S (by omega) (by omega) fun p _ hp => ⟨_, hp, ?_⟩, fun c => absurd (of_decide_eq_false c) (by omega)⟩
   rw [ex]
   dsimp only
   rw [w64_sumr, w64_of (n := (i : Int) + 1) (by omega) (by omega)]
   have := ih (i + 1) (by omega)
   rw [e, List.sum_append] at this
   simpa using this
 have := key l.length 0 (by omega)
 rw [List.take_zero, List.sum_nil, w64_of (by decide) (by decide)] at this
 exact this
end
end Go.Proofs.YthkimbiknhebeaaGreatDoor.St
namespace Go.Proofs.YthkimbiknhebeaaGreatDoor.St
open Go Go.RowKit Go.Tw
open Go.Proofs.YthkimbiknhebeaaGreatDoor.Wb (Ri lo hi lo_all lo_none hi_all hi_none lo_len hi_len lo_node hi_node ri_node)
set_option linter.unusedVariables false
/-- a set with one more -/
def putS (x : Int) (t : List Int) : List Int := lo x t ++ x :: hi x t
def dropS (x : Int) (t : List Int) : List Int := lo x t ++ hi x t
theorem lo_cons (x y : Int) (t : List Int) : lo x (y :: t) = if y < x then y :: lo x t else lo x t := by
  unfold lo; rw [List.filter_cons]; simp
theorem hi_cons (x y : Int) (t : List Int) : hi x (y :: t) = if x < y then y :: hi x t else hi x t := by
  unfold hi; rw [List.filter_cons]; simp
theorem mem_lo {x y : Int} {t : List Int} : y ∈ lo x t ↔ y ∈ t ∧ y < x := by unfold lo; simp
theorem mem_hi {x y : Int} {t : List Int} : y ∈ hi x t ↔ y ∈ t ∧ x < y := by unfold hi; simp
theorem ri_put {x : Int} {t : List Int} (h : Ri t) : Ri (putS x t) := by
  refine List.pairwise_append.2 ⟨h.filter _, List.pairwise_cons.2 ⟨fun y hy => (mem_hi.1 hy).2, h.filter _⟩, fun a ha b hb => ?_⟩
  have a1 := (mem_lo.1 ha).2
  rcases List.mem_cons.1 hb with rfl | hb
  · exact a1
  · have := (mem_hi.1 hb).2; omega
theorem ri_drop {x : Int} {t : List Int} (h : Ri t) : Ri (dropS x t) := by
  refine List.pairwise_append.2 ⟨h.filter _, h.filter _, fun a ha b hb => ?_⟩
  have a1 := (mem_lo.1 ha).2
  have := (mem_hi.1 hb).2; omega
/-- where a number parts a set -/
theorem parts {x : Int} : ∀ {t : List Int}, Ri t → t = lo x t ++ (if x ∈ t then x :: hi x t else hi x t)
  | [], _ => by simp [lo, hi]
  | y :: t, h => by
    obtain ⟨h1, h2⟩ := List.pairwise_cons.1 h
    have ih := parts (x := x) h2
    rw [lo_cons, hi_cons]
    rcases Int.lt_trichotomy y x with c | c | c
    · rw [if_pos c, if_neg (show ¬ x < y by omega)]
      have e : (x ∈ y :: t) ↔ x ∈ t := by rw [List.mem_cons]; constructor
                                          · rintro (e | e); omega; exact e
                                          · exact fun e => .inr e
      rw [List.cons_append]
      by_cases hx : x ∈ t
      · rw [if_pos hx] at ih; rw [if_pos (e.2 hx), ← ih]
      · rw [if_neg hx] at ih; rw [if_neg (fun hh => hx (e.1 hh)), ← ih]
    · subst c
      rw [if_neg (by omega), if_pos (by simp), if_neg (by omega)]
      rw [lo_none (l := t) fun z hz => Int.le_of_lt (h1 z hz), hi_all (l := t) h1]; rfl
    · have hn : x ∉ y :: t := by
        intro e
        rcases List.mem_cons.1 e with e | e
        · omega
        · have := h1 x e; omega
      rw [if_neg (show ¬ y < x by omega), if_pos c, if_neg hn]
      rw [lo_none (l := t) fun z hz => by have := h1 z hz; omega, hi_all (l := t) fun z hz => by have := h1 z hz; omega]; rfl
theorem put_mem {x : Int} {t : List Int} (h : Ri t) (hx : x ∈ t) : putS x t = t := by
  have := parts (x := x) h
  rw [if_pos hx] at this
  exact this.symm
theorem put_new {x : Int} {t : List Int} (h : Ri t) (hx : x ∉ t) : t.take (lo x t).length ++ x :: t.drop (lo x t).length = putS x t := by
  have e := parts (x := x) h
  rw [if_neg hx] at e
  have key : ∀ a b : List Int, t = a ++ b → t.take a.length = a ∧ t.drop a.length = b := fun a b e => by subst e; simp
  obtain ⟨e1, e2⟩ := key _ _ e
  rw [e1, e2]; rfl
theorem drop_eq {x : Int} : ∀ {t : List Int}, Ri t → t.filter (fun y => decide (y ≠ x)) = dropS x t := by
  intro t h
  have e := parts (x := x) h
  unfold dropS
  conv => lhs; rw [e]
  rw [List.filter_append]
  have f1 : (lo x t).filter (fun y => decide (y ≠ x)) = lo x t := List.filter_eq_self.2 fun y hy => by have := (mem_lo.1 hy).2; simp; omega
  have f2 : (hi x t).filter (fun y => decide (y ≠ x)) = hi x t := List.filter_eq_self.2 fun y hy => by have := (mem_hi.1 hy).2; simp; omega
  split
  · rw [f1, List.filter_cons, if_neg (by simp), f2]
  · rw [f1, f2]
theorem put_len (x : Int) (t : List Int) (h : Ri t) : (putS x t).length ≤ t.length + 1 := by
  by_cases hx : x ∈ t
  · rw [put_mem h hx]; omega
  · have e := congrArg List.length (parts (x := x) h)
    rw [if_neg hx, List.length_append] at e
    unfold putS
    simp only [List.length_append, List.length_cons]; omega
theorem drop_len (x : Int) (t : List Int) (h : Ri t) : (dropS x t).length ≤ t.length := by
  rw [← drop_eq h]; exact List.length_filter_le ..
section
variable {r : World} {h : Heap}
theorem once_ok {s : Sl} {t : List Int} {x : Int} {n : Nat} {R : Sl → Heap → Prop} (S : RI n h s (t ++ [x])) (hn : n ≤ h.size) (hr : Ri t) (hz : t.length + 2 ≤ 17592186044416) (H : ∀ s' h', Fw h h' → Own h.size 1 h' s' ((putS x t).map iV) → R s' h') : ref1_Once r s h R := by
  apply ref1_Once_of
  have sl := S.len
  rw [List.length_append, List.length_singleton] at sl
  intro X HX
  have fin : ∀ (so : Sl) (h1 : Heap), Fw h h1 → Own h.size 1 h1 so ((putS x t).map iV) → X so ((t.length + 1 : Nat) : Int) h1 := fun so h1 E O => HX _ _ _ ⟨fun c => absurd (of_decide_eq_true c) (by omega), fun _ => H so h1 E O⟩
  have key : ∀ (d i : Nat) (so : Sl) (h1 : Heap), i + d = t.length → Fw h h1 → Own h.size 1 h1 so ((t.take i).map iV) → X so (i : Int) h1 := by
    intro d
    induction d with
    | zero =>
      intro i so h1 hi E O0
      have O : RI h1.size h1 so (t.take i) := Rs.mono O0.rs (Nat.le_refl _)
      obtain rfl : i = t.length := by omega
      rw [List.take_length] at O
      have ex : (t ++ [x])[((t.length : Nat) : Int).toNat]! = x := by rw [Int.toNat_natCast, getElem!_pos _ _ (by simp)]; simp
      have ew : w64 ((t.length : Int) + 1) = ((t.length + 1 : Nat) : Int) := by rw [w64_of (by omega) (by omega)]; omega
      refine HX _ _ _ ⟨fun _ => ?_, fun c => absurd (of_decide_eq_false c) (by omega)⟩
      intro J HJ
      refine RI.ix (S.ext E hn) (by omega) (by rw [List.length_append, List.length_singleton]; omega) fun p _ hp => ⟨_, hp, often_ok O (by omega) ?_⟩
      rw [ex]
      refine ⟨fun c => ?_, fun c => ?_⟩
      · have c : x ∉ t := List.count_eq_zero.1 (by have := of_decide_eq_true c; omega)
        refine RI.ix (S.ext E hn) (by omega) (by rw [List.length_append, List.length_singleton]; omega) fun p _ hp => ⟨_, hp, RI.ix (S.ext E hn) (by omega) (by rw [List.length_append, List.length_singleton]; omega) fun p2 _ hp2 => ⟨_, hp2, below_ok O (by omega) ⟨hp2, ?_⟩⟩⟩
        rw [ex]
        have lb : (t.filter fun y => decide (y < x)).length ≤ t.length := List.length_filter_le ..
        refine with_ok O (Nat.le_refl _) lb (by omega) fun s2 h2 E2 O2 => HJ _ _ ?_
        rw [ew]
        refine fin s2 h2 (E.trans E2) ?_
        have e : t.take (t.filter fun y => decide (y < x)).length ++ x :: t.drop (t.filter fun y => decide (y < x)).length = putS x t := put_new hr c
        rw [e] at O2
        exact O2.mono E.1
      · have c : x ∈ t := by
          have c := of_decide_eq_false c
          exact List.count_pos_iff.1 (by omega)
        refine HJ _ _ ?_
        rw [ew]
        rw [List.take_length] at O0
        exact fin so h1 E (by rw [put_mem hr c]; exact O0)
    | succ d ih =>
      intro i so h1 hi E O0
      have O : RI h1.size h1 so (t.take i) := Rs.mono O0.rs (Nat.le_refl _)
      have hil : i < t.length := by omega
      have ex : (t ++ [x])[(i : Int).toNat]! = t[i] := by rw [Int.toNat_natCast, getElem!_pos _ _ (by simp; omega), List.getElem_append_left hil]
      have ew : w64 ((i : Int) + 1) = ((i + 1 : Nat) : Int) := by rw [w64_of (by omega) (by omega)]; omega
      have lt : ∀ y ∈ t.take i, y < t[i] := by
        intro y hy
        obtain ⟨k, hk, e⟩ := List.mem_iff_getElem.1 hy
        rw [List.length_take] at hk
        rw [List.getElem_take] at e
        subst e
        exact List.pairwise_iff_getElem.1 hr k i (by omega) hil (by omega)
      have hc : (t.take i).count t[i] = 0 := List.count_eq_zero.2 fun hm => by have := lt _ hm; omega
      have hb : ((t.take i).filter fun y => decide (y < t[i])) = t.take i := List.filter_eq_self.2 fun y hy => decide_eq_true (lt y hy)
      have ol : (t.take i).length = i := by rw [List.length_take]; omega
      refine HX _ _ _ ⟨fun _ => ?_, fun c => absurd (of_decide_eq_false c) (by omega)⟩
      intro J HJ
      refine RI.ix (S.ext E hn) (by omega) (by simp; omega) fun p _ hp => ⟨_, hp, often_ok O (by omega) ?_⟩
      rw [ex, hc]
      refine ⟨fun _ => ?_, fun c => absurd rfl (of_decide_eq_false c)⟩
      refine RI.ix (S.ext E hn) (by omega) (by simp; omega) fun p _ hp => ⟨_, hp, RI.ix (S.ext E hn) (by omega) (by simp; omega) fun p2 _ hp2 => ⟨_, hp2, below_ok O (by omega) ⟨hp2, ?_⟩⟩⟩
      rw [ex, hb]
      refine with_ok O (Nat.le_refl _) (Nat.le_refl _) (by omega) fun s2 h2 E2 O2 => HJ _ _ ?_
      rw [ew]
      refine ih (i + 1) s2 h2 (by omega) (E.trans E2) ?_
      rw [List.take_length, List.drop_length] at O2
      have e : t.take (i + 1) = t.take i ++ [t[i]] := by rw [List.take_add_one, List.getElem?_eq_getElem hil]; rfl
      rw [e]
      exact O2.mono E.1
  exact key t.length 0 Sl.nil h (by omega) (Fw.refl h) (by simpa using Own.nil h.size 1 h)
theorem sifted_ok {s s2 : Sl} {t : List Int} {x : Int} {n m : Nat} {R : Sl → Heap → Prop} (S : RI n h s t) (hn : n ≤ h.size) (B : RI m h s2 [x]) (hm : m ≤ h.size) (hr : Ri t) (hz : t.length ≤ 17592186044416) (H : ∀ s' h', Fw h h' → Own h.size 1 h' s' ((dropS x t).map iV) → R s' h') : ref1_Sifted r s s2 false h R := by
  apply ref1_Sifted_of
  have sl := S.len
  intro X HX
  have key : ∀ (d i : Nat) (so : Sl) (h1 : Heap), i + d = t.length → Fw h h1 → Own h.size 1 h1 so (((t.take i).filter fun y => decide (y ≠ x)).map iV) → X so (i : Int) h1 := by
    intro d
    induction d with
    | zero =>
      intro i so h1 hi E O
      rw [List.take_of_length_le (by omega), drop_eq hr] at O
      exact HX _ _ _ ⟨fun c => absurd (of_decide_eq_true c) (by omega), fun _ => H so h1 E O⟩
    | succ d ih =>
      intro i so h1 hi E O
      have hil : i < t.length := by omega
      have ex : t[(i : Int).toNat]! = t[i] := by rw [Int.toNat_natCast, getElem!_pos t i hil]
      have ew : w64 ((i : Int) + 1) = ((i + 1 : Nat) : Int) := by rw [w64_of (by omega) (by omega)]; omega
      have e : t.take (i + 1) = t.take i ++ [t[i]] := by rw [List.take_add_one, List.getElem?_eq_getElem hil]; rfl
      have lo := O.len
      rw [List.length_map] at lo
      have lf : ((t.take i).filter fun y => decide (y ≠ x)).length ≤ i := Nat.le_trans (List.length_filter_le ..) (by rw [List.length_take]; omega)
      refine HX _ _ _ ⟨fun _ => ?_, fun c => absurd (of_decide_eq_false c) (by omega)⟩
      intro J HJ
      refine RI.ix (S.ext E hn) (by omega) (by omega) fun p _ hp => ⟨_, hp, often_ok (B.ext E hm) (by simp) ?_⟩
      rw [ex]
      by_cases c : t[i] = x
      · have h1c : List.count t[i] [x] = 1 := by rw [c]; simp
        rw [h1c]
        refine ⟨fun c => (by cases c), fun _ => HJ _ _ ?_⟩
        rw [ew]
        refine ih (i + 1) so h1 (by omega) E ?_
        rw [e, List.filter_append, List.filter_cons, if_neg (by simp [c]), List.filter_nil, List.append_nil]; exact O
      · have h1c : List.count t[i] [x] = 0 := List.count_eq_zero.2 (by simpa using c)
        rw [h1c]
        refine ⟨fun _ => RI.ix (S.ext E hn) (by omega) (by omega) fun p _ hp => ⟨_, hp, ?_⟩, fun c => by cases c⟩
        rw [ex]
        refine App.push (cs := [iV t[i]]) O rfl rfl (one_all rfl) E.1 (by omega) fun s3 h3 G => HJ _ _ ?_
        rw [ew]
        refine ih (i + 1) s3 h3 (by omega) (E.trans' G.ext) ?_
        rw [e, List.filter_append, List.filter_cons, if_pos (by simp [c]), List.filter_nil, List.map_append]; exact G.own
  exact key t.length 0 Sl.nil h (by omega) (Fw.refl h) (by simpa using Own.nil h.size 1 h)
end
end Go.Proofs.YthkimbiknhebeaaGreatDoor.St
namespace Go.Proofs.YthkimbiknhebeaaGreatDoor.St
open Go Go.RowKit Go.Tw
open Go.Proofs.YthkimbiknhebeaaGreatDoor.Wb (Ri lo hi)
set_option linter.unusedVariables false
/-- a list that two blocks of ours do not hold -/
def Ap (a b : Nat) (g : Heap) (x : Sl) (X : List Int) : Prop := (∃ m, m ≤ a ∧ RI m g x X) ∨ (∃ N, b ≤ N ∧ Own N 1 g x (X.map iV))
theorem Ap.fw {a b : Nat} {g g' : Heap} {x : Sl} {X : List Int} (A : Ap a b g x X) (E : Fw g g') (ha : a ≤ g.size) : Ap a b g' x X := by
 rcases A with ⟨m, hm, S⟩ | ⟨N, hN, O⟩
 ·exact .inl ⟨m, hm, Rs.ext S E (by omega)⟩
 ·exact .inr ⟨N, hN, O.ext E⟩
theorem Ap.over {a b c : Nat} {g g' : Heap} {x : Sl} {X : List Int} (A : Ap a b g x X) (h1 : a ≤ c) (h2 : c < b) (ho : ∀ d, d ≠ c → g'[d]? = g[d]?) : Ap a b g' x X := by
 rcases A with ⟨m, hm, S⟩ | ⟨N, hN, O⟩
 ·exact .inl ⟨m, hm, RI.over' S (by omega) ho⟩
 ·exact .inr ⟨N, hN, O.keep fun p hp => ho _ fun e => by have := (O.lt hp).2; omega⟩
theorem Ap.weak {a a' b b' : Nat} {g : Heap} {x : Sl} {X : List Int} (A : Ap a b g x X) (ha : a ≤ a') (hb : b' ≤ b) : Ap a' b' g x X := by
 rcases A with ⟨m, hm, S⟩ | ⟨N, hN, O⟩
 ·exact .inl ⟨m, by omega, S⟩
 ·exact .inr ⟨N, by omega, O⟩
theorem Ap.ri {a b : Nat} {g : Heap} {x : Sl} {X : List Int} (A : Ap a b g x X) (ha : a ≤ g.size) : RI g.size g x X := by
 rcases A with ⟨m, hm, S⟩ | ⟨N, hN, O⟩
 ·exact Rs.mono S (by omega)
 ·exact Rs.mono O.rs (Nat.le_refl _)
def wRank : List UInt8 := [114, 97, 110, 107]
def wPut : List UInt8 := [112, 117, 116]
def wDrop : List UInt8 := [100, 114, 111, 112]
def wDel : List UInt8 := [100, 101, 108]
def eRng : List UInt8 := [69, 114, 114, 82, 97, 110, 103, 101]
def eSyn : List UInt8 := [69, 114, 114, 83, 121, 110, 116, 97, 120]
/-- what a line with one number does, and answers -/
def oneA (w : List UInt8) (n : Int) (q t : List Int) : List Int × List Int × List UInt8 :=
 if w = wRank then (q, t, Lib.itoa ((lo n t).length : Int))
 else if w = wPut then (q, putS n t, Lib.itoa ((putS n t).length : Int))
 else if w = wDrop then (q, dropS n t, Lib.itoa ((dropS n t).length : Int))
 else if 0 ≤ n ∧ n < q.length then (q.take n.toNat ++ q.drop (n.toNat + 1), t, Lib.itoa ((q.take n.toNat ++ q.drop (n.toNat + 1)).length : Int))
 else (q, t, eRng)
theorem ba_ne {a b : List UInt8} (h : ¬ ((⟨a.toArray⟩ : ByteArray) = ⟨b.toArray⟩)) : a ≠ b := fun e => h (by rw [e])
theorem ba_eq {a b : List UInt8} (h : (⟨a.toArray⟩ : ByteArray) = ⟨b.toArray⟩) : a = b := by
 have := congrArg (fun b : ByteArray => b.data.toList) h
 simpa using this
section
variable {r : World} {h : Heap}
theorem one_ok {d1 d2 : Sl} {q t : List Int} {w : List UInt8} {n : Int} {m : Nat} {R : Sl → Sl → ByteArray → Heap → Prop} (Q : RI m h d1 q) (T : RI m h d2 t) (hm : m ≤ h.size) (hr : Ri t) (hq : q.length ≤ 1099511627776) (ht : t.length ≤ 1099511627776)
  (H : ∀ s1 s2 h', Fw h h' → Ap m h.size h' s1 (oneA w n q t).1 → Ap m h.size h' s2 (oneA w n q t).2.1 → R s1 s2 ⟨(oneA w n q t).2.2.toArray⟩ h') : ref1_one r d1 d2 ⟨w.toArray⟩ n h R := by
 apply ref1_one_of
 refine New.cells (cs := [Sl.v d1, Sl.v d2]) fun h1 E1 z1 B1 => New.cells (cs := [Sl.v Sl.nil, Sl.v Sl.nil]) fun h2 E2 z2 B2 => ?_
 have E := E1.trans E2
 have C1 := E2.blk B1
 have hc1 : h.size < h1.size := by omega
 have hc2 : h1.size < h2.size := by omega
 have AQ : Ap m h2.size h2 d1 q := .inl ⟨m, Nat.le_refl _, Rs.ext Q E hm⟩
 have AT : Ap m h2.size h2 d2 t := .inl ⟨m, Nat.le_refl _, Rs.ext T E hm⟩
 have qt : ∀ {g : Heap}, Fw h g → h.size ≤ g.size := fun E => E.1
 have ret : ∀ (g : Heap) (x y : Sl) (X Y : List Int) (an : List UInt8) (cs : List Value), Fw h g → Blk g h1.size cs → cs.length = 2 → Ap m h2.size g x X → Ap m h2.size g y Y → oneA w n q t = (X, Y, an) →
   St g (ad h1.size 0) 2 [Sl.v x, Sl.v y] fun g' => LdS g' (Addr.add (ad h1.size 0) 0) fun a => LdS g' (Addr.add (ad h1.size 0) 1) fun b => R a b ⟨an.toArray⟩ g' := by
  intro g x y X Y an cs Eg B hcs A1 A2 e
  refine St.whole B hcs rfl fun g' B' o' z' => ⟨_, B'.ld 0 rfl, _, B'.ld 1 rfl, ?_⟩
  have := H x y g' (Eg.over (Nat.le_of_lt hc1) o' z')
  rw [e] at this
  have hs : h.size ≤ g'.size := by have := Eg.1; omega
  exact this ((A1.over (c := h1.size) (by omega) hc2 o').weak (Nat.le_refl _) (by omega)) ((A2.over (c := h1.size) (by omega) hc2 o').weak (Nat.le_refl _) (by omega))
 -- one of both lists is another one now
 have new : ∀ (g : Heap) (k : Nat) (x y z : Sl) (X Y Z : List Int) (an : List UInt8), Fw h2 g → Blk g h.size [Sl.v d1, Sl.v d2] → Ap m h2.size g z Z → Z.length < 9223372036854775807 → Ap m h2.size g x X → Ap m h2.size g y Y → (k = 0 ∧ x = z ∧ y = d2 ∨ k = 1 ∧ y = z ∧ x = d1) → an = Lib.itoa (Z.length : Int) → oneA w n q t = (X, Y, an) →
   St g (Addr.add (ad h.size 0) k) 1 [Sl.v z] fun h10 => LdS h10 (Addr.add (ad h.size 0) 0) fun x39 => LdS h10 (Addr.add (ad h.size 0) 1) fun x41 => LdS h10 (Addr.add (ad h.size 0) k) fun x43 =>
    ref1_Digits r (x43.len : Int) h10 fun y45 h11 => (hcell h11 (Addr.add (ad h.size 0) 0) = some (Sl.v x39)) ∧ (hcell h11 (Addr.add (ad h.size 0) 1) = some (Sl.v x41)) ∧
    St h11 (ad h1.size 0) 2 [Sl.v x39, Sl.v x41] fun h12 => LdS h12 (Addr.add (ad h1.size 0) 0) fun x50 => LdS h12 (Addr.add (ad h1.size 0) 1) fun x52 => R x50 x52 y45 h12 := by
  intro g k x y z X Y Z an Eg B AZ hZ AX AY hk ha e
  have Eh : Fw h g := E.trans Eg
  have hg2 := Eg.1
  have B7 := Eg.blk B2
  refine St.at_ B (by rcases hk with ⟨rfl, _⟩ | ⟨rfl, _⟩ <;> simp) fun h10 B10 o10 z10 => ?_
  have Bx : Blk h10 h.size [Sl.v x, Sl.v y] := by
   rcases hk with ⟨rfl, rfl, rfl⟩ | ⟨rfl, rfl, rfl⟩ <;> exact B10
  have E10 : Fw h h10 := Eh.over (Nat.le_refl _) o10 z10
  have AX := AX.over hm (Nat.lt_trans hc1 hc2) o10
  have AY := AY.over hm (Nat.lt_trans hc1 hc2) o10
  have AZ := AZ.over hm (Nat.lt_trans hc1 hc2) o10
  have lz := (AZ.ri (Nat.le_trans hm E10.1)).len
  have B7 := B7.other o10 (by omega)
  have hz : hcell h10 (Addr.add (ad h.size 0) k) = some (Sl.v z) := by
   rcases hk with ⟨rfl, rfl, rfl⟩ | ⟨rfl, rfl, rfl⟩
   ·exact Bx.ld 0 rfl
   ·exact Bx.ld 1 rfl
  refine ⟨_, Bx.ld 0 rfl, _, Bx.ld 1 rfl, _, hz, ?_⟩
  dsimp only
  rw [lz]
  refine digits_ok (by omega) (by omega) fun h11 E11 => ?_
  have Bx := E11.blk Bx
  refine ⟨Bx.ld 0 rfl, Bx.ld 1 rfl, ?_⟩
  rw [← ha]
  exact ret h11 x y X Y an _ (E10.trans E11) (E11.blk B7) rfl (AX.fw E11 (Nat.le_trans hm E10.1)) (AY.fw E11 (Nat.le_trans hm E10.1)) e
 refine ⟨fun c => ?_, fun c => ⟨fun c2 => ?_, fun c2 => ⟨fun c3 => ?_, fun c3 => ?_⟩⟩⟩
 ·have c : w = wRank := ba_eq (b := wRank) (of_decide_eq_true c)
  refine ⟨_, C1.ld 0 rfl, _, C1.ld 1 rfl, _, C1.ld 1 rfl, below_ok (AT.ri (Nat.le_trans hm E.1)) (by omega) ⟨C1.ld 0 rfl, C1.ld 1 rfl, ?_⟩⟩
  have ll := Go.Proofs.YthkimbiknhebeaaGreatDoor.Wb.lo_len n t
  refine digits_ok (by omega) (by show ((lo n t).length : Int) < _; omega) fun h4 E4 => ?_
  have C4 := E4.blk C1
  exact ⟨C4.ld 0 rfl, C4.ld 1 rfl, ret h4 d1 d2 q t _ _ (E.trans E4) (E4.blk B2) rfl (AQ.fw E4 (Nat.le_trans hm E.1)) (AT.fw E4 (Nat.le_trans hm E.1)) (by unfold oneA; rw [if_pos c]; rfl)⟩
 all_goals have c : w ≠ wRank := ba_ne (b := wRank) (of_decide_eq_false c)
 ·have c2 : w = wPut := ba_eq (b := wPut) (of_decide_eq_true c2)
  refine ⟨_, C1.ld 1 rfl, cat_ok (v := []) (AT.ri (Nat.le_trans hm E.1)) ⟨rfl, Nat.le_refl _, .inl rfl⟩ (Nat.le_refl _) (by simp; omega) fun s6 h6 E6 O6 => ?_⟩
  rw [List.append_nil] at O6
  have l6 := O6.len
  rw [List.length_map] at l6
  refine App.push (cs := [iV n]) O6 rfl rfl (one_all rfl) E6.1 (by omega) fun s8 h8 G => ?_
  have E8 : Fw h2 h8 := E6.trans' G.ext
  have O8 : RI h8.size h8 s8 (t ++ [n]) := by
   have := Rs.mono G.own.rs (Nat.le_refl _)
   show Rs _ 1 _ _ ((t ++ [n]).map iV)
   rw [List.map_append]; exact this
  refine once_ok O8 (Nat.le_refl _) hr (by omega) fun s9 h9 E9 O9 => ?_
  have E29 := E8.trans E9
  have pl := put_len n t hr
  exact new h9 1 d1 s9 s9 q (putS n t) (putS n t) _ E29 (E29.blk C1) (.inr ⟨h8.size, E8.1, O9⟩) (by omega) (AQ.fw E29 (Nat.le_trans hm E.1)) (.inr ⟨h8.size, E8.1, O9⟩) (.inr ⟨rfl, rfl, rfl⟩) rfl (by unfold oneA; rw [if_neg c, if_pos c2])
 ·have c2 : w ≠ wPut := ba_ne (b := wPut) (of_decide_eq_false c2)
  have c3 : w = wDrop := ba_eq (b := wDrop) (of_decide_eq_true c3)
  refine ⟨_, C1.ld 1 rfl, New.cells (cs := [iV n]) fun h8 E8 z8 B8 => ?_⟩
  refine sifted_ok (x := n) ((AT.fw E8 (Nat.le_trans hm E.1)).ri (Nat.le_trans hm (E.trans E8).1)) (Nat.le_refl _) (RI.of_blk (n := h8.size) (l := [n]) B8 (by omega) (List.prefix_refl _) (Nat.le_refl 1)) (Nat.le_refl _) hr (by omega) fun s9 h9 E9 O9 => ?_
  have E29 := E8.trans E9
  have pl := drop_len n t hr
  exact new h9 1 d1 s9 s9 q (dropS n t) (dropS n t) _ E29 (E29.blk C1) (.inr ⟨h8.size, E8.1, O9⟩) (by omega) (AQ.fw E29 (Nat.le_trans hm E.1)) (.inr ⟨h8.size, E8.1, O9⟩) (.inr ⟨rfl, rfl, rfl⟩) rfl (by unfold oneA; rw [if_neg c, if_neg c2, if_pos c3])
 ·have c2 : w ≠ wPut := ba_ne (b := wPut) (of_decide_eq_false c2)
  have c3 : w ≠ wDrop := ba_ne (b := wDrop) (of_decide_eq_false c3)
  have lq := Q.len
  intro J HJ
  have bad : ¬ (0 ≤ n ∧ n < q.length) → J true := fun hb => HJ _ ⟨fun _ => ⟨_, C1.ld 0 rfl, _, C1.ld 1 rfl, ret h2 d1 d2 q t eRng _ E B2 rfl AQ AT (by unfold oneA; rw [if_neg c, if_neg c2, if_neg c3, if_neg hb])⟩, fun c => by cases c⟩
  have good : (0 ≤ n ∧ n < q.length) → J false := fun hg => by
   refine HJ _ ⟨fun c => (by cases c), fun _ => ⟨_, C1.ld 0 rfl, ?_⟩⟩
   obtain ⟨k, rfl⟩ : ∃ k : Nat, n = k := ⟨n.toNat, by omega⟩
   refine without_ok (AQ.ri (Nat.le_trans hm E.1)) (Nat.le_refl _) (by omega) (by omega) fun s9 h9 E9 O9 => ?_
   have hl : (q.take k ++ q.drop (k + 1)).length ≤ q.length := by simp; omega
   exact new h9 0 s9 d2 s9 (q.take k ++ q.drop (k + 1)) t (q.take k ++ q.drop (k + 1)) _ E9 (E9.blk C1) (.inr ⟨h2.size, Nat.le_refl _, O9⟩) (by omega) (.inr ⟨h2.size, Nat.le_refl _, O9⟩) (AT.fw E9 (Nat.le_trans hm E.1)) (.inl ⟨rfl, rfl, rfl⟩) rfl (by unfold oneA; rw [if_neg c, if_neg c2, if_neg c3, if_pos hg, Int.toNat_natCast])
  refine ⟨fun c4 => bad (by have := of_decide_eq_true c4; omega), fun c4 => ⟨_, C1.ld 0 rfl, ?_⟩⟩
  have c4 := of_decide_eq_false c4
  dsimp only
  by_cases c5 : ((d1.len : Nat) : Int) ≤ n
  ·rw [decide_eq_true c5]; exact bad (by omega)
  ·rw [decide_eq_false c5]; exact good (by omega)
end
end Go.Proofs.YthkimbiknhebeaaGreatDoor.St
namespace Go.Proofs.YthkimbiknhebeaaGreatDoor.St
open Go Go.RowKit Go.Tw
open Go.Proofs.YthkimbiknhebeaaGreatDoor.Wb (Ri lo hi)
set_option linter.unusedVariables false
def wIns : List UInt8 := [105, 110, 115]
def wCut : List UInt8 := [99, 117, 116]
def wSum : List UInt8 := [115, 117, 109]
def wList : List UInt8 := [108, 105, 115, 116]
def wSet : List UInt8 := [115, 101, 116]
abbrev p1 (w : List UInt8) : Prop := w = wIns ∨ w = wCut ∨ w = wSum
abbrev p2 (w : List UInt8) : Prop := w = wDel ∨ w = wPut ∨ w = wDrop ∨ w = wRank
abbrev p3 (w : List UInt8) : Prop := w = wList ∨ w = wSet
/-- how many numbers a line has -/
def ar (w : List UInt8) : Int := if p3 w then 0 else if p2 w then 1 else if p1 w then 2 else -1
def num? (l : List UInt8) : Option Int :=
 let m := sval (if l[0]? = some 45 then 1 else 0) l
 if Lib.itoa m = l ∧ -1073741824 ≤ m ∧ m ≤ 1073741824 then some m else none
theorem num_iff {l : List UInt8} {m : Int} : num? l = some m ↔ NumW l m := by
 have hs : Sg l (if l[0]? = some 45 then 1 else 0) := by
  by_cases e : l[0]? = some 45
  ·rw [if_pos e]; exact .inl ⟨rfl, e⟩
  ·rw [if_neg e]; exact .inr ⟨rfl, e⟩
 unfold num?
 constructor
 ·intro h
  dsimp only at h
  generalize sval (if l[0]? = some 45 then 1 else 0) l = v at h
  split at h
  ·rename_i c
   cases h
   exact ⟨c.1.symm, c.2.1, c.2.2⟩
  ·cases h
 ·intro h
  have e := (cand hs h.1).2
  dsimp only
  rw [e, if_pos ⟨h.1.symm, h.2.1, h.2.2⟩]
theorem num_none {l : List UInt8} : num? l = none ↔ ∀ m, ¬ NumW l m := by
 constructor
 ·intro h m hm; rw [num_iff.2 hm] at h; cases h
 ·intro h
  cases e : num? l with
  | none => rfl
  | some m => exact absurd (num_iff.1 e) (h m)
/-- numbers of words -/
def nums? : List (List UInt8) → Option (List Int)
 | [] => some []
 | w :: l => match num? w, nums? l with
  | some m, some ns => some (m :: ns)
  | _, _ => none
theorem nums_snoc : ∀ (l : List (List UInt8)) (w : List UInt8), nums? (l ++ [w]) = match nums? l, num? w with
  | some ns, some m => some (ns ++ [m])
  | _, _ => none
 | [], w => by simp only [List.nil_append, nums?]; cases num? w <;> rfl
 | x :: l, w => by
  simp only [List.cons_append, nums?]
  rw [nums_snoc l w]
  cases num? x <;> cases nums? l <;> cases num? w <;> rfl
theorem nums_len : ∀ {l : List (List UInt8)} {ns : List Int}, nums? l = some ns → ns.length = l.length
 | [], ns, h => by simp [nums?] at h; subst h; rfl
 | w :: l, ns, h => by
  simp only [nums?] at h
  split at h
  ·rename_i m ms e1 e2
   cases h
   simp [nums_len e2]
  ·cases h
theorem nums_bad : ∀ {l k : List (List UInt8)}, nums? l = none → nums? (l ++ k) = none
 | [], k, h => by cases h
 | w :: l, k, h => by
  simp only [List.cons_append, nums?] at h ⊢
  cases e : num? w with
  | none => rfl
  | some m =>
   rw [e] at h
   cases e2 : nums? l with
   | none => rw [nums_bad e2]
   | some ns => rw [e2] at h; cases h
theorem nums_rng : ∀ {l : List (List UInt8)} {ns : List Int}, nums? l = some ns → ∀ x ∈ ns, -1073741824 ≤ x ∧ x ≤ 1073741824
 | [], ns, h, x, hx => by simp [nums?] at h; subst h; cases hx
 | w :: l, ns, h, x, hx => by
  simp only [nums?] at h
  split at h
  ·rename_i m ms e1 e2
   cases h
   rcases List.mem_cons.1 hx with rfl | hx
   ·exact (num_iff.1 e1).2
   ·exact nums_rng e2 x hx
  ·cases h
/-- what a line of two numbers does, and answers -/
def twoA (w : List UInt8) (a b : Int) (q t : List Int) : List Int × List Int × List UInt8 :=
 if w = wIns then
  if 0 ≤ a ∧ a ≤ q.length then (q.take a.toNat ++ b :: q.drop a.toNat, t, Lib.itoa ((q.take a.toNat ++ b :: q.drop a.toNat).length : Int)) else (q, t, eRng)
 else if 0 ≤ a ∧ a ≤ b ∧ b ≤ q.length then
  if w = wSum then (q, t, Lib.itoa (w64 ((q.drop a.toNat).take (b.toNat - a.toNat)).sum))
  else ((q.drop a.toNat).take (b.toNat - a.toNat), t, Lib.itoa (((q.drop a.toNat).take (b.toNat - a.toNat)).length : Int))
 else (q, t, eRng)
def actA (w : List UInt8) (ns : List Int) (q t : List Int) : List Int × List Int × List UInt8 :=
 if ar w = 1 then oneA w (ns.headD 0) q t
 else if w = wList then (q, t, Lib.join (q.map Lib.itoa) [32])
 else if w = wSet then (q, t, Lib.join (t.map Lib.itoa) [32])
 else twoA w (ns.headD 0) ((ns.drop 1).headD 0) q t
/-- what a line does, and answers -/
def ansA (line : List UInt8) (q t : List Int) : List Int × List Int × List UInt8 :=
 match pcs 32 line with
 | [] => (q, t, eSyn)
 | w :: ws => if (ws.length : Int) = ar w then (match nums? ws with
  | none => (q, t, eSyn)
  | some ns => actA w ns q t) else (q, t, eSyn)
theorem rs_str {n : Nat} {h : Heap} {s : Sl} {l : List (List UInt8)} {i : Nat} {K : Addr → Prop} (S : Rs n 1 h s (l.map sV)) (hi : i < l.length) (hK : ∀ p, hcell h p = some (sV l[i]) → K p) : Ix s (i : Int) 1 K := by
 have ls : s.len = l.length := by have := S.len; simpa using this
 refine Rs.ix S (by omega) (by omega) (by decide) fun b o hb _ hc => hK _ ?_
 have := hc 0 (by decide)
 simp only [Nat.add_zero, Nat.mul_one] at this ⊢
 rw [this, List.getElem?_map, Int.toNat_natCast, List.getElem?_eq_getElem hi]; rfl
end Go.Proofs.YthkimbiknhebeaaGreatDoor.St
namespace Go.Proofs.YthkimbiknhebeaaGreatDoor.St
open Go Go.RowKit Go.Tw
open Go.Proofs.YthkimbiknhebeaaGreatDoor.Wb (Ri lo hi)
set_option linter.unusedVariables false
theorem pcs_mem (b : UInt8) : ∀ (l : List UInt8), ∀ p ∈ pcs b l, p.length ≤ l.length
  | [], p, hp => by simp [pcs] at hp; subst hp; simp
  | x :: l, p, hp => by
    have ih := pcs_mem b l
    rw [pcs_cons] at hp
    split at hp
    · rcases List.mem_cons.1 hp with rfl | hp
      · simp
      · have := ih p hp; simp only [List.length_cons]; omega
    · split at hp
      · simp at hp; subst hp; simp
      · rename_i q qs e
        rw [e] at ih
        rcases List.mem_cons.1 hp with rfl | hp
        · have := ih q (by simp); simp only [List.length_cons]; omega
        · have := ih p (List.mem_cons_of_mem _ hp); simp only [List.length_cons]; omega
theorem sum_bound : ∀ (l : List Int), (∀ x ∈ l, -1073741824 ≤ x ∧ x ≤ 1073741824) → -1073741824 * (l.length : Int) ≤ l.sum ∧ l.sum ≤ 1073741824 * (l.length : Int)
  | [], _ => by simp
  | x :: l, h => by
    have ih := sum_bound l fun y hy => h y (List.mem_cons_of_mem _ hy)
    have hx := h x (by simp)
    simp only [List.sum_cons, List.length_cons]
    omega
section
variable {r : World} {h : Heap}
theorem ret_ok {g : Heap} {c2 b : Nat} {x y : Sl} {X Y : List Int} {v : ByteArray} {cs : List Value} {R : Sl → Sl → ByteArray → Heap → Prop} (Eg : Fw h g) (hc : h.size ≤ c2) (hb : c2 < b) (B : Blk g c2 cs) (hcs : cs.length = 2) (A1 : Ap h.size b g x X) (A2 : Ap h.size b g y Y) (K : ∀ g', Fw h g' → RI g'.size g' x X → RI g'.size g' y Y → R x y v g') :
    St g (ad c2 0) 2 [Sl.v x, Sl.v y] fun g' => LdS g' (Addr.add (ad c2 0) 0) fun a => LdS g' (Addr.add (ad c2 0) 1) fun b => R a b v g' := by
  refine St.whole B hcs rfl fun g' B' o' z' => ⟨_, B'.ld 0 rfl, _, B'.ld 1 rfl, ?_⟩
  have hs : h.size ≤ g'.size := by have := Eg.1; omega
  exact K g' (Eg.over hc o' z') ((A1.over hc hb o').ri hs) ((A2.over hc hb o').ri hs)
theorem seq_ok {g : Heap} {c1 c2 b : Nat} {d1 d2 z : Sl} {Z Y : List Int} {cs : List Value} {R : Sl → Sl → ByteArray → Heap → Prop} (Eg : Fw h g) (hc1 : h.size ≤ c1) (hc12 : c1 < c2) (hb : c2 < b) (B1 : Blk g c1 [Sl.v d1, Sl.v d2]) (B2 : Blk g c2 cs) (hcs : cs.length = 2) (AZ : Ap h.size b g z Z) (AY : Ap h.size b g d2 Y) (hZ : Z.length < 9223372036854775807)
    (K : ∀ g', Fw h g' → RI g'.size g' z Z → RI g'.size g' d2 Y → R z d2 ⟨(Lib.itoa (Z.length : Int)).toArray⟩ g') :
    St g (Addr.add (ad c1 0) 0) 1 [Sl.v z] fun h10 => LdS h10 (Addr.add (ad c1 0) 0) fun x39 => LdS h10 (Addr.add (ad c1 0) 1) fun x41 => LdS h10 (Addr.add (ad c1 0) 0) fun x43 =>
        ref1_Digits r (x43.len : Int) h10 fun y45 h11 => (hcell h11 (Addr.add (ad c1 0) 0) = some (Sl.v x39)) ∧ (hcell h11 (Addr.add (ad c1 0) 1) = some (Sl.v x41)) ∧
        St h11 (ad c2 0) 2 [Sl.v x39, Sl.v x41] fun h12 => LdS h12 (Addr.add (ad c2 0) 0) fun x50 => LdS h12 (Addr.add (ad c2 0) 1) fun x52 => R x50 x52 y45 h12 := by
  refine St.at_ B1 (by simp) fun h10 B10 o10 z10 => ?_
  have Bx : Blk h10 c1 [Sl.v z, Sl.v d2] := B10
  have E10 : Fw h h10 := Eg.over hc1 o10 z10
  have AY := AY.over hc1 (Nat.lt_trans hc12 hb) o10
  have AZ := AZ.over hc1 (Nat.lt_trans hc12 hb) o10
  have lz := (AZ.ri E10.1).len
  have B7 := B2.other o10 (by omega)
  refine ⟨_, Bx.ld 0 rfl, _, Bx.ld 1 rfl, _, Bx.ld 0 rfl, ?_⟩
  dsimp only
  rw [lz]
  refine digits_ok (by omega) (by omega) fun h11 E11 => ?_
  have Bx := E11.blk Bx
  refine ⟨Bx.ld 0 rfl, Bx.ld 1 rfl, ?_⟩
  exact ret_ok (E10.trans E11) (by omega) hb (E11.blk B7) hcs (AZ.fw E11 E10.1) (AY.fw E11 E10.1) K
set_option maxHeartbeats 1600000 in
theorem answered_ok {d1 d2 : Sl} {q t : List Int} {line : List UInt8} {m : Nat} {R : Sl → Sl → ByteArray → Heap → Prop} (Q : RI m h d1 q) (T : RI m h d2 t) (hm : m ≤ h.size) (hr : Ri t) (hq : q.length ≤ 1048576) (ht : t.length ≤ 1048576)
    (hqi : ∀ x ∈ q, -1073741824 ≤ x ∧ x ≤ 1073741824) (hti : ∀ x ∈ t, -1073741824 ≤ x ∧ x ≤ 1073741824) (hl : line.length ≤ 1099511627776)
    (H : ∀ s1 s2 h', Fw h h' → RI h'.size h' s1 (ansA line q t).1 → RI h'.size h' s2 (ansA line q t).2.1 → R s1 s2 ⟨(ansA line q t).2.2.toArray⟩ h') : ref1_Answered r d1 d2 ⟨line.toArray⟩ h R := by
  apply ref1_Answered_of
  refine New.cells (cs := [Sl.v d1, Sl.v d2]) fun h1 E1 z1 B1 => New.cells (cs := [Sl.v Sl.nil, Sl.v Sl.nil]) fun h2 E2 z2 B2 => ?_
  have E := E1.trans E2
  have hc1 : h.size < h1.size := by omega
  have hc2 : h1.size < h2.size := by omega
  have lq := Q.len
  have lt := T.len
  refine cut_ok (b := 32) (by show line.length < _; omega) fun y10 h3 E3 O3 => ?_
  have E03 := E.trans E3
  have hW : (pcs 32 line).length ≤ line.length + 1 := pcs_len _ _
  have hne := pcs_ne 32 line
  have hmem : ∀ p ∈ pcs 32 line, p.length ≤ line.length := pcs_mem 32 line
  change Own h2.size 1 h3 y10 ((pcs 32 line).map sV) at O3
  unfold ansA at H
  generalize pcs 32 line = W at *
  cases W with
  | nil => exact absurd rfl hne
  | cons w ws =>
  have ly : y10.len = ws.length + 1 := by have := O3.len; simpa using this
  have C1 := E3.blk (E2.blk B1)
  have C2 := E3.blk B2
  have AQ : ∀ {g : Heap}, Fw h3 g → Ap h.size h2.size g d1 q := fun Eg => .inl ⟨m, hm, Rs.ext Q (E03.trans Eg) hm⟩
  have AT : ∀ {g : Heap}, Fw h3 g → Ap h.size h2.size g d2 t := fun Eg => .inl ⟨m, hm, Rs.ext T (E03.trans Eg) hm⟩
  have wx : ∀ {g : Heap} {K : Addr → Prop}, Fw h3 g → (∀ p, hcell g p = some (sV w) → K p) → Ix y10 0 1 K := fun Eg hK => rs_str (l := w :: ws) (i := 0) (O3.ext Eg).rs (by simp) hK
  have keep : ∀ {g : Heap} {an : List UInt8}, Fw h3 g → (∀ s1 s2 h', Fw h h' → RI h'.size h' s1 q → RI h'.size h' s2 t → R s1 s2 ⟨an.toArray⟩ h') →
      St g (ad h1.size 0) 2 [Sl.v d1, Sl.v d2] fun g' => LdS g' (Addr.add (ad h1.size 0) 0) fun a => LdS g' (Addr.add (ad h1.size 0) 1) fun b => R a b ⟨an.toArray⟩ g' := fun {g an} Eg K =>
    ret_ok (E03.trans Eg) (Nat.le_of_lt hc1) hc2 (Eg.blk C2) rfl (AQ Eg) (AT Eg) fun g' E' => K _ _ g' E'
  intro J12 HJ12
  have f12 : ∀ y, y = decide (p1 w) → J12 y := by
    intro y hy
    subst hy
    refine HJ12 _ ?_
    intro J15 HJ15
    have f15 : J15 (if p1 w then 2 else -1) := by
      refine HJ15 _ ?_
      intro J18 HJ18
      have f18 : ∀ y, y = decide (p2 w) → J18 y := by
        intro y hy
        subst hy
        refine HJ18 _ ?_
        intro J21 HJ21
        have f21 : J21 (if p2 w then 1 else if p1 w then 2 else -1) := by
          refine HJ21 _ ?_
          intro J24 HJ24
          have f24 : ∀ y, y = decide (p3 w) → J24 y := by
            intro y hy
            subst hy
            refine HJ24 _ ?_
            intro J27 HJ27
            have f27 : J27 (ar w) := by
              have arb : -1 ≤ ar w ∧ ar w ≤ 2 := by unfold ar; repeat' split
                                                    all_goals omega
              refine HJ27 _ ⟨fun c => ?_, fun c => ?_⟩
              · have c : ¬ ((y10.len : Int) = w64 (ar w + 1)) := by simpa using c
                rw [w64_of (by omega) (by omega), ly] at c
                have hno : ¬ ((ws.length : Int) = ar w) := by omega
                dsimp only at H
                rw [if_neg hno] at H
                exact ⟨_, C1.ld 0 rfl, _, C1.ld 1 rfl, keep (Fw.refl _) H⟩
              · have c : (y10.len : Int) = w64 (ar w + 1) := by simpa using c
                rw [w64_of (by omega) (by omega), ly] at c
                have har : (ws.length : Int) = ar w := by omega
                dsimp only at H
                rw [if_pos har] at H
                intro X HX
                have key : ∀ (d i : Nat) (ns : List Int) (so : Sl) (h5 : Heap), i + d = ws.length → nums? (ws.take i) = some ns → Fw h3 h5 → Own h3.size 1 h5 so (ns.map iV) → X so ((i + 1 : Nat) : Int) h5 := by
                  intro d
                  induction d with
                  | succ d ih =>
                    intro i ns so h5 hi hn E5 O5
                    have hil : i < ws.length := by omega
                    have nl := nums_len hn
                    rw [List.length_take] at nl
                    have et : ws.take (i + 1) = ws.take i ++ [ws[i]] := by rw [List.take_add_one, List.getElem?_eq_getElem hil]; rfl
                    have eb : ws = ws.take (i + 1) ++ ws.drop (i + 1) := (List.take_append_drop _ _).symm
                    refine HX _ _ _ ⟨fun _ => ?_, fun c => absurd (of_decide_eq_false c) (by omega)⟩
                    refine rs_str (l := w :: ws) (i := i + 1) (O3.ext E5).rs (by simp; omega) fun p hp => ⟨_, hp, ?_⟩
                    rw [List.getElem_cons_succ]
                    refine number_ok (by show (ws[i]).length < _; have := hmem ws[i] (List.mem_cons_of_mem _ (List.getElem_mem hil)); omega) (fun hno h6 E6 => ⟨fun _ => ?_, fun c => by cases c⟩) fun m' h6 hm' E6 => ⟨fun c => (by cases c), fun _ => ?_⟩
                    · have hbad : nums? ws = none := by
                        rw [eb]
                        apply nums_bad
                        rw [et, nums_snoc, hn, num_none.2 hno]
                      rw [hbad] at H
                      have C6 := (E5.trans E6).blk C1
                      exact ⟨_, C6.ld 0 rfl, _, C6.ld 1 rfl, keep (E5.trans E6) H⟩
                    · have lo := O5.len
                      rw [List.length_map] at lo
                      refine App.push (cs := [iV m']) (O5.ext E6) rfl rfl (one_all rfl) (E5.trans E6).1 (by omega) fun s7 h7 G => ?_
                      rw [w64_of (n := ((i + 1 : Nat) : Int) + 1) (by omega) (by omega)]
                      refine ih (i + 1) (ns ++ [m']) s7 h7 (by omega) (by rw [et, nums_snoc, hn, num_iff.2 hm']) ((E5.trans E6).trans' G.ext) ?_
                      rw [List.map_append]; exact G.own
                  | zero =>
                    intro i ns so h5 hi hn E5 O5
                    obtain rfl : i = ws.length := by omega
                    rw [List.take_length] at hn
                    rw [hn] at H
                    have nl := nums_len hn
                    have C5 := E5.blk C1
                    have hlen := O5.len
                    rw [List.length_map] at hlen
                    refine HX _ _ _ ⟨fun c => absurd (of_decide_eq_true c) (by omega), fun _ => ⟨fun c => ?_, fun c => ?_⟩⟩
                    · have c := of_decide_eq_true c
                      dsimp only at H
                      unfold actA at H
                      rw [if_pos c] at H
                      obtain ⟨n, rfl⟩ : ∃ n, ns = [n] := List.length_eq_one_iff.1 (by omega)
                      refine ⟨_, C5.ld 0 rfl, _, C5.ld 1 rfl, wx E5 fun p hp => ⟨_, hp, own_int (i := 0) O5 (by simp) fun b _ hc => ⟨_, hc, ?_⟩⟩⟩
                      have E05 := E03.trans E5
                      refine one_ok (m := m) (Rs.ext Q E05 hm) (Rs.ext T E05 hm) (by have := E05.1; omega) hr (by omega) (by omega) fun s1 s2 g Eg R1 R2 => ?_
                      have hb5 : h2.size ≤ h5.size := (E3.trans E5).1
                      exact ret_ok (E05.trans Eg) (Nat.le_of_lt hc1) hc2 ((E5.trans Eg).blk C2) rfl (R1.weak hm hb5) (R2.weak hm hb5) fun g' E' => H _ _ g' E'
                    · have c := of_decide_eq_false c
                      have E05 := E03.trans E5
                      have hb5 : h2.size ≤ h5.size := (E3.trans E5).1
                      have Q5 : RI m h5 d1 q := Rs.ext Q E05 hm
                      have T5 : RI m h5 d2 t := Rs.ext T E05 hm
                      have hm5 : m ≤ h5.size := Nat.le_trans hm E05.1
                      dsimp only at H
                      unfold actA at H
                      rw [if_neg c] at H
                      refine wx E5 fun p hp => ⟨_, hp, fun c1 => ?_, fun c1 => wx E5 fun p hp => ⟨_, hp, fun c2 => ?_, fun c2 => wx E5 fun p hp => ⟨_, hp, fun c3 => ?_, fun c3 => ?_⟩⟩⟩
                      · have c1 := ba_eq (b := wList) (of_decide_eq_true c1)
                        rw [if_pos c1] at H
                        refine ⟨_, C5.ld 0 rfl, _, C5.ld 1 rfl, _, C5.ld 0 rfl, text_ok Q5 hm5 (by omega) (fun x hx => by have := hqi x hx; omega) fun h6 E6 => ?_⟩
                        have C6 := E6.blk C5
                        exact ⟨C6.ld 0 rfl, C6.ld 1 rfl, keep (E5.trans E6) H⟩
                      · have c1 := ba_ne (b := wList) (of_decide_eq_false c1)
                        have c2 := ba_eq (b := wSet) (of_decide_eq_true c2)
                        rw [if_neg c1, if_pos c2] at H
                        refine ⟨_, C5.ld 0 rfl, _, C5.ld 1 rfl, _, C5.ld 1 rfl, text_ok T5 hm5 (by omega) (fun x hx => by have := hti x hx; omega) fun h6 E6 => ?_⟩
                        have C6 := E6.blk C5
                        exact ⟨C6.ld 0 rfl, C6.ld 1 rfl, keep (E5.trans E6) H⟩
                      all_goals
                        have c1 := ba_ne (b := wList) (of_decide_eq_false c1)
                        have c2 := ba_ne (b := wSet) (of_decide_eq_false c2)
                        rw [if_neg c1, if_neg c2] at H
                        have h3 : ¬ p3 w := fun e => e.elim c1 c2
                        have h2' : ¬ p2 w := fun e => c (by unfold ar; rw [if_neg h3, if_pos e])
                        have h1' : p1 w := by
                          apply Classical.byContradiction
                          intro e
                          have : ar w = -1 := by unfold ar; rw [if_neg h3, if_neg h2', if_neg e]
                          omega
                        have a2 : ar w = 2 := by unfold ar; rw [if_neg h3, if_neg h2', if_pos h1']
                        obtain ⟨a, b, rfl⟩ : ∃ a b, ns = [a, b] := by
                          match ns, nl with
                          | [a, b], _ => exact ⟨a, b, rfl⟩
                          | [], nl => simp at nl; omega
                          | [_], nl => simp at nl; omega
                          | _ :: _ :: _ :: _, nl => simp at nl; omega
                        have ia : ∀ {K : Addr → Prop}, (∀ p, hcell h5 p = some (iV a) → K p) → Ix so 0 1 K := fun hK => own_int (i := 0) O5 (by simp) fun b _ hc => hK _ hc
                        have ib : ∀ {K : Addr → Prop}, (∀ p, hcell h5 p = some (iV b) → K p) → Ix so 1 1 K := fun hK => own_int (i := 1) O5 (by simp) fun b _ hc => hK _ hc
                        change ∀ s1 s2 h', Fw h h' → RI h'.size h' s1 (twoA w a b q t).1 → RI h'.size h' s2 (twoA w a b q t).2.1 → R s1 s2 ⟨(twoA w a b q t).2.2.toArray⟩ h' at H
                        unfold twoA at H
                      · have c3 := ba_eq (b := wIns) (of_decide_eq_true c3)
                        rw [if_pos c3] at H
                        intro J HJ
                        have bad : ¬ (0 ≤ a ∧ a ≤ q.length) → J true := fun hb => HJ _ ⟨fun _ => by
                          rw [if_neg hb] at H
                          exact ⟨_, C5.ld 0 rfl, _, C5.ld 1 rfl, keep E5 H⟩, fun c => by cases c⟩
                        have good : (0 ≤ a ∧ a ≤ q.length) → J false := fun hg => by
                          rw [if_pos hg] at H
                          refine HJ _ ⟨fun c => (by cases c), fun _ => ⟨_, C5.ld 0 rfl, ia fun p hp => ⟨_, hp, ib fun p2 hp2 => ⟨_, hp2, ?_⟩⟩⟩⟩
                          obtain ⟨k, rfl⟩ : ∃ k : Nat, a = k := ⟨a.toNat, by omega⟩
                          rw [Int.toNat_natCast] at H
                          refine with_ok Q5 hm5 (by omega) (by omega) fun s9 h9 E9 O9 => ?_
                          have hl : (q.take k ++ b :: q.drop k).length ≤ q.length + 1 := by simp; omega
                          exact seq_ok (E05.trans E9) (Nat.le_refl _) hc1 hc2 ((E5.trans E9).blk C1) ((E5.trans E9).blk C2) rfl (.inr ⟨h5.size, hb5, O9⟩) (AT (E5.trans E9)) (by omega) fun g' E' => H _ _ g' E'
                        refine ia fun p hp => ⟨_, hp, fun c4 => bad (by have := of_decide_eq_true c4; omega), fun c4 => ia fun p hp => ⟨_, hp, _, C5.ld 0 rfl, ?_⟩⟩
                        have c4 := of_decide_eq_false c4
                        dsimp only
                        by_cases c5 : ((d1.len : Nat) : Int) < a
                        · rw [decide_eq_true c5]; exact bad (by omega)
                        · rw [decide_eq_false c5]; exact good (by omega)
                      · have c3 := ba_ne (b := wIns) (of_decide_eq_false c3)
                        rw [if_neg c3] at H
                        intro J HJ
                        have bad : ¬ (0 ≤ a ∧ a ≤ b ∧ b ≤ q.length) → J true := fun hb => HJ _ ⟨fun _ => by
                          rw [if_neg hb] at H
                          exact ⟨_, C5.ld 0 rfl, _, C5.ld 1 rfl, keep E5 H⟩, fun c => by cases c⟩
                        have good : (0 ≤ a ∧ a ≤ b ∧ b ≤ q.length) → J false := fun hg => by
                          rw [if_pos hg] at H
                          obtain ⟨k, rfl⟩ : ∃ k : Nat, a = k := ⟨a.toNat, by omega⟩
                          obtain ⟨j, rfl⟩ : ∃ j : Nat, b = j := ⟨b.toNat, by omega⟩
                          rw [Int.toNat_natCast, Int.toNat_natCast] at H
                          have hl : ((q.drop k).take (j - k)).length ≤ q.length := by simp; omega
                          have hsb := sum_bound ((q.drop k).take (j - k)) fun x hx => hqi x (List.mem_of_mem_drop (List.mem_of_mem_take hx))
                          refine HJ _ ⟨fun c => (by cases c), fun _ => wx E5 fun p hp => ⟨_, hp, fun c4 => ?_, fun c4 => ?_⟩⟩
                          · have c4 := ba_eq (b := wSum) (of_decide_eq_true c4)
                            rw [if_pos c4] at H
                            refine ⟨_, C5.ld 0 rfl, _, C5.ld 1 rfl, _, C5.ld 0 rfl, ia fun p hp => ⟨_, hp, ib fun p2 hp2 => ⟨_, hp2, ?_⟩⟩⟩
                            refine Sub.in_ Q5 (by omega) (by omega) fun z Z => sumOf_ok Z (by omega) ⟨C5.ld 0 rfl, C5.ld 1 rfl, ?_⟩
                            refine digits_ok (by rw [w64_of (by omega) (by omega)]; omega) (by rw [w64_of (by omega) (by omega)]; omega) fun h6 E6 => ?_
                            have C6 := E6.blk C5
                            exact ⟨C6.ld 0 rfl, C6.ld 1 rfl, keep (E5.trans E6) H⟩
                          · have c4 := ba_ne (b := wSum) (of_decide_eq_false c4)
                            rw [if_neg c4] at H
                            refine ⟨_, C5.ld 0 rfl, ia fun p hp => ⟨_, hp, ib fun p2 hp2 => ⟨_, hp2, ?_⟩⟩⟩
                            refine Sub.in_ Q5 (by omega) (by omega) fun z Z => ?_
                            exact seq_ok E05 (Nat.le_refl _) hc1 hc2 C5 (E5.blk C2) rfl (.inl ⟨m, hm, Z⟩) (AT E5) (by omega) fun g' E' => H _ _ g' E'
                        refine ia fun p hp => ⟨_, hp, fun c4 => bad (by have := of_decide_eq_true c4; omega), fun c4 => ib fun p hp => ⟨_, hp, ia fun p hp => ⟨_, hp, fun c5 => bad (by have := of_decide_eq_true c5; omega), fun c5 => ib fun p hp => ⟨_, hp, _, C5.ld 0 rfl, ?_⟩⟩⟩⟩
                        have c4 := of_decide_eq_false c4
                        have c5 := of_decide_eq_false c5
                        dsimp only
                        by_cases c6 : ((d1.len : Nat) : Int) < b
                        · rw [decide_eq_true c6]; exact bad (by omega)
                        · rw [decide_eq_false c6]; exact good (by omega)
                exact key ws.length 0 [] Sl.nil h3 (by omega) rfl (Fw.refl _) (by simpa using Own.nil h3.size 1 h3)
            refine ⟨fun c => ?_, fun c => ?_⟩
            · unfold ar at f27; rw [if_pos (of_decide_eq_true c)] at f27; exact f27
            · unfold ar at f27; rw [if_neg (of_decide_eq_false c)] at f27; exact f27
          refine wx (Fw.refl _) fun p hp => ⟨_, hp, fun c => f24 _ ?_, fun c => wx (Fw.refl _) fun p hp => ⟨_, hp, f24 _ ?_⟩⟩
          · exact (decide_eq_true (.inl (ba_eq (b := wList) (of_decide_eq_true c)))).symm
          · have c := ba_ne (b := wList) (of_decide_eq_false c)
            exact decide_eq_decide.2 ⟨fun e => .inr (ba_eq (b := wSet) e), fun e => e.elim (fun e => absurd e c) (fun e => by rw [e]; rfl)⟩
        refine ⟨fun c => ?_, fun c => ?_⟩
        · rw [if_pos (of_decide_eq_true c)] at f21; exact f21
        · rw [if_neg (of_decide_eq_false c)] at f21; exact f21
      refine wx (Fw.refl _) fun p hp => ⟨_, hp, fun c => f18 _ ?_, fun c => wx (Fw.refl _) fun p hp => ⟨_, hp, fun c2 => f18 _ ?_, fun c2 => wx (Fw.refl _) fun p hp => ⟨_, hp, fun c3 => f18 _ ?_, fun c3 => wx (Fw.refl _) fun p hp => ⟨_, hp, f18 _ ?_⟩⟩⟩⟩
      · exact (decide_eq_true (.inl (ba_eq (b := wDel) (of_decide_eq_true c)))).symm
      · exact (decide_eq_true (.inr (.inl (ba_eq (b := wPut) (of_decide_eq_true c2))))).symm
      · exact (decide_eq_true (.inr (.inr (.inl (ba_eq (b := wDrop) (of_decide_eq_true c3)))))).symm
      · have c := ba_ne (b := wDel) (of_decide_eq_false c)
        have c2 := ba_ne (b := wPut) (of_decide_eq_false c2)
        have c3 := ba_ne (b := wDrop) (of_decide_eq_false c3)
        refine decide_eq_decide.2 ⟨fun e => .inr (.inr (.inr (ba_eq (b := wRank) e))), fun e => ?_⟩
        rcases e with e | e | e | e
        · exact absurd e c
        · exact absurd e c2
        · exact absurd e c3
        · rw [e]; rfl
    refine ⟨fun c => ?_, fun c => ?_⟩
    · rw [if_pos (of_decide_eq_true c)] at f15; exact f15
    · rw [if_neg (of_decide_eq_false c)] at f15; exact f15
  refine wx (Fw.refl _) fun p hp => ⟨_, hp, fun c => f12 _ ?_, fun c => wx (Fw.refl _) fun p hp => ⟨_, hp, fun c2 => f12 _ ?_, fun c2 => wx (Fw.refl _) fun p hp => ⟨_, hp, f12 _ ?_⟩⟩⟩
  · exact (decide_eq_true (.inl (ba_eq (b := wIns) (of_decide_eq_true c)))).symm
  · exact (decide_eq_true (.inr (.inl (ba_eq (b := wCut) (of_decide_eq_true c2))))).symm
  · have c := ba_ne (b := wIns) (of_decide_eq_false c)
    have c2 := ba_ne (b := wCut) (of_decide_eq_false c2)
    refine decide_eq_decide.2 ⟨fun e => .inr (.inr (ba_eq (b := wSum) e)), fun e => ?_⟩
    rcases e with e | e | e
    · exact absurd e c
    · exact absurd e c2
    · rw [e]; rfl
end
end Go.Proofs.YthkimbiknhebeaaGreatDoor.St
