/- What is told of many: what the functions do. Trees with both ends at hand: what lies in memory; one more thing at an end. Trees with both ends at hand: put and taken at the ends. Trees with both ends at hand: joined. Trees with both ends at hand: 'joined'. Trees with both ends at hand: cut where a beginning is so. -/
import Derived.Test.YthkimbiknhebeaaGreatDoorGMono
import Derived.Test.YthkimbiknhebeaaGreatDoorTwB
import Derived.Test.YthkimbiknhebeaaGreatDoorGFing
import Derived.Test.YthkimbiknhebeaaGreatDoorGFingC
namespace Go.Proofs.YthkimbiknhebeaaGreatDoor.Mo
open Go Go.RowKit Go.Tw Go.Mono
set_option linter.unusedVariables false
section
variable {r : World} {h : Heap}
theorem tmod_pos {n : Int} (h0 : 0 ≤ n) : Int.tmod n 2147483647 = n % prime := Int.tmod_eq_emod_of_nonneg h0
theorem tmod_neg {n : Int} (h0 : n < 0) : Int.tmod n 2147483647 = -((-n) % prime) := by
 rw [← tmod_pos (n := -n) (by omega), Int.neg_tmod, Int.neg_neg]
theorem modv {n : Int} : (Int.tmod n 2147483647 < 0 → Int.tmod n 2147483647 + 2147483647 = n % prime) ∧ (¬ Int.tmod n 2147483647 < 0 → Int.tmod n 2147483647 = n % prime) ∧ -2147483647 < Int.tmod n 2147483647 ∧ Int.tmod n 2147483647 < 2147483647 := by
 rcases Int.lt_or_le n 0 with h | h
 ·rw [tmod_neg h]
  simp only [prime]
  refine ⟨fun _ => by omega, fun _ => by omega, by omega, by omega⟩
 ·rw [tmod_pos h]
  simp only [prime]
  refine ⟨fun _ => by omega, fun _ => trivial, by omega, by omega⟩
theorem mod_ok {n : Int} {R : Int → Heap → Prop} (H : R (n % prime) h) : mono_mod r n h R := by
 apply mono_mod_of
 intro J HJ
 have m := modv (n := n)
 refine ⟨fun c => HJ _ ?_, fun c => HJ _ ?_⟩
 ·have c := of_decide_eq_true c
  rw [m.1 c, w64_of (by simp only [prime]; omega) (by simp only [prime]; omega)]; exact H
 ·have c := of_decide_eq_false c
  rw [m.2.1 c]; exact H
theorem mul_b {o b : Int} (h1 : 0 ≤ o) (h2 : o < prime) (h3 : 0 ≤ b) (h4 : b < prime) : 0 ≤ o * b ∧ o * b ≤ 4611686009837453316 := by
 refine ⟨Int.mul_nonneg h1 h3, ?_⟩
 have := Int.mul_le_mul (a := o) (c := 2147483646) (b := b) (d := 2147483646) (by simp only [prime] at h2; omega) (by simp only [prime] at h4; omega) h3 (by omega)
 omega
theorem and_one {n : Nat} (hn : n < 4611686018427387904) : bAnd .i64 (n : Int) 1 = ((n % 2 : Nat) : Int) := by
 unfold bAnd
 have e1 : (BitVec.ofInt IntKind.i64.bits (n : Int) &&& BitVec.ofInt IntKind.i64.bits 1).toNat = n % 2 := by
  rw [BitVec.toNat_and]
  have e2 : (BitVec.ofInt IntKind.i64.bits (n : Int)).toNat = n := by
   show (BitVec.ofInt 64 (n : Int)).toNat = n
   rw [BitVec.toNat_ofInt]
   omega
  have e3 : (BitVec.ofInt IntKind.i64.bits 1).toNat = 1 := by decide
  rw [e2, e3, Nat.and_one_is_mod]
 rw [e1]
 show w64 _ = _
 rw [w64_of] <;> omega
theorem shr_one (n : Nat) : sShr .i64 (n : Int) 1 = ((n / 2 : Nat) : Int) := by
 show Int.fdiv (n : Int) (2 ^ 1) = _
 rw [Int.fdiv_eq_ediv_of_nonneg _ (by decide)]
 omega
theorem power_ok {n : Nat} {R : Int → Heap → Prop} (hn : n < 4611686018427387904) (H : R (131 ^ n % prime) h) : mono_power r (n : Int) h R := by
 apply mono_power_of
 intro X HX
 have p0 : ∀ y : Int, 0 ≤ y % prime := fun y => Int.emod_nonneg _ (by decide)
 have p1 : ∀ y : Int, y % prime < prime := fun y => Int.emod_lt_of_pos _ (by decide)
 have key : ∀ (k : Nat) (o b : Int), k < 4611686018427387904 → 0 ≤ o → o < prime → 0 ≤ b → b < prime → (o * b ^ k) % prime = 131 ^ n % prime → X (k : Int) o b := by
  intro k
  induction k using Nat.strongRecOn with
  | ind k ih =>
   intro o b hk o0 o1 b0 b1 he
   refine HX _ _ _ ⟨fun c => ?_, fun c => ?_⟩
   ·have c : 0 < k := by have := of_decide_eq_true c; omega
    intro J HJ
    have bb := mul_b b0 b1 b0 b1
    have ob := mul_b o0 o1 b0 b1
    have step : ∀ o', 0 ≤ o' → o' < prime → (o' * (b * b % prime) ^ (k / 2)) % prime = 131 ^ n % prime → J o' := fun o' h0 h1 he' => by
     refine HJ _ ?_
     rw [shr_one, w64_of (by omega) (by omega), tmod_pos bb.1]
     exact ih (k / 2) (by omega) o' _ (by omega) h0 h1 (p0 _) (p1 _) he'
    rw [and_one hk]
    refine ⟨fun q => ?_, fun q => ?_⟩
    ·have q : k % 2 = 1 := by have := of_decide_eq_true q; omega
     rw [w64_of (by omega) (by omega), tmod_pos ob.1]
     exact step _ (p0 _) (p1 _) ((odd_step q).trans he)
    ·have q : k % 2 = 0 := by have := of_decide_eq_false q; omega
     exact step o o0 o1 ((even_step q).trans he)
   ·have c : k = 0 := by have := of_decide_eq_false c; omega
    subst c
    rw [Int.pow_zero, Int.mul_one, Int.emod_eq_of_lt o0 o1] at he
    rw [he]; exact H
 exact key n 1 131 hn (by decide) (by decide) (by decide) (by decide) (by rw [Int.one_mul])
theorem none_ok {R : Int → Int → Int → Int → Int → Heap → Prop} (H : ∀ h', Fw h h' → R (meas []).n (meas []).sum (meas []).least (meas []).most (meas []).hash h') : mono_None r h R := by
 apply mono_None_of
 refine New.cells fun h1 E1 z1 B1 => St.whole B1 rfl rfl fun h2 B2 o2 z2 => ⟨_, B2.ld 0 rfl, _, B2.ld 1 rfl, _, B2.ld 2 rfl, _, B2.ld 3 rfl, _, B2.ld 4 rfl, ?_⟩
 have e : w64 0 = 0 := by rw [w64_of] <;> omega
 have := H h2 (E1.over (Nat.le_refl _) o2 z2)
 simp only [meas, List.sum_nil, e] at this
 exact this
theorem meas_one {x : Int} (hx : In x) : meas [x] = ⟨1, x, x, x, (x % prime + 1) % prime⟩ := by
 have e1 : w64 ([x] : List Int).sum = x := by simp only [List.sum_cons, List.sum_nil, Int.add_zero]; exact w64_of hx.1 hx.2
 have e2 : lst [x] = x := by show min x 9223372036854775807 = x; have := hx.2; omega
 have e3 : mst [x] = x := by show max x (-9223372036854775808) = x; have := hx.1; omega
 have e4 : hsh [x] = (x % prime + 1) % prime := by show (131 * 0 + x % prime + 1) % prime = _; rw [Int.mul_zero, Int.zero_add]
 unfold meas
 rw [e1, e2, e3, e4]; rfl
theorem one_ok {x : Int} {R : Int → Int → Int → Int → Int → Heap → Prop} (hx : In x) (H : ∀ h', Fw h h' → R (meas [x]).n (meas [x]).sum (meas [x]).least (meas [x]).most (meas [x]).hash h') : mono_One r x h R := by
 apply mono_One_of
 have p0 : ∀ y : Int, 0 ≤ y % prime := fun y => Int.emod_nonneg _ (by decide)
 have p1 : ∀ y : Int, y % prime < prime := fun y => Int.emod_lt_of_pos _ (by decide)
 refine New.cells fun h1 E1 z1 B1 => mod_ok ?_
 have a0 : 0 ≤ x % 2147483647 := p0 x
 have a1 : x % 2147483647 < 2147483647 := p1 x
 rw [w64_of (n := x % prime + 1) (by show _ ≤ x % 2147483647 + 1; omega) (by show x % 2147483647 + 1 < _; omega)]
 refine mod_ok ?_
 refine St.whole B1 rfl rfl fun h2 B2 o2 z2 => ⟨_, B2.ld 0 rfl, _, B2.ld 1 rfl, _, B2.ld 2 rfl, _, B2.ld 3 rfl, _, B2.ld 4 rfl, ?_⟩
 have := H h2 (E1.over (Nat.le_refl _) o2 z2)
 rw [meas_one hx] at this
 exact this
theorem join_ok {a b : List Int} {R : Int → Int → Int → Int → Int → Heap → Prop} (hz : a.length + b.length < 4611686018427387904) (H : ∀ h', Fw h h' → R (meas (a ++ b)).n (meas (a ++ b)).sum (meas (a ++ b)).least (meas (a ++ b)).most (meas (a ++ b)).hash h') :
  mono_Join r (meas a).n (meas a).sum (meas a).least (meas a).most (meas a).hash (meas b).n (meas b).sum (meas b).least (meas b).most (meas b).hash h R := by
 apply mono_Join_of
 refine New.cells fun h1 E1 z1 B1 => New.cells fun h2 E2 z2 B2 => New.cells fun h3 E3 z3 B3 => ?_
 have C1 := E3.blk (E2.blk B1)
 have C2 := E3.blk B2
 refine ⟨_, C1.ld 0 rfl, _, C2.ld 0 rfl, _, C1.ld 1 rfl, _, C2.ld 1 rfl, _, C1.ld 2 rfl, _, C2.ld 2 rfl, _, C1.ld 3 rfl, _, C2.ld 3 rfl, _, C1.ld 4 rfl, _, C2.ld 0 rfl, _, C2.ld 4 rfl, mod_ok ?_⟩
 refine ⟨C2.ld 4 rfl, C2.ld 0 rfl, C2.ld 3 rfl, C1.ld 3 rfl, C2.ld 2 rfl, C1.ld 2 rfl, C2.ld 1 rfl, C1.ld 1 rfl, C2.ld 0 rfl, C1.ld 0 rfl, ?_⟩
 refine power_ok (n := b.length) (by omega) ?_
 refine ⟨C2.ld 4 rfl, C2.ld 3 rfl, C1.ld 3 rfl, C2.ld 2 rfl, C1.ld 2 rfl, C2.ld 1 rfl, C1.ld 1 rfl, C2.ld 0 rfl, C1.ld 0 rfl, mod_ok ?_⟩
 refine ⟨C2.ld 3 rfl, C1.ld 3 rfl, C2.ld 2 rfl, C1.ld 2 rfl, C2.ld 1 rfl, C1.ld 1 rfl, C2.ld 0 rfl, C1.ld 0 rfl, ?_⟩
 have ha := hsh_in a
 have hb := hsh_in b
 have ea : (meas a).hash % prime = hsh a := Int.emod_eq_of_lt ha.1 ha.2
 have eb : (meas b).hash % prime = hsh b := Int.emod_eq_of_lt hb.1 hb.2
 have hm := mul_b ha.1 ha.2 (Int.emod_nonneg (131 ^ b.length) (by decide : prime ≠ 0)) (Int.emod_lt_of_pos (131 ^ b.length) (by decide : (0 : Int) < prime))
 have en : w64 ((meas a).n + (meas b).n) = (meas a).n + (meas b).n := by
  show w64 ((a.length : Int) + (b.length : Int)) = _
  rw [w64_of] <;> first | rfl | omega
 have hbp : hsh b < 2147483647 := hb.2
 have eh : Int.tmod (w64 (w64 ((meas a).hash % prime * (131 ^ b.length % prime)) + (meas b).hash % prime)) 2147483647 = ((meas a).hash * (131 ^ b.length % prime) + (meas b).hash) % prime := by
  rw [ea, eb, w64_of (n := hsh a * (131 ^ b.length % prime)) (by omega) (by omega), w64_of (by omega) (by omega), tmod_pos (by omega)]
  rfl
 refine St.whole B3 rfl rfl fun h7 B7 o7 z7 => ⟨_, B7.ld 0 rfl, _, B7.ld 1 rfl, _, B7.ld 2 rfl, _, B7.ld 3 rfl, _, B7.ld 4 rfl, ?_⟩
 have := H h7 (((E1.trans E2).trans E3).over (c := h2.size) (E1.trans E2).1 o7 z7)
 rw [meas_append] at this
 simp only at this
 rw [en, eh]
 exact this
end
end Go.Proofs.YthkimbiknhebeaaGreatDoor.Mo
namespace Go.Proofs.YthkimbiknhebeaaGreatDoor.Mo
open Go Go.RowKit Go.Tw Go.Mono Go.Fing
set_option linter.unusedVariables false
abbrev pV (p : Addr) : Value := .pointer (some p)
/-- a slice of these; its block is one of A -/
structure Ps (A : Nat → Prop) (h : Heap) (s : Sl) (ps : List Addr) : Prop where
 len : s.len = ps.length
 cap : s.len ≤ s.cap
 at_ : ps = [] ∨ ∃ b o, s.a = some (ad b o) ∧ A b ∧ b < h.size ∧ ∀ i, i < ps.length → hcell h (ad b (o + i)) = (ps.map pV)[i]?
def Th (A : Nat → Prop) (h : Heap) : Fing.T → Addr → Prop
 | .num x, p => ∃ c, p = ad c 0 ∧ A c ∧ Blk h c ((meas [x]).c ++ [iV x, Sl.v Sl.nil])
 | .n2 a b, p => ∃ c s pa pb, p = ad c 0 ∧ A c ∧ Blk h c ((meas (a.l ++ b.l)).c ++ [iV 0, Sl.v s]) ∧ Ps A h s [pa, pb] ∧ Th A h a pa ∧ Th A h b pb
 | .n3 a b d, p => ∃ c s pa pb pd, p = ad c 0 ∧ A c ∧ Blk h c ((meas (a.l ++ (b.l ++ d.l))).c ++ [iV 0, Sl.v s]) ∧ Ps A h s [pa, pb, pd] ∧ Th A h a pa ∧ Th A h b pb ∧ Th A h d pd
def Ths (A : Nat → Prop) (h : Heap) : List Fing.T → List Addr → Prop
 | [], [] => True
 | t :: ts, p :: ps => Th A h t p ∧ Ths A h ts ps
 | _, _ => False
def Dg (A : Nat → Prop) (h : Heap) (s : Sl) (ts : List Fing.T) : Prop := ∃ ps, Ps A h s ps ∧ Ths A h ts ps
def Lv (A : Nat → Prop) (h : Heap) : Fing.F → Option Addr → Prop
 | .nil, p => p = none
 | .one t, p => ∃ c s, p = some (ad c 0) ∧ A c ∧ Blk h c ((meas t.l).c ++ [Sl.v s, Sl.v Sl.nil, .pointer none]) ∧ Dg A h s [t]
 | .deep l m r, p => ∃ c s u q, p = some (ad c 0) ∧ A c ∧ Blk h c ((meas (ls l ++ (m.l ++ ls r))).c ++ [Sl.v s, Sl.v u, .pointer q]) ∧ Dg A h s l ∧ Dg A h u r ∧ Lv A h m q
section
variable {A : Nat → Prop} {h h' : Heap} {s : Sl} {ts us : List Fing.T} {ps : List Addr} {t : Fing.T} {v : Fing.F} {p : Addr} {q : Option Addr}
/-- blocks of A that are there stay -/
def Stay (A : Nat → Prop) (h h' : Heap) : Prop := h.size ≤ h'.size ∧ ∀ b, A b → b < h.size → h'[b]? = h[b]?
theorem Stay.fw (E : Fw h h') : Stay A h h' := ⟨E.1, fun b _ hb => E.2 b hb⟩
theorem Stay.over {c : Nat} (hc : ¬ A c) (ho : ∀ d, d ≠ c → h'[d]? = h[d]?) (hz : h.size ≤ h'.size) : Stay A h h' := ⟨hz, fun b hb _ => ho b fun e => hc (e ▸ hb)⟩
theorem Ps.stay (S : Stay A h h') (H : Ps A h s ps) : Ps A h' s ps :=
 ⟨H.len, H.cap, H.at_.imp id fun ⟨b, o, h1, h2, h3, h4⟩ => ⟨b, o, h1, h2, Nat.lt_of_lt_of_le h3 S.1, fun i hi => by rw [hcell_of_eq (h := h) (S.2 b h2 h3)]; exact h4 i hi⟩⟩
theorem Blk.stay {b : Nat} {cs : List Value} (S : Stay A h h') (hA : A b) (B : Blk h b cs) : Blk h' b cs := B.of_eq (S.2 b hA B.lt)
theorem Th.stay (S : Stay A h h') : ∀ {t : Fing.T} {p : Addr}, Th A h t p → Th A h' t p
 | .num x, p, ⟨c, e, hA, B⟩ => ⟨c, e, hA, Blk.stay S hA B⟩
 | .n2 a b, p, ⟨c, s, pa, pb, e, hA, B, P, ta, tb⟩ => ⟨c, s, pa, pb, e, hA, Blk.stay S hA B, P.stay S, ta.stay S, tb.stay S⟩
 | .n3 a b d, p, ⟨c, s, pa, pb, pd, e, hA, B, P, ta, tb, td⟩ => ⟨c, s, pa, pb, pd, e, hA, Blk.stay S hA B, P.stay S, ta.stay S, tb.stay S, td.stay S⟩
theorem Ths.stay (S : Stay A h h') : ∀ {ts : List Fing.T} {ps : List Addr}, Ths A h ts ps → Ths A h' ts ps
 | [], [], _ => trivial
 | t :: ts, p :: ps, ⟨a, b⟩ => ⟨a.stay S, b.stay S⟩
 | [], _ :: _, H => H.elim
 | _ :: _, [], H => H.elim
theorem Dg.stay (S : Stay A h h') (H : Dg A h s ts) : Dg A h' s ts := by obtain ⟨ps, a, b⟩ := H; exact ⟨ps, a.stay S, b.stay S⟩
theorem Lv.stay (S : Stay A h h') : ∀ {v : Fing.F} {q : Option Addr}, Lv A h v q → Lv A h' v q
 | .nil, _, e => e
 | .one t, _, ⟨c, s, e, hA, B, d⟩ => ⟨c, s, e, hA, Blk.stay S hA B, d.stay S⟩
 | .deep l m r, _, ⟨c, s, u, q, e, hA, B, d1, d2, L⟩ => ⟨c, s, u, q, e, hA, Blk.stay S hA B, d1.stay S, d2.stay S, L.stay S⟩
theorem Th.fw (H : Th A h t p) (E : Fw h h') : Th A h' t p := H.stay (Stay.fw E)
theorem Dg.fw (H : Dg A h s ts) (E : Fw h h') : Dg A h' s ts := H.stay (Stay.fw E)
theorem Lv.fw (H : Lv A h v q) (E : Fw h h') : Lv A h' v q := H.stay (Stay.fw E)
theorem Ps.fw (H : Ps A h s ps) (E : Fw h h') : Ps A h' s ps := H.stay (Stay.fw E)
theorem Ths.fw (H : Ths A h ts ps) (E : Fw h h') : Ths A h' ts ps := H.stay (Stay.fw E)
theorem Ths.len : ∀ {ts : List Fing.T} {ps : List Addr}, Ths A h ts ps → ts.length = ps.length
 | [], [], _ => rfl
 | t :: ts, p :: ps, ⟨_, b⟩ => by simp [b.len]
 | [], _ :: _, H => H.elim
 | _ :: _, [], H => H.elim
theorem Ths.get : ∀ {ts : List Fing.T} {ps : List Addr} {i : Nat} {t : Fing.T}, Ths A h ts ps → ts[i]? = some t → ∃ p, ps[i]? = some p ∧ Th A h t p
 | [], [], i, t, _, e => by simp at e
 | t :: ts, p :: ps, 0, u, ⟨a, _⟩, e => by simp at e; subst e; exact ⟨p, rfl, a⟩
 | t :: ts, p :: ps, i + 1, u, ⟨_, b⟩, e => b.get (i := i) (by simpa using e)
 | [], _ :: _, _, _, H, _ => H.elim
 | _ :: _, [], _, _, H, _ => H.elim
theorem Ths.append : ∀ {ts us : List Fing.T} {ps qs : List Addr}, Ths A h ts ps → Ths A h us qs → Ths A h (ts ++ us) (ps ++ qs)
 | [], us, [], qs, _, b => b
 | t :: ts, us, p :: ps, qs, ⟨a, c⟩, b => ⟨a, c.append b⟩
 | [], _, _ :: _, _, H, _ => H.elim
 | _ :: _, _, [], _, H, _ => H.elim
theorem Ths.take : ∀ {ts : List Fing.T} {ps : List Addr} (n : Nat), Ths A h ts ps → Ths A h (ts.take n) (ps.take n)
 | [], [], n, _ => by simp [Ths]
 | t :: ts, p :: ps, 0, _ => trivial
 | t :: ts, p :: ps, n + 1, ⟨a, b⟩ => ⟨a, b.take n⟩
 | [], _ :: _, _, H => H.elim
 | _ :: _, [], _, H => H.elim
theorem Ths.drop : ∀ {ts : List Fing.T} {ps : List Addr} (n : Nat), Ths A h ts ps → Ths A h (ts.drop n) (ps.drop n)
 | [], [], n, _ => by simp [Ths]
 | t :: ts, p :: ps, 0, H => H
 | t :: ts, p :: ps, n + 1, ⟨a, b⟩ => b.drop n
 | [], _ :: _, _, H => H.elim
 | _ :: _, [], _, H => H.elim
theorem Ps.rs (H : Ps A h s ps) : Rs h.size 1 h s (ps.map pV) :=
 ⟨by simpa using H.len, H.cap, H.at_.imp (fun e => by rw [e]; rfl) fun ⟨b, o, h1, _, h3, h4⟩ => ⟨b, o, h1, h3, fun i hi => h4 i (by simpa using hi)⟩⟩
theorem Ps.nil (A : Nat → Prop) (h : Heap) : Ps A h Sl.nil [] := ⟨rfl, Nat.le_refl _, .inl rfl⟩
theorem Dg.nil (A : Nat → Prop) (h : Heap) : Dg A h Sl.nil [] := ⟨[], Ps.nil A h, trivial⟩
theorem Ps.ix {i : Nat} {K : Addr → Prop} (H : Ps A h s ps) (hi : ps[i]? = some p) (hK : ∀ q, hcell h q = some (pV p) → q.block < h.size → K q) : Ix s (i : Int) 1 K := by
 have hl := (List.getElem?_eq_some_iff.1 hi).1
 rcases H.at_ with e | ⟨b, o, h1, _, h3, h4⟩
 ·subst e; simp at hi
 ·refine Ix.mk h1 (by omega) (by have := H.len; omega) (hK _ ?_ h3)
  rw [Int.toNat_natCast, Nat.mul_one, h4 i hl, List.getElem?_map, hi]; rfl
theorem Dg.ix {i : Nat} {K : Addr → Prop} (H : Dg A h s ts) (hi : ts[i]? = some t) (hK : ∀ q p, hcell h q = some (pV p) → q.block < h.size → Th A h t p → K q) : Ix s (i : Int) 1 K := by
 obtain ⟨ps, P, T⟩ := H
 obtain ⟨p, hp, tp⟩ := T.get hi
 exact P.ix hp fun q hq hb => hK q p hq hb tp
theorem Dg.len (H : Dg A h s ts) : s.len = ts.length := by obtain ⟨ps, P, T⟩ := H; rw [P.len, T.len]
theorem Dg.cap (H : Dg A h s ts) : s.len ≤ s.cap := by obtain ⟨ps, P, T⟩ := H; exact P.cap
theorem Dg.some (H : Dg A h s ts) (hn : ts ≠ []) : s.a.isNone = false := by
 obtain ⟨ps, P, T⟩ := H
 rcases P.at_ with e | ⟨b, o, h1, _⟩
 ·subst e; cases ts with
  | nil => exact absurd rfl hn
  | cons => exact T.elim
 ·rw [h1]; rfl
theorem Ps.sub {lo hi : Nat} {K : Sl → Prop} (H : Ps A h s ps) (h1 : lo ≤ hi) (h2 : hi ≤ ps.length) (hK : ∀ t, Ps A h t ((ps.drop lo).take (hi - lo)) → K t) : Sub s (lo : Int) (hi : Int) (s.cap : Int) 1 K := by
 have hc := H.cap
 have hl := H.len
 refine ⟨by omega, by omega, by omega, by omega, fun t ht => hK t ?_⟩
 have et : t = ⟨sliceA s.a s.cap lo 1, hi - lo, s.cap - lo⟩ := by rw [ht]; simp only [Int.toNat_natCast]
 rw [et]
 refine ⟨by simp; omega, by simp; omega, ?_⟩
 by_cases he : lo = hi
 ·exact .inl (by rw [he]; simp)
 ·rcases H.at_ with e | ⟨b, o, e1, e2, e3, e4⟩
  ·rw [e] at h2; simp at h2; omega
  ·refine .inr ⟨b, o + lo, ?_, e2, e3, fun i hi' => ?_⟩
   ·unfold sliceA
    rw [if_neg (by omega), e1]
    show some (Addr.add (ad b o) (lo * 1)) = _
    rw [ad_add, Nat.mul_one]
   ·simp at hi'
    rw [show o + lo + i = o + (lo + i) by omega, e4 (lo + i) (by omega), List.getElem?_map, List.getElem?_map, List.getElem?_take, if_pos (by omega), List.getElem?_drop]
theorem Dg.sub {lo hi : Nat} {K : Sl → Prop} (H : Dg A h s ts) (h1 : lo ≤ hi) (h2 : hi ≤ ts.length) (hK : ∀ t, Dg A h t ((ts.drop lo).take (hi - lo)) → K t) : Sub s (lo : Int) (hi : Int) (s.cap : Int) 1 K := by
 obtain ⟨ps, P, T⟩ := H
 exact P.sub h1 (by rw [← T.len]; exact h2) fun t Pt => hK t ⟨_, Pt, (T.drop lo).take _⟩
/-- a new array of these -/
theorem Dg.new {c n : Nat} {ps : List Addr} {h0 : Heap} (B : Blk h c (ps.map pV)) (hA : A c) (hn : n = ps.length) (T : Ths A h ts ps) : Dg A h ⟨.some (ad c 0), n, n⟩ ts :=
 ⟨ps, ⟨hn, Nat.le_refl _, .inr ⟨c, 0, rfl, hA, B.lt, fun i hi => by rw [Nat.zero_add, B.cell]⟩⟩, T⟩
theorem Own.toPs {N : Nat} (O : Own N 1 h s (ps.map pV)) (hA : ∀ b, N ≤ b → A b) : Ps A h s ps := by
 refine ⟨by simpa using O.len, O.cap, ?_⟩
 rcases O.at_ with ⟨e1, e2⟩ | ⟨b, tl, e1, e2, e3, e4⟩
 ·have := O.len; have := O.cap
  exact .inl (List.eq_nil_of_length_eq_zero (by have := O.len; simp at this; omega))
 ·refine .inr ⟨b, 0, e1, hA b e2, e3.lt, fun i hi => ?_⟩
  rw [e3.cell, Nat.zero_add, List.getElem?_append_left (by simpa using hi)]
/-- what is there of a thing -/
theorem Th.view : ∀ {t : Fing.T} {p : Addr}, Th A h t p → ∃ c x s, p = ad c 0 ∧ A c ∧ Blk h c ((meas t.l).c ++ [iV x, Sl.v s]) ∧ Dg A h s t.kids ∧ (∀ y, t = .num y → x = y ∧ s = Sl.nil)
 | .num x, p, ⟨c, e, hA, B⟩ => ⟨c, x, Sl.nil, e, hA, B, Dg.nil A h, fun y e => by cases e; exact ⟨rfl, rfl⟩⟩
 | .n2 a b, p, ⟨c, s, pa, pb, e, hA, B, P, ta, tb⟩ => ⟨c, 0, s, e, hA, B, ⟨_, P, ta, tb, trivial⟩, fun y e => by cases e⟩
 | .n3 a b d, p, ⟨c, s, pa, pb, pd, e, hA, B, P, ta, tb, td⟩ => ⟨c, 0, s, e, hA, B, ⟨_, P, ta, tb, td, trivial⟩, fun y e => by cases e⟩
theorem Th.group {c : Nat} (hf : Few ts) (hA : A c) (B : Blk h c ((meas (ls ts)).c ++ [iV 0, Sl.v s])) (Dd : Dg A h s ts) : Th A h (grp ts) (ad c 0) := by
 obtain ⟨ps, P, T⟩ := Dd
 rcases few_cases hf with ⟨a, b, rfl⟩ | ⟨a, b, d, rfl⟩
 ·match ps, T with
  | [pa, pb], ⟨ta, tb, _⟩ => exact ⟨c, s, pa, pb, rfl, hA, by simpa [ls] using B, P, ta, tb⟩
 ·match ps, T with
  | [pa, pb, pd], ⟨ta, tb, td, _⟩ => exact ⟨c, s, pa, pb, pd, rfl, hA, by simpa [ls] using B, P, ta, tb, td⟩
/-- what is there of a level -/
theorem Lv.top (L : Lv A h v q) (hv : v ≠ .nil) : ∃ c cs, q = some (ad c 0) ∧ A c ∧ Blk h c ((meas v.l).c ++ cs) := by
 match v, L with
 | .nil, _ => exact absurd rfl hv
 | .one t, ⟨c, s, e, hA, B, d⟩ => exact ⟨c, _, e, hA, B⟩
 | .deep l m r, ⟨c, s, u, q, e, hA, B, d1, d2, L⟩ => exact ⟨c, _, e, hA, B⟩
theorem Lv.none (L : Lv A h v q) : q.isNone = true ↔ v = .nil := by
 match v, L with
 | .nil, e => have e : q = _ := e; rw [e]; simp
 | .one t, ⟨c, s, e, hA, B, d⟩ => rw [e]; simp
 | .deep l m r, ⟨c, s, u, q, e, hA, B, d1, d2, L⟩ => rw [e]; simp
end
section
variable {A : Nat → Prop} {r : World} {h : Heap} {s : Sl} {ts : List Fing.T} {t : Fing.T} {v : Fing.F} {p : Addr} {q : Option Addr}
theorem new_A {h h' : Heap} (hA : ∀ b, h.size ≤ b → A b) (E : Fw h h') : ∀ b, h'.size ≤ b → A b := fun b hb => hA b (Nat.le_trans E.1 hb)
theorem number_ok {x : Int} {R : Option Addr → Heap → Prop} (hx : In x) (hA : ∀ b, h.size ≤ b → A b) (H : ∀ p h', Fw h h' → Th A h' (.num x) p → R (some p) h') : finger_number r x h R := by
 apply finger_number_of
 refine one_ok hx fun h1 E1 => New.cells fun h2 E2 z2 B2 => H _ h2 (E1.trans E2) ⟨h1.size, rfl, hA _ E1.1, B2⟩
theorem measured_ok {R : Int → Int → Int → Int → Int → Heap → Prop} (Dd : Dg A h s ts) (hz : (ls ts).length < 4611686018427387904) (hn : ts.length < 1073741824) (H : ∀ h', Fw h h' → R (meas (ls ts)).n (meas (ls ts)).sum (meas (ls ts)).least (meas (ls ts)).most (meas (ls ts)).hash h') : finger_measured r s h R := by
 apply finger_measured_of
 have hlen := Dd.len
 refine New.cells fun h1 E1 z1 B1 => none_ok fun h2 E2 => New.cells fun h3 E3 z3 B3 => St.whole B3 rfl rfl fun h4 B4 o4 z4 => ?_
 have E14 : Fw h h4 := ((E1.trans E2).trans E3).over (c := h2.size) (E1.trans E2).1 o4 z4
 have C4 : Blk h4 h.size _ := (E3.blk (E2.blk B1)).other o4 (by have := E2.1; omega)
 have hc2 := (E1.trans E2).1
 have hc3 : h.size < h2.size := by have := E2.1; omega
 generalize h2.size = c2 at *
 intro X HX
 have key : ∀ (k i : Nat) (h5 : Heap), i + k = ts.length → Fw h h5 → Blk h5 h.size [iV 0, iV 0, iV 0, iV 0, iV 0] → Blk h5 c2 (meas (ls (ts.take i))).c → X (i : Int) h5 := by
  intro k
  induction k with
  | zero =>
   intro i h5 hi E5 C5 B5
   refine HX _ _ ⟨fun c => absurd (of_decide_eq_true c) (by omega), fun _ => ?_⟩
   rw [List.take_of_length_le (by omega)] at B5
   refine ⟨_, B5.ld 0 rfl, _, B5.ld 1 rfl, _, B5.ld 2 rfl, _, B5.ld 3 rfl, _, B5.ld 4 rfl, ?_⟩
   refine St.whole C5 rfl rfl fun h8 B8 o8 z8 => ⟨_, B8.ld 0 rfl, _, B8.ld 1 rfl, _, B8.ld 2 rfl, _, B8.ld 3 rfl, _, B8.ld 4 rfl, ?_⟩
   exact H h8 (E5.over (Nat.le_refl _) o8 z8)
  | succ k ih =>
   intro i h5 hi E5 C5 B5
   have hit : i < ts.length := by omega
   refine HX _ _ ⟨fun _ => (Dd.fw E5).ix (List.getElem?_eq_getElem hit) fun q p hq _ tp => ⟨some p, hq, ?_⟩, fun c => absurd (of_decide_eq_false c) (by omega)⟩
   obtain ⟨c, x, s', rfl, _, B, _, _⟩ := tp.view
   refine ⟨_, B5.ld 0 rfl, _, B5.ld 1 rfl, _, B5.ld 2 rfl, _, B5.ld 3 rfl, _, B5.ld 4 rfl, _, rfl, _, B.ld2 0 0 rfl, _, B.ld2 0 1 rfl, _, B.ld2 0 2 rfl, _, B.ld2 0 3 rfl, _, B.ld2 0 4 rfl, ?_⟩
   have e : ls (ts.take (i + 1)) = ls (ts.take i) ++ ts[i].l := by rw [List.take_add_one, List.getElem?_eq_getElem hit, Option.toList_some, ls_append, ls_one]
   have el : ls ts = ls (ts.take (i + 1)) ++ ls (ts.drop (i + 1)) := by rw [← ls_append, List.take_append_drop]
   refine join_ok (by rw [el, e] at hz; simp at hz; omega) fun h6 E6 => ?_
   refine St.whole (E6.blk B5) rfl rfl fun h7 B7 o7 z7 => ?_
   rw [w64_of (by omega) (by omega)]
   refine ih (i + 1) h7 (by omega) ((E5.trans E6).over hc2 o7 z7) ((E6.blk C5).other o7 (by omega)) ?_
   rw [e]; exact B7
 exact key ts.length 0 h4 (by omega) E14 C4 B4
theorem group_ok {R : Option Addr → Heap → Prop} (Dd : Dg A h s ts) (hf : Few ts) (hz : (ls ts).length < 4611686018427387904) (hA : ∀ b, h.size ≤ b → A b) (H : ∀ p h', Fw h h' → Th A h' (grp ts) p → R (some p) h') : finger_group r s h R := by
 apply finger_group_of
 refine measured_ok Dd hz (by rcases hf with h | h <;> omega) fun h1 E1 => New.cells fun h2 E2 z2 B2 => H _ h2 (E1.trans E2) ?_
 exact Th.group hf (hA _ E1.1) B2 (Dd.fw (E1.trans E2))
theorem lmeasure_ok {R : Int → Int → Int → Int → Int → Heap → Prop} (L : Lv A h v q) (H : ∀ h', Fw h h' → R (meas v.l).n (meas v.l).sum (meas v.l).least (meas v.l).most (meas v.l).hash h') : finger_level_measure r q h R := by
 apply finger_level_measure_of
 refine New.cells fun h1 E1 z1 B1 => ⟨fun c => ?_, fun c => ?_⟩
 ·have e := L.none.1 c
  subst e
  refine none_ok fun h2 E2 => St.whole (E2.blk B1) rfl rfl fun h3 B3 o3 z3 => ⟨_, B3.ld 0 rfl, _, B3.ld 1 rfl, _, B3.ld 2 rfl, _, B3.ld 3 rfl, _, B3.ld 4 rfl, ?_⟩
  exact H h3 ((E1.trans E2).over (Nat.le_refl _) o3 z3)
 ·have hv : v ≠ .nil := fun e => by rw [L.none.2 e] at c; cases c
  obtain ⟨c', cs, rfl, _, B⟩ := L.top hv
  have B := E1.blk B
  refine ⟨_, rfl, _, B.ld2 0 0 rfl, _, B.ld2 0 1 rfl, _, B.ld2 0 2 rfl, _, B.ld2 0 3 rfl, _, B.ld2 0 4 rfl, ?_⟩
  refine St.whole B1 rfl rfl fun h3 B3 o3 z3 => ⟨_, B3.ld 0 rfl, _, B3.ld 1 rfl, _, B3.ld 2 rfl, _, B3.ld 3 rfl, _, B3.ld 4 rfl, ?_⟩
  exact H h3 (E1.over (Nat.le_refl _) o3 z3)
theorem alone_ok {R : Option Addr → Heap → Prop} (Tp : Th A h t p) (hA : ∀ b, h.size ≤ b → A b) (H : ∀ q h', Fw h h' → Lv A h' (.one t) q → R q h') : finger_alone r (some p) h R := by
 apply finger_alone_of
 obtain ⟨c, x, s', e, _, B, _, _⟩ := Tp.view
 subst e
 refine ⟨_, rfl, _, B.ld2 0 0 rfl, _, B.ld2 0 1 rfl, _, B.ld2 0 2 rfl, _, B.ld2 0 3 rfl, _, B.ld2 0 4 rfl, ?_⟩
 refine New.cells fun h1 E1 z1 B1 => New.cells fun h2 E2 z2 B2 => H _ h2 (E1.trans E2) ?_
 exact ⟨h1.size, _, rfl, hA _ E1.1, B2, Dg.new (h0 := h) (ps := [ad c 0]) (E2.blk B1) (hA _ (Nat.le_refl _)) rfl ⟨Tp.fw (E1.trans E2), trivial⟩⟩
theorem deep_ok {l : List Fing.T} {m : Fing.F} {u : List Fing.T} {s1 s2 : Sl} {R : Option Addr → Heap → Prop} (D1 : Dg A h s1 l) (D2 : Dg A h s2 u) (L : Lv A h m q) (hz : (ls l ++ (m.l ++ ls u)).length < 4611686018427387904) (hl : l.length < 1073741824) (hu : u.length < 1073741824) (hA : ∀ b, h.size ≤ b → A b)
  (H : ∀ q' h', Fw h h' → Lv A h' (.deep l m u) q' → R q' h') : finger_deep r s1 q s2 h R := by
 apply finger_deep_of
 simp only [List.length_append] at hz
 refine measured_ok D1 (by omega) hl fun h1 E1 => lmeasure_ok (L.fw E1) fun h2 E2 => ?_
 refine join_ok (by omega) fun h3 E3 => ?_
 have E13 := (E1.trans E2).trans E3
 refine measured_ok (D2.fw E13) (by omega) hu fun h4 E4 => ?_
 refine join_ok (by simp; omega) fun h5 E5 => ?_
 have E15 := (E13.trans E4).trans E5
 refine New.cells fun h6 E6 z6 B6 => H _ h6 (E15.trans E6) ?_
 rw [List.append_assoc] at B6
 exact ⟨h5.size, s1, s2, q, rfl, hA _ E15.1, B6, D1.fw (E15.trans E6), D2.fw (E15.trans E6), L.fw (E15.trans E6)⟩
theorem clone_ok {R : Sl → Heap → Prop} (Dd : Dg A h s ts) (hn : ts.length < 1048576) (H : ∀ s' h' ps, Fw h h' → Own h.size 1 h' s' (ps.map pV) → Ths A h ts ps → R s' h') : slices_Clone_finger_thing_finger_thing r s h R := by
 apply slices_Clone_finger_thing_finger_thing_of
 obtain ⟨ps, P, T⟩ := Dd
 have hl := P.len
 have hT := T.len
 refine ⟨fun c => ?_, fun c => ?_⟩
 ·have e : ps = [] := by
   rcases P.at_ with e | ⟨b, o, e, _⟩
   ·exact e
   ·rw [e] at c; simp at c
  subst e
  exact H _ _ [] (Fw.refl _) (Own.nil _ _ _) T
 ·refine New.cells (cs := []) fun h1 E1 z1 B1 => ?_
  have O1 : Own h.size 1 h1 ⟨some (ad h.size 0), 0, 0⟩ [] := ⟨rfl, Nat.le_refl _, .inr ⟨h.size, [], rfl, Nat.le_refl _, B1, rfl⟩⟩
  refine App.own O1 (P.fw E1).rs rfl (by intro v hv; obtain ⟨x, _, rfl⟩ := List.mem_map.1 hv; rfl) E1.1 (by simp; omega) fun s' h' G => ?_
  have E : Fw h h' := E1.trans' G.ext
  exact H s' h' ps E (by simpa using G.own) T
/-- append: one's own and others -/
theorem App.things {el : TypeId} {N : Nat} {s x : Sl} {ps qs : List Addr} {K : Sl → Heap → Prop} (O : Own N 1 h s (ps.map pV)) (X : Ps A h x qs) (hN : N ≤ h.size) (hz : ps.length + qs.length < 1073741824) (hK : ∀ s' h', Tw.Ext N h h' → Own N 1 h' s' ((ps ++ qs).map pV) → K s' h') : App el 1 8 (.pointer none) s x h K := by
 have ls : s.len = ps.length := by have := O.len; simp at this; omega
 have lx := X.len
 refine App.own O X.rs rfl (by intro v hv; obtain ⟨x, _, rfl⟩ := List.mem_map.1 hv; rfl) hN (by omega) fun s' h' G => hK s' h' G.ext ?_
 have := G.own
 simpa using this
end
end Go.Proofs.YthkimbiknhebeaaGreatDoor.Mo
namespace Go.Proofs.YthkimbiknhebeaaGreatDoor.Mo
open Go Go.RowKit Go.Tw Go.Mono Go.Fing
set_option linter.unusedVariables false
theorem own_blk {N : Nat} {h : Heap} {b : Nat} {cs : List Value} (B : Blk h b cs) (hN : N ≤ b) : Own N 1 h ⟨some (ad b 0), cs.length, cs.length⟩ cs :=
 ⟨by simp, Nat.le_refl _, .inr ⟨b, [], rfl, hN, by simpa using B, by simp⟩⟩
theorem prs_snoc (v : Fing.F) (ts : List Fing.T) (t : Fing.T) : prs v (ts ++ [t]) = pr t (prs v ts) := by
 induction ts generalizing v with
 | nil => rfl
 | cons u ts ih => exact ih (pr u v)
theorem dL_nil {m : Fing.F} {r : List Fing.T} (hm : m ≠ .nil) : dL [] m r = .deep (popL m).1.kids (popL m).2 r := by
 cases m with
 | nil => exact absurd rfl hm
 | one => rfl
 | deep => rfl
theorem dR_nil {m : Fing.F} {l : List Fing.T} (hm : m ≠ .nil) : dR l m [] = .deep l (popR m).2 (popR m).1.kids := by
 cases m with
 | nil => exact absurd rfl hm
 | one => rfl
 | deep => rfl
section
variable {A : Nat → Prop} {r : World}
theorem pushLeft_ok : ∀ (v : Fing.F) (k : Nat) (t : Fing.T) (p : Addr) (q : Option Addr) (h : Heap) (R : Option Addr → Heap → Prop), v.ok k → Lv A h v q → Th A h t p → t.l.length + v.l.length < 4611686018427387904 → (∀ b, h.size ≤ b → A b) →
  (∀ q' h', Fw h h' → Lv A h' (pl t v) q' → R q' h') → finger_pushLeft r (some p) q h R
 | .nil, k, t, p, q, h, R, ho, L, Tp, hz, hA, H => by
  have L : q = none := L
  subst L
  apply finger_pushLeft_of
  exact ⟨fun _ => alone_ok Tp hA fun q' h' E L' => H q' h' E L', fun c => (by cases c)⟩
 | .one u, k, t, p, q, h, R, ho, L, Tp, hz, hA, H => by
  obtain ⟨c, s, rfl, hc, B, Du⟩ := L
  apply finger_pushLeft_of
  refine ⟨fun c => (by cases c), fun _ => ⟨_, rfl, _, B.ld 6 rfl, fun _ => ?_, fun c => (by cases c)⟩⟩
  refine New.cells fun h2 E2 z2 B2 => ⟨_, rfl, _, (E2.blk B).ld 5 rfl, ?_⟩
  have D1 : Dg A h2 ⟨some (ad h.size 0), 1, 1⟩ [t] := Dg.new (h0 := h) (ps := [p]) B2 (hA _ (Nat.le_refl _)) rfl ⟨Tp.fw E2, trivial⟩
  refine deep_ok (m := .nil) D1 (Du.fw E2) rfl ?_ (by simp) (by simp) (new_A hA E2) fun q' h' E L' => H q' h' (E2.trans E) L'
  have hz : t.l.length + u.l.length < 4611686018427387904 := hz
  simp [ls, Fing.F.l]; exact hz
 | .deep l m w, k, t, p, q, h, R, ho, L, Tp, hz, hA, H => by
  obtain ⟨c, s, u, qm, rfl, hc, B, D1, D2, Lm⟩ := L
  have hz : t.l.length + (ls l ++ (m.l ++ ls w)).length < 4611686018427387904 := hz
  simp only [List.length_append] at hz
  have hl4 := ho.1.2.1
  have hw4 := ho.2.1.2.1
  apply finger_pushLeft_of
  have l1 := D1.len
  refine ⟨fun c => (by cases c), fun _ => ⟨_, rfl, _, B.ld 6 rfl, fun c => absurd c (by rw [D2.some ho.2.1.ne]; decide), fun _ => ⟨_, rfl, _, B.ld 5 rfl, fun c4 => ?_, fun c4 => ?_⟩⟩⟩
  ·have c4 : l.length < 4 := by have := of_decide_eq_true c4; omega
   refine ⟨_, rfl, _, B.ld 5 rfl, _, rfl, _, B.ld 7 rfl, _, rfl, _, B.ld 6 rfl, ?_⟩
   refine New.cells fun h4 E4 z4 B4 => ⟨(E4.blk B).ld 6 rfl, (E4.blk B).ld 7 rfl, (E4.blk B).ld 5 rfl, ?_⟩
   obtain ⟨ps, P, T⟩ := D1
   have hT := T.len
   refine App.things (ps := [p]) (own_blk B4 (Nat.le_refl _)) (P.fw E4) E4.1 (by simp; omega) fun s' h5 E5 O5 => ?_
   have E05 : Fw h h5 := Ext.trans E4 E5
   refine ⟨(E05.blk B).ld 6 rfl, (E05.blk B).ld 7 rfl, ?_⟩
   have D5 : Dg A h5 s' (t :: l) := ⟨_, Own.toPs O5 hA, Tp.fw E05, T.fw E05⟩
   refine deep_ok D5 (D2.fw E05) (Lm.fw E05) (by rw [ls_cons]; simp; omega) (by simp; omega) (by omega) (new_A hA E05) fun q' h' E L' => H q' h' (E05.trans E) ?_
   unfold pl; rw [if_pos c4]; exact L'
  ·have c4 : l.length = 4 := by have := of_decide_eq_false c4; omega
   obtain ⟨a, b, d, e, rfl⟩ := four c4
   have e0 : (ls [a, b, d, e]).length = a.l.length + b.l.length + d.l.length + e.l.length := by simp [ls]; omega
   have e1 : (ls [b, d, e]).length = b.l.length + d.l.length + e.l.length := by simp [ls]; omega
   have e2 : (ls [t, a]).length = t.l.length + a.l.length := by simp [ls]
   have eg : (grp [b, d, e]).l = ls [b, d, e] := grp_l (.inr rfl)
   intro J HJ
   refine ⟨_, rfl, _, B.ld 5 rfl, D1.ix (i := 0) rfl fun q0 pa hq0 hb0 Ta => ⟨some pa, hq0, _, rfl, _, B.ld 5 rfl, ?_⟩⟩
   dsimp only
   rw [l1]
   refine D1.sub (lo := 1) (hi := 4) (by decide) (by simp) fun s3 D3 => ?_
   have D3 : Dg A h s3 [b, d, e] := D3
   have hq : ∀ {h'}, Fw h h' → hcell h' q0 = some (pV pa) := fun E => by rw [E.cell hb0]; exact hq0
   have hpl : pl t (.deep [a, b, d, e] m w) = .deep [t, a] (pl (grp [b, d, e]) m) w := rfl
   refine ⟨_, rfl, _, B.ld 7 rfl, _, rfl, _, B.ld 6 rfl, ?_, ?_⟩
   ·refine New.cells fun h8 E8 z8 B8 => ⟨(E8.blk B).ld 6 rfl, (E8.blk B).ld 7 rfl, (E8.blk B).ld 5 rfl, ?_⟩
    refine group_ok (D3.fw E8) (.inr rfl) (by omega) (new_A hA E8) fun pg h9 E9 Tg => ?_
    have E09 := E8.trans E9
    refine ⟨(E09.blk B).ld 6 rfl, (E09.blk B).ld 7 rfl, hq E09, (E09.blk B).ld 5 rfl, ?_⟩
    refine pushLeft_ok m (k + 1) _ _ _ _ _ ho.2.2 (Lm.fw E09) Tg (by rw [eg]; omega) (new_A hA E09) fun q' h10 E10 L10 => ?_
    have E0 := E09.trans E10
    refine ⟨(E0.blk B).ld 6 rfl, hq E0, (E0.blk B).ld 5 rfl, ?_⟩
    have D5 : Dg A h10 ⟨some (ad h.size 0), 2, 2⟩ [t, a] := Dg.new (h0 := h) (ps := [p, pa]) ((E9.trans E10).blk B8) (hA _ (Nat.le_refl _)) rfl ⟨Tp.fw E0, Ta.fw E0, trivial⟩
    refine deep_ok D5 (D2.fw E0) L10 (by rw [pl_l _ _ (k + 1) ho.2.2, eg]; simp only [List.length_append]; omega) (by simp) (by omega) (new_A hA E0) fun q' h' E L' => HJ _ _ (H q' h' (E0.trans E) (by rw [hpl]; exact L'))
   ·refine group_ok D3 (.inr rfl) (by omega) hA fun pg h9 E9 Tg => ?_
    refine ⟨(E9.blk B).ld 6 rfl, (E9.blk B).ld 7 rfl, hq E9, (E9.blk B).ld 5 rfl, ?_, ?_⟩
    ·refine New.cells fun h8 E8 z8 B8 => ?_
     have E09 := E9.trans E8
     refine ⟨(E09.blk B).ld 6 rfl, (E09.blk B).ld 7 rfl, (E09.blk B).ld 5 rfl, ?_⟩
     refine pushLeft_ok m (k + 1) _ _ _ _ _ ho.2.2 (Lm.fw E09) (Tg.fw E8) (by rw [eg]; omega) (new_A hA E09) fun q' h10 E10 L10 => ?_
     have E0 := E09.trans E10
     refine ⟨(E0.blk B).ld 6 rfl, hq E0, (E0.blk B).ld 5 rfl, ?_⟩
     have D5 : Dg A h10 ⟨some (ad h9.size 0), 2, 2⟩ [t, a] := Dg.new (h0 := h) (ps := [p, pa]) (E10.blk B8) (hA _ E9.1) rfl ⟨Tp.fw E0, Ta.fw E0, trivial⟩
     refine deep_ok D5 (D2.fw E0) L10 (by rw [pl_l _ _ (k + 1) ho.2.2, eg]; simp only [List.length_append]; omega) (by simp) (by omega) (new_A hA E0) fun q' h' E L' => HJ _ _ (H q' h' (E0.trans E) (by rw [hpl]; exact L'))
    ·refine pushLeft_ok m (k + 1) _ _ _ _ _ ho.2.2 (Lm.fw E9) Tg (by rw [eg]; omega) (new_A hA E9) fun q' h10 E10 L10 => ?_
     have E0 := E9.trans E10
     refine ⟨(E0.blk B).ld 6 rfl, hq E0, (E0.blk B).ld 5 rfl, ?_⟩
     refine New.cells fun h8 E8 z8 B8 => ?_
     have E08 := E0.trans E8
     refine ⟨(E08.blk B).ld 6 rfl, (E08.blk B).ld 7 rfl, (E08.blk B).ld 5 rfl, ?_⟩
     have D5 : Dg A h8 ⟨some (ad h10.size 0), 2, 2⟩ [t, a] := Dg.new (h0 := h) (ps := [p, pa]) B8 (hA _ E0.1) rfl ⟨Tp.fw E08, Ta.fw E08, trivial⟩
     refine deep_ok D5 (D2.fw E08) (L10.fw E8) (by rw [pl_l _ _ (k + 1) ho.2.2, eg]; simp only [List.length_append]; omega) (by simp) (by omega) (new_A hA E08) fun q' h' E L' => HJ _ _ (H q' h' (E08.trans E) (by rw [hpl]; exact L'))
theorem pushRight_ok : ∀ (v : Fing.F) (k : Nat) (t : Fing.T) (p : Addr) (q : Option Addr) (h : Heap) (R : Option Addr → Heap → Prop), v.ok k → Lv A h v q → Th A h t p → t.l.length + v.l.length < 4611686018427387904 → (∀ b, h.size ≤ b → A b) →
  (∀ q' h', Fw h h' → Lv A h' (pr t v) q' → R q' h') → finger_pushRight r q (some p) h R
 | .nil, k, t, p, q, h, R, ho, L, Tp, hz, hA, H => by
  have L : q = none := L
  subst L
  apply finger_pushRight_of
  exact ⟨fun _ => alone_ok Tp hA fun q' h' E L' => H q' h' E L', fun c => (by cases c)⟩
 | .one u, k, t, p, q, h, R, ho, L, Tp, hz, hA, H => by
  obtain ⟨c, s, rfl, hc, B, Du⟩ := L
  apply finger_pushRight_of
  refine ⟨fun c => (by cases c), fun _ => ⟨_, rfl, _, B.ld 6 rfl, fun _ => ⟨_, rfl, _, B.ld 5 rfl, ?_⟩, fun c => (by cases c)⟩⟩
  refine New.cells fun h2 E2 z2 B2 => ?_
  have D1 : Dg A h2 ⟨some (ad h.size 0), 1, 1⟩ [t] := Dg.new (h0 := h) (ps := [p]) B2 (hA _ (Nat.le_refl _)) rfl ⟨Tp.fw E2, trivial⟩
  refine deep_ok (m := .nil) (Du.fw E2) D1 rfl ?_ (by simp) (by simp) (new_A hA E2) fun q' h' E L' => H q' h' (E2.trans E) L'
  have hz : t.l.length + u.l.length < 4611686018427387904 := hz
  simp [ls, Fing.F.l]; omega
 | .deep l m w, k, t, p, q, h, R, ho, L, Tp, hz, hA, H => by
  obtain ⟨c, s, u, qm, rfl, hc, B, D1, D2, Lm⟩ := L
  have hz : t.l.length + (ls l ++ (m.l ++ ls w)).length < 4611686018427387904 := hz
  simp only [List.length_append] at hz
  have hl4 := ho.1.2.1
  have hw4 := ho.2.1.2.1
  apply finger_pushRight_of
  have l2 := D2.len
  refine ⟨fun c => (by cases c), fun _ => ⟨_, rfl, _, B.ld 6 rfl, fun c => absurd c (by rw [D2.some ho.2.1.ne]; decide), fun _ => ⟨_, rfl, _, B.ld 6 rfl, fun c4 => ?_, fun c4 => ?_⟩⟩⟩
  ·have c4 : w.length < 4 := by have := of_decide_eq_true c4; omega
   have hpr : pr t (.deep l m w) = .deep l m (w ++ [t]) := by unfold pr; rw [if_pos c4]
   intro J HJ
   refine ⟨_, rfl, _, B.ld 5 rfl, _, rfl, _, B.ld 7 rfl, _, rfl, _, B.ld 6 rfl, ?_, ?_⟩
   ·refine clone_ok D2 (by omega) fun s' h5 ps E5 O5 T5 => ⟨(E5.blk B).ld 7 rfl, (E5.blk B).ld 5 rfl, ?_⟩
    refine New.cells fun h6 E6 z6 B6 => ?_
    have E06 := E5.trans E6
    refine ⟨(E06.blk B).ld 6 rfl, (E06.blk B).ld 7 rfl, (E06.blk B).ld 5 rfl, ?_⟩
    have P6 : Ps A h6 ⟨some (ad h5.size 0), 1, 1⟩ [p] := ⟨rfl, Nat.le_refl _, .inr ⟨h5.size, 0, rfl, hA _ E5.1, B6.lt, fun i hi => by rw [Nat.zero_add, B6.cell]; rfl⟩⟩
    have hT := T5.len
    refine App.things (O5.ext E6) P6 E06.1 (by simp; omega) fun s2 h7 E7 O7 => ?_
    have E07 : Fw h h7 := Ext.trans E06 E7
    refine ⟨(E07.blk B).ld 7 rfl, (E07.blk B).ld 5 rfl, ?_⟩
    have D5 : Dg A h7 s2 (w ++ [t]) := ⟨_, Own.toPs O7 hA, (T5.fw E07).append ⟨Tp.fw E07, trivial⟩⟩
    refine deep_ok (D1.fw E07) D5 (Lm.fw E07) (by rw [ls_append, ls_one]; simp; omega) (by omega) (by simp; omega) (new_A hA E07) fun q' h' E L' => HJ _ _ (H q' h' (E07.trans E) (by rw [hpr]; exact L'))
   ·refine New.cells fun h6 E6 z6 B6 => ⟨(E6.blk B).ld 6 rfl, (E6.blk B).ld 7 rfl, (E6.blk B).ld 5 rfl, ?_⟩
    refine clone_ok (D2.fw E6) (by omega) fun s' h5 ps E5 O5 T5 => ?_
    have E05 := E6.trans E5
    refine ⟨(E05.blk B).ld 7 rfl, (E05.blk B).ld 5 rfl, ?_⟩
    have B5 := E5.blk B6
    have P6 : Ps A h5 ⟨some (ad h.size 0), 1, 1⟩ [p] := ⟨rfl, Nat.le_refl _, .inr ⟨h.size, 0, rfl, hA _ (Nat.le_refl _), B5.lt, fun i hi => by rw [Nat.zero_add, B5.cell]; rfl⟩⟩
    have hT := T5.len
    refine App.things O5 P6 E5.1 (by simp; omega) fun s2 h7 E7 O7 => ?_
    have E67 : Fw h6 h7 := Ext.trans E5 E7
    have E07 : Fw h h7 := E6.trans E67
    refine ⟨(E07.blk B).ld 7 rfl, (E07.blk B).ld 5 rfl, ?_⟩
    have D5 : Dg A h7 s2 (w ++ [t]) := ⟨_, Own.toPs O7 (new_A hA E6), (T5.fw E67).append ⟨Tp.fw E07, trivial⟩⟩
    refine deep_ok (D1.fw E07) D5 (Lm.fw E07) (by rw [ls_append, ls_one]; simp; omega) (by omega) (by simp; omega) (new_A hA E07) fun q' h' E L' => HJ _ _ (H q' h' (E07.trans E) (by rw [hpr]; exact L'))
  ·have c4 : w.length = 4 := by have := of_decide_eq_false c4; omega
   obtain ⟨a, b, d, e, rfl⟩ := four c4
   have e0 : (ls [a, b, d, e]).length = a.l.length + b.l.length + d.l.length + e.l.length := by simp [ls]; omega
   have e1 : (ls [a, b, d]).length = a.l.length + b.l.length + d.l.length := by simp [ls]; omega
   have e2 : (ls [e, t]).length = e.l.length + t.l.length := by simp [ls]
   have eg : (grp [a, b, d]).l = ls [a, b, d] := grp_l (.inr rfl)
   intro J HJ
   refine ⟨_, rfl, _, B.ld 5 rfl, _, rfl, _, B.ld 7 rfl, _, rfl, _, B.ld 6 rfl, ?_⟩
   refine D2.sub (lo := 0) (hi := 3) (by decide) (by simp) fun s3 D3 => ?_
   have D3 : Dg A h s3 [a, b, d] := D3
   refine ⟨_, rfl, _, B.ld 6 rfl, D2.ix (i := 3) rfl fun q0 pa hq0 hb0 Ta => ⟨some pa, hq0, ?_⟩⟩
   have hq : ∀ {h'}, Fw h h' → hcell h' q0 = some (pV pa) := fun E => by rw [E.cell hb0]; exact hq0
   have hpr : pr t (.deep l m [a, b, d, e]) = .deep l (pr (grp [a, b, d]) m) [e, t] := rfl
   refine ⟨?_, ?_⟩
   ·refine group_ok D3 (.inr rfl) (by omega) hA fun pg h9 E9 Tg => ?_
    refine ⟨hq E9, (E9.blk B).ld 6 rfl, (E9.blk B).ld 7 rfl, (E9.blk B).ld 5 rfl, ?_, ?_⟩
    ·refine pushRight_ok m (k + 1) _ _ _ _ _ ho.2.2 (Lm.fw E9) Tg (by rw [eg]; omega) (new_A hA E9) fun q' h10 E10 L10 => ?_
     have E0 := E9.trans E10
     refine ⟨hq E0, (E0.blk B).ld 6 rfl, (E0.blk B).ld 5 rfl, ?_⟩
     refine New.cells fun h8 E8 z8 B8 => ?_
     have E08 := E0.trans E8
     refine ⟨(E08.blk B).ld 6 rfl, (E08.blk B).ld 7 rfl, (E08.blk B).ld 5 rfl, ?_⟩
     have D5 : Dg A h8 ⟨some (ad h10.size 0), 2, 2⟩ [e, t] := Dg.new (h0 := h) (ps := [pa, p]) B8 (hA _ E0.1) rfl ⟨Ta.fw E08, Tp.fw E08, trivial⟩
     refine deep_ok (D1.fw E08) D5 (L10.fw E8) (by rw [pr_l _ _ (k + 1) ho.2.2, eg]; simp only [List.length_append]; omega) (by omega) (by simp) (new_A hA E08) fun q' h' E L' => HJ _ _ (H q' h' (E08.trans E) (by rw [hpr]; exact L'))
    ·refine New.cells fun h8 E8 z8 B8 => ?_
     have E09 := E9.trans E8
     refine ⟨(E09.blk B).ld 6 rfl, (E09.blk B).ld 7 rfl, (E09.blk B).ld 5 rfl, ?_⟩
     refine pushRight_ok m (k + 1) _ _ _ _ _ ho.2.2 (Lm.fw E09) (Tg.fw E8) (by rw [eg]; omega) (new_A hA E09) fun q' h10 E10 L10 => ?_
     have E0 := E09.trans E10
     refine ⟨hq E0, (E0.blk B).ld 6 rfl, (E0.blk B).ld 5 rfl, ?_⟩
     have D5 : Dg A h10 ⟨some (ad h9.size 0), 2, 2⟩ [e, t] := Dg.new (h0 := h) (ps := [pa, p]) (E10.blk B8) (hA _ E9.1) rfl ⟨Ta.fw E0, Tp.fw E0, trivial⟩
     refine deep_ok (D1.fw E0) D5 L10 (by rw [pr_l _ _ (k + 1) ho.2.2, eg]; simp only [List.length_append]; omega) (by omega) (by simp) (new_A hA E0) fun q' h' E L' => HJ _ _ (H q' h' (E0.trans E) (by rw [hpr]; exact L'))
   ·refine New.cells fun h8 E8 z8 B8 => ⟨(E8.blk B).ld 6 rfl, (E8.blk B).ld 7 rfl, (E8.blk B).ld 5 rfl, ?_⟩
    refine group_ok (D3.fw E8) (.inr rfl) (by omega) (new_A hA E8) fun pg h9 E9 Tg => ?_
    have E09 := E8.trans E9
    refine ⟨hq E09, (E09.blk B).ld 6 rfl, (E09.blk B).ld 7 rfl, (E09.blk B).ld 5 rfl, ?_⟩
    refine pushRight_ok m (k + 1) _ _ _ _ _ ho.2.2 (Lm.fw E09) Tg (by rw [eg]; omega) (new_A hA E09) fun q' h10 E10 L10 => ?_
    have E0 := E09.trans E10
    refine ⟨hq E0, (E0.blk B).ld 6 rfl, (E0.blk B).ld 5 rfl, ?_⟩
    have D5 : Dg A h10 ⟨some (ad h.size 0), 2, 2⟩ [e, t] := Dg.new (h0 := h) (ps := [pa, p]) ((E9.trans E10).blk B8) (hA _ (Nat.le_refl _)) rfl ⟨Ta.fw E0, Tp.fw E0, trivial⟩
    refine deep_ok (D1.fw E0) D5 L10 (by rw [pr_l _ _ (k + 1) ho.2.2, eg]; simp only [List.length_append]; omega) (by omega) (by simp) (new_A hA E0) fun q' h' E L' => HJ _ _ (H q' h' (E0.trans E) (by rw [hpr]; exact L'))
theorem prs_part (ts : List Fing.T) (i : Nat) (hi : i < ts.length) : ts.take (i + 1) = ts.take i ++ [ts[i]] := by
 rw [List.take_add_one, List.getElem?_eq_getElem hi]; rfl
theorem some_ok {k : Nat} {ts : List Fing.T} {s : Sl} {h : Heap} {R : Option Addr → Heap → Prop} (Dd : Dg A h s ts) (hd : ∀ t ∈ ts, t.dep k) (hn : ts.length < 1073741824) (hz : (ls ts).length < 4611686018427387904) (hA : ∀ b, h.size ≤ b → A b)
  (H : ∀ q' h', Fw h h' → Lv A h' (prs .nil ts) q' → R q' h') : finger_some r s h R := by
 apply finger_some_of
 have hl := Dd.len
 intro X HX
 have key : ∀ (d i : Nat) (q : Option Addr) (h1 : Heap), i + d = ts.length → Fw h h1 → Lv A h1 (prs .nil (ts.take i)) q → X q (i : Int) h1 := by
  intro d
  induction d with
  | zero =>
   intro i q h1 hi E1 L1
   refine HX _ _ _ ⟨fun c => absurd (of_decide_eq_true c) (by omega), fun _ => H q h1 E1 ?_⟩
   rwa [List.take_of_length_le (by omega)] at L1
  | succ d ih =>
   intro i q h1 hi E1 L1
   have hit : i < ts.length := by omega
   refine HX _ _ _ ⟨fun _ => (Dd.fw E1).ix (List.getElem?_eq_getElem hit) fun q0 p hq0 _ Tp => ⟨some p, hq0, ?_⟩, fun c => absurd (of_decide_eq_false c) (by omega)⟩
   have hpl := prs_l (ts.take i) .nil k trivial fun t ht => hd t (List.mem_of_mem_take ht)
   have el : ls ts = ls (ts.take (i + 1)) ++ ls (ts.drop (i + 1)) := by rw [← ls_append, List.take_append_drop]
   rw [prs_part ts i hit, ls_append, ls_one] at el
   refine pushRight_ok _ k _ _ _ _ _ hpl.2 L1 Tp (by rw [hpl.1]; rw [el] at hz; simp only [List.length_append] at hz ⊢; simp only [Fing.F.l, List.length_nil]; omega) (new_A hA E1) fun q' h2 E2 L2 => ?_
   rw [w64_of (by omega) (by omega)]
   refine ih (i + 1) q' h2 (by omega) (E1.trans E2) ?_
   rw [prs_part ts i hit, prs_snoc]; exact L2
 exact key ts.length 0 none h (by omega) (Fw.refl _) rfl
abbrev PopL (A : Nat → Prop) (r : World) (m : Fing.F) : Prop := ∀ (q : Option Addr) (h : Heap) (R : Option Addr → Option Addr → Heap → Prop), Lv A h m q → m.l.length < 4611686018427387904 → (∀ b, h.size ≤ b → A b) →
  (∀ p' q' h', Fw h h' → Th A h' (popL m).1 p' → Lv A h' (popL m).2 q' → R (some p') q' h') → finger_popLeft r q h R
abbrev PopR (A : Nat → Prop) (r : World) (m : Fing.F) : Prop := ∀ (q : Option Addr) (h : Heap) (R : Option Addr → Option Addr → Heap → Prop), Lv A h m q → m.l.length < 4611686018427387904 → (∀ b, h.size ≤ b → A b) →
  (∀ p' q' h', Fw h h' → Th A h' (popR m).1 p' → Lv A h' (popR m).2 q' → R (some p') q' h') → finger_popRight r q h R
theorem deepLeft_of {k : Nat} {l w : List Fing.T} {m : Fing.F} {s1 s2 : Sl} {q : Option Addr} {h : Heap} {R : Option Addr → Heap → Prop} (hl : D0 l k) (hm : m.ok (k + 1)) (hw : D w k) (D1 : Dg A h s1 l) (D2 : Dg A h s2 w) (L : Lv A h m q) (hz : (ls l ++ (m.l ++ ls w)).length < 4611686018427387904) (hA : ∀ b, h.size ≤ b → A b)
  (hp : m ≠ .nil → PopL A r m) (H : ∀ q' h', Fw h h' → Lv A h' (dL l m w) q' → R q' h') : finger_deepLeft r s1 q s2 h R := by
 apply finger_deepLeft_of
 have l1 := D1.len
 have hl4 := hl.1
 have hw4 := hw.2.1
 simp only [List.length_append] at hz
 refine ⟨fun c => ?_, fun c => ?_⟩
 ·have c : l ≠ [] := fun e => by subst e; have := of_decide_eq_true c; simp at l1; omega
  refine deep_ok D1 D2 L (by simp only [List.length_append]; omega) (by omega) (by omega) hA fun q' h' E L' => H q' h' E ?_
  unfold dL; rw [if_neg c]; exact L'
 ·have c : l = [] := List.eq_nil_of_length_eq_zero (by have := of_decide_eq_false c; omega)
  subst c
  refine ⟨fun e => ?_, fun e => ?_⟩
  ·have e := L.none.1 e
   subst e
   refine some_ok (k := k) D2 hw.2.2 (by omega) (by omega) hA fun q' h' E L' => H q' h' E L'
  ·have hm0 : m ≠ .nil := fun e' => by rw [L.none.2 e'] at e; cases e
   refine hp hm0 q h _ L (by omega) hA fun p' q' h3 E3 T3 L3 => ?_
   have hok := pop_ok m (k + 1) hm hm0
   obtain ⟨c', x, s', rfl, _, B, Dk, _⟩ := T3.view
   refine ⟨_, rfl, _, B.ld 6 rfl, ?_⟩
   have hk := dep_kids hok.1
   have e3 := congrArg List.length hok.2.2
   simp only [List.length_append] at e3
   refine deep_ok Dk (D2.fw E3) L3 (by rw [hk.2.1]; simp only [List.length_append]; omega) (by rcases hk.1 with h | h <;> omega) (by omega) (new_A hA E3) fun q4 h4 E4 L4 => H q4 h4 (E3.trans E4) ?_
   rw [dL_nil hm0]; exact L4
theorem deepRight_of {k : Nat} {l w : List Fing.T} {m : Fing.F} {s1 s2 : Sl} {q : Option Addr} {h : Heap} {R : Option Addr → Heap → Prop} (hl : D l k) (hm : m.ok (k + 1)) (hw : D0 w k) (D1 : Dg A h s1 l) (D2 : Dg A h s2 w) (L : Lv A h m q) (hz : (ls l ++ (m.l ++ ls w)).length < 4611686018427387904) (hA : ∀ b, h.size ≤ b → A b)
  (hp : m ≠ .nil → PopR A r m) (H : ∀ q' h', Fw h h' → Lv A h' (dR l m w) q' → R q' h') : finger_deepRight r s1 q s2 h R := by
 apply finger_deepRight_of
 have l2 := D2.len
 have hl4 := hl.2.1
 have hw4 := hw.1
 simp only [List.length_append] at hz
 refine ⟨fun c => ?_, fun c => ?_⟩
 ·have c : w ≠ [] := fun e => by subst e; have := of_decide_eq_true c; simp at l2; omega
  refine deep_ok D1 D2 L (by simp only [List.length_append]; omega) (by omega) (by omega) hA fun q' h' E L' => H q' h' E ?_
  unfold dR; rw [if_neg c]; exact L'
 ·have c : w = [] := List.eq_nil_of_length_eq_zero (by have := of_decide_eq_false c; omega)
  subst c
  refine ⟨fun e => ?_, fun e => ?_⟩
  ·have e := L.none.1 e
   subst e
   refine some_ok (k := k) D1 hl.2.2 (by omega) (by omega) hA fun q' h' E L' => H q' h' E L'
  ·have hm0 : m ≠ .nil := fun e' => by rw [L.none.2 e'] at e; cases e
   refine hp hm0 q h _ L (by omega) hA fun p' q' h3 E3 T3 L3 => ?_
   have hok := popr_ok m (k + 1) hm hm0
   obtain ⟨c', x, s', rfl, _, B, Dk, _⟩ := T3.view
   refine ⟨_, rfl, _, B.ld 6 rfl, ?_⟩
   have hk := dep_kids hok.1
   have e3 := congrArg List.length hok.2.2
   simp only [List.length_append] at e3
   refine deep_ok (D1.fw E3) Dk L3 (by rw [hk.2.1]; simp only [List.length_append]; omega) (by omega) (by rcases hk.1 with h | h <;> omega) (new_A hA E3) fun q4 h4 E4 L4 => H q4 h4 (E3.trans E4) ?_
   rw [dR_nil hm0]; exact L4
theorem popLeft_ok : ∀ (v : Fing.F) (k : Nat), v.ok k → v ≠ .nil → PopL A r v
 | .nil, _, _, hn => absurd rfl hn
 | .one t, k, ho, _ => fun q h R L hz hA H => by
  obtain ⟨c, s, rfl, hc, B, Du⟩ := L
  apply finger_popLeft_of
  refine ⟨_, rfl, _, B.ld 6 rfl, fun _ => ⟨_, rfl, _, B.ld 5 rfl, Du.ix (i := 0) rfl fun q0 p hq0 _ Tp => ⟨some p, hq0, H p none h (Fw.refl _) Tp rfl⟩⟩, fun c => (by cases c)⟩
 | .deep l m w, k, ho, _ => fun q h R L hz hA H => by
  obtain ⟨c, s, u, qm, rfl, hc, B, D1, D2, Lm⟩ := L
  apply finger_popLeft_of
  match l, ho, D1, B, hz, H with
  | [], ho, _, _, _, _ => exact absurd rfl ho.1.ne
  | t :: l, ho, D1, B, hz, H =>
   have l1 := D1.len
   rw [popL_deep] at H
   have hz : (ls (t :: l) ++ (m.l ++ ls w)).length < 4611686018427387904 := hz
   rw [ls_cons] at hz
   simp only [List.length_append] at hz
   refine ⟨_, rfl, _, B.ld 6 rfl, fun c => absurd c (by rw [D2.some ho.2.1.ne]; decide), fun _ => ⟨_, rfl, _, B.ld 5 rfl, D1.ix (i := 0) rfl fun q0 p hq0 hb0 Tp => ⟨some p, hq0, _, rfl, _, B.ld 5 rfl, ?_⟩⟩⟩
   dsimp only
   rw [l1]
   refine D1.sub (lo := 1) (hi := (t :: l).length) (by simp) (Nat.le_refl _) fun s3 D3 => ?_
   have D3 : Dg A h s3 l := by
    have : ((t :: l).drop 1).take ((t :: l).length - 1) = l := by simp
    rwa [this] at D3
   refine ⟨_, rfl, _, B.ld 7 rfl, _, rfl, _, B.ld 6 rfl, ?_⟩
   refine deepLeft_of (tail_D0 ho.1) ho.2.2 ho.2.1 D3 D2 Lm (by simp only [List.length_append]; omega) hA (popLeft_ok m (k + 1) ho.2.2) fun q' h1 E1 L1 => ?_
   exact ⟨by rw [E1.cell hb0]; exact hq0, (E1.blk B).ld 5 rfl, H p q' h1 E1 (Tp.fw E1) L1⟩
theorem popRight_ok : ∀ (v : Fing.F) (k : Nat), v.ok k → v ≠ .nil → PopR A r v
 | .nil, _, _, hn => absurd rfl hn
 | .one t, k, ho, _ => fun q h R L hz hA H => by
  obtain ⟨c, s, rfl, hc, B, Du⟩ := L
  apply finger_popRight_of
  refine ⟨_, rfl, _, B.ld 6 rfl, fun _ => ⟨_, rfl, _, B.ld 5 rfl, Du.ix (i := 0) rfl fun q0 p hq0 _ Tp => ⟨some p, hq0, H p none h (Fw.refl _) Tp rfl⟩⟩, fun c => (by cases c)⟩
 | .deep l m w, k, ho, _ => fun q h R L hz hA H => by
  obtain ⟨c, s, u, qm, rfl, hc, B, D1, D2, Lm⟩ := L
  apply finger_popRight_of
  rcases List.eq_nil_or_concat w with e | ⟨w', t, e⟩
  ·subst e; exact absurd rfl ho.2.1.ne
  rw [List.concat_eq_append] at e
  subst e
  have l2 := D2.len
  have hw4 := ho.2.1.2.1
  rw [popR_deep] at H
  simp only [List.dropLast_concat, List.getLastD_concat] at H
  have hz : (ls l ++ (m.l ++ ls (w' ++ [t]))).length < 4611686018427387904 := hz
  rw [ls_append] at hz
  simp only [List.length_append] at hz l2 hw4
  simp only [List.length_cons, List.length_nil] at l2 hw4
  refine ⟨_, rfl, _, B.ld 6 rfl, fun c => absurd c (by rw [D2.some ho.2.1.ne]; decide), fun _ => ⟨_, rfl, _, B.ld 6 rfl, _, rfl, _, B.ld 6 rfl, ?_⟩⟩
  have ei : w64 ((u.len : Int) - 1) = (w'.length : Int) := by rw [l2, w64_of] <;> omega
  dsimp only
  rw [ei]
  refine D2.ix (i := w'.length) (by rw [List.getElem?_append_right (Nat.le_refl _), Nat.sub_self]; rfl) fun q0 p hq0 hb0 Tp => ⟨some p, hq0, _, rfl, _, B.ld 5 rfl, _, rfl, _, B.ld 7 rfl, _, rfl, _, B.ld 6 rfl, ?_⟩
  refine D2.sub (lo := 0) (hi := w'.length) (Nat.zero_le _) (by simp) fun s3 D3 => ?_
  have D3 : Dg A h s3 w' := by
   have : ((w' ++ [t]).drop 0).take (w'.length - 0) = w' := by simp
   rwa [this] at D3
  refine deepRight_of ho.1 ho.2.2 (snoc_D0 ho.2.1) D1 D3 Lm (by simp only [List.length_append]; omega) hA (popRight_ok m (k + 1) ho.2.2) fun q' h1 E1 L1 => ?_
  exact ⟨by rw [E1.cell hb0]; exact hq0, (E1.blk B).ld 6 rfl, H p q' h1 E1 (Tp.fw E1) L1⟩
end
end Go.Proofs.YthkimbiknhebeaaGreatDoor.Mo
namespace Go.Proofs.YthkimbiknhebeaaGreatDoor.Mo
open Go Go.RowKit Go.Tw Go.Mono Go.Fing
set_option linter.unusedVariables false
/-- a row of cells is there -/
def IsC (h : Heap) (b : Nat) : Prop := ∃ o, h[b]? = some o ∧ notCells o = false
theorem IsC.lt {h : Heap} {b : Nat} (H : IsC h b) : b < h.size := by obtain ⟨o, h1, _⟩ := H; exact (Array.getElem?_eq_some_iff.1 h1).1
theorem isC_blk {h : Heap} {b : Nat} {cs : List Value} (B : Blk h b cs) : IsC h b := by obtain ⟨el, B⟩ := B; exact ⟨_, B, rfl⟩
theorem isC_cell {h : Heap} {b o : Nat} {v : Value} (H : hcell h (ad b o) = some v) : IsC h b := by
 unfold hcell at H
 have hb : (ad b o).block = b := rfl
 rw [hb] at H
 cases ho : h[b]? with
 | none => rw [ho] at H; cases H
 | some o' =>
  refine ⟨o', ho, ?_⟩
  cases o' with
  | cells => rfl
  | _ => rw [ho] at H; cases H
/-- rows of cells of A stay, and are of A' -/
def To (A A' : Nat → Prop) (h h' : Heap) : Prop := h.size ≤ h'.size ∧ ∀ b, A b → IsC h b → h'[b]? = h[b]? ∧ A' b
section
variable {A A' A'' : Nat → Prop} {h h' h'' : Heap}
theorem To.blk {b : Nat} {cs : List Value} (S : To A A' h h') (hA : A b) (B : Blk h b cs) : Blk h' b cs := B.of_eq (S.2 b hA (isC_blk B)).1
theorem To.weak (hw : ∀ b, A b → A' b) (h : Heap) : To A A' h h := ⟨Nat.le_refl _, fun b hb _ => ⟨rfl, hw b hb⟩⟩
theorem To.old (E : Fw h h') (hw : ∀ b, A b → b < h.size → A' b) : To A A' h h' := ⟨E.1, fun b hb hl => ⟨E.2 b hl.lt, hw b hb hl.lt⟩⟩
theorem To.fw (E : Fw h h') : To A A h h' := To.old E fun _ hb _ => hb
theorem To.trans (S : To A A' h h') (S' : To A' A'' h' h'') : To A A'' h h'' := ⟨Nat.le_trans S.1 S'.1, fun b hb hc => by
 obtain ⟨e1, a1⟩ := S.2 b hb hc
 obtain ⟨o, ho, hn⟩ := hc
 obtain ⟨e2, a2⟩ := S'.2 b a1 ⟨o, by rw [e1]; exact ho, hn⟩
 exact ⟨e2.trans e1, a2⟩⟩
theorem To.hput {c : Nat} {o o' : Obj} (hc : h[c]? = some o) (hn : notCells o = true) : To A A h (Tw.hput h c o') := ⟨by rw [hput_size]; exact Nat.le_refl _, fun b hb hi => ⟨hput_other (fun e => by
 subst e
 obtain ⟨o2, h1, h2⟩ := hi
 rw [hc] at h1; cases h1
 rw [hn] at h2; cases h2), hb⟩⟩
theorem To.over {c : Nat} (hc : ¬ A c) (ho : ∀ d, d ≠ c → h'[d]? = h[d]?) (hz : h'.size = h.size) : To A A h h' := ⟨by rw [hz]; exact Nat.le_refl _, fun b hb _ => ⟨ho b fun e => hc (e ▸ hb), hb⟩⟩
theorem Ps.to {s : Sl} {ps : List Addr} (S : To A A' h h') (H : Ps A h s ps) : Ps A' h' s ps := by
 refine ⟨H.len, H.cap, ?_⟩
 rcases H.at_ with e | ⟨b, o, h1, h2, h3, h4⟩
 ·exact .inl e
 ·cases ps with
  | nil => exact .inl rfl
  | cons p ps =>
   have hc : IsC h b := isC_cell (h4 0 (by simp))
   have hS := S.2 b h2 hc
   exact .inr ⟨b, o, h1, hS.2, Nat.lt_of_lt_of_le h3 S.1, fun i hi => by rw [hcell_of_eq (h := h) hS.1]; exact h4 i hi⟩
theorem Th.to (S : To A A' h h') : ∀ {t : Fing.T} {p : Addr}, Th A h t p → Th A' h' t p
 | .num x, p, ⟨c, e, hA, B⟩ => ⟨c, e, (S.2 c hA (isC_blk B)).2, S.blk hA B⟩
 | .n2 a b, p, ⟨c, s, pa, pb, e, hA, B, P, ta, tb⟩ => ⟨c, s, pa, pb, e, (S.2 c hA (isC_blk B)).2, S.blk hA B, P.to S, ta.to S, tb.to S⟩
 | .n3 a b d, p, ⟨c, s, pa, pb, pd, e, hA, B, P, ta, tb, td⟩ => ⟨c, s, pa, pb, pd, e, (S.2 c hA (isC_blk B)).2, S.blk hA B, P.to S, ta.to S, tb.to S, td.to S⟩
theorem Ths.to (S : To A A' h h') : ∀ {ts : List Fing.T} {ps : List Addr}, Ths A h ts ps → Ths A' h' ts ps
 | [], [], _ => trivial
 | t :: ts, p :: ps, ⟨a, b⟩ => ⟨a.to S, b.to S⟩
 | [], _ :: _, H => H.elim
 | _ :: _, [], H => H.elim
theorem Dg.to {s : Sl} {ts : List Fing.T} (S : To A A' h h') (H : Dg A h s ts) : Dg A' h' s ts := by obtain ⟨ps, a, b⟩ := H; exact ⟨ps, a.to S, b.to S⟩
theorem Lv.to (S : To A A' h h') : ∀ {v : Fing.F} {q : Option Addr}, Lv A h v q → Lv A' h' v q
 | .nil, _, e => e
 | .one t, _, ⟨c, s, e, hA, B, d⟩ => ⟨c, s, e, (S.2 c hA (isC_blk B)).2, S.blk hA B, d.to S⟩
 | .deep l m r, _, ⟨c, s, u, q, e, hA, B, d1, d2, L⟩ => ⟨c, s, u, q, e, (S.2 c hA (isC_blk B)).2, S.blk hA B, d1.to S, d2.to S, L.to S⟩
end
/-- of A, and not a slice's block -/
def Ao (A : Nat → Prop) (s : Sl) : Nat → Prop := fun b => A b ∧ ∀ p, s.a = some p → p.block ≠ b
section
variable {A : Nat → Prop} {r : World} {h : Heap}
/-- one more thing in a slice of one's own -/
theorem App.thing {N : Nat} {out : Sl} {ps : List Addr} {ts : List Fing.T} {t : Fing.T} {p : Addr} {K : Sl → Heap → Prop} (O : Own N 1 h out (ps.map pV)) (T : Ths (Ao A out) h ts ps) (Tp : Th (Ao A out) h t p) (hN : N ≤ h.size) (hn : ps.length < 1048576)
  (hK : ∀ s' h', Tw.Ext N h h' → Own N 1 h' s' ((ps ++ [p]).map pV) → Ths (Ao A s') h' (ts ++ [t]) (ps ++ [p]) → K s' h') : New h (.cells #[.pointer (some p)] 108) fun p15 h3 => App 108 1 8 (.pointer none) out ⟨some p15, 1, 1⟩ h3 K := by
 have hz1 : (Value.pointer none).cells.size = 1 := rfl
 have ls : out.len = ps.length := by have := O.len; simp at this; omega
 refine App.push (by' := 8) (cs := [pV p]) O rfl hz1 (one_all rfl) hN (by omega) fun s' h' G => ?_
 have S : To (Ao A out) (Ao A s') h h' := by
  refine ⟨G.ext.1, fun b hb hl => ⟨G.others b hl.lt fun q hq => hb.2 q hq, hb.1, fun q hq => ?_⟩⟩
  have hl := hl.lt
  rcases G.blk with e | ⟨c, hc, e⟩
  ·exact hb.2 q (by rw [← e]; exact hq)
  ·rw [e] at hq; cases hq
   show c ≠ b; omega
 refine hK s' h' G.ext ?_ ((T.to S).append ⟨Tp.to S, trivial⟩)
 have := G.own
 simpa using this
theorem groups_ok' {s : Sl} {l : List Fing.T} {R : Sl → Heap → Prop} (Dd : Dg A h s l) (hz : (ls l).length < 4611686018427387904) (hn : l.length < 1048576) (hA : ∀ b, h.size ≤ b → A b)
  (H : ∀ s' h', Fw h h' → Dg A h' s' (groups l) → R s' h') : finger_groups r s h R := by
 apply finger_groups_of
 intro X HX
 -- what is left, what is done
 have part : ∀ (out : Sl) (ps : List Addr) (done f w : List Fing.T) (s2 : Sl) (h1 : Heap) (K : Option Addr → Heap → Prop), Few f → (ls (f ++ w)).length < 4611686018427387904 → Dg A h s2 f → Fw h h1 → Own h.size 1 h1 out (ps.map pV) → Ths (Ao A out) h1 done ps →
   (∀ p h2, Fw h1 h2 → Own h.size 1 h2 out (ps.map pV) → Ths (Ao A out) h2 done ps → Th (Ao A out) h2 (grp f) p → K (some p) h2) → finger_group r s2 h1 K := by
  intro out ps done f w s2 h1 K hf hzf D2 E1 O1 T1 HK
  have S : To A (Ao A out) h h1 := To.old E1 fun b hb hl => ⟨hb, fun p hp => by have := (O1.lt hp).2; omega⟩
  refine group_ok (D2.to S) hf (by rw [ls_append] at hzf; simp at hzf; omega) (fun b hb => ⟨hA b (Nat.le_trans E1.1 hb), fun p hp => by have := (O1.lt hp).1; omega⟩) fun p h2 E2 Tg => ?_
  exact HK p h2 E2 (O1.ext E2) (T1.fw E2) Tg
 have fin : ∀ (out : Sl) (ps : List Addr) (done : List Fing.T) (h1 : Heap), Fw h h1 → Own h.size 1 h1 out (ps.map pV) → Ths (Ao A out) h1 done ps → done = groups l → R out h1 := by
  intro out ps done h1 E1 O1 T1 e
  subst e
  exact H out h1 E1 ⟨ps, Own.toPs O1 hA, T1.to (To.weak (fun b hb => hb.1) h1)⟩
 have second : ∀ (n : Nat) (w done : List Fing.T) (s2 out : Sl) (ps : List Addr) (h1 : Heap) (X27 : Sl → Sl → Heap → Prop),
   (∀ (l25 : Sl) (out26 : Sl) (h5 : Heap), (Br (decide (1 < ((l25.len : Int)))) (
     Sub l25 0 2 ((l25.cap : Int)) 1 fun s28 =>
     finger_group r s28 h5 fun y34 h6 =>
     New h6 (.cells #[(.pointer y34)] 108) fun p35 h7 =>
     App 108 1 8 (.pointer none) out26 ((⟨some p35, 1, 1⟩ : Sl)) h7 fun s38 h8 =>
     Sub l25 2 ((l25.len : Int)) ((l25.cap : Int)) 1 fun s39 =>
     X27 s39 s38 h8) (
     R out26 h5)) → X27 l25 out26 h5) →
   w.length ≤ n → (ls w).length < 4611686018427387904 → Dg A h s2 w → Fw h h1 → Own h.size 1 h1 out (ps.map pV) → Ths (Ao A out) h1 done ps → done ++ twos w = groups l → ps.length + w.length < 1048576 → X27 s2 out h1 := by
  intro n
  induction n with
  | zero =>
   intro w done s2 out ps h1 X27 HX27 hw hzw D2 E1 O1 T1 e hb
   have hwn : w = [] := List.eq_nil_of_length_eq_zero (by omega)
   subst hwn
   have l2 := D2.len
   exact HX27 _ _ _ ⟨fun c => absurd (of_decide_eq_true c) (by simp at l2; omega), fun _ => fin out ps done h1 E1 O1 T1 (by simpa [twos] using e)⟩
  | succ n ih =>
   intro w done s2 out ps h1 X27 HX27 hw hzw D2 E1 O1 T1 e hb
   have l2 := D2.len
   match w, hw, hzw, D2, e, hb, l2 with
   | [], hw, hzw, D2, e, hb, l2 => exact HX27 _ _ _ ⟨fun c => absurd (of_decide_eq_true c) (by simp at l2; omega), fun _ => fin out ps done h1 E1 O1 T1 (by simpa [twos] using e)⟩
   | [a], hw, hzw, D2, e, hb, l2 => exact HX27 _ _ _ ⟨fun c => absurd (of_decide_eq_true c) (by simp at l2; omega), fun _ => fin out ps done h1 E1 O1 T1 (by simpa [twos] using e)⟩
   | a :: b :: w, hw, hzw, D2, e, hb, l2 =>
    simp only [List.length_cons] at l2 hb hw
    refine HX27 _ _ _ ⟨fun _ => ?_, fun c => absurd (of_decide_eq_false c) (by omega)⟩
    refine D2.sub (lo := 0) (hi := 2) (by decide) (by simp) fun s3 D3 => ?_
    have D3 : Dg A h s3 [a, b] := D3
    refine part out ps done [a, b] w s3 h1 _ (.inl rfl) hzw D3 E1 O1 T1 fun p h2 E2 O2 T2 Tg => ?_
    refine App.thing O2 T2 Tg (Nat.le_trans E1.1 E2.1) (by omega) fun s4 h4 E4 O4 T4 => ?_
    rw [l2]
    refine D2.sub (lo := 2) (hi := w.length + 1 + 1) (by omega) (by simp) fun s5 D5 => ?_
    have D5 : Dg A h s5 w := by
     have : ((a :: b :: w).drop 2).take (w.length + 1 + 1 - 2) = w := by simp
     rwa [this] at D5
    refine ih w (done ++ [.n2 a b]) s5 s4 (ps ++ [p]) h4 X27 HX27 (by omega) (by rw [ls_cons, ls_cons] at hzw; simp at hzw; omega) D5 (Ext.trans (E1.trans E2) E4) O4 T4 (by rw [← e]; simp [twos]) (by simp; omega)
 have first : ∀ (n : Nat) (w done : List Fing.T) (s2 out : Sl) (ps : List Addr) (h1 : Heap), w.length ≤ n → (ls w).length < 4611686018427387904 → Dg A h s2 w → Fw h h1 → Own h.size 1 h1 out (ps.map pV) → Ths (Ao A out) h1 done ps → done ++ groups w = groups l → ps.length + w.length < 1048576 → X s2 out h1 := by
  intro n
  induction n with
  | zero =>
   intro w done s2 out ps h1 hw hzw D2 E1 O1 T1 e hb
   have hwn : w = [] := List.eq_nil_of_length_eq_zero (by omega)
   subst hwn
   have l2 := D2.len
   refine HX _ _ _ ⟨fun c => by simp [l2] at c, fun _ => ?_⟩
   intro X27 HX27
   exact second 0 [] done s2 out ps h1 X27 HX27 (by simp) hzw D2 E1 O1 T1 (by rw [groups_end (by simp)] at e; exact e) hb
  | succ n ih =>
   intro w done s2 out ps h1 hw hzw D2 E1 O1 T1 e hb
   have l2 := D2.len
   refine HX _ _ _ ⟨fun c => ?_, fun c => ?_⟩
   ·have c : w.length > 4 ∨ w.length = 3 := by
     rw [Bool.or_eq_true, decide_eq_true_eq, decide_eq_true_eq] at c
     omega
    match w, c, hw, hzw, D2, e, hb, l2 with
    | [], c, _, _, _, _, _, _ => exact absurd c (by simp)
    | [_], c, _, _, _, _, _, _ => exact absurd c (by simp)
    | [_, _], c, _, _, _, _, _, _ => exact absurd c (by simp)
    | a :: b :: d :: w, c, hw, hzw, D2, e, hb, l2 =>
     simp only [List.length_cons] at l2 hb hw c
     refine D2.sub (lo := 0) (hi := 3) (by decide) (by simp) fun s3 D3 => ?_
     have D3 : Dg A h s3 [a, b, d] := D3
     refine part out ps done [a, b, d] w s3 h1 _ (.inr rfl) hzw D3 E1 O1 T1 fun p h2 E2 O2 T2 Tg => ?_
     refine App.thing O2 T2 Tg (Nat.le_trans E1.1 E2.1) (by omega) fun s4 h4 E4 O4 T4 => ?_
     rw [l2]
     refine D2.sub (lo := 3) (hi := w.length + 1 + 1 + 1) (by omega) (by simp) fun s5 D5 => ?_
     have D5 : Dg A h s5 w := by
      have : ((a :: b :: d :: w).drop 3).take (w.length + 1 + 1 + 1 - 3) = w := by simp
      rwa [this] at D5
     refine ih w (done ++ [.n3 a b d]) s5 s4 (ps ++ [p]) h4 (by omega) (by rw [ls_cons, ls_cons, ls_cons] at hzw; simp at hzw; omega) D5 (Ext.trans (E1.trans E2) E4) O4 T4 (by rw [← e, groups_step (by omega)]; simp) (by simp; omega)
   ·have c : ¬ (w.length > 4 ∨ w.length = 3) := by
     rw [Bool.or_eq_false_iff, decide_eq_false_iff_not, decide_eq_false_iff_not] at c
     omega
    intro X27 HX27
    exact second w.length w done s2 out ps h1 X27 HX27 (Nat.le_refl _) hzw D2 E1 O1 T1 (by rw [groups_end c] at e; exact e) hb
 exact first l.length l [] s Sl.nil [] h (Nat.le_refl _) hz Dd (Fw.refl _) (Own.nil _ _ _) trivial rfl (by simpa using hn)
theorem grow_ok {n : Nat} {R : Sl → Heap → Prop} (hn : n ≤ 1048576) (H : ∀ s h', Fw h h' → Own h.size 1 h' s [] → R s h') : slices_Grow_finger_thing_finger_thing r Sl.nil (n : Int) h R := by
 apply slices_Grow_finger_thing_finger_thing_of
 intro J HJ
 refine ⟨fun c => absurd (of_decide_eq_true c) (by omega), fun _ => HJ _ fun x5 hx5 => ?_⟩
 have e5 : x5 = (n : Int) := by
  rw [hx5, show w64 ((Sl.nil.cap : Int) - (Sl.nil.len : Int)) = 0 by rw [w64_of] <;> decide, w64_of] <;> omega
 subst e5
 intro J8 HJ8
 refine ⟨fun c => ?_, fun c => HJ8 _ _ (H _ _ (Fw.refl _) (Own.nil _ _ _))⟩
 have c := of_decide_eq_true c
 refine ⟨by decide, by decide, by decide, by decide, fun t ht => ?_⟩
 have et : t = Sl.nil := by rw [ht]; rfl
 subst et
 refine ⟨by omega, by omega, by omega, by show 0 < 0 + _; omega, by show (0 + (n : Int).toNat) * 8 ≤ _; omega, [], rfl, .inl rfl, fun cap hcap _ => ?_⟩
 have hcap : n ≤ cap := by have : 0 + (n : Int).toNat ≤ cap := hcap; omega
 refine ⟨by decide, by simp [Sl.nil], by simp [Sl.nil], by simp, fun t ht => ?_⟩
 have ez : ∀ m, (Builtin.zeroCells (Value.pointer none).cells m).size = m := fun m => by
  have : (Value.pointer none).cells = #[.pointer none] := rfl
  simp [Builtin.zeroCells, this]
 refine HJ8 _ _ (H _ _ (Ext.push (Nat.le_refl _)) ?_)
 have et : t = ⟨some (ad h.size 0), 0, cap⟩ := by
  rw [ht]
  simp only [sliceA, Sl.nil, Int.toNat_natCast]
  split <;> rfl
 rw [et]
 refine ⟨rfl, by simp, .inr ⟨h.size, ((#[] ++ Builtin.zeroCells (Value.pointer none).cells (n : Int).toNat) ++ Builtin.zeroCells (Value.pointer none).cells (cap - (0 + (n : Int).toNat))).toList, rfl, Nat.le_refl _, ?_, ?_⟩⟩
 ·have := Blk.new (h := h) (cs := ((#[] ++ Builtin.zeroCells (Value.pointer none).cells (n : Int).toNat) ++ Builtin.zeroCells (Value.pointer none).cells (cap - (0 + (n : Int).toNat))).toList) (el := 108)
  rw [Array.toArray_toList] at this
  exact this
 ·simp [ez]
  omega
theorem concat_ok {b : Nat} {s t u : Sl} {x y z : List Fing.T} {R : Sl → Heap → Prop} (B : Blk h b [Sl.v s, Sl.v t, Sl.v u]) (hs : Dg A h s x) (ht : Dg A h t y) (hu : Dg A h u z) (hz : x.length + (y.length + z.length) ≤ 1048576) (hA : ∀ b, h.size ≤ b → A b)
  (H : ∀ s' h', Fw h h' → Dg A h' s' (x ++ (y ++ z)) → R s' h') : slices_Concat_finger_thing_finger_thing r ⟨some (ad b 0), 3, 3⟩ h R := by
 apply slices_Concat_finger_thing_finger_thing_of
 have l1 := hs.len
 have l2 := ht.len
 have l3 := hu.len
 obtain ⟨ps, P1, T1⟩ := hs
 obtain ⟨qs, P2, T2⟩ := ht
 obtain ⟨rs, P3, T3⟩ := hu
 have m1 := T1.len
 have m2 := T2.len
 have m3 := T3.len
 intro X HX
 have g : ∀ {h'} (i : Nat) {v : Value}, Fw h h' → [Sl.v s, Sl.v t, Sl.v u][i]? = some v → hcell h' (ad b i) = some v := fun i v E hv => by
  have := (E.blk B).ld i hv
  rwa [ad_add, Nat.zero_add] at this
 have ix : ∀ {K : Addr → Prop} (i : Nat), i < 3 → K (ad b i) → Ix ⟨some (ad b 0), 3, 3⟩ (i : Int) 1 K := fun i hi hK => Ix.mk rfl (by omega) (by simp; omega) (by simpa using hK)
 have e01 : w64 (0 + 1) = 1 := by rw [w64_of] <;> omega
 have e12 : w64 (1 + 1) = 2 := by rw [w64_of] <;> omega
 have e23 : w64 (2 + 1) = 3 := by rw [w64_of] <;> omega
 refine HX _ _ _ ⟨fun _ => ?_, fun c => absurd (of_decide_eq_false c) (by simp)⟩
 intro J HJ
 refine ix 0 (by omega) ⟨s, g 0 (Fw.refl _) rfl, fun c => absurd (of_decide_eq_true c) (by rw [w64_of] <;> omega), fun _ => HJ _ _ ?_⟩
 rw [show w64 (0 + (s.len : Int)) = (x.length : Int) by rw [w64_of] <;> omega, e01]
 refine HX _ _ _ ⟨fun _ => ?_, fun c => absurd (of_decide_eq_false c) (by simp)⟩
 intro J HJ
 refine ix 1 (by omega) ⟨t, g 1 (Fw.refl _) rfl, fun c => absurd (of_decide_eq_true c) (by rw [w64_of] <;> omega), fun _ => HJ _ _ ?_⟩
 rw [show w64 ((x.length : Int) + (t.len : Int)) = ((x.length + y.length : Nat) : Int) by rw [w64_of] <;> omega, e12]
 refine HX _ _ _ ⟨fun _ => ?_, fun c => absurd (of_decide_eq_false c) (by simp)⟩
 intro J HJ
 refine ix 2 (by omega) ⟨u, g 2 (Fw.refl _) rfl, fun c => absurd (of_decide_eq_true c) (by rw [w64_of] <;> omega), fun _ => HJ _ _ ?_⟩
 rw [show w64 (((x.length + y.length : Nat) : Int) + (u.len : Int)) = ((x.length + (y.length + z.length) : Nat) : Int) by rw [w64_of] <;> omega, e23]
 refine HX _ _ _ ⟨fun c => absurd (of_decide_eq_true c) (by simp), fun _ => ?_⟩
 refine grow_ok hz fun n h1 E1 O1 => ?_
 intro X2 HX2
 refine HX2 _ _ _ ⟨fun _ => ix 0 (by omega) ⟨s, g 0 E1 rfl, ?_⟩, fun c => absurd (of_decide_eq_false c) (by simp)⟩
 refine App.things (ps := []) O1 (P1.fw E1) E1.1 (by simp; omega) fun s2 h2 E2' O2 => ?_
 have E2 : Fw h h2 := Ext.trans E1 E2'
 rw [e01]
 refine HX2 _ _ _ ⟨fun _ => ix 1 (by omega) ⟨t, g 1 E2 rfl, ?_⟩, fun c => absurd (of_decide_eq_false c) (by simp)⟩
 refine App.things O2 (P2.fw E2) E2.1 (by simp; omega) fun s3 h3 E3' O3 => ?_
 have E3 : Fw h h3 := Ext.trans E2 E3'
 rw [e12]
 refine HX2 _ _ _ ⟨fun _ => ix 2 (by omega) ⟨u, g 2 E3 rfl, ?_⟩, fun c => absurd (of_decide_eq_false c) (by simp)⟩
 refine App.things O3 (P3.fw E3) E3.1 (by simp; omega) fun s4 h4 E4' O4 => ?_
 have E4 : Fw h h4 := Ext.trans E3 E4'
 rw [e23]
 refine HX2 _ _ _ ⟨fun c => absurd (of_decide_eq_true c) (by simp), fun _ => H s4 h4 E4 ⟨_, Own.toPs O4 hA, ?_⟩⟩
 rw [List.nil_append, List.append_assoc]
 exact (T1.fw E4).append ((T2.fw E4).append (T3.fw E4))
/-- one ahead of the other -/
theorem backward_ok {A0 : Nat → Prop} {h0 : Heap} {L c : Nat} {s : Sl} {l : List Fing.T} {R : Heap → Prop} {I : List Fing.T → Heap → Prop} (hl : l.length ≤ 1048576) (Dd : Dg A0 h0 s l) (I0 : I [] h) (keep : ∀ d h', I d h' → hcell h' (ad c 0) = some (Sl.v s) ∧ To A0 A0 h0 h')
  (step : ∀ d x t (i : Int) p h' K, I d h' → l = t ++ x :: d → Th A0 h' x p → (∀ h'', I (x :: d) h'' → K (.bool true) h'') → YieldH Tryz.prog r L [iV i, .pointer (some p)] h' K) (fin : ∀ h', I l h' → R h') : slices_Backward_finger_thing_finger_thing_1 r (.func (.yield L) #[] #[]) (ad c 0) h R := by
 apply slices_Backward_finger_thing_finger_thing_1_of
 have k0 := keep _ _ I0
 refine ⟨s, k0.1, ?_⟩
 have hlen := Dd.len
 intro X HX
 have key : ∀ (k : Nat) (h' : Heap), k ≤ l.length → I (l.drop k) h' → X ((k : Int) - 1) h' := by
  intro k
  induction k with
  | zero =>
   intro h' _ hI
   exact HX _ _ ⟨fun c => absurd (of_decide_eq_true c) (by omega), fun _ => fin h' hI⟩
  | succ k ih =>
   intro h' hk hI
   have kk := keep _ _ hI
   rw [show ((k + 1 : Nat) : Int) - 1 = (k : Int) by omega]
   have hkl : k < l.length := by omega
   refine HX _ _ ⟨fun _ => ⟨s, kk.1, (Dd.to kk.2).ix (List.getElem?_eq_getElem hkl) fun q p hq _ Tp => ⟨some p, hq, .inr ⟨L, rfl, ?_⟩⟩⟩, fun c => absurd (of_decide_eq_false c) (by omega)⟩
   have e2 : l.drop k = l[k] :: l.drop (k + 1) := List.drop_eq_getElem_cons hkl
   refine step (l.drop (k + 1)) _ (l.take k) _ p h' _ hI (by rw [← e2, List.take_append_drop]) Tp fun h'' hI' => ⟨true, rfl, fun c => (by cases c), fun _ => ?_⟩
   rw [w64_of (by omega) (by omega)]
   exact ih h'' (by omega) (by rw [e2]; exact hI')
 rw [hlen, w64_of (by omega) (by omega)]
 exact key l.length h (Nat.le_refl _) (by rw [List.drop_length]; exact I0)
end
end Go.Proofs.YthkimbiknhebeaaGreatDoor.Mo
namespace Go.Proofs.YthkimbiknhebeaaGreatDoor.Mo
open Go Go.RowKit Go.Tw Go.Mono Go.Fing
set_option linter.unusedVariables false
section
variable {A : Nat → Prop} {r : World}
/-- the second one is built upon -/
theorem jleft_ok {A' : Nat → Prop} {k c : Nat} {b : Fing.F} {l10 : List Fing.T} {s10 : Sl} {q : Option Addr} {h0 h2 : Heap} {R : Option Addr → Heap → Prop} (hA'e : A' = fun b => A b ∧ b ≠ c) (hb : b.ok k) (hl : l10.length ≤ 5) (hd10 : ∀ t ∈ l10, t.dep k) (E0 : Fw h0 h2) (hc0 : h0.size ≤ c) (B : Blk h2 c [.pointer q])
  (D10 : Dg A' h2 s10 l10) (Lb : Lv A' h2 b q) (hz10 : (ls l10).length + b.l.length < 4611686018427387904) (hA : ∀ b, h2.size ≤ b → A b) (HR : ∀ q' h', Fw h0 h' → Lv A h' (pls l10 b) q' → R q' h') :
  slices_Backward_finger_thing_finger_thing r s10 h2 fun y13 h3 =>
    ∀ (D14 : Nat) (o15 : Obj) (h4 : Heap), D14 = Array.size h3 → h4 = (h3.push (.deferred (some []))).push o15 → notCells o15 = true →
     (∀ (a24 : Int) (a25 : Option Addr) (h5 : Heap) (K16 : Value → Heap → Prop), (h5[D14 + 1]? = some o15) →
      (∀ h8 : Heap, h8 = Tw.hput h5 (D14 + 1) (busyO o15) →
       LdP h8 (ad c 0) fun x26 =>
       finger_pushLeft r a25 x26 h8 fun y28 h9 =>
       St h9 (ad c 0) 1 [(.pointer y28)] fun h10 =>
       (h10[D14 + 1]? = some (busyO o15)) ∧ K16 (.bool true) (Tw.hput h10 (D14 + 1) o15)) →
      YieldH Tryz.prog r (D14 + 1) [(.int .i64 a24), (.pointer a25)] h5 K16) →
    CallF Tryz.prog r y13 [.func (.yield (D14 + 1)) #[] #[]] h4 fun _ h6 => (h6[D14 + 1]? = some o15) ∧ ∀ (o23 : Obj) (h7 : Heap), h7 = Tw.hput h6 (D14 + 1) o23 →
    LdP h7 (ad c 0) fun x31 =>
    (h7[D14]? = some (.deferred (some []))) ∧ ∀ h11 : Heap, h11 = Tw.hput h7 D14 (.deferred none) →
    R x31 h11 := by
 apply slices_Backward_finger_thing_finger_thing_of
 refine New.cells fun h3 E3 z3 B3 => ?_
 intro D o h4 hD hh4 hno HY
 have E4 : Fw h3 h4 := by subst hh4; exact (Ext.push (Nat.le_refl _)).trans (Ext.push (by simp))
 have hDe : h4[D]? = some (.deferred (some [])) := by
  subst hh4; rw [push_old (by simp [hD]), hD]; simp
 have hLo : h4[D + 1]? = some o := by
  subst hh4; rw [hD, Array.getElem?_push, if_pos (by simp)]
 clear hh4
 have E24 : Fw h2 h4 := E3.trans E4
 have E04 : Fw h0 h4 := E0.trans E24
 have h0s := E0.1
 have hcl := B.lt
 have h3s := E3.1
 refine ⟨_, _, _, rfl, Tryz.call125, ?_⟩
 have hA' : ∀ {g : Heap}, h2.size ≤ g.size → ∀ b, g.size ≤ b → A' b := fun hg b hb => by rw [hA'e]; exact ⟨hA b (by omega), by omega⟩
 have h4s := E4.1
 have hnA : ¬ A' c := fun hh => by rw [hA'e] at hh; exact hh.2 rfl
 let I : List Fing.T → Heap → Prop := fun d h' => h'[D + 1]? = some o ∧ h'[D]? = some (.deferred (some [])) ∧ Fw h0 h' ∧ To A' A' h4 h' ∧ Blk h' h2.size [Sl.v s10] ∧ ∃ q', Blk h' c [.pointer q'] ∧ Lv A' h' (pls d b) q'
 have Lb' : Lv A' h4 b q := Lb.fw E24
 have main : slices_Backward_finger_thing_finger_thing_1 r (.func (.yield (D + 1)) #[] #[]) (ad h2.size 0) h4 fun h6 => (h6[D + 1]? = some o) ∧ ∀ (o23 : Obj) (h7 : Heap), h7 = Tw.hput h6 (D + 1) o23 →
   LdP h7 (ad c 0) fun x31 => (h7[D]? = some (.deferred (some []))) ∧ ∀ h11 : Heap, h11 = Tw.hput h7 D (.deferred none) → R x31 h11 := by
  refine Go.Proofs.YthkimbiknhebeaaGreatDoor.Mo.backward_ok (I := I) (A0 := A') (h0 := h4) (l := l10) (s := s10) (by omega) (D10.fw (E3.trans E4)) ⟨hLo, hDe, E04, To.weak (fun _ hb => hb) h4, E4.blk B3, q, E24.blk B, Lb'⟩ (fun d h' hI => ?_) ?_ ?_
  ·refine ⟨?_, hI.2.2.2.1⟩
   have := hI.2.2.2.2.1.ld 0 (v := Sl.v s10) rfl
   rwa [ad_add] at this
  ·intro d x t i p' h5 K hI hdl Tp hK
   obtain ⟨i1, i2, i3, i4, i5, q', i6, i7⟩ := hI
   refine HY i (some p') h5 K i1 fun h8 hh8 => ?_
   have hl2 : d.length + 1 ≤ l10.length := by rw [hdl]; simp
   have hdd : ∀ t ∈ d, t.dep k := fun y hy => hd10 y (by rw [hdl]; simp [hy])
   have hxd : x.dep k := hd10 x (by rw [hdl]; simp)
   have hls : (ls l10).length = (ls t).length + (x.l.length + (ls d).length) := by rw [hdl, ls_append, ls_cons]; simp
   have hpl := pls_l d b k hb hdd
   have b9 := i6.hput (o' := busyO o) i1 hno
   have c9 := i5.hput (o' := busyO o) i1 hno
   have S9 : To A' A' h5 (Tw.hput h5 (D + 1) (busyO o)) := To.hput i1 hno
   have r9 : (Tw.hput h5 (D + 1) (busyO o))[D + 1]? = some (busyO o) := hput_self i1
   have d9 : (Tw.hput h5 (D + 1) (busyO o))[D]? = some (.deferred (some [])) := by rw [hput_other (by omega)]; exact i2
   have f9 : Fw h0 (Tw.hput h5 (D + 1) (busyO o)) := i3.hput (by omega)
   rw [← hh8] at b9 c9 S9 r9 d9 f9
   have hz8 : h2.size ≤ h8.size := Nat.le_trans E24.1 (i4.trans S9).1
   refine ⟨q', by have := b9.ld 0 (v := .pointer q') rfl; rwa [ad_add] at this, ?_⟩
   refine pushLeft_ok _ k _ _ _ _ _ hpl.2 (i7.to S9) (Tp.to S9) (by rw [hpl.1]; simp; omega) (hA' hz8) fun q2 h9 E9 L9 => ?_
   have b10 := E9.blk b9
   refine St.whole b10 rfl rfl fun h10 b11 o11 z11 => ?_
   have hn := notCells_busy hno
   have r11 := other_at o11 (E9.at_ r9) (fun e => b10.not (E9.at_ r9) hn e.symm)
   have d11 := other_at o11 (E9.at_ d9) (fun e => b10.not (E9.at_ d9) rfl e.symm)
   have S11 : To A' A' h9 h10 := To.over hnA o11 z11
   have S12 : To A' A' h10 (Tw.hput h10 (D + 1) o) := To.hput r11 hn
   refine ⟨r11, hK _ ⟨hput_self r11, by rw [hput_other (by omega)]; exact d11, ((f9.trans E9).over hc0 o11 z11).hput (by omega), ((((i4.trans S9).trans (To.fw E9)).trans S11).trans S12), ((E9.blk c9).other o11 (by omega)).hput r11 hn, q2, b11.hput r11 hn, (L9.to S11).to S12⟩⟩
  ·intro h6 hI
   obtain ⟨i1, i2, i3, i4, i5, q', i6, i7⟩ := hI
   refine ⟨i1, fun o23 h7 hh7 => ?_⟩
   have b8 := i6.hput (o' := o23) i1 hno
   have S8 : To A' A' h6 (Tw.hput h6 (D + 1) o23) := To.hput i1 hno
   have d8 : (Tw.hput h6 (D + 1) o23)[D]? = some (.deferred (some [])) := by rw [hput_other (by omega)]; exact i2
   have f8 : Fw h0 (Tw.hput h6 (D + 1) o23) := i3.hput (by omega)
   rw [← hh7] at b8 S8 d8 f8
   refine ⟨q', by have := b8.ld 0 (v := .pointer q') rfl; rwa [ad_add] at this, d8, fun h11 hh11 => ?_⟩
   subst hh11
   refine HR q' _ (f8.hput (by omega)) ?_
   exact ((i7.to S8).to (To.hput d8 rfl)).to (To.weak (fun b hb => by rw [hA'e] at hb; exact hb.1) _)
 exact CallsH.mono main fun v h7 hx => hx.2
/-- the first one is built upon -/
theorem jright_ok {k : Nat} {a : Fing.F} {l57 : List Fing.T} {s57 : Sl} {p : Option Addr} {h : Heap} {R : Option Addr → Heap → Prop} (ha : a.ok k) (hl : l57.length ≤ 5) (hd57 : ∀ t ∈ l57, t.dep k) (D57 : Dg A h s57 l57) (La : Lv A h a p) (hz57 : (ls l57).length + a.l.length < 4611686018427387904) (hA : ∀ b, h.size ≤ b → A b)
  (HR : ∀ q' h', Fw h h' → Lv A h' (prs a l57) q' → R q' h') (X62 : Option Addr → Int → Heap → Prop) (HX : ∀ (a60 : Option Addr) (x61 : Int) (h15 : Heap),
       (Br (decide (x61 < ((s57.len : Int)))) (
        Ix s57 x61 1 fun q67 =>
        LdP h15 q67 fun x69 =>
        finger_pushRight r a60 x69 h15 fun y71 h16 =>
        X62 y71 (w64 (x61 + 1)) h16) (
        R a60 h15)) →
       X62 a60 x61 h15) : X62 p 0 h := by
 have l1 := D57.len
 have key : ∀ (n i : Nat) (q' : Option Addr) (h15 : Heap), i + n = l57.length → Fw h h15 → Lv A h15 (prs a (l57.take i)) q' → X62 q' (i : Int) h15 := by
  intro n
  induction n with
  | zero =>
   intro i q' h15 hi E15 L15
   refine HX _ _ _ ⟨fun c => absurd (of_decide_eq_true c) (by omega), fun _ => HR q' h15 E15 ?_⟩
   rwa [List.take_of_length_le (by omega)] at L15
  | succ n ihn =>
   intro i q' h15 hi E15 L15
   have hit : i < l57.length := by omega
   refine HX _ _ _ ⟨fun _ => (D57.fw E15).ix (List.getElem?_eq_getElem hit) fun q0 p0 hq0 _ Tp => ⟨some p0, hq0, ?_⟩, fun c => absurd (of_decide_eq_false c) (by omega)⟩
   have hpl := prs_l (l57.take i) a k ha fun t ht => hd57 t (List.mem_of_mem_take ht)
   have el : ls l57 = ls (l57.take (i + 1)) ++ ls (l57.drop (i + 1)) := by rw [← ls_append, List.take_append_drop]
   rw [prs_part l57 i hit, ls_append, ls_one] at el
   have el := congrArg List.length el
   simp only [List.length_append] at el
   refine pushRight_ok _ k _ _ _ _ _ hpl.2 L15 Tp (by rw [hpl.1]; simp only [List.length_append]; omega) (new_A hA E15) fun q2 h16 E16 L16 => ?_
   rw [w64_of (by omega) (by omega)]
   refine ihn (i + 1) q2 h16 (by omega) (E15.trans E16) ?_
   rw [prs_part l57 i hit, prs_snoc]; exact L16
 exact key l57.length 0 p h (by omega) (Fw.refl _) La
theorem joined_ok : ∀ (a : Fing.F) (ts : List Fing.T) (b : Fing.F) (k : Nat) (p : Option Addr) (s : Sl) (q : Option Addr) (h : Heap) (R : Option Addr → Heap → Prop), a.ok k → b.ok k → (∀ t ∈ ts, t.dep k) → ts.length ≤ 4 → Lv A h a p → Dg A h s ts → Lv A h b q →
  a.l.length + ((ls ts).length + b.l.length) < 4611686018427387904 → (∀ b, h.size ≤ b → A b) → (∀ q' h', Fw h h' → Lv A h' (jn a ts b) q' → R q' h') → finger_joined r p s q h R
 | .nil, ts, b, k, p, s, q, h, R, ha, hb, hd, hn, La, Ds, Lb, hz, hA, H => by
  have La : p = none := La
  subst La
  apply finger_joined_of
  refine New.cells (cs := [.pointer q]) fun h1 E1 z1 B1 => ?_
  intro J8 HJ8
  have ho : ∀ x, A x → x < h.size → (A x ∧ x ≠ h.size) := fun x hx hl => ⟨hx, by omega⟩
  refine ⟨fun _ => HJ8 _ ⟨fun _ => ?_, fun c => (by cases c)⟩, fun c => (by cases c)⟩
  intro J11 HJ11
  refine ⟨fun c => (by cases c), fun _ => HJ11 _ _ ?_⟩
  exact jleft_ok (A := A) (k := k) (c := h.size) (h0 := h) rfl hb (by omega) hd E1 (Nat.le_refl _) B1 (Ds.to (To.old E1 ho)) (Lb.to (To.old E1 ho)) (by simpa [Fing.F.l] using hz) (new_A hA E1) H
 | .one u, ts, b, k, p, s, q, h, R, ha, hb, hd, hn, La, Ds, Lb, hz, hA, H => by
  obtain ⟨c, s1, rfl, hc, B, Du⟩ := La
  apply finger_joined_of
  refine New.cells (cs := [.pointer q]) fun h1 E1 z1 B1 => ?_
  have hz : u.l.length + ((ls ts).length + b.l.length) < 4611686018427387904 := hz
  intro J8 HJ8
  have ho : ∀ x, A x → x < h.size → (A x ∧ x ≠ h.size) := fun x hx hl => ⟨hx, by omega⟩
  refine ⟨fun c => (by cases c), fun _ => ⟨_, rfl, _, (E1.blk B).ld 6 rfl, HJ8 _ ⟨fun _ => ?_, fun c => (by cases c)⟩⟩⟩
  intro J11 HJ11
  refine ⟨fun _ => ⟨_, rfl, _, (E1.blk B).ld 5 rfl, Du.ix (i := 0) rfl fun q0 p0 hq0 hb0 Tp => ⟨some p0, by rw [E1.cell hb0]; exact hq0, ?_⟩⟩, fun c => (by cases c)⟩
  refine New.cells (cs := [pV p0]) fun h2 E2 z2 B2 => ?_
  obtain ⟨ps, P, T⟩ := Ds
  have E12 := E1.trans E2
  have hT := T.len
  refine App.things (ps := [p0]) (own_blk B2 (Nat.le_refl _)) (P.fw E12) E2.1 (by simp; omega) fun s' h3 E3 O3 => HJ11 _ _ ?_
  have E23 : Fw h1 h3 := Ext.trans E2 E3
  have E03 : Fw h h3 := E1.trans E23
  have D3 : Dg (fun x => A x ∧ x ≠ h.size) h3 s' (u :: ts) := ⟨_, Own.toPs O3 (fun x hx => ⟨hA x (by omega), by omega⟩), Tp.to (To.old E03 ho), T.to (To.old E03 ho)⟩
  exact jleft_ok (A := A) (k := k) (c := h.size) (h0 := h) rfl hb (by simp; omega) (by intro x hx; rcases List.mem_cons.1 hx with rfl | hx; exact ha; exact hd x hx) E03 (Nat.le_refl _) (E23.blk B1) D3 (Lb.to (To.old E03 ho)) (by rw [ls_cons]; simp; omega) (new_A hA E03) H
 | .deep l m w, ts, .nil, k, p, s, q, h, R, ha, hb, hd, hn, La, Ds, Lb, hz, hA, H => by
  have La' := La
  obtain ⟨c, s1, u1, qm, rfl, hc, B, D1, D2, Lm⟩ := La
  have Lb : q = none := Lb
  subst Lb
  apply finger_joined_of
  refine New.cells (cs := [.pointer none]) fun h1 E1 z1 B1 => ?_
  have g0 : hcell h1 (ad h.size 0) = some (.pointer none) := by have := B1.ld 0 (v := .pointer none) rfl; rwa [ad_add] at this
  intro J8 HJ8
  refine ⟨fun c => (by cases c), fun _ => ⟨_, rfl, _, (E1.blk B).ld 6 rfl, ?_⟩⟩
  dsimp only
  rw [D2.some ha.2.1.ne]
  refine HJ8 _ ⟨fun c => (by cases c), fun _ => ?_⟩
  intro J53 HJ53
  refine ⟨_, g0, fun _ => HJ53 _ ⟨fun _ => ⟨_, g0, ?_⟩, fun c => (by cases c)⟩, fun c => (by cases c)⟩
  intro J58 HJ58
  refine ⟨fun c => (by cases c), fun _ => HJ58 _ _ fun X HX => ?_⟩
  have hz : (Fing.F.deep l m w).l.length + ((ls ts).length + 0) < 4611686018427387904 := hz
  exact jright_ok (A := A) ha (by omega) hd (Ds.fw E1) (La'.fw E1) (by omega) (new_A hA E1) (fun q' h' E L' => H q' h' (E1.trans E) L') X HX
 | .deep l m w, ts, .one u, k, p, s, q, h, R, ha, hb, hd, hn, La, Ds, Lb, hz, hA, H => by
  have La' := La
  obtain ⟨c, s1, u1, qm, rfl, hc, B, D1, D2, Lm⟩ := La
  obtain ⟨c2, s2, rfl, hc2, C, Du⟩ := Lb
  apply finger_joined_of
  refine New.cells (cs := [.pointer (some (ad c2 0))]) fun h1 E1 z1 B1 => ?_
  have g0 : ∀ {h'}, Fw h1 h' → hcell h' (ad h.size 0) = some (.pointer (some (ad c2 0))) := fun E => by have := (E.blk B1).ld 0 (v := .pointer (some (ad c2 0))) rfl; rwa [ad_add] at this
  intro J8 HJ8
  refine ⟨fun c => (by cases c), fun _ => ⟨_, rfl, _, (E1.blk B).ld 6 rfl, ?_⟩⟩
  dsimp only
  rw [D2.some ha.2.1.ne]
  refine HJ8 _ ⟨fun c => (by cases c), fun _ => ?_⟩
  intro J53 HJ53
  refine ⟨_, g0 (Fw.refl _), fun c => (by cases c), fun _ => ⟨_, g0 (Fw.refl _), _, rfl, _, (E1.blk C).ld 6 rfl, HJ53 _ ⟨fun _ => ⟨_, g0 (Fw.refl _), ?_⟩, fun c => (by cases c)⟩⟩⟩
  intro J58 HJ58
  have hz : (Fing.F.deep l m w).l.length + ((ls ts).length + u.l.length) < 4611686018427387904 := hz
  have last : ∀ (s' : Sl) (h3 : Heap), Fw h h3 → Dg A h3 s' (ts ++ [u]) → J58 s' h3 := fun s' h3 E3 D3 => HJ58 _ _ fun X HX =>
   jright_ok (A := A) ha (by simp; omega) (by intro x hx; rcases List.mem_append.1 hx with hx | hx; exact hd x hx; simp at hx; subst hx; exact hb) D3 (La'.fw E3) (by rw [ls_append, ls_one]; simp; omega) (new_A hA E3) (fun q' h' E L' => H q' h' (E3.trans E) L') X HX
  refine ⟨fun _ => ⟨_, g0 (Fw.refl _), _, rfl, _, (E1.blk C).ld 5 rfl, Du.ix (i := 0) rfl fun q0 p0 hq0 hb0 Tp => ⟨some p0, by rw [E1.cell hb0]; exact hq0, ?_, ?_⟩⟩, fun c => (by cases c)⟩
  ·refine clone_ok (Ds.fw E1) (by omega) fun s' h3 ps E3 O3 T3 => ?_
   have E03 := E1.trans E3
   refine ⟨by rw [E03.cell hb0]; exact hq0, (E03.blk C).ld 5 rfl, g0 E3, ?_⟩
   refine New.cells (cs := [pV p0]) fun h4 E4 z4 B4 => ?_
   have E04 := E03.trans E4
   have hT := T3.len
   have P4 : Ps A h4 ⟨some (ad h3.size 0), 1, 1⟩ [p0] := ⟨rfl, Nat.le_refl _, .inr ⟨h3.size, 0, rfl, hA _ E03.1, B4.lt, fun i hi => by rw [Nat.zero_add, B4.cell]; rfl⟩⟩
   refine App.things (O3.ext E4) P4 (E3.trans E4).1 (by simp; omega) fun s5 h5 E5 O5 => ?_
   have E15 : Fw h1 h5 := Ext.trans (E3.trans E4) E5
   exact last s5 h5 (E1.trans E15) ⟨_, Own.toPs O5 (new_A hA E1), (T3.fw E15).append ⟨Tp.fw (E1.trans E15), trivial⟩⟩
  ·refine New.cells (cs := [pV p0]) fun h4 E4 z4 B4 => ?_
   have E04 := E1.trans E4
   refine clone_ok (Ds.fw E04) (by omega) fun s' h3 ps E3 O3 T3 => ?_
   have E03 := E04.trans E3
   refine ⟨by rw [E03.cell hb0]; exact hq0, (E03.blk C).ld 5 rfl, g0 (E4.trans E3), ?_⟩
   have hT := T3.len
   have B5 := E3.blk B4
   have P4 : Ps A h3 ⟨some (ad h1.size 0), 1, 1⟩ [p0] := ⟨rfl, Nat.le_refl _, .inr ⟨h1.size, 0, rfl, hA _ E1.1, B5.lt, fun i hi => by rw [Nat.zero_add, B5.cell]; rfl⟩⟩
   refine App.things O3 P4 E3.1 (by simp; omega) fun s5 h5 E5 O5 => ?_
   have E45 : Fw h4 h5 := Ext.trans E3 E5
   exact last s5 h5 (E04.trans E45) ⟨_, Own.toPs O5 (new_A hA E04), (T3.fw E45).append ⟨Tp.fw (E04.trans E45), trivial⟩⟩
 | .deep l m w, ts, .deep l' m' w', k, p, s, q, h, R, ha, hb, hd, hn, La, Ds, Lb, hz, hA, H => by
  obtain ⟨c, s1, u1, qm, rfl, hc, B, D1, D2, Lm⟩ := La
  obtain ⟨c2, s2, u2, qm', rfl, hc2, C, D3, D4, Lm'⟩ := Lb
  have hz : (ls l ++ (m.l ++ ls w)).length + ((ls ts).length + (ls l' ++ (m'.l ++ ls w')).length) < 4611686018427387904 := hz
  simp only [List.length_append] at hz
  have n1 := ha.1.2.1
  have n2 := ha.2.1.2.1
  have n3 := hb.1.2.1
  have n4 := hb.2.1.2.1
  have n2' := ha.2.1.1
  have n3' := hb.1.1
  apply finger_joined_of
  refine New.cells (cs := [.pointer (some (ad c2 0))]) fun h1 E1 z1 B1 => ?_
  have g0 : ∀ {h'}, Fw h1 h' → hcell h' (ad h.size 0) = some (.pointer (some (ad c2 0))) := fun E => by have := (E.blk B1).ld 0 (v := .pointer (some (ad c2 0))) rfl; rwa [ad_add] at this
  have gb : ∀ {h'}, Fw h1 h' → Blk h' c _ := fun E => (E1.trans E).blk B
  have gc : ∀ {h'}, Fw h1 h' → Blk h' c2 _ := fun E => (E1.trans E).blk C
  have R0 := Fw.refl h1
  intro J8 HJ8
  refine ⟨fun c => (by cases c), fun _ => ⟨_, rfl, _, (gb R0).ld 6 rfl, ?_⟩⟩
  dsimp only
  rw [D2.some ha.2.1.ne]
  refine HJ8 _ ⟨fun c => (by cases c), fun _ => ?_⟩
  intro J53 HJ53
  refine ⟨_, g0 R0, fun c => (by cases c), fun _ => ⟨_, g0 R0, _, rfl, _, (gc R0).ld 6 rfl, ?_⟩⟩
  dsimp only
  rw [D4.some hb.2.1.ne]
  refine HJ53 _ ⟨fun c => (by cases c), fun _ => ?_⟩
  refine ⟨_, rfl, _, (gb R0).ld 5 rfl, _, rfl, _, (gb R0).ld 7 rfl, _, rfl, _, (gb R0).ld 6 rfl, _, g0 R0, _, rfl, _, (gc R0).ld 5 rfl, _, g0 R0, _, rfl, _, (gc R0).ld 7 rfl, _, g0 R0, _, rfl, _, (gc R0).ld 6 rfl, ?_⟩
  refine New.cells (cs := [Sl.v u1, Sl.v s, Sl.v s2]) fun h2 E2 z2 B2 => ?_
  refine ⟨(gc E2).ld 6 rfl, g0 E2, (gc E2).ld 7 rfl, g0 E2, (gb E2).ld 7 rfl, (gb E2).ld 5 rfl, ?_⟩
  have E02 := E1.trans E2
  refine concat_ok B2 (D2.fw E02) (Ds.fw E02) (D3.fw E02) (by omega) (new_A hA E02) fun s3 h3 E3 D5 => ?_
  have E13 := E2.trans E3
  have E03 := E1.trans E13
  refine ⟨(gc E13).ld 6 rfl, g0 E13, (gc E13).ld 7 rfl, g0 E13, (gb E13).ld 7 rfl, (gb E13).ld 5 rfl, ?_⟩
  have hdd : ∀ t ∈ w ++ (ts ++ l'), t.dep k := by
   intro t ht
   rcases List.mem_append.1 ht with ht | ht
   ·exact ha.2.1.2.2 t ht
   ·rcases List.mem_append.1 ht with ht | ht
    ·exact hd t ht
    ·exact hb.1.2.2 t ht
  have hgl : (w ++ (ts ++ l')).length ≤ 12 := by simp; omega
  obtain ⟨gr1, gr2, gr3⟩ := groups_ok _ (w ++ (ts ++ l')) k rfl (by simp; omega) hdd
  have hlz : (ls (w ++ (ts ++ l'))).length = (ls w).length + ((ls ts).length + (ls l').length) := by rw [ls_append, ls_append]; simp
  refine groups_ok' D5 (by omega) (by omega) (new_A hA E03) fun s4 h4 E4 D6 => ?_
  have E14 := E13.trans E4
  have E04 := E1.trans E14
  refine ⟨(gc E14).ld 6 rfl, g0 E14, (gc E14).ld 7 rfl, g0 E14, (gb E14).ld 7 rfl, (gb E14).ld 5 rfl, ?_⟩
  refine joined_ok m (groups (w ++ (ts ++ l'))) m' (k + 1) _ _ _ _ _ ha.2.2 hb.2.2 gr2 (by omega) (Lm.fw E04) D6 (Lm'.fw E04) (by rw [gr1]; omega) (new_A hA E04) fun q5 h5 E5 L5 => ?_
  have E15 := E14.trans E5
  have E05 := E1.trans E15
  refine ⟨(gc E15).ld 6 rfl, g0 E15, (gb E15).ld 5 rfl, ?_⟩
  have hj := (jn_ok m (groups (w ++ (ts ++ l'))) m' (k + 1) ha.2.2 hb.2.2 gr2).2
  refine deep_ok (D1.fw E05) (D4.fw E05) L5 (by rw [hj, gr1]; simp only [List.length_append]; omega) (by omega) (by omega) (new_A hA E05) fun q6 h6 E6 L6 => H q6 h6 (E05.trans E6) L6
end
end Go.Proofs.YthkimbiknhebeaaGreatDoor.Mo
namespace Go.Proofs.YthkimbiknhebeaaGreatDoor.Mo
open Go Go.RowKit Go.Tw Go.Mono Go.Fing
set_option linter.unusedVariables false
/-- a function that tells of beginnings -/
def AskV (r : World) (p1 : Value) (f : List Int → Bool) (h0 : Heap) : Prop := ∀ h', Fw h0 h' → ∀ (s : List Int), s.length < 4611686018427387904 → ∀ K : Value → Heap → Prop, (∀ h'', Fw h' h'' → K (.bool (f s)) h'') →
 CallV Tryz.prog r p1 [.agg #[iV (meas s).n, iV (meas s).sum, iV (meas s).least, iV (meas s).most, iV (meas s).hash]] h' K
theorem AskV.fw {r : World} {p1 : Value} {f : List Int → Bool} {h h' : Heap} (H : AskV r p1 f h) (E : Fw h h') : AskV r p1 f h' := fun h2 E2 => H h2 (E.trans E2)
section
variable {A : Nat → Prop} {r : World} {p1 : Value} {f : List Int → Bool}
theorem place_ok {s0 : List Int} {ts : List Fing.T} {sl : Sl} {h : Heap} {R : Int → Int → Int → Int → Int → Int → Heap → Prop} (Dd : Dg A h sl ts) (hask : AskV r p1 f h) (h0 : f s0 = false) (h1 : f (s0 ++ ls ts) = true) (hn : ts ≠ []) (hl : ts.length ≤ 4) (hz : s0.length + (ls ts).length < 4611686018427387904)
  (H : ∀ (a : List Fing.T) (t : Fing.T) (b : List Fing.T) (h' : Heap), ts = a ++ t :: b → f (s0 ++ ls a) = false → f (s0 ++ (ls a ++ t.l)) = true → Fw h h' → R (a.length : Int) (meas (s0 ++ ls a)).n (meas (s0 ++ ls a)).sum (meas (s0 ++ ls a)).least (meas (s0 ++ ls a)).most (meas (s0 ++ ls a)).hash h') :
  finger_asker_place r p1 (meas s0).n (meas s0).sum (meas s0).least (meas s0).most (meas s0).hash sl h R := by
 apply finger_asker_place_of
 have hlen := Dd.len
 obtain ⟨n, hn1⟩ : ∃ n, ts.length = n + 1 := ⟨ts.length - 1, by have := List.length_pos_iff.2 hn; omega⟩
 refine New.cells fun g1 E1 z1 B1 => New.cells fun g2 E2 z2 B2 => ?_
 have ew : w64 ((sl.len : Int) - 1) = (n : Int) := by rw [w64_of] <;> omega
 rw [ew]
 have E12 := E1.trans E2
 refine Dd.sub (lo := 0) (hi := n) (Nat.zero_le _) (by omega) fun s14 D14 => ?_
 have D14 : Dg A h s14 (ts.take n) := by simpa using D14
 have l14 := D14.len
 have l14 : s14.len = n := by rw [l14]; simp; omega
 intro X HX
 have hc8 := B1.lt
 have hc11 := B2.lt
 have key : ∀ (d i : Nat) (h3 : Heap), i + d = n → Fw h h3 → Blk h3 h.size (meas (s0 ++ ls (ts.take i))).c → Blk h3 g1.size [iV 0, iV 0, iV 0, iV 0, iV 0] → f (s0 ++ ls (ts.take i)) = false → X (i : Int) h3 := by
  intro d
  induction d with
  | zero =>
   intro i h3 hi E3 B3 C3 hf
   obtain rfl : i = n := by omega
   refine HX _ _ ⟨fun c => absurd (of_decide_eq_true c) (by omega), fun _ => ⟨_, B3.ld 0 rfl, _, B3.ld 1 rfl, _, B3.ld 2 rfl, _, B3.ld 3 rfl, _, B3.ld 4 rfl, ?_⟩⟩
   refine St.whole C3 rfl rfl fun h4 B4 o4 z4 => ⟨_, B4.ld 0 rfl, _, B4.ld 1 rfl, _, B4.ld 2 rfl, _, B4.ld 3 rfl, _, B4.ld 4 rfl, ?_⟩
   have e1 : ts = ts.take i ++ ts[i]'(by omega) :: [] := by
    have := prs_part ts i (by omega)
    rw [List.take_of_length_le (by omega)] at this
    exact this
   have := H (ts.take i) (ts[i]'(by omega)) [] h4 e1 hf (by rw [← ls_one, ← ls_append, ← e1]; exact h1) (E3.over E1.1 o4 z4)
   rw [List.length_take, Nat.min_eq_left (by omega)] at this
   exact this
  | succ d ih =>
   intro i h3 hi E3 B3 C3 hf
   have hit : i < ts.length := by omega
   have eg : (ts.take n)[i]? = some ts[i] := by rw [List.getElem?_take, if_pos (by omega), List.getElem?_eq_getElem hit]
   refine HX _ _ ⟨fun _ => (D14.fw E3).ix eg fun q0 p0 hq0 _ Tp => ⟨some p0, hq0, ?_⟩, fun c => absurd (of_decide_eq_false c) (by omega)⟩
   obtain ⟨c, x, s', rfl, _, B, _, _⟩ := Tp.view
   intro J HJ
   have es : ts.take (i + 1) = ts.take i ++ [ts[i]] := prs_part ts i hit
   have ets : ts = ts.take i ++ ts[i] :: ts.drop (i + 1) := by rw [← List.drop_eq_getElem_cons hit, List.take_append_drop]
   have elen := congrArg (fun z => (ls z).length) ets
   simp only [ls_append, ls_cons, List.length_append] at elen
   have em : (s0 ++ ls (ts.take i)) ++ ts[i].l = s0 ++ ls (ts.take (i + 1)) := by rw [es, ls_append, ls_one, List.append_assoc]
   have fin : ∀ (c30 : Nat) (h4 : Heap), Fw h3 h4 → Blk h4 c30 (meas (s0 ++ ls (ts.take (i + 1)))).c → J (ad c30 0) h4 := by
    intro c30 h4 E4 B4
    refine HJ _ _ ⟨_, B4.ld 0 rfl, _, B4.ld 1 rfl, _, B4.ld 2 rfl, _, B4.ld 3 rfl, _, B4.ld 4 rfl, ?_⟩
    have E04 := E3.trans E4
    refine hask h4 E04 _ (by rw [← em]; simp; omega) _ fun h5 E5 => ⟨_, rfl, fun hy => ?_, fun hy => ?_⟩
    ·have B5 := (E4.trans E5).blk B3
     have C5 := (E4.trans E5).blk C3
     refine ⟨_, B5.ld 0 rfl, _, B5.ld 1 rfl, _, B5.ld 2 rfl, _, B5.ld 3 rfl, _, B5.ld 4 rfl, ?_⟩
     refine St.whole C5 rfl rfl fun h6 B6 o6 z6 => ⟨_, B6.ld 0 rfl, _, B6.ld 1 rfl, _, B6.ld 2 rfl, _, B6.ld 3 rfl, _, B6.ld 4 rfl, ?_⟩
     have := H (ts.take i) ts[i] (ts.drop (i + 1)) h6 ets hf (by rw [← List.append_assoc, em]; exact hy) ((E04.trans E5).over E1.1 o6 z6)
     rw [List.length_take, Nat.min_eq_left (by omega)] at this
     exact this
    ·have B5 := E5.blk B4
     have C5 := (E4.trans E5).blk B3
     have D5 := (E4.trans E5).blk C3
     refine ⟨_, B5.ld 0 rfl, _, B5.ld 1 rfl, _, B5.ld 2 rfl, _, B5.ld 3 rfl, _, B5.ld 4 rfl, ?_⟩
     refine St.whole C5 rfl rfl fun h7 B7 o7 z7 => ?_
     rw [w64_of (by omega) (by omega)]
     have E7 := (E04.trans E5).over (Nat.le_refl _) o7 z7
     exact ih (i + 1) h7 (by omega) E7 B7 (D5.other o7 (by omega)) hy
   have hjz : (s0 ++ ls (ts.take i)).length + ts[i].l.length < 4611686018427387904 := by simp; omega
   refine ⟨_, B3.ld 0 rfl, _, B3.ld 1 rfl, _, B3.ld 2 rfl, _, B3.ld 3 rfl, _, B3.ld 4 rfl, _, rfl, _, B.ld2 0 0 rfl, _, B.ld2 0 1 rfl, _, B.ld2 0 2 rfl, _, B.ld2 0 3 rfl, _, B.ld2 0 4 rfl, ?_, ?_⟩
   ·refine join_ok hjz fun h8 E8 => ?_
    rw [em]
    refine New.cells fun h9 E9 z9 B9 => ?_
    have E89 := E8.trans E9
    have Bt := E89.blk B
    have B8 := E89.blk B3
    refine ⟨Bt.ld2 0 0 rfl, Bt.ld2 0 1 rfl, Bt.ld2 0 2 rfl, Bt.ld2 0 3 rfl, Bt.ld2 0 4 rfl, B8.ld 0 rfl, B8.ld 1 rfl, B8.ld 2 rfl, B8.ld 3 rfl, B8.ld 4 rfl, ?_⟩
    exact St.whole B9 rfl rfl fun h10 B10 o10 z10 => fin _ h10 (E89.over (c := h8.size) E8.1 o10 z10) B10
   ·refine New.cells fun h9 E9 z9 B9 => ?_
    have Bt := E9.blk B
    have B8 := E9.blk B3
    refine ⟨Bt.ld2 0 0 rfl, Bt.ld2 0 1 rfl, Bt.ld2 0 2 rfl, Bt.ld2 0 3 rfl, Bt.ld2 0 4 rfl, B8.ld 0 rfl, B8.ld 1 rfl, B8.ld 2 rfl, B8.ld 3 rfl, B8.ld 4 rfl, ?_⟩
    refine join_ok hjz fun h8 E8 => ?_
    rw [em]
    exact St.whole (E8.blk B9) rfl rfl fun h10 B10 o10 z10 => fin _ h10 ((E9.trans E8).over (c := h3.size) (Nat.le_refl _) o10 z10) B10
 refine key n 0 g2 (by omega) E12 ?_ B2 ?_
 ·have e : s0 ++ ls (ts.take 0) = s0 := by simp [ls]
  rw [e]; exact E2.blk B1
 ·have e : s0 ++ ls (ts.take 0) = s0 := by simp [ls]
  rw [e]; exact h0
theorem cut_ok : ∀ (v : Fing.F) (k : Nat) (s0 : List Int) (q : Option Addr) (h : Heap) (R : Option Addr → Option Addr → Option Addr → Heap → Prop), v.ok k → v ≠ .nil → Lv A h v q → AskV r p1 f h → f s0 = false → f (s0 ++ v.l) = true → s0.length + v.l.length < 4611686018427387904 → (∀ b, h.size ≤ b → A b) →
  (∀ a t b qa pt qb h', Fw h h' → Fing.F.ok a k → Fing.T.dep t k → Fing.F.ok b k → a.l ++ (t.l ++ b.l) = v.l → f (s0 ++ a.l) = false → f (s0 ++ (a.l ++ t.l)) = true → Lv A h' a qa → Th A h' t pt → Lv A h' b qb → R qa (some pt) qb h') →
  finger_asker_cut r p1 (meas s0).n (meas s0).sum (meas s0).least (meas s0).most (meas s0).hash q h R
 | .nil, _, _, _, _, _, _, hn, _, _, _, _, _, _, _ => absurd rfl hn
 | .one u, k, s0, q, h, R, ho, _, L, hask, hf0, hf1, hz, hA, H => by
  have L' := L
  obtain ⟨c, s, rfl, hc, B, Du⟩ := L
  apply finger_asker_cut_of
  refine New.cells fun h1 E1 z1 B1 => ⟨_, rfl, _, (E1.blk B).ld 6 rfl, fun _ => ⟨_, rfl, _, (E1.blk B).ld 5 rfl, (Du.fw E1).ix (i := 0) rfl fun q0 p0 hq0 _ Tp => ⟨some p0, hq0, ?_⟩⟩, fun c => (by cases c)⟩
  exact H .nil u .nil none p0 none h1 E1 trivial ho trivial (by simp [Fing.F.l]) (by simpa [Fing.F.l] using hf0) (by simpa [Fing.F.l] using hf1) rfl Tp rfl
 | .deep l m w, k, s0, q, h, R, ho, _, L, hask, hf0, hf1, hz, hA, H => by
  obtain ⟨c, s, u, qm, rfl, hc, B, D1, D2, Lm⟩ := L
  have hf1 : f (s0 ++ (ls l ++ (m.l ++ ls w))) = true := hf1
  have hz : s0.length + (ls l ++ (m.l ++ ls w)).length < 4611686018427387904 := hz
  simp only [List.length_append] at hz
  have n1 := ho.1.2.1
  have n2 := ho.2.1.2.1
  have hvl : (Fing.F.deep l m w).l = ls l ++ (m.l ++ ls w) := rfl
  rw [hvl] at H
  apply finger_asker_cut_of
  refine New.cells fun h1 E1 z1 B8 => ⟨_, rfl, _, (E1.blk B).ld 6 rfl, fun c => absurd c (by rw [D2.some ho.2.1.ne]; decide), fun _ => ?_⟩
  have gb : ∀ {h'}, Fw h1 h' → Blk h' c _ := fun E => (E1.trans E).blk B
  have g8 : ∀ {h'}, Fw h1 h' → Blk h' h.size (meas s0).c := fun E => E.blk B8
  intro J28 HJ28
  have hS1 : (s0 ++ ls l).length = s0.length + (ls l).length := by simp
  have hS2 : ((s0 ++ ls l) ++ m.l).length = s0.length + (ls l).length + m.l.length := by simp; omega
  have fin28 : ∀ (c27 : Nat) (h2 : Heap), Fw h1 h2 → Blk h2 c27 (meas (s0 ++ ls l)).c → J28 (ad c27 0) h2 := by
   intro c27 h2 E2 B27
   refine HJ28 _ _ ⟨_, B27.ld 0 rfl, _, B27.ld 1 rfl, _, B27.ld 2 rfl, _, B27.ld 3 rfl, _, B27.ld 4 rfl, ?_⟩
   refine hask h2 (E1.trans E2) (s0 ++ ls l) (by omega) _ fun h3 E3 => ⟨_, rfl, fun hl => ?_, fun hl => ?_⟩
   · -- in the left digit
    have E13 := E2.trans E3
    intro J42 HJ42
    have fin42 : ∀ (a : List Fing.T) (t : Fing.T) (b : List Fing.T) (h4 : Heap), l = a ++ t :: b → f (s0 ++ ls a) = false → f (s0 ++ (ls a ++ t.l)) = true → Fw h1 h4 → J42 (a.length : Int) h4 := by
     intro a t b h4 el ha ht E4
     have E04 := E1.trans E4
     have hll : l.length = a.length + (b.length + 1) := by rw [el]; simp
     have hls : (ls l).length = (ls a).length + (t.l.length + (ls b).length) := by rw [el, ls_append, ls_cons]; simp
     have hda : ∀ x ∈ a, x.dep k := fun x hx => ho.1.2.2 x (by rw [el]; simp [hx])
     have hdb : ∀ x ∈ b, x.dep k := fun x hx => ho.1.2.2 x (by rw [el]; simp [hx])
     have hdt : t.dep k := ho.1.2.2 t (by rw [el]; simp)
     refine HJ42 _ _ ⟨_, rfl, _, (gb E4).ld 5 rfl, D1.sub (lo := 0) (hi := a.length) (Nat.zero_le _) (by omega) fun s48 D48 => ?_⟩
     have D48 : Dg A h s48 a := by
      have : (l.drop 0).take (a.length - 0) = a := by rw [el]; simp
      rwa [this] at D48
     refine ⟨_, rfl, _, (gb E4).ld 5 rfl, D1.ix (i := a.length) (by rw [el, List.getElem?_append_right (Nat.le_refl _), Nat.sub_self]; rfl) fun q0 p0 hq0 hb0 Tp => ⟨some p0, by rw [E04.cell hb0]; exact hq0, _, rfl, _, (gb E4).ld 5 rfl, ?_⟩⟩
     dsimp only
     rw [show w64 ((a.length : Int) + 1) = ((a.length + 1 : Nat) : Int) by rw [w64_of] <;> omega, D1.len]
     refine D1.sub (lo := a.length + 1) (hi := l.length) (by omega) (Nat.le_refl _) fun s70 D70 => ?_
     have D70 : Dg A h s70 b := by
      have : (l.drop (a.length + 1)).take (l.length - (a.length + 1)) = b := by
       rw [List.take_of_length_le (by simp), el, List.drop_append]
       simp
      rwa [this] at D70
     refine ⟨_, rfl, _, (gb E4).ld 7 rfl, _, rfl, _, (gb E4).ld 6 rfl, ?_⟩
     refine some_ok (k := k) (D48.fw E04) hda (by omega) (by omega) (new_A hA E04) fun qa h5 E5 L5 => ?_
     have E15 := E4.trans E5
     have E05 := E1.trans E15
     refine ⟨(gb E15).ld 6 rfl, (gb E15).ld 7 rfl, (gb E15).ld 5 rfl, by rw [E05.cell hb0]; exact hq0, (gb E15).ld 5 rfl, ?_⟩
     have hb0' : D0 b k := ⟨by omega, hdb⟩
     refine deepLeft_of hb0' ho.2.2 ho.2.1 (D70.fw E05) (D2.fw E05) (Lm.fw E05) (by simp only [List.length_append]; omega) (new_A hA E05) (popLeft_ok m (k + 1) ho.2.2) fun qb h6 E6 L6 => ?_
     have E16 := E15.trans E6
     have E06 := E1.trans E16
     refine ⟨by rw [E06.cell hb0]; exact hq0, (gb E16).ld 5 rfl, ?_⟩
     obtain ⟨pl1, pl2⟩ := prs_l a .nil k trivial hda
     have pl1 : (prs .nil a).l = ls a := by rw [pl1]; rfl
     obtain ⟨dl1, dl2⟩ := dL_ok hb0' ho.2.2 ho.2.1
     exact H (prs .nil a) t (dL b m w) qa p0 qb h6 E06 pl2 hdt dl1 (by rw [pl1, dl2, el, ls_append, ls_cons]; simp) (by rw [pl1]; exact ha) (by rw [pl1]; exact ht) (L5.fw E6) (Tp.fw E06) L6
    have B3 := g8 E13
    refine ⟨_, B3.ld 0 rfl, _, B3.ld 1 rfl, _, B3.ld 2 rfl, _, B3.ld 3 rfl, _, B3.ld 4 rfl, _, rfl, _, (gb E13).ld 5 rfl, ?_, ?_⟩
    ·refine place_ok (D1.fw (E1.trans E13)) (hask.fw (E1.trans E13)) hf0 hl ho.1.ne n1 (by omega) fun a t b h7 el ha ht E7 => ?_
     refine New.cells fun h8 E8 z8 B9 => ?_
     have E17 := (E13.trans E7).trans E8
     have B3 := g8 E17
     refine ⟨(gb E17).ld 5 rfl, B3.ld 0 rfl, B3.ld 1 rfl, B3.ld 2 rfl, B3.ld 3 rfl, B3.ld 4 rfl, ?_⟩
     exact St.whole B9 rfl rfl fun h9 B10 o10 z10 => fin42 a t b h9 el ha ht (E17.over (c := h7.size) (E13.trans E7).1 o10 z10)
    ·refine New.cells fun h8 E8 z8 B9 => ?_
     have E17 := E13.trans E8
     have B3 := g8 E17
     refine ⟨(gb E17).ld 5 rfl, B3.ld 0 rfl, B3.ld 1 rfl, B3.ld 2 rfl, B3.ld 3 rfl, B3.ld 4 rfl, ?_⟩
     refine place_ok (D1.fw (E1.trans E17)) (hask.fw (E1.trans E17)) hf0 hl ho.1.ne n1 (by omega) fun a t b h7 el ha ht E7 => ?_
     exact St.whole (E7.blk B9) rfl rfl fun h9 B10 o10 z10 => fin42 a t b h9 el ha ht ((E17.trans E7).over (c := h3.size) E13.1 o10 z10)
   · -- further on
    have E13 := E2.trans E3
    have B27 := E3.blk B27
    intro J142 HJ142
    have fin142 : ∀ (c141 : Nat) (h13 : Heap), Fw h3 h13 → Blk h13 c141 (meas ((s0 ++ ls l) ++ m.l)).c → J142 (ad c141 0) h13 := by
     intro c141 h13 E313 B141
     have E113 := E13.trans E313
     have B27 := E313.blk B27
     refine HJ142 _ _ ?_
     intro J145 HJ145
     -- in the right digit
     have no : ∀ h14, Fw h13 h14 → f ((s0 ++ ls l) ++ m.l) = false → J145 false h14 := by
      intro h14 E1314 hm
      have E114 := E113.trans E1314
      have B141 := E1314.blk B141
      refine HJ145 _ _ ⟨fun c => (by cases c), fun _ => ?_⟩
      intro J338 HJ338
      have fin338 : ∀ (a : List Fing.T) (t : Fing.T) (b : List Fing.T) (h36 : Heap), w = a ++ t :: b → f (((s0 ++ ls l) ++ m.l) ++ ls a) = false → f (((s0 ++ ls l) ++ m.l) ++ (ls a ++ t.l)) = true → Fw h1 h36 → J338 (a.length : Int) h36 := by
       intro a t b h36 el ha ht E4
       have E04 := E1.trans E4
       have hll : w.length = a.length + (b.length + 1) := by rw [el]; simp
       have hls : (ls w).length = (ls a).length + (t.l.length + (ls b).length) := by rw [el, ls_append, ls_cons]; simp
       have hda : ∀ x ∈ a, x.dep k := fun x hx => ho.2.1.2.2 x (by rw [el]; simp [hx])
       have hdb : ∀ x ∈ b, x.dep k := fun x hx => ho.2.1.2.2 x (by rw [el]; simp [hx])
       have hdt : t.dep k := ho.2.1.2.2 t (by rw [el]; simp)
       refine HJ338 _ _ ⟨_, rfl, _, (gb E4).ld 5 rfl, _, rfl, _, (gb E4).ld 7 rfl, _, rfl, _, (gb E4).ld 6 rfl, D2.sub (lo := 0) (hi := a.length) (Nat.zero_le _) (by omega) fun s48 D48 => ?_⟩
       have D48 : Dg A h s48 a := by
        have : (w.drop 0).take (a.length - 0) = a := by rw [el]; simp
        rwa [this] at D48
       refine ⟨_, rfl, _, (gb E4).ld 6 rfl, D2.ix (i := a.length) (by rw [el, List.getElem?_append_right (Nat.le_refl _), Nat.sub_self]; rfl) fun q0 p0 hq0 hb0 Tp => ⟨some p0, by rw [E04.cell hb0]; exact hq0, _, rfl, _, (gb E4).ld 6 rfl, ?_⟩⟩
       dsimp only
       rw [show w64 ((a.length : Int) + 1) = ((a.length + 1 : Nat) : Int) by rw [w64_of] <;> omega, D2.len]
       refine D2.sub (lo := a.length + 1) (hi := w.length) (by omega) (Nat.le_refl _) fun s70 D70 => ?_
       have D70 : Dg A h s70 b := by
        have : (w.drop (a.length + 1)).take (w.length - (a.length + 1)) = b := by
         rw [List.take_of_length_le (by simp), el, List.drop_append]
         simp
        rwa [this] at D70
       have ha0' : D0 a k := ⟨by omega, hda⟩
       refine deepRight_of ho.1 ho.2.2 ha0' (D1.fw E04) (D48.fw E04) (Lm.fw E04) (by simp only [List.length_append]; omega) (new_A hA E04) (popRight_ok m (k + 1) ho.2.2) fun qa h5 E5 L5 => ?_
       have E15 := E4.trans E5
       have E05 := E1.trans E15
       refine ⟨(gb E15).ld 6 rfl, by rw [E05.cell hb0]; exact hq0, (gb E15).ld 6 rfl, ?_⟩
       refine some_ok (k := k) (D70.fw E05) hdb (by omega) (by omega) (new_A hA E05) fun qb h6 E6 L6 => ?_
       have E16 := E15.trans E6
       have E06 := E1.trans E16
       refine ⟨by rw [E06.cell hb0]; exact hq0, (gb E16).ld 6 rfl, ?_⟩
       obtain ⟨pl1, pl2⟩ := prs_l b .nil k trivial hdb
       have pl1 : (prs .nil b).l = ls b := by rw [pl1]; rfl
       obtain ⟨dl1, dl2⟩ := dR_ok ho.1 ho.2.2 ha0'
       exact H (dR l m a) t (prs .nil b) qa p0 qb h6 E06 dl1 hdt pl2 (by rw [pl1, dl2, el, ls_append, ls_cons]; simp) (by rw [dl2]; simpa using ha) (by rw [dl2]; simpa using ht) (L5.fw E6) (Tp.fw E06) L6
      have hf2 : f (((s0 ++ ls l) ++ m.l) ++ ls w) = true := by simpa using hf1
      refine ⟨_, B141.ld 0 rfl, _, B141.ld 1 rfl, _, B141.ld 2 rfl, _, B141.ld 3 rfl, _, B141.ld 4 rfl, _, rfl, _, (gb E114).ld 6 rfl, ?_, ?_⟩
      ·refine place_ok (D2.fw (E1.trans E114)) (hask.fw (E1.trans E114)) hm hf2 ho.2.1.ne n2 (by omega) fun a t b h7 el ha ht E7 => ?_
       refine New.cells fun h8 E8 z8 B9 => ?_
       have E17 := (E114.trans E7).trans E8
       have B3 := (E7.trans E8).blk B141
       refine ⟨(gb E17).ld 6 rfl, B3.ld 0 rfl, B3.ld 1 rfl, B3.ld 2 rfl, B3.ld 3 rfl, B3.ld 4 rfl, ?_⟩
       exact St.whole B9 rfl rfl fun h9 B10 o10 z10 => fin338 a t b h9 el ha ht (E17.over (c := h7.size) (E114.trans E7).1 o10 z10)
      ·refine New.cells fun h8 E8 z8 B9 => ?_
       have E17 := E114.trans E8
       have B3 := E8.blk B141
       refine ⟨(gb E17).ld 6 rfl, B3.ld 0 rfl, B3.ld 1 rfl, B3.ld 2 rfl, B3.ld 3 rfl, B3.ld 4 rfl, ?_⟩
       refine place_ok (D2.fw (E1.trans E17)) (hask.fw (E1.trans E17)) hm hf2 ho.2.1.ne n2 (by omega) fun a t b h7 el ha ht E7 => ?_
       exact St.whole (E7.blk B9) rfl rfl fun h9 B10 o10 z10 => fin338 a t b h9 el ha ht ((E17.trans E7).over (c := h14.size) E114.1 o10 z10)
     refine ⟨_, rfl, _, (gb E113).ld 7 rfl, fun hm => ?_, fun hm => no h13 (Fw.refl _) ?_⟩
     ·have hm0 : m ≠ .nil := fun e => by rw [Lm.none.2 e] at hm; cases hm
      refine ⟨_, B141.ld 0 rfl, _, B141.ld 1 rfl, _, B141.ld 2 rfl, _, B141.ld 3 rfl, _, B141.ld 4 rfl, ?_⟩
      refine hask h13 (E1.trans E113) ((s0 ++ ls l) ++ m.l) (by omega) _ fun h14 E14 => ⟨_, rfl, ?_⟩
      cases hfm : f ((s0 ++ ls l) ++ m.l) with
      | false => exact no h14 E14 hfm
      | true =>
       refine HJ145 _ _ ⟨fun _ => ?_, fun c => (by cases c)⟩
       have E114 := E113.trans E14
       have E014 := E1.trans E114
       have B27 := E14.blk B27
       refine ⟨_, B27.ld 0 rfl, _, B27.ld 1 rfl, _, B27.ld 2 rfl, _, B27.ld 3 rfl, _, B27.ld 4 rfl, _, rfl, _, (gb E114).ld 7 rfl, ?_⟩
       refine cut_ok m (k + 1) (s0 ++ ls l) _ h14 _ ho.2.2 hm0 (Lm.fw E014) (hask.fw E014) hl hfm (by omega) (new_A hA E014) fun a' t' b' qa pt qb h15 E15 oka okt okb eab fa ft La Tt Lb => ?_
       have E115 := E114.trans E15
       have E015 := E1.trans E115
       have B27 := E15.blk B27
       obtain ⟨ct, x, sk, rfl, _, Bt, Dk, _⟩ := Tt.view
       have hk := dep_kids okt
       have hkl : t'.kids.length ≤ 4 := by rcases hk.1 with h | h <;> omega
       have hkn : t'.kids ≠ [] := by intro e; rcases hk.1 with h | h <;> rw [e] at h <;> simp at h
       have eabl := congrArg List.length eab
       simp only [List.length_append] at eabl
       have htl : (ls t'.kids).length = t'.l.length := by rw [hk.2.1]
       intro J165 HJ165
       have fin165 : ∀ (a : List Fing.T) (t : Fing.T) (b : List Fing.T) (h16 : Heap), t'.kids = a ++ t :: b → f (((s0 ++ ls l) ++ a'.l) ++ ls a) = false → f (((s0 ++ ls l) ++ a'.l) ++ (ls a ++ t.l)) = true → Fw h15 h16 → J165 (a.length : Int) h16 := by
        intro a t b h16 el ha ht E16
        have E116 := E115.trans E16
        have E016 := E1.trans E116
        have hll : t'.kids.length = a.length + (b.length + 1) := by rw [el]; simp
        have hls : t'.l.length = (ls a).length + (t.l.length + (ls b).length) := by rw [← htl, el, ls_append, ls_cons]; simp
        have hda : ∀ x ∈ a, x.dep k := fun x hx => hk.2.2 x (by rw [el]; simp [hx])
        have hdb : ∀ x ∈ b, x.dep k := fun x hx => hk.2.2 x (by rw [el]; simp [hx])
        have hdt : t.dep k := hk.2.2 t (by rw [el]; simp)
        have Bt := E16.blk Bt
        refine HJ165 _ _ ⟨_, rfl, _, (gb E116).ld 5 rfl, _, rfl, _, Bt.ld 6 rfl, Dk.sub (lo := 0) (hi := a.length) (Nat.zero_le _) (by omega) fun s48 D48 => ?_⟩
        have D48 : Dg A h15 s48 a := by
         have : (t'.kids.drop 0).take (a.length - 0) = a := by rw [el]; simp
         rwa [this] at D48
        refine ⟨_, rfl, _, Bt.ld 6 rfl, Dk.ix (i := a.length) (by rw [el, List.getElem?_append_right (Nat.le_refl _), Nat.sub_self]; rfl) fun q0 p0 hq0 hb0 Tp => ⟨some p0, by rw [E16.cell hb0]; exact hq0, _, rfl, _, Bt.ld 6 rfl, ?_⟩⟩
        dsimp only
        rw [show w64 ((a.length : Int) + 1) = ((a.length + 1 : Nat) : Int) by rw [w64_of] <;> omega, Dk.len]
        refine Dk.sub (lo := a.length + 1) (hi := t'.kids.length) (by omega) (Nat.le_refl _) fun s70 D70 => ?_
        have D70 : Dg A h15 s70 b := by
         have : (t'.kids.drop (a.length + 1)).take (t'.kids.length - (a.length + 1)) = b := by
          rw [List.take_of_length_le (by simp), el, List.drop_append]
          simp
         rwa [this] at D70
        have ha0' : D0 a k := ⟨by omega, hda⟩
        have hb0' : D0 b k := ⟨by omega, hdb⟩
        refine ⟨_, rfl, _, (gb E116).ld 6 rfl, ?_⟩
        refine deepRight_of ho.1 oka ha0' (D1.fw E016) (D48.fw E16) (La.fw E16) (by simp only [List.length_append]; omega) (new_A hA E016) (popRight_ok a' (k + 1) oka) fun qa2 h17 E17 L17 => ?_
        have E117 := E116.trans E17
        have E017 := E1.trans E117
        have Bt := E17.blk Bt
        refine ⟨(gb E117).ld 6 rfl, Bt.ld 6 rfl, by rw [(E16.trans E17).cell hb0]; exact hq0, Bt.ld 6 rfl, ?_⟩
        refine deepLeft_of hb0' okb ho.2.1 (D70.fw (E16.trans E17)) (D2.fw E017) (Lb.fw (E16.trans E17)) (by simp only [List.length_append]; omega) (new_A hA E017) (popLeft_ok b' (k + 1) okb) fun qb2 h18 E18 L18 => ?_
        have E1518 := (E16.trans E17).trans E18
        refine ⟨by rw [E1518.cell hb0]; exact hq0, (E18.blk Bt).ld 6 rfl, ?_⟩
        obtain ⟨dr1, dr2⟩ := dR_ok ho.1 oka ha0'
        obtain ⟨dl1, dl2⟩ := dL_ok hb0' okb ho.2.1
        refine H (dR l a' a) t (dL b b' w) qa2 p0 qb2 h18 (E015.trans E1518) dr1 hdt dl1 ?_ (by rw [dr2]; simpa using ha) (by rw [dr2]; simpa using ht) (L17.fw E18) (Tp.fw E1518) L18
        rw [dr2, dl2, ← eab, ← hk.2.1, el, ls_append, ls_cons]
        simp
       have hf0' : f ((s0 ++ ls l) ++ a'.l) = false := fa
       have hf1' : f (((s0 ++ ls l) ++ a'.l) ++ ls t'.kids) = true := by rw [hk.2.1, List.append_assoc]; exact ft
       have hjz : (s0 ++ ls l).length + a'.l.length < 4611686018427387904 := by omega
       have place : ∀ (h19 : Heap) (R' : Int → Int → Int → Int → Int → Int → Heap → Prop), Fw h15 h19 → (∀ a t b h', t'.kids = a ++ t :: b → f (((s0 ++ ls l) ++ a'.l) ++ ls a) = false → f (((s0 ++ ls l) ++ a'.l) ++ (ls a ++ t.l)) = true → Fw h19 h' → ∀ y1 y2 y3 y4 y5, R' (a.length : Int) y1 y2 y3 y4 y5 h') →
         finger_asker_place r p1 (meas ((s0 ++ ls l) ++ a'.l)).n (meas ((s0 ++ ls l) ++ a'.l)).sum (meas ((s0 ++ ls l) ++ a'.l)).least (meas ((s0 ++ ls l) ++ a'.l)).most (meas ((s0 ++ ls l) ++ a'.l)).hash sk h19 R' := fun h19 R' E19 HR =>
        place_ok (Dk.fw E19) (hask.fw (E015.trans E19)) hf0' hf1' hkn hkl (by simp only [List.length_append]; omega) fun a t b h' el ha ht E' => HR a t b h' el ha ht E' _ _ _ _ _
       refine ⟨_, B27.ld 0 rfl, _, B27.ld 1 rfl, _, B27.ld 2 rfl, _, B27.ld 3 rfl, _, B27.ld 4 rfl, _, rfl, _, Bt.ld 6 rfl, ?_, ?_⟩
       ·refine lmeasure_ok La fun h19 E19 => ?_
        have B27a := E19.blk B27
        refine ⟨(E19.blk Bt).ld 6 rfl, B27a.ld 0 rfl, B27a.ld 1 rfl, B27a.ld 2 rfl, B27a.ld 3 rfl, B27a.ld 4 rfl, ?_, ?_⟩
        ·refine join_ok hjz fun h20 E20 => ?_
         have E1520 := E19.trans E20
         refine ⟨(E1520.blk Bt).ld 6 rfl, ?_, ?_⟩
         ·refine place h20 _ E1520 fun a t b h21 el ha ht E21 y1 y2 y3 y4 y5 => ?_
          refine New.cells fun h22 E22 z22 B22 => ?_
          have E1522 := (E1520.trans E21).trans E22
          have B27b := E1522.blk B27
          refine ⟨(E1522.blk Bt).ld 6 rfl, B27b.ld 0 rfl, B27b.ld 1 rfl, B27b.ld 2 rfl, B27b.ld 3 rfl, B27b.ld 4 rfl, ?_⟩
          exact St.whole B22 rfl rfl fun h23 B23 o23 z23 => fin165 a t b h23 el ha ht (E1522.over (c := h21.size) (E1520.trans E21).1 o23 z23)
         ·refine New.cells fun h22 E22 z22 B22 => ?_
          have E1522 := E1520.trans E22
          have B27b := E1522.blk B27
          refine ⟨(E1522.blk Bt).ld 6 rfl, B27b.ld 0 rfl, B27b.ld 1 rfl, B27b.ld 2 rfl, B27b.ld 3 rfl, B27b.ld 4 rfl, ?_⟩
          refine place h22 _ E1522 fun a t b h21 el ha ht E21 y1 y2 y3 y4 y5 => ?_
          exact St.whole (E21.blk B22) rfl rfl fun h23 B23 o23 z23 => fin165 a t b h23 el ha ht ((E1522.trans E21).over (c := h20.size) E1520.1 o23 z23)
        ·refine New.cells fun h22 E22 z22 B22 => ?_
         have E1522 := E19.trans E22
         have B27b := E1522.blk B27
         refine ⟨(E1522.blk Bt).ld 6 rfl, B27b.ld 0 rfl, B27b.ld 1 rfl, B27b.ld 2 rfl, B27b.ld 3 rfl, B27b.ld 4 rfl, ?_⟩
         refine join_ok hjz fun h20 E20 => ?_
         have E1520 := E1522.trans E20
         refine ⟨(E1520.blk Bt).ld 6 rfl, ?_⟩
         refine place h20 _ E1520 fun a t b h21 el ha ht E21 y1 y2 y3 y4 y5 => ?_
         exact St.whole (E21.blk (E20.blk B22)) rfl rfl fun h23 B23 o23 z23 => fin165 a t b h23 el ha ht ((E1520.trans E21).over (c := h19.size) E19.1 o23 z23)
       ·refine New.cells fun h22 E22 z22 B22 => ?_
        have B27b := E22.blk B27
        refine ⟨(E22.blk Bt).ld 6 rfl, B27b.ld 0 rfl, B27b.ld 1 rfl, B27b.ld 2 rfl, B27b.ld 3 rfl, B27b.ld 4 rfl, ?_⟩
        refine lmeasure_ok (La.fw E22) fun h19 E19 => ?_
        have E1519 := E22.trans E19
        have B27a := E1519.blk B27
        refine ⟨(E1519.blk Bt).ld 6 rfl, B27a.ld 0 rfl, B27a.ld 1 rfl, B27a.ld 2 rfl, B27a.ld 3 rfl, B27a.ld 4 rfl, ?_⟩
        refine join_ok hjz fun h20 E20 => ?_
        have E1520 := E1519.trans E20
        refine ⟨(E1520.blk Bt).ld 6 rfl, ?_⟩
        refine place h20 _ E1520 fun a t b h21 el ha ht E21 y1 y2 y3 y4 y5 => ?_
        exact St.whole (E21.blk (E20.blk (E19.blk B22))) rfl rfl fun h23 B23 o23 z23 => fin165 a t b h23 el ha ht ((E1520.trans E21).over (c := h15.size) (Nat.le_refl _) o23 z23)
     ·have hm0 : m = .nil := Lm.none.1 (by simpa using hm)
      subst hm0
      simpa [Fing.F.l] using hl
    have hjm : (s0 ++ ls l).length + m.l.length < 4611686018427387904 := by omega
    refine ⟨_, B27.ld 0 rfl, _, B27.ld 1 rfl, _, B27.ld 2 rfl, _, B27.ld 3 rfl, _, B27.ld 4 rfl, _, rfl, _, (gb E13).ld 7 rfl, ?_, ?_⟩
    ·refine lmeasure_ok (Lm.fw (E1.trans E13)) fun h46 E46 => ?_
     have B27a := E46.blk B27
     refine ⟨B27a.ld 0 rfl, B27a.ld 1 rfl, B27a.ld 2 rfl, B27a.ld 3 rfl, B27a.ld 4 rfl, ?_, ?_⟩
     ·refine join_ok hjm fun h47 E47 => New.cells fun h48 E48 z48 B48 => ?_
      have E348 := (E46.trans E47).trans E48
      have B27b := E348.blk B27
      refine ⟨(gb (E13.trans E348)).ld 7 rfl, B27b.ld 0 rfl, B27b.ld 1 rfl, B27b.ld 2 rfl, B27b.ld 3 rfl, B27b.ld 4 rfl, ?_⟩
      exact St.whole B48 rfl rfl fun h49 B49 o49 z49 => fin142 _ h49 (E348.over (c := h47.size) (E46.trans E47).1 o49 z49) B49
     ·refine New.cells fun h48 E48 z48 B48 => ?_
      have E348 := E46.trans E48
      have B27b := E348.blk B27
      refine ⟨(gb (E13.trans E348)).ld 7 rfl, B27b.ld 0 rfl, B27b.ld 1 rfl, B27b.ld 2 rfl, B27b.ld 3 rfl, B27b.ld 4 rfl, ?_⟩
      refine join_ok hjm fun h47 E47 => ?_
      exact St.whole (E47.blk B48) rfl rfl fun h49 B49 o49 z49 => fin142 _ h49 ((E348.trans E47).over (c := h46.size) E46.1 o49 z49) B49
    ·refine New.cells fun h48 E48 z48 B48 => ?_
     have B27b := E48.blk B27
     refine ⟨(gb (E13.trans E48)).ld 7 rfl, B27b.ld 0 rfl, B27b.ld 1 rfl, B27b.ld 2 rfl, B27b.ld 3 rfl, B27b.ld 4 rfl, ?_⟩
     refine lmeasure_ok (Lm.fw (E1.trans (E13.trans E48))) fun h46 E46 => ?_
     have E346 := E48.trans E46
     have B27a := E346.blk B27
     refine ⟨B27a.ld 0 rfl, B27a.ld 1 rfl, B27a.ld 2 rfl, B27a.ld 3 rfl, B27a.ld 4 rfl, ?_⟩
     refine join_ok hjm fun h47 E47 => ?_
     exact St.whole (E47.blk (E46.blk B48)) rfl rfl fun h49 B49 o49 z49 => fin142 _ h49 ((E346.trans E47).over (c := h3.size) (Nat.le_refl _) o49 z49) B49
  have hjl : s0.length + (ls l).length < 4611686018427387904 := by omega
  have R0 := Fw.refl h1
  refine ⟨_, B8.ld 0 rfl, _, B8.ld 1 rfl, _, B8.ld 2 rfl, _, B8.ld 3 rfl, _, B8.ld 4 rfl, _, rfl, _, (gb R0).ld 5 rfl, ?_, ?_⟩
  ·refine measured_ok (D1.fw E1) (by omega) (by omega) fun h57 E57 => ?_
   have B8a := E57.blk B8
   refine ⟨B8a.ld 0 rfl, B8a.ld 1 rfl, B8a.ld 2 rfl, B8a.ld 3 rfl, B8a.ld 4 rfl, ?_, ?_⟩
   ·refine join_ok hjl fun h58 E58 => New.cells fun h59 E59 z59 B59 => ?_
    have E159 := (E57.trans E58).trans E59
    have B8b := E159.blk B8
    refine ⟨(gb E159).ld 5 rfl, B8b.ld 0 rfl, B8b.ld 1 rfl, B8b.ld 2 rfl, B8b.ld 3 rfl, B8b.ld 4 rfl, ?_⟩
    exact St.whole B59 rfl rfl fun h60 B60 o60 z60 => fin28 _ h60 (E159.over (c := h58.size) (E57.trans E58).1 o60 z60) B60
   ·refine New.cells fun h59 E59 z59 B59 => ?_
    have E159 := E57.trans E59
    have B8b := E159.blk B8
    refine ⟨(gb E159).ld 5 rfl, B8b.ld 0 rfl, B8b.ld 1 rfl, B8b.ld 2 rfl, B8b.ld 3 rfl, B8b.ld 4 rfl, ?_⟩
    refine join_ok hjl fun h58 E58 => ?_
    exact St.whole (E58.blk B59) rfl rfl fun h60 B60 o60 z60 => fin28 _ h60 ((E159.trans E58).over (c := h57.size) E57.1 o60 z60) B60
  ·refine New.cells fun h59 E59 z59 B59 => ?_
   have B8b := E59.blk B8
   refine ⟨(gb E59).ld 5 rfl, B8b.ld 0 rfl, B8b.ld 1 rfl, B8b.ld 2 rfl, B8b.ld 3 rfl, B8b.ld 4 rfl, ?_⟩
   refine measured_ok (D1.fw (E1.trans E59)) (by omega) (by omega) fun h57 E57 => ?_
   have E157 := E59.trans E57
   have B8a := E157.blk B8
   refine ⟨B8a.ld 0 rfl, B8a.ld 1 rfl, B8a.ld 2 rfl, B8a.ld 3 rfl, B8a.ld 4 rfl, ?_⟩
   refine join_ok hjl fun h58 E58 => ?_
   exact St.whole (E58.blk (E57.blk B59)) rfl rfl fun h60 B60 o60 z60 => fin28 _ h60 ((E157.trans E58).over (c := h1.size) (Nat.le_refl _) o60 z60) B60
end
end Go.Proofs.YthkimbiknhebeaaGreatDoor.Mo
