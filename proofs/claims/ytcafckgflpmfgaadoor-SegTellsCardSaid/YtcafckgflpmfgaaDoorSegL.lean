/- A tree of parts: the plain law. No program in sight. -/
import Derived.Test.YtcafckgflpmfgaaDoorTwUse
namespace Go.Seg
open Go Go.Tw

abbrev In (x : Int) : Prop := -9223372036854775808 ≤ x ∧ x < 9223372036854775808
theorem w64_in (x : Int) : In (w64 x) := by
  simp only [In, w64, IntKind.wrap_i64]; omega
theorem w64_id {x : Int} (h : In x) : w64 x = x := w64_of h.1 h.2

structure Part where
  sum : Int
  least : Int
  most : Int
  put : Bool
  what : Int
  more : Int
def Part.cells (p : Part) : List Value := [iV p.sum, iV p.least, iV p.most, .bool p.put, iV p.what, iV p.more]
def flat (P : List Part) : List Value := P.flatMap Part.cells

/-- the least, the greatest -/
def Mn (v : List Int) (m : Int) : Prop := m ∈ v ∧ ∀ x ∈ v, m ≤ x
def Mx (v : List Int) (m : Int) : Prop := m ∈ v ∧ ∀ x ∈ v, x ≤ m
theorem Mn.uniq {v : List Int} {a b : Int} (A : Mn v a) (B : Mn v b) : a = b := Int.le_antisymm (A.2 _ B.1) (B.2 _ A.1)
theorem Mx.uniq {v : List Int} {a b : Int} (A : Mx v a) (B : Mx v b) : a = b := Int.le_antisymm (B.2 _ A.1) (A.2 _ B.1)
theorem Mn.append {u v : List Int} {a b : Int} (A : Mn u a) (B : Mn v b) : Mn (u ++ v) (min a b) := by
  refine ⟨?_, fun x hx => ?_⟩
  · rcases Int.le_total a b with h | h
    · rw [Int.min_eq_left h]; exact List.mem_append_left _ A.1
    · rw [Int.min_eq_right h]; exact List.mem_append_right _ B.1
  · rcases List.mem_append.1 hx with h | h
    · have := A.2 x h; omega
    · have := B.2 x h; omega
theorem Mx.append {u v : List Int} {a b : Int} (A : Mx u a) (B : Mx v b) : Mx (u ++ v) (max a b) := by
  refine ⟨?_, fun x hx => ?_⟩
  · rcases Int.le_total a b with h | h
    · rw [Int.max_eq_right h]; exact List.mem_append_right _ B.1
    · rw [Int.max_eq_left h]; exact List.mem_append_left _ A.1
  · rcases List.mem_append.1 hx with h | h
    · have := A.2 x h; omega
    · have := B.2 x h; omega
theorem Mn.shift {v : List Int} {a D : Int} (A : Mn v a) : Mn (v.map (· + D)) (a + D) := by
  refine ⟨List.mem_map.2 ⟨a, A.1, rfl⟩, fun x hx => ?_⟩
  obtain ⟨y, hy, rfl⟩ := List.mem_map.1 hx
  have := A.2 y hy; omega
theorem Mx.shift {v : List Int} {a D : Int} (A : Mx v a) : Mx (v.map (· + D)) (a + D) := by
  refine ⟨List.mem_map.2 ⟨a, A.1, rfl⟩, fun x hx => ?_⟩
  obtain ⟨y, hy, rfl⟩ := List.mem_map.1 hx
  have := A.2 y hy; omega
theorem Mn.rep {n : Nat} {a : Int} (hn : 0 < n) : Mn (List.replicate n a) a := ⟨List.mem_replicate.2 ⟨by omega, rfl⟩, fun x hx => by rw [(List.mem_replicate.1 hx).2]; exact Int.le_refl _⟩
theorem Mx.rep {n : Nat} {a : Int} (hn : 0 < n) : Mx (List.replicate n a) a := ⟨List.mem_replicate.2 ⟨by omega, rfl⟩, fun x hx => by rw [(List.mem_replicate.1 hx).2]; exact Int.le_refl _⟩
theorem sum_shift (D : Int) : ∀ (v : List Int), (v.map (· + D)).sum = v.sum + v.length * D
  | [] => by simp
  | x :: v => by
    simp only [List.map_cons, List.sum_cons, List.length_cons, sum_shift D v]
    rw [Int.natCast_add, Int.add_mul]
    omega
theorem sum_rep (a : Int) : ∀ (n : Nat), (List.replicate n a).sum = n * a
  | 0 => by simp
  | n + 1 => by
    rw [List.replicate_succ, List.sum_cons, sum_rep a n, Int.natCast_add, Int.add_mul]
    omega

/-- what a part tells of its numbers -/
structure Top (p : Part) (v : List Int) : Prop where
  sum : p.sum = w64 v.sum
  least : Mn v p.least
  most : Mx v p.most
  all : ∀ x ∈ v, In x

/-- what is still to be done -/
structure Do (put : Bool) (what more : Int) (u v : List Int) : Prop where
  yes : put = true → v = List.replicate u.length (w64 (what + more))
  no : put = false → ∃ D, w64 D = more ∧ v = u.map (· + D)
  all : ∀ x ∈ v, In x
theorem Do.len {put : Bool} {what more : Int} {u v : List Int} (H : Do put what more u v) : v.length = u.length := by
  cases put with
  | true => rw [H.yes rfl]; simp
  | false => obtain ⟨D, _, e⟩ := H.no rfl; rw [e]; simp
theorem Do.id {what : Int} {u : List Int} (hu : ∀ x ∈ u, In x) : Do false what 0 u u := ⟨fun h => (by cases h), fun _ => ⟨0, by rw [w64_of] <;> omega, by simp⟩, hu⟩
theorem Do.split {put : Bool} {what more : Int} {a b v : List Int} (H : Do put what more (a ++ b) v) : Do put what more a (v.take a.length) ∧ Do put what more b (v.drop a.length) := by
  have h3 : ∀ x ∈ v.take a.length, In x := fun x hx => H.all x (List.mem_of_mem_take hx)
  have h4 : ∀ x ∈ v.drop a.length, In x := fun x hx => H.all x (List.mem_of_mem_drop hx)
  cases put with
  | true =>
    refine ⟨⟨fun _ => ?_, fun h => (by cases h), h3⟩, ⟨fun _ => ?_, fun h => (by cases h), h4⟩⟩
    · rw [H.yes rfl]; simp
    · rw [H.yes rfl]; simp
  | false =>
    obtain ⟨D, h1, h2⟩ := H.no rfl
    refine ⟨⟨fun h => (by cases h), fun _ => ⟨D, h1, ?_⟩, h3⟩, ⟨fun h => (by cases h), fun _ => ⟨D, h1, ?_⟩, h4⟩⟩
    · rw [h2]; simp
    · rw [h2]; simp

/-- all of a part are put, and then more -/
def allP (n : Int) (put : Bool) (what more : Int) (p : Part) : Part :=
  let q : Part := if put then ⟨w64 (n * what), what, what, true, what, 0⟩ else p
  ⟨w64 (q.sum + w64 (n * more)), w64 (q.least + more), w64 (q.most + more), q.put, q.what, w64 (q.more + more)⟩

theorem mul_mod (n x y : Int) (h : x % 18446744073709551616 = y % 18446744073709551616) : (n * x) % 18446744073709551616 = (n * y) % 18446744073709551616 := by
  rw [Int.mul_emod, h, ← Int.mul_emod]
theorem w64_mod (x : Int) : w64 x % 18446744073709551616 = x % 18446744073709551616 := by
  simp only [w64, IntKind.wrap_i64]; omega
theorem w64_congr {x y : Int} (h : x % 18446744073709551616 = y % 18446744073709551616) : w64 x = w64 y := by
  simp only [w64, IntKind.wrap_i64]; omega
theorem of_w64 {x y : Int} (h : w64 x = w64 y) : x % 18446744073709551616 = y % 18446744073709551616 := by
  rw [← w64_mod x, h, w64_mod]

theorem allP_top {p : Part} {u v : List Int} {put : Bool} {what more : Int} (T : Top p u) (hu : 0 < u.length) (D : Do put what more u v) : Top (allP (u.length : Int) put what more p) v := by
  cases put with
  | true =>
    have e := D.yes rfl
    subst e
    refine ⟨?_, ?_, ?_, D.all⟩
    · simp only [allP, if_true]
      rw [sum_rep]
      apply w64_congr
      have h1 := w64_mod ((u.length : Int) * what)
      have h2 := w64_mod ((u.length : Int) * more)
      have h3 := mul_mod (u.length : Int) _ _ (w64_mod (what + more))
      rw [Int.mul_add] at h3
      omega
    · simp only [allP, if_true]; exact Mn.rep hu
    · simp only [allP, if_true]; exact Mx.rep hu
  | false =>
    obtain ⟨d, h1, h2⟩ := D.no rfl
    subst h2
    have key : ∀ x, x ∈ u → w64 (x + more) = x + d := fun x hx => by
      have h3 := D.all (x + d) (List.mem_map.2 ⟨x, hx, rfl⟩)
      rw [← w64_id h3]
      apply w64_congr
      have := w64_mod d
      rw [h1] at this
      omega
    refine ⟨?_, ?_, ?_, D.all⟩
    · simp only [allP, Bool.false_eq_true, if_false]
      rw [sum_shift, T.sum]
      apply w64_congr
      have h2 := w64_mod u.sum
      have h3 := w64_mod ((u.length : Int) * more)
      have h4 := mul_mod (u.length : Int) _ _ (w64_mod d)
      rw [h1] at h4
      omega
    · simp only [allP, Bool.false_eq_true, if_false]
      rw [key _ T.least.1]; exact T.least.shift
    · simp only [allP, Bool.false_eq_true, if_false]
      rw [key _ T.most.1]; exact T.most.shift

theorem allP_do {p : Part} {u v w : List Int} {n : Int} {put : Bool} {what more : Int} (A : Do p.put p.what p.more u v) (B : Do put what more v w) :
    Do (allP n put what more p).put (allP n put what more p).what (allP n put what more p).more u w := by
  cases put with
  | true =>
    simp only [allP, if_true]
    refine ⟨fun _ => ?_, fun h => (by cases h), B.all⟩
    rw [B.yes rfl, A.len]
    congr 1
    apply w64_congr
    have := w64_mod (0 + more)
    omega
  | false =>
    obtain ⟨d, h1, h2⟩ := B.no rfl
    simp only [allP, Bool.false_eq_true, if_false]
    refine ⟨fun h => ?_, fun h => ?_, B.all⟩
    · have e := A.yes h
      rw [h2, e, List.map_replicate]
      by_cases hn : u.length = 0
      · rw [hn]; rfl
      · congr 1
        have h3 := B.all (w64 (p.what + p.more) + d) (by rw [h2, e, List.map_replicate]; exact List.mem_replicate.2 ⟨hn, rfl⟩)
        rw [← w64_id h3]
        apply w64_congr
        have a1 := w64_mod d
        have a2 := w64_mod (p.what + p.more)
        have a3 := w64_mod (p.more + more)
        rw [h1] at a1
        omega
    · obtain ⟨c, h3, h4⟩ := A.no h
      refine ⟨c + d, ?_, ?_⟩
      · apply w64_congr
        have a1 := w64_mod d
        have a2 := w64_mod c
        rw [h1] at a1
        rw [h3] at a2
        omega
      · rw [h2, h4, List.map_map]
        apply List.map_congr_left
        intro x _
        simp only [Function.comp]; omega

/-- the tree from a place on holds these numbers -/
inductive Tr (P : List Part) : Nat → List Int → Prop
  | leaf {at' : Nat} {p : Part} {x : Int} : P[at']? = some p → Top p [x] → Tr P at' [x]
  | node {at' : Nat} {p : Part} {a b v : List Int} : P[at']? = some p → Top p v → 0 < a.length → 0 < b.length → a.length = (a.length + b.length) / 2 →
      Do p.put p.what p.more (a ++ b) v → Tr P (2 * at') a → Tr P (2 * at' + 1) b → Tr P at' v

theorem Tr.top {P : List Part} {at' : Nat} {v : List Int} (H : Tr P at' v) : 0 < v.length ∧ ∃ p, P[at']? = some p ∧ Top p v := by
  cases H with
  | leaf h1 h2 => exact ⟨by simp, _, h1, h2⟩
  | node h1 h2 h3 h4 h5 h6 h7 h8 => exact ⟨by rw [h6.len]; simp; omega, _, h1, h2⟩

/-- a place under another one -/
def Un (a i : Nat) : Prop := ∃ k, i / 2 ^ k = a
theorem Un.refl (a : Nat) : Un a a := ⟨0, by simp⟩
theorem Un.step {a b i : Nat} (h : b / 2 = a) (H : Un b i) : Un a i := by
  obtain ⟨k, hk⟩ := H
  refine ⟨k + 1, ?_⟩
  rw [Nat.pow_succ, ← Nat.div_div_eq_div_mul, hk, h]
theorem Un.l {a i : Nat} (H : Un (2 * a) i) : Un a i := H.step (by omega)
theorem Un.r {a i : Nat} (H : Un (2 * a + 1) i) : Un a i := H.step (by omega)
theorem Un.le {a i : Nat} (H : Un a i) : a ≤ i := by
  obtain ⟨k, hk⟩ := H
  rw [← hk]; exact Nat.div_le_self _ _
theorem Un.dis {a i : Nat} (ha : 0 < a) (H : Un (2 * a) i) (K : Un (2 * a + 1) i) : False := by
  obtain ⟨k, hk⟩ := H
  obtain ⟨m, hm⟩ := K
  rcases Nat.lt_trichotomy k m with h | h | h
  · obtain ⟨d, rfl⟩ : ∃ d, m = k + (d + 1) := ⟨m - k - 1, by omega⟩
    rw [Nat.pow_add, ← Nat.div_div_eq_div_mul, hk, Nat.pow_succ, Nat.mul_comm (2 ^ d), ← Nat.div_div_eq_div_mul] at hm
    have : 2 * a / 2 = a := by omega
    rw [this] at hm
    have := Nat.div_le_self a (2 ^ d)
    omega
  · subst h; omega
  · obtain ⟨d, rfl⟩ : ∃ d, k = m + (d + 1) := ⟨k - m - 1, by omega⟩
    rw [Nat.pow_add, ← Nat.div_div_eq_div_mul, hm, Nat.pow_succ, Nat.mul_comm (2 ^ d), ← Nat.div_div_eq_div_mul] at hk
    have : (2 * a + 1) / 2 = a := by omega
    rw [this] at hk
    have := Nat.div_le_self a (2 ^ d)
    omega

/-- the same but under a place -/
structure Same (at' : Nat) (P Q : List Part) : Prop where
  len : Q.length = P.length
  out : ∀ i, ¬ Un at' i → Q[i]? = P[i]?
theorem Same.refl (a : Nat) (P : List Part) : Same a P P := ⟨rfl, fun _ _ => rfl⟩
theorem Same.trans {a : Nat} {P Q R : List Part} (A : Same a P Q) (B : Same a Q R) : Same a P R := ⟨B.len.trans A.len, fun i hi => (B.out i hi).trans (A.out i hi)⟩
theorem Same.l {a : Nat} {P Q : List Part} (A : Same (2 * a) P Q) : Same a P Q := ⟨A.len, fun i hi => A.out i fun h => hi h.l⟩
theorem Same.r {a : Nat} {P Q : List Part} (A : Same (2 * a + 1) P Q) : Same a P Q := ⟨A.len, fun i hi => A.out i fun h => hi h.r⟩
theorem Same.set {a : Nat} {P : List Part} {p : Part} : Same a P (P.set a p) := ⟨by simp, fun i hi => by
  rw [List.getElem?_set_ne]
  intro e; subst e; exact hi (Un.refl _)⟩

theorem Tr.frame {P Q : List Part} {at' : Nat} {v : List Int} (H : Tr P at' v) : (∀ i, Un at' i → Q[i]? = P[i]?) → Tr Q at' v := by
  induction H with
  | leaf h1 h2 => intro h; exact .leaf ((h _ (Un.refl _)).trans h1) h2
  | node h1 h2 h3 h4 h5 h6 _ _ ih1 ih2 => intro h; exact .node ((h _ (Un.refl _)).trans h1) h2 h3 h4 h5 h6 (ih1 fun i hi => h i hi.l) (ih2 fun i hi => h i hi.r)
theorem Tr.right {P Q : List Part} {a : Nat} {v : List Int} (ha : 0 < a) (H : Tr P (2 * a + 1) v) (S : Same (2 * a) P Q) : Tr Q (2 * a + 1) v := H.frame fun i hi => S.out i fun h => Un.dis ha h hi
theorem Tr.left {P Q : List Part} {a : Nat} {v : List Int} (ha : 0 < a) (H : Tr P (2 * a) v) (S : Same (2 * a + 1) P Q) : Tr Q (2 * a) v := H.frame fun i hi => S.out i fun h => Un.dis ha hi h
theorem not_un {a b : Nat} (h : a < b) : ¬ Un b a := fun H => by have := H.le; omega

theorem Tr.all {P : List Part} {a : Nat} {p : Part} {u v : List Int} {put : Bool} {what more : Int} (ha : 0 < a) (hp : P[a]? = some p) (H : Tr P a u) (D : Do put what more u v) : Tr (P.set a (allP (u.length : Int) put what more p)) a v := by
  have hl : a < P.length := (List.getElem?_eq_some_iff.1 hp).1
  cases H with
  | leaf h1 h2 =>
    rw [hp] at h1; cases h1
    have hv := D.len
    obtain ⟨y, rfl⟩ : ∃ y, v = [y] := List.length_eq_one_iff.1 hv
    exact .leaf (List.getElem?_set_self hl) (allP_top h2 (by simp) D)
  | node h1 h2 h3 h4 h5 h6 h7 h8 =>
    rw [hp] at h1; cases h1
    refine .node (List.getElem?_set_self hl) (allP_top h2 (by rw [h6.len]; simp; omega) D) h3 h4 h5 (allP_do h6 D) (h7.frame fun i hi => ?_) (h8.frame fun i hi => ?_)
    · rw [List.getElem?_set_ne]; intro e; subst e; have := hi.le; omega
    · rw [List.getElem?_set_ne]; intro e; subst e; have := hi.le; omega

/-- what is told of two parts -/
theorem Top.join {p q r : Part} {a b : List Int} (A : Top p a) (B : Top q b) (h1 : r.sum = w64 (p.sum + q.sum)) (h2 : r.least = min p.least q.least) (h3 : r.most = max p.most q.most) : Top r (a ++ b) := by
  refine ⟨?_, ?_, ?_, fun x hx => (List.mem_append.1 hx).elim (A.all x) (B.all x)⟩
  · rw [h1, A.sum, B.sum, List.sum_append]
    apply w64_congr
    have := w64_mod a.sum
    have := w64_mod b.sum
    omega
  · rw [h2]; exact A.least.append B.least
  · rw [h3]; exact A.most.append B.most

/-- what is to be done is done one below -/
def pushP (P : List Part) (a : Nat) (n : Nat) (p q r : Part) : List Part :=
  ((P.set (2 * a) (allP ((n / 2 : Nat) : Int) p.put p.what p.more q)).set (2 * a + 1) (allP ((n - n / 2 : Nat) : Int) p.put p.what p.more r)).set a { p with put := false, what := 0, more := 0 }
theorem Tr.push {P : List Part} {a : Nat} {v : List Int} (ha : 0 < a) (H : Tr P a v) (hv : 2 ≤ v.length) : ∃ p q r, P[a]? = some p ∧ P[2 * a]? = some q ∧ P[2 * a + 1]? = some r ∧
    Tr (pushP P a v.length p q r) (2 * a) (v.take (v.length / 2)) ∧ Tr (pushP P a v.length p q r) (2 * a + 1) (v.drop (v.length / 2)) ∧ Same a P (pushP P a v.length p q r) ∧
    (pushP P a v.length p q r)[a]? = some { p with put := false, what := 0, more := 0 } ∧ Top p v := by
  cases H with
  | leaf h1 h2 => simp at hv
  | @node _ p x y _ h1 h2 h3 h4 h5 h6 h7 h8 =>
    obtain ⟨_, q, hq, _⟩ := h7.top
    obtain ⟨_, r, hr, _⟩ := h8.top
    have hlv := h6.len
    rw [List.length_append] at hlv
    have ex : v.length / 2 = x.length := by omega
    have ey : v.length - v.length / 2 = y.length := by omega
    obtain ⟨d1, d2⟩ := h6.split
    have la : a < P.length := (List.getElem?_eq_some_iff.1 h1).1
    have S1 : Same (2 * a) P (P.set (2 * a) (allP ((x.length : Nat) : Int) p.put p.what p.more q)) := Same.set
    have t1 := h7.all (by omega) hq d1
    have hr' : (P.set (2 * a) (allP ((x.length : Nat) : Int) p.put p.what p.more q))[2 * a + 1]? = some r := by rw [List.getElem?_set_ne (by omega)]; exact hr
    have t2 := (h8.right ha S1).all (by omega) hr' d2
    refine ⟨p, q, r, h1, hq, hr, ?_, ?_, ?_, ?_, h2⟩
    · unfold pushP
      rw [ey, ex]
      refine (t1.left (Q := (P.set (2 * a) (allP ((x.length : Nat) : Int) p.put p.what p.more q)).set (2 * a + 1) (allP ((y.length : Nat) : Int) p.put p.what p.more r)) ha Same.set).frame fun i hi => ?_
      rw [List.getElem?_set_ne]; intro e; subst e; have := hi.le; omega
    · unfold pushP
      rw [ey, ex]
      refine t2.frame fun i hi => ?_
      rw [List.getElem?_set_ne]; intro e; subst e; have := hi.le; omega
    · unfold pushP
      exact (Same.set.l.trans Same.set.r).trans Same.set
    · unfold pushP
      exact List.getElem?_set_self (by simpa using la)

/-- and told of again -/
theorem Tr.pull {P : List Part} {a : Nat} {p q r : Part} {x y : List Int} (ha : 0 < a) (hp : P[a]? = some p) (hq : P[2 * a]? = some q) (hr : P[2 * a + 1]? = some r) (h0 : p.put = false) (h1 : p.more = 0)
    (A : Tr P (2 * a) x) (B : Tr P (2 * a + 1) y) (hxy : x.length = (x.length + y.length) / 2) :
    Tr (P.set a { p with sum := w64 (q.sum + r.sum), least := min q.least r.least, most := max q.most r.most }) a (x ++ y) := by
  have hl : a < P.length := (List.getElem?_eq_some_iff.1 hp).1
  obtain ⟨hx, q', hq', T1⟩ := A.top
  obtain ⟨hy, r', hr', T2⟩ := B.top
  rw [hq] at hq'; cases hq'
  rw [hr] at hr'; cases hr'
  have T := T1.join T2 (r := { p with sum := w64 (q.sum + r.sum), least := min q.least r.least, most := max q.most r.most }) rfl rfl rfl
  refine .node (List.getElem?_set_self hl) T hx hy hxy ?_ (A.frame fun i hi => ?_) (B.frame fun i hi => ?_)
  · show Do p.put p.what p.more _ _
    rw [h0, h1]
    exact Do.id T.all
  · rw [List.getElem?_set_ne]; intro e; subst e; have := hi.le; omega
  · rw [List.getElem?_set_ne]; intro e; subst e; have := hi.le; omega

/-! ### Some places -/
def cut (v : List Int) (i j : Nat) : List Int := (v.drop i).take (j - i)
theorem cut_append (a b : List Int) (i j : Nat) (hij : i ≤ j) : cut (a ++ b) i j = cut a (min i a.length) (min j a.length) ++ cut b (i - a.length) (j - a.length) := by
  unfold cut
  rw [List.drop_append, List.take_append]
  congr 1
  · rcases Nat.le_total i a.length with h | h
    · rw [Nat.min_eq_left h]
      rcases Nat.le_total j a.length with h2 | h2
      · rw [Nat.min_eq_left h2]
      · rw [Nat.min_eq_right h2, List.take_of_length_le (by simp; omega), List.take_of_length_le (by simp)]
    · rw [List.drop_eq_nil_of_le h, Nat.min_eq_right h, List.drop_eq_nil_of_le (Nat.le_refl _)]; simp
  · rw [List.length_drop]; congr 1; omega
theorem cut_all (v : List Int) : cut v 0 v.length = v := by simp [cut]
theorem cut_len {v : List Int} {i j : Nat} (h : j ≤ v.length) : (cut v i j).length = j - i := by simp [cut]; omega

/-- some places changed -/
def chg (put : Bool) (x : Int) (i j : Nat) (v : List Int) : List Int := v.mapIdx fun k y => if i ≤ k ∧ k < j then (if put then x else w64 (y + x)) else y
theorem chg_len {put : Bool} {x : Int} {i j : Nat} {v : List Int} : (chg put x i j v).length = v.length := by simp [chg]
theorem chg_append (put : Bool) (x : Int) (i j : Nat) (a b : List Int) : chg put x i j (a ++ b) = chg put x (min i a.length) (min j a.length) a ++ chg put x (i - a.length) (j - a.length) b := by
  unfold chg
  rw [List.mapIdx_append]
  congr 1
  · apply List.ext_getElem?
    intro k
    simp only [List.getElem?_mapIdx]
    rcases Nat.lt_or_ge k a.length with h | h
    · rw [List.getElem?_eq_getElem h]
      simp only [Option.map_some]
      have e : (i ≤ k ∧ k < j) = (min i a.length ≤ k ∧ k < min j a.length) := by apply propext; omega
      simp only [e]
    · rw [List.getElem?_eq_none h]; rfl
  · apply List.ext_getElem?
    intro k
    simp only [List.getElem?_mapIdx]
    have e : (i ≤ k + a.length ∧ k + a.length < j) = (i - a.length ≤ k ∧ k < j - a.length) := by apply propext; omega
    simp only [e]
theorem chg_none {put : Bool} {x : Int} {i j : Nat} {v : List Int} (h : j ≤ i) : chg put x i j v = v := by
  unfold chg
  apply List.ext_getElem?
  intro k
  simp only [List.getElem?_mapIdx]
  have e : (i ≤ k ∧ k < j) = False := by apply propext; simp; omega
  simp only [e, if_false]
  cases v[k]? <;> rfl
theorem chg_put {x : Int} (v : List Int) : chg true x 0 v.length v = List.replicate v.length x := by
  apply List.ext_getElem?
  intro k
  simp only [chg, List.getElem?_mapIdx, List.getElem?_replicate]
  rcases Nat.lt_or_ge k v.length with h | h
  · rw [List.getElem?_eq_getElem h]; simp [h]
  · rw [List.getElem?_eq_none h]; simp; omega
theorem chg_add {x : Int} (v : List Int) : chg false x 0 v.length v = v.map fun y => w64 (y + x) := by
  apply List.ext_getElem?
  intro k
  simp only [chg, List.getElem?_mapIdx, List.getElem?_map]
  rcases Nat.lt_or_ge k v.length with h | h
  · rw [List.getElem?_eq_getElem h]; simp [h]
  · rw [List.getElem?_eq_none h]; rfl
end Go.Seg
