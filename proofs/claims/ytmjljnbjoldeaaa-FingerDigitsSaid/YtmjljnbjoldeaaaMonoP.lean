/- What is told of many: what the functions do. -/
import Derived.Test.YtmjljnbjoldeaaaMono
import Derived.Test.YtmjljnbjoldeaaaMonoL
namespace Go.Proofs.Ytmjljnbjoldeaaa
open Go Go.RowKit Go.Tw Go.Mono
set_option linter.unusedVariables false

section
variable {r : World} {h : Heap}

theorem tmod_pos {n : Int} (h0 : 0 ≤ n) : Int.tmod n 2147483647 = n % prime := Int.tmod_eq_emod_of_nonneg h0
theorem tmod_neg {n : Int} (h0 : n < 0) : Int.tmod n 2147483647 = -((-n) % prime) := by
  rw [← tmod_pos (n := -n) (by omega), Int.neg_tmod, Int.neg_neg]
theorem modv {n : Int} : (Int.tmod n 2147483647 < 0 → Int.tmod n 2147483647 + 2147483647 = n % prime) ∧ (¬ Int.tmod n 2147483647 < 0 → Int.tmod n 2147483647 = n % prime) ∧ -2147483647 < Int.tmod n 2147483647 ∧ Int.tmod n 2147483647 < 2147483647 := by
  rcases Int.lt_or_le n 0 with h | h
  · rw [tmod_neg h]
    simp only [prime]
    refine ⟨fun _ => by omega, fun _ => by omega, by omega, by omega⟩
  · rw [tmod_pos h]
    simp only [prime]
    refine ⟨fun _ => by omega, fun _ => trivial, by omega, by omega⟩
theorem mod_ok {n : Int} {R : Int → Heap → Prop} (H : R (n % prime) h) : mono_mod r n h R := by
  apply mono_mod_of
  intro J HJ
  have m := modv (n := n)
  refine ⟨fun c => HJ _ ?_, fun c => HJ _ ?_⟩
  · have c := of_decide_eq_true c
    rw [m.1 c, w64_of (by simp only [prime]; omega) (by simp only [prime]; omega)]; exact H
  · have c := of_decide_eq_false c
    rw [m.2.1 c]; exact H
theorem rmod_ok {n : Int} {R : Int → Heap → Prop} (H : R (n % prime) h) : ref1_Mod r n h R := by
  apply ref1_Mod_of
  have m := modv (n := n)
  refine ⟨fun c => ?_, fun c => ?_⟩
  · have c := of_decide_eq_true c
    rw [m.1 c, w64_of (by simp only [prime]; omega) (by simp only [prime]; omega)]; exact H
  · have c := of_decide_eq_false c
    rw [m.2.1 c]; exact H

theorem mul_b {o b : Int} (h1 : 0 ≤ o) (h2 : o < prime) (h3 : 0 ≤ b) (h4 : b < prime) : 0 ≤ o * b ∧ o * b ≤ 4611686009837453316 := by
  refine ⟨Int.mul_nonneg h1 h3, ?_⟩
  have := Int.mul_le_mul (a := o) (c := 2147483646) (b := b) (d := 2147483646) (by simp only [prime] at h2; omega) (by simp only [prime] at h4; omega) h3 (by omega)
  omega
theorem and_one {n : Nat} (hn : n < 4611686018427387904) : bAnd .i64 (n : Int) 1 = ((n % 2 : Nat) : Int) := by
  unfold bAnd
  have e1 : (BitVec.ofInt IntKind.i64.bits (n : Int) &&& BitVec.ofInt IntKind.i64.bits 1).toNat = n % 2 := by
    rw [BitVec.toNat_and]
    have e2 : (BitVec.ofInt IntKind.i64.bits (n : Int)).toNat = n := by
      show (BitVec.ofInt 64 (n : Int)).toNat = n
      rw [BitVec.toNat_ofInt]
      omega
    have e3 : (BitVec.ofInt IntKind.i64.bits 1).toNat = 1 := by decide
    rw [e2, e3, Nat.and_one_is_mod]
  rw [e1]
  show w64 _ = _
  rw [w64_of] <;> omega
theorem shr_one (n : Nat) : sShr .i64 (n : Int) 1 = ((n / 2 : Nat) : Int) := by
  show Int.fdiv (n : Int) (2 ^ 1) = _
  rw [Int.fdiv_eq_ediv_of_nonneg _ (by decide)]
  omega

theorem power_ok {n : Nat} {R : Int → Heap → Prop} (hn : n < 4611686018427387904) (H : R (131 ^ n % prime) h) : mono_power r (n : Int) h R := by
  apply mono_power_of
  intro X HX
  have p0 : ∀ y : Int, 0 ≤ y % prime := fun y => Int.emod_nonneg _ (by decide)
  have p1 : ∀ y : Int, y % prime < prime := fun y => Int.emod_lt_of_pos _ (by decide)
  have key : ∀ (k : Nat) (o b : Int), k < 4611686018427387904 → 0 ≤ o → o < prime → 0 ≤ b → b < prime → (o * b ^ k) % prime = 131 ^ n % prime → X (k : Int) o b := by
    intro k
    induction k using Nat.strongRecOn with
    | ind k ih =>
      intro o b hk o0 o1 b0 b1 he
      refine HX _ _ _ ⟨fun c => ?_, fun c => ?_⟩
      · have c : 0 < k := by have := of_decide_eq_true c; omega
        intro J HJ
        have bb := mul_b b0 b1 b0 b1
        have ob := mul_b o0 o1 b0 b1
        have step : ∀ o', 0 ≤ o' → o' < prime → (o' * (b * b % prime) ^ (k / 2)) % prime = 131 ^ n % prime → J o' := fun o' h0 h1 he' => by
          refine HJ _ ?_
          rw [shr_one, w64_of (by omega) (by omega), tmod_pos bb.1]
          exact ih (k / 2) (by omega) o' _ (by omega) h0 h1 (p0 _) (p1 _) he'
        rw [and_one hk]
        refine ⟨fun q => ?_, fun q => ?_⟩
        · have q : k % 2 = 1 := by have := of_decide_eq_true q; omega
          rw [w64_of (by omega) (by omega), tmod_pos ob.1]
          exact step _ (p0 _) (p1 _) ((odd_step q).trans he)
        · have q : k % 2 = 0 := by have := of_decide_eq_false q; omega
          exact step o o0 o1 ((even_step q).trans he)
      · have c : k = 0 := by have := of_decide_eq_false c; omega
        subst c
        rw [Int.pow_zero, Int.mul_one, Int.emod_eq_of_lt o0 o1] at he
        rw [he]; exact H
  exact key n 1 131 hn (by decide) (by decide) (by decide) (by decide) (by rw [Int.one_mul])

theorem none_ok {R : Int → Int → Int → Int → Int → Heap → Prop} (H : ∀ h', Fw h h' → R (meas []).n (meas []).sum (meas []).least (meas []).most (meas []).hash h') : mono_None r h R := by
  apply mono_None_of
  refine New.cells fun h1 E1 z1 B1 => St.whole B1 rfl rfl fun h2 B2 o2 z2 => ⟨_, B2.ld 0 rfl, _, B2.ld 1 rfl, _, B2.ld 2 rfl, _, B2.ld 3 rfl, _, B2.ld 4 rfl, ?_⟩
  have e : w64 0 = 0 := by rw [w64_of] <;> omega
  have := H h2 (E1.over (Nat.le_refl _) o2 z2)
  simp only [meas, List.sum_nil, e] at this
  exact this

theorem meas_one {x : Int} (hx : In x) : meas [x] = ⟨1, x, x, x, (x % prime + 1) % prime⟩ := by
  have e1 : w64 ([x] : List Int).sum = x := by simp only [List.sum_cons, List.sum_nil, Int.add_zero]; exact w64_of hx.1 hx.2
  have e2 : lst [x] = x := by show min x 9223372036854775807 = x; have := hx.2; omega
  have e3 : mst [x] = x := by show max x (-9223372036854775808) = x; have := hx.1; omega
  have e4 : hsh [x] = (x % prime + 1) % prime := by show (131 * 0 + x % prime + 1) % prime = _; rw [Int.mul_zero, Int.zero_add]
  unfold meas
  rw [e1, e2, e3, e4]; rfl
theorem one_ok {x : Int} {R : Int → Int → Int → Int → Int → Heap → Prop} (hx : In x) (H : ∀ h', Fw h h' → R (meas [x]).n (meas [x]).sum (meas [x]).least (meas [x]).most (meas [x]).hash h') : mono_One r x h R := by
  apply mono_One_of
  have p0 : ∀ y : Int, 0 ≤ y % prime := fun y => Int.emod_nonneg _ (by decide)
  have p1 : ∀ y : Int, y % prime < prime := fun y => Int.emod_lt_of_pos _ (by decide)
  refine New.cells fun h1 E1 z1 B1 => mod_ok ?_
  have a0 : 0 ≤ x % 2147483647 := p0 x
  have a1 : x % 2147483647 < 2147483647 := p1 x
  rw [w64_of (n := x % prime + 1) (by show _ ≤ x % 2147483647 + 1; omega) (by show x % 2147483647 + 1 < _; omega)]
  refine mod_ok ?_
  refine St.whole B1 rfl rfl fun h2 B2 o2 z2 => ⟨_, B2.ld 0 rfl, _, B2.ld 1 rfl, _, B2.ld 2 rfl, _, B2.ld 3 rfl, _, B2.ld 4 rfl, ?_⟩
  have := H h2 (E1.over (Nat.le_refl _) o2 z2)
  rw [meas_one hx] at this
  exact this

theorem join_ok {a b : List Int} {R : Int → Int → Int → Int → Int → Heap → Prop} (hz : a.length + b.length < 4611686018427387904) (H : ∀ h', Fw h h' → R (meas (a ++ b)).n (meas (a ++ b)).sum (meas (a ++ b)).least (meas (a ++ b)).most (meas (a ++ b)).hash h') :
    mono_Join r (meas a).n (meas a).sum (meas a).least (meas a).most (meas a).hash (meas b).n (meas b).sum (meas b).least (meas b).most (meas b).hash h R := by
  apply mono_Join_of
  refine New.cells fun h1 E1 z1 B1 => New.cells fun h2 E2 z2 B2 => New.cells fun h3 E3 z3 B3 => ?_
  have C1 := E3.blk (E2.blk B1)
  have C2 := E3.blk B2
  refine ⟨_, C1.ld 0 rfl, _, C2.ld 0 rfl, _, C1.ld 1 rfl, _, C2.ld 1 rfl, _, C1.ld 2 rfl, _, C2.ld 2 rfl, _, C1.ld 3 rfl, _, C2.ld 3 rfl, _, C1.ld 4 rfl, _, C2.ld 0 rfl, _, C2.ld 4 rfl, mod_ok ?_⟩
  refine ⟨C2.ld 4 rfl, C2.ld 0 rfl, C2.ld 3 rfl, C1.ld 3 rfl, C2.ld 2 rfl, C1.ld 2 rfl, C2.ld 1 rfl, C1.ld 1 rfl, C2.ld 0 rfl, C1.ld 0 rfl, ?_⟩
  refine power_ok (n := b.length) (by omega) ?_
  refine ⟨C2.ld 4 rfl, C2.ld 3 rfl, C1.ld 3 rfl, C2.ld 2 rfl, C1.ld 2 rfl, C2.ld 1 rfl, C1.ld 1 rfl, C2.ld 0 rfl, C1.ld 0 rfl, mod_ok ?_⟩
  refine ⟨C2.ld 3 rfl, C1.ld 3 rfl, C2.ld 2 rfl, C1.ld 2 rfl, C2.ld 1 rfl, C1.ld 1 rfl, C2.ld 0 rfl, C1.ld 0 rfl, ?_⟩
  have ha := hsh_in a
  have hb := hsh_in b
  have ea : (meas a).hash % prime = hsh a := Int.emod_eq_of_lt ha.1 ha.2
  have eb : (meas b).hash % prime = hsh b := Int.emod_eq_of_lt hb.1 hb.2
  have hm := mul_b ha.1 ha.2 (Int.emod_nonneg (131 ^ b.length) (by decide : prime ≠ 0)) (Int.emod_lt_of_pos (131 ^ b.length) (by decide : (0 : Int) < prime))
  have en : w64 ((meas a).n + (meas b).n) = (meas a).n + (meas b).n := by
    show w64 ((a.length : Int) + (b.length : Int)) = _
    rw [w64_of] <;> first | rfl | omega
  have hbp : hsh b < 2147483647 := hb.2
  have eh : Int.tmod (w64 (w64 ((meas a).hash % prime * (131 ^ b.length % prime)) + (meas b).hash % prime)) 2147483647 = ((meas a).hash * (131 ^ b.length % prime) + (meas b).hash) % prime := by
    rw [ea, eb, w64_of (n := hsh a * (131 ^ b.length % prime)) (by omega) (by omega), w64_of (by omega) (by omega), tmod_pos (by omega)]
    rfl
  refine St.whole B3 rfl rfl fun h7 B7 o7 z7 => ⟨_, B7.ld 0 rfl, _, B7.ld 1 rfl, _, B7.ld 2 rfl, _, B7.ld 3 rfl, _, B7.ld 4 rfl, ?_⟩
  have := H h7 (((E1.trans E2).trans E3).over (c := h2.size) (E1.trans E2).1 o7 z7)
  rw [meas_append] at this
  simp only at this
  rw [en, eh]
  exact this
end
end Go.Proofs.Ytmjljnbjoldeaaa
