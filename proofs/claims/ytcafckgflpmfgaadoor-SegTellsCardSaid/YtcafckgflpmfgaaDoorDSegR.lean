/- A tree of parts: what is changed, and built. -/
import Derived.Test.YtcafckgflpmfgaaDoorDSegQ
namespace Go.Proofs.YtcafckgflpmfgaaDoor.SegX
open Go Go.RowKit Go.Tw Go.Seg
set_option linter.unusedVariables false
section
variable {r : World} {sp : Addr} {b : Nat}

theorem change_ok {put : Bool} {x : Int} (hx : In x) : ∀ (n : Nat) (v : List Int) (a i j : Nat) (h : Heap) (P : List Part) (R : Heap → Prop), v.length = n → 0 < a → Obj h sp b P → Tr P a v → j ≤ n → i < 1048576 → n < 1048576 →
    (∀ (h' : Heap) (P' : List Part), Only b h h' → Obj h' sp b P' → Same a P P' → Tr P' a (chg put x i j v) → R h') →
    seg_Seg_change r (some sp) (a : Int) (n : Int) (i : Int) (j : Int) put x h R := by
  intro n
  induction n using Nat.strongRecOn with
  | ind n ih =>
  intro v a i j h P R hv ha O T hj hi hn H
  apply seg_Seg_change_of
  obtain ⟨hv0, p, hp, Tp⟩ := T.top
  have hal := lt_of hp
  have hsm := O.small
  unfold seg_Seg_change_F
  rw [twice (by omega), twice1 (by omega), half hn, rest hn, min_cast, min_cast, over_cast hi (by omega), over_cast (by omega) (by omega)]
  refine ⟨fun q0 => ?_, fun q0 => ?_⟩
  · have q0 : j ≤ i := by have := of_decide_eq_true q0; omega
    exact H h P (Only.refl _ _) O (Same.refl _ _) (by rw [chg_none q0]; exact T)
  have q0 : i < j := by have := of_decide_eq_false q0; omega
  intro y hy
  refine ⟨fun q1 => ?_, fun q1 => ?_⟩
  · rw [hy] at q1
    have q1 : (i = 0 ∧ j = n) ∧ put = true := by
      simp at q1
      exact ⟨⟨by omega, by omega⟩, q1.2⟩
    obtain ⟨⟨rfl, rfl⟩, rfl⟩ := q1
    subst hv
    refine all_ok O hp fun h1 S1 O1 => ?_
    have D : Do true x 0 v (List.replicate v.length x) := ⟨fun _ => by rw [Int.add_zero, w64_id hx], fun h => (by cases h), fun z hz => by rw [(List.mem_replicate.1 hz).2]; exact hx⟩
    exact H h1 _ S1 O1 Same.set (by rw [chg_put]; exact T.all ha hp D)
  rw [hy] at q1
  intro J HJ
  have no : ∀ h2, Only b h h2 → Obj h2 sp b P → (n = 1 → put = false) → J false h2 := by
    intro h2 S2 O2 hput
    refine HJ _ _ ⟨fun c => (by cases c), fun _ => ⟨fun c => ?_, fun c => ?_⟩⟩
    · have c : n = 1 := by have := of_decide_eq_true c; omega
      subst c
      have hput := hput rfl
      subst hput
      obtain ⟨y, rfl⟩ : ∃ y, v = [y] := List.length_eq_one_iff.1 hv
      obtain rfl : i = 0 := by omega
      obtain rfl : j = 1 := by omega
      have ey : p.sum = y := by
        have := Tp.sum
        simp only [List.sum_cons, List.sum_nil, Int.add_zero] at this
        rw [this, w64_id (Tp.all y (by simp))]
      refine ⟨_, rfl, _, O2.ptr, O2.ix hal ⟨_, O2.rd hp 0 rfl, _, rfl, _, O2.ptr, O2.ix hal ?_⟩⟩
      refine O2.st6 hal ⟨w64 (p.sum + x), w64 (p.sum + x), w64 (p.sum + x), false, 0, 0⟩ fun h3 S3 O3 => ?_
      refine H h3 _ (S2.trans S3) O3 Same.set ?_
      rw [show chg false x 0 1 [y] = [w64 (y + x)] by simp [chg], ey]
      refine .leaf (List.getElem?_set_self hal) ⟨?_, ⟨by simp, by simp⟩, ⟨by simp, by simp⟩, fun z hz => ?_⟩
      · simp only [List.sum_cons, List.sum_nil, Int.add_zero]; rw [w64_id (w64_in _)]
      · have : z = w64 (y + x) := by simpa using hz
        rw [this]; exact w64_in _
    · have c : n ≠ 1 := by have := of_decide_eq_false c; omega
      have hn2 : 2 ≤ v.length := by omega
      rw [← hv]
      refine push_ok O2 ha T hn2 (by omega) fun p0 q s h4 S4 O4 T4 T4' E4 g4 T0 => ?_
      generalize hP0 : pushP P a v.length p0 q s = P0 at *
      generalize hx' : v.take (v.length / 2) = u at *
      generalize hy' : v.drop (v.length / 2) = w at *
      have hvxy : v = u ++ w := by rw [← hx', ← hy', List.take_append_drop]
      have hxl : u.length = v.length / 2 := by rw [← hx', List.length_take]; omega
      have hyl : w.length = v.length - v.length / 2 := by rw [← hy', List.length_drop]
      refine ih (v.length / 2) (by omega) u (2 * a) _ _ h4 P0 _ hxl (by omega) O4 T4 (by omega) (by omega) (by omega) fun h5 P5 S5 O5 E5 T5 => ?_
      refine ih (v.length - v.length / 2) (by omega) w (2 * a + 1) _ _ h5 P5 _ hyl (by omega) O5 (T4'.right ha E5) (by omega) (by omega) (by omega) fun h6 P6 S6 O6 E6 T6 => ?_
      have T6l := T5.left ha E6
      have g6 : P6[a]? = some { p0 with put := false, what := 0, more := 0 } := by
        rw [E6.out a (not_un (by omega)), E5.out a (not_un (by omega))]; exact g4
      obtain ⟨_, q6, hq6, _⟩ := T6l.top
      obtain ⟨_, s6, hs6, _⟩ := T6.top
      refine pull_ok O6 g6 hq6 hs6 fun h7 S7 O7 => ?_
      refine H h7 _ ((((S2.trans S4).trans S5).trans S6).trans S7) O7 (((E4.trans E5.l).trans E6.r).trans Same.set) ?_
      have := T6l.pull ha g6 hq6 hs6 rfl rfl T6 (by rw [chg_len, chg_len]; omega)
      rw [hvxy, chg_append, hxl]
      exact this
  refine ⟨fun c0 => ⟨fun c1 => ?_, fun c1 => no h (Only.refl _ _) O fun e => ?_⟩, fun c0 => no h (Only.refl _ _) O fun e => ?_⟩
  · have c0 : i = 0 := by have := of_decide_eq_true c0; omega
    have c1 : j = n := by have := of_decide_eq_true c1; omega
    subst c0; subst c1
    have hput : put = false := by simpa using q1
    subst hput
    refine safe_ok O hp fun h2 S2 O2 => ?_
    cases hsf : safeB p x with
    | false => exact no h2 S2 O2 fun _ => rfl
    | true =>
      subst hv
      refine HJ _ _ ⟨fun _ => ?_, fun c => (by cases c)⟩
      refine all_ok O2 hp fun h3 S3 O3 => ?_
      exact H h3 _ (S2.trans S3) O3 Same.set (by rw [chg_add]; exact T.all ha hp (safe_do Tp hx hsf))
  · have := of_decide_eq_false c1; omega
  · have := of_decide_eq_false c0; omega

/-- parts that nothing is to be done under -/
def Fresh (P : List Part) (a : Nat) : Prop := ∀ (i : Nat) (p : Part), Un a i → P[i]? = some p → p.put = false ∧ p.more = 0

theorem build_ok {N : Nat} {s0 : Nat} : ∀ (n : Nat) (l : List Int) (a d : Nat) (h : Heap) (P : List Part) (s : Sl) (R : Heap → Prop), l.length = n → 0 < n → 0 < a → Obj h sp b P → Fresh P a → RI s0 h s l → s0 ≤ b → (∀ x ∈ l, In x) →
    a < P.length → a < 2 ^ (d + 1) → (n - 1) * 2 ^ d ≤ N - 1 → 4 * N ≤ P.length → n < 1048576 →
    (∀ (h' : Heap) (P' : List Part), Only b h h' → Obj h' sp b P' → Same a P P' → Tr P' a l → R h') →
    seg_Seg_build r (some sp) (a : Int) s h R := by
  intro n
  induction n using Nat.strongRecOn with
  | ind n ih =>
  intro l a d h P s R hl hn0 ha O F hs hsb hin hal had hnd hN hn H
  apply seg_Seg_build_of
  have hsm := O.small
  have hlen := hs.len
  unfold seg_Seg_build_F
  rw [twice (by omega), twice1 (by omega), hlen, hl, half hn]
  refine ⟨fun q0 => ?_, fun q0 => ?_⟩
  · have q0 : n = 1 := by have := of_decide_eq_true q0; omega
    subst q0
    obtain ⟨y, rfl⟩ : ∃ y, l = [y] := List.length_eq_one_iff.1 hl
    refine ⟨_, rfl, _, O.ptr, RI.ix hs (by omega) (by simp) fun q _ hq => ⟨y, by simpa using hq, RI.ix hs (by omega) (by simp) fun q _ hq => ⟨y, by simpa using hq, RI.ix hs (by omega) (by simp) fun q _ hq => ⟨y, by simpa using hq, O.ix hal ?_⟩⟩⟩⟩
    refine O.st6 hal ⟨y, y, y, false, 0, 0⟩ fun h3 S3 O3 => ?_
    refine H h3 _ S3 O3 Same.set (.leaf (List.getElem?_set_self hal) ⟨?_, ⟨by simp, by simp⟩, ⟨by simp, by simp⟩, hin⟩)
    simp only [List.sum_cons, List.sum_nil, Int.add_zero]; rw [w64_id (hin y (by simp))]
  · have q0 : n ≠ 1 := by have := of_decide_eq_false q0; omega
    have hn2 : 2 ≤ n := by omega
    have hcap := Rs.cap hs
    have hpow : 2 ^ d ≤ N - 1 := Nat.le_trans (Nat.le_trans (by omega) (Nat.mul_le_mul_right (2 ^ d) (show 1 ≤ n - 1 by omega))) hnd
    have e1 : 2 ^ (d + 1) = 2 ^ d + 2 ^ d := by rw [Nat.pow_succ]; omega
    have e2 : 2 ^ (d + 1 + 1) = 2 ^ (d + 1) + 2 ^ (d + 1) := by rw [Nat.pow_succ]; omega
    have hlow : ∀ m, 2 * (m - 1) ≤ n - 1 → (m - 1) * 2 ^ (d + 1) ≤ N - 1 := by
      intro m hm
      have : (m - 1) * 2 ^ (d + 1) = (2 * (m - 1)) * 2 ^ d := by rw [Nat.pow_succ, Nat.mul_comm (2 ^ d) 2, ← Nat.mul_assoc, Nat.mul_comm (m - 1) 2]
      rw [this]
      exact Nat.le_trans (Nat.mul_le_mul_right _ hm) hnd
    refine ⟨by omega, by omega, by omega, by omega, fun t ht => ?_⟩
    have ht2 : t = ⟨sliceA s.a s.cap 0 1, n / 2 - 0, s.cap - 0⟩ := by rw [ht]; simp only [Int.toNat_natCast]; rfl
    have R1 : RI s0 h t (l.take (n / 2)) := by
      have := Rs.sub (lo := 0) (hi := n / 2) (mx := s.cap) hs (by omega) (by simp; omega) (by omega)
      rw [ht2]
      show Rs s0 1 h _ ((l.take (n / 2)).map iV)
      rw [List.map_take]
      simpa using this
    have l1 : (l.take (n / 2)).length = n / 2 := by rw [List.length_take]; omega
    have l2 : (l.drop (n / 2)).length = n - n / 2 := by rw [List.length_drop]; omega
    refine ih (n / 2) (by omega) (l.take (n / 2)) (2 * a) (d + 1) h P t _ l1 (by omega) (by omega) O (fun i p hi => F i p hi.l) R1 hsb (fun x hx => hin x (List.mem_of_mem_take hx)) (by omega) (by omega) (hlow _ (by omega)) hN (by omega) fun h1 P1 S1 O1 E1 T1 => ?_
    have hs1 : RI s0 h1 s l := hs.ext (S1.ext hsb O.blk.lt) (Nat.le_refl _)
    refine ⟨by omega, by omega, by omega, by omega, fun t' ht' => ?_⟩
    have ht2' : t' = ⟨sliceA s.a s.cap (n / 2) 1, n - n / 2, s.cap - n / 2⟩ := by rw [ht']; simp only [Int.toNat_natCast]
    have R2 : RI s0 h1 t' (l.drop (n / 2)) := by
      have := Rs.sub (lo := n / 2) (hi := n) (mx := s.cap) hs1 (by omega) (by simp; omega) (by omega)
      rw [ht2']
      have e : ((l.map iV).drop (n / 2)).take (n - n / 2) = (l.drop (n / 2)).map iV := by
        rw [List.take_of_length_le (by simp; omega), List.map_drop]
      rwa [e] at this
    have P1l := E1.len
    refine ih (n - n / 2) (by omega) (l.drop (n / 2)) (2 * a + 1) (d + 1) h1 P1 t' _ l2 (by omega) (by omega) O1 (fun i p hi hp => F i p hi.r (by rw [← E1.out i fun hh => Un.dis ha hh hi]; exact hp)) R2 hsb (fun x hx => hin x (List.mem_of_mem_drop hx)) (by omega) (by omega) (hlow _ (by omega)) (by omega) (by omega) fun h2 P2 S2 O2 E2 T2 => ?_
    have T2l := T1.left ha E2
    have P2l := E2.len
    have g : P2[a]? = some (P[a]'hal) := by
      rw [E2.out a (not_un (by omega)), E1.out a (not_un (by omega))]; exact List.getElem?_eq_getElem hal
    have f := F a _ (Un.refl a) (List.getElem?_eq_getElem hal)
    obtain ⟨_, q6, hq6, _⟩ := T2l.top
    obtain ⟨_, s6, hs6, _⟩ := T2.top
    refine pull_ok O2 g hq6 hs6 fun h7 S7 O7 => ?_
    have := T2l.pull ha g hq6 hs6 f.1 f.2 T2 (by omega)
    rw [List.take_append_drop] at this
    exact H h7 _ ((S1.trans S2).trans S7) O7 ((E1.l.trans E2.r).trans Same.set) this
end
end Go.Proofs.YtcafckgflpmfgaaDoor.SegX
