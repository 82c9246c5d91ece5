/- A tree of parts: what is told, changed and built. -/
import Derived.Test.YtcafckgflpmfgaaDoorDSegP
namespace Go.Proofs.YtcafckgflpmfgaaDoor.SegX
open Go Go.RowKit Go.Tw Go.Seg
set_option linter.unusedVariables false
section
variable {r : World} {sp : Addr} {b : Nat}

theorem min_cast (i k : Nat) : min (i : Int) (k : Int) = ((min i k : Nat) : Int) := by omega
theorem over_cast {i k : Nat} (hi : i < 1048576) (hk : k < 1048576) : w64 (max (i : Int) (k : Int) - (k : Int)) = ((i - k : Nat) : Int) := by rw [w64_of] <;> omega

def zeroP : Part := ⟨0, 0, 0, false, 0, 0⟩
abbrev zcells : List Value := [iV 0, iV 0, iV 0, .bool false, iV 0, iV 0]

theorem told_ok : ∀ (n : Nat) (v : List Int) (a i j : Nat) (h : Heap) (P : List Part) (R : Int → Int → Int → Bool → Int → Int → Bool → Heap → Prop), v.length = n → 0 < a → Obj h sp b P → Tr P a v → j ≤ n → i < 1048576 → n < 1048576 →
    (∀ (q : Part) (h' : Heap) (P' : List Part), Only b h h' → Obj h' sp b P' → Same a P P' → Tr P' a v → (i < j → Top q (cut v i j)) → (j ≤ i → q = zeroP) → R q.sum q.least q.most q.put q.what q.more (decide (i < j)) h') →
    seg_Seg_told r (some sp) (a : Int) (n : Int) (i : Int) (j : Int) h R := by
  intro n
  induction n using Nat.strongRecOn with
  | ind n ih =>
  intro v a i j h P R hv ha O T hj hi hn H
  apply seg_Seg_told_of
  have hb := O.blk.lt
  have lsp := O.lt
  obtain ⟨hv0, p, hp, Tp⟩ := T.top
  have hal := lt_of hp
  have hsm := O.small
  unfold seg_Seg_told_F
  rw [twice (by omega), twice1 (by omega), half hn, rest hn, min_cast, min_cast, over_cast hi (by omega), over_cast (by omega) (by omega)]
  intro p1 h1 hp1 hh1
  subst hp1; subst hh1
  have Z1 : Blk (h.push (.cells #[iV 0, iV 0, iV 0, .bool false, iV 0, iV 0] 117)) h.size zcells := Blk.new (cs := zcells)
  have S1 : Only b h (h.push (.cells #[iV 0, iV 0, iV 0, .bool false, iV 0, iV 0] 117)) := Only.push
  have hz1 : (h.push (.cells #[iV 0, iV 0, iV 0, .bool false, iV 0, iV 0] 117)).size = h.size + 1 := by simp
  have O1 := O.push (x := .cells #[iV 0, iV 0, iV 0, .bool false, iV 0, iV 0] 117)
  generalize h.push (.cells #[iV 0, iV 0, iV 0, .bool false, iV 0, iV 0] 117) = h1 at *
  -- what is written at last
  have fin : ∀ (q : Part) (t : Bool) (h2 : Heap) (P2 : List Part) (K : Heap → Prop), Only b h h2 → Obj h2 sp b P2 → (∃ cs, Blk h2 h.size cs ∧ cs.length = 6) → (∀ h3, Only b h h3 → Obj h3 sp b P2 → Blk h3 h.size q.cells → K h3) → St h2 (ad h.size 0) 6 q.cells K := by
    intro q t h2 P2 K S2 O2 ⟨cs, B, hcs⟩ HK
    refine St.whole (ys := q.cells) B hcs rfl fun h3 B3 E3 z3 => ?_
    exact HK h3 (S2.new (Nat.le_refl _) E3 z3) (O2.new (by omega) (by omega) E3) B3
  refine ⟨fun q0 => ?_, fun q0 => ⟨fun q1 => ?_, fun q1 => ?_⟩⟩
  · have q0 : j ≤ i := by have := of_decide_eq_true q0; omega
    refine fin zeroP false h1 P _ S1 O1 ⟨_, Z1, rfl⟩ fun h3 S3 O3 B3 => ?_
    refine ⟨_, B3.ld 0 rfl, _, B3.ld 1 rfl, _, B3.ld 2 rfl, _, B3.ld 3 rfl, _, B3.ld 4 rfl, _, B3.ld 5 rfl, ?_⟩
    have := H zeroP h3 P S3 O3 (Same.refl _ _) T (fun h => by omega) (fun _ => rfl)
    rwa [decide_eq_false (by omega)] at this
  · have q0 : i < j := by have := of_decide_eq_false q0; omega
    have q1 : i = 0 ∧ j = n := by simp at q1; omega
    obtain ⟨rfl, rfl⟩ := q1
    refine ⟨_, rfl, _, O1.ptr, O1.ix hal ⟨_, O1.rd hp 0 rfl, _, O1.rd hp 1 rfl, _, O1.rd hp 2 rfl, _, O1.rd hp 3 rfl, _, O1.rd hp 4 rfl, _, O1.rd hp 5 rfl, ?_⟩⟩
    refine fin p true h1 P _ S1 O1 ⟨_, Z1, rfl⟩ fun h3 S3 O3 B3 => ?_
    refine ⟨_, B3.ld 0 rfl, _, B3.ld 1 rfl, _, B3.ld 2 rfl, _, B3.ld 3 rfl, _, B3.ld 4 rfl, _, B3.ld 5 rfl, ?_⟩
    have := H p h3 P S3 O3 (Same.refl _ _) T (fun _ => by rw [← hv, cut_all]; exact Tp) (fun h => by omega)
    rwa [decide_eq_true q0] at this
  · have q0 : i < j := by have := of_decide_eq_false q0; omega
    have q1 : ¬ (i = 0 ∧ j = n) := by simp at q1; omega
    have hn2 : 2 ≤ v.length := by omega
    rw [← hv]
    refine push_ok O1 ha T hn2 (by omega) fun p0 q s h4 S4 O4 T4 T4' E4 g4 T0 => ?_
    generalize hP0 : pushP P a v.length p0 q s = P0 at *
    generalize hx : v.take (v.length / 2) = x at *
    generalize hy : v.drop (v.length / 2) = y at *
    have hvxy : v = x ++ y := by rw [← hx, ← hy, List.take_append_drop]
    have hxl : x.length = v.length / 2 := by rw [← hx, List.length_take]; omega
    have hyl : y.length = v.length - v.length / 2 := by rw [← hy, List.length_drop]
    have Z4 := S4.blk Z1 (by omega)
    have S4' := S1.trans S4
    have hz4 := S4.size
    refine ih (v.length / 2) (by omega) x (2 * a) _ _ h4 P0 _ hxl (by omega) O4 T4 (by omega) (by omega) (by omega) fun q5 h5 P5 S5 O5 E5 T5 C5 D5 => ?_
    have Z5 := S5.blk Z4 (by omega)
    have S5' := S4'.trans S5
    have hz5 := S5.size
    have T5r := T4'.right ha E5
    intro p6 h6 hp6 hh6
    subst hp6; subst hh6
    have Z6 : Blk (h5.push (.cells #[iV 0, iV 0, iV 0, .bool false, iV 0, iV 0] 117)) h5.size zcells := Blk.new (cs := zcells)
    have Y6 := Z5.push (x := .cells #[iV 0, iV 0, iV 0, .bool false, iV 0, iV 0] 117)
    have S6 := S5'.trans (Only.push (h := h5) (x := .cells #[iV 0, iV 0, iV 0, .bool false, iV 0, iV 0] 117))
    have hz6 : (h5.push (.cells #[iV 0, iV 0, iV 0, .bool false, iV 0, iV 0] 117)).size = h5.size + 1 := by simp
    have O6 := O5.push (x := .cells #[iV 0, iV 0, iV 0, .bool false, iV 0, iV 0] 117)
    generalize h5.push (.cells #[iV 0, iV 0, iV 0, .bool false, iV 0, iV 0] 117) = h6 at *
    refine St.whole (ys := q5.cells) Z6 rfl rfl fun h7 B7 X7 z7 => ?_
    have Y7 := Y6.of_eq (X7 _ (by omega))
    have O7 := O6.new (c := h5.size) (by omega) (by omega) X7
    have S7 := S6.new (c := h5.size) (by omega) X7 z7
    refine ih (v.length - v.length / 2) (by omega) y (2 * a + 1) _ _ h7 P5 _ hyl (by omega) O7 T5r (by omega) (by omega) (by omega) fun q8 h8 P8 S8 O8 E8 T8 C8 D8 => ?_
    have T8l := T5.left ha E8
    have Y8 := S8.blk Y7 (by omega)
    have B8 := S8.blk B7 (by omega)
    have S8' := S7.trans S8
    have hz8 := S8.size
    have E8' : Same a P P8 := (E4.trans E5.l).trans E8.r
    have g8 : P8[a]? = some { p0 with put := false, what := 0, more := 0 } := by
      rw [E8.out a (not_un (by omega)), E5.out a (not_un (by omega))]; exact g4
    have Tv : Tr P8 a v := .node g8 ⟨T0.sum, T0.least, T0.most, T0.all⟩ (by omega) (by omega) (by omega) (by rw [hvxy]; exact Do.id (by rw [← hvxy]; exact T0.all)) T8l T8
    intro p9 h9 hp9 hh9
    subst hp9; subst hh9
    have Z9 : Blk (h8.push (.cells #[iV 0, iV 0, iV 0, .bool false, iV 0, iV 0] 117)) h8.size zcells := Blk.new (cs := zcells)
    have Y9 := Y8.push (x := .cells #[iV 0, iV 0, iV 0, .bool false, iV 0, iV 0] 117)
    have B9 := B8.push (x := .cells #[iV 0, iV 0, iV 0, .bool false, iV 0, iV 0] 117)
    have S9 := S8'.trans (Only.push (h := h8) (x := .cells #[iV 0, iV 0, iV 0, .bool false, iV 0, iV 0] 117))
    have hz9 : (h8.push (.cells #[iV 0, iV 0, iV 0, .bool false, iV 0, iV 0] 117)).size = h8.size + 1 := by simp
    have O9 := O8.push (x := .cells #[iV 0, iV 0, iV 0, .bool false, iV 0, iV 0] 117)
    generalize h8.push (.cells #[iV 0, iV 0, iV 0, .bool false, iV 0, iV 0] 117) = h9 at *
    refine St.whole (ys := q8.cells) Z9 rfl rfl fun h10 B10 X10 z10 => ?_
    have Y10 := Y9.of_eq (X10 _ (by omega))
    have A10 := B9.of_eq (X10 _ (by omega))
    have O10 := O9.new (c := h8.size) (by omega) (by omega) X10
    have S10 := S9.new (c := h8.size) (by omega) X10 z10
    have cv : cut v i j = cut x (min i (v.length / 2)) (min j (v.length / 2)) ++ cut y (i - v.length / 2) (j - v.length / 2) := by
      rw [← hxl]
      conv => lhs; rw [hvxy]
      exact cut_append _ _ _ _ (by omega)
    refine ⟨fun c1 => ?_, fun c1 => ⟨fun c2 => ?_, fun c2 => ?_⟩⟩
    · have c1 : ¬ min i (v.length / 2) < min j (v.length / 2) := by simpa using c1
      refine ⟨_, B10.ld 0 rfl, _, B10.ld 1 rfl, _, B10.ld 2 rfl, _, B10.ld 3 rfl, _, B10.ld 4 rfl, _, B10.ld 5 rfl, ?_⟩
      refine fin q8 true h10 P8 _ S10 O10 ⟨_, Y10, rfl⟩ fun h11 S11 O11 B11 => ?_
      refine ⟨_, B11.ld 0 rfl, _, B11.ld 1 rfl, _, B11.ld 2 rfl, _, B11.ld 3 rfl, _, B11.ld 4 rfl, _, B11.ld 5 rfl, ?_⟩
      have := H q8 h11 P8 S11 O11 E8' Tv (fun _ => by
        rw [cv, show cut x (min i (v.length / 2)) (min j (v.length / 2)) = [] from List.eq_nil_of_length_eq_zero (by simp [cut]; omega), List.nil_append]
        exact C8 (by omega)) (fun h => by omega)
      rw [decide_eq_true q0] at this
      rw [decide_eq_true (by omega)]
      exact this
    · have c1 : min i (v.length / 2) < min j (v.length / 2) := by simpa using c1
      have c2 : ¬ i - v.length / 2 < j - v.length / 2 := by simpa using c2
      refine ⟨_, A10.ld 0 rfl, _, A10.ld 1 rfl, _, A10.ld 2 rfl, _, A10.ld 3 rfl, _, A10.ld 4 rfl, _, A10.ld 5 rfl, ?_⟩
      refine fin q5 true h10 P8 _ S10 O10 ⟨_, Y10, rfl⟩ fun h11 S11 O11 B11 => ?_
      refine ⟨_, B11.ld 0 rfl, _, B11.ld 1 rfl, _, B11.ld 2 rfl, _, B11.ld 3 rfl, _, B11.ld 4 rfl, _, B11.ld 5 rfl, ?_⟩
      have := H q5 h11 P8 S11 O11 E8' Tv (fun _ => by
        rw [cv, show cut y (i - v.length / 2) (j - v.length / 2) = [] from List.eq_nil_of_length_eq_zero (by simp [cut]; omega), List.append_nil]
        exact C5 c1) (fun h => by omega)
      rwa [decide_eq_true q0] at this
    · have c1 : min i (v.length / 2) < min j (v.length / 2) := by simpa using c1
      have c2 : i - v.length / 2 < j - v.length / 2 := by simpa using c2
      refine ⟨_, A10.ld 0 rfl, _, B10.ld 0 rfl, _, A10.ld 1 rfl, _, B10.ld 1 rfl, _, A10.ld 2 rfl, _, B10.ld 2 rfl, ?_⟩
      refine fin ⟨w64 (q5.sum + q8.sum), min q5.least q8.least, max q5.most q8.most, false, 0, 0⟩ true h10 P8 _ S10 O10 ⟨_, Y10, rfl⟩ fun h11 S11 O11 B11 => ?_
      refine ⟨_, B11.ld 0 rfl, _, B11.ld 1 rfl, _, B11.ld 2 rfl, _, B11.ld 3 rfl, _, B11.ld 4 rfl, _, B11.ld 5 rfl, ?_⟩
      have := H ⟨w64 (q5.sum + q8.sum), min q5.least q8.least, max q5.most q8.most, false, 0, 0⟩ h11 P8 S11 O11 E8' Tv (fun _ => by rw [cv]; exact (C5 c1).join (C8 c2) rfl rfl rfl) (fun h => by omega)
      rwa [decide_eq_true q0] at this

/-- does no number go round -/
def safeB (p : Part) (x : Int) : Bool := (decide (0 ≤ x) == decide (p.least ≤ w64 (p.least + x))) && (decide (0 ≤ x) == decide (p.most ≤ w64 (p.most + x)))
theorem safe_do {p : Part} {v : List Int} {x : Int} (T : Top p v) (hx : In x) (hs : safeB p x = true) : Do false 0 x v (v.map fun y => w64 (y + x)) := by
  have i1 := T.all _ T.least.1
  have i2 := T.all _ T.most.1
  have key : ∀ z, In z → (decide (0 ≤ x) == decide (z ≤ w64 (z + x))) = true → In (z + x) := by
    intro z hz hd
    have hw := w64_in (z + x)
    have hd : decide (0 ≤ x) = decide (z ≤ w64 (z + x)) := by simpa using hd
    simp only [In, w64, IntKind.wrap_i64] at hz hx hw hd ⊢
    by_cases h0 : 0 ≤ x
    · rw [decide_eq_true h0] at hd
      have := of_decide_eq_true hd.symm
      omega
    · rw [decide_eq_false h0] at hd
      have := of_decide_eq_false hd.symm
      omega
  unfold safeB at hs
  rw [Bool.and_eq_true] at hs
  have k1 := key _ i1 hs.1
  have k2 := key _ i2 hs.2
  have kv : ∀ y ∈ v, w64 (y + x) = y + x := fun y hy => by
    have := T.least.2 y hy
    have := T.most.2 y hy
    exact w64_of (by simp only [In] at k1; omega) (by simp only [In] at k2; omega)
  refine ⟨fun h => (by cases h), fun _ => ⟨x, w64_id hx, List.map_congr_left fun y hy => kv y hy⟩, fun z hz => ?_⟩
  obtain ⟨y, _, rfl⟩ := List.mem_map.1 hz
  exact w64_in _

theorem safe_ok {h : Heap} {P : List Part} {p : Part} {a : Nat} {x : Int} {R : Bool → Heap → Prop} (O : Obj h sp b P) (hp : P[a]? = some p) (H : ∀ h', Only b h h' → Obj h' sp b P → R (safeB p x) h') : seg_Seg_safe r (some sp) (a : Int) x h R := by
  apply seg_Seg_safe_of
  have hb := O.blk.lt
  have lsp := O.lt
  refine ⟨_, rfl, _, O.ptr, O.ix (lt_of hp) ⟨_, O.rd hp 0 rfl, _, O.rd hp 1 rfl, _, O.rd hp 2 rfl, _, O.rd hp 3 rfl, _, O.rd hp 4 rfl, _, O.rd hp 5 rfl, ?_⟩⟩
  intro p1 h1 hp1 hh1
  subst hp1; subst hh1
  have Z1 : Blk (h.push (.cells #[iV 0, iV 0, iV 0, .bool false, iV 0, iV 0] 117)) h.size zcells := Blk.new (cs := zcells)
  refine St.whole (ys := p.cells) Z1 rfl rfl fun h2 B2 E2 z2 => ?_
  have O2 := O.push.new (c := h.size) (by omega) (by omega) E2
  have S2 := (Only.push (b := b) (h := h)).new (c := h.size) (Nat.le_refl _) E2 z2
  have HR := H h2 S2 O2
  intro J HJ
  have HJ := fun x e => HJ x e
  refine ⟨_, B2.ld 1 rfl, _, B2.ld 1 rfl, fun c => ⟨_, B2.ld 2 rfl, _, B2.ld 2 rfl, fun y hy => ?_⟩, fun c => ?_⟩
  · subst hy
    refine HJ _ ?_
    unfold safeB at HR
    rw [c] at HR
    simpa using HR
  · refine HJ _ ?_
    unfold safeB at HR
    rw [c] at HR
    simpa using HR
end
end Go.Proofs.YtcafckgflpmfgaaDoor.SegX
