/- A tree of parts: what may be asked of it. -/
import Derived.Test.YtcafckgflpmfgaaDoorDSegR
namespace Go.Proofs.YtcafckgflpmfgaaDoor.SegX
open Go Go.RowKit Go.Tw Go.Seg
set_option linter.unusedVariables false
abbrev errno (n : Int) : Value := .iface 29 (.int .i64 n)
abbrev zs : Go.Obj := .cells #[iV 0, iV 0, iV 0, .bool false, iV 0, iV 0] 117

/-- a tree that holds these -/
structure SegAt (h : Heap) (sp : Addr) (b : Nat) (v : List Int) : Prop where
  ex : ∃ P, Obj h sp b P ∧ (v ≠ [] → Go.Seg.Tr P 1 v)
  n : hcell h (Addr.add sp 0) = some (iV (v.length : Int))
  small : v.length ≤ 5000

def Within (n : Nat) (i j : Int) : Prop := 0 ≤ i ∧ i ≤ j ∧ j ≤ n

section
variable {r : World} {h : Heap} {sp : Addr} {b : Nat} {v : List Int}
theorem SegAt.ne (T : SegAt h sp b v) : sp.block ≠ b := by obtain ⟨P, O, _⟩ := T.ex; exact O.ne
theorem SegAt.lt (T : SegAt h sp b v) : sp.block < h.size ∧ b < h.size := by obtain ⟨P, O, _⟩ := T.ex; exact ⟨O.lt, O.blk.lt⟩
theorem SegAt.keep {h' : Heap} (T : SegAt h sp b v) (h1 : h'[sp.block]? = h[sp.block]?) (h2 : h'[b]? = h[b]?) : SegAt h' sp b v := by
  obtain ⟨P, O, t⟩ := T.ex
  refine ⟨⟨P, ⟨?_, O.ne, O.blk.of_eq h2, O.small⟩, t⟩, ?_, T.small⟩
  · rw [hcell_of_eq (h := h) (by rw [Addr.add_block]; exact h1)]; exact O.ptr
  · rw [hcell_of_eq (h := h) (by rw [Addr.add_block]; exact h1)]; exact T.n
theorem SegAt.other {h' : Heap} {c : Nat} (T : SegAt h sp b v) (S : Only c h h') (h1 : sp.block ≠ c) (h2 : b ≠ c) : SegAt h' sp b v :=
  T.keep (S.out _ h1 T.lt.1) (S.out _ h2 T.lt.2)
theorem SegAt.ext {h' : Heap} {n : Nat} (T : SegAt h sp b v) (E : Ext n h h') (h1 : sp.block < n) (h2 : b < n) : SegAt h' sp b v := T.keep (E.2 _ h1) (E.2 _ h2)
theorem SegAt.of {h' : Heap} {P P' : List Part} {w : List Int} (T : SegAt h sp b v) (S : Only b h h') (O : Obj h' sp b P') (hw : w.length = v.length) (t : w ≠ [] → Go.Seg.Tr P' 1 w) : SegAt h' sp b w :=
  ⟨⟨P', O, t⟩, by rw [hw]; exact S.cell T.n (by rw [Addr.add_block]; exact T.ne), by rw [hw]; exact T.small⟩

theorem within_ok {i j : Int} {n : Nat} {R : Value → Heap → Prop} (hn : hcell h (Addr.add sp 0) = some (iV (n : Int))) (H1 : ¬ Within n i j → R (errno 1) h) (H2 : Within n i j → R .nilIface h) : seg_Seg_within r (some sp) i j h R := by
  apply seg_Seg_within_of
  intro J HJ
  refine ⟨fun q => ?_, fun q => ⟨fun q1 => ?_, fun q1 => ⟨_, rfl, _, hn, ?_⟩⟩⟩
  · have q := of_decide_eq_true q
    exact HJ _ ⟨fun _ => H1 (by unfold Within; omega), fun c => (by cases c)⟩
  · have q1 := of_decide_eq_true q1
    exact HJ _ ⟨fun _ => H1 (by unfold Within; omega), fun c => (by cases c)⟩
  · have q := of_decide_eq_false q
    have q1 := of_decide_eq_false q1
    exact HJ _ ⟨fun c => H1 (by have := of_decide_eq_true c; unfold Within; omega), fun c => H2 (by have := of_decide_eq_false c; unfold Within; omega)⟩

theorem told_none {P : List Part} {i j a n : Int} {R : Int → Int → Int → Bool → Int → Int → Bool → Heap → Prop} (O : Obj h sp b P) (hij : j ≤ i) (H : ∀ h', Only b h h' → Obj h' sp b P → R 0 0 0 false 0 0 false h') : seg_Seg_told r (some sp) a n i j h R := by
  apply seg_Seg_told_of
  have hb := O.blk.lt
  have lsp := O.lt
  intro p1 h1 hp1 hh1
  subst hp1; subst hh1
  refine ⟨fun _ => ?_, fun c => absurd (of_decide_eq_false c) (by omega)⟩
  refine St.whole (ys := zcells) (Blk.new (cs := zcells)) rfl rfl fun h3 B3 E3 z3 => ?_
  refine ⟨_, B3.ld 0 rfl, _, B3.ld 1 rfl, _, B3.ld 2 rfl, _, B3.ld 3 rfl, _, B3.ld 4 rfl, _, B3.ld 5 rfl, ?_⟩
  exact H h3 ((Only.push (b := b) (h := h)).new (Nat.le_refl _) E3 z3) (O.push.new (c := h.size) (by omega) (by omega) E3)

theorem tell_ok {i j : Nat} {R : Int → Int → Int → Bool → Int → Int → Bool → Heap → Prop} (T : SegAt h sp b v) (hij : i ≤ j) (hj : j ≤ v.length)
    (H : ∀ (q : Part) (h' : Heap), Only b h h' → SegAt h' sp b v → (i < j → Top q (cut v i j)) → (j ≤ i → q = zeroP) → R q.sum q.least q.most q.put q.what q.more (decide (i < j)) h') :
    seg_Seg_told r (some sp) 1 (v.length : Int) (i : Int) (j : Int) h R := by
  obtain ⟨P, O, t⟩ := T.ex
  have hs := T.small
  by_cases hlt : i < j
  · have hv : v ≠ [] := by intro e; subst e; simp at hj; omega
    refine told_ok v.length v 1 i j h P R rfl (by omega) O (t hv) hj (by omega) (by omega) fun q h' P' S O' E T' C D => ?_
    exact H q h' S (T.of (P := P) S O' rfl fun _ => T') C D
  · refine told_none O (by omega) fun h' S O' => ?_
    have := H zeroP h' S (T.of (P := P) S O' rfl t) (fun h => absurd h hlt) fun _ => rfl
    rwa [decide_eq_false hlt] at this

theorem put_ok {put : Bool} {x i j : Int} {R : Heap → Prop} (hx : In x) (T : SegAt h sp b v) (hw : Within v.length i j) (H : ∀ h', Only b h h' → SegAt h' sp b (chg put x i.toNat j.toNat v) → R h') :
    seg_Seg_change r (some sp) 1 (v.length : Int) i j put x h R := by
  obtain ⟨w1, w2, w3⟩ := hw
  obtain ⟨i, rfl⟩ : ∃ n : Nat, i = n := ⟨i.toNat, by omega⟩
  obtain ⟨j, rfl⟩ : ∃ n : Nat, j = n := ⟨j.toNat, by omega⟩
  rw [Int.toNat_natCast, Int.toNat_natCast] at H
  obtain ⟨P, O, t⟩ := T.ex
  have hs := T.small
  by_cases hlt : i < j
  · have hv : v ≠ [] := by intro e; subst e; simp at w3; omega
    refine change_ok hx v.length v 1 i j h P R rfl (by omega) O (t hv) (by omega) (by omega) (by omega) fun h' P' S O' E T' => ?_
    exact H h' S (T.of (P := P) S O' chg_len fun _ => T')
  · apply seg_Seg_change_of
    refine ⟨fun _ => H h (Only.refl _ _) ?_, fun c => absurd (of_decide_eq_false c) (by omega)⟩
    rw [chg_none (by omega)]; exact T

theorem add_ok {x i j : Int} {R : Value → Heap → Prop} (hx : In x) (T : SegAt h sp b v) (H1 : ¬ Within v.length i j → R (errno 1) h)
    (H2 : Within v.length i j → ∀ h', Only b h h' → SegAt h' sp b (chg false x i.toNat j.toNat v) → R .nilIface h') : seg_Seg_Add r (some sp) i j x h R := by
  apply seg_Seg_Add_of
  refine within_ok T.n (fun w => ⟨rfl, fun _ => H1 w, fun c => (by cases c)⟩) fun w => ⟨rfl, fun c => (by cases c), fun _ => ⟨_, rfl, _, T.n, ?_⟩⟩
  exact put_ok hx T w fun h' S T' => H2 w h' S T'
theorem putt_ok {x i j : Int} {R : Value → Heap → Prop} (hx : In x) (T : SegAt h sp b v) (H1 : ¬ Within v.length i j → R (errno 1) h)
    (H2 : Within v.length i j → ∀ h', Only b h h' → SegAt h' sp b (chg true x i.toNat j.toNat v) → R .nilIface h') : seg_Seg_Put r (some sp) i j x h R := by
  apply seg_Seg_Put_of
  refine within_ok T.n (fun w => ⟨rfl, fun _ => H1 w, fun c => (by cases c)⟩) fun w => ⟨rfl, fun c => (by cases c), fun _ => ⟨_, rfl, _, T.n, ?_⟩⟩
  exact put_ok hx T w fun h' S T' => H2 w h' S T'

theorem sum_ok {i j : Int} {R : Int → Value → Heap → Prop} (T : SegAt h sp b v) (H1 : ¬ Within v.length i j → R 0 (errno 1) h)
    (H2 : Within v.length i j → ∀ h', Only b h h' → SegAt h' sp b v → R (w64 (cut v i.toNat j.toNat).sum) .nilIface h') : seg_Seg_Sum r (some sp) i j h R := by
  apply seg_Seg_Sum_of
  refine within_ok T.n (fun w => ⟨rfl, fun _ => H1 w, fun c => (by cases c)⟩) fun w => ⟨rfl, fun c => (by cases c), fun _ => ⟨_, rfl, _, T.n, ?_⟩⟩
  have H2 := H2 w
  obtain ⟨w1, w2, w3⟩ := w
  obtain ⟨i, rfl⟩ : ∃ n : Nat, i = n := ⟨i.toNat, by omega⟩
  obtain ⟨j, rfl⟩ : ∃ n : Nat, j = n := ⟨j.toNat, by omega⟩
  rw [Int.toNat_natCast, Int.toNat_natCast] at H2
  refine tell_ok T (by omega) (by omega) fun q h1 S1 T1 C D => ?_
  intro p2 h2 hp2 hh2
  subst hp2; subst hh2
  obtain ⟨l1, l2⟩ := T1.lt
  have hz := S1.size
  refine St.whole (ys := q.cells) (Blk.new (cs := zcells)) rfl rfl fun h3 B3 E3 z3 => ⟨_, B3.ld 0 rfl, ?_⟩
  have S3 := (S1.trans (Only.push (x := zs))).new (c := h1.size) hz E3 z3
  have T3 : SegAt h3 sp b v := T1.keep (by rw [E3 _ (by omega)]; exact push_old l1) (by rw [E3 _ (by omega)]; exact push_old l2)
  have := H2 h3 S3 T3
  have e : q.sum = w64 (cut v i j).sum := by
    by_cases hlt : i < j
    · exact (C hlt).sum
    · rw [D (by omega), show cut v i j = [] from List.eq_nil_of_length_eq_zero (by simp [cut]; omega)]; rfl
  rwa [← e] at this

/-- what 'some' tells -/
structure Told (v : List Int) (i j : Int) (q : Part) (e : Value) : Prop where
  no : ¬ Within v.length i j → e = errno 1 ∧ q = zeroP
  none : Within v.length i j → j ≤ i → e = errno 2 ∧ q = zeroP
  some : Within v.length i j → i < j → e = .nilIface ∧ Top q (cut v i.toNat j.toNat)

theorem some_ok {i j : Int} {R : Int → Int → Int → Bool → Int → Int → Value → Heap → Prop} (T : SegAt h sp b v)
    (H : ∀ q e h', Told v i j q e → isIface e = true → Only b h h' → SegAt h' sp b v → R q.sum q.least q.most q.put q.what q.more e h') : seg_Seg_some r (some sp) i j h R := by
  apply seg_Seg_some_of
  intro p1 h1 hp1 hh1
  subst hp1; subst hh1
  obtain ⟨l1, l2⟩ := T.lt
  have Z1 : Blk (h.push (.cells #[iV 0, iV 0, iV 0, .bool false, iV 0, iV 0] 117)) h.size zcells := Blk.new (cs := zcells)
  have S1 : Only b h (h.push (.cells #[iV 0, iV 0, iV 0, .bool false, iV 0, iV 0] 117)) := Only.push
  have hz1 : (h.push (.cells #[iV 0, iV 0, iV 0, .bool false, iV 0, iV 0] 117)).size = h.size + 1 := by simp
  have T1 : SegAt (h.push (.cells #[iV 0, iV 0, iV 0, .bool false, iV 0, iV 0] 117)) sp b v := T.keep (push_old l1) (push_old l2)
  generalize h.push (.cells #[iV 0, iV 0, iV 0, .bool false, iV 0, iV 0] 117) = h1 at *
  refine within_ok T1.n (fun w => ⟨rfl, fun _ => ?_, fun c => (by cases c)⟩) fun w => ⟨rfl, fun c => (by cases c), fun _ => ⟨_, rfl, _, T1.n, ?_⟩⟩
  · refine St.whole (ys := zcells) Z1 rfl rfl fun h3 B3 E3 z3 => ?_
    refine ⟨_, B3.ld 0 rfl, _, B3.ld 1 rfl, _, B3.ld 2 rfl, _, B3.ld 3 rfl, _, B3.ld 4 rfl, _, B3.ld 5 rfl, ?_⟩
    exact H zeroP (errno 1) h3 ⟨fun _ => ⟨rfl, rfl⟩, fun c => absurd c w, fun c => absurd c w⟩ rfl (S1.new (c := h.size) (Nat.le_refl _) E3 z3) (T1.keep (E3 _ (by omega)) (E3 _ (by omega)))
  · have w' := w
    obtain ⟨w1, w2, w3⟩ := w
    obtain ⟨i, rfl⟩ : ∃ n : Nat, i = n := ⟨i.toNat, by omega⟩
    obtain ⟨j, rfl⟩ : ∃ n : Nat, j = n := ⟨j.toNat, by omega⟩
    refine tell_ok T1 (by omega) (by omega) fun q h4 S4 T4 C D => ?_
    have Z4 := S4.blk Z1 (by omega)
    have S4' := S1.trans S4
    have hz4 := S4.size
    obtain ⟨l3, l4⟩ := T4.lt
    intro p5 h5 hp5 hh5
    subst hp5; subst hh5
    have Y5 : Blk (h4.push (.cells #[iV 0, iV 0, iV 0, .bool false, iV 0, iV 0] 117)) h4.size zcells := Blk.new (cs := zcells)
    have Z5 := Z4.push (x := .cells #[iV 0, iV 0, iV 0, .bool false, iV 0, iV 0] 117)
    have S5 := S4'.trans (Only.push (h := h4) (x := .cells #[iV 0, iV 0, iV 0, .bool false, iV 0, iV 0] 117))
    have hz5 : (h4.push (.cells #[iV 0, iV 0, iV 0, .bool false, iV 0, iV 0] 117)).size = h4.size + 1 := by simp
    have T5 : SegAt (h4.push (.cells #[iV 0, iV 0, iV 0, .bool false, iV 0, iV 0] 117)) sp b v := T4.keep (push_old l3) (push_old l4)
    generalize h4.push (.cells #[iV 0, iV 0, iV 0, .bool false, iV 0, iV 0] 117) = h5 at *
    refine St.whole (ys := q.cells) Y5 rfl rfl fun h6 B6 E6 z6 => ?_
    have Z6 := Z5.of_eq (E6 _ (by omega))
    have S6 := S5.new (c := h4.size) (by omega) E6 z6
    have T6 : SegAt h6 sp b v := T5.keep (E6 _ (by omega)) (E6 _ (by omega))
    refine ⟨fun c => ?_, fun c => ?_⟩
    · have c : ¬ i < j := by simpa using c
      refine St.whole (ys := zcells) Z6 rfl rfl fun h3 B3 E3 z3 => ?_
      refine ⟨_, B3.ld 0 rfl, _, B3.ld 1 rfl, _, B3.ld 2 rfl, _, B3.ld 3 rfl, _, B3.ld 4 rfl, _, B3.ld 5 rfl, ?_⟩
      exact H zeroP (errno 2) h3 ⟨fun c => absurd w' c, fun _ _ => ⟨rfl, rfl⟩, fun _ _ => by omega⟩ rfl (S6.new (c := h.size) (Nat.le_refl _) E3 z3) (T6.keep (E3 _ (by omega)) (E3 _ (by omega)))
    · have c : i < j := by simpa using c
      refine ⟨_, B6.ld 0 rfl, _, B6.ld 1 rfl, _, B6.ld 2 rfl, _, B6.ld 3 rfl, _, B6.ld 4 rfl, _, B6.ld 5 rfl, ?_⟩
      refine St.whole (ys := q.cells) Z6 rfl rfl fun h3 B3 E3 z3 => ?_
      refine ⟨_, B3.ld 0 rfl, _, B3.ld 1 rfl, _, B3.ld 2 rfl, _, B3.ld 3 rfl, _, B3.ld 4 rfl, _, B3.ld 5 rfl, ?_⟩
      exact H q .nilIface h3 ⟨fun c => absurd w' c, fun _ _ => by omega, fun _ _ => ⟨rfl, C c⟩⟩ rfl (S6.new (c := h.size) (Nat.le_refl _) E3 z3) (T6.keep (E3 _ (by omega)) (E3 _ (by omega)))

theorem least_ok {i j : Int} {R : Int → Value → Heap → Prop} (T : SegAt h sp b v) (H : ∀ q e h', Told v i j q e → isIface e = true → Only b h h' → SegAt h' sp b v → R q.least e h') : seg_Seg_Least r (some sp) i j h R := by
  apply seg_Seg_Least_of
  refine some_ok T fun q e h1 D he S1 T1 => ?_
  intro p2 h2 hp2 hh2
  subst hp2; subst hh2
  obtain ⟨l1, l2⟩ := T1.lt
  have hz := S1.size
  refine St.whole (ys := q.cells) (Blk.new (cs := zcells)) rfl rfl fun h3 B3 E3 z3 => ⟨_, B3.ld 1 rfl, ?_⟩
  exact H q e h3 D he ((S1.trans (Only.push (x := zs))).new (c := h1.size) hz E3 z3) (T1.keep (by rw [E3 _ (by omega)]; exact push_old l1) (by rw [E3 _ (by omega)]; exact push_old l2))
theorem most_ok {i j : Int} {R : Int → Value → Heap → Prop} (T : SegAt h sp b v) (H : ∀ q e h', Told v i j q e → isIface e = true → Only b h h' → SegAt h' sp b v → R q.most e h') : seg_Seg_Most r (some sp) i j h R := by
  apply seg_Seg_Most_of
  refine some_ok T fun q e h1 D he S1 T1 => ?_
  intro p2 h2 hp2 hh2
  subst hp2; subst hh2
  obtain ⟨l1, l2⟩ := T1.lt
  have hz := S1.size
  refine St.whole (ys := q.cells) (Blk.new (cs := zcells)) rfl rfl fun h3 B3 E3 z3 => ⟨_, B3.ld 2 rfl, ?_⟩
  exact H q e h3 D he ((S1.trans (Only.push (x := zs))).new (c := h1.size) hz E3 z3) (T1.keep (by rw [E3 _ (by omega)]; exact push_old l1) (by rw [E3 _ (by omega)]; exact push_old l2))

theorem cut_one {v : List Int} {i : Nat} (hi : i < v.length) : cut v i (i + 1) = [v[i]] := by
  unfold cut
  rw [show i + 1 - i = 1 by omega, List.drop_eq_getElem_cons hi]
  rfl

theorem SegAt.all (T : SegAt h sp b v) : ∀ x ∈ v, In x := fun x hx => by
  obtain ⟨P, O, t⟩ := T.ex
  obtain ⟨_, p, _, Tp⟩ := (t (by intro e; subst e; cases hx)).top
  exact Tp.all x hx

theorem ints_ok {R : Sl → Heap → Prop} (T : SegAt h sp b v) (H : ∀ s h', Own h.size 1 h' s (v.map iV) → Only b h h' → SegAt h' sp b v → R s h') : seg_Seg_Ints r (some sp) h R := by
  apply seg_Seg_Ints_of
  have hs := T.small
  have hall := T.all
  obtain ⟨lsp, lb⟩ := T.lt
  refine ⟨_, rfl, _, T.n, ?_⟩
  intro X HX
  have key : ∀ d (i : Nat) (out : Sl) (h1 : Heap), i + d = v.length → Own h.size 1 h1 out ((v.take i).map iV) → Only b h h1 → SegAt h1 sp b v → X out (i : Int) h1 := by
    intro d
    induction d with
    | zero =>
      intro i out h1 hi O1 S1 T1
      refine HX _ _ _ ⟨fun c => absurd (of_decide_eq_true c) (by omega), fun _ => H out h1 ?_ S1 T1⟩
      rwa [List.take_of_length_le (by omega)] at O1
    | succ d ih =>
      intro i out h1 hi O1 S1 T1
      have hiv : i < v.length := by omega
      refine HX _ _ _ ⟨fun _ => ⟨_, rfl, _, T1.n, ?_⟩, fun c => absurd (of_decide_eq_false c) (by omega)⟩
      rw [show w64 ((i : Int) + 1) = ((i + 1 : Nat) : Int) by rw [w64_of] <;> omega]
      refine tell_ok T1 (by omega) (by omega) fun q h2 S2 T2 C D => ?_
      have C := C (by omega)
      have eq : q.sum = v[i] := by
        rw [C.sum, cut_one hiv]
        simp only [List.sum_cons, List.sum_nil, Int.add_zero]
        exact w64_id (hall _ (List.getElem_mem hiv))
      intro p3 h3 hp3 hh3
      subst hp3; subst hh3
      obtain ⟨l1, l2⟩ := T2.lt
      have hz1 := S1.size
      have hz2 := S2.size
      refine St.whole (ys := q.cells) (Blk.new (cs := zcells)) rfl rfl fun h4 B4 E4 z4 => ⟨_, B4.ld 0 rfl, ?_⟩
      have X4 : Ext h2.size h2 h4 := ⟨by rw [z4]; simp, fun c hc => by rw [E4 c (by omega)]; exact push_old hc⟩
      have O2 : Own h.size 1 h2 out ((v.take i).map iV) := O1.keep fun p hp => S2.out _ (by have := (O1.lt hp).2; omega) (O1.lt hp).1
      have O4 := O2.ext X4
      have hol : out.len = i := by have := O1.len; simp at this; omega
      rw [eq]
      refine App.push (cs := [iV v[i]]) O4 rfl rfl (one_all rfl) (by have := X4.1; omega) (by rw [hol]; omega) fun s' h5 G => ?_
      have O5 := G.own
      have e5 : (v.take i).map iV ++ [iV v[i]] = (v.take (i + 1)).map iV := by
        rw [List.take_add_one, List.getElem?_eq_getElem hiv, Option.toList_some, List.map_append]; rfl
      rw [e5] at O5
      have X5 : Ext h.size h2 h5 := (X4.mono (by omega)).trans G.ext
      refine ih (i + 1) s' h5 (by omega) O5 ⟨by have := S1.size; have := S2.size; have := X5.1; omega, fun c hc hl => ?_⟩ (T2.ext X5 (by omega) (by omega))
      rw [X5.2 c hl, S2.out c hc (by omega), S1.out c hc hl]
  exact key v.length 0 Sl.nil h (by omega) (Own.nil _ _ _) (Only.refl _ _) T

theorem flat_rep : ∀ (m i : Nat), i < m * 6 → (flat (List.replicate m zeroP))[i]? = some (zcells[i % 6]!) := by
  intro m i hi
  have h1 : i / 6 < m := by omega
  have := flat_get (List.replicate m zeroP) (i / 6) (i % 6) zeroP (by rw [List.getElem?_replicate, if_pos h1]) (by omega)
  rw [show i / 6 * 6 + i % 6 = i by omega] at this
  rw [this]
  have : i % 6 = 0 ∨ i % 6 = 1 ∨ i % 6 = 2 ∨ i % 6 = 3 ∨ i % 6 = 4 ∨ i % 6 = 5 := by omega
  rcases this with e | e | e | e | e | e <;> rw [e] <;> rfl

theorem new_ok {n : Nat} {l1 : Sl} {l : List Int} {R : Option Addr → Value → Heap → Prop} (hl : RI n h l1 l) (hn : n ≤ h.size) (hin : ∀ x ∈ l, In x) (hsz : l.length ≤ 5000)
    (H : ∀ sp b h', SegAt h' sp b l → h.size ≤ sp.block → h.size ≤ b → Ext h.size h h' → R (some sp) .nilIface h') : seg_New r l1 h R := by
  apply seg_New_of
  have hlen := hl.len
  refine ⟨fun c => absurd (of_decide_eq_true c) (by omega), fun _ => ?_⟩
  obtain ⟨m, hm⟩ : ∃ m : Nat, m = max 1 (4 * l.length) := ⟨_, rfl⟩
  have em : max (1 : Int) (w64 (4 * (l1.len : Int))) = (m : Int) := by rw [hlen, w64_of] <;> omega
  rw [em]
  refine ⟨by omega, by omega, by omega, fun s h1 hs hh => ?_⟩
  rw [Int.toNat_natCast] at hs hh
  have ea : (Array.range (m * 6)).map ((if m * 6 = 0 then #[] else (Value.agg #[iV 0, iV 0, iV 0, .bool false, iV 0, iV 0]).cells)[· % (if m * 6 = 0 then #[] else (Value.agg #[iV 0, iV 0, iV 0, .bool false, iV 0, iV 0]).cells).size]!) = (flat (List.replicate m zeroP)).toArray := by
    have ez : (Value.agg #[iV 0, iV 0, iV 0, .bool false, iV 0, iV 0]).cells = zcells.toArray := rfl
    rw [if_neg (by omega), ez]
    apply Array.ext
    · simp [flat_len]
    · intro i h1 h2
      have h3 : i < m * 6 := by simpa using h1
      have := flat_rep m i h3
      have e : (flat (List.replicate m zeroP)).toArray[i] = zcells[i % 6]! := by
        have h4 := List.getElem?_eq_getElem (l := flat (List.replicate m zeroP)) (i := i) (by rw [flat_len]; simpa using h3)
        rw [this] at h4
        simp only [List.getElem_toArray]
        exact (Option.some.inj h4).symm
      rw [e]
      simp only [Array.getElem_map, Array.getElem_range]
      have : i % 6 = 0 ∨ i % 6 = 1 ∨ i % 6 = 2 ∨ i % 6 = 3 ∨ i % 6 = 4 ∨ i % 6 = 5 := by omega
      show zcells.toArray[i % 6]! = zcells[i % 6]!
      rcases this with e | e | e | e | e | e <;> rw [e] <;> rfl
  rw [ea] at hh
  have B1 : Blk h1 h.size (flat (List.replicate m zeroP)) := by rw [hh]; exact Blk.new
  have X1 : Ext h.size h h1 := by rw [hh]; exact Ext.push (Nat.le_refl _)
  have z1 : h1.size = h.size + 1 := by rw [hh]; simp
  subst hs
  clear hh
  intro p2 h2 hp2 hh2
  subst hp2
  have B2 : Blk h2 h1.size [iV (l1.len : Int), Sl.v ⟨some (ad h.size 0), m, m⟩] := by rw [hh2]; exact Blk.new (cs := [iV (l1.len : Int), Sl.v ⟨some (ad h.size 0), m, m⟩])
  have C2 : Blk h2 h.size (flat (List.replicate m zeroP)) := by rw [hh2]; exact B1.push
  have X2 : Ext h1.size h1 h2 := by rw [hh2]; exact Ext.push (Nat.le_refl _)
  clear hh2
  have hml : (List.replicate m zeroP).length = m := by simp
  have O2 : Obj h2 (ad h1.size 0) h.size (List.replicate m zeroP) := ⟨by rw [hml]; exact B2.ld 1 rfl, by show h1.size ≠ h.size; omega, C2, by rw [hml]; omega⟩
  have N2 : hcell h2 (Addr.add (ad h1.size 0) 0) = some (iV (l.length : Int)) := by rw [← hlen]; exact B2.ld 0 rfl
  have X : Ext h.size h h2 := X1.trans (X2.mono (by omega))
  refine ⟨_, B2.ld 0 rfl, ?_⟩
  intro J HJ
  refine ⟨fun c => ?_, fun c => HJ _ (H (ad h1.size 0) h.size h2 ?_ (by show h.size ≤ h1.size; omega) (Nat.le_refl _) X)⟩
  · have c : 0 < l.length := by have := of_decide_eq_true c; omega
    refine build_ok (N := l.length) (s0 := n) (r := r) l.length l 1 0 h2 (List.replicate m zeroP) l1 _ rfl c (by omega) O2 (fun i p _ hp => ?_) (hl.ext X hn) hn hin (by rw [hml]; omega) (by omega) (by omega) (by rw [hml]; omega) (by omega) fun h' P' S O' E T' => ?_
    · rw [List.getElem?_replicate] at hp
      split at hp
      · cases hp; exact ⟨rfl, rfl⟩
      · cases hp
    · refine HJ _ (H (ad h1.size 0) h.size h' ⟨⟨P', O', fun _ => T'⟩, S.cell N2 (by rw [Addr.add_block]; exact O2.ne), hsz⟩ (by show h.size ≤ h1.size; omega) (Nat.le_refl _) ?_)
      exact X.trans (S.ext (Nat.le_refl _) O2.blk.lt)
  · have c : l.length = 0 := by have := of_decide_eq_false c; omega
    have e : l = [] := List.eq_nil_of_length_eq_zero c
    exact ⟨⟨_, O2, fun hne => absurd e hne⟩, N2, hsz⟩
theorem new_full {l1 : Sl} {R : Option Addr → Value → Heap → Prop} (hsz : 5000 < l1.len) (H : R none (errno 4) h) : seg_New r l1 h R := by
  apply seg_New_of
  exact ⟨fun _ => H, fun c => absurd (of_decide_eq_false c) (by omega)⟩
end
end Go.Proofs.YtcafckgflpmfgaaDoor.SegX
