/- A tree of parts: what the inner functions do. -/
import Derived.Test.YtcafckgflpmfgaaDoorDSegX
import Derived.Test.YtcafckgflpmfgaaDoorSegL
import Derived.Test.YtcafckgflpmfgaaDoorTwUse
namespace Go.Proofs.YtcafckgflpmfgaaDoor.SegX
open Go Go.RowKit Go.Tw Go.Seg
set_option linter.unusedVariables false
theorem flat_len : ∀ (P : List Part), (flat P).length = P.length * 6
  | [] => rfl
  | p :: P => by
    have := flat_len P
    simp only [flat, List.flatMap_cons, List.length_append, List.length_cons] at this ⊢
    rw [this]; simp [Part.cells]; omega
theorem flat_get : ∀ (P : List Part) (i k : Nat) (p : Part), P[i]? = some p → k < 6 → (flat P)[i * 6 + k]? = p.cells[k]?
  | [], i, k, p, h, _ => by simp at h
  | q :: P, 0, k, p, h, hk => by
    simp at h; subst h
    show (q.cells ++ flat P)[0 * 6 + k]? = _
    rw [Nat.zero_mul, Nat.zero_add, List.getElem?_append_left (by simpa [Part.cells] using hk)]
  | q :: P, i + 1, k, p, h, hk => by
    show (q.cells ++ flat P)[(i + 1) * 6 + k]? = _
    have e : q.cells.length = 6 := rfl
    rw [List.getElem?_append_right (by omega), e, show (i + 1) * 6 + k - 6 = i * 6 + k by omega]
    exact flat_get P i k p (by simpa using h) hk
theorem flat_set : ∀ (P : List Part) (i k : Nat) (p p' : Part) (v : Value), P[i]? = some p → k < 6 → p.cells.set k v = p'.cells → (flat P).set (i * 6 + k) v = flat (P.set i p')
  | [], i, k, p, p', v, h, _, _ => by simp at h
  | q :: P, 0, k, p, p', v, h, hk, hc => by
    simp at h; subst h
    show (q.cells ++ flat P).set (0 * 6 + k) v = p'.cells ++ flat P
    rw [Nat.zero_mul, Nat.zero_add, List.set_append_left _ _ (by simpa [Part.cells] using hk), hc]
  | q :: P, i + 1, k, p, p', v, h, hk, hc => by
    show (q.cells ++ flat P).set ((i + 1) * 6 + k) v = q.cells ++ flat (P.set i p')
    have e : q.cells.length = 6 := rfl
    rw [List.set_append_right _ _ (by omega), e, show (i + 1) * 6 + k - 6 = i * 6 + k by omega, flat_set P i k p p' v (by simpa using h) hk hc]
theorem flat_splice : ∀ (P : List Part) (i : Nat) (p : Part), i < P.length → splice (flat P) (i * 6) p.cells = flat (P.set i p)
  | [], i, p, h => by simp at h
  | q :: P, 0, p, h => by
    show splice (q.cells ++ flat P) (0 * 6) p.cells = p.cells ++ flat P
    unfold splice
    have e : q.cells.length = 6 := rfl
    have e2 : p.cells.length = 6 := rfl
    rw [e2, Nat.zero_mul, List.take_zero, List.drop_append, e, List.drop_of_length_le (by omega)]
    simp
  | q :: P, i + 1, p, h => by
    show splice (q.cells ++ flat P) ((i + 1) * 6) p.cells = q.cells ++ flat (P.set i p)
    rw [← flat_splice P i p (by simpa using h)]
    unfold splice
    have e : q.cells.length = 6 := rfl
    have e2 : p.cells.length = 6 := rfl
    rw [e2, List.take_append, List.drop_append, e, List.take_of_length_le (by omega), List.drop_of_length_le (l := q.cells) (by omega), show (i + 1) * 6 - 6 = i * 6 by omega, show (i + 1) * 6 + 6 - 6 = i * 6 + 6 by omega]
    simp

/-- block b alone changes -/
structure Only (b : Nat) (h h' : Heap) : Prop where
  size : h.size ≤ h'.size
  out : ∀ c, c ≠ b → c < h.size → h'[c]? = h[c]?
theorem Only.refl (b : Nat) (h : Heap) : Only b h h := ⟨Nat.le_refl _, fun _ _ _ => rfl⟩
theorem Only.trans {b : Nat} {h1 h2 h3 : Heap} (A : Only b h1 h2) (B : Only b h2 h3) : Only b h1 h3 := ⟨Nat.le_trans A.size B.size, fun c hc hl => (B.out c hc (Nat.lt_of_lt_of_le hl A.size)).trans (A.out c hc hl)⟩
theorem Only.ext {n b : Nat} {h h' : Heap} (A : Only b h h') (hn : n ≤ b) (hb : b < h.size) : Ext n h h' := ⟨A.size, fun c hc => A.out c (by omega) (by omega)⟩
theorem Only.push {b : Nat} {h : Heap} {x : Go.Obj} : Only b h (h.push x) := ⟨by simp, fun c _ hc => push_old hc⟩
theorem Only.blk {b c : Nat} {h h' : Heap} {cs : List Value} (A : Only b h h') (H : Blk h c cs) (hc : c ≠ b) : Blk h' c cs := H.of_eq (A.out c hc H.lt)
theorem Only.cell {b : Nat} {h h' : Heap} {p : Addr} {v : Value} (A : Only b h h') (H : hcell h p = some v) (hc : p.block ≠ b) : hcell h' p = some v := by
  rw [hcell_of_eq (A.out _ hc (hcell_lt H))]; exact H
/-- a block that is new changes, too -/
theorem Only.new {b c : Nat} {h h1 h2 : Heap} (A : Only b h h1) (hc : h.size ≤ c) (ho : ∀ d, d ≠ c → h2[d]? = h1[d]?) (hz : h2.size = h1.size) : Only b h h2 :=
  ⟨by rw [hz]; exact A.size, fun d hd hl => (ho d (by omega)).trans (A.out d hd hl)⟩

theorem St.whole {h : Heap} {c n : Nat} {cs ys : List Value} {K : Heap → Prop} (B : Blk h c cs) (hl : cs.length = n) (hn : ys.length = n) (hK : ∀ h', Blk h' c ys → (∀ d, d ≠ c → h'[d]? = h[d]?) → h'.size = h.size → K h') : St h (ad c 0) n ys K := by
  refine ⟨B.stok (by omega), fun h' e => ?_⟩
  subst e
  refine hK _ ?_ (fun d hd => hsets_other _ _ _ _ (show c ≠ d from fun e => hd e.symm)) (hsets_size _ _ _ _)
  have := Blk.sets (o := 0) ys h 0 cs B (by omega)
  have e : splice cs (0 + 0) ys = ys := by
    unfold splice
    rw [List.drop_of_length_le (by omega)]; simp
  rwa [e] at this

/-- the tree's block, and its parts' block -/
structure Obj (h : Heap) (sp : Addr) (b : Nat) (P : List Part) : Prop where
  ptr : hcell h (Addr.add sp 1) = some (Sl.v ⟨some (ad b 0), P.length, P.length⟩)
  ne : sp.block ≠ b
  blk : Blk h b (flat P)
  small : P.length ≤ 1048576
section
variable {r : World} {h : Heap} {sp : Addr} {b : Nat} {P : List Part} {i a : Nat} {p q : Part}
theorem Obj.step {h' : Heap} {Q : List Part} (O : Obj h sp b P) (S : Only b h h') (B : Blk h' b (flat Q)) (hl : Q.length = P.length) : Obj h' sp b Q :=
  ⟨by rw [hl]; exact S.cell O.ptr (by rw [Addr.add_block]; exact O.ne), O.ne, B, by rw [hl]; exact O.small⟩
theorem Obj.keep {h' : Heap} (O : Obj h sp b P) (E : ∀ d, d < h.size → h'[d]? = h[d]?) (hz : h.size ≤ h'.size) : Obj h' sp b P :=
  O.step ⟨hz, fun c _ hc => E c hc⟩ (O.blk.of_eq (E b O.blk.lt)) rfl
theorem Obj.push {x : Go.Obj} (O : Obj h sp b P) : Obj (h.push x) sp b P := O.keep (fun d hd => push_old hd) (by simp)
theorem Obj.rd (O : Obj h sp b P) (hp : P[i]? = some p) (k : Nat) {v : Value} (hv : p.cells[k]? = some v) : hcell h (Addr.add (ad b (0 + (i : Int).toNat * 6)) k) = some v := by
  have hk : k < 6 := (List.getElem?_eq_some_iff.1 hv).1
  rw [ad_add, Int.toNat_natCast, Nat.zero_add, O.blk.cell, flat_get P i k p hp hk, hv]
theorem Obj.ix {K : Addr → Prop} (O : Obj h sp b P) (hi : i < P.length) (hK : K (ad b (0 + (i : Int).toNat * 6))) : Ix ⟨some (ad b 0), P.length, P.length⟩ (i : Int) 6 K :=
  Ix.mk rfl (by omega) (by simpa using hi) hK
theorem Obj.st {p' : Part} {k : Nat} {v : Value} {K : Heap → Prop} (O : Obj h sp b (P.set i p)) (hi : i < P.length) (hc : p.cells.set k v = p'.cells) (hk : k < 6) (hK : ∀ h', Only b h h' → Obj h' sp b (P.set i p') → K h') :
    St h (Addr.add (ad b (0 + (i : Int).toNat * 6)) k) 1 [v] K := by
  rw [ad_add]
  refine St.one O.blk (by rw [flat_len]; simp; omega) ?_
  have S : Only b h (hset h (ad b (0 + (i : Int).toNat * 6 + k)) v) := ⟨by rw [hset_size]; exact Nat.le_refl _, fun c hcb _ => hset_other (fun e => hcb e.symm)⟩
  refine hK _ S (O.step S ?_ (by simp))
  have B := O.blk.set (o := 0 + (i : Int).toNat * 6 + k) (v := v)
  rw [Int.toNat_natCast, Nat.zero_add] at B ⊢
  rwa [flat_set _ i k p p' v (List.getElem?_set_self hi) hk hc, List.set_set] at B
theorem Obj.st6 {K : Heap → Prop} (O : Obj h sp b P) (hi : i < P.length) (p : Part) (hK : ∀ h', Only b h h' → Obj h' sp b (P.set i p) → K h') :
    St h (ad b (0 + (i : Int).toNat * 6)) 6 p.cells K := by
  have e2 : p.cells.length = 6 := rfl
  have hl := flat_len P
  refine ⟨O.blk.stok (by simp; omega), fun h' e => ?_⟩
  subst e
  have S : Only b h (hsets h (ad b (0 + (i : Int).toNat * 6)) 0 p.cells) := ⟨by rw [hsets_size]; exact Nat.le_refl _, fun c hcb _ => hsets_other _ _ _ _ (fun e => hcb e.symm)⟩
  refine hK _ S (O.step S ?_ (by simp))
  have B := Blk.sets (o := 0 + (i : Int).toNat * 6) p.cells h 0 _ O.blk (by simp; omega)
  rw [Int.toNat_natCast, Nat.zero_add, Nat.add_zero] at B
  rw [Int.toNat_natCast, Nat.zero_add]
  rwa [flat_splice P i p hi] at B
theorem Obj.new {h' : Heap} {c : Nat} (O : Obj h sp b P) (hc : sp.block ≠ c) (hb : b ≠ c) (ho : ∀ d, d ≠ c → h'[d]? = h[d]?) : Obj h' sp b P :=
  ⟨by rw [hcell_of_eq (ho _ (by rw [Addr.add_block]; exact hc))]; exact O.ptr, O.ne, O.blk.of_eq (ho b hb), O.small⟩
theorem Obj.lt (O : Obj h sp b P) : sp.block < h.size := by have := hcell_lt O.ptr; rwa [Addr.add_block] at this
theorem lt_of (hp : P[i]? = some p) : i < P.length := (List.getElem?_eq_some_iff.1 hp).1

theorem all_ok {n : Int} {put : Bool} {what more : Int} {R : Heap → Prop} (O : Obj h sp b P) (hp : P[a]? = some p) (H : ∀ h', Only b h h' → Obj h' sp b (P.set a (allP n put what more p)) → R h') :
    seg_Seg_all r (some sp) (a : Int) n put what more h R := by
  apply seg_Seg_all_of
  have hi := lt_of hp
  refine ⟨_, rfl, _, O.ptr, O.ix hi ?_⟩
  intro J17 HJ
  have fin : ∀ (h1 : Heap) (q : Part), Only b h h1 → Obj h1 sp b (P.set a q) → allP n put what more p = ⟨w64 (q.sum + w64 (n * more)), w64 (q.least + more), w64 (q.most + more), q.put, q.what, w64 (q.more + more)⟩ → J17 h1 := by
    intro h1 q S O1 e
    apply HJ
    refine ⟨_, O1.rd (List.getElem?_set_self hi) 0 rfl, O1.st (p' := { q with sum := w64 (q.sum + w64 (n * more)) }) hi rfl (by decide) fun h2 S2 O2 => ⟨_, O2.rd (List.getElem?_set_self hi) 1 rfl, ?_⟩⟩
    refine O2.st (p' := { q with sum := w64 (q.sum + w64 (n * more)), least := w64 (q.least + more) }) hi rfl (by decide) fun h3 S3 O3 => ⟨_, O3.rd (List.getElem?_set_self hi) 2 rfl, ?_⟩
    refine O3.st (p' := { q with sum := w64 (q.sum + w64 (n * more)), least := w64 (q.least + more), most := w64 (q.most + more) }) hi rfl (by decide) fun h4 S4 O4 => ⟨_, O4.rd (List.getElem?_set_self hi) 5 rfl, ?_⟩
    refine O4.st (p' := allP n put what more p) hi (by rw [e]; rfl) (by decide) fun h5 S5 O5 => H h5 ((((S.trans S2).trans S3).trans S4).trans S5) O5
  have O0 : Obj h sp b (P.set a p) := by rw [set_same hp]; exact O
  refine ⟨fun e => ?_, fun e => fin h p (Only.refl _ _) O0 (by rw [e]; rfl)⟩
  refine O0.st (p' := { p with sum := w64 (n * what) }) hi rfl (by decide) fun h2 S2 O2 => ?_
  refine O2.st (p' := { p with sum := w64 (n * what), least := what }) hi rfl (by decide) fun h3 S3 O3 => ?_
  refine O3.st (p' := { p with sum := w64 (n * what), least := what, most := what }) hi rfl (by decide) fun h4 S4 O4 => ?_
  refine O4.st (p' := { p with sum := w64 (n * what), least := what, most := what, put := true }) hi rfl (by decide) fun h5 S5 O5 => ?_
  refine O5.st (p' := { p with sum := w64 (n * what), least := what, most := what, put := true, what := what }) hi rfl (by decide) fun h6 S6 O6 => ?_
  refine O6.st (p' := ⟨w64 (n * what), what, what, true, what, 0⟩) hi rfl (by decide) fun h7 S7 O7 => ?_
  exact fin h7 _ (((((S2.trans S3).trans S4).trans S5).trans S6).trans S7) O7 (by rw [e]; rfl)

theorem twice (ha : a < 1048576) : w64 (2 * (a : Int)) = ((2 * a : Nat) : Int) := by rw [w64_of] <;> omega
theorem twice1 (ha : a < 1048576) : w64 (((2 * a : Nat) : Int) + 1) = ((2 * a + 1 : Nat) : Int) := by rw [w64_of] <;> omega
theorem half {n : Nat} (ha : n < 1048576) : w64 (Int.tdiv (n : Int) 2) = ((n / 2 : Nat) : Int) := by
  rw [Int.tdiv_eq_ediv_of_nonneg (by omega), w64_of] <;> omega
theorem rest {n : Nat} (ha : n < 1048576) : w64 ((n : Int) - ((n / 2 : Nat) : Int)) = ((n - n / 2 : Nat) : Int) := by rw [w64_of] <;> omega

theorem push_ok {v : List Int} {R : Heap → Prop} (O : Obj h sp b P) (ha : 0 < a) (T : Tr P a v) (hv : 2 ≤ v.length) (hs : v.length < 1048576)
    (H : ∀ p q s h', Only b h h' → Obj h' sp b (pushP P a v.length p q s) → Tr (pushP P a v.length p q s) (2 * a) (v.take (v.length / 2)) → Tr (pushP P a v.length p q s) (2 * a + 1) (v.drop (v.length / 2)) → Same a P (pushP P a v.length p q s) →
      (pushP P a v.length p q s)[a]? = some { p with put := false, what := 0, more := 0 } → Top p v → R h') : seg_Seg_push r (some sp) (a : Int) (v.length : Int) h R := by
  apply seg_Seg_push_of
  obtain ⟨p, q, s, h1, h2, h3, t1, t2, t3, t4, t5⟩ := T.push ha hv
  have a1 := lt_of h1
  have hsm := O.small
  unfold seg_Seg_push_F
  rw [twice (by omega), twice1 (by omega), half hs, rest hs]
  refine ⟨_, rfl, _, O.ptr, O.ix a1 ⟨_, O.rd h1 3 rfl, _, O.rd h1 4 rfl, _, O.rd h1 5 rfl, ?_⟩⟩
  refine all_ok O h2 fun h1' S1 O1 => ?_
  have g1 : (P.set (2 * a) (allP ((v.length / 2 : Nat) : Int) p.put p.what p.more q))[a]? = some p := by rw [List.getElem?_set_ne (by omega)]; exact h1
  have g2 : (P.set (2 * a) (allP ((v.length / 2 : Nat) : Int) p.put p.what p.more q))[2 * a + 1]? = some s := by rw [List.getElem?_set_ne (by omega)]; exact h3
  refine ⟨_, O1.rd g1 3 rfl, _, O1.rd g1 4 rfl, _, O1.rd g1 5 rfl, ?_⟩
  refine all_ok O1 g2 fun h2' S2 O2 => ?_
  have g3 : ((P.set (2 * a) (allP ((v.length / 2 : Nat) : Int) p.put p.what p.more q)).set (2 * a + 1) (allP ((v.length - v.length / 2 : Nat) : Int) p.put p.what p.more s))[a]? = some p := by rw [List.getElem?_set_ne (by omega)]; exact g1
  have hl := lt_of g3
  rw [← set_same g3] at O2
  refine O2.st (p' := { p with put := false }) hl rfl (by decide) fun h3' S3 O3 => ?_
  refine O3.st (p' := { p with put := false, what := 0 }) hl rfl (by decide) fun h4' S4 O4 => ?_
  refine O4.st (p' := { p with put := false, what := 0, more := 0 }) hl rfl (by decide) fun h5' S5 O5 => ?_
  exact H p q s h5' ((((S1.trans S2).trans S3).trans S4).trans S5) O5 t1 t2 t3 t4 t5

theorem pull_ok {s : Part} {R : Heap → Prop} (O : Obj h sp b P) (hp : P[a]? = some p) (hq : P[2 * a]? = some q) (hs : P[2 * a + 1]? = some s)
    (H : ∀ h', Only b h h' → Obj h' sp b (P.set a { p with sum := w64 (q.sum + s.sum), least := min q.least s.least, most := max q.most s.most }) → R h') : seg_Seg_pull r (some sp) (a : Int) h R := by
  apply seg_Seg_pull_of
  have hsm := O.small
  have a1 := lt_of hp
  unfold seg_Seg_pull_F
  rw [twice (by omega), twice1 (by omega)]
  intro J5 HJ
  have hb := O.blk.lt
  have fin : ∀ (c1 c2 : Nat) (h8 : Heap), Only b h h8 → Obj h8 sp b P → Blk h8 c1 q.cells → Blk h8 c2 s.cells → c1 ≠ b → c2 ≠ b → J5 (ad c1 0) (ad c2 0) h8 := by
    intro c1 c2 h8 S O8 B1 B2 n1 n2
    apply HJ
    have O0 : Obj h8 sp b (P.set a p) := by rw [set_same hp]; exact O8
    refine ⟨_, rfl, _, O8.ptr, O8.ix a1 ⟨_, B1.ld 0 rfl, _, B2.ld 0 rfl, _, B1.ld 1 rfl, _, B2.ld 1 rfl, _, B1.ld 2 rfl, _, B2.ld 2 rfl, ?_⟩⟩
    refine O0.st (p' := { p with sum := w64 (q.sum + s.sum) }) a1 rfl (by decide) fun h2 S2 O2 => ?_
    have B1 := S2.blk B1 n1
    have B2 := S2.blk B2 n2
    refine ⟨B2.ld 2 rfl, B1.ld 2 rfl, B2.ld 1 rfl, B1.ld 1 rfl, ?_⟩
    refine O2.st (p' := { p with sum := w64 (q.sum + s.sum), least := min q.least s.least }) a1 rfl (by decide) fun h3 S3 O3 => ?_
    have B1 := S3.blk B1 n1
    have B2 := S3.blk B2 n2
    refine ⟨B2.ld 2 rfl, B1.ld 2 rfl, ?_⟩
    refine O3.st (p' := { p with sum := w64 (q.sum + s.sum), least := min q.least s.least, most := max q.most s.most }) a1 rfl (by decide) fun h4 S4 O4 => ?_
    exact H h4 (((S.trans S2).trans S3).trans S4) O4
  have l1 := lt_of hq
  have l2 := lt_of hs
  have lsp := O.lt
  have Z : ∀ h0 : Heap, Blk (h0.push (.cells #[iV 0, iV 0, iV 0, .bool false, iV 0, iV 0] 117)) h0.size [iV 0, iV 0, iV 0, .bool false, iV 0, iV 0] := fun h0 => Blk.new (cs := [iV 0, iV 0, iV 0, .bool false, iV 0, iV 0])
  refine ⟨_, rfl, _, O.ptr, O.ix l1 ⟨_, O.rd hq 0 rfl, _, O.rd hq 1 rfl, _, O.rd hq 2 rfl, _, O.rd hq 3 rfl, _, O.rd hq 4 rfl, _, O.rd hq 5 rfl, _, rfl, _, O.ptr, ?_⟩⟩
  refine O.ix l2 ⟨_, O.rd hs 0 rfl, _, O.rd hs 1 rfl, _, O.rd hs 2 rfl, _, O.rd hs 3 rfl, _, O.rd hs 4 rfl, _, O.rd hs 5 rfl, ?_⟩
  constructor
  all_goals
    intro p1 h1 hp1 hh1
    subst hp1; subst hh1
    have Z1 := Z h
    have S1 : Only b h (h.push (.cells #[iV 0, iV 0, iV 0, .bool false, iV 0, iV 0] 117)) := Only.push
    have hz1 : (h.push (.cells #[iV 0, iV 0, iV 0, .bool false, iV 0, iV 0] 117)).size = h.size + 1 := by simp
    have O1 := O.push (x := .cells #[iV 0, iV 0, iV 0, .bool false, iV 0, iV 0] 117)
    generalize h.push (.cells #[iV 0, iV 0, iV 0, .bool false, iV 0, iV 0] 117) = h1 at *
    refine ⟨O1.rd hs 0 rfl, O1.rd hs 1 rfl, O1.rd hs 2 rfl, O1.rd hs 3 rfl, O1.rd hs 4 rfl, O1.rd hs 5 rfl, O1.ptr, O1.rd hq 0 rfl, O1.rd hq 1 rfl, O1.rd hq 2 rfl, O1.rd hq 3 rfl, O1.rd hq 4 rfl, O1.rd hq 5 rfl, O1.ptr, ?_⟩
    intro p2 h2 hp2 hh2
    subst hp2; subst hh2
    have Z2 := Z h1
    have Z1 := Z1.push (x := .cells #[iV 0, iV 0, iV 0, .bool false, iV 0, iV 0] 117)
    have S2 := S1.trans (Only.push (h := h1) (x := .cells #[iV 0, iV 0, iV 0, .bool false, iV 0, iV 0] 117))
    have O2 := O1.push (x := .cells #[iV 0, iV 0, iV 0, .bool false, iV 0, iV 0] 117)
    generalize h1.push (.cells #[iV 0, iV 0, iV 0, .bool false, iV 0, iV 0] 117) = h2 at *
    refine ⟨O2.rd hs 0 rfl, O2.rd hs 1 rfl, O2.rd hs 2 rfl, O2.rd hs 3 rfl, O2.rd hs 4 rfl, O2.rd hs 5 rfl, O2.ptr, O2.rd hq 0 rfl, O2.rd hq 1 rfl, O2.rd hq 2 rfl, O2.rd hq 3 rfl, O2.rd hq 4 rfl, O2.rd hq 5 rfl, O2.ptr, ?_⟩
  · refine St.whole (ys := q.cells) Z1 rfl rfl fun h3 B3 E3 z3 => ?_
    have O3 := O2.new (c := h.size) (by omega) (by omega) E3
    refine ⟨O3.rd hs 0 rfl, O3.rd hs 1 rfl, O3.rd hs 2 rfl, O3.rd hs 3 rfl, O3.rd hs 4 rfl, O3.rd hs 5 rfl, O3.ptr, ?_⟩
    refine St.whole (ys := s.cells) (Z2.of_eq (E3 _ (by omega))) rfl rfl fun h4 B4 E4 z4 => ?_
    have O4 := O3.new (c := h1.size) (by omega) (by omega) E4
    exact fin h.size h1.size h4 ((S2.new (Nat.le_refl _) E3 z3).new (by omega) E4 z4) O4 (B3.of_eq (E4 _ (by omega))) B4 (by omega) (by omega)
  · refine St.whole (ys := q.cells) Z2 rfl rfl fun h3 B3 E3 z3 => ?_
    have O3 := O2.new (c := h1.size) (by omega) (by omega) E3
    refine ⟨O3.rd hs 0 rfl, O3.rd hs 1 rfl, O3.rd hs 2 rfl, O3.rd hs 3 rfl, O3.rd hs 4 rfl, O3.rd hs 5 rfl, O3.ptr, ?_⟩
    refine St.whole (ys := s.cells) (Z1.of_eq (E3 _ (by omega))) rfl rfl fun h4 B4 E4 z4 => ?_
    have O4 := O3.new (c := h.size) (by omega) (by omega) E4
    exact fin h1.size h.size h4 ((S2.new (by omega) E3 z3).new (Nat.le_refl _) E4 z4) O4 (B3.of_eq (E4 _ (by omega))) B4 (by omega) (by omega)
end
end Go.Proofs.YtcafckgflpmfgaaDoor.SegX
