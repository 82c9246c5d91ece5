/- All sums are one: the law 'TopSums'. -/
import Derived.Test.YtfiemlcoliijoaaHTop
import Derived.Test.YtfiemlcoliijoaaHSegS
import Derived.Test.YtfiemlcoliijoaaHFenQ
import Derived.Test.YtfiemlcoliijoaaHTabR
import Derived.Test.YtfiemlcoliijoaaHScanS
import Derived.Test.YtfiemlcoliijoaaHSeqP
namespace Go.Proofs.Ytfiemlcoliijoaa
open Go Go.RowKit Go.Tw
set_option linter.unusedVariables false

/-! ### Plain -/
theorem fold_w64 : ∀ (l : List Int) (a : Int), l.foldl (fun a b => w64 (a + b)) (w64 a) = w64 (a + l.sum)
  | [], a => by simp
  | x :: l, a => by
    rw [List.foldl_cons, List.sum_cons]
    have : w64 (w64 a + x) = w64 (a + x) := by
      apply Go.Seg.w64_congr
      have := Go.Seg.w64_mod a
      omega
    rw [this, fold_w64 l (a + x), Int.add_assoc]
theorem fold_add (l : List Int) : l.foldl (Go.Scan.opG 1) (Go.Scan.opE 1) = w64 l.sum := by
  have e1 : Go.Scan.opG 1 = fun a b => w64 (a + b) := rfl
  have e2 : Go.Scan.opE 1 = w64 0 := by rw [w64_of (by omega) (by omega)]; rfl
  rw [e1, e2, fold_w64, Int.zero_add]
theorem lst_mn : ∀ (l : List Int), l ≠ [] → (∀ x ∈ l, Go.Mono.In x) → Go.Seg.Mn l (Go.Mono.lst l)
  | [], h, _ => absurd rfl h
  | [x], _, hx => by
    have h := hx x (by simp)
    have e : Go.Mono.lst [x] = x := by show min x 9223372036854775807 = x; have := h.2; omega
    rw [e]; exact ⟨by simp, fun y hy => by simp at hy; omega⟩
  | x :: y :: l, _, hx => by
    have ih := lst_mn (y :: l) (by simp) fun z hz => hx z (List.mem_cons_of_mem _ hz)
    have e : Go.Mono.lst (x :: y :: l) = min x (Go.Mono.lst (y :: l)) := rfl
    rw [e]
    refine ⟨?_, fun z hz => ?_⟩
    · rcases Int.le_total x (Go.Mono.lst (y :: l)) with h | h
      · rw [Int.min_eq_left h]; simp
      · rw [Int.min_eq_right h]; exact List.mem_cons_of_mem _ ih.1
    · rcases List.mem_cons.1 hz with rfl | hz
      · exact Int.min_le_left _ _
      · exact Int.le_trans (Int.min_le_right _ _) (ih.2 z hz)
/-- the first k numbers, and noughts -/
def firsts (l : List Int) (k : Nat) : Nat → Int := fun x => if x < k then l[x]?.getD 0 else 0
theorem firsts_zero (l : List Int) : firsts l 0 = fun _ => 0 := by funext x; simp [firsts]
theorem firsts_more (l : List Int) (k : Nat) (hk : k < l.length) : Go.Fen.more (firsts l k) k l[k] = firsts l (k + 1) := by
  funext x
  simp only [Go.Fen.more, firsts]
  by_cases h : x = k
  · subst h; simp [List.getElem?_eq_getElem hk]
  · by_cases h2 : x < k
    · rw [if_pos h2, if_neg h, if_pos (by omega)]; omega
    · rw [if_neg h2, if_neg h, if_neg (by omega)]; rfl
theorem ps_bound {v : Nat → Int} {B : Int} (hv : ∀ j, v j ≤ B) : ∀ m : Nat, Go.Fen.ps v m ≤ m * B
  | 0 => by simp [Go.Fen.ps]
  | m + 1 => by
    rw [Go.Fen.ps]
    have := ps_bound hv m
    have := hv m
    have e : ((m + 1 : Nat) : Int) * B = m * B + B := by rw [Int.natCast_add, Int.add_mul]; omega
    omega
theorem ps_cut (l : List Int) (i : Nat) : ∀ (d : Nat), i + d ≤ l.length → Go.Fen.ps (firsts l l.length) (i + d) - Go.Fen.ps (firsts l l.length) i = ((l.drop i).take d).sum
  | 0, _ => by simp
  | d + 1, h => by
    have ih := ps_cut l i d (by omega)
    have hd : i + d < l.length := by omega
    rw [show i + (d + 1) = (i + d) + 1 by omega, Go.Fen.ps, List.take_add_one, List.sum_append]
    have e1 : firsts l l.length (i + d) = l[i + d] := by simp [firsts, hd]
    have e2 : (l.drop i)[d]? = some l[i + d] := by rw [List.getElem?_drop, List.getElem?_eq_getElem hd]
    rw [e1, e2]
    simp only [Option.toList_some, List.sum_cons, List.sum_nil]
    omega
theorem low_mn {l : List Int} {i j z : Nat} (hij : i < j) (hj : j ≤ l.length) (L : Go.Tab.Low (Go.Tab.val_ l) i (j - i) z) (e : Go.Tab.val_ l z = l[z]!) (ee : ∀ y, y < l.length → Go.Tab.val_ l y = l[y]!) : Go.Seg.Mn ((l.drop i).take (j - i)) l[z]! := by
  obtain ⟨a, b, c⟩ := L
  have hz : z < l.length := by omega
  refine ⟨?_, fun x hx => ?_⟩
  · rw [List.mem_iff_getElem?]
    refine ⟨z - i, ?_⟩
    rw [List.getElem?_take, if_pos (by omega), List.getElem?_drop, show i + (z - i) = z by omega, List.getElem?_eq_getElem hz, getElem!_pos l z hz]
  · obtain ⟨k, hk⟩ := List.mem_iff_getElem?.1 hx
    rw [List.getElem?_take] at hk
    by_cases h : k < j - i
    · rw [if_pos h, List.getElem?_drop] at hk
      have hy : i + k < l.length := by omega
      rw [List.getElem?_eq_getElem hy] at hk
      have := (c (i + k) (by omega) (by omega)).1
      rw [e, ee _ hy, getElem!_pos l (i + k) hy] at this
      simp at hk
      omega
    · rw [if_neg h] at hk; cases hk

/-! ### What is told of many -/
section
variable {r : World} {h : Heap}
theorem mof_ok {s : Sl} {n : Nat} {l : List Int} {R : Int → Int → Int → Int → Int → Heap → Prop} (hs : RI n h s l) (hn : n ≤ h.size) (hin : ∀ x ∈ l, Go.Mono.In x) (hz : l.length < 4611686018427387903)
    (H : ∀ h', Fw h h' → R (Go.Mono.meas l).n (Go.Mono.meas l).sum (Go.Mono.meas l).least (Go.Mono.meas l).most (Go.Mono.meas l).hash h') : mono_Of r s h R := by
  apply mono_Of_of
  have hlen := hs.len
  refine New.cells fun h1 E1 z1 B1 => Mo.none_ok fun h2 E2 => New.cells fun h3 E3 z3 B3 => ?_
  have E13 := (E1.trans E2).trans E3
  have C1 := (E2.trans E3).blk B1
  have hc1 := C1.lt
  have z12 := E2.1
  refine St.whole B3 rfl rfl fun h4 B4 o4 z4 => ?_
  intro X HX
  have key : ∀ (d i : Nat) (h5 : Heap), i + d = l.length → Fw h h5 → h3.size ≤ h5.size → Blk h5 h.size [iV 0, iV 0, iV 0, iV 0, iV 0] → Blk h5 h2.size (Go.Mono.meas (l.take i)).c → X (i : Int) h5 := by
    intro d
    induction d with
    | zero =>
      intro i h5 hi E5 hz5 C5 B5
      rw [List.take_of_length_le (by omega)] at B5
      refine HX _ _ ⟨fun c => absurd (of_decide_eq_true c) (by omega), fun _ => ⟨_, B5.ld 0 rfl, _, B5.ld 1 rfl, _, B5.ld 2 rfl, _, B5.ld 3 rfl, _, B5.ld 4 rfl, ?_⟩⟩
      refine St.whole C5 rfl rfl fun h6 B6 o6 z6 => ⟨_, B6.ld 0 rfl, _, B6.ld 1 rfl, _, B6.ld 2 rfl, _, B6.ld 3 rfl, _, B6.ld 4 rfl, ?_⟩
      exact H h6 (E5.over (Nat.le_refl _) o6 z6)
    | succ d ih =>
      intro i h5 hi E5 hz5 C5 B5
      have hil : i < l.length := by omega
      refine HX _ _ ⟨fun _ => ?_, fun c => absurd (of_decide_eq_false c) (by omega)⟩
      refine RI.ix (hs.ext E5 hn) (by omega) (by omega) fun p _ hp => ⟨_, hp, _, B5.ld 0 rfl, _, B5.ld 1 rfl, _, B5.ld 2 rfl, _, B5.ld 3 rfl, _, B5.ld 4 rfl, ?_⟩
      have ex : l[(i : Int).toNat]! = l[i] := by rw [Int.toNat_natCast, getElem!_pos l i hil]
      rw [ex]
      refine Mo.one_ok (hin _ (List.getElem_mem hil)) fun h6 E6 => ?_
      have B6 := E6.blk B5
      have C6 := E6.blk C5
      have z6 := E6.1
      refine ⟨B6.ld 0 rfl, B6.ld 1 rfl, B6.ld 2 rfl, B6.ld 3 rfl, B6.ld 4 rfl, Mo.join_ok (a := l.take i) (b := [l[i]]) (by simp; omega) fun h7 E7 => ?_⟩
      have z7 := E7.1
      refine St.whole (E7.blk B6) rfl rfl fun h8 B8 o8 z8 => ?_
      rw [w64_of (by omega) (by omega)]
      have e : l.take (i + 1) = l.take i ++ [l[i]] := by rw [List.take_add_one, List.getElem?_eq_getElem hil]; rfl
      refine ih (i + 1) h8 (by omega) (((E5.trans E6).trans E7).over (by have := E1.1; omega) o8 z8) (by omega) ((E7.blk C6).other o8 (by omega)) ?_
      rw [e]; exact B8
  refine key l.length 0 h4 (by omega) (E13.over (by have := E1.1; omega) o4 z4) (by omega) ((E3.blk (E2.blk B1)).other o4 (by omega)) ?_
  rw [List.take_zero]; exact B4

/-! ### The law -/
/-- all but two blocks stay -/
structure Kp (b c : Nat) (h h' : Heap) : Prop where
  size : h.size ≤ h'.size
  out : ∀ d, d ≠ b → d ≠ c → d < h.size → h'[d]? = h[d]?
variable {b c : Nat} {h1 h2 : Heap}
theorem Kp.refl (b c : Nat) (h : Heap) : Kp b c h h := ⟨Nat.le_refl _, fun _ _ _ _ => rfl⟩
theorem Kp.trans (A : Kp b c h h1) (B : Kp b c h1 h2) : Kp b c h h2 := ⟨Nat.le_trans A.size B.size, fun d q1 q2 q3 => by rw [B.out d q1 q2 (Nat.lt_of_lt_of_le q3 A.size), A.out d q1 q2 q3]⟩
theorem Kp.only (A : Sg.Only b h h1) : Kp b c h h1 := ⟨A.size, fun d q1 _ q3 => A.out d q1 q3⟩
theorem Kp.fw (A : Fw h h1) : Kp b c h h1 := ⟨A.1, fun d _ _ q3 => A.2 d q3⟩
theorem Kp.two (ho : ∀ d, d ≠ c → h1[d]? = h[d]?) (hz : h1.size = h.size) : Kp b c h h1 := ⟨by rw [hz]; exact Nat.le_refl _, fun d _ q2 _ => ho d q2⟩

theorem fact_ok {K : Int → Value → Heap → Prop} (H : ∀ h', Fw h h' → K 8 .nilIface h') : New h (.cells #[(.int .i64 5), (.int .i64 3)] 3) fun p10 h4 => scan_Fold r 1 ((⟨some p10, 2, 2⟩ : Sl)) h4 K := by
  refine New.cells (cs := [iV 5, iV 3]) fun h1 E1 z1 B1 => ?_
  have hr : RI h1.size h1 ⟨some (ad h.size 0), 2, 2⟩ [5, 3] := RI.of_blk (b := h.size) (l := [5, 3]) (c := 2) B1 B1.lt (List.prefix_refl _) (by decide)
  refine Sc.fold_ok (by decide) (by decide) hr (Nat.le_refl _) (by decide) fun h2 E2 => ?_
  have e : ([5, 3] : List Int).foldl (Go.Scan.opG 1) (Go.Scan.opE 1) = 8 := by rw [fold_add]; rw [w64_of] <;> decide
  rw [e]
  exact H h2 (E1.trans E2)

theorem Sub.at_ {n : Nat} {s : Sl} {u : List Int} {lo hi : Nat} {K : Sl → Prop} (S : RI n h s u) (h1 : lo ≤ hi) (h2 : hi ≤ u.length) (hK : ∀ t, RI n h t ((u.drop lo).take (hi - lo)) → K t) : Sub s (lo : Int) (hi : Int) (s.cap : Int) 1 K := by
  have hc := S.cap
  have hl := S.len
  refine ⟨by omega, by omega, by omega, by omega, fun t ht => hK t ?_⟩
  have et : t = ⟨sliceA s.a s.cap lo 1, hi - lo, s.cap - lo⟩ := by rw [ht]; simp only [Int.toNat_natCast]
  rw [et]
  by_cases he : lo = hi
  · subst he
    refine ⟨by simp, by simp, .inl (by simp)⟩
  · have := Rs.sub S (lo := lo) (hi := hi) (mx := s.cap) (by omega) (by simp; omega) (by omega)
    rwa [← List.map_drop, ← List.map_take] at this

theorem sums_law {l : List Int} {l1 : Sl} {i j : Int} (hl1 : RI h.size h l1 l) (hin : ∀ y ∈ l, Go.Mono.In y) : top_TopSums r l1 i j h fun y h' => y = true ∧ Ext h.size h h' := by
  apply top_TopSums_of
  have hlen := hl1.len
  by_cases hbig : 5000 < l.length
  · refine Sg.new_full (by omega) (Fe.new_err (.inr (by omega)) ?_)
    apply table_New_of
    refine ⟨fun _ => fact_ok fun h5 E5 => ⟨rfl, fun q => by simp [isNil] at q, fun _ => ⟨rfl, rfl, rfl, fun _ => ?_, fun q => by simp [isNil] at q⟩⟩, fun q => absurd (of_decide_eq_false q) (by omega)⟩
    intro J HJ
    exact ⟨fun _ => HJ _ ⟨rfl, E5⟩, fun q => absurd (of_decide_eq_false q) (by omega)⟩
  refine Sg.new_ok hl1 (Nat.le_refl _) hin (by omega) fun sp b h1 T1 n1 n2 E1 => ?_
  refine Fe.new_ok (by omega) (by omega) fun fb fc h2 m1 m2 F2 E2 => ?_
  have z1 := E1.1
  have z2 := E2.1
  have E12 := Fw.trans (h := h) E1 E2
  refine Tb.new_ok (hl1.ext E12 (Nat.le_refl _)) E12.1 (by omega) fun tb h3 T3 E3 => fact_ok fun h5 E5 => ?_
  have z3 := E3.1
  have z5 := E5.1
  have E15 := Fw.trans (Fw.trans E12 E3) E5
  refine ⟨rfl, fun q => by simp [isNil] at q, fun _ => ⟨rfl, rfl, rfl, fun _ => ?_, fun q => ?_⟩⟩
  · intro J HJ
    exact ⟨fun q => absurd (of_decide_eq_true q) (by omega), fun _ => ⟨fun _ => ⟨fun _ => HJ _ ⟨rfl, E15⟩, fun q => by cases q⟩, fun q => by cases q⟩⟩
  have q : l.length ≤ 200 ∧ 0 ≤ i ∧ i < j ∧ j ≤ l.length := by simp [isNil] at q; omega
  obtain ⟨q1, q2, q3, q4⟩ := q
  have e0 : ((l1.len : Int)).toNat = l.length := by omega
  rw [e0] at F2
  obtain ⟨lt1, lt2⟩ := T1.lt
  have ltf := F2.top.lt
  have ltc : fc < h2.size := by obtain ⟨s, hB, _⟩ := F2.row; exact hB.lt
  obtain ⟨i, rfl⟩ : ∃ n : Nat, i = n := ⟨i.toNat, by omega⟩
  obtain ⟨j, rfl⟩ : ∃ n : Nat, j = n := ⟨j.toNat, by omega⟩
  have E25 := Fw.trans E3 E5
  have T5 : Sg.SegAt h5 sp b l := T1.ext (n := h1.size) (Ext.trans E2 (E25.mono z2)) lt1 lt2
  have F5 : Fe.FenSt h5 fb fc l.length (firsts l 0) := by rw [firsts_zero]; exact F2.ext (n := 0) (E25.2 _ ltf) (E25.2 _ ltc)
  -- what all stays
  have kl : ∀ h', Kp b fc h5 h' → RI h.size h' l1 l := fun h' K => Rs.ext hl1 (m := h.size) ⟨by have := K.size; have := E15.1; omega, fun d hd => by rw [K.out d (by omega) (by omega) (by have := E15.1; omega), E15.2 d hd]⟩ (Nat.le_refl _)
  have kx : ∀ h', Kp b fc h5 h' → Ext h.size h h' := fun h' K => ⟨by have := K.size; have := E15.1; omega, fun d hd => by rw [K.out d (by omega) (by omega) (by have := E15.1; omega), E15.2 d hd]⟩
  have kt : ∀ h', Kp b fc h5 h' → Tb.TabSt h' tb l := fun h' K => T3 h' (by have := K.size; omega) fun d d1 d2 => by rw [K.out d (by omega) (by omega) (by omega), E5.2 d d2]
  intro X HX
  have key : ∀ (d k : Nat) (h6 : Heap), k + d = l.length → (∀ x, 0 ≤ firsts l k x ∧ firsts l k x ≤ 1073741824) → Kp b fc h5 h6 → Sg.SegAt h6 sp b l → Fe.FenSt h6 fb fc l.length (firsts l k) → X (k : Int) h6 := by
    intro d
    induction d with
    | succ d ih =>
      intro k h6 hk hv K6 T6 F6
      have hkl : k < l.length := by omega
      have hB : Go.Fen.ps (firsts l k) l.length ≤ 1099511627776 := by
        have := ps_bound (fun x => (hv x).2) l.length
        omega
      refine HX _ _ ⟨fun _ => ?_, fun q => absurd (of_decide_eq_false q) (by omega)⟩
      have ex : l[(k : Int).toNat]! = l[k] := by rw [Int.toNat_natCast, getElem!_pos l k hkl]
      intro J HJ
      refine RI.ix (kl h6 K6) (by omega) (by omega) fun p _ hp => ⟨_, hp, ?_⟩
      rw [ex]
      refine ⟨fun q => HJ _ ⟨fun _ => ⟨rfl, kx h6 K6⟩, fun q => by cases q⟩, fun q => ?_⟩
      have q := of_decide_eq_false q
      refine RI.ix (kl h6 K6) (by omega) (by omega) fun p _ hp => ⟨_, hp, HJ _ ?_⟩
      rw [ex]
      refine ⟨fun _ => ⟨rfl, kx h6 K6⟩, fun c => ?_⟩
      have c := of_decide_eq_false c
      refine RI.ix (kl h6 K6) (by omega) (by omega) fun p _ hp => ⟨_, hp, ?_⟩
      rw [ex]
      refine Fe.add_ok F6 q1 hkl (by omega) (by omega) (fun x => (hv x).1) hB fun h7 F7 o7 z7 => ?_
      refine ⟨rfl, fun c => by simp [isNil] at c, fun _ => ?_⟩
      rw [w64_of (by omega) (by omega)]
      rw [firsts_more l k hkl] at F7
      have hv' : ∀ x, 0 ≤ firsts l (k + 1) x ∧ firsts l (k + 1) x ≤ 1073741824 := by
        intro x
        have := hv x
        rw [← firsts_more l k hkl]
        simp only [Go.Fen.more]
        by_cases hx : x = k
        · have e : firsts l k x = 0 := by subst hx; simp [firsts]
          rw [if_pos hx, e]; omega
        · rw [if_neg hx]; omega
      exact ih (k + 1) h7 (by omega) hv' (K6.trans (Kp.two o7 z7)) (T6.keep (o7 _ (by omega)) (o7 _ (by omega))) F7
    | zero =>
      intro k h6 hk hv K6 T6 F6
      obtain rfl : k = l.length := by omega
      have hB : Go.Fen.ps (firsts l l.length) l.length ≤ 1099511627776 := by
        have := ps_bound (fun x => (hv x).2) l.length
        omega
      have hv0 : ∀ x, 0 ≤ firsts l l.length x := fun x => (hv x).1
      have hz6 := K6.size
      refine HX _ _ ⟨fun q => absurd (of_decide_eq_true q) (by omega), fun _ => ?_⟩
      have w0 : Sg.Within l.length i j := ⟨by omega, by omega, by omega⟩
      refine Sg.sum_ok T6 (fun w => absurd w0 w) fun _ h8 S8 T8 => ?_
      have K8 := K6.trans (Kp.only (c := fc) S8)
      have z8 := S8.size
      have F8 := F6.ext (n := 0) (S8.out fb (by omega) (by omega)) (S8.out fc (by omega) (by omega))
      refine Fe.sum_ok F8 q1 (by omega) hv0 hB (Fe.sum_ok F8 q1 (by omega) hv0 hB ?_)
      have eps : Go.Fen.ps (firsts l l.length) j - Go.Fen.ps (firsts l l.length) i = ((l.drop i).take (j - i)).sum := by
        have := ps_cut l i (j - i) (by omega)
        rwa [show i + (j - i) = j by omega] at this
      refine Sub.at_ (kl h8 K8) (by omega) (by omega) fun t Ht => ?_
      have hcl : ((l.drop i).take (j - i)).length = j - i := by rw [List.length_take, List.length_drop]; omega
      refine Sc.fold_ok (by decide) (by decide) Ht (by have := E15.1; omega) (by omega) fun h11 E11 => ?_
      rw [fold_add]
      have K11 := K8.trans (Kp.fw E11)
      refine Mo.sof_ok (A := fun _ => True) (kl h11 K11) (by have := K11.size; have := E15.1; omega) hin (by omega) (fun _ _ => trivial) fun q' h12 E12' T12 => ?_
      refine Mo.smeasure_ok T12 (by omega) (fun _ _ => trivial) (fun w => absurd ⟨by omega, by omega, by omega⟩ w) fun a' b' h13 ea eb hab hb' E13 => ?_
      obtain rfl : i = a' := by omega
      obtain rfl : j = b' := by omega
      rw [List.drop_take]
      have K13 := (K11.trans (Kp.fw E12')).trans (Kp.fw E13)
      refine New.cells fun h14 E14 z14 B14 => St.whole B14 rfl rfl fun h15 B15 o15 z15 => ?_
      have E15' : Fw h13 h15 := Fw.over E14 (Nat.le_refl _) o15 z15
      have K15 := K13.trans (Kp.fw E15')
      refine Tb.least_ok (kt h15 K15) (by omega) (by omega) (by omega) fun z Lz => ?_
      have T15 := T8.keep (h' := h15) (by rw [E15'.2 _ (by have := E11.1; have := E12'.1; have := E13.1; have := K6.size; omega), E13.2 _ (by have := E11.1; have := E12'.1; have := K6.size; omega), E12'.2 _ (by have := E11.1; have := K6.size; omega), E11.2 _ (by have := K6.size; omega)]) (by rw [E15'.2 _ (by have := E11.1; have := E12'.1; have := E13.1; have := K6.size; omega), E13.2 _ (by have := E11.1; have := E12'.1; have := K6.size; omega), E12'.2 _ (by have := E11.1; have := K6.size; omega), E11.2 _ (by have := K6.size; omega)])
      refine Sg.least_ok T15 fun q e h17 D he S17 T17 => ?_
      obtain ⟨rfl, D2⟩ := D.some w0 (by omega)
      simp only [Int.toNat_natCast] at D2
      have hbz : h13.size ≠ b := by have := K13.size; omega
      have B17 := S17.blk B15 hbz
      have K17 := K15.trans (Kp.only (c := fc) S17)
      have zz := Lz.1
      have zz2 := Lz.2.1
      refine ⟨rfl, rfl, rfl, rfl, rfl, rfl, fun c => ?_, fun _ => ?_⟩
      · exfalso; simp [isNil] at c; omega
      intro J HJ
      have ev : ∀ y, y < l.length → Go.Tab.val_ l y = l[y]! := fun y hy => by simp [Go.Tab.val_]
      have g1 : w64 (Go.Seg.cut l (i : Int).toNat (j : Int).toNat).sum = w64 (Go.Fen.ps (firsts l l.length) j - Go.Fen.ps (firsts l l.length) i) := by rw [eps]; rfl
      have g2 : w64 (Go.Seg.cut l (i : Int).toNat (j : Int).toNat).sum = w64 ((l.drop i).take (j - i)).sum := rfl
      have hne : (l.drop i).take (j - i) ≠ [] := fun e => by rw [e] at hcl; simp at hcl; omega
      have hcin : ∀ x ∈ (l.drop i).take (j - i), Go.Mono.In x := fun x hx => hin x (List.mem_of_mem_drop (List.mem_of_mem_take hx))
      have mn := lst_mn _ hne hcin
      have g3 : Go.Mono.lst ((l.drop i).take (j - i)) = q.least := mn.uniq D2.least
      have hzl : z < l.length := by omega
      have g4 : l[z]! = q.least := (low_mn (by omega) (by omega) Lz (ev z hzl) ev).uniq D2.least
      refine ⟨fun _ => ?_, fun c => absurd g1 (of_decide_eq_false c)⟩
      refine ⟨fun _ => ?_, fun c => absurd g2 (of_decide_eq_false c)⟩
      refine ⟨_, B17.ld 1 rfl, fun _ => ?_, fun c => absurd g2 (of_decide_eq_false c)⟩
      refine ⟨_, B17.ld 2 rfl, fun _ => ?_, fun c => absurd g3 (of_decide_eq_false c)⟩
      refine RI.ix (kl h17 K17) (by omega) (by omega) fun p _ hp => ⟨_, hp, fun _ => ?_, fun c => absurd g4 (of_decide_eq_false c)⟩
      refine ⟨_, B17.ld 0 rfl, _, B17.ld 1 rfl, _, B17.ld 2 rfl, _, B17.ld 3 rfl, _, B17.ld 4 rfl, ?_⟩
      refine Sub.at_ (kl h17 K17) (by omega) (by omega) fun t2 Ht2 => ?_
      refine mof_ok Ht2 (by have := K17.size; have := E15.1; omega) hcin (by omega) fun h19 E19 => ?_
      have B19 := E19.blk B17
      refine ⟨B19.ld 0 rfl, B19.ld 1 rfl, B19.ld 2 rfl, B19.ld 3 rfl, B19.ld 4 rfl, fun x hx => HJ _ _ ⟨?_, kx _ (K17.trans (Kp.fw E19))⟩⟩
      rw [hx]; simp
  refine key l.length 0 h5 (by omega) (fun x => by simp [firsts]) (Kp.refl _ _ _) T5 F5
end
end Go.Proofs.Ytfiemlcoliijoaa
