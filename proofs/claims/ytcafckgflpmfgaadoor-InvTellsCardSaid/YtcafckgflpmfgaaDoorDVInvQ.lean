/- How much is out of order: what the functions do: codes, orders, ranks. -/
import Derived.Test.YtcafckgflpmfgaaDoorDVInvP
namespace Go.Proofs.YtcafckgflpmfgaaDoor.Vi
open Go Go.RowKit Go.Tw Go.Many Go.Ord Go.Inv
open Go.Proofs.YtcafckgflpmfgaaDoor.Or (Tr obetween_ok oinsert_ok)
set_option linter.unusedVariables false
section
variable {r : World} {h : Heap}
/-- a block of one's own was written -/
theorem Fam.wrote {N j b : Nat} {h h' : Heap} {F : List (Nat × Sl × List Value)} {s : Sl} {vs vs' tl' : List Value} {k : Nat} (A : Fam N h F) (hj : F[j]? = some (1, s, vs)) (hs : s.a = some (ad b 0)) (B : Blk h' b (vs' ++ tl')) (ho : ∀ d, d ≠ b → h'[d]? = h[d]?)
    (hk : k = vs'.length) (hc : s.cap = (vs' ++ tl').length) : Fam N h' (F.set j (1, ⟨s.a, k, s.cap⟩, vs')) := by
  obtain ⟨e1, e2⟩ := split_at hj
  rw [e2]
  rw [e1] at A
  have A := A.perm List.perm_middle
  have D := List.pairwise_cons.1 A.dis
  have O := A.head
  have hb := (O.lt hs).2
  refine Fam.perm (Fam.cons (sz := 1) (s := ⟨s.a, k, s.cap⟩) (vs := vs') ⟨fun x hx => (A.tail.own x hx).keep fun p hp => ho _ (fun e => D.1 x hx (ad b 0) p hs hp e.symm), D.2⟩ ⟨by show k * 1 = _; omega, by show k ≤ s.cap; rw [hc, List.length_append]; omega, .inr ⟨b, tl', hs, hb, B, by rw [Nat.mul_one]; exact hc⟩⟩ fun x hx => D.1 x hx) List.perm_middle.symm
theorem delete_ok {N j i : Nat} {F : List (Nat × Sl × List Value)} {s : Sl} {l : List Int} {R : Sl → Heap → Prop} (A : Fam N h F) (hj : F[j]? = some (1, s, l.map iV)) (hi : i < l.length) (hz : l.length ≤ 17592186044416)
    (H : ∀ s' h', Fam N h' (F.set j (1, s', (l.eraseIdx i).map iV)) → Ext N h h' → R s' h') : slices_Delete_int_int r s (i : Int) (w64 ((i : Int) + 1)) h R := by
  apply slices_Delete_int_int_of
  have O := A.ownI hj
  have S : RI h.size h s l := O.rs
  have sl := S.len
  have sc := S.cap
  rw [w64_of (by omega) (by omega)]
  have e1 : (i : Int) + 1 = ((i + 1 : Nat) : Int) := by omega
  rw [e1]
  refine ⟨by omega, by omega, by omega, by omega, fun t0 ht0 => ⟨fun c => absurd (of_decide_eq_true c) (show ¬ (i : Int) = ((i + 1 : Nat) : Int) by omega), fun _ => ?_⟩⟩
  obtain ⟨b, hb⟩ := O.ex (by intro e; have := congrArg List.length e; rw [List.length_map, List.length_nil] at this; omega)
  obtain ⟨tl, B⟩ := O.blk hb
  have hcap : s.cap = (l.map iV ++ tl).length := by
    rcases O.at_ with ⟨e, _⟩ | ⟨b', tl', e, _, B', hc'⟩
    · rw [e] at hb; cases hb
    · rw [e] at hb; cases hb
      have := B.eq B'
      rw [this, ← hc', Nat.mul_one]
  refine ⟨by omega, by omega, by omega, by omega, fun t1 ht1 => ?_⟩
  have et1 : t1 = ⟨some (ad b 0), i, s.cap⟩ := by
    rw [ht1]
    simp only [Int.toNat_natCast, Int.toNat_zero, Nat.sub_zero]
    congr 1
    unfold sliceA
    rw [if_neg (by omega), hb]
    show some (Addr.add (ad b 0) (0 * 1)) = _
    rw [ad_add]
  subst et1
  have e2 : (s.len : Int) = ((l.length : Nat) : Int) := by omega
  rw [e2]
  refine Sub.in_ (lo := i + 1) (hi := l.length) S (by omega) (by omega) fun t2 T2 => ?_
  rw [List.take_of_length_le (by rw [List.length_drop]; omega)] at T2
  have l2 := T2.len
  rw [List.length_drop] at l2
  -- in place
  have hlen : (l.map iV ++ tl).length = l.length + tl.length := by simp
  refine ⟨(l.drop (i + 1)).map iV, by simp; omega, T2.holds, one_ints _, .inl ⟨by show i + t2.len ≤ s.cap; omega, ?_⟩⟩
  show StOk h (Addr.add (ad b 0) (i * 1)) (t2.len * 1) ∧ _
  rw [ad_add, Nat.zero_add, Nat.mul_one, Nat.mul_one]
  refine ⟨B.stok (by omega), ?_⟩
  have B1 := Blk.sets (o := i) ((l.drop (i + 1)).map iV) h 0 _ B (by simp; omega)
  have o1 : ∀ d, d ≠ b → (hsets h (ad b i) 0 ((l.drop (i + 1)).map iV))[d]? = h[d]? := fun d hd => hsets_other _ _ _ _ (fun e => hd e.symm)
  have z1 : (hsets h (ad b i) 0 ((l.drop (i + 1)).map iV)).size = h.size := hsets_size _ _ _ _
  generalize hsets h (ad b i) 0 ((l.drop (i + 1)).map iV) = h1 at B1 o1 z1
  have em : (l.eraseIdx i).length = l.length - 1 := by rw [List.length_eraseIdx, if_pos hi]
  obtain ⟨w, hw⟩ : ∃ w, splice (l.map iV ++ tl) (i + 0) ((l.drop (i + 1)).map iV) = (l.eraseIdx i).map iV ++ w :: tl := by
    unfold splice
    rw [Nat.add_zero, List.take_append_of_le_length (by simp; omega), List.length_map, List.length_drop, List.drop_append_of_le_length (by simp; omega), List.eraseIdx_eq_take_drop_succ]
    have : (l.map iV).drop (i + (l.length - (i + 1))) = [iV l[l.length - 1]] := by
      rw [show i + (l.length - (i + 1)) = l.length - 1 by omega, ← List.map_drop, List.drop_eq_getElem_cons (by omega), List.drop_of_length_le (by omega)]; rfl
    rw [this]
    exact ⟨iV l[l.length - 1], by simp⟩
  rw [hw] at B1
  -- the last place
  have ez : (i + t2.len : Int) = ((l.length - 1 : Nat) : Int) := by omega
  show Tw.Sub ⟨some (ad b 0), i + t2.len, s.cap⟩ ((i + t2.len : Nat) : Int) ((l.length : Nat) : Int) ((s.cap : Nat) : Int) 1 _
  rw [show i + t2.len = l.length - 1 by omega]
  refine ⟨by omega, by omega, by omega, by show ((s.cap : Nat) : Int) ≤ ((s.cap : Nat) : Int); omega, fun t3 ht3 => ?_⟩
  have et3 : t3 = ⟨some (ad b (l.length - 1)), 1, s.cap - (l.length - 1)⟩ := by
    rw [ht3]
    simp only [Int.toNat_natCast]
    have : l.length - (l.length - 1) = 1 := by omega
    rw [this]
    congr 1
    unfold sliceA
    rw [if_neg (by omega)]
    show some (Addr.add (ad b 0) ((l.length - 1) * 1)) = _
    rw [ad_add, Nat.zero_add, Nat.mul_one]
  subst et3
  have ezc : (Builtin.zeroCells (Value.int .i64 0).cells 1).toList = [iV 0] := by
    simp [Builtin.zeroCells, Value.cells]
  refine .inr ⟨Nat.zero_lt_one, _, rfl, ?_, ?_, fun h2 hh2 => ?_⟩
  · show ∀ v ∈ (Builtin.zeroCells (Value.int .i64 0).cells 1).toList, one v = true
    rw [ezc]; simp [one]
  · show StOk h1 (ad b (l.length - 1)) (Builtin.zeroCells (Value.int .i64 0).cells 1).toList.length
    rw [ezc]
    exact B1.stok (by simp; omega)
  · have hh2 : h2 = hsets h1 (ad b (l.length - 1)) 0 (Builtin.zeroCells (Value.int .i64 0).cells 1).toList := hh2
    rw [ezc] at hh2
    have B2 := Blk.sets (o := l.length - 1) [iV 0] h1 0 _ B1 (by simp; omega)
    have o2 : ∀ d, d ≠ b → (hsets h1 (ad b (l.length - 1)) 0 [iV 0])[d]? = h1[d]? := fun d hd => hsets_other _ _ _ _ (fun e => hd e.symm)
    rw [← hh2] at B2 o2
    have e3 : splice ((l.eraseIdx i).map iV ++ w :: tl) (l.length - 1 + 0) [iV 0] = (l.eraseIdx i).map iV ++ iV 0 :: tl := by
      unfold splice
      rw [Nat.add_zero, List.take_left' (by simp; omega), List.drop_append, List.drop_of_length_le (by simp; omega)]
      simp; rw [show l.length - 1 + 1 - (l.eraseIdx i).length = 1 by omega]; rfl
    rw [e3] at B2
    have hN := (O.lt hb).2
    have z2 : h2.size = h1.size := by rw [hh2]; exact hsets_size _ _ _ _
    have := Fam.wrote (k := l.length - 1) A hj hb B2 (fun d hd => (o2 d hd).trans (o1 d hd)) (by simp; omega) (by rw [hcap]; simp; omega)
    rw [hb] at this
    exact H _ h2 this ⟨by omega, fun c hc => (o2 c (by have : N ≤ b := hN; omega)).trans (o1 c (by have : N ≤ b := hN; omega))⟩
/-- those that stand so far from a beginning on -/
theorem order_ok {s : Sl} {c : List Int} {n : Nat} {R : Sl → Value → Heap → Prop} (S : RI n h s c) (hn : n ≤ h.size) (H0 : 20 < c.length → R Sl.nil (errV 4) h) (H1 : c.length ≤ 20 → ¬ Val c → ∀ h', Fw h h' → R Sl.nil (errV 3) h')
    (H2 : c.length ≤ 20 → Val c → ∀ s' h', Fw h h' → Own h.size 1 h' s' ((unc (rangeI c.length) c).map iV) → R s' .nilIface h') : inv_Order r s h R := by
  apply inv_Order_of
  have sl := S.len
  refine ⟨fun q => H0 (by have := of_decide_eq_true q; omega), fun q => ?_⟩
  have h20 : c.length ≤ 20 := by have := of_decide_eq_false q; omega
  intro X HX
  have key1 : ∀ (d i : Nat) (so : Sl) (h1 : Heap), i + d = c.length → Fw h h1 → Own h.size 1 h1 so ((rangeI i).map iV) → X so (i : Int) h1 := by
    intro d
    induction d with
    | succ d ih =>
      intro i so h1 hi E1 O
      refine HX _ _ _ ⟨fun _ => ?_, fun q => absurd (of_decide_eq_false q) (by omega)⟩
      have lo := O.len
      rw [List.length_map, rangeI_len] at lo
      refine App.push (cs := [iV (i : Int)]) O rfl rfl (by simp [one]) E1.1 (by omega) fun s2 h2 G => ?_
      rw [w64_of (by omega) (by omega)]
      refine ih (i + 1) s2 h2 (by omega) (E1.trans' G.ext) ?_
      have e : rangeI (i + 1) = rangeI i ++ [(i : Int)] := by simp [rangeI, List.range_succ]
      rw [e, List.map_append]; exact G.own
    | zero =>
      intro i so h1 hi E1 O
      obtain rfl : i = c.length := by omega
      refine HX _ _ _ ⟨fun q => absurd (of_decide_eq_true q) (by omega), fun _ => ?_⟩
      intro Y HY
      have key2 : ∀ (d i : Nat) (L done : List Int) (sl so : Sl) (h2 : Heap), i + d = c.length → L.length = d → done.length = i → Fw h h2 → Fam h.size h2 [(1, sl, L.map iV), (1, so, done.map iV)] → (∀ e ∈ c.take i, True) → (Val (c.drop i) ↔ Val c) → (Val c → done ++ unc L (c.drop i) = unc (rangeI c.length) c) → Y sl so (i : Int) h2 := by
        intro d
        induction d with
        | zero =>
          intro i L done sl so h2 hi hL hd E2 F _ hv he
          refine HY _ _ _ _ ⟨fun q => absurd (of_decide_eq_true q) (by omega), fun _ => ?_⟩
          have v : Val c := hv.1 (by rw [List.drop_of_length_le (by omega)]; trivial)
          refine H2 h20 v so h2 E2 ?_
          have := he v
          rw [List.drop_of_length_le (by omega)] at this
          rw [← this]
          simpa [unc] using F.ownI (j := 1) rfl
        | succ d ih =>
          intro i L done sl so h2 hi hL hd E2 F _ hv he
          have hil : i < c.length := by omega
          have ex : c[(i : Int).toNat]! = c[i] := by rw [Int.toNat_natCast, getElem!_pos c i hil]
          have ed : c.drop i = c[i] :: c.drop (i + 1) := List.drop_eq_getElem_cons hil
          have el : (c.drop (i + 1)).length = d := by rw [List.length_drop]; omega
          refine HY _ _ _ _ ⟨fun _ => RI.ix (S.ext E2 hn) (by omega) (by omega) fun p _ hp => ⟨_, hp, ?_⟩, fun q => absurd (of_decide_eq_false q) (by omega)⟩
          rw [ex]
          have ew : w64 ((s.len : Int) - (i : Int)) = ((d + 1 : Nat) : Int) := by rw [w64_of (by omega) (by omega)]; omega
          dsimp only
          rw [ew]
          refine ⟨fun q => ?_, fun q => ?_⟩
          · refine H1 h20 (fun v => ?_) h2 E2
            have := hv.2 v
            rw [ed] at this
            obtain ⟨a, b, _⟩ := this
            rw [el] at b
            simp only [Bool.or_eq_true, decide_eq_true_eq] at q
            omega
          · simp only [Bool.or_eq_false_iff, decide_eq_false_iff_not] at q
            obtain ⟨k, hk⟩ : ∃ k : Nat, c[i] = (k : Int) := ⟨c[i].toNat, by omega⟩
            rw [hk]
            have hkl : k < L.length := by omega
            refine own_int (F.ownI (j := 0) rfl) hkl fun b hb hc0 => ⟨_, hc0, ?_⟩
            refine Fam.push F (j := 1) rfl rfl (by rfl) E2.1 (by simp; omega) fun s6 h6 F6 E6 => ?_
            refine delete_ok (j := 0) (l := L) F6 rfl hkl (by omega) fun s7 h7 F7 E7 => ?_
            rw [w64_of (n := (i : Int) + 1) (by omega) (by omega)]
            have hL0 : L[k]! = L[k] := getElem!_pos L k hkl
            refine ih (i + 1) (L.eraseIdx k) (done ++ [L[k]!]) s7 s6 h7 (by omega) (by rw [List.length_eraseIdx, if_pos hkl]; omega) (by simp; omega) ((E2.trans' E6).trans' E7) (by simpa using F7) (fun _ _ => trivial) ?_ fun v => ?_
            · rw [← hv, ed]
              constructor
              · intro v; exact ⟨by omega, by rw [el]; omega, v⟩
              · intro v; exact v.2.2
            · rw [← he v, ed, hk]
              simp [unc]
      exact key2 c.length 0 (rangeI c.length) [] so Sl.nil h1 (by omega) (rangeI_len _) rfl E1 (((Fam.none _ _).empty 1).cons O fun x hx => by simp at hx; subst hx; exact (Dis.nil _).symm) (fun _ _ => trivial) (by simp) (fun _ => by simp)
  exact key1 c.length 0 Sl.nil h (by omega) (Fw.refl h) (Own.nil _ _ _)
end
end Go.Proofs.YtcafckgflpmfgaaDoor.Vi
