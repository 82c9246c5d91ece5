/- Lists, cell by cell: to and from slices. -/
import Derived.Test.YtgieabpckecjlaaLstP
namespace Go.Proofs.Ytgieabpckecjlaa
open Go Go.RowKit Go.Tw
set_option linter.unusedVariables false

theorem own_blk {N : Nat} {h : Heap} {b : Nat} {cs : List Value} (B : Blk h b cs) (hN : N ≤ b) : Own N 1 h ⟨some (ad b 0), cs.length, cs.length⟩ cs :=
  ⟨by simp, Nat.le_refl _, .inr ⟨b, [], rfl, hN, by simpa using B, by simp⟩⟩

section
variable {r : World} {h : Heap}

theorem ints_ok {p : Option Addr} {l : List Int} {n : Int} {R : Sl → Heap → Prop} (hL : Lk h l p) (hl : l.length ≤ 17592186044416) (H : ∀ s h', Fw h h' → Own h.size 1 h' s (l.map iV) → R s h') : list_List_Ints r p n h R := by
  apply list_List_Ints_of
  refine New.cells fun h1 E1 z1 B1 => ⟨_, B1.ld 0 rfl, _, B1.ld 1 rfl, ?_⟩
  apply list_List_All_of
  refine New.cells fun h2 E2 z2 B2 => ?_
  apply slices_Collect_int_of
  apply slices_AppendSeq_int_int_of
  refine New.cells fun h3 E3 z3 B3 => ?_
  intro D o h4 hD hh4 hno HY
  have E4 : Fw h3 h4 := by subst hh4; exact (Ext.push (Nat.le_refl _)).trans (Ext.push (by simp))
  have hDe : h4[D]? = some (.deferred (some [])) := by
    subst hh4; rw [push_old (by simp [hD]), hD]; simp
  have hLo : h4[D + 1]? = some o := by
    subst hh4; rw [hD, Array.getElem?_push, if_pos (by simp)]
  clear hh4
  have E14 : Fw h h4 := ((E1.trans E2).trans E3).trans E4
  refine ⟨_, _, _, rfl, Try.call69, ?_⟩
  have hz := E3.1
  let I : List Int → Heap → Prop := fun d h' => h'[D + 1]? = some o ∧ h'[D]? = some (.deferred (some [])) ∧ Fw h h' ∧ ∃ s, Fam h.size h' [(1, ⟨some (ad h2.size 0), 1, 1⟩, [Sl.v s]), (1, s, d.map iV)]
  have main : list_List_All_1 r (.func (.yield (D + 1)) #[] #[]) (ad h1.size 0) h4 fun h7 => (h7[D + 1]? = some o) ∧ ∀ (o15 : Obj) (h5 : Heap), h5 = Tw.hput h7 (D + 1) o15 → LdS h5 (ad h2.size 0) fun x25 =>
      (h5[D]? = some (.deferred (some []))) ∧ ∀ h10 : Heap, h10 = Tw.hput h5 D (.deferred none) → R x25 h10 := by
    refine all_ok (I := I) (l := l) ((E4.blk (E3.blk B2)).ld 0 rfl) hL ⟨hLo, hDe, E14, Sl.nil, ?_⟩ (fun d h' hI => hI.2.2.1) ?_ ?_
    · have A := (Fam.none h.size h4).empty 1
      have := A.cons (own_blk (E4.blk B3) (by have := E1.1; have := E2.1; omega)) (fun x hx p q hp hq => by
        obtain rfl : x = (1, Sl.nil, []) := by simpa using hx
        cases hq)
      simpa using this
    · intro d x t h6 K hI hdl hK
      obtain ⟨i1, i2, i3, s, i4⟩ := hI
      refine HY x h6 K i1 fun h9 hh9 => ?_
      have hl2 : d.length + 1 ≤ l.length := by rw [hdl]; simp
      have A9 := i4.hput (o := busyO o) i1 hno
      have r9 : (Tw.hput h6 (D + 1) (busyO o))[D + 1]? = some (busyO o) := hput_self i1
      have d9 : (Tw.hput h6 (D + 1) (busyO o))[D]? = some (.deferred (some [])) := by rw [hput_other (by omega)]; exact i2
      have f9 : Fw h (Tw.hput h6 (D + 1) (busyO o)) := i3.hput (by have := E1.1; have := E2.1; omega)
      rw [← hh9] at A9 r9 d9 f9
      have hn := notCells_busy hno
      refine ⟨s, (A9.ownI (j := 0) rfl).cell (o := 0) rfl rfl, ?_⟩
      intro p19 h7 hp hh
      subst hp; subst hh
      have A7 := push_own (el := 3) (v := iV x) f9.1 A9
      have f7 := f9.trans (Ext.push (x := .cells #[iV x] 3) (Nat.le_refl _))
      have r7 : (h9.push (.cells #[iV x] 3))[D + 1]? = some (busyO o) := by rw [push_old (Array.getElem?_eq_some_iff.1 r9).1]; exact r9
      have d7 : (h9.push (.cells #[iV x] 3))[D]? = some (.deferred (some [])) := by rw [push_old (Array.getElem?_eq_some_iff.1 d9).1]; exact d9
      generalize h9.push (.cells #[iV x] 3) = h7 at A7 f7 r7 d7 ⊢
      refine Fam.app2 (j := 2) A7 rfl rfl rfl f7.1 (by simp; omega) ((A7.ownI (j := 0) rfl).cell (o := 0) rfl rfl) fun s22 h8 A8 E8 keep => ?_
      have f8 := Ext.trans f7 E8
      have r8 := keep _ _ r7 hn
      have d8 := keep _ _ d7 rfl
      have O3 := A8.ownI (j := 1) rfl
      refine St.one' (b := h2.size) (o := 0) O3 rfl (by simp) ?_
      have A10 := A8.setI (j := 1) (o := 0) (v := Sl.v s22) rfl rfl (by simp)
      have r10 := O3.keeps_set (k := 0) (v := Sl.v s22) rfl r8 hn
      have d10 := O3.keeps_set (k := 0) (v := Sl.v s22) rfl d8 rfl
      have f10 := f8.trans (Ext.set (n := h.size) (a := ad h2.size 0) (v := Sl.v s22) (O3.lt' rfl).2)
      refine ⟨r10, hK _ ⟨hput_self r10, by rw [hput_other (by omega)]; exact d10, f10.trans (Ext.hput (by have := E1.1; have := E2.1; omega)), s22, ?_⟩⟩
      have A13 := (A10.hput (o := o) r10 hn).tail
      rw [List.map_append]; exact A13
    · intro h7 hI
      obtain ⟨i1, i2, i3, s, i4⟩ := hI
      refine ⟨i1, fun o15 h5 hh5 => ?_⟩
      have A5 := i4.hput (o := o15) i1 hno
      have d5 : (Tw.hput h7 (D + 1) o15)[D]? = some (.deferred (some [])) := by rw [hput_other (by omega)]; exact i2
      have f5 : Fw h (Tw.hput h7 (D + 1) o15) := i3.hput (by have := E1.1; have := E2.1; omega)
      rw [← hh5] at A5 d5 f5
      refine ⟨s, (A5.ownI (j := 0) rfl).cell (o := 0) rfl rfl, d5, fun h10 hh10 => ?_⟩
      have A6 := A5.hput (o := .deferred none) d5 rfl
      have f6 : Fw h (Tw.hput h5 D (.deferred none)) := f5.hput (by have := E1.1; have := E2.1; omega)
      rw [← hh10] at A6 f6
      exact H s h10 f6 (A6.ownI (j := 1) rfl)
  exact CallsH.mono main fun v h7 hx => hx.2

/-- one ahead of the other -/
theorem backward_ok {L c m : Nat} {s : Sl} {l : List Int} {R : Heap → Prop} {I : List Int → Heap → Prop} (hl : l.length ≤ 281474976710656) (I0 : I [] h) (keep : ∀ d h', I d h' → hcell h' (ad c 0) = some (Sl.v s) ∧ RI m h' s l)
    (step : ∀ d x t (i : Int) h' K, I d h' → l = t ++ x :: d → (∀ h'', I (x :: d) h'' → K (.bool true) h'') → YieldH Try.prog r L [iV i, iV x] h' K) (fin : ∀ h', I l h' → R h') : slices_Backward_int_int_1 r (.func (.yield L) #[] #[]) (ad c 0) h R := by
  apply slices_Backward_int_int_1_of
  have k0 := keep _ _ I0
  refine ⟨s, k0.1, ?_⟩
  have hlen := k0.2.len
  intro X HX
  have key : ∀ (k : Nat) (h' : Heap), k ≤ l.length → I (l.drop k) h' → X ((k : Int) - 1) h' := by
    intro k
    induction k with
    | zero =>
      intro h' _ hI
      exact HX _ _ ⟨fun c => absurd (of_decide_eq_true c) (by omega), fun _ => fin h' hI⟩
    | succ k ih =>
      intro h' hk hI
      have kk := keep _ _ hI
      rw [show ((k + 1 : Nat) : Int) - 1 = (k : Int) by omega]
      refine HX _ _ ⟨fun _ => ⟨s, kk.1, RI.ix kk.2 (by omega) (by omega) fun q _ hq => ⟨_, hq, .inr ⟨L, rfl, ?_⟩⟩⟩, fun c => absurd (of_decide_eq_false c) (by omega)⟩
      have e1 : l[(k : Int).toNat]! = l[k]'(by omega) := by rw [Int.toNat_natCast, getElem!_pos l k (by omega)]
      rw [e1]
      have e2 : l.drop k = l[k]'(by omega) :: l.drop (k + 1) := List.drop_eq_getElem_cons (by omega)
      refine step (l.drop (k + 1)) _ (l.take k) _ h' _ hI (by rw [← e2, List.take_append_drop]) fun h'' hI' => ⟨true, rfl, fun c => (by cases c), fun _ => ?_⟩
      rw [w64_of (by omega) (by omega)]
      exact ih h'' (by omega) (by rw [e2]; exact hI')
  rw [hlen, w64_of (by omega) (by omega)]
  exact key l.length h (Nat.le_refl _) (by rw [List.drop_length]; exact I0)

theorem of_ok {s : Sl} {l : List Int} {n : Nat} {R : Option Addr → Int → Heap → Prop} (hs : RI n h s l) (hn : n ≤ h.size) (hl : l.length ≤ 281474976710656) (H : ∀ q h', Fw h h' → Lk h' l q → R q (l.length : Int) h') : list_Of r s h R := by
  apply list_Of_of
  refine New.cells fun h1 E1 z1 B1 => New.cells fun h2 E2 z2 B2 => ?_
  apply slices_Backward_int_int_of
  refine New.cells fun h3 E3 z3 B3 => ?_
  intro D o h4 hD hh4 hno HY
  have E4 : Fw h3 h4 := by subst hh4; exact (Ext.push (Nat.le_refl _)).trans (Ext.push (by simp))
  have hDe : h4[D]? = some (.deferred (some [])) := by
    subst hh4; rw [push_old (by simp [hD]), hD]; simp
  have hLo : h4[D + 1]? = some o := by
    subst hh4; rw [hD, Array.getElem?_push, if_pos (by simp)]
  clear hh4
  have E14 : Fw h h4 := ((E1.trans E2).trans E3).trans E4
  refine ⟨_, _, _, rfl, Try.call68, ?_⟩
  let I : List Int → Heap → Prop := fun d h' => h'[D + 1]? = some o ∧ h'[D]? = some (.deferred (some [])) ∧ Fw h h' ∧ (∃ v0 v1, Blk h' h.size [v0, v1] ∧ ∀ x, v0 ≠ iV x) ∧ Blk h' h2.size [Sl.v s] ∧ ∃ q, Blk h' h1.size [.pointer q, iV (d.length : Int)] ∧ Lk h' d q
  have main : slices_Backward_int_int_1 r (.func (.yield (D + 1)) #[] #[]) (ad h2.size 0) h4 fun h6 => (h6[D + 1]? = some o) ∧ ∀ (o18 : Obj) (h7 : Heap), h7 = Tw.hput h6 (D + 1) o18 → LdP h7 (Addr.add (ad h1.size 0) 0) fun x29 => LdI h7 (Addr.add (ad h1.size 0) 1) fun x31 =>
      St h7 (ad h.size 0) 2 [(.pointer x29), (.int .i64 x31)] fun h11 => (h11[D]? = some (.deferred (some []))) ∧ ∀ h12 : Heap, h12 = Tw.hput h11 D (.deferred none) → LdP h12 (Addr.add (ad h.size 0) 0) fun x37 => LdI h12 (Addr.add (ad h.size 0) 1) fun x39 => R x37 x39 h12 := by
    refine backward_ok (I := I) (l := l) (m := n) (s := s) hl ⟨hLo, hDe, E14, ⟨_, _, E4.blk (E3.blk (E2.blk B1)), fun x => by simp⟩, E4.blk B3, none, E4.blk (E3.blk B2), rfl⟩ (fun d h' hI => ?_) ?_ ?_
    · refine ⟨?_, hs.ext hI.2.2.1 hn⟩
      have := hI.2.2.2.2.1.ld 0 (v := Sl.v s) rfl
      rwa [ad_add] at this
    · intro d x t i h6 K hI hdl hK
      obtain ⟨i1, i2, i3, ⟨v0, v1, i4, i6⟩, i8, q, i5, i7⟩ := hI
      refine HY i x h6 K i1 fun h9 hh9 => ?_
      have hl2 : d.length + 1 ≤ l.length := by rw [hdl]; simp
      have hD1 := E3.1
      have b9 := i5.hput (o' := busyO o) i1 hno
      have c9 := i4.hput (o' := busyO o) i1 hno
      have s9 := i8.hput (o' := busyO o) i1 hno
      have l9 := i7.hput (o' := busyO o) i1 hno
      have r9 : (Tw.hput h6 (D + 1) (busyO o))[D + 1]? = some (busyO o) := hput_self i1
      have d9 : (Tw.hput h6 (D + 1) (busyO o))[D]? = some (.deferred (some [])) := by rw [hput_other (by omega)]; exact i2
      have f9 : Fw h (Tw.hput h6 (D + 1) (busyO o)) := i3.hput (by have := E14.1; omega)
      rw [← hh9] at b9 c9 s9 l9 r9 d9 f9
      refine ⟨_, b9.ld 0 rfl, _, b9.ld 1 rfl, ?_⟩
      refine push_ok l9 (by omega) fun q' h10 f10 l10 => ?_
      have b10 := f10.blk b9
      refine St.whole b10 rfl rfl fun h11 b11 o11 z11 => ?_
      have hn := notCells_busy hno
      have r11 := other_at o11 (f10.at_ r9) (fun e => b10.not (f10.at_ r9) hn e.symm)
      have d11 := other_at o11 (f10.at_ d9) (fun e => b10.not (f10.at_ d9) rfl e.symm)
      refine ⟨r11, hK _ ⟨hput_self r11, by rw [hput_other (by omega)]; exact d11, ((f9.trans f10).over (by omega) o11 z11).hput (by have := E14.1; omega), ⟨v0, v1, ((f10.blk c9).other o11 (by omega)).hput r11 hn, i6⟩, ((f10.blk s9).other o11 (by omega)).hput r11 hn, q', ?_, ?_⟩⟩
      · exact b11.hput (o' := o) r11 hn
      · exact (l10.over b10 (fun x q e => by simp at e) o11).hput (o' := o) r11 hn
    · intro h7 hI
      obtain ⟨i1, i2, i3, ⟨v0, v1, i4, i6⟩, i8, q, i5, i7⟩ := hI
      refine ⟨i1, fun o26 h8 hh8 => ?_⟩
      have b8 := i5.hput (o' := o26) i1 hno
      have c8 := i4.hput (o' := o26) i1 hno
      have l8 := i7.hput (o' := o26) i1 hno
      have d8 : (Tw.hput h7 (D + 1) o26)[D]? = some (.deferred (some [])) := by rw [hput_other (by omega)]; exact i2
      have f8 : Fw h (Tw.hput h7 (D + 1) o26) := i3.hput (by have := E14.1; have := E3.1; omega)
      rw [← hh8] at b8 c8 l8 d8 f8
      refine ⟨_, b8.ld 0 rfl, _, b8.ld 1 rfl, ?_⟩
      refine St.whole c8 rfl rfl fun h12 b12 o12 z12 => ?_
      have d12 := other_at o12 d8 (fun e => c8.not d8 rfl e.symm)
      refine ⟨d12, fun h13 hh13 => ?_⟩
      have b13 := b12.hput (o' := .deferred none) d12 rfl
      have l13 := (l8.over c8 (fun x q e => by simp at e; exact i6 x e.1) o12).hput (o' := .deferred none) d12 rfl
      have f13 : Fw h (Tw.hput h12 D (.deferred none)) := (f8.over (by omega) o12 z12).hput (by have := E3.1; omega)
      rw [← hh13] at b13 l13 f13
      exact ⟨_, b13.ld 0 rfl, _, b13.ld 1 rfl, H q h13 f13 l13⟩
  exact CallsH.mono main fun v h7 hx => hx.2

theorem grow_ok {n : Nat} {R : Sl → Heap → Prop} (hn : n ≤ 17592186044416) (H : ∀ s h', Fw h h' → Own h.size 1 h' s [] → R s h') : slices_Grow_int_int r Sl.nil (n : Int) h R := by
  apply slices_Grow_int_int_of
  intro J HJ
  refine ⟨fun c => absurd (of_decide_eq_true c) (by omega), fun _ => HJ _ fun x5 hx5 => ?_⟩
  have e5 : x5 = (n : Int) := by
    rw [hx5, show w64 ((Sl.nil.cap : Int) - (Sl.nil.len : Int)) = 0 by rw [w64_of] <;> decide, w64_of] <;> omega
  subst e5
  intro J8 HJ8
  refine ⟨fun c => ?_, fun c => HJ8 _ _ (H _ _ (Fw.refl _) (Own.nil _ _ _))⟩
  have c := of_decide_eq_true c
  refine ⟨by decide, by decide, by decide, by decide, fun t ht => ?_⟩
  have et : t = Sl.nil := by rw [ht]; rfl
  subst et
  refine ⟨by omega, by omega, by omega, by show 0 < 0 + _; omega, by show (0 + (n : Int).toNat) * 8 ≤ _; omega, [], rfl, .inl rfl, fun cap hcap _ => ?_⟩
  have hcap : n ≤ cap := by have : 0 + (n : Int).toNat ≤ cap := hcap; omega
  refine ⟨by decide, by simp [Sl.nil], by simp [Sl.nil], by simp, fun t ht => ?_⟩
  have ez : ∀ m, (Builtin.zeroCells (Value.int .i64 0).cells m).size = m := fun m => by
    have : (Value.int .i64 0).cells = #[.int .i64 0] := rfl
    simp [Builtin.zeroCells, this]
  refine HJ8 _ _ (H _ _ (Ext.push (Nat.le_refl _)) ?_)
  have et : t = ⟨some (ad h.size 0), 0, cap⟩ := by
    rw [ht]
    simp only [sliceA, Sl.nil, Int.toNat_natCast]
    split <;> rfl
  rw [et]
  refine ⟨rfl, by simp, .inr ⟨h.size, ((#[] ++ Builtin.zeroCells (Value.int .i64 0).cells (n : Int).toNat) ++ Builtin.zeroCells (Value.int .i64 0).cells (cap - (0 + (n : Int).toNat))).toList, rfl, Nat.le_refl _, ?_, ?_⟩⟩
  · have := Blk.new (h := h) (cs := ((#[] ++ Builtin.zeroCells (Value.int .i64 0).cells (n : Int).toNat) ++ Builtin.zeroCells (Value.int .i64 0).cells (cap - (0 + (n : Int).toNat))).toList) (el := 3)
    rw [Array.toArray_toList] at this
    exact this
  · simp [ez]
    omega

theorem concat_ok {b : Nat} {s t : Sl} {u v : List Int} {n : Nat} {R : Sl → Heap → Prop} (B : Blk h b [Sl.v s, Sl.v t]) (hs : RI n h s u) (ht : RI n h t v) (hn : n ≤ h.size) (hz : u.length + v.length ≤ 17592186044416)
    (H : ∀ s' h', Fw h h' → Own h.size 1 h' s' ((u ++ v).map iV) → R s' h') : slices_Concat_int_int r ⟨some (ad b 0), 2, 2⟩ h R := by
  apply slices_Concat_int_int_of
  have ls := hs.len
  have lt := ht.len
  intro X HX
  have g0 : hcell h (ad b 0) = some (Sl.v s) := by have := B.ld 0 (v := Sl.v s) rfl; rwa [ad_add] at this
  have g1 : hcell h (ad b 1) = some (Sl.v t) := by have := B.ld 1 (v := Sl.v t) rfl; rwa [ad_add] at this
  have ix : ∀ {h' : Heap} {K : Addr → Prop} (i : Nat), i < 2 → K (ad b i) → Ix ⟨some (ad b 0), 2, 2⟩ (i : Int) 1 K := fun i hi hK => Ix.mk rfl (by omega) (by simp; omega) (by simpa using hK)
  refine HX _ _ _ ⟨fun _ => ?_, fun c => absurd (of_decide_eq_false c) (by simp)⟩
  intro J HJ
  refine ix (h' := h) 0 (by omega) ⟨s, g0, fun c => absurd (of_decide_eq_true c) (by rw [w64_of] <;> omega), fun _ => HJ _ _ ?_⟩
  rw [show w64 (0 + (s.len : Int)) = (u.length : Int) by rw [w64_of] <;> omega, show w64 (0 + 1) = 1 by rw [w64_of] <;> omega]
  refine HX _ _ _ ⟨fun _ => ?_, fun c => absurd (of_decide_eq_false c) (by simp)⟩
  intro J HJ
  refine ix (h' := h) 1 (by omega) ⟨t, g1, fun c => absurd (of_decide_eq_true c) (by rw [w64_of] <;> omega), fun _ => HJ _ _ ?_⟩
  rw [show w64 ((u.length : Int) + (t.len : Int)) = ((u.length + v.length : Nat) : Int) by rw [w64_of] <;> omega, show w64 (1 + 1) = 2 by rw [w64_of] <;> omega]
  refine HX _ _ _ ⟨fun c => absurd (of_decide_eq_true c) (by simp), fun _ => ?_⟩
  refine grow_ok hz fun g h1 E1 O1 => ?_
  intro X2 HX2
  have q0 : hcell h1 (ad b 0) = some (Sl.v s) := by have := (E1.blk B).ld 0 (v := Sl.v s) rfl; rwa [ad_add] at this
  refine HX2 _ _ _ ⟨fun _ => ix (h' := h1) 0 (by omega) ⟨s, q0, ?_⟩, fun c => absurd (of_decide_eq_false c) (by simp)⟩
  have gl : g.len = 0 := by simpa using O1.len
  refine App.own O1 (hs.ext E1 hn) rfl (by intro v hv; obtain ⟨x, _, rfl⟩ := List.mem_map.1 hv; rfl) E1.1 (by omega) fun s2 h2 G2 => ?_
  have O2 := G2.own
  have E2 : Fw h h2 := E1.trans' G2.ext
  have l2 : s2.len = u.length := by have := O2.len; simp at this; omega
  rw [show w64 (0 + 1) = 1 by rw [w64_of] <;> omega]
  have q1 : hcell h2 (ad b 1) = some (Sl.v t) := by have := (E2.blk B).ld 1 (v := Sl.v t) rfl; rwa [ad_add] at this
  refine HX2 _ _ _ ⟨fun _ => ix (h' := h2) 1 (by omega) ⟨t, q1, ?_⟩, fun c => absurd (of_decide_eq_false c) (by simp)⟩
  refine App.own O2 (ht.ext E2 hn) rfl (by intro v hv; obtain ⟨x, _, rfl⟩ := List.mem_map.1 hv; rfl) E2.1 (by omega) fun s3 h3 G3 => ?_
  rw [show w64 (1 + 1) = 2 by rw [w64_of] <;> omega]
  refine HX2 _ _ _ ⟨fun c => absurd (of_decide_eq_true c) (by simp), fun _ => H _ _ (E2.trans' G3.ext) ?_⟩
  have := G3.own
  simpa using this
end
end Go.Proofs.Ytgieabpckecjlaa
