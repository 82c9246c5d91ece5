/- How much is out of order: what the functions do: Lehmer's codes, ranks, signs. -/
import Derived.Test.YtcafckgflpmfgaaDoorDVInvQ
import Derived.Test.YtcafckgflpmfgaaDoorManA
namespace Go.Proofs.YtcafckgflpmfgaaDoor.Vi
open Go Go.RowKit Go.Tw Go.Many Go.Ord Go.Inv
open Go.Proofs.YtcafckgflpmfgaaDoor.Or (Tr obetween_ok oinsert_ok)
set_option linter.unusedVariables false
section
variable {r : World} {h : Heap}
/-- one ahead of the other -/
theorem backward_ok {L c m : Nat} {s : Sl} {l : List Int} {R : Heap → Prop} {I : List Int → Heap → Prop} (hl : l.length ≤ 281474976710656) (I0 : I [] h) (keep : ∀ d h', I d h' → hcell h' (ad c 0) = some (Sl.v s) ∧ RI m h' s l)
    (step : ∀ d x t (i : Int) h' K, I d h' → l = t ++ x :: d → (∀ h'', I (x :: d) h'' → K (.bool true) h'') → YieldH Tryd.prog r L [iV i, iV x] h' K) (fin : ∀ h', I l h' → R h') : slices_Backward_int_int_1 r (.func (.yield L) #[] #[]) (ad c 0) h R := by
  apply slices_Backward_int_int_1_of
  have k0 := keep _ _ I0
  refine ⟨s, k0.1, ?_⟩
  have hlen := k0.2.len
  intro X HX
  have key : ∀ (k : Nat) (h' : Heap), k ≤ l.length → I (l.drop k) h' → X ((k : Int) - 1) h' := by
    intro k
    induction k with
    | zero =>
      intro h' _ hI
      exact HX _ _ ⟨fun c => absurd (of_decide_eq_true c) (by omega), fun _ => fin h' hI⟩
    | succ k ih =>
      intro h' hk hI
      have kk := keep _ _ hI
      rw [show ((k + 1 : Nat) : Int) - 1 = (k : Int) by omega]
      refine HX _ _ ⟨fun _ => ⟨s, kk.1, RI.ix kk.2 (by omega) (by omega) fun q _ hq => ⟨_, hq, .inr ⟨L, rfl, ?_⟩⟩⟩, fun c => absurd (of_decide_eq_false c) (by omega)⟩
      have e1 : l[(k : Int).toNat]! = l[k]'(by omega) := by rw [Int.toNat_natCast, getElem!_pos l k (by omega)]
      rw [e1]
      have e2 : l.drop k = l[k]'(by omega) :: l.drop (k + 1) := List.drop_eq_getElem_cons (by omega)
      refine step (l.drop (k + 1)) _ (l.take k) _ h' _ hI (by rw [← e2, List.take_append_drop]) fun h'' hI' => ⟨true, rfl, fun c => (by cases c), fun _ => ?_⟩
      rw [w64_of (by omega) (by omega)]
      exact ih h'' (by omega) (by rw [e2]; exact hI')
  rw [hlen, w64_of (by omega) (by omega)]
  exact key l.length h (Nat.le_refl _) (by rw [List.drop_length]; exact I0)
theorem AnyV {h : Heap} : ∀ b, h.size ≤ b → (fun _ : Nat => True) b := fun _ _ => trivial
/-- those from nothing on to x, of what is behind -/
theorem btw_less {u d : List Int} {x : Int} (hp : u.Perm d) (hd : ∀ y ∈ d, 0 ≤ y ∧ y ≠ x) : (btw 0 x u).length = lessN x d := by
  unfold btw lessN
  have e : (u.filter fun y => decide (0 ≤ y) && decide (y ≤ x)).length = (d.filter fun y => decide (0 ≤ y) && decide (y ≤ x)).length := (hp.filter _).length_eq
  rw [e]
  congr 1
  apply List.filter_congr
  intro y hy
  obtain ⟨h1, h2⟩ := hd y hy
  apply Bool.eq_iff_iff.2
  simp; omega
theorem lehmer_ok {s : Sl} {l : List Int} {n : Nat} {R : Sl → Value → Heap → Prop} (S : RI n h s l) (hn : n ≤ h.size) (H0 : 20 < l.length → R Sl.nil (errV 4) h) (H1 : l.length ≤ 20 → ¬ IsP l → R Sl.nil (errV 3) h)
    (H2 : l.length ≤ 20 → IsP l → ∀ s' h', Fw h h' → Own h.size 1 h' s' ((leh l).map iV) → R s' .nilIface h') : inv_Lehmer r s h R := by
  apply inv_Lehmer_of
  refine check_ok S hn (fun q => ⟨rfl, fun _ => H0 q, fun c => by cases c⟩) (fun q q2 => ⟨rfl, fun _ => H1 q q2, fun c => by cases c⟩) fun h20 P => ⟨rfl, fun c => (by cases c), fun _ => ?_⟩
  refine New.cells fun h1 E1 z1 B1 => New.cells fun h2 E2 z2 B2 => ?_
  apply slices_Backward_int_int_of
  refine New.cells fun h3 E3 z3 B3 => ?_
  intro D o h4 hD hh4 hno HY
  have E4 : Fw h3 h4 := by subst hh4; exact (Ext.push (Nat.le_refl _)).trans (Ext.push (by simp))
  have z4 : h4.size = h3.size + 2 := by subst hh4; simp
  have hDe : h4[D]? = some (.deferred (some [])) := by
    subst hh4; rw [push_old (by simp [hD]), hD]; simp
  have hLo : h4[D + 1]? = some o := by
    subst hh4; rw [hD, Array.getElem?_push, if_pos (by simp)]
  clear hh4
  have E14 : Fw h h4 := ((E1.trans E2).trans E3).trans E4
  refine ⟨_, _, _, rfl, Tryd.call123, ?_⟩
  let I : List Int → Heap → Prop := fun d h' => h'[D + 1]? = some o ∧ h'[D]? = some (.deferred (some [])) ∧ Fw h h' ∧ h4.size ≤ h'.size ∧ Blk h' h2.size [Sl.v s] ∧ ∃ q u out, Blk h' h.size [.pointer q] ∧ Blk h' h1.size [Sl.v out] ∧ Own h4.size 1 h' out ((leh d).reverse.map iV) ∧ Tr (Ap (Bs (fun _ => True) h1.size) h.size out) h' q u ∧ Up u ∧ u.Perm d
  have main : slices_Backward_int_int_1 r (.func (.yield (D + 1)) #[] #[]) (ad h2.size 0) h4 fun h7 => (h7[D + 1]? = some o) ∧ ∀ (o20 : Obj) (h8 : Heap), h8 = Tw.hput h7 (D + 1) o20 →
      LdS h8 (ad h1.size 0) fun x41 => slices_Reverse_int_int r x41 h8 fun h16 => LdS h16 (ad h1.size 0) fun x43 => (h16[D]? = some (.deferred (some []))) ∧ ∀ h17 : Heap, h17 = Tw.hput h16 D (.deferred none) → R x43 .nilIface h17 := by
    refine backward_ok (I := I) (l := l) (m := n) (s := s) (by omega) ⟨hLo, hDe, E14, Nat.le_refl _, E4.blk B3, none, [], Sl.nil, E4.blk (E3.blk (E2.blk B1)), E4.blk (E3.blk B2), Own.nil _ _ _, Or.Tr.nil _ _, List.Pairwise.nil, List.Perm.refl _⟩ (fun d h' hI => ?_) ?_ ?_
    · exact ⟨hI.2.2.2.2.1.cell' rfl, S.ext hI.2.2.1 hn⟩
    · intro d x t i h6 K hI hdl hK
      obtain ⟨i1, i2, i3, iz, i8, q, u, out, i5, i6, i7, i9, iu, ip⟩ := hI
      refine HY i x h6 K i1 fun h9 hh9 => ?_
      have hl2 : d.length + 1 ≤ l.length := by rw [hdl]; simp
      have hul := ip.length_eq
      have hdp : ∀ y ∈ d, 0 ≤ y ∧ y ≠ x := by
        intro y hy
        have hm : y ∈ l := by rw [hdl]; simp [hy]
        refine ⟨(P.rng y hm).1, fun e => ?_⟩
        have nd := P.nd
        rw [hdl] at nd
        have := (List.nodup_cons.1 (List.nodup_append.1 nd).2.1).1
        exact this (e ▸ hy)
      have b9 := i5.hput (o' := busyO o) i1 hno
      have c9 := i6.hput (o' := busyO o) i1 hno
      have s9 := i8.hput (o' := busyO o) i1 hno
      have o9 : Own h4.size 1 (Tw.hput h6 (D + 1) (busyO o)) out ((leh d).reverse.map iV) := i7.keep fun p hp => hput_other (fun e => by have := (i7.lt hp).2; omega)
      have t9 : Tr (Ap (Bs (fun _ => True) h1.size) h.size out) (Tw.hput h6 (D + 1) (busyO o)) q u := i9.to (To.hput i1 hno)
      have r9 : (Tw.hput h6 (D + 1) (busyO o))[D + 1]? = some (busyO o) := hput_self i1
      have d9 : (Tw.hput h6 (D + 1) (busyO o))[D]? = some (.deferred (some [])) := by rw [hput_other (by omega)]; exact i2
      have f9 : Fw h (Tw.hput h6 (D + 1) (busyO o)) := i3.hput (by have := E14.1; omega)
      have z9 : (Tw.hput h6 (D + 1) (busyO o)).size = h6.size := hput_size _ _ _
      rw [← hh9] at b9 c9 s9 o9 t9 r9 d9 f9 z9
      have hA9 : ∀ b, h9.size ≤ b → Bs (fun _ => True) h1.size b := fun b hb => ⟨trivial, by omega⟩
      refine ⟨_, c9.cell' rfl, _, b9.ld 0 rfl, ?_⟩
      refine obetween_ok t9 iu (by omega) (Ap.new hA9 b9.lt o9) fun s10 h10 E10 O10 => ⟨(E10.blk c9).cell' rfl, ?_⟩
      have hbl := btw_less (x := x) ip hdp
      have n10 := O10.rs.len
      rw [List.length_map, Nat.mul_one] at n10
      have oo := o9.ext E10
      have ll := oo.len
      rw [List.length_map, List.length_reverse, leh_len] at ll
      have a10 := E10.1
      have ci : hcell (h10.push (.cells #[iV (s10.len : Int)] 3)) (ad h1.size 0) = some (Sl.v out) := (Ext.push (n := h10.size) (x := .cells #[iV (s10.len : Int)] 3) (Nat.le_refl _)).blk (E10.blk c9) (E10.blk c9).lt |>.cell' rfl
      refine New.cells (cs := [iV (s10.len : Int)]) fun h11 E11 z11 B11 => ⟨(E11.blk (E10.blk c9)).cell' rfl, ?_⟩
      have oo2 := oo.ext E11
      refine App.own (ys := [iV (s10.len : Int)]) (m := h11.size) oo2 ⟨rfl, Nat.le_refl _, .inr ⟨h10.size, 0, rfl, B11.lt, fun i hi => ?_⟩⟩ rfl (by simp [one]) (by omega) (by show (out.len + 1) * 8 ≤ _; omega) fun s12 h12 G => ?_
      · obtain rfl : i = 0 := by simpa using hi
        exact B11.cell' rfl
      have z12 := G.ext.1
      have b12 : Blk h12 h.size [.pointer q] := G.ext.blk (E11.blk (E10.blk b9)) (by omega)
      have c12 : Blk h12 h1.size [Sl.v out] := G.ext.blk (E11.blk (E10.blk c9)) (by omega)
      have s12' : Blk h12 h2.size [Sl.v s] := G.ext.blk (E11.blk (E10.blk s9)) (by omega)
      have r12 : h12[D + 1]? = some (busyO o) := by rw [G.ext.2 (D + 1) (by omega)]; exact E11.at_ (E10.at_ r9)
      have d12 : h12[D]? = some (.deferred (some [])) := by rw [G.ext.2 D (by omega)]; exact E11.at_ (E10.at_ d9)
      have t12 : Tr (Ap (Bs (fun _ => True) h1.size) h.size s12) h12 q u := (t9.fw (E10.trans E11)).to (To.grown G z12)
      have o12 : Own h4.size 1 h12 s12 ((leh (x :: d)).reverse.map iV) := by
        have := G.own
        rw [n10, hbl] at this
        simpa [leh] using this
      have f12 : Fw h h12 := ((f9.trans E10).trans E11).trans' (G.ext.mono E14.1)
      refine St.whole c12 rfl rfl fun h13 b13 o13 z13 => ?_
      have b13' := b12.other o13 (by omega)
      have t13 : Tr (Ap (Bs (fun _ => True) h1.size) h.size s12) h13 q u := t12.to (To.over (fun e => e.1.2 rfl) o13 z13)
      have o13' : Own h4.size 1 h13 s12 ((leh (x :: d)).reverse.map iV) := o12.keep fun p hp => o13 _ (fun e => by have := (o12.lt hp).2; omega)
      refine ⟨_, b13'.ld 0 rfl, oinsert_ok t13 iu (by omega) (Ap.new (fun b hb => ⟨trivial, by omega⟩) b13'.lt o13') fun q' h14 E14' t14 => ?_⟩
      have a14 := E14'.1
      refine St.whole (E14'.blk b13') rfl rfl fun h15 b15 o15 z15 => ?_
      have r15 : h15[D + 1]? = some (busyO o) := other_at o15 (E14'.at_ (other_at o13 r12 (by omega))) (by omega)
      have d15 : h15[D]? = some (.deferred (some [])) := other_at o15 (E14'.at_ (other_at o13 d12 (by omega))) (by omega)
      have hn2 := notCells_busy hno
      have c15 : Blk h15 h1.size [Sl.v s12] := (E14'.blk b13).other o15 (by omega)
      have s15 : Blk h15 h2.size [Sl.v s] := (E14'.blk (s12'.other o13 (by omega))).other o15 (by omega)
      have t15 : Tr (Ap (Bs (fun _ => True) h1.size) h.size s12) h15 q' (ins x u) := t14.to (To.over (fun e => e.2.1 rfl) o15 z15)
      have o15' : Own h4.size 1 h15 s12 ((leh (x :: d)).reverse.map iV) := (o13'.ext E14').keep fun p hp => o15 _ (fun e => by have := (o12.lt hp).2; omega)
      have f15 : Fw h h15 := (((f12.over (by omega) o13 z13)).trans E14').over (Nat.le_refl _) o15 z15
      refine ⟨r15, hK _ ⟨hput_self r15, by rw [hput_other (by omega)]; exact d15, f15.hput (by omega), by rw [hput_size]; omega, s15.hput (o' := o) r15 hn2, q', ins x u, s12, b15.hput (o' := o) r15 hn2, c15.hput (o' := o) r15 hn2, ?_, t15.to (To.hput r15 hn2), ins_up iu, (ins_perm x u).trans (ip.cons x)⟩⟩
      exact o15'.keep fun p hp => hput_other (fun e => by have := (o12.lt hp).2; omega)
    · intro h7 hI
      obtain ⟨i1, i2, i3, iz, i8, q, u, out, i5, i6, i7, i9, iu, ip⟩ := hI
      refine ⟨i1, fun o20 h8 hh8 => ?_⟩
      have c8 := i6.hput (o' := o20) i1 hno
      have d8 : (Tw.hput h7 (D + 1) o20)[D]? = some (.deferred (some [])) := by rw [hput_other (by omega)]; exact i2
      have f8 : Fw h (Tw.hput h7 (D + 1) o20) := i3.hput (by have := E14.1; omega)
      have o8 : Own h4.size 1 (Tw.hput h7 (D + 1) o20) out ((leh l).reverse.map iV) := i7.keep fun p hp => hput_other (fun e => by have := (i7.lt hp).2; omega)
      have z8 : (Tw.hput h7 (D + 1) o20).size = h7.size := hput_size _ _ _
      rw [← hh8] at c8 d8 f8 o8 z8
      refine ⟨_, c8.cell' rfl, ?_⟩
      have F := (Fam.none h4.size h8).cons o8 (fun x hx => by cases hx)
      refine reverse_ok (j := 0) F rfl (by rw [List.length_reverse, leh_len]; omega) fun h16 F16 E16 => ?_
      have c16 : Blk h16 h1.size [Sl.v out] := E16.blk c8 (by omega)
      refine ⟨_, c16.cell' rfl, by rw [E16.2 D (by omega)]; exact d8, fun h17 hh17 => ?_⟩
      have d16 : h16[D]? = some (.deferred (some [])) := by rw [E16.2 D (by omega)]; exact d8
      have o16 : Own h4.size 1 h16 out ((leh l).map iV) := by simpa using F16.ownI (j := 0) rfl
      have f17 : Fw h (Tw.hput h16 D (.deferred none)) := (f8.trans' (E16.mono E14.1)).hput (by have := E14.1; omega)
      have o17 : Own h4.size 1 (Tw.hput h16 D (.deferred none)) out ((leh l).map iV) := o16.keep fun p hp => hput_other (fun e => by have := (o16.lt hp).2; omega)
      rw [← hh17] at f17 o17
      exact H2 h20 P out h17 f17 (o17.mono E14.1)
  exact CallsH.mono main fun v h7 hx => hx.2

theorem fact_ge : ∀ n : Nat, (n : Int) ≤ fact n
  | 0 => by decide
  | n + 1 => by
    have h := fact_pos n
    have := Int.mul_le_mul_of_nonneg_left (show (1 : Int) ≤ fact n by omega) (show (0 : Int) ≤ ((n + 1 : Nat) : Int) by omega)
    rw [Int.mul_one] at this
    exact this
theorem rank_ok {s : Sl} {l : List Int} {n : Nat} {R : Int → Value → Heap → Prop} (S : RI n h s l) (hn : n ≤ h.size) (H0 : 20 < l.length → R 0 (errV 4) h) (H1 : l.length ≤ 20 → ¬ IsP l → R 0 (errV 3) h)
    (H2 : l.length ≤ 20 → IsP l → ∀ h', Fw h h' → R (val (leh l)) .nilIface h') : inv_Rank r s h R := by
  apply inv_Rank_of
  refine lehmer_ok S hn (fun q => ⟨rfl, fun _ => H0 q, fun c => by cases c⟩) (fun q q2 => ⟨rfl, fun _ => H1 q q2, fun c => by cases c⟩) fun h20 P s1 h1 E1 O1 => ⟨rfl, fun c => (by cases c), fun _ => ?_⟩
  have sl : s1.len = (leh l).length := by have := O1.len; simp at this; omega
  have hl := leh_len l
  have hv := leh_val l
  generalize leh l = c at *
  obtain ⟨v0, v1⟩ := val_bound hv
  have f20 : fact c.length ≤ fact 20 := fact_mono (by omega)
  have e20 := fact_20
  intro X HX
  have key : ∀ (d i : Nat) (N : Int), i + d = c.length → 0 ≤ N → Val (c.drop i) → N * fact d + val (c.drop i) = val c → X N (i : Int) := by
    intro d
    induction d with
    | zero =>
      intro i N hi hN _ hv2
      rw [List.drop_of_length_le (by omega)] at hv2
      simp only [fact, val] at hv2
      refine HX _ _ ⟨fun q => absurd (of_decide_eq_true q) (by omega), fun _ => ?_⟩
      have := H2 h20 P h1 E1
      rw [show N = val c by omega]; exact this
    | succ d ih =>
      intro i N hi hN hvd hv2
      have hil : i < c.length := by omega
      have ex : c[(i : Int).toNat]! = c[i] := by rw [Int.toNat_natCast, getElem!_pos c i hil]
      have ed : c.drop i = c[i] :: c.drop (i + 1) := List.drop_eq_getElem_cons hil
      have el : (c.drop (i + 1)).length = d := by rw [List.length_drop]; omega
      refine HX _ _ ⟨fun _ => RI.ix O1.rs (by omega) (by omega) fun p _ hp => ⟨_, hp, fun x16 e16 => ?_⟩, fun q => absurd (of_decide_eq_false q) (by omega)⟩
      rw [ex] at e16
      rw [ed] at hvd hv2
      obtain ⟨k0, k1, k2⟩ := hvd
      rw [el] at k1
      obtain ⟨w0, w1⟩ := val_bound k2
      simp only [val, el] at hv2
      have fd := fact_pos d
      have e1 : w64 ((s1.len : Int) - (i : Int)) = ((d + 1 : Nat) : Int) := by rw [w64_of (by omega) (by omega)]; omega
      have fe : fact (d + 1) = ((d + 1 : Nat) : Int) * fact d := rfl
      have hNf : N * fact (d + 1) = N * ((d + 1 : Nat) : Int) * fact d := by rw [fe, Int.mul_assoc]
      have hkf : 0 ≤ c[i] * fact d := Int.mul_nonneg k0 (Int.le_of_lt fd)
      have hN1 : 0 ≤ N * ((d + 1 : Nat) : Int) := Int.mul_nonneg hN (by omega)
      have hsum : (N * ((d + 1 : Nat) : Int) + c[i]) * fact d + val (c.drop (i + 1)) = val c := by
        rw [Int.add_mul, ← hNf]; omega
      have hle : N * ((d + 1 : Nat) : Int) + c[i] ≤ (N * ((d + 1 : Nat) : Int) + c[i]) * fact d := by
        have := Int.mul_le_mul_of_nonneg_left (show (1 : Int) ≤ fact d by omega) (show 0 ≤ N * ((d + 1 : Nat) : Int) + c[i] by omega)
        rwa [Int.mul_one] at this
      rw [e1, w64_of (n := N * ((d + 1 : Nat) : Int)) (by omega) (by omega), w64_of (by omega) (by omega)] at e16
      rw [w64_of (by omega) (by omega), e16]
      exact ih (i + 1) _ (by omega) (by omega) k2 hsum
  exact key c.length 0 0 (by omega) (Int.le_refl _) (by simpa using hv) (by simp)
theorem sign_ok {s : Sl} {l : List Int} {n : Nat} {R : Int → Value → Heap → Prop} (S : RI n h s l) (hn : n ≤ h.size) (H0 : 20 < l.length → R 0 (errV 4) h) (H1 : l.length ≤ 20 → ¬ IsP l → R 0 (errV 3) h)
    (H2 : l.length ≤ 20 → IsP l → ∀ h', Fw h h' → R (1 - 2 * ((inv l % 2 : Nat) : Int)) .nilIface h') : inv_Sign r s h R := by
  apply inv_Sign_of
  refine check_ok S hn (fun q => ⟨rfl, fun _ => H0 q, fun c => by cases c⟩) (fun q q2 => ⟨rfl, fun _ => H1 q q2, fun c => by cases c⟩) fun h20 P => ⟨rfl, fun c => (by cases c), fun _ => ?_⟩
  refine count_ok S hn (by omega) fun h' E => ?_
  have hi := inv_le l
  have h2 : l.length * (l.length - 1) ≤ 20 * 20 := Nat.mul_le_mul h20 (by omega)
  have := H2 h20 P h' E
  rw [w64_of (n := (inv l : Int)) (by omega) (by omega)]
  have e : Int.tmod (inv l : Int) 2 = ((inv l % 2 : Nat) : Int) := by
    rw [Int.tmod_eq_emod_of_nonneg (by omega)]; omega
  rw [e, w64_of (n := 2 * _) (by omega) (by omega), w64_of (by omega) (by omega)]
  exact this
theorem perm_ok {n rank : Int} {R : Sl → Value → Heap → Prop} (hr : rank < 9223372036854775808) (H0 : (n < 0 ∨ 20 < n ∨ rank < 0 ∨ fact n.toNat ≤ rank) → ∀ h', Fw h h' → R Sl.nil (errV 1) h')
    (H1 : 0 ≤ n → n ≤ 20 → 0 ≤ rank → rank < fact n.toNat → ∀ s' h', Fw h h' → Own h.size 1 h' s' ((unc (rangeI n.toNat) (digs n.toNat rank).1).map iV) → R s' .nilIface h') : inv_Perm r n rank h R := by
  apply inv_Perm_of
  refine ⟨fun q => H0 ?_ h (Fw.refl h), fun q => ?_⟩
  · simp only [Bool.or_eq_true, decide_eq_true_eq] at q; omega
  simp only [Bool.or_eq_false_iff, decide_eq_false_iff_not] at q
  obtain ⟨k, rfl⟩ : ∃ k : Nat, n = (k : Int) := ⟨n.toNat, by omega⟩
  rw [Int.toNat_natCast] at H0 H1
  have hk : k ≤ 20 := by omega
  refine MkS.own (N := h.size) (n := k) rfl (Nat.le_refl _) (by omega) (by decide) fun s9 h1 hs9 O9 E9 => ?_
  intro X HX
  have key : ∀ (d i : Nat) (h2 : Heap), i + d = k → Fw h h2 → Own h.size 1 h2 s9 ((List.replicate d 0 ++ (digs i rank).1).map iV) → X (digs i rank).2 (i : Int) h2 := by
    intro d
    induction d with
    | zero =>
      intro i h2 hi E2 O
      obtain rfl : i = k := by omega
      obtain ⟨g1, g2, g3, g4⟩ := digs_ok i rank (by omega)
      obtain ⟨v0, v1⟩ := val_bound g2
      rw [g1] at v1
      refine HX _ _ _ ⟨fun c => absurd (of_decide_eq_true c) (by omega), fun _ => ?_⟩
      intro J HJ
      have fp := fact_pos i
      have bad : 0 < (digs i rank).2 → J true := fun hq => HJ _ ⟨fun _ => H0 (.inr (.inr (.inr (by
        have := Int.mul_le_mul_of_nonneg_left (show (1 : Int) ≤ (digs i rank).2 by omega) (Int.le_of_lt fp)
        rw [Int.mul_one] at this; omega)))) h2 E2, fun c => by cases c⟩
      have good : ¬ 0 < (digs i rank).2 → J false := fun hq => HJ _ ⟨fun c => (by cases c), fun _ => by
        have q0 : (digs i rank).2 = 0 := by omega
        rw [q0, Int.mul_zero] at g4
        have O' : Own h.size 1 h2 s9 ((digs i rank).1.map iV) := by simpa using O
        refine order_ok O'.rs (Nat.le_refl _) (fun c => by omega) (fun _ c => absurd g2 c) fun _ _ s' h' E' O2 => ?_
        rw [g1] at O2
        exact H1 (by omega) (by omega) (by omega) (by omega) s' h' (E2.trans E') (O2.mono E2.1)⟩
      refine ⟨fun c => ⟨fun _ => bad (of_decide_eq_true c), fun _ => ⟨fun _ => ?_, fun c3 => ?_⟩⟩, fun c => ⟨fun _ => ?_, fun _ => good (of_decide_eq_false c)⟩⟩
      · rw [c]; exact bad (of_decide_eq_true c)
      · exact absurd (of_decide_eq_false c3) (by rename_i c2; have c2 := of_decide_eq_false c2; omega)
      · rw [c]; exact good (of_decide_eq_false c)
    | succ d ih =>
      intro i h2 hi E2 O
      obtain ⟨g1, g2, g3, g4⟩ := digs_ok i rank (by omega)
      obtain ⟨v0, v1⟩ := val_bound g2
      have fp := fact_pos i
      have e1 : w64 ((i : Int) + 1) = ((i + 1 : Nat) : Int) := by rw [w64_of (by omega) (by omega)]; omega
      have e2 : w64 (w64 ((k : Int) - 1) - (i : Int)) = ((d : Nat) : Int) := by rw [w64_of (n := (k : Int) - 1) (by omega) (by omega), w64_of (by omega) (by omega)]; omega
      have qle : (digs i rank).2 ≤ fact i * (digs i rank).2 := by
        have := Int.mul_le_mul_of_nonneg_right (show (1 : Int) ≤ fact i by omega) g3
        rwa [Int.one_mul] at this
      have t0 : 0 ≤ Int.tdiv (digs i rank).2 ((i + 1 : Nat) : Int) := Int.tdiv_nonneg g3 (by omega)
      have t1 : Int.tdiv (digs i rank).2 ((i + 1 : Nat) : Int) ≤ (digs i rank).2 := by
        rw [Int.tdiv_eq_ediv_of_nonneg g3]
        exact Int.ediv_le_self _ g3
      have e3 : w64 (Int.tdiv (digs i rank).2 ((i + 1 : Nat) : Int)) = (digs (i + 1) rank).2 := by
        rw [w64_of (by omega) (by omega)]; rfl
      refine HX _ _ _ ⟨fun _ => ?_, fun c => absurd (of_decide_eq_false c) (by omega)⟩
      rw [e1, e2, e3]
      refine ⟨by omega, own_int O (i := d) (by simp; omega) fun b hb _ => St.one' O hb (by simp; omega) ⟨by omega, ?_⟩⟩
      have A := (Fam.none h.size h2).cons O (fun x hx => by cases hx)
      have A2 := (A.set hb (o := d) (v := iV (Int.tmod (digs i rank).2 ((i + 1 : Nat) : Int))) (by simp; omega)).head
      rw [← List.map_set] at A2
      refine ih (i + 1) _ (by omega) (Ext.trans E2 (Ext.set (O.lt' hb).2)) ?_
      have el : (List.replicate (d + 1) 0 ++ (digs i rank).1).set d (Int.tmod (digs i rank).2 ((i + 1 : Nat) : Int)) = List.replicate d 0 ++ (digs (i + 1) rank).1 := by
        rw [List.replicate_succ', List.append_assoc, List.set_append_right _ _ (by simp), List.length_replicate, Nat.sub_self]
        rfl
      rw [el] at A2
      exact A2
  refine key k 0 h1 (by omega) E9 ?_
  have : (List.replicate k (0 : Int) ++ (digs 0 rank).1).map iV = List.replicate k (iV 0) := by simp [digs]
  rw [this]; exact O9
end
end Go.Proofs.YtcafckgflpmfgaaDoor.Vi
