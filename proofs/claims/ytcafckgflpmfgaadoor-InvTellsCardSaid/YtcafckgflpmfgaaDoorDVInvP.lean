/- How much is out of order: what the functions do: sorting, looking, taking away. -/
import Derived.Test.YtcafckgflpmfgaaDoorDVInv
import Derived.Test.YtcafckgflpmfgaaDoorDVOOrdP
import Derived.Test.YtcafckgflpmfgaaDoorDVRefP
import Derived.Test.YtcafckgflpmfgaaDoorVInvL
namespace Go.Proofs.YtcafckgflpmfgaaDoor.Vi
open Go Go.RowKit Go.Tw Go.Ord Go.Inv
set_option linter.unusedVariables false
section
variable {r : World} {h : Heap}
theorem w64_sum (x y : Int) : w64 (w64 x + w64 y) = w64 (x + y) := by
  simp only [w64, IntKind.wrap_i64]; omega
theorem w64_sumr (x y : Int) : w64 (w64 x + y) = w64 (x + y) := by
  simp only [w64, IntKind.wrap_i64]; omega
theorem one_ints (l : List Int) : ∀ v ∈ l.map iV, one v = true := by intro v hv; obtain ⟨x, _, rfl⟩ := List.mem_map.1 hv; rfl
theorem clone_ok {s : Sl} {l : List Int} {n : Nat} {R : Sl → Heap → Prop} (S : RI n h s l) (hn : n ≤ h.size) (hz : l.length ≤ 17592186044416) (H : ∀ s' h', Fw h h' → Own h.size 1 h' s' (l.map iV) → R s' h') : slices_Clone_int_int r s h R := by
  apply slices_Clone_int_int_of
  have sl := S.len
  refine ⟨fun c => ?_, fun c => ?_⟩
  · rcases S.at_ with e | ⟨b, o, e, _⟩
    · have e : l = [] := by simpa using e
      subst e
      exact H _ h (Fw.refl h) (Own.nil _ _ _)
    · rw [e] at c; cases c
  · refine New.cells (cs := []) fun h1 E1 z1 B1 => ?_
    have O0 : Own h.size 1 h1 ⟨some (ad h.size 0), 0, 0⟩ [] := ⟨rfl, Nat.le_refl _, .inr ⟨_, [], rfl, Nat.le_refl _, B1, rfl⟩⟩
    refine App.own O0 (S.ext E1 hn) rfl (one_ints l) E1.1 (by show (0 + s.len) * 8 ≤ _; omega) fun s2 h2 G => H s2 h2 (E1.trans' G.ext) ?_
    have := G.own
    simpa using this
theorem head_at {n : Nat} {s : Sl} {x : Int} {a : List Int} {K : Addr → Prop} (S : RI n h s (x :: a)) (hK : ∀ p, hcell h p = some (iV x) → K p) : Ix s 0 1 K :=
  RI.ix S (by decide) (by simp) fun p _ hp => hK p hp
theorem tail_at {n : Nat} {s : Sl} {x : Int} {a : List Int} {K : Sl → Prop} (S : RI n h s (x :: a)) (hK : ∀ t, RI n h t a → K t) : Sub s 1 (s.len : Int) (s.cap : Int) 1 K := by
  have e : (s.len : Int) = ((a.length + 1 : Nat) : Int) := by have := S.len; simp at this; omega
  rw [e]
  refine Sub.in_ (lo := 1) (hi := a.length + 1) S (by omega) (by simp) fun t T => hK t ?_
  simpa using T
theorem msort_ok : ∀ (k : Nat) (l : List Int) (s : Sl) (n : Nat) (h : Heap) (R : Sl → Int → Heap → Prop), l.length ≤ k → RI n h s l → n ≤ h.size → l.length ≤ 17592186044415 →
    (∀ u s' h', Fw h h' → Up u → u.Perm l → Own h.size 1 h' s' (u.map iV) → R s' (w64 (inv l : Int)) h') → inv_sorted r s h R := by
  intro k
  induction k with
  | zero =>
    intro l s n h R hk S hn hz H
    apply inv_sorted_of
    have sl := S.len
    refine ⟨fun c => clone_ok S hn (by omega) fun s' h' E O => ?_, fun c => absurd (of_decide_eq_false c) (by omega)⟩
    have := H l s' h' E (by rw [List.eq_nil_of_length_eq_zero (show l.length = 0 by omega)]; exact List.Pairwise.nil) (List.Perm.refl _) O
    rwa [inv_small (by omega)] at this
  | succ k ih =>
    intro l s n h R hk S hn hz H
    apply inv_sorted_of
    have sl := S.len
    refine ⟨fun c => ?_, fun c => ?_⟩
    · have c := of_decide_eq_true c
      refine clone_ok S hn (by omega) fun s' h' E O => ?_
      have hu : Up l := by
        match l, (show l.length < 2 by omega) with
        | [], _ => exact List.Pairwise.nil
        | [x], _ => exact List.pairwise_singleton _ _
      have := H l s' h' E hu (List.Perm.refl _) O
      rwa [inv_small (by omega)] at this
    · have c := of_decide_eq_false c
      have eh : w64 (Int.tdiv ((s.len : Int)) 2) = ((l.length / 2 : Nat) : Int) := by
        rw [show Int.tdiv ((s.len : Int)) 2 = ((s.len / 2 : Nat) : Int) from by rw [Int.tdiv_eq_ediv_of_nonneg (by omega)]; omega, w64_of (by omega) (by omega), sl]
      rw [eh, sl]
      refine Sub.in_ (lo := 0) (hi := l.length / 2) S (by omega) (by omega) fun t T => ?_
      rw [List.drop_zero, Nat.sub_zero] at T
      refine ih _ t n h _ (by rw [List.length_take]; omega) T hn (by rw [List.length_take]; omega) fun ua sa h2 E2 hua hpa Oa => ?_
      refine Sub.in_ (lo := l.length / 2) (hi := l.length) (S.ext E2 hn) (by omega) (by omega) fun t2 T2 => ?_
      rw [List.take_of_length_le (by rw [List.length_drop]; omega)] at T2
      refine ih _ t2 n h2 _ (by rw [List.length_drop]; omega) T2 (by have := E2.1; omega) (by rw [List.length_drop]; omega) fun ub sb h3 E3 hub hpb Ob => ?_
      have Ra : RI h3.size h3 sa ua := (Rs.ext Oa.rs E3 (Nat.le_refl _)).mono E3.1
      have Rb : RI h3.size h3 sb ub := Ob.rs
      intro X HX
      have key : ∀ (m : Nat) (a b done : List Int) (sa sb so : Sl) (M : Nat) (h4 : Heap), a.length + b.length = m → Fw h3 h4 → RI h3.size h4 sa a → RI h3.size h4 sb b → Own h3.size 1 h4 so (done.map iV) → Up a → Up b → Up done → (∀ x ∈ done, ∀ y ∈ a ++ b, x ≤ y) → (done ++ (a ++ b)).Perm l →
          M + cr a b = inv (l.drop (l.length / 2)) + cr (l.take (l.length / 2)) (l.drop (l.length / 2)) → X sa sb (w64 (M : Int)) so h4 := by
        intro m
        induction m with
        | zero =>
          intro a b done sa sb so M h4 hm E4 Sa Sb O ha hb hd hle hp hM
          obtain rfl : a = [] := List.eq_nil_of_length_eq_zero (by omega)
          obtain rfl : b = [] := List.eq_nil_of_length_eq_zero (by omega)
          have la := Sa.len
          have lb := Sb.len
          refine HX _ _ _ _ _ ⟨fun c => ?_, fun _ => ?_⟩
          · simp at la lb
            rw [la, lb] at c; simp at c
          · rw [w64_sum]
            have := H done so h4 ((E2.trans E3).trans E4) hd (by simpa using hp) (O.mono (E2.trans E3).1)
            have ei : (inv l : Int) = (inv (l.take (l.length / 2)) : Int) + (M : Int) := by
              have := inv_append (l.take (l.length / 2)) (l.drop (l.length / 2))
              rw [List.take_append_drop] at this
              simp [cr] at hM
              omega
            rwa [ei] at this
        | succ m ihm =>
          intro a b done sa sb so M h4 hm E4 Sa Sb O ha hb hd hle hp hM
          have la := Sa.len
          have lb := Sb.len
          have lo : so.len = done.length := by have := O.len; simp at this; omega
          have hpl := hp.length_eq
          simp only [List.length_append] at hpl
          have hz3 : h3.size ≤ h4.size := E4.1
          refine HX _ _ _ _ _ ⟨fun _ => ?_, fun c => ?_⟩
          · intro J HJ
            have takeA : ∀ (x : Int) (a' : List Int), a = x :: a' → (∀ y ∈ b, x ≤ y) → J true := by
              intro x a' e hxb
              subst e
              have ha' := List.pairwise_cons.1 ha
              refine HJ _ ⟨fun _ => head_at Sa fun p hp0 => ⟨_, hp0, tail_at Sa fun t T => ?_⟩, fun c => by cases c⟩
              refine App.push (cs := [iV x]) O rfl rfl (by simp [one]) hz3 (by omega) fun s6 h6 G => ?_
              have O6 : Own h3.size 1 h6 s6 ((done ++ [x]).map iV) := by rw [List.map_append]; exact G.own
              refine ihm a' b (done ++ [x]) t sb s6 M h6 (by simp at hm; omega) (E4.trans' G.ext) (T.ext G.ext (Nat.le_refl _)) (Sb.ext G.ext (Nat.le_refl _)) O6 ha'.2 hb ?_ ?_ ?_ ?_
              · exact up_append.2 ⟨hd, List.pairwise_singleton _ _, fun z hz w hw => by simp at hw; subst hw; exact hle z hz w (by simp)⟩
              · intro z hz w hw
                rcases List.mem_append.1 hz with hz | hz
                · exact hle z hz w (by simp at hw ⊢; exact .inr hw)
                · simp at hz; subst hz
                  rcases List.mem_append.1 hw with hw | hw
                  · exact ha'.1 w hw
                  · exact hxb w hw
              · rw [List.append_assoc]; exact hp
              · rw [← hM]; simp only [cr, lessN_zero hxb, Nat.zero_add]
            have takeB : ∀ (y : Int) (b' : List Int), b = y :: b' → (∀ x ∈ a, y < x) → J false := by
              intro y b' e hya
              subst e
              have hb' := List.pairwise_cons.1 hb
              refine HJ _ ⟨fun c => (by cases c), fun _ => head_at Sb fun p hp0 => ⟨_, hp0, tail_at Sb fun t T => ?_⟩⟩
              refine App.push (cs := [iV y]) O rfl rfl (by simp [one]) hz3 (by omega) fun s6 h6 G => ?_
              have O6 : Own h3.size 1 h6 s6 ((done ++ [y]).map iV) := by rw [List.map_append]; exact G.own
              have ew : w64 (w64 (M : Int) + (sa.len : Int)) = w64 ((M + a.length : Nat) : Int) := by rw [w64_sumr, la]; congr 1
              rw [ew]
              refine ihm a b' (done ++ [y]) sa t s6 (M + a.length) h6 (by simp at hm; omega) (E4.trans' G.ext) (Sa.ext G.ext (Nat.le_refl _)) (T.ext G.ext (Nat.le_refl _)) O6 ha hb'.2 ?_ ?_ ?_ ?_
              · exact up_append.2 ⟨hd, List.pairwise_singleton _ _, fun z hz w hw => by simp at hw; subst hw; exact hle z hz w (by simp)⟩
              · intro z hz w hw
                rcases List.mem_append.1 hz with hz | hz
                · exact hle z hz w (by simp at hw ⊢; rcases hw with hw | hw; exact .inl hw; exact .inr (.inr hw))
                · simp at hz; subst hz
                  rcases List.mem_append.1 hw with hw | hw
                  · exact Int.le_of_lt (hya w hw)
                  · exact hb'.1 w hw
              · refine List.Perm.trans ?_ hp
                rw [List.append_assoc]
                exact List.Perm.append_left done (List.perm_middle (l₁ := a) (l₂ := b') (a := y)).symm
              · rw [← hM, cr_right a b' hya]; omega
            cases b with
            | nil =>
              cases a with
              | nil => simp at hm
              | cons x a' => exact ⟨fun _ => takeA x a' rfl (fun y hy => by cases hy), fun c => by simp at lb; rw [lb] at c; simp at c⟩
            | cons y b' =>
              refine ⟨fun c => ?_, fun _ => ?_⟩
              · have c := of_decide_eq_true c
                simp at lb; omega
              · cases a with
                | nil => exact ⟨fun c => (by simp at la; rw [la] at c; simp at c), fun _ => takeB y b' rfl (fun x hx => by cases hx)⟩
                | cons x a' =>
                  refine ⟨fun _ => head_at Sa fun p hp0 => ⟨_, hp0, head_at Sb fun q hq0 => ⟨_, hq0, ?_⟩⟩, fun c => ?_⟩
                  · have ha' := List.pairwise_cons.1 ha
                    have hb' := List.pairwise_cons.1 hb
                    dsimp only
                    by_cases hxy : x ≤ y
                    · rw [decide_eq_true hxy]
                      refine takeA x a' rfl fun z hz => ?_
                      rcases List.mem_cons.1 hz with rfl | hz
                      · exact hxy
                      · exact Int.le_trans hxy (hb'.1 z hz)
                    · rw [decide_eq_false hxy]
                      refine takeB y b' rfl fun z hz => ?_
                      rcases List.mem_cons.1 hz with rfl | hz
                      · omega
                      · have := ha'.1 z hz; omega
                  · have c := of_decide_eq_false c
                    simp at la; omega
          · exfalso
            simp only [Bool.or_eq_false_iff, decide_eq_false_iff_not] at c
            omega
      exact key _ ua ub [] sa sb Sl.nil (inv (l.drop (l.length / 2))) h3 rfl (Fw.refl h3) Ra Rb (Own.nil _ _ _) hua hub List.Pairwise.nil (fun x hx => by cases hx) (by
        rw [List.nil_append]
        have := hpa.append hpb
        rwa [List.take_append_drop] at this) (by rw [cr_perm_left hpa, cr_perm_right _ hpb])
theorem count_ok {s : Sl} {l : List Int} {n : Nat} {R : Int → Heap → Prop} (S : RI n h s l) (hn : n ≤ h.size) (hz : l.length ≤ 17592186044415) (H : ∀ h', Fw h h' → R (w64 (inv l : Int)) h') : inv_Count r s h R := by
  apply inv_Count_of
  exact msort_ok l.length l s n h _ (Nat.le_refl _) S hn hz fun u s' h' E _ _ _ => H h' E

theorem contains_ok {s : Sl} {l : List Int} {n : Nat} {v : Int} {R : Bool → Heap → Prop} (S : RI n h s l) (hz : l.length ≤ 17592186044416) (H : R (decide (v ∈ l)) h) : slices_Contains_int_int r s v h R := by
  apply slices_Contains_int_int_of
  apply slices_Index_int_int_of
  have sl := S.len
  intro X HX
  have key : ∀ (d i : Nat), i + d = l.length → (v ∉ l.take i) → X (i : Int) := by
    intro d
    induction d with
    | zero =>
      intro i hi hv
      rw [List.take_of_length_le (by omega)] at hv
      refine HX _ ⟨fun c => absurd (of_decide_eq_true c) (by omega), fun _ => ?_⟩
      rw [decide_eq_false hv] at H
      exact H
    | succ d ih =>
      intro i hi hv
      have hil : i < l.length := by omega
      have ex : l[(i : Int).toNat]! = l[i] := by rw [Int.toNat_natCast, getElem!_pos l i hil]
      refine HX _ ⟨fun _ => RI.ix S (by omega) (by omega) fun p _ hp => ⟨_, hp, ?_⟩, fun c => absurd (of_decide_eq_false c) (by omega)⟩
      rw [ex]
      refine ⟨fun c => ?_, fun c => ?_⟩
      · have c := of_decide_eq_true c
        rw [decide_eq_true (by rw [c]; exact List.getElem_mem hil)] at H
        dsimp only
        rw [decide_eq_true (show (0 : Int) ≤ (i : Int) by omega)]; exact H
      · have c := of_decide_eq_false c
        rw [w64_of (by omega) (by omega)]
        refine ih (i + 1) (by omega) ?_
        rw [List.take_add_one, List.getElem?_eq_getElem hil]
        simp only [Option.toList_some, List.mem_append, List.mem_singleton, not_or]
        exact ⟨hv, c⟩
  exact key l.length 0 (by omega) (by simp)
abbrev errV (n : Int) : Value := .iface 29 (.int .i64 n)
theorem check_ok {s : Sl} {l : List Int} {n : Nat} {R : Value → Heap → Prop} (S : RI n h s l) (hn : n ≤ h.size) (H0 : 20 < l.length → R (errV 4) h) (H1 : l.length ≤ 20 → ¬ IsP l → R (errV 3) h) (H2 : l.length ≤ 20 → IsP l → R .nilIface h) : inv_Check r s h R := by
  apply inv_Check_of
  have sl := S.len
  refine ⟨fun c => H0 (by have := of_decide_eq_true c; omega), fun c => ?_⟩
  have h20 : l.length ≤ 20 := by have := of_decide_eq_false c; omega
  intro X HX
  have key : ∀ (d i : Nat), i + d = l.length → (∀ x ∈ l.take i, 0 ≤ x ∧ x < l.length) → (l.take i).Nodup → X (i : Int) h := by
    intro d
    induction d with
    | zero =>
      intro i hi hr hd
      rw [List.take_of_length_le (by omega)] at hr hd
      exact HX _ _ ⟨fun c => absurd (of_decide_eq_true c) (by omega), fun _ => H2 h20 ⟨hr, hd⟩⟩
    | succ d ih =>
      intro i hi hr hd
      have hil : i < l.length := by omega
      have ex : l[(i : Int).toNat]! = l[i] := by rw [Int.toNat_natCast, getElem!_pos l i hil]
      have e : l.take (i + 1) = l.take i ++ [l[i]] := by rw [List.take_add_one, List.getElem?_eq_getElem hil]; rfl
      have hm : l[i] ∈ l := List.getElem_mem hil
      refine HX _ _ ⟨fun _ => RI.ix S (by omega) (by omega) fun p _ hp => ⟨_, hp, ?_⟩, fun c => absurd (of_decide_eq_false c) (by omega)⟩
      rw [ex]
      intro J HJ
      have bad : ¬ IsP l → J true h := fun hb => HJ _ _ ⟨fun _ => H1 h20 hb, fun c => by cases c⟩
      refine ⟨fun c => bad fun P => ?_, fun c => ⟨fun c2 => bad fun P => ?_, fun c2 => ?_⟩⟩
      · have := of_decide_eq_true c; have := P.rng _ hm; omega
      · have := of_decide_eq_true c2; have := P.rng _ hm; omega
      · have c := of_decide_eq_false c
        have c2 := of_decide_eq_false c2
        refine Sub.in_ (lo := 0) (hi := i) S (by omega) (by omega) fun t T => ?_
        rw [List.drop_zero, Nat.sub_zero] at T
        refine contains_ok T (by rw [List.length_take]; omega) ?_
        by_cases hc : l[i] ∈ l.take i
        · rw [decide_eq_true hc]
          refine bad fun P => ?_
          have := P.nd
          rw [← List.take_append_drop i l, List.drop_eq_getElem_cons hil] at this
          exact (List.nodup_append.1 this).2.2 _ hc _ (List.mem_cons_self (l := l.drop (i + 1))) rfl
        · rw [decide_eq_false hc]
          refine HJ _ _ ⟨fun c => (by cases c), fun _ => ?_⟩
          rw [w64_of (by omega) (by omega)]
          refine ih (i + 1) (by omega) ?_ ?_
          · rw [e]
            intro x hx
            rcases List.mem_append.1 hx with hx | hx
            · exact hr x hx
            · simp at hx; subst hx; omega
          · rw [e]
            exact List.nodup_append.2 ⟨hd, by simp, fun a ha b hb e => by simp at hb; subst hb; subst e; exact hc ha⟩
  exact key l.length 0 (by omega) (by simp) (by simp)
theorem reverse_ok {N j : Nat} {F : List (Nat × Sl × List Value)} {s : Sl} {l : List Int} {R : Heap → Prop} (A : Fam N h F) (hj : F[j]? = some (1, s, l.map iV)) (hl : l.length ≤ 4611686018427387904)
    (H : ∀ h', Fam N h' (F.set j (1, s, l.reverse.map iV)) → Ext N h h' → R h') : slices_Reverse_int_int r s h R := by
  apply slices_Reverse_int_int_of
  intro X HX
  have hslen : s.len = l.length := by simpa using (A.ownI hj).len
  have hjl := (List.getElem?_eq_some_iff.1 hj).1
  have key : ∀ d (i : Nat) (h1 : Heap) (c : List Int), l.length - 2 * i ≤ d → 2 * i ≤ l.length + 1 → c.length = l.length → (∀ t, t < l.length → c[t]? = if t < i ∨ l.length - 1 - t < i then l[l.length - 1 - t]? else l[t]?) →
      Fam N h1 (F.set j (1, s, c.map iV)) → Ext N h h1 → X (i : Int) ((l.length : Int) - 1 - i) h1 := by
    intro d
    have stop : ∀ (i : Nat) (h1 : Heap) (c : List Int), ¬ 2 * i + 1 < l.length → c.length = l.length → (∀ t, t < l.length → c[t]? = if t < i ∨ l.length - 1 - t < i then l[l.length - 1 - t]? else l[t]?) → Fam N h1 (F.set j (1, s, c.map iV)) → Ext N h h1 → X (i : Int) ((l.length : Int) - 1 - i) h1 := by
      intro i h1 c hd hc hct A1 E1
      refine HX _ _ _ ⟨fun q => by simp at q; omega, fun _ => ?_⟩
      have e : c = l.reverse := by
        apply List.ext_getElem?
        intro t
        by_cases ht : t < l.length
        · rw [hct t ht, List.getElem?_reverse ht]
          split
          · rfl
          · congr 1; omega
        · rw [List.getElem?_eq_none (by omega), List.getElem?_eq_none (by simp; omega)]
      subst e
      exact H h1 A1 E1
    induction d with
    | zero =>
      intro i h1 c hd h2 hc hct A1 E1
      exact stop i h1 c (by omega) hc hct A1 E1
    | succ d ih =>
      intro i h1 c hd h2 hc hct A1 E1
      by_cases hlt : 2 * i + 1 < l.length
      · refine HX _ _ _ ⟨fun _ => ?_, fun q => absurd (of_decide_eq_false q) (by omega)⟩
        have e1 : (l.length : Int) - 1 - i = ((l.length - 1 - i : Nat) : Int) := by omega
        rw [e1]
        have hg : (F.set j (1, s, c.map iV))[j]? = some (1, s, c.map iV) := List.getElem?_set_self hjl
        have O1 := A1.ownI hg
        have hi : i < c.length := by omega
        have hi2 : l.length - 1 - i < c.length := by omega
        obtain ⟨b, hb⟩ : ∃ b, s.a = some (ad b 0) := O1.ex (by intro e; have := congrArg List.length e; rw [List.length_map, List.length_nil] at this; omega)
        refine own_int O1 hi2 fun b1 hb1 c1 => ⟨_, c1, own_int O1 hi fun b2 hb2 c2 => ⟨_, c2, own_int O1 hi fun b3 hb3 _ => ?_⟩⟩
        rw [hb] at hb3; cases hb3
        refine St.one' O1 hb (by simp; omega) ?_
        have A2 := A1.setI (o := i) (v := iV (c[l.length - 1 - i]!)) hg hb (by simp; omega)
        rw [List.set_set, ← List.map_set] at A2
        have hg2 : (F.set j (1, s, (c.set i (c[l.length - 1 - i]!)).map iV))[j]? = some (1, s, (c.set i (c[l.length - 1 - i]!)).map iV) := List.getElem?_set_self hjl
        have O2 := A2.ownI hg2
        refine own_int O2 (by simp; omega) fun b4 hb4 _ => ?_
        rw [hb] at hb4; cases hb4
        refine St.one' O2 hb (by simp; omega) ?_
        have A3 := A2.setI (o := l.length - 1 - i) (v := iV (c[i]!)) hg2 hb (by simp; omega)
        rw [List.set_set, ← List.map_set] at A3
        rw [show w64 ((i : Int) + 1) = ((i + 1 : Nat) : Int) by rw [w64_of] <;> omega, show w64 (((l.length - 1 - i : Nat) : Int) - 1) = (l.length : Int) - 1 - ((i + 1 : Nat) : Int) by rw [w64_of] <;> omega]
        refine ih (i + 1) _ _ (by omega) (by omega) (by simpa using hc) (fun t ht => ?_) A3 (E1.trans ((Ext.set (O1.lt' hb).2).trans (Ext.set (O1.lt' hb).2)))
        have q1 := hct i (by omega)
        have q2 := hct (l.length - 1 - i) (by omega)
        rw [if_neg (by omega)] at q1 q2
        have r1 : c[i]! = l[i]! := by
          rw [List.getElem?_eq_getElem hi, List.getElem?_eq_getElem (by omega : i < l.length)] at q1
          simp only [Option.some.injEq] at q1
          rw [getElem!_pos c i hi, getElem!_pos l i (by omega), q1]
        have r2 : c[l.length - 1 - i]! = l[l.length - 1 - i]! := by
          rw [List.getElem?_eq_getElem hi2, List.getElem?_eq_getElem (by omega : l.length - 1 - i < l.length)] at q2
          simp only [Option.some.injEq] at q2
          rw [getElem!_pos c _ hi2, getElem!_pos l _ (by omega), q2]
        rw [r1, r2]
        by_cases t1 : l.length - 1 - i = t
        · subst t1
          rw [List.getElem?_set_self (by simp; omega), if_pos (by omega), show l.length - 1 - (l.length - 1 - i) = i by omega, getElem!_pos l i (by omega), List.getElem?_eq_getElem (by omega)]
        · rw [List.getElem?_set_ne t1]
          by_cases t2 : i = t
          · subst t2
            rw [List.getElem?_set_self hi, if_pos (by omega), getElem!_pos l _ (by omega), List.getElem?_eq_getElem (by omega)]
          · rw [List.getElem?_set_ne t2, hct t ht]
            by_cases t3 : t < i ∨ l.length - 1 - t < i
            · rw [if_pos t3, if_pos (by omega)]
            · rw [if_neg t3, if_neg (by omega)]
      · exact stop i h1 c hlt hc hct A1 E1
  have := key l.length 0 h l (by omega) (by omega) rfl (fun t _ => by rw [if_neg (by omega)]) (by rw [set_same hj]; exact A) (Ext.refl _ _)
  rw [hslen]
  rw [show w64 ((l.length : Int) - 1) = (l.length : Int) - 1 - ((0 : Nat) : Int) by rw [w64_of] <;> omega]
  exact this

end
end Go.Proofs.YtcafckgflpmfgaaDoor.Vi
