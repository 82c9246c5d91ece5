/- A tree of parts: the laws 'SegParts' and 'SegAdds'. -/
import Derived.Test.YtgieabpckecjlaaSegS
namespace Go.Proofs.Ytgieabpckecjlaa
open Go Go.RowKit Go.Tw Go.Seg
set_option linter.unusedVariables false

section
variable {r : World} {h : Heap} {l : List Int}

theorem segged_ok {R : Bool → Heap → Prop} (H : ∀ h', Ext h.size h h' → R true h') : law5_segged r h R := by
  apply law5_segged_of
  intro p1 h1 hp hh
  subst hp; subst hh
  have hr : RI (h.push (.cells #[iV 5, iV 3] 3)).size (h.push (.cells #[iV 5, iV 3] 3)) ⟨some (ad h.size 0), 2, 2⟩ [5, 3] :=
    RI.of_blk (b := h.size) (l := [5, 3]) (c := 2) (Blk.new (cs := [iV 5, iV 3])) (by simp) (List.prefix_refl _) (by decide)
  have E1 : Ext h.size h (h.push (.cells #[iV 5, iV 3] 3)) := Ext.push (Nat.le_refl _)
  refine new_ok hr (Nat.le_refl _) (by decide) (by decide) fun sp b h2 T n1 n2 E => ⟨rfl, fun q => (by cases q), fun _ => ?_⟩
  have E2 := E1.trans (E.mono E1.1)
  refine sum_ok T (fun w => absurd (by unfold Within; decide) w) fun w h3 S3 T3 => ?_
  refine least_ok T3 fun q e h4 D he S4 T4 => ⟨rfl, he, fun x hx => ?_⟩
  obtain ⟨e1, e2⟩ := D.some w (by decide)
  subst e1
  have hm := e2.least
  have em : q.least = 3 := hm.uniq ⟨by decide, by decide⟩
  have ex : x = true := by rw [hx, em]; decide
  subst ex
  have h5 := E1.1
  refine H h4 ⟨by have := E2.1; have := S3.size; have := S4.size; omega, fun c hc => ?_⟩
  have hb := T.lt
  have := E2.1
  have := S3.size
  have n2 : h.size ≤ b := Nat.le_trans h5 n2
  rw [S4.out c (by omega) (by omega), S3.out c (by omega) (by omega), E2.2 c hc]

theorem cut_join (v : List Int) {i j k : Nat} (h1 : i ≤ j) (h2 : j ≤ k) : cut v i k = cut v i j ++ cut v j k := by
  unfold cut
  rw [show k - i = (j - i) + (k - j) by omega, List.take_add, List.drop_drop, show i + (j - i) = j by omega]

theorem parts_law {l1 : Sl} {i j k x : Int} (hl1 : RI h.size h l1 l) (hin : ∀ y ∈ l, In y) (hx : In x) : law5_SegParts r l1 i j k x h fun y h' => y = true ∧ Ext h.size h h' := by
  apply law5_SegParts_of
  refine segged_ok fun h1 E1 => ?_
  have hlen := hl1.len
  have hl := hl1.ext E1 (Nat.le_refl _)
  by_cases hbig : 5000 < l.length
  · refine new_full (by omega) ⟨fun q => (by cases q), fun _ => ⟨rfl, fun _ => ⟨rfl, rfl, E1⟩, fun q => (by cases q)⟩⟩
  refine new_ok hl E1.1 hin (by omega) fun sp b h2 T n1 n2 E2 => ⟨fun q => (by cases q), fun _ => ⟨rfl, fun _ => ⟨rfl, rfl, E1.trans (E2.mono E1.1)⟩, fun q => ?_⟩⟩
  have E := E1.trans (E2.mono E1.1)
  have z1 := E1.1
  have z2 := E2.1
  have fin : ∀ h', Only b h2 h' → Ext h.size h h' := fun h' S => ⟨by have := S.size; omega, fun c hc => by rw [S.out c (by omega) (by omega), E.2 c hc]⟩
  have hbad : ∀ v : List Int, v.length = l.length → ∀ w : Bool, w = ((decide (0 ≤ i) && decide (i ≤ k)) && decide (k ≤ (l1.len : Int))) → (w = true ↔ Within v.length i k) := by
    intro v hv w hw
    rw [hw, hlen, hv]
    unfold Within
    simp
    omega
  refine add_ok hx T (fun w => ?_) fun w h3 S3 T3 => ?_
  · refine ⟨rfl, fun _ => ?_, fun c => by simp [isNil] at c⟩
    intro J HJ
    refine ⟨rfl, fun c => (by cases c), fun _ => ?_⟩
    apply law5_within_of
    intro y hy
    have : y = false := by
      cases y with
      | false => rfl
      | true => exact absurd ((hbad l rfl true hy).1 rfl) w
    subst this
    exact HJ _ _ ⟨rfl, E⟩
  · refine ⟨rfl, fun _ => ?_, fun c => ?_⟩
    · intro J HJ
      exact ⟨rfl, fun _ => HJ _ _ ⟨rfl, fin _ S3⟩, fun c => (by cases c)⟩
    · have c : i < j ∧ j < k := by simp [isNil] at c; omega
      obtain ⟨c1, c2⟩ := c
      obtain ⟨w1, w2, w3⟩ := w
      obtain ⟨i, rfl⟩ : ∃ n : Nat, i = n := ⟨i.toNat, by omega⟩
      obtain ⟨j, rfl⟩ : ∃ n : Nat, j = n := ⟨j.toNat, by omega⟩
      obtain ⟨k, rfl⟩ : ∃ n : Nat, k = n := ⟨k.toNat, by omega⟩
      rw [Int.toNat_natCast, Int.toNat_natCast] at T3
      generalize hv : chg false x i k l = v at T3
      have hvl : v.length = l.length := by rw [← hv, chg_len]
      have wij : Within v.length i j := ⟨by omega, by omega, by omega⟩
      have wjk : Within v.length j k := ⟨by omega, by omega, by omega⟩
      have wik : Within v.length i k := ⟨by omega, by omega, by omega⟩
      refine sum_ok T3 (fun w => absurd wij w) fun _ h4 S4 T4 => ?_
      refine sum_ok T4 (fun w => absurd wjk w) fun _ h5 S5 T5 => ?_
      refine sum_ok T5 (fun w => absurd wik w) fun _ h6 S6 T6 => ?_
      refine least_ok T6 fun q1 e1 h7 D1 he1 S7 T7 => ?_
      refine least_ok T7 fun q2 e2 h8 D2 he2 S8 T8 => ?_
      refine least_ok T8 fun q3 e3 h9 D3 he3 S9 T9 => ?_
      refine most_ok T9 fun q4 e4 h10 D4 he4 S10 T10 => ?_
      refine most_ok T10 fun q5 e5 h11 D5 he5 S11 T11 => ?_
      refine most_ok T11 fun q6 e6 h12 D6 he6 S12 T12 => ?_
      obtain ⟨rfl, t1⟩ := D1.some wij c1
      obtain ⟨rfl, t2⟩ := D2.some wjk c2
      obtain ⟨rfl, t3⟩ := D3.some wik (by omega)
      obtain ⟨rfl, t4⟩ := D4.some wij c1
      obtain ⟨rfl, t5⟩ := D5.some wjk c2
      obtain ⟨rfl, t6⟩ := D6.some wik (by omega)
      simp only [Int.toNat_natCast] at *
      have ec := cut_join v (i := i) (j := j) (k := k) (by omega) (by omega)
      refine ⟨rfl, rfl, rfl, rfl, rfl, rfl, rfl, rfl, rfl, fun c => (by simp [isNil] at c), fun _ y hy => ?_⟩
      have S := ((((((((S3.trans S4).trans S5).trans S6).trans S7).trans S8).trans S9).trans S10).trans S11).trans S12
      refine ⟨?_, fin _ S⟩
      rw [ec] at t3 t6
      have e1 := t3.least.uniq (t1.least.append t2.least)
      have e2 := t6.most.uniq (t4.most.append t5.most)
      have e3 : w64 (cut v i k).sum = w64 (w64 (cut v i j).sum + w64 (cut v j k).sum) := by
        rw [ec, List.sum_append]
        apply w64_congr
        have := w64_mod (cut v i j).sum
        have := w64_mod (cut v j k).sum
        omega
      rw [hy]
      simp only [Bool.and_eq_true, decide_eq_true_eq]
      exact ⟨⟨e3, e1⟩, e2⟩

theorem chg_chg {x y : Int} {i j : Nat} {v : List Int} : chg false y i j (chg false x i j v) = chg false (w64 (x + y)) i j v := by
  apply List.ext_getElem?
  intro k
  simp only [chg, List.getElem?_mapIdx]
  cases v[k]? with
  | none => rfl
  | some z =>
    simp only [Option.map_some, Bool.false_eq_true, if_false]
    congr 1
    split
    · apply w64_congr
      have := w64_mod (z + x)
      have := w64_mod (x + y)
      omega
    · rfl
theorem chg_back {x y : Int} {i j : Nat} {v : List Int} (hv : ∀ z ∈ v, In z) (hxy : w64 (x + y) = 0) : chg false y i j (chg false x i j v) = v := by
  rw [chg_chg, hxy]
  apply List.ext_getElem?
  intro k
  simp only [chg, List.getElem?_mapIdx]
  cases hz : v[k]? with
  | none => rfl
  | some z =>
    simp only [Option.map_some, Bool.false_eq_true, if_false, Int.add_zero]
    congr 1
    split
    · exact w64_id (hv z (List.mem_of_getElem? hz))
    · rfl
theorem cut_put {x : Int} {i j : Nat} {v : List Int} (hj : j ≤ v.length) : cut (chg true x i j v) i j = List.replicate (j - i) x := by
  apply List.ext_getElem?
  intro k
  simp only [cut, chg, List.getElem?_take, List.getElem?_drop, List.getElem?_mapIdx, List.getElem?_replicate]
  by_cases hk : k < j - i
  · rw [if_pos hk, if_pos hk, List.getElem?_eq_getElem (by omega)]
    simp; omega
  · rw [if_neg hk, if_neg hk]

theorem adds_law {l1 : Sl} {i j x y : Int} (hl1 : RI h.size h l1 l) (hin : ∀ y ∈ l, In y) (hx : In x) (hy : In y) : law5_SegAdds r l1 i j x y h fun y h' => y = true ∧ Ext h.size h h' := by
  apply law5_SegAdds_of
  refine segged_ok fun h1 E1 => ?_
  have hlen := hl1.len
  have hl := hl1.ext E1 (Nat.le_refl _)
  by_cases hbig : 5000 < l.length
  · refine new_full (by omega) (new_full (by omega) ⟨fun q => (by cases q), fun _ => ⟨rfl, rfl, fun _ => ⟨rfl, rfl, E1⟩, fun q => (by cases q)⟩⟩)
  refine new_ok hl E1.1 hin (by omega) fun sp b h2 T n1 n2 E2 => ?_
  have z1 := E1.1
  have z2 := E2.1
  have E12 := E1.trans (E2.mono E1.1)
  refine new_ok (hl1.ext E12 (Nat.le_refl _)) (by omega) hin (by omega) fun sq c h3 U m1 m2 E3 => ?_
  have z3 := E3.1
  have E := E12.trans (E3.mono (by omega))
  obtain ⟨lt1, lt2⟩ := T.lt
  obtain ⟨lu1, lu2⟩ := U.lt
  have T := T.ext E3 lt1 lt2
  refine ⟨fun q => (by cases q), fun _ => ⟨rfl, rfl, fun _ => ⟨rfl, rfl, E⟩, fun q => ?_⟩⟩
  have fin : ∀ h', (∀ d, d ≠ b → d ≠ c → d < h3.size → h'[d]? = h3[d]?) → h3.size ≤ h'.size → Ext h.size h h' := fun h' S hz => ⟨by omega, fun d hd => by rw [S d (by omega) (by omega) (by omega), E.2 d hd]⟩
  have wit : ∀ w : Bool, w = ((decide (0 ≤ i) && decide (i ≤ j)) && decide (j ≤ (l1.len : Int))) → (w = true ↔ Within l.length i j) := by
    intro w hw
    rw [hw, hlen]
    unfold Within
    simp
    omega
  by_cases w : Within l.length i j
  · have w0 := w
    obtain ⟨w1, w2, w3⟩ := w
    obtain ⟨i, rfl⟩ : ∃ n : Nat, i = n := ⟨i.toNat, by omega⟩
    obtain ⟨j, rfl⟩ : ∃ n : Nat, j = n := ⟨j.toNat, by omega⟩
    refine add_ok hx T (fun w => absurd w0 w) fun _ h4 S4 T4 => ?_
    rw [Int.toNat_natCast, Int.toNat_natCast] at T4
    refine add_ok hy T4 (fun w => absurd (by rw [chg_len]; exact w0) w) fun _ h5 S5 T5 => ?_
    rw [Int.toNat_natCast, Int.toNat_natCast, chg_chg] at T5
    have U5 := U.other (S4.trans S5) (by omega) (by omega)
    refine add_ok (w64_in _) U5 (fun w => absurd w0 w) fun _ h6 S6 U6 => ?_
    rw [Int.toNat_natCast, Int.toNat_natCast] at U6
    have T6 := T5.other S6 (by omega) (by omega)
    refine ints_ok T6 fun s1 h7 O7 S7 T7 => ?_
    have U7 := U6.other S7 (by omega) (by omega)
    have R7 := O7.rs
    have hz7 := S7.size
    refine ints_ok U7 fun s2 h8 O8 S8 U8 => ?_
    have hz8 := S8.size
    have T8 := T7.other S8 (by omega) (by omega)
    have hz6 := S6.size
    have hz5 := S5.size
    have hz4 := S4.size
    have O7' : Own h6.size 1 h8 s1 _ := O7.keep fun p hp => S8.out _ (by have := (O7.lt hp).2; omega) (O7.lt hp).1
    refine same_Ints_ok (l := chg false (w64 (x + y)) i j l) (m := chg false (w64 (x + y)) i j l) O7'.rs O8.rs (by rw [chg_len]; omega) ?_
    rw [decide_eq_true rfl]
    intro J HJ
    refine ⟨fun q => (by cases q), fun _ => ⟨rfl, ?_⟩⟩
    apply law5_within_of
    intro t ht
    have ht : t = true := (wit t ht).2 w0
    subst ht
    refine ⟨fun q => (by cases q), fun _ => ⟨rfl, rfl, fun q => (by cases q), fun _ => ⟨rfl, rfl, ?_⟩⟩⟩
    refine HJ _ _ ⟨fun q => (by cases q), fun _ => ?_⟩
    refine add_ok (w64_in _) U8 (fun w => absurd (by rw [chg_len]; exact w0) w) fun _ h9 S9 U9 => ?_
    rw [Int.toNat_natCast, Int.toNat_natCast, chg_back hin (by
      rw [show (0 : Int) = w64 0 by rw [w64_of] <;> omega]
      apply w64_congr
      have := w64_mod (x + y)
      have := w64_mod (w64 (0 - x) - y)
      have := w64_mod (0 - x)
      have e0 : w64 0 = 0 := by rw [w64_of] <;> omega
      rw [e0] at *
      omega)] at U9
    have T9 := T8.other S9 (by omega) (by omega)
    have hz9 := S9.size
    refine ints_ok U9 fun s3 h10 O10 S10 U10 => ?_
    have T10 := T9.other S10 (by omega) (by omega)
    have hz10 := S10.size
    have O3 : ∀ d, d ≠ b → d ≠ c → d < h3.size → h10[d]? = h3[d]? := fun d d1 d2 d3 => by
      rw [S10.out d d2 (by omega), S9.out d d2 (by omega), S8.out d d2 (by omega), S7.out d d1 (by omega), S6.out d d2 (by omega), S5.out d d1 (by omega), S4.out d d1 (by omega)]
    have X10 := fin h10 O3 (by omega)
    refine same_Ints_ok (l := l) (m := l) O10.rs (hl1.ext X10 (Nat.le_refl _)) (by omega) ?_
    rw [decide_eq_true rfl]
    refine putt_ok hx T10 (fun w => absurd (by rw [chg_len]; exact w0) w) fun _ h11 S11 T11 => ?_
    rw [Int.toNat_natCast, Int.toNat_natCast] at T11
    refine sum_ok T11 (fun w => absurd (by rw [chg_len, chg_len]; exact w0) w) fun _ h12 S12 T12 => ?_
    rw [Int.toNat_natCast, Int.toNat_natCast, cut_put (by rw [chg_len]; omega), sum_rep]
    intro J2 HJ2
    refine ⟨fun _ => ⟨rfl, fun q => (by cases q), fun _ => ⟨rfl, fun _ => HJ2 _ ?_, fun q => (by cases q)⟩⟩, fun q => (by cases q)⟩
    have hz11 := S11.size
    have hz12 := S12.size
    refine ⟨decide_eq_true ?_, fin h12 (fun d d1 d2 d3 => by rw [S12.out d d1 (by omega), S11.out d d1 (by omega), O3 d d1 d2 d3]) (by omega)⟩
    rw [show w64 ((j : Int) - i) = ((j - i : Nat) : Int) by rw [w64_of] <;> omega, Int.mul_comm]
  · refine add_ok hx T (fun _ => ?_) fun w' => absurd w' w
    refine add_ok hy T (fun _ => ?_) fun w' => absurd w' w
    refine add_ok (w64_in _) U (fun _ => ?_) fun w' => absurd w' w
    refine ints_ok T fun s1 h7 O7 S7 T7 => ?_
    have U7 := U.other S7 (by omega) (by omega)
    have hz7 := S7.size
    refine ints_ok U7 fun s2 h8 O8 S8 U8 => ?_
    have hz8 := S8.size
    have T8 := T7.other S8 (by omega) (by omega)
    have O7' : Own h3.size 1 h8 s1 _ := O7.keep fun p hp => S8.out _ (by have := (O7.lt hp).2; omega) (O7.lt hp).1
    refine same_Ints_ok (l := l) (m := l) O7'.rs O8.rs (by omega) ?_
    rw [decide_eq_true rfl]
    intro J HJ
    refine ⟨fun q => (by cases q), fun _ => ⟨rfl, ?_⟩⟩
    apply law5_within_of
    intro t ht
    have ht : t = false := by
      cases t with
      | false => rfl
      | true => exact absurd ((wit true ht).1 rfl) w
    subst ht
    refine ⟨fun q => (by cases q), fun _ => ⟨rfl, rfl, fun q => (by cases q), fun _ => ⟨rfl, rfl, ?_⟩⟩⟩
    refine HJ _ _ ⟨fun q => (by cases q), fun _ => ?_⟩
    refine add_ok (w64_in _) U8 (fun _ => ?_) fun w' => absurd w' w
    refine ints_ok U8 fun s3 h10 O10 S10 U10 => ?_
    have T10 := T8.other S10 (by omega) (by omega)
    have hz10 := S10.size
    have O3 : ∀ d, d ≠ b → d ≠ c → d < h3.size → h10[d]? = h3[d]? := fun d d1 d2 d3 => by
      rw [S10.out d d2 (by omega), S8.out d d2 (by omega), S7.out d d1 (by omega)]
    have X10 := fin h10 O3 (by omega)
    refine same_Ints_ok (l := l) (m := l) O10.rs (hl1.ext X10 (Nat.le_refl _)) (by omega) ?_
    rw [decide_eq_true rfl]
    refine putt_ok hx T10 (fun _ => ?_) fun w' => absurd w' w
    refine sum_ok T10 (fun _ => ?_) fun w' => absurd w' w
    intro J2 HJ2
    refine ⟨fun _ => ⟨rfl, fun _ => HJ2 _ ⟨rfl, X10⟩, fun q => (by cases q)⟩, fun q => (by cases q)⟩
end
end Go.Proofs.Ytgieabpckecjlaa
