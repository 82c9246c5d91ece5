/- What the statements ask alike: lists, measures. -/
import Derived.Test.YtmjljnbjoldeaaaMonoP
namespace Go.Proofs.Ytmjljnbjoldeaaa
open Go Go.RowKit Go.Tw Go.Mono
set_option linter.unusedVariables false

theorem same_Ints_ok {r : World} {n n' : Nat} {h : Heap} {a b : Sl} {l m : List Int} {R : Bool → Heap → Prop} (ha : RI n h a l) (hb : RI n' h b m) (hl : l.length ≤ 4611686018427387904) (H : R (decide (l = m)) h) : same_Ints r a b h R := by
  apply same_Ints_of
  refine ⟨fun hc => ?_, fun hc => ?_⟩
  · simp [ha.len, hb.len] at hc
    have : ¬ l = m := fun e => hc (by rw [e])
    simpa [this] using H
  · simp [ha.len, hb.len] at hc
    intro X HX
    have key : ∀ d (i : Nat), i + d = l.length → l.take i = m.take i → X (i : Int) := by
      intro d
      induction d with
      | zero =>
        intro i hi he
        refine HX _ ⟨fun c => ?_, fun _ => ?_⟩
        · rw [ha.len] at c; simp at c; omega
        · have : l = m := by rw [List.take_of_length_le (by omega), List.take_of_length_le (by omega)] at he; exact he
          simpa [this] using H
      | succ d ih =>
        intro i hi he
        have h1 : i < l.length := by omega
        have h2 : i < m.length := by omega
        refine HX _ ⟨fun _ => ?_, fun c => ?_⟩
        · refine ha.ix (by omega) (by omega) fun p _ hp => ⟨_, hp, hb.ix (by omega) (by omega) fun q _ hq => ⟨_, hq, ?_⟩⟩
          simp only [Int.toNat_natCast, getElem!_pos l i h1, getElem!_pos m i h2]
          refine ⟨fun c => ?_, fun c => ?_⟩
          · have : ¬ l = m := fun e => by subst e; simp at c
            simpa [this] using H
          · have c : l[i] = m[i] := by simpa using c
            rw [show w64 ((i : Int) + 1) = ((i + 1 : Nat) : Int) by rw [w64_of] <;> omega]
            refine ih (i + 1) (by omega) ?_
            rw [List.take_add_one, List.take_add_one, he, List.getElem?_eq_getElem h1, List.getElem?_eq_getElem h2, c]
        · rw [ha.len] at c; simp at c; omega
    simpa using key l.length 0 (by omega) rfl

theorem RI.over {n c : Nat} {h h' : Heap} {s : Sl} {u : List Int} (S : RI n h s u) (hne : u ≠ [] → ∀ p, s.a = some p → p.block ≠ c) (ho : ∀ d, d ≠ c → h'[d]? = h[d]?) : RI n h' s u := by
  refine ⟨Rs.len S, S.cap, ?_⟩
  rcases S.at_ with e | ⟨b, o, e1, e2, e3⟩
  · exact .inl e
  · by_cases hu : u = []
    · exact .inl (by rw [hu]; rfl)
    · refine .inr ⟨b, o, e1, e2, fun i hi => ?_⟩
      rw [hcell_of_eq (h := h) (ho _ (show (ad b (o + i)).block ≠ c from (show (ad b o).block ≠ c from hne hu _ e1)))]
      exact e3 i hi

theorem RI.lt {n : Nat} {h : Heap} {s : Sl} {u : List Int} (S : RI n h s u) (hu : u ≠ []) : ∀ p, s.a = some p → p.block < n := by
  intro p hp
  rcases S.at_ with e | ⟨b, o, e1, e2, e3⟩
  · exact absurd (List.map_eq_nil_iff.1 e) hu
  · rw [hp] at e1; cases e1; exact e2
theorem RI.over' {n c : Nat} {h h' : Heap} {s : Sl} {u : List Int} (S : RI n h s u) (hn : n ≤ c) (ho : ∀ d, d ≠ c → h'[d]? = h[d]?) : RI n h' s u :=
  RI.over S (fun hu p hp => by have := RI.lt S hu p hp; omega) ho

section
variable {r : World} {h : Heap}

theorem cat_ok {s t : Sl} {u v : List Int} {n : Nat} {R : Sl → Heap → Prop} (hs : RI n h s u) (ht : RI n h t v) (hn : n ≤ h.size) (hz : u.length + v.length ≤ 17592186044416) (H : ∀ s' h', Fw h h' → Own h.size 1 h' s' ((u ++ v).map iV) → R s' h') : ref1_Cat r s t h R := by
  apply ref1_Cat_of
  have ls := hs.len
  have lt := ht.len
  refine App.own (Own.nil h.size 1 h) hs rfl (by intro v hv; obtain ⟨x, _, rfl⟩ := List.mem_map.1 hv; rfl) (Nat.le_refl _) (by simp [Sl.nil]; omega) fun s1 h1 G1 => ?_
  have O1 := G1.own
  have l1 : s1.len = u.length := by have := O1.len; simp at this; omega
  refine App.own O1 (ht.ext G1.ext hn) rfl (by intro v hv; obtain ⟨x, _, rfl⟩ := List.mem_map.1 hv; rfl) G1.ext.1 (by omega) fun s2 h2 G2 => ?_
  refine H s2 h2 (Ext.trans G1.ext G2.ext) ?_
  have := G2.own
  simpa using this

theorem App.in_ {el : TypeId} {N n : Nat} {s x : Sl} {u v : List Int} {K : Sl → Heap → Prop} (O : Own N 1 h s (u.map iV)) (X : RI n h x v) (hN : N ≤ h.size) (hz : u.length + v.length ≤ 17592186044416) (hK : ∀ s' h', Tw.Ext N h h' → Own N 1 h' s' ((u ++ v).map iV) → K s' h') : App el 1 8 (.int .i64 0) s x h K := by
  have ls : s.len = u.length := by have := O.len; simp at this; omega
  have lx := X.len
  refine App.own O X rfl (by intro v hv; obtain ⟨x, _, rfl⟩ := List.mem_map.1 hv; rfl) hN (by omega) fun s' h' G => hK s' h' G.ext ?_
  have := G.own
  simpa using this

theorem Sub.in_ {n : Nat} {s : Sl} {u : List Int} {lo hi : Nat} {K : Sl → Prop} (S : RI n h s u) (h1 : lo ≤ hi) (h2 : hi ≤ u.length) (hK : ∀ t, RI n h t ((u.drop lo).take (hi - lo)) → K t) : Sub s (lo : Int) (hi : Int) (s.cap : Int) 1 K := by
  have hc := S.cap
  have hl := S.len
  refine ⟨by omega, by omega, by omega, by omega, fun t ht => hK t ?_⟩
  have et : t = ⟨sliceA s.a s.cap lo 1, hi - lo, s.cap - lo⟩ := by rw [ht]; simp only [Int.toNat_natCast]
  rw [et]
  by_cases he : lo = hi
  · subst he
    refine ⟨by simp, by simp, .inl (by simp)⟩
  · have := Rs.sub S (lo := lo) (hi := hi) (mx := s.cap) (by omega) (by simp; omega) (by omega)
    rwa [← List.map_drop, ← List.map_take] at this

theorem without_ok {s : Sl} {u : List Int} {n i : Nat} {R : Sl → Heap → Prop} (S : RI n h s u) (hn : n ≤ h.size) (hi : i < u.length) (hz : u.length ≤ 17592186044416) (H : ∀ s' h', Fw h h' → Own h.size 1 h' s' ((u.take i ++ u.drop (i + 1)).map iV) → R s' h') : ref1_Without r s (i : Int) h R := by
  apply ref1_Without_of
  have hl := S.len
  refine Sub.in_ (lo := 0) S (by omega) (by omega) fun t T => ?_
  refine App.in_ (u := []) (Own.nil h.size 1 h) T (Nat.le_refl _) (by simp; omega) fun s1 h1 E1 O1 => ?_
  rw [show w64 ((i : Int) + 1) = ((i + 1 : Nat) : Int) by rw [w64_of] <;> omega, hl]
  refine Sub.in_ (S.ext E1 hn) (by omega) (by omega) fun t2 T2 => ?_
  refine App.in_ O1 T2 E1.1 (by simp; omega) fun s2 h2 E2 O2 => H s2 h2 (Ext.trans E1 E2) ?_
  have e : [] ++ (u.drop 0).take (i - 0) ++ (u.drop (i + 1)).take (u.length - (i + 1)) = u.take i ++ u.drop (i + 1) := by
    rw [List.nil_append, List.drop_zero, Nat.sub_zero, List.take_of_length_le (l := u.drop (i + 1)) (by simp)]
  rwa [e] at O2

theorem with_ok {s : Sl} {u : List Int} {n i : Nat} {x : Int} {R : Sl → Heap → Prop} (S : RI n h s u) (hn : n ≤ h.size) (hi : i ≤ u.length) (hz : u.length + 1 ≤ 17592186044416) (H : ∀ s' h', Fw h h' → Own h.size 1 h' s' ((u.take i ++ x :: u.drop i).map iV) → R s' h') : ref1_With r s (i : Int) x h R := by
  apply ref1_With_of
  have hl := S.len
  refine Sub.in_ (lo := 0) S (by omega) (by omega) fun t T => ?_
  refine App.in_ (u := []) (Own.nil h.size 1 h) T (Nat.le_refl _) (by simp; omega) fun s1 h1 E1 O1 => ?_
  refine New.cells (cs := [iV x]) fun h2 E2 z2 B2 => ?_
  refine App.in_ (v := [x]) (O1.ext E2) (RI.of_blk (n := h2.size) (l := [x]) B2 (by omega) (List.prefix_refl _) (Nat.le_refl 1)) (by have := E1.1; omega) (by simp; omega) fun s3 h3 E3 O3 => ?_
  rw [hl]
  have E13 : Fw h h3 := Ext.trans (Ext.trans E1 (Ext.mono E2 E1.1)) E3
  refine Sub.in_ (S.ext E13 hn) (by omega) (by omega) fun t2 T2 => ?_
  refine App.in_ O3 T2 E13.1 (by simp; omega) fun s4 h4 E4 O4 => H s4 h4 (Ext.trans E13 E4) ?_
  have e : [] ++ (u.drop 0).take (i - 0) ++ [x] ++ (u.drop i).take (u.length - i) = u.take i ++ x :: u.drop i := by
    rw [List.nil_append, List.drop_zero, Nat.sub_zero, List.take_of_length_le (l := u.drop i) (by simp), List.append_assoc]; rfl
  rwa [e] at O4

theorem put_ok {s : Sl} {u : List Int} {n i : Nat} {x : Int} {R : Sl → Heap → Prop} (S : RI n h s u) (hn : n ≤ h.size) (hi : i < u.length) (hz : u.length ≤ 17592186044416) (H : ∀ s' h', Fw h h' → Own h.size 1 h' s' ((u.set i x).map iV) → R s' h') : ref1_Put r s (i : Int) x h R := by
  apply ref1_Put_of
  refine cat_ok (v := []) S (RI.nil _ _) hn (by simp; omega) fun s1 h1 E1 O1 => ?_
  rw [List.append_nil] at O1
  refine own_int O1 hi fun b hb _ => ?_
  refine St.one' O1 hb (by simpa using hi) ?_
  have A := (Fam.none h.size h1).cons O1 (fun x hx => by cases hx)
  have A2 := (A.set hb (o := i) (v := iV x) (by simpa using hi)).head
  rw [← List.map_set] at A2
  exact H s1 _ (Ext.trans E1 (Ext.set (O1.lt' hb).2)) A2

theorem rev_ok {s : Sl} {u : List Int} {n : Nat} {R : Sl → Heap → Prop} (S : RI n h s u) (hn : n ≤ h.size) (hz : u.length ≤ 17592186044416) (H : ∀ s' h', Fw h h' → Own h.size 1 h' s' (u.reverse.map iV) → R s' h') : ref1_Rev r s h R := by
  apply ref1_Rev_of
  have hl := S.len
  intro X HX
  have key : ∀ (k : Nat) (out : Sl) (h1 : Heap), k ≤ u.length → Fw h h1 → Own h.size 1 h1 out ((u.drop k).reverse.map iV) → X out ((k : Int) - 1) h1 := by
    intro k
    induction k with
    | zero =>
      intro out h1 hk E1 O1
      refine HX _ _ _ ⟨fun c => absurd (of_decide_eq_true c) (by omega), fun _ => H out h1 E1 (by simpa using O1)⟩
    | succ k ih =>
      intro out h1 hk E1 O1
      have hku : k < u.length := by omega
      rw [show ((k + 1 : Nat) : Int) - 1 = (k : Int) by omega]
      refine HX _ _ _ ⟨fun _ => RI.ix (S.ext E1 hn) (by omega) (by omega) fun p _ hp => ⟨_, hp, ?_⟩, fun c => absurd (of_decide_eq_false c) (by omega)⟩
      have ex : u[(k : Int).toNat]! = u[k] := by rw [Int.toNat_natCast, getElem!_pos u k hku]
      rw [ex]
      refine New.cells (cs := [iV u[k]]) fun h2 E2 z2 B2 => ?_
      refine App.in_ (v := [u[k]]) (O1.ext E2) (RI.of_blk (n := h2.size) (l := [u[k]]) B2 (by omega) (List.prefix_refl _) (Nat.le_refl 1)) (by have := E1.1; omega) (by simp; omega) fun s3 h3 E3 O3 => ?_
      rw [w64_of (by omega) (by omega)]
      refine ih s3 h3 (by omega) (Ext.trans (E1.trans E2) E3) ?_
      have e : u.drop k = u[k] :: u.drop (k + 1) := List.drop_eq_getElem_cons hku
      rw [e, List.reverse_cons]
      exact O3
  rw [hl, w64_of (by omega) (by omega)]
  exact key u.length Sl.nil h (Nat.le_refl _) (Fw.refl _) (by simpa using Own.nil _ _ _)

theorem St.at_ {c k : Nat} {cs : List Value} {v : Value} {K : Heap → Prop} (B : Blk h c cs) (hk : k < cs.length) (hK : ∀ h', Blk h' c (cs.set k v) → (∀ d, d ≠ c → h'[d]? = h[d]?) → h'.size = h.size → K h') : St h (Addr.add (ad c 0) k) 1 [v] K := by
  rw [ad_add, Nat.zero_add]
  refine St.one B hk (hK _ B.set (fun d hd => hset_other (show c ≠ d from fun e => hd e.symm)) (hset_size _ _ _))

theorem lst_snoc {u : List Int} {x : Int} (hx : In x) : lst (u ++ [x]) = min (lst u) x := by
  rw [lst_append]
  show min (lst u) (min x 9223372036854775807) = _
  have := hx.2
  omega
theorem mst_snoc {u : List Int} {x : Int} (hx : In x) : mst (u ++ [x]) = max (mst u) x := by
  rw [mst_append]
  show max (mst u) (max x (-9223372036854775808)) = _
  have := hx.1
  omega
theorem hsh_snoc (u : List Int) (x : Int) : hsh (u ++ [x]) = (131 * hsh u + x % prime + 1) % prime := by
  show (u ++ [x]).foldl stp 0 = _
  rw [List.foldl_append]; rfl
theorem sum_snoc (u : List Int) (x : Int) : w64 (w64 u.sum + x) = w64 (u ++ [x]).sum := by
  rw [List.sum_append]
  simp only [w64, IntKind.wrap_i64, List.sum_cons, List.sum_nil]; omega

theorem measureOf_ok {s : Sl} {u : List Int} {n : Nat} {R : Int → Int → Int → Int → Int → Heap → Prop} (S : RI n h s u) (hn : n ≤ h.size) (hin : ∀ x ∈ u, In x) (hz : u.length ≤ 281474976710656)
    (H : ∀ h', Fw h h' → R (meas u).n (meas u).sum (meas u).least (meas u).most (meas u).hash h') : ref1_MeasureOf r s h R := by
  apply ref1_MeasureOf_of
  have hl := S.len
  refine New.cells fun h1 E1 z1 B1 => New.cells fun h2 E2 z2 B2 => St.whole B2 rfl rfl fun h3 B3 o3 z3 => ?_
  have E12 := E1.trans E2
  have hc1 := B1.lt
  have hcs : h.size ≤ h1.size := E1.1
  have E13 : Fw h h3 := E12.over hcs o3 z3
  have C3 := (E2.blk B1).other o3 (by omega)
  generalize h1.size = c at *
  intro X HX
  have key : ∀ (d i : Nat) (h4 : Heap), i + d = u.length → Fw h h4 → Blk h4 h.size [iV 0, iV 0, iV 0, iV 0, iV 0] → Blk h4 c [iV (u.length : Int), iV (w64 (u.take i).sum), iV (lst (u.take i)), iV (mst (u.take i)), iV (hsh (u.take i))] → X (i : Int) h4 := by
    intro d
    induction d with
    | zero =>
      intro i h4 hi E4 C4 B4
      rw [List.take_of_length_le (by omega)] at B4
      refine HX _ _ ⟨fun q => absurd (of_decide_eq_true q) (by omega), fun _ => ⟨_, B4.ld 0 rfl, _, B4.ld 1 rfl, _, B4.ld 2 rfl, _, B4.ld 3 rfl, _, B4.ld 4 rfl, ?_⟩⟩
      refine St.whole C4 rfl rfl fun h5 B5 o5 z5 => ⟨_, B5.ld 0 rfl, _, B5.ld 1 rfl, _, B5.ld 2 rfl, _, B5.ld 3 rfl, _, B5.ld 4 rfl, ?_⟩
      exact H h5 (E4.over (Nat.le_refl _) o5 z5)
    | succ d ih =>
      intro i h4 hi E4 C4 B4
      have hiu : i < u.length := by omega
      have hx := hin _ (List.getElem_mem hiu)
      have et : u.take (i + 1) = u.take i ++ [u[i]] := by rw [List.take_add_one, List.getElem?_eq_getElem hiu]; rfl
      have hh := hsh_in (u.take i)
      have ih := ih (i + 1)
      rw [et, lst_snoc hx, mst_snoc hx, hsh_snoc, ← sum_snoc] at ih
      have get : ∀ {h' : Heap} {K : Addr → Prop}, Fw h h' → (∀ p, hcell h' p = some (iV u[i]) → K p) → Ix s (i : Int) 1 K := fun E hK => RI.ix (S.ext E hn) (by omega) (by omega) fun p _ hp => hK p (by rw [hp, Int.toNat_natCast, getElem!_pos u i hiu])
      generalize u.take i = w at *
      generalize u[i] = x at *
      refine HX _ _ ⟨fun _ => ⟨_, B4.ld 1 rfl, get E4 fun p hp => ⟨_, hp, ?_⟩⟩, fun q => absurd (of_decide_eq_false q) (by omega)⟩
      refine St.at_ B4 (by simp) fun h5 B5 o5 z5 => ?_
      have E5 := E4.over hcs o5 z5
      have C5 := C4.other o5 (by omega)
      refine get E5 fun p hp => ⟨_, hp, _, B5.ld 2 rfl, ?_⟩
      intro J HJ
      have third : ∀ h6, Fw h h6 → Blk h6 h.size [iV 0, iV 0, iV 0, iV 0, iV 0] → Blk h6 c [iV (u.length : Int), iV (w64 (w64 w.sum + x)), iV (min (lst w) x), iV (mst w), iV (hsh w)] → J h6 := by
        intro h6 E6 C6 B6
        refine HJ _ (get E6 fun p hp => ⟨_, hp, _, B6.ld 3 rfl, ?_⟩)
        intro J2 HJ2
        have fourth : ∀ h7, Fw h h7 → Blk h7 h.size [iV 0, iV 0, iV 0, iV 0, iV 0] → Blk h7 c [iV (u.length : Int), iV (w64 (w64 w.sum + x)), iV (min (lst w) x), iV (max (mst w) x), iV (hsh w)] → J2 h7 := by
          intro h7 E7 C7 B7
          refine HJ2 _ ⟨_, B7.ld 4 rfl, get E7 fun p hp => ⟨_, hp, rmod_ok ⟨B7.ld 4 rfl, rmod_ok ?_⟩⟩⟩
          have hh0 : 0 ≤ hsh w := hh.1
          have hh1 : hsh w < 2147483647 := hh.2
          have hx0 : 0 ≤ x % 2147483647 := Int.emod_nonneg _ (by decide)
          have hx1 : x % 2147483647 < 2147483647 := Int.emod_lt_of_pos _ (by decide)
          have e : w64 (w64 (w64 (131 * hsh w) + x % prime) + 1) = 131 * hsh w + x % prime + 1 := by
            show w64 (w64 (w64 (131 * hsh w) + x % 2147483647) + 1) = 131 * hsh w + x % 2147483647 + 1
            rw [w64_of (n := 131 * hsh w) (by omega) (by omega), w64_of (n := 131 * hsh w + x % 2147483647) (by omega) (by omega), w64_of (by omega) (by omega)]
          rw [e]
          refine St.at_ B7 (by simp) fun h8 B8 o8 z8 => ?_
          rw [w64_of (n := (i : Int) + 1) (by omega) (by omega)]
          exact ih h8 (by omega) (E7.over hcs o8 z8) (C7.other o8 (by omega)) B8
        refine ⟨fun q => get E6 fun p hp => ⟨_, hp, ?_⟩, fun q => ?_⟩
        · have q := of_decide_eq_true q
          refine St.at_ B6 (by simp) fun h7 B7 o7 z7 => fourth h7 (E6.over hcs o7 z7) (C6.other o7 (by omega)) ?_
          rw [show max (mst w) x = x by omega]; exact B7
        · have q := of_decide_eq_false q
          refine fourth h6 E6 C6 ?_
          rw [show max (mst w) x = mst w by omega]; exact B6
      refine ⟨fun q => get E5 fun p hp => ⟨_, hp, ?_⟩, fun q => ?_⟩
      · have q := of_decide_eq_true q
        refine St.at_ B5 (by simp) fun h6 B6 o6 z6 => third h6 (E5.over hcs o6 z6) (C5.other o6 (by omega)) ?_
        rw [show min (lst w) x = x by omega]; exact B6
      · have q := of_decide_eq_false q
        refine third h5 E5 C5 ?_
        rw [show min (lst w) x = lst w by omega]; exact B5
  refine key u.length 0 h3 (by omega) E13 C3 ?_
  have e0 : w64 0 = 0 := by rw [w64_of] <;> omega
  simp only [List.take_zero, List.sum_nil, e0]
  rw [hl] at B3
  exact B3
end
end Go.Proofs.Ytmjljnbjoldeaaa
