/- Trees with both ends at hand: how many things stand left and right, level by level. -/
import Derived.Test.YtmjljnbjoldeaaaDigX
import Derived.Test.YtmjljnbjoldeaaaTreeQ
namespace Go.Proofs.Ytmjljnbjoldeaaa
open Go Go.RowKit Go.Tw Go.Mono Go.Fing
set_option linter.unusedVariables false

/-! ### Plain -/
def digs : Fing.F → List (Nat × Nat)
  | .nil => []
  | .one _ => [(1, 0)]
  | .deep l m u => (l.length, u.length) :: digs m
def dcells (ds : List (Nat × Nat)) : List Value := ds.flatMap fun d => [iV (d.1 : Int), iV (d.2 : Int)]
theorem dcells_len (ds : List (Nat × Nat)) : (dcells ds).length = ds.length * 2 := by
  induction ds with
  | nil => rfl
  | cons d ds ih => simp only [dcells, List.flatMap_cons, List.length_append, List.length_cons, List.length_nil] at ih ⊢; rw [ih]; omega
theorem dcells_snoc (ds : List (Nat × Nat)) (d : Nat × Nat) : dcells (ds ++ [d]) = dcells ds ++ [iV (d.1 : Int), iV (d.2 : Int)] := by simp [dcells]
theorem dcells_get : ∀ (ds : List (Nat × Nat)) (i : Nat) (hi : i < ds.length), (dcells ds)[i * 2]? = some (iV (ds[i].1 : Int)) ∧ (dcells ds)[i * 2 + 1]? = some (iV (ds[i].2 : Int))
  | [], i, hi => by simp at hi
  | d :: ds, 0, _ => ⟨rfl, rfl⟩
  | d :: ds, i + 1, hi => by
    have := dcells_get ds i (by simpa using hi)
    have e : dcells (d :: ds) = iV (d.1 : Int) :: iV (d.2 : Int) :: dcells ds := rfl
    rw [e, show (i + 1) * 2 = i * 2 + 1 + 1 by omega]
    simpa using this
def wsum : List (Nat × Nat) → Nat
  | [] => 0
  | d :: ds => d.1 + d.2 + 2 * wsum ds
theorem dep_len : ∀ (k : Nat) (t : Fing.T), t.dep k → 2 ^ k ≤ t.l.length
  | 0, t, h => by have := l_pos t; rw [Nat.pow_zero]; exact this
  | k + 1, t, h => by
    obtain ⟨h1, h2, h3⟩ := dep_kids h
    rw [← h2, Nat.pow_succ]
    rcases few_cases h1 with ⟨a, b, e⟩ | ⟨a, b, c, e⟩
    · rw [e] at h3 ⊢
      have := dep_len k a (h3 a (by simp))
      have := dep_len k b (h3 b (by simp))
      simp [ls]; omega
    · rw [e] at h3 ⊢
      have := dep_len k a (h3 a (by simp))
      have := dep_len k b (h3 b (by simp))
      simp [ls]; omega
theorem ls_len (k : Nat) : ∀ (ts : List Fing.T), (∀ t ∈ ts, t.dep k) → ts.length * 2 ^ k ≤ (ls ts).length
  | [], _ => by simp
  | t :: ts, h => by
    have := ls_len k ts fun u hu => h u (List.mem_cons_of_mem _ hu)
    have := dep_len k t (h t (List.mem_cons_self ..))
    rw [ls_cons, List.length_append, List.length_cons, Nat.succ_mul]; omega
theorem wsum_le : ∀ (v : Fing.F) (k : Nat), v.ok k → wsum (digs v) * 2 ^ k ≤ v.l.length
  | .nil, k, _ => by simp [digs, wsum]
  | .one t, k, h => by have := dep_len k t h; simpa [digs, wsum, Fing.F.l] using this
  | .deep l m u, k, ⟨h1, h2, h3⟩ => by
    have a := ls_len k l h1.2.2
    have b := ls_len k u h2.2.2
    have c := wsum_le m (k + 1) h3
    rw [Nat.pow_succ] at c
    simp only [digs, wsum, Fing.F.l, List.length_append]
    have e : (l.length + u.length + 2 * wsum (digs m)) * 2 ^ k = l.length * 2 ^ k + u.length * 2 ^ k + wsum (digs m) * (2 ^ k * 2) := by
      rw [Nat.add_mul, Nat.add_mul, Nat.mul_comm (2 ^ k) 2, ← Nat.mul_assoc, Nat.mul_comm (wsum (digs m)) 2]
    omega
/-- one to four, but for one alone at last -/
def Fits (ds : List (Nat × Nat)) : Prop := ∀ (i : Nat) (hi : i < ds.length), (i + 1 = ds.length ∧ ds[i] = (1, 0)) ∨ (1 ≤ ds[i].1 ∧ ds[i].1 ≤ 4 ∧ 1 ≤ ds[i].2 ∧ ds[i].2 ≤ 4)
theorem digs_fit : ∀ (v : Fing.F) (k : Nat), v.ok k → Fits (digs v)
  | .nil, k, _ => fun i hi => by simp [digs] at hi
  | .one t, k, _ => fun i hi => by
    have : i = 0 := by simp [digs] at hi; omega
    subst this; exact .inl ⟨rfl, rfl⟩
  | .deep l m u, k, ⟨h1, h2, h3⟩ => fun i hi => by
    cases i with
    | zero => exact .inr ⟨h1.1, h1.2.1, h2.1, h2.2.1⟩
    | succ i =>
      have hi' : i < (digs m).length := by simpa [digs] using hi
      rcases digs_fit m (k + 1) h3 i hi' with ⟨a, b⟩ | b
      · exact .inl ⟨by simp [digs]; omega, by simpa [digs] using b⟩
      · exact .inr (by simpa [digs] using b)
theorem pow_wsum : ∀ (ds : List (Nat × Nat)), Fits ds → ds ≠ [] → 2 ^ ds.length ≤ 2 * wsum ds
  | [], _, h => absurd rfl h
  | [d], F, _ => by
    have := F 0 (by simp)
    simp [wsum] at this ⊢
    rcases this with e | e
    · subst e; decide
    · omega
  | d :: e :: ds, F, _ => by
    have ih := pow_wsum (e :: ds) (fun i hi => by
      have := F (i + 1) (by simpa using hi)
      simpa using this) (by simp)
    rw [List.length_cons, Nat.pow_succ]
    have : wsum (d :: e :: ds) = d.1 + d.2 + 2 * wsum (e :: ds) := rfl
    omega
theorem wsum_take : ∀ (ds : List (Nat × Nat)) (i : Nat) (hi : i < ds.length), wsum (ds.take (i + 1)) = wsum (ds.take i) + 2 ^ i * (ds[i].1 + ds[i].2)
  | [], i, hi => by simp at hi
  | d :: ds, 0, _ => by simp [wsum]
  | d :: ds, i + 1, hi => by
    have ih := wsum_take ds i (by simpa using hi)
    have e1 : wsum ((d :: ds).take (i + 1 + 1)) = d.1 + d.2 + 2 * wsum (ds.take (i + 1)) := rfl
    have e2 : wsum ((d :: ds).take (i + 1)) = d.1 + d.2 + 2 * wsum (ds.take i) := rfl
    rw [e1, e2, ih, Nat.pow_succ, List.getElem_cons_succ, Nat.mul_add, Nat.mul_comm (2 ^ i) 2, Nat.mul_assoc]; omega
theorem wsum_mono : ∀ (ds : List (Nat × Nat)) (i : Nat), wsum (ds.take i) ≤ wsum ds
  | [], i => by simp
  | d :: ds, 0 => by simp [wsum]
  | d :: ds, i + 1 => by
    have := wsum_mono ds i
    have e2 : wsum ((d :: ds).take (i + 1)) = d.1 + d.2 + 2 * wsum (ds.take i) := rfl
    rw [e2]; simp only [wsum]; omega

/-! ### The functions -/
section
variable {r : World} {h : Heap} {q : Option Addr} {l : List Int}
theorem digits_ok {v : Fing.F} {R : Sl → Heap → Prop} (L : Lv Any h v q) (ok : v.ok 0) (hz : (digs v).length ≤ 1048576) (H : ∀ s h', Fw h h' → Own h.size 2 h' s (dcells (digs v)) → R s h') : finger_Tree_Digits r q h R := by
  apply finger_Tree_Digits_of
  refine New.cells fun h1 E1 z1 B1 => ⟨_, B1.ld 0 rfl, ?_⟩
  intro X HX
  have key : ∀ (u : Fing.F) (ds : List (Nat × Nat)) (s : Sl) (p : Option Addr) (h2 : Heap), digs v = ds ++ digs u → Lv Any h u p → Fw h h2 → Own h.size 2 h2 s (dcells ds) → X s p h2 := by
    intro u
    induction u with
    | nil =>
      intro ds s p h2 hd Lp E O
      have e : p = none := Lp
      subst e
      refine HX _ _ _ ⟨fun c => (by cases c), fun _ => H s h2 E ?_⟩
      rw [hd]; simpa [digs] using O
    | one t =>
      intro ds s p h2 hd Lp E O
      obtain ⟨c, sl, rfl, _, B, Dg⟩ := Lp
      have B2 := E.blk B
      have hsl : sl.len = 1 := by obtain ⟨ps, a, b⟩ := Dg; rw [a.len]; cases ps with
        | nil => exact b.elim
        | cons p ps => cases ps with
          | nil => rfl
          | cons p2 ps => exact b.2.elim
      refine HX _ _ _ ⟨fun _ => ⟨_, rfl, _, B2.ld 5 rfl, _, rfl, _, B2.ld 6 rfl, ?_⟩, fun c => (by cases c)⟩
      dsimp only
      rw [hsl]
      have hlen := O.rs.len
      rw [dcells_len] at hlen
      have hdl : ds.length + 1 = (digs v).length := by rw [hd]; simp [digs]
      refine App.push (cs := [iV 1, iV 0]) O rfl rfl (by simp [one]) E.1 (by omega) fun s' h4 G => ?_
      have E4 : Fw h h4 := E.trans' G.ext
      refine ⟨_, rfl, _, (E4.blk B).ld 7 rfl, ?_⟩
      refine HX _ _ _ ⟨fun c => (by cases c), fun _ => H s' h4 E4 ?_⟩
      have := G.own
      rw [hd]
      show Own _ _ _ _ (dcells (ds ++ [(1, 0)]))
      rw [dcells_snoc]; exact this
    | deep a m b ih =>
      intro ds s p h2 hd Lp E O
      obtain ⟨c, s1, s2, q2, rfl, _, B, D1, D2, Lm⟩ := Lp
      have B2 := E.blk B
      have hs1 : s1.len = a.length := by obtain ⟨ps, x, y⟩ := D1; rw [x.len]; exact y.len.symm
      have hs2 : s2.len = b.length := by obtain ⟨ps, x, y⟩ := D2; rw [x.len]; exact y.len.symm
      refine HX _ _ _ ⟨fun _ => ⟨_, rfl, _, B2.ld 5 rfl, _, rfl, _, B2.ld 6 rfl, ?_⟩, fun c => (by cases c)⟩
      dsimp only
      rw [hs1, hs2]
      have hlen := O.rs.len
      rw [dcells_len] at hlen
      have hdl : ds.length + 1 ≤ (digs v).length := by rw [hd]; simp [digs]
      refine App.push (cs := [iV (a.length : Int), iV (b.length : Int)]) O rfl rfl (by simp [one]) E.1 (by omega) fun s' h4 G => ?_
      have E4 : Fw h h4 := E.trans' G.ext
      refine ⟨_, rfl, _, (E4.blk B).ld 7 rfl, ?_⟩
      refine ih (ds ++ [(a.length, b.length)]) s' q2 h4 (by rw [hd]; simp [digs]) Lm E4 ?_
      rw [dcells_snoc]; exact G.own
  exact key v [] Sl.nil q h1 rfl L E1 (Own.nil _ _ _)

theorem asks_ok {c4 : Nat} {n : Int} (B4 : Blk h c4 [iV n]) : AskV r (.func (.func 28) #[] #[.pointer (some (ad c4 0))]) (fun s => decide (n < (s.length : Int))) h := by
  intro h' E s hs K HK
  have g4 : ∀ {g}, Fw h' g → hcell g (ad c4 0) = some (iV n) := fun E' => by have := ((E.trans E').blk B4).ld 0 (v := iV n) rfl; rwa [ad_add] at this
  have main : law3_FingerDigits_1 r (meas s).n (meas s).sum (meas s).least (meas s).most (meas s).hash (ad c4 0) h' fun y h'' => K (.bool y) h'' := by
    apply law3_FingerDigits_1_of
    exact New.cells fun h1 E1 z1 B1 => ⟨_, B1.ld 0 rfl, _, g4 E1, HK h1 E1⟩
  exact .inl ⟨_, _, _, rfl, Try.call28, CallsH.mono main fun v h'' ⟨y, hv, hR⟩ => by rw [hv]; exact hR⟩

theorem ix2 {s : Sl} {ds : List (Nat × Nat)} {i : Nat} {h' : Heap} {N : Nat} {K : Addr → Prop} (O : Own N 2 h s (dcells ds)) (E : Fw h h') (hi : i < ds.length)
    (hK : ∀ p, hcell h' (Addr.add p 0) = some (iV (ds[i].1 : Int)) → hcell h' (Addr.add p 1) = some (iV (ds[i].2 : Int)) → K p) : Ix s (i : Int) 2 K := by
  have O' := (O.ext E).rs
  have hlen := O'.len
  rw [dcells_len] at hlen
  obtain ⟨e1, e2⟩ := dcells_get ds i hi
  refine Rs.ix O' (by omega) (by omega) (by decide) fun b o _ _ hc => hK _ ?_ ?_
  · rw [ad_add]; have := hc 0 (by decide); rw [this, Int.toNat_natCast]; exact e1
  · rw [ad_add]; have := hc 1 (by decide); rw [this, Int.toNat_natCast]; exact e2

theorem digits_law {l1 m2 : Sl} {m : List Int} {n : Int} (hl1 : RI h.size h l1 l) (hm1 : RI h.size h m2 m) (hin : ∀ x ∈ l, In x) (hin2 : ∀ x ∈ m, In x) (hz : l.length ≤ 17592186044416) (hz2 : m.length ≤ 17592186044416) :
    law3_FingerDigits r l1 m2 n h fun y h' => y = true ∧ Ext h.size h h' := by
  apply law3_FingerDigits_of
  refine New.cells (cs := [iV n]) fun h1 E1 z1 B1 => fingered_ok fun h2 E2 => ⟨fun c => (by cases c), fun _ => ?_⟩
  have E02 := E1.trans E2
  refine tof_ok (A := Any) (hl1.ext E02 (Nat.le_refl _)) E02.1 hin (by omega) any fun q1 h3 E3 T1 => ?_
  have E03 := E02.trans E3
  refine tof_ok (A := Any) (hm1.ext E03 (Nat.le_refl _)) E03.1 hin2 (by omega) any fun q2 h4 E4 T2 => ?_
  refine tjoin_ok (T1.fw E4) T2 (by omega) any fun q3 h5 E5 T3 => ?_
  have E05 := (E03.trans E4).trans E5
  have B5 := (((E2.trans E3).trans E4).trans E5).blk B1
  refine tsplit_ok T3 (asks_ok B5) (by simp; omega) any fun a b qa qb h6 E6 hs Ta Tb => ?_
  have hab : a.length + b.length = l.length + m.length := by
    have := congrArg List.length hs.all
    simpa using this
  refine New.cells fun h7 E7 z7 B7 => New.cells fun h8 E8 z8 B8 => ?_
  refine St.whole (E8.blk B7) rfl rfl fun h9 B9 o9 z9 => ?_
  refine St.whole (B8.other o9 (by omega)) rfl rfl fun h10 B10 o10 z10 => ?_
  have C9 := B9.other o10 (by have := E7.1; omega)
  have E610 : Fw h6 h10 := ((E7.trans E8).over (Nat.le_refl _) o9 z9).over (by have := E7.1; omega) o10 z10
  refine ⟨_, C9.ld 0 rfl, _, B10.ld 0 rfl, _, B10.ld 0 rfl, _, C9.ld 0 rfl, ?_⟩
  refine tjoin_ok (Tb.fw E610) (Ta.fw E610) (by omega) any fun qc h11 E11 Tc => ⟨(E11.blk B10).ld 0 rfl, (E11.blk C9).ld 0 rfl, ?_⟩
  refine New.cells (cs := [.pointer qa, .pointer qb, .pointer qc]) fun h12 E12 z12 B12 => ?_
  have E012 := (((E05.trans E6).trans E610).trans E11).trans E12
  have Ta := Ta.fw ((E610.trans E11).trans E12)
  have Tb := Tb.fw ((E610.trans E11).trans E12)
  have Tc := Tc.fw E12
  generalize h11.size = bt at *
  intro X HX
  -- one tree
  have one : ∀ (k : Nat) (qk : Option Addr) (u : List Int) (h13 : Heap), Fw h12 h13 → [Value.pointer qa, Value.pointer qb, Value.pointer qc][k]? = some (.pointer qk) → TA h12 qk u → u.length ≤ 35184372088832 → (∀ h', Fw h12 h' → X ((k : Int) + 1) h') → X (k : Int) h13 := by
    intro k qk u h13 E13 hk Tk hu HN
    have hk3 : k < 3 := by
      have := (List.getElem?_eq_some_iff.1 hk).1
      simpa using this
    have ix : ∀ {h' : Heap} {K : Addr → Prop}, Fw h12 h' → (∀ p, hcell h' (Addr.add p 0) = some (.pointer qk) → K p) → Ix (⟨some (ad bt 0), 3, 3⟩ : Sl) (k : Int) 1 K := by
      intro h' K E' hK
      refine Ix.mk (b := bt) (o := 0) rfl (by omega) (by show (k : Int) < 3; omega) (hK _ ?_)
      rw [ad_add]
      have := (E'.blk B12).cell k
      rw [Int.toNat_natCast, Nat.mul_one, Nat.zero_add, Nat.add_zero, this]; exact hk
    refine HX _ _ ⟨fun _ => ?_, fun c => absurd (of_decide_eq_false c) (by show ¬ ¬ ((k : Int) < 3); omega)⟩
    refine ix E13 fun p hp => ⟨_, hp, ?_⟩
    obtain ⟨v, ok, hv, L⟩ := Tk.fw E13
    have fit := digs_fit v 0 ok
    have hws := wsum_le v 0 ok
    rw [hv, Nat.pow_zero, Nat.mul_one] at hws
    have hpw : (digs v).length = 0 ∨ 2 ^ (digs v).length ≤ 70368744177664 := by
      cases hd : digs v with
      | nil => exact .inl rfl
      | cons d ds =>
        have := pow_wsum (digs v) fit (by rw [hd]; simp)
        rw [hd] at this hws
        exact .inr (by omega)
    have hdl : (digs v).length ≤ 46 := by
      rcases hpw with e | e
      · omega
      · apply Nat.le_of_not_lt; intro c
        have := Nat.pow_le_pow_right (n := 2) (by omega) (show 47 ≤ (digs v).length by omega)
        omega
    refine digits_ok L ok (by omega) fun s h14 E14 O => ?_
    have hsl := O.rs.len
    rw [dcells_len] at hsl
    have hsl : s.len = (digs v).length := by omega
    have E1214 := E13.trans E14
    intro X51 HX51
    have loop : ∀ (d i : Nat), i + d = (digs v).length → X51 (wsum ((digs v).take i) : Int) ((2 ^ i : Nat) : Int) (i : Int) := by
      intro d
      induction d with
      | zero =>
        intro i hi
        refine HX51 _ _ _ ⟨fun c => absurd (of_decide_eq_true c) (by omega), fun _ => ?_⟩
        rw [List.take_of_length_le (by omega)]
        intro J HJ
        have Tk14 := Tk.fw E1214
        refine ix E1214 fun p hp => ⟨_, hp, tmeasure_ok Tk14 fun h16 E16 => ⟨fun c => ?_, fun c => ?_⟩⟩
        · have c : ((u.length : Nat) : Int) < (wsum (digs v) : Int) := of_decide_eq_true c
          omega
        · refine ix (E1214.trans E16) fun p hp => ⟨_, hp, tmeasure_ok (Tk14.fw E16) fun h17 E17 => ?_⟩
          have ee : ((decide (((s.len : Int)) = 0)) != (decide ((meas u).n = 0))) = false := by
            have e : ((s.len : Int) = 0) ↔ ((meas u).n = 0) := by
              show (s.len : Int) = 0 ↔ (u.length : Int) = 0
              rw [hsl]
              cases v with
              | nil => have e0 : u = [] := by rw [← hv]; rfl
                       subst e0; simp [digs]
              | one t => have := l_pos t
                         have e0 : t.l = u := hv
                         rw [← e0]; simp [digs]; intro e; rw [e] at this; simp at this
              | deep a m b =>
                have h0 := ls_pos ok.1.ne
                have e0 : ls a ++ (m.l ++ ls b) = u := hv
                rw [← e0]; simp [digs]; omega
            simp only [e, bne_self_eq_false]
          rw [ee]
          refine HJ _ _ ⟨fun c => (by cases c), fun _ => ?_⟩
          rw [w64_of (by omega) (by omega)]
          exact HN _ ((E1214.trans E16).trans E17)
      | succ d ih =>
        intro i hi
        have hil : i < (digs v).length := by omega
        have hpi : 2 ^ i * 2 ≤ 70368744177664 := by
          rcases hpw with e | e
          · omega
          · have := Nat.pow_le_pow_right (n := 2) (by omega) (show i + 1 ≤ (digs v).length by omega)
            rw [Nat.pow_succ] at this
            omega
        have hwi := wsum_take (digs v) i hil
        have hw2 := wsum_mono (digs v) (i + 1)
        have hfi := fit i hil
        refine HX51 _ _ _ ⟨fun _ => ?_, fun c => absurd (of_decide_eq_false c) (by omega)⟩
        have ix2 : ∀ {K : Addr → Prop}, (∀ p, hcell h14 (Addr.add p 0) = some (iV ((digs v)[i].1 : Int)) → hcell h14 (Addr.add p 1) = some (iV ((digs v)[i].2 : Int)) → K p) → Ix s (i : Int) 2 K := fun hK => Go.Proofs.Ytmjljnbjoldeaaa.ix2 O (Fw.refl _) hil hK
        have next : ∀ J56 : Bool → Prop, (∀ x55 : Bool, Br x55 (False) (X51 (wsum ((digs v).take (i + 1)) : Int) ((2 ^ (i + 1) : Nat) : Int) ((i + 1 : Nat) : Int)) → J56 x55) → J56 false := fun J56 H56 => H56 _ ⟨fun c => (by cases c), fun _ => ih (i + 1) (by omega)⟩
        generalize (digs v)[i] = di at *
        obtain ⟨d1, d2⟩ := di
        dsimp only at *
        have e1 : w64 ((wsum ((digs v).take i) : Int) + w64 (((2 ^ i : Nat) : Int) * w64 ((d1 : Int) + (d2 : Int)))) = (wsum ((digs v).take (i + 1)) : Int) := by
          have a : w64 ((d1 : Int) + (d2 : Int)) = ((d1 + d2 : Nat) : Int) := by
            rcases hfi with ⟨_, hf⟩ | hf
            · injection hf with f1 f2; subst f1; subst f2; rfl
            · rw [w64_of] <;> omega
          rw [a, ← Int.natCast_mul, hwi]
          generalize 2 ^ i * (d1 + d2) = z at *
          rw [w64_of (n := (z : Int)) (by omega) (by omega), w64_of (by omega) (by omega)]; omega
        have e2 : w64 (2 * ((2 ^ i : Nat) : Int)) = ((2 ^ (i + 1) : Nat) : Int) := by
          rw [Nat.pow_succ]; rw [w64_of] <;> omega
        have e3 : w64 ((i : Int) + 1) = ((i + 1 : Nat) : Int) := by rw [w64_of] <;> omega
        have go : X51 (w64 ((wsum ((digs v).take i) : Int) + w64 (((2 ^ i : Nat) : Int) * w64 ((d1 : Int) + (d2 : Int))))) (w64 (2 * ((2 ^ i : Nat) : Int))) (w64 ((i : Int) + 1)) := by
          rw [e1, e2, e3]; exact ih (i + 1) (by omega)
        intro J53 HJ53
        have fin : ∀ alone : Bool, (alone = false → 1 ≤ d1 ∧ d1 ≤ 4 ∧ 1 ≤ d2 ∧ d2 ≤ 4) → J53 alone := by
          intro alone ha
          refine HJ53 _ fun J56 HJ56 => ?_
          have out : J56 false := HJ56 _ ⟨fun c => (by cases c), fun _ => ix2 fun p p0 p1 => ⟨_, p0, ix2 fun p' p0' p1' => ⟨_, p1', fun x hx => by rw [hx]; exact go⟩⟩⟩
          refine ⟨fun c => ?_, fun _ => out⟩
          have ha := ha (by cases alone with | true => cases c | false => rfl)
          refine ix2 fun p p0 p1 => ⟨_, p0, fun c => absurd (of_decide_eq_true c) (by omega), fun _ => ix2 fun p p0 p1 => ⟨_, p0, fun c => absurd (of_decide_eq_true c) (by omega), fun _ => ix2 fun p p0 p1 => ⟨_, p1, fun c => absurd (of_decide_eq_true c) (by omega), fun _ => ix2 fun p p0 p1 => ⟨_, p1, ?_⟩⟩⟩⟩
          dsimp only
          rw [decide_eq_false (by omega : ¬ (4 : Int) < (d2 : Int))]; exact out
        have el : w64 ((s.len : Int) - 1) = (s.len : Int) - 1 := by rw [w64_of] <;> omega
        rw [el]
        refine ⟨fun c => ix2 fun p p0 p1 => ⟨_, p0, _, p1, fin _ fun c2 => ?_⟩, fun c => fin _ fun _ => ?_⟩
        · have c2 := of_decide_eq_false c2
          rcases hfi with ⟨_, hf⟩ | hf
          · injection hf with f1 f2
            exact absurd ⟨by omega, by omega⟩ c2
          · exact hf
        · have c := of_decide_eq_false c
          rcases hfi with ⟨hf, _⟩ | hf
          · exact absurd (by omega) c
          · exact hf
    exact loop (digs v).length 0 (by omega)
  have last : ∀ h', Fw h12 h' → X 3 h' := fun h' E' => HX _ _ ⟨fun c => absurd (of_decide_eq_true c) (by show ¬ ((3 : Int) < 3); omega), fun _ => ⟨rfl, (E012.trans E')⟩⟩
  refine one 0 qa a h12 (Fw.refl _) rfl Ta (by omega) fun h' E' => ?_
  refine one 1 qb b h' E' rfl Tb (by omega) fun h' E' => ?_
  refine one 2 qc (b ++ a) h' E' rfl Tc (by simp; omega) fun h' E' => ?_
  exact last h' E'
end
end Go.Proofs.Ytmjljnbjoldeaaa
