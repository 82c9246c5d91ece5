/- All beginnings: 'pairs'. -/
import Derived.Test.YtcafckgflpmfgaaDoorDScanP
namespace Go.Proofs.YtcafckgflpmfgaaDoor
open Go Go.RowKit Go.Tw Go.Scan
set_option linter.unusedVariables false
section
variable {r : World} {h : Heap}

theorem chunk_ok {N : Nat} {F : List (Nat × Sl × List Value)} {l3 : Sl} {R : Value → Heap → Prop} (A : Fam N h F) (hN : N ≤ h.size)
    (H : ∀ b3 b6 h', Fam N h' ((1, ⟨some (ad b6 0), 1, 1⟩, [iV 2]) :: (1, ⟨some (ad b3 0), 1, 1⟩, [Sl.v l3]) :: F) → Ext h.size h h' → R (.func (.func 133) #[] #[.pointer (some (ad b3 0)), .pointer (some (ad b6 0))]) h') : slices_Chunk_int_int r l3 2 h R := by
  apply slices_Chunk_int_int_of
  intro p3 h1 hp hh
  subst hp; subst hh
  have A1 := push_own (el := 22) (v := Sl.v l3) hN A
  have E1 : Ext h.size h (h.push (.cells #[Sl.v l3] 22)) := Ext.push (Nat.le_refl _)
  generalize h.push (.cells #[Sl.v l3] 22) = h1 at A1 E1 ⊢
  intro p6 h2 hp hh
  subst hp; subst hh
  have A2 := push_own (el := 3) (v := iV 2) (Nat.le_trans hN E1.1) A1
  have E2 : Ext h.size h (h1.push (.cells #[iV 2] 3)) := E1.trans (Ext.push E1.1)
  refine ⟨2, (A2.ownI (j := 0) rfl).cell (o := 0) rfl rfl, ?_⟩
  intro J HJ
  exact ⟨fun q => absurd (of_decide_eq_true q) (by decide), fun _ => HJ _ (H _ _ _ A2 E2)⟩

theorem pairs_ok {n : Nat} {o1 : Int} {fv : Value} {g : Int → Int → Int} {l3 : Sl} {l : List Int} {R : Sl → Heap → Prop} (hf : OpV r fv g) (hl : RI n h l3 l) (hn : n ≤ h.size) (hz : l.length ≤ 17592186043904)
    (H : ∀ s h', Own h.size 1 h' s ((pairs g l).map iV) → Ext h.size h h' → R s h') : scan_op_pairs r o1 fv l3 h R := by
  apply scan_op_pairs_of
  intro p4 ha hp4 hha
  subst hp4; subst hha
  have A1 := (Fam.none h.size h).new (el := 106) (sz := 1) (vs := [iV o1, fv]) (Nat.le_refl _) (n := 2) rfl
  have E1 : Ext h.size h (h.push (.cells #[iV o1, fv] 106)) := Ext.push (Nat.le_refl _)
  generalize h.push (.cells #[iV o1, fv] 106) = h1 at A1 E1 ⊢
  intro p7 hb hp7 hhb
  subst hp7; subst hhb
  have A2 := push_own (el := 22) (v := Sl.v Sl.nil) E1.1 A1
  have E2 := E1.trans (Ext.push (x := .cells #[Sl.v Sl.nil] 22) E1.1)
  generalize h1.size = b7 at A2 ⊢
  generalize h1.push (.cells #[Sl.v Sl.nil] 22) = h2 at A2 E2 ⊢
  refine chunk_ok A2 E2.1 fun b3 b6 h3 A3 E3 => ?_
  have E3 := E2.trans (E3.mono E2.1)
  intro D o h4 hD hh4 hno HY
  have E4 : Ext h.size h h4 := by subst hh4; exact (E3.trans (Ext.push E3.1)).trans (Ext.push (Nat.le_trans E3.1 (by simp)))
  have A4 : Fam h.size h4 ((1, ⟨some (ad b7 0), 1, 1⟩, [Sl.v Sl.nil]) :: (1, Sl.nil, ([] : List Int).map iV) :: (1, ⟨some (ad h.size 0), 2, 2⟩, [iV o1, fv]) :: (1, ⟨some (ad b3 0), 1, 1⟩, [Sl.v l3]) :: [(1, ⟨some (ad b6 0), 1, 1⟩, [iV 2])]) := by
    have h0 : Fam h.size h4 _ := A3.ext (by subst hh4; exact (Ext.push (Nat.le_refl _)).trans (Ext.push (by simp)))
    have h0 := h0.empty 1
    exact h0.perm (perm5 _ _ _ _ _)
  have hDe : h4[D]? = some (.deferred (some [])) := by
    subst hh4; rw [push_old (by simp [hD]), hD]; simp
  have hLo : h4[D + 1]? = some o := by
    subst hh4; rw [hD, Array.getElem?_push, if_pos (by simp)]
  refine ⟨_, _, _, rfl, Tryd.call133, ?_⟩
  have fin : ∀ (out : Sl) (h5 : Heap), Fam h.size h5 ((1, ⟨some (ad b7 0), 1, 1⟩, [Sl.v out]) :: (1, out, (pairs g l).map iV) :: (1, ⟨some (ad h.size 0), 2, 2⟩, [iV o1, fv]) :: (1, ⟨some (ad b3 0), 1, 1⟩, [Sl.v l3]) :: [(1, ⟨some (ad b6 0), 1, 1⟩, [iV 2])]) → h5[D + 1]? = some o → h5[D]? = some (.deferred (some [])) → Ext h.size h h5 →
      (h5[D + 1]? = some o) ∧ ∀ (o20 : Obj) (h7 : Heap), h7 = hput h5 (D + 1) o20 → LdS h7 (ad b7 0) fun x70 => (h7[D]? = some (.deferred (some []))) ∧ ∀ h16 : Heap, h16 = hput h7 D (.deferred none) → R x70 h16 := by
    intro out h5 A5 hL hDd E5
    refine ⟨hL, fun o20 h7 hh7 => ?_⟩
    subst hh7
    have A7 := A5.hput (o := o20) hL hno
    have d7 : (hput h5 (D + 1) o20)[D]? = some (.deferred (some [])) := by rw [hput_other (by omega)]; exact hDd
    refine ⟨out, (A7.ownI (j := 0) rfl).cell (o := 0) rfl rfl, d7, fun h16 hh16 => ?_⟩
    subst hh16
    have A8 := A7.hput (o := .deferred none) d7 rfl
    exact H out _ (A8.ownI (j := 1) rfl) ((E5.trans (Ext.hput (by have := E3.1; omega))).trans (Ext.hput (by have := E3.1; omega)))
  have main : slices_Chunk_int_int_1 r (.func (.yield (D + 1)) #[] #[]) (ad b3 0) (ad b6 0) h4 fun h5 => (h5[D + 1]? = some o) ∧ ∀ (o20 : Obj) (h7 : Heap), h7 = hput h5 (D + 1) o20 → LdS h7 (ad b7 0) fun x70 => (h7[D]? = some (.deferred (some []))) ∧ ∀ h16 : Heap, h16 = hput h7 D (.deferred none) → R x70 h16 := by
    apply slices_Chunk_int_int_1_of
    intro X5 HX5
    have hlen := hl.len
    have stop : ∀ (i : Nat) (out : Sl) (h5 : Heap), l.length ≤ i → Fam h.size h5 ((1, ⟨some (ad b7 0), 1, 1⟩, [Sl.v out]) :: (1, out, (pairs g l).map iV) :: (1, ⟨some (ad h.size 0), 2, 2⟩, [iV o1, fv]) :: (1, ⟨some (ad b3 0), 1, 1⟩, [Sl.v l3]) :: [(1, ⟨some (ad b6 0), 1, 1⟩, [iV 2])]) → h5[D + 1]? = some o → h5[D]? = some (.deferred (some [])) → Ext h.size h h5 → X5 (i : Int) h5 := by
      intro i out h5 hi A5 hL hDd E5
      exact HX5 _ _ ⟨l3, (A5.ownI (j := 3) rfl).cell (o := 0) rfl rfl, fun q => absurd (of_decide_eq_true q) (by omega), fun _ => fin out h5 A5 hL hDd E5⟩
    have key : ∀ d (k : Nat) (out : Sl) (h5 : Heap), l.length - 2 * k ≤ d → 2 * k ≤ l.length → Fam h.size h5 ((1, ⟨some (ad b7 0), 1, 1⟩, [Sl.v out]) :: (1, out, (pairs g (l.take (2 * k))).map iV) :: (1, ⟨some (ad h.size 0), 2, 2⟩, [iV o1, fv]) :: (1, ⟨some (ad b3 0), 1, 1⟩, [Sl.v l3]) :: [(1, ⟨some (ad b6 0), 1, 1⟩, [iV 2])]) → h5[D + 1]? = some o → h5[D]? = some (.deferred (some [])) → Ext h.size h h5 → X5 ((2 * k : Nat) : Int) h5 := by
      intro d
      induction d with
      | zero =>
        intro k out h5 hd hk A5 hL hDd E5
        rw [List.take_of_length_le (by omega)] at A5
        exact stop _ out h5 (by omega) A5 hL hDd E5
      | succ d ih =>
        intro k out h5 hd hk A5 hL hDd E5
        by_cases hkl : l.length ≤ 2 * k
        · rw [List.take_of_length_le (by omega)] at A5
          exact stop _ out h5 (by omega) A5 hL hDd E5
        have m3 : hcell h5 (ad b3 0) = some (Sl.v l3) := (A5.ownI (j := 3) rfl).cell (o := 0) rfl rfl
        have m6 : hcell h5 (ad b6 0) = some (iV 2) := (A5.ownI (j := 4) rfl).cell (o := 0) rfl rfl
        have hcap := hl.cap
        refine HX5 _ _ ⟨l3, m3, fun _ => ⟨2, m6, l3, m3, ?_⟩, fun q => absurd (of_decide_eq_false q) (by omega)⟩
        refine ⟨by omega, by omega, by omega, Int.le_refl _, fun s12 hs12 => ⟨l3, m3, ?_⟩⟩
        have hs12l : s12.len = l.length - 2 * k := by rw [hs12]; simp; omega
        obtain ⟨m, hm, hm1, hm2, hm3, hm4⟩ : ∃ m : Nat, min 2 (s12.len : Int) = (m : Int) ∧ 1 ≤ m ∧ m ≤ 2 ∧ 2 * k + m ≤ l.length ∧ (m = 1 → l.length = 2 * k + 1) :=
          ⟨min 2 (l.length - 2 * k), by rw [hs12l]; omega, by omega, by omega, by omega, by omega⟩
        rw [hm, show w64 (((2 * k : Nat) : Int) + (m : Int)) = ((2 * k + m : Nat) : Int) by rw [w64_of] <;> omega]
        refine ⟨by omega, by omega, Int.le_refl _, by omega, fun s20 hs20 => ?_⟩
        have hs : s20 = ⟨sliceA l3.a (2 * k + m) (2 * k) 1, 2 * k + m - 2 * k, 2 * k + m - 2 * k⟩ := by
          rw [hs20]; simp only [Int.toNat_natCast]
        have body : ∀ K13 : Value → Heap → Prop, (∀ s' h12, Fam h.size h12 ((1, ⟨some (ad b7 0), 1, 1⟩, [Sl.v s']) :: (1, s', (pairs g (l.take (2 * k + m))).map iV) :: (1, ⟨some (ad h.size 0), 2, 2⟩, [iV o1, fv]) :: (1, ⟨some (ad b3 0), 1, 1⟩, [Sl.v l3]) :: [(1, ⟨some (ad b6 0), 1, 1⟩, [iV 2])]) → h12[D + 1]? = some o → h12[D]? = some (.deferred (some [])) → Ext h.size h h12 → K13 (.bool true) h12) → YieldH Tryd.prog r (D + 1) [Sl.v s20] h5 K13 := by
          intro K13 hK13
          refine HY s20 h5 K13 hL fun h8 hh8 => ?_
          subst hh8
          have A8 := A5.hput (o := busyO o) hL hno
          have hnb := notCells_busy hno
          have L8 : (hput h5 (D + 1) (busyO o))[D + 1]? = some (busyO o) := hput_self hL
          have D8 : (hput h5 (D + 1) (busyO o))[D]? = some (.deferred (some [])) := by rw [hput_other (by omega)]; exact hDd
          have E8 := E5.trans (Ext.hput (n := h.size) (b := D + 1) (o := busyO o) (by have := E3.1; omega))
          have R8 : Rs n 1 (hput h5 (D + 1) (busyO o)) s20 (((l.drop (2 * k)).take m).map iV) := by
            have h1 := (Rs.ext hl E5 hn).hput (o := busyO o) hL hno
            have h2 := h1.sub (lo := 2 * k) (hi := 2 * k + m) (mx := 2 * k + m) (by omega) (by simp; omega) (Nat.le_refl _)
            rw [hs, List.map_take, List.map_drop]
            rwa [Nat.add_sub_cancel_left] at h2 ⊢
          generalize hput h5 (D + 1) (busyO o) = h8 at A8 L8 D8 E8 R8 ⊢
          have n7 : hcell h8 (ad b7 0) = some (Sl.v out) := (A8.ownI (j := 0) rfl).cell (o := 0) rfl rfl
          have hs20l : s20.len = m := by rw [hs]; simp
          -- a number is put behind
          have put : ∀ (z : Int) (K13 : Value → Heap → Prop), (∀ s' h12, Fam h.size h12 ((1, ⟨some (ad b7 0), 1, 1⟩, [Sl.v s']) :: (1, s', (pairs g (l.take (2 * k)) ++ [z]).map iV) :: (1, ⟨some (ad h.size 0), 2, 2⟩, [iV o1, fv]) :: (1, ⟨some (ad b3 0), 1, 1⟩, [Sl.v l3]) :: [(1, ⟨some (ad b6 0), 1, 1⟩, [iV 2])]) → h12[D + 1]? = some o → h12[D]? = some (.deferred (some [])) → Ext h.size h h12 → K13 (.bool true) h12) →
              New h8 (.cells #[(.int .i64 z)] 3) fun p44 h10 => (hcell h10 (ad b7 0) = some (Sl.v out)) ∧ App 3 1 8 (.int .i64 0) out ((⟨some p44, 1, 1⟩ : Sl)) h10 fun s48 h11 => St h11 (ad b7 0) 1 [(Sl.v s48)] fun h12 => (h12[D + 1]? = some (busyO o)) ∧ K13 (.bool true) (hput h12 (D + 1) o) := by
            intro z K13 hK p44 h10 hp hh
            subst hp; subst hh
            have A9 := push_own (el := 3) (v := iV z) E8.1 A8
            have E9 := E8.trans (Ext.push (x := .cells #[iV z] 3) E8.1)
            have L9 : (h8.push (.cells #[iV z] 3))[D + 1]? = some (busyO o) := by rw [push_old (Array.getElem?_eq_some_iff.1 L8).1]; exact L8
            have D9 : (h8.push (.cells #[iV z] 3))[D]? = some (.deferred (some [])) := by rw [push_old (Array.getElem?_eq_some_iff.1 D8).1]; exact D8
            generalize h8.size = b44 at A9 ⊢
            generalize h8.push (.cells #[iV z] 3) = h10 at A9 E9 L9 D9 ⊢
            refine ⟨(A9.ownI (j := 1) rfl).cell (o := 0) rfl rfl, ?_⟩
            refine Fam.app2 (j := 2) A9 rfl rfl rfl E9.1 (by have := pairs_len g (l.take (2 * k)); simp at this ⊢; omega) ((A9.ownI (j := 0) rfl).cell (o := 0) rfl rfl) fun s48 h11 A11 E11 keep => ?_
            have E11 := E9.trans E11
            have L11 := keep _ _ L9 hnb
            have D11 := keep _ _ D9 rfl
            have O7 := A11.ownI (j := 1) rfl
            refine St.one' (b := b7) (o := 0) O7 rfl (by simp) ?_
            have A12 := A11.setI (j := 1) (o := 0) (v := Sl.v s48) rfl rfl (by simp)
            have L12 := O7.keeps_set (k := 0) (v := Sl.v s48) rfl L11 hnb
            have D12 := O7.keeps_set (k := 0) (v := Sl.v s48) rfl D11 rfl
            have E12 := E11.trans (Ext.set (n := h.size) (a := ad b7 0) (v := Sl.v s48) (O7.lt' rfl).2)
            refine ⟨L12, hK s48 _ ?_ (hput_self L12) (by rw [hput_other (by omega)]; exact D12) (E12.trans (Ext.hput (by have := E3.1; omega)))⟩
            have A13 := (A12.hput (o := o) L12 hnb).tail
            rw [List.map_append]; exact A13
          have getC : ∀ (i : Nat), i < m → ∀ {K : Addr → Prop}, (∀ q, hcell h8 q = some (iV (l[2 * k + i]!)) → K q) → Ix s20 (i : Int) 1 K := fun i hi K hK => by
            refine RI.ix R8 (by omega) (by simp; omega) fun q _ hq => hK q ?_
            have h1 : 2 * k + i < l.length := by omega
            rw [hq, Int.toNat_natCast, getElem!_pos l _ h1, getElem!_pos _ i (by simp; omega)]
            simp
          have f4 : hcell h8 (Addr.add (ad h.size 0) 1) = some fv := (A8.ownI (j := 2) rfl).cell (b := h.size) (o := 1) rfl rfl
          rw [hs20l]
          refine ⟨fun q => ?_, fun q => ?_⟩
          · have q : m = 2 := by have := of_decide_eq_true q; omega
            refine ⟨out, n7, fv, f4, getC 0 (by omega) fun q1 hq1 => ⟨_, hq1, getC 1 (by omega) fun q2 hq2 => ⟨_, hq2, ?_⟩⟩⟩
            refine hf h8 _ _ _ ⟨_, rfl, n7, ?_⟩
            refine put _ K13 fun s' h12 A12 L12 D12 E12 => hK13 s' h12 ?_ L12 D12 E12
            rw [q, show 2 * k + 2 = 2 * (k + 1) by omega]
            have e : l.take (2 * (k + 1)) = l.take (2 * k) ++ [l[2 * k + 0]!, l[2 * k + 1]!] := by
              have t1 : l.take (2 * k + 1) = l.take (2 * k) ++ [l[2 * k]] := by rw [List.take_add_one, List.getElem?_eq_getElem (by omega)]; rfl
              have t2 : l.take (2 * k + 1 + 1) = l.take (2 * k + 1) ++ [l[2 * k + 1]] := by rw [List.take_add_one, List.getElem?_eq_getElem (by omega)]; rfl
              rw [show 2 * (k + 1) = 2 * k + 1 + 1 by omega, t2, t1, List.append_assoc, getElem!_pos l _ (by omega), getElem!_pos l _ (by omega)]; rfl
            rw [e, pairs_snoc _ k _ _ (by simp; omega)]
            exact A12
          · have q : m = 1 := by have := of_decide_eq_false q; omega
            have hl1 := hm4 q
            refine ⟨out, n7, getC 0 (by omega) fun q1 hq1 => ⟨_, hq1, ?_⟩⟩
            refine put _ K13 fun s' h12 A12 L12 D12 E12 => hK13 s' h12 ?_ L12 D12 E12
            rw [List.take_of_length_le (by omega)]
            have e : l = l.take (2 * k) ++ [l[2 * k + 0]!] := by
              conv => lhs; rw [← List.take_append_drop (2 * k) l, List.drop_eq_getElem_cons (show 2 * k < l.length by omega), List.drop_eq_nil_of_le (show l.length ≤ 2 * k + 1 by omega)]
              rw [getElem!_pos l _ (by omega)]; rfl
            have e2 : pairs g l = pairs g (l.take (2 * k)) ++ [l[2 * k + 0]!] := by
              conv => lhs; rw [e]
              exact pairs_snoc1 _ k _ (by simp; omega)
            rw [e2]; exact A12
        refine .inr ⟨D + 1, rfl, body _ fun s' h12 A12 L12 D12 E12 => ⟨true, rfl, fun q => (by cases q), fun _ => ⟨2, (A12.ownI (j := 4) rfl).cell (o := 0) rfl rfl, ?_⟩⟩⟩
        dsimp only
        rw [show w64 (((2 * k : Nat) : Int) + 2) = ((2 * (k + 1) : Nat) : Int) by rw [w64_of] <;> omega]
        by_cases hm : m = 2
        · subst hm
          exact ih (k + 1) s' h12 (by omega) (by omega) A12 L12 D12 E12
        · rw [List.take_of_length_le (by omega)] at A12
          exact stop _ s' h12 (by omega) A12 L12 D12 E12
    exact key l.length 0 Sl.nil h4 (by omega) (by omega) (by simpa [pairs] using A4) hLo hDe E4
  exact CallsH.mono main fun v h5 hx => hx.2
end
end Go.Proofs.YtcafckgflpmfgaaDoor
