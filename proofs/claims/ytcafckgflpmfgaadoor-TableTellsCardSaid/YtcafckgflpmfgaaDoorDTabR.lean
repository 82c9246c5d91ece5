/- The least of any: what is told; the law 'TableParts'. -/
import Derived.Test.YtcafckgflpmfgaaDoorDTabQ
import Derived.Test.YtcafckgflpmfgaaDoorDBasP
namespace Go.Proofs.YtcafckgflpmfgaaDoor
open Go Go.RowKit Go.Tw Go.Tab
set_option linter.unusedVariables false
abbrev errno (n : Int) : Value := .iface 29 (.int .i64 n)

section
variable {r : World} {h : Heap} {b : Nat} {l : List Int}

/-- a span that is within -/
theorem ttold_ok {rows cl : Sl} {ss : List Sl} {v : Nat → Int} {f : Value} {i j : Nat} {R : Int → Value → Heap → Prop} (h0 : hcell h (ad b 0) = some (Sl.v cl)) (hc : RI h.size h cl l) (hr : Rs h.size 1 h rows (ss.map Sl.v)) (hcount : ∀ k, 2 ^ k ≤ l.length ↔ k < ss.length)
    (hrow : ∀ (k : Nat) (t : Sl), ss[k]? = some t → RI h.size h t ((rowOf v l.length k).map Int.ofNat)) (hf : Picks r f v l.length h) (hij : i < j) (hjl : j ≤ l.length) (hll : l.length ≤ 5000) (H : ∀ z, Low v i (j - i) z → R (z : Int) .nilIface h) :
    table_Table_told r (some (ad b 0)) rows i j f h R := by
  apply table_Table_told_of
  have hlen := hc.len
  intro J7 HJ7
  have h0' : hcell h (Addr.add (ad b 0) 0) = some (Sl.v cl) := by rw [ad_add]; exact h0
  refine ⟨fun q => absurd (of_decide_eq_true q) (by omega), fun _ => ⟨fun q => absurd (of_decide_eq_true q) (by omega), fun _ => ⟨_, rfl, _, h0', ?_⟩⟩⟩
  dsimp only
  rw [decide_eq_false (by omega)]
  refine HJ7 _ ⟨fun q => (by cases q), fun _ => ⟨fun q => absurd (of_decide_eq_true q) (by omega), fun _ => ?_⟩⟩
  rw [show w64 ((j : Int) - i) = ((j - i : Nat) : Int) by rw [w64_of] <;> omega, show IntKind.wrap .u64 ((j - i : Nat) : Int) = ((j - i : Nat) : Int) by rw [IntKind.wrap_u64]; omega]
  apply bitsLen_ok (by omega)
  obtain ⟨b1, b2, b3, b4⟩ := bl_of (i := j - i) (by omega)
  have b2 := b2 (by omega)
  have b4 := b4 (by omega)
  have b13 : bl (j - i) ≤ 13 := by
    apply Nat.le_of_not_lt; intro hh
    have : 2 ^ 13 ≤ 2 ^ (bl (j - i) - 1) := Nat.pow_le_pow_right (by omega) (by omega)
    have e : (2 : Nat) ^ 13 = 8192 := rfl
    omega
  obtain ⟨k, hk⟩ : ∃ k, bl (j - i) = k + 1 := ⟨bl (j - i) - 1, by omega⟩
  rw [hk] at b1 b2 b13 ⊢
  rw [Nat.add_sub_cancel] at b2
  have e2 : 2 ^ (k + 1) = 2 ^ k + 2 ^ k := by rw [Nat.pow_succ]; omega
  rw [e2] at b1
  have ek : w64 (((k + 1 : Nat) : Int) - 1) = (k : Int) := by rw [w64_of] <;> omega
  rw [ek]
  have hkss : k < ss.length := (hcount k).1 (by omega)
  have s1 : ss[k]? = some ss[k] := List.getElem?_eq_getElem hkss
  have hR := hrow k _ s1
  have rl := row_len v l.length k
  have hrows : rows.len = ss.length := by have := hr.len; simpa using this
  have getR : ∀ {K : Addr → Prop}, (∀ p, hcell h p = some (Sl.v ss[k]) → K p) → Ix rows (k : Int) 1 K := fun hK => by
    refine Rs.ix hr (by omega) (by omega) (by decide) fun bb o _ _ hcc => hK _ ?_
    have := hcc 0 (by decide)
    simpa [s1] using this
  have hsh : sShl .i64 1 (k : Int) = ((2 ^ k : Nat) : Int) := by
    have : ∀ y, y < 13 → sShl .i64 1 ((y : Nat) : Int) = ((2 ^ y : Nat) : Int) := by decide +kernel
    exact this _ (by omega)
  rw [hsh]
  have h1 := row_low v l.length k i (by omega)
  have h2 := row_low v l.length k (j - 2 ^ k) (by omega)
  have hi1 : i < (rowOf v l.length k).length := by omega
  have hi2 : j - 2 ^ k < (rowOf v l.length k).length := by omega
  have m1 : (rowOf v l.length k)[i]! < l.length := row_mem v _ k (by rw [getElem!_pos (rowOf v l.length k) i hi1]; exact List.getElem_mem hi1)
  have m2 : (rowOf v l.length k)[j - 2 ^ k]! < l.length := row_mem v _ k (by rw [getElem!_pos (rowOf v l.length k) _ hi2]; exact List.getElem_mem hi2)
  have hj := h1.join h2 (by omega) (by omega) (by omega)
  rw [show j - 2 ^ k + 2 ^ k - i = j - i by omega] at hj
  generalize hP : 2 ^ k = P at *
  have getI : ∀ (a : Nat), a < (rowOf v l.length k).length → ∀ {K : Addr → Prop}, (∀ p, hcell h p = some (.int .i64 (((rowOf v l.length k)[a]! : Nat) : Int)) → K p) → Ix ss[k] (a : Int) 1 K := fun a ha K hK => by
    refine RI.ix hR (by omega) (by simp; omega) fun p _ hp => hK p ?_
    rw [hp]; simp [ha]
  refine getR fun p1 hp1 => ⟨ss[k], hp1, getI i hi1 fun p2 hp2 => ⟨_, hp2, getR fun p3 hp3 => ⟨ss[k], hp3, by omega, ?_⟩⟩⟩
  rw [show w64 ((j : Int) - (P : Int)) = ((j - P : Nat) : Int) by rw [w64_of] <;> omega]
  exact getI _ hi2 fun p4 hp4 => ⟨_, hp4, hf _ _ m1 m2 _ ⟨_, rfl, H _ hj⟩⟩

theorem least_ok {i j : Nat} {R : Int → Value → Heap → Prop} (T : TabSt h b l) (hij : i < j) (hjl : j ≤ l.length) (hll : l.length ≤ 5000) (H : ∀ z, Low (val_ l) i (j - i) z → R (z : Int) .nilIface h) : table_Table_Least r (some (ad b 0)) i j h R := by
  apply table_Table_Least_of
  obtain ⟨cl, a1, a2⟩ := T.c0
  obtain ⟨s, ss, b1, b2, b3, b4⟩ := T.c1
  refine ⟨_, rfl, s, by rw [ad_add]; exact b1, ?_⟩
  exact ttold_ok a1 a2 b2 b3 b4 (picks_low a1 a2) hij hjl hll H
theorem most_ok {i j : Nat} {R : Int → Value → Heap → Prop} (T : TabSt h b l) (hij : i < j) (hjl : j ≤ l.length) (hll : l.length ≤ 5000) (H : ∀ z, Low (neg_ l) i (j - i) z → R (z : Int) .nilIface h) : table_Table_Most r (some (ad b 0)) i j h R := by
  apply table_Table_Most_of
  obtain ⟨cl, a1, a2⟩ := T.c0
  obtain ⟨s, ss, b1, b2, b3, b4⟩ := T.c2
  refine ⟨_, rfl, s, by rw [ad_add]; exact b1, ?_⟩
  exact ttold_ok a1 a2 b2 b3 b4 (picks_high a1 a2) hij hjl hll H
theorem rows_ok {R : Int → Heap → Prop} {m : Nat} (T : TabSt h b l) (hm : ∀ k, 2 ^ k ≤ l.length ↔ k < m) (H : R (m : Int) h) : table_Table_Rows r (some (ad b 0)) h R := by
  apply table_Table_Rows_of
  obtain ⟨s, ss, b1, b2, b3, b4⟩ := T.c1
  refine ⟨_, rfl, s, by rw [ad_add]; exact b1, ?_⟩
  have e : s.len = m := by
    have e1 : s.len = ss.length := by have := b2.len; simpa using this
    rcases Nat.lt_trichotomy ss.length m with h1 | h1 | h1
    · have := (b3 ss.length).1 ((hm _).2 h1); omega
    · omega
    · have := (hm m).1 ((b3 m).2 h1); omega
  dsimp only; rw [e]; exact H

theorem tabled_ok {R : Bool → Heap → Prop} (H : ∀ h', Ext h.size h h' → R true h') : law5_tabled r h R := by
  apply law5_tabled_of
  intro p1 h1 hp hh
  subst hp; subst hh
  have hr : RI (h.push (.cells #[iV 5, iV 3, iV 3] 3)).size (h.push (.cells #[iV 5, iV 3, iV 3] 3)) ⟨some (ad h.size 0), 3, 3⟩ [5, 3, 3] :=
    RI.of_blk (b := h.size) (l := [5, 3, 3]) (c := 3) (Blk.new (cs := [iV 5, iV 3, iV 3])) (by simp) (List.prefix_refl _) (by decide)
  refine new_ok hr (Nat.le_refl _) (by decide) fun b h2 T E => ⟨rfl, fun q => (by cases q), fun _ => ?_⟩
  refine least_ok (i := 0) (j := 3) T (by decide) (by decide) (by decide) fun z hz => ?_
  have ez : z = 1 := hz.uniq (by
    refine ⟨by decide, by decide, fun y _ hy => ?_⟩
    have : y = 0 ∨ y = 1 ∨ y = 2 := by omega
    rcases this with rfl | rfl | rfl <;> decide)
  subst ez
  intro J HJ
  refine ⟨rfl, fun _ => ⟨fun _ => ?_, fun q => by simp at q⟩, fun q => (by cases q)⟩
  refine rows_ok (m := 2) T (fun k => ?_) (HJ _ _ ?_)
  · constructor
    · intro hk
      apply Nat.lt_of_not_le; intro h2
      have := Nat.pow_le_pow_right (n := 2) (by omega) h2
      have e : (2 : Nat) ^ 2 = 4 := rfl
      simp at hk; omega
    · intro hk
      have : k = 0 ∨ k = 1 := by omega
      rcases this with rfl | rfl <;> decide
  · exact H _ ((Ext.push (Nat.le_refl _)).trans (E.mono (by simp)))

end
end Go.Proofs.YtcafckgflpmfgaaDoor
