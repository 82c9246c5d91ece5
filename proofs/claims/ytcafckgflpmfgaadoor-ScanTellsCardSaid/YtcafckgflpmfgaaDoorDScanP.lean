/- All beginnings: what the functions do. -/
import Derived.Test.YtcafckgflpmfgaaDoorDScan
import Derived.Test.YtcafckgflpmfgaaDoorScanL
import Derived.Test.YtcafckgflpmfgaaDoorDSame
import Derived.Test.YtcafckgflpmfgaaDoorTwUse
namespace Go.Proofs.YtcafckgflpmfgaaDoor
open Go Go.RowKit Go.Tw Go.Scan
set_option linter.unusedVariables false
/-- what an op's function does -/
def OpV (r : World) (fv : Value) (g : Int → Int → Int) : Prop := ∀ (h : Heap) (a b : Int) (K : Value → Heap → Prop), K (.int .i64 (g a b)) h → CallV Tryd.prog r fv [.int .i64 a, .int .i64 b] h K
def fvOf (n : Int) : Value := if n = 1 then .func (.func 108) #[] #[] else if n = 2 then .func (.func 109) #[] #[] else if n = 3 then .func (.func 110) #[] #[] else .func (.func 111) #[] #[]
theorem one_fv (n : Int) : one (fvOf n) = true := by
  unfold fvOf
  by_cases h1 : n = 1
  · rw [if_pos h1]; rfl
  · rw [if_neg h1]
    by_cases h2 : n = 2
    · rw [if_pos h2]; rfl
    · rw [if_neg h2]
      by_cases h3 : n = 3
      · rw [if_pos h3]; rfl
      · rw [if_neg h3]; rfl
theorem opV_ok (r : World) (n : Int) : OpV r (fvOf n) (opG n) := by
  intro h a b K hK
  unfold fvOf
  unfold opG at hK
  by_cases h1 : n = 1
  · rw [if_pos h1] at hK ⊢
    exact .inl ⟨_, _, _, rfl, Tryd.call108, CallsH.mono (scan_of_1_of (r := r) (R := fun y h' => K (.int .i64 y) h') hK) fun v h' ⟨y, hv, hR⟩ => by rw [hv]; exact hR⟩
  · rw [if_neg h1] at hK ⊢
    by_cases h2 : n = 2
    · rw [if_pos h2] at hK ⊢
      exact .inl ⟨_, _, _, rfl, Tryd.call109, CallsH.mono (scan_of_2_of (r := r) (R := fun y h' => K (.int .i64 y) h') hK) fun v h' ⟨y, hv, hR⟩ => by rw [hv]; exact hR⟩
    · rw [if_neg h2] at hK ⊢
      by_cases h3 : n = 3
      · rw [if_pos h3] at hK ⊢
        exact .inl ⟨_, _, _, rfl, Tryd.call110, CallsH.mono (scan_of_3_of (r := r) (R := fun y h' => K (.int .i64 y) h') hK) fun v h' ⟨y, hv, hR⟩ => by rw [hv]; exact hR⟩
      · rw [if_neg h3] at hK ⊢
        exact .inl ⟨_, _, _, rfl, Tryd.call111, CallsH.mono (scan_of_4_of (r := r) (R := fun y h' => K (.int .i64 y) h') hK) fun v h' ⟨y, hv, hR⟩ => by rw [hv]; exact hR⟩

/-- two cells of one's own are written -/
theorem St.two {h : Heap} {b : Nat} {c0 c1 v0 v1 : Value} {K : Heap → Prop} (H : Blk h b [c0, c1]) (hK : ∀ h', Blk h' b [v0, v1] → Ext b h h' → (∀ c, c ≠ b → h'[c]? = h[c]?) → h'.size = h.size → K h') : St h (ad b 0) 2 [v0, v1] K := by
  refine ⟨H.stok (by simp), fun h' e => ?_⟩
  subst e
  have := Blk.sets (o := 0) [v0, v1] h 0 _ H (by simp)
  exact hK _ (by simpa [splice] using this) (Ext.sets (Nat.le_refl _)) (fun c hc => hsets_other _ _ _ _ (fun e => hc e.symm)) (hsets_size _ _ _ _)

abbrev errno (n : Int) : Value := .iface 29 (.int .i64 n)

section
variable {r : World} {h : Heap}

theorem of_ok {n : Int} {R : Int → Value → Value → Heap → Prop} (h1 : 1 ≤ n) (h4 : n ≤ 4) (H : ∀ h', Ext h.size h h' → R (opE n) (fvOf n) .nilIface h') : scan_of r n h R := by
  apply scan_of_of
  intro p2 ha hp hh
  subst hp; subst hh
  have B : Blk (h.push (.cells #[iV 0, .nilFunc] 106)) h.size [iV 0, .nilFunc] := Blk.new
  have E : Ext h.size h (h.push (.cells #[iV 0, .nilFunc] 106)) := Ext.push (Nat.le_refl _)
  have fin : ∀ (e : Int) (f : Value), e = opE n → f = fvOf n → St (h.push (.cells #[iV 0, .nilFunc] 106)) (ad h.size 0) 2 [iV e, f] fun h2 => LdI h2 (Addr.add (ad h.size 0) 0) fun x7 => LdV h2 (Addr.add (ad h.size 0) 1) fun x9 => R x7 x9 .nilIface h2 := fun e f he hf =>
    St.two B fun h' B' E' _ _ => ⟨_, B'.ld 0 rfl, _, B'.ld 1 rfl, by rw [he, hf]; exact H h' (E.trans E')⟩
  refine ⟨fun q => ?_, fun q1 => ⟨fun q => ?_, fun q2 => ⟨fun q => ?_, fun q3 => ⟨fun q => ?_, fun q => ?_⟩⟩⟩⟩
  · have q := of_decide_eq_true q; subst q; exact fin _ _ rfl rfl
  · have q := of_decide_eq_true q; subst q; exact fin _ _ rfl rfl
  · have q := of_decide_eq_true q; subst q; exact fin _ _ rfl rfl
  · have q := of_decide_eq_true q; subst q; exact fin _ _ rfl rfl
  · have := of_decide_eq_false q; have := of_decide_eq_false q1; have := of_decide_eq_false q2; have := of_decide_eq_false q3; omega
theorem of_err {n : Int} {R : Int → Value → Value → Heap → Prop} (hn : ¬ (1 ≤ n ∧ n ≤ 4)) (H : ∀ h', Ext h.size h h' → R 0 .nilFunc (errno 3) h') : scan_of r n h R := by
  apply scan_of_of
  intro p2 ha hp hh
  subst hp; subst hh
  have B : Blk (h.push (.cells #[iV 0, .nilFunc] 106)) h.size [iV 0, .nilFunc] := Blk.new
  have E : Ext h.size h (h.push (.cells #[iV 0, .nilFunc] 106)) := Ext.push (Nat.le_refl _)
  refine ⟨fun q => absurd (of_decide_eq_true q) (by omega), fun _ => ⟨fun q => absurd (of_decide_eq_true q) (by omega), fun _ => ⟨fun q => absurd (of_decide_eq_true q) (by omega), fun _ => ⟨fun q => absurd (of_decide_eq_true q) (by omega), fun _ => ?_⟩⟩⟩⟩
  exact St.two B fun h' B' E' _ _ => ⟨_, B'.ld 0 rfl, _, B'.ld 1 rfl, H h' (E.trans E')⟩
end
end Go.Proofs.YtcafckgflpmfgaaDoor
