/- Sums of beginnings: what the methods do. -/
import Derived.Test.YtcafckgflpmfgaaDoorDFenP
namespace Go.Proofs.YtcafckgflpmfgaaDoor
open Go Go.RowKit Go.Tw Go.Fen
set_option linter.unusedVariables false
/-- sums of m numbers v, in the blocks b and c -/
structure FenSt (h : Heap) (b c m : Nat) (v : Nat → Int) : Prop where
  ne : b ≠ c
  top : Blk h b [Sl.v ⟨some (ad c 0), m + 1, m + 1⟩]
  row : ∃ s : List Int, Blk h c (s.map iV) ∧ s.length = m + 1 ∧ FW m v s

abbrev errno (n : Int) : Value := .iface 29 (.int .i64 n)

theorem FenSt.ext {h h' : Heap} {b c m n : Nat} {v : Nat → Int} (F : FenSt h b c m v) (hb : h'[b]? = h[b]?) (hc : h'[c]? = h[c]?) : FenSt h' b c m v := by
  obtain ⟨s, h1, h2, h3⟩ := F.row
  exact ⟨F.ne, F.top.of_eq hb, s, h1.of_eq hc, h2, h3⟩

theorem new_ok {r : World} {h : Heap} {n : Int} {R : Option Addr → Value → Heap → Prop} (h0 : 0 ≤ n) (h1 : n ≤ 5000)
    (H : ∀ b c h', h.size ≤ b → h.size ≤ c → FenSt h' b c n.toNat (fun _ => 0) → Ext h.size h h' → R (some (ad b 0)) .nilIface h') : fen_New r n h R := by
  apply fen_New_of
  refine ⟨fun c => by simp at c; omega, fun _ => ?_⟩
  have e : w64 (n + 1) = n + 1 := by rw [w64_of] <;> omega
  rw [e]
  refine ⟨by omega, by omega, by omega, fun s h1 hs hh => ?_⟩
  subst hs; subst hh
  refine fun p h' hp hh => ?_
  subst hp; subst hh
  have e1 : (n + 1).toNat = n.toNat + 1 := by omega
  refine H _ h.size _ (by simp) (Nat.le_refl _) ⟨by simp, ?_, List.replicate (n.toNat + 1) 0, ?_, by simp, ?_⟩ ?_
  · rw [e1]; exact Blk.new (cs := [Sl.v ⟨some (ad h.size 0), n.toNat + 1, n.toNat + 1⟩])
  · have hz : (Array.range ((n + 1).toNat * 1)).map ((if (n + 1).toNat * 1 = 0 then #[] else (Value.int .i64 0).cells)[· % (if (n + 1).toNat * 1 = 0 then #[] else (Value.int .i64 0).cells).size]!) = ((List.replicate (n.toNat + 1) (0 : Int)).map iV).toArray := by
      rw [e1, Nat.mul_one, if_neg (by omega)]
      apply Array.ext
      · simp
      · intro i hi hj
        simp [Value.cells, Nat.mod_one]
    rw [hz]
    exact Blk.push Blk.new
  · intro i hi hi'
    rw [show ps (fun _ => 0) i = 0 from ?_, show ps (fun _ => 0) (i - low i) = 0 from ?_]
    · rw [List.getElem?_replicate, if_pos (by omega)]; rfl
    · generalize i - low i = k
      induction k with
      | zero => rfl
      | succ k ih => rw [ps, ih]; rfl
    · clear hi hi'
      induction i with
      | zero => rfl
      | succ k ih => rw [ps, ih]; rfl
  · exact (Ext.push (Nat.le_refl _)).trans (Ext.push (by simp))
theorem new_err {r : World} {h : Heap} {n : Int} {R : Option Addr → Value → Heap → Prop} (hn : n < 0 ∨ 5000 < n) (H : R none (errno 1) h) : fen_New r n h R := by
  apply fen_New_of
  exact ⟨fun _ => H, fun c => by simp at c; omega⟩

section
variable {r : World} {h : Heap} {b c m : Nat} {v : Nat → Int}

theorem add_ok {i : Nat} {x : Int} {R : Value → Heap → Prop} (F : FenSt h b c m v) (hm : m ≤ 200) (hi : i < m) (hx0 : 0 ≤ x) (hx1 : x ≤ 1073741824) (hv : ∀ j, 0 ≤ v j) (hB : ps v m ≤ 1099511627776)
    (H : ∀ h', FenSt h' b c m (more v i x) → (∀ d, d ≠ c → h'[d]? = h[d]?) → h'.size = h.size → R .nilIface h') : fen_Fen_Add r (some (ad b 0)) i x h R := by
  apply fen_Fen_Add_of
  intro J5 HJ
  refine ⟨fun q => by simp at q; omega, fun _ => ⟨_, rfl, _, F.top.ld 0 rfl, ?_⟩⟩
  have e1 : w64 (((m + 1 : Nat) : Int) - 1) = (m : Int) := by rw [w64_of] <;> omega
  dsimp only
  rw [e1]
  refine ⟨fun q => by simp at q; omega, fun _ => ⟨fun q => by simp at q; omega, fun _ => ?_⟩⟩
  have e2 : decide (1073741824 < x) = false := by simp; omega
  rw [e2]
  refine HJ _ ⟨fun q => (by cases q), fun _ => ?_⟩
  intro X8 HX
  obtain ⟨s, hs, hl, hf⟩ := F.row
  have key : ∀ d (k : Nat) (h1 : Heap) (s1 : List Int), m + 1 - k ≤ d → 1 ≤ k → i < k → (k ≤ m → k - low k ≤ i) → Blk h1 c (s1.map iV) → s1.length = m + 1 → FWi m v i x k s1 → (∀ d, d ≠ c → h1[d]? = h[d]?) → h1.size = h.size → X8 (k : Int) h1 := by
    intro d
    induction d with
    | zero =>
      intro k h1 s1 hk hk1 hik hlo hb1 hl1 hF hd hz
      refine HX _ _ ⟨_, rfl, _, (F.top.of_eq (hd _ F.ne)).ld 0 rfl, fun q => by simp at q; omega, fun _ => ?_⟩
      exact H _ ⟨F.ne, F.top.of_eq (hd _ F.ne), s1, hb1, hl1, hF.stop (by omega)⟩ hd hz
    | succ d ih =>
      intro k h1 s1 hk hk1 hik hlo hb1 hl1 hF hd hz
      by_cases hkm : k ≤ m
      · have top1 := F.top.of_eq (hd _ F.ne)
        refine HX _ _ ⟨_, rfl, _, top1.ld 0 rfl, fun _ => ⟨_, rfl, _, top1.ld 0 rfl, ?_⟩, fun q => by simp at q; omega⟩
        have hlow := low_pos hk1 (by omega)
        refine Ix.mk rfl (by omega) (by simp; omega) ?_
        have hks : k < s1.length := by omega
        have hcell : hcell h1 (ad c (0 + (k : Int).toNat * 1)) = some (iV s1[k]) := by
          rw [hb1.cell]; simp [List.getElem?_eq_getElem hks]
        refine ⟨_, hcell, Ix.mk rfl (by omega) (by simp; omega) ?_⟩
        refine St.one hb1 (by simp; omega) ?_
        have hy : s1[k] = ps v k - ps v (k - low k) := by
          have := hF k hk1 hkm
          rw [if_neg (by omega), List.getElem?_eq_getElem hks] at this
          exact Option.some.inj this
        have y1 : ps v k ≤ ps v m := ps_le hv hkm
        have y2 : ps v (k - low k) ≤ ps v k := ps_le hv (by omega)
        have y3 : 0 ≤ ps v (k - low k) := ps_le hv (Nat.zero_le _)
        have e3 : w64 (s1[k] + x) = s1[k] + x := by rw [w64_of] <;> omega
        rw [and_neg hk1 (by omega), e3, show w64 ((k : Int) + (low k : Int)) = ((k + low k : Nat) : Int) by rw [w64_of] <;> omega]
        obtain ⟨z1, z2, z3⟩ := hF.step hk1 hkm (by omega) hik (hlo hkm) (List.getElem?_eq_getElem hks) hks
        refine ih _ _ (s1.set k (s1[k] + x)) (by omega) (by omega) z2 z3 ?_ (by simpa using hl1) z1 ?_ ?_
        · have := hb1.set (o := k) (v := iV (s1[k] + x))
          simpa [List.map_set] using this
        · intro d' hd'
          rw [hset_other (fun e => hd' e.symm)]; exact hd d' hd'
        · rw [hset_size]; exact hz
      · refine HX _ _ ⟨_, rfl, _, (F.top.of_eq (hd _ F.ne)).ld 0 rfl, fun q => by simp at q; omega, fun _ => ?_⟩
        exact H _ ⟨F.ne, F.top.of_eq (hd _ F.ne), s1, hb1, hl1, hF.stop (by omega)⟩ hd hz
  rw [show w64 ((i : Int) + 1) = ((i + 1 : Nat) : Int) by rw [w64_of] <;> omega]
  refine key (m + 1) (i + 1) h s (by omega) (by omega) (by omega) (fun q => ?_) hs hl (hf.start i x (by omega)) (fun _ _ => rfl) rfl
  have := low_pos (i := i + 1) (by omega) (by omega)
  omega
theorem add_err {i x : Int} {R : Value → Heap → Prop} (F : FenSt h b c m v) (hm : m ≤ 200) (hi : i < 0 ∨ (m : Int) ≤ i ∨ x < 0 ∨ 1073741824 < x) (H : R (errno 1) h) : fen_Fen_Add r (some (ad b 0)) i x h R := by
  apply fen_Fen_Add_of
  intro J5 HJ
  have HT : J5 true := HJ _ ⟨fun _ => H, fun q => by cases q⟩
  refine ⟨fun _ => HT, fun q => ⟨_, rfl, _, F.top.ld 0 rfl, ?_⟩⟩
  have e1 : w64 (((m + 1 : Nat) : Int) - 1) = (m : Int) := by rw [w64_of] <;> omega
  dsimp only
  rw [e1]
  refine ⟨fun _ => HT, fun q1 => ⟨fun _ => HT, fun q2 => ?_⟩⟩
  have e2 : decide (1073741824 < x) = true := by simp at q q1 q2 ⊢; omega
  rw [e2]; exact HT

theorem sum_ok {i : Nat} {R : Int → Value → Heap → Prop} (F : FenSt h b c m v) (hm : m ≤ 200) (hi : i ≤ m) (hv : ∀ j, 0 ≤ v j) (hB : ps v m ≤ 1099511627776) (H : R (ps v i) .nilIface h) : fen_Fen_Sum r (some (ad b 0)) i h R := by
  apply fen_Fen_Sum_of
  intro J4 HJ
  refine ⟨fun q => by simp at q; omega, fun _ => ⟨_, rfl, _, F.top.ld 0 rfl, ?_⟩⟩
  dsimp only
  rw [show decide ((((m + 1 : Nat) : Int)) ≤ (i : Int)) = false by simp; omega]
  refine HJ _ ⟨fun q => (by cases q), fun _ => ?_⟩
  intro X8 HX
  obtain ⟨s, hs, hl, hf⟩ := F.row
  have key : ∀ d (k : Nat), k ≤ d → k ≤ i → X8 (k : Int) (ps v i - ps v k) := by
    intro d
    induction d with
    | zero =>
      intro k hk hki
      obtain rfl : k = 0 := by omega
      refine HX _ _ ⟨fun q => by simp at q, fun _ => ?_⟩
      simpa [ps] using H
    | succ d ih =>
      intro k hk hki
      by_cases hk0 : k = 0
      · subst hk0
        refine HX _ _ ⟨fun q => by simp at q, fun _ => ?_⟩
        simpa [ps] using H
      · refine HX _ _ ⟨fun _ => ⟨_, rfl, _, F.top.ld 0 rfl, ?_⟩, fun q => by simp at q; omega⟩
        refine Ix.mk rfl (by omega) (by simp; omega) ?_
        have hks : k < s.length := by omega
        have hlow := low_pos (i := k) (by omega) (by omega)
        have hcell : hcell h (ad c (0 + (k : Int).toNat * 1)) = some (iV (ps v k - ps v (k - low k))) := by
          rw [hs.cell]; simp [hf k (by omega) (by omega)]
        refine ⟨_, hcell, ?_⟩
        have y1 : ps v i ≤ ps v m := ps_le hv hi
        have y2 : ps v k ≤ ps v i := ps_le hv hki
        have y3 : ps v (k - low k) ≤ ps v k := ps_le hv (by omega)
        have y4 : 0 ≤ ps v (k - low k) := ps_le hv (Nat.zero_le _)
        dsimp only
        rw [and_less (by omega) (by omega), show w64 (ps v i - ps v k + (ps v k - ps v (k - low k))) = ps v i - ps v (k - low k) by rw [w64_of] <;> omega]
        exact ih _ (by omega) (by omega)
  have := key i i (Nat.le_refl _) (Nat.le_refl _)
  simpa using this
theorem sum_err {i : Int} {R : Int → Value → Heap → Prop} (F : FenSt h b c m v) (hm : m ≤ 200) (hi : i < 0 ∨ (m : Int) < i) (H : R 0 (errno 1) h) : fen_Fen_Sum r (some (ad b 0)) i h R := by
  apply fen_Fen_Sum_of
  intro J4 HJ
  have HT : J4 true := HJ _ ⟨fun _ => H, fun q => by cases q⟩
  refine ⟨fun _ => HT, fun q => ⟨_, rfl, _, F.top.ld 0 rfl, ?_⟩⟩
  dsimp only
  rw [show decide ((((m + 1 : Nat) : Int)) ≤ i) = true by simp at q ⊢; omega]
  exact HT

theorem find_zero {k : Int} {R : Int → Value → Heap → Prop} (hk : k ≤ 0) (H : R 0 .nilIface h) : fen_Fen_Find r (some (ad b 0)) k h R := by
  apply fen_Fen_Find_of
  exact ⟨fun _ => H, fun q => by simp at q; omega⟩
theorem find_ok {k : Int} {R : Int → Value → Heap → Prop} (F : FenSt h b c m v) (hm : m ≤ 200) (hk : 0 < k) (hk2 : k < 9223372036854775808) (hv : ∀ j, 0 ≤ v j) (hB : ps v m ≤ 1099511627776)
    (H1 : ∀ a : Nat, a < m → ps v a < k → k ≤ ps v (a + 1) → R ((a + 1 : Nat) : Int) .nilIface h) (H2 : ps v m < k → R 0 (errno 2) h) : fen_Fen_Find r (some (ad b 0)) k h R := by
  apply fen_Fen_Find_of
  refine ⟨fun q => by simp at q; omega, fun _ => ⟨_, rfl, _, F.top.ld 0 rfl, ?_⟩⟩
  dsimp only
  rw [show IntKind.wrap .u64 (((m + 1 : Nat)) : Int) = ((m + 1 : Nat) : Int) by rw [IntKind.wrap_u64]; omega]
  apply bitsLen_ok (by omega)
  obtain ⟨b1, _, _, _⟩ := bl_of (i := m + 1) (by omega)
  have b3 : bl (m + 1) ≤ 8 := by
    unfold bl; rw [if_pos (by omega)]; exact (tb_of (by omega)).2.2.1
  refine ⟨by omega, ?_⟩
  obtain ⟨s, hs, hl, hf⟩ := F.row
  intro X HX
  have key : ∀ (t at_ : Nat), t ≤ 9 → at_ ≤ m → at_ % 2 ^ t = 0 → ps v at_ < k → (m < at_ + 2 ^ t ∨ k ≤ ps v (at_ + 2 ^ t)) → X (k - ps v at_) (at_ : Int) (if t = 0 then 0 else ((2 ^ (t - 1) : Nat) : Int)) := by
    intro t
    induction t with
    | zero =>
      intro a _ ham _ hlt hbd
      refine HX _ _ _ ⟨fun q => by simp at q, fun _ => ⟨_, rfl, _, F.top.ld 0 rfl, ?_⟩⟩
      have e1 : w64 (((m + 1 : Nat) : Int) - 1) = (m : Int) := by rw [w64_of] <;> omega
      dsimp only
      rw [e1]
      refine ⟨fun q => ?_, fun q => ?_⟩
      · have q : a = m := by simp at q; omega
        subst q; exact H2 hlt
      · have q : a ≠ m := by simp at q; omega
        rw [show w64 ((a : Int) + 1) = ((a + 1 : Nat) : Int) by rw [w64_of] <;> omega]
        exact H1 a (by omega) hlt (by simp at hbd; omega)
    | succ t ih =>
      intro a ht ham hmod hlt hbd
      have hstep : (if t + 1 = 0 then (0 : Int) else ((2 ^ (t + 1 - 1) : Nat) : Int)) = ((2 ^ t : Nat) : Int) := by simp
      rw [hstep]
      have hpow : 1 ≤ 2 ^ t := Nat.one_le_two_pow
      have hpow2 : 2 ^ t ≤ 256 := by
        have : 2 ^ t ≤ 2 ^ 8 := Nat.pow_le_pow_right (by omega) (by omega)
        simpa using this
      have e2 : 2 ^ (t + 1) = 2 * 2 ^ t := by rw [Nat.pow_succ]; omega
      have hshr : sShr .i64 ((2 ^ t : Nat) : Int) 1 = (if t = 0 then 0 else ((2 ^ (t - 1) : Nat) : Int)) := by
        show Int.fdiv _ (2 ^ 1) = _
        rw [Int.fdiv_eq_ediv_of_nonneg _ (by decide)]
        cases t with
        | zero => rfl
        | succ t => rw [if_neg (by omega), Nat.pow_succ, Nat.add_sub_cancel]; omega
      have hmod1 : a % 2 ^ t = 0 := by
        rw [e2] at hmod
        have := Nat.mod_mul_left_mod a 2 (2 ^ t)
        rw [hmod] at this; simpa using this.symm
      have hlow' : a + 2 ^ t ≤ m → low (a + 2 ^ t) = 2 ^ t := fun q => by
        have ht8 : t < 8 := by
          apply Nat.lt_of_not_le; intro h8
          have : 2 ^ 8 ≤ 2 ^ t := Nat.pow_le_pow_right (by omega) h8
          omega
        exact low_step ht8 (by omega) (by rw [← e2]; exact hmod)
      rw [e2] at hbd
      clear hstep hmod e2
      generalize 2 ^ t = P at *
      refine HX _ _ _ ⟨fun _ => ?_, fun q => by simp at q; omega⟩
      intro J15 HJ15 J18 HJ18
      rw [hshr] at HJ15
      have hadd : w64 ((a : Int) + ((P : Nat) : Int)) = ((a + P : Nat) : Int) := by rw [w64_of] <;> omega
      rw [hadd] at HJ18 ⊢
      have no : (m < a + P ∨ k ≤ ps v (a + P)) → J18 false := fun hb2 =>
        HJ18 _ ⟨fun q => (by cases q), fun _ => HJ15 _ _ (ih a (by omega) ham hmod1 hlt hb2)⟩
      refine ⟨_, rfl, _, F.top.ld 0 rfl, ⟨fun q => ?_, fun q => ?_⟩⟩
      · have q : a + P ≤ m := by simp at q; omega
        have hlow := hlow' q
        have hsv : s[a + P]? = some (ps v (a + P) - ps v a) := by
          have := hf (a + P) (by omega) q
          rw [hlow, Nat.add_sub_cancel] at this; exact this
        have hcell : hcell h (ad c (0 + (((a + P : Nat) : Int)).toNat * 1)) = some (iV (ps v (a + P) - ps v a)) := by
          rw [hs.cell, Int.toNat_natCast]; simp [hsv]
        refine ⟨_, rfl, _, F.top.ld 0 rfl, Ix.mk rfl (by omega) (by simp; omega) ⟨_, hcell, ?_⟩⟩
        by_cases hc : ps v (a + P) - ps v a < k - ps v a
        · dsimp only; rw [decide_eq_true hc]
          refine HJ18 _ ⟨fun _ => ?_, fun q => by cases q⟩
          refine ⟨_, rfl, _, F.top.ld 0 rfl, Ix.mk rfl (by omega) (by simp; omega) ⟨_, hcell, ?_⟩⟩
          have y1 : 0 ≤ ps v a := ps_le hv (Nat.zero_le _)
          have y2 : ps v a ≤ ps v (a + P) := ps_le hv (by omega)
          have y3 : ps v (a + P) ≤ ps v m := ps_le hv q
          dsimp only
          rw [show w64 (k - ps v a - (ps v (a + P) - ps v a)) = k - ps v (a + P) by rw [w64_of] <;> omega]
          refine HJ15 _ _ (ih (a + P) (by omega) q ?_ (by omega) ?_)
          · rw [Nat.add_mod_right]; exact hmod1
          · rw [show a + P + P = a + 2 * P by omega]; exact hbd
        · dsimp only; rw [decide_eq_false hc]; exact no (.inr (by omega))
      · exact no (.inl (by simp at q; omega))
  have := key (bl (m + 1) + 1) 0 (by omega) (by omega) (by simp) (by simpa [ps] using hk) (.inl (by rw [Nat.pow_succ]; omega))
  have e : sShl .i64 1 (bl (m + 1) : Int) = ((2 ^ bl (m + 1) : Nat) : Int) := by
    have : ∀ y, y ≤ 8 → sShl .i64 1 ((y : Nat) : Int) = ((2 ^ y : Nat) : Int) := by decide +kernel
    exact this _ b3
  rw [e]
  simpa [ps] using this

theorem ints_ok {R : Sl → Heap → Prop} (F : FenSt h b c m v) (hm : m ≤ 200) (hv : ∀ j, 0 ≤ v j) (hB : ps v m ≤ 1099511627776)
    (H : ∀ s h', RI h'.size h' s ((List.range m).map v) → Ext h.size h h' → R s h') : fen_Fen_Ints r (some (ad b 0)) h R := by
  apply fen_Fen_Ints_of
  refine ⟨_, rfl, _, F.top.ld 0 rfl, ?_⟩
  intro X HX
  have hb := F.top.lt
  have hc : c < h.size := by obtain ⟨s, hs, _⟩ := F.row; exact hs.lt
  have e1 : w64 (((m + 1 : Nat) : Int) - 1) = (m : Int) := by rw [w64_of] <;> omega
  have key : ∀ d (i : Nat) (s : Sl) (h1 : Heap), i + d = m → Ext h.size h h1 → Own h.size 1 h1 s (((List.range i).map v).map iV) → X s (i : Int) h1 := by
    intro d
    induction d with
    | zero =>
      intro i s h1 hi E O
      obtain rfl : i = m := by omega
      refine HX _ _ _ ⟨fun q => ?_, fun _ => H s h1 O.rs E⟩
      dsimp only at q; rw [e1] at q; simp at q
    | succ d ih =>
      intro i s h1 hi E O
      refine HX _ _ _ ⟨fun _ => ?_, fun q => ?_⟩
      · have F1 := F.ext (n := 0) (E.2 b hb) (E.2 c hc)
        refine sum_ok F1 hm (by omega) hv hB ?_
        rw [show w64 ((i : Int) + 1) = ((i + 1 : Nat) : Int) by rw [w64_of] <;> omega]
        refine sum_ok F1 hm (by omega) hv hB ?_
        have y1 : ps v (i + 1) ≤ ps v m := ps_le hv (by omega)
        have y2 : 0 ≤ ps v i := ps_le hv (Nat.zero_le _)
        have y3 := hv i
        have y4 : ps v (i + 1) = ps v i + v i := rfl
        rw [show w64 (ps v (i + 1) - ps v i) = v i by rw [w64_of] <;> omega]
        have hlen : s.len = i := by simpa using O.len
        refine App.push (cs := [iV (v i)]) O rfl rfl (one_all rfl) E.1 (by rw [hlen]; omega) fun s' h' G => ?_
        refine ih (i + 1) s' h' (by omega) (E.trans G.ext) ?_
        have := G.own
        rwa [List.range_succ, List.map_append, List.map_append]
      · dsimp only at q; rw [e1] at q; simp at q; omega
  exact key m 0 Sl.nil h (by omega) (Ext.refl _ _) (Own.nil _ _ _)
end
end Go.Proofs.YtcafckgflpmfgaaDoor
