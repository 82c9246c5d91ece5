/- Sums of beginnings: what the laws answer. -/
import Derived.Test.YthjfnfhgnbmgcaaFenQ
namespace Go.Proofs.Ythjfnfhgnbmgcaa
open Go Go.RowKit Go.Tw Go.Fen
set_option linter.unusedVariables false

theorem more_nonneg {v : Nat → Int} {i : Nat} {x : Int} (hv : ∀ j, 0 ≤ v j) (hx : 0 ≤ x) : ∀ j, 0 ≤ more v i x j := fun j => by
  have := hv j; unfold more; split <;> omega

theorem fenned_ok {r : World} {h : Heap} {R : Bool → Heap → Prop} (H : ∀ h', Ext h.size h h' → R true h') : law5_fenned r h R := by
  apply law5_fenned_of
  refine new_ok (by decide) (by decide) fun b c h1 hb hc F E => ⟨rfl, fun q => (by cases q), fun _ => ?_⟩
  refine add_ok (i := 1) F (by decide) (by decide) (by decide) (by decide) (fun _ => Int.le_refl _) (by decide) fun h2 F2 hd hz => ?_
  have hv : ∀ j, 0 ≤ more (fun _ => 0) 1 5 j := more_nonneg (fun _ => Int.le_refl _) (by decide)
  refine sum_ok (i := 2) F2 (by decide) (by decide) hv (by decide) ?_
  refine find_ok F2 (by decide) (by decide) (by decide) hv (by decide) (fun a ha h3 h4 => ?_) (fun q => absurd q (by decide))
  have ha : a = 0 ∨ a = 1 := by simp at ha; omega
  rcases ha with rfl | rfl
  · exact absurd h4 (by decide)
  · refine ⟨rfl, rfl, rfl, fun x hx => ?_⟩
    rw [show x = true from hx]
    exact H _ (E.trans ⟨by omega, fun d hd' => hd d (by omega)⟩)

theorem ps_zero (i : Nat) : ps (fun _ => 0) i = 0 := by
  induction i with
  | zero => rfl
  | succ k ih => rw [ps, ih]; rfl

/-- what one addition adds at j -/
def part (m : Nat) (i x : Int) (j : Nat) : Int := if 0 ≤ i ∧ i < m ∧ 0 ≤ x ∧ x ≤ 1073741824 ∧ i.toNat = j then x else 0

/-- one addition, whatever is asked -/
theorem add_any {r : World} {h : Heap} {b c m : Nat} {v : Nat → Int} {i x : Int} {R : Value → Heap → Prop} (F : FenSt h b c m v) (hm : m ≤ 200) (hv : ∀ j, 0 ≤ v j) {B : Int} (hB : ps v m ≤ B) (hB2 : B ≤ 1099511627776)
    (H : ∀ e h' v', FenSt h' b c m v' → (∀ j, 0 ≤ v' j) → ps v' m ≤ B + 1073741824 → (∀ j, v' j = v j + part m i x j) → (∀ d, d ≠ c → h'[d]? = h[d]?) → h'.size = h.size → R e h') : fen_Fen_Add r (some (ad b 0)) i x h R := by
  by_cases hc : 0 ≤ i ∧ i < m ∧ 0 ≤ x ∧ x ≤ 1073741824
  · obtain ⟨h1, h2, h3, h4⟩ := hc
    have := add_ok (r := r) (i := i.toNat) (x := x) (R := R) F hm (by omega) h3 h4 hv (by omega) fun h' F' hd hz => by
      refine H _ _ _ F' (more_nonneg hv h3) ?_ (fun j => ?_) hd hz
      · rw [ps_more, if_pos (by omega)]; omega
      · unfold more part
        by_cases e : j = i.toNat
        · rw [if_pos e, if_pos ⟨h1, h2, h3, h4, e.symm⟩]
        · rw [if_neg e, if_neg (fun ⟨_, _, _, _, e'⟩ => e e'.symm)]
    rwa [Int.toNat_of_nonneg h1] at this
  · refine add_err F hm (by omega) (H _ _ v F hv (by omega) (fun j => ?_) (fun _ _ => rfl) rfl)
    unfold part
    rw [if_neg (fun ⟨a, b, c, d, _⟩ => hc ⟨a, b, c, d⟩)]; omega

theorem finds_law {r : World} {h : Heap} {n i k : Int} {is xs : Sl} {li lx : List Int} (hn : -9223372036854775808 ≤ n ∧ n < 9223372036854775808) (hi : -9223372036854775808 ≤ i ∧ i < 9223372036854775808) (hk : k < 9223372036854775808)
    (his : RI h.size h is li) (hxs : RI h.size h xs lx) : law5_FenFinds r n is xs i k h fun y h' => y = true ∧ Ext h.size h h' := by
  apply law5_FenFinds_of
  refine fenned_ok fun h1 E1 => ?_
  by_cases hn2 : n < 0 ∨ 5000 < n
  · refine new_err hn2 ⟨fun q => (by cases q), fun _ => ⟨rfl, fun _ => ⟨rfl, rfl, E1⟩, fun q => (by cases q)⟩⟩
  · obtain ⟨m, rfl⟩ : ∃ m : Nat, n = m := ⟨n.toNat, by omega⟩
    refine new_ok (by omega) (by omega) fun b c h2 hb hc F E2 => ?_
    rw [Int.toNat_natCast] at F
    have E12 : Ext h.size h h2 := E1.trans (E2.mono E1.1)
    refine ⟨fun q => (by cases q), fun _ => ⟨rfl, fun _ => ⟨rfl, rfl, E12⟩, fun q => ?_⟩⟩
    have q : m ≤ 200 ∧ is.len ≤ 100 := by simp [isNil] at q; omega
    obtain ⟨hm, hl⟩ := q
    intro X HX
    have hE : h.size ≤ h1.size := E1.1
    have key : ∀ d (a : Nat) (h3 : Heap) (v : Nat → Int), 100 - a ≤ d → a ≤ 100 → FenSt h3 b c m v → (∀ j, 0 ≤ v j) → ps v m ≤ a * 1073741824 → Ext h.size h h3 → X (a : Int) h3 := by
      have stop : ∀ (a : Nat) (h3 : Heap) (v : Nat → Int), a ≤ 100 → ¬ (a < li.length ∧ a < lx.length) → FenSt h3 b c m v → (∀ j, 0 ≤ v j) → ps v m ≤ a * 1073741824 → Ext h.size h h3 → X (a : Int) h3 := by
        intro a h3 v ha hc2 F hv hB E
        refine HX _ _ ⟨fun q => absurd q (by rw [his.len, hxs.len]; simp; omega), fun _ => ?_⟩
        have hB' : ps v m ≤ 1099511627776 := by omega
        have fin : ∀ (s : Int) (e : Value) (z : Int) (e2 : Value), (e = .nilIface → ∃ i' : Nat, i = i' ∧ i' ≤ m ∧ s = ps v i') → (e ≠ .nilIface → e = errno 1 ∧ (i < 0 ∨ (m : Int) < i)) → (e2 = .nilIface → (k ≤ 0 ∧ z = 0) ∨ ∃ a : Nat, a < m ∧ ps v a < k ∧ k ≤ ps v (a + 1) ∧ z = ((a + 1 : Nat) : Int)) →
            (e2 ≠ .nilIface → e2 = errno 2 ∧ ps v m < k) → (e = .nilIface ∨ e = errno 1) → (e2 = .nilIface ∨ e2 = errno 2) →
            ((isIface e = true) ∧
              Br (!(isNil e)) (
                (fun y h' => y = true ∧ Ext h.size h h') ((decide (i < 0)) || (decide ((m : Int) < i))) h3) (
                ∀ J55 : Heap → Prop, (∀ (h7 : Heap),
                  ((isIface e2 = true) ∧
                  Br (!(isNil e2)) (
                    fen_Fen_Sum r (some (ad b 0)) (m : Int) h7 fun y58 y59 h8 =>
                    (isIface y59 = true) ∧
                    (fun y h' => y = true ∧ Ext h.size h h') ((isNil y59) && (decide (y58 < k))) h8) (
                    (fun y h' => y = true ∧ Ext h.size h h') ((decide (k ≤ s)) == (decide (z ≤ i))) h7)) →
                  J55 h7) →
                Br (decide (i < (m : Int))) (
                  fen_Fen_Sum r (some (ad b 0)) (w64 (i + 1)) h3 fun y66 y67 h9 =>
                  (isIface y67 = true) ∧
                  Br ((!(isNil y67)) || (decide (y66 < s))) (
                    (fun y h' => y = true ∧ Ext h.size h h') false h9) (
                    J55 h9)) (
                  J55 h3))) := by
          intro s e z e2 he1 he2 hz1 hz2 ho ho2
          rcases ho with rfl | rfl
          · obtain ⟨i', rfl, hi', rfl⟩ := he1 rfl
            refine ⟨rfl, fun q => (by cases q), fun _ J HJ => ?_⟩
            have hJ : J h3 := by
              refine HJ _ ?_
              rcases ho2 with rfl | rfl
              · refine ⟨rfl, fun q => (by cases q), fun _ => ⟨?_, E⟩⟩
                rcases hz1 rfl with ⟨h5, rfl⟩ | ⟨a', h5, h6, h7, rfl⟩
                · have : 0 ≤ ps v i' := ps_le hv (Nat.zero_le _)
                  rw [decide_eq_true (show k ≤ ps v i' by omega), decide_eq_true (show (0 : Int) ≤ (i' : Int) by omega)]; rfl
                · by_cases h8 : a' + 1 ≤ i'
                  · have := ps_le hv h8
                    rw [decide_eq_true (show k ≤ ps v i' by omega), decide_eq_true (show ((a' + 1 : Nat) : Int) ≤ (i' : Int) by omega)]; rfl
                  · have := ps_le hv (show i' ≤ a' by omega)
                    rw [decide_eq_false (show ¬ k ≤ ps v i' by omega), decide_eq_false (show ¬ ((a' + 1 : Nat) : Int) ≤ (i' : Int) by omega)]; rfl
              · refine ⟨rfl, fun _ => ?_, fun q => (by cases q)⟩
                refine sum_ok F hm (Nat.le_refl _) hv hB' ⟨rfl, ?_, E⟩
                simpa [isNil] using (hz2 (by intro q; cases q)).2
            refine ⟨fun q => ?_, fun _ => hJ⟩
            have q : i' < m := by simp at q; omega
            rw [show w64 ((i' : Int) + 1) = ((i' + 1 : Nat) : Int) by rw [w64_of] <;> omega]
            refine sum_ok F hm (by omega) hv hB' ⟨rfl, fun q2 => ?_, fun _ => hJ⟩
            have := ps_le hv (show i' ≤ i' + 1 by omega)
            simp [isNil] at q2; omega
          · refine ⟨rfl, fun _ => ⟨?_, E⟩, fun q => (by cases q)⟩
            have := (he2 (by intro q; cases q)).2
            simp; omega
        by_cases hi2 : i < 0 ∨ (m : Int) < i
        · refine sum_err F hm hi2 ?_
          have q1 : errno 1 = .nilIface → ∃ i' : Nat, i = i' ∧ i' ≤ m ∧ (0 : Int) = ps v i' := fun q => by cases q
          have q2 : errno 1 ≠ .nilIface → errno 1 = errno 1 ∧ (i < 0 ∨ (m : Int) < i) := fun _ => ⟨rfl, hi2⟩
          by_cases hk0 : k ≤ 0
          · exact find_zero hk0 (fin _ _ 0 .nilIface q1 q2 (fun _ => .inl ⟨hk0, rfl⟩) (fun q => absurd rfl q) (.inr rfl) (.inl rfl))
          · exact find_ok F hm (by omega) hk hv hB' (fun a h5 h6 h7 => fin _ _ _ .nilIface q1 q2 (fun _ => .inr ⟨a, h5, h6, h7, rfl⟩) (fun q => absurd rfl q) (.inr rfl) (.inl rfl))
              (fun h5 => fin _ _ 0 (errno 2) q1 q2 (fun q => by cases q) (fun _ => ⟨rfl, h5⟩) (.inr rfl) (.inr rfl))
        · obtain ⟨i', rfl⟩ : ∃ i' : Nat, i = i' := ⟨i.toNat, by omega⟩
          refine sum_ok F hm (by omega) hv hB' ?_
          have q1 : Value.nilIface = .nilIface → ∃ i'' : Nat, (i' : Int) = i'' ∧ i'' ≤ m ∧ ps v i' = ps v i'' := fun _ => ⟨i', rfl, by omega, rfl⟩
          have q2 : Value.nilIface ≠ .nilIface → Value.nilIface = errno 1 ∧ ((i' : Int) < 0 ∨ (m : Int) < i') := fun q => absurd rfl q
          by_cases hk0 : k ≤ 0
          · exact find_zero hk0 (fin _ _ 0 .nilIface q1 q2 (fun _ => .inl ⟨hk0, rfl⟩) (fun q => absurd rfl q) (.inl rfl) (.inl rfl))
          · exact find_ok F hm (by omega) hk hv hB' (fun a h5 h6 h7 => fin _ _ _ .nilIface q1 q2 (fun _ => .inr ⟨a, h5, h6, h7, rfl⟩) (fun q => absurd rfl q) (.inl rfl) (.inl rfl))
              (fun h5 => fin _ _ 0 (errno 2) q1 q2 (fun q => by cases q) (fun _ => ⟨rfl, h5⟩) (.inl rfl) (.inr rfl))
      intro d
      induction d with
      | zero =>
        intro a h3 v ha ha2 F hv hB E
        exact stop a h3 v ha2 (by have := his.len; omega) F hv hB E
      | succ d ih =>
        intro a h3 v ha ha2 F hv hB E
        by_cases hc2 : a < li.length ∧ a < lx.length
        · refine HX _ _ ⟨fun _ => ?_, fun q => absurd q (by rw [his.len, hxs.len]; simp; omega)⟩
          refine RI.ix (his.ext E (Nat.le_refl _)) (by omega) (by omega) fun p hp hpc => ⟨_, hpc, RI.ix (hxs.ext E (Nat.le_refl _)) (by omega) (by omega) fun p2 hp2 hpc2 => ⟨_, hpc2, ?_⟩⟩
          refine add_any (B := (a : Int) * 1073741824) F hm hv hB (by have := his.len; omega) fun e h4 v' F' hv' hB' hvv hd hz => ?_
          rw [show w64 ((a : Int) + 1) = ((a + 1 : Nat) : Int) by rw [w64_of] <;> omega]
          have := his.len
          refine ih (a + 1) h4 v' (by omega) (by omega) F' hv' (by omega) (E.trans ⟨by omega, fun d' hd' => hd d' (by omega)⟩)
        · exact stop a h3 v ha2 hc2 F hv hB E
    exact key 100 0 h2 _ (by omega) (by omega) F (fun _ => Int.le_refl _) (by rw [ps_zero]; decide) E12

/-- what all additions of a list of pairs add -/
def parts (m : Nat) (li lx : List Int) (t : Nat) (j : Nat) : Int := part m (li[t]!) (lx[t]!) j

theorem order_law {r : World} {h : Heap} {n : Int} {is xs : Sl} {li lx : List Int} (hn : -9223372036854775808 ≤ n ∧ n < 9223372036854775808)
    (his : RI h.size h is li) (hxs : RI h.size h xs lx) : law5_FenOrder r n is xs h fun y h' => y = true ∧ Ext h.size h h' := by
  apply law5_FenOrder_of
  refine fenned_ok fun h1 E1 => ?_
  by_cases hn2 : n < 0 ∨ 5000 < n
  · refine new_err hn2 (new_err hn2 ⟨fun q => (by cases q), fun _ => ⟨rfl, rfl, fun _ => ⟨rfl, rfl, E1⟩, fun q => (by cases q)⟩⟩)
  · obtain ⟨m, rfl⟩ : ∃ m : Nat, n = m := ⟨n.toNat, by omega⟩
    refine new_ok (by omega) (by omega) fun b c h2 hb hc F E2 => new_ok (by omega) (by omega) fun b' c' h3 hb' hc' G E3 => ?_
    rw [Int.toNat_natCast] at F G
    have hE : h.size ≤ h1.size := E1.1
    have hE2 : h1.size ≤ h2.size := E2.1
    have E : Ext h.size h h3 := (E1.trans (E2.mono E1.1)).trans (E3.mono (by omega))
    refine ⟨fun q => (by cases q), fun _ => ⟨rfl, rfl, fun _ => ⟨rfl, rfl, E⟩, fun q => ?_⟩⟩
    have q : m ≤ 200 ∧ li.length ≤ 100 ∧ li.length ≤ lx.length := by simp [isNil, his.len, hxs.len] at q; omega
    obtain ⟨hm, hl, hlx⟩ := q
    have hbs : b < h2.size := F.top.lt
    have hcs : c < h2.size := by obtain ⟨s, hs, _⟩ := F.row; exact hs.lt
    have F : FenSt h3 b c m (fun _ => 0) := F.ext (n := 0) (E3.2 b hbs) (E3.2 c hcs)
    intro X HX
    have key : ∀ d (a : Nat) (h4 : Heap) (v u : Nat → Int), a + d = li.length → FenSt h4 b c m v → FenSt h4 b' c' m u → (∀ j, 0 ≤ v j) → (∀ j, 0 ≤ u j) → ps v m ≤ a * 1073741824 → ps u m ≤ a * 1073741824 →
        (∀ j, v j = ps (fun t => parts m li lx t j) a) → (∀ j, u j = ps (fun t => parts m li lx (li.length - 1 - t) j) a) → Ext h.size h h4 → X (a : Int) h4 := by
      intro d
      induction d with
      | zero =>
        intro a h4 v u ha F G hv hu hB hC hvv huu E
        obtain rfl : a = li.length := by omega
        refine HX _ _ ⟨fun q => absurd q (by rw [his.len]; simp), fun _ => ?_⟩
        refine ints_ok F hm hv (by omega) fun s1 h5 R1 E5 => ?_
        have gb := G.top.lt
        have gc : c' < h4.size := by obtain ⟨s, hs, _⟩ := G.row; exact hs.lt
        refine ints_ok (G.ext (n := 0) (E5.2 _ gb) (E5.2 _ gc)) hm hu (by omega) fun s2 h6 R2 E6 => ?_
        have hvu : (List.range m).map v = (List.range m).map u := by
          congr 1; funext j; rw [hvv, huu, ps_back (fun t => parts m li lx t j)]
        have E4 : h.size ≤ h4.size := E.1
        have E5' : h4.size ≤ h5.size := E5.1
        refine same_Ints_ok (R1.ext E6 (Nat.le_refl _)) R2 (by simp; omega) ⟨by simp [hvu], ?_⟩
        exact (E.trans (E5.mono (by omega))).trans (E6.mono (by omega))
      | succ d ih =>
        intro a h4 v u ha F G hv hu hB hC hvv huu E
        refine HX _ _ ⟨fun _ => ?_, fun q => absurd q (by rw [his.len]; simp; omega)⟩
        refine RI.ix (his.ext E (Nat.le_refl _)) (by omega) (by omega) fun p hp hpc => ⟨_, hpc, RI.ix (hxs.ext E (Nat.le_refl _)) (by omega) (by omega) fun p2 hp2 hpc2 => ⟨_, hpc2, ?_⟩⟩
        refine add_any (B := (a : Int) * 1073741824) F hm hv hB (by omega) fun e h5 v' F' hv' hB' hvv' hd hz => ?_
        have E5 : Ext h.size h4 h5 := ⟨by omega, fun d' hd' => hd d' (by omega)⟩
        have e1 : w64 (w64 ((is.len : Int) - 1) - (a : Int)) = ((li.length - 1 - a : Nat) : Int) := by
          rw [his.len, w64_of (n := (li.length : Int) - 1) (by omega) (by omega), w64_of (by omega) (by omega)]; omega
        rw [e1]
        refine RI.ix (his.ext (E.trans E5) (Nat.le_refl _)) (by omega) (by omega) fun p hp hpc => ⟨_, hpc, RI.ix (hxs.ext (E.trans E5) (Nat.le_refl _)) (by omega) (by omega) fun p2 hp2 hpc2 => ⟨_, hpc2, ?_⟩⟩
        have gbc : b' ≠ c ∧ c' ≠ c := ⟨by omega, by omega⟩
        have G5 : FenSt h5 b' c' m u := G.ext (n := 0) (hd _ gbc.1) (hd _ gbc.2)
        refine add_any (B := (a : Int) * 1073741824) G5 hm hu hC (by omega) fun e h6 u' G' hu' hC' huu' hd2 hz2 => ?_
        have F6 : FenSt h6 b c m v' := F'.ext (n := 0) (hd2 _ (by omega)) (hd2 _ (by omega))
        rw [show w64 ((a : Int) + 1) = ((a + 1 : Nat) : Int) by rw [w64_of] <;> omega]
        refine ih (a + 1) h6 v' u' (by omega) F6 G' hv' hu' (by omega) (by omega) (fun j => ?_) (fun j => ?_) ((E.trans E5).trans ⟨by omega, fun d' hd' => hd2 d' (by omega)⟩)
        · rw [hvv', hvv, ps]; simp only [parts, Int.toNat_natCast]
        · rw [huu', huu, ps]; simp only [parts, Int.toNat_natCast]
    exact key li.length 0 h3 _ _ (by omega) F G (fun _ => Int.le_refl _) (fun _ => Int.le_refl _) (by rw [ps_zero]; decide) (by rw [ps_zero]; decide) (fun _ => rfl) (fun _ => rfl) E
end Go.Proofs.Ythjfnfhgnbmgcaa
