/- Dealing on piles: what the functions do. -/
import Derived.Test.YthjfnfhgnbmgcaaLis
import Derived.Test.YthjfnfhgnbmgcaaLisL
import Derived.Test.YthjfnfhgnbmgcaaFenP
namespace Go.Proofs.Ythjfnfhgnbmgcaa
open Go Go.RowKit Go.Tw Go.Lis
set_option linter.unusedVariables false

theorem search_ok {r : World} {h : Heap} {n k : Nat} {f : Value} {R : Int → Heap → Prop} (g : Nat → Bool) (hn : n ≤ 4611686018427387904)
    (hcall : ∀ i : Nat, i < n → ∀ K : Value → Heap → Prop, K (.bool (g i)) h → CallV Try.prog r f [.int .i64 i] h K)
    (hk : k ≤ n) (hlt : ∀ j, j < k → g j = false) (hge : ∀ j, k ≤ j → j < n → g j = true) (H : R k h) : sort_Search r n f h R := by
  apply sort_Search_of
  intro X HX
  have key : ∀ d (i j : Nat), j - i ≤ d → i ≤ k → k ≤ j → j ≤ n → X (i : Int) (j : Int) h := by
    intro d
    induction d with
    | zero =>
      intro i j h1 h2 h3 h4
      obtain rfl : i = k := by omega
      exact HX _ _ _ ⟨fun q => by simp at q; omega, fun _ => H⟩
    | succ d ih =>
      intro i j h1 h2 h3 h4
      by_cases hij : i < j
      · refine HX _ _ _ ⟨fun _ => ?_, fun q => by simp at q; omega⟩
        intro x6 hx
        have e : x6 = (((i + j) / 2 : Nat) : Int) := by
          rw [hx, w64_of (n := (i : Int) + j) (by omega) (by omega), IntKind.wrap_u64]
          rw [show sShr .u64 (((i : Int) + j) % 18446744073709551616) 1 = Int.fdiv (((i : Int) + j) % 18446744073709551616) (2 ^ 1) from rfl, Int.fdiv_eq_ediv_of_nonneg _ (by decide), w64_of] <;> omega
        subst e
        refine hcall _ (by omega) _ ⟨_, rfl, fun q => ?_, fun q => ?_⟩
        · have hm : ¬ k ≤ (i + j) / 2 := fun hm => by rw [hge _ hm (by omega)] at q; cases q
          rw [show w64 ((((i + j) / 2 : Nat) : Int) + 1) = (((i + j) / 2 + 1 : Nat) : Int) by rw [w64_of] <;> omega]
          exact ih _ _ (by omega) (by omega) (by omega) (by omega)
        · have hm : k ≤ (i + j) / 2 := by
            apply Nat.le_of_not_lt; intro hm
            rw [hlt _ hm] at q; cases q
          exact ih _ _ (by omega) (by omega) (by omega) (by omega)
      · obtain rfl : i = k := by omega
        exact HX _ _ _ ⟨fun q => by simp at q; omega, fun _ => H⟩
  exact key n 0 n (by omega) (by omega) hk (Nat.le_refl _)

abbrev nV (n : Nat) : Value := iV (n : Int)

/-- a place of one's own slice -/
theorem Ix.own {N : Nat} {h : Heap} {s : Sl} {vs : List Value} {i : Int} {K : Addr → Prop} (O : Own N 1 h s vs) (h0 : 0 ≤ i) (h1 : i < vs.length) (hK : ∀ b, s.a = some (ad b 0) → K (ad b i.toNat)) : Ix s i 1 K := by
  have hl := O.len
  obtain ⟨b, hb⟩ := O.ex (by intro e; subst e; simp at h1; omega)
  refine Ix.mk hb h0 (by omega) ?_
  have := hK b hb
  rwa [show 0 + i.toNat * 1 = i.toNat by omega]

theorem last_at {p : List Nat} (h : p ≠ []) : p[p.length - 1]? = some (last p) := by
  unfold last
  rw [List.getLastD_eq_getLast?, List.getLast?_eq_getElem?]
  have : p.length - 1 < p.length := by have := List.length_pos_iff.2 h; omega
  rw [List.getElem?_eq_getElem this]; rfl

/-- the last place of a pile -/
theorem top_ok {N : Nat} {h : Heap} {s : Sl} {p : List Nat} {K : Int → Prop} (O : Own N 1 h s (p.map nV)) (hp : p ≠ []) (hl : p.length ≤ 4611686018427387904) (H : K (last p : Int)) : Ix s (w64 ((s.len : Int) - 1)) 1 fun q => LdI h q K := by
  have e : s.len = p.length := by simpa using O.len
  have h0 := List.length_pos_iff.2 hp
  rw [e, show w64 ((p.length : Int) - 1) = ((p.length - 1 : Nat) : Int) by rw [w64_of] <;> omega]
  refine Ix.own O (by omega) (by simp; omega) fun b hb => ⟨_, O.cell hb ?_, H⟩
  rw [Int.toNat_natCast, List.getElem?_map, last_at hp]; rfl
end Go.Proofs.Ythjfnfhgnbmgcaa
