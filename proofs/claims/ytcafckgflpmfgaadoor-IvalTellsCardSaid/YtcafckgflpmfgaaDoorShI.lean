/- What the row tells of a slice of items, of spans. -/
import Derived.Test.YtcafckgflpmfgaaDoorManL
import Derived.Test.YtcafckgflpmfgaaDoorSh
import Derived.Deep.SlicePairs
import Derived.ChangeArms
namespace Go.Tw
open Go Go.RowKit Go.Many Go.ChangeShapes Go.WideShapes Go.Deep
section
variable {H : Type} {enc : TypeId × Value → H} {P : Program} {w : World} {base : Nat} {held : Bool}
instance : Inhabited It := ⟨⟨0, 0⟩⟩
instance : Inhabited Spn := ⟨⟨0, 0, 0⟩⟩
theorem spot_none {x : Addr} {v : Value} (hx : w.cell? (x.add 0) = some v) : x.spot = none := by
  have hx0 : x.add 0 = x := by simp [Addr.add]
  have hx : hcell w.heap (x.add 0) = some v := hx
  rw [hx0] at hx
  unfold hcell at hx
  cases hsp : x.spot with
  | none => rfl
  | some s => simp [hsp] at hx; split at hx <;> simp_all
theorem two_get {l : List It} : ∀ (i : Nat) (y : It), l[i]? = some y → (l.flatMap fun v => [iV v.rank, iV v.val])[i * 2]? = some (iV y.rank) ∧ (l.flatMap fun v => [iV v.rank, iV v.val])[i * 2 + 1]? = some (iV y.val) := by
  induction l with
  | nil => intro i y h; simp at h
  | cons a l ih =>
    intro i y h
    cases i with
    | zero => simp at h; subst h; exact ⟨rfl, rfl⟩
    | succ i =>
      have := ih i y (by simpa using h)
      rw [List.flatMap_cons, show (i + 1) * 2 = i * 2 + 1 + 1 by omega]
      simpa using this
theorem two_len (l : List It) : (l.flatMap fun v => [iV v.rank, iV v.val]).length = l.length * 2 := by
  induction l with
  | nil => rfl
  | cons a l ih => rw [List.flatMap_cons, List.length_append, ih]; simp; omega
theorem three_get {l : List Spn} : ∀ (i : Nat) (y : Spn), l[i]? = some y → (l.flatMap fun v => [iV v.lo, iV v.hi, iV v.val])[i * 3]? = some (iV y.lo) ∧ (l.flatMap fun v => [iV v.lo, iV v.hi, iV v.val])[i * 3 + 1]? = some (iV y.hi) ∧ (l.flatMap fun v => [iV v.lo, iV v.hi, iV v.val])[i * 3 + 2]? = some (iV y.val) := by
  induction l with
  | nil => intro i y h; simp at h
  | cons a l ih =>
    intro i y h
    cases i with
    | zero => simp at h; subst h; exact ⟨rfl, rfl, rfl⟩
    | succ i =>
      have := ih i y (by simpa using h)
      rw [List.flatMap_cons, show (i + 1) * 3 = i * 3 + 1 + 1 + 1 by omega]
      simpa using this
theorem three_len (l : List Spn) : (l.flatMap fun v => [iV v.lo, iV v.hi, iV v.val]).length = l.length * 3 := by
  induction l with
  | nil => rfl
  | cons a l ih => rw [List.flatMap_cons, List.length_append, ih]; simp; omega

theorem open_items {t e : TypeId} {f0 f1 : Field} {fuel : Nat} {cs : List Value} {x : DataW H × List MemPlace} {a : Option Addr} {len cap : Nat} (ht : P.underlying t = some (.slice e)) (he : P.underlying e = some (.struct #[f0, f1]))
    (ce : P.cellsOf e = 2) (o0 : f0.offset = 0) (o1 : f1.offset = 1) (c0 : P.cellsOf f0.type = 1) (c1 : P.cellsOf f1.type = 1) (i0 : P.underlying f0.type = some (.int .i64)) (i1 : P.underlying f1.type = some (.int .i64))
    (h : DataW.trod enc P w base (fun _ => true) held fuel t cs = some x) (hcs : cs = [.slice a len cap]) :
    ∃ l : List It, l.length = len ∧ Rs w.heap.size 2 w.heap ⟨a, len, cap⟩ (l.flatMap fun v => [iV v.rank, iV v.val]) ∧ Dt x.1 len := by
  rcases open_slice_pairs ht he ce o0 o1 c0 c1 h with ⟨h1, hx⟩ | ⟨x', l', c', m, n, V0, V1, D0, D1, P0, P1, h1, _, hl, hm, hmm, hx, hc⟩
  · rw [h1] at hcs
    simp at hcs
    obtain ⟨rfl, rfl, rfl⟩ := hcs
    exact ⟨[], rfl, ⟨rfl, Nat.le_refl _, .inl rfl⟩, .inl rfl⟩
  · rw [h1] at hcs
    simp at hcs
    obtain ⟨rfl, rfl, rfl⟩ := hcs
    simp only [if_true] at hmm
    subst hmm
    have each : ∀ i, i < m → ∃ q : It, w.cell? (x'.add (i * 2)) = some (iV q.rank) ∧ w.cell? (x'.add (i * 2 + 1)) = some (iV q.val) := fun i hi => by
      obtain ⟨g0, g1, g2, g3⟩ := hc i hi
      obtain ⟨n0, e0, _⟩ := DataW.trod_int i0 g2
      obtain ⟨n1, e1, _⟩ := DataW.trod_int i1 g3
      injection e0 with e0
      injection e1 with e1
      exact ⟨⟨n0, n1⟩, by rw [g0, e0], by rw [g1, e1]⟩
    obtain ⟨q, hq⟩ := choose_lt each
    refine ⟨(List.range l').map q, by simp, ⟨by rw [two_len]; simp, hl, ?_⟩, .inr ⟨_, _, by rw [hx], by simp⟩⟩
    by_cases h0 : l' = 0
    · subst h0; exact .inl rfl
    · have hsp := spot_none (w := w) (x := x') (by have := (hq 0 (by omega)).1; simpa using this)
      obtain ⟨b, o, sp⟩ := x'
      simp only at hsp; subst hsp
      refine .inr ⟨b, o, rfl, ?_, fun i hi => ?_⟩
      · have h2 : hcell w.heap ((ad b o).add (0 * 2)) = some _ := (hq 0 (by omega)).1
        have := hcell_lt h2
        rwa [Addr.add_block] at this
      · rw [two_len, List.length_map, List.length_range] at hi
        have hj : i / 2 < l' := by omega
        have e2 : ((List.range l').map q)[i / 2]? = some (q (i / 2)) := by simp [hj]
        obtain ⟨r0, r1⟩ := two_get (i / 2) _ e2
        obtain ⟨s0, s1⟩ := hq (i / 2) (by omega)
        by_cases hp : i % 2 = 0
        · have ei : i = i / 2 * 2 := by omega
          rw [ei, r0]
          have : hcell w.heap ((ad b o).add (i / 2 * 2)) = some (iV (q (i / 2)).rank) := s0
          rwa [ad_add] at this
        · have ei : i = i / 2 * 2 + 1 := by omega
          rw [ei, r1]
          have : hcell w.heap ((ad b o).add (i / 2 * 2 + 1)) = some (iV (q (i / 2)).val) := s1
          rwa [ad_add] at this

theorem open_spans {t e : TypeId} {f0 f1 f2 : Field} {fuel : Nat} {cs : List Value} {x : DataW H × List MemPlace} {a : Option Addr} {len cap : Nat} (ht : P.underlying t = some (.slice e)) (he : P.underlying e = some (.struct #[f0, f1, f2]))
    (ce : P.cellsOf e = 3) (o0 : f0.offset = 0) (o1 : f1.offset = 1) (o2 : f2.offset = 2) (c0 : P.cellsOf f0.type = 1) (c1 : P.cellsOf f1.type = 1) (c2 : P.cellsOf f2.type = 1) (i0 : P.underlying f0.type = some (.int .i64)) (i1 : P.underlying f1.type = some (.int .i64)) (i2 : P.underlying f2.type = some (.int .i64))
    (h : DataW.trod enc P w base (fun _ => true) held fuel t cs = some x) (hcs : cs = [.slice a len cap]) :
    ∃ l : List Spn, l.length = len ∧ Rs w.heap.size 3 w.heap ⟨a, len, cap⟩ (l.flatMap fun v => [iV v.lo, iV v.hi, iV v.val]) ∧ Dt x.1 len := by
  rcases open_slice ht h with ⟨h1, hx⟩ | ⟨x', l', c', m, n, D, Pl, h1, _, hl, hm, hmm, hx, hc⟩
  · rw [h1] at hcs
    simp at hcs
    obtain ⟨rfl, rfl, rfl⟩ := hcs
    exact ⟨[], rfl, ⟨rfl, Nat.le_refl _, .inl rfl⟩, .inl rfl⟩
  · rw [h1] at hcs
    simp at hcs
    obtain ⟨rfl, rfl, rfl⟩ := hcs
    simp only [if_true] at hmm
    subst hmm
    have each : ∀ i, i < m → ∃ q : Spn, w.cell? (x'.add (i * 3)) = some (iV q.lo) ∧ w.cell? (x'.add (i * 3 + 1)) = some (iV q.hi) ∧ w.cell? (x'.add (i * 3 + 2)) = some (iV q.val) := fun i hi => by
      obtain ⟨cs', h1, h2⟩ := hc i hi
      rw [ce] at h1
      obtain ⟨_, hlen, hcell⟩ := World.cells?_some h1
      obtain ⟨xs, k, hk, hxy, _, hxl, hf⟩ := DataW.trod_struct he h2
      match xs, hxl, cs', hlen with
      | [y0, y1, y2], _, [v0, v1, v2], _ =>
        have g0 := hf 0 f0 rfl
        have g1 := hf 1 f1 rfl
        have g2 := hf 2 f2 rfl
        simp [o0, o1, o2, c0, c1, c2] at g0 g1 g2
        have e0 := hcell 0 (by omega)
        have e1 := hcell 1 (by omega)
        have e2 := hcell 2 (by omega)
        rw [add_add] at e0 e1 e2
        obtain ⟨n0, d0, _⟩ := DataW.trod_int i0 g0
        obtain ⟨n1, d1, _⟩ := DataW.trod_int i1 g1
        obtain ⟨n2, d2, _⟩ := DataW.trod_int i2 g2
        injection d0 with d0
        injection d1 with d1
        injection d2 with d2
        subst d0; subst d1; subst d2
        exact ⟨⟨n0, n1, n2⟩, by simpa using e0, by simpa using e1, by simpa using e2⟩
    obtain ⟨q, hq⟩ := choose_lt each
    refine ⟨(List.range l').map q, by simp, ⟨by rw [three_len]; simp, hl, ?_⟩, .inr ⟨_, _, by rw [hx], by simp⟩⟩
    by_cases h0 : l' = 0
    · subst h0; exact .inl rfl
    · have hsp := spot_none (w := w) (x := x') (by have := (hq 0 (by omega)).1; simpa using this)
      obtain ⟨b, o, sp⟩ := x'
      simp only at hsp; subst hsp
      refine .inr ⟨b, o, rfl, ?_, fun i hi => ?_⟩
      · have h2 : hcell w.heap ((ad b o).add (0 * 3)) = some _ := (hq 0 (by omega)).1
        have := hcell_lt h2
        rwa [Addr.add_block] at this
      · rw [three_len, List.length_map, List.length_range] at hi
        have hj : i / 3 < l' := by omega
        have e2 : ((List.range l').map q)[i / 3]? = some (q (i / 3)) := by simp [hj]
        obtain ⟨r0, r1, r2⟩ := three_get (i / 3) _ e2
        obtain ⟨s0, s1, s2⟩ := hq (i / 3) (by omega)
        rcases (by omega : i % 3 = 0 ∨ i % 3 = 1 ∨ i % 3 = 2) with hp | hp | hp
        · have ei : i = i / 3 * 3 := by omega
          rw [ei, r0]
          have : hcell w.heap ((ad b o).add (i / 3 * 3)) = some (iV (q (i / 3)).lo) := s0
          rwa [ad_add] at this
        · have ei : i = i / 3 * 3 + 1 := by omega
          rw [ei, r1]
          have : hcell w.heap ((ad b o).add (i / 3 * 3 + 1)) = some (iV (q (i / 3)).hi) := s1
          rwa [ad_add] at this
        · have ei : i = i / 3 * 3 + 2 := by omega
          rw [ei, r2]
          have : hcell w.heap ((ad b o).add (i / 3 * 3 + 2)) = some (iV (q (i / 3)).val) := s2
          rwa [ad_add] at this
/-- a span that comes in -/
theorem open_span {r : Reach} {b0 : Nat} {t : TypeId} {f0 f1 f2 : Field} {v : Value} {d : DataW H} {ps : List MemPlace} {spare : Nat → Bool} (he : P.underlying t = some (.struct #[f0, f1, f2])) (ce : P.cellsOf t = 3) (o0 : f0.offset = 0) (o1 : f1.offset = 1) (o2 : f2.offset = 2)
    (c0 : P.cellsOf f0.type = 1) (c1 : P.cellsOf f1.type = 1) (c2 : P.cellsOf f2.type = 1) (i0 : P.underlying f0.type = some (.int .i64)) (i1 : P.underlying f1.type = some (.int .i64)) (i2 : P.underlying f2.type = some (.int .i64))
    (hval : Value.okWide P w r b0 t v) (hd : DataW.Trod enc P w base spare held t v d ps) : ∃ x y z : Int, v = .agg #[iV x, iV y, iV z] ∧ ps = [] := by
  obtain ⟨cs, rfl, hcs⟩ := okWide_struct he hval
  obtain ⟨fuel, hf⟩ := hd
  obtain ⟨xs, k, hk, hxy, hl, hxl, hg⟩ := DataW.trod_struct he hf
  rw [ce] at hcs
  match xs, hxl, cs, hcs with
  | [y0, y1, y2], _, ⟨[v0, v1, v2]⟩, _ =>
    have g0 := hg 0 f0 rfl
    have g1 := hg 1 f1 rfl
    have g2 := hg 2 f2 rfl
    simp [o0, o1, o2, c0, c1, c2, Value.cells] at g0 g1 g2
    obtain ⟨n0, d0, q0, _⟩ := DataW.trod_int i0 g0
    obtain ⟨n1, d1, q1, _⟩ := DataW.trod_int i1 g1
    obtain ⟨n2, d2, q2, _⟩ := DataW.trod_int i2 g2
    injection d0 with d0
    injection d1 with d1
    injection d2 with d2
    subst d0; subst d1; subst d2
    refine ⟨n0, n1, n2, rfl, ?_⟩
    have hxy := congrArg Prod.snd hxy
    simpa [q0, q1, q2] using hxy
end
end Go.Tw
