/- What the statements ask alike: lists, measures. -/
import Derived.Test.YtcafckgflpmfgaaDoorDBas
import Derived.Test.YtcafckgflpmfgaaDoorDSame
import Derived.Test.YtcafckgflpmfgaaDoorTwMore
namespace Go.Proofs.YtcafckgflpmfgaaDoor
open Go Go.RowKit Go.Tw
set_option linter.unusedVariables false
theorem RI.over {n c : Nat} {h h' : Heap} {s : Sl} {u : List Int} (S : RI n h s u) (hne : u ≠ [] → ∀ p, s.a = some p → p.block ≠ c) (ho : ∀ d, d ≠ c → h'[d]? = h[d]?) : RI n h' s u := by
  refine ⟨Rs.len S, S.cap, ?_⟩
  rcases S.at_ with e | ⟨b, o, e1, e2, e3⟩
  · exact .inl e
  · by_cases hu : u = []
    · exact .inl (by rw [hu]; rfl)
    · refine .inr ⟨b, o, e1, e2, fun i hi => ?_⟩
      rw [hcell_of_eq (h := h) (ho _ (show (ad b (o + i)).block ≠ c from (show (ad b o).block ≠ c from hne hu _ e1)))]
      exact e3 i hi

theorem RI.lt {n : Nat} {h : Heap} {s : Sl} {u : List Int} (S : RI n h s u) (hu : u ≠ []) : ∀ p, s.a = some p → p.block < n := by
  intro p hp
  rcases S.at_ with e | ⟨b, o, e1, e2, e3⟩
  · exact absurd (List.map_eq_nil_iff.1 e) hu
  · rw [hp] at e1; cases e1; exact e2
theorem RI.over' {n c : Nat} {h h' : Heap} {s : Sl} {u : List Int} (S : RI n h s u) (hn : n ≤ c) (ho : ∀ d, d ≠ c → h'[d]? = h[d]?) : RI n h' s u :=
  RI.over S (fun hu p hp => by have := RI.lt S hu p hp; omega) ho

section
variable {r : World} {h : Heap}

theorem cat_ok {s t : Sl} {u v : List Int} {n : Nat} {R : Sl → Heap → Prop} (hs : RI n h s u) (ht : RI n h t v) (hn : n ≤ h.size) (hz : u.length + v.length ≤ 17592186044416) (H : ∀ s' h', Fw h h' → Own h.size 1 h' s' ((u ++ v).map iV) → R s' h') : ref1_Cat r s t h R := by
  apply ref1_Cat_of
  have ls := hs.len
  have lt := ht.len
  refine App.own (Own.nil h.size 1 h) hs rfl (by intro v hv; obtain ⟨x, _, rfl⟩ := List.mem_map.1 hv; rfl) (Nat.le_refl _) (by simp [Sl.nil]; omega) fun s1 h1 G1 => ?_
  have O1 := G1.own
  have l1 : s1.len = u.length := by have := O1.len; simp at this; omega
  refine App.own O1 (ht.ext G1.ext hn) rfl (by intro v hv; obtain ⟨x, _, rfl⟩ := List.mem_map.1 hv; rfl) G1.ext.1 (by omega) fun s2 h2 G2 => ?_
  refine H s2 h2 (Ext.trans G1.ext G2.ext) ?_
  have := G2.own
  simpa using this

theorem App.in_ {el : TypeId} {N n : Nat} {s x : Sl} {u v : List Int} {K : Sl → Heap → Prop} (O : Own N 1 h s (u.map iV)) (X : RI n h x v) (hN : N ≤ h.size) (hz : u.length + v.length ≤ 17592186044416) (hK : ∀ s' h', Tw.Ext N h h' → Own N 1 h' s' ((u ++ v).map iV) → K s' h') : App el 1 8 (.int .i64 0) s x h K := by
  have ls : s.len = u.length := by have := O.len; simp at this; omega
  have lx := X.len
  refine App.own O X rfl (by intro v hv; obtain ⟨x, _, rfl⟩ := List.mem_map.1 hv; rfl) hN (by omega) fun s' h' G => hK s' h' G.ext ?_
  have := G.own
  simpa using this

theorem Sub.in_ {n : Nat} {s : Sl} {u : List Int} {lo hi : Nat} {K : Sl → Prop} (S : RI n h s u) (h1 : lo ≤ hi) (h2 : hi ≤ u.length) (hK : ∀ t, RI n h t ((u.drop lo).take (hi - lo)) → K t) : Sub s (lo : Int) (hi : Int) (s.cap : Int) 1 K := by
  have hc := S.cap
  have hl := S.len
  refine ⟨by omega, by omega, by omega, by omega, fun t ht => hK t ?_⟩
  have et : t = ⟨sliceA s.a s.cap lo 1, hi - lo, s.cap - lo⟩ := by rw [ht]; simp only [Int.toNat_natCast]
  rw [et]
  by_cases he : lo = hi
  · subst he
    refine ⟨by simp, by simp, .inl (by simp)⟩
  · have := Rs.sub S (lo := lo) (hi := hi) (mx := s.cap) (by omega) (by simp; omega) (by omega)
    rwa [← List.map_drop, ← List.map_take] at this

theorem St.at_ {c k : Nat} {cs : List Value} {v : Value} {K : Heap → Prop} (B : Blk h c cs) (hk : k < cs.length) (hK : ∀ h', Blk h' c (cs.set k v) → (∀ d, d ≠ c → h'[d]? = h[d]?) → h'.size = h.size → K h') : St h (Addr.add (ad c 0) k) 1 [v] K := by
  rw [ad_add, Nat.zero_add]
  refine St.one B hk (hK _ B.set (fun d hd => hset_other (show c ≠ d from fun e => hd e.symm)) (hset_size _ _ _))

end
end Go.Proofs.YtcafckgflpmfgaaDoor
