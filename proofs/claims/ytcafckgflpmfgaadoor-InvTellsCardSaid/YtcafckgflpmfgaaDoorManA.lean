/- New places of trees, in whatever order they are made. -/
import Derived.Test.YtcafckgflpmfgaaDoorManT
namespace Go.Proofs.YtcafckgflpmfgaaDoor
open Go Go.RowKit Go.Tw
/-- of A, and none of some -/
abbrev Xs (A : Nat → Prop) (cs : List Nat) : Nat → Prop := fun b => A b ∧ b ∉ cs
section
variable {A : Nat → Prop} {cs ns : List Nat} {h9 h h' : Heap}
theorem To.xs_new (E : Fw h h') : To (Xs A cs) (Xs A (h.size :: cs)) h h' := To.old E fun b hb hl => ⟨hb.1, fun hm => by
  rcases List.mem_cons.1 hm with e | hm
  · omega
  · exact hb.2 hm⟩
/-- the new places since h9: each holds nothing -/
structure Al (h9 h : Heap) (ns : List Nat) : Prop where
  fw : Fw h9 h
  blk : ∀ c ∈ ns, Blk h c [.pointer none]
  ge : ∀ c ∈ ns, h9.size ≤ c
  nd : ns.Nodup
theorem Al.start (h : Heap) : Al h h [] := ⟨Fw.refl h, by simp, by simp, List.nodup_nil⟩
theorem Al.new (L : Al h9 h ns) (E : Fw h h') (B : Blk h' h.size [.pointer none]) : Al h9 h' (h.size :: ns) :=
  ⟨L.fw.trans E, fun c hc => by
    rcases List.mem_cons.1 hc with rfl | hc
    · exact B
    · exact E.blk (L.blk c hc), fun c hc => by
    rcases List.mem_cons.1 hc with rfl | hc
    · exact L.fw.1
    · exact L.ge c hc, List.nodup_cons.2 ⟨fun hm => Nat.lt_irrefl _ (L.blk _ hm).lt, L.nd⟩⟩
theorem Al.step (L : Al h9 h ns) (E : Fw h h') : Al h9 h' ns := ⟨L.fw.trans E, fun c hc => E.blk (L.blk c hc), L.ge, L.nd⟩
theorem Al.to (L : Al h9 h ns) : To (Xs A cs) (Xs A (ns ++ cs)) h9 h := To.old L.fw fun b hb hl => ⟨hb.1, fun hm => by
  rcases List.mem_append.1 hm with hm | hm
  · have := L.ge b hm; omega
  · exact hb.2 hm⟩
theorem Al.hA (L : Al h9 h ns) (hA : ∀ b, h9.size ≤ b → Xs A cs b) : ∀ b, h.size ≤ b → Xs A (ns ++ cs) b := fun b hb => by
  have z := L.fw.1
  refine ⟨(hA b (by omega)).1, fun hm => ?_⟩
  rcases List.mem_append.1 hm with hm | hm
  · have := (L.blk b hm).lt; omega
  · exact (hA b (by omega)).2 hm
/-- both places are written -/
theorem Al.two (L : Al h9 h ns) {a b : Nat} {ya yb : Option Addr} {K : Heap → Prop} (ha : a ∈ ns) (hb : b ∈ ns) (hab : a ≠ b)
    (H : ∀ h', Fw h9 h' → Blk h' a [.pointer ya] → Blk h' b [.pointer yb] → To (Xs A (ns ++ cs)) (Xs A cs) h h' → K h') : St h (ad a 0) 1 [.pointer ya] fun h1 => St h1 (ad b 0) 1 [.pointer yb] fun h2 => K h2 := by
  refine St.whole (L.blk a ha) rfl rfl fun h1 B1 o1 z1 => ?_
  refine St.whole ((L.blk b hb).other o1 (fun e => hab e.symm)) rfl rfl fun h2 B2 o2 z2 => ?_
  refine H h2 ((L.fw.over (L.ge a ha) o1 z1).over (L.ge b hb) o2 z2) (B1.other o2 hab) B2 ?_
  have s1 : To (Xs A (ns ++ cs)) (Xs A (ns ++ cs)) h h1 := To.over (fun e => e.2 (List.mem_append_left _ ha)) o1 z1
  have s2 : To (Xs A (ns ++ cs)) (Xs A (ns ++ cs)) h1 h2 := To.over (fun e => e.2 (List.mem_append_left _ hb)) o2 z2
  exact (s1.trans s2).trans (To.weak (fun b hb => ⟨hb.1, fun hm => hb.2 (List.mem_append_right _ hm)⟩) h2)
/-- both places are written -/
theorem Al.twoS (L : Al h9 h ns) {a b : Nat} {ya yb : Option Addr} {K : Heap → Prop} (ha : a ∈ ns) (hb : b ∈ ns) (hab : a ≠ b)
    (H : ∀ h', Fw h9 h' → Blk h' a [.pointer ya] → Blk h' b [.pointer yb] → To (Xs A (ns ++ cs)) (Xs A (ns ++ cs)) h h' → K h') : St h (ad a 0) 1 [.pointer ya] fun h1 => St h1 (ad b 0) 1 [.pointer yb] fun h2 => K h2 := by
  refine St.whole (L.blk a ha) rfl rfl fun h1 B1 o1 z1 => ?_
  refine St.whole ((L.blk b hb).other o1 (fun e => hab e.symm)) rfl rfl fun h2 B2 o2 z2 => ?_
  refine H h2 ((L.fw.over (L.ge a ha) o1 z1).over (L.ge b hb) o2 z2) (B1.other o2 hab) B2 ?_
  have s1 : To (Xs A (ns ++ cs)) (Xs A (ns ++ cs)) h h1 := To.over (fun e => e.2 (List.mem_append_left _ ha)) o1 z1
  have s2 : To (Xs A (ns ++ cs)) (Xs A (ns ++ cs)) h1 h2 := To.over (fun e => e.2 (List.mem_append_left _ hb)) o2 z2
  exact s1.trans s2
/-- one place -/
theorem Al.one (L : Al h9 h ns) {a : Nat} {ya : Option Addr} {K : Heap → Prop} (ha : a ∈ ns)
    (H : ∀ h', Fw h9 h' → Blk h' a [.pointer ya] → To (Xs A (ns ++ cs)) (Xs A cs) h h' → K h') : St h (ad a 0) 1 [.pointer ya] fun h1 => K h1 := by
  refine St.whole (L.blk a ha) rfl rfl fun h1 B1 o1 z1 => ?_
  have s1 : To (Xs A (ns ++ cs)) (Xs A (ns ++ cs)) h h1 := To.over (fun e => e.2 (List.mem_append_left _ ha)) o1 z1
  exact H h1 (L.fw.over (L.ge a ha) o1 z1) B1 (s1.trans (To.weak (fun b hb => ⟨hb.1, fun hm => hb.2 (List.mem_append_right _ hm)⟩) h1))
/-- apart from a place, and from a slice of one's own -/
abbrev Ap (A : Nat → Prop) (c : Nat) (s : Sl) : Nat → Prop := fun b => A b ∧ b ≠ c ∧ ∀ p, s.a = some p → p.block ≠ b
theorem Ap.new {N c sz : Nat} {s : Sl} {vs : List Value} (hA : ∀ b, h.size ≤ b → A b) (hc : c < h.size) (O : Own N sz h s vs) : ∀ b, h.size ≤ b → Ap A c s b := fun b hb => ⟨hA b hb, by omega, fun p hp e => by have := (O.lt hp).1; omega⟩
theorem To.grown {N c sz : Nat} {s s' : Sl} {ws : List Value} (G : Grown N sz h h' s s' ws) (hz : h.size ≤ h'.size) : To (Ap A c s) (Ap A c s') h h' :=
  ⟨hz, fun b hb hc => ⟨G.others b hc.lt hb.2.2, hb.1, hb.2.1, fun p hp e => by
    rcases G.blk with e2 | ⟨b', h1, e2⟩
    · exact hb.2.2 p (by rw [← e2]; exact hp) e
    · rw [e2] at hp; cases hp
      have := hc.lt
      have e : b' = b := e
      omega⟩⟩
end
end Go.Proofs.YtcafckgflpmfgaaDoor
