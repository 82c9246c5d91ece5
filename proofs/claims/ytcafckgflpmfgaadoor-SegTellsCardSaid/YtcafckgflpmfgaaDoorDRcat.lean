/- All beginnings: the law 'ScanTells'. -/
import Derived.Test.YtcafckgflpmfgaaDoorDBas
import Derived.Test.YtcafckgflpmfgaaDoorDSame
import Derived.Test.YtcafckgflpmfgaaDoorTwUse
namespace Go.Proofs.YtcafckgflpmfgaaDoor.SegX
open Go Go.RowKit Go.Tw
set_option linter.unusedVariables false
section
variable {r : World} {h : Heap} {op : Int} {l2 : Sl} {l : List Int}
theorem refcat_ok {s t : Sl} {u v : List Int} {n : Nat} {R : Sl → Heap → Prop} (hs : RI n h s u) (ht : RI n h t v) (hn : n ≤ h.size) (hz : u.length + v.length ≤ 17592186044416) (H : ∀ s' h', Fw h h' → Own h.size 1 h' s' ((u ++ v).map iV) → R s' h') : ref1_Cat r s t h R := by
  apply ref1_Cat_of
  have ls := hs.len
  have lt := ht.len
  have o1 : ∀ (l : List Int), ∀ v ∈ l.map iV, one v = true := by intro l v hv; obtain ⟨x, _, rfl⟩ := List.mem_map.1 hv; rfl
  refine App.own (Own.nil h.size 1 h) hs rfl (o1 u) (Nat.le_refl _) (by simp [Sl.nil]; omega) fun s1 h1 G1 => ?_
  have O1 := G1.own
  have l1 : s1.len = u.length := by have := O1.len; simp at this; omega
  refine App.own O1 (ht.ext G1.ext hn) rfl (o1 v) G1.ext.1 (by omega) fun s2 h2 G2 => ?_
  refine H s2 h2 (Tw.Ext.trans G1.ext G2.ext) ?_
  have := G2.own
  simpa using this
end
end Go.Proofs.YtcafckgflpmfgaaDoor.SegX
