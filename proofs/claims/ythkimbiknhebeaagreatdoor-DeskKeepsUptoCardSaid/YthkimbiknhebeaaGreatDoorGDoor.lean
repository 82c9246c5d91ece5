/- A row that lists the library's tables and sentinels: what its condition gives, and a world that meets it. -/
import Derived.Test.YthkimbiknhebeaaGreatDoorRows
import Derived.Test.YthkimbiknhebeaaGreatDoorTie
import Derived.Test.YthkimbiknhebeaaGreatDoorCards
import Derived.Test.YthkimbiknhebeaaGreatDoorLineA
import Derived.LaidLaws
import Derived.LaidHandle
import Derived.LaidSub
import Derived.Lay
import Derived.Lib.LaidTab
import Derived.Stop.LaidErr
import Derived.Shelf.Vars
import Derived.RowKitTokens
import Derived.Stop.Joined
import Derived.Deep.DeepHandedRow
import Derived.SevenTiedAt
import Derived.RowKit
namespace Go.Proofs.YthkimbiknhebeaaGreatDoor
open Go Go.RowKit
namespace Dr
theorem own : ownKnob Tryz.prog.godebug = none := by kernel_rfl
theorem laidOut : laidOutB Tryz.prog = true := by kernel_rfl
abbrev Rest : List (String × DataW Unit) := [("strconv.ErrRange", Rows.laid_strconv_ErrRange), ("strconv.ErrSyntax", Rows.laid_strconv_ErrSyntax), ("unicode/utf8.first", Rows.laid_unicode_utf8_first)]
abbrev Laid : List (String × DataW Unit) := [("math/bits.deBruijn32tab", Rows.laid_math_bits_deBruijn32tab), ("math/bits.deBruijn64tab", Rows.laid_math_bits_deBruijn64tab), ("internal/strconv.uint64pow10", Rows.laid_internal_strconv_uint64pow10), ("unicode/utf8.acceptRanges", Rows.laid_unicode_utf8_acceptRanges)] ++ Rest
theorem met {W : World} (h : laidMetH Tryz.prog Laid W) : laidMet Tryz.prog Laid W := h
theorem hrow (u : TypeId) (hu : Tryz.prog.typeName? 3 u = some "*errors.errorString") : u = 184 :=
 typeName_ptr_named (P := Tryz.prog) (nm := "errors.errorString") (tp := 184) (by kernel_rfl) (by kernel_rfl) (by decide) u hu
theorem tab_eq : (Rows.laid_internal_strconv_uint64pow10 : DataW Unit) = Lib.tabData .u64 Lib.pow10Tab := by kernel_rfl
theorem tab {W : World} (h : laidMetH Tryz.prog Laid W) : Lib.TabIs Tryz.prog W "internal/strconv.uint64pow10" .u64 Lib.pow10Tab := by
 have h3 := (met h).tail.tail
 rw [tab_eq] at h3
 exact Lib.tabIs_of_head (g := 5) (by kernel_rfl) (by kernel_rfl) Tryz.underlying176 Tryz.underlying149 (by kernel_rfl) (by kernel_rfl) h3
theorem errRange {W : World} (h : laidMetH Tryz.prog Laid W) : ∃ te pe, W.cell? ⟨4, 0, none⟩ = some (.iface te pe) := by
 obtain ⟨a, s, hv, _⟩ := laid_sentinel (g := 4) (met h).tail.tail.tail.tail (by kernel_rfl) (by kernel_rfl) Tryz.underlying82 hrow Tryz.underlying184 Tryz.underlying186 rfl rfl Tryz.underlying9 (by kernel_rfl) (by kernel_rfl)
 exact ⟨_, _, by simpa using World.var?_cell (show Tryz.prog.globalNamed "strconv.ErrRange" = some 4 by kernel_rfl) hv 0⟩
theorem errSyntax {W : World} (h : laidMetH Tryz.prog Laid W) : ∃ te pe, W.cell? ⟨3, 0, none⟩ = some (.iface te pe) := by
 obtain ⟨a, s, hv, _⟩ := laid_sentinel (g := 3) (met h).tail.tail.tail.tail.tail (by kernel_rfl) (by kernel_rfl) Tryz.underlying82 hrow Tryz.underlying184 Tryz.underlying186 rfl rfl Tryz.underlying9 (by kernel_rfl) (by kernel_rfl)
 exact ⟨_, _, by simpa using World.var?_cell (show Tryz.prog.globalNamed "strconv.ErrSyntax" = some 3 by kernel_rfl) hv 0⟩
theorem maxLen_int {W : World} (h : W.ShapedOpen Tryz.prog) : ∃ m, W.cell? ⟨0, 0, none⟩ = some (.int .i64 m) :=
 cell_of_shapedOpen_int (g := 0) (t := 3) (zero := #[.int .i64 0]) h (by decide +kernel) (by kernel_rfl) rfl (by kernel_rfl) (by kernel_rfl) Tryz.underlying3
theorem tab_cell {W : World} (h : laidMetH Tryz.prog Laid W) : W.cell? ⟨5, 0, none⟩ = some (.int .u64 1) := by
 have := (tab h).cell (show Tryz.prog.globalNamed "internal/strconv.uint64pow10" = some 5 by kernel_rfl) 0 (by decide)
 exact this
theorem size6 {W : World} (h : laidMetH Tryz.prog Laid W) : 6 ≤ W.heap.size := Tw.hcell_lt (h := W.heap) (p := ⟨5, 0, none⟩) (tab_cell h)
theorem lb {W : World} (h : laidMetH Tryz.prog Laid W) (hs : W.ShapedOpen Tryz.prog) : St.Lb W 6 W.heap := by
 intro h' E
 have same : ∀ (b o : Nat), b < 6 → Tw.hcell h' ⟨b, o, none⟩ = W.cell? ⟨b, o, none⟩ := fun b o hb => E.cell (p := ⟨b, o, none⟩) hb
 obtain ⟨m, h0⟩ := maxLen_int hs
 obtain ⟨t3, p3, h3⟩ := errSyntax h
 obtain ⟨t4, p4, h4⟩ := errRange h
 refine ⟨⟨m, (same 0 0 (by decide)).trans h0⟩, ⟨_, (same 3 0 (by decide)).trans h3, .inr ⟨_, _, rfl⟩⟩, ⟨_, (same 4 0 (by decide)).trans h4, .inr ⟨_, _, rfl⟩⟩, fun dr => ?_⟩
 have ht := tab h
 unfold Lib.TabIs World.var? at ht ⊢
 rw [show Tryz.prog.globalNamed "internal/strconv.uint64pow10" = some 5 by kernel_rfl] at ht ⊢
 have e : (Tw.wd W h' dr).heap[5]? = W.heap[5]? := E.2 5 (by decide)
 simpa only [Option.bind_some, e] using ht
/-- a world that meets the condition -/
noncomputable def laidWorld (os : Os) : World := World.laidAll Tryz.prog os Laid
theorem laidWorld_met (os : Os) (args : Array Value) : laidMetH Tryz.prog Laid ((laidWorld os).forCall (fun _ _ => 0) ⟨#[], args, []⟩).memory :=
 laidMet_laidAll args (by kernel_rfl) (by kernel_rfl)
end Dr
end Go.Proofs.YthkimbiknhebeaaGreatDoor
