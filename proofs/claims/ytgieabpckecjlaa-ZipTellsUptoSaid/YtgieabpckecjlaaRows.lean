/-
  No cell of these rows narrows 'for every input' (looked for: loops, veiled, ifaces, maps, wideKeys, modest, calm, conditions, laid).
  DERIVED. THE GIVEN ROWS OF THIS SEAT. 6 by the template 'for every input the law returns true; each argument reads behind the call as it read before'; 0 by the template 'total and deterministic' (their statements: YtgieabpckecjlaaTotals.lean).
  GIVEN WITH THE SEED: the statements are not yours to turn. If you find one false, say at which input.
  Laid BY PROGRAM, IN A SANDBOX (cutbox-rows.mjs): the forced cells as the released guide's own fill.sh prints them over the translation 4905bf0e9e439e74… (all of the seat's roots in one cut). By AI agents, Wed Nov 11 2026. No macro, syntax, notation, axiom, sorry.
-/
import Derived.Test.YtgieabpckecjlaaChecked
import GoSem.Claim
import GoSem.ClaimJoined
import GoSem.ClaimMapViews
import Derived.JoinedTies
import Derived.KernelRfl
namespace Go.Proofs.Ytgieabpckecjlaa
/- THE CELL 'sum', in the pinned program and in every row, IS THE sha256 OF THE DUMP (.gsa) THAT YtgieabpckecjlaaProg.lean LOADS. Nothing in Lean hashes anything: it is a label: what it is worth is what the hold of that sum in a sandbox is worth. -/
noncomputable def Try.pinned : Pinned := { name := "ytgieabpckecjlaa", sum := "4905bf0e9e439e74d005daaffd4a58ad1d2b182b313f8e3aa71b879ea239e22f", checked := Try.checked }
namespace Rows
def none {H : Type} : Left H := { results := [], args := [] }

/-- 'wattleworklaw5.TableParts': WHATEVER THE INPUT: true; the input reads as it did. -/
def tablePartsSpec : ChangeSpec := { name := "tableParts", fn := fun _ => fun
  | [d1, d2, d3, d4, d5, d6] => { results := [.lit (.bool true)], args := [d1, d2, d3, d4, d5, d6] }
  | _ => none }
def tablePartsRow : OpenClaim := { program := "ytgieabpckecjlaa", sum := "4905bf0e9e439e74d005daaffd4a58ad1d2b182b313f8e3aa71b879ea239e22f", func := "wattlework/wattleworklaw5.TableParts", spec := "tableParts", unfollowed := true, recurses := true, apart := false }
def TablePartsSaid : Prop := tablePartsRow.holds Try.pinned (OpenSpec.ofChange tablePartsSpec)

/-- ITS FALSE NEIGHBOUR: 'it returns false'. Refute it at one input. -/
def tablePartsWrong : ChangeSpec := { name := "tableParts", fn := fun _ => fun
  | [d1, d2, d3, d4, d5, d6] => { results := [.lit (.bool false)], args := [d1, d2, d3, d4, d5, d6] }
  | _ => none }
def TablePartsWrongFalsely : Prop := tablePartsRow.holds Try.pinned (OpenSpec.ofChange tablePartsWrong)

/-- 'wattleworklaw3.ZipMoves': WHATEVER THE INPUT: true; the input reads as it did. -/
def zipMovesSpec : ChangeSpec := { name := "zipMoves", fn := fun _ => fun
  | [d1, d2, d3] => { results := [.lit (.bool true)], args := [d1, d2, d3] }
  | _ => none }
def zipMovesRow : OpenClaim := { program := "ytgieabpckecjlaa", sum := "4905bf0e9e439e74d005daaffd4a58ad1d2b182b313f8e3aa71b879ea239e22f", func := "wattlework/wattleworklaw3.ZipMoves", spec := "zipMoves", unfollowed := true, recurses := true, apart := false }
def ZipMovesSaid : Prop := zipMovesRow.holds Try.pinned (OpenSpec.ofChange zipMovesSpec)

/-- ITS FALSE NEIGHBOUR: 'it returns false'. Refute it at one input. -/
def zipMovesWrong : ChangeSpec := { name := "zipMoves", fn := fun _ => fun
  | [d1, d2, d3] => { results := [.lit (.bool false)], args := [d1, d2, d3] }
  | _ => none }
def ZipMovesWrongFalsely : Prop := zipMovesRow.holds Try.pinned (OpenSpec.ofChange zipMovesWrong)

/-- 'wattleworklaw5.SegParts': WHATEVER THE INPUT: true; the input reads as it did. -/
def segPartsSpec : ChangeSpec := { name := "segParts", fn := fun _ => fun
  | [d1, d2, d3, d4, d5] => { results := [.lit (.bool true)], args := [d1, d2, d3, d4, d5] }
  | _ => none }
def segPartsRow : OpenClaim := { program := "ytgieabpckecjlaa", sum := "4905bf0e9e439e74d005daaffd4a58ad1d2b182b313f8e3aa71b879ea239e22f", func := "wattlework/wattleworklaw5.SegParts", spec := "segParts", recurses := true, apart := false }
def SegPartsSaid : Prop := segPartsRow.holds Try.pinned (OpenSpec.ofChange segPartsSpec)

/-- ITS FALSE NEIGHBOUR: 'it returns false'. Refute it at one input. -/
def segPartsWrong : ChangeSpec := { name := "segParts", fn := fun _ => fun
  | [d1, d2, d3, d4, d5] => { results := [.lit (.bool false)], args := [d1, d2, d3, d4, d5] }
  | _ => none }
def SegPartsWrongFalsely : Prop := segPartsRow.holds Try.pinned (OpenSpec.ofChange segPartsWrong)

/-- 'wattleworklaw3.ZipTells': WHATEVER THE INPUT: true; the input reads as it did. -/
def zipTellsSpec : ChangeSpec := { name := "zipTells", fn := fun _ => fun
  | [d1, d2, d3] => { results := [.lit (.bool true)], args := [d1, d2, d3] }
  | _ => none }
def zipTellsRow : OpenClaim := { program := "ytgieabpckecjlaa", sum := "4905bf0e9e439e74d005daaffd4a58ad1d2b182b313f8e3aa71b879ea239e22f", func := "wattlework/wattleworklaw3.ZipTells", spec := "zipTells", unfollowed := true, recurses := true, apart := false }
def ZipTellsSaid : Prop := zipTellsRow.holds Try.pinned (OpenSpec.ofChange zipTellsSpec)

/-- ITS FALSE NEIGHBOUR: 'it returns false'. Refute it at one input. -/
def zipTellsWrong : ChangeSpec := { name := "zipTells", fn := fun _ => fun
  | [d1, d2, d3] => { results := [.lit (.bool false)], args := [d1, d2, d3] }
  | _ => none }
def ZipTellsWrongFalsely : Prop := zipTellsRow.holds Try.pinned (OpenSpec.ofChange zipTellsWrong)

/-- 'wattleworklaw3.ZipEdits': WHATEVER THE INPUT: true; the input reads as it did. -/
def zipEditsSpec : ChangeSpec := { name := "zipEdits", fn := fun _ => fun
  | [d1, d2, d3] => { results := [.lit (.bool true)], args := [d1, d2, d3] }
  | _ => none }
def zipEditsRow : OpenClaim := { program := "ytgieabpckecjlaa", sum := "4905bf0e9e439e74d005daaffd4a58ad1d2b182b313f8e3aa71b879ea239e22f", func := "wattlework/wattleworklaw3.ZipEdits", spec := "zipEdits", unfollowed := true, recurses := true, apart := false }
def ZipEditsSaid : Prop := zipEditsRow.holds Try.pinned (OpenSpec.ofChange zipEditsSpec)

/-- ITS FALSE NEIGHBOUR: 'it returns false'. Refute it at one input. -/
def zipEditsWrong : ChangeSpec := { name := "zipEdits", fn := fun _ => fun
  | [d1, d2, d3] => { results := [.lit (.bool false)], args := [d1, d2, d3] }
  | _ => none }
def ZipEditsWrongFalsely : Prop := zipEditsRow.holds Try.pinned (OpenSpec.ofChange zipEditsWrong)

/-- 'wattleworklaw5.SegAdds': WHATEVER THE INPUT: true; the input reads as it did. -/
def segAddsSpec : ChangeSpec := { name := "segAdds", fn := fun _ => fun
  | [d1, d2, d3, d4, d5] => { results := [.lit (.bool true)], args := [d1, d2, d3, d4, d5] }
  | _ => none }
def segAddsRow : OpenClaim := { program := "ytgieabpckecjlaa", sum := "4905bf0e9e439e74d005daaffd4a58ad1d2b182b313f8e3aa71b879ea239e22f", func := "wattlework/wattleworklaw5.SegAdds", spec := "segAdds", recurses := true, apart := false }
def SegAddsSaid : Prop := segAddsRow.holds Try.pinned (OpenSpec.ofChange segAddsSpec)

/-- ITS FALSE NEIGHBOUR: 'it returns false'. Refute it at one input. -/
def segAddsWrong : ChangeSpec := { name := "segAdds", fn := fun _ => fun
  | [d1, d2, d3, d4, d5] => { results := [.lit (.bool false)], args := [d1, d2, d3, d4, d5] }
  | _ => none }
def SegAddsWrongFalsely : Prop := segAddsRow.holds Try.pinned (OpenSpec.ofChange segAddsWrong)

/- THE SECOND FORM. 'bulk': how many values and letters a reading holds, each counted each time it is reached (what is shared counts as often as it is met; a slice's spare places count too). A statement '..UptoSaid' is the law's where the arguments, and the package variables that the reading takes, are together of bulk at most 1048576: NARROWER than '..Said'. Prove '..Said' where nothing that the law and all that it calls make is longer than what came in: it says more and counts as full. Else prove '..UptoSaid'. A law counts once. -/
mutual
def uptoBulk {H : Type} : DataW H → Nat
  | .lit (.string bytes) => bytes.length + 1
  | .lit _ => 1
  | .nil => 1
  | .ptr d => uptoBulk d + 1
  | .slice elems spare => uptoBulkAll elems + uptoBulkAll spare + 1
  | .agg parts => uptoBulkAll parts + 1
  | .iface _ d => uptoBulk d + 1
  | .map entries => uptoBulkEntries entries + 1
  | .held _ => 1
def uptoBulkAll {H : Type} : List (DataW H) → Nat
  | [] => 0
  | d :: r => uptoBulk d + uptoBulkAll r
def uptoBulkEntries {H : Type} : List (Lit × DataW H) → Nat
  | [] => 0
  | x :: r => uptoBulkEntry x + uptoBulkEntries r
def uptoBulkEntry {H : Type} : Lit × DataW H → Nat
  | (.string bytes, d) => bytes.length + uptoBulk d + 1
  | (_, d) => uptoBulk d + 1
 end
def uptoSmall : (H : Type) → List (DataW H) → Bool := fun _ ds => decide (uptoBulkAll ds ≤ 1048576)
def OpenSpec.upto (s : _root_.Go.ChangeSpec) : _root_.Go.OpenSpec := { _root_.Go.OpenSpec.ofChange s with cond := some uptoSmall }

/-- 'wattleworklaw5.TableParts', WHERE WHAT IT READS IS OF BULK AT MOST 1048576: true; the input reads as it did. -/
def tablePartsUptoRow : OpenClaim := { program := "ytgieabpckecjlaa", sum := "4905bf0e9e439e74d005daaffd4a58ad1d2b182b313f8e3aa71b879ea239e22f", func := "wattlework/wattleworklaw5.TableParts", spec := "tableParts", unfollowed := true, recurses := true, apart := false, narrowed := true }
def TablePartsUptoSaid : Prop := tablePartsUptoRow.holds Try.pinned (OpenSpec.upto tablePartsSpec)

/-- 'wattleworklaw3.ZipMoves', WHERE WHAT IT READS IS OF BULK AT MOST 1048576: true; the input reads as it did. -/
def zipMovesUptoRow : OpenClaim := { program := "ytgieabpckecjlaa", sum := "4905bf0e9e439e74d005daaffd4a58ad1d2b182b313f8e3aa71b879ea239e22f", func := "wattlework/wattleworklaw3.ZipMoves", spec := "zipMoves", unfollowed := true, recurses := true, apart := false, narrowed := true }
def ZipMovesUptoSaid : Prop := zipMovesUptoRow.holds Try.pinned (OpenSpec.upto zipMovesSpec)

/-- 'wattleworklaw5.SegParts', WHERE WHAT IT READS IS OF BULK AT MOST 1048576: true; the input reads as it did. -/
def segPartsUptoRow : OpenClaim := { program := "ytgieabpckecjlaa", sum := "4905bf0e9e439e74d005daaffd4a58ad1d2b182b313f8e3aa71b879ea239e22f", func := "wattlework/wattleworklaw5.SegParts", spec := "segParts", recurses := true, apart := false, narrowed := true }
def SegPartsUptoSaid : Prop := segPartsUptoRow.holds Try.pinned (OpenSpec.upto segPartsSpec)

/-- 'wattleworklaw3.ZipTells', WHERE WHAT IT READS IS OF BULK AT MOST 1048576: true; the input reads as it did. -/
def zipTellsUptoRow : OpenClaim := { program := "ytgieabpckecjlaa", sum := "4905bf0e9e439e74d005daaffd4a58ad1d2b182b313f8e3aa71b879ea239e22f", func := "wattlework/wattleworklaw3.ZipTells", spec := "zipTells", unfollowed := true, recurses := true, apart := false, narrowed := true }
def ZipTellsUptoSaid : Prop := zipTellsUptoRow.holds Try.pinned (OpenSpec.upto zipTellsSpec)

/-- 'wattleworklaw3.ZipEdits', WHERE WHAT IT READS IS OF BULK AT MOST 1048576: true; the input reads as it did. -/
def zipEditsUptoRow : OpenClaim := { program := "ytgieabpckecjlaa", sum := "4905bf0e9e439e74d005daaffd4a58ad1d2b182b313f8e3aa71b879ea239e22f", func := "wattlework/wattleworklaw3.ZipEdits", spec := "zipEdits", unfollowed := true, recurses := true, apart := false, narrowed := true }
def ZipEditsUptoSaid : Prop := zipEditsUptoRow.holds Try.pinned (OpenSpec.upto zipEditsSpec)

/-- 'wattleworklaw5.SegAdds', WHERE WHAT IT READS IS OF BULK AT MOST 1048576: true; the input reads as it did. -/
def segAddsUptoRow : OpenClaim := { program := "ytgieabpckecjlaa", sum := "4905bf0e9e439e74d005daaffd4a58ad1d2b182b313f8e3aa71b879ea239e22f", func := "wattlework/wattleworklaw5.SegAdds", spec := "segAdds", recurses := true, apart := false, narrowed := true }
def SegAddsUptoSaid : Prop := segAddsUptoRow.holds Try.pinned (OpenSpec.upto segAddsSpec)

end Rows
end Go.Proofs.Ytgieabpckecjlaa
