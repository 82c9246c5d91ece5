/-
  No cell of these rows narrows 'for every input' (looked for: loops, veiled, ifaces, maps, wideKeys, modest, calm, conditions, laid).
  DERIVED. THE GIVEN ROWS OF THIS SEAT. 8 by the template 'for every input the law returns true; each argument reads behind the call as it read before'; 0 by the template 'total and deterministic' (their statements: YtikccpmhoioaeaaTotals.lean).
  GIVEN WITH THE SEED: the statements are not yours to turn. If you find one false, say at which input.
  Laid BY PROGRAM, IN A SANDBOX (cutbox-rows.mjs): the forced cells as the released guide's own fill.sh prints them over the translation 58ef9ba594167f6e… (all of the seat's roots in one cut). By AI agents, Wed Nov 11 2026. No macro, syntax, notation, axiom, sorry.
-/
import Derived.Test.YtikccpmhoioaeaaChecked
import GoSem.Claim
import GoSem.ClaimJoined
import GoSem.ClaimMapViews
import Derived.JoinedTies
import Derived.KernelRfl
namespace Go.Proofs.Ytikccpmhoioaeaa
/- THE CELL 'sum', in the pinned program and in every row, IS THE sha256 OF THE DUMP (.gsa) THAT YtikccpmhoioaeaaProg.lean LOADS. Nothing in Lean hashes anything: it is a label: what it is worth is what the hold of that sum in a sandbox is worth. -/
noncomputable def Try.pinned : Pinned := { name := "ytikccpmhoioaeaa", sum := "58ef9ba594167f6ee13e5df9b19e812861e39dc839a3747d7e3e27ce4fe509ea", checked := Try.checked }
namespace Rows
def none {H : Type} : Left H := { results := [], args := [] }

/-- 'wattleworklaw3.OrdBetween': WHATEVER THE INPUT: true; the input reads as it did. -/
def ordBetweenSpec : ChangeSpec := { name := "ordBetween", fn := fun _ => fun
  | [d1, d2, d3, d4] => { results := [.lit (.bool true)], args := [d1, d2, d3, d4] }
  | _ => none }
def ordBetweenRow : OpenClaim := { program := "ytikccpmhoioaeaa", sum := "58ef9ba594167f6ee13e5df9b19e812861e39dc839a3747d7e3e27ce4fe509ea", func := "wattlework/wattleworklaw3.OrdBetween", spec := "ordBetween", unfollowed := true, recurses := true, apart := false }
def OrdBetweenSaid : Prop := ordBetweenRow.holds Try.pinned (OpenSpec.ofChange ordBetweenSpec)

/-- ITS FALSE NEIGHBOUR: 'it returns false'. Refute it at one input. -/
def ordBetweenWrong : ChangeSpec := { name := "ordBetween", fn := fun _ => fun
  | [d1, d2, d3, d4] => { results := [.lit (.bool false)], args := [d1, d2, d3, d4] }
  | _ => none }
def OrdBetweenWrongFalsely : Prop := ordBetweenRow.holds Try.pinned (OpenSpec.ofChange ordBetweenWrong)

/-- 'wattleworklaw3.PrioJoins': WHATEVER THE INPUT: true; the input reads as it did. -/
def prioJoinsSpec : ChangeSpec := { name := "prioJoins", fn := fun _ => fun
  | [d1, d2] => { results := [.lit (.bool true)], args := [d1, d2] }
  | _ => none }
def prioJoinsRow : OpenClaim := { program := "ytikccpmhoioaeaa", sum := "58ef9ba594167f6ee13e5df9b19e812861e39dc839a3747d7e3e27ce4fe509ea", func := "wattlework/wattleworklaw3.PrioJoins", spec := "prioJoins", unfollowed := true, recurses := true, apart := false }
def PrioJoinsSaid : Prop := prioJoinsRow.holds Try.pinned (OpenSpec.ofChange prioJoinsSpec)

/-- ITS FALSE NEIGHBOUR: 'it returns false'. Refute it at one input. -/
def prioJoinsWrong : ChangeSpec := { name := "prioJoins", fn := fun _ => fun
  | [d1, d2] => { results := [.lit (.bool false)], args := [d1, d2] }
  | _ => none }
def PrioJoinsWrongFalsely : Prop := prioJoinsRow.holds Try.pinned (OpenSpec.ofChange prioJoinsWrong)

/-- 'wattleworklaw3.PrioSorts': WHATEVER THE INPUT: true; the input reads as it did. -/
def prioSortsSpec : ChangeSpec := { name := "prioSorts", fn := fun _ => fun
  | [d] => { results := [.lit (.bool true)], args := [d] }
  | _ => none }
def prioSortsRow : OpenClaim := { program := "ytikccpmhoioaeaa", sum := "58ef9ba594167f6ee13e5df9b19e812861e39dc839a3747d7e3e27ce4fe509ea", func := "wattlework/wattleworklaw3.PrioSorts", spec := "prioSorts", unfollowed := true, recurses := true, apart := false }
def PrioSortsSaid : Prop := prioSortsRow.holds Try.pinned (OpenSpec.ofChange prioSortsSpec)

/-- ITS FALSE NEIGHBOUR: 'it returns false'. Refute it at one input. -/
def prioSortsWrong : ChangeSpec := { name := "prioSorts", fn := fun _ => fun
  | [d] => { results := [.lit (.bool false)], args := [d] }
  | _ => none }
def PrioSortsWrongFalsely : Prop := prioSortsRow.holds Try.pinned (OpenSpec.ofChange prioSortsWrong)

/-- 'wattleworklaw3.OrdTells': WHATEVER THE INPUT: true; the input reads as it did. -/
def ordTellsSpec : ChangeSpec := { name := "ordTells", fn := fun _ => fun
  | [d1, d2, d3, d4] => { results := [.lit (.bool true)], args := [d1, d2, d3, d4] }
  | _ => none }
def ordTellsRow : OpenClaim := { program := "ytikccpmhoioaeaa", sum := "58ef9ba594167f6ee13e5df9b19e812861e39dc839a3747d7e3e27ce4fe509ea", func := "wattlework/wattleworklaw3.OrdTells", spec := "ordTells", unfollowed := true, recurses := true, apart := false }
def OrdTellsSaid : Prop := ordTellsRow.holds Try.pinned (OpenSpec.ofChange ordTellsSpec)

/-- ITS FALSE NEIGHBOUR: 'it returns false'. Refute it at one input. -/
def ordTellsWrong : ChangeSpec := { name := "ordTells", fn := fun _ => fun
  | [d1, d2, d3, d4] => { results := [.lit (.bool false)], args := [d1, d2, d3, d4] }
  | _ => none }
def OrdTellsWrongFalsely : Prop := ordTellsRow.holds Try.pinned (OpenSpec.ofChange ordTellsWrong)

/-- 'wattleworklaw3.IvalStabs': WHATEVER THE INPUT: true; the input reads as it did. -/
def ivalStabsSpec : ChangeSpec := { name := "ivalStabs", fn := fun _ => fun
  | [d1, d2, d3] => { results := [.lit (.bool true)], args := [d1, d2, d3] }
  | _ => none }
def ivalStabsRow : OpenClaim := { program := "ytikccpmhoioaeaa", sum := "58ef9ba594167f6ee13e5df9b19e812861e39dc839a3747d7e3e27ce4fe509ea", func := "wattlework/wattleworklaw3.IvalStabs", spec := "ivalStabs", unfollowed := true, recurses := true, apart := false }
def IvalStabsSaid : Prop := ivalStabsRow.holds Try.pinned (OpenSpec.ofChange ivalStabsSpec)

/-- ITS FALSE NEIGHBOUR: 'it returns false'. Refute it at one input. -/
def ivalStabsWrong : ChangeSpec := { name := "ivalStabs", fn := fun _ => fun
  | [d1, d2, d3] => { results := [.lit (.bool false)], args := [d1, d2, d3] }
  | _ => none }
def IvalStabsWrongFalsely : Prop := ivalStabsRow.holds Try.pinned (OpenSpec.ofChange ivalStabsWrong)

/-- 'wattleworklaw3.IvalOver': WHATEVER THE INPUT: true; the input reads as it did. -/
def ivalOverSpec : ChangeSpec := { name := "ivalOver", fn := fun _ => fun
  | [d1, d2, d3, d4, d5] => { results := [.lit (.bool true)], args := [d1, d2, d3, d4, d5] }
  | _ => none }
def ivalOverRow : OpenClaim := { program := "ytikccpmhoioaeaa", sum := "58ef9ba594167f6ee13e5df9b19e812861e39dc839a3747d7e3e27ce4fe509ea", func := "wattlework/wattleworklaw3.IvalOver", spec := "ivalOver", unfollowed := true, recurses := true, apart := false }
def IvalOverSaid : Prop := ivalOverRow.holds Try.pinned (OpenSpec.ofChange ivalOverSpec)

/-- ITS FALSE NEIGHBOUR: 'it returns false'. Refute it at one input. -/
def ivalOverWrong : ChangeSpec := { name := "ivalOver", fn := fun _ => fun
  | [d1, d2, d3, d4, d5] => { results := [.lit (.bool false)], args := [d1, d2, d3, d4, d5] }
  | _ => none }
def IvalOverWrongFalsely : Prop := ivalOverRow.holds Try.pinned (OpenSpec.ofChange ivalOverWrong)

/-- 'wattleworklaw3.OrdMerges': WHATEVER THE INPUT: true; the input reads as it did. -/
def ordMergesSpec : ChangeSpec := { name := "ordMerges", fn := fun _ => fun
  | [d1, d2, d3, d4] => { results := [.lit (.bool true)], args := [d1, d2, d3, d4] }
  | _ => none }
def ordMergesRow : OpenClaim := { program := "ytikccpmhoioaeaa", sum := "58ef9ba594167f6ee13e5df9b19e812861e39dc839a3747d7e3e27ce4fe509ea", func := "wattlework/wattleworklaw3.OrdMerges", spec := "ordMerges", unfollowed := true, recurses := true, apart := false }
def OrdMergesSaid : Prop := ordMergesRow.holds Try.pinned (OpenSpec.ofChange ordMergesSpec)

/-- ITS FALSE NEIGHBOUR: 'it returns false'. Refute it at one input. -/
def ordMergesWrong : ChangeSpec := { name := "ordMerges", fn := fun _ => fun
  | [d1, d2, d3, d4] => { results := [.lit (.bool false)], args := [d1, d2, d3, d4] }
  | _ => none }
def OrdMergesWrongFalsely : Prop := ordMergesRow.holds Try.pinned (OpenSpec.ofChange ordMergesWrong)

/-- 'wattleworklaw3.PrioTells': WHATEVER THE INPUT: true; the input reads as it did. -/
def prioTellsSpec : ChangeSpec := { name := "prioTells", fn := fun _ => fun
  | [d1, d2] => { results := [.lit (.bool true)], args := [d1, d2] }
  | _ => none }
def prioTellsRow : OpenClaim := { program := "ytikccpmhoioaeaa", sum := "58ef9ba594167f6ee13e5df9b19e812861e39dc839a3747d7e3e27ce4fe509ea", func := "wattlework/wattleworklaw3.PrioTells", spec := "prioTells", unfollowed := true, recurses := true, apart := false }
def PrioTellsSaid : Prop := prioTellsRow.holds Try.pinned (OpenSpec.ofChange prioTellsSpec)

/-- ITS FALSE NEIGHBOUR: 'it returns false'. Refute it at one input. -/
def prioTellsWrong : ChangeSpec := { name := "prioTells", fn := fun _ => fun
  | [d1, d2] => { results := [.lit (.bool false)], args := [d1, d2] }
  | _ => none }
def PrioTellsWrongFalsely : Prop := prioTellsRow.holds Try.pinned (OpenSpec.ofChange prioTellsWrong)

/- THE SECOND FORM. 'bulk': how many values and letters a reading holds, each counted each time it is reached (what is shared counts as often as it is met; a slice's spare places count too). A statement '..UptoSaid' is the law's where the arguments, and the package variables that the reading takes, are together of bulk at most 1048576: NARROWER than '..Said'. Prove '..Said' where nothing that the law and all that it calls make is longer than what came in: it says more and counts as full. Else prove '..UptoSaid'. A law counts once. -/
mutual
def uptoBulk {H : Type} : DataW H → Nat
  | .lit (.string bytes) => bytes.length + 1
  | .lit _ => 1
  | .nil => 1
  | .ptr d => uptoBulk d + 1
  | .slice elems spare => uptoBulkAll elems + uptoBulkAll spare + 1
  | .agg parts => uptoBulkAll parts + 1
  | .iface _ d => uptoBulk d + 1
  | .map entries => uptoBulkEntries entries + 1
  | .held _ => 1
def uptoBulkAll {H : Type} : List (DataW H) → Nat
  | [] => 0
  | d :: r => uptoBulk d + uptoBulkAll r
def uptoBulkEntries {H : Type} : List (Lit × DataW H) → Nat
  | [] => 0
  | x :: r => uptoBulkEntry x + uptoBulkEntries r
def uptoBulkEntry {H : Type} : Lit × DataW H → Nat
  | (.string bytes, d) => bytes.length + uptoBulk d + 1
  | (_, d) => uptoBulk d + 1
 end
def uptoSmall : (H : Type) → List (DataW H) → Bool := fun _ ds => decide (uptoBulkAll ds ≤ 1048576)
def OpenSpec.upto (s : _root_.Go.ChangeSpec) : _root_.Go.OpenSpec := { _root_.Go.OpenSpec.ofChange s with cond := some uptoSmall }

/-- 'wattleworklaw3.OrdBetween', WHERE WHAT IT READS IS OF BULK AT MOST 1048576: true; the input reads as it did. -/
def ordBetweenUptoRow : OpenClaim := { program := "ytikccpmhoioaeaa", sum := "58ef9ba594167f6ee13e5df9b19e812861e39dc839a3747d7e3e27ce4fe509ea", func := "wattlework/wattleworklaw3.OrdBetween", spec := "ordBetween", unfollowed := true, recurses := true, apart := false, narrowed := true }
def OrdBetweenUptoSaid : Prop := ordBetweenUptoRow.holds Try.pinned (OpenSpec.upto ordBetweenSpec)

/-- 'wattleworklaw3.PrioJoins', WHERE WHAT IT READS IS OF BULK AT MOST 1048576: true; the input reads as it did. -/
def prioJoinsUptoRow : OpenClaim := { program := "ytikccpmhoioaeaa", sum := "58ef9ba594167f6ee13e5df9b19e812861e39dc839a3747d7e3e27ce4fe509ea", func := "wattlework/wattleworklaw3.PrioJoins", spec := "prioJoins", unfollowed := true, recurses := true, apart := false, narrowed := true }
def PrioJoinsUptoSaid : Prop := prioJoinsUptoRow.holds Try.pinned (OpenSpec.upto prioJoinsSpec)

/-- 'wattleworklaw3.PrioSorts', WHERE WHAT IT READS IS OF BULK AT MOST 1048576: true; the input reads as it did. -/
def prioSortsUptoRow : OpenClaim := { program := "ytikccpmhoioaeaa", sum := "58ef9ba594167f6ee13e5df9b19e812861e39dc839a3747d7e3e27ce4fe509ea", func := "wattlework/wattleworklaw3.PrioSorts", spec := "prioSorts", unfollowed := true, recurses := true, apart := false, narrowed := true }
def PrioSortsUptoSaid : Prop := prioSortsUptoRow.holds Try.pinned (OpenSpec.upto prioSortsSpec)

/-- 'wattleworklaw3.OrdTells', WHERE WHAT IT READS IS OF BULK AT MOST 1048576: true; the input reads as it did. -/
def ordTellsUptoRow : OpenClaim := { program := "ytikccpmhoioaeaa", sum := "58ef9ba594167f6ee13e5df9b19e812861e39dc839a3747d7e3e27ce4fe509ea", func := "wattlework/wattleworklaw3.OrdTells", spec := "ordTells", unfollowed := true, recurses := true, apart := false, narrowed := true }
def OrdTellsUptoSaid : Prop := ordTellsUptoRow.holds Try.pinned (OpenSpec.upto ordTellsSpec)

/-- 'wattleworklaw3.IvalStabs', WHERE WHAT IT READS IS OF BULK AT MOST 1048576: true; the input reads as it did. -/
def ivalStabsUptoRow : OpenClaim := { program := "ytikccpmhoioaeaa", sum := "58ef9ba594167f6ee13e5df9b19e812861e39dc839a3747d7e3e27ce4fe509ea", func := "wattlework/wattleworklaw3.IvalStabs", spec := "ivalStabs", unfollowed := true, recurses := true, apart := false, narrowed := true }
def IvalStabsUptoSaid : Prop := ivalStabsUptoRow.holds Try.pinned (OpenSpec.upto ivalStabsSpec)

/-- 'wattleworklaw3.IvalOver', WHERE WHAT IT READS IS OF BULK AT MOST 1048576: true; the input reads as it did. -/
def ivalOverUptoRow : OpenClaim := { program := "ytikccpmhoioaeaa", sum := "58ef9ba594167f6ee13e5df9b19e812861e39dc839a3747d7e3e27ce4fe509ea", func := "wattlework/wattleworklaw3.IvalOver", spec := "ivalOver", unfollowed := true, recurses := true, apart := false, narrowed := true }
def IvalOverUptoSaid : Prop := ivalOverUptoRow.holds Try.pinned (OpenSpec.upto ivalOverSpec)

/-- 'wattleworklaw3.OrdMerges', WHERE WHAT IT READS IS OF BULK AT MOST 1048576: true; the input reads as it did. -/
def ordMergesUptoRow : OpenClaim := { program := "ytikccpmhoioaeaa", sum := "58ef9ba594167f6ee13e5df9b19e812861e39dc839a3747d7e3e27ce4fe509ea", func := "wattlework/wattleworklaw3.OrdMerges", spec := "ordMerges", unfollowed := true, recurses := true, apart := false, narrowed := true }
def OrdMergesUptoSaid : Prop := ordMergesUptoRow.holds Try.pinned (OpenSpec.upto ordMergesSpec)

/-- 'wattleworklaw3.PrioTells', WHERE WHAT IT READS IS OF BULK AT MOST 1048576: true; the input reads as it did. -/
def prioTellsUptoRow : OpenClaim := { program := "ytikccpmhoioaeaa", sum := "58ef9ba594167f6ee13e5df9b19e812861e39dc839a3747d7e3e27ce4fe509ea", func := "wattlework/wattleworklaw3.PrioTells", spec := "prioTells", unfollowed := true, recurses := true, apart := false, narrowed := true }
def PrioTellsUptoSaid : Prop := prioTellsUptoRow.holds Try.pinned (OpenSpec.upto prioTellsSpec)

end Rows
end Go.Proofs.Ytikccpmhoioaeaa
