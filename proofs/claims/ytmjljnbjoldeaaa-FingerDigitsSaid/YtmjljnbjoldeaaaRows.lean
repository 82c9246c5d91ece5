/-
  No cell of these rows narrows 'for every input' (looked for: loops, veiled, ifaces, maps, wideKeys, modest, calm, conditions, laid).
  DERIVED. THE GIVEN ROWS OF THIS SEAT. 9 by the template 'for every input the law returns true; each argument reads behind the call as it read before'; 0 by the template 'total and deterministic' (their statements: YtmjljnbjoldeaaaTotals.lean).
  GIVEN WITH THE SEED: the statements are not yours to turn. If you find one false, say at which input.
  Laid BY PROGRAM, IN A SANDBOX (cutbox-rows.mjs): the forced cells as the released guide's own fill.sh prints them over the translation ebc1e62cbe93368d… (all of the seat's roots in one cut). By AI agents, Wed Nov 11 2026. No macro, syntax, notation, axiom, sorry.
-/
import Derived.Test.YtmjljnbjoldeaaaChecked
import GoSem.Claim
import GoSem.ClaimJoined
import GoSem.ClaimMapViews
import Derived.JoinedTies
import Derived.KernelRfl
namespace Go.Proofs.Ytmjljnbjoldeaaa
/- THE CELL 'sum', in the pinned program and in every row, IS THE sha256 OF THE DUMP (.gsa) THAT YtmjljnbjoldeaaaProg.lean LOADS. Nothing in Lean hashes anything: it is a label: what it is worth is what the hold of that sum in a sandbox is worth. -/
noncomputable def Try.pinned : Pinned := { name := "ytmjljnbjoldeaaa", sum := "ebc1e62cbe93368d58d0da7aa7de273a9e6ebe48259c01992b5c8888dd9c3173", checked := Try.checked }
namespace Rows
def none {H : Type} : Left H := { results := [], args := [] }

/-- 'wattleworklaw3.FingerTells': WHATEVER THE INPUT: true; the input reads as it did. -/
def fingerTellsSpec : ChangeSpec := { name := "fingerTells", fn := fun _ => fun
  | [d1, d2] => { results := [.lit (.bool true)], args := [d1, d2] }
  | _ => none }
def fingerTellsRow : OpenClaim := { program := "ytmjljnbjoldeaaa", sum := "ebc1e62cbe93368d58d0da7aa7de273a9e6ebe48259c01992b5c8888dd9c3173", func := "wattlework/wattleworklaw3.FingerTells", spec := "fingerTells", unfollowed := true, recurses := true, apart := false }
def FingerTellsSaid : Prop := fingerTellsRow.holds Try.pinned (OpenSpec.ofChange fingerTellsSpec)

/-- ITS FALSE NEIGHBOUR: 'it returns false'. Refute it at one input. -/
def fingerTellsWrong : ChangeSpec := { name := "fingerTells", fn := fun _ => fun
  | [d1, d2] => { results := [.lit (.bool false)], args := [d1, d2] }
  | _ => none }
def FingerTellsWrongFalsely : Prop := fingerTellsRow.holds Try.pinned (OpenSpec.ofChange fingerTellsWrong)

/-- 'wattleworklaw3.FingerEnds': WHATEVER THE INPUT: true; the input reads as it did. -/
def fingerEndsSpec : ChangeSpec := { name := "fingerEnds", fn := fun _ => fun
  | [d1, d2] => { results := [.lit (.bool true)], args := [d1, d2] }
  | _ => none }
def fingerEndsRow : OpenClaim := { program := "ytmjljnbjoldeaaa", sum := "ebc1e62cbe93368d58d0da7aa7de273a9e6ebe48259c01992b5c8888dd9c3173", func := "wattlework/wattleworklaw3.FingerEnds", spec := "fingerEnds", unfollowed := true, recurses := true, apart := false }
def FingerEndsSaid : Prop := fingerEndsRow.holds Try.pinned (OpenSpec.ofChange fingerEndsSpec)

/-- ITS FALSE NEIGHBOUR: 'it returns false'. Refute it at one input. -/
def fingerEndsWrong : ChangeSpec := { name := "fingerEnds", fn := fun _ => fun
  | [d1, d2] => { results := [.lit (.bool false)], args := [d1, d2] }
  | _ => none }
def FingerEndsWrongFalsely : Prop := fingerEndsRow.holds Try.pinned (OpenSpec.ofChange fingerEndsWrong)

/-- 'wattleworklaw3.FingerSplits': WHATEVER THE INPUT: true; the input reads as it did. -/
def fingerSplitsSpec : ChangeSpec := { name := "fingerSplits", fn := fun _ => fun
  | [d1, d2, d3] => { results := [.lit (.bool true)], args := [d1, d2, d3] }
  | _ => none }
def fingerSplitsRow : OpenClaim := { program := "ytmjljnbjoldeaaa", sum := "ebc1e62cbe93368d58d0da7aa7de273a9e6ebe48259c01992b5c8888dd9c3173", func := "wattlework/wattleworklaw3.FingerSplits", spec := "fingerSplits", unfollowed := true, recurses := true, apart := false }
def FingerSplitsSaid : Prop := fingerSplitsRow.holds Try.pinned (OpenSpec.ofChange fingerSplitsSpec)

/-- ITS FALSE NEIGHBOUR: 'it returns false'. Refute it at one input. -/
def fingerSplitsWrong : ChangeSpec := { name := "fingerSplits", fn := fun _ => fun
  | [d1, d2, d3] => { results := [.lit (.bool false)], args := [d1, d2, d3] }
  | _ => none }
def FingerSplitsWrongFalsely : Prop := fingerSplitsRow.holds Try.pinned (OpenSpec.ofChange fingerSplitsWrong)

/-- 'wattleworklaw3.FingerJoins': WHATEVER THE INPUT: true; the input reads as it did. -/
def fingerJoinsSpec : ChangeSpec := { name := "fingerJoins", fn := fun _ => fun
  | [d1, d2, d3] => { results := [.lit (.bool true)], args := [d1, d2, d3] }
  | _ => none }
def fingerJoinsRow : OpenClaim := { program := "ytmjljnbjoldeaaa", sum := "ebc1e62cbe93368d58d0da7aa7de273a9e6ebe48259c01992b5c8888dd9c3173", func := "wattlework/wattleworklaw3.FingerJoins", spec := "fingerJoins", unfollowed := true, recurses := true, apart := false }
def FingerJoinsSaid : Prop := fingerJoinsRow.holds Try.pinned (OpenSpec.ofChange fingerJoinsSpec)

/-- ITS FALSE NEIGHBOUR: 'it returns false'. Refute it at one input. -/
def fingerJoinsWrong : ChangeSpec := { name := "fingerJoins", fn := fun _ => fun
  | [d1, d2, d3] => { results := [.lit (.bool false)], args := [d1, d2, d3] }
  | _ => none }
def FingerJoinsWrongFalsely : Prop := fingerJoinsRow.holds Try.pinned (OpenSpec.ofChange fingerJoinsWrong)

/-- 'wattleworklaw3.FingerDigits': WHATEVER THE INPUT: true; the input reads as it did. -/
def fingerDigitsSpec : ChangeSpec := { name := "fingerDigits", fn := fun _ => fun
  | [d1, d2, d3] => { results := [.lit (.bool true)], args := [d1, d2, d3] }
  | _ => none }
def fingerDigitsRow : OpenClaim := { program := "ytmjljnbjoldeaaa", sum := "ebc1e62cbe93368d58d0da7aa7de273a9e6ebe48259c01992b5c8888dd9c3173", func := "wattlework/wattleworklaw3.FingerDigits", spec := "fingerDigits", unfollowed := true, recurses := true, apart := false }
def FingerDigitsSaid : Prop := fingerDigitsRow.holds Try.pinned (OpenSpec.ofChange fingerDigitsSpec)

/-- ITS FALSE NEIGHBOUR: 'it returns false'. Refute it at one input. -/
def fingerDigitsWrong : ChangeSpec := { name := "fingerDigits", fn := fun _ => fun
  | [d1, d2, d3] => { results := [.lit (.bool false)], args := [d1, d2, d3] }
  | _ => none }
def FingerDigitsWrongFalsely : Prop := fingerDigitsRow.holds Try.pinned (OpenSpec.ofChange fingerDigitsWrong)

/-- 'wattleworklaw3.SeqMeasures': WHATEVER THE INPUT: true; the input reads as it did. -/
def seqMeasuresSpec : ChangeSpec := { name := "seqMeasures", fn := fun _ => fun
  | [d1, d2, d3, d4, d5] => { results := [.lit (.bool true)], args := [d1, d2, d3, d4, d5] }
  | _ => none }
def seqMeasuresRow : OpenClaim := { program := "ytmjljnbjoldeaaa", sum := "ebc1e62cbe93368d58d0da7aa7de273a9e6ebe48259c01992b5c8888dd9c3173", func := "wattlework/wattleworklaw3.SeqMeasures", spec := "seqMeasures", unfollowed := true, recurses := true, apart := false }
def SeqMeasuresSaid : Prop := seqMeasuresRow.holds Try.pinned (OpenSpec.ofChange seqMeasuresSpec)

/-- ITS FALSE NEIGHBOUR: 'it returns false'. Refute it at one input. -/
def seqMeasuresWrong : ChangeSpec := { name := "seqMeasures", fn := fun _ => fun
  | [d1, d2, d3, d4, d5] => { results := [.lit (.bool false)], args := [d1, d2, d3, d4, d5] }
  | _ => none }
def SeqMeasuresWrongFalsely : Prop := seqMeasuresRow.holds Try.pinned (OpenSpec.ofChange seqMeasuresWrong)

/-- 'wattleworklaw3.SeqSlices': WHATEVER THE INPUT: true; the input reads as it did. -/
def seqSlicesSpec : ChangeSpec := { name := "seqSlices", fn := fun _ => fun
  | [d1, d2, d3, d4, d5] => { results := [.lit (.bool true)], args := [d1, d2, d3, d4, d5] }
  | _ => none }
def seqSlicesRow : OpenClaim := { program := "ytmjljnbjoldeaaa", sum := "ebc1e62cbe93368d58d0da7aa7de273a9e6ebe48259c01992b5c8888dd9c3173", func := "wattlework/wattleworklaw3.SeqSlices", spec := "seqSlices", unfollowed := true, recurses := true, apart := false }
def SeqSlicesSaid : Prop := seqSlicesRow.holds Try.pinned (OpenSpec.ofChange seqSlicesSpec)

/-- ITS FALSE NEIGHBOUR: 'it returns false'. Refute it at one input. -/
def seqSlicesWrong : ChangeSpec := { name := "seqSlices", fn := fun _ => fun
  | [d1, d2, d3, d4, d5] => { results := [.lit (.bool false)], args := [d1, d2, d3, d4, d5] }
  | _ => none }
def SeqSlicesWrongFalsely : Prop := seqSlicesRow.holds Try.pinned (OpenSpec.ofChange seqSlicesWrong)

/-- 'wattleworklaw3.SeqEdits': WHATEVER THE INPUT: true; the input reads as it did. -/
def seqEditsSpec : ChangeSpec := { name := "seqEdits", fn := fun _ => fun
  | [d1, d2, d3, d4] => { results := [.lit (.bool true)], args := [d1, d2, d3, d4] }
  | _ => none }
def seqEditsRow : OpenClaim := { program := "ytmjljnbjoldeaaa", sum := "ebc1e62cbe93368d58d0da7aa7de273a9e6ebe48259c01992b5c8888dd9c3173", func := "wattlework/wattleworklaw3.SeqEdits", spec := "seqEdits", unfollowed := true, recurses := true, apart := false }
def SeqEditsSaid : Prop := seqEditsRow.holds Try.pinned (OpenSpec.ofChange seqEditsSpec)

/-- ITS FALSE NEIGHBOUR: 'it returns false'. Refute it at one input. -/
def seqEditsWrong : ChangeSpec := { name := "seqEdits", fn := fun _ => fun
  | [d1, d2, d3, d4] => { results := [.lit (.bool false)], args := [d1, d2, d3, d4] }
  | _ => none }
def SeqEditsWrongFalsely : Prop := seqEditsRow.holds Try.pinned (OpenSpec.ofChange seqEditsWrong)

/-- 'wattleworklaw3.SeqTells': WHATEVER THE INPUT: true; the input reads as it did. -/
def seqTellsSpec : ChangeSpec := { name := "seqTells", fn := fun _ => fun
  | [d1, d2, d3, d4] => { results := [.lit (.bool true)], args := [d1, d2, d3, d4] }
  | _ => none }
def seqTellsRow : OpenClaim := { program := "ytmjljnbjoldeaaa", sum := "ebc1e62cbe93368d58d0da7aa7de273a9e6ebe48259c01992b5c8888dd9c3173", func := "wattlework/wattleworklaw3.SeqTells", spec := "seqTells", unfollowed := true, recurses := true, apart := false }
def SeqTellsSaid : Prop := seqTellsRow.holds Try.pinned (OpenSpec.ofChange seqTellsSpec)

/-- ITS FALSE NEIGHBOUR: 'it returns false'. Refute it at one input. -/
def seqTellsWrong : ChangeSpec := { name := "seqTells", fn := fun _ => fun
  | [d1, d2, d3, d4] => { results := [.lit (.bool false)], args := [d1, d2, d3, d4] }
  | _ => none }
def SeqTellsWrongFalsely : Prop := seqTellsRow.holds Try.pinned (OpenSpec.ofChange seqTellsWrong)

/- THE SECOND FORM. 'bulk': how many values and letters a reading holds, each counted each time it is reached (what is shared counts as often as it is met; a slice's spare places count too). A statement '..UptoSaid' is the law's where the arguments, and the package variables that the reading takes, are together of bulk at most 1048576: NARROWER than '..Said'. Prove '..Said' where nothing that the law and all that it calls make is longer than what came in: it says more and counts as full. Else prove '..UptoSaid'. A law counts once. -/
mutual
def uptoBulk {H : Type} : DataW H → Nat
  | .lit (.string bytes) => bytes.length + 1
  | .lit _ => 1
  | .nil => 1
  | .ptr d => uptoBulk d + 1
  | .slice elems spare => uptoBulkAll elems + uptoBulkAll spare + 1
  | .agg parts => uptoBulkAll parts + 1
  | .iface _ d => uptoBulk d + 1
  | .map entries => uptoBulkEntries entries + 1
  | .held _ => 1
def uptoBulkAll {H : Type} : List (DataW H) → Nat
  | [] => 0
  | d :: r => uptoBulk d + uptoBulkAll r
def uptoBulkEntries {H : Type} : List (Lit × DataW H) → Nat
  | [] => 0
  | x :: r => uptoBulkEntry x + uptoBulkEntries r
def uptoBulkEntry {H : Type} : Lit × DataW H → Nat
  | (.string bytes, d) => bytes.length + uptoBulk d + 1
  | (_, d) => uptoBulk d + 1
 end
def uptoSmall : (H : Type) → List (DataW H) → Bool := fun _ ds => decide (uptoBulkAll ds ≤ 1048576)
def OpenSpec.upto (s : _root_.Go.ChangeSpec) : _root_.Go.OpenSpec := { _root_.Go.OpenSpec.ofChange s with cond := some uptoSmall }

/-- 'wattleworklaw3.FingerTells', WHERE WHAT IT READS IS OF BULK AT MOST 1048576: true; the input reads as it did. -/
def fingerTellsUptoRow : OpenClaim := { program := "ytmjljnbjoldeaaa", sum := "ebc1e62cbe93368d58d0da7aa7de273a9e6ebe48259c01992b5c8888dd9c3173", func := "wattlework/wattleworklaw3.FingerTells", spec := "fingerTells", unfollowed := true, recurses := true, apart := false, narrowed := true }
def FingerTellsUptoSaid : Prop := fingerTellsUptoRow.holds Try.pinned (OpenSpec.upto fingerTellsSpec)

/-- 'wattleworklaw3.FingerEnds', WHERE WHAT IT READS IS OF BULK AT MOST 1048576: true; the input reads as it did. -/
def fingerEndsUptoRow : OpenClaim := { program := "ytmjljnbjoldeaaa", sum := "ebc1e62cbe93368d58d0da7aa7de273a9e6ebe48259c01992b5c8888dd9c3173", func := "wattlework/wattleworklaw3.FingerEnds", spec := "fingerEnds", unfollowed := true, recurses := true, apart := false, narrowed := true }
def FingerEndsUptoSaid : Prop := fingerEndsUptoRow.holds Try.pinned (OpenSpec.upto fingerEndsSpec)

/-- 'wattleworklaw3.FingerSplits', WHERE WHAT IT READS IS OF BULK AT MOST 1048576: true; the input reads as it did. -/
def fingerSplitsUptoRow : OpenClaim := { program := "ytmjljnbjoldeaaa", sum := "ebc1e62cbe93368d58d0da7aa7de273a9e6ebe48259c01992b5c8888dd9c3173", func := "wattlework/wattleworklaw3.FingerSplits", spec := "fingerSplits", unfollowed := true, recurses := true, apart := false, narrowed := true }
def FingerSplitsUptoSaid : Prop := fingerSplitsUptoRow.holds Try.pinned (OpenSpec.upto fingerSplitsSpec)

/-- 'wattleworklaw3.FingerJoins', WHERE WHAT IT READS IS OF BULK AT MOST 1048576: true; the input reads as it did. -/
def fingerJoinsUptoRow : OpenClaim := { program := "ytmjljnbjoldeaaa", sum := "ebc1e62cbe93368d58d0da7aa7de273a9e6ebe48259c01992b5c8888dd9c3173", func := "wattlework/wattleworklaw3.FingerJoins", spec := "fingerJoins", unfollowed := true, recurses := true, apart := false, narrowed := true }
def FingerJoinsUptoSaid : Prop := fingerJoinsUptoRow.holds Try.pinned (OpenSpec.upto fingerJoinsSpec)

/-- 'wattleworklaw3.FingerDigits', WHERE WHAT IT READS IS OF BULK AT MOST 1048576: true; the input reads as it did. -/
def fingerDigitsUptoRow : OpenClaim := { program := "ytmjljnbjoldeaaa", sum := "ebc1e62cbe93368d58d0da7aa7de273a9e6ebe48259c01992b5c8888dd9c3173", func := "wattlework/wattleworklaw3.FingerDigits", spec := "fingerDigits", unfollowed := true, recurses := true, apart := false, narrowed := true }
def FingerDigitsUptoSaid : Prop := fingerDigitsUptoRow.holds Try.pinned (OpenSpec.upto fingerDigitsSpec)

/-- 'wattleworklaw3.SeqMeasures', WHERE WHAT IT READS IS OF BULK AT MOST 1048576: true; the input reads as it did. -/
def seqMeasuresUptoRow : OpenClaim := { program := "ytmjljnbjoldeaaa", sum := "ebc1e62cbe93368d58d0da7aa7de273a9e6ebe48259c01992b5c8888dd9c3173", func := "wattlework/wattleworklaw3.SeqMeasures", spec := "seqMeasures", unfollowed := true, recurses := true, apart := false, narrowed := true }
def SeqMeasuresUptoSaid : Prop := seqMeasuresUptoRow.holds Try.pinned (OpenSpec.upto seqMeasuresSpec)

/-- 'wattleworklaw3.SeqSlices', WHERE WHAT IT READS IS OF BULK AT MOST 1048576: true; the input reads as it did. -/
def seqSlicesUptoRow : OpenClaim := { program := "ytmjljnbjoldeaaa", sum := "ebc1e62cbe93368d58d0da7aa7de273a9e6ebe48259c01992b5c8888dd9c3173", func := "wattlework/wattleworklaw3.SeqSlices", spec := "seqSlices", unfollowed := true, recurses := true, apart := false, narrowed := true }
def SeqSlicesUptoSaid : Prop := seqSlicesUptoRow.holds Try.pinned (OpenSpec.upto seqSlicesSpec)

/-- 'wattleworklaw3.SeqEdits', WHERE WHAT IT READS IS OF BULK AT MOST 1048576: true; the input reads as it did. -/
def seqEditsUptoRow : OpenClaim := { program := "ytmjljnbjoldeaaa", sum := "ebc1e62cbe93368d58d0da7aa7de273a9e6ebe48259c01992b5c8888dd9c3173", func := "wattlework/wattleworklaw3.SeqEdits", spec := "seqEdits", unfollowed := true, recurses := true, apart := false, narrowed := true }
def SeqEditsUptoSaid : Prop := seqEditsUptoRow.holds Try.pinned (OpenSpec.upto seqEditsSpec)

/-- 'wattleworklaw3.SeqTells', WHERE WHAT IT READS IS OF BULK AT MOST 1048576: true; the input reads as it did. -/
def seqTellsUptoRow : OpenClaim := { program := "ytmjljnbjoldeaaa", sum := "ebc1e62cbe93368d58d0da7aa7de273a9e6ebe48259c01992b5c8888dd9c3173", func := "wattlework/wattleworklaw3.SeqTells", spec := "seqTells", unfollowed := true, recurses := true, apart := false, narrowed := true }
def SeqTellsUptoSaid : Prop := seqTellsUptoRow.holds Try.pinned (OpenSpec.upto seqTellsSpec)

end Rows
end Go.Proofs.Ytmjljnbjoldeaaa
