/-
  No cell of these rows narrows 'for every input' (looked for: loops, veiled, ifaces, maps, wideKeys, modest, calm, conditions, laid).
  DERIVED. THE GIVEN ROWS OF THIS SEAT. 5 by the template 'for every input the law returns true; each argument reads behind the call as it read before'; 0 by the template 'total and deterministic' (their statements: YtcafckgflpmfgaaTotals.lean).
  GIVEN WITH THE SEED: the statements are not yours to turn. If you find one false, say at which input.
  Laid BY PROGRAM, IN A SANDBOX (cutbox-rows.mjs): the forced cells as the released guide's own fill.sh prints them over the translation 7188be2b96521ccd… (all of the seat's roots in one cut). By AI agents, Wed Nov 11 2026. No macro, syntax, notation, axiom, sorry.
-/
import Derived.Test.YtcafckgflpmfgaaChecked
import GoSem.Claim
import GoSem.ClaimJoined
import GoSem.ClaimMapViews
import Derived.JoinedTies
import Derived.KernelRfl
namespace Go.Proofs.Ytcafckgflpmfgaa
/- THE CELL 'sum', in the pinned program and in every row, IS THE sha256 OF THE DUMP (.gsa) THAT YtcafckgflpmfgaaProg.lean LOADS. Nothing in Lean hashes anything: it is a label: what it is worth is what the hold of that sum in a sandbox is worth. -/
noncomputable def Try.pinned : Pinned := { name := "ytcafckgflpmfgaa", sum := "7188be2b96521ccd7b2ca2ce659c4565fa024ce0f4657a16ebb8af5a48a19471", checked := Try.checked }
namespace Rows
def none {H : Type} : Left H := { results := [], args := [] }

/-- 'wattleworklaw5.InvSwaps': WHATEVER THE INPUT: true; the input reads as it did. -/
def invSwapsSpec : ChangeSpec := { name := "invSwaps", fn := fun _ => fun
  | [d1, d2] => { results := [.lit (.bool true)], args := [d1, d2] }
  | _ => none }
def invSwapsRow : OpenClaim := { program := "ytcafckgflpmfgaa", sum := "7188be2b96521ccd7b2ca2ce659c4565fa024ce0f4657a16ebb8af5a48a19471", func := "wattlework/wattleworklaw5.InvSwaps", spec := "invSwaps", unfollowed := true, recurses := true, apart := false }
def InvSwapsSaid : Prop := invSwapsRow.holds Try.pinned (OpenSpec.ofChange invSwapsSpec)

/-- ITS FALSE NEIGHBOUR: 'it returns false'. Refute it at one input. -/
def invSwapsWrong : ChangeSpec := { name := "invSwaps", fn := fun _ => fun
  | [d1, d2] => { results := [.lit (.bool false)], args := [d1, d2] }
  | _ => none }
def InvSwapsWrongFalsely : Prop := invSwapsRow.holds Try.pinned (OpenSpec.ofChange invSwapsWrong)

/-- 'wattleworklaw5.InvSigns': WHATEVER THE INPUT: true; the input reads as it did. -/
def invSignsSpec : ChangeSpec := { name := "invSigns", fn := fun _ => fun
  | [d1, d2] => { results := [.lit (.bool true)], args := [d1, d2] }
  | _ => none }
def invSignsRow : OpenClaim := { program := "ytcafckgflpmfgaa", sum := "7188be2b96521ccd7b2ca2ce659c4565fa024ce0f4657a16ebb8af5a48a19471", func := "wattlework/wattleworklaw5.InvSigns", spec := "invSigns", unfollowed := true, recurses := true, apart := false }
def InvSignsSaid : Prop := invSignsRow.holds Try.pinned (OpenSpec.ofChange invSignsSpec)

/-- ITS FALSE NEIGHBOUR: 'it returns false'. Refute it at one input. -/
def invSignsWrong : ChangeSpec := { name := "invSigns", fn := fun _ => fun
  | [d1, d2] => { results := [.lit (.bool false)], args := [d1, d2] }
  | _ => none }
def InvSignsWrongFalsely : Prop := invSignsRow.holds Try.pinned (OpenSpec.ofChange invSignsWrong)

/-- 'wattleworklaw5.InvRanks': WHATEVER THE INPUT: true; the input reads as it did. -/
def invRanksSpec : ChangeSpec := { name := "invRanks", fn := fun _ => fun
  | [d1, d2, d3] => { results := [.lit (.bool true)], args := [d1, d2, d3] }
  | _ => none }
def invRanksRow : OpenClaim := { program := "ytcafckgflpmfgaa", sum := "7188be2b96521ccd7b2ca2ce659c4565fa024ce0f4657a16ebb8af5a48a19471", func := "wattlework/wattleworklaw5.InvRanks", spec := "invRanks", unfollowed := true, recurses := true, apart := false }
def InvRanksSaid : Prop := invRanksRow.holds Try.pinned (OpenSpec.ofChange invRanksSpec)

/-- ITS FALSE NEIGHBOUR: 'it returns false'. Refute it at one input. -/
def invRanksWrong : ChangeSpec := { name := "invRanks", fn := fun _ => fun
  | [d1, d2, d3] => { results := [.lit (.bool false)], args := [d1, d2, d3] }
  | _ => none }
def InvRanksWrongFalsely : Prop := invRanksRow.holds Try.pinned (OpenSpec.ofChange invRanksWrong)

/-- 'wattleworklaw5.InvBack': WHATEVER THE INPUT: true; the input reads as it did. -/
def invBackSpec : ChangeSpec := { name := "invBack", fn := fun _ => fun
  | [d] => { results := [.lit (.bool true)], args := [d] }
  | _ => none }
def invBackRow : OpenClaim := { program := "ytcafckgflpmfgaa", sum := "7188be2b96521ccd7b2ca2ce659c4565fa024ce0f4657a16ebb8af5a48a19471", func := "wattlework/wattleworklaw5.InvBack", spec := "invBack", unfollowed := true, recurses := true, apart := false }
def InvBackSaid : Prop := invBackRow.holds Try.pinned (OpenSpec.ofChange invBackSpec)

/-- ITS FALSE NEIGHBOUR: 'it returns false'. Refute it at one input. -/
def invBackWrong : ChangeSpec := { name := "invBack", fn := fun _ => fun
  | [d] => { results := [.lit (.bool false)], args := [d] }
  | _ => none }
def InvBackWrongFalsely : Prop := invBackRow.holds Try.pinned (OpenSpec.ofChange invBackWrong)

/-- 'wattleworktop.TopRanks': WHATEVER THE INPUT: true; the input reads as it did. -/
def topRanksSpec : ChangeSpec := { name := "topRanks", fn := fun _ => fun
  | [d] => { results := [.lit (.bool true)], args := [d] }
  | _ => none }
def topRanksRow : OpenClaim := { program := "ytcafckgflpmfgaa", sum := "7188be2b96521ccd7b2ca2ce659c4565fa024ce0f4657a16ebb8af5a48a19471", func := "wattlework/wattleworktop.TopRanks", spec := "topRanks", unfollowed := true, recurses := true, apart := false }
def TopRanksSaid : Prop := topRanksRow.holds Try.pinned (OpenSpec.ofChange topRanksSpec)

/-- ITS FALSE NEIGHBOUR: 'it returns false'. Refute it at one input. -/
def topRanksWrong : ChangeSpec := { name := "topRanks", fn := fun _ => fun
  | [d] => { results := [.lit (.bool false)], args := [d] }
  | _ => none }
def TopRanksWrongFalsely : Prop := topRanksRow.holds Try.pinned (OpenSpec.ofChange topRanksWrong)

/- THE SECOND FORM. 'bulk': how many values and letters a reading holds, each counted each time it is reached (what is shared counts as often as it is met; a slice's spare places count too). A statement '..UptoSaid' is the law's where the arguments, and the package variables that the reading takes, are together of bulk at most 1048576: NARROWER than '..Said'. Prove '..Said' where nothing that the law and all that it calls make is longer than what came in: it says more and counts as full. Else prove '..UptoSaid'. A law counts once. -/
mutual
def uptoBulk {H : Type} : DataW H → Nat
  | .lit (.string bytes) => bytes.length + 1
  | .lit _ => 1
  | .nil => 1
  | .ptr d => uptoBulk d + 1
  | .slice elems spare => uptoBulkAll elems + uptoBulkAll spare + 1
  | .agg parts => uptoBulkAll parts + 1
  | .iface _ d => uptoBulk d + 1
  | .map entries => uptoBulkEntries entries + 1
  | .held _ => 1
def uptoBulkAll {H : Type} : List (DataW H) → Nat
  | [] => 0
  | d :: r => uptoBulk d + uptoBulkAll r
def uptoBulkEntries {H : Type} : List (Lit × DataW H) → Nat
  | [] => 0
  | x :: r => uptoBulkEntry x + uptoBulkEntries r
def uptoBulkEntry {H : Type} : Lit × DataW H → Nat
  | (.string bytes, d) => bytes.length + uptoBulk d + 1
  | (_, d) => uptoBulk d + 1
 end
def uptoSmall : (H : Type) → List (DataW H) → Bool := fun _ ds => decide (uptoBulkAll ds ≤ 1048576)
def OpenSpec.upto (s : _root_.Go.ChangeSpec) : _root_.Go.OpenSpec := { _root_.Go.OpenSpec.ofChange s with cond := some uptoSmall }

/-- 'wattleworklaw5.InvSwaps', WHERE WHAT IT READS IS OF BULK AT MOST 1048576: true; the input reads as it did. -/
def invSwapsUptoRow : OpenClaim := { program := "ytcafckgflpmfgaa", sum := "7188be2b96521ccd7b2ca2ce659c4565fa024ce0f4657a16ebb8af5a48a19471", func := "wattlework/wattleworklaw5.InvSwaps", spec := "invSwaps", unfollowed := true, recurses := true, apart := false, narrowed := true }
def InvSwapsUptoSaid : Prop := invSwapsUptoRow.holds Try.pinned (OpenSpec.upto invSwapsSpec)

/-- 'wattleworklaw5.InvSigns', WHERE WHAT IT READS IS OF BULK AT MOST 1048576: true; the input reads as it did. -/
def invSignsUptoRow : OpenClaim := { program := "ytcafckgflpmfgaa", sum := "7188be2b96521ccd7b2ca2ce659c4565fa024ce0f4657a16ebb8af5a48a19471", func := "wattlework/wattleworklaw5.InvSigns", spec := "invSigns", unfollowed := true, recurses := true, apart := false, narrowed := true }
def InvSignsUptoSaid : Prop := invSignsUptoRow.holds Try.pinned (OpenSpec.upto invSignsSpec)

/-- 'wattleworklaw5.InvRanks', WHERE WHAT IT READS IS OF BULK AT MOST 1048576: true; the input reads as it did. -/
def invRanksUptoRow : OpenClaim := { program := "ytcafckgflpmfgaa", sum := "7188be2b96521ccd7b2ca2ce659c4565fa024ce0f4657a16ebb8af5a48a19471", func := "wattlework/wattleworklaw5.InvRanks", spec := "invRanks", unfollowed := true, recurses := true, apart := false, narrowed := true }
def InvRanksUptoSaid : Prop := invRanksUptoRow.holds Try.pinned (OpenSpec.upto invRanksSpec)

/-- 'wattleworklaw5.InvBack', WHERE WHAT IT READS IS OF BULK AT MOST 1048576: true; the input reads as it did. -/
def invBackUptoRow : OpenClaim := { program := "ytcafckgflpmfgaa", sum := "7188be2b96521ccd7b2ca2ce659c4565fa024ce0f4657a16ebb8af5a48a19471", func := "wattlework/wattleworklaw5.InvBack", spec := "invBack", unfollowed := true, recurses := true, apart := false, narrowed := true }
def InvBackUptoSaid : Prop := invBackUptoRow.holds Try.pinned (OpenSpec.upto invBackSpec)

/-- 'wattleworktop.TopRanks', WHERE WHAT IT READS IS OF BULK AT MOST 1048576: true; the input reads as it did. -/
def topRanksUptoRow : OpenClaim := { program := "ytcafckgflpmfgaa", sum := "7188be2b96521ccd7b2ca2ce659c4565fa024ce0f4657a16ebb8af5a48a19471", func := "wattlework/wattleworktop.TopRanks", spec := "topRanks", unfollowed := true, recurses := true, apart := false, narrowed := true }
def TopRanksUptoSaid : Prop := topRanksUptoRow.holds Try.pinned (OpenSpec.upto topRanksSpec)

end Rows
end Go.Proofs.Ytcafckgflpmfgaa
