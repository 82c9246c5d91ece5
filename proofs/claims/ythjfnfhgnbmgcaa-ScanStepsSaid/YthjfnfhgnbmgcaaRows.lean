/-
  No cell of these rows narrows 'for every input' (looked for: loops, veiled, ifaces, maps, wideKeys, modest, calm, conditions, laid).
  DERIVED. THE GIVEN ROWS OF THIS SEAT. 8 by the template 'for every input the law returns true; each argument reads behind the call as it read before'; 0 by the template 'total and deterministic' (their statements: YthjfnfhgnbmgcaaTotals.lean).
  GIVEN WITH THE SEED: the statements are not yours to turn. If you find one false, say at which input.
  Laid BY PROGRAM, IN A SANDBOX (cutbox-rows.mjs): the forced cells as the released guide's own fill.sh prints them over the translation 653b7ef59cdcd997… (all of the seat's roots in one cut). By AI agents, Wed Nov 11 2026. No macro, syntax, notation, axiom, sorry.
-/
import Derived.Test.YthjfnfhgnbmgcaaChecked
import GoSem.Claim
import GoSem.ClaimJoined
import GoSem.ClaimMapViews
import Derived.JoinedTies
import Derived.KernelRfl
namespace Go.Proofs.Ythjfnfhgnbmgcaa
/- THE CELL 'sum', in the pinned program and in every row, IS THE sha256 OF THE DUMP (.gsa) THAT YthjfnfhgnbmgcaaProg.lean LOADS. Nothing in Lean hashes anything: it is a label: what it is worth is what the hold of that sum in a sandbox is worth. -/
noncomputable def Try.pinned : Pinned := { name := "ythjfnfhgnbmgcaa", sum := "653b7ef59cdcd997497cb335c2241056d006e9581a75d8ee64ad0139bf876248", checked := Try.checked }
namespace Rows
def none {H : Type} : Left H := { results := [], args := [] }

/-- 'wattleworklaw5.LisFalls': WHATEVER THE INPUT: true; the input reads as it did. -/
def lisFallsSpec : ChangeSpec := { name := "lisFalls", fn := fun _ => fun
  | [d] => { results := [.lit (.bool true)], args := [d] }
  | _ => none }
def lisFallsRow : OpenClaim := { program := "ythjfnfhgnbmgcaa", sum := "653b7ef59cdcd997497cb335c2241056d006e9581a75d8ee64ad0139bf876248", func := "wattlework/wattleworklaw5.LisFalls", spec := "lisFalls", unfollowed := true, recurses := true, apart := false }
def LisFallsSaid : Prop := lisFallsRow.holds Try.pinned (OpenSpec.ofChange lisFallsSpec)

/-- ITS FALSE NEIGHBOUR: 'it returns false'. Refute it at one input. -/
def lisFallsWrong : ChangeSpec := { name := "lisFalls", fn := fun _ => fun
  | [d] => { results := [.lit (.bool false)], args := [d] }
  | _ => none }
def LisFallsWrongFalsely : Prop := lisFallsRow.holds Try.pinned (OpenSpec.ofChange lisFallsWrong)

/-- 'wattleworklaw5.LisMany': WHATEVER THE INPUT: true; the input reads as it did. -/
def lisManySpec : ChangeSpec := { name := "lisMany", fn := fun _ => fun
  | [d1, d2] => { results := [.lit (.bool true)], args := [d1, d2] }
  | _ => none }
def lisManyRow : OpenClaim := { program := "ythjfnfhgnbmgcaa", sum := "653b7ef59cdcd997497cb335c2241056d006e9581a75d8ee64ad0139bf876248", func := "wattlework/wattleworklaw5.LisMany", spec := "lisMany", unfollowed := true, recurses := true, apart := false }
def LisManySaid : Prop := lisManyRow.holds Try.pinned (OpenSpec.ofChange lisManySpec)

/-- ITS FALSE NEIGHBOUR: 'it returns false'. Refute it at one input. -/
def lisManyWrong : ChangeSpec := { name := "lisMany", fn := fun _ => fun
  | [d1, d2] => { results := [.lit (.bool false)], args := [d1, d2] }
  | _ => none }
def LisManyWrongFalsely : Prop := lisManyRow.holds Try.pinned (OpenSpec.ofChange lisManyWrong)

/-- 'wattleworklaw5.LisPiles': WHATEVER THE INPUT: true; the input reads as it did. -/
def lisPilesSpec : ChangeSpec := { name := "lisPiles", fn := fun _ => fun
  | [d] => { results := [.lit (.bool true)], args := [d] }
  | _ => none }
def lisPilesRow : OpenClaim := { program := "ythjfnfhgnbmgcaa", sum := "653b7ef59cdcd997497cb335c2241056d006e9581a75d8ee64ad0139bf876248", func := "wattlework/wattleworklaw5.LisPiles", spec := "lisPiles", unfollowed := true, recurses := true, apart := false }
def LisPilesSaid : Prop := lisPilesRow.holds Try.pinned (OpenSpec.ofChange lisPilesSpec)

/-- ITS FALSE NEIGHBOUR: 'it returns false'. Refute it at one input. -/
def lisPilesWrong : ChangeSpec := { name := "lisPiles", fn := fun _ => fun
  | [d] => { results := [.lit (.bool false)], args := [d] }
  | _ => none }
def LisPilesWrongFalsely : Prop := lisPilesRow.holds Try.pinned (OpenSpec.ofChange lisPilesWrong)

/-- 'wattleworklaw5.LisLongest': WHATEVER THE INPUT: true; the input reads as it did. -/
def lisLongestSpec : ChangeSpec := { name := "lisLongest", fn := fun _ => fun
  | [d1, d2] => { results := [.lit (.bool true)], args := [d1, d2] }
  | _ => none }
def lisLongestRow : OpenClaim := { program := "ythjfnfhgnbmgcaa", sum := "653b7ef59cdcd997497cb335c2241056d006e9581a75d8ee64ad0139bf876248", func := "wattlework/wattleworklaw5.LisLongest", spec := "lisLongest", unfollowed := true, recurses := true, apart := false }
def LisLongestSaid : Prop := lisLongestRow.holds Try.pinned (OpenSpec.ofChange lisLongestSpec)

/-- ITS FALSE NEIGHBOUR: 'it returns false'. Refute it at one input. -/
def lisLongestWrong : ChangeSpec := { name := "lisLongest", fn := fun _ => fun
  | [d1, d2] => { results := [.lit (.bool false)], args := [d1, d2] }
  | _ => none }
def LisLongestWrongFalsely : Prop := lisLongestRow.holds Try.pinned (OpenSpec.ofChange lisLongestWrong)

/-- 'wattleworklaw5.FenFinds': WHATEVER THE INPUT: true; the input reads as it did. -/
def fenFindsSpec : ChangeSpec := { name := "fenFinds", fn := fun _ => fun
  | [d1, d2, d3, d4, d5] => { results := [.lit (.bool true)], args := [d1, d2, d3, d4, d5] }
  | _ => none }
def fenFindsRow : OpenClaim := { program := "ythjfnfhgnbmgcaa", sum := "653b7ef59cdcd997497cb335c2241056d006e9581a75d8ee64ad0139bf876248", func := "wattlework/wattleworklaw5.FenFinds", spec := "fenFinds", apart := false }
def FenFindsSaid : Prop := fenFindsRow.holds Try.pinned (OpenSpec.ofChange fenFindsSpec)

/-- ITS FALSE NEIGHBOUR: 'it returns false'. Refute it at one input. -/
def fenFindsWrong : ChangeSpec := { name := "fenFinds", fn := fun _ => fun
  | [d1, d2, d3, d4, d5] => { results := [.lit (.bool false)], args := [d1, d2, d3, d4, d5] }
  | _ => none }
def FenFindsWrongFalsely : Prop := fenFindsRow.holds Try.pinned (OpenSpec.ofChange fenFindsWrong)

/-- 'wattleworklaw5.FenOrder': WHATEVER THE INPUT: true; the input reads as it did. -/
def fenOrderSpec : ChangeSpec := { name := "fenOrder", fn := fun _ => fun
  | [d1, d2, d3] => { results := [.lit (.bool true)], args := [d1, d2, d3] }
  | _ => none }
def fenOrderRow : OpenClaim := { program := "ythjfnfhgnbmgcaa", sum := "653b7ef59cdcd997497cb335c2241056d006e9581a75d8ee64ad0139bf876248", func := "wattlework/wattleworklaw5.FenOrder", spec := "fenOrder", apart := false }
def FenOrderSaid : Prop := fenOrderRow.holds Try.pinned (OpenSpec.ofChange fenOrderSpec)

/-- ITS FALSE NEIGHBOUR: 'it returns false'. Refute it at one input. -/
def fenOrderWrong : ChangeSpec := { name := "fenOrder", fn := fun _ => fun
  | [d1, d2, d3] => { results := [.lit (.bool false)], args := [d1, d2, d3] }
  | _ => none }
def FenOrderWrongFalsely : Prop := fenOrderRow.holds Try.pinned (OpenSpec.ofChange fenOrderWrong)

/-- 'wattleworklaw5.ScanParts': WHATEVER THE INPUT: true; the input reads as it did. -/
def scanPartsSpec : ChangeSpec := { name := "scanParts", fn := fun _ => fun
  | [d1, d2, d3] => { results := [.lit (.bool true)], args := [d1, d2, d3] }
  | _ => none }
def scanPartsRow : OpenClaim := { program := "ythjfnfhgnbmgcaa", sum := "653b7ef59cdcd997497cb335c2241056d006e9581a75d8ee64ad0139bf876248", func := "wattlework/wattleworklaw5.ScanParts", spec := "scanParts", unfollowed := true, recurses := true, apart := false }
def ScanPartsSaid : Prop := scanPartsRow.holds Try.pinned (OpenSpec.ofChange scanPartsSpec)

/-- ITS FALSE NEIGHBOUR: 'it returns false'. Refute it at one input. -/
def scanPartsWrong : ChangeSpec := { name := "scanParts", fn := fun _ => fun
  | [d1, d2, d3] => { results := [.lit (.bool false)], args := [d1, d2, d3] }
  | _ => none }
def ScanPartsWrongFalsely : Prop := scanPartsRow.holds Try.pinned (OpenSpec.ofChange scanPartsWrong)

/-- 'wattleworklaw5.ScanSteps': WHATEVER THE INPUT: true; the input reads as it did. -/
def scanStepsSpec : ChangeSpec := { name := "scanSteps", fn := fun _ => fun
  | [d1, d2] => { results := [.lit (.bool true)], args := [d1, d2] }
  | _ => none }
def scanStepsRow : OpenClaim := { program := "ythjfnfhgnbmgcaa", sum := "653b7ef59cdcd997497cb335c2241056d006e9581a75d8ee64ad0139bf876248", func := "wattlework/wattleworklaw5.ScanSteps", spec := "scanSteps", unfollowed := true, recurses := true, apart := false }
def ScanStepsSaid : Prop := scanStepsRow.holds Try.pinned (OpenSpec.ofChange scanStepsSpec)

/-- ITS FALSE NEIGHBOUR: 'it returns false'. Refute it at one input. -/
def scanStepsWrong : ChangeSpec := { name := "scanSteps", fn := fun _ => fun
  | [d1, d2] => { results := [.lit (.bool false)], args := [d1, d2] }
  | _ => none }
def ScanStepsWrongFalsely : Prop := scanStepsRow.holds Try.pinned (OpenSpec.ofChange scanStepsWrong)

/- THE SECOND FORM. 'bulk': how many values and letters a reading holds, each counted each time it is reached (what is shared counts as often as it is met; a slice's spare places count too). A statement '..UptoSaid' is the law's where the arguments, and the package variables that the reading takes, are together of bulk at most 1048576: NARROWER than '..Said'. Prove '..Said' where nothing that the law and all that it calls make is longer than what came in: it says more and counts as full. Else prove '..UptoSaid'. A law counts once. -/
mutual
def uptoBulk {H : Type} : DataW H → Nat
  | .lit (.string bytes) => bytes.length + 1
  | .lit _ => 1
  | .nil => 1
  | .ptr d => uptoBulk d + 1
  | .slice elems spare => uptoBulkAll elems + uptoBulkAll spare + 1
  | .agg parts => uptoBulkAll parts + 1
  | .iface _ d => uptoBulk d + 1
  | .map entries => uptoBulkEntries entries + 1
  | .held _ => 1
def uptoBulkAll {H : Type} : List (DataW H) → Nat
  | [] => 0
  | d :: r => uptoBulk d + uptoBulkAll r
def uptoBulkEntries {H : Type} : List (Lit × DataW H) → Nat
  | [] => 0
  | x :: r => uptoBulkEntry x + uptoBulkEntries r
def uptoBulkEntry {H : Type} : Lit × DataW H → Nat
  | (.string bytes, d) => bytes.length + uptoBulk d + 1
  | (_, d) => uptoBulk d + 1
 end
def uptoSmall : (H : Type) → List (DataW H) → Bool := fun _ ds => decide (uptoBulkAll ds ≤ 1048576)
def OpenSpec.upto (s : _root_.Go.ChangeSpec) : _root_.Go.OpenSpec := { _root_.Go.OpenSpec.ofChange s with cond := some uptoSmall }

/-- 'wattleworklaw5.LisFalls', WHERE WHAT IT READS IS OF BULK AT MOST 1048576: true; the input reads as it did. -/
def lisFallsUptoRow : OpenClaim := { program := "ythjfnfhgnbmgcaa", sum := "653b7ef59cdcd997497cb335c2241056d006e9581a75d8ee64ad0139bf876248", func := "wattlework/wattleworklaw5.LisFalls", spec := "lisFalls", unfollowed := true, recurses := true, apart := false, narrowed := true }
def LisFallsUptoSaid : Prop := lisFallsUptoRow.holds Try.pinned (OpenSpec.upto lisFallsSpec)

/-- 'wattleworklaw5.LisMany', WHERE WHAT IT READS IS OF BULK AT MOST 1048576: true; the input reads as it did. -/
def lisManyUptoRow : OpenClaim := { program := "ythjfnfhgnbmgcaa", sum := "653b7ef59cdcd997497cb335c2241056d006e9581a75d8ee64ad0139bf876248", func := "wattlework/wattleworklaw5.LisMany", spec := "lisMany", unfollowed := true, recurses := true, apart := false, narrowed := true }
def LisManyUptoSaid : Prop := lisManyUptoRow.holds Try.pinned (OpenSpec.upto lisManySpec)

/-- 'wattleworklaw5.LisPiles', WHERE WHAT IT READS IS OF BULK AT MOST 1048576: true; the input reads as it did. -/
def lisPilesUptoRow : OpenClaim := { program := "ythjfnfhgnbmgcaa", sum := "653b7ef59cdcd997497cb335c2241056d006e9581a75d8ee64ad0139bf876248", func := "wattlework/wattleworklaw5.LisPiles", spec := "lisPiles", unfollowed := true, recurses := true, apart := false, narrowed := true }
def LisPilesUptoSaid : Prop := lisPilesUptoRow.holds Try.pinned (OpenSpec.upto lisPilesSpec)

/-- 'wattleworklaw5.LisLongest', WHERE WHAT IT READS IS OF BULK AT MOST 1048576: true; the input reads as it did. -/
def lisLongestUptoRow : OpenClaim := { program := "ythjfnfhgnbmgcaa", sum := "653b7ef59cdcd997497cb335c2241056d006e9581a75d8ee64ad0139bf876248", func := "wattlework/wattleworklaw5.LisLongest", spec := "lisLongest", unfollowed := true, recurses := true, apart := false, narrowed := true }
def LisLongestUptoSaid : Prop := lisLongestUptoRow.holds Try.pinned (OpenSpec.upto lisLongestSpec)

/-- 'wattleworklaw5.FenFinds', WHERE WHAT IT READS IS OF BULK AT MOST 1048576: true; the input reads as it did. -/
def fenFindsUptoRow : OpenClaim := { program := "ythjfnfhgnbmgcaa", sum := "653b7ef59cdcd997497cb335c2241056d006e9581a75d8ee64ad0139bf876248", func := "wattlework/wattleworklaw5.FenFinds", spec := "fenFinds", apart := false, narrowed := true }
def FenFindsUptoSaid : Prop := fenFindsUptoRow.holds Try.pinned (OpenSpec.upto fenFindsSpec)

/-- 'wattleworklaw5.FenOrder', WHERE WHAT IT READS IS OF BULK AT MOST 1048576: true; the input reads as it did. -/
def fenOrderUptoRow : OpenClaim := { program := "ythjfnfhgnbmgcaa", sum := "653b7ef59cdcd997497cb335c2241056d006e9581a75d8ee64ad0139bf876248", func := "wattlework/wattleworklaw5.FenOrder", spec := "fenOrder", apart := false, narrowed := true }
def FenOrderUptoSaid : Prop := fenOrderUptoRow.holds Try.pinned (OpenSpec.upto fenOrderSpec)

/-- 'wattleworklaw5.ScanParts', WHERE WHAT IT READS IS OF BULK AT MOST 1048576: true; the input reads as it did. -/
def scanPartsUptoRow : OpenClaim := { program := "ythjfnfhgnbmgcaa", sum := "653b7ef59cdcd997497cb335c2241056d006e9581a75d8ee64ad0139bf876248", func := "wattlework/wattleworklaw5.ScanParts", spec := "scanParts", unfollowed := true, recurses := true, apart := false, narrowed := true }
def ScanPartsUptoSaid : Prop := scanPartsUptoRow.holds Try.pinned (OpenSpec.upto scanPartsSpec)

/-- 'wattleworklaw5.ScanSteps', WHERE WHAT IT READS IS OF BULK AT MOST 1048576: true; the input reads as it did. -/
def scanStepsUptoRow : OpenClaim := { program := "ythjfnfhgnbmgcaa", sum := "653b7ef59cdcd997497cb335c2241056d006e9581a75d8ee64ad0139bf876248", func := "wattlework/wattleworklaw5.ScanSteps", spec := "scanSteps", unfollowed := true, recurses := true, apart := false, narrowed := true }
def ScanStepsUptoSaid : Prop := scanStepsUptoRow.holds Try.pinned (OpenSpec.upto scanStepsSpec)

end Rows
end Go.Proofs.Ythjfnfhgnbmgcaa
