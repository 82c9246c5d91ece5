/-
  NARROWER THAN 'FOR EVERY INPUT', by the rows' own cells (each row's printed sentence says how): FenTells: laid · TableTells: laid · ScanTells: laid · ScanLevels: laid · SegTells: laid · IvalTells: laid · InvTells: laid.
  DERIVED. THE GIVEN ROWS OF THIS SEAT. 7 by the template 'for every input the law returns true; each argument reads behind the call as it read before'; 0 by the template 'total and deterministic' (their statements: YtcafckgflpmfgaaDoorTotals.lean).
  GIVEN WITH THE SEED: the statements are not yours to turn. If you find one false, say at which input.
  Laid BY PROGRAM, IN A SANDBOX (cutbox-rows.mjs): the forced cells as the released guide's own fill.sh prints them over the translation 48ab46e937e8a9e3… (all of the seat's roots in one cut). By AI agents, Wed Nov 11 2026. No macro, syntax, notation, axiom, sorry.
-/
import Derived.Test.YtcafckgflpmfgaaDoorChecked
import GoSem.Claim
import GoSem.ClaimJoined
import GoSem.ClaimMapViews
import Derived.JoinedTies
import Derived.KernelRfl
namespace Go.Proofs.YtcafckgflpmfgaaDoor
/- THE CELL 'sum', in the pinned program and in every row, IS THE sha256 OF THE DUMP (.gsa) THAT YtcafckgflpmfgaaDoorProg.lean LOADS. Nothing in Lean hashes anything: it is a label: what it is worth is what the hold of that sum in a sandbox is worth. -/
noncomputable def Tryd.pinned : Pinned := { name := "ytcafckgflpmfgaadoor", sum := "48ab46e937e8a9e3bbdba3f1c1a5910b45ef1e25f6096c8d7e1b6b3e9b012d68", checked := Tryd.checked }
namespace Rows
def none {H : Type} : Left H := { results := [], args := [] }

/- WHAT THE LISTED PACKAGE-LEVEL VARIABLES READ AS WHEN THE CALL BEGINS. Each datum BY PROGRAM (the guide's laid-datum.mjs) off the statement by which the dump's own 'gosem.cut.vars' lays the variable. In a bare row this is a premise. The card (YtcafckgflpmfgaaDoorCards.lean) ties it to the program's text. -/
def laid_errors_errorType {H : Type} : DataW H := .iface "internal/reflectlite.rtype" (.agg [.ptr (.lit (.string [101, 114, 114, 111, 114]))])

/-- 'wattleworklaw5.FenTells': WHATEVER THE INPUT: true; the input reads as it did. -/
def fenTellsSpec : ChangeSpec := { name := "fenTells", fn := fun _ => fun
  | [d1, d2, d3, d4, d5] => { results := [.lit (.bool true)], args := [d1, d2, d3, d4, d5] }
  | _ => none }
def fenTellsRow : OpenClaim := { program := "ytcafckgflpmfgaadoor", sum := "48ab46e937e8a9e3bbdba3f1c1a5910b45ef1e25f6096c8d7e1b6b3e9b012d68", func := "wattlework/wattleworklaw5.FenTells", spec := "fenTells", inPlace := ["internal/reflectlite.ValueOf", "(internal/reflectlite.Value).Type", "(internal/reflectlite.Value).IsNil", "internal/reflectlite.TypeOf", "(internal/reflectlite.Value).Elem", "(internal/reflectlite.Value).Set"], unfollowed := true, recurses := true, named := ["errors.errorType"], apart := false, laid := [("errors.errorType", laid_errors_errorType)] }
def FenTellsSaid : Prop := fenTellsRow.holds Tryd.pinned (OpenSpec.ofChange fenTellsSpec)

/-- ITS FALSE NEIGHBOUR: 'it returns false'. Refute it at one input. -/
def fenTellsWrong : ChangeSpec := { name := "fenTells", fn := fun _ => fun
  | [d1, d2, d3, d4, d5] => { results := [.lit (.bool false)], args := [d1, d2, d3, d4, d5] }
  | _ => none }
def FenTellsWrongFalsely : Prop := fenTellsRow.holds Tryd.pinned (OpenSpec.ofChange fenTellsWrong)

/-- 'wattleworklaw5.TableTells': WHATEVER THE INPUT: true; the input reads as it did. -/
def tableTellsSpec : ChangeSpec := { name := "tableTells", fn := fun _ => fun
  | [d1, d2, d3] => { results := [.lit (.bool true)], args := [d1, d2, d3] }
  | _ => none }
def tableTellsRow : OpenClaim := { program := "ytcafckgflpmfgaadoor", sum := "48ab46e937e8a9e3bbdba3f1c1a5910b45ef1e25f6096c8d7e1b6b3e9b012d68", func := "wattlework/wattleworklaw5.TableTells", spec := "tableTells", inPlace := ["internal/reflectlite.ValueOf", "(internal/reflectlite.Value).Type", "(internal/reflectlite.Value).IsNil", "internal/reflectlite.TypeOf", "(internal/reflectlite.Value).Elem", "(internal/reflectlite.Value).Set"], unfollowed := true, recurses := true, named := ["errors.errorType"], apart := false, laid := [("errors.errorType", laid_errors_errorType)] }
def TableTellsSaid : Prop := tableTellsRow.holds Tryd.pinned (OpenSpec.ofChange tableTellsSpec)

/-- ITS FALSE NEIGHBOUR: 'it returns false'. Refute it at one input. -/
def tableTellsWrong : ChangeSpec := { name := "tableTells", fn := fun _ => fun
  | [d1, d2, d3] => { results := [.lit (.bool false)], args := [d1, d2, d3] }
  | _ => none }
def TableTellsWrongFalsely : Prop := tableTellsRow.holds Tryd.pinned (OpenSpec.ofChange tableTellsWrong)

/-- 'wattleworklaw5.ScanTells': WHATEVER THE INPUT: true; the input reads as it did. -/
def scanTellsSpec : ChangeSpec := { name := "scanTells", fn := fun _ => fun
  | [d1, d2, d3, d4] => { results := [.lit (.bool true)], args := [d1, d2, d3, d4] }
  | _ => none }
def scanTellsRow : OpenClaim := { program := "ytcafckgflpmfgaadoor", sum := "48ab46e937e8a9e3bbdba3f1c1a5910b45ef1e25f6096c8d7e1b6b3e9b012d68", func := "wattlework/wattleworklaw5.ScanTells", spec := "scanTells", inPlace := ["internal/reflectlite.ValueOf", "(internal/reflectlite.Value).Type", "(internal/reflectlite.Value).IsNil", "internal/reflectlite.TypeOf", "(internal/reflectlite.Value).Elem", "(internal/reflectlite.Value).Set"], unfollowed := true, recurses := true, named := ["errors.errorType"], apart := false, laid := [("errors.errorType", laid_errors_errorType)] }
def ScanTellsSaid : Prop := scanTellsRow.holds Tryd.pinned (OpenSpec.ofChange scanTellsSpec)

/-- ITS FALSE NEIGHBOUR: 'it returns false'. Refute it at one input. -/
def scanTellsWrong : ChangeSpec := { name := "scanTells", fn := fun _ => fun
  | [d1, d2, d3, d4] => { results := [.lit (.bool false)], args := [d1, d2, d3, d4] }
  | _ => none }
def ScanTellsWrongFalsely : Prop := scanTellsRow.holds Tryd.pinned (OpenSpec.ofChange scanTellsWrong)

/-- 'wattleworklaw5.ScanLevels': WHATEVER THE INPUT: true; the input reads as it did. -/
def scanLevelsSpec : ChangeSpec := { name := "scanLevels", fn := fun _ => fun
  | [d1, d2] => { results := [.lit (.bool true)], args := [d1, d2] }
  | _ => none }
def scanLevelsRow : OpenClaim := { program := "ytcafckgflpmfgaadoor", sum := "48ab46e937e8a9e3bbdba3f1c1a5910b45ef1e25f6096c8d7e1b6b3e9b012d68", func := "wattlework/wattleworklaw5.ScanLevels", spec := "scanLevels", inPlace := ["internal/reflectlite.ValueOf", "(internal/reflectlite.Value).Type", "(internal/reflectlite.Value).IsNil", "internal/reflectlite.TypeOf", "(internal/reflectlite.Value).Elem", "(internal/reflectlite.Value).Set"], unfollowed := true, recurses := true, named := ["errors.errorType"], apart := false, laid := [("errors.errorType", laid_errors_errorType)] }
def ScanLevelsSaid : Prop := scanLevelsRow.holds Tryd.pinned (OpenSpec.ofChange scanLevelsSpec)

/-- ITS FALSE NEIGHBOUR: 'it returns false'. Refute it at one input. -/
def scanLevelsWrong : ChangeSpec := { name := "scanLevels", fn := fun _ => fun
  | [d1, d2] => { results := [.lit (.bool false)], args := [d1, d2] }
  | _ => none }
def ScanLevelsWrongFalsely : Prop := scanLevelsRow.holds Tryd.pinned (OpenSpec.ofChange scanLevelsWrong)

/-- 'wattleworklaw5.SegTells': WHATEVER THE INPUT: true; the input reads as it did. -/
def segTellsSpec : ChangeSpec := { name := "segTells", fn := fun _ => fun
  | [d1, d2, d3, d4, d5] => { results := [.lit (.bool true)], args := [d1, d2, d3, d4, d5] }
  | _ => none }
def segTellsRow : OpenClaim := { program := "ytcafckgflpmfgaadoor", sum := "48ab46e937e8a9e3bbdba3f1c1a5910b45ef1e25f6096c8d7e1b6b3e9b012d68", func := "wattlework/wattleworklaw5.SegTells", spec := "segTells", inPlace := ["internal/reflectlite.ValueOf", "(internal/reflectlite.Value).Type", "(internal/reflectlite.Value).IsNil", "internal/reflectlite.TypeOf", "(internal/reflectlite.Value).Elem", "(internal/reflectlite.Value).Set"], unfollowed := true, recurses := true, named := ["errors.errorType"], apart := false, laid := [("errors.errorType", laid_errors_errorType)] }
def SegTellsSaid : Prop := segTellsRow.holds Tryd.pinned (OpenSpec.ofChange segTellsSpec)

/-- ITS FALSE NEIGHBOUR: 'it returns false'. Refute it at one input. -/
def segTellsWrong : ChangeSpec := { name := "segTells", fn := fun _ => fun
  | [d1, d2, d3, d4, d5] => { results := [.lit (.bool false)], args := [d1, d2, d3, d4, d5] }
  | _ => none }
def SegTellsWrongFalsely : Prop := segTellsRow.holds Tryd.pinned (OpenSpec.ofChange segTellsWrong)

/-- 'wattleworklaw3.IvalTells': WHATEVER THE INPUT: true; the input reads as it did. -/
def ivalTellsSpec : ChangeSpec := { name := "ivalTells", fn := fun _ => fun
  | [d1, d2, d3, d4] => { results := [.lit (.bool true)], args := [d1, d2, d3, d4] }
  | _ => none }
def ivalTellsRow : OpenClaim := { program := "ytcafckgflpmfgaadoor", sum := "48ab46e937e8a9e3bbdba3f1c1a5910b45ef1e25f6096c8d7e1b6b3e9b012d68", func := "wattlework/wattleworklaw3.IvalTells", spec := "ivalTells", inPlace := ["internal/reflectlite.ValueOf", "(internal/reflectlite.Value).Type", "(internal/reflectlite.Value).IsNil", "internal/reflectlite.TypeOf", "(internal/reflectlite.Value).Elem", "(internal/reflectlite.Value).Set"], unfollowed := true, recurses := true, named := ["errors.errorType"], apart := false, laid := [("errors.errorType", laid_errors_errorType)] }
def IvalTellsSaid : Prop := ivalTellsRow.holds Tryd.pinned (OpenSpec.ofChange ivalTellsSpec)

/-- ITS FALSE NEIGHBOUR: 'it returns false'. Refute it at one input. -/
def ivalTellsWrong : ChangeSpec := { name := "ivalTells", fn := fun _ => fun
  | [d1, d2, d3, d4] => { results := [.lit (.bool false)], args := [d1, d2, d3, d4] }
  | _ => none }
def IvalTellsWrongFalsely : Prop := ivalTellsRow.holds Tryd.pinned (OpenSpec.ofChange ivalTellsWrong)

/-- 'wattleworklaw5.InvTells': WHATEVER THE INPUT: true; the input reads as it did. -/
def invTellsSpec : ChangeSpec := { name := "invTells", fn := fun _ => fun
  | [d1, d2, d3, d4, d5] => { results := [.lit (.bool true)], args := [d1, d2, d3, d4, d5] }
  | _ => none }
def invTellsRow : OpenClaim := { program := "ytcafckgflpmfgaadoor", sum := "48ab46e937e8a9e3bbdba3f1c1a5910b45ef1e25f6096c8d7e1b6b3e9b012d68", func := "wattlework/wattleworklaw5.InvTells", spec := "invTells", inPlace := ["internal/reflectlite.ValueOf", "(internal/reflectlite.Value).Type", "(internal/reflectlite.Value).IsNil", "internal/reflectlite.TypeOf", "(internal/reflectlite.Value).Elem", "(internal/reflectlite.Value).Set"], unfollowed := true, recurses := true, named := ["errors.errorType"], apart := false, laid := [("errors.errorType", laid_errors_errorType)] }
def InvTellsSaid : Prop := invTellsRow.holds Tryd.pinned (OpenSpec.ofChange invTellsSpec)

/-- ITS FALSE NEIGHBOUR: 'it returns false'. Refute it at one input. -/
def invTellsWrong : ChangeSpec := { name := "invTells", fn := fun _ => fun
  | [d1, d2, d3, d4, d5] => { results := [.lit (.bool false)], args := [d1, d2, d3, d4, d5] }
  | _ => none }
def InvTellsWrongFalsely : Prop := invTellsRow.holds Tryd.pinned (OpenSpec.ofChange invTellsWrong)

/- THE SECOND FORM. 'bulk': how many values and letters a reading holds, each counted each time it is reached (what is shared counts as often as it is met; a slice's spare places count too). A statement '..UptoSaid' is the law's where the arguments, and the package variables that the reading takes, are together of bulk at most 1048576: NARROWER than '..Said'. Prove '..Said' where nothing that the law and all that it calls make is longer than what came in: it says more and counts as full. Else prove '..UptoSaid'. A law counts once. -/
mutual
def uptoBulk {H : Type} : DataW H → Nat
  | .lit (.string bytes) => bytes.length + 1
  | .lit _ => 1
  | .nil => 1
  | .ptr d => uptoBulk d + 1
  | .slice elems spare => uptoBulkAll elems + uptoBulkAll spare + 1
  | .agg parts => uptoBulkAll parts + 1
  | .iface _ d => uptoBulk d + 1
  | .map entries => uptoBulkEntries entries + 1
  | .held _ => 1
def uptoBulkAll {H : Type} : List (DataW H) → Nat
  | [] => 0
  | d :: r => uptoBulk d + uptoBulkAll r
def uptoBulkEntries {H : Type} : List (Lit × DataW H) → Nat
  | [] => 0
  | x :: r => uptoBulkEntry x + uptoBulkEntries r
def uptoBulkEntry {H : Type} : Lit × DataW H → Nat
  | (.string bytes, d) => bytes.length + uptoBulk d + 1
  | (_, d) => uptoBulk d + 1
 end
def uptoSmall : (H : Type) → List (DataW H) → Bool := fun _ ds => decide (uptoBulkAll ds ≤ 1048576)
def OpenSpec.upto (s : _root_.Go.ChangeSpec) : _root_.Go.OpenSpec := { _root_.Go.OpenSpec.ofChange s with cond := some uptoSmall }

/-- 'wattleworklaw5.FenTells', WHERE WHAT IT READS IS OF BULK AT MOST 1048576: true; the input reads as it did. -/
def fenTellsUptoRow : OpenClaim := { program := "ytcafckgflpmfgaadoor", sum := "48ab46e937e8a9e3bbdba3f1c1a5910b45ef1e25f6096c8d7e1b6b3e9b012d68", func := "wattlework/wattleworklaw5.FenTells", spec := "fenTells", inPlace := ["internal/reflectlite.ValueOf", "(internal/reflectlite.Value).Type", "(internal/reflectlite.Value).IsNil", "internal/reflectlite.TypeOf", "(internal/reflectlite.Value).Elem", "(internal/reflectlite.Value).Set"], unfollowed := true, recurses := true, named := ["errors.errorType"], apart := false, laid := [("errors.errorType", laid_errors_errorType)], narrowed := true }
def FenTellsUptoSaid : Prop := fenTellsUptoRow.holds Tryd.pinned (OpenSpec.upto fenTellsSpec)

/-- 'wattleworklaw5.TableTells', WHERE WHAT IT READS IS OF BULK AT MOST 1048576: true; the input reads as it did. -/
def tableTellsUptoRow : OpenClaim := { program := "ytcafckgflpmfgaadoor", sum := "48ab46e937e8a9e3bbdba3f1c1a5910b45ef1e25f6096c8d7e1b6b3e9b012d68", func := "wattlework/wattleworklaw5.TableTells", spec := "tableTells", inPlace := ["internal/reflectlite.ValueOf", "(internal/reflectlite.Value).Type", "(internal/reflectlite.Value).IsNil", "internal/reflectlite.TypeOf", "(internal/reflectlite.Value).Elem", "(internal/reflectlite.Value).Set"], unfollowed := true, recurses := true, named := ["errors.errorType"], apart := false, laid := [("errors.errorType", laid_errors_errorType)], narrowed := true }
def TableTellsUptoSaid : Prop := tableTellsUptoRow.holds Tryd.pinned (OpenSpec.upto tableTellsSpec)

/-- 'wattleworklaw5.ScanTells', WHERE WHAT IT READS IS OF BULK AT MOST 1048576: true; the input reads as it did. -/
def scanTellsUptoRow : OpenClaim := { program := "ytcafckgflpmfgaadoor", sum := "48ab46e937e8a9e3bbdba3f1c1a5910b45ef1e25f6096c8d7e1b6b3e9b012d68", func := "wattlework/wattleworklaw5.ScanTells", spec := "scanTells", inPlace := ["internal/reflectlite.ValueOf", "(internal/reflectlite.Value).Type", "(internal/reflectlite.Value).IsNil", "internal/reflectlite.TypeOf", "(internal/reflectlite.Value).Elem", "(internal/reflectlite.Value).Set"], unfollowed := true, recurses := true, named := ["errors.errorType"], apart := false, laid := [("errors.errorType", laid_errors_errorType)], narrowed := true }
def ScanTellsUptoSaid : Prop := scanTellsUptoRow.holds Tryd.pinned (OpenSpec.upto scanTellsSpec)

/-- 'wattleworklaw5.ScanLevels', WHERE WHAT IT READS IS OF BULK AT MOST 1048576: true; the input reads as it did. -/
def scanLevelsUptoRow : OpenClaim := { program := "ytcafckgflpmfgaadoor", sum := "48ab46e937e8a9e3bbdba3f1c1a5910b45ef1e25f6096c8d7e1b6b3e9b012d68", func := "wattlework/wattleworklaw5.ScanLevels", spec := "scanLevels", inPlace := ["internal/reflectlite.ValueOf", "(internal/reflectlite.Value).Type", "(internal/reflectlite.Value).IsNil", "internal/reflectlite.TypeOf", "(internal/reflectlite.Value).Elem", "(internal/reflectlite.Value).Set"], unfollowed := true, recurses := true, named := ["errors.errorType"], apart := false, laid := [("errors.errorType", laid_errors_errorType)], narrowed := true }
def ScanLevelsUptoSaid : Prop := scanLevelsUptoRow.holds Tryd.pinned (OpenSpec.upto scanLevelsSpec)

/-- 'wattleworklaw5.SegTells', WHERE WHAT IT READS IS OF BULK AT MOST 1048576: true; the input reads as it did. -/
def segTellsUptoRow : OpenClaim := { program := "ytcafckgflpmfgaadoor", sum := "48ab46e937e8a9e3bbdba3f1c1a5910b45ef1e25f6096c8d7e1b6b3e9b012d68", func := "wattlework/wattleworklaw5.SegTells", spec := "segTells", inPlace := ["internal/reflectlite.ValueOf", "(internal/reflectlite.Value).Type", "(internal/reflectlite.Value).IsNil", "internal/reflectlite.TypeOf", "(internal/reflectlite.Value).Elem", "(internal/reflectlite.Value).Set"], unfollowed := true, recurses := true, named := ["errors.errorType"], apart := false, laid := [("errors.errorType", laid_errors_errorType)], narrowed := true }
def SegTellsUptoSaid : Prop := segTellsUptoRow.holds Tryd.pinned (OpenSpec.upto segTellsSpec)

/-- 'wattleworklaw3.IvalTells', WHERE WHAT IT READS IS OF BULK AT MOST 1048576: true; the input reads as it did. -/
def ivalTellsUptoRow : OpenClaim := { program := "ytcafckgflpmfgaadoor", sum := "48ab46e937e8a9e3bbdba3f1c1a5910b45ef1e25f6096c8d7e1b6b3e9b012d68", func := "wattlework/wattleworklaw3.IvalTells", spec := "ivalTells", inPlace := ["internal/reflectlite.ValueOf", "(internal/reflectlite.Value).Type", "(internal/reflectlite.Value).IsNil", "internal/reflectlite.TypeOf", "(internal/reflectlite.Value).Elem", "(internal/reflectlite.Value).Set"], unfollowed := true, recurses := true, named := ["errors.errorType"], apart := false, laid := [("errors.errorType", laid_errors_errorType)], narrowed := true }
def IvalTellsUptoSaid : Prop := ivalTellsUptoRow.holds Tryd.pinned (OpenSpec.upto ivalTellsSpec)

/-- 'wattleworklaw5.InvTells', WHERE WHAT IT READS IS OF BULK AT MOST 1048576: true; the input reads as it did. -/
def invTellsUptoRow : OpenClaim := { program := "ytcafckgflpmfgaadoor", sum := "48ab46e937e8a9e3bbdba3f1c1a5910b45ef1e25f6096c8d7e1b6b3e9b012d68", func := "wattlework/wattleworklaw5.InvTells", spec := "invTells", inPlace := ["internal/reflectlite.ValueOf", "(internal/reflectlite.Value).Type", "(internal/reflectlite.Value).IsNil", "internal/reflectlite.TypeOf", "(internal/reflectlite.Value).Elem", "(internal/reflectlite.Value).Set"], unfollowed := true, recurses := true, named := ["errors.errorType"], apart := false, laid := [("errors.errorType", laid_errors_errorType)], narrowed := true }
def InvTellsUptoSaid : Prop := invTellsUptoRow.holds Tryd.pinned (OpenSpec.upto invTellsSpec)

end Rows
end Go.Proofs.YtcafckgflpmfgaaDoor
