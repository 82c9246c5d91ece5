/-
  DERIVED. GIVEN WITH THE SEED: THE CARDS: each row of YtcafckgflpmfgaaDoorRows.lean that lists a variable, with what it lists TIED to the program's text (the seventh form; the later family's looks); each row that meets fmt, with fmt's text TOLD by the authors' own Lean function (tested against real Go, not proved from fmt's source: count such statements apart). THE CARD IS WHAT COUNTS. Prove the row's statement (the work); the ties are given (YtcafckgflpmfgaaDoorTie.lean); close each card by the builder's one call (the guide's Derived/Test/ToyasCard.lean, 'card_holds'). Laid BY PROGRAM, IN A SANDBOX (cutbox-door.mjs). By AI agents, Wed Nov 11 2026. No macro, syntax, notation, axiom, sorry.
-/
import Derived.Test.YtcafckgflpmfgaaDoorRows
import GoSem.ClaimSeven
namespace Go.Proofs.YtcafckgflpmfgaaDoor
namespace Rows

/-- THE TIED CARD OF 'wattleworklaw5.FenTells'. -/
def fenTellsCard : Claim7 := { stood := { row := fenTellsRow, standIns := [], harness := (true, "46066d8743be4ede2cc678aa55150539f40334baad68e00b76aac1153a49bca0"), looks := true }, kinds := [], alts := [], laidByText := true, laidKinds := [.handle], laidTests := true, laidLooks := .later }
def FenTellsCardSaid : Prop := Claim7.holds Tryd.pinned (.plain (OpenSpec.ofChange fenTellsSpec)) fenTellsCard

/-- THE TIED CARD OF 'wattleworklaw5.TableTells'. -/
def tableTellsCard : Claim7 := { stood := { row := tableTellsRow, standIns := [], harness := (true, "46066d8743be4ede2cc678aa55150539f40334baad68e00b76aac1153a49bca0"), looks := true }, kinds := [], alts := [], laidByText := true, laidKinds := [.handle], laidTests := true, laidLooks := .later }
def TableTellsCardSaid : Prop := Claim7.holds Tryd.pinned (.plain (OpenSpec.ofChange tableTellsSpec)) tableTellsCard

/-- THE TIED CARD OF 'wattleworklaw5.ScanTells'. -/
def scanTellsCard : Claim7 := { stood := { row := scanTellsRow, standIns := [], harness := (true, "46066d8743be4ede2cc678aa55150539f40334baad68e00b76aac1153a49bca0"), looks := true }, kinds := [], alts := [], laidByText := true, laidKinds := [.handle], laidTests := true, laidLooks := .later }
def ScanTellsCardSaid : Prop := Claim7.holds Tryd.pinned (.plain (OpenSpec.ofChange scanTellsSpec)) scanTellsCard

/-- THE TIED CARD OF 'wattleworklaw5.ScanLevels'. -/
def scanLevelsCard : Claim7 := { stood := { row := scanLevelsRow, standIns := [], harness := (true, "46066d8743be4ede2cc678aa55150539f40334baad68e00b76aac1153a49bca0"), looks := true }, kinds := [], alts := [], laidByText := true, laidKinds := [.handle], laidTests := true, laidLooks := .later }
def ScanLevelsCardSaid : Prop := Claim7.holds Tryd.pinned (.plain (OpenSpec.ofChange scanLevelsSpec)) scanLevelsCard

/-- THE TIED CARD OF 'wattleworklaw5.SegTells'. -/
def segTellsCard : Claim7 := { stood := { row := segTellsRow, standIns := [], harness := (true, "46066d8743be4ede2cc678aa55150539f40334baad68e00b76aac1153a49bca0"), looks := true }, kinds := [], alts := [], laidByText := true, laidKinds := [.handle], laidTests := true, laidLooks := .later }
def SegTellsCardSaid : Prop := Claim7.holds Tryd.pinned (.plain (OpenSpec.ofChange segTellsSpec)) segTellsCard

/-- THE TIED CARD OF 'wattleworklaw3.IvalTells'. -/
def ivalTellsCard : Claim7 := { stood := { row := ivalTellsRow, standIns := [], harness := (true, "46066d8743be4ede2cc678aa55150539f40334baad68e00b76aac1153a49bca0"), looks := true }, kinds := [], alts := [], laidByText := true, laidKinds := [.handle], laidTests := true, laidLooks := .later }
def IvalTellsCardSaid : Prop := Claim7.holds Tryd.pinned (.plain (OpenSpec.ofChange ivalTellsSpec)) ivalTellsCard

/-- THE TIED CARD OF 'wattleworklaw5.InvTells'. -/
def invTellsCard : Claim7 := { stood := { row := invTellsRow, standIns := [], harness := (true, "46066d8743be4ede2cc678aa55150539f40334baad68e00b76aac1153a49bca0"), looks := true }, kinds := [], alts := [], laidByText := true, laidKinds := [.handle], laidTests := true, laidLooks := .later }
def InvTellsCardSaid : Prop := Claim7.holds Tryd.pinned (.plain (OpenSpec.ofChange invTellsSpec)) invTellsCard

/-- THE SECOND FORM's CARD OF 'wattleworklaw5.FenTells'. -/
def fenTellsUptoCard : Claim7 := { stood := { row := fenTellsUptoRow, standIns := [], harness := (true, "46066d8743be4ede2cc678aa55150539f40334baad68e00b76aac1153a49bca0"), looks := true }, kinds := [], alts := [], laidByText := true, laidKinds := [.handle], laidTests := true, laidLooks := .later }
def FenTellsUptoCardSaid : Prop := Claim7.holds Tryd.pinned (.plain (OpenSpec.upto fenTellsSpec)) fenTellsUptoCard

/-- THE SECOND FORM's CARD OF 'wattleworklaw5.TableTells'. -/
def tableTellsUptoCard : Claim7 := { stood := { row := tableTellsUptoRow, standIns := [], harness := (true, "46066d8743be4ede2cc678aa55150539f40334baad68e00b76aac1153a49bca0"), looks := true }, kinds := [], alts := [], laidByText := true, laidKinds := [.handle], laidTests := true, laidLooks := .later }
def TableTellsUptoCardSaid : Prop := Claim7.holds Tryd.pinned (.plain (OpenSpec.upto tableTellsSpec)) tableTellsUptoCard

/-- THE SECOND FORM's CARD OF 'wattleworklaw5.ScanTells'. -/
def scanTellsUptoCard : Claim7 := { stood := { row := scanTellsUptoRow, standIns := [], harness := (true, "46066d8743be4ede2cc678aa55150539f40334baad68e00b76aac1153a49bca0"), looks := true }, kinds := [], alts := [], laidByText := true, laidKinds := [.handle], laidTests := true, laidLooks := .later }
def ScanTellsUptoCardSaid : Prop := Claim7.holds Tryd.pinned (.plain (OpenSpec.upto scanTellsSpec)) scanTellsUptoCard

/-- THE SECOND FORM's CARD OF 'wattleworklaw5.ScanLevels'. -/
def scanLevelsUptoCard : Claim7 := { stood := { row := scanLevelsUptoRow, standIns := [], harness := (true, "46066d8743be4ede2cc678aa55150539f40334baad68e00b76aac1153a49bca0"), looks := true }, kinds := [], alts := [], laidByText := true, laidKinds := [.handle], laidTests := true, laidLooks := .later }
def ScanLevelsUptoCardSaid : Prop := Claim7.holds Tryd.pinned (.plain (OpenSpec.upto scanLevelsSpec)) scanLevelsUptoCard

/-- THE SECOND FORM's CARD OF 'wattleworklaw5.SegTells'. -/
def segTellsUptoCard : Claim7 := { stood := { row := segTellsUptoRow, standIns := [], harness := (true, "46066d8743be4ede2cc678aa55150539f40334baad68e00b76aac1153a49bca0"), looks := true }, kinds := [], alts := [], laidByText := true, laidKinds := [.handle], laidTests := true, laidLooks := .later }
def SegTellsUptoCardSaid : Prop := Claim7.holds Tryd.pinned (.plain (OpenSpec.upto segTellsSpec)) segTellsUptoCard

/-- THE SECOND FORM's CARD OF 'wattleworklaw3.IvalTells'. -/
def ivalTellsUptoCard : Claim7 := { stood := { row := ivalTellsUptoRow, standIns := [], harness := (true, "46066d8743be4ede2cc678aa55150539f40334baad68e00b76aac1153a49bca0"), looks := true }, kinds := [], alts := [], laidByText := true, laidKinds := [.handle], laidTests := true, laidLooks := .later }
def IvalTellsUptoCardSaid : Prop := Claim7.holds Tryd.pinned (.plain (OpenSpec.upto ivalTellsSpec)) ivalTellsUptoCard

/-- THE SECOND FORM's CARD OF 'wattleworklaw5.InvTells'. -/
def invTellsUptoCard : Claim7 := { stood := { row := invTellsUptoRow, standIns := [], harness := (true, "46066d8743be4ede2cc678aa55150539f40334baad68e00b76aac1153a49bca0"), looks := true }, kinds := [], alts := [], laidByText := true, laidKinds := [.handle], laidTests := true, laidLooks := .later }
def InvTellsUptoCardSaid : Prop := Claim7.holds Tryd.pinned (.plain (OpenSpec.upto invTellsSpec)) invTellsUptoCard
end Rows
end Go.Proofs.YtcafckgflpmfgaaDoor
