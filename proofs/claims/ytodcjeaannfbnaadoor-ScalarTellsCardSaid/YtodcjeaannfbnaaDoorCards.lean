/-
  DERIVED. GIVEN WITH THE SEED: THE CARDS: each row of YtodcjeaannfbnaaDoorRows.lean that lists a variable, with what it lists TIED to the program's text (the seventh form; the later family's looks); each row that meets fmt, with fmt's text TOLD by the authors' own Lean function (tested against real Go, not proved from fmt's source: count such statements apart). THE CARD IS WHAT COUNTS. Prove the row's statement (the work); the ties are given (YtodcjeaannfbnaaDoorTie.lean); close each card by the builder's one call (the guide's Derived/Test/ToyasCard.lean, 'card_holds'). Laid BY PROGRAM, IN A SANDBOX (cutbox-door.mjs). By AI agents, Wed Nov 11 2026. No macro, syntax, notation, axiom, sorry.
-/
import Derived.Test.YtodcjeaannfbnaaDoorRows
import GoSem.ClaimSeven
namespace Go.Proofs.YtodcjeaannfbnaaDoor
namespace Rows

/-- THE TIED CARD OF 'sealringlaw.TapeTells'. -/
def tapeTellsCard : Claim7 := { stood := { row := tapeTellsRow, standIns := [], harness := (true, "e207ffbbd12fd17ffad219b7d782929a27a55956145c20f48b3534759a964b9d"), looks := false }, kinds := [], alts := [], laidByText := true, laidKinds := [.data, .data], laidTests := true, laidLooks := .later }
def TapeTellsCardSaid : Prop := Claim7.holds Tryd.pinned (.plain (OpenSpec.ofChange tapeTellsSpec)) tapeTellsCard

/-- THE TIED CARD OF 'sealringlaw.DrawTells'. -/
def drawTellsCard : Claim7 := { stood := { row := drawTellsRow, standIns := [], harness := (true, "e207ffbbd12fd17ffad219b7d782929a27a55956145c20f48b3534759a964b9d"), looks := false }, kinds := [], alts := [], laidByText := true, laidKinds := [.data, .data], laidTests := true, laidLooks := .later }
def DrawTellsCardSaid : Prop := Claim7.holds Tryd.pinned (.plain (OpenSpec.ofChange drawTellsSpec)) drawTellsCard

/-- THE TIED CARD OF 'sealringlaw.ScalarTells'. -/
def scalarTellsCard : Claim7 := { stood := { row := scalarTellsRow, standIns := [], harness := (true, "e207ffbbd12fd17ffad219b7d782929a27a55956145c20f48b3534759a964b9d"), looks := false }, kinds := [], alts := [], laidByText := true, laidKinds := [.data, .data], laidTests := true, laidLooks := .later }
def ScalarTellsCardSaid : Prop := Claim7.holds Tryd.pinned (.plain (OpenSpec.ofChange scalarTellsSpec)) scalarTellsCard

/-- THE SECOND FORM's CARD OF 'sealringlaw.TapeTells'. -/
def tapeTellsUptoCard : Claim7 := { stood := { row := tapeTellsUptoRow, standIns := [], harness := (true, "e207ffbbd12fd17ffad219b7d782929a27a55956145c20f48b3534759a964b9d"), looks := false }, kinds := [], alts := [], laidByText := true, laidKinds := [.data, .data], laidTests := true, laidLooks := .later }
def TapeTellsUptoCardSaid : Prop := Claim7.holds Tryd.pinned (.plain (OpenSpec.upto tapeTellsSpec)) tapeTellsUptoCard

/-- THE SECOND FORM's CARD OF 'sealringlaw.DrawTells'. -/
def drawTellsUptoCard : Claim7 := { stood := { row := drawTellsUptoRow, standIns := [], harness := (true, "e207ffbbd12fd17ffad219b7d782929a27a55956145c20f48b3534759a964b9d"), looks := false }, kinds := [], alts := [], laidByText := true, laidKinds := [.data, .data], laidTests := true, laidLooks := .later }
def DrawTellsUptoCardSaid : Prop := Claim7.holds Tryd.pinned (.plain (OpenSpec.upto drawTellsSpec)) drawTellsUptoCard

/-- THE SECOND FORM's CARD OF 'sealringlaw.ScalarTells'. -/
def scalarTellsUptoCard : Claim7 := { stood := { row := scalarTellsUptoRow, standIns := [], harness := (true, "e207ffbbd12fd17ffad219b7d782929a27a55956145c20f48b3534759a964b9d"), looks := false }, kinds := [], alts := [], laidByText := true, laidKinds := [.data, .data], laidTests := true, laidLooks := .later }
def ScalarTellsUptoCardSaid : Prop := Claim7.holds Tryd.pinned (.plain (OpenSpec.upto scalarTellsSpec)) scalarTellsUptoCard
end Rows
end Go.Proofs.YtodcjeaannfbnaaDoor
