/-
  DERIVED. GIVEN WITH THE SEED: THE CARDS: each row of YtdlmamnnamlleaaDoorRows.lean that lists a variable, with what it lists TIED to the program's text (the seventh form; the later family's looks); each row that meets fmt, with fmt's text TOLD by the authors' own Lean function (tested against real Go, not proved from fmt's source: count such statements apart). THE CARD IS WHAT COUNTS. Prove the row's statement (the work); the ties are given (YtdlmamnnamlleaaDoorTie.lean); close each card by the builder's one call (the guide's Derived/Test/ToyasCard.lean, 'card_holds'). Laid BY PROGRAM, IN A SANDBOX (cutbox-door.mjs). By AI agents, Wed Nov 11 2026. No macro, syntax, notation, axiom, sorry.
-/
import Derived.Test.YtdlmamnnamlleaaDoorRows
import GoSem.ClaimSeven
namespace Go.Proofs.YtdlmamnnamlleaaDoor
namespace Rows

/-- THE TIED CARD OF 'sealringlaw.TapeTells'. -/
def tapeTellsCard : Claim7 := { stood := { row := tapeTellsRow, standIns := [], harness := (true, "f8cd4b23d38dff1c67edfa052e187daa243b925f47b23e72f17efd2913f489af"), looks := false }, kinds := [], alts := [], laidByText := true, laidKinds := [.data, .data], laidTests := true, laidLooks := .later }
def TapeTellsCardSaid : Prop := Claim7.holds Tryd.pinned (.plain (OpenSpec.ofChange tapeTellsSpec)) tapeTellsCard

/-- THE TIED CARD OF 'sealringlaw.DrawTells'. -/
def drawTellsCard : Claim7 := { stood := { row := drawTellsRow, standIns := [], harness := (true, "f8cd4b23d38dff1c67edfa052e187daa243b925f47b23e72f17efd2913f489af"), looks := false }, kinds := [], alts := [], laidByText := true, laidKinds := [.data, .data], laidTests := true, laidLooks := .later }
def DrawTellsCardSaid : Prop := Claim7.holds Tryd.pinned (.plain (OpenSpec.ofChange drawTellsSpec)) drawTellsCard

/-- THE TIED CARD OF 'sealringlaw.SideDigests'. -/
def sideDigestsCard : Claim7 := { stood := { row := sideDigestsRow, standIns := [], harness := (true, "f8cd4b23d38dff1c67edfa052e187daa243b925f47b23e72f17efd2913f489af"), looks := false }, kinds := [], alts := [], goes := true, laidByText := true, laidKinds := [.data, .data], laidTests := true, laidLooks := .later }
def SideDigestsCardSaid : Prop := Claim7.holds Tryd.pinned (.plain (OpenSpec.ofChange sideDigestsSpec)) sideDigestsCard

/-- THE TIED CARD OF 'sealringlaw.ShareSplits'. -/
def shareSplitsCard : Claim7 := { stood := { row := shareSplitsRow, standIns := [], harness := (true, "f8cd4b23d38dff1c67edfa052e187daa243b925f47b23e72f17efd2913f489af"), looks := false }, kinds := [], alts := [], laidByText := true, laidKinds := [.data, .data], laidTests := true, laidLooks := .later }
def ShareSplitsCardSaid : Prop := Claim7.holds Tryd.pinned (.plain (OpenSpec.ofChange shareSplitsSpec)) shareSplitsCard

/-- THE SECOND FORM's CARD OF 'sealringlaw.TapeTells'. -/
def tapeTellsUptoCard : Claim7 := { stood := { row := tapeTellsUptoRow, standIns := [], harness := (true, "f8cd4b23d38dff1c67edfa052e187daa243b925f47b23e72f17efd2913f489af"), looks := false }, kinds := [], alts := [], laidByText := true, laidKinds := [.data, .data], laidTests := true, laidLooks := .later }
def TapeTellsUptoCardSaid : Prop := Claim7.holds Tryd.pinned (.plain (OpenSpec.upto tapeTellsSpec)) tapeTellsUptoCard

/-- THE SECOND FORM's CARD OF 'sealringlaw.DrawTells'. -/
def drawTellsUptoCard : Claim7 := { stood := { row := drawTellsUptoRow, standIns := [], harness := (true, "f8cd4b23d38dff1c67edfa052e187daa243b925f47b23e72f17efd2913f489af"), looks := false }, kinds := [], alts := [], laidByText := true, laidKinds := [.data, .data], laidTests := true, laidLooks := .later }
def DrawTellsUptoCardSaid : Prop := Claim7.holds Tryd.pinned (.plain (OpenSpec.upto drawTellsSpec)) drawTellsUptoCard

/-- THE SECOND FORM's CARD OF 'sealringlaw.SideDigests'. -/
def sideDigestsUptoCard : Claim7 := { stood := { row := sideDigestsUptoRow, standIns := [], harness := (true, "f8cd4b23d38dff1c67edfa052e187daa243b925f47b23e72f17efd2913f489af"), looks := false }, kinds := [], alts := [], goes := true, laidByText := true, laidKinds := [.data, .data], laidTests := true, laidLooks := .later }
def SideDigestsUptoCardSaid : Prop := Claim7.holds Tryd.pinned (.plain (OpenSpec.upto sideDigestsSpec)) sideDigestsUptoCard

/-- THE SECOND FORM's CARD OF 'sealringlaw.ShareSplits'. -/
def shareSplitsUptoCard : Claim7 := { stood := { row := shareSplitsUptoRow, standIns := [], harness := (true, "f8cd4b23d38dff1c67edfa052e187daa243b925f47b23e72f17efd2913f489af"), looks := false }, kinds := [], alts := [], laidByText := true, laidKinds := [.data, .data], laidTests := true, laidLooks := .later }
def ShareSplitsUptoCardSaid : Prop := Claim7.holds Tryd.pinned (.plain (OpenSpec.upto shareSplitsSpec)) shareSplitsUptoCard
end Rows
end Go.Proofs.YtdlmamnnamlleaaDoor
