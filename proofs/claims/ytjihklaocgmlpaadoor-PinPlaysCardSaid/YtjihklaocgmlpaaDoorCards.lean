/-
  DERIVED. GIVEN WITH THE SEED: THE CARDS: each row of YtjihklaocgmlpaaDoorRows.lean that lists a variable, with what it lists TIED to the program's text (the seventh form; the later family's looks); each row that meets fmt, with fmt's text TOLD by the authors' own Lean function (tested against real Go, not proved from fmt's source: count such statements apart). THE CARD IS WHAT COUNTS. Prove the row's statement (the work); the ties are given (YtjihklaocgmlpaaDoorTie.lean); close each card by the builder's one call (the guide's Derived/Test/ToyasCard.lean, 'card_holds'). Laid BY PROGRAM, IN A SANDBOX (cutbox-door.mjs). By AI agents, Wed Nov 11 2026. No macro, syntax, notation, axiom, sorry.
-/
import Derived.Test.YtjihklaocgmlpaaDoorRows
import GoSem.ClaimSeven
namespace Go.Proofs.YtjihklaocgmlpaaDoor
namespace Rows

/-- THE TIED CARD OF 'sealringlaw.TreeLogs'. -/
def treeLogsCard : Claim7 := { stood := { row := treeLogsRow, standIns := [], harness := (true, "62e21cfb3cab0cfc7c705fc8149ff3530cf950da3946288995b402c5bdb6b750"), looks := false }, kinds := [], alts := [], laidByText := true, laidKinds := [.data, .data], laidTests := true, laidLooks := .later }
def TreeLogsCardSaid : Prop := Claim7.holds Tryd.pinned (.plain (OpenSpec.ofChange treeLogsSpec)) treeLogsCard

/-- THE TIED CARD OF 'sealringlaw.TreeTells'. -/
def treeTellsCard : Claim7 := { stood := { row := treeTellsRow, standIns := [], harness := (true, "62e21cfb3cab0cfc7c705fc8149ff3530cf950da3946288995b402c5bdb6b750"), looks := false }, kinds := [], alts := [], laidByText := true, laidKinds := [.data, .data], laidTests := true, laidLooks := .later }
def TreeTellsCardSaid : Prop := Claim7.holds Tryd.pinned (.plain (OpenSpec.ofChange treeTellsSpec)) treeTellsCard

/-- THE TIED CARD OF 'sealringlaw.PinRestores'. -/
def pinRestoresCard : Claim7 := { stood := { row := pinRestoresRow, standIns := [], harness := (true, "62e21cfb3cab0cfc7c705fc8149ff3530cf950da3946288995b402c5bdb6b750"), looks := false }, kinds := [], alts := [], laidByText := true, laidKinds := [.data, .data], laidTests := true, laidLooks := .later }
def PinRestoresCardSaid : Prop := Claim7.holds Tryd.pinned (.plain (OpenSpec.ofChange pinRestoresSpec)) pinRestoresCard

/-- THE TIED CARD OF 'sealringlaw.PinPlays'. -/
def pinPlaysCard : Claim7 := { stood := { row := pinPlaysRow, standIns := [], harness := (true, "62e21cfb3cab0cfc7c705fc8149ff3530cf950da3946288995b402c5bdb6b750"), looks := false }, kinds := [], alts := [], laidByText := true, laidKinds := [.data, .data], laidTests := true, laidLooks := .later }
def PinPlaysCardSaid : Prop := Claim7.holds Tryd.pinned (.plain (OpenSpec.ofChange pinPlaysSpec)) pinPlaysCard

/-- THE SECOND FORM's CARD OF 'sealringlaw.TreeLogs'. -/
def treeLogsUptoCard : Claim7 := { stood := { row := treeLogsUptoRow, standIns := [], harness := (true, "62e21cfb3cab0cfc7c705fc8149ff3530cf950da3946288995b402c5bdb6b750"), looks := false }, kinds := [], alts := [], laidByText := true, laidKinds := [.data, .data], laidTests := true, laidLooks := .later }
def TreeLogsUptoCardSaid : Prop := Claim7.holds Tryd.pinned (.plain (OpenSpec.upto treeLogsSpec)) treeLogsUptoCard

/-- THE SECOND FORM's CARD OF 'sealringlaw.TreeTells'. -/
def treeTellsUptoCard : Claim7 := { stood := { row := treeTellsUptoRow, standIns := [], harness := (true, "62e21cfb3cab0cfc7c705fc8149ff3530cf950da3946288995b402c5bdb6b750"), looks := false }, kinds := [], alts := [], laidByText := true, laidKinds := [.data, .data], laidTests := true, laidLooks := .later }
def TreeTellsUptoCardSaid : Prop := Claim7.holds Tryd.pinned (.plain (OpenSpec.upto treeTellsSpec)) treeTellsUptoCard

/-- THE SECOND FORM's CARD OF 'sealringlaw.PinRestores'. -/
def pinRestoresUptoCard : Claim7 := { stood := { row := pinRestoresUptoRow, standIns := [], harness := (true, "62e21cfb3cab0cfc7c705fc8149ff3530cf950da3946288995b402c5bdb6b750"), looks := false }, kinds := [], alts := [], laidByText := true, laidKinds := [.data, .data], laidTests := true, laidLooks := .later }
def PinRestoresUptoCardSaid : Prop := Claim7.holds Tryd.pinned (.plain (OpenSpec.upto pinRestoresSpec)) pinRestoresUptoCard

/-- THE SECOND FORM's CARD OF 'sealringlaw.PinPlays'. -/
def pinPlaysUptoCard : Claim7 := { stood := { row := pinPlaysUptoRow, standIns := [], harness := (true, "62e21cfb3cab0cfc7c705fc8149ff3530cf950da3946288995b402c5bdb6b750"), looks := false }, kinds := [], alts := [], laidByText := true, laidKinds := [.data, .data], laidTests := true, laidLooks := .later }
def PinPlaysUptoCardSaid : Prop := Claim7.holds Tryd.pinned (.plain (OpenSpec.upto pinPlaysSpec)) pinPlaysUptoCard
end Rows
end Go.Proofs.YtjihklaocgmlpaaDoor
