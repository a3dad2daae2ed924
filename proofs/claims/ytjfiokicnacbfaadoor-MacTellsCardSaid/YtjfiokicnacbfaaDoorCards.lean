/-
  DERIVED. GIVEN WITH THE SEED: THE CARDS: each row of YtjfiokicnacbfaaDoorRows.lean that lists a variable, with what it lists TIED to the program's text (the seventh form; the later family's looks); each row that meets fmt, with fmt's text TOLD by the authors' own Lean function (tested against real Go, not proved from fmt's source: count such statements apart). THE CARD IS WHAT COUNTS. Prove the row's statement (the work); the ties are given (YtjfiokicnacbfaaDoorTie.lean); close each card by the builder's one call (the guide's Derived/Test/ToyasCard.lean, 'card_holds'). Laid BY PROGRAM, IN A SANDBOX (cutbox-door.mjs). By AI agents, Wed Nov 11 2026. No macro, syntax, notation, axiom, sorry.
-/
import Derived.Test.YtjfiokicnacbfaaDoorRows
import GoSem.ClaimSeven
namespace Go.Proofs.YtjfiokicnacbfaaDoor
namespace Rows

/-- THE TIED CARD OF 'sealringlaw.HashTells'. -/
def hashTellsCard : Claim7 := { stood := { row := hashTellsRow, standIns := [], harness := (true, "10a58c02ef3944b030f1adb42826fa5df79454af049e0b1f44f0f7666b19326a"), looks := false }, kinds := [], alts := [], laidByText := true, laidKinds := [.data, .data], laidTests := true, laidLooks := .later }
def HashTellsCardSaid : Prop := Claim7.holds Tryd.pinned (.plain (OpenSpec.ofChange hashTellsSpec)) hashTellsCard

/-- THE TIED CARD OF 'sealringlaw.HashResumes'. -/
def hashResumesCard : Claim7 := { stood := { row := hashResumesRow, standIns := [], harness := (true, "10a58c02ef3944b030f1adb42826fa5df79454af049e0b1f44f0f7666b19326a"), looks := false }, kinds := [], alts := [], laidByText := true, laidKinds := [.data, .data], laidTests := true, laidLooks := .later }
def HashResumesCardSaid : Prop := Claim7.holds Tryd.pinned (.plain (OpenSpec.ofChange hashResumesSpec)) hashResumesCard

/-- THE TIED CARD OF 'sealringlaw.TreeChecks'. -/
def treeChecksCard : Claim7 := { stood := { row := treeChecksRow, standIns := [], harness := (true, "10a58c02ef3944b030f1adb42826fa5df79454af049e0b1f44f0f7666b19326a"), looks := false }, kinds := [], alts := [], laidByText := true, laidKinds := [.data, .data], laidTests := true, laidLooks := .later }
def TreeChecksCardSaid : Prop := Claim7.holds Tryd.pinned (.plain (OpenSpec.ofChange treeChecksSpec)) treeChecksCard

/-- THE TIED CARD OF 'sealringlaw.MacTells'. -/
def macTellsCard : Claim7 := { stood := { row := macTellsRow, standIns := [], harness := (true, "10a58c02ef3944b030f1adb42826fa5df79454af049e0b1f44f0f7666b19326a"), looks := false }, kinds := [], alts := [], laidByText := true, laidKinds := [.data, .data], laidTests := true, laidLooks := .later }
def MacTellsCardSaid : Prop := Claim7.holds Tryd.pinned (.plain (OpenSpec.ofChange macTellsSpec)) macTellsCard

/-- THE SECOND FORM's CARD OF 'sealringlaw.HashTells'. -/
def hashTellsUptoCard : Claim7 := { stood := { row := hashTellsUptoRow, standIns := [], harness := (true, "10a58c02ef3944b030f1adb42826fa5df79454af049e0b1f44f0f7666b19326a"), looks := false }, kinds := [], alts := [], laidByText := true, laidKinds := [.data, .data], laidTests := true, laidLooks := .later }
def HashTellsUptoCardSaid : Prop := Claim7.holds Tryd.pinned (.plain (OpenSpec.upto hashTellsSpec)) hashTellsUptoCard

/-- THE SECOND FORM's CARD OF 'sealringlaw.HashResumes'. -/
def hashResumesUptoCard : Claim7 := { stood := { row := hashResumesUptoRow, standIns := [], harness := (true, "10a58c02ef3944b030f1adb42826fa5df79454af049e0b1f44f0f7666b19326a"), looks := false }, kinds := [], alts := [], laidByText := true, laidKinds := [.data, .data], laidTests := true, laidLooks := .later }
def HashResumesUptoCardSaid : Prop := Claim7.holds Tryd.pinned (.plain (OpenSpec.upto hashResumesSpec)) hashResumesUptoCard

/-- THE SECOND FORM's CARD OF 'sealringlaw.TreeChecks'. -/
def treeChecksUptoCard : Claim7 := { stood := { row := treeChecksUptoRow, standIns := [], harness := (true, "10a58c02ef3944b030f1adb42826fa5df79454af049e0b1f44f0f7666b19326a"), looks := false }, kinds := [], alts := [], laidByText := true, laidKinds := [.data, .data], laidTests := true, laidLooks := .later }
def TreeChecksUptoCardSaid : Prop := Claim7.holds Tryd.pinned (.plain (OpenSpec.upto treeChecksSpec)) treeChecksUptoCard

/-- THE SECOND FORM's CARD OF 'sealringlaw.MacTells'. -/
def macTellsUptoCard : Claim7 := { stood := { row := macTellsUptoRow, standIns := [], harness := (true, "10a58c02ef3944b030f1adb42826fa5df79454af049e0b1f44f0f7666b19326a"), looks := false }, kinds := [], alts := [], laidByText := true, laidKinds := [.data, .data], laidTests := true, laidLooks := .later }
def MacTellsUptoCardSaid : Prop := Claim7.holds Tryd.pinned (.plain (OpenSpec.upto macTellsSpec)) macTellsUptoCard
end Rows
end Go.Proofs.YtjfiokicnacbfaaDoor
