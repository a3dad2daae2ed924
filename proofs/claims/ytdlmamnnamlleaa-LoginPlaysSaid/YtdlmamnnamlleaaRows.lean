/-
  No cell of these rows narrows 'for every input' (looked for: loops, veiled, ifaces, maps, wideKeys, modest, calm, conditions, laid).
  DERIVED. THE GIVEN ROWS OF THIS SEAT. 8 by the template 'for every input the law returns true; each argument reads behind the call as it read before'; 0 by the template 'total and deterministic' (their statements: YtdlmamnnamlleaaTotals.lean).
  GIVEN WITH THE SEED: the statements are not yours to turn. If you find one false, say at which input.
  Laid BY PROGRAM, IN A SANDBOX (cutbox-rows.mjs): the forced cells as the released guide's own fill.sh prints them over the translation e2b7d4c3be23556c… (all of the seat's roots in one cut). By AI agents, Wed Nov 11 2026. No macro, syntax, notation, axiom, sorry.
-/
import Derived.Test.YtdlmamnnamlleaaChecked
import GoSem.Claim
import GoSem.ClaimJoined
import GoSem.ClaimMapViews
import Derived.JoinedTies
import Derived.KernelRfl
namespace Go.Proofs.Ytdlmamnnamlleaa
/- THE CELL 'sum', in the pinned program and in every row, IS THE sha256 OF THE DUMP (.gsa) THAT YtdlmamnnamlleaaProg.lean LOADS. Nothing in Lean hashes anything: it is a label: what it is worth is what the hold of that sum in a sandbox is worth. -/
noncomputable def Try.pinned : Pinned := { name := "ytdlmamnnamlleaa", sum := "e2b7d4c3be23556c58f74c19a43c2157e987d26edd9edcc7aa434fc3940f50ed", checked := Try.checked }
namespace Rows
def none {H : Type} : Left H := { results := [], args := [] }

/-- 'sealringlaw.ShareTells': WHATEVER THE INPUT: true; the input reads as it did. -/
def shareTellsSpec : ChangeSpec := { name := "shareTells", fn := fun _ => fun
  | [d1, d2] => { results := [.lit (.bool true)], args := [d1, d2] }
  | _ => none }
def shareTellsRow : OpenClaim := { program := "ytdlmamnnamlleaa", sum := "e2b7d4c3be23556c58f74c19a43c2157e987d26edd9edcc7aa434fc3940f50ed", func := "sealring/sealringlaw.ShareTells", spec := "shareTells", inPlace := ["math/bits.Sub64", "math/bits.Add64"], apart := false }
def ShareTellsSaid : Prop := shareTellsRow.holds Try.pinned (OpenSpec.ofChange shareTellsSpec)

/-- ITS FALSE NEIGHBOUR: 'it returns false'. Refute it at one input. -/
def shareTellsWrong : ChangeSpec := { name := "shareTells", fn := fun _ => fun
  | [d1, d2] => { results := [.lit (.bool false)], args := [d1, d2] }
  | _ => none }
def ShareTellsWrongFalsely : Prop := shareTellsRow.holds Try.pinned (OpenSpec.ofChange shareTellsWrong)

/-- 'sealringlaw.RuleMakes': WHATEVER THE INPUT: true; the input reads as it did. -/
def ruleMakesSpec : ChangeSpec := { name := "ruleMakes", fn := fun _ => fun
  | [d1, d2, d3] => { results := [.lit (.bool true)], args := [d1, d2, d3] }
  | _ => none }
def ruleMakesRow : OpenClaim := { program := "ytdlmamnnamlleaa", sum := "e2b7d4c3be23556c58f74c19a43c2157e987d26edd9edcc7aa434fc3940f50ed", func := "sealring/sealringlaw.RuleMakes", spec := "ruleMakes", unfollowed := true, recurses := true, apart := false }
def RuleMakesSaid : Prop := ruleMakesRow.holds Try.pinned (OpenSpec.ofChange ruleMakesSpec)

/-- ITS FALSE NEIGHBOUR: 'it returns false'. Refute it at one input. -/
def ruleMakesWrong : ChangeSpec := { name := "ruleMakes", fn := fun _ => fun
  | [d1, d2, d3] => { results := [.lit (.bool false)], args := [d1, d2, d3] }
  | _ => none }
def RuleMakesWrongFalsely : Prop := ruleMakesRow.holds Try.pinned (OpenSpec.ofChange ruleMakesWrong)

/-- 'sealringlaw.StoreBegins': WHATEVER THE INPUT: true; the input reads as it did. -/
def storeBeginsSpec : ChangeSpec := { name := "storeBegins", fn := fun _ => fun
  | [d] => { results := [.lit (.bool true)], args := [d] }
  | _ => none }
def storeBeginsRow : OpenClaim := { program := "ytdlmamnnamlleaa", sum := "e2b7d4c3be23556c58f74c19a43c2157e987d26edd9edcc7aa434fc3940f50ed", func := "sealring/sealringlaw.StoreBegins", spec := "storeBegins", unfollowed := true, recurses := true, apart := false }
def StoreBeginsSaid : Prop := storeBeginsRow.holds Try.pinned (OpenSpec.ofChange storeBeginsSpec)

/-- ITS FALSE NEIGHBOUR: 'it returns false'. Refute it at one input. -/
def storeBeginsWrong : ChangeSpec := { name := "storeBegins", fn := fun _ => fun
  | [d] => { results := [.lit (.bool false)], args := [d] }
  | _ => none }
def StoreBeginsWrongFalsely : Prop := storeBeginsRow.holds Try.pinned (OpenSpec.ofChange storeBeginsWrong)

/-- 'sealringlaw.AttrTells': WHATEVER THE INPUT: true; the input reads as it did. -/
def attrTellsSpec : ChangeSpec := { name := "attrTells", fn := fun _ => fun
  | [d1, d2, d3] => { results := [.lit (.bool true)], args := [d1, d2, d3] }
  | _ => none }
def attrTellsRow : OpenClaim := { program := "ytdlmamnnamlleaa", sum := "e2b7d4c3be23556c58f74c19a43c2157e987d26edd9edcc7aa434fc3940f50ed", func := "sealring/sealringlaw.AttrTells", spec := "attrTells", unfollowed := true, recurses := true, apart := false }
def AttrTellsSaid : Prop := attrTellsRow.holds Try.pinned (OpenSpec.ofChange attrTellsSpec)

/-- ITS FALSE NEIGHBOUR: 'it returns false'. Refute it at one input. -/
def attrTellsWrong : ChangeSpec := { name := "attrTells", fn := fun _ => fun
  | [d1, d2, d3] => { results := [.lit (.bool false)], args := [d1, d2, d3] }
  | _ => none }
def AttrTellsWrongFalsely : Prop := attrTellsRow.holds Try.pinned (OpenSpec.ofChange attrTellsWrong)

/-- 'sealringlaw.LoginPlays': WHATEVER THE INPUT: true; the input reads as it did. -/
def loginPlaysSpec : ChangeSpec := { name := "loginPlays", fn := fun _ => fun
  | [d1, d2] => { results := [.lit (.bool true)], args := [d1, d2] }
  | _ => none }
def loginPlaysRow : OpenClaim := { program := "ytdlmamnnamlleaa", sum := "e2b7d4c3be23556c58f74c19a43c2157e987d26edd9edcc7aa434fc3940f50ed", func := "sealring/sealringlaw.LoginPlays", spec := "loginPlays", unfollowed := true, recurses := true, apart := false }
def LoginPlaysSaid : Prop := loginPlaysRow.holds Try.pinned (OpenSpec.ofChange loginPlaysSpec)

/-- ITS FALSE NEIGHBOUR: 'it returns false'. Refute it at one input. -/
def loginPlaysWrong : ChangeSpec := { name := "loginPlays", fn := fun _ => fun
  | [d1, d2] => { results := [.lit (.bool false)], args := [d1, d2] }
  | _ => none }
def LoginPlaysWrongFalsely : Prop := loginPlaysRow.holds Try.pinned (OpenSpec.ofChange loginPlaysWrong)

/-- 'sealringlaw.StorePlays': WHATEVER THE INPUT: true; the input reads as it did. -/
def storePlaysSpec : ChangeSpec := { name := "storePlays", fn := fun _ => fun
  | [d1, d2, d3, d4] => { results := [.lit (.bool true)], args := [d1, d2, d3, d4] }
  | _ => none }
def storePlaysRow : OpenClaim := { program := "ytdlmamnnamlleaa", sum := "e2b7d4c3be23556c58f74c19a43c2157e987d26edd9edcc7aa434fc3940f50ed", func := "sealring/sealringlaw.StorePlays", spec := "storePlays", unfollowed := true, recurses := true, apart := false }
def StorePlaysSaid : Prop := storePlaysRow.holds Try.pinned (OpenSpec.ofChange storePlaysSpec)

/-- ITS FALSE NEIGHBOUR: 'it returns false'. Refute it at one input. -/
def storePlaysWrong : ChangeSpec := { name := "storePlays", fn := fun _ => fun
  | [d1, d2, d3, d4] => { results := [.lit (.bool false)], args := [d1, d2, d3, d4] }
  | _ => none }
def StorePlaysWrongFalsely : Prop := storePlaysRow.holds Try.pinned (OpenSpec.ofChange storePlaysWrong)

/-- 'sealringlaw.AttrPuts': WHATEVER THE INPUT: true; the input reads as it did. -/
def attrPutsSpec : ChangeSpec := { name := "attrPuts", fn := fun _ => fun
  | [d1, d2, d3] => { results := [.lit (.bool true)], args := [d1, d2, d3] }
  | _ => none }
def attrPutsRow : OpenClaim := { program := "ytdlmamnnamlleaa", sum := "e2b7d4c3be23556c58f74c19a43c2157e987d26edd9edcc7aa434fc3940f50ed", func := "sealring/sealringlaw.AttrPuts", spec := "attrPuts", unfollowed := true, recurses := true, apart := false }
def AttrPutsSaid : Prop := attrPutsRow.holds Try.pinned (OpenSpec.ofChange attrPutsSpec)

/-- ITS FALSE NEIGHBOUR: 'it returns false'. Refute it at one input. -/
def attrPutsWrong : ChangeSpec := { name := "attrPuts", fn := fun _ => fun
  | [d1, d2, d3] => { results := [.lit (.bool false)], args := [d1, d2, d3] }
  | _ => none }
def AttrPutsWrongFalsely : Prop := attrPutsRow.holds Try.pinned (OpenSpec.ofChange attrPutsWrong)

/-- 'sealringlaw.RuleChanges': WHATEVER THE INPUT: true; the input reads as it did. -/
def ruleChangesSpec : ChangeSpec := { name := "ruleChanges", fn := fun _ => fun
  | [d1, d2] => { results := [.lit (.bool true)], args := [d1, d2] }
  | _ => none }
def ruleChangesRow : OpenClaim := { program := "ytdlmamnnamlleaa", sum := "e2b7d4c3be23556c58f74c19a43c2157e987d26edd9edcc7aa434fc3940f50ed", func := "sealring/sealringlaw.RuleChanges", spec := "ruleChanges", unfollowed := true, recurses := true, apart := false }
def RuleChangesSaid : Prop := ruleChangesRow.holds Try.pinned (OpenSpec.ofChange ruleChangesSpec)

/-- ITS FALSE NEIGHBOUR: 'it returns false'. Refute it at one input. -/
def ruleChangesWrong : ChangeSpec := { name := "ruleChanges", fn := fun _ => fun
  | [d1, d2] => { results := [.lit (.bool false)], args := [d1, d2] }
  | _ => none }
def RuleChangesWrongFalsely : Prop := ruleChangesRow.holds Try.pinned (OpenSpec.ofChange ruleChangesWrong)

/- THE SECOND FORM. 'bulk': how many values and letters a reading holds, each counted each time it is reached (what is shared counts as often as it is met; a slice's spare places count too). A statement '..UptoSaid' is the law's where the arguments, and the package variables that the reading takes, are together of bulk at most 1048576: NARROWER than '..Said'. Prove '..Said' where nothing that the law and all that it calls make is longer than what came in: it says more and counts as full. Else prove '..UptoSaid'. A law counts once. -/
mutual
def uptoBulk {H : Type} : DataW H → Nat
  | .lit (.string bytes) => bytes.length + 1
  | .lit _ => 1
  | .nil => 1
  | .ptr d => uptoBulk d + 1
  | .slice elems spare => uptoBulkAll elems + uptoBulkAll spare + 1
  | .agg parts => uptoBulkAll parts + 1
  | .iface _ d => uptoBulk d + 1
  | .map entries => uptoBulkEntries entries + 1
  | .held _ => 1
def uptoBulkAll {H : Type} : List (DataW H) → Nat
  | [] => 0
  | d :: r => uptoBulk d + uptoBulkAll r
def uptoBulkEntries {H : Type} : List (Lit × DataW H) → Nat
  | [] => 0
  | x :: r => uptoBulkEntry x + uptoBulkEntries r
def uptoBulkEntry {H : Type} : Lit × DataW H → Nat
  | (.string bytes, d) => bytes.length + uptoBulk d + 1
  | (_, d) => uptoBulk d + 1
 end
def uptoSmall : (H : Type) → List (DataW H) → Bool := fun _ ds => decide (uptoBulkAll ds ≤ 1048576)
def OpenSpec.upto (s : _root_.Go.ChangeSpec) : _root_.Go.OpenSpec := { _root_.Go.OpenSpec.ofChange s with cond := some uptoSmall }

/-- 'sealringlaw.ShareTells', WHERE WHAT IT READS IS OF BULK AT MOST 1048576: true; the input reads as it did. -/
def shareTellsUptoRow : OpenClaim := { program := "ytdlmamnnamlleaa", sum := "e2b7d4c3be23556c58f74c19a43c2157e987d26edd9edcc7aa434fc3940f50ed", func := "sealring/sealringlaw.ShareTells", spec := "shareTells", inPlace := ["math/bits.Sub64", "math/bits.Add64"], apart := false, narrowed := true }
def ShareTellsUptoSaid : Prop := shareTellsUptoRow.holds Try.pinned (OpenSpec.upto shareTellsSpec)

/-- 'sealringlaw.RuleMakes', WHERE WHAT IT READS IS OF BULK AT MOST 1048576: true; the input reads as it did. -/
def ruleMakesUptoRow : OpenClaim := { program := "ytdlmamnnamlleaa", sum := "e2b7d4c3be23556c58f74c19a43c2157e987d26edd9edcc7aa434fc3940f50ed", func := "sealring/sealringlaw.RuleMakes", spec := "ruleMakes", unfollowed := true, recurses := true, apart := false, narrowed := true }
def RuleMakesUptoSaid : Prop := ruleMakesUptoRow.holds Try.pinned (OpenSpec.upto ruleMakesSpec)

/-- 'sealringlaw.StoreBegins', WHERE WHAT IT READS IS OF BULK AT MOST 1048576: true; the input reads as it did. -/
def storeBeginsUptoRow : OpenClaim := { program := "ytdlmamnnamlleaa", sum := "e2b7d4c3be23556c58f74c19a43c2157e987d26edd9edcc7aa434fc3940f50ed", func := "sealring/sealringlaw.StoreBegins", spec := "storeBegins", unfollowed := true, recurses := true, apart := false, narrowed := true }
def StoreBeginsUptoSaid : Prop := storeBeginsUptoRow.holds Try.pinned (OpenSpec.upto storeBeginsSpec)

/-- 'sealringlaw.AttrTells', WHERE WHAT IT READS IS OF BULK AT MOST 1048576: true; the input reads as it did. -/
def attrTellsUptoRow : OpenClaim := { program := "ytdlmamnnamlleaa", sum := "e2b7d4c3be23556c58f74c19a43c2157e987d26edd9edcc7aa434fc3940f50ed", func := "sealring/sealringlaw.AttrTells", spec := "attrTells", unfollowed := true, recurses := true, apart := false, narrowed := true }
def AttrTellsUptoSaid : Prop := attrTellsUptoRow.holds Try.pinned (OpenSpec.upto attrTellsSpec)

/-- 'sealringlaw.LoginPlays', WHERE WHAT IT READS IS OF BULK AT MOST 1048576: true; the input reads as it did. -/
def loginPlaysUptoRow : OpenClaim := { program := "ytdlmamnnamlleaa", sum := "e2b7d4c3be23556c58f74c19a43c2157e987d26edd9edcc7aa434fc3940f50ed", func := "sealring/sealringlaw.LoginPlays", spec := "loginPlays", unfollowed := true, recurses := true, apart := false, narrowed := true }
def LoginPlaysUptoSaid : Prop := loginPlaysUptoRow.holds Try.pinned (OpenSpec.upto loginPlaysSpec)

/-- 'sealringlaw.StorePlays', WHERE WHAT IT READS IS OF BULK AT MOST 1048576: true; the input reads as it did. -/
def storePlaysUptoRow : OpenClaim := { program := "ytdlmamnnamlleaa", sum := "e2b7d4c3be23556c58f74c19a43c2157e987d26edd9edcc7aa434fc3940f50ed", func := "sealring/sealringlaw.StorePlays", spec := "storePlays", unfollowed := true, recurses := true, apart := false, narrowed := true }
def StorePlaysUptoSaid : Prop := storePlaysUptoRow.holds Try.pinned (OpenSpec.upto storePlaysSpec)

/-- 'sealringlaw.AttrPuts', WHERE WHAT IT READS IS OF BULK AT MOST 1048576: true; the input reads as it did. -/
def attrPutsUptoRow : OpenClaim := { program := "ytdlmamnnamlleaa", sum := "e2b7d4c3be23556c58f74c19a43c2157e987d26edd9edcc7aa434fc3940f50ed", func := "sealring/sealringlaw.AttrPuts", spec := "attrPuts", unfollowed := true, recurses := true, apart := false, narrowed := true }
def AttrPutsUptoSaid : Prop := attrPutsUptoRow.holds Try.pinned (OpenSpec.upto attrPutsSpec)

/-- 'sealringlaw.RuleChanges', WHERE WHAT IT READS IS OF BULK AT MOST 1048576: true; the input reads as it did. -/
def ruleChangesUptoRow : OpenClaim := { program := "ytdlmamnnamlleaa", sum := "e2b7d4c3be23556c58f74c19a43c2157e987d26edd9edcc7aa434fc3940f50ed", func := "sealring/sealringlaw.RuleChanges", spec := "ruleChanges", unfollowed := true, recurses := true, apart := false, narrowed := true }
def RuleChangesUptoSaid : Prop := ruleChangesUptoRow.holds Try.pinned (OpenSpec.upto ruleChangesSpec)

end Rows
end Go.Proofs.Ytdlmamnnamlleaa
