/-
  No cell of these rows narrows 'for every input' (looked for: loops, veiled, ifaces, maps, wideKeys, modest, calm, conditions, laid).
  DERIVED. THE GIVEN ROWS OF THIS SEAT. 9 by the template 'for every input the law returns true; each argument reads behind the call as it read before'; 0 by the template 'total and deterministic' (their statements: YtodcjeaannfbnaaTotals.lean).
  GIVEN WITH THE SEED: the statements are not yours to turn. If you find one false, say at which input.
  Laid BY PROGRAM, IN A SANDBOX (cutbox-rows.mjs): the forced cells as the released guide's own fill.sh prints them over the translation 8b519ea3906b6195… (all of the seat's roots in one cut). By AI agents, Wed Nov 11 2026. No macro, syntax, notation, axiom, sorry.
-/
import Derived.Test.YtodcjeaannfbnaaChecked
import GoSem.Claim
import GoSem.ClaimJoined
import GoSem.ClaimMapViews
import Derived.JoinedTies
import Derived.KernelRfl
namespace Go.Proofs.Ytodcjeaannfbnaa
/- THE CELL 'sum', in the pinned program and in every row, IS THE sha256 OF THE DUMP (.gsa) THAT YtodcjeaannfbnaaProg.lean LOADS. Nothing in Lean hashes anything: it is a label: what it is worth is what the hold of that sum in a sandbox is worth. -/
noncomputable def Try.pinned : Pinned := { name := "ytodcjeaannfbnaa", sum := "8b519ea3906b619588c9e7d1b76166a5b5dc9d4e0aea8797aedf311018f8cd7b", checked := Try.checked }
namespace Rows
def none {H : Type} : Left H := { results := [], args := [] }

/-- 'sealringlaw.FieldTells': WHATEVER THE INPUT: true; the input reads as it did. -/
def fieldTellsSpec : ChangeSpec := { name := "fieldTells", fn := fun _ => fun
  | [d1, d2] => { results := [.lit (.bool true)], args := [d1, d2] }
  | _ => none }
def fieldTellsRow : OpenClaim := { program := "ytodcjeaannfbnaa", sum := "8b519ea3906b619588c9e7d1b76166a5b5dc9d4e0aea8797aedf311018f8cd7b", func := "sealring/sealringlaw.FieldTells", spec := "fieldTells", inPlace := ["math/bits.Sub64", "math/bits.Add64"], apart := false }
def FieldTellsSaid : Prop := fieldTellsRow.holds Try.pinned (OpenSpec.ofChange fieldTellsSpec)

/-- ITS FALSE NEIGHBOUR: 'it returns false'. Refute it at one input. -/
def fieldTellsWrong : ChangeSpec := { name := "fieldTells", fn := fun _ => fun
  | [d1, d2] => { results := [.lit (.bool false)], args := [d1, d2] }
  | _ => none }
def FieldTellsWrongFalsely : Prop := fieldTellsRow.holds Try.pinned (OpenSpec.ofChange fieldTellsWrong)

/-- 'sealringlaw.CurveTimes': WHATEVER THE INPUT: true; the input reads as it did. -/
def curveTimesSpec : ChangeSpec := { name := "curveTimes", fn := fun _ => fun
  | [d1, d2] => { results := [.lit (.bool true)], args := [d1, d2] }
  | _ => none }
def curveTimesRow : OpenClaim := { program := "ytodcjeaannfbnaa", sum := "8b519ea3906b619588c9e7d1b76166a5b5dc9d4e0aea8797aedf311018f8cd7b", func := "sealring/sealringlaw.CurveTimes", spec := "curveTimes", inPlace := ["math/bits.Sub64", "math/bits.Add64"], apart := false }
def CurveTimesSaid : Prop := curveTimesRow.holds Try.pinned (OpenSpec.ofChange curveTimesSpec)

/-- ITS FALSE NEIGHBOUR: 'it returns false'. Refute it at one input. -/
def curveTimesWrong : ChangeSpec := { name := "curveTimes", fn := fun _ => fun
  | [d1, d2] => { results := [.lit (.bool false)], args := [d1, d2] }
  | _ => none }
def CurveTimesWrongFalsely : Prop := curveTimesRow.holds Try.pinned (OpenSpec.ofChange curveTimesWrong)

/-- 'sealringlaw.CurveTells': WHATEVER THE INPUT: true; the input reads as it did. -/
def curveTellsSpec : ChangeSpec := { name := "curveTells", fn := fun _ => fun
  | [d1, d2] => { results := [.lit (.bool true)], args := [d1, d2] }
  | _ => none }
def curveTellsRow : OpenClaim := { program := "ytodcjeaannfbnaa", sum := "8b519ea3906b619588c9e7d1b76166a5b5dc9d4e0aea8797aedf311018f8cd7b", func := "sealring/sealringlaw.CurveTells", spec := "curveTells", inPlace := ["math/bits.Sub64", "math/bits.Add64"], apart := false }
def CurveTellsSaid : Prop := curveTellsRow.holds Try.pinned (OpenSpec.ofChange curveTellsSpec)

/-- ITS FALSE NEIGHBOUR: 'it returns false'. Refute it at one input. -/
def curveTellsWrong : ChangeSpec := { name := "curveTells", fn := fun _ => fun
  | [d1, d2] => { results := [.lit (.bool false)], args := [d1, d2] }
  | _ => none }
def CurveTellsWrongFalsely : Prop := curveTellsRow.holds Try.pinned (OpenSpec.ofChange curveTellsWrong)

/-- 'sealringlaw.LadderTells': WHATEVER THE INPUT: true; the input reads as it did. -/
def ladderTellsSpec : ChangeSpec := { name := "ladderTells", fn := fun _ => fun
  | [d1, d2, d3] => { results := [.lit (.bool true)], args := [d1, d2, d3] }
  | _ => none }
def ladderTellsRow : OpenClaim := { program := "ytodcjeaannfbnaa", sum := "8b519ea3906b619588c9e7d1b76166a5b5dc9d4e0aea8797aedf311018f8cd7b", func := "sealring/sealringlaw.LadderTells", spec := "ladderTells", inPlace := ["math/bits.Sub64", "math/bits.Add64"], recurses := true, apart := false }
def LadderTellsSaid : Prop := ladderTellsRow.holds Try.pinned (OpenSpec.ofChange ladderTellsSpec)

/-- ITS FALSE NEIGHBOUR: 'it returns false'. Refute it at one input. -/
def ladderTellsWrong : ChangeSpec := { name := "ladderTells", fn := fun _ => fun
  | [d1, d2, d3] => { results := [.lit (.bool false)], args := [d1, d2, d3] }
  | _ => none }
def LadderTellsWrongFalsely : Prop := ladderTellsRow.holds Try.pinned (OpenSpec.ofChange ladderTellsWrong)

/-- 'sealringlaw.ShareTells': WHATEVER THE INPUT: true; the input reads as it did. -/
def shareTellsSpec : ChangeSpec := { name := "shareTells", fn := fun _ => fun
  | [d1, d2] => { results := [.lit (.bool true)], args := [d1, d2] }
  | _ => none }
def shareTellsRow : OpenClaim := { program := "ytodcjeaannfbnaa", sum := "8b519ea3906b619588c9e7d1b76166a5b5dc9d4e0aea8797aedf311018f8cd7b", func := "sealring/sealringlaw.ShareTells", spec := "shareTells", inPlace := ["math/bits.Sub64", "math/bits.Add64"], apart := false }
def ShareTellsSaid : Prop := shareTellsRow.holds Try.pinned (OpenSpec.ofChange shareTellsSpec)

/-- ITS FALSE NEIGHBOUR: 'it returns false'. Refute it at one input. -/
def shareTellsWrong : ChangeSpec := { name := "shareTells", fn := fun _ => fun
  | [d1, d2] => { results := [.lit (.bool false)], args := [d1, d2] }
  | _ => none }
def ShareTellsWrongFalsely : Prop := shareTellsRow.holds Try.pinned (OpenSpec.ofChange shareTellsWrong)

/-- 'sealringlaw.AgreeTells': WHATEVER THE INPUT: true; the input reads as it did. -/
def agreeTellsSpec : ChangeSpec := { name := "agreeTells", fn := fun _ => fun
  | [d1, d2] => { results := [.lit (.bool true)], args := [d1, d2] }
  | _ => none }
def agreeTellsRow : OpenClaim := { program := "ytodcjeaannfbnaa", sum := "8b519ea3906b619588c9e7d1b76166a5b5dc9d4e0aea8797aedf311018f8cd7b", func := "sealring/sealringlaw.AgreeTells", spec := "agreeTells", inPlace := ["math/bits.Sub64", "math/bits.Add64"], recurses := true, apart := false }
def AgreeTellsSaid : Prop := agreeTellsRow.holds Try.pinned (OpenSpec.ofChange agreeTellsSpec)

/-- ITS FALSE NEIGHBOUR: 'it returns false'. Refute it at one input. -/
def agreeTellsWrong : ChangeSpec := { name := "agreeTells", fn := fun _ => fun
  | [d1, d2] => { results := [.lit (.bool false)], args := [d1, d2] }
  | _ => none }
def AgreeTellsWrongFalsely : Prop := agreeTellsRow.holds Try.pinned (OpenSpec.ofChange agreeTellsWrong)

/-- 'sealringlaw.RuleMakes': WHATEVER THE INPUT: true; the input reads as it did. -/
def ruleMakesSpec : ChangeSpec := { name := "ruleMakes", fn := fun _ => fun
  | [d1, d2, d3] => { results := [.lit (.bool true)], args := [d1, d2, d3] }
  | _ => none }
def ruleMakesRow : OpenClaim := { program := "ytodcjeaannfbnaa", sum := "8b519ea3906b619588c9e7d1b76166a5b5dc9d4e0aea8797aedf311018f8cd7b", func := "sealring/sealringlaw.RuleMakes", spec := "ruleMakes", unfollowed := true, recurses := true, apart := false }
def RuleMakesSaid : Prop := ruleMakesRow.holds Try.pinned (OpenSpec.ofChange ruleMakesSpec)

/-- ITS FALSE NEIGHBOUR: 'it returns false'. Refute it at one input. -/
def ruleMakesWrong : ChangeSpec := { name := "ruleMakes", fn := fun _ => fun
  | [d1, d2, d3] => { results := [.lit (.bool false)], args := [d1, d2, d3] }
  | _ => none }
def RuleMakesWrongFalsely : Prop := ruleMakesRow.holds Try.pinned (OpenSpec.ofChange ruleMakesWrong)

/-- 'sealringlaw.RingTells': WHATEVER THE INPUT: true; the input reads as it did. -/
def ringTellsSpec : ChangeSpec := { name := "ringTells", fn := fun _ => fun
  | [d1, d2, d3, d4, d5] => { results := [.lit (.bool true)], args := [d1, d2, d3, d4, d5] }
  | _ => none }
def ringTellsRow : OpenClaim := { program := "ytodcjeaannfbnaa", sum := "8b519ea3906b619588c9e7d1b76166a5b5dc9d4e0aea8797aedf311018f8cd7b", func := "sealring/sealringlaw.RingTells", spec := "ringTells", inPlace := ["math/bits.Sub64", "math/bits.Add64"], unfollowed := true, recurses := true, apart := false }
def RingTellsSaid : Prop := ringTellsRow.holds Try.pinned (OpenSpec.ofChange ringTellsSpec)

/-- ITS FALSE NEIGHBOUR: 'it returns false'. Refute it at one input. -/
def ringTellsWrong : ChangeSpec := { name := "ringTells", fn := fun _ => fun
  | [d1, d2, d3, d4, d5] => { results := [.lit (.bool false)], args := [d1, d2, d3, d4, d5] }
  | _ => none }
def RingTellsWrongFalsely : Prop := ringTellsRow.holds Try.pinned (OpenSpec.ofChange ringTellsWrong)

/-- 'sealringlaw.CurvePacks': WHATEVER THE INPUT: true; the input reads as it did. -/
def curvePacksSpec : ChangeSpec := { name := "curvePacks", fn := fun _ => fun
  | [d1, d2] => { results := [.lit (.bool true)], args := [d1, d2] }
  | _ => none }
def curvePacksRow : OpenClaim := { program := "ytodcjeaannfbnaa", sum := "8b519ea3906b619588c9e7d1b76166a5b5dc9d4e0aea8797aedf311018f8cd7b", func := "sealring/sealringlaw.CurvePacks", spec := "curvePacks", inPlace := ["math/bits.Sub64", "math/bits.Add64"], apart := false }
def CurvePacksSaid : Prop := curvePacksRow.holds Try.pinned (OpenSpec.ofChange curvePacksSpec)

/-- ITS FALSE NEIGHBOUR: 'it returns false'. Refute it at one input. -/
def curvePacksWrong : ChangeSpec := { name := "curvePacks", fn := fun _ => fun
  | [d1, d2] => { results := [.lit (.bool false)], args := [d1, d2] }
  | _ => none }
def CurvePacksWrongFalsely : Prop := curvePacksRow.holds Try.pinned (OpenSpec.ofChange curvePacksWrong)

/- THE SECOND FORM. 'bulk': how many values and letters a reading holds, each counted each time it is reached (what is shared counts as often as it is met; a slice's spare places count too). A statement '..UptoSaid' is the law's where the arguments, and the package variables that the reading takes, are together of bulk at most 1048576: NARROWER than '..Said'. Prove '..Said' where nothing that the law and all that it calls make is longer than what came in: it says more and counts as full. Else prove '..UptoSaid'. A law counts once. -/
mutual
def uptoBulk {H : Type} : DataW H → Nat
  | .lit (.string bytes) => bytes.length + 1
  | .lit _ => 1
  | .nil => 1
  | .ptr d => uptoBulk d + 1
  | .slice elems spare => uptoBulkAll elems + uptoBulkAll spare + 1
  | .agg parts => uptoBulkAll parts + 1
  | .iface _ d => uptoBulk d + 1
  | .map entries => uptoBulkEntries entries + 1
  | .held _ => 1
def uptoBulkAll {H : Type} : List (DataW H) → Nat
  | [] => 0
  | d :: r => uptoBulk d + uptoBulkAll r
def uptoBulkEntries {H : Type} : List (Lit × DataW H) → Nat
  | [] => 0
  | x :: r => uptoBulkEntry x + uptoBulkEntries r
def uptoBulkEntry {H : Type} : Lit × DataW H → Nat
  | (.string bytes, d) => bytes.length + uptoBulk d + 1
  | (_, d) => uptoBulk d + 1
 end
def uptoSmall : (H : Type) → List (DataW H) → Bool := fun _ ds => decide (uptoBulkAll ds ≤ 1048576)
def OpenSpec.upto (s : _root_.Go.ChangeSpec) : _root_.Go.OpenSpec := { _root_.Go.OpenSpec.ofChange s with cond := some uptoSmall }

/-- 'sealringlaw.FieldTells', WHERE WHAT IT READS IS OF BULK AT MOST 1048576: true; the input reads as it did. -/
def fieldTellsUptoRow : OpenClaim := { program := "ytodcjeaannfbnaa", sum := "8b519ea3906b619588c9e7d1b76166a5b5dc9d4e0aea8797aedf311018f8cd7b", func := "sealring/sealringlaw.FieldTells", spec := "fieldTells", inPlace := ["math/bits.Sub64", "math/bits.Add64"], apart := false, narrowed := true }
def FieldTellsUptoSaid : Prop := fieldTellsUptoRow.holds Try.pinned (OpenSpec.upto fieldTellsSpec)

/-- 'sealringlaw.CurveTimes', WHERE WHAT IT READS IS OF BULK AT MOST 1048576: true; the input reads as it did. -/
def curveTimesUptoRow : OpenClaim := { program := "ytodcjeaannfbnaa", sum := "8b519ea3906b619588c9e7d1b76166a5b5dc9d4e0aea8797aedf311018f8cd7b", func := "sealring/sealringlaw.CurveTimes", spec := "curveTimes", inPlace := ["math/bits.Sub64", "math/bits.Add64"], apart := false, narrowed := true }
def CurveTimesUptoSaid : Prop := curveTimesUptoRow.holds Try.pinned (OpenSpec.upto curveTimesSpec)

/-- 'sealringlaw.CurveTells', WHERE WHAT IT READS IS OF BULK AT MOST 1048576: true; the input reads as it did. -/
def curveTellsUptoRow : OpenClaim := { program := "ytodcjeaannfbnaa", sum := "8b519ea3906b619588c9e7d1b76166a5b5dc9d4e0aea8797aedf311018f8cd7b", func := "sealring/sealringlaw.CurveTells", spec := "curveTells", inPlace := ["math/bits.Sub64", "math/bits.Add64"], apart := false, narrowed := true }
def CurveTellsUptoSaid : Prop := curveTellsUptoRow.holds Try.pinned (OpenSpec.upto curveTellsSpec)

/-- 'sealringlaw.LadderTells', WHERE WHAT IT READS IS OF BULK AT MOST 1048576: true; the input reads as it did. -/
def ladderTellsUptoRow : OpenClaim := { program := "ytodcjeaannfbnaa", sum := "8b519ea3906b619588c9e7d1b76166a5b5dc9d4e0aea8797aedf311018f8cd7b", func := "sealring/sealringlaw.LadderTells", spec := "ladderTells", inPlace := ["math/bits.Sub64", "math/bits.Add64"], recurses := true, apart := false, narrowed := true }
def LadderTellsUptoSaid : Prop := ladderTellsUptoRow.holds Try.pinned (OpenSpec.upto ladderTellsSpec)

/-- 'sealringlaw.ShareTells', WHERE WHAT IT READS IS OF BULK AT MOST 1048576: true; the input reads as it did. -/
def shareTellsUptoRow : OpenClaim := { program := "ytodcjeaannfbnaa", sum := "8b519ea3906b619588c9e7d1b76166a5b5dc9d4e0aea8797aedf311018f8cd7b", func := "sealring/sealringlaw.ShareTells", spec := "shareTells", inPlace := ["math/bits.Sub64", "math/bits.Add64"], apart := false, narrowed := true }
def ShareTellsUptoSaid : Prop := shareTellsUptoRow.holds Try.pinned (OpenSpec.upto shareTellsSpec)

/-- 'sealringlaw.AgreeTells', WHERE WHAT IT READS IS OF BULK AT MOST 1048576: true; the input reads as it did. -/
def agreeTellsUptoRow : OpenClaim := { program := "ytodcjeaannfbnaa", sum := "8b519ea3906b619588c9e7d1b76166a5b5dc9d4e0aea8797aedf311018f8cd7b", func := "sealring/sealringlaw.AgreeTells", spec := "agreeTells", inPlace := ["math/bits.Sub64", "math/bits.Add64"], recurses := true, apart := false, narrowed := true }
def AgreeTellsUptoSaid : Prop := agreeTellsUptoRow.holds Try.pinned (OpenSpec.upto agreeTellsSpec)

/-- 'sealringlaw.RuleMakes', WHERE WHAT IT READS IS OF BULK AT MOST 1048576: true; the input reads as it did. -/
def ruleMakesUptoRow : OpenClaim := { program := "ytodcjeaannfbnaa", sum := "8b519ea3906b619588c9e7d1b76166a5b5dc9d4e0aea8797aedf311018f8cd7b", func := "sealring/sealringlaw.RuleMakes", spec := "ruleMakes", unfollowed := true, recurses := true, apart := false, narrowed := true }
def RuleMakesUptoSaid : Prop := ruleMakesUptoRow.holds Try.pinned (OpenSpec.upto ruleMakesSpec)

/-- 'sealringlaw.RingTells', WHERE WHAT IT READS IS OF BULK AT MOST 1048576: true; the input reads as it did. -/
def ringTellsUptoRow : OpenClaim := { program := "ytodcjeaannfbnaa", sum := "8b519ea3906b619588c9e7d1b76166a5b5dc9d4e0aea8797aedf311018f8cd7b", func := "sealring/sealringlaw.RingTells", spec := "ringTells", inPlace := ["math/bits.Sub64", "math/bits.Add64"], unfollowed := true, recurses := true, apart := false, narrowed := true }
def RingTellsUptoSaid : Prop := ringTellsUptoRow.holds Try.pinned (OpenSpec.upto ringTellsSpec)

/-- 'sealringlaw.CurvePacks', WHERE WHAT IT READS IS OF BULK AT MOST 1048576: true; the input reads as it did. -/
def curvePacksUptoRow : OpenClaim := { program := "ytodcjeaannfbnaa", sum := "8b519ea3906b619588c9e7d1b76166a5b5dc9d4e0aea8797aedf311018f8cd7b", func := "sealring/sealringlaw.CurvePacks", spec := "curvePacks", inPlace := ["math/bits.Sub64", "math/bits.Add64"], apart := false, narrowed := true }
def CurvePacksUptoSaid : Prop := curvePacksUptoRow.holds Try.pinned (OpenSpec.upto curvePacksSpec)

end Rows
end Go.Proofs.Ytodcjeaannfbnaa
