/-
  No cell of these rows narrows 'for every input' (looked for: loops, veiled, ifaces, maps, wideKeys, modest, calm, conditions, laid).
  DERIVED. THE GIVEN ROWS OF THIS SEAT. 8 by the template 'for every input the law returns true; each argument reads behind the call as it read before'; 0 by the template 'total and deterministic' (their statements: YtjfiokicnacbfaaTotals.lean).
  GIVEN WITH THE SEED: the statements are not yours to turn. If you find one false, say at which input.
  Laid BY PROGRAM, IN A SANDBOX (cutbox-rows.mjs): the forced cells as the released guide's own fill.sh prints them over the translation 117eeb48eb03aa75… (all of the seat's roots in one cut). By AI agents, Wed Nov 11 2026. No macro, syntax, notation, axiom, sorry.
-/
import Derived.Test.YtjfiokicnacbfaaChecked
import GoSem.Claim
import GoSem.ClaimJoined
import GoSem.ClaimMapViews
import Derived.JoinedTies
import Derived.KernelRfl
namespace Go.Proofs.Ytjfiokicnacbfaa
/- THE CELL 'sum', in the pinned program and in every row, IS THE sha256 OF THE DUMP (.gsa) THAT YtjfiokicnacbfaaProg.lean LOADS. Nothing in Lean hashes anything: it is a label: what it is worth is what the hold of that sum in a sandbox is worth. -/
noncomputable def Try.pinned : Pinned := { name := "ytjfiokicnacbfaa", sum := "117eeb48eb03aa75ecb5a3eae456bfb8d247c0d9a8e0ced5033853456d41ef5f", checked := Try.checked }
namespace Rows
def none {H : Type} : Left H := { results := [], args := [] }

/-- 'sealringlaw.Names': WHATEVER THE INPUT: true; the input reads as it did. -/
def namesSpec : ChangeSpec := { name := "names", fn := fun _ => fun
  | [] => { results := [.lit (.bool true)], args := [] }
  | _ => none }
def namesRow : OpenClaim := { program := "ytjfiokicnacbfaa", sum := "117eeb48eb03aa75ecb5a3eae456bfb8d247c0d9a8e0ced5033853456d41ef5f", func := "sealring/sealringlaw.Names", spec := "names", apart := false }
def NamesSaid : Prop := namesRow.holds Try.pinned (OpenSpec.ofChange namesSpec)

/-- ITS FALSE NEIGHBOUR: 'it returns false'. Refute it at one input. -/
def namesWrong : ChangeSpec := { name := "names", fn := fun _ => fun
  | [] => { results := [.lit (.bool false)], args := [] }
  | _ => none }
def NamesWrongFalsely : Prop := namesRow.holds Try.pinned (OpenSpec.ofChange namesWrong)

/-- 'sealringlaw.HallClashes': WHATEVER THE INPUT: true; the input reads as it did. -/
def hallClashesSpec : ChangeSpec := { name := "hallClashes", fn := fun _ => fun
  | [d1, d2] => { results := [.lit (.bool true)], args := [d1, d2] }
  | _ => none }
def hallClashesRow : OpenClaim := { program := "ytjfiokicnacbfaa", sum := "117eeb48eb03aa75ecb5a3eae456bfb8d247c0d9a8e0ced5033853456d41ef5f", func := "sealring/sealringlaw.HallClashes", spec := "hallClashes", unfollowed := true, recurses := true, apart := false }
def HallClashesSaid : Prop := hallClashesRow.holds Try.pinned (OpenSpec.ofChange hallClashesSpec)

/-- ITS FALSE NEIGHBOUR: 'it returns false'. Refute it at one input. -/
def hallClashesWrong : ChangeSpec := { name := "hallClashes", fn := fun _ => fun
  | [d1, d2] => { results := [.lit (.bool false)], args := [d1, d2] }
  | _ => none }
def HallClashesWrongFalsely : Prop := hallClashesRow.holds Try.pinned (OpenSpec.ofChange hallClashesWrong)

/-- 'sealringlaw.DerWrites': WHATEVER THE INPUT: true; the input reads as it did. -/
def derWritesSpec : ChangeSpec := { name := "derWrites", fn := fun _ => fun
  | [d] => { results := [.lit (.bool true)], args := [d] }
  | _ => none }
def derWritesRow : OpenClaim := { program := "ytjfiokicnacbfaa", sum := "117eeb48eb03aa75ecb5a3eae456bfb8d247c0d9a8e0ced5033853456d41ef5f", func := "sealring/sealringlaw.DerWrites", spec := "derWrites", apart := false }
def DerWritesSaid : Prop := derWritesRow.holds Try.pinned (OpenSpec.ofChange derWritesSpec)

/-- ITS FALSE NEIGHBOUR: 'it returns false'. Refute it at one input. -/
def derWritesWrong : ChangeSpec := { name := "derWrites", fn := fun _ => fun
  | [d] => { results := [.lit (.bool false)], args := [d] }
  | _ => none }
def DerWritesWrongFalsely : Prop := derWritesRow.holds Try.pinned (OpenSpec.ofChange derWritesWrong)

/-- 'sealringlaw.LimbHalves': WHATEVER THE INPUT: true; the input reads as it did. -/
def limbHalvesSpec : ChangeSpec := { name := "limbHalves", fn := fun _ => fun
  | [d1, d2, d3] => { results := [.lit (.bool true)], args := [d1, d2, d3] }
  | _ => none }
def limbHalvesRow : OpenClaim := { program := "ytjfiokicnacbfaa", sum := "117eeb48eb03aa75ecb5a3eae456bfb8d247c0d9a8e0ced5033853456d41ef5f", func := "sealring/sealringlaw.LimbHalves", spec := "limbHalves", apart := false }
def LimbHalvesSaid : Prop := limbHalvesRow.holds Try.pinned (OpenSpec.ofChange limbHalvesSpec)

/-- ITS FALSE NEIGHBOUR: 'it returns false'. Refute it at one input. -/
def limbHalvesWrong : ChangeSpec := { name := "limbHalves", fn := fun _ => fun
  | [d1, d2, d3] => { results := [.lit (.bool false)], args := [d1, d2, d3] }
  | _ => none }
def LimbHalvesWrongFalsely : Prop := limbHalvesRow.holds Try.pinned (OpenSpec.ofChange limbHalvesWrong)

/-- 'sealringlaw.GfTells': WHATEVER THE INPUT: true; the input reads as it did. -/
def gfTellsSpec : ChangeSpec := { name := "gfTells", fn := fun _ => fun
  | [d1, d2, d3, d4] => { results := [.lit (.bool true)], args := [d1, d2, d3, d4] }
  | _ => none }
def gfTellsRow : OpenClaim := { program := "ytjfiokicnacbfaa", sum := "117eeb48eb03aa75ecb5a3eae456bfb8d247c0d9a8e0ced5033853456d41ef5f", func := "sealring/sealringlaw.GfTells", spec := "gfTells", apart := false }
def GfTellsSaid : Prop := gfTellsRow.holds Try.pinned (OpenSpec.ofChange gfTellsSpec)

/-- ITS FALSE NEIGHBOUR: 'it returns false'. Refute it at one input. -/
def gfTellsWrong : ChangeSpec := { name := "gfTells", fn := fun _ => fun
  | [d1, d2, d3, d4] => { results := [.lit (.bool false)], args := [d1, d2, d3, d4] }
  | _ => none }
def GfTellsWrongFalsely : Prop := gfTellsRow.holds Try.pinned (OpenSpec.ofChange gfTellsWrong)

/-- 'sealringlaw.RuleSees': WHATEVER THE INPUT: true; the input reads as it did. -/
def ruleSeesSpec : ChangeSpec := { name := "ruleSees", fn := fun _ => fun
  | [d1, d2] => { results := [.lit (.bool true)], args := [d1, d2] }
  | _ => none }
def ruleSeesRow : OpenClaim := { program := "ytjfiokicnacbfaa", sum := "117eeb48eb03aa75ecb5a3eae456bfb8d247c0d9a8e0ced5033853456d41ef5f", func := "sealring/sealringlaw.RuleSees", spec := "ruleSees", unfollowed := true, recurses := true, apart := false }
def RuleSeesSaid : Prop := ruleSeesRow.holds Try.pinned (OpenSpec.ofChange ruleSeesSpec)

/-- ITS FALSE NEIGHBOUR: 'it returns false'. Refute it at one input. -/
def ruleSeesWrong : ChangeSpec := { name := "ruleSees", fn := fun _ => fun
  | [d1, d2] => { results := [.lit (.bool false)], args := [d1, d2] }
  | _ => none }
def RuleSeesWrongFalsely : Prop := ruleSeesRow.holds Try.pinned (OpenSpec.ofChange ruleSeesWrong)

/-- 'sealringlaw.DerReads': WHATEVER THE INPUT: true; the input reads as it did. -/
def derReadsSpec : ChangeSpec := { name := "derReads", fn := fun _ => fun
  | [d] => { results := [.lit (.bool true)], args := [d] }
  | _ => none }
def derReadsRow : OpenClaim := { program := "ytjfiokicnacbfaa", sum := "117eeb48eb03aa75ecb5a3eae456bfb8d247c0d9a8e0ced5033853456d41ef5f", func := "sealring/sealringlaw.DerReads", spec := "derReads", apart := false }
def DerReadsSaid : Prop := derReadsRow.holds Try.pinned (OpenSpec.ofChange derReadsSpec)

/-- ITS FALSE NEIGHBOUR: 'it returns false'. Refute it at one input. -/
def derReadsWrong : ChangeSpec := { name := "derReads", fn := fun _ => fun
  | [d] => { results := [.lit (.bool false)], args := [d] }
  | _ => none }
def DerReadsWrongFalsely : Prop := derReadsRow.holds Try.pinned (OpenSpec.ofChange derReadsWrong)

/-- 'sealringlaw.QuotTells': WHATEVER THE INPUT: true; the input reads as it did. -/
def quotTellsSpec : ChangeSpec := { name := "quotTells", fn := fun _ => fun
  | [d1, d2, d3] => { results := [.lit (.bool true)], args := [d1, d2, d3] }
  | _ => none }
def quotTellsRow : OpenClaim := { program := "ytjfiokicnacbfaa", sum := "117eeb48eb03aa75ecb5a3eae456bfb8d247c0d9a8e0ced5033853456d41ef5f", func := "sealring/sealringlaw.QuotTells", spec := "quotTells", inPlace := ["math/bits.Sub64"], apart := false }
def QuotTellsSaid : Prop := quotTellsRow.holds Try.pinned (OpenSpec.ofChange quotTellsSpec)

/-- ITS FALSE NEIGHBOUR: 'it returns false'. Refute it at one input. -/
def quotTellsWrong : ChangeSpec := { name := "quotTells", fn := fun _ => fun
  | [d1, d2, d3] => { results := [.lit (.bool false)], args := [d1, d2, d3] }
  | _ => none }
def QuotTellsWrongFalsely : Prop := quotTellsRow.holds Try.pinned (OpenSpec.ofChange quotTellsWrong)

/- THE SECOND FORM. 'bulk': how many values and letters a reading holds, each counted each time it is reached (what is shared counts as often as it is met; a slice's spare places count too). A statement '..UptoSaid' is the law's where the arguments, and the package variables that the reading takes, are together of bulk at most 1048576: NARROWER than '..Said'. Prove '..Said' where nothing that the law and all that it calls make is longer than what came in: it says more and counts as full. Else prove '..UptoSaid'. A law counts once. -/
mutual
def uptoBulk {H : Type} : DataW H → Nat
  | .lit (.string bytes) => bytes.length + 1
  | .lit _ => 1
  | .nil => 1
  | .ptr d => uptoBulk d + 1
  | .slice elems spare => uptoBulkAll elems + uptoBulkAll spare + 1
  | .agg parts => uptoBulkAll parts + 1
  | .iface _ d => uptoBulk d + 1
  | .map entries => uptoBulkEntries entries + 1
  | .held _ => 1
def uptoBulkAll {H : Type} : List (DataW H) → Nat
  | [] => 0
  | d :: r => uptoBulk d + uptoBulkAll r
def uptoBulkEntries {H : Type} : List (Lit × DataW H) → Nat
  | [] => 0
  | x :: r => uptoBulkEntry x + uptoBulkEntries r
def uptoBulkEntry {H : Type} : Lit × DataW H → Nat
  | (.string bytes, d) => bytes.length + uptoBulk d + 1
  | (_, d) => uptoBulk d + 1
 end
def uptoSmall : (H : Type) → List (DataW H) → Bool := fun _ ds => decide (uptoBulkAll ds ≤ 1048576)
def OpenSpec.upto (s : _root_.Go.ChangeSpec) : _root_.Go.OpenSpec := { _root_.Go.OpenSpec.ofChange s with cond := some uptoSmall }

/-- 'sealringlaw.Names', WHERE WHAT IT READS IS OF BULK AT MOST 1048576: true; the input reads as it did. -/
def namesUptoRow : OpenClaim := { program := "ytjfiokicnacbfaa", sum := "117eeb48eb03aa75ecb5a3eae456bfb8d247c0d9a8e0ced5033853456d41ef5f", func := "sealring/sealringlaw.Names", spec := "names", apart := false, narrowed := true }
def NamesUptoSaid : Prop := namesUptoRow.holds Try.pinned (OpenSpec.upto namesSpec)

/-- 'sealringlaw.HallClashes', WHERE WHAT IT READS IS OF BULK AT MOST 1048576: true; the input reads as it did. -/
def hallClashesUptoRow : OpenClaim := { program := "ytjfiokicnacbfaa", sum := "117eeb48eb03aa75ecb5a3eae456bfb8d247c0d9a8e0ced5033853456d41ef5f", func := "sealring/sealringlaw.HallClashes", spec := "hallClashes", unfollowed := true, recurses := true, apart := false, narrowed := true }
def HallClashesUptoSaid : Prop := hallClashesUptoRow.holds Try.pinned (OpenSpec.upto hallClashesSpec)

/-- 'sealringlaw.DerWrites', WHERE WHAT IT READS IS OF BULK AT MOST 1048576: true; the input reads as it did. -/
def derWritesUptoRow : OpenClaim := { program := "ytjfiokicnacbfaa", sum := "117eeb48eb03aa75ecb5a3eae456bfb8d247c0d9a8e0ced5033853456d41ef5f", func := "sealring/sealringlaw.DerWrites", spec := "derWrites", apart := false, narrowed := true }
def DerWritesUptoSaid : Prop := derWritesUptoRow.holds Try.pinned (OpenSpec.upto derWritesSpec)

/-- 'sealringlaw.LimbHalves', WHERE WHAT IT READS IS OF BULK AT MOST 1048576: true; the input reads as it did. -/
def limbHalvesUptoRow : OpenClaim := { program := "ytjfiokicnacbfaa", sum := "117eeb48eb03aa75ecb5a3eae456bfb8d247c0d9a8e0ced5033853456d41ef5f", func := "sealring/sealringlaw.LimbHalves", spec := "limbHalves", apart := false, narrowed := true }
def LimbHalvesUptoSaid : Prop := limbHalvesUptoRow.holds Try.pinned (OpenSpec.upto limbHalvesSpec)

/-- 'sealringlaw.GfTells', WHERE WHAT IT READS IS OF BULK AT MOST 1048576: true; the input reads as it did. -/
def gfTellsUptoRow : OpenClaim := { program := "ytjfiokicnacbfaa", sum := "117eeb48eb03aa75ecb5a3eae456bfb8d247c0d9a8e0ced5033853456d41ef5f", func := "sealring/sealringlaw.GfTells", spec := "gfTells", apart := false, narrowed := true }
def GfTellsUptoSaid : Prop := gfTellsUptoRow.holds Try.pinned (OpenSpec.upto gfTellsSpec)

/-- 'sealringlaw.RuleSees', WHERE WHAT IT READS IS OF BULK AT MOST 1048576: true; the input reads as it did. -/
def ruleSeesUptoRow : OpenClaim := { program := "ytjfiokicnacbfaa", sum := "117eeb48eb03aa75ecb5a3eae456bfb8d247c0d9a8e0ced5033853456d41ef5f", func := "sealring/sealringlaw.RuleSees", spec := "ruleSees", unfollowed := true, recurses := true, apart := false, narrowed := true }
def RuleSeesUptoSaid : Prop := ruleSeesUptoRow.holds Try.pinned (OpenSpec.upto ruleSeesSpec)

/-- 'sealringlaw.DerReads', WHERE WHAT IT READS IS OF BULK AT MOST 1048576: true; the input reads as it did. -/
def derReadsUptoRow : OpenClaim := { program := "ytjfiokicnacbfaa", sum := "117eeb48eb03aa75ecb5a3eae456bfb8d247c0d9a8e0ced5033853456d41ef5f", func := "sealring/sealringlaw.DerReads", spec := "derReads", apart := false, narrowed := true }
def DerReadsUptoSaid : Prop := derReadsUptoRow.holds Try.pinned (OpenSpec.upto derReadsSpec)

/-- 'sealringlaw.QuotTells', WHERE WHAT IT READS IS OF BULK AT MOST 1048576: true; the input reads as it did. -/
def quotTellsUptoRow : OpenClaim := { program := "ytjfiokicnacbfaa", sum := "117eeb48eb03aa75ecb5a3eae456bfb8d247c0d9a8e0ced5033853456d41ef5f", func := "sealring/sealringlaw.QuotTells", spec := "quotTells", inPlace := ["math/bits.Sub64"], apart := false, narrowed := true }
def QuotTellsUptoSaid : Prop := quotTellsUptoRow.holds Try.pinned (OpenSpec.upto quotTellsSpec)

end Rows
end Go.Proofs.Ytjfiokicnacbfaa
