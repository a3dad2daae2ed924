/- RuleChanges: whatever is handed in, the law's function returns true, and what was handed in reads as it did. No conditions. -/
import Derived.Test.YtdlmamnnamlleaaCh8
import Derived.Test.YtdlmamnnamlleaaRuO
namespace Go.Proofs.Ytdlmamnnamlleaa.ruleChanges
open Go.ChangeShapes Go.WideShapes Go.ChangeAt Go.RowKit

theorem specIs {H : Type} (ds : List (DataW H)) (h : ds.length = 2) : Rows.ruleChangesSpec.fn H ds = { results := [.lit (.bool true)], args := ds } :=
  match ds, h with | [_, _], _ => rfl

theorem readable : ∀ t ∈ Try.f10.params.toList, Try.prog.readableRec t = true ∧ t < Try.prog.types.size := by
  have h : (Try.f10.params.toList.all fun t => Try.prog.readableRec t && decide (t < Try.prog.types.size)) = true := by kernel_rfl
  intro t ht
  have := List.all_eq_true.1 h t ht
  simpa using this

set_option maxRecDepth 100000 in
theorem lifted (os : Os) (started : os.Started) (H : Type) (enc : TypeId × Value → H) :
    ReturnsInHanded {} Try.checked os 10 .any (Rows.ruleChangesSpec.pre6 enc Try.prog Try.f10 Rows.ruleChangesRow.domain false) (Rows.ruleChangesSpec.post enc Try.prog Try.f10 false true false false) := by
  refine returnsInHanded_of_change_sized (C := Try.checked) own started (by kernel_rfl) Try.func10
    (ChangeSpec.witness6 (enc := enc) (C := Try.checked) false ⟨#[], #[.slice none 0 0, .slice none 0 0], []⟩ 8 (by kernel_rfl) (by kernel_rfl) (by kernel_rfl) (by kernel_rfl)) ?_
  intro W base args ds gs before hval0 hW _ hreach _
  refine law_run laidOut readable rfl (by rfl) Try.underlying4 specIs hW ?_
  have hval : ∀ (j : Nat) t v, Try.f10.params[j]? = some t → args[j]? = some v → Value.okWide Try.prog W .any base t v := hval0
  have hlt : ∀ p ∈ before, p.block < W.heap.size := fun p hp => hW.lt p hp
  obtain ⟨p, q, hA0, hV, rfl, -, -⟩ := hW
  have hA : DataW.TrodAll enc Try.prog W 0 (fun _ => true) true Try.f10.params.toList args.toList ds p := hA0
  rw [Try.params10] at hA hval
  clear hA0 hval0
  obtain ⟨v0, v1, d0, d1, p0, p1, rfl, rfl, rfl, h0, h1⟩ := trodAll_two hA
  have hw0 : Wt Try.prog 32 d0 := wt_top hreach (j := 0) (by rw [Try.params10]; rfl) rfl
  have hw1 : Wt Try.prog 32 d1 := wt_top hreach (j := 1) (by rw [Try.params10]; rfl) rfl
  obtain ⟨A1, l, c1, rfl, hI1, hn1, hlc1, hcm1⟩ := open_attrsC (hval 0 32 v0 rfl rfl) h0 hw0
  obtain ⟨A2, m, c2, rfl, hI2, hn2, hlc2, hcm2⟩ := open_attrsC (hval 1 32 v1 rfl rfl) h1 hw1
  exact ruleChanges A1 A2 l m c1 c2 W hI1 hI2 hn1 hn2 hlc1 hcm1 hlc2 hcm2

theorem over : Rows.ruleChangesRow.holds Try.pinned (OpenSpec.ofChange Rows.ruleChangesSpec) :=
  OpenClaim.holds_of_wide 10 Try.f10 rfl rfl rfl rfl rfl rfl rfl ⟨rfl, rfl, rfl, rfl, rfl⟩ rfl rfl rfl rfl rfl (by kernel_rfl) Try.func10 (by kernel_rfl)
    (of_decide_eq_true (by kernel_rfl)) (by unfold Func.isWrapper; first | (rw [if_pos (by decide +kernel)]; kernel_rfl) | (rw [if_neg (by decide +kernel)]; exact ⟨rfl, rfl⟩))
    (fun os started H enc _ => lifted os started H enc)

theorem proved : Rows.RuleChangesSaid := over
#print axioms proved
end Go.Proofs.Ytdlmamnnamlleaa.ruleChanges
