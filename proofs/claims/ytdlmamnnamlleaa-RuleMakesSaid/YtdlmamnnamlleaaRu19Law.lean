/- RuleMakes: whatever is handed in, the law's function returns true, and what was handed in reads as it did. No conditions. -/
import Derived.Test.YtdlmamnnamlleaaRu19
import Derived.Test.YtdlmamnnamlleaaRuO
namespace Go.Proofs.Ytdlmamnnamlleaa.ruleMakes
open Go.ChangeShapes Go.WideShapes Go.ChangeAt Go.RowKit

theorem specIs {H : Type} (ds : List (DataW H)) (h : ds.length = 3) : Rows.ruleMakesSpec.fn H ds = { results := [.lit (.bool true)], args := ds } :=
  match ds, h with | [_, _, _], _ => rfl

theorem readable : ∀ t ∈ Try.f4.params.toList, Try.prog.readableRec t = true ∧ t < Try.prog.types.size := by
  have h : (Try.f4.params.toList.all fun t => Try.prog.readableRec t && decide (t < Try.prog.types.size)) = true := by kernel_rfl
  intro t ht
  have := List.all_eq_true.1 h t ht
  simpa using this

set_option maxRecDepth 100000 in
theorem lifted (os : Os) (started : os.Started) (H : Type) (enc : TypeId × Value → H) :
    ReturnsInHanded {} Try.checked os 4 .any (Rows.ruleMakesSpec.pre6 enc Try.prog Try.f4 Rows.ruleMakesRow.domain false) (Rows.ruleMakesSpec.post enc Try.prog Try.f4 false true false false) := by
  refine returnsInHanded_of_change_sized (C := Try.checked) own started (by kernel_rfl) Try.func4
    (ChangeSpec.witness6 (enc := enc) (C := Try.checked) false ⟨#[], #[.int .u8 0, .slice none 0 0, .bool false], []⟩ 8 (by kernel_rfl) (by kernel_rfl) (by kernel_rfl) (by kernel_rfl)) ?_
  intro W base args ds gs before hval0 hW _ hreach _
  refine law_run laidOut readable rfl (by rfl) Try.underlying4 specIs hW ?_
  have hval : ∀ (j : Nat) t v, Try.f4.params[j]? = some t → args[j]? = some v → Value.okWide Try.prog W .any base t v := hval0
  have hlt : ∀ p ∈ before, p.block < W.heap.size := fun p hp => hW.lt p hp
  obtain ⟨p, q, hA0, hV, rfl, -, -⟩ := hW
  have hA : DataW.TrodAll enc Try.prog W 0 (fun _ => true) true Try.f4.params.toList args.toList ds p := hA0
  rw [Try.params4] at hA hval
  clear hA0 hval0
  obtain ⟨v0, v1, v2, d0, d1, d2, p0, p1, p2, rfl, rfl, rfl, h0, h1, h2⟩ := trodAll_three hA
  obtain ⟨cl, rfl, hcl⟩ := val_u8 Try.underlying5 (hval 0 5 v0 rfl rfl)
  obtain ⟨loc, rfl⟩ := okWide_bool Try.underlying4 (hval 2 4 v2 rfl rfl)
  have hw : Wt Try.prog 32 d1 := wt_top hreach (j := 1) (by rw [Try.params4]; rfl) rfl
  obtain ⟨A, l, c, rfl, hI, hn, hlc, hcm⟩ := open_attrsC (hval 1 32 v1 rfl rfl) h1 hw
  exact ruleMakes cl hcl A l c loc W hI hn hlc hcm

theorem over : Rows.ruleMakesRow.holds Try.pinned (OpenSpec.ofChange Rows.ruleMakesSpec) :=
  OpenClaim.holds_of_wide 4 Try.f4 rfl rfl rfl rfl rfl rfl rfl ⟨rfl, rfl, rfl, rfl, rfl⟩ rfl rfl rfl rfl rfl (by kernel_rfl) Try.func4 (by kernel_rfl)
    (of_decide_eq_true (by kernel_rfl)) (by unfold Func.isWrapper; first | (rw [if_pos (by decide +kernel)]; kernel_rfl) | (rw [if_neg (by decide +kernel)]; exact ⟨rfl, rfl⟩))
    (fun os started H enc _ => lifted os started H enc)

theorem proved : Rows.RuleMakesSaid := over
#print axioms proved
end Go.Proofs.Ytdlmamnnamlleaa.ruleMakes
