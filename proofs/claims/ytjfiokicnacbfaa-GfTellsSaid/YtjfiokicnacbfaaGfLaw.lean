/- GfTells: whatever is handed in, the law's function returns true, and what was handed in reads as it did. No conditions. -/
import Derived.Test.YtjfiokicnacbfaaGfL
import Derived.Test.YtjfiokicnacbfaaArgs
namespace Go.Proofs.Ytjfiokicnacbfaa.gfTells
open Go.ChangeShapes Go.WideShapes Go.ChangeAt Go.RowKit

theorem specIs {H : Type} (ds : List (DataW H)) (h : ds.length = 4) : Rows.gfTellsSpec.fn H ds = { results := [.lit (.bool true)], args := ds } :=
  match ds, h with | [_, _, _, _], _ => rfl

theorem readable : ∀ t ∈ Try.f7.params.toList, Try.prog.readableRec t = true ∧ t < Try.prog.types.size := by
  have h : (Try.f7.params.toList.all fun t => Try.prog.readableRec t && decide (t < Try.prog.types.size)) = true := by kernel_rfl
  intro t ht
  have := List.all_eq_true.1 h t ht
  simpa using this

set_option maxRecDepth 100000 in
theorem lifted (os : Os) (started : os.Started) (H : Type) (enc : TypeId × Value → H) :
    ReturnsInHanded {} Try.checked os 7 .any (Rows.gfTellsSpec.pre6 enc Try.prog Try.f7 Rows.gfTellsRow.domain false) (Rows.gfTellsSpec.post enc Try.prog Try.f7 false true false false) := by
  refine returnsInHanded_of_change_sized (C := Try.checked) own started (by kernel_rfl) Try.func7
    (ChangeSpec.witness6 (enc := enc) (C := Try.checked) false ⟨#[], #[.int .u8 0, .int .u8 0, .int .u64 0, .agg #[.int .u8 0, .int .u8 0, .int .u8 0, .int .u8 0]], []⟩ 8 (by kernel_rfl) (by kernel_rfl) (by kernel_rfl) (by kernel_rfl)) ?_
  intro W base args ds gs before hval0 hW _ hreach _
  refine law_run laidOut readable rfl (by rfl) Try.underlying4 specIs hW ?_
  have hval : ∀ (j : Nat) t v, Try.f7.params[j]? = some t → args[j]? = some v → Value.okWide Try.prog W .any base t v := hval0
  have hlt : ∀ p ∈ before, p.block < W.heap.size := fun p hp => hW.lt p hp
  obtain ⟨p, q, hA0, hV, rfl, -, -⟩ := hW
  have hA : DataW.TrodAll enc Try.prog W 0 (fun _ => true) true Try.f7.params.toList args.toList ds p := hA0
  rw [Try.params7] at hA hval
  clear hA0 hval0
  obtain ⟨v0, v1, v2, v3, d0, d1, d2, d3, p0, p1, p2, p3, rfl, rfl, rfl, h0, h1, h2, h3⟩ := trodAll_four hA
  obtain ⟨a, rfl, ha⟩ := val_u8 Try.underlying5 (hval 0 5 v0 rfl rfl)
  obtain ⟨b, rfl, hb⟩ := val_u8 Try.underlying5 (hval 1 5 v1 rfl rfl)
  obtain ⟨n, rfl, hn⟩ := val_u64 Try.underlying57 (hval 2 57 v2 rfl rfl)
  obtain ⟨c, rfl, hc⟩ := val_arr (m := 256) (fun z hz => has_u8 hz) Try.underlying58 Try.underlying5 (by kernel_rfl) (by kernel_rfl) (hval 3 58 v3 rfl rfl)
  rw [← arr8_arrK]
  exact gfTells a b n c W ha hb hn hc

theorem over : Rows.gfTellsRow.holds Try.pinned (OpenSpec.ofChange Rows.gfTellsSpec) :=
  OpenClaim.holds_of_wide 7 Try.f7 rfl rfl rfl rfl rfl rfl rfl ⟨rfl, rfl, rfl, rfl, rfl⟩ rfl rfl rfl rfl rfl (by kernel_rfl) Try.func7 (by kernel_rfl)
    (of_decide_eq_true (by kernel_rfl)) (by unfold Func.isWrapper; first | (rw [if_pos (by decide +kernel)]; kernel_rfl) | (rw [if_neg (by decide +kernel)]; exact ⟨rfl, rfl⟩))
    (fun os started H enc _ => lifted os started H enc)

theorem proved : Rows.GfTellsSaid := over
#print axioms proved
end Go.Proofs.Ytjfiokicnacbfaa.gfTells
