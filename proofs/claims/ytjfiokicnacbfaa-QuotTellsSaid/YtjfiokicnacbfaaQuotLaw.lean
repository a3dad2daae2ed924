/- QuotTells: whatever is handed in, the law's function returns true, and what was handed in reads as it did. No conditions. -/
import Derived.Test.YtjfiokicnacbfaaQuotL
import Derived.Test.YtjfiokicnacbfaaArgs
namespace Go.Proofs.Ytjfiokicnacbfaa.quotTells
open Go.ChangeShapes Go.WideShapes Go.ChangeAt Go.RowKit

theorem specIs {H : Type} (ds : List (DataW H)) (h : ds.length = 3) : Rows.quotTellsSpec.fn H ds = { results := [.lit (.bool true)], args := ds } :=
  match ds, h with | [_, _, _], _ => rfl

theorem readable : ∀ t ∈ Try.f10.params.toList, Try.prog.readableRec t = true ∧ t < Try.prog.types.size := by
  have h : (Try.f10.params.toList.all fun t => Try.prog.readableRec t && decide (t < Try.prog.types.size)) = true := by kernel_rfl
  intro t ht
  have := List.all_eq_true.1 h t ht
  simpa using this

set_option maxRecDepth 100000 in
theorem lifted (os : Os) (started : os.Started) (H : Type) (enc : TypeId × Value → H) :
    ReturnsInHanded {} Try.checked os 10 .any (Rows.quotTellsSpec.pre6 enc Try.prog Try.f10 Rows.quotTellsRow.domain false) (Rows.quotTellsSpec.post enc Try.prog Try.f10 false true false false) := by
  refine returnsInHanded_of_change_sized (C := Try.checked) own started (by kernel_rfl) Try.func10
    (ChangeSpec.witness6 (enc := enc) (C := Try.checked) false ⟨#[], #[.agg #[.int .u64 0, .int .u64 0, .int .u64 0, .int .u64 0, .int .u64 0, .int .u64 0, .int .u64 0, .int .u64 0], .agg #[.int .u64 0, .int .u64 0, .int .u64 0, .int .u64 0], .agg #[.int .u64 0, .int .u64 0, .int .u64 0, .int .u64 0]], []⟩ 10 (by kernel_rfl) (by kernel_rfl) (by kernel_rfl) (by kernel_rfl)) ?_
  intro W base args ds gs before hval0 hW _ hreach _
  refine law_run laidOut readable rfl (by rfl) Try.underlying4 specIs hW ?_
  have hval : ∀ (j : Nat) t v, Try.f10.params[j]? = some t → args[j]? = some v → Value.okWide Try.prog W .any base t v := hval0
  have hlt : ∀ p ∈ before, p.block < W.heap.size := fun p hp => hW.lt p hp
  obtain ⟨p, q, hA0, hV, rfl, -, -⟩ := hW
  have hA : DataW.TrodAll enc Try.prog W 0 (fun _ => true) true Try.f10.params.toList args.toList ds p := hA0
  rw [Try.params10] at hA hval
  clear hA0 hval0
  obtain ⟨v0, v1, v2, d0, d1, d2, p0, p1, p2, rfl, rfl, rfl, h0, h1, h2⟩ := trodAll_three hA
  obtain ⟨fa, rfl, ha⟩ := val_arr (m := 18446744073709551616) (fun z hz => has_u64 hz) Try.underlying48 Try.underlying40 (by kernel_rfl) (by kernel_rfl) (hval 0 48 v0 rfl rfl)
  obtain ⟨fm, rfl, hm⟩ := val_arr (m := 18446744073709551616) (fun z hz => has_u64 hz) Try.underlying42 Try.underlying40 (by kernel_rfl) (by kernel_rfl) (hval 1 42 v1 rfl rfl)
  obtain ⟨fb, rfl, hb⟩ := val_arr (m := 18446744073709551616) (fun z hz => has_u64 hz) Try.underlying42 Try.underlying40 (by kernel_rfl) (by kernel_rfl) (hval 2 42 v2 rfl rfl)
  have e1 := wval_lt ha
  have e2 := wval_lt hm
  have e3 := wval_lt hb
  have h := quotTells (wval fa 8) (wval fm 4) (wval fb 4) W e1 e2 e3
  unfold numV wideV at h
  rw [arrK_congr (wd_wval ha), arrK_congr (wd_wval hm), arrK_congr (wd_wval hb)] at h
  exact h

theorem over : Rows.quotTellsRow.holds Try.pinned (OpenSpec.ofChange Rows.quotTellsSpec) :=
  OpenClaim.holds_of_wide 10 Try.f10 rfl rfl rfl rfl rfl rfl rfl ⟨rfl, rfl, rfl, rfl, rfl⟩ rfl rfl rfl rfl rfl (by kernel_rfl) Try.func10 (by kernel_rfl)
    (of_decide_eq_true (by kernel_rfl)) (by unfold Func.isWrapper; first | (rw [if_pos (by decide +kernel)]; kernel_rfl) | (rw [if_neg (by decide +kernel)]; exact ⟨rfl, rfl⟩))
    (fun os started H enc _ => lifted os started H enc)

theorem proved : Rows.QuotTellsSaid := over
#print axioms proved
end Go.Proofs.Ytjfiokicnacbfaa.quotTells
