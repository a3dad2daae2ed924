/- RingTells: whatever is handed in, the law's function returns true, and what was handed in reads as it did. No conditions. -/
import Derived.Test.YtgdiokklfihfoaaRgK1
namespace Go.Proofs.Ytgdiokklfihfoaa.ringTells
open Go.ChangeShapes Go.WideShapes Go.ChangeAt Go.RowKit

theorem specIs {H : Type} (ds : List (DataW H)) (h : ds.length = 5) : Rows.ringTellsSpec.fn H ds = { results := [.lit (.bool true)], args := ds } :=
  match ds, h with | [_, _, _, _, _], _ => rfl

theorem readable : ∀ t ∈ Try.f5.params.toList, Try.prog.readableRec t = true ∧ t < Try.prog.types.size := by
  have h : (Try.f5.params.toList.all fun t => Try.prog.readableRec t && decide (t < Try.prog.types.size)) = true := by kernel_rfl
  intro t ht
  have := List.all_eq_true.1 h t ht
  simpa using this

set_option maxRecDepth 100000 in
theorem lifted (os : Os) (started : os.Started) (H : Type) (enc : TypeId × Value → H) :
    ReturnsInHanded {} Try.checked os 5 .any (Rows.ringTellsSpec.pre6 enc Try.prog Try.f5 Rows.ringTellsRow.domain false) (Rows.ringTellsSpec.post enc Try.prog Try.f5 false true false false) := by
  refine returnsInHanded_of_change_sized (C := Try.checked) own started (by kernel_rfl) Try.func5
    (ChangeSpec.witness6 (enc := enc) (C := Try.checked) false ⟨#[], #[.agg #[.int .u64 0, .int .u64 0, .int .u64 0, .int .u64 0], .agg #[.int .u64 0, .int .u64 0, .int .u64 0, .int .u64 0], .agg #[.int .u64 0, .int .u64 0, .int .u64 0, .int .u64 0], .agg #[.int .u64 0, .int .u64 0, .int .u64 0, .int .u64 0], .agg #[.int .u64 0, .int .u64 0, .int .u64 0, .int .u64 0, .int .u64 0, .int .u64 0, .int .u64 0, .int .u64 0]], []⟩ 10 (by kernel_rfl) (by kernel_rfl) (by kernel_rfl) (by kernel_rfl)) ?_
  intro W base args ds gs before hval0 hW _ hreach _
  refine law_run laidOut readable rfl (by rfl) Try.underlying4 specIs hW ?_
  have hval : ∀ (j : Nat) t v, Try.f5.params[j]? = some t → args[j]? = some v → Value.okWide Try.prog W .any base t v := hval0
  have hlt : ∀ p ∈ before, p.block < W.heap.size := fun p hp => hW.lt p hp
  obtain ⟨p, q, hA0, hV, rfl, -, -⟩ := hW
  have hA : DataW.TrodAll enc Try.prog W 0 (fun _ => true) true Try.f5.params.toList args.toList ds p := hA0
  rw [Try.params5] at hA hval
  clear hA0 hval0
  obtain ⟨v0, v1, v2, v3, v4, d0, d1, d2, d3, d4, p0, p1, p2, p3, p4, rfl, -⟩ := trodAll_five hA
  obtain ⟨fm, rfl, hm⟩ := val_arr (m := 18446744073709551616) (fun z hz => has_u64 hz) Try.underlying27 Try.underlying25 (by kernel_rfl) (by kernel_rfl) (hval 0 27 v0 rfl rfl)
  obtain ⟨fa, rfl, ha⟩ := val_arr (m := 18446744073709551616) (fun z hz => has_u64 hz) Try.underlying27 Try.underlying25 (by kernel_rfl) (by kernel_rfl) (hval 1 27 v1 rfl rfl)
  obtain ⟨fb, rfl, hb⟩ := val_arr (m := 18446744073709551616) (fun z hz => has_u64 hz) Try.underlying27 Try.underlying25 (by kernel_rfl) (by kernel_rfl) (hval 2 27 v2 rfl rfl)
  obtain ⟨fn, rfl, hn⟩ := val_arr (m := 18446744073709551616) (fun z hz => has_u64 hz) Try.underlying27 Try.underlying25 (by kernel_rfl) (by kernel_rfl) (hval 3 27 v3 rfl rfl)
  obtain ⟨fw, rfl, hw⟩ := val_arr (m := 18446744073709551616) (fun z hz => has_u64 hz) Try.underlying50 Try.underlying25 (by kernel_rfl) (by kernel_rfl) (hval 4 50 v4 rfl rfl)
  obtain ⟨kk, hkk⟩ : ∃ k, k = 64 * 8 := ⟨_, rfl⟩
  have h8 := wval_lt (k := 8) hw
  rw [← hkk] at h8
  have hw2 : wval fw 8 < 2 ^ kk := h8
  have h := ringTells (wval fm 4) (wval fa 4) (wval fb 4) (wval fn 4) (wval fw 8) kk W (wval_lt hm) (wval_lt ha) (wval_lt hb) (wval_lt hn) hkk hw2
  unfold numV wideV at h
  rw [arrK_congr (wd_wval hm), arrK_congr (wd_wval ha), arrK_congr (wd_wval hb), arrK_congr (wd_wval hn), arrK_congr (wd_wval hw)] at h
  exact h

theorem over : Rows.ringTellsRow.holds Try.pinned (OpenSpec.ofChange Rows.ringTellsSpec) :=
  OpenClaim.holds_of_wide 5 Try.f5 rfl rfl rfl rfl rfl rfl rfl ⟨rfl, rfl, rfl, rfl, rfl⟩ rfl rfl rfl rfl rfl (by kernel_rfl) Try.func5 (by kernel_rfl)
    (of_decide_eq_true (by kernel_rfl)) (by unfold Func.isWrapper; first | (rw [if_pos (by decide +kernel)]; kernel_rfl) | (rw [if_neg (by decide +kernel)]; exact ⟨rfl, rfl⟩))
    (fun os started H enc _ => lifted os started H enc)

theorem proved : Rows.RingTellsSaid := over
#print axioms proved
end Go.Proofs.Ytgdiokklfihfoaa.ringTells
