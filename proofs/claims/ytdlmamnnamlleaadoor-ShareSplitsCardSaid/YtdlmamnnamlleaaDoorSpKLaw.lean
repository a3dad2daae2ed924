/- ShareSplits: whatever is handed in, the law's function returns true, and what was handed in reads as it did: the card, its laid variables tied to the program's text. No conditions. -/
import Derived.Test.YtdlmamnnamlleaaDoorSpK3
import Derived.Test.YtdlmamnnamlleaaDoorCards
import Derived.Test.YtdlmamnnamlleaaDoorTie
import Derived.SevenTiedAt
namespace Go.Proofs.YtdlmamnnamlleaaDoor.shareSplits
open Go.ChangeShapes Go.WideShapes Go.ChangeAt Go.RowKit

theorem specIs {H : Type} (ds : List (DataW H)) (h : ds.length = 4) : Rows.shareSplitsSpec.fn H ds = { results := [.lit (.bool true)], args := ds } :=
  match ds, h with | [_, _, _, _], _ => rfl

theorem readable : ∀ t ∈ Tryd.f6.params.toList, Tryd.prog.readableRec t = true ∧ t < Tryd.prog.types.size := by
  have h : (Tryd.f6.params.toList.all fun t => Tryd.prog.readableRec t && decide (t < Tryd.prog.types.size)) = true := by kernel_rfl
  intro t ht
  have := List.all_eq_true.1 h t ht
  simpa using this

set_option maxRecDepth 100000 in
theorem lifted (os : Os) (started : os.Started) (H : Type) (enc : TypeId × Value → H) :
    ReturnsInHanded {} Tryd.checked os 6 .any (fun w args => (Rows.shareSplitsSpec.pre enc Tryd.prog Tryd.f6 [] false w args ∧ laidMetH Tryd.prog laid2 w) ∧ sizedMet enc Tryd.prog Tryd.f6 (OpenSpec.ofChange Rows.shareSplitsSpec) false w args)
      (Rows.shareSplitsSpec.post enc Tryd.prog Tryd.f6 false true false false) := by
  refine returnsInHanded_of_change_and (C := Tryd.checked) (X := fun w _ => laidMetH Tryd.prog laid2 w) (fun _ _ _ hh h => h.of_heap hh) own started (by kernel_rfl) Tryd.func6
    (ChangeSpec.witness_shaped (enc := enc) (C := Tryd.checked) (os := os) (X := fun w _ => laidMetH Tryd.prog laid2 w) false (World.doorLaid Tryd.prog 400 os) #[.agg #[.int .u64 0, .int .u64 0, .int .u64 0, .int .u64 0], .int .i64 0, .int .i64 0, .slice none 0 0] 10 rfl (World.shaped_of_RefB (by kernel_rfl) (by kernel_rfl)) (by kernel_rfl) (by kernel_rfl) (by kernel_rfl) (door_met os _)) ?_
  intro W base args ds gs before hval0 hW _ hreach hlaid _
  refine law_run laidOut readable rfl (by rfl) Tryd.underlying4 specIs hW ?_
  have hT := of_laid hlaid
  have hval : ∀ (j : Nat) t v, Tryd.f6.params[j]? = some t → args[j]? = some v → Value.okWide Tryd.prog W .any base t v := hval0
  obtain ⟨p, q, hA0, hV, rfl, -, -⟩ := hW
  obtain ⟨rfl, rfl⟩ := trodVars_none hV
  have hA : DataW.TrodAll enc Tryd.prog W 0 (fun _ => true) true Tryd.f6.params.toList args.toList ds p := hA0
  have hreach' : (DataW.weightsEach Tryd.prog (Tryd.f6.params.toList ++ []) (ds ++ [])).all (· ≤ reachBytes) = true := hreach
  rw [List.append_nil, List.append_nil] at hreach'
  rw [Tryd.params6] at hA hval hreach'
  clear hA0 hval0 hreach
  obtain ⟨v0, v1, v2, v3, d0, d1, d2, d3, p0, p1, p2, p3, rfl, rfl, rfl, h0, h1, h2, h3⟩ := trodAll_four hA
  obtain ⟨fa, rfl, ha⟩ := val_arr (m := 18446744073709551616) (fun z hz => has_u64 hz) Tryd.underlying41 Tryd.underlying39 (by kernel_rfl) (by kernel_rfl) (hval 0 41 v0 rfl rfl)
  obtain ⟨k, rfl, hk⟩ := val_i64 Tryd.underlying3 (hval 1 3 v1 rfl rfl)
  obtain ⟨n, rfl, hn⟩ := val_i64 Tryd.underlying3 (hval 2 3 v2 rfl rfl)
  obtain ⟨a3, n3, c3, rfl⟩ := okWide_slice Tryd.underlying22 (hval 3 22 v3 rfl rfl)
  obtain ⟨fu3, hf3⟩ := h3
  obtain ⟨A, l, c, e3, hr3, hl3, hm3⟩ := open_bytes_wt Tryd.underlying22 Tryd.underlying5 (by kernel_rfl) (by kernel_rfl) hf3 (wt_top hreach' (j := 3) rfl rfl)
  rw [e3]
  have h := shareSplits_true K0 A l c (wval fa 4) k n W hT ⟨hr3, hl3, by omega⟩ (by omega) (wval_lt ha) hk hn
  unfold numV at h
  rw [arrK_congr (wd_wval ha)] at h
  exact h

theorem over : Rows.shareSplitsRow.holds Tryd.pinned (OpenSpec.ofChange Rows.shareSplitsSpec) :=
  OpenClaim.holds_of_wide 6 Tryd.f6 rfl rfl rfl rfl rfl rfl rfl ⟨rfl, rfl, rfl, rfl, rfl⟩ rfl rfl rfl rfl rfl (by kernel_rfl) Tryd.func6 (by kernel_rfl)
    (of_decide_eq_true (by kernel_rfl)) (by unfold Func.isWrapper; first | (rw [if_pos (by decide +kernel)]; kernel_rfl) | (rw [if_neg (by decide +kernel)]; exact ⟨rfl, rfl⟩))
    (fun os started H enc _ => lifted os started H enc)

theorem proved : Rows.ShareSplitsCardSaid :=
  Claim7.holds_tied_plain_at .later [] [.data, .data] true Rows.shareSplitsCard.stood.harness false
    over (fun _ h => by cases h) (by kernel_rfl) (fun _ h => by cases h) shareSplits_row_tie rfl ⟨rfl, rfl⟩ (by kernel_rfl) rfl
    (fun f fn hf hfn => by
      obtain rfl : f = 6 := Option.some.inj ((show Tryd.prog.funcNamed "sealring/sealringlaw.ShareSplits" = some 6 by kernel_rfl).symm.trans hf) |>.symm
      obtain rfl : fn = Tryd.f6 := (Option.some.inj (Tryd.func6.symm.trans hfn)).symm
      exact ⟨by kernel_rfl, fun j t ht => by
        have hm : t ∈ Tryd.f6.params.toList := Array.mem_toList_iff.2 (Array.mem_of_getElem? ht)
        have hall : (Tryd.f6.params.toList.all fun u => !Tryd.prog.wantsStandIn u) = true := by kernel_rfl
        exact (show Tryd.prog.wantsStandIn t = false by simpa using List.all_eq_true.1 hall t hm)⟩)
    (by kernel_rfl)
#print axioms proved
end Go.Proofs.YtdlmamnnamlleaaDoor.shareSplits
