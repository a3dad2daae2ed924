/- ScalarTells: whatever is handed in, the law's function returns true, and what was handed in reads as it did: the card, its laid variables tied to the program's text. No conditions. -/
import Derived.Test.YtodcjeaannfbnaaDoorScK1
import Derived.Test.YtodcjeaannfbnaaDoorCards
import Derived.Test.YtodcjeaannfbnaaDoorTie
import Derived.SevenTiedAt
namespace Go.Proofs.YtodcjeaannfbnaaDoor.scalarTellsL
open Go.ChangeShapes Go.WideShapes Go.ChangeAt Go.RowKit

theorem specIs {H : Type} (ds : List (DataW H)) (h : ds.length = 5) : Rows.scalarTellsSpec.fn H ds = { results := [.lit (.bool true)], args := ds } :=
  match ds, h with | [_, _, _, _, _], _ => rfl

theorem readable : ∀ t ∈ Tryd.f5.params.toList, Tryd.prog.readableRec t = true ∧ t < Tryd.prog.types.size := by
  have h : (Tryd.f5.params.toList.all fun t => Tryd.prog.readableRec t && decide (t < Tryd.prog.types.size)) = true := by kernel_rfl
  intro t ht
  have := List.all_eq_true.1 h t ht
  simpa using this

set_option maxRecDepth 100000 in
theorem lifted (os : Os) (started : os.Started) (H : Type) (enc : TypeId × Value → H) :
    ReturnsInHanded {} Tryd.checked os 5 .any (fun w args => (Rows.scalarTellsSpec.pre enc Tryd.prog Tryd.f5 [] false w args ∧ laidMetH Tryd.prog laid2 w) ∧ sizedMet enc Tryd.prog Tryd.f5 (OpenSpec.ofChange Rows.scalarTellsSpec) false w args)
      (Rows.scalarTellsSpec.post enc Tryd.prog Tryd.f5 false true false false) := by
  refine returnsInHanded_of_change_and (C := Tryd.checked) (X := fun w _ => laidMetH Tryd.prog laid2 w) (fun _ _ _ hh h => h.of_heap hh) own started (by kernel_rfl) Tryd.func5
    (ChangeSpec.witness_shaped (enc := enc) (C := Tryd.checked) (os := os) (X := fun w _ => laidMetH Tryd.prog laid2 w) false (World.doorLaid Tryd.prog 400 os) #[.agg #[.int .u64 0, .int .u64 0, .int .u64 0, .int .u64 0], .agg #[.int .u64 0, .int .u64 0, .int .u64 0, .int .u64 0], .agg #[.int .u64 0, .int .u64 0, .int .u64 0, .int .u64 0, .int .u64 0, .int .u64 0, .int .u64 0, .int .u64 0], .int .u8 0, .slice none 0 0] 12 rfl (World.shaped_of_RefB (by kernel_rfl) (by kernel_rfl)) (by kernel_rfl) (by kernel_rfl) (by kernel_rfl) (door_met os _)) ?_
  intro W base args ds gs before hval0 hW _ hreach hlaid _
  refine law_run laidOut readable rfl (by rfl) Tryd.underlying4 specIs hW ?_
  have hT := of_laid hlaid
  have hval : ∀ (j : Nat) t v, Tryd.f5.params[j]? = some t → args[j]? = some v → Value.okWide Tryd.prog W .any base t v := hval0
  obtain ⟨p, q, hA0, hV, rfl, -, -⟩ := hW
  obtain ⟨rfl, rfl⟩ := trodVars_none hV
  have hA : DataW.TrodAll enc Tryd.prog W 0 (fun _ => true) true Tryd.f5.params.toList args.toList ds p := hA0
  have hreach' : (DataW.weightsEach Tryd.prog (Tryd.f5.params.toList ++ []) (ds ++ [])).all (· ≤ reachBytes) = true := hreach
  rw [List.append_nil, List.append_nil] at hreach'
  rw [Tryd.params5] at hA hval hreach'
  clear hA0 hval0 hreach
  obtain ⟨v0, v1, v2, v3, v4, d0, d1, d2, d3, d4, p0, p1, p2, p3, p4, rfl, rfl, rfl, h0, h1, h2, h3, h4⟩ := trodAll_five hA
  obtain ⟨fa, rfl, ha⟩ := val_arr (m := 18446744073709551616) (fun z hz => has_u64 hz) Tryd.underlying41 Tryd.underlying39 (by kernel_rfl) (by kernel_rfl) (hval 0 41 v0 rfl rfl)
  obtain ⟨fb, rfl, hb⟩ := val_arr (m := 18446744073709551616) (fun z hz => has_u64 hz) Tryd.underlying41 Tryd.underlying39 (by kernel_rfl) (by kernel_rfl) (hval 1 41 v1 rfl rfl)
  obtain ⟨fw, rfl, hw⟩ := val_arr (m := 18446744073709551616) (fun z hz => has_u64 hz) Tryd.underlying54 Tryd.underlying39 (by kernel_rfl) (by kernel_rfl) (hval 2 54 v2 rfl rfl)
  obtain ⟨nb, rfl, hnb⟩ := val_u8 Tryd.underlying5 (hval 3 5 v3 rfl rfl)
  obtain ⟨a4, n4, c4, rfl⟩ := okWide_slice Tryd.underlying22 (hval 4 22 v4 rfl rfl)
  obtain ⟨fu4, hf4⟩ := h4
  obtain ⟨A, l, c, e4, hr4, hl4, hm4⟩ := open_bytes_wt Tryd.underlying22 Tryd.underlying5 (by kernel_rfl) (by kernel_rfl) hf4 (wt_top hreach' (j := 4) rfl rfl)
  rw [e4]
  obtain ⟨kk, hkk⟩ : ∃ k, k = 64 * 8 := ⟨_, rfl⟩
  have h8 := wval_lt (k := 8) hw
  rw [← hkk] at h8
  have hw2 : wval fw 8 < 2 ^ kk := h8
  have hlb : ((UInt8.ofNat nb).toNat : Int) = (nb : Int) := by rw [UInt8.toNat_ofNat']; omega
  have h := scalarTells K0 (wval fa 4) (wval fb 4) (wval fw 8) (UInt8.ofNat nb) A l l.length c W (wval_lt ha) (wval_lt hb) kk hkk hw2 rfl hT ⟨hr4, hl4, by omega⟩ (by omega)
  unfold numV wideV at h
  rw [arrK_congr (wd_wval ha), arrK_congr (wd_wval hb), arrK_congr (wd_wval hw), hlb] at h
  exact h

theorem over : Rows.scalarTellsRow.holds Tryd.pinned (OpenSpec.ofChange Rows.scalarTellsSpec) :=
  OpenClaim.holds_of_wide 5 Tryd.f5 rfl rfl rfl rfl rfl rfl rfl ⟨rfl, rfl, rfl, rfl, rfl⟩ rfl rfl rfl rfl rfl (by kernel_rfl) Tryd.func5 (by kernel_rfl)
    (of_decide_eq_true (by kernel_rfl)) (by unfold Func.isWrapper; first | (rw [if_pos (by decide +kernel)]; kernel_rfl) | (rw [if_neg (by decide +kernel)]; exact ⟨rfl, rfl⟩))
    (fun os started H enc _ => lifted os started H enc)

theorem proved : Rows.ScalarTellsCardSaid :=
  Claim7.holds_tied_plain_at .later [] [.data, .data] true Rows.scalarTellsCard.stood.harness false
    over (fun _ h => by cases h) (by kernel_rfl) (fun _ h => by cases h) scalarTells_row_tie rfl ⟨rfl, rfl⟩ (by kernel_rfl) rfl
    (fun f fn hf hfn => by
      obtain rfl : f = 5 := Option.some.inj ((show Tryd.prog.funcNamed "sealring/sealringlaw.ScalarTells" = some 5 by kernel_rfl).symm.trans hf) |>.symm
      obtain rfl : fn = Tryd.f5 := (Option.some.inj (Tryd.func5.symm.trans hfn)).symm
      exact ⟨by kernel_rfl, fun j t ht => by
        have hm : t ∈ Tryd.f5.params.toList := Array.mem_toList_iff.2 (Array.mem_of_getElem? ht)
        have hall : (Tryd.f5.params.toList.all fun u => !Tryd.prog.wantsStandIn u) = true := by kernel_rfl
        exact (show Tryd.prog.wantsStandIn t = false by simpa using List.all_eq_true.1 hall t hm)⟩)
    (by kernel_rfl)
#print axioms proved
end Go.Proofs.YtodcjeaannfbnaaDoor.scalarTellsL
