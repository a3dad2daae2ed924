/- TreeTells: whatever is handed in, the law's function returns true, and what was handed in reads as it did: the card, its laid variables tied to the program's text. No conditions. -/
import Derived.Test.YtjihklaocgmlpaaDoorTreeT
import Derived.Test.YtjihklaocgmlpaaDoorDoor
import Derived.Test.YtjihklaocgmlpaaDoorFive
import Derived.Test.YtjihklaocgmlpaaDoorCards
import Derived.Test.YtjihklaocgmlpaaDoorTie
import Derived.SevenTiedAt
namespace Go.Proofs.YtjihklaocgmlpaaDoor.treeTells
open Go.ChangeShapes Go.WideShapes Go.ChangeAt Go.RowKit

theorem specIs {H : Type} (ds : List (DataW H)) (h : ds.length = 5) : Rows.treeTellsSpec.fn H ds = { results := [.lit (.bool true)], args := ds } :=
  match ds, h with | [_, _, _, _, _], _ => rfl

theorem readable : ∀ t ∈ Tryd.f4.params.toList, Tryd.prog.readableRec t = true ∧ t < Tryd.prog.types.size := by
  have h : (Tryd.f4.params.toList.all fun t => Tryd.prog.readableRec t && decide (t < Tryd.prog.types.size)) = true := by kernel_rfl
  intro t ht
  have := List.all_eq_true.1 h t ht
  simpa using this

set_option maxRecDepth 100000 in
theorem lifted (os : Os) (started : os.Started) (H : Type) (enc : TypeId × Value → H) :
    ReturnsInHanded {} Tryd.checked os 4 .any (fun w args => (Rows.treeTellsSpec.pre enc Tryd.prog Tryd.f4 [] false w args ∧ laidMetH Tryd.prog laid2 w) ∧ sizedMet enc Tryd.prog Tryd.f4 (OpenSpec.ofChange Rows.treeTellsSpec) false w args)
      (Rows.treeTellsSpec.post enc Tryd.prog Tryd.f4 false true false false) := by
  refine returnsInHanded_of_change_and (C := Tryd.checked) (X := fun w _ => laidMetH Tryd.prog laid2 w) (fun _ _ _ hh h => h.of_heap hh) own started (by kernel_rfl) Tryd.func4
    (ChangeSpec.witness_shaped (enc := enc) (C := Tryd.checked) (os := os) (X := fun w _ => laidMetH Tryd.prog laid2 w) false (World.doorLaid Tryd.prog 400 os) #[.slice none 0 0, .int .i64 0, .slice none 0 0, .agg #[.int .u8 0, .int .u8 0, .int .u8 0, .int .u8 0, .int .u8 0, .int .u8 0, .int .u8 0, .int .u8 0, .int .u8 0, .int .u8 0, .int .u8 0, .int .u8 0, .int .u8 0, .int .u8 0, .int .u8 0, .int .u8 0, .int .u8 0, .int .u8 0, .int .u8 0, .int .u8 0, .int .u8 0, .int .u8 0, .int .u8 0, .int .u8 0, .int .u8 0, .int .u8 0, .int .u8 0, .int .u8 0, .int .u8 0, .int .u8 0, .int .u8 0, .int .u8 0], .agg #[.int .u8 0, .int .u8 0, .int .u8 0, .int .u8 0, .int .u8 0, .int .u8 0, .int .u8 0, .int .u8 0, .int .u8 0, .int .u8 0, .int .u8 0, .int .u8 0, .int .u8 0, .int .u8 0, .int .u8 0, .int .u8 0, .int .u8 0, .int .u8 0, .int .u8 0, .int .u8 0, .int .u8 0, .int .u8 0, .int .u8 0, .int .u8 0, .int .u8 0, .int .u8 0, .int .u8 0, .int .u8 0, .int .u8 0, .int .u8 0, .int .u8 0, .int .u8 0]] 8 rfl (World.shaped_of_RefB (by kernel_rfl) (by kernel_rfl)) (by kernel_rfl) (by kernel_rfl) (by kernel_rfl) (door_met os _)) ?_
  intro W base args ds gs before hval0 hW _ hreach hlaid _
  refine law_run laidOut readable rfl (by rfl) Tryd.underlying4 specIs hW ?_
  have hT := of_laid hlaid
  have hval : ∀ (j : Nat) t v, Tryd.f4.params[j]? = some t → args[j]? = some v → Value.okWide Tryd.prog W .any base t v := hval0
  obtain ⟨p, q, hA0, hV, rfl, -, -⟩ := hW
  obtain ⟨rfl, rfl⟩ := trodVars_none hV
  have hA : DataW.TrodAll enc Tryd.prog W 0 (fun _ => true) true Tryd.f4.params.toList args.toList ds p := hA0
  have hreach' : (DataW.weightsEach Tryd.prog (Tryd.f4.params.toList ++ []) (ds ++ [])).all (· ≤ reachBytes) = true := hreach
  rw [List.append_nil, List.append_nil] at hreach'
  rw [Tryd.params4] at hA hval hreach'
  clear hA0 hval0 hreach
  obtain ⟨v0, v1, v2, v3, v4, d0, d1, d2, d3, d4, p0, p1, p2, p3, p4, rfl, rfl, rfl, h0, h1, h2, h3, h4⟩ := trodAll_five hA
  obtain ⟨i, rfl, -⟩ := val_i64 Tryd.underlying3 (hval 1 3 v1 rfl rfl)
  obtain ⟨fa, rfl, hfa⟩ := val_arr (m := 256) (fun z hz => has_u8 hz) Tryd.underlying28 Tryd.underlying5 (by kernel_rfl) (by kernel_rfl) (hval 3 28 v3 rfl rfl)
  obtain ⟨fb, rfl, hfb⟩ := val_arr (m := 256) (fun z hz => has_u8 hz) Tryd.underlying28 Tryd.underlying5 (by kernel_rfl) (by kernel_rfl) (hval 4 28 v4 rfl rfl)
  obtain ⟨a0, n0, c0, rfl⟩ := okWide_slice Tryd.underlying22 (hval 0 22 v0 rfl rfl)
  obtain ⟨a2, n2, c2, rfl⟩ := okWide_slice Tryd.underlying26 (hval 2 26 v2 rfl rfl)
  obtain ⟨fu0, hf0⟩ := h0
  obtain ⟨fu2, hf2⟩ := h2
  obtain ⟨A, l, c, e0, hI⟩ := open_leaves hf0 (wt_top hreach' (j := 0) rfl rfl)
  obtain ⟨B, p, cp, e2, hr2, hl2, hm2⟩ := open_bytes_wt Tryd.underlying26 Tryd.underlying5 (by kernel_rfl) (by kernel_rfl) hf2 (wt_top hreach' (j := 2) rfl rfl)
  rw [e0, e2, dgA_of hfa, dgA_of hfb]
  exact treeTells K0 l A l.length c i B p cp (bL fa 32) (bL fb 32) W rfl hT hI ⟨hr2, hl2, by omega⟩ (by omega) (bL_len fa 32) (bL_len fb 32)

theorem over : Rows.treeTellsRow.holds Tryd.pinned (OpenSpec.ofChange Rows.treeTellsSpec) :=
  OpenClaim.holds_of_wide 4 Tryd.f4 rfl rfl rfl rfl rfl rfl rfl ⟨rfl, rfl, rfl, rfl, rfl⟩ rfl rfl rfl rfl rfl (by kernel_rfl) Tryd.func4 (by kernel_rfl)
    (of_decide_eq_true (by kernel_rfl)) (by unfold Func.isWrapper; first | (rw [if_pos (by decide +kernel)]; kernel_rfl) | (rw [if_neg (by decide +kernel)]; exact ⟨rfl, rfl⟩))
    (fun os started H enc _ => lifted os started H enc)

theorem proved : Rows.TreeTellsCardSaid :=
  Claim7.holds_tied_plain_at .later [] [.data, .data] true Rows.treeTellsCard.stood.harness false
    over (fun _ h => by cases h) (by kernel_rfl) (fun _ h => by cases h) treeTells_row_tie rfl ⟨rfl, rfl⟩ (by kernel_rfl) rfl
    (fun f fn hf hfn => by
      obtain rfl : f = 4 := Option.some.inj ((show Tryd.prog.funcNamed "sealring/sealringlaw.TreeTells" = some 4 by kernel_rfl).symm.trans hf) |>.symm
      obtain rfl : fn = Tryd.f4 := (Option.some.inj (Tryd.func4.symm.trans hfn)).symm
      exact ⟨by kernel_rfl, fun j t ht => by
        have hm : t ∈ Tryd.f4.params.toList := Array.mem_toList_iff.2 (Array.mem_of_getElem? ht)
        have hall : (Tryd.f4.params.toList.all fun u => !Tryd.prog.wantsStandIn u) = true := by kernel_rfl
        exact (show Tryd.prog.wantsStandIn t = false by simpa using List.all_eq_true.1 hall t hm)⟩)
    (by kernel_rfl)
#print axioms proved
end Go.Proofs.YtjihklaocgmlpaaDoor.treeTells
