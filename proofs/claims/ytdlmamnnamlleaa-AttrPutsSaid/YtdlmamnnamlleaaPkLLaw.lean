/- AttrPuts: whatever is handed in, the law's function returns true, and what was handed in reads as it did. No conditions. -/
import Derived.Test.YtdlmamnnamlleaaPkL
import Derived.Test.YtdlmamnnamlleaaRuO
namespace Go.Proofs.Ytdlmamnnamlleaa.attrPuts
open Go.ChangeShapes Go.WideShapes Go.ChangeAt Go.RowKit

theorem specIs {H : Type} (ds : List (DataW H)) (h : ds.length = 3) : Rows.attrPutsSpec.fn H ds = { results := [.lit (.bool true)], args := ds } :=
  match ds, h with | [_, _, _], _ => rfl

theorem readable : ∀ t ∈ Try.f9.params.toList, Try.prog.readableRec t = true ∧ t < Try.prog.types.size := by
  have h : (Try.f9.params.toList.all fun t => Try.prog.readableRec t && decide (t < Try.prog.types.size)) = true := by kernel_rfl
  intro t ht
  have := List.all_eq_true.1 h t ht
  simpa using this

set_option maxRecDepth 100000 in
theorem lifted (os : Os) (started : os.Started) (H : Type) (enc : TypeId × Value → H) :
    ReturnsInHanded {} Try.checked os 9 .any (Rows.attrPutsSpec.pre6 enc Try.prog Try.f9 Rows.attrPutsRow.domain false) (Rows.attrPutsSpec.post enc Try.prog Try.f9 false true false false) := by
  refine returnsInHanded_of_change_sized (C := Try.checked) own started (by kernel_rfl) Try.func9
    (ChangeSpec.witness6 (enc := enc) (C := Try.checked) false ⟨#[], #[.slice none 0 0, .slice none 0 0, .slice none 0 0], []⟩ 8 (by kernel_rfl) (by kernel_rfl) (by kernel_rfl) (by kernel_rfl)) ?_
  intro W base args ds gs before hval0 hW _ hreach _
  refine law_run laidOut readable rfl (by rfl) Try.underlying4 specIs hW ?_
  have hval : ∀ (j : Nat) t v, Try.f9.params[j]? = some t → args[j]? = some v → Value.okWide Try.prog W .any base t v := hval0
  have hlt : ∀ p ∈ before, p.block < W.heap.size := fun p hp => hW.lt p hp
  obtain ⟨p, q, hA0, hV, rfl, -, -⟩ := hW
  have hA : DataW.TrodAll enc Try.prog W 0 (fun _ => true) true Try.f9.params.toList args.toList ds p := hA0
  rw [Try.params9] at hA hval
  clear hA0 hval0
  obtain ⟨v0, v1, v2, d0, d1, d2, p0, p1, p2, rfl, rfl, rfl, h0, h1, h2⟩ := trodAll_three hA
  have hw0 : Wt Try.prog 32 d0 := wt_top hreach (j := 0) (by rw [Try.params9]; rfl) rfl
  have hw1 : Wt Try.prog 32 d1 := wt_top hreach (j := 1) (by rw [Try.params9]; rfl) rfl
  obtain ⟨A1, l, c1, rfl, hI1, hn1, hlc1, hcm1⟩ := open_attrsC (hval 0 32 v0 rfl rfl) h0 hw0
  obtain ⟨A2, m, c2, rfl, hI2, hn2, hlc2, hcm2⟩ := open_attrsC (hval 1 32 v1 rfl rfl) h1 hw1
  obtain ⟨a3, n3, cc3, rfl⟩ := okWide_slice Try.underlying59 (hval 2 59 v2 rfl rfl)
  obtain ⟨fu, hf⟩ := h2
  obtain ⟨A3, b, c3, hv, hI3, hn3, hc3⟩ := open_bytes Try.underlying59 Try.underlying5 (by kernel_rfl) hf
  rw [hv]
  exact attrPuts A1 A2 A3 l m b c1 c2 c3 W hI1 hI2 hI3 hn1 hn2 hlc1 hcm1 hlc2 hcm2 hn3 hc3

theorem over : Rows.attrPutsRow.holds Try.pinned (OpenSpec.ofChange Rows.attrPutsSpec) :=
  OpenClaim.holds_of_wide 9 Try.f9 rfl rfl rfl rfl rfl rfl rfl ⟨rfl, rfl, rfl, rfl, rfl⟩ rfl rfl rfl rfl rfl (by kernel_rfl) Try.func9 (by kernel_rfl)
    (of_decide_eq_true (by kernel_rfl)) (by unfold Func.isWrapper; first | (rw [if_pos (by decide +kernel)]; kernel_rfl) | (rw [if_neg (by decide +kernel)]; exact ⟨rfl, rfl⟩))
    (fun os started H enc _ => lifted os started H enc)

theorem proved : Rows.AttrPutsSaid := over
#print axioms proved
end Go.Proofs.Ytdlmamnnamlleaa.attrPuts
