/- WrapTells: whatever is handed in, the law's function returns true, and what was handed in reads as it did. No conditions. -/
import Derived.Test.YtjihklaocgmlpaaWrapL
import Derived.Test.YtjihklaocgmlpaaArgs
import Derived.Test.YtjihklaocgmlpaaArgs2
namespace Go.Proofs.Ytjihklaocgmlpaa.wrapTells
open Go.ChangeShapes Go.WideShapes Go.ChangeAt Go.RowKit

theorem specIs {H : Type} (ds : List (DataW H)) (h : ds.length = 3) : Rows.wrapTellsSpec.fn H ds = { results := [.lit (.bool true)], args := ds } :=
  match ds, h with | [_, _, _], _ => rfl

theorem readable : ∀ t ∈ Try.f9.params.toList, Try.prog.readableRec t = true ∧ t < Try.prog.types.size := by
  have h : (Try.f9.params.toList.all fun t => Try.prog.readableRec t && decide (t < Try.prog.types.size)) = true := by kernel_rfl
  intro t ht
  have := List.all_eq_true.1 h t ht
  simpa using this

set_option maxRecDepth 100000 in
theorem lifted (os : Os) (started : os.Started) (H : Type) (enc : TypeId × Value → H) :
    ReturnsInHanded {} Try.checked os 9 .any (Rows.wrapTellsSpec.pre6 enc Try.prog Try.f9 Rows.wrapTellsRow.domain false) (Rows.wrapTellsSpec.post enc Try.prog Try.f9 false true false false) := by
  refine returnsInHanded_of_change_sized (C := Try.checked) own started (by kernel_rfl) Try.func9
    (ChangeSpec.witness6 (enc := enc) (C := Try.checked) false ⟨#[], #[.slice none 0 0, .slice none 0 0, .slice none 0 0], []⟩ 12 (by kernel_rfl) (by kernel_rfl) (by kernel_rfl) (by kernel_rfl)) ?_
  intro W base args ds gs before hval0 hW _ hreach _
  refine law_run laidOut readable rfl (by rfl) Try.underlying4 specIs hW ?_
  have hval : ∀ (j : Nat) t v, Try.f9.params[j]? = some t → args[j]? = some v → Value.okWide Try.prog W .any base t v := hval0
  have hlt : ∀ p ∈ before, p.block < W.heap.size := fun p hp => hW.lt p hp
  obtain ⟨p, q, hA0, hV, rfl, -, -⟩ := hW
  obtain ⟨rfl, rfl⟩ := trodVars_none hV
  have hA : DataW.TrodAll enc Try.prog W 0 (fun _ => true) true Try.f9.params.toList args.toList ds p := hA0
  have hreach' : (DataW.weightsEach Try.prog (Try.f9.params.toList ++ []) (ds ++ [])).all (· ≤ reachBytes) = true := hreach
  rw [List.append_nil, List.append_nil] at hreach'
  rw [Try.params9] at hA hval hreach'
  clear hA0 hval0 hreach
  obtain ⟨v0, v1, v2, d0, d1, d2, p0, p1, p2, rfl, rfl, rfl, h0, h1, h2⟩ := trodAll_three hA
  obtain ⟨a0, n0, c0, rfl⟩ := okWide_slice Try.underlying25 (hval 0 25 v0 rfl rfl)
  obtain ⟨a1, n1, c1, rfl⟩ := okWide_slice Try.underlying25 (hval 1 25 v1 rfl rfl)
  obtain ⟨a2, n2, c2, rfl⟩ := okWide_slice Try.underlying25 (hval 2 25 v2 rfl rfl)
  obtain ⟨fu0, hf0⟩ := h0
  obtain ⟨fu1, hf1⟩ := h1
  obtain ⟨fu2, hf2⟩ := h2
  obtain ⟨A, l, c, e0, hr0, hl0, hm0⟩ := open_bytes_wt Try.underlying25 Try.underlying5 (by kernel_rfl) (by kernel_rfl) hf0 (wt_top hreach' (j := 0) rfl rfl)
  obtain ⟨B, k, d, e1, hr1, hl1, hm1⟩ := open_bytes_wt Try.underlying25 Try.underlying5 (by kernel_rfl) (by kernel_rfl) hf1 (wt_top hreach' (j := 1) rfl rfl)
  obtain ⟨C, q, f, e2, hr2, hl2, hm2⟩ := open_bytes_wt Try.underlying25 Try.underlying5 (by kernel_rfl) (by kernel_rfl) hf2 (wt_top hreach' (j := 2) rfl rfl)
  rw [e0, e1, e2]
  by_cases hL : l.length = 16 ∨ l.length = 24 ∨ l.length = 32
  · exact wrapTells_ok A B C l k q (l.length / 4) c d f W hr0 hr1 hr2 (by omega) (by omega) ⟨hl0, by omega⟩ (by omega) (by omega)
  · exact wrapTells_bad A B C l k q c d f W hr0 hL ⟨hl0, by omega⟩

theorem over : Rows.wrapTellsRow.holds Try.pinned (OpenSpec.ofChange Rows.wrapTellsSpec) :=
  OpenClaim.holds_of_wide 9 Try.f9 rfl rfl rfl rfl rfl rfl rfl ⟨rfl, rfl, rfl, rfl, rfl⟩ rfl rfl rfl rfl rfl (by kernel_rfl) Try.func9 (by kernel_rfl)
    (of_decide_eq_true (by kernel_rfl)) (by unfold Func.isWrapper; first | (rw [if_pos (by decide +kernel)]; kernel_rfl) | (rw [if_neg (by decide +kernel)]; exact ⟨rfl, rfl⟩))
    (fun os started H enc _ => lifted os started H enc)

theorem proved : Rows.WrapTellsSaid := over
#print axioms proved
end Go.Proofs.Ytjihklaocgmlpaa.wrapTells
