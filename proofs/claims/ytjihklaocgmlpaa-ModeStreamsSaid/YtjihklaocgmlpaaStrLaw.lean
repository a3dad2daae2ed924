/- ModeStreams: whatever is handed in, the law's function returns true, and what was handed in reads as it did. No conditions. -/
import Derived.Test.YtjihklaocgmlpaaStrL
import Derived.Test.YtjihklaocgmlpaaArgs
import Derived.Test.YtjihklaocgmlpaaArgs2
namespace Go.Proofs.Ytjihklaocgmlpaa.modeStreams
open Go.ChangeShapes Go.WideShapes Go.ChangeAt Go.RowKit

theorem specIs {H : Type} (ds : List (DataW H)) (h : ds.length = 4) : Rows.modeStreamsSpec.fn H ds = { results := [.lit (.bool true)], args := ds } :=
  match ds, h with | [_, _, _, _], _ => rfl

theorem readable : ∀ t ∈ Try.f4.params.toList, Try.prog.readableRec t = true ∧ t < Try.prog.types.size := by
  have h : (Try.f4.params.toList.all fun t => Try.prog.readableRec t && decide (t < Try.prog.types.size)) = true := by kernel_rfl
  intro t ht
  have := List.all_eq_true.1 h t ht
  simpa using this

set_option maxRecDepth 100000 in
theorem lifted (os : Os) (started : os.Started) (H : Type) (enc : TypeId × Value → H) :
    ReturnsInHanded {} Try.checked os 4 .any (Rows.modeStreamsSpec.pre6 enc Try.prog Try.f4 Rows.modeStreamsRow.domain false) (Rows.modeStreamsSpec.post enc Try.prog Try.f4 false true false false) := by
  refine returnsInHanded_of_change_sized (C := Try.checked) own started (by kernel_rfl) Try.func4
    (ChangeSpec.witness6 (enc := enc) (C := Try.checked) false ⟨#[], #[.slice none 0 0, .agg #[.int .u8 0, .int .u8 0, .int .u8 0, .int .u8 0, .int .u8 0, .int .u8 0, .int .u8 0, .int .u8 0, .int .u8 0, .int .u8 0, .int .u8 0, .int .u8 0, .int .u8 0, .int .u8 0, .int .u8 0, .int .u8 0], .int .u64 0, .slice none 0 0], []⟩ 12 (by kernel_rfl) (by kernel_rfl) (by kernel_rfl) (by kernel_rfl)) ?_
  intro W base args ds gs before hval0 hW _ hreach _
  refine law_run laidOut readable rfl (by rfl) Try.underlying4 specIs hW ?_
  have hval : ∀ (j : Nat) t v, Try.f4.params[j]? = some t → args[j]? = some v → Value.okWide Try.prog W .any base t v := hval0
  have hlt : ∀ p ∈ before, p.block < W.heap.size := fun p hp => hW.lt p hp
  obtain ⟨p, q, hA0, hV, rfl, -, -⟩ := hW
  obtain ⟨rfl, rfl⟩ := trodVars_none hV
  have hA : DataW.TrodAll enc Try.prog W 0 (fun _ => true) true Try.f4.params.toList args.toList ds p := hA0
  have hreach' : (DataW.weightsEach Try.prog (Try.f4.params.toList ++ []) (ds ++ [])).all (· ≤ reachBytes) = true := hreach
  rw [List.append_nil, List.append_nil] at hreach'
  rw [Try.params4] at hA hval hreach'
  clear hA0 hval0 hreach
  obtain ⟨v0, v1, v2, v3, d0, d1, d2, d3, p0, p1, p2, p3, rfl, rfl, rfl, h0, h1, h2, h3⟩ := trodAll_four hA
  obtain ⟨a0, n0, c0, rfl⟩ := okWide_slice Try.underlying25 (hval 0 25 v0 rfl rfl)
  obtain ⟨b, rfl, hb⟩ := val_arr (m := 256) (fun z hz => has_u8 hz) Try.underlying38 Try.underlying5 (by kernel_rfl) (by kernel_rfl) (hval 1 38 v1 rfl rfl)
  obtain ⟨x, rfl, hx⟩ := val_u64 Try.underlying22 (hval 2 22 v2 rfl rfl)
  obtain ⟨a3, n3, c3, rfl⟩ := okWide_slice Try.underlying25 (hval 3 25 v3 rfl rfl)
  obtain ⟨fu0, hf0⟩ := h0
  obtain ⟨fu3, hf3⟩ := h3
  obtain ⟨A, l, c, e0, hr0, hl0, hm0⟩ := open_bytes_wt Try.underlying25 Try.underlying5 (by kernel_rfl) (by kernel_rfl) hf0 (wt_top hreach' (j := 0) rfl rfl)
  obtain ⟨C, q, f, e3, hr3, hl3, hm3⟩ := open_bytes_wt Try.underlying25 Try.underlying5 (by kernel_rfl) (by kernel_rfl) hf3 (wt_top hreach' (j := 3) rfl rfl)
  rw [e0, e3]
  by_cases hL : l.length = 16 ∨ l.length = 24 ∨ l.length = 32
  · exact modeStreams_ok A C l q (l.length / 4) c f x b W hr0 hr3 (by omega) (by omega) ⟨hl0, by omega⟩ ⟨hl3, by omega⟩ hb
  · exact modeStreams_bad A C l q c f x b W hr0 hL ⟨hl0, by omega⟩

theorem over : Rows.modeStreamsRow.holds Try.pinned (OpenSpec.ofChange Rows.modeStreamsSpec) :=
  OpenClaim.holds_of_wide 4 Try.f4 rfl rfl rfl rfl rfl rfl rfl ⟨rfl, rfl, rfl, rfl, rfl⟩ rfl rfl rfl rfl rfl (by kernel_rfl) Try.func4 (by kernel_rfl)
    (of_decide_eq_true (by kernel_rfl)) (by unfold Func.isWrapper; first | (rw [if_pos (by decide +kernel)]; kernel_rfl) | (rw [if_neg (by decide +kernel)]; exact ⟨rfl, rfl⟩))
    (fun os started H enc _ => lifted os started H enc)

theorem proved : Rows.ModeStreamsSaid := over
#print axioms proved
end Go.Proofs.Ytjihklaocgmlpaa.modeStreams
