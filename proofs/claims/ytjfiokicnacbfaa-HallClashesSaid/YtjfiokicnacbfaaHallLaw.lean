/- HallClashes: whatever is handed in, the law's function returns true, and what was handed in reads as it did. No conditions. -/
import Derived.Test.YtjfiokicnacbfaaHall
import Derived.Test.YtjfiokicnacbfaaOpen
namespace Go.Proofs.Ytjfiokicnacbfaa.hallClashes
open Go.ChangeShapes Go.WideShapes Go.ChangeAt Go.RowKit

theorem specIs {H : Type} (ds : List (DataW H)) (h : ds.length = 2) : Rows.hallClashesSpec.fn H ds = { results := [.lit (.bool true)], args := ds } :=
  match ds, h with | [_, _], _ => rfl

theorem readable : ∀ t ∈ Try.f4.params.toList, Try.prog.readableRec t = true ∧ t < Try.prog.types.size := by
  have h : (Try.f4.params.toList.all fun t => Try.prog.readableRec t && decide (t < Try.prog.types.size)) = true := by kernel_rfl
  intro t ht
  have := List.all_eq_true.1 h t ht
  simpa using this

set_option maxRecDepth 100000 in
theorem lifted (os : Os) (started : os.Started) (H : Type) (enc : TypeId × Value → H) :
    ReturnsInHanded {} Try.checked os 4 .any (Rows.hallClashesSpec.pre6 enc Try.prog Try.f4 Rows.hallClashesRow.domain false) (Rows.hallClashesSpec.post enc Try.prog Try.f4 false true false false) := by
  refine returnsInHanded_of_change_sized (C := Try.checked) own started (by kernel_rfl) Try.func4
    (ChangeSpec.witness6 (enc := enc) (C := Try.checked) false ⟨#[], #[.agg #[.int .i64 0, .int .i64 0, .int .i64 0, .int .i64 0, .int .i64 0, .int .u8 0, .int .u8 0, .int .u8 0, .int .u8 0, .int .u8 0, .int .u8 0, .int .u8 0, .int .u8 0, .int .u8 0, .int .u8 0, .int .u8 0, .int .u8 0, .int .u8 0, .int .u8 0, .int .u8 0, .int .u8 0, .slice none 0 0, .slice none 0 0, .slice none 0 0], .agg #[.int .i64 0, .int .i64 0, .int .i64 0, .int .i64 0, .int .i64 0, .int .u8 0, .int .u8 0, .int .u8 0, .int .u8 0, .int .u8 0, .int .u8 0, .int .u8 0, .int .u8 0, .int .u8 0, .int .u8 0, .int .u8 0, .int .u8 0, .int .u8 0, .int .u8 0, .int .u8 0, .int .u8 0, .slice none 0 0, .slice none 0 0, .slice none 0 0]], []⟩ 8 (by kernel_rfl) (by kernel_rfl) (by kernel_rfl) (by kernel_rfl)) ?_
  intro W base args ds gs before hval0 hW _ hreach _
  refine law_run laidOut readable rfl (by rfl) Try.underlying4 specIs hW ?_
  have hval : ∀ (j : Nat) t v, Try.f4.params[j]? = some t → args[j]? = some v → Value.okWide Try.prog W .any base t v := hval0
  have hlt : ∀ p ∈ before, p.block < W.heap.size := fun p hp => hW.lt p hp
  obtain ⟨p, q, hA0, hV, rfl, -, -⟩ := hW
  have hA : DataW.TrodAll enc Try.prog W 0 (fun _ => true) true Try.f4.params.toList args.toList ds p := hA0
  rw [Try.params4] at hA hval
  clear hA0 hval0
  obtain ⟨v0, v1, d0, d1, p0, p1, rfl, rfl, rfl, h0, h1⟩ := trodAll_two hA
  obtain ⟨c, rfl, hc, hcs⟩ := open_cells (n := 24) (ts := [3, 3, 3, 3, 3] ++ List.replicate 16 5 ++ [28, 28, 29]) rfl (by kernel_rfl) rfl (by kernel_rfl) (hval 0 31 v0 rfl rfl)
  obtain ⟨d, rfl, hd, hds⟩ := open_cells (n := 24) (ts := [3, 3, 3, 3, 3] ++ List.replicate 16 5 ++ [28, 28, 29]) rfl (by kernel_rfl) rfl (by kernel_rfl) (hval 1 31 v1 rfl rfl)
  obtain ⟨x0, hc0, k0⟩ := hcs 0 3 rfl
  obtain ⟨x1, hc1, k1⟩ := hcs 1 3 rfl
  obtain ⟨x2, hcb, k2⟩ := hcs 21 28 rfl
  obtain ⟨y0, hd0, l0⟩ := hds 0 3 rfl
  obtain ⟨y1, hd1, l1⟩ := hds 1 3 rfl
  obtain ⟨_, rfl, -⟩ := cell_int Try.underlying3 k0
  obtain ⟨_, rfl, -⟩ := cell_int Try.underlying3 k1
  obtain ⟨_, _, _, rfl, hn, hm⟩ := cell_slice Try.underlying28 k2
  obtain ⟨_, rfl, -⟩ := cell_int Try.underlying3 l0
  obtain ⟨_, rfl, -⟩ := cell_int Try.underlying3 l1
  exact clashes _ _ _ _ _ _ _ _ _ W hc hc0 hc1 hd hd0 hd1 hcb (by omega)

theorem over : Rows.hallClashesRow.holds Try.pinned (OpenSpec.ofChange Rows.hallClashesSpec) :=
  OpenClaim.holds_of_wide 4 Try.f4 rfl rfl rfl rfl rfl rfl rfl ⟨rfl, rfl, rfl, rfl, rfl⟩ rfl rfl rfl rfl rfl (by kernel_rfl) Try.func4 (by kernel_rfl)
    (of_decide_eq_true (by kernel_rfl)) (by unfold Func.isWrapper; first | (rw [if_pos (by decide +kernel)]; kernel_rfl) | (rw [if_neg (by decide +kernel)]; exact ⟨rfl, rfl⟩))
    (fun os started H enc _ => lifted os started H enc)

theorem proved : Rows.HallClashesSaid := over
#print axioms proved
end Go.Proofs.Ytjfiokicnacbfaa.hallClashes
