/- Contracts of the document's Unbox, and of Mix and Unmix. -/
import Derived.Test.YtjihklaocgmlpaaGfB
import Derived.Test.YtjihklaocgmlpaaGfC
namespace Go.Proofs.Ytjihklaocgmlpaa
open Go.ChangeShapes Go.WideShapes Go.ChangeAt Go.RowKit
set_option maxHeartbeats 4000000
set_option maxRecDepth 100000

theorem ginv_ginv {a : Nat} (h : a < 256) : ginv (ginv a) = a := by
  by_cases h0 : a = 0
  · subst h0; rw [ginv_zero, ginv_zero]
  · have h1 := gm_ginv h h0
    rw [gm_comm h (ginv_lt a)] at h1
    exact (ginv_only (ginv_lt a) h h1).2.symm
def unB (x : Nat) : Nat := rot (x ^^^ 99) 1 ^^^ rot (x ^^^ 99) 3 ^^^ rot (x ^^^ 99) 6
theorem subB_tbl : (List.range 256).all (fun b => unB (gsubB b) == b && gsubB (unB b) == b && Nat.blt (unB b) 256) = true := by decide +kernel
theorem subB_at {b : Nat} (h : b < 256) : unB (gsubB b) = b ∧ gsubB (unB b) = b ∧ unB b < 256 := by
  have := List.all_eq_true.1 subB_tbl b (List.mem_range.2 h)
  simp [Nat.blt_eq] at this
  exact ⟨this.1.1, this.1.2, this.2⟩
theorem unsub_sub {a : Nat} (h : a < 256) : gunsub (gsub a) = a := by
  show ginv (unB (gsubB (ginv a))) = a
  rw [(subB_at (ginv_lt a)).1, ginv_ginv h]
theorem sub_unsub {a : Nat} (h : a < 256) : gsub (gunsub a) = a := by
  show gsubB (ginv (ginv (unB a))) = a
  rw [ginv_ginv (subB_at h).2.2, (subB_at h).2.1]
def mixB : Nat → Nat := fun i => ([2, 3, 1, 1] : List Nat)[i]?.getD 0
def unmixB : Nat → Nat := fun i => ([14, 11, 13, 9] : List Nat)[i]?.getD 0
def unK (k : Nat) : Nat → Nat := fun x => if gunsub x < k then gunsub x else 0
theorem unK_step {k x : Nat} (hk : k < 256) (hx : x < 256) : upd (unK k) (gsub k) k x = unK (k + 1) x := by
  unfold upd unK
  by_cases h : x = gsub k
  · subst h; rw [unsub_sub hk]; simp
  · have h2 : gunsub x ≠ k := fun e => h (by rw [← e, sub_unsub hx])
    rw [if_neg h]
    by_cases h3 : gunsub x < k
    · simp [h3, show gunsub x < k + 1 by omega]
    · simp [h3, show ¬ gunsub x < k + 1 by omega]
theorem gunsub_lt (a : Nat) : gunsub a < 256 := ginv_lt _

attribute [local go_sem ↓] load_255 load_256 store_256 load_4 store_4
attribute [local go_sem] isHead_mk blkOf_mk isAgg_mk cellsV_mk row_new_cells row_old rowAt_new rowAt_old

theorem ref_Unbox (w : World) :
    Calls Try.prog 68 #[.agg (arr8 256 gsub)] w fun e w' => e = .returned (.agg (arr8 256 gunsub)) ∧ Below w.heap.size w w' := by
  have h1 : Row (((w.alloc (Obj.cells (arr8 256 gsub) 74)).alloc (Obj.cells Try.zeroCells74 74)).alloc (Obj.cells Try.zeroCells74 74)) w.heap.size 256 := by
    have hc1 := arr8_cells 256 gsub
    go_simp
  have h2 : Row (((w.alloc (Obj.cells (arr8 256 gsub) 74)).alloc (Obj.cells Try.zeroCells74 74)).alloc (Obj.cells Try.zeroCells74 74)) (w.heap.size + 1) 256 := by
    rw [zero256]
    have hc1 := arr8_cells 256 fun _ => 0
    go_simp
  have h3 : Row (((w.alloc (Obj.cells (arr8 256 gsub) 74)).alloc (Obj.cells Try.zeroCells74 74)).alloc (Obj.cells Try.zeroCells74 74)) (w.heap.size + 1 + 1) 256 := by
    rw [zero256]
    have hc1 := arr8_cells 256 fun _ => 0
    go_simp
  have e1 : rowAt (((w.alloc (Obj.cells (arr8 256 gsub) 74)).alloc (Obj.cells Try.zeroCells74 74)).alloc (Obj.cells Try.zeroCells74 74)) w.heap.size = arr8 256 gsub := by go_simp
  have e3 : rowAt (((w.alloc (Obj.cells (arr8 256 gsub) 74)).alloc (Obj.cells Try.zeroCells74 74)).alloc (Obj.cells Try.zeroCells74 74)) (w.heap.size + 1 + 1) = arr8 256 (unK 0) := by
    rw [zero256]; go_simp; exact arr8_congr fun i _ => by simp [unK]
  have hL0 : Below w.heap.size w (((w.alloc (Obj.cells (arr8 256 gsub) 74)).alloc (Obj.cells Try.zeroCells74 74)).alloc (Obj.cells Try.zeroCells74 74)) := by go_grown
  go_enter Try.func68, Try.ntmps68
  go_wp2
  generalize (((w.alloc (Obj.cells (arr8 256 gsub) 74)).alloc (Obj.cells Try.zeroCells74 74)).alloc (Obj.cells Try.zeroCells74 74)) = W0 at *
  go_loopw [7] (fun i wr => ∃ k : Nat, i = .int .i64 k ∧ k ≤ 256 ∧ Row wr (w.heap.size + 1 + 1) 256 ∧ rowAt wr (w.heap.size + 1 + 1) = arr8 256 (unK k) ∧ Row wr (w.heap.size + 1) 256 ∧ Below w.heap.size w wr) (fun i _ => 256 - (intOf i).toNat)
  case atStart => exact ⟨0, rfl, by omega, h3, e3, h2, hL0⟩
  case round =>
    obtain ⟨k, rfl, hk, hR, hr, hR2, hL⟩ := hrel
    by_cases h5 : k = 256
    · subst h5
      have e : arr8 256 (unK 256) = arr8 256 gunsub := arr8_congr fun x _ => by simp [unK, gunsub_lt]
      rw [e] at hr
      have hcc := arr8_cells 256 gunsub
      go_wp2
      refine ret_row rfl Try.underlying74 rfl (by kernel_rfl) rfl ((row_setRow_same rfl hR2).2 hcc.1) rfl ?_
      rw [rowAt_setRow_same hR2]
      exact ⟨rfl, hL.trans (below_setRow (Below.refl _ _) (by omega))⟩
    · have hix : ∀ W : World, (Instr.index 74 (.agg (arr8 256 gsub)) (.int .i64 k)).run Try.prog W = .ok (.int .u8 (gsub k : Nat)) W := fun W => index_arr8 Try.underlying74 (by omega) W
      have hg := gsub_lt k
      have hf := hR.frozen (gsub k)
      have hc := hR.cell (gsub k)
      rw [hr, arr8_at hg] at hc
      go_wp2
      go_round
      case rel =>
        refine ⟨k + 1, by go_num, by omega, row_setCell.2 hR, ?_, row_setCell.2 hR2, hL.setCell (by simp; omega) _⟩
        rw [rowAt_setCell_same, hr, arr8_set]
        exact arr8_congr fun x hx => unK_step (by omega) hx
      case measure => simp [intOf]; omega

theorem mixB_eq : #[Value.int IntKind.u8 2, Value.int IntKind.u8 3, Value.int IntKind.u8 1, Value.int IntKind.u8 1] = arr8 4 mixB := by kernel_rfl
theorem unmixB_eq : #[Value.int IntKind.u8 14, Value.int IntKind.u8 11, Value.int IntKind.u8 13, Value.int IntKind.u8 9] = arr8 4 unmixB := by kernel_rfl
theorem mixB_lt : ∀ i < 4, mixB i < 256 := by decide
theorem unmixB_lt : ∀ i < 4, unmixB i < 256 := by decide

theorem gf_Mix (c : Nat → Nat) (w : World) (hc : ∀ i < 4, c i < 256) :
    Calls Try.prog 81 #[.agg (arr8 4 c)] w fun e w' => e = .returned (.agg (arr8 4 (col c mixB))) ∧ Below w.heap.size w w' := by
  have hcc := arr8_cells 4 c
  have hR : Row ((w.alloc (Obj.cells (arr8 4 c) 39)).alloc zero4) (w.heap.size + 1) 4 := (row_new (by simp)).2 rfl
  have hL0 : Below w.heap.size w ((w.alloc (Obj.cells (arr8 4 c) 39)).alloc zero4) := by go_grown
  go_enter Try.func81, Try.ntmps81
  go_wp2_with fail
  change Calls _ _ #[Value.agg (arr8 4 c), _] ((w.alloc (Obj.cells (arr8 4 c) 39)).alloc zero4) _
  rw [mixB_eq]
  refine (gf_column c mixB _ hc mixB_lt).mono ?_
  rintro e w' ⟨rfl, hb⟩
  have hR' := row_below hR hb (by simp)
  have hcol := arr8_cells 4 (col c mixB)
  have hz : w.heap.size + 1 + 1 ≤ w'.heap.size := by have := hb.size; simpa using this
  have hL := hL0.trans (hb.mono (by simp; omega))
  clear hR hL0 hb
  go_wp2
  refine ret_row rfl Try.underlying39 rfl (by kernel_rfl) rfl ((row_setRow_same rfl hR').2 hcol.1) rfl ?_
  rw [rowAt_setRow_same hR']
  exact ⟨rfl, hL.trans (below_setRow (Below.refl _ _) (by omega))⟩

theorem gf_Unmix (c : Nat → Nat) (w : World) (hc : ∀ i < 4, c i < 256) :
    Calls Try.prog 87 #[.agg (arr8 4 c)] w fun e w' => e = .returned (.agg (arr8 4 (col c unmixB))) ∧ Below w.heap.size w w' := by
  have hcc := arr8_cells 4 c
  have hR : Row ((w.alloc (Obj.cells (arr8 4 c) 39)).alloc zero4) (w.heap.size + 1) 4 := (row_new (by simp)).2 rfl
  have hL0 : Below w.heap.size w ((w.alloc (Obj.cells (arr8 4 c) 39)).alloc zero4) := by go_grown
  go_enter Try.func87, Try.ntmps87
  go_wp2_with fail
  change Calls _ _ #[Value.agg (arr8 4 c), _] ((w.alloc (Obj.cells (arr8 4 c) 39)).alloc zero4) _
  rw [unmixB_eq]
  refine (gf_column c unmixB _ hc unmixB_lt).mono ?_
  rintro e w' ⟨rfl, hb⟩
  have hR' := row_below hR hb (by simp)
  have hcol := arr8_cells 4 (col c unmixB)
  have hz : w.heap.size + 1 + 1 ≤ w'.heap.size := by have := hb.size; simpa using this
  have hL := hL0.trans (hb.mono (by simp; omega))
  clear hR hL0 hb
  go_wp2
  refine ret_row rfl Try.underlying39 rfl (by kernel_rfl) rfl ((row_setRow_same rfl hR').2 hcol.1) rfl ?_
  rw [rowAt_setRow_same hR']
  exact ⟨rfl, hL.trans (below_setRow (Below.refl _ _) (by omega))⟩

end Go.Proofs.Ytjihklaocgmlpaa
