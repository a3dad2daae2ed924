/- Contracts of gf.Mix, gf.Unmix and the document's Column, Box, Unbox. -/
import Derived.Test.YtjihklaocgmlpaaGf
import Derived.Test.YtjihklaocgmlpaaSl
import Derived.Test.YtjihklaocgmlpaaArr8
import Derived.Deep.RegionWith
namespace Go.Proofs.Ytjihklaocgmlpaa
open Go.ChangeShapes Go.WideShapes Go.ChangeAt Go.RowKit
set_option maxHeartbeats 4000000
set_option maxRecDepth 100000

theorem load_4 {w : World} {dst : Option Tmp} {x : Operand} {tt : TypeId} {pos : String} {af : Array Edge} {gd : Option (Nat × Bool)} {a : Act} {K : Act → World → Prop} {Q : Exit → Act → World → Prop}
    (hv : IsHead (a.eval x)) (h : Row w (blkOf (a.eval x)) 4) : Oper.wp Try.prog ⟨dst, .load 39 x, tt, pos, af, gd⟩ a w K Q ↔ K (a.put dst (.agg (rowAt w (blkOf (a.eval x))))) w :=
  wp_load_whole Try.underlying39 rfl (by kernel_rfl) hv h
theorem store_4 {w : World} {dst : Option Tmp} {x y : Operand} {tt : TypeId} {pos : String} {af : Array Edge} {gd : Option (Nat × Bool)} {a : Act} {K : Act → World → Prop} {Q : Exit → Act → World → Prop}
    (hv : IsHead (a.eval x)) (h : Row w (blkOf (a.eval x)) 4) (hx : IsAgg (a.eval y) 4) : Oper.wp Try.prog ⟨dst, .store 39 x y, tt, pos, af, gd⟩ a w K Q ↔ K (a.put dst undef) (w.setRow (blkOf (a.eval x)) (cellsV (a.eval y))) :=
  wp_store_whole (by kernel_rfl) hv h hx
attribute [local go_sem ↓] load_4 store_4
attribute [local go_sem] isHead_mk blkOf_mk row_new_cells row_new row_old row_drew row_drewN row_setCell row_setRow_far rowAt_new rowAt_old rowAt_drew rowAt_drewN rowAt_setCell_far rowAt_setCell_same setRow_new setRow_old setRow_drew isAgg_mk cellsV_mk

/-- A column's product, by its first k. -/
def colk (c b : Nat → Nat) (i : Nat) : Nat → Nat
  | 0 => 0
  | k + 1 => colk c b i k ^^^ gm (b k) (c ((i + k) % 4))
def col (c b : Nat → Nat) (i : Nat) : Nat := colk c b i 4
theorem colk_lt {c b : Nat → Nat} (hb : ∀ i < 4, b i < 256) (i : Nat) : ∀ {k}, k ≤ 4 → colk c b i k < 256
  | 0, _ => by show 0 < 256; omega
  | k + 1, h => xor_lt8 (colk_lt hb i (by omega)) (gm_lt (hb k (by omega)) _)
def colF (c b : Nat → Nat) (i k : Nat) : Nat → Nat := fun j => if j < i then col c b j else if j = i then colk c b i k else 0
theorem colF_step (c b : Nat → Nat) (i k : Nat) : upd (colF c b i k) i (colk c b i k ^^^ gm (b k) (c ((i + k) % 4))) = colF c b i (k + 1) := by
  funext j
  unfold upd colF
  by_cases h : j = i
  · subst h; simp [colk]
  · simp [h]
theorem colF_next (c b : Nat → Nat) (i : Nat) : colF c b i 4 = colF c b (i + 1) 0 := by
  funext j
  unfold colF
  by_cases h : j < i
  · simp [h, show j < i + 1 by omega]
  · by_cases h2 : j = i
    · subst h2; simp [col]
    · simp [h, h2, show ¬ j < i + 1 by omega, colk]

def zero4 : Obj := Obj.cells #[Value.int IntKind.u8 0, Value.int IntKind.u8 0, Value.int IntKind.u8 0, Value.int IntKind.u8 0] 39
theorem gf_column (c b : Nat → Nat) (w : World) (hc : ∀ i < 4, c i < 256) (hb : ∀ i < 4, b i < 256) :
    Calls Try.prog 103 #[.agg (arr8 4 c), .agg (arr8 4 b)] w fun e w' => e = .returned (.agg (arr8 4 (col c b))) ∧ Below w.heap.size w w' := by
  go_enter Try.func103, Try.ntmps103
  have hcc := arr8_cells 4 c
  have hcb := arr8_cells 4 b
  go_wp2
  have hr0 : rowAt ((((w.alloc (Obj.cells (arr8 4 c) 39)).alloc (Obj.cells (arr8 4 b) 39)).alloc zero4).alloc zero4) w.heap.size = arr8 4 c := by unfold zero4; go_simp
  have hr1 : rowAt ((((w.alloc (Obj.cells (arr8 4 c) 39)).alloc (Obj.cells (arr8 4 b) 39)).alloc zero4).alloc zero4) (w.heap.size + 1) = arr8 4 b := by unfold zero4; go_simp
  have hr3 : rowAt ((((w.alloc (Obj.cells (arr8 4 c) 39)).alloc (Obj.cells (arr8 4 b) 39)).alloc zero4).alloc zero4) (w.heap.size + 1 + 1 + 1) = arr8 4 (colF c b 0 0) := by unfold zero4; go_simp; rfl
  have hR0 : Row ((((w.alloc (Obj.cells (arr8 4 c) 39)).alloc (Obj.cells (arr8 4 b) 39)).alloc zero4).alloc zero4) w.heap.size 4 := by unfold zero4; go_simp
  have hR1 : Row ((((w.alloc (Obj.cells (arr8 4 c) 39)).alloc (Obj.cells (arr8 4 b) 39)).alloc zero4).alloc zero4) (w.heap.size + 1) 4 := by unfold zero4; go_simp
  have hR2 : Row ((((w.alloc (Obj.cells (arr8 4 c) 39)).alloc (Obj.cells (arr8 4 b) 39)).alloc zero4).alloc zero4) (w.heap.size + 1 + 1) 4 := by unfold zero4; go_simp
  have hR3 : Row ((((w.alloc (Obj.cells (arr8 4 c) 39)).alloc (Obj.cells (arr8 4 b) 39)).alloc zero4).alloc zero4) (w.heap.size + 1 + 1 + 1) 4 := by unfold zero4; go_simp
  have hbel : Below w.heap.size w ((((w.alloc (Obj.cells (arr8 4 c) 39)).alloc (Obj.cells (arr8 4 b) 39)).alloc zero4).alloc zero4) := by go_grown
  change Code.wp _ _ _ _ ((((w.alloc (Obj.cells (arr8 4 c) 39)).alloc (Obj.cells (arr8 4 b) 39)).alloc zero4).alloc zero4)
  generalize ((((w.alloc (Obj.cells (arr8 4 c) 39)).alloc (Obj.cells (arr8 4 b) 39)).alloc zero4).alloc zero4) = W0 at *
  go_loopw [9] (fun x wr => ∃ i : Nat, x = .int .i64 i ∧ i ≤ 4 ∧ Below (w.heap.size + 1 + 1 + 1) W0 wr ∧ Row wr (w.heap.size + 1 + 1 + 1) 4 ∧ rowAt wr (w.heap.size + 1 + 1 + 1) = arr8 4 (colF c b i 0)) (fun x _ => 4 - (intOf x).toNat)
  case atStart => exact ⟨0, rfl, by omega, Below.refl _ _, hR3, hr3⟩
  case round =>
    obtain ⟨i, rfl, hi, hbe, hR, hr⟩ := hrel
    have hR1' := row_below hR1 hbe (by omega)
    have hR2' := row_below hR2 hbe (by omega)
    have hcol := arr8_cells 4 (col c b)
    have hr1' := (rowAt_below hbe (by omega)).trans hr1
    by_cases h4 : i = 4
    · subst h4
      have e : arr8 4 (colF c b 4 0) = arr8 4 (col c b) := arr8_congr fun j hj => by simp [colF, hj]
      rw [e] at hr
      go_wp2
      refine ret_row rfl Try.underlying39 rfl (by kernel_rfl) rfl ((row_setRow_same rfl hR2').2 hcol.1) rfl ?_
      rw [rowAt_setRow_same hR2']
      exact ⟨rfl, hbel.trans (below_setRow (hbe.mono (by omega)) (by omega))⟩
    · have hd : decide ((i : Int) < 4) = true := by simp; omega
      go_wp2
      go_loopw [13] (fun x wk => ∃ k : Nat, x = .int .i64 k ∧ k ≤ 4 ∧ Below (w.heap.size + 1 + 1 + 1) W0 wk ∧ Row wk (w.heap.size + 1 + 1 + 1) 4 ∧ rowAt wk (w.heap.size + 1 + 1 + 1) = arr8 4 (colF c b i k)) (fun x _ => 4 - (intOf x).toNat)
      case atStart => exact ⟨0, rfl, by omega, hbe, hR, hr⟩
      case round =>
        obtain ⟨k, rfl, hk, hbe2, hR3, hr3⟩ := hrel
        by_cases hk4 : k = 4
        · subst hk4
          go_wp2
          go_round
          case rel => exact ⟨i + 1, by go_num, by omega, hbe2, hR3, by rw [hr3, colF_next]⟩
          case measure => simp [intOf]; omega
        · have hix : ∀ W : World, (Instr.index 39 (.agg (arr8 4 b)) (.int .i64 k)).run Try.prog W = .ok (.int .u8 (b k)) W := fun W => index_arr8 Try.underlying39 (by omega) W
          have hck := colk_lt (c := c) hb i (k := k) hk
          have hbk := hb k (by omega)
          have hR0k := row_below hR0 hbe2 (by omega)
          have hr0k := (rowAt_below hbe2 (by omega)).trans hr0
          have hR1k := row_below hR1 hbe2 (by omega)
          have hr1k := (rowAt_below hbe2 (by omega)).trans hr1
          have hstep := colF_step c b i k
          have hsum : wrap64 ((i : Int) + k) = (i : Int) + k := wrap64_eq (by omega) (by omega)
          obtain ⟨m, hm⟩ : ∃ m, m = (i + k) % 4 := ⟨_, rfl⟩
          rw [← hm] at hstep
          have hmi : ((i : Int) + k) % 4 = m := by omega
          have hm4 : m < 4 := by omega
          have hsum2 : IntKind.i64.wrap ((i : Int) + k) = (i : Int) + k := by rw [IntKind.wrap_i64]; omega
          have hmt : Int.tmod ((i : Int) + k) 4 = m := by rw [Int.tmod_eq_emod_of_nonneg (by omega)]; exact hmi
          have hb1 : (0 : Int) ≤ m := by omega
          have hb2 : (m : Int) < 4 := by omega
          have hcm := hc m hm4
          have hgm := gm_lt hbk (c m)
          have hc1 : wr.cell? ⟨w.heap.size + 1 + 1 + 1, i, none⟩ = some (.int .u8 (colk c b i k)) := by rw [hR3.cell, hr3, arr8_at (by omega)]; simp [colF]
          have hc2 : wr.cell? ⟨w.heap.size, m, none⟩ = some (.int .u8 (c m)) := by rw [hR0k.cell, hr0k, arr8_at hm4]
          have hc3 : wr.cell? ⟨w.heap.size + 1, k, none⟩ = some (.int .u8 (b k)) := by rw [hR1k.cell, hr1k, arr8_at (by omega)]
          have hc4 : wr.frozen? ⟨w.heap.size + 1 + 1 + 1, i, none⟩ = false := hR3.frozen i
          have hx := xor_8 hck hgm
          have hB : w.heap.size + 1 + 1 + 1 + 1 ≤ wr.heap.size := hR3.lt
          have hS : ∀ w', Below (w.heap.size + 1 + 1 + 1 + 1) wr w' → w'.cell? ⟨w.heap.size + 1 + 1 + 1, i, none⟩ = some (.int .u8 (colk c b i k)) ∧ w'.cell? ⟨w.heap.size, m, none⟩ = some (.int .u8 (c m)) ∧ w'.cell? ⟨w.heap.size + 1, k, none⟩ = some (.int .u8 (b k)) ∧ w'.frozen? ⟨w.heap.size + 1 + 1 + 1, i, none⟩ = false ∧ Below (w.heap.size + 1 + 1 + 1 + 1) wr w' :=
            fun w' h => ⟨((bcell h).1 _ _ (by omega)).trans hc1, ((bcell h).1 _ _ (by omega)).trans hc2, ((bcell h).1 _ _ (by omega)).trans hc3, ((bcell h).2 _ _ (by omega)).trans hc4, h⟩
          have hS' := Lib.hid hS
          have hstep' := Lib.hid hstep
          have hr3' := Lib.hid hr3
          clear hm hS hstep hr3 hr0 hr1 hr0k hr1k hr hr1'
          go_wp2
          go_region_with (go_at_call 99; refine (gf_Mul _ _ _ hbk hcm).mono ?_; rintro e w' ⟨rfl, rfl⟩)
          all_goals
            go_wp2
            go_round
            case rel =>
              refine ⟨k + 1, by go_num, by omega, hbe2.trans ((((Below.refl _ _).setCell (by simp) _).drew)), by simp only [row_drew, row_setCell]; exact hR3, ?_⟩
              rw [rowAt_drew, rowAt_setCell_same, hr3'.out, arr8_set, hstep'.out]
            case measure => simp [intOf]; omega

theorem ref_Column (c b : Nat → Nat) (w : World) (hc : ∀ i < 4, c i < 256) (hb : ∀ i < 4, b i < 256) :
    Calls Try.prog 104 #[.agg (arr8 4 c), .agg (arr8 4 b)] w fun e w' => e = .returned (.agg (arr8 4 (col c b))) ∧ Below w.heap.size w w' := by
  go_enter Try.func104, Try.ntmps104
  have hcc := arr8_cells 4 c
  have hcb := arr8_cells 4 b
  go_wp2
  have hr0 : rowAt ((((w.alloc (Obj.cells (arr8 4 c) 39)).alloc (Obj.cells (arr8 4 b) 39)).alloc zero4).alloc zero4) w.heap.size = arr8 4 c := by unfold zero4; go_simp
  have hr1 : rowAt ((((w.alloc (Obj.cells (arr8 4 c) 39)).alloc (Obj.cells (arr8 4 b) 39)).alloc zero4).alloc zero4) (w.heap.size + 1) = arr8 4 b := by unfold zero4; go_simp
  have hr3 : rowAt ((((w.alloc (Obj.cells (arr8 4 c) 39)).alloc (Obj.cells (arr8 4 b) 39)).alloc zero4).alloc zero4) (w.heap.size + 1 + 1 + 1) = arr8 4 (colF c b 0 0) := by unfold zero4; go_simp; rfl
  have hR0 : Row ((((w.alloc (Obj.cells (arr8 4 c) 39)).alloc (Obj.cells (arr8 4 b) 39)).alloc zero4).alloc zero4) w.heap.size 4 := by unfold zero4; go_simp
  have hR1 : Row ((((w.alloc (Obj.cells (arr8 4 c) 39)).alloc (Obj.cells (arr8 4 b) 39)).alloc zero4).alloc zero4) (w.heap.size + 1) 4 := by unfold zero4; go_simp
  have hR2 : Row ((((w.alloc (Obj.cells (arr8 4 c) 39)).alloc (Obj.cells (arr8 4 b) 39)).alloc zero4).alloc zero4) (w.heap.size + 1 + 1) 4 := by unfold zero4; go_simp
  have hR3 : Row ((((w.alloc (Obj.cells (arr8 4 c) 39)).alloc (Obj.cells (arr8 4 b) 39)).alloc zero4).alloc zero4) (w.heap.size + 1 + 1 + 1) 4 := by unfold zero4; go_simp
  have hbel : Below w.heap.size w ((((w.alloc (Obj.cells (arr8 4 c) 39)).alloc (Obj.cells (arr8 4 b) 39)).alloc zero4).alloc zero4) := by go_grown
  change Code.wp _ _ _ _ ((((w.alloc (Obj.cells (arr8 4 c) 39)).alloc (Obj.cells (arr8 4 b) 39)).alloc zero4).alloc zero4)
  generalize ((((w.alloc (Obj.cells (arr8 4 c) 39)).alloc (Obj.cells (arr8 4 b) 39)).alloc zero4).alloc zero4) = W0 at *
  go_loopw [8] (fun x wr => ∃ i : Nat, x = .int .i64 i ∧ i ≤ 4 ∧ Below (w.heap.size + 1 + 1 + 1) W0 wr ∧ Row wr (w.heap.size + 1 + 1 + 1) 4 ∧ rowAt wr (w.heap.size + 1 + 1 + 1) = arr8 4 (colF c b i 0)) (fun x _ => 4 - (intOf x).toNat)
  case atStart => exact ⟨0, rfl, by omega, Below.refl _ _, hR3, hr3⟩
  case round =>
    obtain ⟨i, rfl, hi, hbe, hR, hr⟩ := hrel
    have hR1' := row_below hR1 hbe (by omega)
    have hR2' := row_below hR2 hbe (by omega)
    have hcol := arr8_cells 4 (col c b)
    have hr1' := (rowAt_below hbe (by omega)).trans hr1
    by_cases h4 : i = 4
    · subst h4
      have e : arr8 4 (colF c b 4 0) = arr8 4 (col c b) := arr8_congr fun j hj => by simp [colF, hj]
      rw [e] at hr
      go_wp2
      refine ret_row rfl Try.underlying39 rfl (by kernel_rfl) rfl ((row_setRow_same rfl hR2').2 hcol.1) rfl ?_
      rw [rowAt_setRow_same hR2']
      exact ⟨rfl, hbel.trans (below_setRow (hbe.mono (by omega)) (by omega))⟩
    · have hd : decide ((i : Int) < 4) = true := by simp; omega
      go_wp2
      go_loopw [11] (fun x wk => ∃ k : Nat, x = .int .i64 k ∧ k ≤ 4 ∧ Below (w.heap.size + 1 + 1 + 1) W0 wk ∧ Row wk (w.heap.size + 1 + 1 + 1) 4 ∧ rowAt wk (w.heap.size + 1 + 1 + 1) = arr8 4 (colF c b i k)) (fun x _ => 4 - (intOf x).toNat)
      case atStart => exact ⟨0, rfl, by omega, hbe, hR, hr⟩
      case round =>
        obtain ⟨k, rfl, hk, hbe2, hR3, hr3⟩ := hrel
        by_cases hk4 : k = 4
        · subst hk4
          go_wp2
          go_round
          case rel => exact ⟨i + 1, by go_num, by omega, hbe2, hR3, by rw [hr3, colF_next]⟩
          case measure => simp [intOf]; omega
        · have hix : ∀ W : World, (Instr.index 39 (.agg (arr8 4 b)) (.int .i64 k)).run Try.prog W = .ok (.int .u8 (b k)) W := fun W => index_arr8 Try.underlying39 (by omega) W
          have hck := colk_lt (c := c) hb i (k := k) hk
          have hbk := hb k (by omega)
          have hR0k := row_below hR0 hbe2 (by omega)
          have hr0k := (rowAt_below hbe2 (by omega)).trans hr0
          have hR1k := row_below hR1 hbe2 (by omega)
          have hr1k := (rowAt_below hbe2 (by omega)).trans hr1
          have hstep := colF_step c b i k
          have hsum : wrap64 ((i : Int) + k) = (i : Int) + k := wrap64_eq (by omega) (by omega)
          obtain ⟨m, hm⟩ : ∃ m, m = (i + k) % 4 := ⟨_, rfl⟩
          rw [← hm] at hstep
          have hmi : ((i : Int) + k) % 4 = m := by omega
          have hm4 : m < 4 := by omega
          have hsum2 : IntKind.i64.wrap ((i : Int) + k) = (i : Int) + k := by rw [IntKind.wrap_i64]; omega
          have hmt : Int.tmod ((i : Int) + k) 4 = m := by rw [Int.tmod_eq_emod_of_nonneg (by omega)]; exact hmi
          have hb1 : (0 : Int) ≤ m := by omega
          have hb2 : (m : Int) < 4 := by omega
          have hcm := hc m hm4
          have hgm := gm_lt hbk (c m)
          have hc1 : wr.cell? ⟨w.heap.size + 1 + 1 + 1, i, none⟩ = some (.int .u8 (colk c b i k)) := by rw [hR3.cell, hr3, arr8_at (by omega)]; simp [colF]
          have hc2 : wr.cell? ⟨w.heap.size, m, none⟩ = some (.int .u8 (c m)) := by rw [hR0k.cell, hr0k, arr8_at hm4]
          have hc3 : wr.cell? ⟨w.heap.size + 1, k, none⟩ = some (.int .u8 (b k)) := by rw [hR1k.cell, hr1k, arr8_at (by omega)]
          have hc4 : wr.frozen? ⟨w.heap.size + 1 + 1 + 1, i, none⟩ = false := hR3.frozen i
          have hx := xor_8 hck hgm
          have hB : w.heap.size + 1 + 1 + 1 + 1 ≤ wr.heap.size := hR3.lt
          have hS : ∀ w', Below (w.heap.size + 1 + 1 + 1 + 1) wr w' → w'.cell? ⟨w.heap.size + 1 + 1 + 1, i, none⟩ = some (.int .u8 (colk c b i k)) ∧ w'.cell? ⟨w.heap.size, m, none⟩ = some (.int .u8 (c m)) ∧ w'.cell? ⟨w.heap.size + 1, k, none⟩ = some (.int .u8 (b k)) ∧ w'.frozen? ⟨w.heap.size + 1 + 1 + 1, i, none⟩ = false ∧ Below (w.heap.size + 1 + 1 + 1 + 1) wr w' :=
            fun w' h => ⟨((bcell h).1 _ _ (by omega)).trans hc1, ((bcell h).1 _ _ (by omega)).trans hc2, ((bcell h).1 _ _ (by omega)).trans hc3, ((bcell h).2 _ _ (by omega)).trans hc4, h⟩
          have hS' := Lib.hid hS
          have hstep' := Lib.hid hstep
          have hr3' := Lib.hid hr3
          clear hm hS hstep hr3 hr0 hr1 hr0k hr1k hr hr1'
          go_wp2
          go_region_with (go_at_call 69; refine (ref_Gf _ _ _ hbk hcm).mono ?_; rintro e w' ⟨rfl, rfl⟩)
          all_goals
            go_wp2
            go_round
            case rel =>
              refine ⟨k + 1, by go_num, by omega, hbe2.trans ((((Below.refl _ _).setCell (by simp) _).drew)), by simp only [row_drew, row_setCell]; exact hR3, ?_⟩
              rw [rowAt_drew, rowAt_setCell_same, hr3'.out, arr8_set, hstep'.out]
            case measure => simp [intOf]; omega

end Go.Proofs.Ytjihklaocgmlpaa
