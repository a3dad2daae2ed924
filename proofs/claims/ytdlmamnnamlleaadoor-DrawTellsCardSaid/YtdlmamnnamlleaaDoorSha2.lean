/- Contract of package hash's press. -/
import Derived.Test.YtdlmamnnamlleaaDoorSha
namespace Go.Proofs.YtdlmamnnamlleaaDoor
open Go.ChangeShapes Go.WideShapes Go.ChangeAt Go.RowKit
set_option maxHeartbeats 2000000
set_option maxRecDepth 100000
theorem load_h8 {w : World} {dst : Option Tmp} {x : Operand} {tt : TypeId} {pos : String} {af : Array Edge} {gd : Option (Nat × Bool)} {a : Act} {K : Act → World → Prop} {Q : Exit → Act → World → Prop}
    (hv : IsHead (a.eval x)) (h : Row w (blkOf (a.eval x)) 8) : Oper.wp Tryd.prog ⟨dst, .load 96 x, tt, pos, af, gd⟩ a w K Q ↔ K (a.put dst (.agg (rowAt w (blkOf (a.eval x))))) w :=
  wp_load_whole Tryd.underlying96 rfl (by kernel_rfl) hv h
theorem store_h8 {w : World} {dst : Option Tmp} {x y : Operand} {tt : TypeId} {pos : String} {af : Array Edge} {gd : Option (Nat × Bool)} {a : Act} {K : Act → World → Prop} {Q : Exit → Act → World → Prop}
    (hv : IsHead (a.eval x)) (h : Row w (blkOf (a.eval x)) 8) (hx : IsAgg (a.eval y) 8) : Oper.wp Tryd.prog ⟨dst, .store 96 x y, tt, pos, af, gd⟩ a w K Q ↔ K (a.put dst undef) (w.setRow (blkOf (a.eval x)) (cellsV (a.eval y))) :=
  wp_store_whole (by kernel_rfl) hv h hx
theorem execl_h8 {w : World} {dst : Option Tmp} {x : Operand} {tt : TypeId} {pos : String} {af : Array Edge} {gd : Option (Nat × Bool)} {ρ : Operand → Value}
    (hv : IsHead (ρ x)) (h : Row w (blkOf (ρ x)) 8) : (execOp ρ ⟨dst, .load 96 x, tt, pos, af, gd⟩).run Tryd.prog w = .ok (.value (.agg (rowAt w (blkOf (ρ x))))) w :=
  exec_load_whole Tryd.underlying96 rfl (by kernel_rfl) hv h
theorem execs_h8 {w : World} {dst : Option Tmp} {x y : Operand} {tt : TypeId} {pos : String} {af : Array Edge} {gd : Option (Nat × Bool)} {ρ : Operand → Value}
    (hv : IsHead (ρ x)) (h : Row w (blkOf (ρ x)) 8) (hx : IsAgg (ρ y) 8) : (execOp ρ ⟨dst, .store 96 x y, tt, pos, af, gd⟩).run Tryd.prog w = .ok .skip (w.setRow (blkOf (ρ x)) (cellsV (ρ y))) :=
  exec_store_whole (by kernel_rfl) hv h hx

attribute [local go_sem] u32_xor' u32_and' u32_or' u32_add' u32_addw' u32_shr3 u32_shr10 u32_shr' u32_shl' u32_shlw' u32_not2 u32_not'
attribute [local go_sem ↓] load_h8 store_h8 execl_h8 execs_h8
attribute [local go_sem] isHead_mk blkOf_mk isAgg_mk cellsV_mk row_drew rowAt_drew row_new_cells row_old rowAt_new rowAt_old setRow_new
attribute [local go_sem ↓] Go.wp_at_zero Go.wp_at_succ

theorem zero8u : #[Value.int IntKind.u32 0, Value.int IntKind.u32 0, Value.int IntKind.u32 0, Value.int IntKind.u32 0, Value.int IntKind.u32 0, Value.int IntKind.u32 0, Value.int IntKind.u32 0, Value.int IntKind.u32 0] = arrK .u32 8 fun _ => 0 := by kernel_rfl
theorem zero64u : #[Value.int IntKind.u32 0, Value.int IntKind.u32 0, Value.int IntKind.u32 0, Value.int IntKind.u32 0, Value.int IntKind.u32 0, Value.int IntKind.u32 0, Value.int IntKind.u32 0, Value.int IntKind.u32 0, Value.int IntKind.u32 0, Value.int IntKind.u32 0, Value.int IntKind.u32 0, Value.int IntKind.u32 0, Value.int IntKind.u32 0, Value.int IntKind.u32 0, Value.int IntKind.u32 0, Value.int IntKind.u32 0, Value.int IntKind.u32 0, Value.int IntKind.u32 0, Value.int IntKind.u32 0, Value.int IntKind.u32 0, Value.int IntKind.u32 0, Value.int IntKind.u32 0, Value.int IntKind.u32 0, Value.int IntKind.u32 0, Value.int IntKind.u32 0, Value.int IntKind.u32 0, Value.int IntKind.u32 0, Value.int IntKind.u32 0, Value.int IntKind.u32 0, Value.int IntKind.u32 0, Value.int IntKind.u32 0, Value.int IntKind.u32 0, Value.int IntKind.u32 0, Value.int IntKind.u32 0, Value.int IntKind.u32 0, Value.int IntKind.u32 0, Value.int IntKind.u32 0, Value.int IntKind.u32 0, Value.int IntKind.u32 0, Value.int IntKind.u32 0, Value.int IntKind.u32 0, Value.int IntKind.u32 0, Value.int IntKind.u32 0, Value.int IntKind.u32 0, Value.int IntKind.u32 0, Value.int IntKind.u32 0, Value.int IntKind.u32 0, Value.int IntKind.u32 0, Value.int IntKind.u32 0, Value.int IntKind.u32 0, Value.int IntKind.u32 0, Value.int IntKind.u32 0, Value.int IntKind.u32 0, Value.int IntKind.u32 0, Value.int IntKind.u32 0, Value.int IntKind.u32 0, Value.int IntKind.u32 0, Value.int IntKind.u32 0, Value.int IntKind.u32 0, Value.int IntKind.u32 0, Value.int IntKind.u32 0, Value.int IntKind.u32 0, Value.int IntKind.u32 0, Value.int IntKind.u32 0] = arrK .u32 64 fun _ => 0 := by kernel_rfl
theorem h8_size (h : Nat → W32) : (h8 h).size = 8 := arrK_size _ _ _
theorem h8_cells (h : Nat → W32) : Cells (h8 h) 8 := arrK_cells _ _ _

theorem cell_ne {w : World} {g i j : Nat} {v : Value} {x : Option Value} (h : w.cell? ⟨g, i, none⟩ = x) (hne : i ≠ j) : (w.setCell ⟨g, j, none⟩ v).cell? ⟨g, i, none⟩ = x :=
  (World.cell?_setCell_other w ⟨g, j, none⟩ ⟨g, i, none⟩ v (fun e => by injection e with _ e2; exact hne e2.symm)).trans h
theorem arrK8' (k : IntKind) (f : Nat → Nat) : #[Value.int k (f 0), Value.int k (f 1), Value.int k (f 2), Value.int k (f 3), Value.int k (f 4), Value.int k (f 5), Value.int k (f 6), Value.int k (f 7)] = arrK k 8 f :=
  arrK_of rfl fun i hi => by rcases (by omega : i = 0 ∨ i = 1 ∨ i = 2 ∨ i = 3 ∨ i = 4 ∨ i = 5 ∨ i = 6 ∨ i = 7) with rfl | rfl | rfl | rfl | rfl | rfl | rfl | rfl <;> rfl
def addK (h v : Nat → W32) (j : Nat) : Nat → Nat := fun i => if i < j then w2n (h i + v i) else w2n (h i)
theorem addK_at (h v : Nat → W32) (j : Nat) : addK h v j j = w2n (h j) := if_neg (by omega)
theorem addK_step (h v : Nat → W32) (j p : Nat) : upd (addK h v j) j (w2n (h j + v j)) p = addK h v (j + 1) p := by
  unfold upd addK
  by_cases e : p = j
  · subst e; rw [if_pos rfl, if_pos (by omega)]
  · rw [if_neg e]
    by_cases e2 : p < j
    · rw [if_pos e2, if_pos (by omega)]
    · rw [if_neg e2, if_neg (by omega)]
/-- The blocks that press reads. -/
structure PrAt (W : World) (g : Nat) (h : Nat → W32) (f : Nat → Nat) (K : Nat → W32) : Prop where
  R0 : Row W g 8
  r0 : rowAt W g = h8 h
  R1 : Row W (g + 1) 64
  r1 : rowAt W (g + 1) = arrK .u8 64 f
  R2 : Row W (g + 1 + 1) 8
  k : ∀ i < 64, W.cell? ⟨1, i, none⟩ = some (u32v (K i))
  kl : 1 < g
theorem PrAt.below {W W' : World} {g B : Nat} {h : Nat → W32} {f : Nat → Nat} {K : Nat → W32} (p : PrAt W g h f K) (hb : Below B W W') (hB : g + 3 ≤ B) : PrAt W' g h f K :=
  ⟨row_below p.R0 hb (by omega), (rowAt_below hb (by omega)).trans p.r0, row_below p.R1 hb (by omega), (rowAt_below hb (by omega)).trans p.r1, row_below p.R2 hb (by omega),
    fun i hi => ((bcell hb).1 _ _ (by have := p.kl; omega)).trans (p.k i hi), p.kl⟩
theorem hash_right2 (x : W32) (w : World) : Calls Tryd.prog 118 #[.int .u32 (w2n x : Int), .int .i64 2] w fun e w' => e = .returned (u32v (rotr x 2)) ∧ w = w' := hash_right x 2 w (by omega) (by omega)
theorem hash_right6 (x : W32) (w : World) : Calls Tryd.prog 118 #[.int .u32 (w2n x : Int), .int .i64 6] w fun e w' => e = .returned (u32v (rotr x 6)) ∧ w = w' := hash_right x 6 w (by omega) (by omega)
theorem hash_right7 (x : W32) (w : World) : Calls Tryd.prog 118 #[.int .u32 (w2n x : Int), .int .i64 7] w fun e w' => e = .returned (u32v (rotr x 7)) ∧ w = w' := hash_right x 7 w (by omega) (by omega)
theorem hash_right11 (x : W32) (w : World) : Calls Tryd.prog 118 #[.int .u32 (w2n x : Int), .int .i64 11] w fun e w' => e = .returned (u32v (rotr x 11)) ∧ w = w' := hash_right x 11 w (by omega) (by omega)
theorem hash_right13 (x : W32) (w : World) : Calls Tryd.prog 118 #[.int .u32 (w2n x : Int), .int .i64 13] w fun e w' => e = .returned (u32v (rotr x 13)) ∧ w = w' := hash_right x 13 w (by omega) (by omega)
theorem hash_right17 (x : W32) (w : World) : Calls Tryd.prog 118 #[.int .u32 (w2n x : Int), .int .i64 17] w fun e w' => e = .returned (u32v (rotr x 17)) ∧ w = w' := hash_right x 17 w (by omega) (by omega)
theorem hash_right18 (x : W32) (w : World) : Calls Tryd.prog 118 #[.int .u32 (w2n x : Int), .int .i64 18] w fun e w' => e = .returned (u32v (rotr x 18)) ∧ w = w' := hash_right x 18 w (by omega) (by omega)
theorem hash_right19 (x : W32) (w : World) : Calls Tryd.prog 118 #[.int .u32 (w2n x : Int), .int .i64 19] w fun e w' => e = .returned (u32v (rotr x 19)) ∧ w = w' := hash_right x 19 w (by omega) (by omega)
theorem hash_right22 (x : W32) (w : World) : Calls Tryd.prog 118 #[.int .u32 (w2n x : Int), .int .i64 22] w fun e w' => e = .returned (u32v (rotr x 22)) ∧ w = w' := hash_right x 22 w (by omega) (by omega)
theorem hash_right25 (x : W32) (w : World) : Calls Tryd.prog 118 #[.int .u32 (w2n x : Int), .int .i64 25] w fun e w' => e = .returned (u32v (rotr x 25)) ∧ w = w' := hash_right x 25 w (by omega) (by omega)

theorem hash_press (h : Nat → W32) (f : Nat → Nat) (K : Nat → W32) (w : World) (hf : ∀ i < 64, f i < 256) (hK : ∀ i < 64, w.cell? ⟨1, i, none⟩ = some (u32v (K i))) (hKl : 1 < w.heap.size) :
    Calls Tryd.prog 103 #[.agg (h8 h), .agg (arrK .u8 64 f)] w fun e w' => e = .returned (.agg (h8 (prs K h fun i => be32 f (4 * i)))) ∧ Below w.heap.size w w' := by
  have hch := h8_cells h
  have hcf := arrK_cells .u8 64 f
  have hcz := arrK_cells .u32 8 fun _ => 0
  have hcz2 := arrK_cells .u32 64 fun _ => 0
  go_enter Tryd.func103, Tryd.ntmps103
  go_wp2
  rw [zero8u, zero64u]
  have hL0 : Below w.heap.size w ((((w.alloc (Obj.cells (h8 h) 96)).alloc (Obj.cells (arrK .u8 64 f) 97)).alloc (Obj.cells (arrK .u32 8 fun _ => 0) 96)).alloc (Obj.cells (arrK .u32 64 fun _ => 0) 177)) := by go_grown
  have hP0 : PrAt ((((w.alloc (Obj.cells (h8 h) 96)).alloc (Obj.cells (arrK .u8 64 f) 97)).alloc (Obj.cells (arrK .u32 8 fun _ => 0) 96)).alloc (Obj.cells (arrK .u32 64 fun _ => 0) 177)) w.heap.size h f K :=
    ⟨(row_old (by simp <;> omega)).2 ((row_old (by simp <;> omega)).2 ((row_old (by simp <;> omega)).2 ((row_new rfl).2 hch.1))), (rowAt_old (by simp <;> omega)).trans ((rowAt_old (by simp <;> omega)).trans ((rowAt_old (by simp <;> omega)).trans (rowAt_new rfl))),
      (row_old (by simp <;> omega)).2 ((row_old (by simp <;> omega)).2 ((row_new (by simp)).2 hcf.1)), (rowAt_old (by simp <;> omega)).trans ((rowAt_old (by simp <;> omega)).trans (rowAt_new (by simp))),
      (row_old (by simp <;> omega)).2 ((row_new (by simp)).2 hcz.1), fun i hi => ((bcell hL0).1 _ _ hKl).trans (hK i hi), hKl⟩
  have hR0 : Row ((((w.alloc (Obj.cells (h8 h) 96)).alloc (Obj.cells (arrK .u8 64 f) 97)).alloc (Obj.cells (arrK .u32 8 fun _ => 0) 96)).alloc (Obj.cells (arrK .u32 64 fun _ => 0) 177)) (w.heap.size + 1 + 1 + 1) 64 := (row_new (by simp)).2 hcz2.1
  have hr0 : rowAt ((((w.alloc (Obj.cells (h8 h) 96)).alloc (Obj.cells (arrK .u8 64 f) 97)).alloc (Obj.cells (arrK .u32 8 fun _ => 0) 96)).alloc (Obj.cells (arrK .u32 64 fun _ => 0) 177)) (w.heap.size + 1 + 1 + 1) = arrK .u32 64 (wK (fun i => be32 f (4 * i)) 0) := by rw [rowAt_new (by simp)]; exact arrK_congr fun i _ => by simp [wK]
  have hz0 : w.heap.size + 4 ≤ ((((w.alloc (Obj.cells (h8 h) 96)).alloc (Obj.cells (arrK .u8 64 f) 97)).alloc (Obj.cells (arrK .u32 8 fun _ => 0) 96)).alloc (Obj.cells (arrK .u32 64 fun _ => 0) 177)).heap.size := by simp
  generalize ((((w.alloc (Obj.cells (h8 h) 96)).alloc (Obj.cells (arrK .u8 64 f) 97)).alloc (Obj.cells (arrK .u32 8 fun _ => 0) 96)).alloc (Obj.cells (arrK .u32 64 fun _ => 0) 177)) = W0 at *
  generalize hb : (fun i => be32 f (4 * i)) = b at *
  go_loopw [20] (fun i wr => ∃ t : Nat, i = .int .i64 t ∧ t ≤ 64 ∧ PrAt wr w.heap.size h f K ∧ Row wr (w.heap.size + 1 + 1 + 1) 64 ∧ rowAt wr (w.heap.size + 1 + 1 + 1) = arrK .u32 64 (wK b t) ∧ Below w.heap.size w wr ∧ w.heap.size + 4 ≤ wr.heap.size) (fun i _ => 64 - (intOf i).toNat)
  case atStart => exact ⟨0, rfl, by omega, hP0, hR0, hr0, hL0, hz0⟩
  case round =>
    clear hP0 hR0 hr0 hL0 hz0
    obtain ⟨t, rfl, ht, hP, hR, hr, hL, hz⟩ := hrel
    by_cases h64 : t = 64
    · subst h64
      have hcw : arrK .u32 64 (wK b 64) = arrK .u32 64 (fun i => w2n (sch b i)) := arrK_congr fun i hi => wK_at b hi
      rw [hcw] at hr
      have hR2 := hP.R0
      have hr2 := hP.r0
      have hPa := hP.below ((Below.refl wr.heap.size wr).alloc (Nat.le_refl _) (.cells (h8 h) 96)) (by omega)
      have hRa := (row_old (o := .cells (h8 h) 96) (show w.heap.size + 1 + 1 + 1 < wr.heap.size by omega)).2 hR
      have hra := (rowAt_old (o := .cells (h8 h) 96) (show w.heap.size + 1 + 1 + 1 < wr.heap.size by omega)).trans hr
      have hLa := hL.alloc (by omega) (.cells (h8 h) 96)
      have hRz : Row (wr.alloc (.cells (arrK .u32 8 fun _ => 0) 96)) wr.heap.size 8 := (row_new rfl).2 (arrK_size _ _ _)
      rw [← zero8u] at hRz
      have hRv : Row (wr.alloc (.cells (h8 h) 96)) wr.heap.size 8 := (row_new rfl).2 (h8_size _)
      have hrv : rowAt (wr.alloc (.cells (h8 h) 96)) wr.heap.size = h8 (rounds K (sch b) h 0) := rowAt_new rfl
      have hza : wr.heap.size < (wr.alloc (.cells (h8 h) 96)).heap.size := by simp
      clear hcw
      go_wp2
      clear hR2 hr2 hRz hP hR hr hL
      generalize (wr.alloc (.cells (h8 h) 96)) = W1 at *
      generalize wr.heap.size = g4 at *
      rw [show ((64 : Nat) : Int) = (64 : Int) from rfl]
      go_loopw [70] (fun i wr => ∃ t : Nat, i = .int .i64 t ∧ t ≤ 64 ∧ PrAt wr w.heap.size h f K ∧ Row wr (w.heap.size + 1 + 1 + 1) 64 ∧ rowAt wr (w.heap.size + 1 + 1 + 1) = arrK .u32 64 (fun i => w2n (sch b i)) ∧ Row wr g4 8 ∧ rowAt wr g4 = h8 (rounds K (sch b) h t) ∧ Below w.heap.size w wr) (fun i _ => 64 - (intOf i).toNat)
      case atStart => exact ⟨0, rfl, by omega, hPa, hRa, hra, hRv, hrv, hLa⟩
      case round =>
        clear hPa hRa hra hRv hrv hLa hza
        obtain ⟨t, rfl, ht, hP, hR, hr, hRv, hrv, hL⟩ := hrel
        by_cases h64 : t = 64
        · subst h64
          generalize hvv : rounds K (sch b) h 64 = v at *
          have hRo := hP.R2
          have hR0 := hP.R0
          have hr0 : rowAt wr w.heap.size = arrK .u32 8 (addK h v 0) := hP.r0.trans (arrK_congr fun i _ => by simp [addK])
          have hg4 : w.heap.size + 4 ≤ g4 := hz
          clear hP hR hr hcz hcz2 hch hcf hK hz
          go_wp2
          rw [show ((64 : Nat) : Int) = (64 : Int) from rfl]
          go_loopw [148] (fun i wr => ∃ j : Nat, i = .int .i64 j ∧ j ≤ 8 ∧ Row wr w.heap.size 8 ∧ rowAt wr w.heap.size = arrK .u32 8 (addK h v j) ∧ Row wr (w.heap.size + 1 + 1) 8 ∧ Row wr g4 8 ∧ rowAt wr g4 = h8 v ∧ Below w.heap.size w wr) (fun i _ => 8 - (intOf i).toNat)
          case atStart => exact ⟨0, rfl, by omega, hR0, hr0, hRo, hRv, hrv, hL⟩
          case round =>
            clear hR0 hr0 hRo hRv hrv hL
            obtain ⟨j, rfl, hj, hR0, hr0, hRo, hRv, hrv, hL⟩ := hrel
            by_cases h8' : j = 8
            · subst h8'
              have e : arrK .u32 8 (addK h v 8) = h8 (prs K h b) := arrK_congr fun i hi => by simp only [addK, if_pos hi, prs, hvv]
              rw [e] at hr0
              have hcs := h8_cells (prs K h b)
              generalize hpr : prs K h b = pr at *
              have hfin := Lib.hid (show prs K h (fun i => be32 f (4 * i)) = pr by rw [hb, hpr])
              clear e hvv hrv hb hpr
              go_wp2
              refine ret_row rfl Tryd.underlying96 rfl (by kernel_rfl) rfl ((row_setRow_same rfl hRo).2 hcs.1) rfl ?_
              rw [rowAt_setRow_same hRo, hfin.out]
              exact ⟨rfl, below_setRow hL (by omega)⟩
            · have hst := arrK_congr (k := .u32) (n := 8) fun p _ => addK_step h v j p
              have c1 := hR0.cell j
              rw [hr0, arrK_at (by omega), addK_at] at c1
              have c2 : wr.cell? ⟨g4, j, none⟩ = some (u32v (v j)) := by rw [hRv.cell, hrv]; unfold h8; rw [arrK_at (by omega)]
              have hf1 := hR0.frozen j
              have mj : (j : Int) < 8 := by omega
              have zj : (0 : Int) ≤ (j : Int) := by omega
              have hHst := Lib.hid hst
              have hHr0 := Lib.hid hr0
              have hHrv := Lib.hid hrv
              clear hst hr0 hrv hvv
              go_wp2
              go_region
              go_wp2
              go_round
              case rel =>
                refine ⟨j + 1, by go_num, by omega, row_setCell.2 hR0, ?_, row_setCell.2 hRo, row_setCell.2 hRv, ?_, (hL.setCell (Nat.le_refl _) _).drew⟩
                · rw [rowAt_drew, rowAt_setCell_same, hHr0.out, arrK_set, hHst.out]
                · rw [rowAt_drew, rowAt_setCell_far (by simp; omega)]; exact hHrv.out
              case measure => simp [intOf]; omega
        · generalize hvv : rounds K (sch b) h t = v at *
          have hcv : ∀ i, i < 8 → wr.cell? ⟨g4, i, none⟩ = some (u32v (v i)) := fun i hi => by rw [hRv.cell, hrv]; unfold h8; rw [arrK_at hi]
          have c0 := hcv 0 (by omega)
          have c1 := hcv 1 (by omega)
          have c2 := hcv 2 (by omega)
          have c3 := hcv 3 (by omega)
          have c4 := hcv 4 (by omega)
          have c5 := hcv 5 (by omega)
          have c6 := hcv 6 (by omega)
          have c7 := hcv 7 (by omega)
          have ck := hP.k t (by omega)
          have cw : wr.cell? ⟨w.heap.size + 1 + 1 + 1, t, none⟩ = some (u32v (sch b t)) := by rw [hR.cell, hr, arrK_at (by omega)]
          have mt : (t : Int) < 64 := by omega
          have zt : (0 : Int) ≤ (t : Int) := by omega
          have hHvv := Lib.hid hvv
          have hHrv := Lib.hid hrv
          have hHr := Lib.hid hr
          have hHP := Lib.hid hP
          have hcs : Cells #[u32v (one (K t) (sch b t) v + two v), u32v (v 0), u32v (v 1), u32v (v 2), u32v (v 3 + one (K t) (sch b t) v), u32v (v 4), u32v (v 5), u32v (v 6)] 8 := ⟨rfl, by simp [Value.oneCell']⟩
          have ho := (show v 7 + (rotr (v 4) 6 ^^^ rotr (v 4) 11 ^^^ rotr (v 4) 25) + ((v 4 &&& v 5) ^^^ (~~~(v 4) &&& v 6)) + K t + sch b t = one (K t) (sch b t) v from rfl)
          have htw := (show (rotr (v 0) 2 ^^^ rotr (v 0) 13 ^^^ rotr (v 0) 22) + ((v 0 &&& v 1) ^^^ (v 0 &&& v 2) ^^^ (v 1 &&& v 2)) = two v from rfl)
          clear hcv hvv hrv hr hP hcz hcz2 hch hcf hK
          go_wp2
          go_region_held3 (fun w' => w'.cell? ⟨g4, 0, none⟩ = some (u32v (v 0)) ∧ w'.cell? ⟨g4, 1, none⟩ = some (u32v (v 1)) ∧ w'.cell? ⟨g4, 2, none⟩ = some (u32v (v 2)) ∧ w'.cell? ⟨g4, 4, none⟩ = some (u32v (v 4)) ∧ w'.cell? ⟨g4, 5, none⟩ = some (u32v (v 5)) ∧ w'.cell? ⟨g4, 6, none⟩ = some (u32v (v 6)))
            (exact ⟨c0, c1, c2, c4, c5, c6⟩) (fail)
          go_wp2
          go_region_held3 (fun w' => w'.cell? ⟨g4, 7, none⟩ = some (u32v (v 7)) ∧ w'.cell? ⟨1, t, none⟩ = some (u32v (K t)) ∧ w'.cell? ⟨w.heap.size + 1 + 1 + 1, t, none⟩ = some (u32v (sch b t)))
            (exact ⟨c7, ck, cw⟩)
            (first
              | (go_at_call 118; (first | with_reducible refine (hash_right6 _ _).mono ?_ | with_reducible refine (hash_right11 _ _).mono ?_ | with_reducible refine (hash_right25 _ _).mono ?_); rintro e w' ⟨rfl, rfl⟩))
          go_wp2_with (go_at_call 118; (first | with_reducible refine (hash_right2 _ _).mono ?_ | with_reducible refine (hash_right13 _ _).mono ?_ | with_reducible refine (hash_right22 _ _).mono ?_); rintro e w' ⟨rfl, rfl⟩)
          go_round
          case rel =>
            have hX : Below g4 wr (wr.drew.drew.setRow g4 #[u32v (one (K t) (sch b t) v + two v), u32v (v 0), u32v (v 1), u32v (v 2), u32v (v 3 + one (K t) (sch b t) v), u32v (v 4), u32v (v 5), u32v (v 6)]) := below_setRow (Below.refl _ _).drew.drew (Nat.le_refl _)
            refine ⟨t + 1, by go_num, by omega, hHP.out.below hX (by omega), row_below hR hX (by omega), (rowAt_below hX (by omega)).trans hHr.out, (row_setRow_same (w := wr.drew.drew) rfl hRv).2 hcs.1, ?_, hL.trans (hX.mono (by omega))⟩
            refine (rowAt_setRow_same (w := wr.drew.drew) hRv).trans ?_
            show _ = h8 (rnd (K t) (sch b t) (rounds K (sch b) _ t))
            rw [hHvv.out]
            exact arrK8' .u32 fun i => w2n (rnd (K t) (sch b t) v i)
          case measure => simp [intOf]; omega
    · have hst := arrK_congr (k := .u32) (n := 64) fun p _ => wK_step b t p
      have hHst := Lib.hid hst
      have hfr := hR.frozen t
      have hct := hR.cell t
      rw [hr, arrK_at (by omega)] at hct
      have hHr := Lib.hid hr
      by_cases h16 : t < 16
      · have hsb : sch b t = be32 f (4 * t) := by rw [sch_lo b h16, ← hb]
        have hrd : Rd wr wr.heap.size (some ⟨w.heap.size + 1, 0, none⟩) (arrK .u8 64 f).toList := by
          obtain ⟨cs, tt, hh, hl⟩ := hP.R1
          have e : cs = arrK .u8 64 f := by have := hP.r1; simpa [rowAt, hh] using this
          have := Rd.of_blk (B := wr.heap.size) hh hP.R1.lt
          rw [e] at this; exact this
        have hHsb := Lib.hid hsb
        have hHP := Lib.hid hP
        clear hst hr hsb
        have hcon := hash_word (some ⟨w.heap.size + 1, 0, none⟩) 64 64 f (4 * t) wr hrd hf (by omega) (by omega)
        push_cast at hcon
        have hHcon := Lib.hid hcon
        clear hcon hrd
        go_wp2_with (go_at_call 117; refine hHcon.out.mono ?_; rintro e w' ⟨rfl, rfl⟩)
        go_round
        case rel =>
          have hbs : Below (w.heap.size + 1 + 1 + 1) wr (wr.setCell ⟨w.heap.size + 1 + 1 + 1, t, none⟩ (.int .u32 (w2n (be32 f (4 * t)) : Int))).drew := ((Below.refl (w.heap.size + 1 + 1 + 1) wr).setCell (p := ⟨w.heap.size + 1 + 1 + 1, t, none⟩) (Nat.le_refl _) _).drew
          exact ⟨t + 1, by go_num, by omega, hHP.out.below hbs (by omega), row_setCell.2 hR, by rw [rowAt_drew, rowAt_setCell_same, hHr.out, arrK_set, ← hHsb.out, hHst.out], hL.trans (hbs.mono (by omega)), Nat.le_trans hz hbs.size⟩
        case measure => simp [intOf]; omega
      · obtain ⟨a1, ha1⟩ : ∃ a1, a1 = t - 16 := ⟨_, rfl⟩
        obtain ⟨a2, ha2⟩ : ∃ a2, a2 = t - 15 := ⟨_, rfl⟩
        obtain ⟨a3, ha3⟩ : ∃ a3, a3 = t - 7 := ⟨_, rfl⟩
        obtain ⟨a4, ha4⟩ : ∃ a4, a4 = t - 2 := ⟨_, rfl⟩
        have hsb := sch_hi b (t := t) (by omega)
        rw [← ha1, ← ha2, ← ha3, ← ha4] at hsb
        have hi1 : (t : Int) - 16 = a1 := by omega
        have hi2 : (t : Int) - 15 = a2 := by omega
        have hi3 : (t : Int) - 7 = a3 := by omega
        have hi4 : (t : Int) - 2 = a4 := by omega
        have l1 : a1 < t := by omega
        have l2 : a2 < t := by omega
        have l3 : a3 < t := by omega
        have l4 : a4 < t := by omega
        have hc : ∀ i, i < t → wr.cell? ⟨w.heap.size + 1 + 1 + 1, i, none⟩ = some (u32v (sch b i)) := fun i hi => by rw [hR.cell, hr, arrK_at (by omega), wK_at b hi]
        have c1 := hc a1 l1
        have c2 := hc a2 l2
        have c3 := hc a3 l3
        have c4 := hc a4 l4
        have hw1 : IntKind.i64.wrap (a1 : Int) = a1 := by rw [IntKind.wrap_i64]; omega
        have hw2 : IntKind.i64.wrap (a2 : Int) = a2 := by rw [IntKind.wrap_i64]; omega
        have hw3 : IntKind.i64.wrap (a3 : Int) = a3 := by rw [IntKind.wrap_i64]; omega
        have hw4 : IntKind.i64.wrap (a4 : Int) = a4 := by rw [IntKind.wrap_i64]; omega
        have m1 : (a1 : Int) < 64 := by omega
        have m2 : (a2 : Int) < 64 := by omega
        have m3 : (a3 : Int) < 64 := by omega
        have m4 : (a4 : Int) < 64 := by omega
        have mt : (t : Int) < 64 := by omega
        have z1 : (0 : Int) ≤ (a1 : Int) := by omega
        have z2 : (0 : Int) ≤ (a2 : Int) := by omega
        have z3 : (0 : Int) ≤ (a3 : Int) := by omega
        have z4 : (0 : Int) ≤ (a4 : Int) := by omega
        have hHsb := Lib.hid hsb
        have hHP := Lib.hid hP
        clear hst hr hsb hc ha1 ha2 ha3 ha4 hP hcz hcz2 hch hcf hK
        go_wp2
        go_region
        go_wp2
        have hne1 : a1 ≠ t := by omega
        have hne3 : a3 ≠ t := by omega
        go_region_held3 (fun w' => w'.cell? ⟨w.heap.size + 1 + 1 + 1, a1, none⟩ = some (u32v (sch b a1)) ∧ w'.cell? ⟨w.heap.size + 1 + 1 + 1, a3, none⟩ = some (u32v (sch b a3)))
          (first | exact ⟨c1, c3⟩ | exact ⟨cell_ne c1 hne1, cell_ne c3 hne3⟩)
          (first
            | (go_at_call 118; (first | with_reducible refine (hash_right7 _ _).mono ?_ | with_reducible refine (hash_right18 _ _).mono ?_ | with_reducible refine (hash_right17 _ _).mono ?_ | with_reducible refine (hash_right19 _ _).mono ?_); rintro e w' ⟨rfl, rfl⟩))
        go_wp2
        go_round
        case rel =>
          have hbs : Below (w.heap.size + 1 + 1 + 1) wr (wr.setCell ⟨w.heap.size + 1 + 1 + 1, t, none⟩ (.int .u32 (w2n (sch b a1 + (rotr (sch b a2) 7 ^^^ rotr (sch b a2) 18 ^^^ sch b a2 >>> 3) + sch b a3 + (rotr (sch b a4) 17 ^^^ rotr (sch b a4) 19 ^^^ sch b a4 >>> 10)) : Int))).drew.drew := ((Below.refl (w.heap.size + 1 + 1 + 1) wr).setCell (p := ⟨w.heap.size + 1 + 1 + 1, t, none⟩) (Nat.le_refl _) _).drew.drew
          exact ⟨t + 1, by go_num, by omega, hHP.out.below hbs (by omega), row_setCell.2 hR, by rw [rowAt_drew, rowAt_drew, rowAt_setCell_same, hHr.out, arrK_set, ← hHst.out, hHsb.out]; rfl, hL.trans (hbs.mono (by omega)), Nat.le_trans hz hbs.size⟩
        case measure => simp [intOf]; omega
end Go.Proofs.YtdlmamnnamlleaaDoor
