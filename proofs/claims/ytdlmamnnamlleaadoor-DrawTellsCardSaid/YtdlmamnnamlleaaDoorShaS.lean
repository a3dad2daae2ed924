/- Contracts of package hash: a state's Sum, Sum. -/
import Derived.Test.YtdlmamnnamlleaaDoorShaQ
import Derived.Test.YtdlmamnnamlleaaDoorRet
import Derived.Deep.RegionLaw
namespace Go.Proofs.YtdlmamnnamlleaaDoor
open Go.ChangeShapes Go.WideShapes Go.ChangeAt Go.RowKit
set_option maxHeartbeats 2000000
set_option maxRecDepth 100000
attribute [local irreducible] arrV
attribute [local go_sem ↓] load_state store_state execl_state execs_state load_words
attribute [local go_sem] isHead_mk isPart_mk offOf_mk blkOf_mk isAgg_mk cellsV_mk row_drew rowAt_drew row_new_cells row_old rowAt_new rowAt_old setRow_new stC_words

theorem load_o32 {w : World} {dst : Option Tmp} {x : Operand} {tt : TypeId} {pos : String} {af : Array Edge} {gd : Option (Nat × Bool)} {a : Act} {K : Act → World → Prop} {Q : Exit → Act → World → Prop}
    (hv : IsHead (a.eval x)) (h : Row w (blkOf (a.eval x)) 32) : Oper.wp Tryd.prog ⟨dst, .load 57 x, tt, pos, af, gd⟩ a w K Q ↔ K (a.put dst (.agg (rowAt w (blkOf (a.eval x))))) w :=
  wp_load_whole Tryd.underlying57 rfl (by kernel_rfl) hv h
theorem store_o32 {w : World} {dst : Option Tmp} {x y : Operand} {tt : TypeId} {pos : String} {af : Array Edge} {gd : Option (Nat × Bool)} {a : Act} {K : Act → World → Prop} {Q : Exit → Act → World → Prop}
    (hv : IsHead (a.eval x)) (h : Row w (blkOf (a.eval x)) 32) (hx : IsAgg (a.eval y) 32) : Oper.wp Tryd.prog ⟨dst, .store 57 x y, tt, pos, af, gd⟩ a w K Q ↔ K (a.put dst undef) (w.setRow (blkOf (a.eval x)) (cellsV (a.eval y))) :=
  wp_store_whole (by kernel_rfl) hv h hx
theorem execl_o32 {w : World} {dst : Option Tmp} {x : Operand} {tt : TypeId} {pos : String} {af : Array Edge} {gd : Option (Nat × Bool)} {ρ : Operand → Value}
    (hv : IsHead (ρ x)) (h : Row w (blkOf (ρ x)) 32) : (execOp ρ ⟨dst, .load 57 x, tt, pos, af, gd⟩).run Tryd.prog w = .ok (.value (.agg (rowAt w (blkOf (ρ x))))) w :=
  exec_load_whole Tryd.underlying57 rfl (by kernel_rfl) hv h
theorem execs_o32 {w : World} {dst : Option Tmp} {x y : Operand} {tt : TypeId} {pos : String} {af : Array Edge} {gd : Option (Nat × Bool)} {ρ : Operand → Value}
    (hv : IsHead (ρ x)) (h : Row w (blkOf (ρ x)) 32) (hx : IsAgg (ρ y) 32) : (execOp ρ ⟨dst, .store 57 x y, tt, pos, af, gd⟩).run Tryd.prog w = .ok .skip (w.setRow (blkOf (ρ x)) (cellsV (ρ y))) :=
  exec_store_whole (by kernel_rfl) hv h hx
attribute [local go_sem ↓] load_o32 store_o32
theorem zeroB32 : #[Value.int IntKind.u8 0, Value.int IntKind.u8 0, Value.int IntKind.u8 0, Value.int IntKind.u8 0, Value.int IntKind.u8 0, Value.int IntKind.u8 0, Value.int IntKind.u8 0, Value.int IntKind.u8 0, Value.int IntKind.u8 0, Value.int IntKind.u8 0, Value.int IntKind.u8 0, Value.int IntKind.u8 0, Value.int IntKind.u8 0, Value.int IntKind.u8 0, Value.int IntKind.u8 0, Value.int IntKind.u8 0, Value.int IntKind.u8 0, Value.int IntKind.u8 0, Value.int IntKind.u8 0, Value.int IntKind.u8 0, Value.int IntKind.u8 0, Value.int IntKind.u8 0, Value.int IntKind.u8 0, Value.int IntKind.u8 0, Value.int IntKind.u8 0, Value.int IntKind.u8 0, Value.int IntKind.u8 0, Value.int IntKind.u8 0, Value.int IntKind.u8 0, Value.int IntKind.u8 0, Value.int IntKind.u8 0, Value.int IntKind.u8 0] = arrK .u8 32 fun _ => 0 := by kernel_rfl

def outK (h : Nat → W32) (k : Nat) : Nat → Nat := fun i => if i / 4 < k then outF h i else 0
theorem outK_step (h : Nat → W32) {k q : Nat} (hq : q = 4 * k) : arrK .u8 32 (upd (upd (upd (upd (outK h k) q (w2n (h k) / 16777216 % 256)) (q + 1) (w2n (h k) / 65536 % 256)) (q + 2) (w2n (h k) / 256 % 256)) (q + 3) (w2n (h k) % 256)) = arrK .u8 32 (outK h (k + 1)) := by
  refine arrK_congr fun i hi => ?_
  unfold upd outK outF
  subst hq
  by_cases e3 : i = 4 * k + 3
  · subst e3
    rw [if_pos rfl, if_pos (by omega), show (4 * k + 3) / 4 = k by omega, show (4 * k + 3) % 4 = 3 by omega]
    simp
  · rw [if_neg e3]
    by_cases e2 : i = 4 * k + 2
    · subst e2
      rw [if_pos rfl, if_pos (by omega), show (4 * k + 2) / 4 = k by omega, show (4 * k + 2) % 4 = 2 by omega]
    · rw [if_neg e2]
      by_cases e1 : i = 4 * k + 1
      · subst e1
        rw [if_pos rfl, if_pos (by omega), show (4 * k + 1) / 4 = k by omega, show (4 * k + 1) % 4 = 1 by omega]
      · rw [if_neg e1]
        by_cases e0 : i = 4 * k
        · subst e0
          rw [if_pos rfl, if_pos (by omega), show 4 * k / 4 = k by omega, show 4 * k % 4 = 0 by omega]
        · rw [if_neg e0]
          by_cases h1 : i / 4 < k
          · rw [if_pos h1, if_pos (by omega)]
          · rw [if_neg h1, if_neg (by omega)]
theorem hash_StSum (K : Nat → W32) (s : St) (w : World) (hs : s.ok)
    (hK : ∀ i < 64, w.cell? ⟨1, i, none⟩ = some (u32v (K i))) (hKl : 1 < w.heap.size) :
    Calls Tryd.prog 76 #[.agg s.cells] w fun e w' => e = .returned (.agg (arrK .u8 32 (outF (s.write K (padL s.m)).h))) ∧ Below w.heap.size w w' := by
  have hch := stC_cells s.h s.m s.f
  have hcz := arrK_cells .u8 32 fun _ => 0
  have hL0 : Below w.heap.size w ((w.alloc (Obj.cells s.cells 99)).alloc (Obj.cells (arrK .u8 32 fun _ => 0) 57)) := by go_grown
  have hR0 : Row ((w.alloc (Obj.cells s.cells 99)).alloc (Obj.cells (arrK .u8 32 fun _ => 0) 57)) w.heap.size 73 := (row_old (by simp)).2 ((row_new rfl).2 hch.1)
  have hr0 : rowAt ((w.alloc (Obj.cells s.cells 99)).alloc (Obj.cells (arrK .u8 32 fun _ => 0) 57)) w.heap.size = s.cells := (rowAt_old (by simp)).trans (rowAt_new rfl)
  have hR1 : Row ((w.alloc (Obj.cells s.cells 99)).alloc (Obj.cells (arrK .u8 32 fun _ => 0) 57)) (w.heap.size + 1) 32 := (row_new (by simp)).2 hcz.1
  have hK0 : ∀ i < 64, ((w.alloc (Obj.cells s.cells 99)).alloc (Obj.cells (arrK .u8 32 fun _ => 0) 57)).cell? ⟨1, i, none⟩ = some (u32v (K i)) := fun i hi => ((bcell hL0).1 _ _ hKl).trans (hK i hi)
  have hsz : w.heap.size + 2 ≤ ((w.alloc (Obj.cells s.cells 99)).alloc (Obj.cells (arrK .u8 32 fun _ => 0) 57)).heap.size := by simp
  have hHK := Lib.hid hK0
  clear hK hK0
  go_enter Tryd.func76, Tryd.ntmps76
  go_wp2
  rw [zeroB32]
  generalize ((w.alloc (Obj.cells s.cells 99)).alloc (Obj.cells (arrK .u8 32 fun _ => 0) 57)) = W0 at *
  have hHr := Lib.hid hr0
  have hc8 : W0.cell? ⟨w.heap.size, 8, none⟩ = some (.int .u64 (s.m : Int)) := by rw [hR0.cell, hr0, stC_m]
  have hcw := stC_cells (s.write K (padL s.m)).h (s.write K (padL s.m)).m (s.write K (padL s.m)).f
  go_region_law (first
      | (go_simp; go_at_call 104; (with_reducible refine (hash_Pad s.m _).mono ?_); rintro e w2 ⟨A, c, rfl, hlc, hcm, hrd, hb2⟩; have hL2 := below_step hb2 (Below.refl _ _).drew (Nat.le_refl W0.heap.size); have hR2 := row_below hR0 hL2 (by omega); have hr2 := (rowAt_below hL2 (by omega)).trans hr0)
      | (go_simp; go_at_call 75; refine (hash_write K A (padL s.m) c s _ hs hrd hlc hcm (fun i hi => ((bcell hL2).1 _ _ (by omega)).trans (hHK.out i hi)) (Nat.lt_of_lt_of_le (show 1 < W0.heap.size by omega) hL2.size)).mono ?_; rintro e w3 ⟨rfl, hb3⟩; have hL3 := below_step hb3 hL2 (Nat.le_refl W0.heap.size); have hR3 := row_below hR0 hL3 (by omega)))
  all_goals
    clear hr0 hr2 hc8 hrd hb2 hlc hcm hb3
    have hW : Row (w3.setRow w.heap.size (s.write K (padL s.m)).cells) w.heap.size 73 := (row_setRow_same rfl hR3).2 hcw.1
    have hWr : rowAt (w3.setRow w.heap.size (s.write K (padL s.m)).cells) w.heap.size = (s.write K (padL s.m)).cells := rowAt_setRow_same hR3
    have hWo : Row (w3.setRow w.heap.size (s.write K (padL s.m)).cells) (w.heap.size + 1) 32 := (row_setRow_far (by omega)).2 (row_below hR1 hL3 (by omega))
    have hWL : Below w.heap.size w (w3.setRow w.heap.size (s.write K (padL s.m)).cells) := below_setRow (hL0.trans (hL3.mono (by omega))) (Nat.le_refl _)
    have hWz : w.heap.size + 2 ≤ (w3.setRow w.heap.size (s.write K (padL s.m)).cells).heap.size := Nat.le_trans hsz (by have := hL3.size; simpa using this)
    generalize hs1 : s.write K (padL s.m) = s1 at *
    have hHs1 := Lib.hid hs1
    clear hs1
    generalize w3.setRow w.heap.size s1.cells = W1 at *
    have hlt : w.heap.size < W1.heap.size := by omega
    have hz1 : Row (W1.alloc (Obj.cells (arrK .u8 32 fun _ => 0) 57)) W1.heap.size 32 := (row_new rfl).2 hcz.1
    have hL2 : Below w.heap.size w (W1.alloc (Obj.cells (arrK .u8 32 fun _ => 0) 57)) := hWL.alloc (by omega) _
    have hz2 : W1.heap.size < (W1.alloc (Obj.cells (arrK .u8 32 fun _ => 0) 57)).heap.size := by simp
    have hWo2 : Row (W1.alloc (Obj.cells (arrK .u8 32 fun _ => 0) 57)) (w.heap.size + 1) 32 := (row_old (by omega)).2 hWo
    have hrz : rowAt (W1.alloc (Obj.cells (arrK .u8 32 fun _ => 0) 57)) W1.heap.size = arrK .u8 32 (outK s1.h 0) := (rowAt_new rfl).trans (arrK_congr fun i _ => by simp [outK])
    go_wp2
    rw [zeroB32]
    generalize (W1.alloc (Obj.cells (arrK .u8 32 fun _ => 0) 57)) = W2 at *
    generalize W1.heap.size = g at *
    go_loopw [4, 5, 13] (fun _ _ i wr => ∃ k : Nat, i = .int .i64 k ∧ k ≤ 8 ∧ Row wr g 32 ∧ rowAt wr g = arrK .u8 32 (outK s1.h k) ∧ Row wr (w.heap.size + 1) 32 ∧ Below w.heap.size w wr) (fun _ _ i _ => 8 - (intOf i).toNat)
    case atStart => exact ⟨0, rfl, by omega, hz1, hrz, hWo2, hL2⟩
    case round =>
      clear hz1 hrz hWo2 hL2 hW hWr hWo hWL
      obtain ⟨k, rfl, hk, hR, hr, hRo, hL⟩ := hrel
      by_cases h8k : k = 8
      · subst h8k
        have e : arrK .u8 32 (outK s1.h 8) = arrK .u8 32 (outF s1.h) := arrK_congr fun i hi => by unfold outK; rw [if_pos (by omega)]
        rw [e] at hr
        have hco := arrK_cells .u8 32 (outF s1.h)
        clear e
        go_wp2
        exact ret_stored (p := 2) (ty := 57) (g := w.heap.size + 1) (n := 32) (c := arrK .u8 32 (outF s1.h)) rfl Tryd.underlying57 rfl (by kernel_rfl) rfl hRo hco.1 rfl ⟨by rw [hHs1.out], below_setRow hL (by omega)⟩
      · have hix : ∀ W : World, (Instr.index 96 (.agg (h8 s1.h)) (.int .i64 (k : Int))).run Tryd.prog W = .ok (u32v (s1.h k)) W := fun W =>
          index_arrK Tryd.underlying96 Tryd.underlying95 (by kernel_rfl) (by omega) .i64 W
        obtain ⟨q, hq⟩ : ∃ q, q = 4 * k := ⟨_, rfl⟩
        have hqi : 4 * (k : Int) = (q : Int) := by omega
        have hq32 : q + 3 < 32 := by omega
        have hcell : ∀ i, i < 32 → wr.cell? ⟨g, i, none⟩ = some (.int .u8 (outK s1.h k i : Int)) := fun i hi => by rw [hR.cell, hr, arrK_at hi]
        have c0 := hcell q (by omega)
        have c1 := hcell (q + 1) (by omega)
        have c2 := hcell (q + 2) (by omega)
        have c3 := hcell (q + 3) (by omega)
        have f0 := hR.frozen q
        have f1 := hR.frozen (q + 1)
        have f2 := hR.frozen (q + 2)
        have f3 := hR.frozen (q + 3)
        have z0 : (0 : Int) ≤ (q : Int) := by omega
        have z1 : (0 : Int) ≤ (q : Int) + 1 := by omega
        have z2 : (0 : Int) ≤ (q : Int) + 2 := by omega
        have z3 : (0 : Int) ≤ (q : Int) + 3 := by omega
        have l0 : (q : Int) < 32 := by omega
        have l1 : (q : Int) + 1 < 32 := by omega
        have l2 : (q : Int) + 2 < 32 := by omega
        have l3 : (q : Int) + 3 < 32 := by omega
        clear hcell
        have hHq := Lib.hid hq
        have hkk : (k : Int) < 8 := by omega
        clear hq
        have hHr2 := Lib.hid hr
        clear hr
        go_wp2
        go_round
        case rel =>
          have hgw : w.heap.size ≤ g := by omega
          have e1 : ((w2n (s1.h k) : Int) / 16777216 % 256) = ((w2n (s1.h k) / 16777216 % 256 : Nat) : Int) := by omega
          have e2 : ((w2n (s1.h k) : Int) / 65536 % 256) = ((w2n (s1.h k) / 65536 % 256 : Nat) : Int) := by omega
          have e3 : ((w2n (s1.h k) : Int) / 256 % 256) = ((w2n (s1.h k) / 256 % 256 : Nat) : Int) := by omega
          have e4 : ((w2n (s1.h k) : Int) % 256) = ((w2n (s1.h k) % 256 : Nat) : Int) := by omega
          refine ⟨k + 1, by go_num, by omega, row_setCell.2 (row_setCell.2 (row_setCell.2 (row_setCell.2 hR))), ?_, row_setCell.2 (row_setCell.2 (row_setCell.2 (row_setCell.2 hRo))), (((hL.setCell (p := ⟨g, _, none⟩) hgw _).setCell (p := ⟨g, _, none⟩) hgw _).setCell (p := ⟨g, _, none⟩) hgw _).setCell (p := ⟨g, _, none⟩) hgw _⟩
          rw [rowAt_setCell_same, rowAt_setCell_same, rowAt_setCell_same, rowAt_setCell_same, hHr2.out, e1, e2, e3, e4, arrK_set, arrK_set, arrK_set, arrK_set, outK_step _ hHq.out]
        case measure => simp [intOf]; omega
theorem stF_ok (h : Nat → W32) : St.ok ⟨h, 0, fun _ => 0⟩ := ⟨by show 0 < _; omega, fun _ _ => by show 0 < _; omega⟩
theorem hash_Sum (K : Nat → W32) (A : Option Addr) (l : List UInt8) (c : Nat) (w : World) (hrd : Rd w w.heap.size A (bytesV l)) (hlc : l.length ≤ c) (hcm : c ≤ maxLen)
    (hK : ∀ i < 64, w.cell? ⟨1, i, none⟩ = some (u32v (K i))) (hKl : 1 < w.heap.size) :
    Calls Tryd.prog 49 #[.slice A l.length c] w fun e w' => e = .returned (.agg (arrK .u8 32 (dig K iv 0 l))) ∧ Below w.heap.size w w' := by
  have hcz := arrK_cells .u8 32 fun _ => 0
  have hL0 : Below w.heap.size w (w.alloc (Obj.cells (arrK .u8 32 fun _ => 0) 57)) := by go_grown
  have hR0 : Row (w.alloc (Obj.cells (arrK .u8 32 fun _ => 0) 57)) w.heap.size 32 := (row_new rfl).2 hcz.1
  have hsz : w.heap.size < (w.alloc (Obj.cells (arrK .u8 32 fun _ => 0) 57)).heap.size := by simp
  go_enter Tryd.func49, Tryd.ntmps49
  go_wp2_with fail
  rw [zeroB32]
  generalize w.alloc (Obj.cells (arrK .u8 32 fun _ => 0) 57) = W0 at *
  refine (hash_new _).mono ?_
  rintro e w1 ⟨rfl, hb1⟩
  have hL1 := below_step hb1 hL0 (Nat.le_refl _)
  have hrd1 : Rd w1 w1.heap.size A (bytesV l) := (hrd.below hL1).more hL1.size
  have hK1 := Lib.hid (show ∀ i < 64, w1.cell? ⟨1, i, none⟩ = some (u32v (K i)) from fun i hi => ((bcell hL1).1 _ _ hKl).trans (hK i hi))
  go_wp2_with fail
  refine (hash_write K A l c ⟨iv, 0, fun _ => 0⟩ _ (stF_ok _) hrd1 hlc hcm hK1.out (Nat.lt_of_lt_of_le hKl hL1.size)).mono ?_
  rintro e w2 ⟨rfl, hb2⟩
  have hL2 := below_step hb2 hL1 (Nat.le_refl _)
  have hK2 := Lib.hid (show ∀ i < 64, w2.cell? ⟨1, i, none⟩ = some (u32v (K i)) from fun i hi => ((bcell hL2).1 _ _ hKl).trans (hK i hi))
  have hd := Lib.hid (write_dig (K := K) (s := ⟨iv, 0, fun _ => 0⟩) (l := l) rfl (by show 0 < _; omega))
  go_wp2_with fail
  refine (hash_StSum K _ _ (St.write_ok l (stF_ok iv)) hK2.out (Nat.lt_of_lt_of_le hKl hL2.size)).mono ?_
  rintro e w3 ⟨rfl, hb3⟩
  have hL3 := below_step hb3 hL2 (Nat.le_refl _)
  have hR3 := row_below hR0 (below_step hb3 (below_step hb2 (below_step hb1 (Below.refl _ _) (Nat.le_refl W0.heap.size)) (Nat.le_refl _)) (Nat.le_refl _)) hR0.lt
  have hco := arrK_cells .u8 32 (outF (St.write K (St.write K ⟨iv, 0, fun _ => 0⟩ l) (padL (St.write K ⟨iv, 0, fun _ => 0⟩ l).m)).h)
  generalize hx : outF (St.write K (St.write K ⟨iv, 0, fun _ => 0⟩ l) (padL (St.write K ⟨iv, 0, fun _ => 0⟩ l).m)).h = x at *
  have hHx := Lib.hid hx
  clear hx
  go_wp2
  refine ret_stored (p := 2) (ty := 57) (g := w.heap.size) (n := 32) (c := arrK .u8 32 x) rfl Tryd.underlying57 rfl (by kernel_rfl) rfl hR3 hco.1 rfl ⟨?_, below_setRow hL3 (Nat.le_refl _)⟩
  rw [← hHx.out, hd.out]
  rfl
end Go.Proofs.YtdlmamnnamlleaaDoor
