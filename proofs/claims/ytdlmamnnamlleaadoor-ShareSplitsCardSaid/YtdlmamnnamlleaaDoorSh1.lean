/- Shares: their cells, a slice of them, as it came in. -/
import Derived.Test.YtdlmamnnamlleaaDoorPl
import Derived.Test.YtdlmamnnamlleaaDoorOpen
import Derived.Test.YtdlmamnnamlleaaDoorArgs
namespace Go.Proofs.YtdlmamnnamlleaaDoor
open Go Go.RowKit Go.ChangeShapes Go.WideShapes Go.ChangeAt Go.Deep
set_option maxHeartbeats 1000000
set_option maxRecDepth 100000
theorem load_sh {w : World} {dst : Option Tmp} {x : Operand} {tt : TypeId} {pos : String} {af : Array Edge} {gd : Option (Nat × Bool)} {a : Act} {K : Act → World → Prop} {Q : Exit → Act → World → Prop}
    (hv : IsHead (a.eval x)) (h : Row w (blkOf (a.eval x)) 5) : Oper.wp Tryd.prog ⟨dst, .load 114 x, tt, pos, af, gd⟩ a w K Q ↔ K (a.put dst (.agg (rowAt w (blkOf (a.eval x))))) w :=
  wp_load_whole Tryd.underlying114 rfl (by kernel_rfl) hv h
theorem store_sh {w : World} {dst : Option Tmp} {x y : Operand} {tt : TypeId} {pos : String} {af : Array Edge} {gd : Option (Nat × Bool)} {a : Act} {K : Act → World → Prop} {Q : Exit → Act → World → Prop}
    (hv : IsHead (a.eval x)) (h : Row w (blkOf (a.eval x)) 5) (hx : IsAgg (a.eval y) 5) : Oper.wp Tryd.prog ⟨dst, .store 114 x y, tt, pos, af, gd⟩ a w K Q ↔ K (a.put dst undef) (w.setRow (blkOf (a.eval x)) (cellsV (a.eval y))) :=
  wp_store_whole (by kernel_rfl) hv h hx
theorem execl_sh {w : World} {dst : Option Tmp} {x : Operand} {tt : TypeId} {pos : String} {af : Array Edge} {gd : Option (Nat × Bool)} {ρ : Operand → Value}
    (hv : IsHead (ρ x)) (h : Row w (blkOf (ρ x)) 5) : (execOp ρ ⟨dst, .load 114 x, tt, pos, af, gd⟩).run Tryd.prog w = .ok (.value (.agg (rowAt w (blkOf (ρ x))))) w :=
  exec_load_whole Tryd.underlying114 rfl (by kernel_rfl) hv h
theorem execs_sh {w : World} {dst : Option Tmp} {x y : Operand} {tt : TypeId} {pos : String} {af : Array Edge} {gd : Option (Nat × Bool)} {ρ : Operand → Value}
    (hv : IsHead (ρ x)) (h : Row w (blkOf (ρ x)) 5) (hx : IsAgg (ρ y) 5) : (execOp ρ ⟨dst, .store 114 x y, tt, pos, af, gd⟩).run Tryd.prog w = .ok .skip (w.setRow (blkOf (ρ x)) (cellsV (ρ y))) :=
  exec_store_whole (by kernel_rfl) hv h hx
theorem load_shE {w : World} {dst : Option Tmp} {x : Operand} {tt : TypeId} {pos : String} {af : Array Edge} {gd : Option (Nat × Bool)} {a : Act} {K : Act → World → Prop} {Q : Exit → Act → World → Prop} (h : LdOk w 5 (a.eval x)) : Oper.wp Tryd.prog ⟨dst, .load 114 x, tt, pos, af, gd⟩ a w K Q ↔ K (a.put dst (.agg (ldC w 5 (a.eval x)))) w := wp_load_el Tryd.underlying114 rfl (by kernel_rfl) h
/-- A share's cells. -/
def shA (x : Int) (y : Nat) : Array Value := arrV 5 fun i => if i = 0 then .int .i64 x else .int .u64 (wd y (i - 1) : Nat)
theorem shA_cells (x : Int) (y : Nat) : Cells (shA x y) 5 := arrV_cells fun i _ => by split <;> rfl
theorem shA_0 (x : Int) (y : Nat) : (shA x y)[0]? = some (.int .i64 x) := arrV_at (by omega)
theorem shA_1 (x : Int) (y : Nat) : (shA x y).extract 1 (1 + 4) = arrK .u64 4 (wd y) := by
  unfold shA
  rw [arrV_extract (by omega), arrK_V .u64 4]
  exact arrV_congr fun i hi => by rw [if_neg (by omega), Nat.add_sub_cancel_left]
theorem shA_some (x : Int) (y : Nat) : ∀ i < 5, ((shA x y)[i]?).isSome = true := fun i hi => by unfold shA; rw [arrV_at hi]; rfl
theorem zeroSh : #[Value.int IntKind.i64 0, Value.int IntKind.u64 0, Value.int IntKind.u64 0, Value.int IntKind.u64 0, Value.int IntKind.u64 0] = shA 0 0 := by kernel_rfl
theorem build_sh (x : Int) (y : Nat) (w : World) : (Instr.build 114 #[(0, .int .i64 x), (1, .agg (arrK .u64 4 (wd y)))]).run Tryd.prog w = .ok (.agg (shA x y)) w := run_build w _ _ _ (by kernel_rfl)
/-- n shares at A. -/
structure Shs (w : World) (A : Option Addr) (n : Nat) (X : Nat → Int) (Y : Nat → Nat) : Prop where
  at_ : ∀ i < n, ∃ ad, A = some ad ∧ ad.block < w.heap.size ∧ ∀ k < 5, w.cell? ((ad.add (i * 5)).add k) = (shA (X i) (Y i))[k]?
theorem Shs.step {w w' : World} {A : Option Addr} {n : Nat} {X : Nat → Int} {Y : Nat → Nat} (h : Shs w A n X Y) (hb : Below w.heap.size w w') : Shs w' A n X Y := ⟨fun i hi => by
  obtain ⟨ad, e, hl, hc⟩ := h.at_ i hi
  refine ⟨ad, e, Nat.lt_of_lt_of_le hl hb.size, fun k hk => ?_⟩
  rw [← hc k hk]
  have hbl : ((ad.add (i * 5)).add k).block < w.heap.size := by rw [addr_block, addr_block]; exact hl
  exact hb.cell hbl⟩
section
variable {H : Type} {enc : TypeId × Value → H} {w : World} {base : Nat} {spare : Nat → Bool} {held : Bool}
/-- The four words of a number. -/
theorem num_of_trod {fuel : Nat} {cs : List Value} {x : DataW H × List MemPlace} (h : DataW.trod enc Tryd.prog w base spare held fuel 41 cs = some x) : ∃ y : Nat, y < 2 ^ 256 ∧ cs = (arrK .u64 4 (wd y)).toList := by
  obtain ⟨xs, m, rfl, hx, hlen, hn, hel⟩ := DataW.trod_array Tryd.underlying41 h
  have c1 : Tryd.prog.cellsOf 39 = 1 := by kernel_rfl
  have c4 : Tryd.prog.cellsOf 41 = 4 := by kernel_rfl
  rw [c4] at hlen
  obtain ⟨l, hl, hp⟩ := list_of 4 (fun i (b : Nat) => b < 18446744073709551616 ∧ cs[i]? = some (.int .u64 (b : Int))) (by
    intro i hi
    have h1 := hel i hi
    have hxi : xs[i]? = some (xs[i]'(by omega)) := List.getElem?_eq_getElem (by omega)
    rw [hxi, c1, Nat.mul_one] at h1
    obtain ⟨z, e1, -, hw⟩ := DataW.trod_int Tryd.underlying39 h1
    have hz : 0 ≤ z ∧ z < 18446744073709551616 := by
      simp only [Lit.wf, Bool.and_eq_true, decide_eq_true_eq] at hw
      exact has_u64 hw
    have h3 : ((cs.drop i).take 1)[0]? = some (.int .u64 z) := by rw [e1]; rfl
    rw [List.getElem?_take_of_lt (by omega), List.getElem?_drop, Nat.add_zero] at h3
    refine ⟨z.toNat, by omega, ?_⟩
    rw [h3, Int.toNat_of_nonneg hz.1])
  have hf : ∀ i < 4, l[i]?.getD 0 < 18446744073709551616 := fun i hi => by
    rw [List.getElem?_eq_getElem (by omega)]; exact (hp i (by omega)).1
  refine ⟨wval (fun i => l[i]?.getD 0) 4, wval_lt hf, ?_⟩
  rw [arrK_congr (wd_wval hf)]
  apply List.ext_getElem?
  intro i
  by_cases hi : i < 4
  · rw [(hp i (by omega)).2, Array.getElem?_toList, arrK_at hi, List.getElem?_eq_getElem (show i < l.length by omega)]; rfl
  · rw [List.getElem?_eq_none (by omega), List.getElem?_eq_none (by rw [Array.length_toList, arrK_size]; omega)]
theorem open_shares {fuel : Nat} {v : Value} {x : DataW H × List MemPlace} (h : DataW.trod enc Tryd.prog w base spare held fuel 60 [v] = some x) :
    ∃ (A : Option Addr) (n c : Nat) (X : Nat → Int) (Y : Nat → Nat), v = .slice A n c ∧ Shs w A n X Y ∧ n ≤ c ∧ c ≤ maxLen ∧ (∀ i < n, Y i < 2 ^ 256) ∧ ∀ i < n, -9223372036854775808 ≤ X i ∧ X i < 9223372036854775808 := by
  have c5 : Tryd.prog.cellsOf 114 = 5 := by kernel_rfl
  have c1 : Tryd.prog.cellsOf 3 = 1 := by kernel_rfl
  have c4 : Tryd.prog.cellsOf 41 = 4 := by kernel_rfl
  rcases open_slice Tryd.underlying60 h with ⟨hcs, -⟩ | ⟨a, len, cap, m, n, D, Pl, hcs, -, hl, hm, hmm, -, hi⟩
  · injection hcs with hv
    exact ⟨none, 0, 0, fun _ => 0, fun _ => 0, hv, ⟨fun i hi => absurd hi (by omega)⟩, Nat.le_refl _, by simp [maxLen], fun i hi => absurd hi (by omega), fun i hi => absurd hi (by omega)⟩
  · injection hcs with hv
    obtain ⟨P, hP, hp⟩ := list_of len (fun i (q : Int × Nat) => q.2 < 2 ^ 256 ∧ (-9223372036854775808 ≤ q.1 ∧ q.1 < 9223372036854775808) ∧ a.block < w.heap.size ∧ ∀ k < 5, w.cell? ((a.add (i * 5)).add k) = (shA q.1 q.2)[k]?) (by
      intro i hil
      have him : i < m := by rw [hmm]; split <;> omega
      obtain ⟨cs', hc, ht'⟩ := hi i him
      rw [c5] at hc
      obtain ⟨y0, y1, n', -, hyl, h0, h1⟩ := trod_struct2 Tryd.underlying114 ht'
      obtain ⟨-, hcl, hat⟩ := World.cells?_some hc
      dsimp only at h0 h1
      rw [c1] at h0
      rw [c4] at h1
      obtain ⟨z, e0, -, hw⟩ := DataW.trod_int Tryd.underlying3 h0
      obtain ⟨y, hy, e1⟩ := num_of_trod h1
      have hz : -9223372036854775808 ≤ z ∧ z < 9223372036854775808 := by
        simp only [Lit.wf, Bool.and_eq_true, decide_eq_true_eq] at hw
        exact has_i64 hw
      have hat' : ∀ k < 5, w.cell? ((a.add (i * 5)).add k) = (shA z y)[k]? := fun k hk => by
        rw [hat k hk]
        unfold shA
        rw [arrV_at hk]
        match k, hk with
        | 0, _ =>
          have h3 : ((cs'.drop 0).take 1)[0]? = some (.int .i64 z) := by rw [e0]; rfl
          rwa [List.getElem?_take_of_lt (by omega), List.getElem?_drop, Nat.add_zero] at h3
        | k + 1, hk =>
          have h3 : ((cs'.drop 1).take 4)[k]? = some (.int .u64 (wd y k : Nat)) := by
            rw [e1]
            have := arrK_at (k := .u64) (f := wd y) (show k < 4 by omega)
            rwa [← Array.getElem?_toList] at this
          rw [List.getElem?_take_of_lt (by omega), List.getElem?_drop] at h3
          rw [if_neg (by omega), Nat.add_sub_cancel, Nat.add_comm k 1, h3]
      have hb := cell_lt ((hat' 0 (by omega)).trans (shA_0 z y))
      rw [addr_block, addr_block] at hb
      exact ⟨(z, y), hy, hz, hb, hat'⟩)
    refine ⟨some a, len, cap, fun i => (P[i]?.getD (0, 0)).1, fun i => (P[i]?.getD (0, 0)).2, hv, ⟨fun i hi => ⟨a, rfl, ?_⟩⟩, hl, hm, fun i hi => ?_, fun i hi => ?_⟩
    · rw [List.getElem?_eq_getElem (show i < P.length by omega)]
      exact (hp i (by omega)).2.2
    · show (P[i]?.getD (0, 0)).2 < _
      rw [List.getElem?_eq_getElem (show i < P.length by omega)]
      exact (hp i (by omega)).1
    · show -9223372036854775808 ≤ (P[i]?.getD (0, 0)).1 ∧ (P[i]?.getD (0, 0)).1 < _
      rw [List.getElem?_eq_getElem (show i < P.length by omega)]
      exact (hp i (by omega)).2.1
end
end Go.Proofs.YtdlmamnnamlleaaDoor
