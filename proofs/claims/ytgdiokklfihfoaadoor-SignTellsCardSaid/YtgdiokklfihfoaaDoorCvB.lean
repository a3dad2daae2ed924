/- Points and quads: rows of words, whose parts are numbers. -/
import Derived.Test.YtgdiokklfihfoaaDoorFd5
import Derived.Test.YtgdiokklfihfoaaDoorEl
import Derived.Test.YtgdiokklfihfoaaDoorPart
namespace Go.Proofs.YtgdiokklfihfoaaDoor
open Go.ChangeShapes Go.WideShapes Go.ChangeAt Go.RowKit
set_option maxHeartbeats 2000000
set_option maxRecDepth 100000
theorem load_pt {w : World} {dst : Option Tmp} {x : Operand} {tt : TypeId} {pos : String} {af : Array Edge} {gd : Option (Nat × Bool)} {a : Act} {K : Act → World → Prop} {Q : Exit → Act → World → Prop}
    (hv : IsHead (a.eval x)) (h : Row w (blkOf (a.eval x)) 8) : Oper.wp Tryd.prog ⟨dst, .load 133 x, tt, pos, af, gd⟩ a w K Q ↔ K (a.put dst (.agg (rowAt w (blkOf (a.eval x))))) w :=
  wp_load_whole Tryd.underlying133 rfl (by kernel_rfl) hv h
theorem store_pt {w : World} {dst : Option Tmp} {x y : Operand} {tt : TypeId} {pos : String} {af : Array Edge} {gd : Option (Nat × Bool)} {a : Act} {K : Act → World → Prop} {Q : Exit → Act → World → Prop}
    (hv : IsHead (a.eval x)) (h : Row w (blkOf (a.eval x)) 8) (hx : IsAgg (a.eval y) 8) : Oper.wp Tryd.prog ⟨dst, .store 133 x y, tt, pos, af, gd⟩ a w K Q ↔ K (a.put dst undef) (w.setRow (blkOf (a.eval x)) (cellsV (a.eval y))) :=
  wp_store_whole (by kernel_rfl) hv h hx
theorem execl_pt {w : World} {dst : Option Tmp} {x : Operand} {tt : TypeId} {pos : String} {af : Array Edge} {gd : Option (Nat × Bool)} {ρ : Operand → Value}
    (hv : IsHead (ρ x)) (h : Row w (blkOf (ρ x)) 8) : (execOp ρ ⟨dst, .load 133 x, tt, pos, af, gd⟩).run Tryd.prog w = .ok (.value (.agg (rowAt w (blkOf (ρ x))))) w :=
  exec_load_whole Tryd.underlying133 rfl (by kernel_rfl) hv h
theorem execs_pt {w : World} {dst : Option Tmp} {x y : Operand} {tt : TypeId} {pos : String} {af : Array Edge} {gd : Option (Nat × Bool)} {ρ : Operand → Value}
    (hv : IsHead (ρ x)) (h : Row w (blkOf (ρ x)) 8) (hx : IsAgg (ρ y) 8) : (execOp ρ ⟨dst, .store 133 x y, tt, pos, af, gd⟩).run Tryd.prog w = .ok .skip (w.setRow (blkOf (ρ x)) (cellsV (ρ y))) :=
  exec_store_whole (by kernel_rfl) hv h hx
theorem load_qd {w : World} {dst : Option Tmp} {x : Operand} {tt : TypeId} {pos : String} {af : Array Edge} {gd : Option (Nat × Bool)} {a : Act} {K : Act → World → Prop} {Q : Exit → Act → World → Prop}
    (hv : IsHead (a.eval x)) (h : Row w (blkOf (a.eval x)) 16) : Oper.wp Tryd.prog ⟨dst, .load 216 x, tt, pos, af, gd⟩ a w K Q ↔ K (a.put dst (.agg (rowAt w (blkOf (a.eval x))))) w :=
  wp_load_whole Tryd.underlying216 rfl (by kernel_rfl) hv h
theorem store_qd {w : World} {dst : Option Tmp} {x y : Operand} {tt : TypeId} {pos : String} {af : Array Edge} {gd : Option (Nat × Bool)} {a : Act} {K : Act → World → Prop} {Q : Exit → Act → World → Prop}
    (hv : IsHead (a.eval x)) (h : Row w (blkOf (a.eval x)) 16) (hx : IsAgg (a.eval y) 16) : Oper.wp Tryd.prog ⟨dst, .store 216 x y, tt, pos, af, gd⟩ a w K Q ↔ K (a.put dst undef) (w.setRow (blkOf (a.eval x)) (cellsV (a.eval y))) :=
  wp_store_whole (by kernel_rfl) hv h hx
theorem execl_qd {w : World} {dst : Option Tmp} {x : Operand} {tt : TypeId} {pos : String} {af : Array Edge} {gd : Option (Nat × Bool)} {ρ : Operand → Value}
    (hv : IsHead (ρ x)) (h : Row w (blkOf (ρ x)) 16) : (execOp ρ ⟨dst, .load 216 x, tt, pos, af, gd⟩).run Tryd.prog w = .ok (.value (.agg (rowAt w (blkOf (ρ x))))) w :=
  exec_load_whole Tryd.underlying216 rfl (by kernel_rfl) hv h
theorem execs_qd {w : World} {dst : Option Tmp} {x y : Operand} {tt : TypeId} {pos : String} {af : Array Edge} {gd : Option (Nat × Bool)} {ρ : Operand → Value}
    (hv : IsHead (ρ x)) (h : Row w (blkOf (ρ x)) 16) (hx : IsAgg (ρ y) 16) : (execOp ρ ⟨dst, .store 216 x y, tt, pos, af, gd⟩).run Tryd.prog w = .ok .skip (w.setRow (blkOf (ρ x)) (cellsV (ρ y))) :=
  exec_store_whole (by kernel_rfl) hv h hx

theorem load_fld {w : World} {dst : Option Tmp} {x : Operand} {tt : TypeId} {pos : String} {af : Array Edge} {gd : Option (Nat × Bool)} {a : Act} {K : Act → World → Prop} {Q : Exit → Act → World → Prop} (h : LdOk w 4 (a.eval x)) : Oper.wp Tryd.prog ⟨dst, .load 41 x, tt, pos, af, gd⟩ a w K Q ↔ K (a.put dst (.agg (ldC w 4 (a.eval x)))) w := wp_load_el Tryd.underlying41 rfl (by kernel_rfl) h
def cat2 (f0 f1 : Nat → Nat) (i : Nat) : Nat := if i < 4 then f0 i else f1 (i - 4)
def cat4 (f0 f1 f2 f3 : Nat → Nat) (i : Nat) : Nat := if i < 4 then f0 i else if i < 8 then f1 (i - 4) else if i < 12 then f2 (i - 8) else f3 (i - 12)
theorem At.fld {w : World} {g m o n : Nat} {k : IntKind} {f : Nat → Nat} (h : At w g k m f) (ho : o + n ≤ m) : LdOk w n (.pointer (some ⟨g, o, none⟩)) ∧ ldC w n (.pointer (some ⟨g, o, none⟩)) = arrK k n fun i => f (o + i) := by
  have hc : ∀ j, j < n → w.cell? ((⟨g, o, none⟩ : Addr).add j) = some (.int k (f (o + j) : Nat)) := fun j hj => by
    have h1 := h.cell (i := o + j) (by omega)
    by_cases e : j = 0
    · subst e; simpa [Addr.add] using h1
    · simpa [Addr.add, e] using h1
  refine ⟨fun j hj => by rw [hc j hj]; rfl, ?_⟩
  show arrV n (fun j => (w.cell? ((⟨g, o, none⟩ : Addr).add j)).getD undef) = arrV n fun i => .int k (f (o + i) : Nat)
  refine arrV_congr fun i hi => ?_
  rw [hc i hi]; rfl
section
variable {w : World} {g : Nat} {f0 f1 f2 f3 : Nat → Nat}
theorem pt_0 (h : At w g .u64 8 (cat2 f0 f1)) : LdOk w 4 (.pointer (some ⟨g, 0, none⟩)) ∧ ldC w 4 (.pointer (some ⟨g, 0, none⟩)) = arrK .u64 4 f0 := by
  refine ⟨(h.fld (by omega)).1, (h.fld (by omega)).2.trans (arrK_congr fun i hi => ?_)⟩
  unfold cat2; rw [if_pos (by omega), Nat.zero_add]
theorem pt_1 (h : At w g .u64 8 (cat2 f0 f1)) : LdOk w 4 (.pointer (some ⟨g, 4, none⟩)) ∧ ldC w 4 (.pointer (some ⟨g, 4, none⟩)) = arrK .u64 4 f1 := by
  refine ⟨(h.fld (by omega)).1, (h.fld (by omega)).2.trans (arrK_congr fun i hi => ?_)⟩
  unfold cat2; rw [if_neg (by omega), Nat.add_sub_cancel_left]
theorem qd_0 (h : At w g .u64 16 (cat4 f0 f1 f2 f3)) : LdOk w 4 (.pointer (some ⟨g, 0, none⟩)) ∧ ldC w 4 (.pointer (some ⟨g, 0, none⟩)) = arrK .u64 4 f0 := by
  refine ⟨(h.fld (by omega)).1, (h.fld (by omega)).2.trans (arrK_congr fun i hi => ?_)⟩
  unfold cat4; rw [if_pos (by omega), Nat.zero_add]
theorem qd_1 (h : At w g .u64 16 (cat4 f0 f1 f2 f3)) : LdOk w 4 (.pointer (some ⟨g, 4, none⟩)) ∧ ldC w 4 (.pointer (some ⟨g, 4, none⟩)) = arrK .u64 4 f1 := by
  refine ⟨(h.fld (by omega)).1, (h.fld (by omega)).2.trans (arrK_congr fun i hi => ?_)⟩
  unfold cat4; rw [if_neg (by omega), if_pos (by omega), Nat.add_sub_cancel_left]
theorem qd_2 (h : At w g .u64 16 (cat4 f0 f1 f2 f3)) : LdOk w 4 (.pointer (some ⟨g, 8, none⟩)) ∧ ldC w 4 (.pointer (some ⟨g, 8, none⟩)) = arrK .u64 4 f2 := by
  refine ⟨(h.fld (by omega)).1, (h.fld (by omega)).2.trans (arrK_congr fun i hi => ?_)⟩
  unfold cat4; rw [if_neg (by omega), if_neg (by omega), if_pos (by omega), Nat.add_sub_cancel_left]
theorem qd_3 (h : At w g .u64 16 (cat4 f0 f1 f2 f3)) : LdOk w 4 (.pointer (some ⟨g, 12, none⟩)) ∧ ldC w 4 (.pointer (some ⟨g, 12, none⟩)) = arrK .u64 4 f3 := by
  refine ⟨(h.fld (by omega)).1, (h.fld (by omega)).2.trans (arrK_congr fun i hi => ?_)⟩
  unfold cat4; rw [if_neg (by omega), if_neg (by omega), if_neg (by omega), Nat.add_sub_cancel_left]
end
def ptV (x y : Nat) : Value := .agg (arrK .u64 8 (cat2 (wd x) (wd y)))
def quadV (x y z t : Nat) : Value := .agg (arrK .u64 16 (cat4 (wd x) (wd y) (wd z) (wd t)))
theorem build_pt (f0 f1 : Nat → Nat) (w : World) : (Instr.build 133 #[(0, .agg (arrK .u64 4 f0)), (1, .agg (arrK .u64 4 f1))]).run Tryd.prog w = .ok (.agg (arrK .u64 8 (cat2 f0 f1))) w := run_build w _ _ _ (by kernel_rfl)
theorem build_qd (f0 f1 f2 f3 : Nat → Nat) (w : World) : (Instr.build 216 #[(0, .agg (arrK .u64 4 f0)), (1, .agg (arrK .u64 4 f1)), (2, .agg (arrK .u64 4 f2)), (3, .agg (arrK .u64 4 f3))]).run Tryd.prog w = .ok (.agg (arrK .u64 16 (cat4 f0 f1 f2 f3))) w := run_build w _ _ _ (by kernel_rfl)
theorem build_one (w : World) : (Instr.build 41 #[(0, Value.int IntKind.u64 (1 : Int))]).run Tryd.prog w = .ok (.agg (arrK .u64 4 (wd 1))) w := (run_build w _ _ _ (by kernel_rfl)).trans (by rw [← num1 (show 1 < 18446744073709551616 by omega)])
theorem zeroPt : #[Value.int IntKind.u64 0, Value.int IntKind.u64 0, Value.int IntKind.u64 0, Value.int IntKind.u64 0, Value.int IntKind.u64 0, Value.int IntKind.u64 0, Value.int IntKind.u64 0, Value.int IntKind.u64 0] = arrK .u64 8 (cat2 (wd 0) (wd 0)) := by kernel_rfl
theorem zeroQd : #[Value.int IntKind.u64 0, Value.int IntKind.u64 0, Value.int IntKind.u64 0, Value.int IntKind.u64 0, Value.int IntKind.u64 0, Value.int IntKind.u64 0, Value.int IntKind.u64 0, Value.int IntKind.u64 0, Value.int IntKind.u64 0, Value.int IntKind.u64 0, Value.int IntKind.u64 0, Value.int IntKind.u64 0, Value.int IntKind.u64 0, Value.int IntKind.u64 0, Value.int IntKind.u64 0, Value.int IntKind.u64 0] = arrK .u64 16 (cat4 (wd 0) (wd 0) (wd 0) (wd 0)) := by kernel_rfl
section
variable {P : Program} {ops : Array Oper} {rest : List Oper} {o : Oper} {a : Act} {w : World} {K : Act → World → Prop} {Q : Exit → Act → World → Prop} {t : TypeId} {i0 i1 i2 i3 : Nat} {x0 x1 x2 x3 : Operand} {u v0 v1 v2 v3 : Value}
theorem wp_bldB (ho : o.op = .build t #[(i0, x0), (i1, x1)]) (h0 : a.eval x0 = v0) (h1 : a.eval x1 = v1) (hr : (Instr.build t #[(i0, v0), (i1, v1)]).run P w = .ok u w) (h : K (a.put o.dst u) w) : Oper.wp P o a w K Q := by
  subst h0 h1
  obtain ⟨dst, op, tt, pos, af, gd⟩ := o
  subst ho
  unfold Oper.wp execOp
  simp only [List.map_toArray, List.map_cons, List.map_nil, Sem.run_bind, hr, Result.andThen_ok]
  exact h
theorem wp_bldD (ho : o.op = .build t #[(i0, x0), (i1, x1), (i2, x2), (i3, x3)]) (h0 : a.eval x0 = v0) (h1 : a.eval x1 = v1) (h2 : a.eval x2 = v2) (h3 : a.eval x3 = v3) (hr : (Instr.build t #[(i0, v0), (i1, v1), (i2, v2), (i3, v3)]).run P w = .ok u w) (h : K (a.put o.dst u) w) : Oper.wp P o a w K Q := by
  subst h0 h1 h2 h3
  obtain ⟨dst, op, tt, pos, af, gd⟩ := o
  subst ho
  unfold Oper.wp execOp
  simp only [List.map_toArray, List.map_cons, List.map_nil, Sem.run_bind, hr, Result.andThen_ok]
  exact h
theorem wpList_bldB (hgd : o.guard = none) (ho : o.op = .build t #[(i0, x0), (i1, x1)]) (h0 : a.eval x0 = v0) (h1 : a.eval x1 = v1) (hr : (Instr.build t #[(i0, v0), (i1, v1)]).run P w = .ok u w) (h : wpList P ops Q rest (a.put o.dst u) w) : wpList P ops Q (o :: rest) a w :=
  wpList_step fun K hK => by
    have hw : Region.wanted o (yielded ops a.tmps) = true := by simp [Region.wanted, hgd]
    rw [if_pos hw]
    exact wp_bldB ho h0 h1 hr (hK _ _ h)
end
end Go.Proofs.YtgdiokklfihfoaaDoor
