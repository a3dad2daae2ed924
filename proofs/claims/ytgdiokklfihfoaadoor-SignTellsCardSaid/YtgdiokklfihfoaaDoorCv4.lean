/- Contracts of package curve: Neg, Add. -/
import Derived.Test.YtgdiokklfihfoaaDoorCv3
import Derived.Test.YtgdiokklfihfoaaDoorRet2
namespace Go.Proofs.YtgdiokklfihfoaaDoor
open Go.ChangeShapes Go.WideShapes Go.ChangeAt Go.RowKit
set_option maxHeartbeats 2000000
set_option maxRecDepth 100000
attribute [local go_sem ↓] load_fld load_num store_num execl_num execs_num load_pt store_pt execl_pt execs_pt load_qd store_qd execl_qd execs_qd
attribute [local go_sem] isHead_mk blkOf_mk isAgg_mk cellsV_mk row_drew rowAt_drew row_new_cells row_old rowAt_new rowAt_old setRow_new zeroNum zeroPt zeroQd
theorem ret_row2c {P : Program} {fn : Func} {R : Ending → World → Prop} {a : Act} {w : World} {p q : Tmp} {ty : TypeId} {g n : Nat} {d : TypeDesc} (h : fn.results = #[.cell p ty, .tmp q])
    (hu : P.underlying ty = some d) (hd : (match d with | .struct _ | .array _ _ => true | _ => false) = true) (hi : (P.info? ty).map (·.size) = some n)
    (hp : a.tmps.getD p undef = .pointer (some ⟨g, 0, none⟩)) (hr : Row w g n) (hf : a.defers = []) (hR : R (.returned (.tuple #[.agg (rowAt w g), a.tmps.getD q undef])) w) : bodyPost P fn R .ret a w := by
  obtain ⟨cs, t, hg, hs⟩ := hr
  have e : rowAt w g = cs := by simp [rowAt, hg]
  rw [e] at hR
  exact bodyPost_ret (results_row_tmp h _ _ g t cs (0, 0) d hp hg hu hd (by rw [hi, hs])) hf hR
theorem store_fldP {w : World} {dst : Option Tmp} {x y : Operand} {tt : TypeId} {pos : String} {af : Array Edge} {gd : Option (Nat × Bool)} {a : Act} {K : Act → World → Prop} {Q : Exit → Act → World → Prop} (hv : IsPart (a.eval x)) (h : Row w (blkOf (a.eval x)) 8) (ho : offOf (a.eval x) + 4 ≤ 8) (hx : IsAgg (a.eval y) 4) :
    Oper.wp Tryd.prog ⟨dst, .store 41 x y, tt, pos, af, gd⟩ a w K Q ↔ K (a.put dst undef) (w.setRow (blkOf (a.eval x)) (putAt (rowAt w (blkOf (a.eval x))) (offOf (a.eval x)) (cellsV (a.eval y)).toList)) := wp_store_part (by kernel_rfl) hv h ho hx
attribute [local go_sem ↓] store_fldP
attribute [local go_sem] isPart_mk offOf_mk
theorem put_x (f0 f1 f : Nat → Nat) : putAt (arrK .u64 8 (cat2 f0 f1)) 0 (arrK .u64 4 f).toList = arrK .u64 8 (cat2 f f1) := by
  rw [arrK_V .u64 8, putAt_arrV, arrK_V .u64 8]
  refine arrV_congr fun i hi => ?_
  rw [if_pos (Nat.zero_le _), Nat.sub_zero, Array.getElem?_toList]
  unfold cat2
  by_cases h : i < 4
  · rw [arrK_at h, if_pos h, if_pos h]; rfl
  · rw [Array.getElem?_eq_none (by rw [arrK_size]; omega), if_neg h, if_neg h]; rfl
/-- What plus makes of two quads. -/
def qplus (x1 y1 z1 t1 x2 y2 z2 t2 : Nat) : Nat × Nat × Nat × Nat :=
  let a := difP y1 x1 * difP y2 x2 % fP
  let b := ((y1 + x1) % fP) * ((y2 + x2) % fP) % fP
  let c0 := (t1 * t2 % fP) * dN % fP
  let c := (c0 + c0) % fP
  let z0 := z1 * z2 % fP
  let z := (z0 + z0) % fP
  let e := difP b a
  let f := difP z c
  let g := (z + c) % fP
  let h := (b + a) % fP
  (e * f % fP, g * h % fP, f * g % fP, e * h % fP)
/-- The sum of two points, as the program makes it. -/
def addPt (x1 y1 x2 y2 : Nat) : Nat × Nat :=
  let r := qplus x1 y1 1 (x1 * y1 % fP) x2 y2 1 (x2 * y2 % fP)
  (r.1 * invP r.2.2.1 % fP, r.2.1 * invP r.2.2.1 % fP)
theorem quad_plusQ (x1 y1 z1 t1 x2 y2 z2 t2 : Nat) (w : World) (hx1 : x1 < 2 ^ 256) (hy1 : y1 < 2 ^ 256) (hz1 : z1 < 2 ^ 256) (ht1 : t1 < 2 ^ 256) (hx2 : x2 < 2 ^ 256) (hy2 : y2 < 2 ^ 256) (hz2 : z2 < 2 ^ 256) (ht2 : t2 < 2 ^ 256) (r : Nat × Nat × Nat × Nat) (hr : qplus x1 y1 z1 t1 x2 y2 z2 t2 = r) :
    Calls Tryd.prog 146 #[quadV x1 y1 z1 t1, quadV x2 y2 z2 t2] w fun e w' => e = .returned (quadV r.1 r.2.1 r.2.2.1 r.2.2.2) ∧ Below w.heap.size w w' := by
  subst hr
  exact quad_plus _ _ _ _ _ _ _ _ _ _ _ _ _ _ _ _ _ _ _ _ _ _ _ _ _ _ _ w hx1 hy1 hz1 ht1 hx2 hy2 hz2 ht2 rfl rfl rfl rfl rfl rfl rfl rfl rfl rfl rfl rfl rfl rfl rfl rfl rfl rfl rfl
theorem qplus_lt (x1 y1 z1 t1 x2 y2 z2 t2 : Nat) (r : Nat × Nat × Nat × Nat) (hr : qplus x1 y1 z1 t1 x2 y2 z2 t2 = r) : r.1 < 2 ^ 256 ∧ r.2.1 < 2 ^ 256 ∧ r.2.2.1 < 2 ^ 256 := by
  subst hr
  exact ⟨low_lt, low_lt, low_lt⟩
end Go.Proofs.YtgdiokklfihfoaaDoor
