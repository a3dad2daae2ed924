/- A tape's reader: its block; what keeps it. -/
import Derived.Test.YtdlmamnnamlleaaDoorTpP
import Derived.Test.YtdlmamnnamlleaaDoorOk
import Derived.Test.YtdlmamnnamlleaaDoorPart
import Derived.Test.YtdlmamnnamlleaaDoorMac5
import Derived.Test.YtdlmamnnamlleaaDoorDerR2
import Derived.Laws.Tables
namespace Go.Proofs.YtdlmamnnamlleaaDoor
open Go Go.ChangeShapes Go.WideShapes Go.ChangeAt Go.RowKit
set_option maxRecDepth 100000
/-- A reader's cells: the key, the last mark, the records, how far. -/
def rdrA (kv : Value) (d : List UInt8) (v : Value) (n : Int) : Array Value := arrV 35 fun i => if i = 0 then kv else if i < 33 then .int .u8 (bytesF d (i - 1) : Nat) else if i = 33 then v else .int .i64 n
section
variable {kv v v' : Value} {d d' : List UInt8} {n n' : Int}
theorem rdrA_cells (hk : kv.oneCell' = true) (hv : v.oneCell' = true) (d : List UInt8) (n : Int) : Cells (rdrA kv d v n) 35 := arrV_cells fun i _ => by
  split
  · exact hk
  · split
    · rfl
    · split
      · exact hv
      · rfl
theorem rdrA_0 : (rdrA kv d v n)[0]? = some kv := arrV_at (by omega)
theorem rdrA_33 : (rdrA kv d v n)[33]? = some v := arrV_at (by omega)
theorem rdrA_34 : (rdrA kv d v n)[34]? = some (.int .i64 n) := arrV_at (by omega)
theorem rdrA_set33 : (rdrA kv d v n).setIfInBounds 33 v' = rdrA kv d v' n := by
  unfold rdrA
  rw [arrV_set]
  refine arrV_congr fun i hi => ?_
  by_cases h : i = 33
  · subst h; rfl
  · rw [if_neg h, if_neg h, if_neg h]
theorem rdrA_set34 : (rdrA kv d v n).setIfInBounds 34 (.int .i64 n') = rdrA kv d v n' := by
  unfold rdrA
  rw [arrV_set]
  refine arrV_congr fun i hi => ?_
  by_cases h : i = 34
  · subst h; rfl
  · rw [if_neg h]
    by_cases h0 : i = 0
    · rw [if_pos h0, if_pos h0]
    · rw [if_neg h0, if_neg h0]
      by_cases h1 : i < 33
      · rw [if_pos h1, if_pos h1]
      · rw [if_neg h1, if_neg h1, if_pos (by omega), if_pos (by omega)]
theorem rdrA_put : putAt (rdrA kv d v n) 1 (dgA d').toList = rdrA kv d' v n := by
  unfold rdrA
  rw [putAt_arrV]
  refine arrV_congr fun i hi => ?_
  by_cases h0 : i = 0
  · subst h0; rfl
  · rw [if_pos (by omega), if_neg h0, if_neg h0, Array.getElem?_toList]
    by_cases h : i < 33
    · show ((arrK .u8 32 (bytesF d'))[i - 1]?).getD _ = _
      rw [arrK_at (by omega), Option.getD_some, if_pos h]
    · rw [if_neg h, if_neg h]
      show ((arrK .u8 32 (bytesF d'))[i - 1]?).getD _ = _
      rw [Array.getElem?_eq_none (by rw [arrK_size]; omega), Option.getD_none]
end
theorem build_rdr (A : Option Addr) (m c : Nat) (w : World) : (Instr.build 68 #[(0, .slice A m c)]).run Tryd.prog w = .ok (.agg (rdrA (.slice A m c) z32 (.slice none 0 0) 0)) w :=
  run_build w _ _ _ (by kernel_rfl)
/-- A record as it lies in memory. -/
structure Rc where
  A : Option Addr
  cap : Nat
  body : List UInt8
def Rc.cell (x : Rc) : Value := .slice x.A x.body.length x.cap
def RcK : Kd Rc := ⟨22, 1, fun x => [x.cell], Rc.A, Rc.cap, Rc.body⟩
theorem SRc : SlT Tryd.prog 23 RcK.e RcK.size 24 := SlT.mk' Tryd.underlying23 (by kernel_rfl) (by show 0 < 1; omega)
/-- A reader in the block that was laid first behind w0; below it the world is as w0 was. -/
structure RdrAt (w0 : World) (kA : Option Addr) (kc : Nat) (key last : List UInt8) (v : Value) (recs : List Rc) (p : Nat) (W : World) : Prop where
  row : Row W w0.heap.size 35
  eq : rowAt W w0.heap.size = rdrA (.slice kA key.length kc) last v p
  key : Bs w0 kA key kc
  ll : last.length = 32
  own : OwnK RcK (w0.heap.size + 1) W v recs
  bel : Below w0.heap.size w0 W
section
variable {w0 W W' : World} {kA : Option Addr} {kc : Nat} {key last last' : List UInt8} {v v' : Value} {recs recs' : List Rc} {p p' : Nat}
theorem RdrAt.step (h : RdrAt w0 kA kc key last v recs p W) (hb : Below W.heap.size W W') : RdrAt w0 kA kc key last v recs p W' :=
  ⟨row_below h.row hb h.row.lt, (rowAt_below hb h.row.lt).trans h.eq, h.key, h.ll, h.own.step hb, h.bel.trans (hb.mono h.bel.size)⟩
theorem RdrAt.kB (h : RdrAt w0 kA kc key last v recs p W) : Bs W kA key kc := h.key.step h.bel
theorem RdrAt.c0 (h : RdrAt w0 kA kc key last v recs p W) : W.cell? ⟨w0.heap.size, 0, none⟩ = some (.slice kA key.length kc) := by rw [h.row.cell, h.eq, rdrA_0]
theorem RdrAt.c33 (h : RdrAt w0 kA kc key last v recs p W) : W.cell? ⟨w0.heap.size, 33, none⟩ = some v := by rw [h.row.cell, h.eq, rdrA_33]
theorem RdrAt.c34 (h : RdrAt w0 kA kc key last v recs p W) : W.cell? ⟨w0.heap.size, 34, none⟩ = some (.int .i64 (p : Nat)) := by rw [h.row.cell, h.eq, rdrA_34]
theorem RdrAt.mark (h : RdrAt w0 kA kc key last v recs p W) : Bs W (some ⟨w0.heap.size, 1, none⟩) last 32 :=
  ⟨fun j u hu => by
    have hj : j < 32 := by have := (List.getElem?_eq_some_iff.1 hu).1; rw [bytesV_length, h.ll] at this; exact this
    refine ⟨_, rfl, h.row.lt, ?_⟩
    have hz : ((⟨w0.heap.size, 1, none⟩ : Addr).add j) = ⟨w0.heap.size, 1 + j, none⟩ := by
      unfold Addr.add
      split
      · rename_i e; subst e; rfl
      · rfl
    rw [hz, h.row.cell, h.eq]
    unfold rdrA
    rw [arrV_at (by omega), if_neg (by omega), if_pos (by omega), Nat.add_sub_cancel_left, bytesF_at (by rw [h.ll]; exact hj), ← hu]
    simp [bytesV, List.getElem?_eq_getElem (show j < last.length by rw [h.ll]; exact hj)], by rw [h.ll]; exact Nat.le_refl _, by omega⟩
theorem RdrAt.setP (h : RdrAt w0 kA kc key last v recs p W) (p' : Nat) : RdrAt w0 kA kc key last v recs p' (W.setCell ⟨w0.heap.size, 34, none⟩ (.int .i64 (p' : Nat))) :=
  ⟨row_setCell.2 h.row, by rw [rowAt_setCell_same, h.eq, rdrA_set34], h.key, h.ll, h.own.setCell (Nat.lt_succ_self _) _, h.bel.setCell (Nat.le_refl _) _⟩
theorem RdrAt.setL (h : RdrAt w0 kA kc key last v recs p W) (hl : last'.length = 32) : RdrAt w0 kA kc key last' v recs p (W.setRow w0.heap.size (rdrA (.slice kA key.length kc) last' v p)) :=
  ⟨(row_setRow_same rfl h.row).2 (by simp [rdrA, arrV]), rowAt_setRow_same h.row, h.key, hl, h.own.setRow (Nat.lt_succ_self _) _, below_setRow h.bel (Nat.le_refl _)⟩
/-- The slice appended to, and stored. -/
theorem RdrAt.setV (h : RdrAt w0 kA kc key last v recs p W) (hg : W.grownBy W' v.ownBlock) (hO : OwnK RcK (w0.heap.size + 1) W' v' recs') : RdrAt w0 kA kc key last v' recs' p (W'.setCell ⟨w0.heap.size, 33, none⟩ v') := by
  have hlt := h.row.lt
  have hk : W'.heap[w0.heap.size]? = W.heap[w0.heap.size]? := hg.block _ hlt (fun e => by have := (h.own.lt e.symm).1; omega)
  have hR : Row W' w0.heap.size 35 := by obtain ⟨cs, t, h1, h2⟩ := h.row; exact ⟨cs, t, hk.trans h1, h2⟩
  have hE : rowAt W' w0.heap.size = rowAt W w0.heap.size := by unfold rowAt; rw [hk]
  exact ⟨row_setCell.2 hR, by rw [rowAt_setCell_same, hE, h.eq, rdrA_set33], h.key, h.ll, hO.setCell (Nat.lt_succ_self _) _,
    (h.bel.grown hg h.bel.size (fun k hk => Nat.le_of_lt (h.own.lt hk).1)).setCell (Nat.le_refl _) _⟩
end
end Go.Proofs.YtdlmamnnamlleaaDoor
