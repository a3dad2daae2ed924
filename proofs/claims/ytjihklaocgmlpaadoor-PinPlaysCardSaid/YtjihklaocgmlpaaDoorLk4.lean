/- Contracts of a lock: Restore, Kept, Left. -/
import Derived.Test.YtjihklaocgmlpaaDoorLk3
namespace Go.Proofs.YtjihklaocgmlpaaDoor
open Go.ChangeShapes Go.WideShapes Go.ChangeAt Go.RowKit
set_option maxHeartbeats 1000000
set_option maxRecDepth 100000
theorem Bs.far {W W' : World} {A : Option Addr} {l : List UInt8} {c g : Nat} (h : Bs W A l c) (hne : ∀ a, A = some a → a.block ≠ g) (hh : ∀ k, k ≠ g → W'.heap[k]? = W.heap[k]?) (hs : W.heap.size ≤ W'.heap.size) : Bs W' A l c :=
  ⟨fun j u hu => by
    obtain ⟨a, e, hb, hc⟩ := h.rd j u hu
    exact ⟨a, e, Nat.lt_of_lt_of_le hb hs, (World.cell?_of_block (by rw [addr_block]; exact hh _ (hne a e))).trans hc⟩, h.le, h.mx⟩
section
variable {P : Program} {ops : Array Oper} {rest : List Oper} {o : Oper} {a : Act} {w : World} {K : Act → World → Prop} {Q : Exit → Act → World → Prop} {E : Prop} {t : TypeId} {i j : Nat} {x y : Operand} {u vx vy : Value}
theorem wp_bld2 (ho : o.op = .build t #[(i, x), (j, y)]) (hx : a.eval x = vx) (hy : a.eval y = vy) (hr : (Instr.build t #[(i, vx), (j, vy)]).run P w = .ok u w) (h : K (a.put o.dst u) w) : Oper.wp P o a w K Q := by
  subst hx hy
  obtain ⟨dst, op, tt, pos, af, gd⟩ := o
  subst ho
  unfold Oper.wp execOp
  simp only [List.map_toArray, List.map_cons, List.map_nil, Sem.run_bind, hr, Result.andThen_ok]
  exact h
theorem wp_bld1 (ho : o.op = .build t #[(i, x)]) (hx : a.eval x = vx) (hr : (Instr.build t #[(i, vx)]).run P w = .ok u w) (h : K (a.put o.dst u) w) : Oper.wp P o a w K Q := by
  subst hx
  obtain ⟨dst, op, tt, pos, af, gd⟩ := o
  subst ho
  unfold Oper.wp execOp
  simp only [List.map_toArray, List.map_cons, List.map_nil, Sem.run_bind, hr, Result.andThen_ok]
  exact h
theorem step_bld2 (hgd : o.guard = none) (ho : o.op = .build t #[(i, x), (j, y)]) (hx : a.eval x = vx) (hy : a.eval y = vy) (hr : (Instr.build t #[(i, vx), (j, vy)]).run P w = .ok u w) (h : K (a.put o.dst u) w) :
    if Region.wanted o (yielded ops a.tmps) = true then Oper.wp P o a w K Q else E := by
  have hw : Region.wanted o (yielded ops a.tmps) = true := by simp [Region.wanted, hgd]
  rw [if_pos hw]
  exact wp_bld2 ho hx hy hr h
theorem wpList_bld2 (hgd : o.guard = none) (ho : o.op = .build t #[(i, x), (j, y)]) (hx : a.eval x = vx) (hy : a.eval y = vy) (hr : (Instr.build t #[(i, vx), (j, vy)]).run P w = .ok u w) (h : wpList P ops Q rest (a.put o.dst u) w) : wpList P ops Q (o :: rest) a w :=
  wpList_step fun K hK => by
    have hw : Region.wanted o (yielded ops a.tmps) = true := by simp [Region.wanted, hgd]
    rw [if_pos hw]
    exact wp_bld2 ho hx hy hr (hK _ _ h)
theorem wpList_bld1 (hgd : o.guard = none) (ho : o.op = .build t #[(i, x)]) (hx : a.eval x = vx) (hr : (Instr.build t #[(i, vx)]).run P w = .ok u w) (h : wpList P ops Q rest (a.put o.dst u) w) : wpList P ops Q (o :: rest) a w :=
  wpList_step fun K hK => by
    have hw : Region.wanted o (yielded ops a.tmps) = true := by simp [Region.wanted, hgd]
    rw [if_pos hw]
    exact wp_bld1 ho hx hr (hK _ _ h)
end
/-- What lay there lies there still, but for block g. -/
structure Kb (g : Nat) (w w' : World) : Prop where
  size : w.heap.size ≤ w'.heap.size
  block : ∀ k, k < w.heap.size → k ≠ g → w'.heap[k]? = w.heap[k]?
theorem Kb.refl (g : Nat) (w : World) : Kb g w w := ⟨Nat.le_refl _, fun _ _ _ => rfl⟩
theorem Kb.of {g : Nat} {w w' : World} (h : Below w.heap.size w w') : Kb g w w' := ⟨h.size, fun k hk _ => h.block k hk⟩
theorem Kb.trans {g : Nat} {w w1 w2 : World} (h : Kb g w w1) (h2 : Kb g w1 w2) : Kb g w w2 := ⟨Nat.le_trans h.size h2.size, fun k hk hg => (h2.block k (Nat.lt_of_lt_of_le hk h.size) hg).trans (h.block k hk hg)⟩
theorem Kb.setCell {g i : Nat} {w w1 : World} (h : Kb g w w1) (v : Value) : Kb g w (w1.setCell ⟨g, i, none⟩ v) := ⟨by simpa using h.size, fun k hk hg => (Below.heap_setCell w1 _ _ k hg).trans (h.block k hk hg)⟩
theorem Kb.setRow {g : Nat} {w w1 : World} (h : Kb g w w1) (c : Array Value) : Kb g w (w1.setRow g c) := ⟨by simpa using h.size, fun k hk hg => (setRow_other w1 g k c hg).trans (h.block k hk hg)⟩
/-- A lock in block g; below g the world is as w0 was. -/
structure LkAt (w0 : World) (g : Nat) (A : Option Addr) (c : Nat) (salt d : List UInt8) (n : Int) (W : World) : Prop where
  row : Row W g 34
  eq : rowAt W g = lockA (.slice A salt.length c) d n
  salt : Bs W A salt c
  apart : ∀ a, A = some a → a.block ≠ g
  bel : Below w0.heap.size w0 W
  lo : w0.heap.size ≤ g
  dl : d.length = 32
section
variable {w0 W W' : World} {g c : Nat} {A : Option Addr} {salt d d' : List UInt8} {n n' : Int}
theorem LkAt.step (hb : Below W.heap.size W W') (h : LkAt w0 g A c salt d n W) : LkAt w0 g A c salt d n W' :=
  ⟨row_below h.row hb h.row.lt, (rowAt_below hb h.row.lt).trans h.eq, h.salt.step hb, h.apart, h.bel.trans (hb.mono h.bel.size), h.lo, h.dl⟩
theorem LkAt.set (h : LkAt w0 g A c salt d n W) (n' : Int) : LkAt w0 g A c salt d n' (W.setCell ⟨g, 33, none⟩ (.int .i64 n')) :=
  ⟨row_setCell.2 h.row, by rw [rowAt_setCell_same, h.eq, lockA_set], h.salt.far h.apart (fun k hk => Below.heap_setCell W _ _ k hk) (by simp), h.apart, h.bel.setCell h.lo _, h.lo, h.dl⟩
theorem LkAt.put (h : LkAt w0 g A c salt d n W) (d' : List UInt8) (n' : Int) (hd : d'.length = 32) : LkAt w0 g A c salt d' n' (W.setRow g (lockA (.slice A salt.length c) d' n')) :=
  ⟨(row_setRow_same rfl h.row).2 (lockA_cells rfl _ _).1, rowAt_setRow_same h.row, h.salt.far h.apart (fun k hk => setRow_other W g k _ hk) (by simp), h.apart, below_setRow h.bel h.lo, h.lo, hd⟩
theorem LkAt.left (h : LkAt w0 g A c salt d n W) : W.cell? ⟨g, 33, none⟩ = some (.int .i64 n) := by rw [h.row.cell, h.eq, lockA_33]
theorem LkAt.cell0 (h : LkAt w0 g A c salt d n W) : W.cell? ⟨g, 0, none⟩ = some (.slice A salt.length c) := by rw [h.row.cell, h.eq, lockA_0]
theorem LkAt.mark (h : LkAt w0 g A c salt d n W) : Bs W (some ⟨g, 1, none⟩) d 32 :=
  ⟨fun j u hu => by
    have hj : j < 32 := by have := (List.getElem?_eq_some_iff.1 hu).1; rw [bytesV_length, h.dl] at this; exact this
    refine ⟨_, rfl, h.row.lt, ?_⟩
    have hz : ((⟨g, 1, none⟩ : Addr).add j) = ⟨g, 1 + j, none⟩ := by
      unfold Addr.add
      split
      · rename_i e; subst e; rfl
      · rfl
    rw [hz, h.row.cell, h.eq]
    unfold lockA
    rw [arrV_at (by omega), if_neg (by omega), if_pos (by omega), Nat.add_sub_cancel_left, bytesF_at (by rw [h.dl]; exact hj), ← hu]
    simp [bytesV, List.getElem?_eq_getElem (show j < d.length by rw [h.dl]; exact hj)], by rw [h.dl]; exact Nat.le_refl _, by omega⟩
end
section
variable {w : World} {dst : Option Tmp} {x y : Operand} {tt : TypeId} {pos : String} {af : Array Edge} {gd : Option (Nat × Bool)} {a : Act} {K : Act → World → Prop} {Q : Exit → Act → World → Prop}
theorem load_lk (hv : IsHead (a.eval x)) (h : Row w (blkOf (a.eval x)) 33) : Oper.wp Tryd.prog ⟨dst, .load 44 x, tt, pos, af, gd⟩ a w K Q ↔ K (a.put dst (.agg (rowAt w (blkOf (a.eval x))))) w :=
  wp_load_whole Tryd.underlying44 rfl (by kernel_rfl) hv h
theorem store_lk (hv : IsHead (a.eval x)) (h : Row w (blkOf (a.eval x)) 33) (hx : IsAgg (a.eval y) 33) : Oper.wp Tryd.prog ⟨dst, .store 44 x y, tt, pos, af, gd⟩ a w K Q ↔ K (a.put dst undef) (w.setRow (blkOf (a.eval x)) (cellsV (a.eval y))) :=
  wp_store_whole (by kernel_rfl) hv h hx
theorem load_lkp (hv : IsPart (a.eval x)) (h : Row w (blkOf (a.eval x)) 34) (ho : offOf (a.eval x) + 33 ≤ 34) :
    Oper.wp Tryd.prog ⟨dst, .load 44 x, tt, pos, af, gd⟩ a w K Q ↔ K (a.put dst (.agg ((rowAt w (blkOf (a.eval x))).extract (offOf (a.eval x)) (offOf (a.eval x) + 33)))) w :=
  wp_load_part Tryd.underlying44 rfl (by kernel_rfl) hv h ho
theorem store_lkp (hv : IsPart (a.eval x)) (h : Row w (blkOf (a.eval x)) 34) (ho : offOf (a.eval x) + 33 ≤ 34) (hx : IsAgg (a.eval y) 33) :
    Oper.wp Tryd.prog ⟨dst, .store 44 x y, tt, pos, af, gd⟩ a w K Q ↔ K (a.put dst undef) (w.setRow (blkOf (a.eval x)) (putAt (rowAt w (blkOf (a.eval x))) (offOf (a.eval x)) (cellsV (a.eval y)).toList)) :=
  wp_store_part (by kernel_rfl) hv h ho hx
theorem load_mk (hv : IsPart (a.eval x)) (h : Row w (blkOf (a.eval x)) 33) (ho : offOf (a.eval x) + 32 ≤ 33) :
    Oper.wp Tryd.prog ⟨dst, .load 28 x, tt, pos, af, gd⟩ a w K Q ↔ K (a.put dst (.agg ((rowAt w (blkOf (a.eval x))).extract (offOf (a.eval x)) (offOf (a.eval x) + 32)))) w :=
  wp_load_part Tryd.underlying28 rfl (by kernel_rfl) hv h ho
end
theorem zeroLk : #[Value.int IntKind.u8 0, Value.int IntKind.u8 0, Value.int IntKind.u8 0, Value.int IntKind.u8 0, Value.int IntKind.u8 0, Value.int IntKind.u8 0, Value.int IntKind.u8 0, Value.int IntKind.u8 0, Value.int IntKind.u8 0, Value.int IntKind.u8 0, Value.int IntKind.u8 0, Value.int IntKind.u8 0, Value.int IntKind.u8 0, Value.int IntKind.u8 0, Value.int IntKind.u8 0, Value.int IntKind.u8 0, Value.int IntKind.u8 0, Value.int IntKind.u8 0, Value.int IntKind.u8 0, Value.int IntKind.u8 0, Value.int IntKind.u8 0, Value.int IntKind.u8 0, Value.int IntKind.u8 0, Value.int IntKind.u8 0, Value.int IntKind.u8 0, Value.int IntKind.u8 0, Value.int IntKind.u8 0, Value.int IntKind.u8 0, Value.int IntKind.u8 0, Value.int IntKind.u8 0, Value.int IntKind.u8 0, Value.int IntKind.u8 0, Value.int IntKind.i64 0] = lkA [] 0 := by kernel_rfl
theorem fold_pin (A : Option Addr) (m c : Nat) (d : List UInt8) (n : Int) : Array.foldl (fun cs x => cs.setIfInBounds (1 + x.snd) x.fst) #[Value.slice A m c, Value.int IntKind.u8 0, Value.int IntKind.u8 0, Value.int IntKind.u8 0, Value.int IntKind.u8 0, Value.int IntKind.u8 0, Value.int IntKind.u8 0, Value.int IntKind.u8 0, Value.int IntKind.u8 0, Value.int IntKind.u8 0, Value.int IntKind.u8 0, Value.int IntKind.u8 0, Value.int IntKind.u8 0, Value.int IntKind.u8 0, Value.int IntKind.u8 0, Value.int IntKind.u8 0, Value.int IntKind.u8 0, Value.int IntKind.u8 0, Value.int IntKind.u8 0, Value.int IntKind.u8 0, Value.int IntKind.u8 0, Value.int IntKind.u8 0, Value.int IntKind.u8 0, Value.int IntKind.u8 0, Value.int IntKind.u8 0, Value.int IntKind.u8 0, Value.int IntKind.u8 0, Value.int IntKind.u8 0, Value.int IntKind.u8 0, Value.int IntKind.u8 0, Value.int IntKind.u8 0, Value.int IntKind.u8 0, Value.int IntKind.u8 0, Value.int IntKind.i64 0] (lkA d n).zipIdx 0 33 = lockA (.slice A m c) d n := by kernel_rfl
theorem lkA_size (d : List UInt8) (n : Int) : (lkA d n).size = 33 := (lkA_cells d n).1
attribute [local irreducible] arrV dgA sha lkA lockA
attribute [local go_sem ↓] load_lk store_lk load_lkp store_lkp load_o32 store_o32
attribute [local go_sem] isHead_mk isPart_mk offOf_mk blkOf_mk isAgg_mk cellsV_mk row_drew rowAt_drew row_new_cells row_old rowAt_new rowAt_old zeroD zeroLk zero_lk lockA_lk fold_pin lkA_size
theorem lk_Left (w0 : World) (g : Nat) (A : Option Addr) (c : Nat) (salt d : List UInt8) (n : Int) (w : World) (h : LkAt w0 g A c salt d n w) :
    Calls Tryd.prog 23 #[.pointer (some ⟨g, 0, none⟩)] w fun e w' => e = .returned (.int .i64 n) ∧ w = w' := by
  have c0 := h.left
  clear h
  go_enter Tryd.func23, Tryd.ntmps23
  go_wp2
  go_ret
  exact ⟨rfl, rfl⟩
theorem lk_Kept (w0 : World) (g : Nat) (A : Option Addr) (c : Nat) (salt d : List UInt8) (n : Int) (w : World) (h : LkAt w0 g A c salt d n w) :
    Calls Tryd.prog 22 #[.pointer (some ⟨g, 0, none⟩)] w fun e w' => e = .returned (.agg (lkA d n)) ∧ Below w.heap.size w w' := by
  have hcz := lkA_cells [] 0
  have hcl := lkA_cells d n
  have hL0 := below_alloc w (Obj.cells (lkA [] 0) 44)
  have hR0 : Row (w.alloc (Obj.cells (lkA [] 0) 44)) w.heap.size 33 := (row_new rfl).2 hcz.1
  have h1 := h.step hL0
  have r1 := h1.row
  have r2 := h1.eq
  clear h h1
  go_enter Tryd.func22, Tryd.ntmps22
  go_wp2_with fail
  exact ret_stored (p := 2) (ty := 44) (g := w.heap.size) (n := 33) (c := lkA d n) rfl Tryd.underlying44 rfl (by kernel_rfl) rfl hR0 hcl.1 rfl ⟨rfl, below_setRow hL0 (Nat.le_refl _)⟩
theorem pin_Restore_no (A : Option Addr) (m c : Nat) (d : List UInt8) (n : Int) (w : World) (hn : ¬ (0 ≤ n ∧ n ≤ 3)) :
    Calls Tryd.prog 21 #[.slice A m c, .agg (lkA d n)] w fun e w' => e = .returned (.tuple #[.pointer none, .int .i64 1]) ∧ Below w.heap.size w w' := by
  have hcl := lkA_cells d n
  have hL0 := below_alloc w (Obj.cells (lkA d n) 44)
  have c0 : (w.alloc (Obj.cells (lkA d n) 44)).cell? ⟨w.heap.size, 32, none⟩ = some (.int .i64 n) := by
    rw [((row_new rfl).2 hcl.1 : Row (w.alloc (Obj.cells (lkA d n) 44)) w.heap.size 33).cell, rowAt_new rfl, lkA_32]
  go_enter Tryd.func21, Tryd.ntmps21
  by_cases h0 : n < 0
  · have d1 : decide (n < 0) = true := by simpa using h0
    go_wp2
    go_ret2
    exact ⟨rfl, hL0⟩
  · have d1 : decide (n < 0) = false := by simpa using h0
    have d2 : decide (3 < n) = true := by simp; omega
    go_wp2
    go_ret2
    exact ⟨rfl, hL0⟩
theorem pin_Restore (A : Option Addr) (salt : List UInt8) (m c : Nat) (d : List UInt8) (n : Int) (w : World) (hs : Bs w A salt c) (hm : salt.length = m) (hmx : m ≤ 140737488351232) (hd : d.length = 32) (h0 : 0 ≤ n) (h3 : n ≤ 3) :
    Calls Tryd.prog 21 #[.slice A m c, .agg (lkA d n)] w fun e w' => ∃ g A' c', e = .returned (.tuple #[.pointer (some ⟨g, 0, none⟩), .int .i64 0]) ∧ LkAt w g A' c' salt d n w' := by
  have hcl := lkA_cells d n
  have hL0 := below_alloc w (Obj.cells (lkA d n) 44)
  have hR0 : Row (w.alloc (Obj.cells (lkA d n) 44)) w.heap.size 33 := (row_new rfl).2 hcl.1
  have hr0 : rowAt (w.alloc (Obj.cells (lkA d n) 44)) w.heap.size = lkA d n := rowAt_new rfl
  have c0 : (w.alloc (Obj.cells (lkA d n) 44)).cell? ⟨w.heap.size, 32, none⟩ = some (.int .i64 n) := by
    rw [hR0.cell, hr0, lkA_32]
  have d1 : decide (n < 0) = false := by simpa using h0
  have d2 : decide (3 < n) = false := by simpa using h3
  have hc1 := Lib.hid (fun V (hV : Below (w.alloc (Obj.cells (lkA d n) 44)).heap.size (w.alloc (Obj.cells (lkA d n) 44)) V) => clone_bytes A salt m c V ((hs.step hL0).step hV) hm hmx)
  have hHm := Lib.hid hm
  clear hs hm
  go_enter Tryd.func21, Tryd.ntmps21
  go_wp2_with fail
  generalize w.alloc (Obj.cells (lkA d n) 44) = W0 at *
  go_region_law (first
    | (go_simp; go_at_call 39; (refine (hc1.out _ (Below.refl _ _).drew).mono ?_); rintro e w5 ⟨A5, c5, rfl, hB5, hb5, ha5⟩; have hHB := Lib.hid hB5; have hHb := Lib.hid hb5; have hR1 := row_below (w := W0.drew) hR0 hb5 hR0.lt; have hr1 := (rowAt_below (w := W0.drew) hb5 hR0.lt).trans hr0; have hHa := Lib.hid ha5; clear hB5 hb5 ha5))
  all_goals go_wp2_with fail
  all_goals go_ret2
  all_goals (
    have hf5 := below_step hHb.out hL0.drew (Nat.le_refl _)
    have ha := below_alloc w5 (Obj.cells (lockA (.slice A5 m c5) d n) 72)
    have hg : w.heap.size ≤ w5.heap.size := hf5.size
    refine ⟨w5.heap.size, A5, c5, rfl, ⟨(row_new rfl).2 (lockA_cells rfl d n).1, ?_, hHB.out.step ha, fun a e => Nat.ne_of_lt (hHa.out a e), below_step ha hf5 (Nat.le_refl _), hg, hd⟩⟩)
  all_goals (rw [hHm.out]; exact rowAt_new rfl)
end Go.Proofs.YtjihklaocgmlpaaDoor
