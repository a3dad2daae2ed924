/- Contracts of package hash's states: New, Write. -/
import Derived.Test.YtdlmamnnamlleaaDoorSha2
import Derived.Test.YtdlmamnnamlleaaDoorPart
namespace Go.Proofs.YtdlmamnnamlleaaDoor
open Go.ChangeShapes Go.WideShapes Go.ChangeAt Go.RowKit
set_option maxHeartbeats 2000000
set_option maxRecDepth 100000

/-- A state's cells. -/
def stV (h : Nat → W32) (m : Nat) (f : Nat → Nat) : Nat → Value := fun i => if i < 8 then u32v (h i) else if i = 8 then .int .u64 (m : Int) else .int .u8 (f (i - 9) : Int)
def stC (h : Nat → W32) (m : Nat) (f : Nat → Nat) : Array Value := arrV 73 (stV h m f)
attribute [local irreducible] arrV
section
variable (h h' : Nat → W32) (m m' : Nat) (f : Nat → Nat)
theorem stC_size : (stC h m f).size = 73 := arrV_size _ _
theorem stV_one (i : Nat) : (stV h m f i).oneCell' = true := by
  unfold stV
  split
  · rfl
  · split <;> rfl
theorem stC_cells : Cells (stC h m f) 73 := arrV_cells fun i _ => stV_one h m f i
theorem stC_words : (stC h m f).extract 0 8 = h8 h := by
  have e := arrV_extract (n := 73) (o := 0) (m := 8) (f := stV h m f) (by omega)
  rw [Nat.zero_add] at e
  unfold stC
  rw [e]
  unfold h8
  rw [arrK_V]
  refine arrV_congr fun i hi => ?_
  unfold stV
  rw [Nat.zero_add, if_pos hi]
theorem stC_left : (stC h m f).extract 9 73 = arrK .u8 64 f := by
  have e := arrV_extract (n := 73) (o := 9) (m := 64) (f := stV h m f) (by omega)
  unfold stC
  rw [show (73 : Nat) = 9 + 64 from rfl] at e ⊢
  rw [e, arrK_V]
  refine arrV_congr fun i hi => ?_
  unfold stV
  rw [if_neg (by omega), if_neg (by omega), Nat.add_sub_cancel_left]
theorem stC_m : (stC h m f)[8]? = some (.int .u64 (m : Int)) := by
  unfold stC
  rw [arrV_at (by omega)]
  unfold stV
  rw [if_neg (by omega), if_pos rfl]
theorem stC_at_left {j : Nat} (hj : j < 64) : (stC h m f)[9 + j]? = some (.int .u8 (f j : Int)) := by
  unfold stC
  rw [arrV_at (by omega)]
  unfold stV
  rw [if_neg (by omega), if_neg (by omega), Nat.add_sub_cancel_left]
theorem stC_set_m : (stC h m f).setIfInBounds 8 (.int .u64 (m' : Int)) = stC h m' f := by
  unfold stC
  rw [arrV_set]
  refine arrV_congr fun i hi => ?_
  unfold stV
  by_cases e : i = 8
  · subst e; rw [if_pos rfl, if_neg (by omega), if_pos rfl]
  · rw [if_neg e, if_neg e, if_neg e]
theorem stC_set_left {j b : Nat} (hj : j < 64) : (stC h m f).setIfInBounds (9 + j) (.int .u8 (b : Int)) = stC h m (upd f j b) := by
  unfold stC
  rw [arrV_set]
  refine arrV_congr fun i hi => ?_
  unfold stV upd
  by_cases e : i = 9 + j
  · subst e; rw [if_pos rfl, if_neg (by omega), if_neg (by omega), if_pos (by omega)]
  · rw [if_neg e]
    by_cases e1 : i < 8
    · rw [if_pos e1, if_pos e1]
    · rw [if_neg e1, if_neg e1]
      by_cases e2 : i = 8
      · rw [if_pos e2, if_pos e2]
      · rw [if_neg e2, if_neg e2, if_neg (by omega)]
theorem stC_put : putAt (stC h m f) 0 (h8 h').toList = stC h' m f := by
  unfold stC
  rw [putAt_arrV]
  refine arrV_congr fun i hi => ?_
  rw [if_pos (by omega), Array.getElem?_toList]
  unfold h8 stV
  by_cases e : i < 8
  · rw [Nat.sub_zero, arrK_at e, if_pos e, if_pos e]; rfl
  · rw [Array.getElem?_eq_none (by rw [arrK_size]; omega), if_neg e, if_neg e]; rfl
end
/-- A state. -/
structure St where
  h : Nat → W32
  m : Nat
  f : Nat → Nat
def St.ok (s : St) : Prop := s.m < 18446744073709551616 ∧ ∀ i < 64, s.f i < 256
abbrev St.cells (s : St) : Array Value := stC s.h s.m s.f
def nextM (m : Nat) : Nat := (m + 1) % 18446744073709551616
def St.put (K : Nat → W32) (s : St) (b : UInt8) : St :=
  if nextM s.m % 64 = 0 then ⟨prs K s.h fun i => be32 (upd s.f (s.m % 64) b.toNat) (4 * i), nextM s.m, upd s.f (s.m % 64) b.toNat⟩ else ⟨s.h, nextM s.m, upd s.f (s.m % 64) b.toNat⟩
def St.write (K : Nat → W32) (s : St) (l : List UInt8) : St := l.foldl (St.put K) s
theorem upd_lt {f : Nat → Nat} {j : Nat} {b : UInt8} (h : ∀ i < 64, f i < 256) : ∀ i < 64, upd f j b.toNat i < 256 := fun i hi => by
  unfold upd
  split
  · exact UInt8.toNat_lt b
  · exact h i hi
theorem St.put_ok {K : Nat → W32} {s : St} (b : UInt8) (h : s.ok) : (s.put K b).ok := by
  have hm : nextM s.m < 18446744073709551616 := Nat.mod_lt _ (by omega)
  unfold St.put
  split
  · exact ⟨hm, upd_lt h.2⟩
  · exact ⟨hm, upd_lt h.2⟩
theorem St.write_ok {K : Nat → W32} : ∀ (l : List UInt8) {s : St}, s.ok → (s.write K l).ok
  | [], _, h => h
  | b :: l, _, h => St.write_ok l (St.put_ok b h)
theorem St.write_take {K : Nat → W32} {s : St} {l : List UInt8} {i : Nat} (hi : i < l.length) : s.write K (l.take (i + 1)) = (s.write K (l.take i)).put K l[i] := by
  unfold St.write
  rw [List.take_succ_eq_append_getElem hi, List.foldl_append]
  rfl
theorem load_state {w : World} {dst : Option Tmp} {x : Operand} {tt : TypeId} {pos : String} {af : Array Edge} {gd : Option (Nat × Bool)} {a : Act} {K : Act → World → Prop} {Q : Exit → Act → World → Prop}
    (hv : IsHead (a.eval x)) (h : Row w (blkOf (a.eval x)) 73) : Oper.wp Tryd.prog ⟨dst, .load 99 x, tt, pos, af, gd⟩ a w K Q ↔ K (a.put dst (.agg (rowAt w (blkOf (a.eval x))))) w :=
  wp_load_whole Tryd.underlying99 rfl (by kernel_rfl) hv h
theorem store_state {w : World} {dst : Option Tmp} {x y : Operand} {tt : TypeId} {pos : String} {af : Array Edge} {gd : Option (Nat × Bool)} {a : Act} {K : Act → World → Prop} {Q : Exit → Act → World → Prop}
    (hv : IsHead (a.eval x)) (h : Row w (blkOf (a.eval x)) 73) (hx : IsAgg (a.eval y) 73) : Oper.wp Tryd.prog ⟨dst, .store 99 x y, tt, pos, af, gd⟩ a w K Q ↔ K (a.put dst undef) (w.setRow (blkOf (a.eval x)) (cellsV (a.eval y))) :=
  wp_store_whole (by kernel_rfl) hv h hx
theorem execl_state {w : World} {dst : Option Tmp} {x : Operand} {tt : TypeId} {pos : String} {af : Array Edge} {gd : Option (Nat × Bool)} {ρ : Operand → Value}
    (hv : IsHead (ρ x)) (h : Row w (blkOf (ρ x)) 73) : (execOp ρ ⟨dst, .load 99 x, tt, pos, af, gd⟩).run Tryd.prog w = .ok (.value (.agg (rowAt w (blkOf (ρ x))))) w :=
  exec_load_whole Tryd.underlying99 rfl (by kernel_rfl) hv h
theorem execs_state {w : World} {dst : Option Tmp} {x y : Operand} {tt : TypeId} {pos : String} {af : Array Edge} {gd : Option (Nat × Bool)} {ρ : Operand → Value}
    (hv : IsHead (ρ x)) (h : Row w (blkOf (ρ x)) 73) (hx : IsAgg (ρ y) 73) : (execOp ρ ⟨dst, .store 99 x y, tt, pos, af, gd⟩).run Tryd.prog w = .ok .skip (w.setRow (blkOf (ρ x)) (cellsV (ρ y))) :=
  exec_store_whole (by kernel_rfl) hv h hx
section
variable {w : World} {dst : Option Tmp} {x y : Operand} {tt : TypeId} {pos : String} {af : Array Edge} {gd : Option (Nat × Bool)} {a : Act} {K : Act → World → Prop} {Q : Exit → Act → World → Prop}
theorem load_words (hv : IsPart (a.eval x)) (h : Row w (blkOf (a.eval x)) 73) (ho : offOf (a.eval x) + 8 ≤ 73) :
    Oper.wp Tryd.prog ⟨dst, .load 96 x, tt, pos, af, gd⟩ a w K Q ↔ K (a.put dst (.agg ((rowAt w (blkOf (a.eval x))).extract (offOf (a.eval x)) (offOf (a.eval x) + 8)))) w :=
  wp_load_part Tryd.underlying96 rfl (by kernel_rfl) hv h ho
theorem load_left (hv : IsPart (a.eval x)) (h : Row w (blkOf (a.eval x)) 73) (ho : offOf (a.eval x) + 64 ≤ 73) :
    Oper.wp Tryd.prog ⟨dst, .load 97 x, tt, pos, af, gd⟩ a w K Q ↔ K (a.put dst (.agg ((rowAt w (blkOf (a.eval x))).extract (offOf (a.eval x)) (offOf (a.eval x) + 64)))) w :=
  wp_load_part Tryd.underlying97 rfl (by kernel_rfl) hv h ho
theorem store_words (hv : IsPart (a.eval x)) (h : Row w (blkOf (a.eval x)) 73) (ho : offOf (a.eval x) + 8 ≤ 73) (hx : IsAgg (a.eval y) 8) :
    Oper.wp Tryd.prog ⟨dst, .store 96 x y, tt, pos, af, gd⟩ a w K Q ↔ K (a.put dst undef) (w.setRow (blkOf (a.eval x)) (putAt (rowAt w (blkOf (a.eval x))) (offOf (a.eval x)) (cellsV (a.eval y)).toList)) :=
  wp_store_part (by kernel_rfl) hv h ho hx
end
attribute [local go_sem ↓] load_state store_state load_words load_left store_words
attribute [local go_sem] isHead_mk isPart_mk offOf_mk blkOf_mk isAgg_mk cellsV_mk row_drew rowAt_drew row_new_cells row_old rowAt_new rowAt_old setRow_new stC_words stC_left

/-- The zero state's cells, by numbers. -/
def stNV (hn : Nat → Nat) (m : Nat) (f : Nat → Nat) : Nat → Value := fun i => if i < 8 then .int .u32 (hn i : Int) else if i = 8 then .int .u64 (m : Int) else .int .u8 (f (i - 9) : Int)
def stZ : Array Value := arrV 73 (stNV (fun _ => 0) 0 (fun _ => 0))
theorem stZ_cells : Cells stZ 73 := arrV_cells fun i _ => by
  unfold stNV
  split
  · rfl
  · split <;> rfl
end Go.Proofs.YtdlmamnnamlleaaDoor
