/- HashTells: the law's function returns true. -/
import Derived.Test.YtdlmamnnamlleaaDoorShaF
import Derived.Test.YtdlmamnnamlleaaDoorCalm
namespace Go.Proofs.YtdlmamnnamlleaaDoor
open Go.ChangeShapes Go.WideShapes Go.ChangeAt Go.RowKit
set_option maxHeartbeats 2000000
set_option maxRecDepth 100000
attribute [local irreducible] arrV
attribute [local go_sem ↓] load_state store_state execl_state execs_state load_words
attribute [local go_sem] isHead_mk isPart_mk offOf_mk blkOf_mk isAgg_mk cellsV_mk row_drew rowAt_drew row_new_cells row_old rowAt_new rowAt_old setRow_new zero_state zero_cellsS bs_app

/-- The state behind l. -/
def st0 : St := ⟨iv, 0, fun _ => 0⟩
def stL (K : Nat → W32) (l : List UInt8) : St := st0.write K l
theorem stL_ok (K : Nat → W32) (l : List UInt8) : (stL K l).ok := St.write_ok l (stF_ok iv)
/-- Both tables hold K, from a world on. -/
structure Tabs (K : Nat → W32) (w : World) : Prop where
  c1 : ∀ i < 64, w.cell? ⟨1, i, none⟩ = some (u32v (K i))
  l1 : 1 < w.heap.size
  c2 : ∀ i < 64, w.cell? ⟨0, i, none⟩ = some (u32v (K i))
  l2 : 0 < w.heap.size
theorem Tabs.below {K : Nat → W32} {w w' : World} {B : Nat} (h : Tabs K w) (hb : Below B w w') (hB : w.heap.size ≤ B) : Tabs K w' :=
  ⟨fun i hi => ((bcell hb).1 _ _ (Nat.lt_of_lt_of_le h.l1 hB)).trans (h.c1 i hi), Nat.lt_of_lt_of_le h.l1 hb.size, fun i hi => ((bcell hb).1 _ _ (Nat.lt_of_lt_of_le h.l2 hB)).trans (h.c2 i hi), Nat.lt_of_lt_of_le h.l2 hb.size⟩
theorem Tabs.step {K : Nat → W32} {w w' : World} (hb : Below w.heap.size w w') (h : Tabs K w) : Tabs K w' := h.below hb (Nat.le_refl _)
/-- A slice of bytes. -/
structure Bs (w : World) (A : Option Addr) (l : List UInt8) (c : Nat) : Prop where
  rd : Rd w w.heap.size A (bytesV l)
  le : l.length ≤ c
  mx : c ≤ 9223372036854775807
theorem Bs.step {w w' : World} {A : Option Addr} {l : List UInt8} {c : Nat} (hb : Below w.heap.size w w') (h : Bs w A l c) : Bs w' A l c := ⟨(h.rd.below hb).more hb.size, h.le, h.mx⟩
theorem Bs.conv {w : World} {A : Option Addr} {l : List UInt8} {c : Nat} (h : Bs w A l c) : (convert 22 9 (.slice A l.length c)).run Tryd.prog w = .ok (strV l) w :=
  conv_rd Tryd.underlying22 Tryd.underlying5 Tryd.underlying9 h.rd
def SRel.bs (l : List UInt8) : SRel := ⟨fun v w => ∃ A c, v = .slice A l.length c ∧ Bs w A l c, fun _ _ _ hb ⟨A, c, h1, h2⟩ => ⟨A, c, h1, h2.step hb⟩⟩
section
variable {K : Nat → W32} {w : World} {A : Option Addr} {l : List UInt8} {c : Nat}
theorem sumC (hT : Tabs K w) (h : Bs w A l c) : Calls Tryd.prog 49 #[.slice A l.length c] w fun e w' => e = .returned (.agg (arrK .u8 32 (dig K iv 0 l))) ∧ Below w.heap.size w w' :=
  hash_Sum K A l c w h.rd h.le h.mx hT.c1 hT.l1
theorem rsumC (hT : Tabs K w) (hp : l.length ≤ 1152921504606846976) : Calls Tryd.prog 21 #[strV l] w fun e w' => e = .returned (.agg (arrK .u8 32 (dig K iv 0 l))) ∧ Below w.heap.size w w' :=
  ref_Sum K l w hp hT.c2 hT.l2
theorem writeC (hT : Tabs K w) (m : List UInt8) (h : Bs w A l c) : Calls Tryd.prog 75 #[.agg (stL K m).cells, .slice A l.length c] w fun e w' => e = .returned (.agg (stL K (m ++ l)).cells) ∧ Below w.heap.size w w' :=
  (hash_write K A l c (stL K m) w (stL_ok K m) h.rd h.le h.mx hT.c1 hT.l1).mono fun _ _ ⟨h1, h2⟩ => ⟨by rw [h1]; unfold stL; rw [write_app], h2⟩
theorem stSumC (hT : Tabs K w) (m : List UInt8) : Calls Tryd.prog 76 #[.agg (stL K m).cells] w fun e w' => e = .returned (.agg (arrK .u8 32 (dig K iv 0 m))) ∧ Below w.heap.size w w' :=
  (hash_StSum K (stL K m) w (stL_ok K m) hT.c1 hT.l1).mono fun _ _ ⟨h1, h2⟩ => ⟨h1.trans (congrArg (fun h => Ending.returned (Value.agg (arrK .u8 32 (outF h)))) (write_dig (K := K) (s := st0) (l := m) rfl (by show 0 < _; omega))), h2⟩
theorem newC0 (w : World) : Calls Tryd.prog 74 #[] w fun e w' => e = .returned (.agg (stL K []).cells) ∧ Below w.heap.size w w' := hash_new w
end
end Go.Proofs.YtdlmamnnamlleaaDoor
