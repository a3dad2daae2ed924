/- Marks by a key: the plain words; a copy of bytes into a row; the parts of a mark's state. Contracts of package mac's Write, Sum of a state. -/
import Derived.Test.YtdlmamnnamlleaaDoorDig
import Derived.Test.YtdlmamnnamlleaaDoorBitsI
import Derived.Laws.CopyRow
import Derived.Laws.IdiomCopy
import Derived.Deep.RegionLaw
import Derived.Deep.DeepCutAuto
namespace Go.Proofs.YtdlmamnnamlleaaDoor
open Go.ChangeShapes Go.WideShapes Go.ChangeAt Go.RowKit
set_option maxHeartbeats 1000000
set_option maxRecDepth 100000

/-! The plain words. -/
def keyL (K : Nat → W32) (key : List UInt8) : List UInt8 := if 64 < key.length then sha K key else key
def padB (k : List UInt8) (c : UInt8) : List UInt8 := (List.range 64).map fun i => (k[i]?.getD 0) ^^^ c
theorem padB_len (k : List UInt8) (c : UInt8) : (padB k c).length = 64 := by simp [padB]
theorem keyL_len (K : Nat → W32) (key : List UInt8) : (keyL K key).length ≤ 64 := by
  unfold keyL
  split
  · rw [sha_len]; omega
  · omega
def markL (K : Nat → W32) (key p : List UInt8) : List UInt8 := sha K (padB (keyL K key) 92 ++ sha K (padB (keyL K key) 54 ++ p))
theorem mark_len (K : Nat → W32) (key p : List UInt8) : (markL K key p).length = 32 := sha_len _ _

/-! Two states in a row. -/
def pairA (a b : Array Value) : Array Value := (a.toList ++ b.toList).toArray
section
variable {a b a' : Array Value}
theorem pairA_cells (ha : Cells a 73) (hb : Cells b 73) : Cells (pairA a b) 146 := by
  refine ⟨by simp [pairA, ha.1, hb.1], ?_⟩
  have h1 := ha.2
  have h2 := hb.2
  rw [Array.all_eq_true_iff_forall_mem] at h1 h2 ⊢
  intro x hx
  simp [pairA] at hx
  rcases hx with hx | hx
  · exact h1 x hx
  · exact h2 x hx
theorem pairA_fst (ha : a.size = 73) : (pairA a b).extract 0 (0 + 73) = a := by
  apply Array.toList_inj.1
  simp [pairA, ← ha]
theorem pairA_snd (ha : a.size = 73) (hb : b.size = 73) : (pairA a b).extract 73 (73 + 73) = b := by
  apply Array.toList_inj.1
  simp [pairA]
  rw [List.drop_append_of_le_length (by simp [ha]), List.drop_eq_nil_of_le (by simp [ha]), List.nil_append, List.take_of_length_le (by simp [hb])]
theorem pairA_at (ha : a.size = 73) (hb : b.size = 73) {i : Nat} (hi : i < 146) : (pairA a b)[i]? = some (if i < 73 then (a[i]?).getD undef else (b[i - 73]?).getD undef) := by
  unfold pairA
  rw [List.getElem?_toArray]
  by_cases h : i < 73
  · rw [List.getElem?_append_left (by simpa using by omega), if_pos h, Array.getElem?_toList, Array.getElem?_eq_getElem (by omega)]; rfl
  · rw [List.getElem?_append_right (by simpa using by omega), if_neg h]
    simp only [Array.length_toList, ha, Array.getElem?_toList]
    rw [Array.getElem?_eq_getElem (by omega)]; rfl
theorem pairA_put (ha : a.size = 73) (hb : b.size = 73) (ha' : a'.size = 73) : putAt (pairA a b) 0 a'.toList = pairA a' b := by
  have e : pairA a b = arrV 146 fun i => if i < 73 then (a[i]?).getD undef else (b[i - 73]?).getD undef := arrV_of (by simp [pairA, ha, hb]) fun i hi => pairA_at ha hb hi
  have e2 : pairA a' b = arrV 146 fun i => if i < 73 then (a'[i]?).getD undef else (b[i - 73]?).getD undef := arrV_of (by simp [pairA, ha', hb]) fun i hi => pairA_at ha' hb hi
  rw [e, e2, putAt_arrV]
  refine arrV_congr fun i hi => ?_
  rw [if_pos (Nat.zero_le _), Nat.sub_zero, Array.getElem?_toList]
  by_cases h : i < 73
  · rw [if_pos h, if_pos h, Array.getElem?_eq_getElem (by omega)]; rfl
  · rw [if_neg h, if_neg h, Array.getElem?_eq_none (by omega)]; rfl
end
end Go.Proofs.YtdlmamnnamlleaaDoor
