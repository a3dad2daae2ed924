/- Digests as lists of 32 bytes; contracts of package hash and of the document's Sum in these words. -/
import Derived.Test.YtdlmamnnamlleaaDoorShaL
import Derived.Test.YtdlmamnnamlleaaDoorShaZ
namespace Go.Proofs.YtdlmamnnamlleaaDoor
open Go.ChangeShapes Go.WideShapes Go.ChangeAt Go.RowKit

/-- The first n bytes. -/
def bL (f : Nat → Nat) (n : Nat) : List UInt8 := (List.range n).map fun i => UInt8.ofNat (f i)
theorem bL_len (f : Nat → Nat) (n : Nat) : (bL f n).length = n := by simp [bL]
theorem bytesF_bL {f : Nat → Nat} {n i : Nat} (hi : i < n) (hf : f i < 256) : bytesF (bL f n) i = f i := by
  rw [bytesF_at (by rw [bL_len]; exact hi)]
  simp [bL, UInt8.toNat_ofNat']
  omega
/-- A digest's cells. -/
def dgA (l : List UInt8) : Array Value := arrK .u8 32 (bytesF l)
theorem dgA_cells (l : List UInt8) : Cells (dgA l) 32 := arrK_cells .u8 32 _
theorem dgA_of {f : Nat → Nat} (hf : ∀ i < 32, f i < 256) : arrK .u8 32 f = dgA (bL f 32) := arrK_congr fun i hi => (bytesF_bL hi (hf i hi)).symm
theorem dgA_bytes {l : List UInt8} (h : l.length = 32) : (dgA l).toList = bytesV l := by
  apply List.ext_getElem?
  intro i
  rw [Array.getElem?_toList]
  by_cases hi : i < 32
  · unfold dgA
    rw [arrK_at hi, bytesF_at (by omega)]
    simp [bytesV, List.getElem?_eq_getElem (show i < l.length by omega)]
  · rw [Array.getElem?_eq_none (by rw [(dgA_cells l).1]; omega), List.getElem?_eq_none (by rw [bytesV_length]; omega)]
theorem dgA_inj {a b : List UInt8} (ha : a.length = 32) (hb : b.length = 32) (h : ∀ i < 32, bytesF a i = bytesF b i) : a = b := by
  apply List.ext_getElem (by omega)
  intro i h1 h2
  have := h i (by omega)
  rw [bytesF_at h1, bytesF_at h2] at this
  exact UInt8.toNat_inj.1 this
theorem eqlD {a b : List UInt8} (ha : a.length = 32) (hb : b.length = 32) (W : World) : (binOp .eql 57 (.agg (dgA a)) (.agg (dgA b))).run Tryd.prog W = .ok (.bool (decide (a = b))) W := by
  unfold dgA
  rw [run_eql_arrK Tryd.underlying57 Tryd.underlying5 (by kernel_rfl)]
  congr 2
  by_cases h : a = b
  · subst h; simp
  · rw [decide_eq_false h]
    exact decide_eq_false fun h' => h (dgA_inj ha hb h')
/-- The digest of a text. -/
def sha (K : Nat → W32) (l : List UInt8) : List UInt8 := bL (dig K iv 0 l) 32
theorem sha_len (K : Nat → W32) (l : List UInt8) : (sha K l).length = 32 := bL_len _ _
theorem outF_lt (h : Nat → W32) (i : Nat) : outF h i < 256 := Nat.mod_lt _ (by omega)
theorem sha_dig (K : Nat → W32) (l : List UInt8) : arrK .u8 32 (dig K iv 0 l) = dgA (sha K l) := dgA_of fun i _ => outF_lt _ i
theorem rd_of_row {w : World} {g : Nat} {l : List UInt8} (hl : l.length = 32) (hR : Row w g 32) (hr : rowAt w g = dgA l) : Bs w (some ⟨g, 0, none⟩) l 32 :=
  ⟨dgA_bytes hl ▸ rd_row hR hr, by omega, by omega⟩
section
variable {K : Nat → W32} {w : World} {A : Option Addr} {l : List UInt8} {c : Nat}
theorem sumD (hT : Tabs K w) (h : Bs w A l c) : Calls Tryd.prog 49 #[.slice A l.length c] w fun e w' => e = .returned (.agg (dgA (sha K l))) ∧ Below w.heap.size w w' := by rw [← sha_dig]; exact sumC hT h
theorem rsumD (hT : Tabs K w) (hp : l.length ≤ 1152921504606846976) : Calls Tryd.prog 21 #[strV l] w fun e w' => e = .returned (.agg (dgA (sha K l))) ∧ Below w.heap.size w w' := by rw [← sha_dig]; exact rsumC hT hp
theorem stSumD (hT : Tabs K w) (m : List UInt8) : Calls Tryd.prog 76 #[.agg (stL K m).cells] w fun e w' => e = .returned (.agg (dgA (sha K m))) ∧ Below w.heap.size w w' := by rw [← sha_dig]; exact stSumC hT m
end
theorem zeroD : #[Value.int IntKind.u8 0, Value.int IntKind.u8 0, Value.int IntKind.u8 0, Value.int IntKind.u8 0, Value.int IntKind.u8 0, Value.int IntKind.u8 0, Value.int IntKind.u8 0, Value.int IntKind.u8 0, Value.int IntKind.u8 0, Value.int IntKind.u8 0, Value.int IntKind.u8 0, Value.int IntKind.u8 0, Value.int IntKind.u8 0, Value.int IntKind.u8 0, Value.int IntKind.u8 0, Value.int IntKind.u8 0, Value.int IntKind.u8 0, Value.int IntKind.u8 0, Value.int IntKind.u8 0, Value.int IntKind.u8 0, Value.int IntKind.u8 0, Value.int IntKind.u8 0, Value.int IntKind.u8 0, Value.int IntKind.u8 0, Value.int IntKind.u8 0, Value.int IntKind.u8 0, Value.int IntKind.u8 0, Value.int IntKind.u8 0, Value.int IntKind.u8 0, Value.int IntKind.u8 0, Value.int IntKind.u8 0, Value.int IntKind.u8 0] = dgA [] := zeroB32.trans (arrK_congr fun _ _ => rfl)
end Go.Proofs.YtdlmamnnamlleaaDoor
