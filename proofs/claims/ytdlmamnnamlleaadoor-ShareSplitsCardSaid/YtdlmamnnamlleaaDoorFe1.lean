/- Contract of the document's least. -/
import Derived.Test.YtdlmamnnamlleaaDoorFeP
import Derived.Test.YtdlmamnnamlleaaDoorFd1
import Derived.Test.YtdlmamnnamlleaaDoorNumN
import Derived.Test.YtdlmamnnamlleaaDoorLimb
namespace Go.Proofs.YtdlmamnnamlleaaDoor
open Go.ChangeShapes Go.WideShapes Go.ChangeAt Go.RowKit
set_option maxHeartbeats 2000000
set_option maxRecDepth 100000
theorem zeroFe : #[Value.int IntKind.i64 0, Value.int IntKind.i64 0, Value.int IntKind.i64 0, Value.int IntKind.i64 0, Value.int IntKind.i64 0, Value.int IntKind.i64 0, Value.int IntKind.i64 0, Value.int IntKind.i64 0, Value.int IntKind.i64 0, Value.int IntKind.i64 0, Value.int IntKind.i64 0, Value.int IntKind.i64 0, Value.int IntKind.i64 0, Value.int IntKind.i64 0, Value.int IntKind.i64 0, Value.int IntKind.i64 0] = arrK .i64 16 fun _ => 0 := by kernel_rfl
theorem zeroT : #[Value.int IntKind.i64 0, Value.int IntKind.i64 0, Value.int IntKind.i64 0, Value.int IntKind.i64 0, Value.int IntKind.i64 0, Value.int IntKind.i64 0, Value.int IntKind.i64 0, Value.int IntKind.i64 0, Value.int IntKind.i64 0, Value.int IntKind.i64 0, Value.int IntKind.i64 0, Value.int IntKind.i64 0, Value.int IntKind.i64 0, Value.int IntKind.i64 0, Value.int IntKind.i64 0, Value.int IntKind.i64 0, Value.int IntKind.i64 0] = arrK .i64 17 fun _ => 0 := by kernel_rfl
def feV (n : Nat) : Value := .agg (arrK .i64 16 (dgt n))
theorem num_andM {a : Nat} (ha : a < 9223372036854775808) : bits .and .i64 (a : Int) 65535 = ((a % 65536 : Nat) : Int) := by
  have hx : a &&& 65535 < 2 ^ 63 := Nat.lt_of_le_of_lt Nat.and_le_left ha
  show IntKind.i64.wrap ((BitVec.ofInt 64 (a : Int) &&& BitVec.ofInt 64 ((65535 : Nat) : Int)).toNat : Int) = _
  rw [BitVec.toNat_and, num_ofInt a ha, num_ofInt 65535 (by omega), IntKind.wrap_i64]
  rw [show (65535 : Nat) = 2 ^ 16 - 1 from rfl, Nat.and_two_pow_sub_one_eq_mod] at *
  omega
/-- The digits in the middle of a pass. -/
def midF (f : Nat → Nat) (c s j : Nat) : Nat := if j < s then lout f c j else if j = 16 then 0 else f j
/-- The number in a block of sixteen digits. -/
def feOfW (w : World) (g : Nat) : Nat := dval (fun i => (intOf ((rowAt w g)[i]?.getD undef)).toNat) 16
theorem feOfW_at {w : World} {g n : Nat} (h : At w g .i64 16 (dgt n)) (hn : n < 2 ^ 256) : feOfW w g = n := by
  unfold feOfW
  rw [h.eq, dval_congr (g := dgt n) fun i hi => by rw [arrK_at hi]; simp [intOf], dval_dgt, p16]
  exact Nat.mod_eq_of_lt hn
def mixD (f : Nat → Nat) (s j : Nat) : Nat := if j < s then f j else 0
theorem mixD_step (f : Nat → Nat) (s p : Nat) : upd (mixD f s) s (f s) p = mixD f (s + 1) p := by
  unfold upd mixD
  by_cases h : p = s
  · subst h; simp
  · by_cases h2 : p < s
    · simp [h, h2, show p < s + 1 by omega]
    · simp [h, h2, show ¬ p < s + 1 by omega]
theorem midF_step (f : Nat → Nat) (c s p : Nat) : upd (midF f c s) s (lout f c s) p = midF f c (s + 1) p := by
  unfold upd midF
  by_cases h : p = s
  · subst h; simp
  · by_cases h2 : p < s
    · simp [h, h2, show p < s + 1 by omega]
    · simp [h, h2, show ¬ p < s + 1 by omega]
theorem midF_start (f : Nat → Nat) (c p : Nat) : upd f 16 0 p = midF f c 0 p := by
  unfold upd midF
  by_cases h : p = 16
  · subst h; simp
  · simp [h]
theorem midF_end (f : Nat → Nat) (p : Nat) (hp : p < 17) : upd (midF f (f 16 * 38) 16) 16 (lcar f (f 16 * 38) 16) p = lpass f p := by
  unfold upd midF lpass
  by_cases h : p = 16
  · subst h; rw [if_pos rfl, if_neg (by omega)]
  · rw [if_neg h, if_pos (by omega), if_pos (by omega)]

attribute [local go_sem] isHead_mk blkOf_mk isAgg_mk cellsV_mk row_drew rowAt_drew row_new_cells row_old rowAt_new rowAt_old setRow_new zeroFe zeroT
end Go.Proofs.YtdlmamnnamlleaaDoor
