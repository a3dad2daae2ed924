/- Contracts of the document's Fe: Plus, Less. -/
import Derived.Test.YtdlmamnnamlleaaFe1
namespace Go.Proofs.Ytdlmamnnamlleaa
open Go.ChangeShapes Go.WideShapes Go.ChangeAt Go.RowKit
set_option maxHeartbeats 2000000
set_option maxRecDepth 100000

attribute [local go_sem] isHead_mk blkOf_mk isAgg_mk cellsV_mk row_drew rowAt_drew row_new_cells row_old rowAt_new rowAt_old setRow_new zeroFe zeroT
theorem dval_add (f g : Nat → Nat) (n : Nat) : dval (fun i => f i + g i) n = dval f n + dval g n := by
  induction n with
  | zero => rfl
  | succ n ih => simp only [dval]; rw [ih, Nat.mul_add]; omega
theorem plus_val {a b : Nat} (ha : a < 2 ^ 256) (hb : b < 2 ^ 256) {t : Nat → Nat} (h : ∀ i < 16, t i = dgt a i + dgt b i) : dval t 16 = a + b := by
  rw [dval_congr h, dval_add, dval_dgt, dval_dgt, p16, Nat.mod_eq_of_lt ha, Nat.mod_eq_of_lt hb]
theorem less_val {a b : Nat} (ha : a < 2 ^ 256) (hb : b < 2 ^ 256) {t : Nat → Nat} (h : ∀ i < 16, t i + dgt b i = dgt a i + 4 * pdig i) : dval t 16 = a + 4 * fP - b := by
  have h1 := dval_congr h
  rw [dval_add, dval_add, dval_dgt, dval_dgt, p16, Nat.mod_eq_of_lt ha, Nat.mod_eq_of_lt hb] at h1
  have h2 : ∀ n, dval (fun i => 4 * pdig i) n = 4 * dval pdig n := fun n => by
    induction n with
    | zero => rfl
    | succ n ih => simp only [dval]; rw [ih, Nat.mul_add, Nat.mul_left_comm]
  rw [h2, pdig_val] at h1
  omega
/-- The digits laid so far, and zeros. -/
def cut16 (f : Nat → Nat) (j : Nat) : Nat := if j < 16 then f j else 0
theorem mixD16 (f : Nat → Nat) (j : Nat) (_ : j < 17) : mixD f 16 j = cut16 f j := rfl
theorem cut_val (f : Nat → Nat) : dval (cut16 f) 16 + 2 ^ 256 * cut16 f 16 = dval f 16 := by
  rw [dval_congr (f := cut16 f) (g := f) fun i hi => by unfold cut16; rw [if_pos hi], show cut16 f 16 = 0 from rfl]; omega
end Go.Proofs.Ytdlmamnnamlleaa
