/- A lock compared with itself. -/
import Derived.Test.YtjihklaocgmlpaaDoorLk
namespace Go.Proofs.YtjihklaocgmlpaaDoor
open Go Go.ChangeShapes Go.WideShapes Go.ChangeAt Go.RowKit
set_option maxRecDepth 100000
theorem equalIn_dg (d : List UInt8) (k : Nat) (w : World) : (Op.equalIn (k + 2) 28 (.agg (dgA d)) (.agg (dgA d))).run Tryd.prog w = .ok true w := by
  unfold dgA
  rw [run_equalIn_arrK Tryd.underlying28 Tryd.underlying5 (by kernel_rfl)]; simp
theorem part_dg (d : List UInt8) (n : Int) (w : World) : (part 28 (lkA d n) 0).run Tryd.prog w = .ok (.agg (dgA d)) w := by
  obtain ⟨i, hi, hs⟩ : ∃ i, Tryd.prog.info? 28 = some i ∧ i.size = 32 := by
    have h : (Tryd.prog.info? 28).map (·.size) = some 32 := by kernel_rfl
    cases hi : Tryd.prog.info? 28 with
    | none => rw [hi] at h; cases h
    | some i => rw [hi] at h; exact ⟨i, rfl, by simpa using h⟩
  have h := lkA_dg (d := d) (n := n)
  rw [Nat.zero_add] at h
  simp [part, isAgg, run_underlying Tryd.underlying28, sizeOf, typeInfo, hi, hs, h]
theorem part_left (d : List UInt8) (n : Int) (w : World) : (part 3 (lkA d n) 32).run Tryd.prog w = .ok (.int .i64 n) w :=
  part_one Tryd.underlying3 lkA_32 w
theorem eqlLk (d : List UInt8) (n : Int) (w : World) : (Op.equalIn 10000 44 (.agg (lkA d n)) (.agg (lkA d n))).run Tryd.prog w = .ok true w := by
  rw [show 10000 = 9999 + 1 from rfl, Op.equalIn.eq_2]
  simp only [Sem.run_bind, run_underlying Tryd.underlying44, Result.andThen_ok]
  have hst : Tryd.prog.stoodInHeld 44 = false := by kernel_rfl
  have hl := run_equalIn_int w 9998 3 .i64 .i64 n n Tryd.underlying3
  have hm := equalIn_dg d 9997 w
  simp only [run_program, Result.andThen_ok, hst, Bool.false_eq_true, if_false, Sem.run_bind]
  simp [List.forIn_cons, part_dg, part_left, hm, hl, Sem.run_bind]
theorem neqLk (d : List UInt8) (n : Int) (w : World) : (binOp .neq 44 (.agg (lkA d n)) (.agg (lkA d n))).run Tryd.prog w = .ok (.bool false) w := by
  rw [run_neq_struct, eqlLk]; rfl
end Go.Proofs.YtjihklaocgmlpaaDoor
