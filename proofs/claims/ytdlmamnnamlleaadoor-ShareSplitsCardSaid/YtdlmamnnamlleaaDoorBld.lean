/- A struct or array built with one part named: the operation as a rule. -/
import Derived.Test.YtdlmamnnamlleaaDoorAt
namespace Go.Proofs.YtdlmamnnamlleaaDoor
open Go.ChangeShapes Go.WideShapes Go.ChangeAt Go.RowKit
section
variable {P : Program} {ops : Array Oper} {rest : List Oper} {o : Oper} {a : Act} {w : World} {K : Act → World → Prop} {Q : Exit → Act → World → Prop} {t : TypeId} {i : Nat} {x : Operand} {u vx : Value}
theorem wp_bldA (ho : o.op = .build t #[(i, x)]) (hx : a.eval x = vx) (hr : (Instr.build t #[(i, vx)]).run P w = .ok u w) (h : K (a.put o.dst u) w) : Oper.wp P o a w K Q := by
  subst hx
  obtain ⟨dst, op, tt, pos, af, gd⟩ := o
  subst ho
  unfold Oper.wp execOp
  simp only [List.map_toArray, List.map_cons, List.map_nil, Sem.run_bind, hr, Result.andThen_ok]
  exact h
theorem wpList_bldA (hgd : o.guard = none) (ho : o.op = .build t #[(i, x)]) (hx : a.eval x = vx) (hr : (Instr.build t #[(i, vx)]).run P w = .ok u w) (h : wpList P ops Q rest (a.put o.dst u) w) : wpList P ops Q (o :: rest) a w :=
  wpList_step fun K hK => by
    have hw : Region.wanted o (yielded ops a.tmps) = true := by simp [Region.wanted, hgd]
    rw [if_pos hw]
    exact wp_bldA ho hx hr (hK _ _ h)
end
end Go.Proofs.YtdlmamnnamlleaaDoor
