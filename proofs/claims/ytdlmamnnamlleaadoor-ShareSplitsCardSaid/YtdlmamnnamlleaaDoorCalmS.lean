/- A calm region: an operation whose guard says no is passed over; equality of numbers as a region asks it. -/
import Derived.Test.YtdlmamnnamlleaaDoorCalm
import Derived.Test.YtdlmamnnamlleaaDoorAt
namespace Go.Proofs.YtdlmamnnamlleaaDoor
open Go Go.RowKit
section
variable {P : Program} {ops : Array Oper} {Q : Exit → Act → World → Prop}
theorem calm_step_skip {R : Nat → SRel} {a0 : Act} {w0 : World} {i g : Nat} {b : Bool} {d : Tmp} {o : Oper} (hg : o.guard = some (g, b)) (hd : dstAt ops g = some d)
    (hv : ∀ (a : Act) (w : World), Came ops R o a w → a.tmps[d]?.getD undef = .bool (!b)) (hR : ∀ w, (R i).p undef w) : StepOk P ops Q R a0 w0 i o := by
  intro a w K hb hu hc hK
  have hy : yielded ops a.tmps g = some (!b) := by
    have h1 := hv a w hc
    unfold dstAt at hd
    unfold yielded
    rw [hd, Option.bind_some]
    cases h2 : a.tmps[d]? with
    | none => rw [h2] at h1; cases h1
    | some v => rw [h2] at h1; have : v = .bool (!b) := h1; rw [this]
  rw [if_neg (by simp [Region.wanted, hg, hy])]
  exact hK undef w (hR w) (Below.refl _ _)
theorem wp_eqlA {dst : Option Tmp} {t t2 tt : TypeId} {x y : Operand} {pos : String} {af : Array Edge} {gd : Option (Nat × Bool)} {a : Act} {w : World} {K : Act → World → Prop} {v u : Array Value} {r : Value} {b : BinOp}
    (hb : b = .neq ∨ b = .eql) (hm : P.eqGuardType P.depth t = false) (hx : a.eval x = .agg v) (hy : a.eval y = .agg u) (h : (binOp b t (.agg v) (.agg u)).run P w = .ok r w) (hK : K (a.put dst r) w) : Oper.wp P ⟨dst, .binOp b t x y t2, tt, pos, af, gd⟩ a w K Q := by
  have hg := run_eqGuard_agg (P := P) (w := w) b t x y v u hm
  unfold Oper.wp execOp
  rcases hb with rfl | rfl <;>
  · simp only [hx, hy, Sem.run_bind, Sem.run_pure, hg, h, Result.andThen_ok]
    exact hK
end
theorem eqlOf {a b : Nat} (ha : a < 2 ^ 256) (hb : b < 2 ^ 256) {r : Bool} (h : decide (a = b) = r) (W : World) : (binOp .eql 41 (.agg (arrK .u64 4 (wd a))) (.agg (arrK .u64 4 (wd b)))).run Tryd.prog W = .ok (.bool r) W := h ▸ eqlNum ha hb W
theorem neqOf {a b : Nat} (ha : a < 2 ^ 256) (hb : b < 2 ^ 256) {r : Bool} (h : decide (a = b) = !r) (W : World) : (binOp .neq 41 (.agg (arrK .u64 4 (wd a))) (.agg (arrK .u64 4 (wd b)))).run Tryd.prog W = .ok (.bool r) W := by
  rw [neqNum ha hb W, h, Bool.not_not]
end Go.Proofs.YtdlmamnnamlleaaDoor
