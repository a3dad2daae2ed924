/- append onto a slice of the call's own, in a region that draws its order. No program is named here. -/
import Derived.Test.YtjfiokicnacbfaaDoorApp
namespace Go.Proofs.YtjfiokicnacbfaaDoor
open Go Go.RowKit
section
variable {P : Program} {w0 W : World} {B : Nat} {e : TypeId} {v : Value} {xs : List Value}
theorem step_own1 {ops : Array Oper} {o : Oper} {a : Act} {K : Act → World → Prop} {Q : Exit → Act → World → Prop} {E : Prop} (hgd : o.guard = none) (s x : Operand) (t : TypeId)
    (ho : o.op = .call { callee := .builtin .append, args := #[s, x], argTypes := #[t, t] }) {bytes : Nat} (S : SlT P t e 1 bytes) (hs : a.eval s = v) (hO : Own w0 B e v xs W) (u : Value) {te : TypeId}
    (hx : a.eval x = .slice (some ⟨W.heap.size, 0, none⟩) 1 1) (h1 : u.oneCell' = true) (h63 : xs.length + 1 ≤ maxLen) (hbytes : (xs.length + 1) * bytes ≤ 140737488355328)
    (h : ∀ v' w', Own w0 B e v' (xs ++ [u]) w' → K (a.put o.dst v') w') : if Region.wanted o (yielded ops a.tmps) = true then Oper.wp P o a (W.alloc (.cells #[u] te)) K Q else E :=
  step_own hgd s x t ho S hs (hO.alloc _) (news := [u]) hx (Rd.of_blk (cs := #[u]) (push_new _ _) (B := W.heap.size + 1) (by omega)) (by simpa using h1) h63 hbytes h
end
end Go.Proofs.YtjfiokicnacbfaaDoor
