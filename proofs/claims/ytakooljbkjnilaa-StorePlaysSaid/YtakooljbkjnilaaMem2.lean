/- Rules of the walk for whole arrays, the second part: a store in a region that draws its order. No program is named here. -/
import Derived.Test.YtakooljbkjnilaaMem
namespace Go.Proofs.Ytakooljbkjnilaa
open Go Go.RowKit
section
variable {P : Program} {w : World} {n : Nat}
theorem exec_store_whole {ty : TypeId} (hi : (P.info? ty).map (·.size) = some n)
    {dst : Option Tmp} {x y : Operand} {tt : TypeId} {pos : String} {af : Array Edge} {gd : Option (Nat × Bool)} {ρ : Operand → Value}
    (hv : IsHead (ρ x)) (h : Row w (blkOf (ρ x)) n) (hx : IsAgg (ρ y) n) :
    (execOp ρ ⟨dst, .store ty x y, tt, pos, af, gd⟩).run P w = .ok .skip (w.setRow (blkOf (ρ x)) (cellsV (ρ y))) := by
  have h1 := run_store_row (P := P) (w := w) hi hv h hx
  unfold execOp
  simp only [Sem.run_bind, Sem.run_pure, h1, Result.andThen_ok]
theorem below_alloc (w : World) (o : Obj) : Below w.heap.size w (w.alloc o) := (Below.refl _ _).alloc (Nat.le_refl _) o
theorem setRow_drew' {g : Nat} {c : Array Value} : w.drew.setRow g c = (w.setRow g c).drew := rfl
end
end Go.Proofs.Ytakooljbkjnilaa
