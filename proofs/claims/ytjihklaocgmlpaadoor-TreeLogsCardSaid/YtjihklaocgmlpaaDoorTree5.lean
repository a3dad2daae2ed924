/- Contract of the document's Check. -/
import Derived.Test.YtjihklaocgmlpaaDoorTree4
namespace Go.Proofs.YtjihklaocgmlpaaDoor
open Go.ChangeShapes Go.WideShapes Go.ChangeAt Go.RowKit
set_option maxHeartbeats 1000000
set_option maxRecDepth 100000
attribute [local irreducible] arrV dgA sha
attribute [local go_sem ↓] load_o32 store_o32 execl_o32 execs_o32 load_e32 execl_e32
attribute [local go_sem] isHead_mk isPart_mk offOf_mk blkOf_mk isAgg_mk cellsV_mk row_drew rowAt_drew row_new_cells row_old rowAt_new rowAt_old zeroD ldOk_drew ldC_drew

theorem Pt.cons {w : World} {A : Option Addr} {x : List UInt8} {P : List (List UInt8)} {c : Nat} (h : Pt w A (x :: P) c) : ∃ ad, A = some ad ∧ LdOk w 32 (.pointer (some ad)) ∧ ldC w 32 (.pointer (some ad)) = dgA x := by
  have hxl := h.all x (by simp)
  obtain ⟨ad, rfl, -, -⟩ := h.rd 0 (.int .u8 (bytesF x 0 : Int)) (by
    refine flat_at h.all (i := 0) (x := x) rfl 0 _ ?_
    simp [bytesV, bytesF, List.getElem?_eq_getElem (show 0 < x.length by omega)])
  have e : ad.add (0 * 32) = ad := by unfold Addr.add; simp
  have h1 := el_ok h.rd h.all (m := 0) (x := x) rfl
  have h2 := el_ld h.rd h.all (m := 0) (x := x) rfl
  rw [e] at h1 h2
  exact ⟨ad, rfl, h1, h2⟩
end Go.Proofs.YtjihklaocgmlpaaDoor
