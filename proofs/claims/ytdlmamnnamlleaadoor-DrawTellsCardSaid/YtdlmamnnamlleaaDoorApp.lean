/- append of one element where there is room, into a row of the call's own; append in a region that draws its order. No program is named here. -/
import Derived.Test.YtdlmamnnamlleaaDoorOwn
import Derived.ArgAppend
import Derived.Deep.RegionLaw
import Derived.Deep.Draws
namespace Go.Proofs.YtdlmamnnamlleaaDoor
open Go Go.RowKit

section
variable {P : Program} {W : World}
theorem run_app_row {t ty e : TypeId} {bytes : Nat} (S : SlT P t e 1 bytes) {g N n c : Nat} {ad : Addr} {u : Value} (hR : Row W g N) (hn : n < N) (hu : W.cell? ad = some u) (h1 : u.oneCell' = true) :
    (Builtin.append_ #[t, t] ty #[.slice (some ⟨g, 0, none⟩) n N, .slice (some ad) 1 c]).run P W = .ok (.slice (some ⟨g, 0, none⟩) (n + 1) N) (W.setCell ⟨g, n, none⟩ u) := by
  obtain ⟨i, z, hi, -, hs, -⟩ := S.info
  have hcell : W.cell? ⟨g, n, none⟩ = (rowAt W g)[n]? := hR.cell n
  have hsz := hR.size
  have h := run_append_room_cells (P := P) W t ty e i S.under hi g 0 n N ad 1 c [u] (by simp [hs]) (fun j v hj => by
      cases j with
      | zero =>
        simp at hj
        subst hj
        have : ad.add 0 = ad := by unfold Addr.add; simp
        rw [this]; exact hu
      | succ j => simp at hj) (by simpa using h1) (by omega)
    (fun j hj => by
      have : j = 0 := by simpa using hj
      subst this
      simp only [hs, Nat.zero_add, Nat.mul_one, Nat.add_zero]
      rw [hcell, Array.getElem?_eq_getElem (by omega)]; rfl)
    (fun j hj => by
      have : j = 0 := by simpa using hj
      subst this
      exact hR.frozen _)
  rw [h]
  simp [World.setCells, hs]
theorem wp_app_row {o : Oper} {a : Act} {K : Act → World → Prop} {Q : Exit → Act → World → Prop} (s x : Operand) (t : TypeId)
    (ho : o.op = .call { callee := .builtin .append, args := #[s, x], argTypes := #[t, t] }) {e : TypeId} {bytes : Nat} (S : SlT P t e 1 bytes) {g N n c : Nat} {ad : Addr} {u : Value}
    (hs : a.eval s = .slice (some ⟨g, 0, none⟩) n N) (hx : a.eval x = .slice (some ad) 1 c) (hR : Row W g N) (hn : n < N) (hu : W.cell? ad = some u) (h1 : u.oneCell' = true)
    (h : K (a.put o.dst (.slice (some ⟨g, 0, none⟩) (n + 1) N)) (W.setCell ⟨g, n, none⟩ u)) : o.wp P a W K Q := by
  have hrun := run_app_row (P := P) (ty := o.type) (c := c) S hR hn hu h1
  unfold Oper.wp execOp
  simp only [ho, resolve, invoke, builtin, Sem.run_bind, Sem.run_pure, Result.andThen_ok, List.map_toArray, List.map_cons, List.map_nil, hs, hx, hrun]
  exact h
theorem step_app_row {ops : Array Oper} {o : Oper} {a : Act} {K : Act → World → Prop} {Q : Exit → Act → World → Prop} {E : Prop} (hgd : o.guard = none) (s x : Operand) (t : TypeId)
    (ho : o.op = .call { callee := .builtin .append, args := #[s, x], argTypes := #[t, t] }) {e : TypeId} {bytes : Nat} (S : SlT P t e 1 bytes) {g N n c : Nat} {ad : Addr} {u : Value}
    (hs : a.eval s = .slice (some ⟨g, 0, none⟩) n N) (hx : a.eval x = .slice (some ad) 1 c) (hR : Row W g N) (hn : n < N) (hu : W.cell? ad = some u) (h1 : u.oneCell' = true)
    (h : K (a.put o.dst (.slice (some ⟨g, 0, none⟩) (n + 1) N)) (W.setCell ⟨g, n, none⟩ u)) : if Region.wanted o (yielded ops a.tmps) = true then Oper.wp P o a W K Q else E := by
  have hw : Region.wanted o (yielded ops a.tmps) = true := by simp [Region.wanted, hgd]
  rw [if_pos hw]
  exact wp_app_row s x t ho S hs hx hR hn hu h1 h
theorem wpList_app_row {ops : Array Oper} {rest : List Oper} {o : Oper} {a : Act} {Q : Exit → Act → World → Prop} (hgd : o.guard = none) (s x : Operand) (t : TypeId)
    (ho : o.op = .call { callee := .builtin .append, args := #[s, x], argTypes := #[t, t] }) {e : TypeId} {bytes : Nat} (S : SlT P t e 1 bytes) {g N n c : Nat} {ad : Addr} {u : Value}
    (hs : a.eval s = .slice (some ⟨g, 0, none⟩) n N) (hx : a.eval x = .slice (some ad) 1 c) (hR : Row W g N) (hn : n < N) (hu : W.cell? ad = some u) (h1 : u.oneCell' = true)
    (h : wpList P ops Q rest (a.put o.dst (.slice (some ⟨g, 0, none⟩) (n + 1) N)) (W.setCell ⟨g, n, none⟩ u)) : wpList P ops Q (o :: rest) a W :=
  wpList_plain hgd fun _ hK => wp_app_row s x t ho S hs hx hR hn hu h1 (hK _ _ h)
theorem below_drewN {B : Nat} {w w' : World} (h : Below B w w') (n : Nat) : Below B w (w'.drewN n) := ⟨h.os, h.tape, h.output, h.size, h.block⟩
/-- A contract that leaves the world as it was, in a region that only reads. -/
theorem qsame {f : FuncId} {args : Array Value} {w : World} {n : Nat} {v : Value} (h : Calls P f args (w.drewN n) fun e w' => e = .returned v ∧ w.drewN n = w') : Calls P f args (w.drewN n) fun e w'' => e = .returned v ∧ ∃ m, w'' = w.drewN m :=
  h.mono fun _ _ ⟨he, hm⟩ => ⟨he, n, hm.symm⟩
/-- The cell of a block that was just made. -/
theorem cell_new1 {w : World} {u : Value} {te : TypeId} {g : Nat} (hg : g = w.heap.size) : (w.alloc (.cells #[u] te)).cell? ⟨g, 0, none⟩ = some u := by
  subst hg
  unfold World.cell?
  rw [push_new]
  rfl
end

section
variable {P : Program} {w0 W : World} {B : Nat} {e : TypeId} {v : Value} {xs : List Value}
theorem step_own {ops : Array Oper} {o : Oper} {a : Act} {K : Act → World → Prop} {Q : Exit → Act → World → Prop} {E : Prop} (hgd : o.guard = none) (s x : Operand) (t : TypeId)
    (ho : o.op = .call { callee := .builtin .append, args := #[s, x], argTypes := #[t, t] }) {bytes : Nat} (S : SlT P t e 1 bytes) (hs : a.eval s = v) (hO : Own w0 B e v xs W)
    {B' : Nat} {A : Option Addr} {c : Nat} {news : List Value} (hx : a.eval x = .slice A news.length c) (hr : Rd W B' A news) (h1 : ∀ u ∈ news, u.oneCell' = true)
    (h63 : xs.length + news.length ≤ maxLen) (hbytes : (xs.length + news.length) * bytes ≤ 140737488355328)
    (h : ∀ v' w', Own w0 B e v' (xs ++ news) w' → K (a.put o.dst v') w') :
    if Region.wanted o (yielded ops a.tmps) = true then Oper.wp P o a W K Q else E :=
  step_app hgd s x t ho S hs hO.own hx (by simp) hr h1 h63 hbytes hO.sz fun v' w' h2 h3 _ =>
    h v' w' ⟨by rw [List.length_append]; exact h2, hO.bel.grown h3 hO.sz (fun k hk => (hO.own.lt k hk).1), Nat.le_trans hO.sz h3.size⟩
end
end Go.Proofs.YtdlmamnnamlleaaDoor
