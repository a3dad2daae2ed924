/- A slice of the call's own that is appended to, beside what was there: one word for the three facts that a loop carries. No program is named here. -/
import Derived.Test.YtakooljbkjnilaaSl
import Derived.Deep.OwnRows
namespace Go.Proofs.Ytakooljbkjnilaa
open Go Go.RowKit

/-- The slice v of one-cell elements is the call's own and reads as xs; below B the world is as w0 was. -/
structure Own (w0 : World) (B : Nat) (e : TypeId) (v : Value) (xs : List Value) (W : World) : Prop where
  own : W.ownsRow B e 1 v xs.length xs
  bel : Below B w0 W
  sz : B ≤ W.heap.size

section
variable {w0 W W' : World} {B : Nat} {e : TypeId} {v : Value} {xs : List Value}
theorem Own.start (w0 : World) (e : TypeId) : Own w0 w0.heap.size e (.slice none 0 0) [] w0 := ⟨World.ownsRow_nil _ _ _ _, Below.refl _ _, Nat.le_refl _⟩
theorem Own.start' {w0 W : World} {B : Nat} (e : TypeId) (hb : Below B w0 W) (hB : B ≤ W.heap.size) : Own w0 B e (.slice none 0 0) [] W := ⟨World.ownsRow_nil _ _ _ _, hb, hB⟩
theorem Own.alloc (h : Own w0 B e v xs W) (o : Obj) : Own w0 B e v xs (W.alloc o) := ⟨h.own.alloc o, h.bel.alloc h.sz o, by have := h.sz; simp; omega⟩
theorem Own.drew (h : Own w0 B e v xs W) : Own w0 B e v xs W.drew := ⟨h.own.drew, h.bel.drew, h.sz⟩
theorem Own.form (h : Own w0 B e v xs W) : ∃ A c, v = .slice A xs.length c ∧ xs.length ≤ c ∧ c ≤ 9223372036854775807 := by
  rcases h.own.2 with ⟨h1, h2⟩ | ⟨g, cap, cur, h1, _, _, h2, h3, _⟩
  · exact ⟨_, 0, by rw [h1, h2], by omega, by omega⟩
  · exact ⟨_, _, h1, h2, by unfold maxLen at h3; omega⟩
theorem Own.rd {A : Option Addr} {n c : Nat} (h : Own w0 B e (.slice A n c) xs W) : Rd W W.heap.size A xs := by
  obtain ⟨A', c', e1, -, -⟩ := h.form
  injection e1 with e1 e2 e3
  subst e2
  exact Rd.of_own h.own
theorem Own.lt (h : Own w0 B e v xs W) {g : Nat} (hg : v.ownBlock = some g) : B ≤ g ∧ g < W.heap.size := h.own.lt g hg
theorem Own.far (h : Own w0 B e v xs W) : some W.heap.size ≠ v.ownBlock := fun e => Nat.lt_irrefl _ (h.own.lt _ e.symm).2
/-- What is said of a world behind another that left all that was there as it was. -/
theorem Own.below (h : Own w0 B e v xs W) {B' : Nat} (hb : Below B' W W') (hB : W.heap.size ≤ B') : Own w0 B e v xs W' := by
  refine ⟨⟨h.own.1, ?_⟩, h.bel.trans (hb.mono (Nat.le_trans h.sz hB)), Nat.le_trans h.sz hb.size⟩
  rcases h.own.2 with h1 | ⟨g, cap, cur, h1, h2, h3, h4⟩
  · exact .inl h1
  · refine .inr ⟨g, cap, cur, h1, h2, ?_, h4⟩
    have hg := (h.own.lt g (by rw [h1]; rfl)).2
    exact (hb.block g (by omega)).trans h3
end

section
variable {P : Program} {w0 W : World} {B : Nat} {e : TypeId} {v : Value} {xs : List Value}
/-- append of a slice's cells. -/
theorem wpList_own {ops : Array Oper} {rest : List Oper} {o : Oper} {a : Act} {Q : Exit → Act → World → Prop} (hgd : o.guard = none) (s x : Operand) (t : TypeId)
    (ho : o.op = .call { callee := .builtin .append, args := #[s, x], argTypes := #[t, t] }) {bytes : Nat} (S : SlT P t e 1 bytes) (hs : a.eval s = v) (hO : Own w0 B e v xs W)
    {B' : Nat} {A : Option Addr} {c : Nat} {news : List Value} (hx : a.eval x = .slice A news.length c) (hr : Rd W B' A news) (h1 : ∀ u ∈ news, u.oneCell' = true)
    (h63 : xs.length + news.length ≤ maxLen) (hbytes : (xs.length + news.length) * bytes ≤ 140737488355328)
    (h : ∀ v' w', Own w0 B e v' (xs ++ news) w' → W.grownBy w' v.ownBlock → (v'.ownBlock = v.ownBlock ∨ v'.ownBlock = some W.heap.size) → wpList P ops Q rest (a.put o.dst v') w') : wpList P ops Q (o :: rest) a W :=
  wpList_app hgd s x t ho S hs hO.own hx (by simp) hr h1 h63 hbytes hO.sz fun v' w' h2 h3 h4 =>
    h v' w' ⟨by rw [List.length_append]; exact h2, hO.bel.grown h3 hO.sz (fun k hk => (hO.own.lt k hk).1), Nat.le_trans hO.sz h3.size⟩ h3 h4
/-- append of one element, which lies in a block of its own. -/
theorem wpList_own1 {ops : Array Oper} {rest : List Oper} {o : Oper} {a : Act} {Q : Exit → Act → World → Prop} (hgd : o.guard = none) (s x : Operand) (t : TypeId)
    (ho : o.op = .call { callee := .builtin .append, args := #[s, x], argTypes := #[t, t] }) {bytes : Nat} (S : SlT P t e 1 bytes) (hs : a.eval s = v) (hO : Own w0 B e v xs W) (u : Value) {te : TypeId}
    (hx : a.eval x = .slice (some ⟨W.heap.size, 0, none⟩) 1 1) (h1 : u.oneCell' = true) (h63 : xs.length + 1 ≤ maxLen) (hbytes : (xs.length + 1) * bytes ≤ 140737488355328)
    (h : ∀ v' w', Own w0 B e v' (xs ++ [u]) w' → (W.alloc (.cells #[u] te)).grownBy w' v.ownBlock → (v'.ownBlock = v.ownBlock ∨ v'.ownBlock = some (W.heap.size + 1)) → wpList P ops Q rest (a.put o.dst v') w') :
    wpList P ops Q (o :: rest) a (W.alloc (.cells #[u] te)) :=
  wpList_own hgd s x t ho S hs (hO.alloc _) (news := [u]) hx (Rd.of_blk (cs := #[u]) (push_new _ _) (B := W.heap.size + 1) (by omega)) (by simpa using h1) h63 hbytes fun v' w' h2 h3 h4 =>
    h v' w' h2 h3 (by rcases h4 with h4 | h4; exact .inl h4; exact .inr (by rw [h4]; simp))
end
end Go.Proofs.Ytakooljbkjnilaa
