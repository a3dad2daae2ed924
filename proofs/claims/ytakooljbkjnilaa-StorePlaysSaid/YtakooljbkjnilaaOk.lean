/- A slice of the call's own whose elements lead to memory of the call's own: appended to, kept. No program is named here. -/
import Derived.Test.YtakooljbkjnilaaOwn
namespace Go.Proofs.Ytakooljbkjnilaa
open Go Go.RowKit
/-- A kind of element: its cells, and the bytes that it leads to. -/
structure Kd (α : Type) where
  e : TypeId
  size : Nat
  cells : α → List Value
  A : α → Option Addr
  cap : α → Nat
  body : α → List UInt8
theorem own_kept {w w' : World} {B size n : Nat} {e : TypeId} {v : Value} {xs : List Value} (h : w.ownsRow B e size v n xs) (hb : ∀ j, B ≤ j → j < w.heap.size → w'.heap[j]? = w.heap[j]?) : w'.ownsRow B e size v n xs := by
  refine ⟨h.1, ?_⟩
  rcases h.2 with h1 | ⟨g, cap, cur, h1, h2, h3, h4⟩
  · exact .inl h1
  · exact .inr ⟨g, cap, cur, h1, h2, (hb g h2 (h.lt g (by rw [h1]; rfl)).2).trans h3, h4⟩
theorem rd_kept {w w' : World} {A : Option Addr} {xs : List Value} (h : Rd w w.heap.size A xs) (hb : ∀ a, A = some a → w'.heap[a.block]? = w.heap[a.block]?) (hs : w.heap.size ≤ w'.heap.size) : Rd w' w'.heap.size A xs := fun j u hu => by
  obtain ⟨ad, e, hl, hc⟩ := h j u hu
  exact ⟨ad, e, by omega, (World.cell?_of_block (by rw [addr_block]; exact hb ad e)).trans hc⟩
structure OwnK {α : Type} (k : Kd α) (B : Nat) (w : World) (v : Value) (l : List α) : Prop where
  own : w.ownsRow B k.e k.size v l.length (l.flatMap k.cells)
  body : ∀ x ∈ l, Rd w w.heap.size (k.A x) (bytesV (k.body x)) ∧ (k.body x).length ≤ k.cap x ∧ k.cap x ≤ maxLen ∧ ∀ a, k.A x = some a → B ≤ a.block ∧ a.block < w.heap.size ∧ some a.block ≠ v.ownBlock
section
variable {α : Type} {k : Kd α} {B : Nat} {w w' W : World} {v v' : Value} {l : List α} {x : α}
theorem OwnK.start (k : Kd α) (B : Nat) (w : World) : OwnK k B w (.slice none 0 0) [] := ⟨World.ownsRow_nil _ _ _ _, fun x hx => by simp at hx⟩
theorem OwnK.kept (h : OwnK k B w v l) (hb : ∀ j, B ≤ j → j < w.heap.size → w'.heap[j]? = w.heap[j]?) (hs : w.heap.size ≤ w'.heap.size) : OwnK k B w' v l :=
  ⟨own_kept h.own hb, fun x hx => by
    obtain ⟨r1, r2, r3, r4⟩ := h.body x hx
    exact ⟨rd_kept r1 (fun a ha => hb _ (r4 a ha).1 (r4 a ha).2.1) hs, r2, r3, fun a ha => ⟨(r4 a ha).1, Nat.lt_of_lt_of_le (r4 a ha).2.1 hs, (r4 a ha).2.2⟩⟩⟩
theorem OwnK.step (h : OwnK k B w v l) (hb : Below w.heap.size w w') : OwnK k B w' v l := h.kept (fun j _ hj => hb.block j hj) hb.size
theorem OwnK.setCell (h : OwnK k B w v l) {p : Addr} (hp : p.block < B) (u : Value) : OwnK k B (w.setCell p u) v l := h.kept (fun j hj _ => Below.heap_setCell w p u j (by omega)) (by simp)
theorem OwnK.setRow (h : OwnK k B w v l) {g : Nat} (hp : g < B) (c : Array Value) : OwnK k B (w.setRow g c) v l := h.kept (fun j hj _ => setRow_other w g j c (by omega)) (by simp [World.setRow])
theorem OwnK.lt (h : OwnK k B w v l) {g : Nat} (hg : v.ownBlock = some g) : B ≤ g ∧ g < w.heap.size := h.own.lt g hg
theorem OwnK.form (h : OwnK k B w v l) : ∃ A c, v = .slice A l.length c ∧ l.length ≤ c ∧ c ≤ maxLen := by
  rcases h.own.2 with ⟨h1, h2⟩ | ⟨g, cap, cur, h1, _, _, h2, h3, _⟩
  · exact ⟨_, 0, by rw [h1, h2], by omega, by unfold maxLen; omega⟩
  · exact ⟨_, _, h1, h2, h3⟩
theorem OwnK.rd {A : Option Addr} {n c : Nat} (h : OwnK k B w (.slice A n c) l) : Rd w w.heap.size A (l.flatMap k.cells) := by
  obtain ⟨A', c', e1, -, -⟩ := h.form
  injection e1 with e1 e2 e3
  subst e2
  exact Rd.of_own h.own
theorem OwnK.snoc (h : OwnK k B W v l) (hx : Rd W W.heap.size (k.A x) (bytesV (k.body x)) ∧ (k.body x).length ≤ k.cap x ∧ k.cap x ≤ maxLen) (hfar : ∀ a, k.A x = some a → B ≤ a.block ∧ a.block < W.heap.size ∧ some a.block ≠ v.ownBlock)
    (hg : W.grownBy w' v.ownBlock) (hat : v'.ownBlock = v.ownBlock ∨ v'.ownBlock = some W.heap.size) (hown : w'.ownsRow B k.e k.size v' (l.length + 1) (l.flatMap k.cells ++ k.cells x)) : OwnK k B w' v' (l ++ [x]) := by
  have hs := hg.size
  refine ⟨by simpa using hown, fun y hy => ?_⟩
  have hq : Rd W W.heap.size (k.A y) (bytesV (k.body y)) ∧ (k.body y).length ≤ k.cap y ∧ k.cap y ≤ maxLen ∧ ∀ a, k.A y = some a → B ≤ a.block ∧ a.block < W.heap.size ∧ some a.block ≠ v.ownBlock := by
    rcases List.mem_append.1 hy with hy | hy
    · exact h.body y hy
    · have : y = x := by simpa using hy
      subst this
      exact ⟨hx.1, hx.2.1, hx.2.2, hfar⟩
  obtain ⟨r1, r2, r3, r4⟩ := hq
  refine ⟨rd_kept r1 (fun a ha => hg.block a.block (r4 a ha).2.1 (r4 a ha).2.2) hs, r2, r3, fun a ha => ⟨(r4 a ha).1, Nat.lt_of_lt_of_le (r4 a ha).2.1 hs, ?_⟩⟩
  rcases hat with e | e
  · rw [e]; exact (r4 a ha).2.2
  · rw [e]
    intro e2
    injection e2 with e2
    exact absurd (r4 a ha).2.1 (by omega)
end
section
variable {P : Program} {α : Type} {k : Kd α} {B : Nat} {W : World} {v : Value} {l : List α} {x : α}
/-- append of one element, which lies in a block of its own. -/
theorem wpList_ownK {ops : Array Oper} {rest : List Oper} {o : Oper} {a : Act} {Q : Exit → Act → World → Prop} (hgd : o.guard = none) (s y : Operand) (t : TypeId)
    (ho : o.op = .call { callee := .builtin .append, args := #[s, y], argTypes := #[t, t] }) {bytes : Nat} (S : SlT P t k.e k.size bytes) (hs : a.eval s = v) (I : OwnK k B W v l) (hB : B ≤ W.heap.size)
    {B' : Nat} {ad : Addr} {c : Nat} (hy : a.eval y = .slice (some ad) 1 c) (hr : Rd W B' (some ad) (k.cells x)) (hl : (k.cells x).length = 1 * k.size) (h1 : ∀ u ∈ k.cells x, u.oneCell' = true)
    (hx : Rd W W.heap.size (k.A x) (bytesV (k.body x)) ∧ (k.body x).length ≤ k.cap x ∧ k.cap x ≤ maxLen) (hfar : ∀ a, k.A x = some a → B ≤ a.block ∧ a.block < W.heap.size ∧ some a.block ≠ v.ownBlock)
    (h63 : l.length + 1 ≤ maxLen) (hbytes : (l.length + 1) * bytes ≤ 140737488355328)
    (h : ∀ v' w', OwnK k B w' v' (l ++ [x]) → W.grownBy w' v.ownBlock → (v'.ownBlock = v.ownBlock ∨ v'.ownBlock = some W.heap.size) → wpList P ops Q rest (a.put o.dst v') w') : wpList P ops Q (o :: rest) a W :=
  wpList_app hgd s y t ho S hs I.own hy hl hr h1 h63 hbytes hB fun v' w' h2 h3 h4 => h v' w' (I.snoc hx hfar h3 h4 h2) h3 h4
/-- append of one element, at the operation. -/
theorem wp_ownK {o : Oper} {a : Act} {K : Act → World → Prop} {Q : Exit → Act → World → Prop} (s y : Operand) (t : TypeId)
    (ho : o.op = .call { callee := .builtin .append, args := #[s, y], argTypes := #[t, t] }) {bytes : Nat} (S : SlT P t k.e k.size bytes) (hs : a.eval s = v) (I : OwnK k B W v l) (hB : B ≤ W.heap.size)
    {B' : Nat} {ad : Addr} {c : Nat} (hy : a.eval y = .slice (some ad) 1 c) (hr : Rd W B' (some ad) (k.cells x)) (hl : (k.cells x).length = 1 * k.size) (h1 : ∀ u ∈ k.cells x, u.oneCell' = true)
    (hx : Rd W W.heap.size (k.A x) (bytesV (k.body x)) ∧ (k.body x).length ≤ k.cap x ∧ k.cap x ≤ maxLen) (hfar : ∀ a, k.A x = some a → B ≤ a.block ∧ a.block < W.heap.size ∧ some a.block ≠ v.ownBlock)
    (h63 : l.length + 1 ≤ maxLen) (hbytes : (l.length + 1) * bytes ≤ 140737488355328)
    (h : ∀ v' w', OwnK k B w' v' (l ++ [x]) → W.grownBy w' v.ownBlock → (v'.ownBlock = v.ownBlock ∨ v'.ownBlock = some W.heap.size) → K (a.put o.dst v') w') : Oper.wp P o a W K Q :=
  wp_app s y t ho S hs I.own hy hl hr h1 h63 hbytes hB fun v' w' h2 h3 h4 => h v' w' (I.snoc hx hfar h3 h4 h2) h3 h4
end
end Go.Proofs.Ytakooljbkjnilaa
