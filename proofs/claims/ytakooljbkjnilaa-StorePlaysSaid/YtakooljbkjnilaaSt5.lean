/- Package store: a slice of objects of the call's own. -/
import Derived.Test.YtakooljbkjnilaaSt4
import Derived.Test.YtakooljbkjnilaaSt3
import Derived.OwnWalkIn
namespace Go.Proofs.Ytakooljbkjnilaa
open Go.ChangeShapes Go.WideShapes Go.ChangeAt Go.RowKit
set_option maxHeartbeats 1000000
set_option maxRecDepth 100000
attribute [local go_sem] kp_refl kp_alloc kp_setCell kp_drew kp_drewN row_new row_old rowAt_new rowAt_old

theorem SHd : SlT Try.prog 27 45 3 40 := SlT.mk' Try.underlying27 (by kernel_rfl) (by omega)
/-- What an object is. -/
def Hd.ob (x : Hd) : Int × Int × List KV := (x.h, x.o, x.l.map At.kv)
/-- A slice of objects, in memory of the call's own between blocks B and N. -/
structure OwnH (B N : Nat) (w : World) (v : Value) (l : List Hd) : Prop where
  own : w.ownsRow B 45 3 v l.length (l.flatMap Hd.cells)
  lt : ∀ g, v.ownBlock = some g → g < N
  body : ∀ x ∈ l, HdOk (fun k => B ≤ k ∧ k < N ∧ some k ≠ v.ownBlock) w x
theorem OwnH.start (B N : Nat) (w : World) : OwnH B N w (.slice none 0 0) [] := ⟨World.ownsRow_nil _ _ _ _, fun g hg => (by cases hg), fun x hx => (by simp at hx)⟩
theorem HdOk.weaken {p q : Nat → Prop} {w : World} {x : Hd} (h : HdOk p w x) (hpq : ∀ k, p k → q k) : HdOk q w x := ⟨h.ats.weaken hpq, h.len, h.cap, h.lim⟩
theorem OwnH.more {B N N' : Nat} {w : World} {v : Value} {l : List Hd} (h : OwnH B N w v l) (hN : N ≤ N') : OwnH B N' w v l :=
  ⟨h.own, fun g hg => Nat.lt_of_lt_of_le (h.lt g hg) hN, fun x hx => (h.body x hx).weaken fun _ hk => ⟨hk.1, Nat.lt_of_lt_of_le hk.2.1 hN, hk.2.2⟩⟩
theorem OwnH.kept {B N : Nat} {w w' : World} {v : Value} {l : List Hd} (h : OwnH B N w v l) (hb : ∀ j, B ≤ j → j < N → w'.heap[j]? = w.heap[j]?) (hs : w.heap.size ≤ w'.heap.size) : OwnH B N w' v l := by
  refine ⟨⟨h.own.1, ?_⟩, h.lt, fun x hx => (h.body x hx).kept (fun k _ hp => hb k hp.1 hp.2.1) hs⟩
  rcases h.own.2 with h1 | ⟨g, cap, cur, h1, h2, h3, h4⟩
  · exact .inl h1
  · exact .inr ⟨g, cap, cur, h1, h2, (hb g h2 (h.lt g (by rw [h1]; rfl))).trans h3, h4⟩
theorem OwnH.form {B N : Nat} {w : World} {v : Value} {l : List Hd} (h : OwnH B N w v l) : ∃ A c, v = .slice A l.length c ∧ l.length ≤ c ∧ c ≤ maxLen := by
  rcases h.own.2 with ⟨h1, h2⟩ | ⟨g, cap, cur, h1, _, _, h2, h3, _⟩
  · exact ⟨_, 0, by rw [h1, h2], by omega, by unfold maxLen; omega⟩
  · exact ⟨_, _, h1, h2, h3⟩
theorem OwnH.rd {B N : Nat} {w : World} {A : Option Addr} {n c : Nat} {l : List Hd} (h : OwnH B N w (.slice A n c) l) : Rd w w.heap.size A (l.flatMap Hd.cells) := by
  obtain ⟨A', c', e1, -, -⟩ := h.form
  injection e1 with e1 e2 e3
  subst e2
  exact Rd.of_own h.own
theorem OwnH.snoc {B N : Nat} {W w' : World} {v v' : Value} {l : List Hd} {x : Hd} (h : OwnH B N W v l) (hN : N ≤ W.heap.size) (hx : HdOk (fun k => B ≤ k ∧ k < W.heap.size ∧ some k ≠ v.ownBlock) W x)
    (hg : W.grownBy w' v.ownBlock) (hat : v'.ownBlock = v.ownBlock ∨ v'.ownBlock = some W.heap.size) (hown : w'.ownsRow B 45 3 v' (l.length + 1) (l.flatMap Hd.cells ++ x.cells)) : OwnH B w'.heap.size w' v' (l ++ [x]) := by
  have hs := hg.size
  refine ⟨by simpa using hown, fun g hg => ?_, fun y hy => ?_⟩
  · exact (hown.lt g hg).2
  · have hq : HdOk (fun k => B ≤ k ∧ k < W.heap.size ∧ some k ≠ v.ownBlock) W y := by
      rcases List.mem_append.1 hy with hy | hy
      · exact (h.more hN).body y hy
      · have : y = x := by simpa using hy
        subst this
        exact hx
    refine (hq.kept (fun k hk hp => hg.block k hk hp.2.2) hs).weaken fun k hk => ⟨hk.1, Nat.lt_of_lt_of_le hk.2.1 hs, ?_⟩
    rcases hat with e | e
    · rw [e]; exact hk.2.2
    · rw [e]; intro e2; injection e2 with e2; exact absurd hk.2.1 (by omega)
theorem OwnH.below {B N : Nat} {w w' : World} {v : Value} {l : List Hd} (h : OwnH B N w v l) (hN : N ≤ w.heap.size) (hb : Below w.heap.size w w') : OwnH B N w' v l := h.kept (fun j _ hj => hb.block j (Nat.lt_of_lt_of_le hj hN)) hb.size
section
variable {F : Fence} {n : Nat} {P : Program}
/-- append in a fenced walk. -/
theorem wpListIn_app {w : World} {ops : Array Oper} {rest : List Oper} {o : Oper} {a : Act} {Q : Exit → Act → World → Prop} (hgd : o.guard = none) (s x : Operand) (t : TypeId)
    (ho : o.op = .call { callee := .builtin .append, args := #[s, x], argTypes := #[t, t] })
    {base : Nat} {e : TypeId} {size bytes : Nat} (S : SlT P t e size bytes) {v : Value} {k : Nat} {xs : List Value} (hs : a.eval s = v) (hown : w.ownsRow base e size v k xs)
    {B : Nat} {A : Option Addr} {m c : Nat} {news : List Value} (hx : a.eval x = .slice A m c) (hl : news.length = m * size) (hr : Rd w B A news) (h1 : ∀ u ∈ news, u.oneCell' = true)
    (h63 : k + m ≤ maxLen) (hbytes : (k + m) * bytes ≤ 140737488355328) (hbase : base ≤ w.heap.size)
    (h : ∀ v' w', w'.ownsRow base e size v' (k + m) (xs ++ news) → w.grownBy w' v.ownBlock → (v'.ownBlock = v.ownBlock ∨ v'.ownBlock = some w.heap.size) → wpListIn F n P ops Q rest (a.put o.dst v') w') : wpListIn F n P ops Q (o :: rest) a w := by
  refine wpListIn_plain hgd fun K hK' => ?_
  obtain ⟨v', w', hrun, h2, h3, h4⟩ := run_app (P := P) (ty := o.type) (c := c) S hown hl hr h1 h63 hbytes hbase
  unfold Oper.wpIn
  refine ⟨?_, ?_⟩
  · simp [Oper.about, ho, resolve, Target.leads, Sem.run_pure]
  · rw [Oper.semAt_plain F _ _ (by rw [ho]; intro c hc'; cases hc')]
    simp [execOp, ho, resolve, invoke, builtin, hs, hx, hrun, Result.andThen]
    exact hK' _ _ (h v' w' h2 h3 h4)
end
end Go.Proofs.Ytakooljbkjnilaa
