/- Cards of attributes: Attrs, Upon, SameAttrs. -/
import Derived.Test.YtakooljbkjnilaaRu5
namespace Go.Proofs.Ytakooljbkjnilaa
open Go.ChangeShapes Go.WideShapes Go.ChangeAt Go.RowKit
set_option maxHeartbeats 1000000
set_option maxRecDepth 100000
attribute [local go_sem] kp_refl kp_alloc kp_setCell kp_drew kp_drewN row_new row_old rowAt_new rowAt_old

attribute [local go_sem] isHead_mk blkOf_mk isAgg_mk cellsV_mk row_drew rowAt_drew row_new_cells setRow_new

theorem SAt : SlT Try.prog 33 68 2 32 := SlT.mk' Try.underlying33 (by kernel_rfl) (by omega)
def Crd.at_ (c : Crd) (k : Nat) : Option KV := if c.has k = true then some ((k : Int), c.v k) else none
def Crd.to_ (c : Crd) (n : Nat) : List KV := (List.range n).filterMap c.at_
def Crd.attrs (c : Crd) : List KV := c.to_ 19
theorem crd_to_succ (c : Crd) (n : Nat) : c.to_ (n + 1) = c.to_ n ++ (c.at_ n).toList := by
  unfold Crd.to_
  rw [List.range_succ, List.filterMap_append]
  cases h : c.at_ n <;> simp [h]
theorem crd_to_len (c : Crd) (n : Nat) : (c.to_ n).length ≤ n := by
  induction n with
  | zero => simp [Crd.to_]
  | succ n ih =>
    rw [crd_to_succ, List.length_append]
    cases c.at_ n <;> simp <;> omega
theorem grownCap_ok {W : World} {n e : Nat} (h : n ≤ 9223372036854775807) : n ≤ grownCap W n 0 e ∧ grownCap W n 0 e ≤ 9223372036854775807 := by
  have h2 : n ≤ maxLen := by unfold maxLen; omega
  refine ⟨grownCap_ge _ _ _ _, ?_⟩
  have := grownCap_le_maxLen W n 0 e h2
  unfold maxLen at this; omega

theorem wpList_ats {ops : Array Oper} {rest : List Oper} {o : Oper} {a : Act} {Q : Exit → Act → World → Prop} {B : Nat} {W : World} {v : Value} {l : List At} (hgd : o.guard = none) (s x : Operand)
    (ho : o.op = .call { callee := .builtin .append, args := #[s, x], argTypes := #[33, 33] }) (hs : a.eval s = v) (I : AtsOwn B W v l) (hB : B ≤ W.heap.size) (y : At) {g : Nat} {te : TypeId} {fr : Nat × Nat}
    (hx : a.eval x = .slice (some ⟨g, 0, none⟩) 1 1) (hg : W.heap[g]? = some (.cells #[.int .i64 y.kind, .slice y.A y.body.length y.cap] te fr)) (hy : Rd W W.heap.size y.A (bytesV y.body)) (hc : y.body.length ≤ y.cap ∧ (y.cap ≤ 9223372036854775807 ∧ y.body.length ≤ 140737488351232))
    (hfar : ∀ a, y.A = some a → a.block < W.heap.size ∧ some a.block ≠ v.ownBlock) (hl : l.length ≤ 100000)
    (h : ∀ v' w', AtsOwn B w' v' (l ++ [y]) → Below B W w' → (∀ k, k < W.heap.size → some k ≠ v.ownBlock → w'.heap[k]? = W.heap[k]?) → W.heap.size ≤ w'.heap.size → wpList Try.prog ops Q rest (a.put o.dst v') w') : wpList Try.prog ops Q (o :: rest) a W := by
  refine wpList_app hgd s x 33 ho SAt hs I.own hx (m := 1) (news := y.cells) rfl (Rd.of_blk hg (blk_lt hg)) (by intro u hu; simp [At.cells] at hu; rcases hu with rfl | rfl <;> rfl) (by unfold maxLen; omega) (by omega) hB fun v' w' h2 h3 h4 => ?_
  exact h v' w' (AtsOwn.step I hy hc hfar (Below.refl _ _) h3 h4 h2) ((Below.refl B W).grown h3 hB (fun k hk => (I.own.lt k hk).1)) (fun k hk hk2 => h3.block k hk hk2) h3.size

end Go.Proofs.Ytakooljbkjnilaa
