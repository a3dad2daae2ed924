/- append of one digest onto a slice of digests of the call's own; leaves, their roots and paths, in plain words. -/
import Derived.Test.YtjihklaocgmlpaaDoorLf
import Derived.Test.YtjihklaocgmlpaaDoorTreeQ
import Derived.Great.BuildSlice
namespace Go.Proofs.YtjihklaocgmlpaaDoor
open Go Go.RowKit Go.ChangeShapes Go.WideShapes Go.ChangeAt
set_option maxRecDepth 100000
section
variable {w0 W : World} {B : Nat} {v : Value} {P : List (List UInt8)}
theorem OwnD.alloc (h : OwnD w0 B v P W) (o : Obj) : OwnD w0 B v P (W.alloc o) := h.step (below_alloc W o)
theorem OwnD.drew (h : OwnD w0 B v P W) : OwnD w0 B v P W.drew := h.step (Below.refl _ _).drew
theorem OwnD.app {x : List UInt8} {v' : Value} {w' : World} (hO : OwnD w0 B v P W) (hxl : x.length = 32) (h2 : w'.ownsRow B 28 32 v' (P.length + 1) (flat P ++ bytesV x)) (h3 : W.grownBy w' v.ownBlock) : OwnD w0 B v' (P ++ [x]) w' :=
  ⟨by rw [List.length_append, flat_append, flat_one]; exact h2, fun z hz => by rcases List.mem_append.1 hz with hz | hz; exact hO.all z hz; simp at hz; rw [hz]; exact hxl,
    hO.bel.grown h3 hO.sz (fun k hk => (hO.own.lt k hk).1), Nat.le_trans hO.sz h3.size⟩
/-- append of a digest that was just built, in a region that runs in the text's order. -/
theorem wpList_ownD1 {ops : Array Oper} {rest : List Oper} {o : Oper} {a : Act} {Q : Exit → Act → World → Prop} (hgd : o.guard = none) (s y : Operand)
    (ho : o.op = .call { callee := .builtin .append, args := #[s, y], argTypes := #[23, 23] }) (hs : a.eval s = v) {x : List UInt8} {te : TypeId} (hO : OwnD w0 B v P W)
    (hy : a.eval y = .slice (some ⟨W.heap.size, 0, none⟩) 1 1) (hxl : x.length = 32) (h63 : P.length + 1 ≤ 2199023255552)
    (h : ∀ v' w', OwnD w0 B v' (P ++ [x]) w' → wpList Tryd.prog ops Q rest (a.put o.dst v') w') : wpList Tryd.prog ops Q (o :: rest) a (W.alloc (.cells (dgA x) te)) :=
  wpList_app hgd s y 23 ho S32 hs (hO.alloc _).own hy (news := bytesV x) (by rw [bytesV_length, hxl]) (rd_new32 W x te hxl) (dgA_one x) (by unfold maxLen; omega) (by omega) (hO.alloc _).sz fun v' w' h2 h3 _ =>
    h v' w' ((hO.alloc _).app hxl h2 h3)
/-- .. and what else is there stays. -/
theorem wpList_ownD2 {ops : Array Oper} {rest : List Oper} {o : Oper} {a : Act} {Q : Exit → Act → World → Prop} (hgd : o.guard = none) (s y : Operand)
    (ho : o.op = .call { callee := .builtin .append, args := #[s, y], argTypes := #[23, 23] }) (hs : a.eval s = v) {x : List UInt8} {te : TypeId} (hO : OwnD w0 B v P W)
    (hy : a.eval y = .slice (some ⟨W.heap.size, 0, none⟩) 1 1) (hxl : x.length = 32) (h63 : P.length + 1 ≤ 2199023255552)
    (h : ∀ v' w', OwnD w0 B v' (P ++ [x]) w' → (W.alloc (.cells (dgA x) te)).grownBy w' v.ownBlock → (v'.ownBlock = v.ownBlock ∨ v'.ownBlock = some (W.heap.size + 1)) → wpList Tryd.prog ops Q rest (a.put o.dst v') w') : wpList Tryd.prog ops Q (o :: rest) a (W.alloc (.cells (dgA x) te)) :=
  wpList_app hgd s y 23 ho S32 hs (hO.alloc _).own hy (news := bytesV x) (by rw [bytesV_length, hxl]) (rd_new32 W x te hxl) (dgA_one x) (by unfold maxLen; omega) (by omega) (hO.alloc _).sz fun v' w' h2 h3 h4 =>
    h v' w' ((hO.alloc _).app hxl h2 h3) h3 (by rcases h4 with h4 | h4; exact .inl h4; exact .inr (by rw [h4]; simp))
/-- .. and in one that draws its order. -/
theorem step_ownD1 {ops : Array Oper} {o : Oper} {a : Act} {K : Act → World → Prop} {Q : Exit → Act → World → Prop} {E : Prop} (hgd : o.guard = none) (s y : Operand)
    (ho : o.op = .call { callee := .builtin .append, args := #[s, y], argTypes := #[23, 23] }) (hs : a.eval s = v) {x : List UInt8} {te : TypeId} (hO : OwnD w0 B v P W)
    (hy : a.eval y = .slice (some ⟨W.heap.size, 0, none⟩) 1 1) (hxl : x.length = 32) (h63 : P.length + 1 ≤ 2199023255552)
    (h : ∀ v' w', OwnD w0 B v' (P ++ [x]) w' → K (a.put o.dst v') w') : if Region.wanted o (yielded ops a.tmps) = true then Oper.wp Tryd.prog o a (W.alloc (.cells (dgA x) te)) K Q else E :=
  step_app hgd s y 23 ho S32 hs (hO.alloc _).own hy (news := bytesV x) (by rw [bytesV_length, hxl]) (rd_new32 W x te hxl) (dgA_one x) (by unfold maxLen; omega) (by omega) (hO.alloc _).sz fun v' w' h2 h3 _ =>
    h v' w' ((hO.alloc _).app hxl h2 h3)
end
theorem SLf : SlT Tryd.prog 22 26 1 24 := SlT.mk' Tryd.underlying22 (by kernel_rfl) (by omega)
def lvs (K : Nat → W32) (l : List Sb) : List (List UInt8) := l.map fun x => leafL K x.body
def rootL (K : Nat → W32) (l : List Sb) : List UInt8 := root (nodeL K) (sha K []) (lvs K l)
def pathL (K : Nat → W32) (l : List Sb) (i : Nat) : List (List UInt8) := path (nodeL K) (lvs K l) i
theorem floor_all (K : Nat → W32) : ∀ (P : List (List UInt8)), (∀ x ∈ P, x.length = 32) → ∀ x ∈ floorL (nodeL K) P, x.length = 32 := by
  intro P
  induction P using floorL.induct with
  | case1 a b r ih =>
    intro h x hx
    rcases List.mem_cons.1 hx with rfl | hx
    · exact node_len K a b
    · exact ih (fun y hy => h y (by simp [hy])) x hx
  | case2 l hl =>
    intro h x hx
    rw [floorL.eq_2 _ _ hl] at hx
    exact h x hx
theorem rootF_len (K : Nat → W32) : ∀ (f : Nat) (P : List (List UInt8)), (∀ x ∈ P, x.length = 32) → (rootF (nodeL K) (sha K []) f P).length = 32
  | 0, _, _ => sha_len _ _
  | f + 1, [], _ => sha_len _ _
  | f + 1, [d], h => h d (by simp)
  | f + 1, a :: b :: r, h => rootF_len K f (floorL (nodeL K) (a :: b :: r)) (floor_all K _ h)
theorem lvs_all (K : Nat → W32) (l : List Sb) : ∀ x ∈ lvs K l, x.length = 32 := fun x hx => by
  obtain ⟨y, -, rfl⟩ := List.mem_map.1 hx
  exact leaf_len K _
theorem lvs_len (K : Nat → W32) (l : List Sb) : (lvs K l).length = l.length := by simp [lvs]
theorem rootL_len (K : Nat → W32) (l : List Sb) : (rootL K l).length = 32 := rootF_len K _ _ (lvs_all K l)
theorem rootL_split (K : Nat → W32) (l : List Sb) {n : Nat} (hn : l.length = n) (h : 2 ≤ n) : rootL K l = nodeL K (rootL K (l.take (halfN n))) (rootL K (l.drop (halfN n))) := by
  unfold rootL lvs
  rw [root_split halves n _ (by simpa using hn) h, List.map_take, List.map_drop]
theorem pathF_len {α : Type} {node : α → α → α} : ∀ (f : Nat) (l : List α) (i : Nat), (pathF node f l i).length ≤ f
  | 0, _, _ => by simp [pathF]
  | f + 1, l, i => by
    unfold pathF
    split
    · simp
    · have := pathF_len (node := node) f (floorL node l) (i / 2)
      rw [List.length_append]
      split <;> simp <;> omega
theorem pathL_len (K : Nat → W32) (l : List Sb) (i : Nat) : (pathL K l i).length ≤ l.length := by
  have := pathF_len (node := nodeL K) (lvs K l).length (lvs K l) i
  rw [lvs_len] at this
  unfold pathL path
  rw [lvs_len]; exact this
theorem pathL_one (K : Nat → W32) (l : List Sb) (i : Nat) (h : l.length ≤ 1) : pathL K l i = [] := path_one (by rw [lvs_len]; exact h) i
theorem pathL_split (K : Nat → W32) (l : List Sb) {n i : Nat} (hn : l.length = n) (h : 2 ≤ n) (hi : i < n) :
    pathL K l i = if i < halfN n then pathL K (l.take (halfN n)) i ++ [rootL K (l.drop (halfN n))] else pathL K (l.drop (halfN n)) (i - halfN n) ++ [rootL K (l.take (halfN n))] := by
  unfold pathL rootL lvs
  rw [path_split (e := sha K []) halves n _ i (by simpa using hn) h hi, List.map_take, List.map_drop]
theorem below_drewN' {B : Nat} {w w' : World} (h : Below B w w') (n : Nat) : Below B w (w'.drewN n) := ⟨h.os, h.tape, h.output, h.size, h.block⟩
/-- What was there is there still: the worlds of a region. -/
macro "belows" : tactic => `(tactic| repeat (first | assumption | exact Below.refl _ _ | refine Below.drew ?_ | refine below_drewN' ?_ _ | refine below_al ?_ _ | refine below_step (by assumption) ?_ (Nat.le_refl _)))
/-- The slice does not lie in the block that v owns. -/
def Apart (v : Value) (A : Option Addr) : Prop := ∀ g, v.ownBlock = some g → ∀ a, A = some a → a.block ≠ g
theorem pt_grown {w w' : World} {A : Option Addr} {P : List (List UInt8)} {c : Nat} {v : Value} (h : Pt w A P c) (hg : w.grownBy w' v.ownBlock) (hne : Apart v A) : Pt w' A P c :=
  ⟨fun j u hu => by
    obtain ⟨ad, e, hl, hc⟩ := h.rd j u hu
    refine ⟨ad, e, Nat.lt_of_lt_of_le hl hg.size, ?_⟩
    have hb : w'.heap[ad.block]? = w.heap[ad.block]? := hg.block ad.block hl (fun he => hne ad.block he.symm ad e rfl)
    exact (World.cell?_of_block (by rw [addr_block]; exact hb)).trans hc, h.all, h.le, h.mx⟩
/-- A slice of one digest, built. -/
theorem run_bs32 {c : Array Value} (hc : c.size = 32) (w : World) : (Instr.buildSlice 23 1 #[(0, .agg c)]).run Tryd.prog w = .ok (.slice (some ⟨w.heap.size, 0, none⟩) 1 1) (w.alloc (.cells c 28)) := by
  obtain ⟨i, z, hi, hz, hs, -, hzs⟩ := S32.info
  refine run_buildSlice w _ _ 1 _ c i z S32.under hi hz (by rw [hs]; omega) (by rw [hs]; omega) ?_
  rw [hs]
  have h := Great.fill_whole (s := 32) (by omega) [.agg c] ((Array.range (1 * 32)).map (z.cells[· % z.cells.size]!)) (by intro v hv; simp at hv; subst hv; exact hc) (by simp)
  have e : ([Value.agg c].flatMap fun v => v.cells.toList).toArray = c := by simp [Value.cells]
  rw [e] at h
  exact h
section
variable {w : World} {dst : Option Tmp} {x : Operand} {tt : TypeId} {pos : String} {af : Array Edge} {gd : Option (Nat × Bool)} {a : Act} {K : Act → World → Prop} {Q : Exit → Act → World → Prop} {ρ : Operand → Value}
theorem execb_32 (h : IsAgg (ρ x) 32) : (execOp ρ ⟨dst, .buildSlice 23 1 #[(0, x)], tt, pos, af, gd⟩).run Tryd.prog w = .ok (.value (.slice (some ⟨w.heap.size, 0, none⟩) 1 1)) (w.alloc (.cells (cellsV (ρ x)) 28)) := by
  obtain ⟨c, hc⟩ : ∃ c, ρ x = .agg c := by
    cases hv : ρ x <;> first | exact ⟨_, rfl⟩ | (rw [hv] at h; exact h.elim)
  rw [hc] at h ⊢
  have h2 := run_bs32 (c := c) h.1 w
  unfold execOp
  simp only [List.map_toArray, List.map_cons, List.map_nil, hc, Sem.run_bind, h2, Result.andThen_ok]
  rfl
theorem build_32 (h : IsAgg (a.eval x) 32) : Oper.wp Tryd.prog ⟨dst, .buildSlice 23 1 #[(0, x)], tt, pos, af, gd⟩ a w K Q ↔ K (a.put dst (.slice (some ⟨w.heap.size, 0, none⟩) 1 1)) (w.alloc (.cells (cellsV (a.eval x)) 28)) := by
  unfold Oper.wp
  rw [execb_32 h]
  exact Iff.rfl
end
end Go.Proofs.YtjihklaocgmlpaaDoor
