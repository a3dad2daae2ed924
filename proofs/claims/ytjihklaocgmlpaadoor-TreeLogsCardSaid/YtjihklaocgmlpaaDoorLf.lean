/- Leaves: a slice of slices of bytes that came in; a slice of digests of the call's own that is appended to. -/
import Derived.Test.YtjihklaocgmlpaaDoorTree3
import Derived.Test.YtjihklaocgmlpaaDoorArgs2
namespace Go.Proofs.YtjihklaocgmlpaaDoor
open Go Go.RowKit Go.ChangeShapes Go.WideShapes Go.ChangeAt Go.Deep
set_option maxRecDepth 100000
/-- A slice of bytes. -/
structure Sb where
  A : Option Addr
  cap : Nat
  body : List UInt8
def Sb.cell (x : Sb) : Value := .slice x.A x.body.length x.cap
/-- A slice of slices of bytes. -/
structure Lf (w : World) (A : Option Addr) (l : List Sb) (c : Nat) : Prop where
  cells : Rd w w.heap.size A (l.map Sb.cell)
  body : ∀ x ∈ l, Bs w x.A x.body x.cap ∧ x.body.length ≤ 140737488351232
  le : l.length ≤ c
  mx : c ≤ 9223372036854775807
section
variable {w W : World} {A : Option Addr} {l : List Sb} {c : Nat}
theorem Lf.step (hb : Below w.heap.size w W) (h : Lf w A l c) : Lf W A l c :=
  ⟨(h.cells.below hb).more hb.size, fun x hx => ⟨(h.body x hx).1.step hb, (h.body x hx).2⟩, h.le, h.mx⟩
theorem Lf.take (h : Lf w A l c) (k : Nat) : Lf w A (l.take k) c :=
  ⟨by rw [List.map_take]; exact h.cells.take, fun x hx => h.body x (List.mem_of_mem_take hx), by have := h.le; rw [List.length_take]; omega, h.mx⟩
theorem Lf.at_ (h : Lf w A l c) {k : Nat} (hk : k < l.length) : ∃ ad, A = some ad ∧ ad.block < w.heap.size ∧ w.cell? (ad.add k) = some l[k].cell := by
  obtain ⟨ad, e, hb, hc⟩ := h.cells.at_ (k := k) (by simpa using hk)
  exact ⟨ad, e, hb, by simpa using hc⟩
theorem Lf.drop {ad : Addr} (h : Lf w (some ad) l c) (k : Nat) : Lf w (some (ad.add k)) (l.drop k) (c - k) :=
  ⟨by rw [List.map_drop]; exact h.cells.drop, fun x hx => h.body x (List.mem_of_mem_drop hx), by have := h.le; rw [List.length_drop]; omega, by have := h.mx; omega⟩
end

section
variable {H : Type} {enc : TypeId × Value → H} {w : World} {base : Nat} {held : Bool}
theorem open_leaves {fuel : Nat} {v : Value} {x : DataW H × List MemPlace} (h : DataW.trod enc Tryd.prog w base (fun _ => true) held fuel 22 [v] = some x) (hw : Wt Tryd.prog 22 x.1) :
    ∃ (A : Option Addr) (l : List Sb) (c : Nat), v = .slice A l.length c ∧ Lf w A l c := by
  have c1 : Tryd.prog.cellsOf 26 = 1 := by kernel_rfl
  rcases open_slice Tryd.underlying22 h with ⟨hcs, -⟩ | ⟨a, len, cap, m, n, D, Pl, hcs, -, hl, hm, hmm, hx, hi⟩
  · injection hcs with hv
    exact ⟨none, [], 0, hv, Rd.nil, fun x hx => by simp at hx, by simp, by omega⟩
  · injection hcs with hv
    rw [hx] at hw
    obtain ⟨-, hw2⟩ := wt_slice hw Tryd.underlying22
    simp only [if_true] at hmm
    obtain ⟨l, hll, hp⟩ := list_of len (fun i (y : Sb) => a.block < w.heap.size ∧ w.cell? (a.add i) = some y.cell ∧ Bs w y.A y.body y.cap ∧ y.body.length ≤ 140737488351232) (by
      intro i hil
      obtain ⟨cs', hc, ht'⟩ := hi i (by omega)
      rw [c1] at hc
      obtain ⟨-, hcl, hat⟩ := World.cells?_some hc
      have hwi : Wt Tryd.prog 26 (D i) := hw2 _ (List.mem_map.2 ⟨i, List.mem_range.2 hil, rfl⟩)
      match cs', hcl with
      | [u], _ =>
        have hcell := hat 0 (by omega)
        have e0 : (a.add (i * 1)).add 0 = a.add i := by rw [addr_add]; simp
        rw [e0] at hcell
        obtain ⟨A', l', c', rfl, hr, h1, h2⟩ := open_bytes_wt Tryd.underlying26 Tryd.underlying5 (by kernel_rfl) (by kernel_rfl) ht' hwi
        have hlt := cell_lt hcell
        rw [addr_block] at hlt
        exact ⟨⟨A', c', l'⟩, hlt, hcell, ⟨hr, h1, by show c' ≤ _; omega⟩, by show l'.length ≤ _; omega⟩)
    refine ⟨some a, l, cap, by rw [hll]; exact hv, fun j u hu => ?_, fun y hy => ?_, by omega, by unfold maxLen at hm; omega⟩
    · have hj : j < l.length := by have := (List.getElem?_eq_some_iff.1 hu).1; simpa using this
      obtain ⟨h1, h2, -⟩ := hp j hj
      refine ⟨a, rfl, h1, ?_⟩
      rw [List.getElem?_map, List.getElem?_eq_getElem hj] at hu
      rw [h2, ← hu]; rfl
    · obtain ⟨i, hi', rfl⟩ := List.getElem_of_mem hy
      exact (hp i hi').2.2
end

/-- The slice v of digests is the call's own and reads as P; below B the world is as w0 was. -/
structure OwnD (w0 : World) (B : Nat) (v : Value) (P : List (List UInt8)) (W : World) : Prop where
  own : W.ownsRow B 28 32 v P.length (flat P)
  all : ∀ x ∈ P, x.length = 32
  bel : Below B w0 W
  sz : B ≤ W.heap.size
section
variable {w0 w1 W W' : World} {B : Nat} {v : Value} {P : List (List UInt8)}
theorem OwnD.start (w0 : World) : OwnD w0 w0.heap.size (.slice none 0 0) [] w0 := ⟨World.ownsRow_nil _ _ _ _, fun x hx => by simp at hx, Below.refl _ _, Nat.le_refl _⟩
theorem OwnD.form (h : OwnD w0 B v P W) : ∃ A c, v = .slice A P.length c ∧ P.length ≤ c ∧ c ≤ 9223372036854775807 := by
  rcases h.own.2 with ⟨h1, h2⟩ | ⟨g, cap, cur, h1, _, _, h2, h3, _⟩
  · obtain rfl := List.eq_nil_of_length_eq_zero h2
    exact ⟨_, 0, h1, by simp, by omega⟩
  · exact ⟨_, _, h1, h2, by unfold maxLen at h3; omega⟩
theorem OwnD.pt {A : Option Addr} {n c : Nat} (h : OwnD w0 B (.slice A n c) P W) : Pt W A P c := by
  obtain ⟨A', c', e1, h1, h2⟩ := h.form
  injection e1 with e1 e2 e3
  subst e1 e2 e3
  exact ⟨Rd.of_own h.own, h.all, h1, h2⟩
/-- What is said of a world behind another that left all that was there as it was. -/
theorem OwnD.step (hb : Below W.heap.size W W') (h : OwnD w0 B v P W) : OwnD w0 B v P W' := by
  refine ⟨⟨h.own.1, ?_⟩, h.all, h.bel.trans (hb.mono h.sz), Nat.le_trans h.sz hb.size⟩
  rcases h.own.2 with h1 | ⟨g, cap, cur, h1, h2, h3, h4⟩
  · exact .inl h1
  · refine .inr ⟨g, cap, cur, h1, h2, ?_, h4⟩
    have hg := (h.own.lt g (by rw [h1]; rfl)).2
    exact (hb.block g (by omega)).trans h3
/-- What began later began earlier. -/
theorem OwnD.earlier {w2 : World} {B0 : Nat} (h : OwnD w1 B v P W) (hb : Below B0 w2 w1) (hB : B0 ≤ B) : OwnD w2 B0 v P W := by
  refine ⟨⟨h.own.1, ?_⟩, h.all, hb.trans (h.bel.mono hB), Nat.le_trans hB h.sz⟩
  rcases h.own.2 with h1 | ⟨g, cap, cur, h1, h2, h3⟩
  · exact .inl h1
  · exact .inr ⟨g, cap, cur, h1, by omega, h3⟩
theorem dgA_one (x : List UInt8) : ∀ u ∈ bytesV x, u.oneCell' = true := bytesV_oneCell x
end
section
variable {w0 W : World} {B : Nat} {v : Value} {P : List (List UInt8)}
theorem flat_one (x : List UInt8) : flat [x] = bytesV x := by simp [flat]
/-- append of one digest, which lies in a block of its own. -/
theorem wpList_ownD {ops : Array Oper} {rest : List Oper} {o : Oper} {a : Act} {Q : Exit → Act → World → Prop} (hgd : o.guard = none) (s y : Operand)
    (ho : o.op = .call { callee := .builtin .append, args := #[s, y], argTypes := #[23, 23] }) (hs : a.eval s = v) {ad : Addr} {c : Nat} {B' : Nat} (x : List UInt8) (hxl : x.length = 32)
    (hy : a.eval y = .slice (some ad) 1 c) (hr : Rd W B' (some ad) (bytesV x)) (hO : OwnD w0 B v P W) (h63 : P.length + 1 ≤ 2199023255552)
    (h : ∀ v' w', OwnD w0 B v' (P ++ [x]) w' → W.grownBy w' v.ownBlock → wpList Tryd.prog ops Q rest (a.put o.dst v') w') : wpList Tryd.prog ops Q (o :: rest) a W :=
  wpList_app hgd s y 23 ho S32 hs hO.own hy (news := bytesV x) (by rw [bytesV_length, hxl]) hr (dgA_one x) (by unfold maxLen; omega) (by omega) hO.sz fun v' w' h2 h3 _ =>
    h v' w' ⟨by rw [List.length_append, flat_append, flat_one]; exact h2, fun z hz => by rcases List.mem_append.1 hz with hz | hz; exact hO.all z hz; simp at hz; rw [hz]; exact hxl,
      hO.bel.grown h3 hO.sz (fun k hk => (hO.own.lt k hk).1), Nat.le_trans hO.sz h3.size⟩ h3
/-- A block of one digest that was just made. -/
theorem rd_new32 (w : World) (x : List UInt8) (t : TypeId) (hx : x.length = 32) : Rd (w.alloc (.cells (dgA x) t)) (w.heap.size + 1) (some ⟨w.heap.size, 0, none⟩) (bytesV x) :=
  dgA_bytes hx ▸ Rd.of_blk (cs := dgA x) (push_new _ _) (B := w.heap.size + 1) (by omega)
end
end Go.Proofs.YtjihklaocgmlpaaDoor
