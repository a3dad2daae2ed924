/- Steps for a lock, that came in; a lock beside the law's own record of it. -/
import Derived.Test.YtjihklaocgmlpaaDoorLk6
import Derived.Test.YtjihklaocgmlpaaDoorPinR
import Derived.Test.YtjihklaocgmlpaaDoorArgs2
import Derived.Test.YtjihklaocgmlpaaDoorEl
namespace Go.Proofs.YtjihklaocgmlpaaDoor
open Go Go.RowKit Go.ChangeShapes Go.WideShapes Go.ChangeAt Go.Deep
set_option maxRecDepth 100000
/-- A step: its kind, an old PIN, a fresh one. -/
structure Tr where
  kind : Int
  oA : Option Addr
  oc : Nat
  old : List UInt8
  fA : Option Addr
  fc : Nat
  fresh : List UInt8
def Tr.cells (x : Tr) : List Value := [.int .i64 x.kind, .slice x.oA x.old.length x.oc, .slice x.fA x.fresh.length x.fc]
structure TrAt (w : World) (A : Option Addr) (l : List Tr) (c : Nat) : Prop where
  cells : ∀ (i : Nat) (x : Tr), l[i]? = some x → ∃ ad, A = some ad ∧ ad.block < w.heap.size ∧ ∀ j u, x.cells[j]? = some u → w.cell? (ad.add (i * 3 + j)) = some u
  body : ∀ x ∈ l, (Bs w x.oA x.old x.oc ∧ x.old.length ≤ 140737488351232) ∧ Bs w x.fA x.fresh x.fc ∧ x.fresh.length ≤ 140737488351232
  le : l.length ≤ c
  mx : c ≤ 9223372036854775807
theorem TrAt.at_ {w W : World} {A : Option Addr} {l : List Tr} {c i : Nat} {x : Tr} (h : TrAt w A l c) (hb : Below w.heap.size w W) (hx : l[i]? = some x) :
    ∃ ad, A = some ad ∧ LdOk W 3 (.pointer (some (ad.add (i * 3)))) ∧ ldC W 3 (.pointer (some (ad.add (i * 3)))) = #[.int .i64 x.kind, .slice x.oA x.old.length x.oc, .slice x.fA x.fresh.length x.fc] := by
  obtain ⟨ad, e, hlt, hc⟩ := h.cells i x hx
  have h2 : ∀ j u, x.cells[j]? = some u → W.cell? ((ad.add (i * 3)).add j) = some u := fun j u hu => by
    rw [addr_add]
    exact (hb.cell (p := ad.add (i * 3 + j)) (by rw [addr_block]; exact hlt)).trans (hc j u hu)
  exact ⟨ad, e, ldOk_of rfl h2, ldC_of rfl h2⟩
section
variable {H : Type} {enc : TypeId × Value → H} {w : World} {base : Nat} {held : Bool}
theorem open_tries {fuel : Nat} {v : Value} {x : DataW H × List MemPlace} (h : DataW.trod enc Tryd.prog w base (fun _ => true) held fuel 51 [v] = some x) (hw : Wt Tryd.prog 51 x.1) :
    ∃ (A : Option Addr) (l : List Tr) (c : Nat), v = .slice A l.length c ∧ TrAt w A l c := by
  obtain ⟨A, n, c, rfl, hnc, hcm, -, hr⟩ := open_rows_wt Tryd.underlying51 Tryd.underlying56 (by kernel_rfl) (by kernel_rfl) h hw
  obtain ⟨l, hll, hp⟩ := list_of n (fun i (x : Tr) => (∃ ad, A = some ad ∧ ad.block < w.heap.size ∧ ∀ j u, x.cells[j]? = some u → w.cell? (ad.add (i * 3 + j)) = some u) ∧
      (Bs w x.oA x.old x.oc ∧ x.old.length ≤ 140737488351232) ∧ Bs w x.fA x.fresh x.fc ∧ x.fresh.length ≤ 140737488351232) (by
    intro i hi
    obtain ⟨ad, e, hf⟩ := hr i hi
    obtain ⟨u0, y0, m0, hc0, ht0, hw0⟩ := hf 0 _ rfl
    obtain ⟨u1, y1, m1, hc1, ht1, hw1⟩ := hf 1 _ rfl
    obtain ⟨u2, y2, m2, hc2, ht2, hw2⟩ := hf 2 _ rfl
    obtain ⟨A1, l1, c1, rfl, hr1, hl1, hm1⟩ := open_bytes_wt Tryd.underlying26 Tryd.underlying5 (by kernel_rfl) (by kernel_rfl) ht1 hw1
    obtain ⟨A2, l2, c2, rfl, hr2, hl2, hm2⟩ := open_bytes_wt Tryd.underlying26 Tryd.underlying5 (by kernel_rfl) (by kernel_rfl) ht2 hw2
    obtain ⟨z, hz, -, -⟩ := DataW.trod_int Tryd.underlying3 ht0
    obtain rfl : u0 = .int .i64 z := by simpa using hz
    refine ⟨⟨z, A1, c1, l1, A2, c2, l2⟩, ⟨ad, e, ?_, ?_⟩, ⟨⟨hr1, hl1, by show c1 ≤ _; omega⟩, by show l1.length ≤ _; omega⟩, ⟨hr2, hl2, by show c2 ≤ _; omega⟩, by show l2.length ≤ _; omega⟩
    · have := cell_lt hc0
      rw [addr_block] at this
      exact this
    · intro j u hu
      match j, hu with
      | 0, hu => cases hu; exact hc0
      | 1, hu => cases hu; exact hc1
      | 2, hu => cases hu; exact hc2)
  refine ⟨A, l, c, by rw [hll], fun i x hx => ?_, fun x hx => ?_, by omega, by unfold maxLen at hcm; omega⟩
  · obtain ⟨hi, rfl⟩ := List.getElem?_eq_some_iff.1 hx
    exact (hp i hi).1
  · obtain ⟨i, hi, rfl⟩ := List.getElem_of_mem hx
    exact (hp i hi).2
end
/-- A lock in block g, and in block nb the record that the law keeps of it. -/
structure PinSt (w0 : World) (g nb : Nat) (A : Option Addr) (c : Nat) (salt d : List UInt8) (n : Int) (d2 : List UInt8) (n2 : Int) (W : World) : Prop where
  lk : LkAt w0 g A c salt d n W
  row : Row W nb 33
  now : rowAt W nb = lkA d2 n2
  ne : nb ≠ g
  lo : w0.heap.size ≤ nb
  ap : ∀ a, A = some a → a.block ≠ nb
  dl : d2.length = 32
section
variable {w0 W W' : World} {g nb xb c : Nat} {A : Option Addr} {salt d d2 d' : List UInt8} {n n2 n' : Int} {x : Tr}
theorem LkAt.farC {a : Addr} {v : Value} (h : LkAt w0 g A c salt d n W) (hg : g ≠ a.block) (hl : w0.heap.size ≤ a.block) (ha : ∀ b, A = some b → b.block ≠ a.block) : LkAt w0 g A c salt d n (W.setCell a v) :=
  ⟨row_setCell.2 h.row, (rowAt_setCell_far hg).trans h.eq, h.salt.far ha (fun k hk => Below.heap_setCell W _ _ k hk) (by simp), h.apart, h.bel.setCell hl _, h.lo, h.dl⟩
theorem LkAt.farR {k : Nat} {cs : Array Value} (h : LkAt w0 g A c salt d n W) (hg : g ≠ k) (hl : w0.heap.size ≤ k) (ha : ∀ b, A = some b → b.block ≠ k) : LkAt w0 g A c salt d n (W.setRow k cs) :=
  ⟨(row_setRow_far hg).2 h.row, (rowAt_setRow_far hg).trans h.eq, h.salt.far ha (fun j hj => setRow_other W k j _ hj) (by simp), h.apart, below_setRow h.bel hl, h.lo, h.dl⟩
theorem PinSt.step (hb : Below W.heap.size W W') (h : PinSt w0 g nb A c salt d n d2 n2 W) : PinSt w0 g nb A c salt d n d2 n2 W' :=
  ⟨h.lk.step hb, row_below h.row hb h.row.lt, (rowAt_below hb h.row.lt).trans h.now, h.ne, h.lo, h.ap, h.dl⟩
theorem PinSt.left (h : PinSt w0 g nb A c salt d n d2 n2 W) (n' : Int) : PinSt w0 g nb A c salt d n d2 n' (W.setCell ⟨nb, 32, none⟩ (.int .i64 n')) :=
  ⟨h.lk.farC (Ne.symm h.ne) h.lo h.ap, row_setCell.2 h.row, by rw [rowAt_setCell_same, h.now, lkA_set], h.ne, h.lo, h.ap, h.dl⟩
theorem PinSt.put (h : PinSt w0 g nb A c salt d n d2 n2 W) (d' : List UInt8) (n' : Int) (hd : d'.length = 32) : PinSt w0 g nb A c salt d n d' n' (W.setRow nb (lkA d' n')) :=
  ⟨h.lk.farR (Ne.symm h.ne) h.lo h.ap, (row_setRow_same rfl h.row).2 (lkA_cells _ _).1, rowAt_setRow_same h.row, h.ne, h.lo, h.ap, hd⟩
theorem PinSt.act (h : PinSt w0 g nb A c salt d n d2 n2 W) (h' : LkAt w0 g A c salt d' n' W') (hk : Kb g W W') : PinSt w0 g nb A c salt d' n' d2 n2 W' :=
  ⟨h', (Row.of_heap (hk.block nb h.row.lt h.ne)).2 h.row, by rw [← h.now]; simp only [rowAt]; rw [hk.block nb h.row.lt h.ne], h.ne, h.lo, h.ap, h.dl⟩
theorem PinSt.c32 (h : PinSt w0 g nb A c salt d n d2 n2 W) : W.cell? ⟨nb, 32, none⟩ = some (.int .i64 n2) := by rw [h.row.cell, h.now, lkA_32]
/-- The step at hand, in block xb. -/
structure XAt (g nb xb : Nat) (x : Tr) (W : World) : Prop where
  c0 : W.cell? ⟨xb, 0, none⟩ = some (.int .i64 x.kind)
  c1 : W.cell? ⟨xb, 1, none⟩ = some (.slice x.oA x.old.length x.oc)
  c2 : W.cell? ⟨xb, 2, none⟩ = some (.slice x.fA x.fresh.length x.fc)
  lt : xb < W.heap.size
  ng : xb ≠ g
  nn : xb ≠ nb
theorem XAt.of (h : XAt g nb xb x W) (hh : W'.heap[xb]? = W.heap[xb]?) (hs : W.heap.size ≤ W'.heap.size) : XAt g nb xb x W' :=
  ⟨(World.cell?_of_block (a := ⟨xb, 0, none⟩) hh).trans h.c0, (World.cell?_of_block (a := ⟨xb, 1, none⟩) hh).trans h.c1, (World.cell?_of_block (a := ⟨xb, 2, none⟩) hh).trans h.c2, Nat.lt_of_lt_of_le h.lt hs, h.ng, h.nn⟩
theorem XAt.step (hb : Below W.heap.size W W') (h : XAt g nb xb x W) : XAt g nb xb x W' := h.of (hb.block xb h.lt) hb.size
theorem XAt.left (h : XAt g nb xb x W) (v : Value) : XAt g nb xb x (W.setCell ⟨nb, 32, none⟩ v) := h.of (Below.heap_setCell W _ _ xb h.nn) (by simp)
theorem XAt.put (h : XAt g nb xb x W) (cs : Array Value) : XAt g nb xb x (W.setRow nb cs) := h.of (setRow_other W nb xb cs h.nn) (by simp)
theorem XAt.act (h : XAt g nb xb x W) (hk : Kb g W W') : XAt g nb xb x W' := h.of (hk.block xb h.lt h.ng) hk.size
/-- Both. -/
structure Rnd (w0 : World) (g nb xb : Nat) (A : Option Addr) (c : Nat) (salt d : List UInt8) (n : Int) (d2 : List UInt8) (n2 : Int) (x : Tr) (W : World) : Prop where
  p : PinSt w0 g nb A c salt d n d2 n2 W
  x : XAt g nb xb x W
theorem Rnd.step (hb : Below W.heap.size W W') (h : Rnd w0 g nb xb A c salt d n d2 n2 x W) : Rnd w0 g nb xb A c salt d n d2 n2 x W' := ⟨h.p.step hb, h.x.step hb⟩
theorem Rnd.left (h : Rnd w0 g nb xb A c salt d n d2 n2 x W) (n' : Int) : Rnd w0 g nb xb A c salt d n d2 n' x (W.setCell ⟨nb, 32, none⟩ (.int .i64 n')) := ⟨h.p.left n', h.x.left _⟩
theorem Rnd.put (h : Rnd w0 g nb xb A c salt d n d2 n2 x W) (d' : List UInt8) (n' : Int) (hd : d'.length = 32) : Rnd w0 g nb xb A c salt d n d' n' x (W.setRow nb (lkA d' n')) := ⟨h.p.put d' n' hd, h.x.put _⟩
theorem Rnd.act (h : Rnd w0 g nb xb A c salt d n d2 n2 x W) (h' : LkAt w0 g A c salt d' n' W') (hk : Kb g W W') : Rnd w0 g nb xb A c salt d' n' d2 n2 x W' := ⟨h.p.act h' hk, h.x.act hk⟩
end
end Go.Proofs.YtjihklaocgmlpaaDoor
