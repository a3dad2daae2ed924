/- Package store: Get, Drop. -/
import Derived.Test.YtakooljbkjnilaaSt6
namespace Go.Proofs.Ytakooljbkjnilaa
open Go.ChangeShapes Go.WideShapes Go.ChangeAt Go.RowKit
set_option maxHeartbeats 1000000
set_option maxRecDepth 100000
attribute [local go_sem] kp_refl kp_alloc kp_setCell kp_drew kp_drewN row_new row_old rowAt_new rowAt_old

def findO (l : List Hd) (k : Int) : Option Hd := l.find? fun x => x.h == k
theorem look_hd (l : List Hd) (k : Int) : lookM (hdM l) k = (findO l k).map Hd.val := by
  unfold lookM hdM findO
  induction l with
  | nil => rfl
  | cons x r ih =>
    simp only [List.map_cons, List.find?_cons]
    cases x.h == k
    · exact ih
    · rfl
theorem findO_mem {l : List Hd} {k : Int} {x : Hd} (h : findO l k = some x) : x ∈ l ∧ x.h = k := ⟨List.mem_of_find?_eq_some h, by have := List.find?_some h; simpa using this⟩
theorem hd_val (x : Hd) : x.val = .agg #[.int .i64 x.h, .int .i64 x.o, .slice x.A x.l.length x.cap] := rfl
/-- A block of three cells. -/
def B3 (w : World) (b : Nat) (v0 v1 v2 : Value) : Prop := ∃ te, w.heap[b]? = some (.cells #[v0, v1, v2] te (0, 0))
section
variable {w w' : World} {b : Nat} {v0 v1 v2 : Value}
theorem B3.c (h : B3 w b v0 v1 v2) : w.cell? ⟨b, 0, none⟩ = some v0 ∧ w.cell? ⟨b, 1, none⟩ = some v1 ∧ w.cell? ⟨b, 2, none⟩ = some v2 ∧ ∀ i, w.frozen? ⟨b, i, none⟩ = false := by
  obtain ⟨te, h⟩ := h
  refine ⟨?_, ?_, ?_, fun i => ?_⟩ <;> simp [World.cell?, World.frozen?, h]
theorem B3.lt (h : B3 w b v0 v1 v2) : b < w.heap.size := by
  obtain ⟨te, h⟩ := h
  exact (Array.getElem?_eq_some_iff.1 h).1
theorem B3.row (h : B3 w b v0 v1 v2) : Row w b 3 := by
  obtain ⟨te, h⟩ := h
  exact ⟨_, te, h, rfl⟩
theorem B3.other (h : B3 w b v0 v1 v2) (hh : w'.heap[b]? = w.heap[b]?) : B3 w' b v0 v1 v2 := by
  obtain ⟨te, h⟩ := h
  exact ⟨te, hh.trans h⟩
theorem B3.step (h : B3 w b v0 v1 v2) (hb : Below w.heap.size w w') : B3 w' b v0 v1 v2 := h.other (hb.block b h.lt)
theorem B3.set2 (h : B3 w b v0 v1 v2) (v : Value) : B3 (w.setCell ⟨b, 2, none⟩ v) b v0 v1 v := by
  obtain ⟨te, h⟩ := h
  refine ⟨te, ?_⟩
  simp only [World.setCell, Array.getElem?_modify]
  simp [h]
theorem B3.set1 (h : B3 w b v0 v1 v2) (v : Value) : B3 (w.setCell ⟨b, 1, none⟩ v) b v0 v v2 := by
  obtain ⟨te, h⟩ := h
  refine ⟨te, ?_⟩
  simp only [World.setCell, Array.getElem?_modify]
  simp [h]
theorem B3.set0 (h : B3 w b v0 v1 v2) (v : Value) : B3 (w.setCell ⟨b, 0, none⟩ v) b v v1 v2 := by
  obtain ⟨te, h⟩ := h
  refine ⟨te, ?_⟩
  simp only [World.setCell, Array.getElem?_modify]
  simp [h]
theorem ret_b3 {P : Program} {fn : Func} {R : Ending → World → Prop} {a : Act} {p q : Tmp} {ty : TypeId} {d : TypeDesc} (h : fn.results = #[.cell p ty, .tmp q])
    (hu : P.underlying ty = some d) (hd : (match d with | .struct _ | .array _ _ => true | _ => false) = true) (hi : (P.info? ty).map (·.size) = some 3)
    (hp : a.tmps.getD p undef = .pointer (some ⟨b, 0, none⟩)) (hr : B3 w b v0 v1 v2) (hf : a.defers = []) (hR : R (.returned (.tuple #[.agg #[v0, v1, v2], a.tmps.getD q undef])) w) : bodyPost P fn R .ret a w := by
  obtain ⟨te, hg⟩ := hr
  exact bodyPost_ret (results_row_tmp h _ _ b te #[v0, v1, v2] (0, 0) d hp hg hu hd hi) hf hR
theorem B3.new (w : World) (v0 v1 v2 : Value) (te : TypeId) : B3 (w.alloc (.cells #[v0, v1, v2] te)) w.heap.size v0 v1 v2 := ⟨te, World.alloc_heap_new _ _⟩
end
/-- What Get hands back. -/
def GetSR (l : List Hd) (k : Int) (w : World) (e : Ending) (w' : World) : Prop :=
  ∃ x : Hd, e = .returned (.tuple #[x.val, .bool (findO l k).isSome]) ∧ HdOk (fun k => w.heap.size ≤ k ∧ k < w'.heap.size) w' x ∧ (x.ob = match findO l k with | some y => y.ob | none => (0, 0, [])) ∧ Below w.heap.size w w'
theorem store_Get (g bm : Nat) (most next k : Int) (l : List Hd) (w : World) (h : StAt w g bm most next l) (hk : (Lit.int .i64 k).wf = true) :
    Calls Try.prog 15 #[.pointer (some ⟨g, 0, none⟩), .int .i64 k] w (GetSR l k w) := by
  obtain ⟨c0, c1, c2, cf⟩ := h.c
  have hlt := h.lt
  have hr := Lib.hid (fun V (hV : Below w.heap.size w V) => run_look (h.step hV).mp hk (t := 40) Try.underlying40 (zero_hd V))
  obtain ⟨x, hx, hxA, hxb⟩ : ∃ x : Hd, (lookM (hdM l) k).getD hdZ = x.val ∧ (∀ V, Below w.heap.size w V → Ats V V.heap.size x.A x.l) ∧ x.l.length ≤ 4398046511104 ∧ x.ob = match findO l k with | some y => y.ob | none => (0, 0, []) := by
    rw [look_hd]
    cases hf : findO l k with
    | none => exact ⟨⟨0, 0, none, 0, []⟩, rfl, fun V _ => ⟨Rd.nil, fun x hx => by simp at hx⟩, by simp, rfl⟩
    | some y => exact ⟨y, rfl, fun V hV => ((h.step hV).at_ y (findO_mem hf).1).ats.ats, (h.at_ y (findO_mem hf).1).lim, rfl⟩
  have hs : (lookM (hdM l) k).isSome = (findO l k).isSome := by rw [look_hd]; simp
  rw [hx, hs] at hr
  generalize hbb : (findO l k).isSome = bb at *
  have hbb := Lib.hid hbb
  clear hs
  go_enter Try.func15, Try.ntmps15
  have hr1 := hr.out (w.alloc (.cells #[.int .i64 0, .int .i64 0, .slice none 0 0] 45)) (below_alloc' _ _)
  obtain ⟨xh, xo, xA, xc, xl⟩ := x
  simp only [Hd.val] at *
  go_upto_region 2 with fail
  have hbW : Below w.heap.size w ((w.alloc (.cells #[.int .i64 0, .int .i64 0, .slice none 0 0] 45)).alloc (.cells #[.int .i64 xh, .int .i64 xo, .slice xA xl.length xc] 45)) := ((Below.refl _ _).alloc (Nat.le_refl _) _).alloc (by simp) _
  have ho := Lib.hid (store_ownA xA xl xc _ (hxA _ hbW) hxb.1)
  have r0 := (B3.new w (.int .i64 0) (.int .i64 0) (.slice none 0 0) 45).step (below_alloc' _ (.cells #[.int .i64 xh, .int .i64 xo, .slice xA xl.length xc] 45))
  have r1 := B3.new (w.alloc (.cells #[.int .i64 0, .int .i64 0, .slice none 0 0] 45)) (.int .i64 xh) (.int .i64 xo) (.slice xA xl.length xc) 45
  rw [World.size_alloc] at r1
  have hz1 : w.heap.size + 2 ≤ ((w.alloc (.cells #[.int .i64 0, .int .i64 0, .slice none 0 0] 45)).alloc (.cells #[.int .i64 xh, .int .i64 xo, .slice xA xl.length xc] 45)).heap.size := by simp
  generalize (w.alloc (.cells #[.int .i64 0, .int .i64 0, .slice none 0 0] 45)).alloc (.cells #[.int .i64 xh, .int .i64 xo, .slice xA xl.length xc] 45) = W at *
  clear hr hr1
  obtain ⟨q0, q1, q2, qf⟩ := r1.c
  go_wp2_with fail
  refine ho.out.mono ?_
  rintro e w4 ⟨A', c', l', rfl, hO⟩
  have s1 := r1.step hO.bel
  have s0 := r0.step hO.bel
  obtain ⟨p0, p1, p2, pf⟩ := s1.c
  have hz4 := hO.bel.size
  have t1 := s1.set2 (.slice A' l'.length c')
  have t0 : B3 (w4.setCell ⟨w.heap.size + 1, 2, none⟩ (.slice A' l'.length c')) w.heap.size _ _ _ := s0.other (Below.heap_setCell _ _ _ _ (by show w.heap.size ≠ w.heap.size + 1; omega))
  go_upto_region 3 with (fail)
  have hbL := Lib.hid ((hbW.trans (hO.bel.mono hbW.size)).setCell (p := ⟨w.heap.size + 1, 2, none⟩) (Nat.le_succ w.heap.size) (.slice A' l'.length c'))
  have hats := Lib.hid (hO.ats.kept (w' := w4.setCell ⟨w.heap.size + 1, 2, none⟩ (.slice A' l'.length c')) (fun k _ hk => Below.heap_setCell _ _ _ _ (by have := hk.1; show k ≠ w.heap.size + 1; omega)) (by simp))
  have hz5 : w4.heap.size = (w4.setCell ⟨w.heap.size + 1, 2, none⟩ (.slice A' l'.length c')).heap.size := by simp
  generalize w4.setCell ⟨w.heap.size + 1, 2, none⟩ (.slice A' l'.length c') = V at *
  obtain ⟨u0, u1, u2, uf⟩ := t1.c
  obtain ⟨y0, y1, y2, yf⟩ := t0.c
  have yr := t0.row
  clear q0 q1 q2 qf p0 p1 p2 pf
  go_wp2
  refine ret_b3 (p := 4) (q := 5) (ty := 45) rfl Try.underlying45 rfl (by kernel_rfl) rfl (((t0.set0 _).set1 _).set2 _) rfl ?_
  refine ⟨⟨xh, xo, A', c', l'⟩, by rw [hbb.out]; rfl, ⟨(hats.out.kept (fun k _ hk => ?_) (by simp)).weaken fun k hk => ⟨by have := hk.1; omega, by have := hk.2; simp; omega⟩, hO.len, hO.cap, ?_⟩, ?_, ?_⟩
  · rw [Below.heap_setCell _ _ _ _ (by have := hk.1; show k ≠ w.heap.size; omega), Below.heap_setCell _ _ _ _ (by have := hk.1; show k ≠ w.heap.size; omega), Below.heap_setCell _ _ _ _ (by have := hk.1; show k ≠ w.heap.size; omega)]
  · have e1 := congrArg List.length hO.kv; rw [List.length_map, List.length_map] at e1; show l'.length ≤ _; rw [e1]; exact hxb.1
  · rw [← hxb.2]; show (_, _, _) = (_, _, _); rw [hO.kv]
  · exact ((hbL.out.setCell (p := ⟨w.heap.size, 0, none⟩) (Nat.le_refl _) _).setCell (p := ⟨w.heap.size, 1, none⟩) (Nat.le_refl _) _).setCell (p := ⟨w.heap.size, 2, none⟩) (Nat.le_refl _) _
/-- Drop. -/
def dropO (l : List Hd) (k : Int) : List Hd := l.filter fun x => x.h != k
theorem del_hd (l : List Hd) (k : Int) : delM (hdM l) k = hdM (dropO l k) := by
  unfold delM hdM dropO
  rw [List.filter_map]
  rfl
theorem drop_none {l : List Hd} {k : Int} (h : findO l k = none) : dropO l k = l := by
  unfold dropO
  rw [List.filter_eq_self]
  intro x hx
  have := List.find?_eq_none.1 h x hx
  simpa using this
theorem StAt.turn {w w' : World} {g bm : Nat} {most next : Int} {l l' : List Hd} (h : StAt w g bm most next l) (ht : w.mapTurned w' bm) (hm : MpAt w' bm (hdM l')) (ha : ∀ x ∈ l', HdOk (fun k => k ≠ g ∧ k ≠ bm) w x) : StAt w' g bm most next l' := by
  obtain ⟨te, h1⟩ := h.cells
  exact ⟨⟨te, (ht.grown.block g h.lt (fun e => h.ne (by injection e))).trans h1⟩, hm, fun x hx => (ha x hx).kept (fun k hk hp => ht.grown.block k hk (fun e => hp.2 (by injection e))) ht.grown.size⟩
end Go.Proofs.Ytakooljbkjnilaa
