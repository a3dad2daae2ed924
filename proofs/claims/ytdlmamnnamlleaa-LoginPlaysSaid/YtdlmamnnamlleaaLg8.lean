/- The law's function sits: what both do at a step. -/
import Derived.Test.YtdlmamnnamlleaaLg7
namespace Go.Proofs.Ytdlmamnnamlleaa
open Go.ChangeShapes Go.WideShapes Go.ChangeAt Go.RowKit
set_option maxHeartbeats 1000000
set_option maxRecDepth 100000

theorem atTo_none {l : List (Int × Bool)} {x : Int} : ∀ {n : Nat}, n ≤ l.length → (∀ i (_ : i < n) (h2 : i < l.length), l[i].1 ≠ x) → atTo l x n = -1 := by
  intro n
  induction n with
  | zero => intro _ _; rfl
  | succ n ih =>
    intro hn h
    simp only [atTo, List.getElem?_eq_getElem (show n < l.length by omega)]
    rw [if_neg (h n (by omega) (by omega)), ih (by omega) fun i hi h2 => h i (by omega) h2]
theorem atTo_some {l : List (Int × Bool)} {x : Int} {i : Nat} (hi : i < l.length) (hx : l[i].1 = x) (hne : ∀ j (h : j < l.length), j ≠ i → l[j].1 ≠ x) : ∀ n, n ≤ l.length → i < n → atTo l x n = i := by
  intro n
  induction n with
  | zero => intro _ h; omega
  | succ n ih =>
    intro hn h
    simp only [atTo, List.getElem?_eq_getElem (show n < l.length by omega)]
    by_cases e : n = i
    · subst e; rw [if_pos hx]
    · rw [if_neg (hne n (by omega) e), ih (by omega) (by omega)]
theorem asc_ne {l : List (Int × Bool)} (ha : l.Pairwise fun p q => p.1 < q.1) {i j : Nat} (hi : i < l.length) (hj : j < l.length) (h : j ≠ i) : l[j].1 ≠ l[i].1 := by
  rcases Nat.lt_or_ge i j with h1 | h1
  · have := List.pairwise_iff_getElem.1 ha i j hi hj h1; omega
  · have := List.pairwise_iff_getElem.1 ha j i hj hi (by omega); omega
theorem at_spec {l : List (Int × Bool)} (ha : l.Pairwise fun p q => p.1 < q.1) (x : Int) :
    (atTo l x l.length = -1 ∧ seat l x = none) ∨ ∃ i, ∃ h : i < l.length, atTo l x l.length = (i : Int) ∧ seat l x = some l[i].2 ∧ l[i].1 = x := by
  cases hs : seat l x with
  | none =>
    refine .inl ⟨atTo_none (Nat.le_refl _) fun i hi h2 e => ?_, rfl⟩
    have := seat_of ha (List.getElem_mem h2)
    rw [e, hs] at this; cases this
  | some u =>
    obtain ⟨i, hi, he⟩ := List.getElem_of_mem (seat_mem hs)
    refine .inr ⟨i, hi, ?_, by rw [he], by rw [he]⟩
    have h1 : l[i].1 = x := by rw [he]
    exact atTo_some hi h1 (fun j hj hne => by rw [← h1]; exact asc_ne ha hi hj hne) _ (Nat.le_refl _) hi
theorem alone_all (l : List (Int × Bool)) : ∀ n, n ≤ l.length → aloneTo l n = !allRW (l.take n) := by
  intro n
  induction n with
  | zero => intro _; rfl
  | succ n ih =>
    intro hn
    have hl : n < l.length := by omega
    simp only [aloneTo, List.getElem?_eq_getElem hl]
    rw [ih (by omega), List.take_succ_eq_append_getElem hl]
    unfold allRW
    rw [List.all_append]
    simp
theorem alone_spec (l : List (Int × Bool)) : aloneTo l l.length = !allRW l := by
  rw [alone_all l _ (Nat.le_refl _), List.take_length]
theorem tok_But {w w' : World} {g bm gt : Nat} {who last : Int} {v : Value} (h : TokAt w gt who last v) (hb : But g bm w w') (h1 : gt ≠ g) (h2 : gt ≠ bm) : TokAt w' gt who last v := by
  have hbl := hb.block gt h.lt h1 h2
  have hc : ∀ i, w'.cell? ⟨gt, i, none⟩ = w.cell? ⟨gt, i, none⟩ := fun i => World.cell?_of_block hbl
  have hf : ∀ i, w'.frozen? ⟨gt, i, none⟩ = w.frozen? ⟨gt, i, none⟩ := fun i => by simp only [World.frozen?, hbl]
  exact ⟨(hc 70).trans h.c0, (hc 71).trans h.c1, (hc 72).trans h.c2, fun i => (hf i).trans (h.cf i), Nat.lt_of_lt_of_le h.lt hb.size⟩
theorem own_But {w w' : World} {g bm B n : Nat} {v : Value} {xs : List Value} {e : TypeId} {size : Nat} (h : w.ownsRow B e size v n xs) (hb : But g bm w w') (hn : ∀ b, v.ownBlock = some b → b ≠ g ∧ b ≠ bm) : w'.ownsRow B e size v n xs := by
  obtain ⟨h1, h2⟩ := h
  refine ⟨h1, ?_⟩
  rcases h2 with h2 | ⟨b, cap, cur, rfl, hB, hh, rest⟩
  · exact .inl h2
  · have := hn b rfl
    exact .inr ⟨b, cap, cur, rfl, hB, (hb.block b (Array.getElem?_eq_some_iff.1 hh).1 this.1 this.2).trans hh, rest⟩
/-- What a step leaves. -/
def SitsR (B g bm gt : Nat) (most last : Int) (l : List (Int × Bool)) (w : World) (e : Ending) (w' : World) : Prop :=
  e = .returned (.bool true) ∧ ∃ last' who' l' v', SitAt w' B g bm gt most last' who' l' v' ∧ last' ≤ last + 1 ∧ l'.length ≤ l.length + 1 ∧ Below B w w'
theorem desk_But {w w' : World} {g bm : Nat} {most last who : Int} {l : List (Int × Bool)} (h : DeskAt w g bm most last who l) (hg : w'.heap[g]? = w.heap[g]?) (hb : w'.heap[bm]? = w.heap[bm]?) : DeskAt w' g bm most last who l := by
  obtain ⟨te, h1⟩ := h.cells
  obtain ⟨es, clock, h2, F, hz, hD⟩ := h.mp.own
  exact ⟨⟨te, hg.trans h1⟩, ⟨⟨es, clock, hb.trans h2, F, hz, hD⟩, h.mp.asc, h.mp.wf⟩⟩
theorem heap_setCell_far (w : World) {a : Addr} {v : Value} {i : Nat} (h : a.block ≠ i) : (w.setCell a v).heap[i]? = w.heap[i]? := by simp [World.setCell, Array.getElem?_modify, h]
theorem size_setCellS (w : World) (a : Addr) (v : Value) : (w.setCell a v).heap.size = w.heap.size := by simp [World.setCell]
theorem desk_set {w : World} {g bm gt : Nat} {most last who : Int} {l : List (Int × Bool)} (h : DeskAt w g bm most last who l) (h1 : gt ≠ g) (h2 : gt ≠ bm) (i : Nat) (v : Value) : DeskAt (w.setCell ⟨gt, i, none⟩ v) g bm most last who l :=
  desk_But h (heap_setCell_far w h1) (heap_setCell_far w h2)
theorem own_set {w : World} {gt B n : Nat} {v u : Value} {xs : List Value} {e : TypeId} {size i : Nat} (h : w.ownsRow B e size v n xs) (hn : ∀ b, v.ownBlock = some b → b ≠ gt) : (w.setCell ⟨gt, i, none⟩ u).ownsRow B e size v n xs := by
  obtain ⟨h1, h2⟩ := h
  refine ⟨h1, ?_⟩
  rcases h2 with h2 | ⟨b, cap, cur, rfl, hB, hh, rest⟩
  · exact .inl h2
  · exact .inr ⟨b, cap, cur, rfl, hB, (heap_setCell_far w (fun e => hn b rfl e.symm)).trans hh, rest⟩
theorem tok_who {w : World} {gt : Nat} {who last : Int} {v : Value} (h : TokAt w gt who last v) (z : Int) : TokAt (w.setCell ⟨gt, 70, none⟩ (.int .i64 z)) gt z last v :=
  ⟨World.cell?_setCell_same _ _ _ h.c0, (World.cell?_setCell_other _ _ _ _ (by simp)).trans h.c1, (World.cell?_setCell_other _ _ _ _ (by simp)).trans h.c2, fun i => by rw [World.frozen?_setCell]; exact h.cf i, by rw [size_setCellS]; exact h.lt⟩
theorem tok_seats {w : World} {gt : Nat} {who last : Int} {v : Value} (h : TokAt w gt who last v) (u : Value) : TokAt (w.setCell ⟨gt, 71, none⟩ u) gt who last u :=
  ⟨(World.cell?_setCell_other _ _ _ _ (by simp)).trans h.c0, World.cell?_setCell_same _ _ _ h.c1, (World.cell?_setCell_other _ _ _ _ (by simp)).trans h.c2, fun i => by rw [World.frozen?_setCell]; exact h.cf i, by rw [size_setCellS]; exact h.lt⟩
theorem tok_last {w : World} {gt : Nat} {who last : Int} {v : Value} (h : TokAt w gt who last v) (z : Int) : TokAt (w.setCell ⟨gt, 72, none⟩ (.int .i64 z)) gt who z v :=
  ⟨(World.cell?_setCell_other _ _ _ _ (by simp)).trans h.c0, (World.cell?_setCell_other _ _ _ _ (by simp)).trans h.c1, World.cell?_setCell_same _ _ _ h.c2, fun i => by rw [World.frozen?_setCell]; exact h.cf i, by rw [size_setCellS]; exact h.lt⟩
theorem below_set {B gt i : Nat} {w0 w : World} {v : Value} (h : Below B w0 w) (hg : B ≤ gt) : Below B w0 (w.setCell ⟨gt, i, none⟩ v) := h.setCell (p := ⟨gt, i, none⟩) hg v
/-- The same seats, in another world. -/
theorem SitAt.re {w w' : World} {B g bm gt : Nat} {most last who who' : Int} {l : List (Int × Bool)} {v : Value} (h : SitAt w B g bm gt most last who l v) (hd : DeskAt w' g bm most last who' l) (ht : TokAt w' gt who' last v)
    (ho : w'.ownsRow B 85 3 v l.length (l.flatMap seatC)) (hw : 0 ≤ who' ∧ who' ≤ 2) : SitAt w' B g bm gt most last who' l v :=
  ⟨hd, ht, ho, h.n1, h.n2, h.nb, h.b1, h.b2, h.b3, hw, h.hl, h.hid⟩
theorem SitAt.but {w w' : World} {B g bm gt : Nat} {most last who : Int} {l : List (Int × Bool)} {v : Value} (h : SitAt w B g bm gt most last who l v) (hb : But g bm w w') (hd : DeskAt w' g bm most last who l) : SitAt w' B g bm gt most last who l v :=
  h.re hd (tok_But h.tok hb h.n1 h.n2) (own_But h.own hb (fun b e => ⟨(h.nb b e).1, (h.nb b e).2.1⟩)) h.hw
set_option maxHeartbeats 8000000 in
theorem sits_3 (B g bm gt : Nat) (most last who id n : Int) (l : List (Int × Bool)) (v : Value) (w : World) (h : SitAt w B g bm gt most last who l v) (_hid : (Lit.int .i64 id).wf = true) (hll : l.length ≤ 1000) (_hla : last < 1000000) :
    Calls Try.prog 38 #[.pointer (some ⟨g, 0, none⟩), .pointer (some ⟨gt, 0, none⟩), .int .i64 most, .agg #[.int .i64 3, .int .i64 id, .int .i64 n]] w (SitsR B g bm gt most last l w) := by
  obtain ⟨A, c, hv⟩ := own_formI h.own
  subst hv
  have hb0 := below_alloc' w (.cells #[.int .i64 3, .int .i64 id, .int .i64 n] 81)
  have h0 := h.step hb0
  have hB0 : B ≤ w.heap.size := Nat.le_trans h.b3 (Nat.le_of_lt h.tok.lt)
  have hx0 : (w.alloc (.cells #[.int .i64 3, .int .i64 id, .int .i64 n] 81)).cell? ⟨w.heap.size, 0, none⟩ = some (.int .i64 3) := by rw [World.cell?_alloc_at _ _ _ _ rfl]; rfl
  have hx1 : (w.alloc (.cells #[.int .i64 3, .int .i64 id, .int .i64 n] 81)).cell? ⟨w.heap.size, 1, none⟩ = some (.int .i64 id) := by rw [World.cell?_alloc_at _ _ _ _ rfl]; rfl
  have hx2 : (w.alloc (.cells #[.int .i64 3, .int .i64 id, .int .i64 n] 81)).cell? ⟨w.heap.size, 2, none⟩ = some (.int .i64 n) := by rw [World.cell?_alloc_at _ _ _ _ rfl]; rfl
  have hg7 : w.heap.size < (w.alloc (.cells #[.int .i64 3, .int .i64 id, .int .i64 n] 81)).heap.size := by simp
  have k1 := h0.tok.c1
  have klt := h.tok.lt
  have hrd := Rd.of_own h0.own
  have hspec := Lib.hid (at_spec (asc_ses h.desk.mp.asc) id)
  have hal := Lib.hid (alone_spec l)
  have h0H := Lib.hid h0
  have n7 : gt ≠ w.heap.size := by omega
  clear h h0
  go_enter Try.func38, Try.ntmps38
  go_wp2
  refine st_loop _ A l c w.heap.size id _ _ _ _ _ _ _ _ _ _ _ _ _ _ _ _ _ _ _ _ _ _ _ _ _ _ _ _ _ _ _ _ _ _ _ _ _ _ _ _ _ _ _ _ _ _ _ _ _ _ _ _ _ _ _ _ _ _ _ _ _ _ _ _ _ _ _ _ _ _ _ _ _ _ _ _ _ _ _ _ _ _ _ _ _ _ _ _ _ _ _ _ _ _ _ _ _ _ _ _ _ _ _ _ _ _ _ _ _ _ _ _ _ _ _ _ _ _ _ _ _ _ _ _ _ _ _ _ _ _ _ _ _ _ _ _ _ _ _ _ _ _ _ _ _ _ _ _ _ _ _ _ _ _ _ _ _ _ _ _ _ _ _ _ _ _ _ _ _ _ _ _ _ _ _ _ _ _ _ _ _ _ _ _ _ _ _ _ _ _ _ _ _ _ _ _ _ _ _ _ _ _ _ _ _ _ _ _ _ _ _ _ _ _ _ _ _ _ _ _ _ _ _ _ _ _ _ _ _ _ _ _ _ _ _ _ _ _ _ _ _ _ _ _ _ _ _ _ _ _ _ _ _ _ _ _ _ _ _ _ _ _ _ _ _ _ _ _ _ _ _ _ _ _ _ _ _ hx1 hg7 hrd (by omega) ?_
  intro t11 t12 t25 t26 t27 t28 t29 t30 t31 t32 t33 t34 t35 t36 t37 t38 t39 t40 t41 w2 hb2
  have y0 := (hb2.cell (p := ⟨w.heap.size, 0, none⟩) hg7).trans hx0
  have y1 := (hb2.cell (p := ⟨w.heap.size, 1, none⟩) hg7).trans hx1
  have y2 := (hb2.cell (p := ⟨w.heap.size, 2, none⟩) hg7).trans hx2
  have h2 := h0H.out.step hb2
  have hL2 := below_step hb2 (hb0.mono hB0) hB0
  have hg72 : w.heap.size < w2.heap.size := Nat.lt_of_lt_of_le hg7 hb2.size
  rw [hal.out]
  clear hx0 hx1 hx2 k1 hrd hb0 hb2 h0H hg7 klt
  generalize hG7 : w.heap.size = g7 at *
  obtain ⟨z0, z1, z2, zf, zlt⟩ := h2.tok
  have h2H := Lib.hid h2
  have hd3 := desk_set (desk_set h2.desk h2.n1 h2.n2 71 (.slice none 0 0)) h2.n1 h2.n2 70 (.int .i64 0)
  have ht3 := Lib.hid (tok_who (tok_seats h2.tok (.slice none 0 0)) 0)
  have hL3 := Lib.hid (below_set (i := 70) (v := .int .i64 0) (below_set (i := 71) (v := .slice none 0 0) hL2 h2.b3) h2.b3)
  have hca := Lib.hid (desk_CloseAll g bm most last who l _ hd3)
  clear h2 hd3
  rcases hspec.out with ⟨e1, e2⟩ | ⟨i, hi, e1, e2, e3⟩
  all_goals
    rw [e1]
    clear e1 e2
    go_wp2_with fail
    refine hca.out.mono ?_
    rintro e w4 ⟨rfl, hd4, hb4⟩
    have ht4 := tok_But ht3.out hb4 h2H.out.n1 h2H.out.n2
    have hL4 := hb4.below hL3.out h2H.out.b1 h2H.out.b2 (Nat.le_trans hB0 (by omega))
    have hx := h2H.out
    go_wp2
    go_ret
    exact ⟨ret_bool (by simp), last, 0, [], .slice none 0 0, ⟨hd4, ht4, World.ownsRow_nil _ _ _ _, hx.n1, hx.n2, fun b e => by simp [Value.ownBlock] at e, hx.b1, hx.b2, hx.b3, by omega, hx.hl, fun p hp => by simp at hp⟩, by omega, by simp, hL4⟩

set_option maxHeartbeats 8000000 in
theorem sits_5 (B g bm gt : Nat) (most last who id n : Int) (l : List (Int × Bool)) (v : Value) (w : World) (h : SitAt w B g bm gt most last who l v) (_hid : (Lit.int .i64 id).wf = true) (hll : l.length ≤ 1000) (_hla : last < 1000000) :
    Calls Try.prog 38 #[.pointer (some ⟨g, 0, none⟩), .pointer (some ⟨gt, 0, none⟩), .int .i64 most, .agg #[.int .i64 5, .int .i64 id, .int .i64 n]] w (SitsR B g bm gt most last l w) := by
  obtain ⟨A, c, hv⟩ := own_formI h.own
  subst hv
  have hb0 := below_alloc' w (.cells #[.int .i64 5, .int .i64 id, .int .i64 n] 81)
  have h0 := h.step hb0
  have hB0 : B ≤ w.heap.size := Nat.le_trans h.b3 (Nat.le_of_lt h.tok.lt)
  have hx0 : (w.alloc (.cells #[.int .i64 5, .int .i64 id, .int .i64 n] 81)).cell? ⟨w.heap.size, 0, none⟩ = some (.int .i64 5) := by rw [World.cell?_alloc_at _ _ _ _ rfl]; rfl
  have hx1 : (w.alloc (.cells #[.int .i64 5, .int .i64 id, .int .i64 n] 81)).cell? ⟨w.heap.size, 1, none⟩ = some (.int .i64 id) := by rw [World.cell?_alloc_at _ _ _ _ rfl]; rfl
  have hx2 : (w.alloc (.cells #[.int .i64 5, .int .i64 id, .int .i64 n] 81)).cell? ⟨w.heap.size, 2, none⟩ = some (.int .i64 n) := by rw [World.cell?_alloc_at _ _ _ _ rfl]; rfl
  have hg7 : w.heap.size < (w.alloc (.cells #[.int .i64 5, .int .i64 id, .int .i64 n] 81)).heap.size := by simp
  have k1 := h0.tok.c1
  have klt := h.tok.lt
  have hrd := Rd.of_own h0.own
  have hspec := Lib.hid (at_spec (asc_ses h.desk.mp.asc) id)
  have hal := Lib.hid (alone_spec l)
  have h0H := Lib.hid h0
  have n7 : gt ≠ w.heap.size := by omega
  clear h h0
  go_enter Try.func38, Try.ntmps38
  go_wp2
  refine st_loop _ A l c w.heap.size id _ _ _ _ _ _ _ _ _ _ _ _ _ _ _ _ _ _ _ _ _ _ _ _ _ _ _ _ _ _ _ _ _ _ _ _ _ _ _ _ _ _ _ _ _ _ _ _ _ _ _ _ _ _ _ _ _ _ _ _ _ _ _ _ _ _ _ _ _ _ _ _ _ _ _ _ _ _ _ _ _ _ _ _ _ _ _ _ _ _ _ _ _ _ _ _ _ _ _ _ _ _ _ _ _ _ _ _ _ _ _ _ _ _ _ _ _ _ _ _ _ _ _ _ _ _ _ _ _ _ _ _ _ _ _ _ _ _ _ _ _ _ _ _ _ _ _ _ _ _ _ _ _ _ _ _ _ _ _ _ _ _ _ _ _ _ _ _ _ _ _ _ _ _ _ _ _ _ _ _ _ _ _ _ _ _ _ _ _ _ _ _ _ _ _ _ _ _ _ _ _ _ _ _ _ _ _ _ _ _ _ _ _ _ _ _ _ _ _ _ _ _ _ _ _ _ _ _ _ _ _ _ _ _ _ _ _ _ _ _ _ _ _ _ _ _ _ _ _ _ _ _ _ _ _ _ _ _ _ _ _ _ _ _ _ _ _ _ _ _ _ _ _ _ _ _ _ hx1 hg7 hrd (by omega) ?_
  intro t11 t12 t25 t26 t27 t28 t29 t30 t31 t32 t33 t34 t35 t36 t37 t38 t39 t40 t41 w2 hb2
  have y0 := (hb2.cell (p := ⟨w.heap.size, 0, none⟩) hg7).trans hx0
  have y1 := (hb2.cell (p := ⟨w.heap.size, 1, none⟩) hg7).trans hx1
  have y2 := (hb2.cell (p := ⟨w.heap.size, 2, none⟩) hg7).trans hx2
  have h2 := h0H.out.step hb2
  have hL2 := below_step hb2 (hb0.mono hB0) hB0
  have hg72 : w.heap.size < w2.heap.size := Nat.lt_of_lt_of_le hg7 hb2.size
  rw [hal.out]
  clear hx0 hx1 hx2 k1 hrd hb0 hb2 h0H hg7 klt
  generalize hG7 : w.heap.size = g7 at *
  obtain ⟨z0, z1, z2, zf, zlt⟩ := h2.tok
  have h2H := Lib.hid h2
  rcases hspec.out with ⟨e1, e2⟩ | ⟨i, hi, e1, e2, e3⟩
  · rw [e1]
    have hz : Hid (logoutZ l who id = 6) := by show _ = _; unfold logoutZ; rw [e2]; rfl
    have hlo := Lib.hid (desk_Logout g bm most last who id l _ h2.desk _hid)
    unfold LogoutR at hlo
    rw [hz.out] at hlo
    clear e1 e2 h2
    go_wp2_with fail
    refine hlo.out.mono ?_
    rintro e w4 ⟨rfl, hd4, hb4⟩
    have hL4 := hb4.below hL2 h2H.out.b1 h2H.out.b2 (Nat.le_trans hB0 (by omega))
    have hs4 := h2H.out.but hb4 hd4
    go_wp2
    go_ret
    exact ⟨ret_bool (by simp), last, who, l, _, hs4, by omega, by omega, hL4⟩
  · rw [e1]
    clear e1
    by_cases hw : who = 0
    · subst hw
      have hz : Hid (logoutZ l 0 id = 8) := by show _ = _; unfold logoutZ; rw [e2]; rfl
      have hlo := Lib.hid (desk_Logout g bm most last 0 id l _ h2.desk _hid)
      unfold LogoutR at hlo
      rw [hz.out] at hlo
      clear e2 h2
      go_wp2_with fail
      refine hlo.out.mono ?_
      rintro e w4 ⟨rfl, hd4, hb4⟩
      have hL4 := hb4.below hL2 h2H.out.b1 h2H.out.b2 (Nat.le_trans hB0 (by omega))
      have hs4 := h2H.out.but hb4 hd4
      go_wp2
      go_ret
      exact ⟨ret_bool (by simp), last, 0, l, _, hs4, by omega, by omega, hL4⟩
    · have hz : Hid (logoutZ l who id = 0) := by show _ = _; unfold logoutZ; rw [e2, if_neg (by simp), if_neg hw]
      have hd3 := desk_set h2.desk h2.n1 h2.n2 70 (.int .i64 0)
      have ht3 := Lib.hid (tok_who h2.tok 0)
      have ho3 := Lib.hid (own_set (i := 70) (u := .int .i64 0) h2.own (fun b e => (h2.nb b e).2.2))
      have hL3 := Lib.hid (below_set (i := 70) (v := .int .i64 0) hL2 h2.b3)
      have hlo := Lib.hid (desk_Logout g bm most last who id l _ hd3 _hid)
      unfold LogoutR at hlo
      rw [hz.out] at hlo
      have hwd : (who == 0) = false := by rw [beq_eq_false_iff_ne]; exact hw
      clear e2 h2 hd3 hw
      go_wp2_with fail
      refine hlo.out.mono ?_
      rintro e w4 ⟨rfl, hd4, hb4⟩
      have hL4 := hb4.below hL3.out h2H.out.b1 h2H.out.b2 (Nat.le_trans hB0 (by omega))
      have ht4 := tok_But ht3.out hb4 h2H.out.n1 h2H.out.n2
      have ho4 := own_But ho3.out hb4 (fun b e => ⟨(h2H.out.nb b e).1, (h2H.out.nb b e).2.1⟩)
      go_wp2
      go_ret
      exact ⟨ret_bool (by simp), last, 0, l, _, h2H.out.re hd4 ht4 ho4 (by omega), by omega, by omega, hL4⟩

set_option maxHeartbeats 8000000 in
theorem sits_4 (B g bm gt : Nat) (most last who id n : Int) (l : List (Int × Bool)) (v : Value) (w : World) (h : SitAt w B g bm gt most last who l v) (_hid : (Lit.int .i64 id).wf = true) (hll : l.length ≤ 1000) (_hla : last < 1000000) :
    Calls Try.prog 38 #[.pointer (some ⟨g, 0, none⟩), .pointer (some ⟨gt, 0, none⟩), .int .i64 most, .agg #[.int .i64 4, .int .i64 id, .int .i64 n]] w (SitsR B g bm gt most last l w) := by
  obtain ⟨A, c, hv⟩ := own_formI h.own
  subst hv
  have hb0 := below_alloc' w (.cells #[.int .i64 4, .int .i64 id, .int .i64 n] 81)
  have h0 := h.step hb0
  have hB0 : B ≤ w.heap.size := Nat.le_trans h.b3 (Nat.le_of_lt h.tok.lt)
  have hx0 : (w.alloc (.cells #[.int .i64 4, .int .i64 id, .int .i64 n] 81)).cell? ⟨w.heap.size, 0, none⟩ = some (.int .i64 4) := by rw [World.cell?_alloc_at _ _ _ _ rfl]; rfl
  have hx1 : (w.alloc (.cells #[.int .i64 4, .int .i64 id, .int .i64 n] 81)).cell? ⟨w.heap.size, 1, none⟩ = some (.int .i64 id) := by rw [World.cell?_alloc_at _ _ _ _ rfl]; rfl
  have hx2 : (w.alloc (.cells #[.int .i64 4, .int .i64 id, .int .i64 n] 81)).cell? ⟨w.heap.size, 2, none⟩ = some (.int .i64 n) := by rw [World.cell?_alloc_at _ _ _ _ rfl]; rfl
  have hg7 : w.heap.size < (w.alloc (.cells #[.int .i64 4, .int .i64 id, .int .i64 n] 81)).heap.size := by simp
  have k1 := h0.tok.c1
  have klt := h.tok.lt
  have hrd := Rd.of_own h0.own
  have hspec := Lib.hid (at_spec (asc_ses h.desk.mp.asc) id)
  have hal := Lib.hid (alone_spec l)
  have h0H := Lib.hid h0
  have n7 : gt ≠ w.heap.size := by omega
  clear h h0
  go_enter Try.func38, Try.ntmps38
  go_wp2
  refine st_loop _ A l c w.heap.size id _ _ _ _ _ _ _ _ _ _ _ _ _ _ _ _ _ _ _ _ _ _ _ _ _ _ _ _ _ _ _ _ _ _ _ _ _ _ _ _ _ _ _ _ _ _ _ _ _ _ _ _ _ _ _ _ _ _ _ _ _ _ _ _ _ _ _ _ _ _ _ _ _ _ _ _ _ _ _ _ _ _ _ _ _ _ _ _ _ _ _ _ _ _ _ _ _ _ _ _ _ _ _ _ _ _ _ _ _ _ _ _ _ _ _ _ _ _ _ _ _ _ _ _ _ _ _ _ _ _ _ _ _ _ _ _ _ _ _ _ _ _ _ _ _ _ _ _ _ _ _ _ _ _ _ _ _ _ _ _ _ _ _ _ _ _ _ _ _ _ _ _ _ _ _ _ _ _ _ _ _ _ _ _ _ _ _ _ _ _ _ _ _ _ _ _ _ _ _ _ _ _ _ _ _ _ _ _ _ _ _ _ _ _ _ _ _ _ _ _ _ _ _ _ _ _ _ _ _ _ _ _ _ _ _ _ _ _ _ _ _ _ _ _ _ _ _ _ _ _ _ _ _ _ _ _ _ _ _ _ _ _ _ _ _ _ _ _ _ _ _ _ _ _ _ _ _ hx1 hg7 hrd (by omega) ?_
  intro t11 t12 t25 t26 t27 t28 t29 t30 t31 t32 t33 t34 t35 t36 t37 t38 t39 t40 t41 w2 hb2
  have y0 := (hb2.cell (p := ⟨w.heap.size, 0, none⟩) hg7).trans hx0
  have y1 := (hb2.cell (p := ⟨w.heap.size, 1, none⟩) hg7).trans hx1
  have y2 := (hb2.cell (p := ⟨w.heap.size, 2, none⟩) hg7).trans hx2
  have h2 := h0H.out.step hb2
  have hL2 := below_step hb2 (hb0.mono hB0) hB0
  have hg72 : w.heap.size < w2.heap.size := Nat.lt_of_lt_of_le hg7 hb2.size
  rw [hal.out]
  clear hx0 hx1 hx2 k1 hrd hb0 hb2 h0H hg7 klt
  generalize hG7 : w.heap.size = g7 at *
  obtain ⟨z0, z1, z2, zf, zlt⟩ := h2.tok
  have h2H := Lib.hid h2
  rcases hspec.out with ⟨e1, e2⟩ | ⟨i, hi, e1, e2, e3⟩
  · rw [e1]
    clear e1
    have hz : Hid (loginZ l who id n = 6) := by show _ = _; unfold loginZ; rw [e2]; rfl
    have hlo := Lib.hid (desk_Login g bm most last who id n l _ h2.desk _hid)
    unfold LoginR at hlo
    rw [hz.out] at hlo
    clear e2 h2
    go_wp2_with fail
    refine hlo.out.mono ?_
    rintro e w4 ⟨rfl, hd4, hb4⟩
    have hL4 := hb4.below hL2 h2H.out.b1 h2H.out.b2 (Nat.le_trans hB0 (by omega))
    have hs4 := h2H.out.but hb4 hd4
    go_wp2
    go_ret
    exact ⟨ret_bool (by simp), last, who, l, _, hs4, by omega, by omega, hL4⟩
  · rw [e1]
    clear e1
    by_cases hn : n ≠ 1 ∧ n ≠ 2
    · have hz : Hid (loginZ l who id n = 1) := by show _ = _; unfold loginZ; rw [e2]; rw [if_neg (by simp), if_pos hn]
      have hlo := Lib.hid (desk_Login g bm most last who id n l _ h2.desk _hid)
      unfold LoginR at hlo
      rw [hz.out] at hlo
      have r1 : (n == 1) = false := by rw [beq_eq_false_iff_ne]; exact hn.1
      have r2 : (n == 2) = false := by rw [beq_eq_false_iff_ne]; exact hn.2
      have r3 : (n != 1) = true := by rw [bne_iff_ne]; exact hn.1
      have r4 : (n != 2) = true := by rw [bne_iff_ne]; exact hn.2
      clear hn
      clear e2 h2
      go_wp2_with fail
      refine hlo.out.mono ?_
      rintro e w4 ⟨rfl, hd4, hb4⟩
      have hL4 := hb4.below hL2 h2H.out.b1 h2H.out.b2 (Nat.le_trans hB0 (by omega))
      have hs4 := h2H.out.but hb4 hd4
      go_wp2
      go_ret
      exact ⟨ret_bool (by simp), last, who, l, _, hs4, by omega, by omega, hL4⟩
    have hn2 : n = 1 ∨ n = 2 := by omega
    clear hn
    by_cases hw : who ≠ 0
    · have w3 : (who == 0) = false := by rw [beq_eq_false_iff_ne]; exact hw
      have w4' : (who != 0) = true := by rw [bne_iff_ne]; exact hw
      rcases hn2 with rfl | rfl
      · have hz : Hid (loginZ l who id 1 = 8) := by show _ = _; unfold loginZ; rw [e2]; rw [if_neg (by simp), if_neg (by omega), if_pos hw]
        have hlo := Lib.hid (desk_Login g bm most last who id 1 l _ h2.desk _hid)
        unfold LoginR at hlo
        rw [hz.out] at hlo
        clear hw
        clear e2 h2
        go_wp2_with fail
        refine hlo.out.mono ?_
        rintro e w4 ⟨rfl, hd4, hb4⟩
        have hL4 := hb4.below hL2 h2H.out.b1 h2H.out.b2 (Nat.le_trans hB0 (by omega))
        have hs4 := h2H.out.but hb4 hd4
        go_wp2
        go_ret
        exact ⟨ret_bool (by simp), last, who, l, _, hs4, by omega, by omega, hL4⟩
      · have hz : Hid (loginZ l who id 2 = 8) := by show _ = _; unfold loginZ; rw [e2]; rw [if_neg (by simp), if_neg (by omega), if_pos hw]
        have hlo := Lib.hid (desk_Login g bm most last who id 2 l _ h2.desk _hid)
        unfold LoginR at hlo
        rw [hz.out] at hlo
        clear hw
        clear e2 h2
        go_wp2_with fail
        refine hlo.out.mono ?_
        rintro e w4 ⟨rfl, hd4, hb4⟩
        have hL4 := hb4.below hL2 h2H.out.b1 h2H.out.b2 (Nat.le_trans hB0 (by omega))
        have hs4 := h2H.out.but hb4 hd4
        go_wp2
        go_ret
        exact ⟨ret_bool (by simp), last, who, l, _, hs4, by omega, by omega, hL4⟩
    · obtain rfl : who = 0 := by omega
      clear hw
      rcases hn2 with rfl | rfl
      · have hz : Hid (loginZ l 0 id 1 = 0) := by show _ = _; unfold loginZ; rw [e2]; rw [if_neg (by simp), if_neg (by omega), if_neg (by simp), if_neg (by omega)]
        have hd3 := desk_set h2.desk h2.n1 h2.n2 70 (.int .i64 1)
        have ht3 := Lib.hid (tok_who h2.tok 1)
        have ho3 := Lib.hid (own_set (i := 70) (u := .int .i64 1) h2.own (fun b e => (h2.nb b e).2.2))
        have hL3 := Lib.hid (below_set (i := 70) (v := .int .i64 1) hL2 h2.b3)
        have hlo := Lib.hid (desk_Login g bm most last 0 id 1 l _ hd3 _hid)
        unfold LoginR at hlo
        rw [hz.out] at hlo
        clear e2 h2 hd3
        go_wp2_with fail
        refine hlo.out.mono ?_
        rintro e w4 ⟨rfl, hd4, hb4⟩
        have hL4 := hb4.below hL3.out h2H.out.b1 h2H.out.b2 (Nat.le_trans hB0 (by omega))
        have ht4 := tok_But ht3.out hb4 h2H.out.n1 h2H.out.n2
        have ho4 := own_But ho3.out hb4 (fun b e => ⟨(h2H.out.nb b e).1, (h2H.out.nb b e).2.1⟩)
        go_wp2
        go_ret
        exact ⟨ret_bool (by simp), last, 1, l, _, h2H.out.re hd4 ht4 ho4 (by omega), by omega, by omega, hL4⟩
      · cases har : allRW l with
        | false =>
          have hz : Hid (loginZ l 0 id 2 = 8) := by show _ = _; unfold loginZ; rw [e2]; rw [if_neg (by simp), if_neg (by omega), if_neg (by simp), if_pos ⟨rfl, har⟩]
          have hlo := Lib.hid (desk_Login g bm most last 0 id 2 l _ h2.desk _hid)
          unfold LoginR at hlo
          rw [hz.out] at hlo
          clear har
          clear e2 h2
          go_wp2_with fail
          refine hlo.out.mono ?_
          rintro e w4 ⟨rfl, hd4, hb4⟩
          have hL4 := hb4.below hL2 h2H.out.b1 h2H.out.b2 (Nat.le_trans hB0 (by omega))
          have hs4 := h2H.out.but hb4 hd4
          go_wp2
          go_ret
          exact ⟨ret_bool (by simp), last, 0, l, _, hs4, by omega, by omega, hL4⟩
        | true =>
          have hz : Hid (loginZ l 0 id 2 = 0) := by show _ = _; unfold loginZ; rw [e2]; rw [if_neg (by simp), if_neg (by omega), if_neg (by simp), if_neg (by simp [har])]
          have hd3 := desk_set h2.desk h2.n1 h2.n2 70 (.int .i64 2)
          have ht3 := Lib.hid (tok_who h2.tok 2)
          have ho3 := Lib.hid (own_set (i := 70) (u := .int .i64 2) h2.own (fun b e => (h2.nb b e).2.2))
          have hL3 := Lib.hid (below_set (i := 70) (v := .int .i64 2) hL2 h2.b3)
          have hlo := Lib.hid (desk_Login g bm most last 0 id 2 l _ hd3 _hid)
          unfold LoginR at hlo
          rw [hz.out] at hlo
          clear har
          clear e2 h2 hd3
          go_wp2_with fail
          refine hlo.out.mono ?_
          rintro e w4 ⟨rfl, hd4, hb4⟩
          have hL4 := hb4.below hL3.out h2H.out.b1 h2H.out.b2 (Nat.le_trans hB0 (by omega))
          have ht4 := tok_But ht3.out hb4 h2H.out.n1 h2H.out.n2
          have ho4 := own_But ho3.out hb4 (fun b e => ⟨(h2H.out.nb b e).1, (h2H.out.nb b e).2.1⟩)
          go_wp2
          go_ret
          exact ⟨ret_bool (by simp), last, 2, l, _, h2H.out.re hd4 ht4 ho4 (by omega), by omega, by omega, hL4⟩


end Go.Proofs.Ytdlmamnnamlleaa
