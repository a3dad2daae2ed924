/- The law's function sits: kind 1 (a seat is opened). -/
import Derived.Test.YtdlmamnnamlleaaLg8
import Derived.Test.YtdlmamnnamlleaaTailW
import Derived.Test.YtdlmamnnamlleaaSl
namespace Go.Proofs.Ytdlmamnnamlleaa
open Go.ChangeShapes Go.WideShapes Go.ChangeAt Go.RowKit
set_option maxHeartbeats 1000000
set_option maxRecDepth 100000

theorem desk_bm {w : World} {g bm : Nat} {most last who : Int} {l : List (Int × Bool)} (h : DeskAt w g bm most last who l) : bm ≠ w.heap.size := by
  obtain ⟨es, clock, h2, -⟩ := h.mp.own
  have := (Array.getElem?_eq_some_iff.1 h2).1
  omega
theorem eval_tmpS {a : Act} {t : Tmp} {v : Value} (h : a.tmps[t]?.getD undef = v) : a.eval (.tmp t) = v := by
  unfold Act.eval; simpa using h
section
variable {P : Program} {o : Oper} {a : Act} {w : World} {K : Act → World → Prop} {Q : Exit → Act → World → Prop} {t : TypeId} {i j : Nat} {x y : Operand} {u vx vy : Value}
theorem wp_bldTwoS (ho : o.op = .build t #[(i, x), (j, y)]) (hx : a.eval x = vx) (hy : a.eval y = vy) (hr : (Instr.build t #[(i, vx), (j, vy)]).run P w = .ok u w) (h : K (a.put o.dst u) w) : Oper.wp P o a w K Q := by
  subst hx hy
  obtain ⟨dst, op, tt, pos, af, gd⟩ := o
  subst ho
  unfold Oper.wp execOp
  simp only [List.map_toArray, List.map_cons, List.map_nil, Sem.run_bind, hr, Result.andThen_ok]
  exact h
end
theorem build_seat (k : Int) (b : Bool) (w : World) : (Instr.build 85 #[(0, .int .i64 k), (1, .bool b)]).run Try.prog w = .ok (.agg #[.int .i64 k, .bool b, .pointer none]) w := run_build w _ _ _ (by kernel_rfl)
theorem SSeat : SlT Try.prog 76 85 3 24 := SlT.mk' Try.underlying76 (by kernel_rfl) (by omega)
def SRel.st1 (k : Int) (b : Bool) : SRel := ⟨fun v w => ∃ g te fr, v = .slice (some ⟨g, 0, none⟩) 1 1 ∧ w.heap[g]? = some (.cells #[.int .i64 k, .bool b, .pointer none] te fr),
  fun _ _ _ hb ⟨g, te, fr, h1, h2⟩ => ⟨g, te, fr, h1, by rw [hb.block g (blk_lt h2)]; exact h2⟩⟩
theorem SRel.st1_new (k : Int) (b : Bool) (w : World) : (SRel.st1 k b).p (.slice (some ⟨w.heap.size, 0, none⟩) 1 1) (w.alloc (.cells #[.int .i64 k, .bool b, .pointer none] 85)) := ⟨_, _, _, rfl, push_new _ _⟩
theorem cell_far {w : World} {gt g7 i j : Nat} {v u : Value} (h : gt ≠ g7) (hc : w.cell? ⟨g7, j, none⟩ = some u) (hl : g7 < w.heap.size) : (w.setCell ⟨gt, i, none⟩ v).cell? ⟨g7, j, none⟩ = some u ∧ g7 < (w.setCell ⟨gt, i, none⟩ v).heap.size :=
  ⟨(World.cell?_setCell_other _ _ _ _ (by intro e; injection e with e1; first | exact h e1 | exact h e1.symm)).trans hc, by rw [size_setCellS]; exact hl⟩
theorem ids_snoc {l : List (Int × Bool)} {last : Int} {b : Bool} (h0 : 0 ≤ last) (h : ∀ p ∈ l, 1 ≤ p.1 ∧ p.1 ≤ last) : ∀ p ∈ l ++ [(last + 1, b)], 1 ≤ p.1 ∧ p.1 ≤ last + 1 := by
  intro p hp
  rcases List.mem_append.1 hp with h1 | h1
  · have := h p h1; omega
  · obtain rfl := List.mem_singleton.1 h1; simp; omega
/-- What a drawn region leaves that appends. -/
structure StR (w : World) (B g bm gt : Nat) (most ld who : Int) (dl : List (Int × Bool)) (lt : Int) (v : Value) (ls : List (Int × Bool)) (v' : Value) (w' : World) : Prop where
  desk : DeskAt w' g bm most ld who dl
  tok : TokAt w' gt who lt v
  own : w'.ownsRow B 85 3 v' ls.length (ls.flatMap seatC)
  nb : ∀ b, v'.ownBlock = some b → b ≠ g ∧ b ≠ bm ∧ b ≠ gt
  below : Below B w w'
def StPhi (w : World) (B g bm gt : Nat) (most ld who : Int) (dl : List (Int × Bool)) (lt : Int) (v : Value) (ls : List (Int × Bool)) (v' : Value) (w' : World) : Prop :=
  (∃ A c, v' = .slice A ls.length c) ∧ StR w B g bm gt most ld who dl lt v ls v' w'
theorem seats_snoc {w : World} {B : Nat} {v : Value} {l : List (Int × Bool)} {p : Int × Bool} (h : w.ownsRow B 85 3 v (l.length + 1) (l.flatMap seatC ++ seatC p)) : w.ownsRow B 85 3 v (l ++ [p]).length ((l ++ [p]).flatMap seatC) := by
  simpa using h
theorem StPhi.of {w W W' : World} {B g bm gt : Nat} {most ld who : Int} {dl : List (Int × Bool)} {lt : Int} {v v1 v' : Value} {ls : List (Int × Bool)} (hd : DeskAt W g bm most ld who dl) (ht : TokAt W gt who lt v) (ho : W'.ownsRow B 85 3 v' ls.length (ls.flatMap seatC))
    (hn : ∀ b, v1.ownBlock = some b → b ≠ g ∧ b ≠ bm ∧ b ≠ gt) (hg : W.grownBy W' v1.ownBlock) (hat : v'.ownBlock = v1.ownBlock ∨ v'.ownBlock = some W.heap.size) (_hx : True) (hL : Below B w W) (hG : B ≤ g ∧ B ≤ bm ∧ B ≤ gt) (hv1 : ∀ b, v1.ownBlock = some b → B ≤ b) : StPhi w B g bm gt most ld who dl lt v ls v' W' := by
  have hbk : ∀ i, i < W.heap.size → (∀ b, v1.ownBlock = some b → b ≠ i) → W'.heap[i]? = W.heap[i]? := fun i hi hne => hg.block i hi (by
    cases hv : v1.ownBlock with
    | none => simp
    | some b => have := hne b hv; simp; omega)
  have g1 := hd.lt
  have g2 : bm < W.heap.size := by obtain ⟨es, clock, h2, -⟩ := hd.mp.own; exact (Array.getElem?_eq_some_iff.1 h2).1
  have g3 := ht.lt
  have k1 := hbk g g1 fun b e => (hn b e).1
  have k2 := hbk bm g2 fun b e => (hn b e).2.1
  have k3 := hbk gt g3 fun b e => (hn b e).2.2
  have hcc : ∀ i, W'.cell? ⟨gt, i, none⟩ = W.cell? ⟨gt, i, none⟩ := fun i => World.cell?_of_block k3
  have hff : ∀ i, W'.frozen? ⟨gt, i, none⟩ = W.frozen? ⟨gt, i, none⟩ := fun i => by simp only [World.frozen?, k3]
  refine ⟨own_formI ho |>.elim fun A h => h.elim fun c h => ⟨A, c, h⟩, desk_But hd k1 k2, ⟨(hcc 70).trans ht.c0, (hcc 71).trans ht.c1, (hcc 72).trans ht.c2, fun i => (hff i).trans (ht.cf i), Nat.lt_of_lt_of_le g3 hg.size⟩, ho, ?_, ?_⟩
  · intro b e
    rcases hat with h | h
    · exact hn b (h.symm.trans e)
    · rw [h] at e; injection e with e; omega
  · exact ⟨hg.os.trans hL.os, hg.tape.trans hL.tape, hg.output.trans hL.output, Nat.le_trans hL.size hg.size, fun i hi => (hbk i (Nat.lt_of_lt_of_le (by omega) (Nat.le_trans (Nat.le_refl _) (Nat.le_of_lt g1))) fun b e => by have := hv1 b e; omega).trans (hL.block i hi)⟩
set_option maxHeartbeats 8000000 in
theorem sits_1 (B g bm gt : Nat) (most last who id n : Int) (l : List (Int × Bool)) (v : Value) (w : World) (h : SitAt w B g bm gt most last who l v) (_hid : (Lit.int .i64 id).wf = true) (hll : l.length ≤ 1000) (_hla : last < 1000000) :
    Calls Try.prog 38 #[.pointer (some ⟨g, 0, none⟩), .pointer (some ⟨gt, 0, none⟩), .int .i64 most, .agg #[.int .i64 1, .int .i64 id, .int .i64 n]] w (SitsR B g bm gt most last l w) := by
  obtain ⟨A, c, hv⟩ := own_formI h.own
  subst hv
  have hb0 := below_alloc' w (.cells #[.int .i64 1, .int .i64 id, .int .i64 n] 81)
  have h0 := h.step hb0
  have hB0 : B ≤ w.heap.size := Nat.le_trans h.b3 (Nat.le_of_lt h.tok.lt)
  have hx0 : (w.alloc (.cells #[.int .i64 1, .int .i64 id, .int .i64 n] 81)).cell? ⟨w.heap.size, 0, none⟩ = some (.int .i64 1) := by rw [World.cell?_alloc_at _ _ _ _ rfl]; rfl
  have hx1 : (w.alloc (.cells #[.int .i64 1, .int .i64 id, .int .i64 n] 81)).cell? ⟨w.heap.size, 1, none⟩ = some (.int .i64 id) := by rw [World.cell?_alloc_at _ _ _ _ rfl]; rfl
  have hx2 : (w.alloc (.cells #[.int .i64 1, .int .i64 id, .int .i64 n] 81)).cell? ⟨w.heap.size, 2, none⟩ = some (.int .i64 n) := by rw [World.cell?_alloc_at _ _ _ _ rfl]; rfl
  have hg7 : w.heap.size < (w.alloc (.cells #[.int .i64 1, .int .i64 id, .int .i64 n] 81)).heap.size := by simp
  have k1 := h0.tok.c1
  have klt := h.tok.lt
  have hrd := Rd.of_own h0.own
  have hspec := Lib.hid (at_spec (asc_ses h.desk.mp.asc) id)
  have hal := Lib.hid (alone_spec l)
  have h0H := Lib.hid h0
  have n7 : gt ≠ w.heap.size := by omega
  have n8 : g ≠ w.heap.size := by have := h.desk.lt; omega
  have n9 : bm ≠ w.heap.size := desk_bm h.desk
  clear h h0
  go_enter Try.func38, Try.ntmps38
  go_wp2
  refine st_loop _ A l c w.heap.size id _ _ _ _ _ _ _ _ _ _ _ _ _ _ _ _ _ _ _ _ _ _ _ _ _ _ _ _ _ _ _ _ _ _ _ _ _ _ _ _ _ _ _ _ _ _ _ _ _ _ _ _ _ _ _ _ _ _ _ _ _ _ _ _ _ _ _ _ _ _ _ _ _ _ _ _ _ _ _ _ _ _ _ _ _ _ _ _ _ _ _ _ _ _ _ _ _ _ _ _ _ _ _ _ _ _ _ _ _ _ _ _ _ _ _ _ _ _ _ _ _ _ _ _ _ _ _ _ _ _ _ _ _ _ _ _ _ _ _ _ _ _ _ _ _ _ _ _ _ _ _ _ _ _ _ _ _ _ _ _ _ _ _ _ _ _ _ _ _ _ _ _ _ _ _ _ _ _ _ _ _ _ _ _ _ _ _ _ _ _ _ _ _ _ _ _ _ _ _ _ _ _ _ _ _ _ _ _ _ _ _ _ _ _ _ _ _ _ _ _ _ _ _ _ _ _ _ _ _ _ _ _ _ _ _ _ _ _ _ _ _ _ _ _ _ _ _ _ _ _ _ _ _ _ _ _ _ _ _ _ _ _ _ _ _ _ _ _ _ _ _ _ _ _ _ _ _ hx1 hg7 hrd (by omega) ?_
  intro t11 t12 t25 t26 t27 t28 t29 t30 t31 t32 t33 t34 t35 t36 t37 t38 t39 t40 t41 w2 hb2
  have y0 := (hb2.cell (p := ⟨w.heap.size, 0, none⟩) hg7).trans hx0
  have y1 := (hb2.cell (p := ⟨w.heap.size, 1, none⟩) hg7).trans hx1
  have y2 := (hb2.cell (p := ⟨w.heap.size, 2, none⟩) hg7).trans hx2
  have h2 := h0H.out.step hb2
  have hL2 := below_step hb2 (hb0.mono hB0) hB0
  have hg72 : w.heap.size < w2.heap.size := Nat.lt_of_lt_of_le hg7 hb2.size
  rw [hal.out]
  clear hx0 hx1 hx2 k1 hrd hb0 hb2 h0H hg7 klt
  generalize hG7 : w.heap.size = g7 at *
  obtain ⟨z0, z1, z2, zf, zlt⟩ := h2.tok
  have h2H := Lib.hid h2
  rcases hspec.out with ⟨e1, e2⟩ | ⟨i, hi, e1, e2, e3⟩
  all_goals
    rw [e1]
    clear e1 e2 hspec
    rcases Decidable.em (most ≤ (l.length : Int)) with hf | hf
    · by_cases hn : n = 0
      · subst hn
        have hP : Hid (openP l most last who false = (0, 7)) := by show _ = _; unfold openP; rw [if_pos hf]
        have hLL : Hid (openL l most last who false = l) := by show _ = _; unfold openL; rw [if_pos hf]
        have hNN : Hid (openN l most last who false = last) := by show _ = _; unfold openN; rw [if_pos hf]
        have hlo := Lib.hid (desk_Open g bm most last who l false _ h2.desk ⟨h2.hl, by omega⟩ (fun p hp => (h2.hid p hp).2) (by omega))
        unfold OpenR at hlo
        rw [hP.out, hLL.out, hNN.out] at hlo
        clear h2 hP hLL hNN
        go_wp2_with fail
        refine hlo.out.mono ?_
        rintro e w4 ⟨rfl, hd4, hb4⟩
        have hs4 := h2H.out.but hb4 hd4
        have hs4H := Lib.hid hs4
        obtain ⟨u0, u1, u2, uf, ult⟩ := hs4.tok
        have hL4 := Lib.hid (hb4.below hL2 h2H.out.b1 h2H.out.b2 (Nat.le_trans hB0 (by omega)))
        have y24 := (World.cell?_of_block (a := ⟨g7, 2, none⟩) (hb4.block g7 hg72 n8.symm n9.symm)).trans y2
        have hg74 := Nat.lt_of_lt_of_le hg72 hb4.size
        clear hs4 hd4
        go_wp2
        go_ret
        exact ⟨ret_bool (by simp), last, _, l, _, hs4H.out, by omega, by omega, hL4.out⟩
      · have r1 : (n != 0) = true := by rw [bne_iff_ne]; exact hn
        have r2 : (n == 0) = false := by rw [beq_eq_false_iff_ne]; exact hn
        clear hn
        have hP : Hid (openP l most last who true = (0, 7)) := by show _ = _; unfold openP; rw [if_pos hf]
        have hLL : Hid (openL l most last who true = l) := by show _ = _; unfold openL; rw [if_pos hf]
        have hNN : Hid (openN l most last who true = last) := by show _ = _; unfold openN; rw [if_pos hf]
        have hlo := Lib.hid (desk_Open g bm most last who l true _ h2.desk ⟨h2.hl, by omega⟩ (fun p hp => (h2.hid p hp).2) (by omega))
        unfold OpenR at hlo
        rw [hP.out, hLL.out, hNN.out] at hlo
        clear h2 hP hLL hNN
        go_wp2_with fail
        refine hlo.out.mono ?_
        rintro e w4 ⟨rfl, hd4, hb4⟩
        have hs4 := h2H.out.but hb4 hd4
        have hs4H := Lib.hid hs4
        obtain ⟨u0, u1, u2, uf, ult⟩ := hs4.tok
        have hL4 := Lib.hid (hb4.below hL2 h2H.out.b1 h2H.out.b2 (Nat.le_trans hB0 (by omega)))
        have y24 := (World.cell?_of_block (a := ⟨g7, 2, none⟩) (hb4.block g7 hg72 n8.symm n9.symm)).trans y2
        have hg74 := Nat.lt_of_lt_of_le hg72 hb4.size
        clear hs4 hd4
        go_wp2
        go_ret
        exact ⟨ret_bool (by simp), last, _, l, _, hs4H.out, by omega, by omega, hL4.out⟩
    · have hf2 : (l.length : Int) < most := by omega
      by_cases hn : n = 0
      · subst hn
        by_cases hw : who = 2
        · subst hw
          have hP : Hid (openP l most last 2 false = (0, 8)) := by show _ = _; unfold openP; rw [if_neg hf, if_pos ⟨rfl, rfl⟩]
          have hLL : Hid (openL l most last 2 false = l) := by show _ = _; unfold openL; rw [if_neg hf, if_pos ⟨rfl, rfl⟩]
          have hNN : Hid (openN l most last 2 false = last) := by show _ = _; unfold openN; rw [if_neg hf, if_pos ⟨rfl, rfl⟩]
          have hlo := Lib.hid (desk_Open g bm most last 2 l false _ h2.desk ⟨h2.hl, by omega⟩ (fun p hp => (h2.hid p hp).2) (by omega))
          unfold OpenR at hlo
          rw [hP.out, hLL.out, hNN.out] at hlo
          clear hf
          clear h2 hP hLL hNN
          go_wp2_with fail
          refine hlo.out.mono ?_
          rintro e w4 ⟨rfl, hd4, hb4⟩
          have hs4 := h2H.out.but hb4 hd4
          have hs4H := Lib.hid hs4
          obtain ⟨u0, u1, u2, uf, ult⟩ := hs4.tok
          have hL4 := Lib.hid (hb4.below hL2 h2H.out.b1 h2H.out.b2 (Nat.le_trans hB0 (by omega)))
          have y24 := (World.cell?_of_block (a := ⟨g7, 2, none⟩) (hb4.block g7 hg72 n8.symm n9.symm)).trans y2
          have hg74 := Nat.lt_of_lt_of_le hg72 hb4.size
          clear hs4 hd4
          go_wp2
          go_ret
          exact ⟨ret_bool (by simp), last, _, l, _, hs4H.out, by omega, by omega, hL4.out⟩
        · have r3 : (who == 2) = false := by rw [beq_eq_false_iff_ne]; exact hw
          have hP : Hid (openP l most last who false = (last + 1, 0)) := by show _ = _; unfold openP; rw [if_neg hf, if_neg (fun e => hw e.2)]
          have hLL : Hid (openL l most last who false = l ++ [(last + 1, false)]) := by show _ = _; unfold openL; rw [if_neg hf, if_neg (fun e => hw e.2)]
          have hNN : Hid (openN l most last who false = last + 1) := by show _ = _; unfold openN; rw [if_neg hf, if_neg (fun e => hw e.2)]
          have hlo := Lib.hid (desk_Open g bm most last who l false _ h2.desk ⟨h2.hl, by omega⟩ (fun p hp => (h2.hid p hp).2) (by omega))
          unfold OpenR at hlo
          rw [hP.out, hLL.out, hNN.out] at hlo
          clear hf hw
          clear h2 hP hLL hNN
          go_wp2_with fail
          refine hlo.out.mono ?_
          rintro e w4 ⟨rfl, hd4, hb4⟩
          have ht4 := tok_But h2H.out.tok hb4 h2H.out.n1 h2H.out.n2
          have ho4 := own_But h2H.out.own hb4 (fun b e => ⟨(h2H.out.nb b e).1, (h2H.out.nb b e).2.1⟩)
          have hL4 := hb4.below hL2 h2H.out.b1 h2H.out.b2 (Nat.le_trans hB0 (by omega))
          have y24 := (World.cell?_of_block (a := ⟨g7, 2, none⟩) (hb4.block g7 hg72 n8.symm n9.symm)).trans y2
          have hg74 := Nat.lt_of_lt_of_le hg72 hb4.size
          have hG74 := Lib.hid hg74
          have hT5 := tok_last ht4 (last + 1)
          have hD5 := Lib.hid (desk_set hd4 h2H.out.n1 h2H.out.n2 72 (.int .i64 (last + 1)))
          have hO5 := Lib.hid (own_set (i := 72) (u := .int .i64 (last + 1)) ho4 (fun b e => (h2H.out.nb b e).2.2))
          have hL5 := Lib.hid (below_set (i := 72) (v := .int .i64 (last + 1)) hL4 h2H.out.b3)
          have hY5 := cell_far (i := 72) (v := .int .i64 (last + 1)) n7 y24 hg74
          obtain ⟨c70, c71, c72, cf4, clt4⟩ := ht4
          have hwr : IntKind.i64.wrap (last + 1) = last + 1 := by rw [IntKind.wrap_i64]; have := h2H.out.hl; omega
          have hT5H := Lib.hid hT5
          have hY5H := Lib.hid hY5
          have hS5 := Lib.hid (show w2.heap.size ≤ (w4.setCell ⟨gt, 72, none⟩ (.int .i64 (last + 1))).heap.size from by rw [size_setCellS]; exact hb4.size)
          clear hd4 ho4 hL4 hT5 hY5
          go_upto_region 20 with (fail)
          generalize w4.setCell ⟨gt, 72, none⟩ (.int .i64 (last + 1)) = w5 at *
          replace hS5 := Lib.hid (show g7 ≤ w5.heap.size from Nat.le_trans (Nat.le_of_lt hg72) hS5.out)
          have hll5 := Lib.hid hll
          have hN5 := Lib.hid h2H.out.nb
          have hG5 := Lib.hid (show B ≤ g ∧ B ≤ bm ∧ B ≤ gt from ⟨h2H.out.b1, h2H.out.b2, h2H.out.b3⟩)
          have hT5 := hT5H
          have hY5 := hY5H
          clear hT5H hY5H c70 c71 c72 cf4 clt4 y24 y0 y1 y2 z0 z1 z2 zf zlt hG74 hb4
          generalize ha0 : Act.mk _ _ = a0
          have e1 : a0.tmps[1]?.getD undef = .pointer (some ⟨gt, 0, none⟩) := by rw [← ha0]; rfl
          have e7 : a0.tmps[7]?.getD undef = .pointer (some ⟨g7, 0, none⟩) := by rw [← ha0]; rfl
          have hz0 : a0.tmps.size = 282 := by rw [← ha0]; rfl
          have hha0 := Lib.hid ha0
          clear ha0
          refine wp_region_write (fun jx_ => match jx_ with | 0 => some (.pointer (some ⟨gt, 0, none⟩)) | 1 => some (.pointer (some ⟨gt, 0, none⟩)) | 2 => some (.pointer (some ⟨gt, 0, none⟩)) | 3 => some (.pointer (some ⟨gt, 71, none⟩)) | 4 => some (.slice A l.length c) | 5 => some (.pointer (some ⟨gt, 0, none⟩)) | 6 => some (.pointer (some ⟨gt, 0, none⟩)) | 7 => some (.pointer (some ⟨gt, 72, none⟩)) | 8 => some (.int .i64 (last + 1)) | 9 => some (.pointer (some ⟨g7, 2, none⟩)) | 10 => some (.int .i64 0) | 11 => some (.bool false) | 12 => some (.agg #[.int .i64 (last + 1), .bool false, .pointer none]) | 15 => some (.pointer (some ⟨gt, 0, none⟩)) | 16 => some (.pointer (some ⟨gt, 71, none⟩)) | _ => none) (fun jx_ => match jx_ with | 13 => SRel.st1 (last + 1) false | 14 => SRel.any | 17 => SRel.any | _ => SRel.any) 14 17 (StPhi w B g bm gt most (last + 1) who (l ++ [(last + 1, false)]) (last + 1) (.slice A l.length c) (l ++ [(last + 1, false)])) (by kernel_rfl) (by kernel_rfl) (by kernel_rfl) (slotsOk_of hz0 (by kernel_rfl)) (by kernel_rfl) (by decide) rfl (of_decide_eq_true (by kernel_rfl)) (of_decide_eq_true (by kernel_rfl)) ⟨?_, ?_, ?_, ?_, ?_, ?_, ?_, ?_, ?_, ?_, ?_, ?_, ?_, ?_, ?_, ?_, ?_, ?_, trivial⟩
          · rw [if_neg (by decide), if_neg (by decide), if_neg (by rw [show pathB _ _ _ _ = false from by kernel_rfl]; decide)]
            refine pure_of rfl rfl fun a ω κ hu hc hK => ?_
            have h1 : a.tmps[1]?.getD undef = .pointer (some ⟨gt, 0, none⟩) := (hu 1 rfl).trans e1
            have hk := Lib.hid hK
            clear hK hu hc
            go_simp
            exact hk.out
          · rw [if_neg (by decide), if_neg (by decide), if_pos (by kernel_rfl)]
            refine calmT_step rfl fun a ω κ hb hu hc hK => ?_
            have h1 : a.tmps[1]?.getD undef = .pointer (some ⟨gt, 0, none⟩) := (hu 1 rfl).trans e1
            have hk := Lib.hid (fun w1 (h : Below ω.heap.size ω w1) => hK (.pointer (some ⟨gt, 0, none⟩)) w1 rfl h)
            clear hK hu hc
            go_simp
            exact hk.out _ (Below.refl _ _)
          · rw [if_neg (by decide), if_neg (by decide), if_pos (by kernel_rfl)]
            refine calmT_step rfl fun a ω κ hb hu hc hK => ?_
            have h93 : a.tmps[93]?.getD undef = .pointer (some ⟨gt, 0, none⟩) := hc 1 93 rfl rfl
            have hk := Lib.hid (fun w1 (h : Below ω.heap.size ω w1) => hK (.pointer (some ⟨gt, 0, none⟩)) w1 rfl h)
            clear hK hu hc
            go_simp
            exact hk.out _ (Below.refl _ _)
          · rw [if_neg (by decide), if_neg (by decide), if_pos (by kernel_rfl)]
            refine calmT_step rfl fun a ω κ hb hu hc hK => ?_
            have h94 : a.tmps[94]?.getD undef = .pointer (some ⟨gt, 0, none⟩) := hc 2 94 rfl rfl
            have hk := Lib.hid (fun w1 (h : Below ω.heap.size ω w1) => hK (.pointer (some ⟨gt, 71, none⟩)) w1 rfl h)
            clear hK hu hc
            go_simp
            exact hk.out _ (Below.refl _ _)
          · rw [if_neg (by decide), if_neg (by decide), if_pos (by kernel_rfl)]
            refine calmT_step rfl fun a ω κ hb hu hc hK => ?_
            have h95 : a.tmps[95]?.getD undef = .pointer (some ⟨gt, 71, none⟩) := hc 3 95 rfl rfl
            have hk := Lib.hid (fun w1 (h : Below ω.heap.size ω w1) => hK (.slice A l.length c) w1 rfl h)
            clear hK hu hc
            obtain ⟨m0, m1, m2, mf, mlt⟩ := (hT5.out.step hb)
            go_simp
            exact hk.out _ (Below.refl _ _)
          · rw [if_neg (by decide), if_neg (by decide), if_pos (by kernel_rfl)]
            refine calmT_step rfl fun a ω κ hb hu hc hK => ?_
            have h1 : a.tmps[1]?.getD undef = .pointer (some ⟨gt, 0, none⟩) := (hu 1 rfl).trans e1
            have hk := Lib.hid (fun w1 (h : Below ω.heap.size ω w1) => hK (.pointer (some ⟨gt, 0, none⟩)) w1 rfl h)
            clear hK hu hc
            go_simp
            exact hk.out _ (Below.refl _ _)
          · rw [if_neg (by decide), if_neg (by decide), if_pos (by kernel_rfl)]
            refine calmT_step rfl fun a ω κ hb hu hc hK => ?_
            have h97 : a.tmps[97]?.getD undef = .pointer (some ⟨gt, 0, none⟩) := hc 5 97 rfl rfl
            have hk := Lib.hid (fun w1 (h : Below ω.heap.size ω w1) => hK (.pointer (some ⟨gt, 0, none⟩)) w1 rfl h)
            clear hK hu hc
            go_simp
            exact hk.out _ (Below.refl _ _)
          · rw [if_neg (by decide), if_neg (by decide), if_pos (by kernel_rfl)]
            refine calmT_step rfl fun a ω κ hb hu hc hK => ?_
            have h98 : a.tmps[98]?.getD undef = .pointer (some ⟨gt, 0, none⟩) := hc 6 98 rfl rfl
            have hk := Lib.hid (fun w1 (h : Below ω.heap.size ω w1) => hK (.pointer (some ⟨gt, 72, none⟩)) w1 rfl h)
            clear hK hu hc
            go_simp
            exact hk.out _ (Below.refl _ _)
          · rw [if_neg (by decide), if_neg (by decide), if_pos (by kernel_rfl)]
            refine calmT_step rfl fun a ω κ hb hu hc hK => ?_
            have h99 : a.tmps[99]?.getD undef = .pointer (some ⟨gt, 72, none⟩) := hc 7 99 rfl rfl
            have hk := Lib.hid (fun w1 (h : Below ω.heap.size ω w1) => hK (.int .i64 (last + 1)) w1 rfl h)
            clear hK hu hc
            obtain ⟨m0, m1, m2, mf, mlt⟩ := (hT5.out.step hb)
            go_simp
            exact hk.out _ (Below.refl _ _)
          · rw [if_neg (by decide), if_neg (by decide), if_pos (by kernel_rfl)]
            refine calmT_step rfl fun a ω κ hb hu hc hK => ?_
            have h7 : a.tmps[7]?.getD undef = .pointer (some ⟨g7, 0, none⟩) := (hu 7 rfl).trans e7
            have hk := Lib.hid (fun w1 (h : Below ω.heap.size ω w1) => hK (.pointer (some ⟨g7, 2, none⟩)) w1 rfl h)
            clear hK hu hc
            go_simp
            exact hk.out _ (Below.refl _ _)
          · rw [if_neg (by decide), if_neg (by decide), if_pos (by kernel_rfl)]
            refine calmT_step rfl fun a ω κ hb hu hc hK => ?_
            have h101 : a.tmps[101]?.getD undef = .pointer (some ⟨g7, 2, none⟩) := hc 9 101 rfl rfl
            have hk := Lib.hid (fun w1 (h : Below ω.heap.size ω w1) => hK (.int .i64 0) w1 rfl h)
            clear hK hu hc
            have x2 := (hb.cell (p := ⟨g7, 2, none⟩) hY5.out.2).trans hY5.out.1
            go_simp
            exact hk.out _ (Below.refl _ _)
          · rw [if_neg (by decide), if_neg (by decide), if_pos (by kernel_rfl)]
            refine calmT_step rfl fun a ω κ hb hu hc hK => ?_
            have h102 : a.tmps[102]?.getD undef = .int .i64 0 := hc 10 102 rfl rfl
            have hk := Lib.hid (fun w1 (h : Below ω.heap.size ω w1) => hK (.bool false) w1 rfl h)
            clear hK hu hc
            go_simp
            exact hk.out _ (Below.refl _ _)
          · rw [if_neg (by decide), if_neg (by decide), if_pos (by kernel_rfl)]
            refine calmT_step rfl fun a ω κ hb hu hc hK => ?_
            have h100 : a.tmps[100]?.getD undef = .int .i64 (last + 1) := hc 8 100 rfl rfl
            have h103 : a.tmps[103]?.getD undef = .bool false := hc 11 103 rfl rfl
            have hk := Lib.hid (fun w1 (h : Below ω.heap.size ω w1) => hK (.agg #[.int .i64 (last + 1), .bool false, .pointer none]) w1 rfl h)
            clear hK hu hc
            refine wp_bldTwoS rfl (vx := .int .i64 (last + 1)) (vy := .bool false) (eval_tmpS h100) (eval_tmpS h103) (build_seat _ _ ω) ?_
            exact hk.out _ (Below.refl _ _)
          · rw [if_neg (by decide), if_neg (by decide), if_pos (by kernel_rfl)]
            refine calmT_step rfl fun a ω κ hb hu hc hK => ?_
            have h104 : a.tmps[104]?.getD undef = .agg #[.int .i64 (last + 1), .bool false, .pointer none] := hc 12 104 rfl rfl
            have hk := Lib.hid (fun v w1 (hv : (SRel.st1 (last + 1) false).p v w1) (h : Below ω.heap.size ω w1) => hK v w1 hv h)
            clear hK hu hc
            go_simp
            exact hk.out _ _ (SRel.st1_new _ _ _) (below_alloc' _ _)
          · rw [if_pos rfl]
            refine write_of rfl fun a ω κ hb hu hc hK => ?_
            have h96 : a.tmps[96]?.getD undef = .slice A l.length c := hc 4 96 rfl rfl
            have h105 : (SRel.st1 (last + 1) false).p (a.tmps[105]?.getD undef) ω := hc 13 105 rfl rfl
            have hk := Lib.hid (fun vz wz (hvz : (StPhi w B g bm gt most (last + 1) who (l ++ [(last + 1, false)]) (last + 1) (.slice A l.length c) (l ++ [(last + 1, false)])) vz wz) => hK vz wz hvz)
            clear hK hu hc
            obtain ⟨g9, te9, fr9, e9, hc9⟩ := h105
            have hO5b := own_belowI hO5.out hb
            refine wp_app (.tmp 96) (.tmp 105) 76 rfl SSeat (eval_tmpS h96) hO5b (eval_tmpS e9) (m := 1) (news := seatC (last + 1, false)) rfl (Rd.of_blk hc9 (blk_lt hc9)) (by intro u hu; simp [seatC] at hu; rcases hu with rfl | rfl | rfl <;> rfl) (by have := hll5.out; unfold maxLen; omega) (by have := hll5.out; omega) (Nat.le_trans (Nat.le_trans hB0 hS5.out) hb.size) fun v' w' hO' hg' hat' => ?_
            exact hk.out _ _ (StPhi.of (hD5.out.step hb) (hT5.out.step hb) (seats_snoc hO') hN5.out hg' hat' (by simp) (below_step hb hL5.out (Nat.le_trans hB0 (by omega))) hG5.out (fun b e => (hO5.out.lt b e).1))
          · rw [if_neg (by decide), if_neg (by decide), if_neg (by rw [show pathB _ _ _ _ = false from by kernel_rfl]; decide)]
            refine pure_of rfl rfl fun a ω κ hu hc hK => ?_
            have h92 : a.tmps[92]?.getD undef = .pointer (some ⟨gt, 0, none⟩) := hc 0 92 rfl rfl
            have hk := Lib.hid hK
            clear hK hu hc
            go_simp
            exact hk.out
          · rw [if_neg (by decide), if_neg (by decide), if_neg (by rw [show pathB _ _ _ _ = false from by kernel_rfl]; decide)]
            refine pure_of rfl rfl fun a ω κ hu hc hK => ?_
            have h107 : a.tmps[107]?.getD undef = .pointer (some ⟨gt, 0, none⟩) := hc 15 107 rfl rfl
            have hk := Lib.hid hK
            clear hK hu hc
            go_simp
            exact hk.out
          · rw [if_neg (by decide), if_pos rfl]
            refine end_of rfl fun aa ω hu hsz hdf hc hf => ?_
            have h92 : aa.tmps[92]?.getD undef = .pointer (some ⟨gt, 0, none⟩) := hc 0 92 _ (by decide) rfl rfl
            have h93 : aa.tmps[93]?.getD undef = .pointer (some ⟨gt, 0, none⟩) := hc 1 93 _ (by decide) rfl rfl
            have h94 : aa.tmps[94]?.getD undef = .pointer (some ⟨gt, 0, none⟩) := hc 2 94 _ (by decide) rfl rfl
            have h95 : aa.tmps[95]?.getD undef = .pointer (some ⟨gt, 71, none⟩) := hc 3 95 _ (by decide) rfl rfl
            have h96 : aa.tmps[96]?.getD undef = .slice A l.length c := hc 4 96 _ (by decide) rfl rfl
            have h97 : aa.tmps[97]?.getD undef = .pointer (some ⟨gt, 0, none⟩) := hc 5 97 _ (by decide) rfl rfl
            have h98 : aa.tmps[98]?.getD undef = .pointer (some ⟨gt, 0, none⟩) := hc 6 98 _ (by decide) rfl rfl
            have h99 : aa.tmps[99]?.getD undef = .pointer (some ⟨gt, 72, none⟩) := hc 7 99 _ (by decide) rfl rfl
            have h100 : aa.tmps[100]?.getD undef = .int .i64 (last + 1) := hc 8 100 _ (by decide) rfl rfl
            have h101 : aa.tmps[101]?.getD undef = .pointer (some ⟨g7, 2, none⟩) := hc 9 101 _ (by decide) rfl rfl
            have h102 : aa.tmps[102]?.getD undef = .int .i64 0 := hc 10 102 _ (by decide) rfl rfl
            have h103 : aa.tmps[103]?.getD undef = .bool false := hc 11 103 _ (by decide) rfl rfl
            have h104 : aa.tmps[104]?.getD undef = .agg #[.int .i64 (last + 1), .bool false, .pointer none] := hc 12 104 _ (by decide) rfl rfl
            have h107 : aa.tmps[107]?.getD undef = .pointer (some ⟨gt, 0, none⟩) := hc 15 107 _ (by decide) rfl rfl
            have h108 : aa.tmps[108]?.getD undef = .pointer (some ⟨gt, 71, none⟩) := hc 16 108 _ (by decide) rfl rfl
            have hF : (StPhi w B g bm gt most (last + 1) who (l ++ [(last + 1, false)]) (last + 1) (.slice A l.length c) (l ++ [(last + 1, false)])) (aa.tmps[106]?.getD undef) ω := by obtain ⟨vz, hvz, hvq⟩ := hf; rw [hvq 106 rfl]; exact hvz
            have hHz := Lib.hid (And.intro hu (And.intro hsz hdf))
            clear hc hf hu hsz hdf hz0
            obtain ⟨⟨A8, c8, e8⟩, hr8⟩ := hF
            rw [e8] at hr8
            have hr8H := Lib.hid hr8
            obtain ⟨m0, m1, m2, mf, mlt⟩ := hr8.tok
            clear hr8
            go_simp
            have ha0 := hha0.out
            subst ha0
            have he := act_patchT (n := 282) 17 [false, false, false, false, false, false, false, false, false, false, false, false, false, false, false, false, false, false, false, false, false, false, false, false, false, false, false, false, false, false, false, false, false, false, false, false, false, false, false, false, false, false, false, false, false, false, false, false, false, false, false, false, false, false, false, false, false, false, false, false, false, false, false, false, false, false, false, false, false, false, false, false, false, false, false, false, false, false, false, false, false, false, false, false, false, false, false, false, false, false, false, false, true, true, true, true, true, true, true, true, true, true, true, true, true, true, true, true, true, false, false, false, false, false, false, false, false, false, false, false, false, false, false, false, false, false, false, false, false, false, false, false, false, false, false, false, false, false, false, false, false, false, false, false, false, false, false, false, false, false, false, false, false, false, false, false, false, false, false, false, false, false, false, false, false, false, false, false, false, false, false, false, false, false, false, false, false, false, false, false, false, false, false, false, false, false, false, false, false, false, false, false, false, false, false, false, false, false, false, false, false, false, false, false, false, false, false, false, false, false, false, false, false, false, false, false, false, false, false, false, false, false, false, false, false, false, false, false, false, false, false, false, false, false, false, false, false, false, false, false, false, false, false, false, false, false, false, false, false, false, false, false, false, false, false, false, false, false, false, false, false, false, false, false, false, false, false, false, false, false, false, false, false, false, false, false, false, false, false, false, false, false] rfl (by kernel_rfl) hHz.out.1 hHz.out.2.1 hHz.out.2.2
            simp only [patch, cond_true, cond_false, Nat.reduceAdd] at he
            clear hHz hha0 e1 e7
            rw [he]
            clear he
            generalize aa.tmps[92]?.getD undef = x92 at *
            generalize aa.tmps[93]?.getD undef = x93 at *
            generalize aa.tmps[94]?.getD undef = x94 at *
            generalize aa.tmps[95]?.getD undef = x95 at *
            generalize aa.tmps[96]?.getD undef = x96 at *
            generalize aa.tmps[97]?.getD undef = x97 at *
            generalize aa.tmps[98]?.getD undef = x98 at *
            generalize aa.tmps[99]?.getD undef = x99 at *
            generalize aa.tmps[100]?.getD undef = x100 at *
            generalize aa.tmps[101]?.getD undef = x101 at *
            generalize aa.tmps[102]?.getD undef = x102 at *
            generalize aa.tmps[103]?.getD undef = x103 at *
            generalize aa.tmps[104]?.getD undef = x104 at *
            generalize aa.tmps[105]?.getD undef = x105 at *
            generalize aa.tmps[106]?.getD undef = x106 at *
            generalize aa.tmps[107]?.getD undef = x107 at *
            generalize aa.tmps[108]?.getD undef = x108 at *
            go_wp2
            go_ret
            have hx := h2H.out
            have hr := hr8H.out
            rw [show (l ++ [(last + 1, false)]).length = l.length + 1 from by simp] at hr
            exact ⟨ret_bool (by simp), last + 1, who, l ++ [(last + 1, false)], _, ⟨desk_set hr.desk hx.n1 hx.n2 71 _, tok_seats hr.tok _, own_set hr.own (fun b e => (hr.nb b e).2.2), hx.n1, hx.n2, hr.nb, hx.b1, hx.b2, hx.b3, hx.hw, by have := hx.hl; omega, ids_snoc hx.hl hx.hid⟩, by omega, by simp, below_set hr.below hx.b3⟩
      · have r1 : (n != 0) = true := by rw [bne_iff_ne]; exact hn
        have r2 : (n == 0) = false := by rw [beq_eq_false_iff_ne]; exact hn
        clear hn
        have hP : Hid (openP l most last who true = (last + 1, 0)) := by show _ = _; unfold openP; rw [if_neg hf, if_neg (by simp)]
        have hLL : Hid (openL l most last who true = l ++ [(last + 1, true)]) := by show _ = _; unfold openL; rw [if_neg hf, if_neg (by simp)]
        have hNN : Hid (openN l most last who true = last + 1) := by show _ = _; unfold openN; rw [if_neg hf, if_neg (by simp)]
        have hlo := Lib.hid (desk_Open g bm most last who l true _ h2.desk ⟨h2.hl, by omega⟩ (fun p hp => (h2.hid p hp).2) (by omega))
        unfold OpenR at hlo
        rw [hP.out, hLL.out, hNN.out] at hlo
        clear hf
        clear h2 hP hLL hNN
        go_wp2_with fail
        refine hlo.out.mono ?_
        rintro e w4 ⟨rfl, hd4, hb4⟩
        have ht4 := tok_But h2H.out.tok hb4 h2H.out.n1 h2H.out.n2
        have ho4 := own_But h2H.out.own hb4 (fun b e => ⟨(h2H.out.nb b e).1, (h2H.out.nb b e).2.1⟩)
        have hL4 := hb4.below hL2 h2H.out.b1 h2H.out.b2 (Nat.le_trans hB0 (by omega))
        have y24 := (World.cell?_of_block (a := ⟨g7, 2, none⟩) (hb4.block g7 hg72 n8.symm n9.symm)).trans y2
        have hg74 := Nat.lt_of_lt_of_le hg72 hb4.size
        have hG74 := Lib.hid hg74
        have hT5 := tok_last ht4 (last + 1)
        have hD5 := Lib.hid (desk_set hd4 h2H.out.n1 h2H.out.n2 72 (.int .i64 (last + 1)))
        have hO5 := Lib.hid (own_set (i := 72) (u := .int .i64 (last + 1)) ho4 (fun b e => (h2H.out.nb b e).2.2))
        have hL5 := Lib.hid (below_set (i := 72) (v := .int .i64 (last + 1)) hL4 h2H.out.b3)
        have hY5 := cell_far (i := 72) (v := .int .i64 (last + 1)) n7 y24 hg74
        obtain ⟨c70, c71, c72, cf4, clt4⟩ := ht4
        have hwr : IntKind.i64.wrap (last + 1) = last + 1 := by rw [IntKind.wrap_i64]; have := h2H.out.hl; omega
        have hT5H := Lib.hid hT5
        have hY5H := Lib.hid hY5
        have hS5 := Lib.hid (show w2.heap.size ≤ (w4.setCell ⟨gt, 72, none⟩ (.int .i64 (last + 1))).heap.size from by rw [size_setCellS]; exact hb4.size)
        clear hd4 ho4 hL4 hT5 hY5
        go_upto_region 20 with (fail)
        generalize w4.setCell ⟨gt, 72, none⟩ (.int .i64 (last + 1)) = w5 at *
        replace hS5 := Lib.hid (show g7 ≤ w5.heap.size from Nat.le_trans (Nat.le_of_lt hg72) hS5.out)
        have hll5 := Lib.hid hll
        have hN5 := Lib.hid h2H.out.nb
        have hG5 := Lib.hid (show B ≤ g ∧ B ≤ bm ∧ B ≤ gt from ⟨h2H.out.b1, h2H.out.b2, h2H.out.b3⟩)
        have hT5 := hT5H
        have hY5 := hY5H
        clear hT5H hY5H c70 c71 c72 cf4 clt4 y24 y0 y1 y2 z0 z1 z2 zf zlt hG74 hb4
        generalize ha0 : Act.mk _ _ = a0
        have e1 : a0.tmps[1]?.getD undef = .pointer (some ⟨gt, 0, none⟩) := by rw [← ha0]; rfl
        have e7 : a0.tmps[7]?.getD undef = .pointer (some ⟨g7, 0, none⟩) := by rw [← ha0]; rfl
        have hz0 : a0.tmps.size = 282 := by rw [← ha0]; rfl
        have hha0 := Lib.hid ha0
        clear ha0
        refine wp_region_write (fun jx_ => match jx_ with | 0 => some (.pointer (some ⟨gt, 0, none⟩)) | 1 => some (.pointer (some ⟨gt, 0, none⟩)) | 2 => some (.pointer (some ⟨gt, 0, none⟩)) | 3 => some (.pointer (some ⟨gt, 71, none⟩)) | 4 => some (.slice A l.length c) | 5 => some (.pointer (some ⟨gt, 0, none⟩)) | 6 => some (.pointer (some ⟨gt, 0, none⟩)) | 7 => some (.pointer (some ⟨gt, 72, none⟩)) | 8 => some (.int .i64 (last + 1)) | 9 => some (.pointer (some ⟨g7, 2, none⟩)) | 10 => some (.int .i64 n) | 11 => some (.bool true) | 12 => some (.agg #[.int .i64 (last + 1), .bool true, .pointer none]) | 15 => some (.pointer (some ⟨gt, 0, none⟩)) | 16 => some (.pointer (some ⟨gt, 71, none⟩)) | _ => none) (fun jx_ => match jx_ with | 13 => SRel.st1 (last + 1) true | 14 => SRel.any | 17 => SRel.any | _ => SRel.any) 14 17 (StPhi w B g bm gt most (last + 1) who (l ++ [(last + 1, true)]) (last + 1) (.slice A l.length c) (l ++ [(last + 1, true)])) (by kernel_rfl) (by kernel_rfl) (by kernel_rfl) (slotsOk_of hz0 (by kernel_rfl)) (by kernel_rfl) (by decide) rfl (of_decide_eq_true (by kernel_rfl)) (of_decide_eq_true (by kernel_rfl)) ⟨?_, ?_, ?_, ?_, ?_, ?_, ?_, ?_, ?_, ?_, ?_, ?_, ?_, ?_, ?_, ?_, ?_, ?_, trivial⟩
        · rw [if_neg (by decide), if_neg (by decide), if_neg (by rw [show pathB _ _ _ _ = false from by kernel_rfl]; decide)]
          refine pure_of rfl rfl fun a ω κ hu hc hK => ?_
          have h1 : a.tmps[1]?.getD undef = .pointer (some ⟨gt, 0, none⟩) := (hu 1 rfl).trans e1
          have hk := Lib.hid hK
          clear hK hu hc
          go_simp
          exact hk.out
        · rw [if_neg (by decide), if_neg (by decide), if_pos (by kernel_rfl)]
          refine calmT_step rfl fun a ω κ hb hu hc hK => ?_
          have h1 : a.tmps[1]?.getD undef = .pointer (some ⟨gt, 0, none⟩) := (hu 1 rfl).trans e1
          have hk := Lib.hid (fun w1 (h : Below ω.heap.size ω w1) => hK (.pointer (some ⟨gt, 0, none⟩)) w1 rfl h)
          clear hK hu hc
          go_simp
          exact hk.out _ (Below.refl _ _)
        · rw [if_neg (by decide), if_neg (by decide), if_pos (by kernel_rfl)]
          refine calmT_step rfl fun a ω κ hb hu hc hK => ?_
          have h93 : a.tmps[93]?.getD undef = .pointer (some ⟨gt, 0, none⟩) := hc 1 93 rfl rfl
          have hk := Lib.hid (fun w1 (h : Below ω.heap.size ω w1) => hK (.pointer (some ⟨gt, 0, none⟩)) w1 rfl h)
          clear hK hu hc
          go_simp
          exact hk.out _ (Below.refl _ _)
        · rw [if_neg (by decide), if_neg (by decide), if_pos (by kernel_rfl)]
          refine calmT_step rfl fun a ω κ hb hu hc hK => ?_
          have h94 : a.tmps[94]?.getD undef = .pointer (some ⟨gt, 0, none⟩) := hc 2 94 rfl rfl
          have hk := Lib.hid (fun w1 (h : Below ω.heap.size ω w1) => hK (.pointer (some ⟨gt, 71, none⟩)) w1 rfl h)
          clear hK hu hc
          go_simp
          exact hk.out _ (Below.refl _ _)
        · rw [if_neg (by decide), if_neg (by decide), if_pos (by kernel_rfl)]
          refine calmT_step rfl fun a ω κ hb hu hc hK => ?_
          have h95 : a.tmps[95]?.getD undef = .pointer (some ⟨gt, 71, none⟩) := hc 3 95 rfl rfl
          have hk := Lib.hid (fun w1 (h : Below ω.heap.size ω w1) => hK (.slice A l.length c) w1 rfl h)
          clear hK hu hc
          obtain ⟨m0, m1, m2, mf, mlt⟩ := (hT5.out.step hb)
          go_simp
          exact hk.out _ (Below.refl _ _)
        · rw [if_neg (by decide), if_neg (by decide), if_pos (by kernel_rfl)]
          refine calmT_step rfl fun a ω κ hb hu hc hK => ?_
          have h1 : a.tmps[1]?.getD undef = .pointer (some ⟨gt, 0, none⟩) := (hu 1 rfl).trans e1
          have hk := Lib.hid (fun w1 (h : Below ω.heap.size ω w1) => hK (.pointer (some ⟨gt, 0, none⟩)) w1 rfl h)
          clear hK hu hc
          go_simp
          exact hk.out _ (Below.refl _ _)
        · rw [if_neg (by decide), if_neg (by decide), if_pos (by kernel_rfl)]
          refine calmT_step rfl fun a ω κ hb hu hc hK => ?_
          have h97 : a.tmps[97]?.getD undef = .pointer (some ⟨gt, 0, none⟩) := hc 5 97 rfl rfl
          have hk := Lib.hid (fun w1 (h : Below ω.heap.size ω w1) => hK (.pointer (some ⟨gt, 0, none⟩)) w1 rfl h)
          clear hK hu hc
          go_simp
          exact hk.out _ (Below.refl _ _)
        · rw [if_neg (by decide), if_neg (by decide), if_pos (by kernel_rfl)]
          refine calmT_step rfl fun a ω κ hb hu hc hK => ?_
          have h98 : a.tmps[98]?.getD undef = .pointer (some ⟨gt, 0, none⟩) := hc 6 98 rfl rfl
          have hk := Lib.hid (fun w1 (h : Below ω.heap.size ω w1) => hK (.pointer (some ⟨gt, 72, none⟩)) w1 rfl h)
          clear hK hu hc
          go_simp
          exact hk.out _ (Below.refl _ _)
        · rw [if_neg (by decide), if_neg (by decide), if_pos (by kernel_rfl)]
          refine calmT_step rfl fun a ω κ hb hu hc hK => ?_
          have h99 : a.tmps[99]?.getD undef = .pointer (some ⟨gt, 72, none⟩) := hc 7 99 rfl rfl
          have hk := Lib.hid (fun w1 (h : Below ω.heap.size ω w1) => hK (.int .i64 (last + 1)) w1 rfl h)
          clear hK hu hc
          obtain ⟨m0, m1, m2, mf, mlt⟩ := (hT5.out.step hb)
          go_simp
          exact hk.out _ (Below.refl _ _)
        · rw [if_neg (by decide), if_neg (by decide), if_pos (by kernel_rfl)]
          refine calmT_step rfl fun a ω κ hb hu hc hK => ?_
          have h7 : a.tmps[7]?.getD undef = .pointer (some ⟨g7, 0, none⟩) := (hu 7 rfl).trans e7
          have hk := Lib.hid (fun w1 (h : Below ω.heap.size ω w1) => hK (.pointer (some ⟨g7, 2, none⟩)) w1 rfl h)
          clear hK hu hc
          go_simp
          exact hk.out _ (Below.refl _ _)
        · rw [if_neg (by decide), if_neg (by decide), if_pos (by kernel_rfl)]
          refine calmT_step rfl fun a ω κ hb hu hc hK => ?_
          have h101 : a.tmps[101]?.getD undef = .pointer (some ⟨g7, 2, none⟩) := hc 9 101 rfl rfl
          have hk := Lib.hid (fun w1 (h : Below ω.heap.size ω w1) => hK (.int .i64 n) w1 rfl h)
          clear hK hu hc
          have x2 := (hb.cell (p := ⟨g7, 2, none⟩) hY5.out.2).trans hY5.out.1
          go_simp
          exact hk.out _ (Below.refl _ _)
        · rw [if_neg (by decide), if_neg (by decide), if_pos (by kernel_rfl)]
          refine calmT_step rfl fun a ω κ hb hu hc hK => ?_
          have h102 : a.tmps[102]?.getD undef = .int .i64 n := hc 10 102 rfl rfl
          have hk := Lib.hid (fun w1 (h : Below ω.heap.size ω w1) => hK (.bool true) w1 rfl h)
          clear hK hu hc
          go_simp
          exact hk.out _ (Below.refl _ _)
        · rw [if_neg (by decide), if_neg (by decide), if_pos (by kernel_rfl)]
          refine calmT_step rfl fun a ω κ hb hu hc hK => ?_
          have h100 : a.tmps[100]?.getD undef = .int .i64 (last + 1) := hc 8 100 rfl rfl
          have h103 : a.tmps[103]?.getD undef = .bool true := hc 11 103 rfl rfl
          have hk := Lib.hid (fun w1 (h : Below ω.heap.size ω w1) => hK (.agg #[.int .i64 (last + 1), .bool true, .pointer none]) w1 rfl h)
          clear hK hu hc
          refine wp_bldTwoS rfl (vx := .int .i64 (last + 1)) (vy := .bool true) (eval_tmpS h100) (eval_tmpS h103) (build_seat _ _ ω) ?_
          exact hk.out _ (Below.refl _ _)
        · rw [if_neg (by decide), if_neg (by decide), if_pos (by kernel_rfl)]
          refine calmT_step rfl fun a ω κ hb hu hc hK => ?_
          have h104 : a.tmps[104]?.getD undef = .agg #[.int .i64 (last + 1), .bool true, .pointer none] := hc 12 104 rfl rfl
          have hk := Lib.hid (fun v w1 (hv : (SRel.st1 (last + 1) true).p v w1) (h : Below ω.heap.size ω w1) => hK v w1 hv h)
          clear hK hu hc
          go_simp
          exact hk.out _ _ (SRel.st1_new _ _ _) (below_alloc' _ _)
        · rw [if_pos rfl]
          refine write_of rfl fun a ω κ hb hu hc hK => ?_
          have h96 : a.tmps[96]?.getD undef = .slice A l.length c := hc 4 96 rfl rfl
          have h105 : (SRel.st1 (last + 1) true).p (a.tmps[105]?.getD undef) ω := hc 13 105 rfl rfl
          have hk := Lib.hid (fun vz wz (hvz : (StPhi w B g bm gt most (last + 1) who (l ++ [(last + 1, true)]) (last + 1) (.slice A l.length c) (l ++ [(last + 1, true)])) vz wz) => hK vz wz hvz)
          clear hK hu hc
          obtain ⟨g9, te9, fr9, e9, hc9⟩ := h105
          have hO5b := own_belowI hO5.out hb
          refine wp_app (.tmp 96) (.tmp 105) 76 rfl SSeat (eval_tmpS h96) hO5b (eval_tmpS e9) (m := 1) (news := seatC (last + 1, true)) rfl (Rd.of_blk hc9 (blk_lt hc9)) (by intro u hu; simp [seatC] at hu; rcases hu with rfl | rfl | rfl <;> rfl) (by have := hll5.out; unfold maxLen; omega) (by have := hll5.out; omega) (Nat.le_trans (Nat.le_trans hB0 hS5.out) hb.size) fun v' w' hO' hg' hat' => ?_
          exact hk.out _ _ (StPhi.of (hD5.out.step hb) (hT5.out.step hb) (seats_snoc hO') hN5.out hg' hat' (by simp) (below_step hb hL5.out (Nat.le_trans hB0 (by omega))) hG5.out (fun b e => (hO5.out.lt b e).1))
        · rw [if_neg (by decide), if_neg (by decide), if_neg (by rw [show pathB _ _ _ _ = false from by kernel_rfl]; decide)]
          refine pure_of rfl rfl fun a ω κ hu hc hK => ?_
          have h92 : a.tmps[92]?.getD undef = .pointer (some ⟨gt, 0, none⟩) := hc 0 92 rfl rfl
          have hk := Lib.hid hK
          clear hK hu hc
          go_simp
          exact hk.out
        · rw [if_neg (by decide), if_neg (by decide), if_neg (by rw [show pathB _ _ _ _ = false from by kernel_rfl]; decide)]
          refine pure_of rfl rfl fun a ω κ hu hc hK => ?_
          have h107 : a.tmps[107]?.getD undef = .pointer (some ⟨gt, 0, none⟩) := hc 15 107 rfl rfl
          have hk := Lib.hid hK
          clear hK hu hc
          go_simp
          exact hk.out
        · rw [if_neg (by decide), if_pos rfl]
          refine end_of rfl fun aa ω hu hsz hdf hc hf => ?_
          have h92 : aa.tmps[92]?.getD undef = .pointer (some ⟨gt, 0, none⟩) := hc 0 92 _ (by decide) rfl rfl
          have h93 : aa.tmps[93]?.getD undef = .pointer (some ⟨gt, 0, none⟩) := hc 1 93 _ (by decide) rfl rfl
          have h94 : aa.tmps[94]?.getD undef = .pointer (some ⟨gt, 0, none⟩) := hc 2 94 _ (by decide) rfl rfl
          have h95 : aa.tmps[95]?.getD undef = .pointer (some ⟨gt, 71, none⟩) := hc 3 95 _ (by decide) rfl rfl
          have h96 : aa.tmps[96]?.getD undef = .slice A l.length c := hc 4 96 _ (by decide) rfl rfl
          have h97 : aa.tmps[97]?.getD undef = .pointer (some ⟨gt, 0, none⟩) := hc 5 97 _ (by decide) rfl rfl
          have h98 : aa.tmps[98]?.getD undef = .pointer (some ⟨gt, 0, none⟩) := hc 6 98 _ (by decide) rfl rfl
          have h99 : aa.tmps[99]?.getD undef = .pointer (some ⟨gt, 72, none⟩) := hc 7 99 _ (by decide) rfl rfl
          have h100 : aa.tmps[100]?.getD undef = .int .i64 (last + 1) := hc 8 100 _ (by decide) rfl rfl
          have h101 : aa.tmps[101]?.getD undef = .pointer (some ⟨g7, 2, none⟩) := hc 9 101 _ (by decide) rfl rfl
          have h102 : aa.tmps[102]?.getD undef = .int .i64 n := hc 10 102 _ (by decide) rfl rfl
          have h103 : aa.tmps[103]?.getD undef = .bool true := hc 11 103 _ (by decide) rfl rfl
          have h104 : aa.tmps[104]?.getD undef = .agg #[.int .i64 (last + 1), .bool true, .pointer none] := hc 12 104 _ (by decide) rfl rfl
          have h107 : aa.tmps[107]?.getD undef = .pointer (some ⟨gt, 0, none⟩) := hc 15 107 _ (by decide) rfl rfl
          have h108 : aa.tmps[108]?.getD undef = .pointer (some ⟨gt, 71, none⟩) := hc 16 108 _ (by decide) rfl rfl
          have hF : (StPhi w B g bm gt most (last + 1) who (l ++ [(last + 1, true)]) (last + 1) (.slice A l.length c) (l ++ [(last + 1, true)])) (aa.tmps[106]?.getD undef) ω := by obtain ⟨vz, hvz, hvq⟩ := hf; rw [hvq 106 rfl]; exact hvz
          have hHz := Lib.hid (And.intro hu (And.intro hsz hdf))
          clear hc hf hu hsz hdf hz0
          obtain ⟨⟨A8, c8, e8⟩, hr8⟩ := hF
          rw [e8] at hr8
          have hr8H := Lib.hid hr8
          obtain ⟨m0, m1, m2, mf, mlt⟩ := hr8.tok
          clear hr8
          go_simp
          have ha0 := hha0.out
          subst ha0
          have he := act_patchT (n := 282) 17 [false, false, false, false, false, false, false, false, false, false, false, false, false, false, false, false, false, false, false, false, false, false, false, false, false, false, false, false, false, false, false, false, false, false, false, false, false, false, false, false, false, false, false, false, false, false, false, false, false, false, false, false, false, false, false, false, false, false, false, false, false, false, false, false, false, false, false, false, false, false, false, false, false, false, false, false, false, false, false, false, false, false, false, false, false, false, false, false, false, false, false, false, true, true, true, true, true, true, true, true, true, true, true, true, true, true, true, true, true, false, false, false, false, false, false, false, false, false, false, false, false, false, false, false, false, false, false, false, false, false, false, false, false, false, false, false, false, false, false, false, false, false, false, false, false, false, false, false, false, false, false, false, false, false, false, false, false, false, false, false, false, false, false, false, false, false, false, false, false, false, false, false, false, false, false, false, false, false, false, false, false, false, false, false, false, false, false, false, false, false, false, false, false, false, false, false, false, false, false, false, false, false, false, false, false, false, false, false, false, false, false, false, false, false, false, false, false, false, false, false, false, false, false, false, false, false, false, false, false, false, false, false, false, false, false, false, false, false, false, false, false, false, false, false, false, false, false, false, false, false, false, false, false, false, false, false, false, false, false, false, false, false, false, false, false, false, false, false, false, false, false, false, false, false, false, false, false, false, false, false, false, false] rfl (by kernel_rfl) hHz.out.1 hHz.out.2.1 hHz.out.2.2
          simp only [patch, cond_true, cond_false, Nat.reduceAdd] at he
          clear hHz hha0 e1 e7
          rw [he]
          clear he
          generalize aa.tmps[92]?.getD undef = x92 at *
          generalize aa.tmps[93]?.getD undef = x93 at *
          generalize aa.tmps[94]?.getD undef = x94 at *
          generalize aa.tmps[95]?.getD undef = x95 at *
          generalize aa.tmps[96]?.getD undef = x96 at *
          generalize aa.tmps[97]?.getD undef = x97 at *
          generalize aa.tmps[98]?.getD undef = x98 at *
          generalize aa.tmps[99]?.getD undef = x99 at *
          generalize aa.tmps[100]?.getD undef = x100 at *
          generalize aa.tmps[101]?.getD undef = x101 at *
          generalize aa.tmps[102]?.getD undef = x102 at *
          generalize aa.tmps[103]?.getD undef = x103 at *
          generalize aa.tmps[104]?.getD undef = x104 at *
          generalize aa.tmps[105]?.getD undef = x105 at *
          generalize aa.tmps[106]?.getD undef = x106 at *
          generalize aa.tmps[107]?.getD undef = x107 at *
          generalize aa.tmps[108]?.getD undef = x108 at *
          go_wp2
          go_ret
          have hx := h2H.out
          have hr := hr8H.out
          rw [show (l ++ [(last + 1, true)]).length = l.length + 1 from by simp] at hr
          exact ⟨ret_bool (by simp), last + 1, who, l ++ [(last + 1, true)], _, ⟨desk_set hr.desk hx.n1 hx.n2 71 _, tok_seats hr.tok _, own_set hr.own (fun b e => (hr.nb b e).2.2), hx.n1, hx.n2, hr.nb, hx.b1, hx.b2, hx.b3, hx.hw, by have := hx.hl; omega, ids_snoc hx.hl hx.hid⟩, by omega, by simp, below_set hr.below hx.b3⟩
end Go.Proofs.Ytdlmamnnamlleaa
