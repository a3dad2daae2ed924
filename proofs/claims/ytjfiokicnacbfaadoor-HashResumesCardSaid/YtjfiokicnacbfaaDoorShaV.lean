/- Contract of the document's WordsOf. -/
import Derived.Test.YtjfiokicnacbfaaDoorShaB
import Derived.Test.YtjfiokicnacbfaaDoorOwn2
import Derived.Deep.RegionHeld3
namespace Go.Proofs.YtjfiokicnacbfaaDoor
open Go.ChangeShapes Go.WideShapes Go.ChangeAt Go.RowKit
set_option maxHeartbeats 2000000
set_option maxRecDepth 100000
def wsV (f : Nat → Nat) (j : Nat) : List Value := (List.range j).map fun i => u32v (be32 f (4 * i))
theorem wsV_len (f : Nat → Nat) (j : Nat) : (wsV f j).length = j := by simp [wsV]
theorem wsV_succ (f : Nat → Nat) (j : Nat) : wsV f (j + 1) = wsV f j ++ [u32v (be32 f (4 * j))] := by
  unfold wsV; rw [List.range_succ, List.map_append]; rfl
theorem addr_zero (g j : Nat) : (⟨g, 0, none⟩ : Addr).add j = ⟨g, j, none⟩ := by simp [Addr.add]; exact fun h => h.symm
theorem ref_WordsOf (f : Nat → Nat) (w : World) (hf : ∀ i < 32, f i < 256) :
    Calls Tryd.prog 16 #[.agg (arrK .u8 32 f)] w (RetH (fun i => be32 f (4 * i)) w) := by
  have hcf := arrK_cells .u8 32 f
  have hF0 : Row (w.alloc (Obj.cells (arrK .u8 32 f) 31)) w.heap.size 32 := (row_new rfl).2 hcf.1
  have hf0 : rowAt (w.alloc (Obj.cells (arrK .u8 32 f) 31)) w.heap.size = arrK .u8 32 f := rowAt_new rfl
  have hL0 : Below w.heap.size w (w.alloc (Obj.cells (arrK .u8 32 f) 31)) := below_alloc _ _
  have hg0 : w.heap.size < (w.alloc (Obj.cells (arrK .u8 32 f) 31)).heap.size := by simp
  have hHf := Lib.hid hf
  clear hf
  go_enter Tryd.func16, Tryd.ntmps16
  go_wp2
  generalize (w.alloc (Obj.cells (arrK .u8 32 f) 31)) = W0 at *
  have hO0 : Own W0 W0.heap.size 24 (.slice none 0 0) (wsV f 0) W0 := Own.start W0 _
  go_loopw [3, 4] (fun v i wr => ∃ j : Nat, i = .int .i64 (4 * (j : Int)) ∧ j ≤ 8 ∧ Own W0 W0.heap.size 24 v (wsV f j) wr) (fun _ i _ => 32 - (intOf i).toNat)
  case atStart => exact ⟨0, rfl, by omega, hO0⟩
  case round =>
    clear hO0
    obtain ⟨j, rfl, hj, hO⟩ := hrel
    obtain ⟨A, c, rfl, hl, hm⟩ := hO.form
    by_cases h8 : j = 8
    · subst h8
      have hlen := wsV_len f 8
      rw [hlen] at hl hO ⊢
      rw [show (4 * ((8 : Nat) : Int)) = (32 : Int) from rfl]
      go_wp2
      go_ret
      rcases hO.own.2 with ⟨e1, e2⟩ | ⟨g, cap, cur, e1, e2, e3, e4, e5, e6, e7⟩
      · rw [hlen] at e2; cases e2
      · injection e1 with e8 e9 e10
        subst e8 e10
        refine ⟨g, c, rfl, hl, by unfold maxLen; omega, ⟨(hO.lt rfl).2, fun i hi => ?_⟩, hL0.trans (hO.bel.mono (by omega))⟩
        have h1 := (hO.rd).all (j := i) (u := u32v (be32 f (4 * i))) (by simp [wsV, hi])
        rw [addr_zero] at h1
        exact h1
    · have hR := row_below hF0 hO.bel hg0
      have hr := (rowAt_below hO.bel hg0).trans hf0
      have hcell : ∀ i, i < 32 → wr.cell? ⟨w.heap.size, i, none⟩ = some (.int .u8 (f i : Int)) := fun i hi => by rw [hR.cell, hr, arrK_at hi]
      obtain ⟨q, hq⟩ : ∃ q, q = 4 * j := ⟨_, rfl⟩
      have hqi : 4 * (j : Int) = (q : Int) := by omega
      have hb : be32 f (4 * j) = be32 f q := by rw [hq]
      have hsc := wsV_succ f j
      rw [hb] at hsc
      have hq32 : q + 3 < 32 := by omega
      have c0 := hcell q (by omega)
      have c1 := hcell (q + 1) (by omega)
      have c2 := hcell (q + 2) (by omega)
      have c3 := hcell (q + 3) (by omega)
      have b0 := hHf.out q (by omega)
      have b1 := hHf.out (q + 1) (by omega)
      have b2 := hHf.out (q + 2) (by omega)
      have b3 := hHf.out (q + 3) (by omega)
      have z0 : (0 : Int) ≤ (q : Int) := by omega
      have z1 : (0 : Int) ≤ (q : Int) + 1 := by omega
      have z2 : (0 : Int) ≤ (q : Int) + 2 := by omega
      have z3 : (0 : Int) ≤ (q : Int) + 3 := by omega
      have l0 : (q : Int) < 32 := by omega
      have l1 : (q : Int) + 1 < 32 := by omega
      have l2 : (q : Int) + 2 < 32 := by omega
      have l3 : (q : Int) + 3 < 32 := by omega
      have hbe := Lib.hid (show be32 f q = BitVec.ofNat 32 (f q * 16777216 + f (q + 1) * 65536 + f (q + 2) * 256 + f (q + 3)) by unfold be32; rfl)
      have hHsc := Lib.hid hsc
      have hHq := Lib.hid hq
      clear hcell hR hr hsc hb hq
      rw [wsV_len] at hl
      generalize f q = y0 at *
      generalize f (q + 1) = y1 at *
      generalize f (q + 2) = y2 at *
      generalize f (q + 3) = y3 at *
      have w1 : IntKind.i64.wrap ((q : Int) + 1) = (q : Int) + 1 := by rw [IntKind.wrap_i64]; omega
      have w2 : IntKind.i64.wrap ((q : Int) + 2) = (q : Int) + 2 := by rw [IntKind.wrap_i64]; omega
      have w3 : IntKind.i64.wrap ((q : Int) + 3) = (q : Int) + 3 := by rw [IntKind.wrap_i64]; omega
      have t2 : ((q : Int) + 2).toNat = q + 2 := by omega
      have t3 : ((q : Int) + 3).toNat = q + 3 := by omega
      have v0 : IntKind.u32.wrap (y0 : Int) = (y0 : Int) := by rw [IntKind.wrap_u32]; omega
      have v1 : IntKind.u32.wrap (y1 : Int) = (y1 : Int) := by rw [IntKind.wrap_u32]; omega
      have v2 : IntKind.u32.wrap (y2 : Int) = (y2 : Int) := by rw [IntKind.wrap_u32]; omega
      have v3 : IntKind.u32.wrap (y3 : Int) = (y3 : Int) := by rw [IntKind.wrap_u32]; omega
      have m0 : IntKind.u32.wrap ((y0 : Int) * 16777216) = (y0 : Int) * 16777216 := by rw [IntKind.wrap_u32]; omega
      have m1 : IntKind.u32.wrap ((y1 : Int) * 65536) = (y1 : Int) * 65536 := by rw [IntKind.wrap_u32]; omega
      have m2 : IntKind.u32.wrap ((y2 : Int) * 256) = (y2 : Int) * 256 := by rw [IntKind.wrap_u32]; omega
      have s1 : IntKind.u32.wrap ((y0 : Int) * 16777216 + (y1 : Int) * 65536) = (y0 : Int) * 16777216 + (y1 : Int) * 65536 := by rw [IntKind.wrap_u32]; omega
      have s2 : IntKind.u32.wrap ((y0 : Int) * 16777216 + (y1 : Int) * 65536 + (y2 : Int) * 256) = (y0 : Int) * 16777216 + (y1 : Int) * 65536 + (y2 : Int) * 256 := by rw [IntKind.wrap_u32]; omega
      have hS := Lib.hid (show ∀ W, Below W0.heap.size W0 W → W.cell? ⟨w.heap.size, q, none⟩ = some (.int .u8 (y0 : Int)) ∧ W.cell? ⟨w.heap.size, q + 1, none⟩ = some (.int .u8 (y1 : Int)) ∧ W.cell? ⟨w.heap.size, q + 2, none⟩ = some (.int .u8 (y2 : Int)) ∧ W.cell? ⟨w.heap.size, q + 3, none⟩ = some (.int .u8 (y3 : Int)) from fun W hW =>
        ⟨((bcell hW).1 _ _ hg0).trans (((bcell hO.bel).1 _ _ hg0).symm.trans c0), ((bcell hW).1 _ _ hg0).trans (((bcell hO.bel).1 _ _ hg0).symm.trans c1), ((bcell hW).1 _ _ hg0).trans (((bcell hO.bel).1 _ _ hg0).symm.trans c2), ((bcell hW).1 _ _ hg0).trans (((bcell hO.bel).1 _ _ hg0).symm.trans c3)⟩)
      have hu : (y0 : Int) * 16777216 + (y1 : Int) * 65536 + (y2 : Int) * 256 + (y3 : Int) = (w2n (be32 f q) : Int) := by rw [hbe.out, w2n_of (by omega)]; simp
      have s3 : IntKind.u32.wrap ((y0 : Int) * 16777216 + (y1 : Int) * 65536 + (y2 : Int) * 256 + (y3 : Int)) = (w2n (be32 f q) : Int) := by rw [← hu, IntKind.wrap_u32]; omega
      have hHu := Lib.hid hu
      clear hu
      go_wp2
      clear c0 c1 c2 c3
      go_region_held3 (fun W => W.cell? ⟨w.heap.size, q, none⟩ = some (.int .u8 (y0 : Int)) ∧ W.cell? ⟨w.heap.size, q + 1, none⟩ = some (.int .u8 (y1 : Int)) ∧ W.cell? ⟨w.heap.size, q + 2, none⟩ = some (.int .u8 (y2 : Int)) ∧ W.cell? ⟨w.heap.size, q + 3, none⟩ = some (.int .u8 (y3 : Int)))
        (first | exact hS.out _ hO.bel.drew | exact hS.out _ (hO.bel.drew.alloc hO.sz _) | exact hS.out _ (Own.bel (by assumption)))
        (first | (refine step_own1 (W := wr.drew) rfl (.tmp 9) (.tmp 35) 42 rfl SW4 rfl hO.drew (u32v (be32 f q)) rfl rfl (by rw [wsV_len]; unfold maxLen; omega) (by rw [wsV_len]; omega) ?_; intro v1 w1 hO1))
      go_wp2
      go_roundw
      case rel => exact ⟨j + 1, by rw [hHq.out]; go_num, by omega, by rw [hHsc.out]; exact hO1⟩
      case measure => simp [intOf]; omega
end Go.Proofs.YtjfiokicnacbfaaDoor
