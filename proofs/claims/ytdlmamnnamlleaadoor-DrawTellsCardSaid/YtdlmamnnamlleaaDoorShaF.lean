/- Contracts of the document's digests: From, Sum. -/
import Derived.Test.YtdlmamnnamlleaaDoorShaB
import Derived.Test.YtdlmamnnamlleaaDoorShaS
namespace Go.Proofs.YtdlmamnnamlleaaDoor
open Go.ChangeShapes Go.WideShapes Go.ChangeAt Go.RowKit
set_option maxHeartbeats 2000000
set_option maxRecDepth 100000
attribute [local go_sem ↓] load_o32 store_o32
attribute [local go_sem] isHead_mk isPart_mk offOf_mk blkOf_mk isAgg_mk cellsV_mk row_drew rowAt_drew row_new_cells row_old rowAt_new rowAt_old setRow_new bs_app
def outT (h : Nat → W32) (t : Nat) : Nat → Nat := fun i => if i < t then outF h i else 0
theorem outT_step (h : Nat → W32) (t : Nat) : arrK .u8 32 (upd (outT h t) t (outF h t)) = arrK .u8 32 (outT h (t + 1)) := by
  refine arrK_congr fun i _ => ?_
  unfold upd outT
  by_cases e : i = t
  · subst e; rw [if_pos rfl, if_pos (by omega)]
  · rw [if_neg e]
    by_cases e2 : i < t
    · rw [if_pos e2, if_pos (by omega)]
    · rw [if_neg e2, if_neg (by omega)]
theorem ref_From (K h : Nat → W32) (g c n : Nat) (p : List UInt8) (w : World) (hn64 : n % 64 = 0) (hh : HsAt w g h) (hc8 : 8 ≤ c) (hcm : c ≤ maxLen) (hp : p.length ≤ 1152921504606846976)
    (hK : ∀ i < 64, w.cell? ⟨0, i, none⟩ = some (u32v (K i))) (hKl : 0 < w.heap.size) :
    Calls Tryd.prog 50 #[.slice (some ⟨g, 0, none⟩) 8 c, .int .u64 n, strV p] w fun e w' => e = .returned (.agg (arrK .u8 32 (dig K h n p))) ∧ Below w.heap.size w w' := by
  have hcz := arrK_cells .u8 32 fun _ => 0
  have hmw : IntKind.u64.wrap ((n : Int) + (p.length : Int)) = (m64 (n + p.length) : Int) := by rw [IntKind.wrap_u64]; unfold m64; omega
  have hpl := padL_length (m64 (n + p.length))
  have hpz := padZ_lt (m64 (n + p.length))
  have hw := pad_whole (k := p.length) hn64
  obtain ⟨N, hN⟩ : ∃ N, N = (p.length + (padL (m64 (n + p.length))).length) / 64 := ⟨_, rfl⟩
  have hdig := Lib.hid (show dig K h n p = outF (blks K N h (p ++ padL (m64 (n + p.length)))) by unfold dig digW; rw [hN])
  have hLl : (p ++ padL (m64 (n + p.length))).length = 64 * N := by rw [List.length_append]; omega
  have hsum : p.length + (padL (m64 (n + p.length))).length ≤ 9223372036854775807 := by omega
  have hNb : 64 * N ≤ 1152921504606847976 := by omega
  have hHLl := Lib.hid hLl
  have hHh := Lib.hid hh
  have hHK := Lib.hid hK
  clear hpl hpz hw hLl hh hK hN
  have hL0 : Below w.heap.size w (w.alloc (Obj.cells (arrK .u8 32 fun _ => 0) 57)) := by go_grown
  have hR0 : Row (w.alloc (Obj.cells (arrK .u8 32 fun _ => 0) 57)) w.heap.size 32 := (row_new rfl).2 hcz.1
  go_enter Tryd.func50, Tryd.ntmps50
  go_wp2_with fail
  rw [zeroB32]
  generalize w.alloc (Obj.cells (arrK .u8 32 fun _ => 0) 57) = W0 at *
  refine (ref_PadText (m64 (n + p.length)) _).mono ?_
  rintro e w1 ⟨rfl, hb1⟩
  have hL1 := below_step hb1 hL0 (Nat.le_refl _)
  have hR1 := row_below hR0 hb1 hR0.lt
  clear hb1 hL0 hR0
  go_wp2_with fail
  generalize p ++ padL (m64 (n + p.length)) = L at *
  clear hmw
  have hHs0 := Lib.hid (hHh.out.below hL1 hHh.out.lt)
  have hLL := hHLl.out
  go_loopw [0, 7] (fun v i wr => ∃ (j gj cj : Nat), i = .int .i64 (64 * (j : Int)) ∧ j ≤ N ∧ v = .slice (some ⟨gj, 0, none⟩) 8 cj ∧ 8 ≤ cj ∧ cj ≤ maxLen ∧ Hid (HsAt wr gj (blks K j h L)) ∧ Row wr w.heap.size 32 ∧ Below w.heap.size w wr) (fun _ i _ => 64 * N - (intOf i).toNat)
  case atStart => exact ⟨0, g, c, rfl, by omega, rfl, hc8, hcm, hHs0, hR1, hL1⟩
  case round =>
    clear hHs0 hR1 hL1 hcm hc8
    obtain ⟨j, gj, cj, rfl, hj, rfl, hc8, hcm, hHs, hR, hL⟩ := hrel
    by_cases hN : j = N
    · subst hN
      have hd : decide (64 * (j : Int) < (L.length : Int)) = false := by simp; omega
      have hco := arrK_cells .u8 32 fun _ => 0
      have hRz : Row (wr.alloc (Obj.cells (arrK .u8 32 fun _ => 0) 57)) wr.heap.size 32 := (row_new rfl).2 hcz.1
      have hRr : rowAt (wr.alloc (Obj.cells (arrK .u8 32 fun _ => 0) 57)) wr.heap.size = arrK .u8 32 (outT (blks K j h L) 0) := (rowAt_new rfl).trans (arrK_congr fun i _ => by simp [outT])
      have hRo : Row (wr.alloc (Obj.cells (arrK .u8 32 fun _ => 0) 57)) w.heap.size 32 := (row_old hR.lt).2 hR
      have hL2 : Below w.heap.size w (wr.alloc (Obj.cells (arrK .u8 32 fun _ => 0) 57)) := hL.alloc hL.size _
      have hH2 := Lib.hid (hHs.out.below (below_alloc wr (Obj.cells (arrK .u8 32 fun _ => 0) 57)) hHs.out.lt)
      have hgj := hHs.out.lt
      have hzs : wr.heap.size < (wr.alloc (Obj.cells (arrK .u8 32 fun _ => 0) 57)).heap.size := by simp
      have hRlt := hR.lt
      go_wp2
      rw [zeroB32]
      clear hHs
      generalize (wr.alloc (Obj.cells (arrK .u8 32 fun _ => 0) 57)) = W2 at *
      generalize wr.heap.size = o at *
      go_loopw [9, 31] (fun _ i wr => ∃ k : Nat, i = .int .i64 k ∧ k ≤ 32 ∧ Row wr o 32 ∧ rowAt wr o = arrK .u8 32 (outT (blks K j h L) k) ∧ Row wr w.heap.size 32 ∧ Hid (HsAt wr gj (blks K j h L)) ∧ Below w.heap.size w wr) (fun _ i _ => 32 - (intOf i).toNat)
      case atStart => exact ⟨0, rfl, by omega, hRz, hRr, hRo, hH2, hL2⟩
      case round =>
        clear hRz hRr hRo hH2 hL2 hR hL
        obtain ⟨k, rfl, hk, hRz, hRr, hRo, hHs, hL⟩ := hrel
        by_cases h32 : k = 32
        · subst h32
          have e : arrK .u8 32 (outT (blks K j h L) 32) = arrK .u8 32 (outF (blks K j h L)) := arrK_congr fun i hi => by unfold outT; rw [if_pos hi]
          have hRr2 := hRr.trans e
          have hcs := arrK_cells .u8 32 (outF (blks K j h L))
          clear e hRr
          go_wp2
          exact ret_stored (p := 6) (ty := 57) (g := w.heap.size) (n := 32) (c := arrK .u8 32 (outF (blks K j h L))) rfl Tryd.underlying57 rfl (by kernel_rfl) rfl hRo hcs.1 rfl ⟨by rw [hdig.out], below_setRow hL (Nat.le_refl _)⟩
        · obtain ⟨q, hq⟩ : ∃ q, q = k / 4 := ⟨_, rfl⟩
          obtain ⟨r, hr⟩ : ∃ r, r = 24 - 8 * (k % 4) := ⟨_, rfl⟩
          have hqi : (k : Int) / 4 = q := by omega
          have hri : 24 - 8 * ((k : Int) % 4) = (r : Int) := by omega
          have hrn : r < 32 := by omega
          have hst := Lib.hid (outT_step (blks K j h L) k)
          have hof : outF (blks K j h L) k = w2n (blks K j h L q) / 2 ^ r % 256 := by unfold outF; rw [← hq, ← hr]
          rw [hof] at hst
          have cq := hHs.out.at_ q (by omega)
          have ck := hRz.cell k
          rw [hRr, arrK_at (by omega)] at ck
          have fk := hRz.frozen k
          have hHr := Lib.hid hRr
          have hq8 : q < 8 := by omega
          have hzr : (0 : Int) ≤ (r : Int) := by omega
          have hne : gj ≠ o := by omega
          have hHq := Lib.hid hq
          have hHrr := Lib.hid hr
          clear hq hr hRr hof
          generalize blks K j h L q = x at *
          go_wp2
          go_round
          case rel =>
            refine ⟨k + 1, by go_num, by omega, row_setCell.2 hRz, ?_, row_setCell.2 hRo, Lib.hid ⟨by simpa using hHs.out.lt, fun i hi => ?_⟩, hL.setCell (p := ⟨o, _, none⟩) (show w.heap.size ≤ o by omega) _⟩
            · rw [rowAt_setCell_same, hHr.out, show ((w2n x : Int) / 2 ^ r % 256) = ((w2n x / 2 ^ r % 256 : Nat) : Int) by simp, arrK_set, hst.out]
            · rw [← hHs.out.at_ i hi]
              exact World.cell?_of_block (w := wr) (Below.heap_setCell wr _ _ gj hne)
          case measure => simp [intOf]; omega
    · have hjN : j < N := by omega
      have hd : decide (64 * (j : Int) < (L.length : Int)) = true := by simp; omega
      have hsl : ∀ W : World, (Instr.slice 9 (strV L) (some (.int .i64 (64 * (j : Int)))) (some (.int .i64 (64 * (j : Int) + 64))) none).run Tryd.prog W = .ok (strV ((L.drop (64 * j)).take 64)) W :=
        str_sl Tryd.underlying9 L _ _ _ (by omega) (by omega) (by omega) (by congr 1; omega)
      have hml : ((L.drop (64 * j)).take 64).length = 64 := by simp; omega
      have hKr := Lib.hid (show ∀ i < 64, wr.cell? ⟨0, i, none⟩ = some (u32v (K i)) from fun i hi => ((bcell hL).1 _ _ hKl).trans (hHK.out i hi))
      have hKlr := Nat.lt_of_lt_of_le hKl hL.size
      have hsn := Lib.hid (blks_snoc K j h L)
      have hcon := Lib.hid (ref_block K (blks K j h L) gj cj ((L.drop (64 * j)).take 64) wr hml hHs.out hKr.out hKlr)
      clear hml hKr hKlr
      generalize (L.drop (64 * j)).take 64 = m at *
      go_wp2_with (go_at_call 78; refine hcon.out.mono ?_; rintro e w' ⟨g2, c2, rfl, hc82, hcm2, hH2, hb2⟩; have hHH := Lib.hid hH2; clear hH2)
      go_round
      case rel => exact ⟨j + 1, g2, c2, by go_num, by omega, rfl, hc82, hcm2, Lib.hid (hsn.out ▸ hHH.out), row_below hR hb2 hR.lt, below_step hb2 hL (Nat.le_refl _)⟩
      case measure => simp [intOf]; omega
theorem ref_Sum (K : Nat → W32) (p : List UInt8) (w : World) (hp : p.length ≤ 1152921504606846976)
    (hK : ∀ i < 64, w.cell? ⟨0, i, none⟩ = some (u32v (K i))) (hKl : 0 < w.heap.size) :
    Calls Tryd.prog 21 #[strV p] w fun e w' => e = .returned (.agg (arrK .u8 32 (dig K iv 0 p))) ∧ Below w.heap.size w w' := by
  have hcz := arrK_cells .u8 32 fun _ => 0
  have hL0 : Below w.heap.size w (w.alloc (Obj.cells (arrK .u8 32 fun _ => 0) 57)) := by go_grown
  have hR0 : Row (w.alloc (Obj.cells (arrK .u8 32 fun _ => 0) 57)) w.heap.size 32 := (row_new rfl).2 hcz.1
  go_enter Tryd.func21, Tryd.ntmps21
  go_wp2_with fail
  rw [zeroB32]
  generalize w.alloc (Obj.cells (arrK .u8 32 fun _ => 0) 57) = W0 at *
  refine (ref_Begin _).mono ?_
  rintro e w1 ⟨g, c, rfl, hc8, hcm, hH, hb1⟩
  have hL1 := below_step hb1 hL0 (Nat.le_refl _)
  have hR1 := row_below hR0 hb1 hR0.lt
  have hHH := Lib.hid hH
  have hK1 := Lib.hid (show ∀ i < 64, w1.cell? ⟨0, i, none⟩ = some (u32v (K i)) from fun i hi => ((bcell hL1).1 _ _ hKl).trans (hK i hi))
  clear hH hb1 hL0 hR0 hK
  go_wp2_with fail
  refine (ref_From K iv g c 0 p _ (by omega) hHH.out hc8 hcm hp hK1.out (Nat.lt_of_lt_of_le hKl hL1.size)).mono ?_
  rintro e w2 ⟨rfl, hb2⟩
  have hL2 := below_step hb2 hL1 (Nat.le_refl _)
  have hR2 := row_below hR1 hb2 hR1.lt
  have hco := arrK_cells .u8 32 (dig K iv 0 p)
  clear hb2 hL1 hR1
  go_wp2
  exact ret_stored (p := 2) (ty := 57) (g := w.heap.size) (n := 32) (c := arrK .u8 32 (dig K iv 0 p)) rfl Tryd.underlying57 rfl (by kernel_rfl) rfl hR2 hco.1 rfl ⟨rfl, below_setRow hL2 (Nat.le_refl _)⟩
end Go.Proofs.YtdlmamnnamlleaaDoor
