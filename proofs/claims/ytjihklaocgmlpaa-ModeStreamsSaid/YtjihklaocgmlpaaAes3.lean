/- Contracts of package aes: Encrypt. -/
import Derived.Test.YtjihklaocgmlpaaAes2
namespace Go.Proofs.Ytjihklaocgmlpaa
open Go.ChangeShapes Go.WideShapes Go.ChangeAt Go.RowKit
set_option maxHeartbeats 4000000
set_option maxRecDepth 100000
attribute [local go_sem ↓] load_a4 store_a4 execl_a4 execs_a4 load_a16 store_a16 execl_a16 execs_a16 load_akey store_akey execl_akey execs_akey
attribute [local go_sem] isHead_mk blkOf_mk isAgg_mk cellsV_mk row_drew rowAt_drew row_new_cells row_old rowAt_new rowAt_old setRow_new

theorem aes_Encrypt (b F : Nat → Nat) (R : Nat) (w : World) (hF : ∀ p, F p < 256) (hb : ∀ i < 16, b i < 256) (hR : R ≤ 14) :
    Calls Try.prog 42 #[.agg (keyV F R), .agg (arrK .u8 16 b)] w fun e w' => e = .returned (.agg (arrK .u8 16 (encB F R b))) ∧ Below w.heap.size w w' := by
  have K0 : KeyAt (((w.alloc (Obj.cells (keyV F R) 42)).alloc (Obj.cells (arrK .u8 16 b) 38)).alloc (Obj.cells (arrK .u8 16 fun _ => 0) 38)) w.heap.size F R := ((KeyAt.new _ rfl).old _).old _
  have T0 : At (((w.alloc (Obj.cells (keyV F R) 42)).alloc (Obj.cells (arrK .u8 16 b) 38)).alloc (Obj.cells (arrK .u8 16 fun _ => 0) 38)) (w.heap.size + 1) .u8 16 b := (At.new _ (by simp)).old _
  have O0 : At (((w.alloc (Obj.cells (keyV F R) 42)).alloc (Obj.cells (arrK .u8 16 b) 38)).alloc (Obj.cells (arrK .u8 16 fun _ => 0) 38)) (w.heap.size + 1 + 1) .u8 16 fun _ => 0 := At.new _ (by simp)
  have hL0 : Below w.heap.size w (((w.alloc (Obj.cells (keyV F R) 42)).alloc (Obj.cells (arrK .u8 16 b) 38)).alloc (Obj.cells (arrK .u8 16 fun _ => 0) 38)) := by go_grown
  have hkc := keyV_cells F R
  have hbc := arrK_cells .u8 16 b
  have hR0 := T0.row
  have hr0 := T0.eq
  rw [← zeroA16] at hR0 hr0
  go_enter Try.func42, Try.ntmps42
  go_wp2_with fail
  rw [zeroA16]
  generalize (((w.alloc (Obj.cells (keyV F R) 42)).alloc (Obj.cells (arrK .u8 16 b) 38)).alloc (Obj.cells (arrK .u8 16 fun _ => 0) 38)) = W0 at *
  refine (aes_by b F _ R 0 W0 K0 hF hb (by omega)).mono ?_
  rintro e W1 ⟨rfl, hb1⟩
  have K1 := K0.step hb1
  have T1 := T0.step hb1
  have O1 := O0.step hb1
  have hL1 := below_step hb1 hL0 (Nat.le_refl _)
  have hR1 := T1.row
  have hac := arrK_cells .u8 16 (ark F 0 b)
  clear K0 T0 O0 hL0 hb1 hR0 hr0
  go_wp2_with fail
  have K2 : KeyAt (W1.setRow (w.heap.size + 1) (arrK .u8 16 (ark F 0 b))) w.heap.size F R := K1.far (by omega)
  have T2 : At (W1.setRow (w.heap.size + 1) (arrK .u8 16 (ark F 0 b))) (w.heap.size + 1) .u8 16 (ark F 0 b) := At.put T1.row
  have O2 : Row (W1.setRow (w.heap.size + 1) (arrK .u8 16 (ark F 0 b))) (w.heap.size + 1 + 1) 16 := (row_setRow_far (by omega)).2 O1.row
  have hL2 : Below w.heap.size w (W1.setRow (w.heap.size + 1) (arrK .u8 16 (ark F 0 b))) := below_setRow hL1 (by omega)
  generalize W1.setRow (w.heap.size + 1) (arrK .u8 16 (ark F 0 b)) = W2 at *
  clear K1 T1 O1 hL1 hR1
  go_loopw [5] (fun x wr => ∃ r : Nat, x = .int .i64 ((r + 1 : Nat) : Int) ∧ r ≤ R ∧ KeyAt wr w.heap.size F R ∧ At wr (w.heap.size + 1) .u8 16 (encS F R b r) ∧ Row wr (w.heap.size + 1 + 1) 16 ∧ Below w.heap.size w wr) (fun x _ => 16 - (intOf x).toNat)
  case atStart => exact ⟨0, rfl, by omega, K2, T2, O2, hL2⟩
  case round =>
    clear K2 T2 O2 hL2
    obtain ⟨r, rfl, hr, K, T, O, hL⟩ := hrel
    have hcR := K.rounds
    have hRt := T.row
    have hrt := T.eq
    by_cases hrR : r = R
    · subst hrR
      have hd : decide (((r + 1 : Nat) : Int) ≤ (r : Int)) = false := by simp; omega
      have hcs := arrK_cells .u8 16 (encS F r b r)
      clear K T
      go_wp2_with fail
      refine ret_row rfl Try.underlying38 rfl (by kernel_rfl) rfl ((row_setRow_same rfl O).2 hcs.1) rfl ?_
      rw [rowAt_setRow_same O]
      exact ⟨rfl, below_setRow hL (by omega)⟩
    · have hd : r + 1 ≤ R := by omega
      have hsl := fun i hi => encS_lt (R := R) hF hb r i hi
      obtain ⟨S, hS⟩ : ∃ S, S = encS F R b r := ⟨_, rfl⟩
      rw [← hS] at T hrt hsl
      obtain ⟨n, hn⟩ : ∃ n, n = r + 1 := ⟨_, rfl⟩
      rw [← hn] at hd
      rw [← hn]
      have hHn := Lib.hid hn
      have hHS := Lib.hid hS
      clear hn hS
      go_wp2_with fail
      have hz16 := zeroA16
      have G0 : At (wr.alloc (Obj.cells (arrK .u8 16 fun _ => 0) 38)) wr.heap.size .u8 16 fun _ => 0 := At.new _ rfl
      have K1 := K.old (Obj.cells (arrK .u8 16 fun _ => 0) 38)
      have T1 := T.old (Obj.cells (arrK .u8 16 fun _ => 0) 38)
      have O1 : Row (wr.alloc (Obj.cells (arrK .u8 16 fun _ => 0) 38)) (w.heap.size + 1 + 1) 16 := (row_old O.lt).2 O
      have hL1 : Below w.heap.size w (wr.alloc (Obj.cells (arrK .u8 16 fun _ => 0) 38)) := below_step (below_alloc _ _) hL (Nat.le_refl _)
      rw [← hz16] at G0 K1 T1 O1 hL1
      have hgl : w.heap.size + 1 + 1 < wr.heap.size := O.lt
      generalize wr.alloc (Obj.cells _ 38) = V at *
      generalize wr.heap.size = g at *
      clear K T O hL hcR hRt hrt hz16
      go_loopw [16] (fun x wk => ∃ i : Nat, x = .int .i64 i ∧ i ≤ 16 ∧ At wk g .u8 16 (upTo i (sbs S) fun _ => 0) ∧ KeyAt wk w.heap.size F R ∧ At wk (w.heap.size + 1) .u8 16 S ∧ Row wk (w.heap.size + 1 + 1) 16 ∧ Below w.heap.size w wk) (fun x _ => 16 - (intOf x).toNat)
      case atStart => exact ⟨0, rfl, by omega, by rw [upTo_zero]; exact G0, K1, T1, O1, hL1⟩
      case round =>
        clear G0 K1 T1 O1 hL1
        obtain ⟨i, rfl, hi, G, K, T, O, hL⟩ := hrel
        by_cases h16 : i = 16
        · subst h16
          have hcR := K.rounds
          have hRg := G.row
          have hrg := G.eq
          have hsc := arrK_cells .u8 16 (sbs S)
          rw [arrK_congr (upTo_end _ _)] at hrg
          have hGs : At wr g .u8 16 (sbs S) := ⟨hRg, hrg⟩
          clear G
          by_cases hnR : n < R
          · have hmix := aes_eachM (sbs S) wr fun i _ => sbs_lt _ i
            go_wp2_with fail
            refine hmix.mono ?_
            rintro e w3 ⟨rfl, hb3⟩
            have K3 := K.step hb3
            have T3 := T.step hb3
            have O3 := row_below O hb3 O.lt
            have hL3 := below_step hb3 hL (Nat.le_refl _)
            have hR3 := hGs.row
            have hR3 := row_below hR3 hb3 hR3.lt
            have hmc := arrK_cells .u8 16 (mixs mixB (sbs S))
            clear K T O hL hb3 hcR hRg hrg hGs hmix
            have K4 : KeyAt (w3.setRow g (arrK .u8 16 (mixs mixB (sbs S)))) w.heap.size F R := K3.far (by omega)
            have T4 : At (w3.setRow g (arrK .u8 16 (mixs mixB (sbs S)))) (w.heap.size + 1) .u8 16 S := T3.far (by omega)
            have O4 : Row (w3.setRow g (arrK .u8 16 (mixs mixB (sbs S)))) (w.heap.size + 1 + 1) 16 := (row_setRow_far (by omega)).2 O3
            have hL4 : Below w.heap.size w (w3.setRow g (arrK .u8 16 (mixs mixB (sbs S)))) := below_setRow hL3 (by omega)
            have hR4 : Row (w3.setRow g (arrK .u8 16 (mixs mixB (sbs S)))) g 16 := (row_setRow_same rfl hR3).2 hmc.1
            have hr4 : rowAt (w3.setRow g (arrK .u8 16 (mixs mixB (sbs S)))) g = arrK .u8 16 (mixs mixB (sbs S)) := rowAt_setRow_same hR3
            go_wp2_with fail
            generalize w3.setRow g (arrK .u8 16 (mixs mixB (sbs S))) = w4 at *
            clear K3 T3 O3 hL3 hR3
            refine (aes_by (mixs mixB (sbs S)) F _ R n _ K4 hF (fun i _ => mixs_lt mixB_lt _ _) (by omega)).mono ?_
            rintro e w5 ⟨rfl, hb5⟩
            have K5 := K4.step hb5
            have T5 := T4.step hb5
            have O5 := row_below O4 hb5 O4.lt
            have hL5 := below_step hb5 hL4 (Nat.le_refl _)
            have hR5 := T5.row
            have hac5 := arrK_cells .u8 16 (ark F n (mixs mixB (sbs S)))
            clear hb5
            clear K4 T4 O4 hL4 hR4 hr4
            go_wp2_with fail
            go_round
            case rel =>
              refine ⟨r + 1, congrArg (Value.int .i64) (by have := hHn.out; omega), by omega, K5.far (by omega), ?_, (row_setRow_far (by omega)).2 O5, below_setRow hL5 (by omega)⟩
              have e : encS F R b (r + 1) = ark F n (mixs mixB (sbs S)) := by
                show ark F (r + 1) (if r + 1 < R then mixs mixB (sbs (encS F R b r)) else sbs (encS F R b r)) = _
                rw [← hHS.out, ← hHn.out, if_pos hnR]
              rw [e]
              exact At.put hR5
            case measure => have := hHn.out; simp [intOf]; omega
          · go_wp2_with fail
            refine (aes_by (sbs S) F _ R n _ K hF (fun i _ => sbs_lt _ _) (by omega)).mono ?_
            rintro e w5 ⟨rfl, hb5⟩
            have K5 := K.step hb5
            have T5 := T.step hb5
            have O5 := row_below O hb5 O.lt
            have hL5 := below_step hb5 hL (Nat.le_refl _)
            have hR5 := T5.row
            have hac5 := arrK_cells .u8 16 (ark F n (sbs S))
            clear hb5
            clear K T O hL hcR hRg hrg hGs
            go_wp2_with fail
            go_round
            case rel =>
              refine ⟨r + 1, congrArg (Value.int .i64) (by have := hHn.out; omega), by omega, K5.far (by omega), ?_, (row_setRow_far (by omega)).2 O5, below_setRow hL5 (by omega)⟩
              have e : encS F R b (r + 1) = ark F n (sbs S) := by
                show ark F (r + 1) (if r + 1 < R then mixs mixB (sbs (encS F R b r)) else sbs (encS F R b r)) = _
                rw [← hHS.out, ← hHn.out, if_neg hnR]
              rw [e]
              exact At.put hR5
            case measure => have := hHn.out; simp [intOf]; omega
        · have hdi : decide ((i : Int) < 16) = true := by simp; omega
          obtain ⟨m, hm⟩ : ∃ m, m = (i + i % 4 * 4) % 16 := ⟨_, rfl⟩
          obtain ⟨q, hq⟩ : ∃ q, q = i % 4 := ⟨_, rfl⟩
          have htm : Int.tmod (i : Int) 4 = (q : Int) := by rw [Int.tmod_eq_emod_of_nonneg (by omega)]; omega
          obtain ⟨p4, hp4⟩ : ∃ p4, p4 = q * 4 := ⟨_, rfl⟩
          obtain ⟨j, hj⟩ : ∃ j, j = i + p4 := ⟨_, rfl⟩
          have hw1 : wrap64 ((q : Int) * 4) = (p4 : Int) := by unfold wrap64; omega
          have hw2 : wrap64 ((i : Int) + (p4 : Int)) = (j : Int) := by unfold wrap64; omega
          have htm2 : Int.tmod (j : Int) 16 = (m : Int) := by rw [Int.tmod_eq_emod_of_nonneg (by omega)]; omega
          have hm16 : (m : Int) < 16 := by omega
          have hm0 : (0 : Int) ≤ (m : Int) := by omega
          have hc1 := T.cell (i := m) (by omega)
          have hc2 := G.cell (i := i) (by omega)
          have hfr := G.row.frozen i
          have hsm := hsl m (by omega)
          have hval := Lib.hid (show gsub (S m) = sbs S i by rw [hm]; rfl)
          have hGh := Lib.hid G
          have hTh := Lib.hid T
          clear G T hm hq hj hp4
          go_wp2_with fail
          refine (gf_SubC _ _ hsm).mono ?_
          rintro e w' ⟨rfl, rfl⟩
          rw [hval.out]
          go_wp2_with fail
          go_round
          case rel => exact ⟨i + 1, by go_num, by omega, by rw [← upTo_step]; exact hGh.out.set i _, K.farC (by simp; omega), hTh.out.farC (by simp; omega), row_setCell.2 O, hL.setCell (by simp; omega) _⟩
          case measure => simp [intOf]; omega
end Go.Proofs.Ytjihklaocgmlpaa
