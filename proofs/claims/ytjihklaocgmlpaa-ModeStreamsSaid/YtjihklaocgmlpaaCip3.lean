/- Contract of the document's Encrypt. -/
import Derived.Test.YtjihklaocgmlpaaCip2
namespace Go.Proofs.Ytjihklaocgmlpaa
open Go.ChangeShapes Go.WideShapes Go.ChangeAt Go.RowKit
set_option maxHeartbeats 4000000
set_option maxRecDepth 100000
attribute [local go_sem ↓] load_a4 store_a4 execl_a4 execs_a4 load_a16 store_a16 execl_a16 execs_a16 load_g44 store_g44 execl_g44 execs_g44
attribute [local go_sem] isHead_mk blkOf_mk isAgg_mk cellsV_mk row_drew rowAt_drew row_new_cells row_old rowAt_new rowAt_old setRow_new
theorem ref_mixM (s : Nat → Nat) (w : World) (hs : ∀ i < 16, s i < 256) :
    Calls Try.prog 85 #[.agg (arrK .u8 16 (tr s)), .agg #[.int .u8 2, .int .u8 3, .int .u8 1, .int .u8 1]] w fun e w' => e = .returned (.agg (arrK .u8 16 (tr (mixs mixB s)))) ∧ Below w.heap.size w w' := by
  have h := ref_mixed (tr s) mixB w (fun p hp => hs _ (by omega)) mixB_lt
  rw [arrK_congr (mixT_tr mixB s)] at h
  rw [mixB_eq]; exact h
theorem ref_mixU (s : Nat → Nat) (w : World) (hs : ∀ i < 16, s i < 256) :
    Calls Try.prog 85 #[.agg (arrK .u8 16 (tr s)), .agg #[.int .u8 14, .int .u8 11, .int .u8 13, .int .u8 9]] w fun e w' => e = .returned (.agg (arrK .u8 16 (tr (mixs unmixB s)))) ∧ Below w.heap.size w w' := by
  have h := ref_mixed (tr s) unmixB w (fun p hp => hs _ (by omega)) unmixB_lt
  rw [arrK_congr (mixT_tr unmixB s)] at h
  rw [unmixB_eq]; exact h
theorem ref_addT (C gw cap N : Nat) (F : Nat → Nat) (s : Nat → Nat) (r : Nat) (w : World) (hC : CipAt w C gw cap N F) (hr : 4 * r + 4 ≤ N) (hN : N ≤ 60) (hs : ∀ p < 16, s p < 256) (hF : ∀ p, F p < 256) :
    Calls Try.prog 82 #[.pointer (some ⟨C, 0, none⟩), .agg (arrK .u8 16 (tr s)), .int .i64 r] w fun e w' => e = .returned (.agg (arrK .u8 16 (tr (ark F r s)))) ∧ Below w.heap.size w w' :=
  ref_add C gw cap N F (tr s) r w hC hr hN (fun p hp => hs _ (by omega)) hF
theorem ref_ungridT (s : Nat → Nat) (w : World) :
    Calls Try.prog 86 #[.agg (arrK .u8 16 (tr s))] w fun e w' => e = .returned (.agg (arrK .u8 16 s)) ∧ Below w.heap.size w w' := by
  have h := ref_ungrid (tr s) w
  rw [arrK_congr (fun i hi => tr_tr s hi)] at h
  exact h
theorem sbs_tr (S : Nat → Nat) {r k : Nat} (hr : r < 4) (hk : k < 4) : gsub (tr S (r * 4 + (k + r) % 4)) = tr (sbs S) (4 * r + k) := by
  have h1 : r = 0 ∨ r = 1 ∨ r = 2 ∨ r = 3 := by omega
  have h2 : k = 0 ∨ k = 1 ∨ k = 2 ∨ k = 3 := by omega
  rcases h1 with rfl | rfl | rfl | rfl <;> rcases h2 with rfl | rfl | rfl | rfl <;> rfl
theorem ref_Encrypt (b F : Nat → Nat) (C gw cap N R : Nat) (w : World) (hC : CipAt w C gw cap N F) (hN : N = 4 * (R + 1)) (hR : R ≤ 14) (hF : ∀ p, F p < 256) (hb : ∀ i < 16, b i < 256) :
    Calls Try.prog 43 #[.pointer (some ⟨C, 0, none⟩), .agg (arrK .u8 16 b)] w fun e w' => e = .returned (.agg (arrK .u8 16 (encB F R b))) ∧ Below w.heap.size w w' := by
  have T0 : At ((w.alloc (Obj.cells (arrK .u8 16 b) 38)).alloc (Obj.cells (arrK .u8 16 fun _ => 0) 38)) w.heap.size .u8 16 b := (At.new _ rfl).old _
  have O0 : At ((w.alloc (Obj.cells (arrK .u8 16 b) 38)).alloc (Obj.cells (arrK .u8 16 fun _ => 0) 38)) (w.heap.size + 1) .u8 16 fun _ => 0 := At.new _ (by simp)
  have hL0 : Below w.heap.size w ((w.alloc (Obj.cells (arrK .u8 16 b) 38)).alloc (Obj.cells (arrK .u8 16 fun _ => 0) 38)) := by go_grown
  have hbc := arrK_cells .u8 16 b
  have hR0 := T0.row
  have hr0 := T0.eq
  rw [← zeroA16] at hR0 hr0
  have hC1 := hC.ltC
  have hC2 := hC.ltg
  have hHC := Lib.hid hC
  clear hC
  go_enter Try.func43, Try.ntmps43
  go_wp2_with fail
  rw [zeroA16]
  generalize (w.alloc (Obj.cells (arrK .u8 16 b) 38)).alloc (Obj.cells (arrK .u8 16 fun _ => 0) 38) = W0 at *
  clear hR0 hr0
  refine (ref_grid b W0).mono ?_
  rintro e W1 ⟨rfl, hb1⟩
  have O1 := O0.step hb1
  have hL1 := below_step hb1 hL0 (Nat.le_refl _)
  clear T0 O0 hL0 hb1
  go_wp2_with fail
  refine (ref_addT C gw cap N F b 0 W1 (hHC.out.below hL1 hC1 hC2) (by omega) (by omega) hb hF).mono ?_
  rintro e W2 ⟨rfl, hb2⟩
  have O2 := O1.step hb2
  have hL2 := below_step hb2 hL1 (Nat.le_refl _)
  have hac := arrK_cells .u8 16 (tr (ark F 0 b))
  have cells16 := arrK_cells .u8 16 fun _ => 0
  rw [← zeroA16] at cells16
  clear O1 hL1 hb2
  go_wp2_with fail
  have G3 : At (W2.alloc (Obj.cells (arrK .u8 16 (tr (ark F 0 b))) 120)) W2.heap.size .u8 16 (tr (ark F 0 b)) := At.new _ rfl
  have O3 := (O2.old (Obj.cells (arrK .u8 16 (tr (ark F 0 b))) 120)).row
  have hL3 : Below w.heap.size w (W2.alloc (Obj.cells (arrK .u8 16 (tr (ark F 0 b))) 120)) := below_step (below_alloc _ _) hL2 (Nat.le_refl _)
  have hgl : w.heap.size + 1 < W2.heap.size := O2.lt
  generalize W2.alloc (Obj.cells (arrK .u8 16 (tr (ark F 0 b))) 120) = W3 at *
  generalize W2.heap.size = g at *
  clear O2 hL2 hac
  go_loopw [6] (fun x wr => ∃ r : Nat, x = .int .i64 ((r + 1 : Nat) : Int) ∧ r ≤ R ∧ At wr g .u8 16 (tr (encS F R b r)) ∧ Row wr (w.heap.size + 1) 16 ∧ Below w.heap.size w wr) (fun x _ => 16 - (intOf x).toNat)
  case atStart => exact ⟨0, rfl, by omega, G3, O3, hL3⟩
  case round =>
    clear G3 O3 hL3
    obtain ⟨r, rfl, hr, G, O, hL⟩ := hrel
    go_wp2_with fail
    refine (ref_rounds C gw cap N F R wr (hHC.out.below hL hC1 hC2) hN hR).mono ?_
    rintro e w1 ⟨rfl, hb1⟩
    have G1 := G.step hb1
    have O1 := row_below O hb1 O.lt
    have hL1 := below_step hb1 hL (Nat.le_refl _)
    clear G O hL hb1
    by_cases hrR : r = R
    · subst hrR
      have hRg := G1.row
      have hrg := G1.eq
      go_wp2_with fail
      refine (ref_ungridT _ _).mono ?_
      rintro e w2 ⟨rfl, hb2⟩
      have O2 := row_below O1 hb2 O1.lt
      have hL2 := below_step hb2 hL1 (Nat.le_refl _)
      have hsc := arrK_cells .u8 16 (encS F r b r)
      clear G1 O1 hL1 hRg hrg hb2
      go_wp2_with fail
      refine ret_row rfl Try.underlying38 rfl (by kernel_rfl) rfl ((row_setRow_same rfl O2).2 hsc.1) rfl ?_
      rw [rowAt_setRow_same O2]
      exact ⟨rfl, below_setRow hL2 (by omega)⟩
    · have hd : r + 1 ≤ R := by omega
      have hsl := fun i hi => encS_lt (R := R) hF hb r i hi
      obtain ⟨S, hS⟩ : ∃ S, S = encS F R b r := ⟨_, rfl⟩
      rw [← hS] at G1 hsl
      obtain ⟨n, hn⟩ : ∃ n, n = r + 1 := ⟨_, rfl⟩
      rw [← hn] at hd
      rw [← hn]
      have hHn := Lib.hid hn
      have hHS := Lib.hid hS
      clear hn hS
      go_wp2_with fail
      have hz16 := zeroA16
      have H2 : At (w1.alloc (Obj.cells (arrK .u8 16 fun _ => 0) 120)) w1.heap.size .u8 16 fun _ => 0 := At.new _ rfl
      have G2 := G1.old (Obj.cells (arrK .u8 16 fun _ => 0) 120)
      have O2 : Row (w1.alloc (Obj.cells (arrK .u8 16 fun _ => 0) 120)) (w.heap.size + 1) 16 := (row_old O1.lt).2 O1
      have hL2 : Below w.heap.size w (w1.alloc (Obj.cells (arrK .u8 16 fun _ => 0) 120)) := below_step (below_alloc _ _) hL1 (Nat.le_refl _)
      rw [← hz16] at H2 G2 O2 hL2
      have hhl : g < w1.heap.size := G1.row.lt
      generalize w1.alloc (Obj.cells _ 120) = V at *
      generalize w1.heap.size = h at *
      clear G1 O1 hL1 hz16
      go_loopw [20] (fun x wk => ∃ i : Nat, x = .int .i64 i ∧ i ≤ 4 ∧ At wk h .u8 16 (upTo (4 * i) (tr (sbs S)) fun _ => 0) ∧ At wk g .u8 16 (tr S) ∧ Row wk (w.heap.size + 1) 16 ∧ Below w.heap.size w wk) (fun x _ => 4 - (intOf x).toNat)
      case atStart => exact ⟨0, rfl, by omega, by rw [upTo_zero]; exact H2, G2, O2, hL2⟩
      case round =>
        clear H2 G2 O2 hL2
        obtain ⟨i, rfl, hi, H, G, O, hL⟩ := hrel
        by_cases h4 : i = 4
        · subst h4
          have H2 := H.congr (upTo_end _ _)
          clear H
          go_wp2_with fail
          refine (ref_rounds C gw cap N F R wr (hHC.out.below hL hC1 hC2) hN hR).mono ?_
          rintro e w2 ⟨rfl, hb2⟩
          have G2 := G.step hb2
          have H3 := H2.step hb2
          have O2 := row_below O hb2 O.lt
          have hL2 := below_step hb2 hL (Nat.le_refl _)
          have hRh := H3.row
          have hrh := H3.eq
          clear G H2 O hL hb2
          by_cases hnR : n < R
          · go_wp2_with fail
            refine (ref_mixM (sbs S) _ fun i _ => sbs_lt _ i).mono ?_
            rintro e w3 ⟨rfl, hb3⟩
            have G3 := G2.step hb3
            have O3 := row_below O2 hb3 O2.lt
            have hL3 := below_step hb3 hL2 (Nat.le_refl _)
            have hR3 := row_below hRh hb3 hRh.lt
            have hmc := arrK_cells .u8 16 (tr (mixs mixB (sbs S)))
            clear G2 H3 O2 hL2 hb3 hRh hrh
            have G4 : At (w3.setRow h (arrK .u8 16 (tr (mixs mixB (sbs S))))) g .u8 16 (tr S) := G3.far (by omega)
            have O4 : Row (w3.setRow h (arrK .u8 16 (tr (mixs mixB (sbs S))))) (w.heap.size + 1) 16 := (row_setRow_far (by omega)).2 O3
            have hL4 : Below w.heap.size w (w3.setRow h (arrK .u8 16 (tr (mixs mixB (sbs S))))) := below_setRow hL3 (by omega)
            have hR4 : Row (w3.setRow h (arrK .u8 16 (tr (mixs mixB (sbs S))))) h 16 := (row_setRow_same rfl hR3).2 hmc.1
            have hr4 : rowAt (w3.setRow h (arrK .u8 16 (tr (mixs mixB (sbs S))))) h = arrK .u8 16 (tr (mixs mixB (sbs S))) := rowAt_setRow_same hR3
            go_wp2_with fail
            generalize w3.setRow h (arrK .u8 16 (tr (mixs mixB (sbs S)))) = w4 at *
            clear G3 O3 hL3 hR3
            refine (ref_addT C gw cap N F (mixs mixB (sbs S)) n _ (hHC.out.below hL4 hC1 hC2) (by omega) (by omega) (fun p hp => mixs_lt mixB_lt _ _) hF).mono ?_
            rintro e w5 ⟨rfl, hb5⟩
            have G5 := G4.step hb5
            have O5 := row_below O4 hb5 O4.lt
            have hL5 := below_step hb5 hL4 (Nat.le_refl _)
            have hR5 := G5.row
            have hac5 := arrK_cells .u8 16 (tr (ark F n (mixs mixB (sbs S))))
            clear hb5
            clear G4 O4 hL4 hR4 hr4
            go_wp2_with fail
            go_round
            case rel =>
              refine ⟨r + 1, congrArg (Value.int .i64) (by have := hHn.out; omega), by omega, ?_, (row_setRow_far (by omega)).2 O5, below_setRow hL5 (by omega)⟩
              have e : encS F R b (r + 1) = ark F n (mixs mixB (sbs S)) := by
                show ark F (r + 1) (if r + 1 < R then mixs mixB (sbs (encS F R b r)) else sbs (encS F R b r)) = _
                rw [← hHS.out, ← hHn.out, if_pos hnR]
              rw [e]
              exact At.put hR5
            case measure => have := hHn.out; simp [intOf]; omega
          · go_wp2_with fail
            refine (ref_addT C gw cap N F (sbs S) n _ (hHC.out.below hL2 hC1 hC2) (by omega) (by omega) (fun p hp => sbs_lt _ _) hF).mono ?_
            rintro e w5 ⟨rfl, hb5⟩
            have G5 := G2.step hb5
            have O5 := row_below O2 hb5 O2.lt
            have hL5 := below_step hb5 hL2 (Nat.le_refl _)
            have hR5 := G5.row
            have hac5 := arrK_cells .u8 16 (tr (ark F n (sbs S)))
            clear hb5
            clear G2 O2 hL2 H3 hRh hrh
            go_wp2_with fail
            go_round
            case rel =>
              refine ⟨r + 1, congrArg (Value.int .i64) (by have := hHn.out; omega), by omega, ?_, (row_setRow_far (by omega)).2 O5, below_setRow hL5 (by omega)⟩
              have e : encS F R b (r + 1) = ark F n (sbs S) := by
                show ark F (r + 1) (if r + 1 < R then mixs mixB (sbs (encS F R b r)) else sbs (encS F R b r)) = _
                rw [← hHS.out, ← hHn.out, if_neg hnR]
              rw [e]
              exact At.put hR5
            case measure => have := hHn.out; simp [intOf]; omega
        · have hdi : decide ((i : Int) < 4) = true := by simp; omega
          go_wp2_with fail
          go_loopw [23] (fun x wk => ∃ k : Nat, x = .int .i64 k ∧ k ≤ 4 ∧ At wk h .u8 16 (upTo (4 * i + k) (tr (sbs S)) fun _ => 0) ∧ At wk g .u8 16 (tr S) ∧ Row wk (w.heap.size + 1) 16 ∧ Below w.heap.size w wk) (fun x _ => 4 - (intOf x).toNat)
          case atStart => exact ⟨0, rfl, by omega, H, G, O, hL⟩
          case round =>
            clear H G O hL
            obtain ⟨k, rfl, hk, H, G, O, hL⟩ := hrel
            by_cases hk4 : k = 4
            · subst hk4
              go_wp2_with fail
              go_round
              case rel => exact ⟨i + 1, by go_num, by omega, H, G, O, hL⟩
              case measure => simp [intOf]; omega
            · have hdk : decide ((k : Int) < 4) = true := by simp; omega
              have hCr := hHC.out.below hL hC1 hC2
              obtain ⟨m, hm⟩ : ∃ m, m = (k + i) % 4 := ⟨_, rfl⟩
              have c1 := G.cell (i := i * 4 + m) (by omega)
              obtain ⟨v, hv⟩ : ∃ v, v = tr S (i * 4 + m) := ⟨_, rfl⟩
              rw [← hv] at c1
              have hvl : v < 256 := by rw [hv]; exact hsl _ (by omega)
              have hvl2 : (v : Int) < 256 := by omega
              have c2 := hCr.box v hvl
              have c3 := H.cell (i := i * 4 + k) (by omega)
              have c4 := H.row.frozen (i * 4 + k)
              have hnew := Lib.hid (show gsub v = tr (sbs S) (4 * i + k) by rw [hv, hm]; exact sbs_tr S (by omega) (by omega))
              have hw1 : IntKind.i64.wrap ((k : Int) + (i : Int)) = ((k + i : Nat) : Int) := by rw [IntKind.wrap_i64]; omega
              have htm : Int.tmod ((k + i : Nat) : Int) 4 = (m : Int) := by rw [Int.tmod_eq_emod_of_nonneg (by omega)]; omega
              have htm2 : Int.tmod ((k : Int) + (i : Int)) 4 = (m : Int) := by rw [Int.tmod_eq_emod_of_nonneg (by omega)]; omega
              have b1 : (0 : Int) ≤ (m : Int) := by omega
              have b2 : (m : Int) < 4 := by omega
              have b3 : (0 : Int) ≤ (i : Int) := by omega
              have b4 : (i : Int) < 4 := by omega
              have b5 : (0 : Int) ≤ (k : Int) := by omega
              have b6 : (k : Int) < 4 := by omega
              have hH := Lib.hid H
              have hG := Lib.hid G
              clear H G hCr hv hm
              go_wp2_with fail
              go_region
              all_goals
                go_wp2_with fail
                go_round
                case rel =>
                  refine ⟨k + 1, by go_num, by omega, ?_, (hG.out.farC (by simp; omega)).drew, row_setCell.2 O, (hL.setCell (by simp; omega) _).drew⟩
                  have ht := (hH.out.set (i * 4 + k) (gsub v)).drew
                  rw [hnew.out, Nat.mul_comm i 4, upTo_step, ← hnew.out] at ht
                  rw [Nat.mul_comm i 4]
                  exact ht
                case measure => simp [intOf]; omega
end Go.Proofs.Ytjihklaocgmlpaa
