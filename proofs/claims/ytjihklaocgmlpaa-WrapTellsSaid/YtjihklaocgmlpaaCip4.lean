/- Contract of the document's Decrypt. -/
import Derived.Test.YtjihklaocgmlpaaCip3
namespace Go.Proofs.Ytjihklaocgmlpaa
open Go.ChangeShapes Go.WideShapes Go.ChangeAt Go.RowKit
set_option maxHeartbeats 4000000
set_option maxRecDepth 100000
attribute [local go_sem ↓] load_a4 store_a4 execl_a4 execs_a4 load_a16 store_a16 execl_a16 execs_a16 load_g44 store_g44 execl_g44 execs_g44
attribute [local go_sem] isHead_mk blkOf_mk isAgg_mk cellsV_mk row_drew rowAt_drew row_new_cells row_old rowAt_new rowAt_old setRow_new
/-- Place p of rows of columns is written by this step. -/
def ddx (p : Nat) : Nat := 4 * (p / 4) + (p % 4 + 3 * (p / 4)) % 4
def ddTo (i : Nat) (M : Nat → Nat) : Nat → Nat := fun p => if ddx p < i then gunsub (M (ddx p)) else 0
theorem ddx_eq {i k m p : Nat} (hi : i < 4) (hk : k < 4) (hm : m = (k + i) % 4) : ddx p = 4 * i + k ↔ p = i * 4 + m := by
  subst hm
  unfold ddx
  have h1 : i = 0 ∨ i = 1 ∨ i = 2 ∨ i = 3 := by omega
  have h2 : k = 0 ∨ k = 1 ∨ k = 2 ∨ k = 3 := by omega
  rcases h1 with rfl | rfl | rfl | rfl <;> rcases h2 with rfl | rfl | rfl | rfl <;> simp only [Nat.reduceAdd, Nat.reduceMul, Nat.reduceMod, Nat.zero_add, Nat.add_zero] <;> omega
theorem ddTo_step {i k m : Nat} (M : Nat → Nat) (hi : i < 4) (hk : k < 4) (hm : m = (k + i) % 4) : ∀ p < 16, upd (ddTo (4 * i + k) M) (i * 4 + m) (gunsub (M (4 * i + k))) p = ddTo (4 * i + (k + 1)) M p := fun p hp => by
  unfold upd ddTo
  by_cases h : p = i * 4 + m
  · have e : ddx p = 4 * i + k := (ddx_eq hi hk hm).2 h
    rw [if_pos h, e, if_pos (by omega)]
  · have e : ddx p ≠ 4 * i + k := fun e => h ((ddx_eq hi hk hm).1 e)
    rw [if_neg h]
    by_cases h2 : ddx p < 4 * i + k
    · rw [if_pos h2, if_pos (by omega)]
    · rw [if_neg h2, if_neg (by omega)]
theorem ddTo_end (X : Nat → Nat) : ∀ p < 16, ddTo 16 (tr X) p = tr (usb X) p := fun p hp => by
  have h1 : p / 4 = 0 ∨ p / 4 = 1 ∨ p / 4 = 2 ∨ p / 4 = 3 := by omega
  have h2 : p % 4 = 0 ∨ p % 4 = 1 ∨ p % 4 = 2 ∨ p % 4 = 3 := by omega
  unfold ddTo
  rw [if_pos (by unfold ddx; omega)]
  unfold tr usb ddx
  rcases h1 with h1 | h1 | h1 | h1 <;> rcases h2 with h2 | h2 | h2 | h2 <;> rw [h1, h2]
theorem ref_Decrypt (b F : Nat → Nat) (C gw cap N R : Nat) (w : World) (hC : CipAt w C gw cap N F) (hN : N = 4 * (R + 1)) (hR : R ≤ 14) (hF : ∀ p, F p < 256) (hb : ∀ i < 16, b i < 256) :
    Calls Try.prog 45 #[.pointer (some ⟨C, 0, none⟩), .agg (arrK .u8 16 b)] w fun e w' => e = .returned (.agg (arrK .u8 16 (decB F R b))) ∧ Below w.heap.size w w' := by
  have T0 : At ((w.alloc (Obj.cells (arrK .u8 16 b) 38)).alloc (Obj.cells (arrK .u8 16 fun _ => 0) 38)) w.heap.size .u8 16 b := (At.new _ rfl).old _
  have O0 : At ((w.alloc (Obj.cells (arrK .u8 16 b) 38)).alloc (Obj.cells (arrK .u8 16 fun _ => 0) 38)) (w.heap.size + 1) .u8 16 fun _ => 0 := At.new _ (by simp)
  have hL0 : Below w.heap.size w ((w.alloc (Obj.cells (arrK .u8 16 b) 38)).alloc (Obj.cells (arrK .u8 16 fun _ => 0) 38)) := by go_grown
  have hbc := arrK_cells .u8 16 b
  have hR0 := T0.row
  have hr0 := T0.eq
  rw [← zeroA16] at hR0 hr0
  have hC1 := hC.ltC
  have hC2 := hC.ltg
  have hHC := Lib.hid hC
  clear hC
  go_enter Try.func45, Try.ntmps45
  go_wp2_with fail
  rw [zeroA16]
  generalize (w.alloc (Obj.cells (arrK .u8 16 b) 38)).alloc (Obj.cells (arrK .u8 16 fun _ => 0) 38) = W0 at *
  clear hR0 hr0
  refine (ref_grid b W0).mono ?_
  rintro e W2 ⟨rfl, hb2⟩
  have O2 := O0.step hb2
  have hL2 := below_step hb2 hL0 (Nat.le_refl _)
  have hac := arrK_cells .u8 16 (tr b)
  have cells16 := arrK_cells .u8 16 fun _ => 0
  rw [← zeroA16] at cells16
  clear T0 O0 hL0 hb2
  have G3 : At (W2.alloc (Obj.cells (arrK .u8 16 (tr b)) 120)) W2.heap.size .u8 16 (tr b) := At.new _ rfl
  have O3 := (O2.old (Obj.cells (arrK .u8 16 (tr b)) 120)).row
  have hL3 : Below w.heap.size w (W2.alloc (Obj.cells (arrK .u8 16 (tr b)) 120)) := below_step (below_alloc _ _) hL2 (Nat.le_refl _)
  have hgl : w.heap.size + 1 < W2.heap.size := O2.lt
  go_wp2_with fail
  generalize W2.alloc (Obj.cells (arrK .u8 16 (tr b)) 120) = W3 at *
  generalize W2.heap.size = g at *
  clear O2 hL2 hac
  refine (ref_rounds C gw cap N F R W3 (hHC.out.below hL3 hC1 hC2) hN hR).mono ?_
  rintro e W4 ⟨rfl, hb4⟩
  have G4 := G3.step hb4
  have O4 := row_below O3 hb4 O3.lt
  have hL4 := below_step hb4 hL3 (Nat.le_refl _)
  clear G3 O3 hL3 hb4
  go_wp2_with fail
  go_loopw [6] (fun x wr => ∃ c : Nat, x = .int .i64 ((R - c : Nat) : Int) ∧ c ≤ R ∧ At wr g .u8 16 (tr (decS F R b c)) ∧ Row wr (w.heap.size + 1) 16 ∧ Below w.heap.size w wr) (fun x _ => (intOf x).toNat)
  case atStart => exact ⟨0, rfl, by omega, G4, O4, hL4⟩
  case round =>
    clear G4 O4 hL4
    obtain ⟨c, rfl, hc, G, O, hL⟩ := hrel
    have hRg := G.row
    have hrg := G.eq
    have hsl := fun i hi => decS_lt (F := F) (R := R) hb c i hi
    obtain ⟨S, hS⟩ : ∃ S, S = decS F R b c := ⟨_, rfl⟩
    rw [← hS] at G hrg hsl
    obtain ⟨n, hn⟩ : ∃ n, n = R - c := ⟨_, rfl⟩
    rw [← hn]
    have hHn := Lib.hid hn
    have hHS := Lib.hid hS
    have hnb : n ≤ R := by omega
    by_cases hn0 : n = 0
    · subst hn0
      have hfin := Lib.hid (show arrK .u8 16 (ark F 0 S) = arrK .u8 16 (decB F R b) by
        have h1 := hHn.out
        have h2 := hHS.out
        rw [show c = R by omega] at h2
        rw [h2]; rfl)
      clear hn hS
      go_wp2_with fail
      refine (ref_addT C gw cap N F S 0 wr (hHC.out.below hL hC1 hC2) (by omega) (by omega) hsl hF).mono ?_
      rintro e w4 ⟨rfl, hb4⟩
      have O4 := row_below O hb4 O.lt
      have hL4 := below_step hb4 hL (Nat.le_refl _)
      clear G O hL hRg hrg hb4
      go_wp2_with fail
      refine (ref_ungridT _ _).mono ?_
      rintro e w5 ⟨rfl, hb5⟩
      have O5 := row_below O4 hb5 O4.lt
      have hL5 := below_step hb5 hL4 (Nat.le_refl _)
      have hac5 := arrK_cells .u8 16 (ark F 0 S)
      clear O4 hL4 hb5
      go_wp2_with fail
      refine ret_row rfl Try.underlying38 rfl (by kernel_rfl) rfl ((row_setRow_same rfl O5).2 hac5.1) rfl ?_
      rw [rowAt_setRow_same O5, hfin.out]
      exact ⟨rfl, below_setRow hL5 (by omega)⟩
    · have hn1 : 1 ≤ n := by omega
      clear hn hS
      go_wp2_with fail
      refine (ref_addT C gw cap N F S n wr (hHC.out.below hL hC1 hC2) (by omega) (by omega) hsl hF).mono ?_
      rintro e w3 ⟨rfl, hb3⟩
      have G3 := G.step hb3
      have O3 := row_below O hb3 O.lt
      have hL3 := below_step hb3 hL (Nat.le_refl _)
      have hR3 := G3.row
      have hAl := ark_lt hF n hsl
      obtain ⟨A, hA⟩ : ∃ A, A = ark F n S := ⟨_, rfl⟩
      rw [← hA] at hAl
      rw [← hA]
      have hmc := arrK_cells .u8 16 (tr A)
      have hHA := Lib.hid hA
      clear G O hL hb3 hRg hrg hA
      have O4 : Row (w3.setRow g (arrK .u8 16 (tr A))) (w.heap.size + 1) 16 := (row_setRow_far (by omega)).2 O3
      have hL4 : Below w.heap.size w (w3.setRow g (arrK .u8 16 (tr A))) := below_setRow hL3 (by omega)
      have G4 : At (w3.setRow g (arrK .u8 16 (tr A))) g .u8 16 (tr A) := At.put hR3
      clear G3 O3 hL3
      go_wp2_with fail
      generalize w3.setRow g (arrK .u8 16 (tr A)) = w4 at *
      refine (ref_rounds C gw cap N F R w4 (hHC.out.below hL4 hC1 hC2) hN hR).mono ?_
      rintro e w5 ⟨rfl, hb5⟩
      have G5 := G4.step hb5
      have O5 := row_below O4 hb5 O4.lt
      have hL5 := below_step hb5 hL4 (Nat.le_refl _)
      have hR5 := G5.row
      have hr5 := G5.eq
      clear G4 O4 hL4 hb5
      by_cases hnR : n < R
      case' pos =>
        go_wp2_with fail
        refine (ref_mixU A _ hAl).mono ?_
        rintro e w6 ⟨rfl, hb6⟩
        have G6 := G5.step hb6
        have O6 := row_below O5 hb6 O5.lt
        have hL6 := below_step hb6 hL5 (Nat.le_refl _)
        have hR6 := G6.row
        have hmlt : ∀ i < 16, mixs unmixB A i < 256 := fun i _ => mixs_lt unmixB_lt _ _
        obtain ⟨M, hM⟩ : ∃ M, M = mixs unmixB A := ⟨_, rfl⟩
        rw [← hM] at hmlt
        rw [← hM]
        have hHM := Lib.hid (show M = if n < R then mixs unmixB A else A by rw [hM, if_pos hnR])
        clear G5 O5 hL5 hb6 hR5 hr5 hM hmc hAl
        have hmc := arrK_cells .u8 16 (tr M)
        have O7 : Row (w6.setRow g (arrK .u8 16 (tr M))) (w.heap.size + 1) 16 := (row_setRow_far (by omega)).2 O6
        have hL7 : Below w.heap.size w (w6.setRow g (arrK .u8 16 (tr M))) := below_setRow hL6 (by omega)
        have G7 : At (w6.setRow g (arrK .u8 16 (tr M))) g .u8 16 (tr M) := At.put hR6
        clear G6 O6 hL6
        go_wp2_with fail
        have hXs : (w6.setRow g (arrK .u8 16 (tr M))).heap.size = w6.heap.size := by simp
        generalize w6.setRow g (arrK .u8 16 (tr M)) = X at *
        generalize w6.heap.size = h at *
      case' neg =>
        have hmlt := hAl
        go_wp2_with fail
        have G7 := G5
        have O7 := O5
        have hL7 := hL5
        clear G5 O5 hL5 hR5 hr5
        have hXs : w5.heap.size = w5.heap.size := rfl
        generalize hh : w5.heap.size = h at *
        have hXs := hh
        clear hh
        generalize w5 = X at *
        obtain ⟨M, hM⟩ : ∃ M, M = A := ⟨_, rfl⟩
        rw [← hM] at G7 hmlt
        have hHM := Lib.hid (show M = if n < R then mixs unmixB A else A by rw [hM, if_neg hnR])
        clear hM hmc
        have hmc := arrK_cells .u8 16 (tr M)
      all_goals
        have hz16 := zeroA16
        have hhl : g < h := by rw [← hXs]; exact G7.row.lt
        have H0 : At (X.alloc (Obj.cells (arrK .u8 16 fun _ => 0) 120)) h .u8 16 fun _ => 0 := At.new _ hXs.symm
        have G1 := G7.old (Obj.cells (arrK .u8 16 fun _ => 0) 120)
        have O1 : Row (X.alloc (Obj.cells (arrK .u8 16 fun _ => 0) 120)) (w.heap.size + 1) 16 := (row_old O7.lt).2 O7
        have hL1 : Below w.heap.size w (X.alloc (Obj.cells (arrK .u8 16 fun _ => 0) 120)) := below_step (below_alloc _ _) hL7 (Nat.le_refl _)
        rw [← hz16] at H0 G1 O1 hL1
        generalize X.alloc (Obj.cells _ 120) = V at *
        clear G7 O7 hL7 hXs hz16
        go_loopw [29] (fun x wk => ∃ i : Nat, x = .int .i64 i ∧ i ≤ 4 ∧ At wk h .u8 16 (ddTo (4 * i) (tr M)) ∧ At wk g .u8 16 (tr M) ∧ Row wk (w.heap.size + 1) 16 ∧ Below w.heap.size w wk) (fun x _ => 4 - (intOf x).toNat)
        case atStart => exact ⟨0, rfl, by omega, H0.congr fun p _ => by simp [ddTo], G1, O1, hL1⟩
        case round =>
          clear H0 G1 O1 hL1
          obtain ⟨i, rfl, hi, H, G, O, hL⟩ := hrel
          by_cases h4 : i = 4
          · subst h4
            have H2 := H.congr (ddTo_end M)
            have hRh := H2.row
            have hrh := H2.eq
            have hsc := arrK_cells .u8 16 (tr (usb M))
            have hRg := G.row
            clear H H2 G
            go_wp2_with fail
            go_round
            case rel =>
              have h1 := hHn.out
              refine ⟨c + 1, congrArg (Value.int .i64) (by omega), by omega, ?_, (row_setRow_far (by omega)).2 O, below_setRow hL (by omega)⟩
              have e : decS F R b (c + 1) = usb M := by
                show usb (if R - c < R then mixs unmixB (ark F (R - c) (decS F R b c)) else ark F (R - c) (decS F R b c)) = _
                rw [← hHS.out, ← h1, ← hHA.out, ← hHM.out]
              rw [e]
              exact At.put hRg
            case measure => have h1 := hHn.out; simp [intOf]; omega
          · have hdi : decide ((i : Int) < 4) = true := by simp; omega
            go_wp2_with fail
            go_loopw [32] (fun x wk => ∃ k : Nat, x = .int .i64 k ∧ k ≤ 4 ∧ At wk h .u8 16 (ddTo (4 * i + k) (tr M)) ∧ At wk g .u8 16 (tr M) ∧ Row wk (w.heap.size + 1) 16 ∧ Below w.heap.size w wk) (fun x _ => 4 - (intOf x).toNat)
            case atStart => exact ⟨0, rfl, by omega, H, G, O, hL⟩
            case round =>
              clear H G O hL
              obtain ⟨k, rfl, hk, H, G, O, hL⟩ := hrel
              by_cases hk4 : k = 4
              · subst hk4
                go_wp2_with fail
                go_round
                case rel => exact ⟨i + 1, by go_num, by omega, H, G, O, hL⟩
                case measure => simp [intOf]; omega
              · have hdk : decide ((k : Int) < 4) = true := by simp; omega
                have hCr := hHC.out.below hL hC1 hC2
                obtain ⟨m, hm⟩ : ∃ m, m = (k + i) % 4 := ⟨_, rfl⟩
                have hst := Lib.hid (ddTo_step (tr M) (i := i) (k := k) (by omega) (by omega) hm)
                have c1 := G.cell (i := i * 4 + k) (by omega)
                obtain ⟨v, hv⟩ : ∃ v, v = tr M (i * 4 + k) := ⟨_, rfl⟩
                rw [← hv] at c1
                have hvl : v < 256 := by rw [hv]; exact hmlt _ (by omega)
                have hvl2 : (v : Int) < 256 := by omega
                have c2 := hCr.unb v hvl
                have c3 := H.cell (i := i * 4 + m) (by omega)
                have c4 := H.row.frozen (i * 4 + m)
                have hHv := Lib.hid hv
                have hw1 : IntKind.i64.wrap ((k : Int) + (i : Int)) = ((k + i : Nat) : Int) := by rw [IntKind.wrap_i64]; omega
                have htm : Int.tmod ((k + i : Nat) : Int) 4 = (m : Int) := by rw [Int.tmod_eq_emod_of_nonneg (by omega)]; omega
                have htm2 : Int.tmod ((k : Int) + (i : Int)) 4 = (m : Int) := by rw [Int.tmod_eq_emod_of_nonneg (by omega)]; omega
                have b1 : (0 : Int) ≤ (m : Int) := by omega
                have b2 : (m : Int) < 4 := by omega
                have b3 : (0 : Int) ≤ (i : Int) := by omega
                have b4 : (i : Int) < 4 := by omega
                have b5 : (0 : Int) ≤ (k : Int) := by omega
                have b6 : (k : Int) < 4 := by omega
                have hH := Lib.hid H
                have hG := Lib.hid G
                clear H G hCr hv hm
                go_wp2_with fail
                go_region
                all_goals
                  go_wp2_with fail
                  go_round
                  case rel =>
                    refine ⟨k + 1, by go_num, by omega, ?_, (hG.out.farC (by simp; omega)).drew, row_setCell.2 O, (hL.setCell (by simp; omega) _).drew⟩
                    refine ((hH.out.set (i * 4 + m) (gunsub v)).drew).congr fun p hp => ?_
                    rw [hHv.out, Nat.mul_comm i 4]
                    have hq := hst.out p hp
                    rw [Nat.mul_comm i 4] at hq
                    exact hq
                  case measure => simp [intOf]; omega
end Go.Proofs.Ytjihklaocgmlpaa
