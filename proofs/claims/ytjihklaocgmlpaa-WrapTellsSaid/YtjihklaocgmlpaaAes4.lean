/- Contracts of package aes: Decrypt. -/
import Derived.Test.YtjihklaocgmlpaaAes2
namespace Go.Proofs.Ytjihklaocgmlpaa
open Go.ChangeShapes Go.WideShapes Go.ChangeAt Go.RowKit
set_option maxHeartbeats 4000000
set_option maxRecDepth 100000
attribute [local go_sem ↓] load_a4 store_a4 execl_a4 execs_a4 load_a16 store_a16 execl_a16 execs_a16 load_akey store_akey execl_akey execs_akey
attribute [local go_sem] isHead_mk blkOf_mk isAgg_mk cellsV_mk row_drew rowAt_drew row_new_cells row_old rowAt_new rowAt_old setRow_new

theorem gf_UnsubC (a : Nat) (w : World) (ha : a < 256) : Calls Try.prog 88 #[.int .u8 a] w fun e w' => e = .returned (.int .u8 (gunsub a : Nat)) ∧ w = w' := gf_Unsub a w ha
/-- The first i bytes put back. -/
def unTo (i : Nat) (t : Nat → Nat) : Nat → Nat := fun p => if (p + 12 * (p % 4)) % 16 < i then gunsub (t ((p + 12 * (p % 4)) % 16)) else 0
theorem unTo_step {i m : Nat} (t : Nat → Nat) (hi : i < 16) (hm : m = (i + i % 4 * 4) % 16) : ∀ p < 16, upd (unTo i t) m (gunsub (t i)) p = unTo (i + 1) t p := fun p hp => by
  unfold upd unTo
  by_cases h : p = m
  · have e : (p + 12 * (p % 4)) % 16 = i := by omega
    rw [if_pos h, e, if_pos (by omega)]
  · have e : (p + 12 * (p % 4)) % 16 ≠ i := by omega
    rw [if_neg h]
    by_cases h2 : (p + 12 * (p % 4)) % 16 < i
    · rw [if_pos h2, if_pos (by omega)]
    · rw [if_neg h2, if_neg (by omega)]
theorem unTo_end (t : Nat → Nat) : ∀ p < 16, unTo 16 t p = usb t p := fun p _ => if_pos (by omega)
theorem aes_Decrypt (b F : Nat → Nat) (R : Nat) (w : World) (hF : ∀ p, F p < 256) (hb : ∀ i < 16, b i < 256) (hR : R ≤ 14) :
    Calls Try.prog 44 #[.agg (keyV F R), .agg (arrK .u8 16 b)] w fun e w' => e = .returned (.agg (arrK .u8 16 (decB F R b))) ∧ Below w.heap.size w w' := by
  have K0 : KeyAt (((w.alloc (Obj.cells (keyV F R) 42)).alloc (Obj.cells (arrK .u8 16 b) 38)).alloc (Obj.cells (arrK .u8 16 fun _ => 0) 38)) w.heap.size F R := ((KeyAt.new _ rfl).old _).old _
  have T0 : At (((w.alloc (Obj.cells (keyV F R) 42)).alloc (Obj.cells (arrK .u8 16 b) 38)).alloc (Obj.cells (arrK .u8 16 fun _ => 0) 38)) (w.heap.size + 1) .u8 16 b := (At.new _ (by simp)).old _
  have O0 : At (((w.alloc (Obj.cells (keyV F R) 42)).alloc (Obj.cells (arrK .u8 16 b) 38)).alloc (Obj.cells (arrK .u8 16 fun _ => 0) 38)) (w.heap.size + 1 + 1) .u8 16 fun _ => 0 := At.new _ (by simp)
  have hL0 : Below w.heap.size w (((w.alloc (Obj.cells (keyV F R) 42)).alloc (Obj.cells (arrK .u8 16 b) 38)).alloc (Obj.cells (arrK .u8 16 fun _ => 0) 38)) := by go_grown
  have hkc := keyV_cells F R
  have hbc := arrK_cells .u8 16 b
  have hR0 := K0.rounds
  rw [← zeroA16] at hR0
  go_enter Try.func44, Try.ntmps44
  go_wp2_with fail
  rw [zeroA16]
  generalize (((w.alloc (Obj.cells (keyV F R) 42)).alloc (Obj.cells (arrK .u8 16 b) 38)).alloc (Obj.cells (arrK .u8 16 fun _ => 0) 38)) = W0 at *
  clear hR0
  go_loopw [5] (fun x wr => ∃ c : Nat, x = .int .i64 ((R - c : Nat) : Int) ∧ c ≤ R ∧ KeyAt wr w.heap.size F R ∧ At wr (w.heap.size + 1) .u8 16 (decS F R b c) ∧ Row wr (w.heap.size + 1 + 1) 16 ∧ Below w.heap.size w wr) (fun x _ => (intOf x).toNat)
  case atStart => exact ⟨0, rfl, by omega, K0, T0, O0.row, hL0⟩
  case round =>
    clear K0 T0 O0 hL0
    obtain ⟨c, rfl, hc, K, T, O, hL⟩ := hrel
    have hcR := K.rounds
    have hRt := T.row
    have hrt := T.eq
    have hsl := fun i hi => decS_lt (F := F) (R := R) hb c i hi
    obtain ⟨S, hS⟩ : ∃ S, S = decS F R b c := ⟨_, rfl⟩
    rw [← hS] at T hrt hsl
    obtain ⟨n, hn⟩ : ∃ n, n = R - c := ⟨_, rfl⟩
    rw [← hn]
    have hHn := Lib.hid hn
    have hHS := Lib.hid hS
    have hnb : n ≤ R := by omega
    by_cases hn0 : n = 0
    · subst hn0
      clear hn hS
      go_wp2_with fail
      refine (aes_by S F _ R 0 wr K hF hsl (by omega)).mono ?_
      rintro e w5 ⟨rfl, hb5⟩
      have O5 := row_below O hb5 O.lt
      have hL5 := below_step hb5 hL (Nat.le_refl _)
      have hac5 := arrK_cells .u8 16 (ark F 0 S)
      have hfin := Lib.hid (show arrK .u8 16 (ark F 0 S) = arrK .u8 16 (decB F R b) by
        have h1 := hHn.out
        have h2 := hHS.out
        rw [show c = R by omega] at h2
        rw [h2]; rfl)
      clear hb5 K T hRt hrt hcR
      go_wp2_with fail
      refine ret_row rfl Try.underlying38 rfl (by kernel_rfl) rfl ((row_setRow_same rfl O5).2 hac5.1) rfl ?_
      rw [rowAt_setRow_same O5, hfin.out]
      exact ⟨rfl, below_setRow hL5 (by omega)⟩
    · have hn1 : 1 ≤ n := by omega
      clear hn hS
      go_wp2_with fail
      refine (aes_by S F _ R n wr K hF hsl (by omega)).mono ?_
      rintro e w3 ⟨rfl, hb3⟩
      have K3 := K.step hb3
      have T3 := T.step hb3
      have O3 := row_below O hb3 O.lt
      have hL3 := below_step hb3 hL (Nat.le_refl _)
      have hR3 := T3.row
      have hmc := arrK_cells .u8 16 (ark F n S)
      have hAl := ark_lt hF n hsl
      obtain ⟨A, hA⟩ : ∃ A, A = ark F n S := ⟨_, rfl⟩
      rw [← hA] at hmc hAl
      rw [← hA]
      have hHA := Lib.hid hA
      clear K T O hL hb3 hcR hRt hrt hA
      have K4 : KeyAt (w3.setRow (w.heap.size + 1) (arrK .u8 16 A)) w.heap.size F R := K3.far (by omega)
      have O4 : Row (w3.setRow (w.heap.size + 1) (arrK .u8 16 A)) (w.heap.size + 1 + 1) 16 := (row_setRow_far (by omega)).2 O3
      have hL4 : Below w.heap.size w (w3.setRow (w.heap.size + 1) (arrK .u8 16 A)) := below_setRow hL3 (by omega)
      have T4 : At (w3.setRow (w.heap.size + 1) (arrK .u8 16 A)) (w.heap.size + 1) .u8 16 A := At.put hR3
      have hR4 := T4.row
      have hr4 := T4.eq
      have hc4 := K4.rounds
      clear K3 T3 O3 hL3
      by_cases hnR : n < R
      case' pos =>
        have hmix := aes_eachU A (w3.setRow (w.heap.size + 1) (arrK .u8 16 A)) hAl
        go_wp2_with fail
        generalize w3.setRow (w.heap.size + 1) (arrK .u8 16 A) = w4 at *
        refine hmix.mono ?_
        rintro e w5 ⟨rfl, hb5⟩
        have K5 := K4.step hb5
        have T5 := T4.step hb5
        have O5 := row_below O4 hb5 O4.lt
        have hL5 := below_step hb5 hL4 (Nat.le_refl _)
        have hR5 := T5.row
        have hmlt : ∀ i < 16, mixs unmixB A i < 256 := fun i _ => mixs_lt unmixB_lt _ _
        obtain ⟨M, hM⟩ : ∃ M, M = mixs unmixB A := ⟨_, rfl⟩
        rw [← hM] at hmlt
        rw [← hM]
        have hHM := Lib.hid (show M = if n < R then mixs unmixB A else A by rw [hM, if_pos hnR])
        clear K4 T4 O4 hL4 hb5 hR4 hr4 hc4 hmix hM hmc hAl
        have hmc := arrK_cells .u8 16 M
        have K6 : KeyAt (w5.setRow (w.heap.size + 1) (arrK .u8 16 M)) w.heap.size F R := K5.far (by omega)
        have O6 : Row (w5.setRow (w.heap.size + 1) (arrK .u8 16 M)) (w.heap.size + 1 + 1) 16 := (row_setRow_far (by omega)).2 O5
        have hL6 : Below w.heap.size w (w5.setRow (w.heap.size + 1) (arrK .u8 16 M)) := below_setRow hL5 (by omega)
        have T6 : At (w5.setRow (w.heap.size + 1) (arrK .u8 16 M)) (w.heap.size + 1) .u8 16 M := At.put hR5
        clear K5 T5 O5 hL5
        go_wp2_with fail
        have hXs : (w5.setRow (w.heap.size + 1) (arrK .u8 16 M)).heap.size = w5.heap.size := by simp
        generalize w5.setRow (w.heap.size + 1) (arrK .u8 16 M) = X at *
        generalize w5.heap.size = g at *
      case' neg =>
        have hmlt := hAl
        go_wp2_with fail
        have K6 := K4
        have O6 := O4
        have hL6 := hL4
        have T6 := T4
        clear K4 T4 O4 hL4 hR4 hr4 hc4
        have hXs : (w3.setRow (w.heap.size + 1) (arrK .u8 16 A)).heap.size = w3.heap.size := by simp
        generalize w3.setRow (w.heap.size + 1) (arrK .u8 16 A) = X at *
        generalize w3.heap.size = g at *
        obtain ⟨M, hM⟩ : ∃ M, M = A := ⟨_, rfl⟩
        rw [← hM] at T6 hmlt
        have hHM := Lib.hid (show M = if n < R then mixs unmixB A else A by rw [hM, if_neg hnR])
        clear hM hmc
        have hmc := arrK_cells .u8 16 M
      all_goals
        have hz16 := zeroA16
        have hgl : w.heap.size + 1 + 1 < g := by rw [← hXs]; exact O6.lt
        have G0 : At (X.alloc (Obj.cells (arrK .u8 16 fun _ => 0) 38)) g .u8 16 fun _ => 0 := At.new _ hXs.symm
        have K1 := K6.old (Obj.cells (arrK .u8 16 fun _ => 0) 38)
        have T1 := T6.old (Obj.cells (arrK .u8 16 fun _ => 0) 38)
        have O1 : Row (X.alloc (Obj.cells (arrK .u8 16 fun _ => 0) 38)) (w.heap.size + 1 + 1) 16 := (row_old O6.lt).2 O6
        have hL1 : Below w.heap.size w (X.alloc (Obj.cells (arrK .u8 16 fun _ => 0) 38)) := below_step (below_alloc _ _) hL6 (Nat.le_refl _)
        rw [← hz16] at G0 K1 T1 O1 hL1
        generalize X.alloc (Obj.cells _ 38) = V at *
        clear K6 T6 O6 hL6 hXs hz16
        go_loopw [23] (fun x wk => ∃ i : Nat, x = .int .i64 i ∧ i ≤ 16 ∧ At wk g .u8 16 (unTo i M) ∧ KeyAt wk w.heap.size F R ∧ At wk (w.heap.size + 1) .u8 16 M ∧ Row wk (w.heap.size + 1 + 1) 16 ∧ Below w.heap.size w wk) (fun x _ => 16 - (intOf x).toNat)
        case atStart => exact ⟨0, rfl, by omega, G0.congr fun i _ => by simp [unTo], K1, T1, O1, hL1⟩
        case round =>
          clear G0 K1 T1 O1 hL1
          obtain ⟨i, rfl, hi, G, K, T, O, hL⟩ := hrel
          by_cases h16 : i = 16
          · subst h16
            have G2 := G.congr (unTo_end M)
            have hRg := G2.row
            have hrg := G2.eq
            have hsc := arrK_cells .u8 16 (usb M)
            have hRt := T.row
            clear G G2 T
            go_wp2_with fail
            go_round
            case rel =>
              have h1 := hHn.out
              refine ⟨c + 1, congrArg (Value.int .i64) (by omega), by omega, K.far (by omega), ?_, (row_setRow_far (by omega)).2 O, below_setRow hL (by omega)⟩
              have e : decS F R b (c + 1) = usb M := by
                show usb (if R - c < R then mixs unmixB (ark F (R - c) (decS F R b c)) else ark F (R - c) (decS F R b c)) = _
                rw [← hHS.out, ← h1, ← hHA.out, ← hHM.out]
              rw [e]
              exact At.put hRt
            case measure => have h1 := hHn.out; simp [intOf]; omega
          · have hdi : decide ((i : Int) < 16) = true := by simp; omega
            obtain ⟨m, hm⟩ : ∃ m, m = (i + i % 4 * 4) % 16 := ⟨_, rfl⟩
            have hst := Lib.hid (unTo_step M (by omega) hm)
            obtain ⟨q, hq⟩ : ∃ q, q = i % 4 := ⟨_, rfl⟩
            have htm : Int.tmod (i : Int) 4 = (q : Int) := by rw [Int.tmod_eq_emod_of_nonneg (by omega)]; omega
            obtain ⟨p4, hp4⟩ : ∃ p4, p4 = q * 4 := ⟨_, rfl⟩
            obtain ⟨j, hj⟩ : ∃ j, j = i + p4 := ⟨_, rfl⟩
            have hw1 : wrap64 ((q : Int) * 4) = (p4 : Int) := by unfold wrap64; omega
            have hw2 : wrap64 ((i : Int) + (p4 : Int)) = (j : Int) := by unfold wrap64; omega
            have htm2 : Int.tmod (j : Int) 16 = (m : Int) := by rw [Int.tmod_eq_emod_of_nonneg (by omega)]; omega
            have hm16 : (m : Int) < 16 := by omega
            have hm0 : (0 : Int) ≤ (m : Int) := by omega
            have hc1 := T.cell (i := i) (by omega)
            have hc2 := G.cell (i := m) (by omega)
            have hfr := G.row.frozen m
            have hsm := hmlt i (by omega)
            have hGh := Lib.hid G
            have hTh := Lib.hid T
            clear G T hm hq hj hp4
            go_wp2_with fail
            refine (gf_UnsubC _ _ hsm).mono ?_
            rintro e w' ⟨rfl, rfl⟩
            go_wp2_with fail
            go_round
            case rel => exact ⟨i + 1, by go_num, by omega, (hGh.out.set m _).congr hst.out, K.farC (by simp; omega), hTh.out.farC (by simp; omega), row_setCell.2 O, hL.setCell (by simp; omega) _⟩
            case measure => simp [intOf]; omega
end Go.Proofs.Ytjihklaocgmlpaa
