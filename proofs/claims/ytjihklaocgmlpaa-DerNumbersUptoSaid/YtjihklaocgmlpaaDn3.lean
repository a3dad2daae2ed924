/- Contract of der.ReadNumber. -/
import Derived.Test.YtjihklaocgmlpaaDn2
import Derived.Test.YtjihklaocgmlpaaRet2
import Derived.Deep.DeepCutAuto
namespace Go.Proofs.Ytjihklaocgmlpaa
open Go.ChangeShapes Go.WideShapes Go.ChangeAt Go.RowKit
set_option maxHeartbeats 2000000
set_option maxRecDepth 100000
attribute [local go_sem ↓] load_n4 store_n4 load_b32 store_b32
attribute [local go_sem] isHead_mk blkOf_mk isAgg_mk cellsV_mk row_drew rowAt_drew row_new_cells row_old rowAt_new rowAt_old setRow_new zero32 zeroNum
theorem rd_cells {w W : World} {A : Option Addr} {b : List UInt8} (h : Rd w w.heap.size A (bytesV b)) (hb : Below w.heap.size w W) {i : Nat} {x : UInt8} (hx : b[i]? = some x) : ∃ ad, A = some ad ∧ W.cell? (ad.add i) = some (.int .u8 (x.toNat : Nat)) := by
  obtain ⟨ad, e, hl, hc⟩ := h i (.int .u8 (x.toNat : Nat)) (by rw [bytesV, List.getElem?_map, hx]; rfl)
  exact ⟨ad, e, (hb.cell (p := ad.add i) (by rw [addr_block]; exact hl)).trans hc⟩
theorem add_0 (ad : Addr) : ad.add 0 = ad := by unfold Addr.add; simp
/-- The kinds of bytes that are no number. -/
theorem rnum_form {b : List UInt8} (h0 : b.length ≠ 0) (h : 128 ≤ (b[0]?.getD 0).toNat ∨ (1 < b.length ∧ (b[0]?.getD 0).toNat = 0 ∧ (b[1]?.getD 0).toNat < 128)) : rnum b = (0, 4) := by unfold rnum; rw [if_neg h0, if_pos h]
theorem rnum_large {b : List UInt8} (h0 : b.length ≠ 0) (h : ¬ (128 ≤ (b[0]?.getD 0).toNat ∨ (1 < b.length ∧ (b[0]?.getD 0).toNat = 0 ∧ (b[1]?.getD 0).toNat < 128))) (h2 : 33 < b.length ∨ (b.length = 33 ∧ (b[0]?.getD 0).toNat ≠ 0)) : rnum b = (0, 2) := by unfold rnum; rw [if_neg h0, if_neg h, if_pos h2]
theorem rnum_ok {b : List UInt8} (h0 : b.length ≠ 0) (h : ¬ (128 ≤ (b[0]?.getD 0).toNat ∨ (1 < b.length ∧ (b[0]?.getD 0).toNat = 0 ∧ (b[1]?.getD 0).toNat < 128))) (h2 : ¬ (33 < b.length ∨ (b.length = 33 ∧ (b[0]?.getD 0).toNat ≠ 0))) : rnum b = (beW b, 0) := by unfold rnum; rw [if_neg h0, if_neg h, if_neg h2]
set_option maxHeartbeats 8000000 in
theorem der_ReadNumber (A : Option Addr) (b : List UInt8) (n c : Nat) (w : World) (hb : Rd w w.heap.size A (bytesV b)) (hn : b.length = n) (hnc : n ≤ c) :
    Calls Try.prog 10 #[.slice A n c] w fun e w' => e = .returned (.tuple #[.agg (arrK .u64 4 (wd (rnum b).1)), .int .i64 (rnum b).2]) ∧ Below w.heap.size w w' := by
  have hcz := arrK_cells .u64 4 (wd 0)
  have hL0 := below_alloc w (Obj.cells (arrK .u64 4 (wd 0)) 24)
  have hR0 : Row (w.alloc (Obj.cells (arrK .u64 4 (wd 0)) 24)) w.heap.size 4 := (row_new rfl).2 hcz.1
  have hrd := Lib.hid hb
  have hHn := Lib.hid hn
  clear hb
  by_cases h0 : n = 0
  · have hr : rnum b = (0, 3) := by unfold rnum; rw [if_pos (by omega)]
    rw [hr]
    subst h0
    clear hn hr
    go_enter Try.func10, Try.ntmps10
    go_upto_region 1 with (fail)
    generalize w.alloc (Obj.cells (arrK .u64 4 (wd 0)) 24) = W0 at *
    go_wp2_with fail
    exact ret_stored2 (p := 2) (q := 3) (ty := 24) (g := w.heap.size) (n := 4) (c := arrK .u64 4 (wd 0)) rfl Try.underlying24 rfl (by kernel_rfl) rfl hR0 hcz.1 rfl ⟨rfl, below_setRow hL0 (Nat.le_refl _)⟩
  obtain ⟨x0, hx0⟩ : ∃ x, b[0]? = some x := ⟨_, List.getElem?_eq_getElem (by omega)⟩
  obtain ⟨ad, rfl, c0⟩ := rd_cells hrd.out hL0 hx0
  rw [add_0] at c0
  obtain ⟨y0, hy0⟩ : ∃ y, (b[0]?.getD 0).toNat = y := ⟨_, rfl⟩
  obtain ⟨y1, hy1⟩ : ∃ y, (b[1]?.getD 0).toNat = y := ⟨_, rfl⟩
  have hy0l : y0 < 256 := by rw [← hy0]; exact UInt8.toNat_lt _
  have hy1l : y1 < 256 := by rw [← hy1]; exact UInt8.toNat_lt _
  have e0 : x0.toNat = y0 := by rw [← hy0, hx0]; rfl
  rw [e0] at c0
  have c1 : 1 < n → (w.alloc (Obj.cells (arrK .u64 4 (wd 0)) 24)).cell? (ad.add 1) = some (.int .u8 (y1 : Nat)) := fun h1 => by
    obtain ⟨x1, hx1⟩ : ∃ x, b[1]? = some x := ⟨_, List.getElem?_eq_getElem (by omega)⟩
    obtain ⟨ad', e, c⟩ := rd_cells hrd.out hL0 hx1
    injection e with e
    subst e
    rw [c, show x1.toNat = y1 by rw [← hy1, hx1]; rfl]
  have hHc := Lib.hid c1
  have hne : b.length ≠ 0 := by omega
  have h33 : n = 33 → y0 = 0 → b[0]? = some 0 := fun _ h => by rw [hx0]; congr 1; exact UInt8.toNat_inj.1 (by rw [e0, h]; rfl)
  have hrF := Lib.hid (@rnum_form b hne)
  have hrL := Lib.hid (@rnum_large b hne)
  have hrO := Lib.hid (@rnum_ok b hne)
  rw [hy0, hy1, hn] at hrF
  rw [hy0, hy1, hn] at hrL
  rw [hy0, hy1, hn] at hrO
  have hH33 := Lib.hid h33
  have hbv := Lib.hid (@bval_be b)
  have hbl := Lib.hid (@beW_lt b)
  obtain ⟨rn, hrn⟩ : ∃ rn, rnum b = rn := ⟨_, rfl⟩
  rw [hrn] at hrF hrL hrO ⊢
  clear hn c1 hx0 hy0 hy1 e0 h33 hrn hne
  have dn0 : ((n : Int) == 0) = false := by simp; omega
  have hnp : (0 : Int) < (n : Int) := by omega
  go_enter Try.func10, Try.ntmps10
  go_upto_region 3 with (fail)
  generalize w.alloc (Obj.cells (arrK .u64 4 (wd 0)) 24) = W0 at *
  go_cut [13] (fun v wx => v = .bool (decide (128 ≤ y0 ∨ (1 < n ∧ y0 = 0 ∧ y1 < 128))) ∧ wx = W0)
  case first =>
    by_cases hx : 128 ≤ y0
    · have pf := Lib.hid (decide_eq_true (p := 128 ≤ y0 ∨ (1 < n ∧ y0 = 0 ∧ y1 < 128)) (Or.inl hx))
      have d1 : decide ((128 : Int) ≤ (y0 : Int)) = true := by simp; omega
      clear hx
      go_wp2_with fail
      go_meet
      exact ⟨congrArg Value.bool pf.out.symm, rfl⟩
    have d1 : decide ((128 : Int) ≤ (y0 : Int)) = false := by simp; omega
    by_cases hz : y0 = 0
    · subst hz
      by_cases h1 : 1 < n
      · have d2 : decide ((1 : Int) < (n : Int)) = true := by simp; omega
        have h1i : (1 : Int) < (n : Int) := by omega
        have cc : W0.cell? ⟨ad.block, ad.off + 1, none⟩ = some (.int .u8 (y1 : Nat)) := hHc.out h1
        by_cases h2 : y1 < 128
        · have pf := Lib.hid (decide_eq_true (p := 128 ≤ 0 ∨ (1 < n ∧ 0 = 0 ∧ y1 < 128)) (Or.inr ⟨h1, rfl, h2⟩))
          have d3 : decide ((y1 : Int) < (128 : Int)) = true := by simp; omega
          clear h2 h1
          rw [show ((0 : Nat) : Int) = (0 : Int) from rfl] at c0
          go_wp2_with fail
          go_meet
          exact ⟨congrArg Value.bool pf.out.symm, rfl⟩
        · have pf := Lib.hid (decide_eq_false (p := 128 ≤ 0 ∨ (1 < n ∧ 0 = 0 ∧ y1 < 128)) (by omega))
          have d3 : decide ((y1 : Int) < (128 : Int)) = false := by simp; omega
          clear h2 h1
          rw [show ((0 : Nat) : Int) = (0 : Int) from rfl] at c0
          go_wp2_with fail
          go_meet
          exact ⟨congrArg Value.bool pf.out.symm, rfl⟩
      · have pf := Lib.hid (decide_eq_false (p := 128 ≤ 0 ∨ (1 < n ∧ 0 = 0 ∧ y1 < 128)) (by omega))
        have d2 : decide ((1 : Int) < (n : Int)) = false := by simp; omega
        clear h1
        rw [show ((0 : Nat) : Int) = (0 : Int) from rfl] at c0
        go_wp2_with fail
        go_meet
        exact ⟨congrArg Value.bool pf.out.symm, rfl⟩
    · have pf := Lib.hid (decide_eq_false (p := 128 ≤ y0 ∨ (1 < n ∧ y0 = 0 ∧ y1 < 128)) (by omega))
      have d2 : ((y0 : Int) == 0) = false := by simp; omega
      clear hx hz
      go_wp2_with fail
      go_meet
      exact ⟨congrArg Value.bool pf.out.symm, rfl⟩
  case rest =>
    obtain ⟨rfl, rfl⟩ := hcut
    by_cases hF : 128 ≤ y0 ∨ (1 < n ∧ y0 = 0 ∧ y1 < 128)
    · rw [decide_eq_true hF]
      obtain rfl := hrF.out hF
      clear hF hrF hrL hrO hHc
      go_wp2_with fail
      exact ret_stored2 (p := 2) (q := 3) (ty := 24) (g := w.heap.size) (n := 4) (c := arrK .u64 4 (wd 0)) rfl Try.underlying24 rfl (by kernel_rfl) rfl hR0 hcz.1 rfl ⟨rfl, below_setRow hL0 (Nat.le_refl _)⟩
    · rw [decide_eq_false hF]
      have hL := Lib.hid (hrL.out hF)
      have hO := Lib.hid (hrO.out hF)
      clear hF hrF hrL hrO hHc
      by_cases h33 : 33 < n
      · have d1 : decide ((33 : Int) < (n : Int)) = true := by simp; omega
        obtain rfl := hL.out (Or.inl h33)
        clear hL hO
        go_wp2_with fail
        exact ret_stored2 (p := 2) (q := 3) (ty := 24) (g := w.heap.size) (n := 4) (c := arrK .u64 4 (wd 0)) rfl Try.underlying24 rfl (by kernel_rfl) rfl hR0 hcz.1 rfl ⟨rfl, below_setRow hL0 (Nat.le_refl _)⟩
      have d1 : decide ((33 : Int) < (n : Int)) = false := by simp; omega
      by_cases h3 : n = 33 ∧ y0 ≠ 0
      · obtain rfl := hL.out (Or.inr h3)
        obtain ⟨rfl, hy⟩ := h3
        have d2 : decide ((0 : Int) < (y0 : Int)) = true := by simp; omega
        clear hL hO
        go_wp2_with fail
        exact ret_stored2 (p := 2) (q := 3) (ty := 24) (g := w.heap.size) (n := 4) (c := arrK .u64 4 (wd 0)) rfl Try.underlying24 rfl (by kernel_rfl) rfl hR0 hcz.1 rfl ⟨rfl, below_setRow hL0 (Nat.le_refl _)⟩
      obtain rfl := hO.out (by omega)
      have hval := Lib.hid (hbv.out (by rcases Nat.lt_or_ge n 33 with h | h; exact .inl (by have := hHn.out; omega); exact .inr ⟨by have := hHn.out; omega, hH33.out (by omega) (by omega)⟩))
      clear hL hO hbv hH33
      go_upto_region 5 with (fail)
      go_cut [36] (fun v wx => v = .bool false ∧ wx = wc)
      case first =>
        by_cases e3 : n = 33
        · have e4 : y0 = 0 := by omega
          subst e3 e4
          rw [show ((0 : Nat) : Int) = (0 : Int) from rfl] at c0
          go_wp2_with fail
          go_meet
          exact ⟨rfl, rfl⟩
        · have d2 : ((n : Int) == 33) = false := by simp; omega
          go_wp2_with fail
          go_meet
          exact ⟨rfl, rfl⟩
      case rest =>
        obtain ⟨rfl, rfl⟩ := hcut
        clear c0
        have hcz2 := arrK_cells .u8 32 fun _ => 0
        have hL1 := below_step (below_alloc wc (Obj.cells (arrK .u8 32 fun _ => 0) 88)) hL0 (Nat.le_refl _)
        have hD0 : At (wc.alloc (Obj.cells (arrK .u8 32 fun _ => 0) 88)) wc.heap.size .u8 32 (fun _ => 0) := At.new _ rfl
        have hR1 := row_below hR0 (below_alloc wc (Obj.cells (arrK .u8 32 fun _ => 0) 88)) hR0.lt
        have hlt : w.heap.size < wc.heap.size := hR0.lt
        go_wp2_with fail
        generalize wc.alloc (Obj.cells (arrK .u8 32 fun _ => 0) 88) = W1 at *
        generalize wc.heap.size = D at *
        have hA0 := Lib.hid (show At W1 D .u8 32 (fun k => if n ≤ k + 0 then fromEnd b k else 0) from hD0.congr fun k _ => by
          show 0 = if n ≤ k + 0 then fromEnd b k else 0
          by_cases hk : n ≤ k + 0
          · rw [if_pos hk]
            unfold fromEnd
            rw [if_neg (by have := hHn.out; omega)]
          · rw [if_neg hk])
        have hB0 := Lib.hid hL1
        have hRr := Lib.hid hR1
        clear hL0 hR0 hL1 hR1 hD0 hcz2
        go_loopw [54] (fun vi wr => ∃ (i : Nat), vi = .int .i64 (i : Nat) ∧ i ≤ n ∧ Hid (At wr D .u8 32 (fun k => if n ≤ k + i then fromEnd b k else 0)) ∧ Hid (Row wr w.heap.size 4) ∧ Hid (Below w.heap.size w wr)) (fun vi _ => n - (intOf vi).toNat)
        case atStart => exact ⟨0, rfl, by omega, hA0, hRr, hB0⟩
        case round =>
          obtain ⟨i, rfl, hi, hA, hR, hL⟩ := hrel
          clear hA0 hRr hB0
          by_cases hc : i < n
          · have e1 : decide ((i : Int) < (n : Int)) = true := by simp; omega
            have z1 : (0 : Int) ≤ (i : Int) := by omega
            have z2 : (i : Int) < (n : Int) := by omega
            obtain ⟨x, hx⟩ : ∃ x, b[i]? = some x := ⟨_, List.getElem?_eq_getElem (by have := hHn.out; omega)⟩
            obtain ⟨ad', e, cx⟩ := rd_cells hrd.out hL.out hx
            injection e with e
            subst e
            have w1 : IntKind.i64.wrap ((n : Int) - 1) = (n : Int) - 1 := by rw [IntKind.wrap_i64]; omega
            obtain ⟨k, hk⟩ : ∃ k, n - 1 - i = k := ⟨_, rfl⟩
            have w2 : IntKind.i64.wrap ((n : Int) - 1 - (i : Int)) = (k : Int) := by rw [IntKind.wrap_i64]; omega
            have w3 : IntKind.i64.wrap ((i : Int) + 1) = (i : Int) + 1 := by rw [IntKind.wrap_i64]; omega
            have z3 : (0 : Int) ≤ (k : Int) := by omega
            have hfe : fromEnd b k = x.toNat := by
              unfold fromEnd
              rw [if_pos (by have := hHn.out; omega), show b.length - 1 - k = i by have := hHn.out; omega, hx]; rfl
            have hHf := Lib.hid hfe
            have hHk := Lib.hid hk
            have hxl := UInt8.toNat_lt x
            clear hfe hx hk
            by_cases h32 : k < 32
            · have e2 : decide ((k : Int) < (32 : Int)) = true := by simp; omega
              have z4 : (k : Int) < 32 := by omega
              have c5 := hA.out.cell (i := k) h32
              have f5 := hA.out.row.frozen k
              go_wp2_with fail
              go_roundw
              case rel => exact ⟨i + 1, rfl, by omega, Lib.hid ((hA.out.set k x.toNat).congr fun p hp => by
                  unfold upd
                  have := hHk.out
                  show (if p = k then x.toNat else if n ≤ p + i then fromEnd b p else 0) = if n ≤ p + (i + 1) then fromEnd b p else 0
                  by_cases hp2 : p = k
                  · rw [if_pos hp2, if_pos (by omega), hp2, hHf.out]
                  · rw [if_neg hp2]
                    by_cases hp3 : n ≤ p + i
                    · rw [if_pos hp3, if_pos (by omega)]
                    · rw [if_neg hp3, if_neg (by omega)]), Lib.hid (row_setCell.2 hR.out), Lib.hid (hL.out.setCell (by simp; omega) _)⟩
              case measure => simp [intOf]; omega
            · have e2 : decide ((k : Int) < (32 : Int)) = false := by simp; omega
              go_wp2_with fail
              go_roundw
              case rel => exact ⟨i + 1, rfl, by omega, Lib.hid (hA.out.congr fun p hp => by
                  have := hHk.out
                  show (if n ≤ p + i then fromEnd b p else 0) = if n ≤ p + (i + 1) then fromEnd b p else 0
                  by_cases hp3 : n ≤ p + i
                  · rw [if_pos hp3, if_pos (by omega)]
                  · rw [if_neg hp3, if_neg (by omega)]), hR, hL⟩
              case measure => simp [intOf]; omega
          · have e1 : decide ((i : Int) < (n : Int)) = false := by simp; omega
            have hA2 : At wr D .u8 32 (fromEnd b) := hA.out.congr fun p hp => if_pos (by omega)
            have r1 := hA2.row
            have r2 := hA2.eq
            have hf : ∀ i < 32, fromEnd b i < 256 := fun i _ => by unfold fromEnd; split; exact UInt8.toNat_lt _; omega
            have hOf := Lib.hid (limb_Of (fromEnd b) wr hf)
            rw [hval.out] at hOf
            unfold numV at hOf
            have hcr := arrK_cells .u64 4 (wd (beW b))
            clear hA hA2 hf
            go_wp2_with fail
            refine hOf.out.mono ?_
            rintro e w5 ⟨rfl, hb5⟩
            have hR5 := row_below hR.out hb5 hR.out.lt
            have hL5 := below_step hb5 hL.out (Nat.le_refl _)
            clear hb5 hOf r1 r2
            go_wp2_with fail
            exact ret_stored2 (p := 2) (q := 3) (ty := 24) (g := w.heap.size) (n := 4) (c := arrK .u64 4 (wd (beW b))) rfl Try.underlying24 rfl (by kernel_rfl) rfl hR5 hcr.1 rfl ⟨rfl, below_setRow hL5 (Nat.le_refl _)⟩
end Go.Proofs.Ytjihklaocgmlpaa
