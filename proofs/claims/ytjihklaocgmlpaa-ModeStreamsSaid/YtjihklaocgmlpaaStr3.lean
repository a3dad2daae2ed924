/- Contract of the document's Streamed. -/
import Derived.Test.YtjihklaocgmlpaaStr1
import Derived.Test.YtjihklaocgmlpaaMode3
import Derived.Test.YtjihklaocgmlpaaNum5
import Derived.Test.YtjihklaocgmlpaaTail
namespace Go.Proofs.Ytjihklaocgmlpaa
open Go.ChangeShapes Go.WideShapes Go.ChangeAt Go.RowKit
set_option maxHeartbeats 4000000
set_option maxRecDepth 100000
attribute [local go_sem ↓] load_a16 store_a16 execl_a16 execs_a16
attribute [local go_sem] isHead_mk blkOf_mk isAgg_mk cellsV_mk row_drew rowAt_drew row_new_cells row_old rowAt_new rowAt_old setRow_new bs_join bs_size

def SRel.one (x : Nat) : SRel := ⟨fun v w => ∃ g, v = .slice (some ⟨g, 0, none⟩) 1 1 ∧ Rd w w.heap.size (some ⟨g, 0, none⟩) (bytesV [UInt8.ofNat x]), fun _ _ _ hb ⟨g, h1, h2⟩ => ⟨g, h1, (h2.below hb).more hb.size⟩⟩
theorem one_new {w : World} {x : Nat} (hx : x < 256) : Rd (w.alloc (.cells #[.int .u8 (x : Nat)] 5)) (w.alloc (.cells #[.int .u8 (x : Nat)] 5)).heap.size (some ⟨w.heap.size, 0, none⟩) (bytesV [UInt8.ofNat x]) := by
  have h1 : bytesV [UInt8.ofNat x] = (#[.int .u8 (x : Nat)] : Array Value).toList := by
    simp [bytesV, u8v]; omega
  rw [h1]
  exact Rd.of_blk (push_new _ _) (by simp)
theorem conv_rd1 {w : World} {A : Option Addr} {x : Nat} (h : Rd w w.heap.size A (bytesV [UInt8.ofNat x])) : (convert 25 9 (.slice A 1 1)).run Try.prog w = .ok (.string ⟨[UInt8.ofNat x].toArray⟩) w :=
  conv_rd Try.underlying25 Try.underlying5 Try.underlying9 (c := 1) h
theorem digitN {v : Value} {m : Nat} (w : World) (hv : IsN w v m) (hm : m < 65536) : Calls Try.prog 62 #[v, .int .i64 0] w fun e w' => e = .returned (.int .i64 (m : Nat)) ∧ w = w' := by
  obtain ⟨A, l, c, rfl, hD, hG⟩ := hv
  have h := ref_digit A l c 0 w hD
  have e : digZ l 0 = m := by
    have h2 := hG.val
    cases l with
    | nil => exact h2
    | cons d r =>
      have h3 : d + 65536 * val r = m := h2
      have h4 : digZ (d :: r) 0 = d := rfl
      rw [h4]; omega
  rw [e] at h
  exact h
theorem digits1 (q : Nat) (w : World) (t : TypeId) (hq : q < 18446744073709551616) : Calls Try.prog 71 #[.slice (some ⟨w.heap.size, 0, none⟩) 1 1] (w.alloc (.cells #[.int .u64 (q : Nat)] t)) (RetN q (w.alloc (.cells #[.int .u64 (q : Nat)] t))) := by
  have h := ref_Digits (some ⟨w.heap.size, 0, none⟩) 1 1 (fun _ => q) (w.alloc (.cells #[.int .u64 (q : Nat)] t)) (Rd.of_blk (cs := #[.int .u64 (q : Nat)]) (push_new _ _) (by simp)) (by omega) (by omega) (by omega) (fun _ _ => hq)
  have e : wval (fun _ => q) 1 = q := by simp [wval]
  rw [e] at h
  exact h
theorem mod_byte (X k d : Nat) : X % 256 ^ (k + (d + 1)) / 256 ^ k % 256 = X / 256 ^ k % 256 := by
  rw [Nat.pow_add, Nat.mod_mul_right_div_self, Nat.pow_succ, Nat.mul_comm]
  exact Nat.mod_mul_right_mod _ _ _
/-- A number stays where a byte is stored into a row of bytes. -/
theorem IsN.setU8 {w : World} {v : Value} {n g m i : Nat} {f : Nat → Nat} (h : IsN w v n) (B : At w g .u8 m f) (u : Value) : IsN (w.setCell ⟨g, i, none⟩ u) v n := by
  obtain ⟨A, l, c, e, hD, hG⟩ := h
  refine ⟨A, l, c, e, ⟨fun j x hx => ?_, hD.sm, hD.le, hD.mx⟩, hG⟩
  obtain ⟨ad, e1, hl, hc⟩ := hD.rd j x hx
  refine ⟨ad, e1, by simpa using hl, ?_⟩
  rw [← hc]
  refine World.cell?_setCell_other w ⟨g, i, none⟩ (ad.add j) u fun e2 => ?_
  have hx2 : ∃ d : Nat, x = .int .i64 (d : Nat) := by
    unfold digV at hx
    rw [List.getElem?_map] at hx
    cases h3 : l[j]? with
    | none => rw [h3] at hx; cases hx
    | some d =>
      rw [h3] at hx
      exact ⟨d, by simpa using hx.symm⟩
  obtain ⟨d, rfl⟩ := hx2
  rw [← e2, B.row.cell, B.eq] at hc
  by_cases hi : i < m
  · rw [arrK_at hi] at hc
    injection hc with hc
    injection hc with hc
    cases hc
  · rw [Array.getElem?_eq_none (by rw [arrK_size]; omega)] at hc
    cases hc
theorem ref_Streamed (l : List UInt8) (L C gw cap N R a : Nat) (F iv : Nat → Nat) (w : World) (hC : CipAt w C gw cap N F) (hN : N = 4 * (R + 1)) (hR : R ≤ 14) (hF : ∀ p, F p < 256) (hv : ∀ i < 16, iv i < 256) (hl : l.length = L) (hlb : L ≤ 140737488351232) :
    Calls Try.prog 21 #[.pointer (some ⟨C, 0, none⟩), .agg (arrK .u8 16 iv), .int .u64 a, .string ⟨l.toArray⟩] w fun e w' => e = .returned (.string ⟨(bLs (strF F R iv a (byteAt l)) L).toArray⟩) ∧ Below w.heap.size w w' := by
  obtain ⟨fin, hfin⟩ : ∃ f, f = bLs (strF F R iv a (byteAt l)) L := ⟨_, rfl⟩
  rw [← hfin]
  have hHfin := Lib.hid hfin
  clear hfin
  have V0 : At ((w.alloc (Obj.cells (arrK .u8 16 iv) 38)).alloc (Obj.cells (arrK .u8 16 fun _ => 0) 38)) w.heap.size .u8 16 iv := (At.new _ rfl).old _
  have P0 : At ((w.alloc (Obj.cells (arrK .u8 16 iv) 38)).alloc (Obj.cells (arrK .u8 16 fun _ => 0) 38)) (w.heap.size + 1) .u8 16 fun _ => 0 := At.new _ (by simp)
  have C0 : CipAt ((w.alloc (Obj.cells (arrK .u8 16 iv) 38)).alloc (Obj.cells (arrK .u8 16 fun _ => 0) 38)) C gw cap N F := (hC.step (below_alloc _ _)).step (below_alloc _ _)
  have hL0 : Below w.heap.size w ((w.alloc (Obj.cells (arrK .u8 16 iv) 38)).alloc (Obj.cells (arrK .u8 16 fun _ => 0) 38)) := by go_grown
  have hCw : C < w.heap.size := hC.ltC
  have hGw : gw < w.heap.size := hC.ltg
  go_enter Try.func21, Try.ntmps21
  go_wp2_with fail
  rw [zeroA16]
  generalize (w.alloc (Obj.cells (arrK .u8 16 iv) 38)).alloc (Obj.cells (arrK .u8 16 fun _ => 0) 38) = W1 at *
  obtain ⟨gv, hgv⟩ : ∃ g, g = w.heap.size := ⟨_, rfl⟩
  obtain ⟨gp, hgp⟩ : ∃ g, g = w.heap.size + 1 := ⟨_, rfl⟩
  rw [← hgp, ← hgv]
  rw [← hgp] at P0
  rw [← hgv] at V0
  have hk0 : w.heap.size ≤ gv := by omega
  have hk1 : gv < gp := by omega
  have hHl := Lib.hid hl
  clear hgp hgv hl
  go_loopw [9, 10, 24] (fun o hv x wr => ∃ (i h : Nat) (ou : List UInt8), o = .string ⟨ou.toArray⟩ ∧ hv = .int .u64 h ∧ x = .int .i64 i ∧ ou = bLs (strF F R iv a (byteAt l)) i ∧ i ≤ L ∧ (i ≠ 0 → h = plcF a (i - 1) / 16) ∧ At wr gv .u8 16 iv ∧ At wr gp .u8 16 (padS F R iv a i) ∧ CipAt wr C gw cap N F ∧ Below w.heap.size w wr) (fun _ _ x _ => L - (intOf x).toNat)
  case atStart => exact ⟨0, 0, [], rfl, rfl, rfl, rfl, by omega, fun h => absurd rfl h, V0, P0, C0, hL0⟩
  case round =>
    clear V0 P0 C0 hL0
    obtain ⟨i, h, ou, rfl, rfl, rfl, hou, hi, hh, V, Pd, Cp, hL⟩ := hrel
    by_cases hiL : i = L
    · have hfo : ou = fin := by rw [hHfin.out, hou, hiL]
      have hd : ¬ (i : Int) < (L : Int) := by omega
      have hl := hHl.out
      subst hfo
      clear hou hiL
      go_wp2_with fail
      go_ret
      exact ⟨rfl, hL⟩
    · have hd : (i : Int) < (L : Int) := by omega
      have hi0 : (0 : Int) ≤ (i : Int) := by omega
      have hlL := hHl.out
      obtain ⟨cb, hcbe⟩ : ∃ x, x = byteAt l i := ⟨_, rfl⟩
      have hcb : cb < 256 := by rw [hcbe]; exact byteAt_lt _ _
      have hIx := Lib.hid (fun W => str_index l i (i : Int) rfl (by omega) W)
      rw [← hcbe] at hIx
      obtain ⟨pl, hpl⟩ : ∃ x, x = plcF a i := ⟨_, rfl⟩
      have hplb : pl < 18446744073709551616 := by rw [hpl]; exact Nat.mod_lt _ (by omega)
      have hw1 : IntKind.u64.wrap (i : Int) = (i : Int) := by rw [IntKind.wrap_u64]; omega
      have hw2 : IntKind.u64.wrap ((a : Int) + (i : Int)) = (pl : Int) := by rw [IntKind.wrap_u64, hpl]; unfold plcF; omega
      obtain ⟨q, hq⟩ : ∃ x, x = pl / 16 := ⟨_, rfl⟩
      obtain ⟨r, hr⟩ : ∃ x, x = pl % 16 := ⟨_, rfl⟩
      have hqI : (pl : Int) / 16 = (q : Int) := by omega
      have hrI : (pl : Int) % 16 = (r : Int) := by omega
      have hrT : Int.tmod (pl : Int) 16 = (r : Int) := by rw [Int.tmod_eq_emod_of_nonneg (by omega)]; omega
      have hr16 : r < 16 := by omega
      have hr0 : (0 : Int) ≤ (r : Int) := by omega
      have hrI16 : (r : Int) < 16 := by omega
      have hqb : q < 18446744073709551616 := by omega
      have hwq : IntKind.u64.wrap (q : Int) = (q : Int) := by rw [IntKind.wrap_u64]; omega
      have hwr : IntKind.u64.wrap (r : Int) = (r : Int) := by rw [IntKind.wrap_u64]; omega
      have houl : ou.length = i := by rw [hou, bLs_len]
      have hle : (9223372036854775807 < i + 1) = False := eq_false (by omega)
      have hHcb := Lib.hid hcbe
      have hHpl := Lib.hid hpl
      have hHr := Lib.hid hr
      have hHq := Lib.hid hq
      have hHou := Lib.hid hou
      have hsame : ¬ (i = 0 ∨ q ≠ h) → padS F R iv a i = padAt F R iv pl := fun hn => by
        rw [hpl]
        refine padS_same (by omega) ?_
        rw [← hpl, ← hq, ← hh (by omega)]
        omega
      have hsame := Lib.hid hsame
      clear hcbe hpl hq hr hou hh
      by_cases hnew : i = 0 ∨ q ≠ h
      · have htest : ((i : Int) == 0) = true ∨ (((i : Int) == 0) = false ∧ ((q : Int) != (h : Int)) = true) := by
          by_cases hz : i = 0
          · exact .inl (by rw [beq_iff_eq]; omega)
          · exact .inr ⟨by rw [beq_eq_false_iff_ne]; omega, by rw [bne_iff_ne]; omega⟩
        have hIxV := Lib.hid (fun (j : Nat) (hj : j < 16) W => index_arrK (P := Try.prog) (f := iv) Try.underlying38 Try.underlying5 (by kernel_rfl) hj .i64 W)
        have hDg := Lib.hid (fun W => digits1 q W 22 hqb)
        obtain ⟨p2, hp2⟩ : ∃ x, x = 2 ^ 128 := ⟨_, rfl⟩
        have hTw := Lib.hid (show ∀ W, Calls Try.prog 25 #[.int .i64 128] W (RetN p2 W) from fun W => by rw [hp2]; exact ref_TwoTo 128 W (by omega))
        have hHp2 := Lib.hid hp2
        have hVv := Lib.hid V
        have hPp := Lib.hid Pd
        have hCc := Lib.hid Cp
        clear V Pd Cp hnew hp2
        rcases htest with ht1 | ⟨ht1, ht2⟩
        all_goals go_upto_region 11 with (fail)
        all_goals
          go_wp2_with fail
          refine (hDg.out wr).mono ?_
          rintro e w1 ⟨v1, rfl, hN1, hb1⟩
          have hbA : Below wr.heap.size wr w1 := (below_alloc wr (Obj.cells #[.int .u64 (q : Nat)] 22)).trans (hb1.mono (by simp))
          have hV1 := hN1.toV (lt_big (k := 64) (by omega) (by omega))
          have hPlq := Lib.hid (plusN (m := q) (n := 0) w1 hV1 ((IsN.nil w1).toV (lt_big (k := 1) (by omega) (by omega))))
          clear hb1 hV1 hN1 hDg
          go_wp2_with fail
          refine hPlq.out.mono ?_
          rintro e w2 ⟨v2, rfl, hN2, hb2⟩
          rw [Nat.add_zero] at hN2
          have hbB := below_step hb2 hbA (Nat.le_refl _)
          have hV3 := hVv.out.step hbB
          have hP3 := hPp.out.step hbB
          have hC3 := hCc.out.step hbB
          have hL3 := below_step hbB hL (Nat.le_refl _)
          have hRV := hV3.row
          have hrV := hV3.eq
          clear hVv hPp hCc hL hbA hbB hb2 hPlq
          go_wp2_with fail
          have hbe : ∀ j ≤ 16, beV iv j < 2 ^ 128 := fun j hj => by
            have h1 := beV_lt (n := 16) hv j hj
            have h2 : (256 : Nat) ^ j ≤ 256 ^ 16 := Nat.pow_le_pow_right (by omega) hj
            rw [show (256 : Nat) ^ 16 = 2 ^ 128 by rw [show (256 : Nat) = 2 ^ 8 from rfl, ← Nat.pow_mul]] at h2
            omega
          have hHbe := Lib.hid hbe
          clear hbe hRV hrV
          go_loopw [16, 46] (fun v x wx => ∃ j : Nat, x = .int .i64 j ∧ j ≤ 16 ∧ IsN wx v (beV iv j) ∧ IsN wx v2 q ∧ At wx gv .u8 16 iv ∧ At wx gp .u8 16 (padS F R iv a i) ∧ CipAt wx C gw cap N F ∧ Below w.heap.size w wx) (fun _ x _ => 16 - (intOf x).toNat)
          case atStart => exact ⟨0, rfl, by omega, IsN.nil _, hN2, hV3, hP3, hC3, hL3⟩
          case round =>
            clear hN2 hV3 hP3 hC3 hL3
            obtain ⟨j, rfl, hj, hNl, hN2, V, Pd, Cp, hL⟩ := hrel
            by_cases hj16 : j = 16
            · subst hj16
              rw [show ((16 : Nat) : Int) = (16 : Int) from rfl]
              have hb16 := hHbe.out 16 (by omega)
              have hp2b : 0 < p2 := by rw [hHp2.out]; exact Nat.pos_of_ne_zero (by simp)
              have hp2g : p2 < big := by rw [hHp2.out]; exact lt_big (k := 129) (Nat.pow_lt_pow_right (by omega) (by omega)) (by omega)
              have hp2m : 65536 * p2 < big := by rw [hHp2.out]; exact mul_big (m := 17) (n := 129) (by omega) (Nat.pow_lt_pow_right (by omega) (by omega)) (by omega)
              obtain ⟨X, hX⟩ : ∃ X, X = beV iv 16 + q := ⟨_, rfl⟩
              have hXb : X < 2 ^ 129 := by
                rw [hX, Nat.pow_succ]
                have : q < 2 ^ 128 := Nat.lt_of_lt_of_le hqb (by omega)
                omega
              have hPX := Lib.hid (plusN (m := beV iv 16) (n := q) _ (hNl.toV (lt_big hb16 (by omega))) (hN2.toV (lt_big (k := 64) (by omega) (by omega))))
              rw [← hX] at hPX
              have hHX := Lib.hid hX
              have hVv := Lib.hid V
              have hPp := Lib.hid Pd
              have hCc := Lib.hid Cp
              clear hX hNl hN2 V Pd Cp hb16 hHbe
              go_wp2_with fail
              refine hPX.out.mono ?_
              rintro e w3 ⟨v3, rfl, hN3, hb3⟩
              go_wp2_with fail
              refine (hTw.out w3).mono ?_
              rintro e w4 ⟨v4, rfl, hN4, hb4⟩
              have hRs := Lib.hid (restN (a := X) (m := p2) (k := 129) w4 (hN3.step hb4) hXb (by omega) (hN4.toV hp2g) hp2b hp2m)
              have hbC := below_step hb4 hb3 (Nat.le_refl _)
              clear hN3 hN4 hb3 hb4 hPX
              go_wp2_with fail
              refine hRs.out.mono ?_
              rintro e w5 ⟨v5, rfl, hN5, hb5⟩
              have hbD := below_step hb5 hbC (Nat.le_refl _)
              have V5 := (hVv.out.step hbD).old (Obj.cells (arrK .u8 16 fun _ => 0) 38)
              have P5 := (hPp.out.step hbD).old (Obj.cells (arrK .u8 16 fun _ => 0) 38)
              have C5 := (hCc.out.step hbD).step (below_alloc w5 (Obj.cells (arrK .u8 16 fun _ => 0) 38))
              have B5 : At (w5.alloc (Obj.cells (arrK .u8 16 fun _ => 0) 38)) w5.heap.size .u8 16 fun _ => 0 := At.new _ rfl
              have hL5 := (below_step hbD hL (Nat.le_refl _)).alloc (Nat.le_trans hL.size hbD.size) (Obj.cells (arrK .u8 16 fun _ => 0) 38)
              have hN6 := hN5.alloc (Obj.cells (arrK .u8 16 fun _ => 0) 38)
              have hgb : gp < w5.heap.size := Nat.lt_of_lt_of_le hPp.out.lt hbD.size
              clear hVv hPp hCc hL hbC hbD hb5 hN5 hRs
              go_wp2_with fail
              rw [zeroA16]
              generalize w5.alloc (Obj.cells (arrK .u8 16 fun _ => 0) 38) = W6 at *
              generalize w5.heap.size = gb at *
              go_loopw [16, 20, 21] (fun v x rv wx => ∃ s Y : Nat, x = .int .i64 ((s : Int) - 1) ∧ s ≤ 16 ∧ IsN wx v Y ∧ Y = X % p2 / 256 ^ (16 - s) ∧ At wx gb .u8 16 (fun p => if p < s then 0 else plusF iv q p) ∧ At wx gv .u8 16 iv ∧ At wx gp .u8 16 (padS F R iv a i) ∧ CipAt wx C gw cap N F ∧ Below w.heap.size w wx) (fun _ x _ _ => (intOf x + 1).toNat)
              case atStart => exact ⟨16, X % p2, rfl, by omega, hN6, by simp, B5.congr (fun p hp => by rw [if_pos hp]), V5, P5, C5, hL5⟩
              case round =>
                clear hN6 B5 V5 P5 C5 hL5
                obtain ⟨s, Y, rfl, hs, hNY, hY, B, V, Pd, Cp, hL⟩ := hrel
                by_cases hs0 : s = 0
                · subst hs0
                  rw [show (((0 : Nat) : Int) - 1) = -1 from rfl]
                  have B2 := B.congr (f' := plusF iv q) (fun p _ => if_neg (by omega))
                  have hRB := B2.row
                  have hrB := B2.eq
                  have hEn := Lib.hid (show Calls Try.prog 43 #[.pointer (some ⟨C, 0, none⟩), .agg (arrK .u8 16 (plusF iv q))] wr fun e w' => e = .returned (.agg (arrK .u8 16 (padAt F R iv pl))) ∧ Below wr.heap.size wr w' from by
                    unfold padAt
                    rw [← hHq.out]
                    exact ref_Encrypt (plusF iv q) F C gw cap N R wr Cp hN hR hF (fun _ _ => plusF_lt _ _ _))
                  have hVv := Lib.hid V
                  have hPp := Lib.hid Pd
                  have hCc := Lib.hid Cp
                  clear hNY hY B B2 V Pd Cp
                  go_wp2_with fail
                  refine hEn.out.mono ?_
                  rintro e w7 ⟨rfl, hb7⟩
                  have hRP := (hPp.out.step hb7).row
                  have V8 := (hVv.out.step hb7).far (g' := gp) (c := arrK .u8 16 (padAt F R iv pl)) (by omega)
                  have C8 : CipAt (w7.setRow gp (arrK .u8 16 (padAt F R iv pl))) C gw cap N F := (hCc.out.step hb7).below (below_setRow (Below.refl w.heap.size _) (by omega)) hCw hGw
                  have hL8 := below_setRow (g := gp) (c := arrK .u8 16 (padAt F R iv pl)) (below_step hb7 hL (Nat.le_refl _)) (by omega)
                  have hcs := arrK_cells .u8 16 (padAt F R iv pl)
                  clear hVv hPp hCc hL hb7 hRB hrB hEn
                  go_upto_region 27 with (fail)
                  have P2 : At (w7.setRow gp (arrK .u8 16 (padAt F R iv pl))) gp .u8 16 (padAt F R iv pl) := At.put hRP
                  have V2 := V8
                  have C2 := C8
                  have hL2 := hL8
                  clear V8 C8 hL8 hRP hcs
                  generalize w7.setRow gp (arrK .u8 16 (padAt F R iv pl)) = W9 at *
                  go_upto_region 27 with (fail)
                  obtain ⟨pb, hpb⟩ : ∃ x, x = padAt F R iv pl r := ⟨_, rfl⟩
                  have hpbl : pb < 256 := by rw [hpb]; exact padAt_lt hF pl r (by omega)
                  have hHpb := Lib.hid hpb
                  obtain ⟨xb, hxbe⟩ : ∃ x, x = cb ^^^ pb := ⟨_, rfl⟩
                  have hxb : xb < 256 := by rw [hxbe]; exact xor_lt8 hcb hpbl
                  have hxr : bits .xor .u8 (cb : Nat) (pb : Nat) = ((xb : Nat) : Int) := by rw [hxbe]; exact xor_8 hcb hpbl
                  have hout : ou ++ [UInt8.ofNat xb] = bLs (strF F R iv a (byteAt l)) (i + 1) := by
                    rw [bLs_succ, ← hHou.out, hxbe, hpb, hHcb.out, hHpl.out, hHr.out, hHpl.out]
                    rfl
                  have hHout := Lib.hid hout
                  have hPp := Lib.hid P2
                  have hVv := Lib.hid V2
                  have hCc := Lib.hid C2
                  clear hpb hxbe hout P2 V2 C2
                  generalize ha0 : Act.mk _ _ = a0
                  have e3 : a0.tmps[3]?.getD undef = .string ⟨l.toArray⟩ := by rw [← ha0]; rfl
                  have e9 : a0.tmps[9]?.getD undef = .string ⟨ou.toArray⟩ := by rw [← ha0]; rfl
                  have e11 : a0.tmps[11]?.getD undef = .pointer (some ⟨gp, 0, none⟩) := by rw [← ha0]; rfl
                  have e12 : a0.tmps[12]?.getD undef = .int .i64 (i : Nat) := by rw [← ha0]; rfl
                  have e13 : a0.tmps[13]?.getD undef = .int .u64 (pl : Nat) := by rw [← ha0]; rfl
                  have hz0 : a0.tmps.size = 94 := by rw [← ha0]; rfl
                  have hha0 := Lib.hid ha0
                  clear ha0
                  refine wp_region_tail (fun jx_ => match jx_ with | 0 => SRel.is (.string ⟨ou.toArray⟩) | 1 => SRel.is (.string ⟨l.toArray⟩) | 2 => SRel.is (.int .i64 (i : Nat)) | 3 => SRel.is (.int .u8 (cb : Nat)) | 4 => SRel.is (.int .u64 (pl : Nat)) | 5 => SRel.is (.int .u64 (r : Nat)) | 6 => SRel.is (.pointer (some ⟨gp, r, none⟩)) | 7 => SRel.is (.int .u8 (pb : Nat)) | 8 => SRel.is (.int .u8 (xb : Nat)) | 9 => SRel.one xb | 10 => SRel.is (.string ⟨[UInt8.ofNat xb].toArray⟩) | 11 => SRel.is (.string ⟨(ou ++ [UInt8.ofNat xb]).toArray⟩) | 12 => SRel.any | _ => SRel.any) 12 (by kernel_rfl) (by kernel_rfl) (by kernel_rfl) (slotsOk_of hz0 (by kernel_rfl)) (by kernel_rfl) ⟨?_, ?_, ?_, ?_, ?_, ?_, ?_, ?_, ?_, ?_, ?_, ?_, ?_, trivial⟩ (of_decide_eq_true (by kernel_rfl))
                  · rw [if_neg (by decide)]
                    refine calmT_step rfl fun a ω κ hb hu hc hK => ?_
                    have h9 : a.tmps[9]?.getD undef = .string ⟨ou.toArray⟩ := (hu 9 rfl).trans e9
                    have hk := Lib.hid (fun w1 (h : Below ω.heap.size ω w1) => hK (.string ⟨ou.toArray⟩) w1 rfl h)
                    clear hK hu hc
                    go_simp
                    exact hk.out _ (Below.refl _ _)
                  · rw [if_neg (by decide)]
                    refine calmT_step rfl fun a ω κ hb hu hc hK => ?_
                    have h3 : a.tmps[3]?.getD undef = .string ⟨l.toArray⟩ := (hu 3 rfl).trans e3
                    have hk := Lib.hid (fun w1 (h : Below ω.heap.size ω w1) => hK (.string ⟨l.toArray⟩) w1 rfl h)
                    clear hK hu hc
                    go_simp
                    exact hk.out _ (Below.refl _ _)
                  · rw [if_neg (by decide)]
                    refine calmT_step rfl fun a ω κ hb hu hc hK => ?_
                    have h12 : a.tmps[12]?.getD undef = .int .i64 (i : Nat) := (hu 12 rfl).trans e12
                    have hk := Lib.hid (fun w1 (h : Below ω.heap.size ω w1) => hK (.int .i64 (i : Nat)) w1 rfl h)
                    clear hK hu hc
                    go_simp
                    exact hk.out _ (Below.refl _ _)
                  · rw [if_neg (by decide)]
                    refine calmT_step rfl fun a ω κ hb hu hc hK => ?_
                    have h81 : a.tmps[81]?.getD undef = .string ⟨l.toArray⟩ := hc 1 81 rfl rfl
                    have h82 : a.tmps[82]?.getD undef = .int .i64 (i : Nat) := hc 2 82 rfl rfl
                    have hk := Lib.hid (fun w1 (h : Below ω.heap.size ω w1) => hK (.int .u8 (cb : Nat)) w1 rfl h)
                    clear hK hu hc
                    have hix := hIx.out ω
                    go_simp
                    exact hk.out _ (Below.refl _ _)
                  · rw [if_neg (by decide)]
                    refine calmT_step rfl fun a ω κ hb hu hc hK => ?_
                    have h13 : a.tmps[13]?.getD undef = .int .u64 (pl : Nat) := (hu 13 rfl).trans e13
                    have hk := Lib.hid (fun w1 (h : Below ω.heap.size ω w1) => hK (.int .u64 (pl : Nat)) w1 rfl h)
                    clear hK hu hc
                    go_simp
                    exact hk.out _ (Below.refl _ _)
                  · rw [if_neg (by decide)]
                    refine calmT_step rfl fun a ω κ hb hu hc hK => ?_
                    have h84 : a.tmps[84]?.getD undef = .int .u64 (pl : Nat) := hc 4 84 rfl rfl
                    have hk := Lib.hid (fun w1 (h : Below ω.heap.size ω w1) => hK (.int .u64 (r : Nat)) w1 rfl h)
                    clear hK hu hc
                    go_simp
                    exact hk.out _ (Below.refl _ _)
                  · rw [if_neg (by decide)]
                    refine calmT_step rfl fun a ω κ hb hu hc hK => ?_
                    have h11 : a.tmps[11]?.getD undef = .pointer (some ⟨gp, 0, none⟩) := (hu 11 rfl).trans e11
                    have h85 : a.tmps[85]?.getD undef = .int .u64 (r : Nat) := hc 5 85 rfl rfl
                    have hk := Lib.hid (fun w1 (h : Below ω.heap.size ω w1) => hK (.pointer (some ⟨gp, r, none⟩)) w1 rfl h)
                    clear hK hu hc
                    go_simp
                    exact hk.out _ (Below.refl _ _)
                  · rw [if_neg (by decide)]
                    refine calmT_step rfl fun a ω κ hb hu hc hK => ?_
                    have h86 : a.tmps[86]?.getD undef = .pointer (some ⟨gp, r, none⟩) := hc 6 86 rfl rfl
                    have hk := Lib.hid (fun w1 (h : Below ω.heap.size ω w1) => hK (.int .u8 (pb : Nat)) w1 rfl h)
                    clear hK hu hc
                    have hc1 := (hPp.out.step hb).cell (i := r) (by omega)
                    rw [← hHpb.out] at hc1
                    go_simp
                    exact hk.out _ (Below.refl _ _)
                  · rw [if_neg (by decide)]
                    refine calmT_step rfl fun a ω κ hb hu hc hK => ?_
                    have h83 : a.tmps[83]?.getD undef = .int .u8 (cb : Nat) := hc 3 83 rfl rfl
                    have h87 : a.tmps[87]?.getD undef = .int .u8 (pb : Nat) := hc 7 87 rfl rfl
                    have hk := Lib.hid (fun w1 (h : Below ω.heap.size ω w1) => hK (.int .u8 (xb : Nat)) w1 rfl h)
                    clear hK hu hc
                    go_simp
                    exact hk.out _ (Below.refl _ _)
                  · rw [if_neg (by decide)]
                    refine calmT_step rfl fun a ω κ hb hu hc hK => ?_
                    have h88 : a.tmps[88]?.getD undef = .int .u8 (xb : Nat) := hc 8 88 rfl rfl
                    have hk := Lib.hid (fun v w1 (hv : (SRel.one xb).p v w1) (h : Below ω.heap.size ω w1) => hK v w1 hv h)
                    clear hK hu hc
                    go_simp
                    exact hk.out _ _ ⟨_, rfl, one_new hxb⟩ (below_alloc _ _)
                  · rw [if_neg (by decide)]
                    refine calmT_step rfl fun a ω κ hb hu hc hK => ?_
                    have h89 : (SRel.one xb).p (a.tmps[89]?.getD undef) ω := hc 9 89 rfl rfl
                    have hk := Lib.hid (fun w1 (h : Below ω.heap.size ω w1) => hK (.string ⟨[UInt8.ofNat xb].toArray⟩) w1 rfl h)
                    clear hK hu hc
                    obtain ⟨g1, hv1, hx1⟩ := h89
                    have hcv := conv_rd1 hx1
                    go_simp
                    exact hk.out _ (Below.refl _ _)
                  · rw [if_neg (by decide)]
                    refine calmT_step rfl fun a ω κ hb hu hc hK => ?_
                    have h80 : a.tmps[80]?.getD undef = .string ⟨ou.toArray⟩ := hc 0 80 rfl rfl
                    have h90 : a.tmps[90]?.getD undef = .string ⟨[UInt8.ofNat xb].toArray⟩ := hc 10 90 rfl rfl
                    have hk := Lib.hid (fun w1 (h : Below ω.heap.size ω w1) => hK (.string ⟨(ou ++ [UInt8.ofNat xb]).toArray⟩) w1 rfl h)
                    clear hK hu hc
                    go_simp
                    exact hk.out _ (Below.refl _ _)
                  · rw [if_pos rfl]
                    refine last_of rfl fun aa ω hb hu hsz hdf hc => ?_
                    have h91 : aa.tmps[91]?.getD undef = .string ⟨(ou ++ [UInt8.ofNat xb]).toArray⟩ := hc 11 91 (by decide) rfl
                    have hHz := Lib.hid (And.intro hu (And.intro hsz hdf))
                    clear hc hu hsz hdf hz0
                    have hPf := Lib.hid (hPp.out.step hb)
                    have hVf := Lib.hid (hVv.out.step hb)
                    have hCf := Lib.hid (hCc.out.step hb)
                    have hLf := below_step hb hL2 (Nat.le_refl _)
                    go_simp
                    have ha0 := hha0.out
                    subst ha0
                    have he := act_patchT (n := 94) 12 [false, false, false, false, false, false, false, false, false, false, false, false, false, false, false, false, false, false, false, false, false, false, false, false, false, false, false, false, false, false, false, false, false, false, false, false, false, false, false, false, false, false, false, false, false, false, false, false, false, false, false, false, false, false, false, false, false, false, false, false, false, false, false, false, false, false, false, false, false, false, false, false, false, false, false, false, false, false, false, false, true, true, true, true, true, true, true, true, true, true, true, true, false, false] rfl (by kernel_rfl) hHz.out.1 hHz.out.2.1 hHz.out.2.2
                    simp only [patch, cond_true, cond_false, Nat.reduceAdd] at he
                    clear hHz hha0 e3 e9 e11 e12 e13
                    rw [he]
                    clear he
                    generalize aa.tmps[80]?.getD undef = x80 at *
                    generalize aa.tmps[81]?.getD undef = x81 at *
                    generalize aa.tmps[82]?.getD undef = x82 at *
                    generalize aa.tmps[83]?.getD undef = x83 at *
                    generalize aa.tmps[84]?.getD undef = x84 at *
                    generalize aa.tmps[85]?.getD undef = x85 at *
                    generalize aa.tmps[86]?.getD undef = x86 at *
                    generalize aa.tmps[87]?.getD undef = x87 at *
                    generalize aa.tmps[88]?.getD undef = x88 at *
                    generalize aa.tmps[89]?.getD undef = x89 at *
                    generalize aa.tmps[90]?.getD undef = x90 at *
                    generalize aa.tmps[91]?.getD undef = x91 at *
                    clear hPp hVv hCc hL2 hb
                    go_wp2_with fail
                    go_round
                    case rel => exact ⟨i + 1, q, ou ++ [UInt8.ofNat xb], rfl, rfl, by go_num, hHout.out, by omega, fun _ => by rw [Nat.add_sub_cancel, ← hHpl.out]; exact hHq.out, hVf.out, by rw [padS_next, ← hHpl.out]; exact hPf.out, hCf.out, hLf⟩
                    case measure => simp [intOf]; omega
                · obtain ⟨t, rfl⟩ : ∃ t, s = t + 1 := ⟨s - 1, by omega⟩
                  rw [show (((t + 1 : Nat) : Int) - 1) = (t : Int) by omega]
                  have ht0 : (0 : Int) ≤ (t : Int) := by omega
                  have ht16 : (t : Int) < 16 := by omega
                  have hYb : Y < 2 ^ 129 := by
                    rw [hY]
                    exact Nat.lt_of_le_of_lt (Nat.div_le_self _ _) (Nat.lt_of_le_of_lt (Nat.mod_le _ _) hXb)
                  have hPa := Lib.hid (partsN (a := Y) (m := 256) (k := 129) (wr.alloc (Obj.cells #[.int .i64 256] 3)) (hNY.alloc _) hYb (by omega) (IsV.lit256 wr 3) (by omega) (lt_big (k := 25) (by omega) (by omega)))
                  have hbyte : Y % 256 = plusF iv q t := by
                    unfold plusF
                    rw [hY, ← hHX.out, hHp2.out, show (2 : Nat) ^ 128 = 256 ^ ((15 - t) + (t + 1)) by rw [show 15 - t + (t + 1) = 16 by omega, show (256 : Nat) = 2 ^ 8 from rfl, ← Nat.pow_mul], show 16 - (t + 1) = 15 - t by omega, mod_byte]
                  have hnext : Y / 256 = X % p2 / 256 ^ (16 - t) := by
                    rw [hY, Nat.div_div_eq_div_mul, ← Nat.pow_succ]
                    congr 2
                    omega
                  have hHb := Lib.hid hbyte
                  have hHn := Lib.hid hnext
                  obtain ⟨y, hy⟩ : ∃ y, y = Y % 256 := ⟨_, rfl⟩
                  rw [← hy] at hPa hHb
                  have hyl : y < 256 := by omega
                  have hBb := Lib.hid B
                  have hVv := Lib.hid V
                  have hPp := Lib.hid Pd
                  have hCc := Lib.hid Cp
                  clear hNY hY hYb hbyte hnext hy B V Pd Cp
                  go_wp2_with fail
                  refine hPa.out.mono ?_
                  rintro e w7 ⟨v7, v8, rfl, hN7, hN8, hb7⟩
                  have hbE : Below wr.heap.size wr w7 := (below_alloc wr (Obj.cells #[.int .i64 256] 3)).trans (hb7.mono (by simp))
                  have hDi := Lib.hid (digitN w7 hN8 (show y < 65536 by omega))
                  have hB7 := hBb.out.step hbE
                  have hc1 := hB7.cell (i := t) (by omega)
                  have hfr := hB7.row.frozen t
                  have hw8 : IntKind.u8.wrap (y : Int) = (y : Int) := by rw [IntKind.wrap_u8]; omega
                  have hHB := Lib.hid hB7
                  have hV7 := Lib.hid (hVv.out.step hbE)
                  have hP7 := Lib.hid (hPp.out.step hbE)
                  have hC7 := Lib.hid (hCc.out.step hbE)
                  have hL7 := below_step hbE hL (Nat.le_refl _)
                  clear hBb hVv hPp hCc hL hbE hb7 hPa hN8 hB7
                  go_wp2_with fail
                  refine hDi.out.mono ?_
                  rintro e w8 ⟨rfl, rfl⟩
                  go_wp2_with fail
                  go_round
                  case rel =>
                    refine ⟨t, Y / 256, by go_num, by omega, hN7.setU8 hHB.out _, hHn.out, (hHB.out.set t y).congr (fun p hp => ?_), hV7.out.farC (by simp; omega), hP7.out.farC (by simp; omega), hC7.out.below ((Below.refl w.heap.size _).setCell (by simp; omega) _) hCw hGw, hL7.setCell (by simp; omega) _⟩
                    unfold upd
                    by_cases h : p = t
                    · rw [if_pos h, if_neg (by omega), h, hHb.out]
                    · rw [if_neg h]
                      show (if p < t + 1 then 0 else plusF iv q p) = _
                      by_cases h2 : p < t
                      · rw [if_pos (by omega), if_pos h2]
                      · rw [if_neg (by omega), if_neg h2]
                  case measure => simp [intOf] <;> omega
            · have hjd : (j : Int) < 16 := by omega
              have hix := hIxV.out j (by omega)
              obtain ⟨xv, hxv⟩ : ∃ x, x = iv j := ⟨_, rfl⟩
              have hxvl : xv < 256 := by rw [hxv]; exact hv j (by omega)
              rw [← hxv] at hix
              have hbj := hHbe.out j (by omega)
              obtain ⟨Z, hZ⟩ : ∃ Z, Z = beV iv j := ⟨_, rfl⟩
              have hnx : Z * 256 + xv = beV iv (j + 1) := by rw [hZ, hxv]; rfl
              have hHnx := Lib.hid hnx
              rw [← hZ] at hNl hbj
              have hTi := Lib.hid (timesN (m := Z) (n := 256) (wr.alloc (Obj.cells #[.int .i64 256] 3)) ((hNl.toV (lt_big hbj (by omega))).alloc _) (IsV.lit256 wr 3))
              have hN2h := Lib.hid hN2
              have hVv := Lib.hid V
              have hPp := Lib.hid Pd
              have hCc := Lib.hid Cp
              clear hZ hxv hnx hNl hN2 V Pd Cp
              go_wp2_with fail
              refine hTi.out.mono ?_
              rintro e w3 ⟨v3, rfl, hN3, hb3⟩
              have hbE : Below wr.heap.size wr w3 := (below_alloc wr (Obj.cells #[.int .i64 256] 3)).trans (hb3.mono (by simp))
              have hPl := Lib.hid (plusN (m := Z * 256) (n := xv) (w3.alloc (Obj.cells #[.int .i64 (xv : Nat)] 3)) ((hN3.toV (mul_big (m := 128) (n := 9) hbj (by omega) (by omega))).alloc _) (IsV.lit w3 3 (show xv < 65536 by omega)))
              clear hN3 hb3 hTi hix
              go_wp2_with fail
              refine hPl.out.mono ?_
              rintro e w4 ⟨v4, rfl, hN4, hb4⟩
              have hbF := below_step ((below_alloc w3 (Obj.cells #[.int .i64 (xv : Nat)] 3)).trans (hb4.mono (by simp))) hbE (Nat.le_refl _)
              rw [hHnx.out] at hN4
              have hN2b := hN2h.out.step hbF
              have V4 := hVv.out.step hbF
              have P4 := hPp.out.step hbF
              have C4 := hCc.out.step hbF
              have hL4 := below_step hbF hL (Nat.le_refl _)
              clear hPl hb4 hbE hbF hN2h hVv hPp hCc hL
              go_wp2_with fail
              go_round
              case rel => exact ⟨j + 1, by go_num, by omega, hN4, hN2b, V4, P4, C4, hL4⟩
              case measure => simp [intOf]; omega
      · have h1 : ((i : Int) == 0) = false := by rw [beq_eq_false_iff_ne]; omega
        have h2 : ((q : Int) != (h : Int)) = false := by rw [bne_eq_false_iff_eq]; omega
        rw [hsame.out hnew] at Pd
        have hqh : q = h := by omega
        have P2 := Pd
        have V2 := V
        have C2 := Cp
        have hL2 := hL
        clear Pd V Cp hL hnew
        subst hqh
        go_upto_region 27 with (fail)
        obtain ⟨pb, hpb⟩ : ∃ x, x = padAt F R iv pl r := ⟨_, rfl⟩
        have hpbl : pb < 256 := by rw [hpb]; exact padAt_lt hF pl r (by omega)
        have hHpb := Lib.hid hpb
        obtain ⟨xb, hxbe⟩ : ∃ x, x = cb ^^^ pb := ⟨_, rfl⟩
        have hxb : xb < 256 := by rw [hxbe]; exact xor_lt8 hcb hpbl
        have hxr : bits .xor .u8 (cb : Nat) (pb : Nat) = ((xb : Nat) : Int) := by rw [hxbe]; exact xor_8 hcb hpbl
        have hout : ou ++ [UInt8.ofNat xb] = bLs (strF F R iv a (byteAt l)) (i + 1) := by
          rw [bLs_succ, ← hHou.out, hxbe, hpb, hHcb.out, hHpl.out, hHr.out, hHpl.out]
          rfl
        have hHout := Lib.hid hout
        have hPp := Lib.hid P2
        have hVv := Lib.hid V2
        have hCc := Lib.hid C2
        clear hpb hxbe hout P2 V2 C2
        generalize ha0 : Act.mk _ _ = a0
        have e3 : a0.tmps[3]?.getD undef = .string ⟨l.toArray⟩ := by rw [← ha0]; rfl
        have e9 : a0.tmps[9]?.getD undef = .string ⟨ou.toArray⟩ := by rw [← ha0]; rfl
        have e11 : a0.tmps[11]?.getD undef = .pointer (some ⟨gp, 0, none⟩) := by rw [← ha0]; rfl
        have e12 : a0.tmps[12]?.getD undef = .int .i64 (i : Nat) := by rw [← ha0]; rfl
        have e13 : a0.tmps[13]?.getD undef = .int .u64 (pl : Nat) := by rw [← ha0]; rfl
        have hz0 : a0.tmps.size = 94 := by rw [← ha0]; rfl
        have hha0 := Lib.hid ha0
        clear ha0
        refine wp_region_tail (fun jx_ => match jx_ with | 0 => SRel.is (.string ⟨ou.toArray⟩) | 1 => SRel.is (.string ⟨l.toArray⟩) | 2 => SRel.is (.int .i64 (i : Nat)) | 3 => SRel.is (.int .u8 (cb : Nat)) | 4 => SRel.is (.int .u64 (pl : Nat)) | 5 => SRel.is (.int .u64 (r : Nat)) | 6 => SRel.is (.pointer (some ⟨gp, r, none⟩)) | 7 => SRel.is (.int .u8 (pb : Nat)) | 8 => SRel.is (.int .u8 (xb : Nat)) | 9 => SRel.one xb | 10 => SRel.is (.string ⟨[UInt8.ofNat xb].toArray⟩) | 11 => SRel.is (.string ⟨(ou ++ [UInt8.ofNat xb]).toArray⟩) | 12 => SRel.any | _ => SRel.any) 12 (by kernel_rfl) (by kernel_rfl) (by kernel_rfl) (slotsOk_of hz0 (by kernel_rfl)) (by kernel_rfl) ⟨?_, ?_, ?_, ?_, ?_, ?_, ?_, ?_, ?_, ?_, ?_, ?_, ?_, trivial⟩ (of_decide_eq_true (by kernel_rfl))
        · rw [if_neg (by decide)]
          refine calmT_step rfl fun a ω κ hb hu hc hK => ?_
          have h9 : a.tmps[9]?.getD undef = .string ⟨ou.toArray⟩ := (hu 9 rfl).trans e9
          have hk := Lib.hid (fun w1 (h : Below ω.heap.size ω w1) => hK (.string ⟨ou.toArray⟩) w1 rfl h)
          clear hK hu hc
          go_simp
          exact hk.out _ (Below.refl _ _)
        · rw [if_neg (by decide)]
          refine calmT_step rfl fun a ω κ hb hu hc hK => ?_
          have h3 : a.tmps[3]?.getD undef = .string ⟨l.toArray⟩ := (hu 3 rfl).trans e3
          have hk := Lib.hid (fun w1 (h : Below ω.heap.size ω w1) => hK (.string ⟨l.toArray⟩) w1 rfl h)
          clear hK hu hc
          go_simp
          exact hk.out _ (Below.refl _ _)
        · rw [if_neg (by decide)]
          refine calmT_step rfl fun a ω κ hb hu hc hK => ?_
          have h12 : a.tmps[12]?.getD undef = .int .i64 (i : Nat) := (hu 12 rfl).trans e12
          have hk := Lib.hid (fun w1 (h : Below ω.heap.size ω w1) => hK (.int .i64 (i : Nat)) w1 rfl h)
          clear hK hu hc
          go_simp
          exact hk.out _ (Below.refl _ _)
        · rw [if_neg (by decide)]
          refine calmT_step rfl fun a ω κ hb hu hc hK => ?_
          have h81 : a.tmps[81]?.getD undef = .string ⟨l.toArray⟩ := hc 1 81 rfl rfl
          have h82 : a.tmps[82]?.getD undef = .int .i64 (i : Nat) := hc 2 82 rfl rfl
          have hk := Lib.hid (fun w1 (h : Below ω.heap.size ω w1) => hK (.int .u8 (cb : Nat)) w1 rfl h)
          clear hK hu hc
          have hix := hIx.out ω
          go_simp
          exact hk.out _ (Below.refl _ _)
        · rw [if_neg (by decide)]
          refine calmT_step rfl fun a ω κ hb hu hc hK => ?_
          have h13 : a.tmps[13]?.getD undef = .int .u64 (pl : Nat) := (hu 13 rfl).trans e13
          have hk := Lib.hid (fun w1 (h : Below ω.heap.size ω w1) => hK (.int .u64 (pl : Nat)) w1 rfl h)
          clear hK hu hc
          go_simp
          exact hk.out _ (Below.refl _ _)
        · rw [if_neg (by decide)]
          refine calmT_step rfl fun a ω κ hb hu hc hK => ?_
          have h84 : a.tmps[84]?.getD undef = .int .u64 (pl : Nat) := hc 4 84 rfl rfl
          have hk := Lib.hid (fun w1 (h : Below ω.heap.size ω w1) => hK (.int .u64 (r : Nat)) w1 rfl h)
          clear hK hu hc
          go_simp
          exact hk.out _ (Below.refl _ _)
        · rw [if_neg (by decide)]
          refine calmT_step rfl fun a ω κ hb hu hc hK => ?_
          have h11 : a.tmps[11]?.getD undef = .pointer (some ⟨gp, 0, none⟩) := (hu 11 rfl).trans e11
          have h85 : a.tmps[85]?.getD undef = .int .u64 (r : Nat) := hc 5 85 rfl rfl
          have hk := Lib.hid (fun w1 (h : Below ω.heap.size ω w1) => hK (.pointer (some ⟨gp, r, none⟩)) w1 rfl h)
          clear hK hu hc
          go_simp
          exact hk.out _ (Below.refl _ _)
        · rw [if_neg (by decide)]
          refine calmT_step rfl fun a ω κ hb hu hc hK => ?_
          have h86 : a.tmps[86]?.getD undef = .pointer (some ⟨gp, r, none⟩) := hc 6 86 rfl rfl
          have hk := Lib.hid (fun w1 (h : Below ω.heap.size ω w1) => hK (.int .u8 (pb : Nat)) w1 rfl h)
          clear hK hu hc
          have hc1 := (hPp.out.step hb).cell (i := r) (by omega)
          rw [← hHpb.out] at hc1
          go_simp
          exact hk.out _ (Below.refl _ _)
        · rw [if_neg (by decide)]
          refine calmT_step rfl fun a ω κ hb hu hc hK => ?_
          have h83 : a.tmps[83]?.getD undef = .int .u8 (cb : Nat) := hc 3 83 rfl rfl
          have h87 : a.tmps[87]?.getD undef = .int .u8 (pb : Nat) := hc 7 87 rfl rfl
          have hk := Lib.hid (fun w1 (h : Below ω.heap.size ω w1) => hK (.int .u8 (xb : Nat)) w1 rfl h)
          clear hK hu hc
          go_simp
          exact hk.out _ (Below.refl _ _)
        · rw [if_neg (by decide)]
          refine calmT_step rfl fun a ω κ hb hu hc hK => ?_
          have h88 : a.tmps[88]?.getD undef = .int .u8 (xb : Nat) := hc 8 88 rfl rfl
          have hk := Lib.hid (fun v w1 (hv : (SRel.one xb).p v w1) (h : Below ω.heap.size ω w1) => hK v w1 hv h)
          clear hK hu hc
          go_simp
          exact hk.out _ _ ⟨_, rfl, one_new hxb⟩ (below_alloc _ _)
        · rw [if_neg (by decide)]
          refine calmT_step rfl fun a ω κ hb hu hc hK => ?_
          have h89 : (SRel.one xb).p (a.tmps[89]?.getD undef) ω := hc 9 89 rfl rfl
          have hk := Lib.hid (fun w1 (h : Below ω.heap.size ω w1) => hK (.string ⟨[UInt8.ofNat xb].toArray⟩) w1 rfl h)
          clear hK hu hc
          obtain ⟨g1, hv1, hx1⟩ := h89
          have hcv := conv_rd1 hx1
          go_simp
          exact hk.out _ (Below.refl _ _)
        · rw [if_neg (by decide)]
          refine calmT_step rfl fun a ω κ hb hu hc hK => ?_
          have h80 : a.tmps[80]?.getD undef = .string ⟨ou.toArray⟩ := hc 0 80 rfl rfl
          have h90 : a.tmps[90]?.getD undef = .string ⟨[UInt8.ofNat xb].toArray⟩ := hc 10 90 rfl rfl
          have hk := Lib.hid (fun w1 (h : Below ω.heap.size ω w1) => hK (.string ⟨(ou ++ [UInt8.ofNat xb]).toArray⟩) w1 rfl h)
          clear hK hu hc
          go_simp
          exact hk.out _ (Below.refl _ _)
        · rw [if_pos rfl]
          refine last_of rfl fun aa ω hb hu hsz hdf hc => ?_
          have h91 : aa.tmps[91]?.getD undef = .string ⟨(ou ++ [UInt8.ofNat xb]).toArray⟩ := hc 11 91 (by decide) rfl
          have hHz := Lib.hid (And.intro hu (And.intro hsz hdf))
          clear hc hu hsz hdf hz0
          have hPf := Lib.hid (hPp.out.step hb)
          have hVf := Lib.hid (hVv.out.step hb)
          have hCf := Lib.hid (hCc.out.step hb)
          have hLf := below_step hb hL2 (Nat.le_refl _)
          go_simp
          have ha0 := hha0.out
          subst ha0
          have he := act_patchT (n := 94) 12 [false, false, false, false, false, false, false, false, false, false, false, false, false, false, false, false, false, false, false, false, false, false, false, false, false, false, false, false, false, false, false, false, false, false, false, false, false, false, false, false, false, false, false, false, false, false, false, false, false, false, false, false, false, false, false, false, false, false, false, false, false, false, false, false, false, false, false, false, false, false, false, false, false, false, false, false, false, false, false, false, true, true, true, true, true, true, true, true, true, true, true, true, false, false] rfl (by kernel_rfl) hHz.out.1 hHz.out.2.1 hHz.out.2.2
          simp only [patch, cond_true, cond_false, Nat.reduceAdd] at he
          clear hHz hha0 e3 e9 e11 e12 e13
          rw [he]
          clear he
          generalize aa.tmps[80]?.getD undef = x80 at *
          generalize aa.tmps[81]?.getD undef = x81 at *
          generalize aa.tmps[82]?.getD undef = x82 at *
          generalize aa.tmps[83]?.getD undef = x83 at *
          generalize aa.tmps[84]?.getD undef = x84 at *
          generalize aa.tmps[85]?.getD undef = x85 at *
          generalize aa.tmps[86]?.getD undef = x86 at *
          generalize aa.tmps[87]?.getD undef = x87 at *
          generalize aa.tmps[88]?.getD undef = x88 at *
          generalize aa.tmps[89]?.getD undef = x89 at *
          generalize aa.tmps[90]?.getD undef = x90 at *
          generalize aa.tmps[91]?.getD undef = x91 at *
          clear hPp hVv hCc hL2 hb
          go_wp2_with fail
          go_round
          case rel => exact ⟨i + 1, q, ou ++ [UInt8.ofNat xb], rfl, rfl, by go_num, hHout.out, by omega, fun _ => by rw [Nat.add_sub_cancel, ← hHpl.out]; exact hHq.out, hVf.out, by rw [padS_next, ← hHpl.out]; exact hPf.out, hCf.out, hLf⟩
          case measure => simp [intOf]; omega
end Go.Proofs.Ytjihklaocgmlpaa
