/- Contract of package mode: Seal. -/
import Derived.Test.YtjihklaocgmlpaaMode1
import Derived.Test.YtjihklaocgmlpaaAes3
import Derived.Test.YtjihklaocgmlpaaAes6
namespace Go.Proofs.Ytjihklaocgmlpaa
open Go.ChangeShapes Go.WideShapes Go.ChangeAt Go.RowKit
set_option maxHeartbeats 4000000
set_option maxRecDepth 100000
attribute [local go_sem ↓] load_a16 store_a16 execl_a16 execs_a16 load_akey store_akey execl_akey execs_akey
attribute [local go_sem] isHead_mk blkOf_mk isAgg_mk cellsV_mk row_drew rowAt_drew row_new_cells row_old rowAt_new rowAt_old setRow_new

theorem mode_Seal (A : Option Addr) (l : List UInt8) (L c R : Nat) (F iv : Nat → Nat) (w : World) (hA : Rd w w.heap.size A (bytesV l)) (hl : l.length = L) (hc : L ≤ c ∧ c ≤ 140737488351232) (hR : R ≤ 14) (hF : ∀ p, F p < 256) (hv : ∀ i < 16, iv i < 256) :
    Calls Try.prog 51 #[.agg (keyV F R), .agg (arrK .u8 16 iv), .slice A L c] w (BytesOk (sealF F R iv (padF l (16 - L % 16))) (L + (16 - L % 16)) w) := by
  obtain ⟨r, hr⟩ : ∃ r, r = L % 16 := ⟨_, rfl⟩
  obtain ⟨n, hn⟩ : ∃ n, n = 16 - r := ⟨_, rfl⟩
  obtain ⟨M, hM⟩ : ∃ M, M = L + n := ⟨_, rfl⟩
  obtain ⟨m, hm⟩ : ∃ m, M = 16 * m := ⟨(L + n) / 16, by omega⟩
  rw [← hr, ← hn, ← hM]
  have K0 : KeyAt (((w.alloc (Obj.cells (keyV F R) 42)).alloc (Obj.cells (arrK .u8 16 iv) 38)).alloc (Obj.cells (arrK .u8 M fun _ => 0) 5)) w.heap.size F R := ((KeyAt.new _ rfl).old _).old _
  have V0 : At (((w.alloc (Obj.cells (keyV F R) 42)).alloc (Obj.cells (arrK .u8 16 iv) 38)).alloc (Obj.cells (arrK .u8 M fun _ => 0) 5)) (w.heap.size + 1) .u8 16 iv := (At.new _ (by simp)).old _
  have T0 : At (((w.alloc (Obj.cells (keyV F R) 42)).alloc (Obj.cells (arrK .u8 16 iv) 38)).alloc (Obj.cells (arrK .u8 M fun _ => 0) 5)) (w.heap.size + 1 + 1) .u8 M fun _ => 0 := At.new _ (by simp)
  have hL0 : Below w.heap.size w (((w.alloc (Obj.cells (keyV F R) 42)).alloc (Obj.cells (arrK .u8 16 iv) 38)).alloc (Obj.cells (arrK .u8 M fun _ => 0) 5)) := by go_grown
  have hap := fun ty => run_app_bytes (P := Try.prog) (ty := ty) (n := 0) (c := c) SBk T0 (hA.below hL0) (by omega)
  rw [hl, Nat.zero_add] at hap
  have hrem : (L : Int) % 16 = (r : Int) := by omega
  have hrt : Int.tmod (L : Int) 16 = (r : Int) := by rw [Int.tmod_eq_emod_of_nonneg (by omega)]; omega
  have hsub : (16 : Int) - (r : Int) = (n : Int) := by omega
  have hadd : (L : Int) + (n : Int) = (M : Int) := by omega
  have hn16 : n ≤ 16 := by omega
  have hn1 : 1 ≤ n := by omega
  have hMb : M ≤ 140737488351248 := by omega
  have hmk : ∀ W : World, (Instr.makeSlice 25 (.int .i64 0) (.int .i64 (M : Nat))).run Try.prog W = .ok (.slice (some ⟨W.heap.size, 0, none⟩) 0 M) (W.alloc (.cells (arrK .u8 M fun _ => 0) 5)) := fun W => run_make_buf (P := Try.prog) (t := 25) (e := 5) Try.underlying25 (by kernel_rfl) .i64 .i64 (n := 0) (M := M) (by omega) (by omega) W
  have hcy : IntKind.u8.wrap (n : Int) = (n : Int) := by rw [IntKind.wrap_u8]; omega
  have hLb : L ≤ 140737488351232 := by omega
  have hHm := Lib.hid hm
  have hHM := Lib.hid hM
  have hHl := Lib.hid hl
  clear hm hr hn hM hl hc
  go_enter Try.func51, Try.ntmps51
  go_wp2_with (at_builtin; refine wpList_appR rfl (.tmp 20) (.tmp 21) 25 25 rfl rfl rfl (hap _) ?_)
  have K1 : KeyAt (((w.alloc (Obj.cells (keyV F R) 42)).alloc (Obj.cells (arrK .u8 16 iv) 38)).alloc (Obj.cells (arrK .u8 M (cpF (fun _ => 0) 0 L fun p => (l[p]?.getD 0).toNat)) 5)) w.heap.size F R := ((KeyAt.new _ rfl).old _).old _
  have V1 : At (((w.alloc (Obj.cells (keyV F R) 42)).alloc (Obj.cells (arrK .u8 16 iv) 38)).alloc (Obj.cells (arrK .u8 M (cpF (fun _ => 0) 0 L fun p => (l[p]?.getD 0).toNat)) 5)) (w.heap.size + 1) .u8 16 iv := (At.new _ (by simp)).old _
  have T1 : At (((w.alloc (Obj.cells (keyV F R) 42)).alloc (Obj.cells (arrK .u8 16 iv) 38)).alloc (Obj.cells (arrK .u8 M (cpF (fun _ => 0) 0 L fun p => (l[p]?.getD 0).toNat)) 5)) (w.heap.size + 1 + 1) .u8 M (firstF L (padF l n)) := (At.new _ (by simp)).congr (fun p _ => by
    unfold cpF firstF padF byteAt
    rw [hHl.out]
    by_cases h : p < L
    · rw [if_pos (by omega), if_pos h, if_pos h, Nat.sub_zero]
    · rw [if_neg (by omega), if_neg h])
  have hL1 : Below w.heap.size w (((w.alloc (Obj.cells (keyV F R) 42)).alloc (Obj.cells (arrK .u8 16 iv) 38)).alloc (Obj.cells (arrK .u8 M (cpF (fun _ => 0) 0 L fun p => (l[p]?.getD 0).toNat)) 5)) := by go_grown
  generalize ((w.alloc (Obj.cells (keyV F R) 42)).alloc (Obj.cells (arrK .u8 16 iv) 38)).alloc (Obj.cells (arrK .u8 M (cpF (fun _ => 0) 0 L fun p => (l[p]?.getD 0).toNat)) 5) = W1 at *
  obtain ⟨gk, hgk⟩ : ∃ g, g = w.heap.size := ⟨_, rfl⟩
  obtain ⟨gv, hgv⟩ : ∃ g, g = w.heap.size + 1 := ⟨_, rfl⟩
  obtain ⟨g, hg⟩ : ∃ g, g = w.heap.size + 1 + 1 := ⟨_, rfl⟩
  rw [← hg, ← hgv, ← hgk]
  rw [← hg] at T1
  rw [← hgv] at V1
  rw [← hgk] at K1
  have hk0 : w.heap.size ≤ gk := by omega
  have hk1 : gk < gv := by omega
  have hk2 : gv < g := by omega
  clear hg hgv hgk
  clear K0 V0 T0 hL0 hap hmk hrem hrt hsub hadd
  go_loopw [8, 24] (fun o x wr => ∃ i : Nat, o = .slice (some ⟨g, 0, none⟩) (L + i) M ∧ x = .int .i64 i ∧ i ≤ n ∧ At wr g .u8 M (firstF (L + i) (padF l n)) ∧ KeyAt wr gk F R ∧ At wr gv .u8 16 iv ∧ Below w.heap.size w wr) (fun _ x _ => 16 - (intOf x).toNat)
  case atStart => exact ⟨0, rfl, rfl, by omega, T1, K1, V1, hL1⟩
  case round =>
    clear T1 K1 V1 hL1
    obtain ⟨i, rfl, rfl, hi, T, K, V, hL⟩ := hrel
    by_cases hin : i = n
    · subst hin
      have hLM := hHM.out
      have T2 := T.congr (f' := padF l i) (fun p hp => if_pos (by omega))
      clear T
      rw [← hLM]
      have hdl : (M : Int) ≤ 140737488351248 := by omega
      have hHdl := Lib.hid hLM
      clear hLM
      go_wp2_with fail
      go_loopw [9] (fun x wr => ∃ k a : Nat, x = .int .i64 a ∧ a = 16 * k ∧ k ≤ m ∧ At wr g .u8 M (upTo a (sealF F R iv (padF l i)) (padF l i)) ∧ KeyAt wr gk F R ∧ At wr gv .u8 16 (ivs F R iv (padF l i) k) ∧ Below w.heap.size w wr) (fun x _ => M - (intOf x).toNat)
      case atStart => exact ⟨0, 0, rfl, rfl, by omega, by rw [upTo_zero]; exact T2, K, V, hL⟩
      case round =>
        clear T2 K V hL
        obtain ⟨k, a, rfl, hak, hkm, T, K, V, hL⟩ := hrel
        by_cases hkM : k = m
        · have haM : a = M := by have := hHm.out; omega
          subst haM
          have T3 := T.congr (upTo_end _ _)
          clear T
          go_wp2_with fail
          go_ret
          exact ⟨g, rfl, T3, hL⟩
        · have haM : (a : Int) < (M : Int) := by have := hHm.out; omega
          have hHak := Lib.hid hak
          have ha16 : a + 16 ≤ M := by have := hHm.out; omega
          clear hak
          obtain ⟨vk, hvk⟩ : ∃ f, f = ivs F R iv (padF l i) k := ⟨_, rfl⟩
          rw [← hvk] at V
          have hvl : ∀ j < 16, vk j < 256 := fun j hj => by rw [hvk]; exact ivs_lt hF hv (padF_lt (by omega)) k j hj
          have hHvk := Lib.hid hvk
          clear hvk
          have hq := fun p => padF_lt (l := l) (n := i) (by omega) p
          obtain ⟨q, hqe⟩ : ∃ f, f = padF l i := ⟨_, rfl⟩
          rw [← hqe] at T hq hHvk
          have hHq := Lib.hid hqe
          clear hqe
          go_wp2_with fail
          go_loopw [38] (fun x wx => ∃ j : Nat, x = .int .i64 j ∧ j ≤ 16 ∧ At wx gv .u8 16 (upTo j (xorF vk fun i => q (a + i)) vk) ∧ At wx g .u8 M (upTo a (sealF F R iv q) q) ∧ KeyAt wx gk F R ∧ Below w.heap.size w wx) (fun x _ => 16 - (intOf x).toNat)
          case atStart => exact ⟨0, rfl, by omega, by rw [upTo_zero]; exact V, T, K, hL⟩
          case round =>
            clear T K V hL
            obtain ⟨j, rfl, hj, V, T, K, hL⟩ := hrel
            by_cases hj16 : j = 16
            · subst hj16
              have V2 := V.congr (upTo_end _ _)
              clear V
              have hRV := V2.row
              have hrV := V2.eq
              have hRK := K.row
              have hrK := K.eq
              have hEn := Lib.hid (fun W => aes_Encrypt (xorF vk fun i => q (a + i)) F R W hF (fun j hj => xor_lt8 (hvl j hj) (hq _)) hR)
              have hT := Lib.hid T
              have hK := Lib.hid K
              clear T K V2
              go_wp2_with fail
              refine (hEn.out _).mono ?_
              rintro e w3 ⟨rfl, hb3⟩
              have hRV3 := row_below hRV hb3 hRV.lt
              have T3 := hT.out.step hb3
              have K3 := hK.out.step hb3
              have hL3 := below_step hb3 hL (Nat.le_refl _)
              obtain ⟨en, hen⟩ : ∃ f, f = encB F R (xorF vk fun i => q (a + i)) := ⟨_, rfl⟩
              rw [← hen]
              have hHen := Lib.hid hen
              have hcs := arrK_cells .u8 16 en
              clear hen hT hK hRV hrV hRK hrK hb3 hL
              go_wp2_with fail
              have V4 : At (w3.setRow gv (arrK .u8 16 en)) gv .u8 16 en := At.put hRV3
              have T4 := T3.far (g' := gv) (c := arrK .u8 16 en) (by omega)
              have K4 := K3.far (g' := gv) (c := arrK .u8 16 en) (by omega)
              have hL4 := below_setRow (g := gv) (c := arrK .u8 16 en) hL3 (by omega)
              clear hRV3 T3 K3 hL3 hcs
              generalize w3.setRow gv (arrK .u8 16 en) = W4 at *
              have hcp := fun ty dc sc => run_copy_buf (P := Try.prog) (dT := 25) (sT := 25) (ty := ty) (e := 5) Try.underlying25 (by kernel_rfl) T4.drew (o := a) (n := 16) (dl := M - a) (dc := dc) (sl := 16) (sc := sc) (ad := ⟨gv, 0, none⟩) (b := en)
                (fun j hj => by rw [add0, Nat.zero_add]; exact V4.drew.cell hj) (by show 16 = min 16 (M - a); omega) ha16
              have hs0 : (0 : Int) ≤ (a : Int) := by omega
              have hsM : (a : Int) ≤ (M : Int) := by omega
              have hT := Lib.hid T4
              have hV := Lib.hid V4
              clear T4 V4
              go_region
              all_goals
                go_wp2_with fail
                go_round
                case rel =>
                  refine ⟨k + 1, a + 16, by go_num, by have := hHak.out; omega, by omega, ?_, (K4.drew).far (by omega), ?_, below_setRow hL4.drew (by omega)⟩
                  · rw [← hHq.out]
                    refine (hT.out.drew.cp a 16 en).congr fun p hp => ?_
                    unfold cpF upTo
                    by_cases h1 : a ≤ p ∧ p < a + 16
                    · rw [if_pos h1, if_pos (by omega), hHen.out]
                      unfold sealF
                      have ha := hHak.out
                      rw [show p / 16 + 1 = k + 1 by omega, show p % 16 = p - a by omega]
                      show _ = encB F R (xorF (ivs F R iv q k) fun i => q (16 * k + i)) _
                      rw [← hHvk.out, ← ha]
                    · rw [if_neg h1]
                      by_cases h2 : p < a
                      · rw [if_pos h2, if_pos (by omega)]
                      · rw [if_neg h2, if_neg (by omega)]
                  · rw [← hHq.out]
                    refine (hV.out.drew.far (by omega)).congr fun p hp => ?_
                    show _ = encB F R (xorF (ivs F R iv q k) fun i => q (16 * k + i)) _
                    rw [← hHvk.out, ← hHak.out, hHen.out]
                case measure => simp [intOf]; omega
            · have hd : (j : Int) < 16 := by omega
              have hz : (0 : Int) ≤ (j : Int) := by omega
              have hc1 := V.cell (i := j) (by omega)
              rw [upTo_at] at hc1
              have hc2 := T.cell (i := a + j) (by omega)
              rw [show upTo a (sealF F R iv q) q (a + j) = q (a + j) from if_neg (by omega)] at hc2
              have hfr := V.row.frozen j
              have hx := xor_8 (hvl j (by omega)) (hq (a + j))
              obtain ⟨s, hs⟩ : ∃ s, s = a + j := ⟨_, rfl⟩
              have hws : (a : Int) + (j : Int) = (s : Int) := by omega
              rw [← hs] at hc2 hx
              have hs0 : (0 : Int) ≤ (s : Int) := by omega
              have hsM : (s : Int) < (M : Int) := by omega
              have hHs := Lib.hid hs
              have hV := Lib.hid V
              have hT := Lib.hid T
              clear hs T V
              go_wp2_with fail
              go_region
              all_goals
                go_wp2_with fail
                go_round
                case rel => exact ⟨j + 1, by go_num, by omega, by rw [← upTo_step, show xorF vk (fun i => q (a + i)) j = vk j ^^^ q s by unfold xorF; rw [hHs.out]]; exact (hV.out.set j _).drew, (hT.out.farC (by simp; omega)).drew, (K.farC (by simp; omega)).drew, (hL.setCell (by simp; omega) _).drew⟩
                case measure => simp [intOf]; omega
    · have hd : (i : Int) < (n : Int) := by omega
      have hroom : L + i + 1 ≤ M := by have := hHM.out; omega
      have Tn := T.old (Obj.cells #[.int .u8 (n : Nat)] 5)
      have Kn := K.old (Obj.cells #[.int .u8 (n : Nat)] 5)
      have Vn := V.old (Obj.cells #[.int .u8 (n : Nat)] 5)
      have hLn := hL.alloc hL.size (Obj.cells #[.int .u8 (n : Nat)] 5)
      have hcell : (wr.alloc (.cells #[.int .u8 (n : Nat)] 5)).cell? ⟨wr.heap.size, 0, none⟩ = some (.int .u8 (n : Nat)) := cell_new1 rfl
      have hap := fun ty cc => run_app_buf (P := Try.prog) (ty := ty) (n := L + i) (m := 1) (c := cc) (b := fun _ => n) (ad := ⟨wr.heap.size, 0, none⟩) SBk Tn (fun j hj => by rw [add0, show 0 + j = 0 by omega]; exact hcell) (by omega)
      clear T K V hL
      go_wp2_with (at_builtin; refine wpList_appR rfl (.tmp 26) (.tmp 29) 25 25 rfl rfl rfl (hap _ _) ?_)
      have T2 := (Tn.cp (L + i) 1 fun _ => n).congr (f' := firstF (L + (i + 1)) (padF l n)) (fun p _ => by
        unfold cpF firstF
        by_cases h : p = L + i
        · rw [if_pos (by omega), if_pos (by omega)]; unfold padF; rw [hHl.out, if_neg (by omega)]
        · rw [if_neg (by omega)]
          by_cases h2 : p < L + i
          · rw [if_pos h2, if_pos (by omega)]
          · rw [if_neg h2, if_neg (by omega)])
      go_round
      case rel => exact ⟨i + 1, rfl, by go_num, by omega, T2, Kn.far (by omega), Vn.far (by omega), below_setRow hLn (by omega)⟩
      case measure => simp [intOf]; omega
end Go.Proofs.Ytjihklaocgmlpaa
