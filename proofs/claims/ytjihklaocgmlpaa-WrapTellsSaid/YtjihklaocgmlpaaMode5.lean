/- Contract of the document's Opened. -/
import Derived.Test.YtjihklaocgmlpaaMode3
import Derived.Test.YtjihklaocgmlpaaMode4
import Derived.Test.YtjihklaocgmlpaaCip4
namespace Go.Proofs.Ytjihklaocgmlpaa
open Go.ChangeShapes Go.WideShapes Go.ChangeAt Go.RowKit
set_option maxHeartbeats 4000000
set_option maxRecDepth 100000
attribute [local go_sem ↓] load_a16 store_a16 execl_a16 execs_a16
attribute [local go_sem] isHead_mk blkOf_mk isAgg_mk cellsV_mk row_drew rowAt_drew row_new_cells row_old rowAt_new rowAt_old setRow_new bs_join bs_size

def RetOpenS (r : List UInt8 × Nat) (w : World) (e : Ending) (w' : World) : Prop := e = .returned (.tuple #[.string ⟨r.1.toArray⟩, .int .i64 (r.2 : Nat)]) ∧ Below w.heap.size w w'
theorem ref_OpenedBad (l : List UInt8) (C R : Nat) (F iv : Nat → Nat) (w : World) (hbad : l.length = 0 ∨ l.length % 16 ≠ 0) :
    Calls Try.prog 50 #[.pointer (some ⟨C, 0, none⟩), .agg (arrK .u8 16 iv), .string ⟨l.toArray⟩] w (RetOpenS (openR F R iv l) w) := by
  have hr0 : openR F R iv l = ([], 1) := if_pos hbad
  rw [hr0]
  have hL0 : Below w.heap.size w (w.alloc (Obj.cells (arrK .u8 16 iv) 38)) := by go_grown
  have hfin : RetOpenS ([], 1) w (.returned (.tuple #[.string ⟨#[]⟩, .int .i64 1])) (w.alloc (Obj.cells (arrK .u8 16 iv) 38)) := ⟨rfl, hL0⟩
  have hF := Lib.hid hfin
  clear hfin
  by_cases h0 : l = []
  · subst h0
    clear hbad hr0
    go_enter Try.func50, Try.ntmps50
    go_wp2_with fail
    exact bodyPost_ret (results_tmp2 (t := 6) (u := 7) rfl _ _ _) rfl hF.out
  · have hlp : 0 < l.length := List.length_pos_iff.2 h0
    obtain ⟨L, hL⟩ : ∃ L, L = l.length := ⟨_, rfl⟩
    obtain ⟨r, hr⟩ : ∃ r, r = L % 16 := ⟨_, rfl⟩
    have hrp : (0 : Int) < (r : Int) := by omega
    have hrem : (L : Int) % 16 = (r : Int) := by omega
    have hrt : Int.tmod (L : Int) 16 = (r : Int) := by rw [Int.tmod_eq_emod_of_nonneg (by omega)]; omega
    have hll : l.length = L := hL.symm
    have hne : l.isEmpty = false := by cases l with | nil => exact absurd rfl h0 | cons => rfl
    clear hbad hr0 hL hr
    go_enter Try.func50, Try.ntmps50
    go_wp2_with fail
    exact bodyPost_ret (results_tmp2 (t := 6) (u := 7) rfl _ _ _) rfl hF.out
theorem ref_OpenedOk (l : List UInt8) (L m C gw cap N R : Nat) (F iv : Nat → Nat) (w : World) (hC : CipAt w C gw cap N F) (hN : N = 4 * (R + 1)) (hR : R ≤ 14) (hF : ∀ p, F p < 256) (hv : ∀ i < 16, iv i < 256) (hl : l.length = L) (hL16 : L = 16 * m) (hm0 : 0 < m) (hlb : L ≤ 140737488351232) :
    Calls Try.prog 50 #[.pointer (some ⟨C, 0, none⟩), .agg (arrK .u8 16 iv), .string ⟨l.toArray⟩] w (RetOpenS (openR F R iv l) w) := by
  have hr0 : openR F R iv l = if goodO (opnF F R iv (byteAt l)) L then (bLs (opnF F R iv (byteAt l)) (L - opnF F R iv (byteAt l) (L - 1)), 0) else ([], 4) := by
    unfold openR
    rw [hl, if_neg (by omega)]
  obtain ⟨r0, hr0e⟩ : ∃ r, r = openR F R iv l := ⟨_, rfl⟩
  rw [← hr0e] at hr0 ⊢
  have hcl := fun p => byteAt_lt l p
  obtain ⟨o, ho⟩ : ∃ f, f = opnF F R iv (byteAt l) := ⟨_, rfl⟩
  have hol := fun p => opnF_lt (R := R) hF hv hcl p
  have hoA := fun k j => opnF_at F R iv (byteAt l) k j
  rw [← ho] at hr0 hol hoA
  have hHr := Lib.hid hr0
  have hHo := Lib.hid hoA
  clear hr0e hr0 ho hoA
  have C0 : CipAt (w.alloc (Obj.cells (arrK .u8 16 iv) 38)) C gw cap N F := hC.step (below_alloc _ _)
  have V0 : At (w.alloc (Obj.cells (arrK .u8 16 iv) 38)) w.heap.size .u8 16 iv := At.new _ rfl
  have hL0 : Below w.heap.size w (w.alloc (Obj.cells (arrK .u8 16 iv) 38)) := below_alloc _ _
  have hrem : (L : Int) % 16 = 0 := by omega
  have hrt : Int.tmod (L : Int) 16 = 0 := by rw [Int.tmod_eq_emod_of_nonneg (by omega)]; omega
  have hne : l.isEmpty = false := by
    cases l with
    | nil => simp at hl; omega
    | cons => rfl
  have hCw : C < w.heap.size := hC.ltC
  have hGw : gw < w.heap.size := hC.ltg
  obtain ⟨gv, hgv⟩ : ∃ g, g = w.heap.size := ⟨_, rfl⟩
  have hgv0 : w.heap.size ≤ gv := by omega
  rw [← hgv] at V0
  have hHgv := Lib.hid hgv
  have hHm := Lib.hid hL16
  have hL1 : 16 ≤ L := by omega
  clear hL16 hgv
  go_enter Try.func50, Try.ntmps50
  go_wp2_with fail
  generalize w.alloc (Obj.cells (arrK .u8 16 iv) 38) = W1 at *
  rw [← hHgv.out]
  have hHl := Lib.hid hl
  clear hrem hrt hne hl
  go_loopw [2, 8] (fun p ov wr => ∃ (k : Nat) (rs ou : List UInt8), p = .string ⟨rs.toArray⟩ ∧ ov = .string ⟨ou.toArray⟩ ∧ rs = l.drop (16 * k) ∧ ou = bLs o (16 * k) ∧ k ≤ m ∧ At wr gv .u8 16 (prevF iv (byteAt l) k) ∧ CipAt wr C gw cap N F ∧ Below w.heap.size w wr) (fun p _ _ => strLen p)
  case atStart => exact ⟨0, l, [], rfl, rfl, by simp, by simp [bLs], by omega, V0, C0, hL0⟩
  case round =>
    clear V0 C0 hL0
    obtain ⟨k, rs, ou, rfl, rfl, hrs, hou, hkm, V, Cp, hL⟩ := hrel
    by_cases hkM : k = m
    · have hrs0 : rs = [] := by
        have := hHl.out
        have := hHm.out
        exact List.eq_nil_of_length_eq_zero (by rw [hrs, List.length_drop]; omega)
      subst hrs0
      have hoe : ou = bLs o L := by rw [hou, hkM, ← hHm.out]
      have houl : ou.length = L := by rw [hoe, bLs_len]
      have hbyte : ∀ p < L, byteAt ou p = o p := fun p hp => by
        rw [hoe]
        unfold byteAt bLs
        have := hol p
        rw [List.getElem?_map, List.getElem?_range hp]
        simp
        omega
      have htake : ∀ u ≤ L, ou.take u = bLs o u := fun u hu => by
        rw [hoe]
        unfold bLs
        rw [← List.map_take, List.take_range, Nat.min_eq_left hu]
      clear hrs hou hoe V Cp
      obtain ⟨nn, hnn⟩ : ∃ x, x = o (L - 1) := ⟨_, rfl⟩
      obtain ⟨s, hs⟩ : ∃ x, x = L - 1 := ⟨_, rfl⟩
      have hnl : nn < 256 := by rw [hnn]; exact hol _
      have hws : (L : Int) - 1 = (s : Int) := by omega
      have hix := str_index ou s (s : Int) rfl (by omega)
      rw [show byteAt ou s = nn by rw [hbyte s (by omega), hs, hnn]] at hix
      have hgood := Lib.hid (show goodO o L ↔ (1 ≤ nn ∧ nn ≤ 16 ∧ ∀ p, p < nn → o (L - nn + p) = nn) by unfold goodO; rw [← hnn])
      have hHnn := Lib.hid hnn
      clear hnn hs
      have hcy : IntKind.i64.wrap (nn : Int) = (nn : Int) := by rw [IntKind.wrap_i64]; omega
      have hbadF : ¬ (1 ≤ nn ∧ nn ≤ 16 ∧ ∀ p, p < nn → o (L - nn + p) = nn) → ∀ W, Below w.heap.size w W → RetOpenS r0 w (.returned (.tuple #[.string ⟨#[]⟩, .int .i64 4])) W := fun h W hW => by
        rw [hHr.out, if_neg (fun h' => h (hgood.out.1 h'))]
        exact ⟨rfl, hW⟩
      have hHb := Lib.hid hbyte
      have hHt := Lib.hid htake
      clear hbyte htake
      by_cases hz : nn = 0
      · have hfin := Lib.hid (hbadF (by omega) wr hL)
        have hze : ((nn : Int) == 0) = true := by rw [beq_iff_eq]; omega
        clear hbadF hol hz
        go_wp2_with fail
        exact bodyPost_ret (results_tmp2 (t := 6) (u := 7) rfl _ _ _) rfl hfin.out
      · have hze : ((nn : Int) == 0) = false := by rw [beq_eq_false_iff_ne]; omega
        by_cases h16 : (16 : Int) < (nn : Int)
        · have hfin := Lib.hid (hbadF (by omega) wr hL)
          clear hbadF hol
          go_wp2_with fail
          exact bodyPost_ret (results_tmp2 (t := 6) (u := 7) rfl _ _ _) rfl hfin.out
        · have h162 : decide ((16 : Int) < (nn : Int)) = false := by simp; omega
          obtain ⟨u, hu⟩ : ∃ x, x = L - nn := ⟨_, rfl⟩
          have hwu : (L : Int) - (nn : Int) = (u : Int) := by omega
          have hun : u + nn = L := by omega
          have hu0 : (0 : Int) ≤ (u : Int) := by omega
          have hu1 : (u : Int) ≤ (L : Int) := by omega
          have hHu := Lib.hid hu
          have hbadF := Lib.hid hbadF
          clear hu
          go_wp2_with fail
          clear hix
          go_loopw [12] (fun x wx => ∃ i q : Nat, x = .int .i64 q ∧ q = u + i ∧ i ≤ nn ∧ (∀ p, p < i → o (u + p) = nn) ∧ Below w.heap.size w wx) (fun x _ => L - (intOf x).toNat)
          case atStart => exact ⟨0, u, rfl, rfl, by omega, fun p hp => absurd hp (by omega), hL⟩
          case round =>
            clear hL
            obtain ⟨i, q, rfl, hq, hi, hall, hL⟩ := hrel
            by_cases hin : i = nn
            · have hfin : r0 = (bLs o u, 0) := by
                rw [hHr.out, if_pos (hgood.out.2 ⟨by omega, by omega, fun p hp => by rw [← hHu.out]; exact hall p (by omega)⟩), ← hHnn.out, ← hHu.out]
              have hF : RetOpenS r0 w (.returned (.tuple #[.string ⟨(bLs o u).toArray⟩, .int .i64 0])) wr := by
                rw [hfin]
                exact ⟨rfl, hL⟩
              have hHF := Lib.hid hF
              have hsl := str_to (P := Try.prog) Try.underlying9 ou (bLs o u) (u : Int) (by omega) (by omega) (by rw [Int.toNat_natCast]; exact hHt.out u (by omega))
              have hw1 : ¬ (q : Int) < (L : Int) := by omega
              clear hF hfin hall hol hq
              go_wp2_with fail
              exact bodyPost_ret (results_tmp2 (t := 6) (u := 7) rfl _ _ _) rfl hHF.out
            · have hd : (q : Int) < (L : Int) := by omega
              have hi0 : (0 : Int) ≤ (q : Int) := by omega
              have hyl : o q < 256 := hol _
              obtain ⟨y, hy⟩ : ∃ y, y = o q := ⟨_, rfl⟩
              have hix := str_index ou q (q : Int) rfl (by omega)
              rw [hHb.out q (by omega), ← hy] at hix
              rw [← hy] at hyl
              by_cases hyn : y = nn
              · have hHa := Lib.hid hall
                have hHq := Lib.hid hq
                have hbn : ((y : Int) != (nn : Int)) = false := by rw [bne_eq_false_iff_eq]; omega
                have hHy := Lib.hid (show o (u + i) = nn by rw [← hq, ← hy]; exact hyn)
                clear hall hy hyn hq hol
                go_wp2_with fail
                go_round
                case rel => exact ⟨i + 1, q + 1, by go_num, by have := hHq.out; omega, by have := hHq.out; omega, fun p hp => by
                  by_cases hpi : p = i
                  · rw [hpi]; exact hHy.out
                  · exact hHa.out p (by omega), hL⟩
                case measure => simp [intOf]; omega
              · have hbn : ((y : Int) != (nn : Int)) = true := by rw [bne_iff_ne]; omega
                have hfin := Lib.hid (hbadF.out (fun h => hyn (by rw [hy, hq, hHu.out]; exact h.2.2 i (by omega))) wr hL)
                clear hall hy hyn hq hol
                go_wp2_with fail
                exact bodyPost_ret (results_tmp2 (t := 6) (u := 7) rfl _ _ _) rfl hfin.out
    · obtain ⟨a, ha⟩ : ∃ a, a = 16 * k := ⟨_, rfl⟩
      obtain ⟨t, ht⟩ : ∃ t, t = rs.length := ⟨_, rfl⟩
      have htM : t + a = L := by
        have := hHl.out
        have := hHm.out
        rw [ht, hrs, List.length_drop]
        omega
      have ht16 : 16 ≤ t := by have := hHm.out; omega
      have htp : (0 : Int) < (t : Int) := by omega
      obtain ⟨b16, hb16⟩ : ∃ b, b = rs.take 16 := ⟨_, rfl⟩
      obtain ⟨r16, hr16⟩ : ∃ b, b = rs.drop 16 := ⟨_, rfl⟩
      obtain ⟨pv, hpv⟩ : ∃ f, f = prevF iv (byteAt l) k := ⟨_, rfl⟩
      have hpl : ∀ i < 16, pv i < 256 := fun i hi => by rw [hpv]; exact prevF_lt hv hcl k i hi
      rw [← hpv] at V
      obtain ⟨blk, hblk⟩ : ∃ f : Nat → Nat, f = fun i => byteAt l (16 * k + i) := ⟨_, rfl⟩
      have hbl : ∀ i < 16, blk i < 256 := fun i _ => by rw [hblk]; exact hcl _
      have hbb : ∀ j < 16, byteAt b16 j = blk j := fun j hj => by
        rw [hb16, byteAt_take _ hj, hrs, byteAt_drop, hblk]
      have hsl := str_to (P := Try.prog) Try.underlying9 rs b16 16 (by omega) (by omega) hb16.symm
      have hsr := Lib.hid (fun W => str_from (P := Try.prog) Try.underlying9 rs r16 16 (by omega) (by omega) hr16.symm W)
      obtain ⟨de, hde⟩ : ∃ f, f = decB F R blk := ⟨_, rfl⟩
      have hdel : ∀ i < 16, de i < 256 := fun i hi => by rw [hde]; exact decB_lt hF hbl i hi
      obtain ⟨xd, hxd⟩ : ∃ f, f = xorF de pv := ⟨_, rfl⟩
      have hxl : ∀ j < 16, xd j < 256 := fun j hj => by rw [hxd]; exact xor_lt8 (hdel j hj) (hpl j hj)
      have hSx := Lib.hid (fun W => ref_SixteenOf b16 blk W (by rw [hb16, List.length_take]; omega) hbb)
      have hXo := Lib.hid (fun W => ref_xor16 de pv W hdel hpl)
      have hDe := Lib.hid (fun W (hW : CipAt W C gw cap N F) => ref_Decrypt blk F C gw cap N R W hW hN hR hF hbl)
      rw [← hxd] at hXo
      rw [← hde] at hDe
      obtain ⟨e16, he16⟩ : ∃ e, e = bLs xd 16 := ⟨_, rfl⟩
      have he16l : e16.length = 16 := by rw [he16, bLs_len]
      have houl : ou.length = a := by rw [hou, bLs_len, ha]
      have hle : (9223372036854775807 < a + 16) = False := eq_false (by omega)
      have hout : ou ++ e16 = bLs o (16 * (k + 1)) := by
        rw [show 16 * (k + 1) = 16 * k + 16 by omega, bLs_add, ← hou, he16]
        congr 1
        refine bLs_congr fun i hi => ?_
        rw [hHo.out k i hi, hxd, hde, hblk, hpv]
        rfl
      have hrst : r16 = l.drop (16 * (k + 1)) := by rw [hr16, hrs, List.drop_drop, show 16 * k + 16 = 16 * (k + 1) by omega]
      have hHout := Lib.hid hout
      have hHrst := Lib.hid hrst
      have hpn := Lib.hid (show blk = prevF iv (byteAt l) (k + 1) by rw [prevF_succ, hblk])
      have hHe := Lib.hid he16
      have hVv := Lib.hid V
      have hCc := Lib.hid Cp
      have htl : rs.length = t := ht.symm
      have hr16l : r16.length = t - 16 := by rw [hr16, List.length_drop, htl]
      have hHr6 := Lib.hid hr16l
      have hcb := arrK_cells .u8 16 blk
      have hcx := arrK_cells .u8 16 xd
      clear hrs hou ha ht hb16 hr16 hpv hblk hxd hde hout hrst he16 V Cp hbb hr16l htM
      go_wp2_with fail
      refine (hSx.out _).mono ?_
      rintro e w1 ⟨rfl, hb1⟩
      have V1 := (hVv.out.step hb1).old (Obj.cells (arrK .u8 16 blk) 38)
      have C1 := (hCc.out.step hb1).step (below_alloc w1 (Obj.cells (arrK .u8 16 blk) 38))
      have B1 : At (w1.alloc (Obj.cells (arrK .u8 16 blk) 38)) w1.heap.size .u8 16 blk := At.new _ rfl
      have hL1 := (below_step hb1 hL (Nat.le_refl _)).alloc (Nat.le_trans hL.size hb1.size) (Obj.cells (arrK .u8 16 blk) 38)
      have hgb : gv < w1.heap.size := Nat.lt_of_lt_of_le hVv.out.lt hb1.size
      have hz16 : Cells #[Value.int IntKind.u8 0, Value.int IntKind.u8 0, Value.int IntKind.u8 0, Value.int IntKind.u8 0, Value.int IntKind.u8 0, Value.int IntKind.u8 0, Value.int IntKind.u8 0, Value.int IntKind.u8 0, Value.int IntKind.u8 0, Value.int IntKind.u8 0, Value.int IntKind.u8 0, Value.int IntKind.u8 0, Value.int IntKind.u8 0, Value.int IntKind.u8 0, Value.int IntKind.u8 0, Value.int IntKind.u8 0] 16 := by rw [zeroA16]; exact arrK_cells _ _ _
      clear hVv hCc hL hb1 hSx hsl
      go_upto_region 6 with (fail)
      clear hcb
      generalize w1.alloc (Obj.cells (arrK .u8 16 blk) 38) = W2 at *
      generalize w1.heap.size = gb at *
      have hVv := Lib.hid V1
      have hCc := Lib.hid C1
      have hBb := Lib.hid B1
      clear V1 C1 B1
      generalize ha0 : Act.mk _ _ = a0
      have e0 : a0.tmps[0]?.getD undef = .pointer (some ⟨C, 0, none⟩) := by rw [← ha0]; rfl
      have e4 : a0.tmps[4]?.getD undef = .pointer (some ⟨gv, 0, none⟩) := by rw [← ha0]; rfl
      have e9 : a0.tmps[9]?.getD undef = .pointer (some ⟨gb, 0, none⟩) := by rw [← ha0]; rfl
      have hz0 : a0.tmps.size = 73 := by rw [← ha0]; rfl
      have hha0 := Lib.hid ha0
      clear ha0
      refine wp_region_fresh ⟨fun jx_ => match jx_ with | 0 => some (.pointer (some ⟨C, 0, none⟩)) | 1 => some (.agg (arrK .u8 16 blk)) | 2 => some (.agg (arrK .u8 16 de)) | 3 => some (.agg (arrK .u8 16 pv)) | 4 => some (.agg (arrK .u8 16 xd)) | _ => none, fun jx_ => match jx_ with | 5 => some 16 | _ => none, fun jx_ => match jx_ with | 6 => some 5 | _ => none, fun jx_ => match jx_ with | 6 => arrK .u8 16 xd | _ => #[]⟩ (by kernel_rfl) (by kernel_rfl) (by kernel_rfl) (slotsOk_of hz0 (by kernel_rfl)) rfl ⟨?_, ?_, ?_, ?_, ?_, ?_, ?_, trivial⟩ ?_
      · refine fstep_val rfl rfl (calm_step rfl fun aa ω κ hb hu hc hK => ?_)
        have h0 : aa.tmps[0]?.getD undef = .pointer (some ⟨C, 0, none⟩) := (hu 0 rfl).trans e0
        have hk := Lib.hid (fun w1 (h : Below ω.heap.size ω w1) => hK (.pointer (some ⟨C, 0, none⟩)) w1 rfl h)
        clear hK hu hc
        go_simp
        exact hk.out _ (Below.refl _ _)
      · refine fstep_val rfl rfl (calm_step rfl fun aa ω κ hb hu hc hK => ?_)
        have h9 : aa.tmps[9]?.getD undef = .pointer (some ⟨gb, 0, none⟩) := (hu 9 rfl).trans e9
        have hk := Lib.hid (fun w1 (h : Below ω.heap.size ω w1) => hK (.agg (arrK .u8 16 blk)) w1 rfl h)
        clear hK hu hc
        have hr1 := (hBb.out.step hb).row
        have hr2 := (hBb.out.step hb).eq
        go_simp
        exact hk.out _ (Below.refl _ _)
      · refine fstep_val rfl rfl (calm_step rfl fun aa ω κ hb hu hc hK => ?_)
        have h27 : aa.tmps[27]?.getD undef = .pointer (some ⟨C, 0, none⟩) := hc 0 27 rfl rfl
        have h28 : aa.tmps[28]?.getD undef = .agg (arrK .u8 16 blk) := hc 1 28 rfl rfl
        have hk := Lib.hid (fun w1 (h : Below ω.heap.size ω w1) => hK (.agg (arrK .u8 16 de)) w1 rfl h)
        clear hK hu hc
        go_simp
        go_at_call 45
        refine (hDe.out _ (hCc.out.step hb)).mono ?_
        rintro e w1 ⟨rfl, hb1⟩
        exact hk.out _ hb1
      · refine fstep_val rfl rfl (calm_step rfl fun aa ω κ hb hu hc hK => ?_)
        have h4 : aa.tmps[4]?.getD undef = .pointer (some ⟨gv, 0, none⟩) := (hu 4 rfl).trans e4
        have hk := Lib.hid (fun w1 (h : Below ω.heap.size ω w1) => hK (.agg (arrK .u8 16 pv)) w1 rfl h)
        clear hK hu hc
        have hr1 := (hVv.out.step hb).row
        have hr2 := (hVv.out.step hb).eq
        go_simp
        exact hk.out _ (Below.refl _ _)
      · refine fstep_val rfl rfl (calm_step rfl fun aa ω κ hb hu hc hK => ?_)
        have h29 : aa.tmps[29]?.getD undef = .agg (arrK .u8 16 de) := hc 2 29 rfl rfl
        have h30 : aa.tmps[30]?.getD undef = .agg (arrK .u8 16 pv) := hc 3 30 rfl rfl
        have hk := Lib.hid (fun w1 (h : Below ω.heap.size ω w1) => hK (.agg (arrK .u8 16 xd)) w1 rfl h)
        clear hK hu hc
        go_simp
        go_at_call 94
        refine (hXo.out _).mono ?_
        rintro e w1 ⟨rfl, hb1⟩
        exact hk.out _ hb1
      · refine fstep_al (n := 16) rfl rfl fun aa ω κ hK => ?_
        have hk := Lib.hid hK
        clear hK
        go_simp
        exact hk.out _ _ hz16
      · refine fstep_st (j := 5) (n := 16) (d := 10) rfl rfl rfl rfl rfl hcx.1 rfl rfl fun aa ω κ g hb hu hc hp hr hK => ?_
        have h31 : aa.tmps[31]?.getD undef = .agg (arrK .u8 16 xd) := hc 4 31 rfl rfl
        have hk := Lib.hid hK
        clear hK hu hc
        have hcc := hcx
        go_simp
        exact hk.out undef
      · intro a1 w1 G I
        have ha0 := hha0.out
        subst ha0
        have he := act_patch (n := 73) [false, false, false, false, false, false, false, false, false, false, true, false, false, false, false, false, false, false, false, false, false, false, false, false, false, false, false, true, true, true, true, true, false, false, false, false, false, false, false, false, false, false, false, false, false, false, false, false, false, false, false, false, false, false, false, false, false, false, false, false, false, false, false, false, false, false, false, false, false, false, false, false, false] rfl (by kernel_rfl) I.un I.sz I.df
        simp only [patch, cond_true, cond_false, Nat.reduceAdd] at he
        have hal10 := I.al 5 10 16 rfl rfl rfl
        have hV2 := Lib.hid (hVv.out.step I.bel)
        have hC2 := Lib.hid (hCc.out.step I.bel)
        have hB2 := Lib.hid (hBb.out.step I.bel)
        have hL2 := below_step I.bel hL1 (Nat.le_refl _)
        have X2 : At w1 (G 5) .u8 16 xd := ⟨(I.blk 5 16 rfl rfl).2, (I.row 6 5 rfl rfl).2.2⟩
        clear hVv hCc hBb hL1 hDe hXo
        clear I hz0 hha0 e0 e4 e9
        rw [he]
        clear he
        rw [hal10]
        clear hal10
        generalize a1.tmps[27]?.getD undef = x27 at *
        generalize a1.tmps[28]?.getD undef = x28 at *
        generalize a1.tmps[29]?.getD undef = x29 at *
        generalize a1.tmps[30]?.getD undef = x30 at *
        generalize a1.tmps[31]?.getD undef = x31 at *
        have hcv := conv_row16 X2 hxl
        rw [← hHe.out] at hcv
        go_upto_region 8 with (fail)
        clear hcv X2
        have hs2 := hsr.out
        have hRB := hB2.out.row
        have hrB := hB2.out.eq
        have hRV := hV2.out.row
        have hcb := arrK_cells .u8 16 blk
        go_region
        all_goals
          go_wp2_with fail
          go_round
          case rel => exact ⟨k + 1, r16, ou ++ e16, rfl, rfl, hHrst.out, hHout.out, by omega, by rw [← hpn.out]; first | exact At.put hRV | exact (At.put hRV).drew, (hC2.out.step ((Below.refl _ _).drew)).below (below_setRow (Below.refl w.heap.size _) hgv0) hCw hGw, below_setRow hL2.drew hgv0⟩
          case measure =>
            show strLen (.string ⟨r16.toArray⟩) < strLen (.string ⟨rs.toArray⟩)
            rw [strLen_mk, strLen_mk, hHr6.out, htl]
            omega
end Go.Proofs.Ytjihklaocgmlpaa
