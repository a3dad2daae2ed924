/- Contract of the document's Sealed. -/
import Derived.Test.YtjihklaocgmlpaaMode1
import Derived.Test.YtjihklaocgmlpaaCip3
import Derived.Test.YtjihklaocgmlpaaTail
namespace Go.Proofs.Ytjihklaocgmlpaa
open Go.ChangeShapes Go.WideShapes Go.ChangeAt Go.RowKit
set_option maxHeartbeats 4000000
set_option maxRecDepth 100000
theorem bs_join (a b : List UInt8) : (⟨a.toArray⟩ : ByteArray) ++ ⟨b.toArray⟩ = ⟨(a ++ b).toArray⟩ := by
  apply ByteArray.ext
  simp
theorem bs_size (l : List UInt8) : (⟨l.toArray⟩ : ByteArray).size = l.length := by simp [ByteArray.size]
attribute [local go_sem ↓] load_a16 store_a16 execl_a16 execs_a16
attribute [local go_sem] isHead_mk blkOf_mk isAgg_mk cellsV_mk row_drew rowAt_drew row_new_cells row_old rowAt_new rowAt_old setRow_new bs_join bs_size

def strLen : Value → Nat
  | .string s => s.size
  | _ => 0
theorem strLen_mk (l : List UInt8) : strLen (.string ⟨l.toArray⟩) = l.length := by simp [strLen, ByteArray.size]
theorem str_to {P : Program} {t : TypeId} (ht : P.underlying t = some .string) (l m : List UInt8) (z2 : Int) (h1 : 0 ≤ z2) (h3 : z2 ≤ l.length) (hm : l.take z2.toNat = m) (W : World) :
    (Instr.slice t (.string ⟨l.toArray⟩) none (some (.int .i64 z2)) none).run P W = .ok (.string ⟨m.toArray⟩) W := by
  subst hm
  have hs : (⟨l.toArray⟩ : ByteArray).size = l.length := by simp [ByteArray.size]
  simp [Instr.slice, Instr.sliceBounds, run_underlying ht, run_sliceBound, h1, h3, hs, go_sem, bs_ext]
/-- One byte in a new block, made a string. -/
theorem conv_one {w : World} {n : Nat} (hn : n < 256) : (convert 25 9 (.slice (some ⟨w.heap.size, 0, none⟩) 1 1)).run Try.prog (w.alloc (.cells #[.int .u8 (n : Nat)] 5)) = .ok (.string ⟨[UInt8.ofNat n].toArray⟩) (w.alloc (.cells #[.int .u8 (n : Nat)] 5)) := by
  have h : Rd (w.alloc (.cells #[.int .u8 (n : Nat)] 5)) (w.heap.size + 1) (some ⟨w.heap.size, 0, none⟩) (bytesV [UInt8.ofNat n]) := by
    have h1 : bytesV [UInt8.ofNat n] = (#[.int .u8 (n : Nat)] : Array Value).toList := by
      simp [bytesV, u8v]; omega
    rw [h1]
    exact Rd.of_blk (push_new _ _) (by omega)
  exact conv_rd Try.underlying25 Try.underlying5 Try.underlying9 (c := 1) h
theorem conv_row16 {w : World} {g : Nat} {f : Nat → Nat} (T : At w g .u8 16 f) (hf : ∀ i < 16, f i < 256) : (convert 25 9 (.slice (some ⟨g, 0, none⟩) 16 16)).run Try.prog w = .ok (.string ⟨(bLs f 16).toArray⟩) w := by
  have h := conv_rd Try.underlying25 Try.underlying5 Try.underlying9 (c := 16) (T.rdB (n := 16) (by omega) hf)
  rw [bLs_len] at h
  exact h
/-- The padded text. -/
def padL (l : List UInt8) (n i : Nat) : List UInt8 := l ++ List.replicate i (UInt8.ofNat n)
theorem padL_len (l : List UInt8) (n i : Nat) : (padL l n i).length = l.length + i := by simp [padL]
theorem padL_succ (l : List UInt8) (n i : Nat) : padL l n i ++ [UInt8.ofNat n] = padL l n (i + 1) := by simp [padL, List.replicate_succ', List.append_assoc]
theorem padL_byte (l : List UInt8) {n i p : Nat} (hn : n < 256) (hp : p < l.length + i) : byteAt (padL l n i) p = padF l n p := by
  unfold byteAt padL padF
  by_cases h : p < l.length
  · rw [List.getElem?_append_left h, if_pos h]; rfl
  · rw [List.getElem?_append_right (by omega), if_neg h, List.getElem?_replicate, if_pos (by omega)]
    simp
    omega
theorem byteAt_take (l : List UInt8) {n p : Nat} (h : p < n) : byteAt (l.take n) p = byteAt l p := by unfold byteAt; rw [List.getElem?_take_of_lt h]
theorem ref_SixteenOf (l : List UInt8) (f : Nat → Nat) (w : World) (hl : 16 ≤ l.length) (hf : ∀ i < 16, byteAt l i = f i) :
    Calls Try.prog 93 #[.string ⟨l.toArray⟩] w fun e w' => e = .returned (.agg (arrK .u8 16 f)) ∧ Below w.heap.size w w' := by
  have h := ref_Sixteen l w hl
  rw [arrK_congr hf] at h
  exact h
theorem sealF_block {F : Nat → Nat} {R : Nat} {iv q : Nat → Nat} (k : Nat) : bLs (fun i => sealF F R iv q (16 * k + i)) 16 = bLs (ivs F R iv q (k + 1)) 16 := bLs_congr fun i hi => by
  unfold sealF
  rw [show (16 * k + i) / 16 + 1 = k + 1 by omega, show (16 * k + i) % 16 = i by omega]
theorem ref_Sealed (l : List UInt8) (C gw cap N R : Nat) (F iv : Nat → Nat) (w : World) (hC : CipAt w C gw cap N F) (hN : N = 4 * (R + 1)) (hR : R ≤ 14) (hF : ∀ p, F p < 256) (hv : ∀ i < 16, iv i < 256) (hlb : l.length ≤ 140737488351232) :
    Calls Try.prog 52 #[.pointer (some ⟨C, 0, none⟩), .agg (arrK .u8 16 iv), .string ⟨l.toArray⟩] w fun e w' => e = .returned (.string ⟨(bLs (sealF F R iv (padF l (16 - l.length % 16))) (l.length + (16 - l.length % 16))).toArray⟩) ∧ Below w.heap.size w w' := by
  obtain ⟨L, hl⟩ : ∃ L, L = l.length := ⟨_, rfl⟩
  rw [← hl] at hlb ⊢
  obtain ⟨r, hr⟩ : ∃ r, r = L % 16 := ⟨_, rfl⟩
  obtain ⟨n, hn⟩ : ∃ n, n = 16 - r := ⟨_, rfl⟩
  obtain ⟨M, hM⟩ : ∃ M, M = L + n := ⟨_, rfl⟩
  obtain ⟨m, hm⟩ : ∃ m, M = 16 * m := ⟨(L + n) / 16, by omega⟩
  rw [← hr, ← hn, ← hM]
  have C0 : CipAt (w.alloc (Obj.cells (arrK .u8 16 iv) 38)) C gw cap N F := hC.step (below_alloc _ _)
  have V0 : At (w.alloc (Obj.cells (arrK .u8 16 iv) 38)) w.heap.size .u8 16 iv := At.new _ rfl
  have hL0 : Below w.heap.size w (w.alloc (Obj.cells (arrK .u8 16 iv) 38)) := below_alloc _ _
  have hrem : (L : Int) % 16 = (r : Int) := by omega
  have hrt : Int.tmod (L : Int) 16 = (r : Int) := by rw [Int.tmod_eq_emod_of_nonneg (by omega)]; omega
  have hsub : (16 : Int) - (r : Int) = (n : Int) := by omega
  have hn16 : n ≤ 16 := by omega
  have hn1 : 1 ≤ n := by omega
  have hcy : IntKind.u8.wrap (n : Int) = (n : Int) := by rw [IntKind.wrap_u8]; omega
  have hcl : l.length = L := hl.symm
  have hCw : C < w.heap.size := hC.ltC
  have hGw : gw < w.heap.size := hC.ltg
  obtain ⟨gv, hgv⟩ : ∃ g, g = w.heap.size := ⟨_, rfl⟩
  have hgv0 : w.heap.size ≤ gv := by omega
  rw [← hgv] at V0
  have hHgv := Lib.hid hgv
  have hHm := Lib.hid hm
  have hHM := Lib.hid hM
  have hHl := Lib.hid hl
  clear hm hr hn hM hl hgv
  obtain ⟨fin, hfin⟩ : ∃ f, f = bLs (sealF F R iv (padF l n)) M := ⟨_, rfl⟩
  rw [← hfin]
  have hHfin := Lib.hid hfin
  clear hfin
  go_enter Try.func52, Try.ntmps52
  go_wp2_with fail
  generalize w.alloc (Obj.cells (arrK .u8 16 iv) 38) = W1 at *
  rw [← hHgv.out]
  clear hrem hrt hsub hcl
  rw [show (⟨l.toArray⟩ : ByteArray) = ⟨(padL l n 0).toArray⟩ by simp [padL]]
  go_loopw [2, 14] (fun o x wr => ∃ i : Nat, o = .string ⟨(padL l n i).toArray⟩ ∧ x = .int .i64 i ∧ i ≤ n ∧ At wr gv .u8 16 iv ∧ CipAt wr C gw cap N F ∧ Below w.heap.size w wr) (fun _ x _ => 16 - (intOf x).toNat)
  case atStart => exact ⟨0, rfl, rfl, by omega, V0, C0, hL0⟩
  case round =>
    clear V0 C0 hL0
    obtain ⟨i, rfl, rfl, hi, V, Cp, hL⟩ := hrel
    by_cases hin : i = n
    · subst hin
      have hq := fun p => padF_lt (l := l) (n := i) (by omega) p
      obtain ⟨q, hqe⟩ : ∃ f, f = padF l i := ⟨_, rfl⟩
      obtain ⟨pl, hpe⟩ : ∃ f, f = padL l i i := ⟨_, rfl⟩
      have hpb : ∀ p < M, byteAt pl p = q p := fun p hp => by rw [hpe, hqe]; exact padL_byte l (by omega) (by rw [← hHl.out, ← hHM.out]; exact hp)
      have hpl : pl.length = M := by rw [hpe, padL_len, ← hHl.out, hHM.out]
      have hfq := hHfin.out
      rw [← hqe] at hq hfq
      have hHfq := Lib.hid hfq
      clear hfq hHfin
      rw [← hpe]
      have hHp := Lib.hid (And.intro hqe hpe)
      have hHpl := Lib.hid hpl
      clear hqe hpe hpl
      go_wp2_with fail
      go_loopw [2, 8] (fun p o wr => ∃ (k : Nat) (rs ou : List UInt8), p = .string ⟨rs.toArray⟩ ∧ o = .string ⟨ou.toArray⟩ ∧ rs = pl.drop (16 * k) ∧ ou = bLs (sealF F R iv q) (16 * k) ∧ k ≤ m ∧ At wr gv .u8 16 (ivs F R iv q k) ∧ CipAt wr C gw cap N F ∧ Below w.heap.size w wr) (fun p _ _ => strLen p)
      case atStart => exact ⟨0, pl, [], rfl, rfl, by simp, by simp [bLs], by omega, V, Cp, hL⟩
      case round =>
        clear V Cp hL
        obtain ⟨k, rs, ou, rfl, rfl, hrs, hou, hkm, V, Cp, hL⟩ := hrel
        by_cases hkM : k = m
        · have hrs0 : rs = [] := by
            have := hHpl.out
            have := hHm.out
            exact List.eq_nil_of_length_eq_zero (by rw [hrs, List.length_drop]; omega)
          subst hrs0
          have hfo : ou = fin := by rw [hou, hHfq.out, hkM, ← hHm.out]
          subst hfo
          clear hrs hou
          go_wp2_with fail
          go_ret
          exact ⟨rfl, hL⟩
        · obtain ⟨a, ha⟩ : ∃ a, a = 16 * k := ⟨_, rfl⟩
          obtain ⟨t, ht⟩ : ∃ t, t = rs.length := ⟨_, rfl⟩
          have htM : t + a = M := by
            have := hHpl.out
            have := hHm.out
            rw [ht, hrs, List.length_drop]
            omega
          have ht16 : 16 ≤ t := by have := hHm.out; omega
          have htp : (0 : Int) < (t : Int) := by omega
          obtain ⟨b16, hb16⟩ : ∃ b, b = rs.take 16 := ⟨_, rfl⟩
          obtain ⟨r16, hr16⟩ : ∃ b, b = rs.drop 16 := ⟨_, rfl⟩
          obtain ⟨vk, hvk⟩ : ∃ f, f = ivs F R iv q k := ⟨_, rfl⟩
          rw [← hvk] at V
          have hvl : ∀ j < 16, vk j < 256 := fun j hj => by rw [hvk]; exact ivs_lt hF hv hq k j hj
          obtain ⟨blk, hblk⟩ : ∃ f : Nat → Nat, f = fun j => q (16 * k + j) := ⟨_, rfl⟩
          have hbl : ∀ j < 16, blk j < 256 := fun j _ => by rw [hblk]; exact hq _
          have hbb : ∀ j < 16, byteAt b16 j = blk j := fun j hj => by
            rw [hb16, byteAt_take _ hj, hrs, byteAt_drop, hblk]
            exact hpb _ (by have := hHm.out; omega)
          have hsl := Lib.hid (fun W => str_to (P := Try.prog) Try.underlying9 rs b16 16 (by omega) (by omega) hb16.symm W)
          have hsr := str_from (P := Try.prog) Try.underlying9 rs r16 16 (by omega) (by omega) hr16.symm
          obtain ⟨xb, hxb⟩ : ∃ f, f = xorF vk blk := ⟨_, rfl⟩
          have hxl : ∀ j < 16, xb j < 256 := fun j hj => by rw [hxb]; exact xor_lt8 (hvl j hj) (hbl j hj)
          obtain ⟨en, hen⟩ : ∃ f, f = encB F R xb := ⟨_, rfl⟩
          have hel : ∀ j < 16, en j < 256 := fun j hj => by rw [hen]; exact encB_lt hF hxl j hj
          have hSx := Lib.hid (fun W => ref_SixteenOf b16 blk W (by rw [hb16, List.length_take]; omega) hbb)
          have hXo := Lib.hid (fun W => ref_xor16 vk blk W hvl hbl)
          have hEn := Lib.hid (fun W (hW : CipAt W C gw cap N F) => ref_Encrypt xb F C gw cap N R W hW hN hR hF hxl)
          rw [← hxb] at hXo
          rw [← hen] at hEn
          have hnx : en = ivs F R iv q (k + 1) := by
            rw [hen, hxb, hvk, hblk]
            rfl
          obtain ⟨e16, he16⟩ : ∃ e, e = bLs en 16 := ⟨_, rfl⟩
          have he16l : e16.length = 16 := by rw [he16, bLs_len]
          have houl : ou.length = a := by rw [hou, bLs_len, ha]
          have hle : (9223372036854775807 < a + 16) = False := eq_false (by have := hHM.out; omega)
          have hcs := arrK_cells .u8 16 en
          have hout : ou ++ e16 = bLs (sealF F R iv q) (16 * (k + 1)) := by
            rw [show 16 * (k + 1) = 16 * k + 16 by omega, bLs_add, sealF_block, ← hou, ← hnx, he16]
          have hrst : r16 = pl.drop (16 * (k + 1)) := by rw [hr16, hrs, List.drop_drop, show 16 * k + 16 = 16 * (k + 1) by omega]
          have hHout := Lib.hid hout
          have hHrst := Lib.hid hrst
          have hHnx := Lib.hid hnx
          have hHt := Lib.hid ht
          have hHe := Lib.hid he16
          have hVv := Lib.hid V
          have hCc := Lib.hid Cp
          have htl : rs.length = t := ht.symm
          have hvlr := Lib.hid hsr
          have hr16l : r16.length = t - 16 := by rw [hr16, List.length_drop, htl]
          have hHr := Lib.hid hr16l
          clear hrs hou ha ht hb16 hr16 hvk hblk hxb hen hnx hout hrst he16 V Cp hbb hsr hr16l htM
          go_upto_region 8 with (fail)
          generalize ha0 : Act.mk _ _ = a0
          have e0 : a0.tmps[0]?.getD undef = .pointer (some ⟨C, 0, none⟩) := by rw [← ha0]; rfl
          have e2 : a0.tmps[2]?.getD undef = .string ⟨rs.toArray⟩ := by rw [← ha0]; rfl
          have e4 : a0.tmps[4]?.getD undef = .pointer (some ⟨gv, 0, none⟩) := by rw [← ha0]; rfl
          have hz0 : a0.tmps.size = 40 := by rw [← ha0]; rfl
          have hha0 := Lib.hid ha0
          clear ha0
          refine wp_region_tail (fun jx_ => match jx_ with | 0 => SRel.is (.pointer (some ⟨C, 0, none⟩)) | 1 => SRel.is (.agg (arrK .u8 16 vk)) | 2 => SRel.is (.string ⟨rs.toArray⟩) | 3 => SRel.is (.string ⟨b16.toArray⟩) | 4 => SRel.is (.agg (arrK .u8 16 blk)) | 5 => SRel.is (.agg (arrK .u8 16 xb)) | 6 => SRel.is (.agg (arrK .u8 16 en)) | 7 => SRel.any | _ => SRel.any) 7 (by kernel_rfl) (by kernel_rfl) (by kernel_rfl) (slotsOk_of hz0 (by kernel_rfl)) (by kernel_rfl) ⟨?_, ?_, ?_, ?_, ?_, ?_, ?_, ?_, trivial⟩ (of_decide_eq_true (by kernel_rfl))
          · rw [if_neg (by decide)]
            refine calmT_step rfl fun a ω κ hb hu hc hK => ?_
            have h0 : a.tmps[0]?.getD undef = .pointer (some ⟨C, 0, none⟩) := (hu 0 rfl).trans e0
            have hk := Lib.hid (fun w1 (h : Below ω.heap.size ω w1) => hK (.pointer (some ⟨C, 0, none⟩)) w1 rfl h)
            clear hK hu hc
            go_simp
            exact hk.out _ (Below.refl _ _)
          · rw [if_neg (by decide)]
            refine calmT_step rfl fun a ω κ hb hu hc hK => ?_
            have h4 : a.tmps[4]?.getD undef = .pointer (some ⟨gv, 0, none⟩) := (hu 4 rfl).trans e4
            have hk := Lib.hid (fun w1 (h : Below ω.heap.size ω w1) => hK (.agg (arrK .u8 16 vk)) w1 rfl h)
            clear hK hu hc
            have hr1 := (hVv.out.step hb).row
            have hr2 := (hVv.out.step hb).eq
            go_simp
            exact hk.out _ (Below.refl _ _)
          · rw [if_neg (by decide)]
            refine calmT_step rfl fun a ω κ hb hu hc hK => ?_
            have h2 : a.tmps[2]?.getD undef = .string ⟨rs.toArray⟩ := (hu 2 rfl).trans e2
            have hk := Lib.hid (fun w1 (h : Below ω.heap.size ω w1) => hK (.string ⟨rs.toArray⟩) w1 rfl h)
            clear hK hu hc
            go_simp
            exact hk.out _ (Below.refl _ _)
          · rw [if_neg (by decide)]
            refine calmT_step rfl fun a ω κ hb hu hc hK => ?_
            have h28 : a.tmps[28]?.getD undef = .string ⟨rs.toArray⟩ := hc 2 28 rfl rfl
            have hk := Lib.hid (fun w1 (h : Below ω.heap.size ω w1) => hK (.string ⟨b16.toArray⟩) w1 rfl h)
            clear hK hu hc
            have hs := hsl.out ω
            go_simp
            exact hk.out _ (Below.refl _ _)
          · rw [if_neg (by decide)]
            refine calmT_step rfl fun a ω κ hb hu hc hK => ?_
            have h29 : a.tmps[29]?.getD undef = .string ⟨b16.toArray⟩ := hc 3 29 rfl rfl
            have hk := Lib.hid (fun w1 (h : Below ω.heap.size ω w1) => hK (.agg (arrK .u8 16 blk)) w1 rfl h)
            clear hK hu hc
            go_simp
            go_at_call 93
            refine (hSx.out _).mono ?_
            rintro e w1 ⟨rfl, hb1⟩
            exact hk.out _ hb1
          · rw [if_neg (by decide)]
            refine calmT_step rfl fun a ω κ hb hu hc hK => ?_
            have h27 : a.tmps[27]?.getD undef = .agg (arrK .u8 16 vk) := hc 1 27 rfl rfl
            have h30 : a.tmps[30]?.getD undef = .agg (arrK .u8 16 blk) := hc 4 30 rfl rfl
            have hk := Lib.hid (fun w1 (h : Below ω.heap.size ω w1) => hK (.agg (arrK .u8 16 xb)) w1 rfl h)
            clear hK hu hc
            go_simp
            go_at_call 94
            refine (hXo.out _).mono ?_
            rintro e w1 ⟨rfl, hb1⟩
            exact hk.out _ hb1
          · rw [if_neg (by decide)]
            refine calmT_step rfl fun a ω κ hb hu hc hK => ?_
            have h26 : a.tmps[26]?.getD undef = .pointer (some ⟨C, 0, none⟩) := hc 0 26 rfl rfl
            have h31 : a.tmps[31]?.getD undef = .agg (arrK .u8 16 xb) := hc 5 31 rfl rfl
            have hk := Lib.hid (fun w1 (h : Below ω.heap.size ω w1) => hK (.agg (arrK .u8 16 en)) w1 rfl h)
            clear hK hu hc
            go_simp
            go_at_call 43
            refine (hEn.out _ (hCc.out.step hb)).mono ?_
            rintro e w1 ⟨rfl, hb1⟩
            exact hk.out _ hb1
          · rw [if_pos rfl]
            refine last_of rfl fun aa ω hb hu hsz hdf hc => ?_
            have h4 : aa.tmps[4]?.getD undef = .pointer (some ⟨gv, 0, none⟩) := (hu 4 rfl).trans e4
            have h32 : aa.tmps[32]?.getD undef = .agg (arrK .u8 16 en) := hc 6 32 (by decide) rfl
            have hHz := Lib.hid (And.intro hu (And.intro hsz hdf))
            clear hc hu hsz hdf hz0
            have hRV := (hVv.out.step hb).row
            go_simp
            have ha0 := hha0.out
            subst ha0
            have he := act_patchT (n := 40) 7 [false, false, false, false, false, false, false, false, false, false, false, false, false, false, false, false, false, false, false, false, false, false, false, false, false, false, true, true, true, true, true, true, true, false, false, false, false, false, false, false] rfl (by kernel_rfl) hHz.out.1 hHz.out.2.1 hHz.out.2.2
            simp only [patch, cond_true, cond_false, Nat.reduceAdd] at he
            clear hHz hha0 e0 e2 e4
            rw [he]
            clear he
            generalize aa.tmps[26]?.getD undef = x26 at *
            generalize aa.tmps[27]?.getD undef = x27 at *
            generalize aa.tmps[28]?.getD undef = x28 at *
            generalize aa.tmps[29]?.getD undef = x29 at *
            generalize aa.tmps[30]?.getD undef = x30 at *
            generalize aa.tmps[31]?.getD undef = x31 at *
            generalize aa.tmps[32]?.getD undef = x32 at *
            have hV4 : At (ω.setRow gv (arrK .u8 16 en)) gv .u8 16 en := At.put hRV
            have C4 : CipAt (ω.setRow gv (arrK .u8 16 en)) C gw cap N F := (hCc.out.step hb).below (below_setRow (Below.refl w.heap.size _) hgv0) hCw hGw
            have hL4 : Below w.heap.size w (ω.setRow gv (arrK .u8 16 en)) := below_setRow (below_step hb hL (Nat.le_refl _)) hgv0
            clear hb hRV hVv hCc hL hSx hXo hEn hsl
            generalize ω.setRow gv (arrK .u8 16 en) = W4 at *
            have hcv := conv_row16 hV4 hel
            rw [← hHe.out] at hcv
            have hsr := hvlr.out
            go_wp2_with fail
            go_round
            case rel => exact ⟨k + 1, r16, ou ++ e16, rfl, rfl, hHrst.out, hHout.out, by omega, by rw [← hHnx.out]; exact hV4, C4, hL4⟩
            case measure =>
              show strLen (.string ⟨r16.toArray⟩) < strLen (.string ⟨rs.toArray⟩)
              rw [strLen_mk, strLen_mk, hHr.out, htl]
              omega
    · have hd : (i : Int) < (n : Int) := by omega
      have hcv := conv_one (w := wr) (n := n) (by omega)
      have hlen : (padL l n i).length = L + i := by rw [padL_len, ← hHl.out]
      have hle : (9223372036854775807 < L + i + 1) = False := eq_false (by omega)
      have Vn := V.old (Obj.cells #[.int .u8 (n : Nat)] 5)
      have Cn := Cp.step (below_alloc wr (Obj.cells #[.int .u8 (n : Nat)] 5))
      have hLn := hL.alloc hL.size (Obj.cells #[.int .u8 (n : Nat)] 5)
      clear V Cp hL
      go_wp2_with fail
      go_round
      case rel => exact ⟨i + 1, by rw [padL_succ], by go_num, by omega, Vn, Cn, hLn⟩
      case measure => simp [intOf]; omega
end Go.Proofs.Ytjihklaocgmlpaa
