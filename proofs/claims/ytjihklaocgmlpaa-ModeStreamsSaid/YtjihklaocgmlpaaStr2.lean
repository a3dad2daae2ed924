/- Contract of package mode: Stream. -/
import Derived.Test.YtjihklaocgmlpaaStr1
import Derived.Test.YtjihklaocgmlpaaAes3
import Derived.Test.YtjihklaocgmlpaaAes6
import Derived.Test.YtjihklaocgmlpaaTail
namespace Go.Proofs.Ytjihklaocgmlpaa
open Go.ChangeShapes Go.WideShapes Go.ChangeAt Go.RowKit
set_option maxHeartbeats 4000000
set_option maxRecDepth 100000
attribute [local go_sem ↓] load_a16 store_a16 execl_a16 execs_a16 load_akey store_akey execl_akey execs_akey
attribute [local go_sem] isHead_mk blkOf_mk isAgg_mk cellsV_mk row_drew rowAt_drew row_new_cells row_old rowAt_new rowAt_old setRow_new

theorem mode_Stream (A : Option Addr) (l : List UInt8) (L c R a : Nat) (F iv : Nat → Nat) (w : World) (hA : Rd w w.heap.size A (bytesV l)) (hl : l.length = L) (hc : L ≤ c ∧ c ≤ 140737488351232) (hR : R ≤ 14) (hF : ∀ p, F p < 256) (hv : ∀ i < 16, iv i < 256) :
    Calls Try.prog 20 #[.agg (keyV F R), .agg (arrK .u8 16 iv), .int .u64 a, .slice A L c] w (BytesOk (strF F R iv a (byteAt l)) L w) := by
  have K0 : KeyAt ((((w.alloc (Obj.cells (keyV F R) 42)).alloc (Obj.cells (arrK .u8 16 iv) 38)).alloc (Obj.cells (arrK .u8 L fun _ => 0) 5)).alloc (Obj.cells (arrK .u8 16 fun _ => 0) 38)) w.heap.size F R := (((KeyAt.new _ rfl).old _).old _).old _
  have V0 : At ((((w.alloc (Obj.cells (keyV F R) 42)).alloc (Obj.cells (arrK .u8 16 iv) 38)).alloc (Obj.cells (arrK .u8 L fun _ => 0) 5)).alloc (Obj.cells (arrK .u8 16 fun _ => 0) 38)) (w.heap.size + 1) .u8 16 iv := ((At.new _ (by simp)).old _).old _
  have T0 : At ((((w.alloc (Obj.cells (keyV F R) 42)).alloc (Obj.cells (arrK .u8 16 iv) 38)).alloc (Obj.cells (arrK .u8 L fun _ => 0) 5)).alloc (Obj.cells (arrK .u8 16 fun _ => 0) 38)) (w.heap.size + 1 + 1) .u8 L fun _ => 0 := (At.new _ (by simp)).old _
  have P0 : At ((((w.alloc (Obj.cells (keyV F R) 42)).alloc (Obj.cells (arrK .u8 16 iv) 38)).alloc (Obj.cells (arrK .u8 L fun _ => 0) 5)).alloc (Obj.cells (arrK .u8 16 fun _ => 0) 38)) (w.heap.size + 1 + 1 + 1) .u8 16 fun _ => 0 := At.new _ (by simp)
  have hL0 : Below w.heap.size w ((((w.alloc (Obj.cells (keyV F R) 42)).alloc (Obj.cells (arrK .u8 16 iv) 38)).alloc (Obj.cells (arrK .u8 L fun _ => 0) 5)).alloc (Obj.cells (arrK .u8 16 fun _ => 0) 38)) := by go_grown
  have hmk : ∀ W : World, (Instr.makeSlice 25 (.int .i64 (L : Nat)) (.int .i64 (L : Nat))).run Try.prog W = .ok (.slice (some ⟨W.heap.size, 0, none⟩) L L) (W.alloc (.cells (arrK .u8 L fun _ => 0) 5)) := fun W => run_make_buf (P := Try.prog) (t := 25) (e := 5) Try.underlying25 (by kernel_rfl) .i64 .i64 (Nat.le_refl L) (by omega) W
  have hHl := Lib.hid hl
  have hLb : L ≤ 140737488351232 := by omega
  clear hl
  go_enter Try.func20, Try.ntmps20
  go_wp2_with fail
  rw [zeroA16]
  generalize (((w.alloc (Obj.cells (keyV F R) 42)).alloc (Obj.cells (arrK .u8 16 iv) 38)).alloc (Obj.cells (arrK .u8 L fun _ => 0) 5)).alloc (Obj.cells (arrK .u8 16 fun _ => 0) 38) = W1 at *
  obtain ⟨gk, hgk⟩ : ∃ g, g = w.heap.size := ⟨_, rfl⟩
  obtain ⟨gv, hgv⟩ : ∃ g, g = w.heap.size + 1 := ⟨_, rfl⟩
  obtain ⟨g, hg⟩ : ∃ g, g = w.heap.size + 1 + 1 := ⟨_, rfl⟩
  obtain ⟨gp, hgp⟩ : ∃ g, g = w.heap.size + 1 + 1 + 1 := ⟨_, rfl⟩
  rw [← hgp, ← hg, ← hgv, ← hgk]
  rw [← hgp] at P0
  rw [← hg] at T0
  rw [← hgv] at V0
  rw [← hgk] at K0
  have hk0 : w.heap.size ≤ gk := by omega
  have hk1 : gk < gv := by omega
  have hk2 : gv < g := by omega
  have hk3 : g < gp := by omega
  clear hgp hg hgv hgk hmk
  go_loopw [19] (fun x wr => ∃ i : Nat, x = .int .i64 i ∧ i ≤ L ∧ At wr g .u8 L (firstF i (strF F R iv a (byteAt l))) ∧ KeyAt wr gk F R ∧ At wr gv .u8 16 iv ∧ At wr gp .u8 16 (padS F R iv a i) ∧ Below w.heap.size w wr) (fun x _ => L - (intOf x).toNat)
  case atStart => exact ⟨0, rfl, by omega, T0.congr (fun p _ => by unfold firstF; rw [if_neg (by omega)]), K0, V0, P0, hL0⟩
  case round =>
    clear T0 K0 V0 P0 hL0
    obtain ⟨i, rfl, hi, T, K, V, Pd, hL⟩ := hrel
    by_cases hiL : i = L
    · subst hiL
      have T2 := T.congr (f' := strF F R iv a (byteAt l)) (fun p hp => if_pos hp)
      clear T K V Pd
      go_wp2_with fail
      go_ret
      exact ⟨g, rfl, T2, hL⟩
    · have hd : (i : Int) < (L : Int) := by omega
      have hi0 : (0 : Int) ≤ (i : Int) := by omega
      obtain ⟨ad, rfl, hab, hcell0⟩ := (hA.below hL).at_ (k := i) (by rw [bytesV_length, hHl.out]; omega)
      obtain ⟨cb, hcbe⟩ : ∃ x, x = byteAt l i := ⟨_, rfl⟩
      have hcell : wr.cell? (ad.add i) = some (.int .u8 (cb : Nat)) := by
        have h := bytesV_byte (l := l) (i := i) (by rw [hHl.out]; omega)
        rw [List.getElem?_eq_getElem (by rw [bytesV_length, hHl.out]; omega)] at h
        rw [hcell0, hcbe, ← h]
      clear hcell0
      have hcb : cb < 256 := by rw [hcbe]; exact byteAt_lt _ _
      obtain ⟨pl, hpl⟩ : ∃ x, x = plcF a i := ⟨_, rfl⟩
      have hplb : pl < 18446744073709551616 := by rw [hpl]; exact Nat.mod_lt _ (by omega)
      have hw1 : IntKind.u64.wrap (i : Int) = (i : Int) := by rw [IntKind.wrap_u64]; omega
      have hw2 : IntKind.u64.wrap ((a : Int) + (i : Int)) = (pl : Int) := by rw [IntKind.wrap_u64, hpl]; unfold plcF; omega
      obtain ⟨q, hq⟩ : ∃ x, x = pl / 16 := ⟨_, rfl⟩
      obtain ⟨r, hr⟩ : ∃ x, x = pl % 16 := ⟨_, rfl⟩
      have hqI : (pl : Int) / 16 = (q : Int) := by omega
      have hrI : (pl : Int) % 16 = (r : Int) := by omega
      have hr16 : r < 16 := by omega
      have hqb : q < 18446744073709551616 := by omega
      have hwq : IntKind.u64.wrap (q : Int) = (q : Int) := by rw [IntKind.wrap_u64]; omega
      have hHcb := Lib.hid hcbe
      have hHpl := Lib.hid hpl
      have hHr := Lib.hid hr
      have hPl := Lib.hid (fun W => mode_plus iv q W hv hqb)
      have hEn := Lib.hid (fun W => show Calls Try.prog 42 #[.agg (keyV F R), .agg (arrK .u8 16 (plusF iv q))] W fun e w' => e = .returned (.agg (arrK .u8 16 (padAt F R iv pl))) ∧ Below W.heap.size W w' from by
        unfold padAt
        rw [← hq]
        exact aes_Encrypt (plusF iv q) F R W hF (fun _ _ => plusF_lt _ _ _) hR)
      have hsame : ¬ (i = 0 ∨ r = 0) → padS F R iv a i = padAt F R iv pl := fun h => by
        rw [hpl]
        exact padS_same (by omega) (plc_near (by rw [← hpl, ← hr]; omega))
      have hsame := Lib.hid hsame
      clear hcbe hpl hq hr
      by_cases hnew : i = 0 ∨ r = 0
      · have htest : ((i : Int) == 0) = true ∨ (((i : Int) == 0) = false ∧ ((r : Int) == 0) = true) := by
          by_cases h : i = 0
          · exact .inl (by rw [beq_iff_eq]; omega)
          · exact .inr ⟨by rw [beq_eq_false_iff_ne]; omega, by rw [beq_iff_eq]; omega⟩
        have hcs := arrK_cells .u8 16 (padAt F R iv pl)
        have hTt := Lib.hid T
        have hKk := Lib.hid K
        have hVv := Lib.hid V
        have hPp := Lib.hid Pd
        have hpc := hcell
        have hlt := Nat.lt_of_lt_of_le hab hL.size
        clear T K V Pd hnew
        rcases htest with ht1 | ⟨ht1, ht2⟩
        all_goals go_upto_region 8 with (fail)
        all_goals
        generalize ha0 : Act.mk _ _ = a0
        have e4 : a0.tmps[4]?.getD undef = .pointer (some ⟨gk, 0, none⟩) := by rw [← ha0]; rfl
        have e5 : a0.tmps[5]?.getD undef = .pointer (some ⟨gv, 0, none⟩) := by rw [← ha0]; rfl
        have e10 : a0.tmps[10]?.getD undef = .pointer (some ⟨gp, 0, none⟩) := by rw [← ha0]; rfl
        have e13 : a0.tmps[13]?.getD undef = .int .u64 (pl : Nat) := by rw [← ha0]; rfl
        have hz0 : a0.tmps.size = 52 := by rw [← ha0]; rfl
        have hha0 := Lib.hid ha0
        clear ha0
        refine wp_region_tail (fun jx_ => match jx_ with | 0 => SRel.is (.agg (keyV F R)) | 1 => SRel.is (.agg (arrK .u8 16 iv)) | 2 => SRel.is (.int .u64 (pl : Nat)) | 3 => SRel.is (.int .u64 (q : Nat)) | 4 => SRel.is (.agg (arrK .u8 16 (plusF iv q))) | 5 => SRel.is (.agg (arrK .u8 16 (padAt F R iv pl))) | 6 => SRel.any | _ => SRel.any) 6 (by kernel_rfl) (by kernel_rfl) (by kernel_rfl) (slotsOk_of hz0 (by kernel_rfl)) (by kernel_rfl) ⟨?_, ?_, ?_, ?_, ?_, ?_, ?_, trivial⟩ (of_decide_eq_true (by kernel_rfl))
        · rw [if_neg (by decide)]
          refine calmT_step rfl fun a ω κ hb hu hc hK => ?_
          have h4 : a.tmps[4]?.getD undef = .pointer (some ⟨gk, 0, none⟩) := (hu 4 rfl).trans e4
          have hk := Lib.hid (fun w1 (h : Below ω.heap.size ω w1) => hK (.agg (keyV F R)) w1 rfl h)
          clear hK hu hc
          have hr1 := (hKk.out.step hb).row
          have hr2 := (hKk.out.step hb).eq
          go_simp
          exact hk.out _ (Below.refl _ _)
        · rw [if_neg (by decide)]
          refine calmT_step rfl fun a ω κ hb hu hc hK => ?_
          have h5 : a.tmps[5]?.getD undef = .pointer (some ⟨gv, 0, none⟩) := (hu 5 rfl).trans e5
          have hk := Lib.hid (fun w1 (h : Below ω.heap.size ω w1) => hK (.agg (arrK .u8 16 iv)) w1 rfl h)
          clear hK hu hc
          have hr1 := (hVv.out.step hb).row
          have hr2 := (hVv.out.step hb).eq
          go_simp
          exact hk.out _ (Below.refl _ _)
        · rw [if_neg (by decide)]
          refine calmT_step rfl fun a ω κ hb hu hc hK => ?_
          have h13 : a.tmps[13]?.getD undef = .int .u64 (pl : Nat) := (hu 13 rfl).trans e13
          have hk := Lib.hid (fun w1 (h : Below ω.heap.size ω w1) => hK (.int .u64 (pl : Nat)) w1 rfl h)
          clear hK hu hc
          go_simp
          exact hk.out _ (Below.refl _ _)
        · rw [if_neg (by decide)]
          refine calmT_step rfl fun a ω κ hb hu hc hK => ?_
          have h37 : a.tmps[37]?.getD undef = .int .u64 (pl : Nat) := hc 2 37 rfl rfl
          have hk := Lib.hid (fun w1 (h : Below ω.heap.size ω w1) => hK (.int .u64 (q : Nat)) w1 rfl h)
          clear hK hu hc
          go_simp
          exact hk.out _ (Below.refl _ _)
        · rw [if_neg (by decide)]
          refine calmT_step rfl fun a ω κ hb hu hc hK => ?_
          have h36 : a.tmps[36]?.getD undef = .agg (arrK .u8 16 iv) := hc 1 36 rfl rfl
          have h38 : a.tmps[38]?.getD undef = .int .u64 (q : Nat) := hc 3 38 rfl rfl
          have hk := Lib.hid (fun w1 (h : Below ω.heap.size ω w1) => hK (.agg (arrK .u8 16 (plusF iv q))) w1 rfl h)
          clear hK hu hc
          go_simp
          go_at_call 70
          refine (hPl.out _).mono ?_
          rintro e w1 ⟨rfl, hb1⟩
          exact hk.out _ hb1
        · rw [if_neg (by decide)]
          refine calmT_step rfl fun a ω κ hb hu hc hK => ?_
          have h35 : a.tmps[35]?.getD undef = .agg (keyV F R) := hc 0 35 rfl rfl
          have h39 : a.tmps[39]?.getD undef = .agg (arrK .u8 16 (plusF iv q)) := hc 4 39 rfl rfl
          have hk := Lib.hid (fun w1 (h : Below ω.heap.size ω w1) => hK (.agg (arrK .u8 16 (padAt F R iv pl))) w1 rfl h)
          clear hK hu hc
          go_simp
          go_at_call 42
          refine (hEn.out _).mono ?_
          rintro e w1 ⟨rfl, hb1⟩
          exact hk.out _ hb1
        · rw [if_pos rfl]
          refine last_of rfl fun aa ω hb hu hsz hdf hc => ?_
          have h10 : aa.tmps[10]?.getD undef = .pointer (some ⟨gp, 0, none⟩) := (hu 10 rfl).trans e10
          have h40 : aa.tmps[40]?.getD undef = .agg (arrK .u8 16 (padAt F R iv pl)) := hc 5 40 (by decide) rfl
          have hHz := Lib.hid (And.intro hu (And.intro hsz hdf))
          clear hc hu hsz hdf hz0
          have hRP := (hPp.out.step hb).row
          go_simp
          have ha0 := hha0.out
          subst ha0
          have he := act_patchT (n := 52) 6 [false, false, false, false, false, false, false, false, false, false, false, false, false, false, false, false, false, false, false, false, false, false, false, false, false, false, false, false, false, false, false, false, false, false, false, true, true, true, true, true, true, false, false, false, false, false, false, false, false, false, false, false] rfl (by kernel_rfl) hHz.out.1 hHz.out.2.1 hHz.out.2.2
          simp only [patch, cond_true, cond_false, Nat.reduceAdd] at he
          clear hHz hha0 e4 e5 e10 e13
          rw [he]
          clear he
          generalize aa.tmps[35]?.getD undef = x35 at *
          generalize aa.tmps[36]?.getD undef = x36 at *
          generalize aa.tmps[37]?.getD undef = x37 at *
          generalize aa.tmps[38]?.getD undef = x38 at *
          generalize aa.tmps[39]?.getD undef = x39 at *
          generalize aa.tmps[40]?.getD undef = x40 at *
          have P2 : At (ω.setRow gp (arrK .u8 16 (padAt F R iv pl))) gp .u8 16 (padAt F R iv pl) := At.put hRP
          have T2 := (hTt.out.step hb).far (g' := gp) (c := arrK .u8 16 (padAt F R iv pl)) (by omega)
          have K2 := (hKk.out.step hb).far (g' := gp) (c := arrK .u8 16 (padAt F R iv pl)) (by omega)
          have V2 := (hVv.out.step hb).far (g' := gp) (c := arrK .u8 16 (padAt F R iv pl)) (by omega)
          have hL2 := below_setRow (g := gp) (c := arrK .u8 16 (padAt F R iv pl)) (below_step hb hL (Nat.le_refl _)) (by omega)
          clear hb hRP hTt hKk hVv hPp hL hEn hPl hpc hcell
          generalize ω.setRow gp (arrK .u8 16 (padAt F R iv pl)) = W4 at *
          have hRp2 := P2.cell (i := r) (by omega)
          have hpx := padAt_lt (R := R) (iv := iv) hF pl r (by omega)
          have hc3 := T2.cell (i := i) (by omega)
          have hfr := T2.row.frozen i
          have hxr := xor_8 hcb hpx
          have hT := Lib.hid T2
          have hP := Lib.hid P2
          clear P2 T2
          go_wp2_with fail
          go_round
          case rel => exact ⟨i + 1, by go_num, by omega, by
            rw [← firstF_step, show strF F R iv a (byteAt l) i = cb ^^^ padAt F R iv pl r by unfold strF; rw [← hHcb.out, ← hHpl.out, ← hHr.out]]
            exact hT.out.set i _, K2.farC (by simp; omega), V2.farC (by simp; omega), by rw [padS_next, ← hHpl.out]; exact hP.out.farC (by simp; omega), hL2.setCell (by simp; omega) _⟩
          case measure => simp [intOf]; omega
      · have h1 : ((i : Int) == 0) = false := by rw [beq_eq_false_iff_ne]; omega
        have h2 : ((r : Int) == 0) = false := by rw [beq_eq_false_iff_ne]; omega
        rw [hsame.out hnew] at Pd
        have P2 := Pd
        have T2 := T
        have K2 := K
        have V2 := V
        have hL2 := hL
        clear Pd T K V hL hnew
        have hRp2 := P2.cell (i := r) (by omega)
        have hpx := padAt_lt (R := R) (iv := iv) hF pl r (by omega)
        have hc3 := T2.cell (i := i) (by omega)
        have hfr := T2.row.frozen i
        have hxr := xor_8 hcb hpx
        have hT := Lib.hid T2
        have hP := Lib.hid P2
        clear P2 T2
        go_wp2_with fail
        go_round
        case rel => exact ⟨i + 1, by go_num, by omega, by
          rw [← firstF_step, show strF F R iv a (byteAt l) i = cb ^^^ padAt F R iv pl r by unfold strF; rw [← hHcb.out, ← hHpl.out, ← hHr.out]]
          exact hT.out.set i _, K2.farC (by simp; omega), V2.farC (by simp; omega), by rw [padS_next, ← hHpl.out]; exact hP.out.farC (by simp; omega), hL2.setCell (by simp; omega) _⟩
        case measure => simp [intOf]; omega
end Go.Proofs.Ytjihklaocgmlpaa
