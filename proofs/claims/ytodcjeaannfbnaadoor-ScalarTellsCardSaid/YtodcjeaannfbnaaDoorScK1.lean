/- Several texts one behind the other: ShaL Sc3 ShaZ Dig Tail2 Nb FreshR Sc4 CalmS ScL Open Args2 Args Door Five. -/
import Derived.Test.YtodcjeaannfbnaaDoorShaF
import Derived.Test.YtodcjeaannfbnaaDoorCalm
import Derived.Test.YtodcjeaannfbnaaDoorSc1
import Derived.Test.YtodcjeaannfbnaaDoorLimb
import Derived.Test.YtodcjeaannfbnaaDoorRet2
import Derived.Test.YtodcjeaannfbnaaDoorShaS
import Derived.Test.YtodcjeaannfbnaaDoorTail
import Derived.Test.YtodcjeaannfbnaaDoorNumN
import Derived.Deep.DeepCutAuto
import Derived.Test.YtodcjeaannfbnaaDoorFresh
import Derived.Test.YtodcjeaannfbnaaDoorSc2
import Derived.ArgAppend
import Derived.Test.YtodcjeaannfbnaaDoorAt
import Derived.Test.YtodcjeaannfbnaaDoorMem
import Derived.ProofKit
import Derived.Test.YtodcjeaannfbnaaDoorSl
import Derived.Deep.Slices
import Derived.Deep.Fields
import Derived.ChangeSame
import Derived.SizedLaws
import Derived.Test.YtodcjeaannfbnaaDoorArrK
import Derived.LaidMore
import Derived.Stop.Joined
namespace Go.Proofs.YtodcjeaannfbnaaDoor
open Go.ChangeShapes Go.WideShapes Go.ChangeAt Go.RowKit
set_option maxHeartbeats 2000000
set_option maxRecDepth 100000
attribute [local irreducible] arrV
attribute [local go_sem ↓] load_state store_state execl_state execs_state load_words
attribute [local go_sem] isHead_mk isPart_mk offOf_mk blkOf_mk isAgg_mk cellsV_mk row_drew rowAt_drew row_new_cells row_old rowAt_new rowAt_old setRow_new zero_state zero_cellsS bs_app

/-- The state behind l. -/
def st0 : St := ⟨iv, 0, fun _ => 0⟩
def stL (K : Nat → W32) (l : List UInt8) : St := st0.write K l
theorem stL_ok (K : Nat → W32) (l : List UInt8) : (stL K l).ok := St.write_ok l (stF_ok iv)
/-- Both tables hold K, from a world on. -/
structure Tabs (K : Nat → W32) (w : World) : Prop where
  c1 : ∀ i < 64, w.cell? ⟨0, i, none⟩ = some (u32v (K i))
  l1 : 0 < w.heap.size
  c2 : ∀ i < 64, w.cell? ⟨1, i, none⟩ = some (u32v (K i))
  l2 : 1 < w.heap.size
theorem Tabs.below {K : Nat → W32} {w w' : World} {B : Nat} (h : Tabs K w) (hb : Below B w w') (hB : w.heap.size ≤ B) : Tabs K w' :=
  ⟨fun i hi => ((bcell hb).1 _ _ (Nat.lt_of_lt_of_le h.l1 hB)).trans (h.c1 i hi), Nat.lt_of_lt_of_le h.l1 hb.size, fun i hi => ((bcell hb).1 _ _ (Nat.lt_of_lt_of_le h.l2 hB)).trans (h.c2 i hi), Nat.lt_of_lt_of_le h.l2 hb.size⟩
theorem Tabs.step {K : Nat → W32} {w w' : World} (hb : Below w.heap.size w w') (h : Tabs K w) : Tabs K w' := h.below hb (Nat.le_refl _)
/-- A slice of bytes. -/
structure Bs (w : World) (A : Option Addr) (l : List UInt8) (c : Nat) : Prop where
  rd : Rd w w.heap.size A (bytesV l)
  le : l.length ≤ c
  mx : c ≤ 9223372036854775807
theorem Bs.step {w w' : World} {A : Option Addr} {l : List UInt8} {c : Nat} (hb : Below w.heap.size w w') (h : Bs w A l c) : Bs w' A l c := ⟨(h.rd.below hb).more hb.size, h.le, h.mx⟩
theorem Bs.conv {w : World} {A : Option Addr} {l : List UInt8} {c : Nat} (h : Bs w A l c) : (convert 22 9 (.slice A l.length c)).run Tryd.prog w = .ok (strV l) w :=
  conv_rd Tryd.underlying22 Tryd.underlying5 Tryd.underlying9 h.rd
def SRel.bs (l : List UInt8) : SRel := ⟨fun v w => ∃ A c, v = .slice A l.length c ∧ Bs w A l c, fun _ _ _ hb ⟨A, c, h1, h2⟩ => ⟨A, c, h1, h2.step hb⟩⟩
section
variable {K : Nat → W32} {w : World} {A : Option Addr} {l : List UInt8} {c : Nat}
theorem sumC (hT : Tabs K w) (h : Bs w A l c) : Calls Tryd.prog 89 #[.slice A l.length c] w fun e w' => e = .returned (.agg (arrK .u8 32 (dig K iv 0 l))) ∧ Below w.heap.size w w' :=
  hash_Sum K A l c w h.rd h.le h.mx hT.c1 hT.l1
theorem rsumC (hT : Tabs K w) (hp : l.length ≤ 1152921504606846976) : Calls Tryd.prog 70 #[strV l] w fun e w' => e = .returned (.agg (arrK .u8 32 (dig K iv 0 l))) ∧ Below w.heap.size w w' :=
  ref_Sum K l w hp hT.c2 hT.l2
theorem writeC (hT : Tabs K w) (m : List UInt8) (h : Bs w A l c) : Calls Tryd.prog 68 #[.agg (stL K m).cells, .slice A l.length c] w fun e w' => e = .returned (.agg (stL K (m ++ l)).cells) ∧ Below w.heap.size w w' :=
  (hash_write K A l c (stL K m) w (stL_ok K m) h.rd h.le h.mx hT.c1 hT.l1).mono fun _ _ ⟨h1, h2⟩ => ⟨by rw [h1]; unfold stL; rw [write_app], h2⟩
theorem stSumC (hT : Tabs K w) (m : List UInt8) : Calls Tryd.prog 69 #[.agg (stL K m).cells] w fun e w' => e = .returned (.agg (arrK .u8 32 (dig K iv 0 m))) ∧ Below w.heap.size w w' :=
  (hash_StSum K (stL K m) w (stL_ok K m) hT.c1 hT.l1).mono fun _ _ ⟨h1, h2⟩ => ⟨h1.trans (congrArg (fun h => Ending.returned (Value.agg (arrK .u8 32 (outF h)))) (write_dig (K := K) (s := st0) (l := m) rfl (by show 0 < _; omega))), h2⟩
theorem newC0 (w : World) : Calls Tryd.prog 67 #[] w fun e w' => e = .returned (.agg (stL K []).cells) ∧ Below w.heap.size w w' := hash_new w
end
end Go.Proofs.YtodcjeaannfbnaaDoor
namespace Go.Proofs.YtodcjeaannfbnaaDoor
open Go.ChangeShapes Go.WideShapes Go.ChangeAt Go.RowKit
set_option maxHeartbeats 2000000
set_option maxRecDepth 100000
attribute [local go_sem ↓] load_num store_num execl_num execs_num load_wide store_wide execl_wide execs_wide
attribute [local go_sem] isHead_mk blkOf_mk isAgg_mk cellsV_mk row_drew rowAt_drew row_new_cells row_old rowAt_new rowAt_old setRow_new zeroNum zeroWide
/-- A text as a number, the least byte first, modulo L. -/
def ofL (l : List UInt8) : Nat := bval (bytesF l) l.length % fL
theorem scalar_Of (A : Option Addr) (l : List UInt8) (n c : Nat) (w : World) (hl : l.length = n) (h : Bs w A l c) : Calls Tryd.prog 23 #[.slice A n c] w fun e w' => e = .returned (bif decide (n ≤ 64) then .tuple #[numV (ofL l), .int .i64 0] else .tuple #[numV 0, .int .i64 2]) ∧ Below w.heap.size w w' := by
  have hnc : n ≤ c := hl ▸ h.le
  have hcm := h.mx
  have hni : (n : Int) ≤ 9223372036854775807 := by omega
  have hF := Lib.hid (fun i (hi : i < n) => bytesF_lt l i)
  have hRd := Lib.hid (fun i (hi : i < n) V (hb : Below w.heap.size w V) => show ∃ ad, A = some ad ∧ V.cell? (ad.add i) = some (.int .u8 (bytesF l i : Nat)) by
    obtain ⟨ad, e1, e2, e3⟩ := (h.rd.below hb).at_ (k := i) (by rw [bytesV_length]; omega)
    refine ⟨ad, e1, e3.trans ?_⟩
    rw [bytesF_at (by omega)]
    simp [bytesV])
  have kR := Lib.hid (fun V (hn : n ≤ 64) => by
    obtain ⟨kk, hkk⟩ : ∃ k, k = 64 * 8 := ⟨_, rfl⟩
    have hb := bval_lt (f := bytesF l) (n := n) (fun i _ => bytesF_lt l i)
    rw [show (256 : Nat) = 2 ^ 8 from rfl, ← Nat.pow_mul] at hb
    exact scalar_ReduceK (bval (bytesF l) n) kk V (low_wide hb (by omega)) hkk)
  have hr : ofL l = bval (bytesF l) n % fL := by unfold ofL; rw [hl]
  rw [← hr] at kR
  obtain ⟨r, hr2⟩ : ∃ r, ofL l = r := ⟨_, rfl⟩
  rw [hr2] at kR ⊢
  have hst := Lib.hid (fun s (hs : s < n) p => of_step (f := bytesF l) (s := s) (fun i hi => bytesF_lt l i) p)
  clear hr hr2 h hl
  obtain ⟨f, hf⟩ : ∃ f, bytesF l = f := ⟨_, rfl⟩
  rw [hf] at hF hRd kR hst
  clear hf
  unfold numV at kR ⊢
  unfold wideV at kR
  have hc0 := arrK_cells .u64 4 (wd 0)
  have hcr := arrK_cells .u64 4 (wd r)
  have hcw := arrK_cells .u64 8 (wd 0)
  have hL0 := below_alloc w (Obj.cells (arrK .u64 4 (wd 0)) 41)
  have hR0 : Row (w.alloc (Obj.cells (arrK .u64 4 (wd 0)) 41)) w.heap.size 4 := (row_new rfl).2 hc0.1
  have hR := Lib.hid hR0
  have hL := Lib.hid hL0
  clear hR0 hL0
  by_cases h64 : 64 < n
  · have d1 : decide ((64 : Int) < (n : Int)) = true := by simp; omega
    have d2 : decide (n ≤ 64) = false := by simp; omega
    rw [d2]
    clear h64 hst hRd hF kR d2
    go_enter Tryd.func23, Tryd.ntmps23
    go_upto_region 1 with (fail)
    generalize w.alloc _ = W0 at *
    have hrR := hR.out
    go_wp2_with (first
      | refine wpList_opS (by go_simp) (fun K hK => wp_bldS rfl (build_nz _) (hK _ _ ?_)))
    exact ret_stored2 (p := 2) (q := 3) (ty := 41) (g := w.heap.size) (n := 4) (c := arrK .u64 4 (wd 0)) rfl Tryd.underlying41 rfl (by kernel_rfl) rfl hrR hc0.1 rfl ⟨rfl, below_setRow hL.out (by omega)⟩
  · have d1 : decide ((64 : Int) < (n : Int)) = false := by simp; omega
    have d2 : decide (n ≤ 64) = true := by simp; omega
    rw [d2]
    have kR2 := Lib.hid (fun V => kR.out V (by omega))
    clear d2 kR
    go_enter Tryd.func23, Tryd.ntmps23
    go_upto_region 1 with (fail)
    generalize w.alloc _ = W0 at *
    have hltR := hR.out.lt
    have hX := Lib.hid ((At.new (w := W0) (k := .u64) (m := 8) (f := wd 0) 54 rfl).congr (f' := wd (bval f 0)) fun i _ => rfl)
    have hR2 := Lib.hid ((row_old (o := Obj.cells (arrK .u64 8 (wd 0)) 54) hR.out.lt).2 hR.out)
    have hL2 := Lib.hid (Below.trans hL.out ((below_alloc W0 (Obj.cells (arrK .u64 8 (wd 0)) 54)).mono hL.out.size))
    clear hR hL
    go_upto_region 4 with (fail)
    obtain ⟨g4, hg⟩ : ∃ g, W0.heap.size = g := ⟨_, rfl⟩
    rw [hg] at hX hltR ⊢
    clear hg
    generalize W0.alloc _ = W1 at *
    have hgl := Lib.hid hltR
    clear hltR
    go_upto_region 5 with (fail)
    go_loopw [13, 5, 6] (fun vi vj vx wr => ∃ s : Nat, vi = .int .i64 (s : Nat) ∧ s ≤ n ∧ At wr g4 .u64 8 (wd (bval f s)) ∧ Row wr w.heap.size 4 ∧ Below w.heap.size w wr) (fun vi _ _ _ => n - (intOf vi).toNat)
    case atStart => exact ⟨0, rfl, Nat.zero_le _, hX.out, hR2.out, hL2.out⟩
    case round =>
      clear hX hR2 hL2
      obtain ⟨s, rfl, hs, hX0, hR0, hL0⟩ := hrel
      have hX := Lib.hid hX0
      have hR := Lib.hid hR0
      have hL := Lib.hid hL0
      clear hX0 hR0 hL0
      by_cases hsn : s = n
      · subst hsn
        have hr1 := hX.out.row
        have hr2 := hX.out.eq
        have e1 : decide ((s : Int) < (s : Int)) = false := by simp
        clear hst hRd hF
        go_wp2_with fail
        refine (kR2.out _).mono ?_
        rintro e w5 ⟨rfl, hb⟩
        have hR5 := row_below hR.out hb hR.out.lt
        have hL5 := below_step hb hL.out (Nat.le_refl _)
        clear hr1 hr2 hb hX hR hL kR2
        dsimp only
        go_wp2_with fail
        exact ret_stored2 (p := 2) (q := 3) (ty := 41) (g := w.heap.size) (n := 4) (c := arrK .u64 4 (wd r)) rfl Tryd.underlying41 rfl (by kernel_rfl) rfl hR5 hcr.1 rfl ⟨rfl, below_setRow hL5 (by omega)⟩
      · have hsl : s < n := by omega
        obtain ⟨ad, rfl, c1⟩ := hRd.out s hsl wr hL.out
        obtain ⟨q, hq⟩ : ∃ q, q = s / 8 := ⟨_, rfl⟩
        obtain ⟨z, hz⟩ : ∃ z, z = s % 8 := ⟨_, rfl⟩
        have hqi : (s : Int) / 8 = q := by omega
        have hzi : (s : Int) % 8 = z := by omega
        have hst1 := Lib.hid (fun p => (hst.out s hsl p).1)
        obtain ⟨-, hst2, hst3⟩ := hst.out s hsl 0
        rw [← hq, ← hz] at hst1 hst3
        rw [← hz] at hst2
        have hq8 : q < 8 := by omega
        have hz8 : z < 8 := by omega
        have c2 := hX.out.cell hq8
        have hfz := hX.out.row.frozen q
        have hfs := hF.out s hsl
        have hX8 := wd_lt (bval f s) q
        have e1 : decide ((s : Int) < (n : Int)) = true := by simp; omega
        have e2 : (0 : Int) ≤ (s : Int) := by omega
        have e3 : (s : Int) < (n : Int) := by omega
        have e4 : (0 : Int) ≤ (q : Int) := by omega
        have e5 : (q : Int) < 8 := by omega
        have t1 : Int.tdiv (s : Int) 8 = (q : Int) := by rw [Int.tdiv_eq_ediv_of_nonneg e2]; exact hqi
        have t2 : Int.tmod (s : Int) 8 = (z : Int) := by rw [Int.tmod_eq_emod_of_nonneg e2]; exact hzi
        clear hq hz hst hRd hF
        have hHX := Lib.hid (show wd (bval f s) q = wd (bval f s) q from rfl)
        generalize hx : wd (bval f s) q = X at *
        have hHx := Lib.hid hx
        clear hx hHX
        generalize f s = x at *
        have hv : bits .or .u64 (X : Int) (IntKind.u64.wrap ((x : Int) * 2 ^ (z * 8))) = ((X ||| x * 2 ^ (z * 8) : Nat) : Int) := by
          rw [show (x : Int) * 2 ^ (z * 8) = ((x * 2 ^ (z * 8) : Nat) : Int) by simp, show IntKind.u64.wrap ((x * 2 ^ (z * 8) : Nat) : Int) = ((x * 2 ^ (z * 8) : Nat) : Int) by rw [IntKind.wrap_u64]; omega, u64_or_nat _ _ hX8 hst2]
        have hHv := Lib.hid hv
        clear hv
        go_wp2_with fail
        go_round
        case rel =>
          rw [hHv.out]
          exact ⟨s + 1, by go_num, by omega, ((hX.out.set q (X ||| x * 2 ^ (z * 8))).congr fun p _ => hst1.out p), row_setCell.2 hR.out, hL.out.setCell (by have := hgl.out; simp; omega) _⟩
        case measure => simp [intOf]; omega
end Go.Proofs.YtodcjeaannfbnaaDoor
namespace Go.Proofs.YtodcjeaannfbnaaDoor
open Go.ChangeShapes Go.WideShapes Go.ChangeAt Go.RowKit
set_option maxHeartbeats 2000000
set_option maxRecDepth 100000
attribute [local irreducible] arrV
attribute [local go_sem ↓] load_state store_state
attribute [local go_sem] isHead_mk isPart_mk offOf_mk blkOf_mk isAgg_mk cellsV_mk row_drew rowAt_drew row_new_cells row_old rowAt_new rowAt_old setRow_new zero_state zero_cellsS

def rsH (f : Nat → Nat) (k : Nat) : Nat → W32 := fun i => if i < k then be32 f (4 * i) else iv i
theorem stC_set_h (h h' : Nat → W32) (m : Nat) (f : Nat → Nat) {j : Nat} (hj : j < 8) (he : ∀ i < 8, (if i = j then h' j else h i) = h' i) : (stC h m f).setIfInBounds j (u32v (h' j)) = stC h' m f := by
  unfold stC
  rw [arrV_set]
  refine arrV_congr fun i _ => ?_
  unfold stV
  by_cases e : i < 8
  · rw [if_pos e, if_pos e]
    have := he i e
    by_cases e2 : i = j
    · subst e2; rw [if_pos rfl]
    · rw [if_neg e2] at this ⊢
      rw [this]
  · rw [if_neg (show ¬i = j by omega), if_neg e, if_neg e]
theorem stC_congr {h h' : Nat → W32} {m : Nat} {f : Nat → Nat} (he : ∀ i < 8, h i = h' i) : stC h m f = stC h' m f := by
  unfold stC
  refine arrV_congr fun i _ => ?_
  unfold stV
  by_cases e : i < 8
  · rw [if_pos e, if_pos e, he i e]
  · rw [if_neg e, if_neg e]
theorem stC_at_h {h : Nat → W32} {m : Nat} {f : Nat → Nat} {j : Nat} (hj : j < 8) : (stC h m f)[j]? = some (u32v (h j)) := by
  unfold stC
  rw [arrV_at (by omega)]
  unfold stV
  rw [if_pos hj]
theorem rd_row {w : World} {g n : Nat} {c : Array Value} (hR : Row w g n) (hr : rowAt w g = c) : Rd w w.heap.size (some ⟨g, 0, none⟩) c.toList := by
  obtain ⟨cs, t, hh, hl⟩ := id hR
  have e : cs = c := by rw [← hr]; simp [rowAt, hh]
  have := Rd.of_blk (B := w.heap.size) hh hR.lt
  rw [e] at this
  exact this
end Go.Proofs.YtodcjeaannfbnaaDoor
namespace Go.Proofs.YtodcjeaannfbnaaDoor
open Go.ChangeShapes Go.WideShapes Go.ChangeAt Go.RowKit

/-- The first n bytes. -/
def bL (f : Nat → Nat) (n : Nat) : List UInt8 := (List.range n).map fun i => UInt8.ofNat (f i)
theorem bL_len (f : Nat → Nat) (n : Nat) : (bL f n).length = n := by simp [bL]
theorem bytesF_bL {f : Nat → Nat} {n i : Nat} (hi : i < n) (hf : f i < 256) : bytesF (bL f n) i = f i := by
  rw [bytesF_at (by rw [bL_len]; exact hi)]
  simp [bL, UInt8.toNat_ofNat']
  omega
/-- A digest's cells. -/
def dgA (l : List UInt8) : Array Value := arrK .u8 32 (bytesF l)
theorem dgA_cells (l : List UInt8) : Cells (dgA l) 32 := arrK_cells .u8 32 _
theorem dgA_of {f : Nat → Nat} (hf : ∀ i < 32, f i < 256) : arrK .u8 32 f = dgA (bL f 32) := arrK_congr fun i hi => (bytesF_bL hi (hf i hi)).symm
theorem dgA_bytes {l : List UInt8} (h : l.length = 32) : (dgA l).toList = bytesV l := by
  apply List.ext_getElem?
  intro i
  rw [Array.getElem?_toList]
  by_cases hi : i < 32
  · unfold dgA
    rw [arrK_at hi, bytesF_at (by omega)]
    simp [bytesV, List.getElem?_eq_getElem (show i < l.length by omega)]
  · rw [Array.getElem?_eq_none (by rw [(dgA_cells l).1]; omega), List.getElem?_eq_none (by rw [bytesV_length]; omega)]
theorem dgA_inj {a b : List UInt8} (ha : a.length = 32) (hb : b.length = 32) (h : ∀ i < 32, bytesF a i = bytesF b i) : a = b := by
  apply List.ext_getElem (by omega)
  intro i h1 h2
  have := h i (by omega)
  rw [bytesF_at h1, bytesF_at h2] at this
  exact UInt8.toNat_inj.1 this
theorem eqlD {a b : List UInt8} (ha : a.length = 32) (hb : b.length = 32) (W : World) : (binOp .eql 71 (.agg (dgA a)) (.agg (dgA b))).run Tryd.prog W = .ok (.bool (decide (a = b))) W := by
  unfold dgA
  rw [run_eql_arrK Tryd.underlying71 Tryd.underlying5 (by kernel_rfl)]
  congr 2
  by_cases h : a = b
  · subst h; simp
  · rw [decide_eq_false h]
    exact decide_eq_false fun h' => h (dgA_inj ha hb h')
/-- The digest of a text. -/
def sha (K : Nat → W32) (l : List UInt8) : List UInt8 := bL (dig K iv 0 l) 32
theorem sha_len (K : Nat → W32) (l : List UInt8) : (sha K l).length = 32 := bL_len _ _
theorem outF_lt (h : Nat → W32) (i : Nat) : outF h i < 256 := Nat.mod_lt _ (by omega)
theorem sha_dig (K : Nat → W32) (l : List UInt8) : arrK .u8 32 (dig K iv 0 l) = dgA (sha K l) := dgA_of fun i _ => outF_lt _ i
theorem rd_of_row {w : World} {g : Nat} {l : List UInt8} (hl : l.length = 32) (hR : Row w g 32) (hr : rowAt w g = dgA l) : Bs w (some ⟨g, 0, none⟩) l 32 :=
  ⟨dgA_bytes hl ▸ rd_row hR hr, by omega, by omega⟩
section
variable {K : Nat → W32} {w : World} {A : Option Addr} {l : List UInt8} {c : Nat}
theorem sumD (hT : Tabs K w) (h : Bs w A l c) : Calls Tryd.prog 89 #[.slice A l.length c] w fun e w' => e = .returned (.agg (dgA (sha K l))) ∧ Below w.heap.size w w' := by rw [← sha_dig]; exact sumC hT h
theorem rsumD (hT : Tabs K w) (hp : l.length ≤ 1152921504606846976) : Calls Tryd.prog 70 #[strV l] w fun e w' => e = .returned (.agg (dgA (sha K l))) ∧ Below w.heap.size w w' := by rw [← sha_dig]; exact rsumC hT hp
theorem stSumD (hT : Tabs K w) (m : List UInt8) : Calls Tryd.prog 69 #[.agg (stL K m).cells] w fun e w' => e = .returned (.agg (dgA (sha K m))) ∧ Below w.heap.size w w' := by rw [← sha_dig]; exact stSumC hT m
end
theorem zeroD : #[Value.int IntKind.u8 0, Value.int IntKind.u8 0, Value.int IntKind.u8 0, Value.int IntKind.u8 0, Value.int IntKind.u8 0, Value.int IntKind.u8 0, Value.int IntKind.u8 0, Value.int IntKind.u8 0, Value.int IntKind.u8 0, Value.int IntKind.u8 0, Value.int IntKind.u8 0, Value.int IntKind.u8 0, Value.int IntKind.u8 0, Value.int IntKind.u8 0, Value.int IntKind.u8 0, Value.int IntKind.u8 0, Value.int IntKind.u8 0, Value.int IntKind.u8 0, Value.int IntKind.u8 0, Value.int IntKind.u8 0, Value.int IntKind.u8 0, Value.int IntKind.u8 0, Value.int IntKind.u8 0, Value.int IntKind.u8 0, Value.int IntKind.u8 0, Value.int IntKind.u8 0, Value.int IntKind.u8 0, Value.int IntKind.u8 0, Value.int IntKind.u8 0, Value.int IntKind.u8 0, Value.int IntKind.u8 0, Value.int IntKind.u8 0] = dgA [] := zeroB32.trans (arrK_congr fun _ _ => rfl)
end Go.Proofs.YtodcjeaannfbnaaDoor
namespace Go.Proofs.YtodcjeaannfbnaaDoor
open Go Go.RowKit

section
variable {P : Program} {ops : Array Oper} {Q : Exit → Act → World → Prop}
def tEdgesL (ops : Array Oper) (q : Nat) : Bool := ((List.range q).all fun j => pathB ops ops.size q j) && (List.range ops.size).all fun i => decide (i ≤ q) || pathB ops ops.size i (i - 1)
/-- The slots that no operation before q writes read as at first. -/
def UntouchedL (ops : Array Oper) (q : Nat) (a0 a : Act) : Prop := ∀ s, ((List.range ops.size).all fun i => decide (q ≤ i) || dstAt ops i != some s) = true → a.tmps[s]?.getD undef = a0.tmps[s]?.getD undef
def StepOkL (P : Program) (ops : Array Oper) (Q : Exit → Act → World → Prop) (R : Nat → SRel) (a0 : Act) (w0 : World) (q i : Nat) (o : Oper) : Prop :=
  ∀ (a : Act) (w : World) (K : Act → World → Prop), Below w0.heap.size w0 w → UntouchedL ops q a0 a → Came ops R o a w →
    (∀ v w', (R i).p v w' → Below w.heap.size w w' → K (a.put o.dst v) w') → if Region.wanted o (yielded ops a.tmps) = true then Oper.wp P o a w K Q else K (a.put o.dst undef) w
theorem calmL_step {R : Nat → SRel} {a0 : Act} {w0 : World} {q i : Nat} {o : Oper} (hg : o.guard = none)
    (h : ∀ (a : Act) (w : World) (K : Act → World → Prop), Below w0.heap.size w0 w → UntouchedL ops q a0 a → Came ops R o a w → (∀ v w', (R i).p v w' → Below w.heap.size w w' → K (a.put o.dst v) w') → Oper.wp P o a w K Q) : StepOkL P ops Q R a0 w0 q i o := by
  intro a w K hb hu hc hK
  rw [if_pos (by simp [Region.wanted, hg])]
  exact h a w K hb hu hc hK
theorem calmL_step_guard {R : Nat → SRel} {a0 : Act} {w0 : World} {q i g : Nat} {b : Bool} {d : Tmp} {o : Oper} (hg : o.guard = some (g, b)) (hd : dstAt ops g = some d)
    (hv : ∀ (a : Act) (w : World), Came ops R o a w → a.tmps[d]?.getD undef = .bool b)
    (h : ∀ (a : Act) (w : World) (K : Act → World → Prop), Below w0.heap.size w0 w → UntouchedL ops q a0 a → Came ops R o a w → (∀ v w', (R i).p v w' → Below w.heap.size w w' → K (a.put o.dst v) w') → Oper.wp P o a w K Q) : StepOkL P ops Q R a0 w0 q i o := by
  intro a w K hb hu hc hK
  have hy : yielded ops a.tmps g = some b := by
    have h1 := hv a w hc
    unfold dstAt at hd
    unfold yielded
    rw [hd, Option.bind_some]
    cases h2 : a.tmps[d]? with
    | none => rw [h2] at h1; cases h1
    | some v => rw [h2] at h1; have : v = .bool b := h1; rw [this]
  rw [if_pos (by simp [Region.wanted, hg, hy])]
  exact h a w K hb hu hc hK
/-- The frame before the q-th operation, written out. -/
def dstL (ops : Array Oper) (q s : Nat) : Bool := (List.range ops.size).any fun i => !decide (q ≤ i) && dstAt ops i == some s
theorem act_patchL {a0 a : Act} {n : Nat} (q : Nat) (bs : List Bool) (hn : a0.tmps.size = n) (hbs : bs = (List.range n).map (fun j => dstL ops q (0 + j))) (hu : UntouchedL ops q a0 a) (hsz : a.tmps.size = a0.tmps.size) (hdf : a.defers = a0.defers) :
    a = ⟨(patch a 0 a0.tmps.toList bs).toArray, a0.defers⟩ := by
  rw [patch_eq a (dstL ops q) a0.tmps.toList 0 bs (by rw [hbs, Array.length_toList, hn])]
  obtain ⟨t, d⟩ := a
  simp only at hsz hdf hu ⊢
  subst hdf
  congr 1
  apply Array.ext
  · simp [hsz]
  · intro i h1 h2
    simp only [List.getElem_toArray, List.getElem_map, List.getElem_range, Nat.zero_add]
    cases hD : dstL ops q i with
    | true => simp [h1]
    | false =>
      have h3 := hu i (by
        rw [List.all_eq_true]
        intro j hj
        unfold dstL at hD
        have h4 := List.any_eq_false.1 hD j hj
        cases hjq : decide (q ≤ j) with
        | true => rfl
        | false =>
          rw [hjq] at h4
          simp at h4 ⊢
          exact h4)
      simp [h1] at h3
      rw [cond_false, h3]
      have h5 : i < a0.tmps.size := by omega
      simp [h5]
/-- What is asked of the operations from q on. -/
def LastOkL (P : Program) (ops : Array Oper) (Q : Exit → Act → World → Prop) (R : Nat → SRel) (a0 : Act) (w0 : World) (q : Nat) : Prop :=
  ∀ (a : Act) (w : World), Below w0.heap.size w0 w → UntouchedL ops q a0 a → a.tmps.size = a0.tmps.size → a.defers = a0.defers → (∀ j d, j < q → dstAt ops j = some d → (R j).p (a.tmps[d]?.getD undef) w) →
    wpList P ops Q (ops.toList.drop q) a w
def StepsL (P : Program) (ops : Array Oper) (Q : Exit → Act → World → Prop) (R : Nat → SRel) (a0 : Act) (w0 : World) (q : Nat) : Nat → List Oper → Prop
  | _, [] => True
  | i, o :: l => StepOkL P ops Q R a0 w0 q i o ∧ StepsL P ops Q R a0 w0 q (i + 1) l
theorem stepsL_at {R : Nat → SRel} {a0 : Act} {w0 : World} {q : Nat} : ∀ (l : List Oper) (n i : Nat) (o : Oper), StepsL P ops Q R a0 w0 q n l → l[i]? = some o → StepOkL P ops Q R a0 w0 q (n + i) o
  | [], n, i, o, _, h => by simp at h
  | x :: l, n, 0, o, h1, h => by
      have : x = o := by simpa using h
      subst this
      exact h1.1
  | x :: l, n, i + 1, o, h1, h => by
      have := stepsL_at l (n + 1) i o h1.2 (by simpa using h)
      rw [show n + (i + 1) = n + 1 + i by omega]
      exact this
theorem wp_region_tailL {id : Nat} {a0 : Act} {w0 : World} (R : Nat → SRel) (q : Nat) (hm : P.follows .mixedOrders = true) (he : edgesOk ops = true) (hd : dstsOk ops = true) (hz : slotsOk ops a0.tmps.size = true) (hX : tEdgesL ops q = true)
    (hqn : q < ops.size) (hstep : StepsL P ops Q R a0 w0 q 0 (ops.toList.take q)) (hlast : LastOkL P ops Q R a0 w0 q) : (Code.region id ops true).wp P Q a0 w0 := by
  refine wp_region_any hm ?_
  have hlt : ∀ i d, dstAt ops i = some d → i < ops.size := fun i d h => by
    unfold dstAt at h
    rcases Nat.lt_or_ge i ops.size with h1 | h1
    · exact h1
    · rw [Array.getElem?_eq_none h1] at h; cases h
  have hdst : ∀ i j d e, i ≠ j → dstAt ops i = some d → dstAt ops j = some e → d ≠ e := by
    intro i j d e hij h1 h2
    have := List.all_eq_true.1 (List.all_eq_true.1 hd i (by simpa using hlt i d h1)) j (by simpa using hlt j e h2)
    rw [h1, h2] at this
    simpa [hij] using this
  have hslot : ∀ i d, dstAt ops i = some d → d < a0.tmps.size := by
    intro i d h1
    have := List.all_eq_true.1 hz i (by simpa using hlt i d h1)
    rw [h1] at this
    simpa using this
  unfold tEdgesL at hX
  rw [Bool.and_eq_true] at hX
  have hsz0 : ∃ f, ops.size = f + 1 := ⟨ops.size - 1, by omega⟩
  -- an operation that may run now waits for none that is not listed
  have hpath : ∀ (listed : Array Bool) (i j : Nat) (o : Oper), (∀ k o, listed.getD k false = true → ops[k]? = some o → ∀ e ∈ o.after, Region.binds .any e = true → listed.getD e.on false = true) →
      ops[i]? = some o → (∀ e ∈ o.after, Region.binds .any e = true → listed.getD e.on false = true) → pathB ops ops.size i j = true → listed.getD j false = true := by
    intro listed i j o hcl ho h2 hp
    obtain ⟨f, hf⟩ := hsz0
    rw [hf] at hp
    obtain ⟨o', ho', e, he, hb', h6⟩ := path_on hp
    rw [ho] at ho'
    cases ho'
    have hl := h2 e he hb'
    rcases h6 with h6 | h6
    · rw [← h6]; exact hl
    · exact path_listed hcl f e.on j hl h6
  have hcl' : ∀ (listed : Array Bool) (i : Nat) (o : Oper), listed.size = ops.size → i < ops.size → (∀ k o, listed.getD k false = true → ops[k]? = some o → ∀ e ∈ o.after, Region.binds .any e = true → listed.getD e.on false = true) →
      ops[i]? = some o → (∀ e ∈ o.after, Region.binds .any e = true → listed.getD e.on false = true) →
      (∀ k o, (listed.setIfInBounds i true).getD k false = true → ops[k]? = some o → ∀ e ∈ o.after, Region.binds .any e = true → (listed.setIfInBounds i true).getD e.on false = true) := by
    intro listed i o hs hi hcl ho h2 k o' hk ho' e he1 he2
    have hil : i < listed.size := by omega
    have hle : listed.getD e.on false = true := by
      by_cases hki : k = i
      · subst hki
        rw [ho] at ho'
        cases ho'
        exact h2 e he1 he2
      · have hk' : listed.getD k false = true := by simpa [Array.getElem?_setIfInBounds_ne (Ne.symm hki)] using hk
        exact hcl k o' hk' ho' e he1 he2
    by_cases hei : e.on = i
    · rw [hei]; simp [hil]
    · simpa [Array.getElem?_setIfInBounds_ne (Ne.symm hei)] using hle
  -- the r-th of those from q on
  have hrun : ∀ (listed : Array Bool) (r : Nat) (a : Act) (w : World) (K : Act → World → Prop), r < ops.size → wpList P ops Q (ops.toList.drop r) a w → (∀ a' w', wpList P ops Q (ops.toList.drop (r + 1)) a' w' → K a' w') → wpOp P ops Q r K a w := by
    intro listed r a w K hr h hK
    rw [List.drop_eq_getElem_cons (by simpa using hr)] at h
    refine wpOp_mono hK ?_
    unfold wpOp
    rw [Array.getElem?_eq_getElem hr]
    simp only [Array.getElem_toList] at h
    exact h
  refine wpAny_inv he (fun listed a w => (∀ k o, listed.getD k false = true → ops[k]? = some o → ∀ e ∈ o.after, Region.binds .any e = true → listed.getD e.on false = true) ∧ (((∀ k, q ≤ k → listed.getD k false = false) ∧ Below w0.drew.heap.size w0.drew w ∧ UntouchedL ops q a0 a ∧ a.tmps.size = a0.tmps.size ∧ a.defers = a0.defers ∧ ∀ j d, listed.getD j false = true → dstAt ops j = some d → (R j).p (a.tmps[d]?.getD undef) w) ∨ (∃ r, q ≤ r ∧ r ≤ ops.size ∧ (∀ k, r ≤ k → listed.getD k false = false) ∧ (∀ k, k < r → listed.getD k false = true) ∧ wpList P ops Q (ops.toList.drop r) a w))) ?_ ?_ _ _ _ _ (by simp) ?_ ?_
  · rintro listed a w i o hs ⟨hcl, hI⟩ hi h1 ho h2
    have hil : i < listed.size := by omega
    have hc2 := hcl' listed i o hs hi hcl ho h2
    have hafter : ∀ r, q ≤ r → r ≤ i → (∀ k, r ≤ k → listed.getD k false = false) → i = r := by
      intro r hqr hri hun
      rcases Nat.eq_or_lt_of_le hri with h3 | h3
      · exact h3.symm
      · have h4 := List.all_eq_true.1 hX.2 i (by simpa using hi)
        rw [Bool.or_eq_true, decide_eq_true_eq] at h4
        rcases h4 with h4 | h4
        · omega
        · have := hpath listed i (i - 1) o hcl ho h2 h4
          rw [hun (i - 1) (by omega)] at this
          cases this
    have hset : ∀ r, i = r → (∀ k, r ≤ k → listed.getD k false = false) → ∀ k, r + 1 ≤ k → (listed.setIfInBounds i true).getD k false = false := by
      intro r hir hun k hk
      have := hun k (by omega)
      simpa [Array.getElem?_setIfInBounds_ne (show i ≠ k by omega)] using this
    have hset2 : ∀ _ : Nat, (∀ k, k < i → listed.getD k false = true) → ∀ k, k < i + 1 → (listed.setIfInBounds i true).getD k false = true := by
      intro r hli k hk
      by_cases hki : k = i
      · rw [hki]; simp [hil]
      · have := hli k (by omega)
        simpa [Array.getElem?_setIfInBounds_ne (Ne.symm hki)] using this
    rcases hI with ⟨hun, hb, hu, hsz, hdf, hR⟩ | ⟨r, hqr, hrn, hun, hli, hW⟩
    · rcases Nat.lt_or_ge i q with hiq | hiq
      · have hst := stepsL_at (ops.toList.take q) 0 i o hstep (by rw [List.getElem?_take_of_lt hiq, Array.getElem?_toList]; exact ho)
        rw [Nat.zero_add] at hst
        refine wpOp_step ho fun K hK => hst a w K (below_step hb (Below.refl _ _).drew (Nat.le_refl _)) hu (fun j d hj hjd => ?_) fun v w' hv hb' => hK _ _ ⟨hc2, .inl ⟨?_, below_step hb' hb (Nat.le_refl _), ?_, ?_, ?_, ?_⟩⟩
        · obtain ⟨e, he1, he2⟩ := List.any_eq_true.1 hj
          have he1 : e ∈ o.after := Array.mem_toList_iff.1 he1
          simp only [Bool.and_eq_true, beq_iff_eq] at he2
          refine hR j d ?_ hjd
          rw [← he2.1]
          exact h2 e he1 he2.2
        · intro k hk
          have := hun k hk
          simpa [Array.getElem?_setIfInBounds_ne (show i ≠ k by omega)] using this
        · intro s hs'
          have hns : o.dst ≠ some s := by
            have h6 := List.all_eq_true.1 hs' i (by simpa using hi)
            rw [Bool.or_eq_true, decide_eq_true_eq] at h6
            rcases h6 with h6 | h6
            · omega
            · unfold dstAt at h6
              rw [ho] at h6
              simpa using h6
          rw [← hu s hs']
          cases hd' : o.dst with
          | none => rfl
          | some d =>
            have hne : d ≠ s := fun e => hns (by rw [hd', e])
            simp [Act.put, Array.getElem?_setIfInBounds_ne hne]
        · cases hd' : o.dst <;> simp [Act.put, hsz]
        · cases hd' : o.dst <;> simp [Act.put, hdf]
        · intro j d hj hjd
          by_cases hij : i = j
          · subst hij
            have hd1 := hslot i d hjd
            have hod : o.dst = some d := by unfold dstAt at hjd; rw [ho] at hjd; exact hjd
            rw [hod]
            rw [← hsz] at hd1
            simp [Act.put, hd1]
            exact hv
          · have hlj : listed.getD j false = true := by
              simpa [Array.getElem?_setIfInBounds_ne hij] using hj
            have h3 := (R j).st _ _ _ hb' (hR j d hlj hjd)
            cases hd' : o.dst with
            | none => simpa [Act.put] using h3
            | some d' =>
              have hne : d' ≠ d := hdst i j d' d hij (by unfold dstAt; rw [ho]; exact hd') hjd
              simpa [Act.put, Array.getElem?_setIfInBounds_ne hne] using h3
      · have hiq' := hafter q (Nat.le_refl _) hiq hun
        have hallj : ∀ j, j < q → listed.getD j false = true := fun j hj => hpath listed i j o hcl ho h2 (by rw [hiq']; exact List.all_eq_true.1 hX.1 j (by simpa using hj))
        refine hrun listed i a w _ hi ?_ fun a' w' hK => ⟨hc2, .inr ⟨i + 1, by omega, by omega, hset i rfl (hiq' ▸ hun), hset2 i (fun k hk => hallj k (by omega)), hK⟩⟩
        rw [hiq']
        exact hlast a w (below_step hb (Below.refl _ _).drew (Nat.le_refl _)) hu hsz hdf fun j d hj hjd => hR j d (hallj j hj) hjd
    · have hir : r ≤ i := by
        rcases Nat.lt_or_ge i r with h3 | h3
        · exfalso
          have h4 := hli i h3
          rw [Array.getD_eq_getD_getElem?] at h4
          simp [hil] at h1 h4
          rw [h1] at h4
          cases h4
        · exact h3
      have hiq' := hafter r hqr hir hun
      exact hrun listed i a w _ hi (hiq' ▸ hW) fun a' w' hK => ⟨hc2, .inr ⟨i + 1, by omega, by omega, hset i rfl (hiq' ▸ hun), hset2 i (fun k hk => hli k (by omega)), hK⟩⟩
  · rintro listed a w ⟨-, ⟨hun, -⟩ | ⟨r, hqr, hrn, hun, hli, hW⟩⟩ hall
    · have := hall q hqn
      rw [hun q (Nat.le_refl _)] at this
      cases this
    · have hr : r = ops.size := by
        rcases Nat.eq_or_lt_of_le hrn with h | h
        · exact h
        · have := hall r h
          rw [hun r (Nat.le_refl _)] at this
          cases this
      rw [hr, ← Array.length_toList, List.drop_length] at hW
      exact hW
  · unfold left
    rw [Array.toList_replicate]
    exact Nat.le_trans (List.length_filter_le _ _) (by simp)
  · have h0 : ∀ j, (Array.replicate ops.size false).getD j false = false := fun j => by
      rw [Array.getD_eq_getD_getElem?, Array.getElem?_replicate]
      split <;> simp
    exact ⟨fun k o hk => absurd hk (by rw [h0]; simp), .inl ⟨fun k _ => h0 k, Below.refl _ _, fun _ _ => rfl, rfl, rfl, fun j d hj => absurd hj (by rw [h0]; simp)⟩⟩
end
end Go.Proofs.YtodcjeaannfbnaaDoor
namespace Go.Proofs.YtodcjeaannfbnaaDoor
open Go.ChangeShapes Go.WideShapes Go.ChangeAt Go.RowKit
set_option maxHeartbeats 2000000
set_option maxRecDepth 100000
def SRel.bV (m : Nat) : SRel := ⟨fun v w => IsV w v m, fun _ _ _ hb h => h.step hb⟩
def SRel.bN (m : Nat) : SRel := ⟨fun v w => IsN w v m, fun _ _ _ hb h => h.step hb⟩
/-- Bytes from i on, the least first. -/
def hvB (f : Nat → Nat) (i : Nat) : Nat → Nat
  | 0 => 0
  | k + 1 => f i + 256 * hvB f (i + 1) k
theorem hvB_bval (f : Nat → Nat) : ∀ k i, bval f i + 256 ^ i * hvB f i k = bval f (i + k)
  | 0, i => by simp [hvB]
  | k + 1, i => by
    have ih := hvB_bval f k (i + 1)
    rw [show i + (k + 1) = i + 1 + k by omega, ← ih]
    show bval f i + 256 ^ i * (f i + 256 * hvB f (i + 1) k) = bval f i + 256 ^ i * f i + 256 ^ (i + 1) * hvB f (i + 1) k
    rw [Nat.pow_succ]
    generalize hvB f (i + 1) k = x
    grind
theorem hvB_zero (f : Nat → Nat) (n : Nat) : hvB f 0 n = bval f n := by
  have h := hvB_bval f n 0
  rw [Nat.zero_add, Nat.pow_zero, Nat.one_mul] at h
  rw [← h]
  simp [bval]
theorem hvB_lt {f : Nat → Nat} : ∀ k i, (∀ j < i + k, f j < 256) → hvB f i k < 2 ^ (8 * k)
  | 0, i, _ => by simp [hvB]
  | k + 1, i, h => by
    have h1 := hvB_lt k (i + 1) (fun j hj => h j (by omega))
    have h2 := h i (by omega)
    show f i + 256 * hvB f (i + 1) k < 2 ^ (8 * (k + 1))
    rw [show 8 * (k + 1) = 8 * k + 8 by omega, Nat.pow_add]
    omega
theorem ref_number (f : Nat → Nat) (g n c : Nat) (w : World) (hg : g < w.heap.size) (hc : ∀ i < n, w.cell? ⟨g, i, none⟩ = some (.int .u8 (f i : Nat))) (hf : ∀ i < n, f i < 256) (hn : n ≤ 1000) (hnc : n ≤ c) (hcm : c ≤ 9223372036854775807) :
    Calls Tryd.prog 71 #[.slice (some ⟨g, 0, none⟩) n c] w (RetN (bval f n) w) := by
  rw [← hvB_zero]
  have hcc := Lib.hid (fun i (hi : i < n) W (hb : Below w.heap.size w W) => (((bcell hb).1 g i hg).trans (hc i hi)))
  clear hc
  have hHc := Lib.hid (And.intro hnc hcm)
  have w0 : IntKind.i64.wrap ((n : Int) - 1) = (n : Int) - 1 := by rw [IntKind.wrap_i64]; omega
  go_enter Tryd.func71, Tryd.ntmps71
  go_wp2
  clear w0
  go_loopw [3, 4] (fun v i wr => ∃ s : Nat, i = .int .i64 ((s : Int) - 1) ∧ s ≤ n ∧ IsN wr v (hvB f s (n - s)) ∧ Below w.heap.size w wr) (fun _ i _ => (intOf i + 1).toNat)
  case atStart => exact ⟨n, rfl, Nat.le_refl _, by rw [Nat.sub_self]; exact IsN.nil _, Below.refl _ _⟩
  case round =>
    obtain ⟨s, rfl, hs, hN, hL⟩ := hrel
    rename_i u3
    rcases Nat.eq_zero_or_pos s with rfl | hs0
    · rw [Nat.sub_zero] at hN
      go_wp2
      go_ret
      exact ⟨_, rfl, hN, hL⟩
    · obtain ⟨i, rfl⟩ : ∃ i, s = i + 1 := ⟨s - 1, by omega⟩
      rw [show (((i + 1 : Nat) : Int) - 1) = (i : Int) by omega]
      obtain ⟨vA, vm, vc, rfl, -, -, -⟩ := hN.form
      have hfi := hf i (by omega)
      have hlt := hvB_lt (f := f) (n - (i + 1)) (i + 1) (fun j hj => hf j (by omega))
      have hst : hvB f (i + 1) (n - (i + 1)) * 256 + f i = hvB f i (n - i) := by
        rw [show n - i = (n - (i + 1)) + 1 by omega]; show _ = f i + 256 * _; omega
      have hHst := Lib.hid hst
      have hb1 : hvB f (i + 1) (n - (i + 1)) < big := lt_big hlt (by omega)
      have hb2 : hvB f (i + 1) (n - (i + 1)) * 256 < big := by
        refine lt_big (k := 8 * (n - (i + 1)) + 8) ?_ (by omega)
        rw [Nat.pow_add]
        exact Nat.mul_lt_mul_of_pos_right hlt (by omega)
      have hb3 := Lib.hid hb2
      have hV := Lib.hid (fun V (h : Below wr.heap.size wr V) => (hN.step h).toV hb1)
      have hix := Lib.hid (fun V (h : Below wr.heap.size wr V) => hcc.out i (by omega) V (below_step h hL (Nat.le_refl _)))
      have d1 : decide ((0 : Int) ≤ (i : Int)) = true := by simp
      have d2 : (0 : Int) ≤ (i : Int) := by omega
      have d3 : (i : Int) < (n : Int) := by omega
      have hB := Lib.hid hL
      have hH2 := Lib.hid (show i + 1 ≤ n by omega)
      clear hst hlt hb1 hb2 hN hL hs hs0
      generalize hvB f (i + 1) (n - (i + 1)) = M at *
      generalize f i = x at *
      have hwx : IntKind.i64.wrap (x : Int) = (x : Int) := by rw [IntKind.wrap_i64]; omega
      have w3 : IntKind.i64.wrap ((i : Int) - 1) = (i : Int) - 1 := by rw [IntKind.wrap_i64]; omega
      go_upto_region 5 with (fail)
      generalize ha0 : Act.mk _ _ = a0
      have e0 : a0.tmps[0]?.getD undef = .slice (some ⟨g, 0, none⟩) n c := by rw [← ha0]; rfl
      have e3 : a0.tmps[3]?.getD undef = .slice vA vm vc := by rw [← ha0]; rfl
      have e4 : a0.tmps[4]?.getD undef = .int .i64 (i : Nat) := by rw [← ha0]; rfl
      have hz0 : a0.tmps.size = 23 := by rw [← ha0]; rfl
      have hha0 := Lib.hid ha0
      clear ha0
      refine wp_region_tailL (fun jx_ => match jx_ with | 0 => SRel.is (.slice vA vm vc) | 1 => SRel.bV 256 | 2 => SRel.bN (M * 256) | 3 => SRel.is (.slice (some ⟨g, 0, none⟩) n c) | 4 => SRel.is (.int .i64 (i : Nat)) | 5 => SRel.is (.pointer (some ⟨g, (i : Nat), none⟩)) | 6 => SRel.is (.int .u8 (x : Nat)) | 7 => SRel.is (.int .i64 (x : Nat)) | 8 => SRel.bV x | 9 => SRel.bN (M * 256 + x) | 10 => SRel.any | _ => SRel.any) 10 (by kernel_rfl) (by kernel_rfl) (by kernel_rfl) (slotsOk_of hz0 (by kernel_rfl)) (by kernel_rfl) (of_decide_eq_true (by kernel_rfl)) ⟨?_, ?_, ?_, ?_, ?_, ?_, ?_, ?_, ?_, ?_, trivial⟩ ?_
      · refine calmL_step rfl fun a ω κ hb hu hc hK => ?_
        have h3 : a.tmps[3]?.getD undef = .slice vA vm vc := (hu 3 rfl).trans e3
        have hk := Lib.hid (fun w1 (h : Below ω.heap.size ω w1) => hK (.slice vA vm vc) w1 rfl h)
        clear hK hu hc
        go_simp
        exact hk.out _ (Below.refl _ _)
      · refine calmL_step rfl fun a ω κ hb hu hc hK => ?_
        have hk := Lib.hid (fun v w1 (hv : (SRel.bV 256).p v w1) (h : Below ω.heap.size ω w1) => hK v w1 hv h)
        clear hK hu hc
        go_simp
        exact hk.out _ _ (IsV.lit256 ω 3) (below_alloc _ _)
      · refine calmL_step rfl fun a ω κ hb hu hc hK => ?_
        have h12 : a.tmps[12]?.getD undef = .slice vA vm vc := hc 0 12 rfl rfl
        have h13 : (SRel.bV 256).p (a.tmps[13]?.getD undef) ω := hc 1 13 rfl rfl
        have hk := Lib.hid (fun v w1 (hv : (SRel.bN (M * 256)).p v w1) (h : Below ω.heap.size ω w1) => hK v w1 hv h)
        clear hK hu hc
        go_simp
        go_at_call 25
        refine (timesN (m := M) (n := 256) ω (hV.out ω hb) h13).mono ?_
        rintro e w1 ⟨v, rfl, hv, hb1⟩
        exact hk.out _ _ hv hb1
      · refine calmL_step rfl fun a ω κ hb hu hc hK => ?_
        have h0 : a.tmps[0]?.getD undef = .slice (some ⟨g, 0, none⟩) n c := (hu 0 rfl).trans e0
        have hk := Lib.hid (fun w1 (h : Below ω.heap.size ω w1) => hK (.slice (some ⟨g, 0, none⟩) n c) w1 rfl h)
        clear hK hu hc
        go_simp
        exact hk.out _ (Below.refl _ _)
      · refine calmL_step rfl fun a ω κ hb hu hc hK => ?_
        have h4 : a.tmps[4]?.getD undef = .int .i64 (i : Nat) := (hu 4 rfl).trans e4
        have hk := Lib.hid (fun w1 (h : Below ω.heap.size ω w1) => hK (.int .i64 (i : Nat)) w1 rfl h)
        clear hK hu hc
        go_simp
        exact hk.out _ (Below.refl _ _)
      · refine calmL_step rfl fun a ω κ hb hu hc hK => ?_
        have h15 : a.tmps[15]?.getD undef = .slice (some ⟨g, 0, none⟩) n c := hc 3 15 rfl rfl
        have h16 : a.tmps[16]?.getD undef = .int .i64 (i : Nat) := hc 4 16 rfl rfl
        have hk := Lib.hid (fun w1 (h : Below ω.heap.size ω w1) => hK (.pointer (some ⟨g, (i : Nat), none⟩)) w1 rfl h)
        clear hK hu hc
        go_simp
        exact hk.out _ (Below.refl _ _)
      · refine calmL_step rfl fun a ω κ hb hu hc hK => ?_
        have h17 : a.tmps[17]?.getD undef = .pointer (some ⟨g, (i : Nat), none⟩) := hc 5 17 rfl rfl
        have hk := Lib.hid (fun w1 (h : Below ω.heap.size ω w1) => hK (.int .u8 (x : Nat)) w1 rfl h)
        clear hK hu hc
        have hq := hix.out ω hb
        go_simp
        exact hk.out _ (Below.refl _ _)
      · refine calmL_step rfl fun a ω κ hb hu hc hK => ?_
        have h18 : a.tmps[18]?.getD undef = .int .u8 (x : Nat) := hc 6 18 rfl rfl
        have hk := Lib.hid (fun w1 (h : Below ω.heap.size ω w1) => hK (.int .i64 (x : Nat)) w1 rfl h)
        clear hK hu hc
        go_simp
        exact hk.out _ (Below.refl _ _)
      · refine calmL_step rfl fun a ω κ hb hu hc hK => ?_
        have h19 : a.tmps[19]?.getD undef = .int .i64 (x : Nat) := hc 7 19 rfl rfl
        have hk := Lib.hid (fun v w1 (hv : (SRel.bV x).p v w1) (h : Below ω.heap.size ω w1) => hK v w1 hv h)
        clear hK hu hc
        go_simp
        exact hk.out _ _ (IsV.lit ω 3 (by omega)) (below_alloc _ _)
      · refine calmL_step rfl fun a ω κ hb hu hc hK => ?_
        have h14 : (SRel.bN (M * 256)).p (a.tmps[14]?.getD undef) ω := hc 2 14 rfl rfl
        have h20 : (SRel.bV x).p (a.tmps[20]?.getD undef) ω := hc 8 20 rfl rfl
        have hk := Lib.hid (fun v w1 (hv : (SRel.bN (M * 256 + x)).p v w1) (h : Below ω.heap.size ω w1) => hK v w1 hv h)
        clear hK hu hc
        go_simp
        go_at_call 24
        refine (plusN (m := M * 256) (n := x) ω (IsN.toV h14 hb3.out) h20).mono ?_
        rintro e w1 ⟨v, rfl, hv, hb1⟩
        exact hk.out _ _ hv hb1
      · intro aa ω hb hu hsz hdf hc
        have h12 : aa.tmps[12]?.getD undef = .slice vA vm vc := hc 0 12 (by decide) rfl
        have h15 : aa.tmps[15]?.getD undef = .slice (some ⟨g, 0, none⟩) n c := hc 3 15 (by decide) rfl
        have h16 : aa.tmps[16]?.getD undef = .int .i64 (i : Nat) := hc 4 16 (by decide) rfl
        have h17 : aa.tmps[17]?.getD undef = .pointer (some ⟨g, (i : Nat), none⟩) := hc 5 17 (by decide) rfl
        have h18 : aa.tmps[18]?.getD undef = .int .u8 (x : Nat) := hc 6 18 (by decide) rfl
        have h19 : aa.tmps[19]?.getD undef = .int .i64 (x : Nat) := hc 7 19 (by decide) rfl
        have h21 : (SRel.bN (M * 256 + x)).p (aa.tmps[21]?.getD undef) ω := hc 9 21 (by decide) rfl
        have ha0 := hha0.out
        subst ha0
        have he := act_patchL (n := 23) 10 [false, false, false, false, false, false, false, false, false, false, false, false, true, true, true, true, true, true, true, true, true, true, false] rfl (by kernel_rfl) hu hsz hdf
        simp only [patch, cond_true, cond_false, Nat.reduceAdd] at he
        clear hu hsz hdf hc hha0 e0 e3 e4 hz0
        rw [he]
        clear he
        generalize aa.tmps[12]?.getD undef = x12 at *
        generalize aa.tmps[13]?.getD undef = x13 at *
        generalize aa.tmps[14]?.getD undef = x14 at *
        generalize aa.tmps[15]?.getD undef = x15 at *
        generalize aa.tmps[16]?.getD undef = x16 at *
        generalize aa.tmps[17]?.getD undef = x17 at *
        generalize aa.tmps[18]?.getD undef = x18 at *
        generalize aa.tmps[19]?.getD undef = x19 at *
        generalize aa.tmps[20]?.getD undef = x20 at *
        generalize aa.tmps[21]?.getD undef = x21 at *
        subst h12 h15 h16 h17 h18 h19
        dsimp only [List.drop]
        have hB2 := Lib.hid (below_step hb hB.out (Nat.le_refl _))
        have h22 := Lib.hid (show IsN ω x21 (M * 256 + x) from h21)
        clear hV hb3 hix hb hB h21
        go_wp2_with fail
        go_roundw
        case rel => exact ⟨i, rfl, by have := hH2.out; omega, by rw [← hHst.out]; exact h22.out, hB2.out⟩
        case measure => simp [intOf]
end Go.Proofs.YtodcjeaannfbnaaDoor
namespace Go.Proofs.YtodcjeaannfbnaaDoor
open Go Go.RowKit

section
variable {P : Program} {ops : Array Oper} {Q : Exit → Act → World → Prop}

/-- What is told of the operations: the plain value of one, the cells of one that lays a block, the layer whose block one writes, and what it writes. -/
structure FSpecR where
  val : Nat → Option Value
  al : Nat → Option Nat
  tg : Nat → Option Nat
  row : Nat → Array Value
  sr : Nat → Option SRel
def FSpecR.rel0 (F : FSpecR) (i : Nat) : SRel := match F.val i with | some c => SRel.is c | none => SRel.any
def FSpecR.rel (F : FSpecR) (i : Nat) : SRel := match F.sr i with | some r => r | none => F.rel0 i
/-- One that writes a block. -/
def WriteOkR (P : Program) (Q : Exit → Act → World → Prop) (ops : Array Oper) (F : FSpecR) (a0 : Act) (w0 : World) (j n : Nat) (c : Array Value) (o : Oper) : Prop :=
  o.dst = none ∧ (o.after.toList.any fun e => e.on == j && Region.binds .any e) = true ∧ c.size = n ∧
  ∀ (a : Act) (w : World) (K : Act → World → Prop) (g : Nat), Below w0.heap.size w0 w → Untouched ops a0 a → Came ops F.rel0 o a w → (∀ d, dstAt ops j = some d → a.tmps[d]?.getD undef = .pointer (some ⟨g, 0, none⟩)) → Row w g n → (∀ v, K (a.put none v) (w.setRow g c)) →
    if Region.wanted o (yielded ops a.tmps) = true then Oper.wp P o a w K Q else K (a.put o.dst undef) w
/-- Some writing does not wait for the operation. -/
def lateB (ops : Array Oper) (F : FSpecR) (i : Nat) : Bool := !((List.range ops.size).all fun k => (F.tg k).isNone || pathB ops ops.size k i)
def FStepOkR (P : Program) (ops : Array Oper) (Q : Exit → Act → World → Prop) (F : FSpecR) (a0 : Act) (w0 : World) (i : Nat) (o : Oper) : Prop :=
  match F.al i, F.tg i with
  | some n, _ => AllocOk P Q ops n o
  | none, some j => ∃ n, F.al j = some n ∧ WriteOkR P Q ops F a0 w0 j n (F.row i) o
  | none, none => if lateB ops F i = true then StepOk P ops Q F.rel0 a0 w0 i o else StepOk P ops Q F.rel a0 w0 i o
def FStepsOkR (P : Program) (ops : Array Oper) (Q : Exit → Act → World → Prop) (F : FSpecR) (a0 : Act) (w0 : World) : Nat → List Oper → Prop
  | _, [] => True
  | i, o :: l => FStepOkR P ops Q F a0 w0 i o ∧ FStepsOkR P ops Q F a0 w0 (i + 1) l
theorem fsteps_atR {F : FSpecR} {a0 : Act} {w0 : World} : ∀ (l : List Oper) (n i : Nat) (o : Oper), FStepsOkR P ops Q F a0 w0 n l → l[i]? = some o → FStepOkR P ops Q F a0 w0 (n + i) o
  | [], n, i, o, _, h => by simp at h
  | x :: l, n, 0, o, h1, h => by
      have : x = o := by simpa using h
      subst this
      exact h1.1
  | x :: l, n, i + 1, o, h1, h => by
      have := fsteps_atR l (n + 1) i o h1.2 (by simpa using h)
      rw [show n + (i + 1) = n + 1 + i by omega]
      exact this
/-- No operation is told of twice; no block is written twice. -/
def FSpecR.ok (F : FSpecR) (n : Nat) : Bool := (List.range n).all fun i => (List.range n).all fun j => (i == j || (F.tg i).isNone || F.tg i != F.tg j) && ((F.al i).isNone || ((F.tg i).isNone && (F.val i).isNone && (F.sr i).isNone)) && ((F.sr i).isNone || (F.val i).isNone)
/-- What yields a value that holds only ahead of all writing is waited for by all that write. -/
def FSpecR.early (F : FSpecR) (ops : Array Oper) : Bool := (List.range ops.size).all fun i => (F.tg i).isSome || !lateB ops F i || (F.sr i).isNone
/-- Nothing has been written. -/
def Dry (F : FSpecR) (L : Nat → Bool) : Prop := ∀ k, L k = true → F.tg k = none
/-- What stands while the region runs. -/
structure FInvR (ops : Array Oper) (F : FSpecR) (a0 : Act) (w0 : World) (G : Nat → Nat) (L : Nat → Bool) (a : Act) (w : World) : Prop where
  bel : Below w0.heap.size w0 w
  un : Untouched ops a0 a
  sz : a.tmps.size = a0.tmps.size
  df : a.defers = a0.defers
  val : ∀ j d, L j = true → dstAt ops j = some d → (F.rel0 j).p (a.tmps[d]?.getD undef) w
  sr : Dry F L → ∀ j d, L j = true → dstAt ops j = some d → (F.rel j).p (a.tmps[d]?.getD undef) w
  al : ∀ j d n, L j = true → dstAt ops j = some d → F.al j = some n → a.tmps[d]?.getD undef = .pointer (some ⟨G j, 0, none⟩)
  blk : ∀ j n, L j = true → F.al j = some n → w0.heap.size ≤ G j ∧ Row w (G j) n
  ne : ∀ i j n m, L i = true → L j = true → F.al i = some n → F.al j = some m → i ≠ j → G i ≠ G j
  row : ∀ k j, L k = true → F.tg k = some j → L j = true ∧ (∃ n, F.al j = some n) ∧ rowAt w (G j) = F.row k
theorem rel_anyR {F : FSpecR} {i : Nat} {v : Value} {w w' : World} (h : (F.rel0 i).p v w) : (F.rel0 i).p v w' := by
  unfold FSpecR.rel0 at *
  cases h1 : F.val i with
  | none => trivial
  | some c => rw [h1] at h; exact h
theorem wp_region_freshR {id : Nat} {a0 : Act} {w0 : World} (F : FSpecR) (hm : P.follows .mixedOrders = true) (he : edgesOk ops = true) (hd : dstsOk ops = true) (hz : slotsOk ops a0.tmps.size = true) (hF : F.ok ops.size = true) (hE : F.early ops = true)
    (hstep : FStepsOkR P ops Q F a0 w0 0 ops.toList)
    (hend : ∀ (a : Act) (w : World) (G : Nat → Nat), FInvR ops F a0 w0 G (fun i => decide (i < ops.size)) a w → Q .normal a w) :
    (Code.region id ops true).wp P Q a0 w0 := by
  refine wp_region_any hm ?_
  have hlt : ∀ i d, dstAt ops i = some d → i < ops.size := fun i d h => by
    unfold dstAt at h
    rcases Nat.lt_or_ge i ops.size with h1 | h1
    · exact h1
    · rw [Array.getElem?_eq_none h1] at h; cases h
  have hdst : ∀ i j d e, i ≠ j → dstAt ops i = some d → dstAt ops j = some e → d ≠ e := by
    intro i j d e hij h1 h2
    have := List.all_eq_true.1 (List.all_eq_true.1 hd i (by simpa using hlt i d h1)) j (by simpa using hlt j e h2)
    rw [h1, h2] at this
    simpa [hij] using this
  have hslot : ∀ i d, dstAt ops i = some d → d < a0.tmps.size := by
    intro i d h1
    have := List.all_eq_true.1 hz i (by simpa using hlt i d h1)
    rw [h1] at this
    simpa using this
  refine wpAny_inv he (fun listed a w => (listed.size = ops.size ∧ ∀ k o, listed.getD k false = true → ops[k]? = some o → ∀ e ∈ o.after, Region.binds .any e = true → listed.getD e.on false = true) ∧ ∃ G, FInvR ops F a0 w0 G (fun i => listed.getD i false) a w) ?_ ?_ _ _ _ _ (by simp) ?_ ?_
  · rintro listed a w i o hs ⟨⟨-, hcl⟩, G, I⟩ hi h1 ho h2
    have hs0 : (listed.setIfInBounds i true).size = ops.size := by simpa using hs
    have hst := fsteps_atR ops.toList 0 i o hstep (by rw [Array.getElem?_toList]; exact ho)
    rw [Nat.zero_add] at hst
    have hil : i < listed.size := by omega
    have hli : listed.getD i false = false := by simpa [hil] using h1
    have hcl' : ∀ k o', (listed.setIfInBounds i true).getD k false = true → ops[k]? = some o' → ∀ e ∈ o'.after, Region.binds .any e = true → (listed.setIfInBounds i true).getD e.on false = true := by
      intro k o' hk ho' e he1 he2
      have hle : listed.getD e.on false = true := by
        by_cases hki : k = i
        · subst hki
          rw [ho] at ho'
          cases ho'
          exact h2 e he1 he2
        · have hk' : listed.getD k false = true := by simpa [Array.getElem?_setIfInBounds_ne (Ne.symm hki)] using hk
          exact hcl k o' hk' ho' e he1 he2
      by_cases hei : e.on = i
      · rw [hei]; simp [hil]
      · simpa [Array.getElem?_setIfInBounds_ne (Ne.symm hei)] using hle
    have hs' : (listed.setIfInBounds i true).size = ops.size ∧ _ := ⟨hs0, hcl'⟩
    have hL : ∀ j, (listed.setIfInBounds i true).getD j false = true → j = i ∨ listed.getD j false = true := by
      intro j hj
      by_cases hij : i = j
      · exact .inl hij.symm
      · exact .inr (by simpa [Array.getElem?_setIfInBounds_ne hij] using hj)
    have hLm : ∀ j, listed.getD j false = true → (listed.setIfInBounds i true).getD j false = true := by
      intro j hj
      by_cases hij : i = j
      · subst hij; simp [hil]
      · simpa [Array.getElem?_setIfInBounds_ne hij] using hj
    have hun : ∀ v, Untouched ops a0 (a.put o.dst v) := by
      intro v s hs'
      have hns : o.dst ≠ some s := by
        have := List.all_eq_true.1 hs' o (Array.mem_toList_iff.2 (Array.mem_of_getElem? ho))
        simpa using this
      rw [← I.un s hs']
      cases hd' : o.dst with
      | none => rfl
      | some d =>
        have hne : d ≠ s := fun e => hns (by rw [hd', e])
        simp [Act.put, Array.getElem?_setIfInBounds_ne hne]
    have hsz : ∀ v, (a.put o.dst v).tmps.size = a0.tmps.size := fun v => by cases hd' : o.dst <;> simp [Act.put, I.sz]
    have hdf : ∀ v, (a.put o.dst v).defers = a0.defers := fun v => by cases hd' : o.dst <;> simp [Act.put, I.df]
    have hother : ∀ v j d, listed.getD j false = true → dstAt ops j = some d → (a.put o.dst v).tmps[d]?.getD undef = a.tmps[d]?.getD undef := by
      intro v j d hj hjd
      have hij : i ≠ j := fun e => by rw [e, hj] at hli; cases hli
      cases hd' : o.dst with
      | none => rfl
      | some d' =>
        have hne : d' ≠ d := hdst i j d' d hij (by unfold dstAt; rw [ho]; exact hd') hjd
        simp [Act.put, Array.getElem?_setIfInBounds_ne hne]
    have hown : ∀ v d, dstAt ops i = some d → (a.put o.dst v).tmps[d]?.getD undef = v := by
      intro v d hid
      have hd1 := hslot i d hid
      have hod : o.dst = some d := by unfold dstAt at hid; rw [ho] at hid; exact hid
      rw [hod]
      rw [← I.sz] at hd1
      simp [Act.put, hd1]
    have hcame0 : Came ops F.rel0 o a w := by
      intro j d hj hjd
      obtain ⟨e, he1, he2⟩ := List.any_eq_true.1 hj
      have he1 : e ∈ o.after := Array.mem_toList_iff.1 he1
      simp only [Bool.and_eq_true, beq_iff_eq] at he2
      have hjl : listed.getD j false = true := by rw [← he2.1]; exact h2 e he1 he2.2
      exact I.val j d hjl hjd
    have hdry : (Dry F fun z => (listed.setIfInBounds i true).getD z false) → Dry F fun z => listed.getD z false := fun h k hk => h k (hLm k hk)
    have hcame : lateB ops F i = false → Came ops F.rel o a w := by
      intro htn j d hj hjd
      obtain ⟨e, he1, he2⟩ := List.any_eq_true.1 hj
      have he1 : e ∈ o.after := Array.mem_toList_iff.1 he1
      simp only [Bool.and_eq_true, beq_iff_eq] at he2
      have hjl : listed.getD j false = true := by rw [← he2.1]; exact h2 e he1 he2.2
      refine I.sr (fun k hk => ?_) j d hjl hjd
      have hkl : k < ops.size := by
        rcases Nat.lt_or_ge k ops.size with h | h
        · exact h
        · have hk : listed.getD k false = true := hk
          rw [Array.getD_eq_getD_getElem?, Array.getElem?_eq_none (by omega)] at hk; cases hk
      have hEi : ((List.range ops.size).all fun k => (F.tg k).isNone || pathB ops ops.size k i) = true := by
        unfold lateB at htn
        simpa using htn
      have h3 := List.all_eq_true.1 hEi k (by simpa using hkl)
      rw [Bool.or_eq_true] at h3
      rcases h3 with h3 | h3
      · simpa using h3
      · have h4 := path_listed hcl _ _ _ hk h3
        rw [hli] at h4
        cases h4
    have htg : ∀ k k' j, k < ops.size → k' < ops.size → F.tg k = some j → F.tg k' = some j → k = k' := by
      intro k k' j hk hk' h3 h4
      have := List.all_eq_true.1 (List.all_eq_true.1 hF k (by simpa using hk)) k' (by simpa using hk')
      rw [h3, h4, Bool.and_eq_true, Bool.and_eq_true] at this
      simpa using this.1.1
    have hal0 : ∀ n, F.al i = some n → F.tg i = none ∧ F.val i = none ∧ F.sr i = none := by
      intro n h3
      have := List.all_eq_true.1 (List.all_eq_true.1 hF i (by simpa using hi)) i (by simpa using hi)
      rw [h3] at this
      simp only [Option.isNone_some, Bool.false_or, Bool.and_eq_true] at this
      obtain ⟨⟨-, h4⟩, -⟩ := this
      simp only [Option.isNone_iff_eq_none] at h4
      exact ⟨h4.1.1, h4.1.2, h4.2⟩
    have hLs : ∀ j, listed.getD j false = true → j < ops.size := by
      intro j hj
      rcases Nat.lt_or_ge j ops.size with h | h
      · exact h
      · rw [Array.getD_eq_getD_getElem?, Array.getElem?_eq_none (by omega)] at hj; cases hj
    unfold FStepOkR at hst
    cases hal : F.al i with
    | some n =>
      rw [hal] at hst
      refine wpOp_step ho fun K hK => hst a w K fun c t hc => hK _ _ ⟨hs', fun j => if j = i then w.heap.size else G j, ?_⟩
      have hG : ∀ j, listed.getD j false = true → (if j = i then w.heap.size else G j) = G j := fun j hj => if_neg fun e => by rw [e, hli] at hj; cases hj
      refine ⟨I.bel.alloc I.bel.size _, hun _, hsz _, hdf _, ?_, ?_, ?_, ?_, ?_, ?_⟩
      · intro j d hj hjd
        rcases hL j hj with rfl | hj
        · unfold FSpecR.rel0; rw [(hal0 n hal).2.1]; trivial
        · rw [hother _ j d hj hjd]; exact rel_anyR (I.val j d hj hjd)
      · intro hdr j d hj hjd
        rcases hL j hj with rfl | hj
        · unfold FSpecR.rel FSpecR.rel0; rw [(hal0 n hal).2.2, (hal0 n hal).2.1]; trivial
        · rw [hother _ j d hj hjd]; exact (F.rel j).st _ _ _ (below_alloc w _) (I.sr (hdry hdr) j d hj hjd)
      · intro j d m hj hjd hm
        rcases hL j hj with rfl | hj
        · rw [hown _ d hjd, if_pos rfl]
        · rw [hother _ j d hj hjd, hG j hj]; exact I.al j d m hj hjd hm
      · intro j m hj hm
        rcases hL j hj with rfl | hj
        · rw [if_pos rfl]
          rw [hal] at hm
          cases hm
          exact ⟨I.bel.size, (row_new_cells rfl hc).2 trivial⟩
        · rw [hG j hj]
          have := I.blk j m hj hm
          exact ⟨this.1, (row_old this.2.lt).2 this.2⟩
      · intro j k m m' hj hk hm hm' hjk
        rcases hL j hj with rfl | hj'
        · rcases hL k hk with rfl | hk'
          · exact absurd rfl hjk
          · rw [if_pos rfl, hG k hk']
            have := (I.blk k m' hk' hm').2.lt
            omega
        · rcases hL k hk with rfl | hk'
          · rw [if_pos rfl, hG j hj']
            have := (I.blk j m hj' hm).2.lt
            omega
          · rw [hG j hj', hG k hk']; exact I.ne j k m m' hj' hk' hm hm' hjk
      · intro k j hk hkj
        rcases hL k hk with rfl | hk'
        · rw [(hal0 n hal).1] at hkj; cases hkj
        · obtain ⟨h3, ⟨n', h4⟩, h5⟩ := I.row k j hk' hkj
          refine ⟨hLm j h3, ⟨n', h4⟩, ?_⟩
          rw [hG j h3, rowAt_old (I.blk j n' h3 h4).2.lt]
          exact h5
    | none =>
      rw [hal] at hst
      cases htgi : F.tg i with
      | some j =>
        rw [htgi] at hst
        obtain ⟨n, hjn, hod, haf, hcs, hw⟩ := hst
        obtain ⟨e, he1, he2⟩ := List.any_eq_true.1 haf
        have he1 : e ∈ o.after := Array.mem_toList_iff.1 he1
        simp only [Bool.and_eq_true, beq_iff_eq] at he2
        have hjl : listed.getD j false = true := by rw [← he2.1]; exact h2 e he1 he2.2
        have hB := I.blk j n hjl hjn
        have hid : ∀ d, dstAt ops i ≠ some d := fun d h => by unfold dstAt at h; rw [ho] at h; exact absurd (hod.symm.trans h) (by simp)
        refine wpOp_step ho fun K hK => hw a w K (G j) I.bel I.un hcame0 (fun d hd => I.al j d n hjl hd hjn) hB.2 fun v => hod ▸ hK _ _ ⟨hs', G, ?_⟩
        refine ⟨below_setRow I.bel hB.1, hun _, hsz _, hdf _, ?_, fun hdr => absurd (hdr i (by simp [hil])) (by rw [htgi]; simp), ?_, ?_, ?_, ?_⟩
        · intro k d hk hkd
          rcases hL k hk with rfl | hk'
          · exact absurd hkd (hid d)
          · rw [hother _ k d hk' hkd]; exact rel_anyR (I.val k d hk' hkd)
        · intro k d m hk hkd hm
          rcases hL k hk with rfl | hk'
          · exact absurd hkd (hid d)
          · rw [hother _ k d hk' hkd]; exact I.al k d m hk' hkd hm
        · intro k m hk hm
          rcases hL k hk with rfl | hk'
          · rw [hal] at hm; cases hm
          · have h3 := I.blk k m hk' hm
            refine ⟨h3.1, ?_⟩
            by_cases hjk : k = j
            · subst hjk
              rw [hjn] at hm
              cases hm
              exact (row_setRow_same rfl h3.2).2 hcs
            · exact (row_setRow_far (I.ne k j m n hk' hjl hm hjn hjk)).2 h3.2
        · intro k l m m' hk hl hm hm' hkl
          rcases hL k hk with rfl | hk'
          · rw [hal] at hm; cases hm
          · rcases hL l hl with rfl | hl'
            · rw [hal] at hm'; cases hm'
            · exact I.ne k l m m' hk' hl' hm hm' hkl
        · intro k l hk hkl
          rcases hL k hk with rfl | hk'
          · rw [htgi] at hkl
            cases hkl
            exact ⟨hLm j hjl, ⟨n, hjn⟩, rowAt_setRow_same hB.2⟩
          · obtain ⟨h3, ⟨n', h4⟩, h5⟩ := I.row k l hk' hkl
            refine ⟨hLm l h3, ⟨n', h4⟩, ?_⟩
            have hlj : l ≠ j := fun e => by
              subst e
              have := htg k i l (hLs k hk') hi hkl htgi
              rw [this, hli] at hk'
              cases hk'
            rw [rowAt_setRow_far (I.ne l j n' n h3 hjl h4 hjn hlj)]
            exact h5
      | none =>
        rw [htgi] at hst
        have hst2 : ∀ (K : Act → World → Prop), (∀ v w', (F.rel i).p v w' → Below w.heap.size w w' → K (a.put o.dst v) w') → if Region.wanted o (yielded ops a.tmps) = true then Oper.wp P o a w K Q else K (a.put o.dst undef) w := by
          intro K hK
          cases hlt : lateB ops F i with
          | false =>
            simp only [hlt, Bool.false_eq_true, if_false] at hst
            exact hst a w K I.bel I.un (hcame hlt) hK
          | true =>
            simp only [hlt, if_true] at hst
            refine hst a w K I.bel I.un hcame0 fun v w' hv hb' => hK v w' ?_ hb'
            have hEi := List.all_eq_true.1 hE i (by simpa using hi)
            rw [htgi, hlt] at hEi
            have h4 : F.sr i = none := by simpa using hEi
            unfold FSpecR.rel
            rw [h4]
            exact hv
        refine wpOp_step ho fun K hK => hst2 K fun v w' hv hb' => hK _ _ ⟨hs', G, ?_⟩
        have hv0 : (F.rel0 i).p v w' := by
          have h3 := List.all_eq_true.1 (List.all_eq_true.1 hF i (by simpa using hi)) i (by simpa using hi)
          rw [Bool.and_eq_true] at h3
          unfold FSpecR.rel at hv
          cases h4 : F.sr i with
          | none => rw [h4] at hv; exact hv
          | some r =>
            have h5 : F.val i = none := by
              have := h3.2
              rw [h4] at this
              simpa using this
            unfold FSpecR.rel0
            rw [h5]
            trivial
        refine ⟨below_step hb' I.bel (Nat.le_refl _), hun _, hsz _, hdf _, ?_, ?_, ?_, ?_, ?_, ?_⟩
        · intro k d hk hkd
          rcases hL k hk with rfl | hk'
          · rw [hown _ d hkd]; exact hv0
          · rw [hother _ k d hk' hkd]; exact rel_anyR (I.val k d hk' hkd)
        · intro hdr k d hk hkd
          rcases hL k hk with rfl | hk'
          · rw [hown _ d hkd]; exact hv
          · rw [hother _ k d hk' hkd]; exact (F.rel k).st _ _ _ hb' (I.sr (hdry hdr) k d hk' hkd)
        · intro k d m hk hkd hm
          rcases hL k hk with rfl | hk'
          · rw [hal] at hm; cases hm
          · rw [hother _ k d hk' hkd]; exact I.al k d m hk' hkd hm
        · intro k m hk hm
          rcases hL k hk with rfl | hk'
          · rw [hal] at hm; cases hm
          · have h3 := I.blk k m hk' hm
            exact ⟨h3.1, row_below h3.2 hb' h3.2.lt⟩
        · intro k l m m' hk hl hm hm' hkl
          rcases hL k hk with rfl | hk'
          · rw [hal] at hm; cases hm
          · rcases hL l hl with rfl | hl'
            · rw [hal] at hm'; cases hm'
            · exact I.ne k l m m' hk' hl' hm hm' hkl
        · intro k l hk hkl
          rcases hL k hk with rfl | hk'
          · rw [htgi] at hkl; cases hkl
          · obtain ⟨h3, ⟨n', h4⟩, h5⟩ := I.row k l hk' hkl
            exact ⟨hLm l h3, ⟨n', h4⟩, (rowAt_below hb' (I.blk l n' h3 h4).2.lt).trans h5⟩
  · rintro listed a w ⟨⟨hs, -⟩, G, I⟩ hall
    have hLs : ∀ j, decide (j < ops.size) = true → listed.getD j false = true := fun j hj => hall j (by simpa using hj)
    refine hend a w G ⟨I.bel, I.un, I.sz, I.df, fun j d hj => I.val j d (hLs j hj), fun hdr j d hj => I.sr (fun k hk => hdr k (by
      have : k < ops.size := by
        rcases Nat.lt_or_ge k ops.size with h | h
        · exact h
        · have hk : listed.getD k false = true := hk
          rw [Array.getD_eq_getD_getElem?, Array.getElem?_eq_none (by omega)] at hk; cases hk
      simpa using this)) j d (hLs j hj), fun j d n hj => I.al j d n (hLs j hj), fun j n hj => I.blk j n (hLs j hj), fun i j n m hi hj => I.ne i j n m (hLs i hi) (hLs j hj), fun k j hk hkj => ?_⟩
    have hks := I.row k j (hLs k hk) hkj
    refine ⟨?_, hks.2⟩
    have h3 := hks.1
    rcases Nat.lt_or_ge j ops.size with h | h
    · simpa using h
    · rw [Array.getD_eq_getD_getElem?, Array.getElem?_eq_none (by omega)] at h3; cases h3
  · unfold left
    rw [Array.toList_replicate]
    exact Nat.le_trans (List.length_filter_le _ _) (by simp)
  · have h0 : ∀ j, (Array.replicate ops.size false).getD j false ≠ true := fun j => by
      rw [Array.getD_eq_getD_getElem?, Array.getElem?_replicate]
      split <;> simp
    exact ⟨⟨by simp, fun k o hk => absurd hk (h0 k)⟩, fun _ => 0, (Below.refl _ _).drew, fun _ _ => rfl, rfl, rfl, fun j d hj => absurd hj (h0 j), fun _ j d hj => absurd hj (h0 j), fun j d n hj => absurd hj (h0 j), fun j n hj => absurd hj (h0 j), fun i j n m hi => absurd hi (h0 i), fun k j hk => absurd hk (h0 k)⟩
theorem fstep_valR {F : FSpecR} {a0 : Act} {w0 : World} {i : Nat} {o : Oper} (h1 : F.al i = none) (h2 : F.tg i = none) (hl : lateB ops F i = false) (h : StepOk P ops Q F.rel a0 w0 i o) : FStepOkR P ops Q F a0 w0 i o := by
  unfold FStepOkR
  rw [h1, h2]
  simp only [hl, Bool.false_eq_true, if_false]
  exact h
theorem fstep_lateR {F : FSpecR} {a0 : Act} {w0 : World} {i : Nat} {o : Oper} (h1 : F.al i = none) (h2 : F.tg i = none) (hl : lateB ops F i = true) (h : StepOk P ops Q F.rel0 a0 w0 i o) : FStepOkR P ops Q F a0 w0 i o := by
  unfold FStepOkR
  rw [h1, h2]
  simp only [hl, if_true]
  exact h
theorem fstep_alR {F : FSpecR} {a0 : Act} {w0 : World} {i n : Nat} {o : Oper} (h1 : F.al i = some n) (hg : o.guard = none)
    (h : ∀ (a : Act) (w : World) (K : Act → World → Prop), (∀ c t, Cells c n → K (a.put o.dst (.pointer (some ⟨w.heap.size, 0, none⟩))) (w.alloc (.cells c t))) → Oper.wp P o a w K Q) : FStepOkR P ops Q F a0 w0 i o := by
  unfold FStepOkR
  rw [h1]
  intro a w K hK
  rw [if_pos (by simp [Region.wanted, hg])]
  exact h a w K hK
theorem fstep_stR {F : FSpecR} {a0 : Act} {w0 : World} {i j n : Nat} {d : Tmp} {o : Oper} (h1 : F.al i = none) (h2 : F.tg i = some j) (h3 : F.al j = some n) (hod : o.dst = none) (haf : (o.after.toList.any fun e => e.on == j && Region.binds .any e) = true) (hcs : (F.row i).size = n) (hg : o.guard = none) (hdj : dstAt ops j = some d)
    (h : ∀ (a : Act) (w : World) (K : Act → World → Prop) (g : Nat), Below w0.heap.size w0 w → Untouched ops a0 a → Came ops F.rel0 o a w → a.tmps[d]?.getD undef = .pointer (some ⟨g, 0, none⟩) → Row w g n → (∀ v, K (a.put none v) (w.setRow g (F.row i))) → Oper.wp P o a w K Q) : FStepOkR P ops Q F a0 w0 i o := by
  unfold FStepOkR
  rw [h1, h2]
  refine ⟨n, h3, hod, haf, hcs, fun a w K g hb hu hc hp hr hK => ?_⟩
  rw [if_pos (by simp [Region.wanted, hg])]
  exact h a w K g hb hu hc (hp d hdj) hr hK
end
end Go.Proofs.YtodcjeaannfbnaaDoor
namespace Go.Proofs.YtodcjeaannfbnaaDoor
open Go.ChangeShapes Go.WideShapes Go.ChangeAt Go.RowKit
set_option maxHeartbeats 2000000
set_option maxRecDepth 100000
attribute [local irreducible] arrV dgA sha
attribute [local go_sem ↓] load_num store_num execl_num execs_num load_o32 store_o32 execl_o32 execs_o32
attribute [local go_sem] isHead_mk isPart_mk offOf_mk blkOf_mk isAgg_mk cellsV_mk row_drew rowAt_drew row_new_cells row_old rowAt_new rowAt_old setRow_new zeroNum zeroD bs_app
/-- A literal of two bytes. -/
theorem bs_two (w : World) (a b : UInt8) (t : TypeId) : Bs (w.alloc (.cells #[.int .u8 (a.toNat : Int), .int .u8 (b.toNat : Int)] t)) (some ⟨w.heap.size, 0, none⟩) [a, b] 2 :=
  ⟨Rd.of_blk (cs := #[.int .u8 (a.toNat : Int), .int .u8 (b.toNat : Int)]) (push_new _ _) (B := (w.alloc (.cells #[.int .u8 (a.toNat : Int), .int .u8 (b.toNat : Int)] t)).heap.size) (by simp), by simp, by omega⟩
theorem writeS {K : Nat → W32} {w : World} {A : Option Addr} {l : List UInt8} {n c : Nat} (hT : Tabs K w) (m m' : List UInt8) (h : Bs w A l c) (hn : l.length = n) (hm : m ++ l = m') : Calls Tryd.prog 68 #[.agg (stL K m).cells, .slice A n c] w fun e w' => e = .returned (.agg (stL K m').cells) ∧ Below w.heap.size w w' := by
  subst hn hm
  exact writeC hT m h
theorem SBg : SlT Tryd.prog 22 5 1 1 := SlT.mk' Tryd.underlying22 (by kernel_rfl) (by omega)
/-- Bytes of the call's own. -/
def SRel.gb (l : List UInt8) (n : Nat) : SRel := ⟨fun v w => ∃ g c, v = .slice (some ⟨g, 0, none⟩) n c ∧ Bs w (some ⟨g, 0, none⟩) l c, fun _ _ _ hb ⟨g, c, h1, h2⟩ => ⟨g, c, h1, h2.step hb⟩⟩
def lbB (lb b : UInt8) (p : List UInt8) : List UInt8 := lb :: b :: p
def dgT (K : Nat → W32) (lb : UInt8) (p : List UInt8) : List UInt8 := sha K (lbB lb 0 p) ++ sha K (lbB lb 1 p)
theorem dgT_len (K : Nat → W32) (lb : UInt8) (p : List UInt8) : (dgT K lb p).length = 64 := by unfold dgT; rw [List.length_append, sha_len, sha_len]
section
variable {o : Oper} {a : Act} {w : World} {K : Act → World → Prop} {Q : Exit → Act → World → Prop}
/-- append of one digest onto another: new memory. -/
theorem wp_app64 {x y : List UInt8} {g1 g2 : Nat} (s t : Operand) (ho : o.op = Op.call { callee := Callee.builtin Builtin.append, args := #[s, t], argTypes := #[22, 22] })
    (hs : a.eval s = .slice (some ⟨g1, 0, none⟩) 32 32) (ht : a.eval t = .slice (some ⟨g2, 0, none⟩) 32 32) (hx : Bs w (some ⟨g1, 0, none⟩) x 32) (hy : Bs w (some ⟨g2, 0, none⟩) y 32) (hxl : x.length = 32) (hyl : y.length = 32)
    (h : ∀ v w', (SRel.gb (x ++ y) 64).p v w' → Below w.heap.size w w' → K (a.put o.dst v) w') : Oper.wp Tryd.prog o a w K Q := by
  obtain ⟨i, z, hi, hz, hsz, hb, hzs⟩ := SBg.info
  obtain ⟨v', w', hrun, r1, r2⟩ := run_append_arg_grows (P := Tryd.prog) w 22 o.type 5 i z 1 1 SBg.under hi hz hsz hb hzs (by omega) ⟨g1, 0, none⟩ 32 32 (bytesV x) (by rw [bytesV_length]; omega) (fun j u hj => hx.rd.all hj) ⟨g2, 0, none⟩ 32 32 (bytesV y) (by rw [bytesV_length]; omega) (fun j u hj => hy.rd.all hj) (by omega) (by unfold maxLen; omega) (by omega)
  unfold Oper.wp
  simp [execOp, ho, resolve, invoke, builtin, hs, ht, hrun, Result.andThen]
  refine h v' w' ?_ ((Below.refl _ w).grown r2 (Nat.le_refl _) (fun k hk => by cases hk))
  rcases r1.2 with ⟨-, h0⟩ | ⟨g, cap, cur, rfl, hg, hh, hle, hmx, -, -⟩
  · cases h0
  · refine ⟨g, cap, rfl, ⟨?_, ?_, hmx⟩⟩
    · have := Rd.of_own r1
      rw [← bytesV_append] at this
      exact this
    · rw [List.length_append]; omega
end
theorem scalar_Digest (K : Nat → W32) (A : Option Addr) (p : List UInt8) (n c : Nat) (lb : UInt8) (w : World) (hn : p.length = n) (hT : Tabs K w) (hp : Bs w A p c) : Calls Tryd.prog 36 #[.int .u8 (lb.toNat : Nat), .slice A n c] w fun e w' => e = .returned (numV (ofL (dgT K lb p))) ∧ Below w.heap.size w w' := by
  have kOf := Lib.hid (fun V A c (h : Bs V A (dgT K lb p) c) => scalar_Of A (dgT K lb p) 64 c V (dgT_len K lb p) h)
  simp only [Nat.le_refl, decide_true, cond_true] at kOf
  obtain ⟨r, hr⟩ : ∃ r, ofL (dgT K lb p) = r := ⟨_, rfl⟩
  rw [hr] at kOf ⊢
  clear hr
  unfold numV at kOf ⊢
  have hc0 := arrK_cells .u64 4 (wd 0)
  have hcr := arrK_cells .u64 4 (wd r)
  have hcz := dgA_cells []
  have hd1 := dgA_cells (sha K (lbB lb 0 p))
  have hd2 := dgA_cells (sha K (lbB lb 1 p))
  have hL0 := below_alloc w (Obj.cells (arrK .u64 4 (wd 0)) 41)
  have hR := Lib.hid (show Row (w.alloc (Obj.cells (arrK .u64 4 (wd 0)) 41)) w.heap.size 4 from (row_new rfl).2 hc0.1)
  have hTt := Lib.hid (hT.step hL0)
  have hPp := Lib.hid (hp.step hL0)
  have hL := Lib.hid hL0
  clear hT hp hL0
  go_enter Tryd.func36, Tryd.ntmps36
  go_upto_region 1 with (fail)
  generalize w.alloc _ = W0 at *
  go_wp2_with fail
  refine (newC0 (K := K) _).mono ?_
  rintro e u0 ⟨rfl, hb⟩
  replace hR := Lib.hid (row_below hR.out hb hR.out.lt)
  replace hTt := Lib.hid (hTt.out.step hb)
  replace hPp := Lib.hid (hPp.out.step hb)
  replace hL := Lib.hid (below_step hb hL.out (Nat.le_refl _))
  clear hb
  dsimp only
  go_wp2_with fail
  have ha := below_alloc u0 (Obj.cells #[Value.int .u8 (lb.toNat : Nat), Value.int .u8 0] 5)
  have hbl := Lib.hid (bs_two u0 lb 0 5)
  replace hR := Lib.hid (row_below hR.out ha hR.out.lt)
  replace hTt := Lib.hid (hTt.out.step ha)
  replace hPp := Lib.hid (hPp.out.step ha)
  replace hL := Lib.hid (below_step ha hL.out (Nat.le_refl _))
  clear ha
  refine (writeS (K := K) hTt.out [] [lb, 0] hbl.out rfl rfl).mono ?_
  rintro e u1 ⟨rfl, hb⟩
  replace hR := Lib.hid (row_below hR.out hb hR.out.lt)
  replace hTt := Lib.hid (hTt.out.step hb)
  replace hPp := Lib.hid (hPp.out.step hb)
  replace hL := Lib.hid (below_step hb hL.out (Nat.le_refl _))
  clear hb hbl
  dsimp only
  go_wp2_with fail
  refine (writeS (K := K) hTt.out [lb, 0] (lbB lb 0 p) hPp.out hn rfl).mono ?_
  rintro e u2 ⟨rfl, hb⟩
  replace hR := Lib.hid (row_below hR.out hb hR.out.lt)
  replace hTt := Lib.hid (hTt.out.step hb)
  replace hPp := Lib.hid (hPp.out.step hb)
  replace hL := Lib.hid (below_step hb hL.out (Nat.le_refl _))
  clear hb
  dsimp only
  go_wp2_with fail
  refine (stSumD (K := K) hTt.out _).mono ?_
  rintro e u3 ⟨rfl, hb⟩
  replace hR := Lib.hid (row_below hR.out hb hR.out.lt)
  replace hTt := Lib.hid (hTt.out.step hb)
  replace hPp := Lib.hid (hPp.out.step hb)
  replace hL := Lib.hid (below_step hb hL.out (Nat.le_refl _))
  clear hb
  dsimp only
  have ha := below_alloc u3 (Obj.cells (dgA (sha K (lbB lb 0 p))) 71)
  have hD50 : Bs (u3.alloc (Obj.cells (dgA (sha K (lbB lb 0 p))) 71)) (some ⟨u3.heap.size, 0, none⟩) (sha K (lbB lb 0 p)) 32 := rd_of_row (sha_len _ _) ((row_new rfl).2 (dgA_cells _).1) (rowAt_new rfl)
  have hD5 := Lib.hid hD50
  replace hR := Lib.hid (row_below hR.out ha hR.out.lt)
  replace hTt := Lib.hid (hTt.out.step ha)
  replace hPp := Lib.hid (hPp.out.step ha)
  replace hL := Lib.hid (below_step ha hL.out (Nat.le_refl _))
  clear ha hD50
  go_upto_region 2 with (fail)
  obtain ⟨g5, hg⟩ : ∃ g, u3.heap.size = g := ⟨_, rfl⟩
  rw [hg] at hD5 ⊢
  clear hg
  generalize u3.alloc _ = W5 at *
  go_wp2_with fail
  refine (newC0 (K := K) _).mono ?_
  rintro e x0 ⟨rfl, hb⟩
  replace hR := Lib.hid (row_below hR.out hb hR.out.lt)
  replace hTt := Lib.hid (hTt.out.step hb)
  replace hPp := Lib.hid (hPp.out.step hb)
  replace hL := Lib.hid (below_step hb hL.out (Nat.le_refl _))
  replace hD5 := Lib.hid (hD5.out.step hb)
  clear hb
  dsimp only
  go_wp2_with fail
  have ha := below_alloc x0 (Obj.cells #[Value.int .u8 (lb.toNat : Nat), Value.int .u8 1] 5)
  have hbl := Lib.hid (bs_two x0 lb 1 5)
  replace hR := Lib.hid (row_below hR.out ha hR.out.lt)
  replace hTt := Lib.hid (hTt.out.step ha)
  replace hPp := Lib.hid (hPp.out.step ha)
  replace hL := Lib.hid (below_step ha hL.out (Nat.le_refl _))
  replace hD5 := Lib.hid (hD5.out.step ha)
  clear ha
  refine (writeS (K := K) hTt.out [] [lb, 1] hbl.out rfl rfl).mono ?_
  rintro e x1 ⟨rfl, hb⟩
  replace hR := Lib.hid (row_below hR.out hb hR.out.lt)
  replace hTt := Lib.hid (hTt.out.step hb)
  replace hPp := Lib.hid (hPp.out.step hb)
  replace hL := Lib.hid (below_step hb hL.out (Nat.le_refl _))
  replace hD5 := Lib.hid (hD5.out.step hb)
  clear hb hbl
  dsimp only
  go_wp2_with fail
  refine (writeS (K := K) hTt.out [lb, 1] (lbB lb 1 p) hPp.out hn rfl).mono ?_
  rintro e x2 ⟨rfl, hb⟩
  replace hR := Lib.hid (row_below hR.out hb hR.out.lt)
  replace hTt := Lib.hid (hTt.out.step hb)
  replace hPp := Lib.hid (hPp.out.step hb)
  replace hL := Lib.hid (below_step hb hL.out (Nat.le_refl _))
  replace hD5 := Lib.hid (hD5.out.step hb)
  clear hb
  dsimp only
  go_wp2_with fail
  refine (stSumD (K := K) hTt.out _).mono ?_
  rintro e x3 ⟨rfl, hb⟩
  replace hR := Lib.hid (row_below hR.out hb hR.out.lt)
  replace hTt := Lib.hid (hTt.out.step hb)
  replace hPp := Lib.hid (hPp.out.step hb)
  replace hL := Lib.hid (below_step hb hL.out (Nat.le_refl _))
  replace hD5 := Lib.hid (hD5.out.step hb)
  clear hb
  dsimp only
  have ha := below_alloc x3 (Obj.cells (dgA (sha K (lbB lb 1 p))) 71)
  have hD60 : Bs (x3.alloc (Obj.cells (dgA (sha K (lbB lb 1 p))) 71)) (some ⟨x3.heap.size, 0, none⟩) (sha K (lbB lb 1 p)) 32 := rd_of_row (sha_len _ _) ((row_new rfl).2 (dgA_cells _).1) (rowAt_new rfl)
  have hD6 := Lib.hid hD60
  replace hR := Lib.hid (row_below hR.out ha hR.out.lt)
  replace hTt := Lib.hid (hTt.out.step ha)
  replace hPp := Lib.hid (hPp.out.step ha)
  replace hL := Lib.hid (below_step ha hL.out (Nat.le_refl _))
  replace hD5 := Lib.hid (hD5.out.step ha)
  clear ha hD60
  go_upto_region 3 with (fail)
  obtain ⟨g6, hg⟩ : ∃ g, x3.heap.size = g := ⟨_, rfl⟩
  rw [hg] at hD6 ⊢
  clear hg
  generalize x3.alloc _ = W6 at *
  generalize ha0 : Act.mk _ _ = a0
  have e5 : a0.tmps[5]?.getD undef = .pointer (some ⟨g5, 0, none⟩) := by rw [← ha0]; rfl
  have e6 : a0.tmps[6]?.getD undef = .pointer (some ⟨g6, 0, none⟩) := by rw [← ha0]; rfl
  have hz0 : a0.tmps.size = 31 := by rw [← ha0]; rfl
  have hha0 := Lib.hid ha0
  clear ha0
  refine wp_region_freshR ⟨fun jx_ => match jx_ with | 0 => some (.slice (some ⟨g5, 0, none⟩) 32 32) | 1 => some (.slice (some ⟨g6, 0, none⟩) 32 32) | 3 => some (.tuple #[.agg (arrK .u64 4 (wd r)), .int .i64 0]) | 4 => some (.tuple #[.agg (arrK .u64 4 (wd r)), .int .i64 0]) | 5 => some (.agg (arrK .u64 4 (wd r))) | 6 => some (.int .i64 0) | 9 => some (.int .i64 0) | _ => none, fun jx_ => match jx_ with | 7 => some 4 | _ => none, fun jx_ => match jx_ with | 8 => some 7 | _ => none, fun jx_ => match jx_ with | 8 => arrK .u64 4 (wd r) | _ => #[], fun jx_ => match jx_ with | 2 => some (SRel.gb (sha K (lbB lb 0 p) ++ sha K (lbB lb 1 p)) 64) | _ => none⟩ (by kernel_rfl) (by kernel_rfl) (by kernel_rfl) (slotsOk_of hz0 (by kernel_rfl)) rfl (by kernel_rfl) ⟨?_, ?_, ?_, ?_, ?_, ?_, ?_, ?_, ?_, ?_, trivial⟩ ?_
  · refine fstep_valR rfl rfl (by kernel_rfl) (calm_step rfl fun aa ω κ hb hu hc hK => ?_)
    have h5 : aa.tmps[5]?.getD undef = .pointer (some ⟨g5, 0, none⟩) := (hu 5 rfl).trans e5
    have hk := Lib.hid (fun w1 (h : Below ω.heap.size ω w1) => hK (.slice (some ⟨g5, 0, none⟩) 32 32) w1 rfl h)
    clear hK hu hc
    go_simp
    exact hk.out _ (Below.refl _ _)
  · refine fstep_valR rfl rfl (by kernel_rfl) (calm_step rfl fun aa ω κ hb hu hc hK => ?_)
    have h6 : aa.tmps[6]?.getD undef = .pointer (some ⟨g6, 0, none⟩) := (hu 6 rfl).trans e6
    have hk := Lib.hid (fun w1 (h : Below ω.heap.size ω w1) => hK (.slice (some ⟨g6, 0, none⟩) 32 32) w1 rfl h)
    clear hK hu hc
    go_simp
    exact hk.out _ (Below.refl _ _)
  · refine fstep_valR rfl rfl (by kernel_rfl) (calm_step rfl fun aa ω κ hb hu hc hK => ?_)
    have h24 : aa.tmps[24]?.getD undef = .slice (some ⟨g5, 0, none⟩) 32 32 := hc 0 24 rfl rfl
    have h25 : aa.tmps[25]?.getD undef = .slice (some ⟨g6, 0, none⟩) 32 32 := hc 1 25 rfl rfl
    have hk := Lib.hid (fun v w1 (hv : (SRel.gb (sha K (lbB lb 0 p) ++ sha K (lbB lb 1 p)) 64).p v w1) (h : Below ω.heap.size ω w1) => hK v w1 hv h)
    clear hK hu hc
    exact wp_app64 _ _ rfl (by go_simp) (by go_simp) (hD5.out.step hb) (hD6.out.step hb) (sha_len _ _) (sha_len _ _) (fun v w1 hv hbw => hk.out v w1 hv hbw)
  · refine fstep_valR rfl rfl (by kernel_rfl) (calm_step rfl fun aa ω κ hb hu hc hK => ?_)
    have h26 : (SRel.gb (sha K (lbB lb 0 p) ++ sha K (lbB lb 1 p)) 64).p (aa.tmps[26]?.getD undef) ω := hc 2 26 rfl rfl
    have hk := Lib.hid (fun w1 (h : Below ω.heap.size ω w1) => hK (.tuple #[.agg (arrK .u64 4 (wd r)), .int .i64 0]) w1 rfl h)
    clear hK hu hc
    obtain ⟨gz, cz, h26, hbz⟩ := h26
    go_simp
    go_at_call 23
    refine (kOf.out _ _ _ hbz).mono ?_
    rintro e w1 ⟨rfl, hb1⟩
    exact hk.out _ hb1
  · refine fstep_valR rfl rfl (by kernel_rfl) (calm_step rfl fun aa ω κ hb hu hc hK => ?_)
    have h27 : aa.tmps[27]?.getD undef = .tuple #[.agg (arrK .u64 4 (wd r)), .int .i64 0] := hc 3 27 rfl rfl
    have hk := Lib.hid (fun w1 (h : Below ω.heap.size ω w1) => hK (.tuple #[.agg (arrK .u64 4 (wd r)), .int .i64 0]) w1 rfl h)
    clear hK hu hc
    go_simp
    exact hk.out _ (Below.refl _ _)
  · refine fstep_valR rfl rfl (by kernel_rfl) (calm_step rfl fun aa ω κ hb hu hc hK => ?_)
    have h23 : aa.tmps[23]?.getD undef = .tuple #[.agg (arrK .u64 4 (wd r)), .int .i64 0] := hc 4 23 rfl rfl
    have hk := Lib.hid (fun w1 (h : Below ω.heap.size ω w1) => hK (.agg (arrK .u64 4 (wd r))) w1 rfl h)
    clear hK hu hc
    go_simp
    exact hk.out _ (Below.refl _ _)
  · refine fstep_lateR rfl rfl (by kernel_rfl) (calm_step rfl fun aa ω κ hb hu hc hK => ?_)
    have h23 : aa.tmps[23]?.getD undef = .tuple #[.agg (arrK .u64 4 (wd r)), .int .i64 0] := hc 4 23 rfl rfl
    have hk := Lib.hid (fun w1 (h : Below ω.heap.size ω w1) => hK (.int .i64 0) w1 rfl h)
    clear hK hu hc
    go_simp
    exact hk.out _ (Below.refl _ _)
  · refine fstep_alR (n := 4) rfl rfl fun aa ω κ hK => ?_
    have hk := Lib.hid hK
    clear hK
    go_simp
    exact hk.out _ _ hc0
  · refine fstep_stR (j := 7) (n := 4) (d := 7) rfl rfl rfl rfl rfl hcr.1 rfl rfl fun aa ω κ g hb hu hc hp hr hK => ?_
    have h28 : aa.tmps[28]?.getD undef = .agg (arrK .u64 4 (wd r)) := hc 5 28 rfl rfl
    have hk := Lib.hid hK
    clear hK hu hc
    have hcc := hcr
    go_simp
    exact hk.out undef
  · refine fstep_lateR rfl rfl (by kernel_rfl) (calm_step rfl fun aa ω κ hb hu hc hK => ?_)
    have h29 : aa.tmps[29]?.getD undef = .int .i64 0 := hc 6 29 rfl rfl
    have hk := Lib.hid (fun w1 (h : Below ω.heap.size ω w1) => hK (.int .i64 0) w1 rfl h)
    clear hK hu hc
    go_simp
    exact hk.out _ (Below.refl _ _)
  · intro a1 w1 G I
    have ha0 := hha0.out
    subst ha0
    have he := act_patch (n := 31) [false, false, false, false, false, false, false, true, true, false, false, false, false, false, false, false, false, false, false, false, false, false, false, true, true, true, true, true, true, true, false] rfl (by kernel_rfl) I.un I.sz I.df
    simp only [patch, cond_true, cond_false, Nat.reduceAdd] at he
    have hal7 := I.al 7 7 4 rfl rfl rfl
    replace hR := Lib.hid (row_below hR.out I.bel hR.out.lt)
    replace hL := Lib.hid (below_step I.bel hL.out (Nat.le_refl _))
    have hX := Lib.hid (show At w1 (G 7) .u64 4 (wd r) from ⟨(I.blk 7 4 rfl rfl).2, (I.row 8 7 rfl rfl).2.2⟩)
    clear kOf hD5 hD6 hTt hPp
    clear I hz0 hha0 e5 e6
    rw [he]
    clear he
    rw [hal7]
    clear hal7
    generalize a1.tmps[8]?.getD undef = x8 at *
    generalize a1.tmps[23]?.getD undef = x23 at *
    generalize a1.tmps[24]?.getD undef = x24 at *
    generalize a1.tmps[25]?.getD undef = x25 at *
    generalize a1.tmps[26]?.getD undef = x26 at *
    generalize a1.tmps[27]?.getD undef = x27 at *
    generalize a1.tmps[28]?.getD undef = x28 at *
    generalize a1.tmps[29]?.getD undef = x29 at *
    obtain ⟨g7, hg⟩ : ∃ g, G 7 = g := ⟨_, rfl⟩
    rw [hg] at hX ⊢
    clear hg
    generalize w1 = W7 at *
    have hr1 := hX.out.row
    have hr2 := hX.out.eq
    have hr3 := hR.out
    go_wp2_with fail
    refine ret_row (p := 4) (ty := 41) (g := w.heap.size) rfl Tryd.underlying41 rfl (by kernel_rfl) rfl ((row_setRow_same rfl hR.out).2 hcr.1) rfl ?_
    rw [rowAt_setRow_same hR.out]
    exact ⟨rfl, below_setRow hL.out (by omega)⟩
/-- Bytes of the call's own, with what was there before. -/
def SRel.ow (w0 : World) (l : List UInt8) : SRel := ⟨fun v w => Own w0 w0.heap.size 5 v (bytesV l) w, fun _ _ _ hb h => h.below hb (Nat.le_refl _)⟩
theorem ref_Digest (K : Nat → W32) (p : List UInt8) (lb : UInt8) (w : World) (hT : Tabs K w) (hpl : p.length ≤ 576460752303423488) : Calls Tryd.prog 37 #[.int .u8 (lb.toNat : Nat), strV p] w (RetN (ofL (dgT K lb p)) w) := by
  have hd1 := dgA_cells (sha K (lbB lb 0 p))
  have hd2 := dgA_cells (sha K (lbB lb 1 p))
  have hcz := dgA_cells []
  have hlb : ∀ b, (lbB lb b p).length ≤ 1152921504606846976 := fun b => by unfold lbB; simp; omega
  have kS := Lib.hid (fun b V (h : Tabs K V) => rsumD (K := K) (l := lbB lb b p) h (hlb b))
  have kNum := Lib.hid (fun (V : World) g c (hg : g < V.heap.size) (hcl : ∀ i < 64, V.cell? ⟨g, i, none⟩ = some (.int .u8 (bytesF (dgT K lb p) i : Nat))) (hc : 64 ≤ c) (hcm : c ≤ 9223372036854775807) => ref_number (bytesF (dgT K lb p)) g 64 c V hg hcl (fun i _ => bytesF_lt _ i) (by omega) hc hcm)
  have hnl := bval_lt (f := bytesF (dgT K lb p)) (n := 64) (fun i _ => bytesF_lt _ i)
  rw [show (256 : Nat) = 2 ^ 8 from rfl, ← Nat.pow_mul] at hnl
  have hof : ofL (dgT K lb p) = bval (bytesF (dgT K lb p)) 64 % fL := by unfold ofL; rw [dgT_len]
  rw [hof]
  obtain ⟨N, hN⟩ : ∃ N, bval (bytesF (dgT K lb p)) 64 = N := ⟨_, rfl⟩
  rw [hN] at kNum hnl ⊢
  have kP := Lib.hid (fun V => ref_Prime V)
  have kR := Lib.hid (fun V v u (hv : IsN V v N) (hu : IsN V u fL) => restN V hv hnl (by omega) (hu.toV (lt_big fL_lt' (by omega))) (Nat.lt_trans (by omega) fL_pos) (mul_big (m := 17) (n := 256) (by omega) fL_lt' (by omega)))
  obtain ⟨l0, hl0⟩ : ∃ l, fL = l := ⟨_, rfl⟩
  rw [hl0] at kP kR ⊢
  obtain ⟨R, hRr⟩ : ∃ R, N % l0 = R := ⟨_, rfl⟩
  rw [hRr] at kR ⊢
  have hTt := Lib.hid hT
  have hL := Lib.hid (show Below w.heap.size w w from Below.refl _ _)
  have hl2 : 1 + 1 + p.length ≤ 9223372036854775807 := by omega
  have hl3 : 2 + p.length ≤ 9223372036854775807 := by omega
  clear hRr hl0 hN hof hnl hlb hT hpl
  go_enter Tryd.func37, Tryd.ntmps37
  go_upto_region 1 with (fail)
  have hcv : (convert 22 9 (.slice (some ⟨w.heap.size, 0, none⟩) 2 2)).run Tryd.prog (w.alloc (Obj.cells #[Value.int .u8 (lb.toNat : Nat), Value.int .u8 0] 5)) = .ok (strV [lb, 0]) (w.alloc (Obj.cells #[Value.int .u8 (lb.toNat : Nat), Value.int .u8 0] 5)) := (bs_two w lb 0 5).conv
  have ha := below_alloc w (Obj.cells #[Value.int .u8 (lb.toNat : Nat), Value.int .u8 0] 5)
  replace hTt := Lib.hid (hTt.out.step ha)
  replace hL := Lib.hid (below_step ha hL.out (Nat.le_refl _))
  clear ha
  go_upto_region 2 with (fail)
  refine (show Calls _ _ #[strV (lbB lb 0 p)] _ _ from kS.out 0 _ hTt.out).mono ?_
  rintro e u5 ⟨rfl, hb⟩
  replace hTt := Lib.hid (hTt.out.step hb)
  replace hL := Lib.hid (below_step hb hL.out (Nat.le_refl _))
  clear hb hcv
  dsimp only
  have ha := below_alloc u5 (Obj.cells (dgA (sha K (lbB lb 0 p))) 71)
  have hD50 : Bs (u5.alloc (Obj.cells (dgA (sha K (lbB lb 0 p))) 71)) (some ⟨u5.heap.size, 0, none⟩) (sha K (lbB lb 0 p)) 32 := rd_of_row (sha_len _ _) ((row_new rfl).2 (dgA_cells _).1) (rowAt_new rfl)
  have hD5 := Lib.hid hD50
  replace hTt := Lib.hid (hTt.out.step ha)
  replace hL := Lib.hid (below_step ha hL.out (Nat.le_refl _))
  clear ha hD50
  go_upto_region 2 with (fail)
  obtain ⟨g5, hg⟩ : ∃ g, u5.heap.size = g := ⟨_, rfl⟩
  rw [hg] at hD5 ⊢
  clear hg
  generalize u5.alloc _ = W5 at *
  have hcv : (convert 22 9 (.slice (some ⟨W5.heap.size, 0, none⟩) 2 2)).run Tryd.prog (W5.alloc (Obj.cells #[Value.int .u8 (lb.toNat : Nat), Value.int .u8 1] 5)) = .ok (strV [lb, 1]) (W5.alloc (Obj.cells #[Value.int .u8 (lb.toNat : Nat), Value.int .u8 1] 5)) := (bs_two W5 lb 1 5).conv
  have ha := below_alloc W5 (Obj.cells #[Value.int .u8 (lb.toNat : Nat), Value.int .u8 1] 5)
  replace hTt := Lib.hid (hTt.out.step ha)
  replace hL := Lib.hid (below_step ha hL.out (Nat.le_refl _))
  replace hD5 := Lib.hid (hD5.out.step ha)
  clear ha
  go_upto_region 3 with (fail)
  refine (show Calls _ _ #[strV (lbB lb 1 p)] _ _ from kS.out 1 _ hTt.out).mono ?_
  rintro e u6 ⟨rfl, hb⟩
  replace hTt := Lib.hid (hTt.out.step hb)
  replace hL := Lib.hid (below_step hb hL.out (Nat.le_refl _))
  replace hD5 := Lib.hid (hD5.out.step hb)
  clear hb hcv
  dsimp only
  have ha := below_alloc u6 (Obj.cells (dgA (sha K (lbB lb 1 p))) 71)
  have hD60 : Bs (u6.alloc (Obj.cells (dgA (sha K (lbB lb 1 p))) 71)) (some ⟨u6.heap.size, 0, none⟩) (sha K (lbB lb 1 p)) 32 := rd_of_row (sha_len _ _) ((row_new rfl).2 (dgA_cells _).1) (rowAt_new rfl)
  have hD6 := Lib.hid hD60
  replace hTt := Lib.hid (hTt.out.step ha)
  replace hL := Lib.hid (below_step ha hL.out (Nat.le_refl _))
  replace hD5 := Lib.hid (hD5.out.step ha)
  clear ha hD60
  go_upto_region 3 with (fail)
  obtain ⟨g6, hg⟩ : ∃ g, u6.heap.size = g := ⟨_, rfl⟩
  rw [hg] at hD6 ⊢
  clear hg
  generalize u6.alloc _ = W6 at *
  generalize ha0 : Act.mk _ _ = a0
  have e5 : a0.tmps[5]?.getD undef = .pointer (some ⟨g5, 0, none⟩) := by rw [← ha0]; rfl
  have e6 : a0.tmps[6]?.getD undef = .pointer (some ⟨g6, 0, none⟩) := by rw [← ha0]; rfl
  have hz0 : a0.tmps.size = 26 := by rw [← ha0]; rfl
  have hha0 := Lib.hid ha0
  clear ha0
  refine wp_region_tailL (fun jx_ => match jx_ with | 0 => SRel.is (.slice (some ⟨g5, 0, none⟩) 32 32) | 1 => SRel.ow w (sha K (lbB lb 0 p)) | 2 => SRel.is (.slice (some ⟨g6, 0, none⟩) 32 32) | 3 => SRel.any | 4 => SRel.any | 5 => SRel.any | 6 => SRel.any | 7 => SRel.any | _ => SRel.any) 3 (by kernel_rfl) (by kernel_rfl) (by kernel_rfl) (slotsOk_of hz0 (by kernel_rfl)) (by kernel_rfl) (of_decide_eq_true (by kernel_rfl)) ⟨?_, ?_, ?_, trivial⟩ ?_
  · refine calmL_step rfl fun a ω κ hb hu hc hK => ?_
    have h5 : a.tmps[5]?.getD undef = .pointer (some ⟨g5, 0, none⟩) := (hu 5 rfl).trans e5
    have hk := Lib.hid (fun w1 (h : Below ω.heap.size ω w1) => hK (.slice (some ⟨g5, 0, none⟩) 32 32) w1 rfl h)
    clear hK hu hc
    go_simp
    exact hk.out _ (Below.refl _ _)
  · refine calmL_step rfl fun a ω κ hb hu hc hK => ?_
    have h19 : a.tmps[19]?.getD undef = .slice (some ⟨g5, 0, none⟩) 32 32 := hc 0 19 rfl rfl
    have hk := Lib.hid (fun v w1 (hv : (SRel.ow w (sha K (lbB lb 0 p))).p v w1) (h : Below ω.heap.size ω w1) => hK v w1 hv h)
    clear hK hu hc
    refine wp_app _ _ 22 rfl SBg (v := .slice none 0 0) (by go_simp) (World.ownsRow_nil ω w.heap.size _ _) (news := bytesV (sha K (lbB lb 0 p))) (m := 32) (c := 32) (by go_simp) (by rw [bytesV_length, sha_len]) (hD5.out.step hb).rd (bytesV_oneCell _) (by unfold maxLen; omega) (by omega) (Nat.le_trans hL.out.size hb.size) ?_
    rintro v1 w1 hv1 hg1 -
    have hbl := (show Below ω.heap.size ω ω from Below.refl _ _).grown hg1 (Nat.le_refl _) (fun k hk => by cases hk)
    exact hk.out v1 w1 ⟨by rw [bytesV_length, sha_len]; simpa using hv1, below_step hbl (below_step hb hL.out (Nat.le_refl _)) (Nat.le_refl _), Nat.le_trans hL.out.size (Nat.le_trans hb.size hbl.size)⟩ hbl
  · refine calmL_step rfl fun a ω κ hb hu hc hK => ?_
    have h6 : a.tmps[6]?.getD undef = .pointer (some ⟨g6, 0, none⟩) := (hu 6 rfl).trans e6
    have hk := Lib.hid (fun w1 (h : Below ω.heap.size ω w1) => hK (.slice (some ⟨g6, 0, none⟩) 32 32) w1 rfl h)
    clear hK hu hc
    go_simp
    exact hk.out _ (Below.refl _ _)
  · intro aa ω hb hu hsz hdf hc
    have h19 : aa.tmps[19]?.getD undef = .slice (some ⟨g5, 0, none⟩) 32 32 := hc 0 19 (by decide) rfl
    have h20 : (SRel.ow w (sha K (lbB lb 0 p))).p (aa.tmps[20]?.getD undef) ω := hc 1 20 (by decide) rfl
    have h21 : aa.tmps[21]?.getD undef = .slice (some ⟨g6, 0, none⟩) 32 32 := hc 2 21 (by decide) rfl
    have ha0 := hha0.out
    subst ha0
    have he := act_patchL (n := 26) 3 [false, false, false, false, false, false, false, false, false, false, false, false, false, false, false, false, false, false, false, true, true, true, false, false, false, false] rfl (by kernel_rfl) hu hsz hdf
    simp only [patch, cond_true, cond_false, Nat.reduceAdd] at he
    clear hu hsz hdf hc hha0 e5 e6 hz0
    rw [he]
    clear he
    generalize aa.tmps[19]?.getD undef = x19 at *
    generalize aa.tmps[20]?.getD undef = x20 at *
    generalize aa.tmps[21]?.getD undef = x21 at *
    subst h19 h21
    dsimp only [List.drop]
    have hO := Lib.hid (show Own w w.heap.size 5 x20 (bytesV (sha K (lbB lb 0 p))) ω from h20)
    have hy := Lib.hid (hD6.out.step hb)
    clear h20 hD5 hD6 hb
    refine wpList_own rfl _ _ 22 rfl SBg rfl hO.out (news := bytesV (sha K (lbB lb 1 p))) (c := 32) (by rw [bytesV_length, sha_len]; rfl) hy.out.rd (bytesV_oneCell _) (by rw [bytesV_length, bytesV_length, sha_len, sha_len]; unfold maxLen; omega) (by rw [bytesV_length, bytesV_length, sha_len, sha_len]; omega) ?_
    rintro v2 w2 hO2 hg2 -
    rw [← bytesV_append] at hO2
    have hlen : (bytesV (sha K (lbB lb 0 p) ++ sha K (lbB lb 1 p))).length = 64 := by rw [bytesV_length]; exact dgT_len K lb p
    have hT2 := Lib.hid hTt.out
    rcases hO2.own.2 with ⟨-, h0⟩ | ⟨g, cap, cur, rfl, hgB, hh, hle, hmx, -, -⟩
    · rw [hlen] at h0
      cases h0
    · have hrd := hO2.rd
      have hL2 := Lib.hid hO2.bel
      have hgl : g < w2.heap.size := (Array.getElem?_eq_some_iff.1 hh).1
      have kN2 := Lib.hid (kNum.out w2 g cap hgl (fun i hi => by
        have hu : (bytesV (dgT K lb p))[i]? = some (.int .u8 (bytesF (dgT K lb p) i : Nat)) := by
          rw [bytesF_at (by rw [dgT_len]; exact hi)]
          simp [bytesV, List.getElem?_eq_getElem (show i < (dgT K lb p).length by rw [dgT_len]; exact hi)]
        have h1 := hrd.all hu
        rwa [Addr.add_lit, Nat.zero_add] at h1) (by rw [hlen] at hle; exact hle) (by unfold maxLen at hmx; exact hmx))
      rw [hlen]
      clear hrd hO2 hh hle hmx hgB hg2 hO hy kNum hlen hgl hTt hT2 kS hL
      dsimp only
      go_wp2_with fail
      refine kN2.out.mono ?_
      rintro e w3 ⟨v3, rfl, hv3, hb⟩
      have hV := Lib.hid hv3
      replace hL2 := Lib.hid (below_step hb hL2.out (Nat.le_refl _))
      clear hb hv3 kN2
      dsimp only
      go_wp2_with fail
      refine (kP.out _).mono ?_
      rintro e w4 ⟨v4, rfl, hv4, hb⟩
      replace hV := Lib.hid (hV.out.step hb)
      have hU := Lib.hid hv4
      replace hL2 := Lib.hid (below_step hb hL2.out (Nat.le_refl _))
      clear hb hv4 kP
      dsimp only
      go_wp2_with fail
      refine (kR.out _ _ _ hV.out hU.out).mono ?_
      rintro e w5 ⟨v5, rfl, hv5, hb⟩
      have hX := Lib.hid hv5
      replace hL2 := Lib.hid (below_step hb hL2.out (Nat.le_refl _))
      clear hb hv5 kR hV hU
      dsimp only
      go_wp2_with fail
      go_ret
      exact ⟨v5, rfl, hX.out, hL2.out⟩
end Go.Proofs.YtodcjeaannfbnaaDoor
namespace Go.Proofs.YtodcjeaannfbnaaDoor
open Go Go.RowKit
section
variable {P : Program} {ops : Array Oper} {Q : Exit → Act → World → Prop}
theorem calm_step_skip {R : Nat → SRel} {a0 : Act} {w0 : World} {i g : Nat} {b : Bool} {d : Tmp} {o : Oper} (hg : o.guard = some (g, b)) (hd : dstAt ops g = some d)
    (hv : ∀ (a : Act) (w : World), Came ops R o a w → a.tmps[d]?.getD undef = .bool (!b)) (hR : ∀ w, (R i).p undef w) : StepOk P ops Q R a0 w0 i o := by
  intro a w K hb hu hc hK
  have hy : yielded ops a.tmps g = some (!b) := by
    have h1 := hv a w hc
    unfold dstAt at hd
    unfold yielded
    rw [hd, Option.bind_some]
    cases h2 : a.tmps[d]? with
    | none => rw [h2] at h1; cases h1
    | some v => rw [h2] at h1; have : v = .bool (!b) := h1; rw [this]
  rw [if_neg (by simp [Region.wanted, hg, hy])]
  exact hK undef w (hR w) (Below.refl _ _)
theorem wp_eqlA {dst : Option Tmp} {t t2 tt : TypeId} {x y : Operand} {pos : String} {af : Array Edge} {gd : Option (Nat × Bool)} {a : Act} {w : World} {K : Act → World → Prop} {v u : Array Value} {r : Value} {b : BinOp}
    (hb : b = .neq ∨ b = .eql) (hm : P.eqGuardType P.depth t = false) (hx : a.eval x = .agg v) (hy : a.eval y = .agg u) (h : (binOp b t (.agg v) (.agg u)).run P w = .ok r w) (hK : K (a.put dst r) w) : Oper.wp P ⟨dst, .binOp b t x y t2, tt, pos, af, gd⟩ a w K Q := by
  have hg := run_eqGuard_agg (P := P) (w := w) b t x y v u hm
  unfold Oper.wp execOp
  rcases hb with rfl | rfl <;>
  · simp only [hx, hy, Sem.run_bind, Sem.run_pure, hg, h, Result.andThen_ok]
    exact hK
end
theorem eqlOf {a b : Nat} (ha : a < 2 ^ 256) (hb : b < 2 ^ 256) {r : Bool} (h : decide (a = b) = r) (W : World) : (binOp .eql 41 (.agg (arrK .u64 4 (wd a))) (.agg (arrK .u64 4 (wd b)))).run Tryd.prog W = .ok (.bool r) W := h ▸ eqlNum ha hb W
theorem neqOf {a b : Nat} (ha : a < 2 ^ 256) (hb : b < 2 ^ 256) {r : Bool} (h : decide (a = b) = !r) (W : World) : (binOp .neq 41 (.agg (arrK .u64 4 (wd a))) (.agg (arrK .u64 4 (wd b)))).run Tryd.prog W = .ok (.bool r) W := by
  rw [neqNum ha hb W, h, Bool.not_not]
end Go.Proofs.YtodcjeaannfbnaaDoor
namespace Go.Proofs.YtodcjeaannfbnaaDoor
open Go.ChangeShapes Go.WideShapes Go.ChangeAt Go.RowKit
set_option maxHeartbeats 4000000
set_option maxRecDepth 100000
attribute [local go_sem ↓] load_num store_num execl_num execs_num load_wide store_wide execl_wide execs_wide
attribute [local go_sem] isHead_mk blkOf_mk isAgg_mk cellsV_mk row_drew rowAt_drew row_new_cells row_old rowAt_new rowAt_old setRow_new zeroNum zeroWide
/-- A block that holds nothing yet but room for a slice. -/
structure Nul (w : World) (g : Nat) : Prop where
  row : Row w g 1
  eq : rowAt w g = #[.slice none 0 0]
theorem Nul.step {w w' : World} {g : Nat} (h : Nul w g) (hb : Below w.heap.size w w') : Nul w' g := ⟨row_below h.row hb h.row.lt, (rowAt_below hb h.row.lt).trans h.eq⟩
theorem Nul.cell {w : World} {g : Nat} (h : Nul w g) : w.cell? ⟨g, 0, none⟩ = some (.slice none 0 0) := by rw [h.row.cell, h.eq]; rfl
theorem Nul.only {w : World} {g j : Nat} {v : Value} (h : Nul w g) (hc : w.cell? ⟨g, j, none⟩ = some v) : v = .slice none 0 0 := by
  rw [h.row.cell, h.eq] at hc
  cases j with
  | zero => exact (Option.some.inj hc).symm
  | succ j => cases hc
def SRel.nl (B : Nat) : SRel := ⟨fun v w => ∃ g, v = .pointer (some ⟨g, 0, none⟩) ∧ B ≤ g ∧ Nul w g, fun _ _ _ hb ⟨g, h1, h2, h3⟩ => ⟨g, h1, h2, h3.step hb⟩⟩
/-- A number's digits lie elsewhere. -/
theorem IsN.away {w : World} {v : Value} {n g : Nat} (h : IsN w v n) (hg : Nul w g) (u : Value) : IsN (w.setCell ⟨g, 0, none⟩ u) v n := by
  obtain ⟨A, l, c, e, hD, hG⟩ := h
  refine ⟨A, l, c, e, ⟨fun j x hx => ?_, hD.sm, hD.le, hD.mx⟩, hG⟩
  obtain ⟨ad, e1, hl, hc⟩ := hD.rd j x hx
  refine ⟨ad, e1, by simpa using hl, ?_⟩
  rw [← hc]
  refine World.cell?_setCell_other w ⟨g, 0, none⟩ (ad.add j) u fun e2 => ?_
  have hx2 : ∃ d : Nat, x = .int .i64 (d : Nat) := by
    unfold digV at hx
    rw [List.getElem?_map] at hx
    cases h3 : l[j]? with
    | none => rw [h3] at hx; cases hx
    | some d =>
      rw [h3] at hx
      exact ⟨d, by simpa using hx.symm⟩
  obtain ⟨d, rfl⟩ := hx2
  rw [← e2, hg.cell] at hc
  cases hc
theorem sum_wide {a b j m : Nat} (ha : a < 2 ^ j) (hb : b < 2 ^ j) (h : j + 1 ≤ m) : a + b < 2 ^ m := by
  have := Nat.pow_le_pow_right (show 0 < 2 by omega) h
  rw [Nat.pow_succ] at this
  omega
theorem neqS (f : Nat → Nat) (w : World) : (binOp .neq 41 (.agg (arrK .u64 4 f)) (.agg (arrK .u64 4 f))).run Tryd.prog w = .ok (.bool false) w := by
  rw [run_neq_arrK Tryd.underlying41 Tryd.underlying39 (by kernel_rfl)]
  simp
theorem eqlS (f : Nat → Nat) (w : World) : (binOp .eql 41 (.agg (arrK .u64 4 f)) (.agg (arrK .u64 4 f))).run Tryd.prog w = .ok (.bool true) w := by
  rw [run_eql_arrK Tryd.underlying41 Tryd.underlying39 (by kernel_rfl)]
  simp
/-- 'low' of the law. -/
theorem low_is (v m : Value) (k j g : Nat) (w : World) (hv : IsN w v k) (hk : k < 2 ^ j) (hj : j ≤ 1000) (hg : g < w.heap.size) (hc : w.cell? ⟨g, 0, none⟩ = some m) (hm : IsN w m fL) :
    Calls Tryd.prog 20 #[v, .pointer (some ⟨g, 0, none⟩)] w fun e w' => e = .returned (numV (k % fL)) ∧ Below w.heap.size w w' := by
  have kR := Lib.hid (fun V (h1 : IsN V v k) (h2 : IsN V m fL) => restN V h1 hk (by omega) (h2.toV (lt_big fL_lt' (by omega))) (Nat.lt_trans (by omega) fL_pos) (mul_big (m := 17) (n := 256) (by omega) fL_lt' (by omega)))
  have kT := Lib.hid (fun V u (h1 : IsN V u (k % fL)) => toNumN V (h1.toV (lt_big mod_L (by omega))))
  have hcz := arrK_cells .u64 4 (wd 0)
  have hcr := arrK_cells .u64 4 (wd (k % fL))
  obtain ⟨r, hr⟩ : ∃ r, k % fL = r := ⟨_, rfl⟩
  rw [hr] at kR kT hcr ⊢
  obtain ⟨l0, hl0⟩ : ∃ r, fL = r := ⟨_, rfl⟩
  rw [hl0] at kR hm
  unfold numV at kT ⊢
  have hL0 := below_alloc w (Obj.cells (arrK .u64 4 (wd 0)) 41)
  have hR := Lib.hid (show Row (w.alloc (Obj.cells (arrK .u64 4 (wd 0)) 41)) w.heap.size 4 from (row_new rfl).2 hcz.1)
  have hV := Lib.hid (hv.step hL0)
  have hM := Lib.hid (hm.step hL0)
  have hc2 := ((bcell hL0).1 g 0 hg).trans hc
  have hL := Lib.hid hL0
  obtain ⟨mA, mm, mc, rfl, -, -, -⟩ := hm.form
  obtain ⟨vA, vm, vc, rfl, -, -, -⟩ := hv.form
  clear hL0 hv hm hc hr hl0 hk hg
  go_enter Tryd.func20, Tryd.ntmps20
  go_upto_region 1 with (fail)
  generalize w.alloc _ = W0 at *
  go_wp2_with fail
  refine (kR.out _ hV.out hM.out).mono ?_
  rintro e w2 ⟨u, rfl, hu, hb⟩
  replace hR := Lib.hid (row_below hR.out hb hR.out.lt)
  replace hL := Lib.hid (below_step hb hL.out (Nat.le_refl _))
  have hU := Lib.hid hu
  clear hb hu kR hV hM hc2
  dsimp only
  go_wp2_with fail
  refine (kT.out _ _ hU.out).mono ?_
  rintro e w3 ⟨rfl, hb⟩
  replace hR := Lib.hid (row_below hR.out hb hR.out.lt)
  replace hL := Lib.hid (below_step hb hL.out (Nat.le_refl _))
  clear hb kT hU
  dsimp only
  have hr3 := hR.out
  go_wp2_with fail
  refine ret_row (p := 3) (ty := 41) (g := w.heap.size) rfl Tryd.underlying41 rfl (by kernel_rfl) rfl ((row_setRow_same rfl hR.out).2 hcr.1) rfl ?_
  rw [rowAt_setRow_same hR.out]
  exact ⟨rfl, below_setRow hL.out (by omega)⟩
theorem scalarTells (Kt : Nat → W32) (ka kb wv : Nat) (lb : UInt8) (A : Option Addr) (p : List UInt8) (n c : Nat) (w : World) (ha : ka < 2 ^ 256) (hb : kb < 2 ^ 256) (kk : Nat) (hkk : kk = 64 * 8) (hwv : wv < 2 ^ kk) (hn : p.length = n) (hT : Tabs Kt w) (hp : Bs w A p c) (hpl : n ≤ 576460752303423488) :
    Calls Tryd.prog 5 #[numV ka, numV kb, wideV wv, .int .u8 (lb.toNat : Nat), .slice A n c] w fun e w' => e = .returned (.bool true) ∧ Below w.heap.size w w' := by
  have kPr := Lib.hid (fun V => ref_Prime V)
  have kDa := Lib.hid (fun V => ref_OfNum ka V ha)
  have kDb := Lib.hid (fun V => ref_OfNum kb V hb)
  have kOf := Lib.hid (fun V (h : Below w.heap.size w V) => scalar_Of A p n c V hn (hp.step h))
  have hpc := Lib.hid (fun V (h : Below w.heap.size w V) => hp.step h)
  have hTt := Lib.hid (fun V (h : Below w.heap.size w V) => hT.below h (Nat.le_refl _))
  have hnc : n ≤ c := hn ▸ hp.le
  have hcm := hp.mx
  obtain ⟨on, oe, hO, hO2⟩ : ∃ (on : Nat) (oe : Int), (bif decide (n ≤ 64) then (.tuple #[numV (ofL p), .int .i64 0] : Value) else .tuple #[numV 0, .int .i64 2]) = .tuple #[.agg (arrK .u64 4 (wd on)), .int .i64 oe] ∧ ((n ≤ 64 ∧ on = ofL p ∧ oe = 0) ∨ (64 < n ∧ on = 0 ∧ oe = 2)) := by
    by_cases h : n ≤ 64
    · rw [decide_eq_true h]; exact ⟨_, 0, rfl, .inl ⟨h, rfl, rfl⟩⟩
    · rw [decide_eq_false h]; exact ⟨0, 2, rfl, .inr ⟨by omega, rfl, rfl⟩⟩
  rw [hO] at kOf
  replace hO2 := Lib.hid hO2
  clear hO
  unfold numV wideV
  try unfold numV at kDa kDb
  have hc0 := arrK_cells .u64 4 (wd 0)
  have hcon := arrK_cells .u64 4 (wd on)
  have hHb := Lib.hid (And.intro ha (And.intro hb (And.intro hwv hkk)))
  have hHn := Lib.hid (And.intro hn (And.intro hT hp))
  clear ha hb hwv hkk hT hp
  have hL0 : Below w.heap.size w (((w.alloc (Obj.cells (arrK .u64 4 (wd ka)) 41)).alloc (Obj.cells (arrK .u64 4 (wd kb)) 41)).alloc (Obj.cells (arrK .u64 8 (wd wv)) 54)) := by go_grown
  have hA0 : At (((w.alloc (Obj.cells (arrK .u64 4 (wd ka)) 41)).alloc (Obj.cells (arrK .u64 4 (wd kb)) 41)).alloc (Obj.cells (arrK .u64 8 (wd wv)) 54)) w.heap.size .u64 4 (wd ka) := ((At.new _ rfl).old _).old _
  have hB0 : At (((w.alloc (Obj.cells (arrK .u64 4 (wd ka)) 41)).alloc (Obj.cells (arrK .u64 4 (wd kb)) 41)).alloc (Obj.cells (arrK .u64 8 (wd wv)) 54)) (w.heap.size + 1) .u64 4 (wd kb) := (At.new _ (by simp)).old _
  have hW0 : At (((w.alloc (Obj.cells (arrK .u64 4 (wd ka)) 41)).alloc (Obj.cells (arrK .u64 4 (wd kb)) 41)).alloc (Obj.cells (arrK .u64 8 (wd wv)) 54)) (w.heap.size + 1 + 1) .u64 8 (wd wv) := At.new _ (by simp)
  have hL := Lib.hid hL0
  have hA := Lib.hid hA0
  have hB := Lib.hid hB0
  have hW := Lib.hid hW0
  clear hL0 hA0 hB0 hW0
  go_enter Tryd.func5, Tryd.ntmps5
  go_upto_region 1 with (fail)
  generalize ((w.alloc _).alloc _).alloc _ = W0 at *
  generalize ha0 : Act.mk _ _ = a0
  have e5 : a0.tmps[5]?.getD undef = .pointer (some ⟨w.heap.size, 0, none⟩) := by rw [← ha0]; rfl
  have e6 : a0.tmps[6]?.getD undef = .pointer (some ⟨w.heap.size + 1, 0, none⟩) := by rw [← ha0]; rfl
  have hz0 : a0.tmps.size = 152 := by rw [← ha0]; rfl
  have hha0 := Lib.hid ha0
  clear ha0
  refine wp_region_tailL (fun jx_ => match jx_ with | 0 => SRel.bN fL | 1 => SRel.is (.agg (arrK .u64 4 (wd ka))) | 2 => SRel.bN ka | 3 => SRel.is (.agg (arrK .u64 4 (wd kb))) | 4 => SRel.bN kb | 5 => SRel.nl W0.heap.size | 6 => SRel.any | 7 => SRel.any | 8 => SRel.any | _ => SRel.any) 6 (by kernel_rfl) (by kernel_rfl) (by kernel_rfl) (slotsOk_of hz0 (by kernel_rfl)) (by kernel_rfl) (of_decide_eq_true (by kernel_rfl)) ⟨?_, ?_, ?_, ?_, ?_, ?_, trivial⟩ ?_
  · refine calmL_step rfl fun a ω κ hb hu hc hK => ?_
    have hk := Lib.hid (fun v w1 (hv : (SRel.bN fL).p v w1) (h : Below ω.heap.size ω w1) => hK v w1 hv h)
    clear hK hu hc
    go_simp
    go_at_call 18
    refine (kPr.out _).mono ?_
    rintro e w1 ⟨u, rfl, hu, hb1⟩
    exact hk.out _ _ hu hb1
  · refine calmL_step rfl fun a ω κ hb hu hc hK => ?_
    have h5 : a.tmps[5]?.getD undef = .pointer (some ⟨w.heap.size, 0, none⟩) := (hu 5 rfl).trans e5
    have hk := Lib.hid (fun w1 (h : Below ω.heap.size ω w1) => hK (.agg (arrK .u64 4 (wd ka))) w1 rfl h)
    clear hK hu hc
    have hr1 := (hA.out.step hb).row
    have hr2 := (hA.out.step hb).eq
    go_simp
    exact hk.out _ (Below.refl _ _)
  · refine calmL_step rfl fun a ω κ hb hu hc hK => ?_
    have h21 : a.tmps[21]?.getD undef = .agg (arrK .u64 4 (wd ka)) := hc 1 21 rfl rfl
    have hk := Lib.hid (fun v w1 (hv : (SRel.bN ka).p v w1) (h : Below ω.heap.size ω w1) => hK v w1 hv h)
    clear hK hu hc
    go_simp
    go_at_call 19
    refine (kDa.out _).mono ?_
    rintro e w1 ⟨u, rfl, hu, hb1⟩
    exact hk.out _ _ hu hb1
  · refine calmL_step rfl fun a ω κ hb hu hc hK => ?_
    have h6 : a.tmps[6]?.getD undef = .pointer (some ⟨w.heap.size + 1, 0, none⟩) := (hu 6 rfl).trans e6
    have hk := Lib.hid (fun w1 (h : Below ω.heap.size ω w1) => hK (.agg (arrK .u64 4 (wd kb))) w1 rfl h)
    clear hK hu hc
    have hr1 := (hB.out.step hb).row
    have hr2 := (hB.out.step hb).eq
    go_simp
    exact hk.out _ (Below.refl _ _)
  · refine calmL_step rfl fun a ω κ hb hu hc hK => ?_
    have h23 : a.tmps[23]?.getD undef = .agg (arrK .u64 4 (wd kb)) := hc 3 23 rfl rfl
    have hk := Lib.hid (fun v w1 (hv : (SRel.bN kb).p v w1) (h : Below ω.heap.size ω w1) => hK v w1 hv h)
    clear hK hu hc
    go_simp
    go_at_call 19
    refine (kDb.out _).mono ?_
    rintro e w1 ⟨u, rfl, hu, hb1⟩
    exact hk.out _ _ hu hb1
  · refine calmL_step rfl fun a ω κ hb hu hc hK => ?_
    have hk := Lib.hid (fun v w1 (hv : (SRel.nl W0.heap.size).p v w1) (h : Below ω.heap.size ω w1) => hK v w1 hv h)
    clear hK hu hc
    go_simp
    exact hk.out _ _ ⟨_, rfl, hb.size, (row_new rfl).2 rfl, rowAt_new rfl⟩ (below_alloc _ _)
  · intro aa ω hb hu hsz hdf hc
    have h11 : (SRel.nl W0.heap.size).p (aa.tmps[11]?.getD undef) ω := hc 5 11 (by decide) rfl
    have h20 : (SRel.bN fL).p (aa.tmps[20]?.getD undef) ω := hc 0 20 (by decide) rfl
    have h21 : aa.tmps[21]?.getD undef = .agg (arrK .u64 4 (wd ka)) := hc 1 21 (by decide) rfl
    have h22 : (SRel.bN ka).p (aa.tmps[22]?.getD undef) ω := hc 2 22 (by decide) rfl
    have h23 : aa.tmps[23]?.getD undef = .agg (arrK .u64 4 (wd kb)) := hc 3 23 (by decide) rfl
    have h24 : (SRel.bN kb).p (aa.tmps[24]?.getD undef) ω := hc 4 24 (by decide) rfl
    have ha0 := hha0.out
    subst ha0
    have he := act_patchL (n := 152) 6 [false, false, false, false, false, false, false, false, false, false, false, true, false, false, false, false, false, false, false, false, true, true, true, true, true, false, false, false, false, false, false, false, false, false, false, false, false, false, false, false, false, false, false, false, false, false, false, false, false, false, false, false, false, false, false, false, false, false, false, false, false, false, false, false, false, false, false, false, false, false, false, false, false, false, false, false, false, false, false, false, false, false, false, false, false, false, false, false, false, false, false, false, false, false, false, false, false, false, false, false, false, false, false, false, false, false, false, false, false, false, false, false, false, false, false, false, false, false, false, false, false, false, false, false, false, false, false, false, false, false, false, false, false, false, false, false, false, false, false, false, false, false, false, false, false, false, false, false, false, false, false, false] rfl (by kernel_rfl) hu hsz hdf
    simp only [patch, cond_true, cond_false, Nat.reduceAdd] at he
    clear hu hsz hdf hc hha0 e5 e6 hz0
    rw [he]
    clear he
    generalize aa.tmps[11]?.getD undef = x11 at *
    generalize aa.tmps[20]?.getD undef = x20 at *
    generalize aa.tmps[21]?.getD undef = x21 at *
    generalize aa.tmps[22]?.getD undef = x22 at *
    generalize aa.tmps[23]?.getD undef = x23 at *
    generalize aa.tmps[24]?.getD undef = x24 at *
    subst h21 h23
    obtain ⟨g, h11e, hgB, hNul⟩ := h11
    have h11e : x11 = .pointer (some ⟨g, 0, none⟩) := h11e
    have hM0 : IsN ω x20 fL := h20
    have hX0 : IsN ω x22 ka := h22
    have hY0 : IsN ω x24 kb := h24
    subst h11e
    obtain ⟨mA, mm, mc, rfl, -, -, -⟩ := hM0.form
    obtain ⟨xA, xm, xc, rfl, -, -, -⟩ := hX0.form
    obtain ⟨yA, ym, yc, rfl, -, -, -⟩ := hY0.form
    have hM := Lib.hid (hM0.away hNul (.slice mA mm mc))
    have hX := Lib.hid (hX0.away hNul (.slice mA mm mc))
    have hY := Lib.hid (hY0.away hNul (.slice mA mm mc))
    have hg3 : w.heap.size + 1 + 1 < g := Nat.lt_of_lt_of_le hW.out.lt hgB
    have hA2 := Lib.hid ((hA.out.step hb).farC (a := ⟨g, 0, none⟩) (v := .slice mA mm mc) (by simp; omega))
    have hB2 := Lib.hid ((hB.out.step hb).farC (a := ⟨g, 0, none⟩) (v := .slice mA mm mc) (by simp; omega))
    have hW2 := Lib.hid ((hW.out.step hb).farC (a := ⟨g, 0, none⟩) (v := .slice mA mm mc) (by simp; omega))
    have hL2 := Lib.hid ((below_step hb hL.out (Nat.le_refl _)).setCell (p := ⟨g, 0, none⟩) (by simp; omega) (.slice mA mm mc))
    have hgl := Lib.hid (show g < (ω.setCell ⟨g, 0, none⟩ (.slice mA mm mc)).heap.size by have := hNul.row.lt; simpa using this)
    have hC := Lib.hid (show (ω.setCell ⟨g, 0, none⟩ (.slice mA mm mc)).cell? ⟨g, 0, none⟩ = some (.slice mA mm mc) by rw [(row_setCell.2 hNul.row).cell, rowAt_setCell_same, hNul.eq]; rfl)
    have cN := hNul.cell
    have fN := hNul.row.frozen 0
    clear hM0 hX0 hY0 h20 h22 h24 hA hB hW hL hgB hNul hg3 hb kPr kDa kDb
    dsimp only [List.drop]
    go_upto_region 3 with (fail)
    generalize ω.setCell _ _ = W2 at *
    go_wp2_with fail
    refine (kOf.out _ hL2.out).mono ?_
    rintro e w3 ⟨rfl, hb⟩
    replace hM := Lib.hid (hM.out.step hb)
    replace hX := Lib.hid (hX.out.step hb)
    replace hY := Lib.hid (hY.out.step hb)
    replace hA2 := Lib.hid (hA2.out.step hb)
    replace hB2 := Lib.hid (hB2.out.step hb)
    replace hW2 := Lib.hid (hW2.out.step hb)
    replace hC := Lib.hid (((bcell hb).1 g 0 hgl.out).trans hC.out)
    replace hgl := Lib.hid (Nat.lt_of_lt_of_le hgl.out hb.size)
    replace hL2 := Lib.hid (below_step hb hL2.out (Nat.le_refl _))
    clear hb kOf
    dsimp only
    have hb := below_alloc w3 (Obj.cells (arrK .u64 4 (wd on)) 41)
    have hN15 := Lib.hid (At.new (w := w3) (k := .u64) (m := 4) (f := wd on) 41 rfl)
    replace hM := Lib.hid (hM.out.step hb)
    replace hX := Lib.hid (hX.out.step hb)
    replace hY := Lib.hid (hY.out.step hb)
    replace hA2 := Lib.hid (hA2.out.step hb)
    replace hB2 := Lib.hid (hB2.out.step hb)
    replace hW2 := Lib.hid (hW2.out.step hb)
    replace hC := Lib.hid (((bcell hb).1 g 0 hgl.out).trans hC.out)
    replace hgl := Lib.hid (Nat.lt_of_lt_of_le hgl.out hb.size)
    replace hL2 := Lib.hid (below_step hb hL2.out (Nat.le_refl _))
    clear hb
    go_upto_region 4 with (fail)
    obtain ⟨g15, hg⟩ : ∃ g, w3.heap.size = g := ⟨_, rfl⟩
    rw [hg] at hN15 ⊢
    clear hg
    generalize w3.alloc _ = W3 at *
    have hb3 := Lib.hid (below_alloc W3 (Obj.cells (arrK .u64 4 (wd 0)) 41))
    have hM3 := hM
    have hX3 := hX
    have hY3 := hY
    have hA3 := hA2
    have hB3 := hB2
    have hW3 := hW2
    have hC3 := hC
    have hgl3 := hgl
    have hL3 := hL2
    have hN153 := hN15
    have hb := below_alloc W3 (Obj.cells (arrK .u64 4 (wd 0)) 41)
    have hZ17 := Lib.hid (At.new (w := W3) (k := .u64) (m := 4) (f := wd 0) 41 rfl)
    have hR17 := Lib.hid hZ17.out.row
    have hlt15 := Lib.hid hN15.out.lt
    replace hM := Lib.hid (hM.out.step hb)
    replace hX := Lib.hid (hX.out.step hb)
    replace hY := Lib.hid (hY.out.step hb)
    replace hA2 := Lib.hid (hA2.out.step hb)
    replace hB2 := Lib.hid (hB2.out.step hb)
    replace hW2 := Lib.hid (hW2.out.step hb)
    replace hC := Lib.hid (((bcell hb).1 g 0 hgl.out).trans hC.out)
    replace hgl := Lib.hid (Nat.lt_of_lt_of_le hgl.out hb.size)
    replace hL2 := Lib.hid (below_step hb hL2.out (Nat.le_refl _))
    replace hN15 := Lib.hid (hN15.out.step hb)
    clear hb
    go_upto_region 5 with (first
      | refine wpList_opS (by go_simp) (fun K hK => wp_bldS rfl (build_nz _) (hK _ _ ?_)))
    obtain ⟨g17, hg⟩ : ∃ g, W3.heap.size = g := ⟨_, rfl⟩
    have hge := Lib.hid hg
    rw [hg] at hZ17 hR17 hlt15 ⊢
    clear hg
    generalize W3.alloc _ = W4 at *
    rcases hO2.out with ⟨h64, he1, he2⟩ | ⟨h64, he1, he2⟩
    · have d1 : decide ((n : Int) ≤ 64) = true := by simp; omega
      subst he2
      have w0 : IntKind.i64.wrap ((n : Int) - 1) = (n : Int) - 1 := by rw [IntKind.wrap_i64]; omega
      go_upto_region 8 with (fail)
      clear w0
      subst he1
      have hfl := Lib.hid (fun i (_ : i < n) => bytesF_lt p i)
      have hpv := Lib.hid (fun i (hi : i < n) V (hb : Below w.heap.size w V) => show ∃ ad, A = some ad ∧ V.cell? (ad.add i) = some (.int .u8 (bytesF p i : Nat)) by
        obtain ⟨ad, e1, e2, e3⟩ := (hpc.out V hb).rd.at_ (k := i) (by rw [bytesV_length, hn]; exact hi)
        refine ⟨ad, e1, e3.trans ?_⟩
        rw [bytesF_at (by omega)]
        simp [bytesV])
      have hofp := Lib.hid (show hvB (bytesF p) 0 n % fL = ofL p by rw [hvB_zero]; unfold ofL; rw [hn])
      have hvl := hvB_lt (f := bytesF p) n 0 (fun i _ => bytesF_lt p i)
      have hvl2 := Lib.hid (show hvB (bytesF p) 0 n < 2 ^ kk by have := hHb.out.2.2.2; exact low_wide hvl (by omega))
      clear hvl
      go_loopw [18, 19] (fun v i wr => ∃ s : Nat, i = .int .i64 ((s : Int) - 1) ∧ s ≤ n ∧ IsN wr v (hvB (bytesF p) s (n - s)) ∧ Below W4.heap.size W4 wr) (fun _ i _ => (intOf i + 1).toNat)
      case atStart => exact ⟨n, rfl, Nat.le_refl _, by rw [Nat.sub_self]; exact IsN.nil _, Below.refl _ _⟩
      case round =>
        obtain ⟨s, rfl, hs, hNv, hb4⟩ := hrel
        rename_i uu
        rcases Nat.eq_zero_or_pos s with rfl | hs0
        · rw [Nat.sub_zero] at hNv
          have hN := Lib.hid hNv
          clear hNv hpv hfl hs
          replace hM := Lib.hid (hM.out.step hb4)
          replace hX := Lib.hid (hX.out.step hb4)
          replace hY := Lib.hid (hY.out.step hb4)
          replace hA2 := Lib.hid (hA2.out.step hb4)
          replace hB2 := Lib.hid (hB2.out.step hb4)
          replace hW2 := Lib.hid (hW2.out.step hb4)
          replace hC := Lib.hid (((bcell hb4).1 g 0 hgl.out).trans hC.out)
          replace hgl := Lib.hid (Nat.lt_of_lt_of_le hgl.out hb4.size)
          replace hL2 := Lib.hid (below_step hb4 hL2.out (Nat.le_refl _))
          replace hN15 := Lib.hid (hN15.out.step hb4)
          replace hR17 := Lib.hid (row_below hR17.out hb4 hR17.out.lt)
          replace hb3 := Lib.hid (below_step hb4 hb3.out (Nat.le_refl _))
          clear hb4
          obtain ⟨vA, vm, vc, rfl, -, -, -⟩ := hN.out.form
          have kLz := Lib.hid (low_is (.slice vA vm vc) (.slice mA mm mc) (hvB (bytesF p) 0 n) kk g wr hN.out hvl2.out (by have := hHb.out.2.2.2; omega) hgl.out hC.out hM.out)
          rw [hofp.out] at kLz
          unfold numV at kLz
          have hco := arrK_cells .u64 4 (wd (ofL p))
          clear hofp hvl2 hN
          go_wp2_with fail
          refine kLz.out.mono ?_
          rintro e w8 ⟨rfl, hb⟩
          replace hM := Lib.hid (hM.out.step hb)
          replace hX := Lib.hid (hX.out.step hb)
          replace hY := Lib.hid (hY.out.step hb)
          replace hA2 := Lib.hid (hA2.out.step hb)
          replace hB2 := Lib.hid (hB2.out.step hb)
          replace hW2 := Lib.hid (hW2.out.step hb)
          replace hC := Lib.hid (((bcell hb).1 g 0 hgl.out).trans hC.out)
          replace hgl := Lib.hid (Nat.lt_of_lt_of_le hgl.out hb.size)
          replace hL2 := Lib.hid (below_step hb hL2.out (Nat.le_refl _))
          replace hN15 := Lib.hid (hN15.out.step hb)
          replace hR17 := Lib.hid (row_below hR17.out hb hR17.out.lt)
          replace hb3 := Lib.hid (below_step hb hb3.out (Nat.le_refl _))
          clear hb kLz
          dsimp only
          have hr1 := hR17.out
          go_upto_region 12 with (fail)
          have hN17 := Lib.hid (At.put (k := .u64) (f := wd (ofL p)) hR17.out)
          have hb9 := below_setRow (c := arrK .u64 4 (wd (ofL p))) hb3.out (show W3.heap.size ≤ g17 by rw [hge.out]; exact Nat.le_refl _)
          clear hM hX hY hA2 hB2 hW2 hC hgl hL2 hN15 hb3 hr1 hR17 hZ17
          have hM := Lib.hid (hM3.out.step hb9)
          have hX := Lib.hid (hX3.out.step hb9)
          have hY := Lib.hid (hY3.out.step hb9)
          have hA2 := Lib.hid (hA3.out.step hb9)
          have hB2 := Lib.hid (hB3.out.step hb9)
          have hW2 := Lib.hid (hW3.out.step hb9)
          have hN15 := Lib.hid (hN153.out.step hb9)
          have hC := Lib.hid (((bcell hb9).1 g 0 hgl3.out).trans hC3.out)
          have hgl := Lib.hid (Nat.lt_of_lt_of_le hgl3.out hb9.size)
          have hL2 := Lib.hid (below_step hb9 hL3.out (Nat.le_refl _))
          clear hM3 hX3 hY3 hA3 hB3 hW3 hC3 hgl3 hL3 hN153 hb9 hge
          generalize w8.setRow _ _ = W9 at *
          have hr1 := hN15.out.row
          have hr2 := hN15.out.eq
          have hr3 := hN17.out.row
          have hr4 := hN17.out.eq
          go_upto_region 14 with (first
            | refine wpList_opS (by go_simp) (fun K hK => wp_eqlA (.inl rfl) (by kernel_rfl) (v := arrK .u64 4 (wd (ofL p))) (u := arrK .u64 4 (wd (ofL p))) (by go_simp) (by go_simp) (neqS _ _) (hK _ _ ?_)))
          clear hr1 hr2 hr3 hr4 hN15 hN17
          obtain ⟨hka, hkb, hwv, hkk⟩ := hHb.out
          have hAA := Lib.hid hA2.out
          have hBB := Lib.hid hB2.out
          have hWW := Lib.hid hW2.out
          have mLt := fL_lt'
          have hMV := Lib.hid (fun V (h : Below W9.heap.size W9 V) => (hM.out.step h).toV (lt_big mLt (by omega)))
          have hXV := Lib.hid (fun V (h : Below W9.heap.size W9 V) => (hX.out.step h).toV (lt_big hka (by omega)))
          have hYV := Lib.hid (fun V (h : Below W9.heap.size W9 V) => (hY.out.step h).toV (lt_big hkb (by omega)))
          have hcc := Lib.hid (fun V (h : Below W9.heap.size W9 V) => And.intro (Nat.lt_of_lt_of_le hgl.out h.size) (((bcell h).1 g 0 hgl.out).trans hC.out))
          have kLl := Lib.hid (fun V => scalar_L V)
          have kTm := Lib.hid (fun V h => toNumN V (hMV.out V h))
          have kLo := Lib.hid (fun V => scalar_Low ka V hka)
          have kLx := Lib.hid (fun V h => low_is (.slice xA xm xc) (.slice mA mm mc) ka 256 g V (hX.out.step h) hka (by omega) (hcc.out V h).1 (hcc.out V h).2 (hM.out.step h))
          have kRd := Lib.hid (fun V => scalar_ReduceK wv kk V hwv hkk)
          have kOw := Lib.hid (fun V => ref_OfWide wv V (hkk ▸ hwv))
          have kLw := Lib.hid (fun V h v (hv : IsN V v wv) => low_is v (.slice mA mm mc) wv kk g V hv hwv (by omega) (hcc.out V h).1 (hcc.out V h).2 (hM.out.step h))
          have kAd := Lib.hid (fun V => scalar_Add ka kb V hka hkb)
          have kPl := Lib.hid (fun V h => plusN V (hXV.out V h) (hYV.out V h))
          have kLp := Lib.hid (fun V h v (hv : IsN V v (ka + kb)) => low_is v (.slice mA mm mc) (ka + kb) kk g V hv (sum_wide hka hkb (by omega)) (by omega) (hcc.out V h).1 (hcc.out V h).2 (hM.out.step h))
          have kNg := Lib.hid (fun V => scalar_Neg ka V hka)
          have kRs := Lib.hid (fun V h => restN V (hX.out.step h) hka (by omega) (hMV.out V h) (Nat.lt_trans (by omega) fL_pos) (mul_big (m := 17) (n := 256) (by omega) mLt (by omega)))
          have kMi := Lib.hid (fun V h v (hv : IsN V v (ka % fL)) => minusN V (hMV.out V h) (hv.toV (lt_big mod_L (by omega))) (Nat.le_of_lt lt_L))
          have kLn := Lib.hid (fun V h v (hv : IsN V v (fL - ka % fL)) => low_is v (.slice mA mm mc) (fL - ka % fL) 256 g V hv subN_small.2 (by omega) (hcc.out V h).1 (hcc.out V h).2 (hM.out.step h))
          have kMu := Lib.hid (fun V => scalar_Mul ka kb V hka hkb)
          have kTi := Lib.hid (fun V h => timesN V (hXV.out V h) (hYV.out V h))
          have kLt := Lib.hid (fun V h v (hv : IsN V v (ka * kb)) => low_is v (.slice mA mm mc) (ka * kb) kk g V hv (mul_wide hka hkb (by omega)) (by omega) (hcc.out V h).1 (hcc.out V h).2 (hM.out.step h))
          have kIn := Lib.hid (fun V => scalar_Inv ka V hka)
          have kM2 := Lib.hid (fun V h v (hv : IsV V v 2) => minusN V (hMV.out V h) hv (Nat.le_of_lt (Nat.lt_trans (by omega) fL_pos)))
          have kPw := Lib.hid (fun V h v (hv : IsN V v (fL - 2)) => show Calls Tryd.prog 35 #[.slice xA xm xc, v, .slice mA mm mc] V (RetN (invL ka) V) from powerN V (hX.out.step h) hka (by omega) hv (Nat.lt_of_le_of_lt (Nat.sub_le _ _) (lt_big mLt (by omega))) (hMV.out V h) (Nat.lt_trans (by omega) fL_pos) mLt (by omega))
          have kTv := Lib.hid (fun V v (hv : IsN V v (invL ka)) => toNumN V (hv.toV (lt_big (invL_lt ka) (by omega))))
          have hbw := Lib.hid (fun V (h : Below W9.heap.size W9 V) => below_step h hL2.out (Nat.le_refl _))
          have kDg := Lib.hid (fun V h => scalar_Digest Kt A p n c lb V hn (hTt.out V (hbw.out V h)) (hpc.out V (hbw.out V h)))
          have kDr := Lib.hid (fun V h => ref_Digest Kt p lb V (hTt.out V (hbw.out V h)) (by omega))
          have kTd := Lib.hid (fun V v (hv : IsN V v (ofL (dgT Kt lb p))) => toNumN V (hv.toV (lt_big (show ofL (dgT Kt lb p) < 2 ^ 256 from mod_L) (by omega))))
          have kCv := Lib.hid (fun V (h : Below W9.heap.size W9 V) => show (convert 22 9 (.slice A n c)).run Tryd.prog V = .ok (strV p) V by rw [← hn]; exact (hpc.out V (hbw.out V h)).conv)
          have hCc := Lib.hid (fun V (h : Below W9.heap.size W9 V) => (hcc.out V h).2)
          have hLL := Lib.hid hL2.out
          clear hM hX hY hA2 hB2 hW2 hC hgl hL2 hMV hXV hYV hcc hbw hHb hHn hTt hpc hka hkb hwv hkk mLt hO2 hn hpl hnc hcm
          unfold numV at kLl kTm kLo kLx kRd kLw kAd kLp kNg kLn kMu kLt kIn kTv kDg kTd
          unfold wideV at kRd kOw
          generalize ofL (dgT Kt lb p) = vD at *
          generalize invL ka = vI at *
          generalize fL = l0 at *
          generalize (l0 - ka % l0) % l0 = vN at *
          generalize l0 - ka % l0 = dN at *
          generalize ka % l0 = vA at *
          generalize wv % l0 = vW at *
          generalize (ka + kb) % l0 = vS at *
          generalize ka * kb % l0 = vM at *
          generalize l0 - 2 = l2 at *
          generalize ka + kb = sAB at *
          generalize ka * kb = pAB at *
          generalize ha0 : Act.mk _ _ = a0
          have e3 : a0.tmps[3]?.getD undef = .int .u8 (lb.toNat : Nat) := by rw [← ha0]; rfl
          have e4 : a0.tmps[4]?.getD undef = .slice A n c := by rw [← ha0]; rfl
          have e5 : a0.tmps[5]?.getD undef = .pointer (some ⟨w.heap.size, 0, none⟩) := by rw [← ha0]; rfl
          have e6 : a0.tmps[6]?.getD undef = .pointer (some ⟨w.heap.size + 1, 0, none⟩) := by rw [← ha0]; rfl
          have e7 : a0.tmps[7]?.getD undef = .pointer (some ⟨w.heap.size + 1 + 1, 0, none⟩) := by rw [← ha0]; rfl
          have e11 : a0.tmps[11]?.getD undef = .pointer (some ⟨g, 0, none⟩) := by rw [← ha0]; rfl
          have e12 : a0.tmps[12]?.getD undef = .slice xA xm xc := by rw [← ha0]; rfl
          have e13 : a0.tmps[13]?.getD undef = .slice yA ym yc := by rw [← ha0]; rfl
          have e14 : a0.tmps[14]?.getD undef = .func (Fn.func 20) #[] #[.pointer (some ⟨g, 0, none⟩)] := by rw [← ha0]; rfl
          have hz0 : a0.tmps.size = 152 := by rw [← ha0]; rfl
          have hha0 := Lib.hid ha0
          clear ha0
          refine wp_region_calm (fun jx_ => match jx_ with | 0 => SRel.is (.agg (arrK .u64 4 (wd l0))) | 1 => SRel.is (.slice mA mm mc) | 2 => SRel.is (.agg (arrK .u64 4 (wd l0))) | 3 => SRel.is (.bool true) | 4 => SRel.is (.bool true) | 5 => SRel.is (.agg (arrK .u64 4 (wd ka))) | 6 => SRel.is (.agg (arrK .u64 4 (wd vA))) | 7 => SRel.is (.func (Fn.func 20) #[] #[.pointer (some ⟨g, 0, none⟩)]) | 8 => SRel.is (.slice xA xm xc) | 9 => SRel.is (.agg (arrK .u64 4 (wd vA))) | 10 => SRel.is (.bool true) | 11 => SRel.is (.bool true) | 12 => SRel.is (.bool true) | 13 => SRel.is (.agg (arrK .u64 8 (wd wv))) | 14 => SRel.is (.agg (arrK .u64 4 (wd vW))) | 15 => SRel.is (.func (Fn.func 20) #[] #[.pointer (some ⟨g, 0, none⟩)]) | 16 => SRel.is (.agg (arrK .u64 8 (wd wv))) | 17 => SRel.bN wv | 18 => SRel.is (.agg (arrK .u64 4 (wd vW))) | 19 => SRel.is (.bool true) | 20 => SRel.is (.bool true) | 21 => SRel.is (.bool true) | 22 => SRel.is (.agg (arrK .u64 4 (wd ka))) | 23 => SRel.is (.agg (arrK .u64 4 (wd kb))) | 24 => SRel.is (.agg (arrK .u64 4 (wd vS))) | 25 => SRel.is (.func (Fn.func 20) #[] #[.pointer (some ⟨g, 0, none⟩)]) | 26 => SRel.is (.slice xA xm xc) | 27 => SRel.is (.slice yA ym yc) | 28 => SRel.bN sAB | 29 => SRel.is (.agg (arrK .u64 4 (wd vS))) | 30 => SRel.is (.bool true) | 31 => SRel.is (.bool true) | 32 => SRel.is (.bool true) | 33 => SRel.is (.agg (arrK .u64 4 (wd ka))) | 34 => SRel.is (.agg (arrK .u64 4 (wd vN))) | 35 => SRel.is (.func (Fn.func 20) #[] #[.pointer (some ⟨g, 0, none⟩)]) | 36 => SRel.is (.slice mA mm mc) | 37 => SRel.is (.slice xA xm xc) | 38 => SRel.is (.slice mA mm mc) | 39 => SRel.bN vA | 40 => SRel.bN dN | 41 => SRel.is (.agg (arrK .u64 4 (wd vN))) | 42 => SRel.is (.bool true) | 43 => SRel.is (.bool true) | 44 => SRel.is (.bool true) | 45 => SRel.is (.agg (arrK .u64 4 (wd ka))) | 46 => SRel.is (.agg (arrK .u64 4 (wd kb))) | 47 => SRel.is (.agg (arrK .u64 4 (wd vM))) | 48 => SRel.is (.func (Fn.func 20) #[] #[.pointer (some ⟨g, 0, none⟩)]) | 49 => SRel.is (.slice xA xm xc) | 50 => SRel.is (.slice yA ym yc) | 51 => SRel.bN pAB | 52 => SRel.is (.agg (arrK .u64 4 (wd vM))) | 53 => SRel.is (.bool true) | 54 => SRel.is (.bool true) | 55 => SRel.is (.bool true) | 56 => SRel.is (.agg (arrK .u64 4 (wd ka))) | 57 => SRel.is (.agg (arrK .u64 4 (wd vI))) | 58 => SRel.is (.slice xA xm xc) | 59 => SRel.is (.slice mA mm mc) | 60 => SRel.bV 2 | 61 => SRel.bN l2 | 62 => SRel.is (.slice mA mm mc) | 63 => SRel.bN vI | 64 => SRel.is (.agg (arrK .u64 4 (wd vI))) | 65 => SRel.is (.bool true) | 66 => SRel.is (.bool true) | 67 => SRel.is (.bool true) | 68 => SRel.is (.int .u8 (lb.toNat : Nat)) | 69 => SRel.is (.slice A n c) | 70 => SRel.is (.agg (arrK .u64 4 (wd vD))) | 71 => SRel.is (.int .u8 (lb.toNat : Nat)) | 72 => SRel.is (.slice A n c) | 73 => SRel.is (strV p) | 74 => SRel.bN vD | 75 => SRel.is (.agg (arrK .u64 4 (wd vD))) | 76 => SRel.is (.bool true) | 77 => SRel.is (.bool true) | 78 => SRel.is (.bool true) | _ => SRel.any) (by kernel_rfl) (by kernel_rfl) (by kernel_rfl) (slotsOk_of hz0 (by kernel_rfl)) ⟨?_, ?_, ?_, ?_, ?_, ?_, ?_, ?_, ?_, ?_, ?_, ?_, ?_, ?_, ?_, ?_, ?_, ?_, ?_, ?_, ?_, ?_, ?_, ?_, ?_, ?_, ?_, ?_, ?_, ?_, ?_, ?_, ?_, ?_, ?_, ?_, ?_, ?_, ?_, ?_, ?_, ?_, ?_, ?_, ?_, ?_, ?_, ?_, ?_, ?_, ?_, ?_, ?_, ?_, ?_, ?_, ?_, ?_, ?_, ?_, ?_, ?_, ?_, ?_, ?_, ?_, ?_, ?_, ?_, ?_, ?_, ?_, ?_, ?_, ?_, ?_, ?_, ?_, ?_, trivial⟩ ?_
          · refine calm_step rfl fun a ω κ hb hu hc hK => ?_
            have hk := Lib.hid (fun w1 (h : Below ω.heap.size ω w1) => hK (.agg (arrK .u64 4 (wd l0))) w1 rfl h)
            clear hK hu hc
            go_simp
            go_at_call 26
            refine (kLl.out _).mono ?_
            rintro e w1 ⟨rfl, hb1⟩
            exact hk.out _ hb1
          · refine calm_step rfl fun a ω κ hb hu hc hK => ?_
            have h11 : a.tmps[11]?.getD undef = .pointer (some ⟨g, 0, none⟩) := (hu 11 rfl).trans e11
            have hk := Lib.hid (fun w1 (h : Below ω.heap.size ω w1) => hK (.slice mA mm mc) w1 rfl h)
            clear hK hu hc
            have cq := hCc.out _ hb
            go_simp
            exact hk.out _ (Below.refl _ _)
          · refine calm_step rfl fun a ω κ hb hu hc hK => ?_
            have h75 : a.tmps[75]?.getD undef = .slice mA mm mc := hc 1 75 rfl rfl
            have hk := Lib.hid (fun w1 (h : Below ω.heap.size ω w1) => hK (.agg (arrK .u64 4 (wd l0))) w1 rfl h)
            clear hK hu hc
            go_simp
            go_at_call 21
            refine (kTm.out _ hb).mono ?_
            rintro e w1 ⟨rfl, hb1⟩
            exact hk.out _ hb1
          · refine calm_step rfl fun a ω κ hb hu hc hK => ?_
            have h74 : a.tmps[74]?.getD undef = .agg (arrK .u64 4 (wd l0)) := hc 0 74 rfl rfl
            have h76 : a.tmps[76]?.getD undef = .agg (arrK .u64 4 (wd l0)) := hc 2 76 rfl rfl
            have hk := Lib.hid (fun w1 (h : Below ω.heap.size ω w1) => hK (.bool true) w1 rfl h)
            clear hK hu hc
            exact wp_eqlA (v := arrK .u64 4 (wd l0)) (u := arrK .u64 4 (wd l0)) (.inr rfl) (by kernel_rfl) (by go_simp) (by go_simp) (eqlS _ _) (hk.out _ (Below.refl _ _))
          · refine calm_step rfl fun a ω κ hb hu hc hK => ?_
            have h77 : a.tmps[77]?.getD undef = .bool true := hc 3 77 rfl rfl
            have hk := Lib.hid (fun w1 (h : Below ω.heap.size ω w1) => hK (.bool true) w1 rfl h)
            clear hK hu hc
            go_simp
            exact hk.out _ (Below.refl _ _)
          · refine calm_step_guard (g := 4) (b := true) (d := 78) rfl rfl (fun a w hc => hc 4 78 rfl rfl) fun a ω κ hb hu hc hK => ?_
            have h5 : a.tmps[5]?.getD undef = .pointer (some ⟨w.heap.size, 0, none⟩) := (hu 5 rfl).trans e5
            have hk := Lib.hid (fun w1 (h : Below ω.heap.size ω w1) => hK (.agg (arrK .u64 4 (wd ka))) w1 rfl h)
            clear hK hu hc
            have hr1 := (hAA.out.step hb).row
            have hr2 := (hAA.out.step hb).eq
            go_simp
            exact hk.out _ (Below.refl _ _)
          · refine calm_step_guard (g := 4) (b := true) (d := 78) rfl rfl (fun a w hc => hc 4 78 rfl rfl) fun a ω κ hb hu hc hK => ?_
            have h79 : a.tmps[79]?.getD undef = .agg (arrK .u64 4 (wd ka)) := hc 5 79 rfl rfl
            have hk := Lib.hid (fun w1 (h : Below ω.heap.size ω w1) => hK (.agg (arrK .u64 4 (wd vA))) w1 rfl h)
            clear hK hu hc
            go_simp
            go_at_call 27
            refine (kLo.out _).mono ?_
            rintro e w1 ⟨rfl, hb1⟩
            exact hk.out _ hb1
          · refine calm_step_guard (g := 4) (b := true) (d := 78) rfl rfl (fun a w hc => hc 4 78 rfl rfl) fun a ω κ hb hu hc hK => ?_
            have h14 : a.tmps[14]?.getD undef = .func (Fn.func 20) #[] #[.pointer (some ⟨g, 0, none⟩)] := (hu 14 rfl).trans e14
            have hk := Lib.hid (fun w1 (h : Below ω.heap.size ω w1) => hK (.func (Fn.func 20) #[] #[.pointer (some ⟨g, 0, none⟩)]) w1 rfl h)
            clear hK hu hc
            go_simp
            exact hk.out _ (Below.refl _ _)
          · refine calm_step_guard (g := 4) (b := true) (d := 78) rfl rfl (fun a w hc => hc 4 78 rfl rfl) fun a ω κ hb hu hc hK => ?_
            have h12 : a.tmps[12]?.getD undef = .slice xA xm xc := (hu 12 rfl).trans e12
            have hk := Lib.hid (fun w1 (h : Below ω.heap.size ω w1) => hK (.slice xA xm xc) w1 rfl h)
            clear hK hu hc
            go_simp
            exact hk.out _ (Below.refl _ _)
          · refine calm_step_guard (g := 4) (b := true) (d := 78) rfl rfl (fun a w hc => hc 4 78 rfl rfl) fun a ω κ hb hu hc hK => ?_
            have h81 : a.tmps[81]?.getD undef = .func (Fn.func 20) #[] #[.pointer (some ⟨g, 0, none⟩)] := hc 7 81 rfl rfl
            have h82 : a.tmps[82]?.getD undef = .slice xA xm xc := hc 8 82 rfl rfl
            have hk := Lib.hid (fun w1 (h : Below ω.heap.size ω w1) => hK (.agg (arrK .u64 4 (wd vA))) w1 rfl h)
            clear hK hu hc
            go_simp
            refine (kLx.out _ hb).mono ?_
            rintro e w1 ⟨rfl, hb1⟩
            exact hk.out _ hb1
          · refine calm_step_guard (g := 4) (b := true) (d := 78) rfl rfl (fun a w hc => hc 4 78 rfl rfl) fun a ω κ hb hu hc hK => ?_
            have h80 : a.tmps[80]?.getD undef = .agg (arrK .u64 4 (wd vA)) := hc 6 80 rfl rfl
            have h83 : a.tmps[83]?.getD undef = .agg (arrK .u64 4 (wd vA)) := hc 9 83 rfl rfl
            have hk := Lib.hid (fun w1 (h : Below ω.heap.size ω w1) => hK (.bool true) w1 rfl h)
            clear hK hu hc
            exact wp_eqlA (v := arrK .u64 4 (wd vA)) (u := arrK .u64 4 (wd vA)) (.inr rfl) (by kernel_rfl) (by go_simp) (by go_simp) (eqlS _ _) (hk.out _ (Below.refl _ _))
          · refine calm_step rfl fun a ω κ hb hu hc hK => ?_
            have h78 : a.tmps[78]?.getD undef = .bool true := hc 4 78 rfl rfl
            have h84 : a.tmps[84]?.getD undef = .bool true := hc 10 84 rfl rfl
            have hk := Lib.hid (fun w1 (h : Below ω.heap.size ω w1) => hK (.bool true) w1 rfl h)
            clear hK hu hc
            go_simp
            exact hk.out _ (Below.refl _ _)
          · refine calm_step rfl fun a ω κ hb hu hc hK => ?_
            have h85 : a.tmps[85]?.getD undef = .bool true := hc 11 85 rfl rfl
            have hk := Lib.hid (fun w1 (h : Below ω.heap.size ω w1) => hK (.bool true) w1 rfl h)
            clear hK hu hc
            go_simp
            exact hk.out _ (Below.refl _ _)
          · refine calm_step_guard (g := 12) (b := true) (d := 86) rfl rfl (fun a w hc => hc 12 86 rfl rfl) fun a ω κ hb hu hc hK => ?_
            have h7 : a.tmps[7]?.getD undef = .pointer (some ⟨w.heap.size + 1 + 1, 0, none⟩) := (hu 7 rfl).trans e7
            have hk := Lib.hid (fun w1 (h : Below ω.heap.size ω w1) => hK (.agg (arrK .u64 8 (wd wv))) w1 rfl h)
            clear hK hu hc
            have hr1 := (hWW.out.step hb).row
            have hr2 := (hWW.out.step hb).eq
            go_simp
            exact hk.out _ (Below.refl _ _)
          · refine calm_step_guard (g := 12) (b := true) (d := 86) rfl rfl (fun a w hc => hc 12 86 rfl rfl) fun a ω κ hb hu hc hK => ?_
            have h87 : a.tmps[87]?.getD undef = .agg (arrK .u64 8 (wd wv)) := hc 13 87 rfl rfl
            have hk := Lib.hid (fun w1 (h : Below ω.heap.size ω w1) => hK (.agg (arrK .u64 4 (wd vW))) w1 rfl h)
            clear hK hu hc
            go_simp
            go_at_call 28
            refine (kRd.out _).mono ?_
            rintro e w1 ⟨rfl, hb1⟩
            exact hk.out _ hb1
          · refine calm_step_guard (g := 12) (b := true) (d := 86) rfl rfl (fun a w hc => hc 12 86 rfl rfl) fun a ω κ hb hu hc hK => ?_
            have h14 : a.tmps[14]?.getD undef = .func (Fn.func 20) #[] #[.pointer (some ⟨g, 0, none⟩)] := (hu 14 rfl).trans e14
            have hk := Lib.hid (fun w1 (h : Below ω.heap.size ω w1) => hK (.func (Fn.func 20) #[] #[.pointer (some ⟨g, 0, none⟩)]) w1 rfl h)
            clear hK hu hc
            go_simp
            exact hk.out _ (Below.refl _ _)
          · refine calm_step_guard (g := 12) (b := true) (d := 86) rfl rfl (fun a w hc => hc 12 86 rfl rfl) fun a ω κ hb hu hc hK => ?_
            have h7 : a.tmps[7]?.getD undef = .pointer (some ⟨w.heap.size + 1 + 1, 0, none⟩) := (hu 7 rfl).trans e7
            have hk := Lib.hid (fun w1 (h : Below ω.heap.size ω w1) => hK (.agg (arrK .u64 8 (wd wv))) w1 rfl h)
            clear hK hu hc
            have hr1 := (hWW.out.step hb).row
            have hr2 := (hWW.out.step hb).eq
            go_simp
            exact hk.out _ (Below.refl _ _)
          · refine calm_step_guard (g := 12) (b := true) (d := 86) rfl rfl (fun a w hc => hc 12 86 rfl rfl) fun a ω κ hb hu hc hK => ?_
            have h90 : a.tmps[90]?.getD undef = .agg (arrK .u64 8 (wd wv)) := hc 16 90 rfl rfl
            have hk := Lib.hid (fun v w1 (hv : (SRel.bN wv).p v w1) (h : Below ω.heap.size ω w1) => hK v w1 hv h)
            clear hK hu hc
            go_simp
            go_at_call 29
            refine (kOw.out _).mono ?_
            rintro e w1 ⟨u, rfl, hu, hb1⟩
            exact hk.out _ _ hu hb1
          · refine calm_step_guard (g := 12) (b := true) (d := 86) rfl rfl (fun a w hc => hc 12 86 rfl rfl) fun a ω κ hb hu hc hK => ?_
            have h89 : a.tmps[89]?.getD undef = .func (Fn.func 20) #[] #[.pointer (some ⟨g, 0, none⟩)] := hc 15 89 rfl rfl
            have h91 : (SRel.bN wv).p (a.tmps[91]?.getD undef) ω := hc 17 91 rfl rfl
            have hk := Lib.hid (fun w1 (h : Below ω.heap.size ω w1) => hK (.agg (arrK .u64 4 (wd vW))) w1 rfl h)
            clear hK hu hc
            go_simp
            refine (kLw.out _ hb _ h91).mono ?_
            rintro e w1 ⟨rfl, hb1⟩
            exact hk.out _ hb1
          · refine calm_step_guard (g := 12) (b := true) (d := 86) rfl rfl (fun a w hc => hc 12 86 rfl rfl) fun a ω κ hb hu hc hK => ?_
            have h88 : a.tmps[88]?.getD undef = .agg (arrK .u64 4 (wd vW)) := hc 14 88 rfl rfl
            have h92 : a.tmps[92]?.getD undef = .agg (arrK .u64 4 (wd vW)) := hc 18 92 rfl rfl
            have hk := Lib.hid (fun w1 (h : Below ω.heap.size ω w1) => hK (.bool true) w1 rfl h)
            clear hK hu hc
            exact wp_eqlA (v := arrK .u64 4 (wd vW)) (u := arrK .u64 4 (wd vW)) (.inr rfl) (by kernel_rfl) (by go_simp) (by go_simp) (eqlS _ _) (hk.out _ (Below.refl _ _))
          · refine calm_step rfl fun a ω κ hb hu hc hK => ?_
            have h86 : a.tmps[86]?.getD undef = .bool true := hc 12 86 rfl rfl
            have h93 : a.tmps[93]?.getD undef = .bool true := hc 19 93 rfl rfl
            have hk := Lib.hid (fun w1 (h : Below ω.heap.size ω w1) => hK (.bool true) w1 rfl h)
            clear hK hu hc
            go_simp
            exact hk.out _ (Below.refl _ _)
          · refine calm_step rfl fun a ω κ hb hu hc hK => ?_
            have h94 : a.tmps[94]?.getD undef = .bool true := hc 20 94 rfl rfl
            have hk := Lib.hid (fun w1 (h : Below ω.heap.size ω w1) => hK (.bool true) w1 rfl h)
            clear hK hu hc
            go_simp
            exact hk.out _ (Below.refl _ _)
          · refine calm_step_guard (g := 21) (b := true) (d := 95) rfl rfl (fun a w hc => hc 21 95 rfl rfl) fun a ω κ hb hu hc hK => ?_
            have h5 : a.tmps[5]?.getD undef = .pointer (some ⟨w.heap.size, 0, none⟩) := (hu 5 rfl).trans e5
            have hk := Lib.hid (fun w1 (h : Below ω.heap.size ω w1) => hK (.agg (arrK .u64 4 (wd ka))) w1 rfl h)
            clear hK hu hc
            have hr1 := (hAA.out.step hb).row
            have hr2 := (hAA.out.step hb).eq
            go_simp
            exact hk.out _ (Below.refl _ _)
          · refine calm_step_guard (g := 21) (b := true) (d := 95) rfl rfl (fun a w hc => hc 21 95 rfl rfl) fun a ω κ hb hu hc hK => ?_
            have h6 : a.tmps[6]?.getD undef = .pointer (some ⟨w.heap.size + 1, 0, none⟩) := (hu 6 rfl).trans e6
            have hk := Lib.hid (fun w1 (h : Below ω.heap.size ω w1) => hK (.agg (arrK .u64 4 (wd kb))) w1 rfl h)
            clear hK hu hc
            have hr1 := (hBB.out.step hb).row
            have hr2 := (hBB.out.step hb).eq
            go_simp
            exact hk.out _ (Below.refl _ _)
          · refine calm_step_guard (g := 21) (b := true) (d := 95) rfl rfl (fun a w hc => hc 21 95 rfl rfl) fun a ω κ hb hu hc hK => ?_
            have h96 : a.tmps[96]?.getD undef = .agg (arrK .u64 4 (wd ka)) := hc 22 96 rfl rfl
            have h97 : a.tmps[97]?.getD undef = .agg (arrK .u64 4 (wd kb)) := hc 23 97 rfl rfl
            have hk := Lib.hid (fun w1 (h : Below ω.heap.size ω w1) => hK (.agg (arrK .u64 4 (wd vS))) w1 rfl h)
            clear hK hu hc
            go_simp
            go_at_call 30
            refine (kAd.out _).mono ?_
            rintro e w1 ⟨rfl, hb1⟩
            exact hk.out _ hb1
          · refine calm_step_guard (g := 21) (b := true) (d := 95) rfl rfl (fun a w hc => hc 21 95 rfl rfl) fun a ω κ hb hu hc hK => ?_
            have h14 : a.tmps[14]?.getD undef = .func (Fn.func 20) #[] #[.pointer (some ⟨g, 0, none⟩)] := (hu 14 rfl).trans e14
            have hk := Lib.hid (fun w1 (h : Below ω.heap.size ω w1) => hK (.func (Fn.func 20) #[] #[.pointer (some ⟨g, 0, none⟩)]) w1 rfl h)
            clear hK hu hc
            go_simp
            exact hk.out _ (Below.refl _ _)
          · refine calm_step_guard (g := 21) (b := true) (d := 95) rfl rfl (fun a w hc => hc 21 95 rfl rfl) fun a ω κ hb hu hc hK => ?_
            have h12 : a.tmps[12]?.getD undef = .slice xA xm xc := (hu 12 rfl).trans e12
            have hk := Lib.hid (fun w1 (h : Below ω.heap.size ω w1) => hK (.slice xA xm xc) w1 rfl h)
            clear hK hu hc
            go_simp
            exact hk.out _ (Below.refl _ _)
          · refine calm_step_guard (g := 21) (b := true) (d := 95) rfl rfl (fun a w hc => hc 21 95 rfl rfl) fun a ω κ hb hu hc hK => ?_
            have h13 : a.tmps[13]?.getD undef = .slice yA ym yc := (hu 13 rfl).trans e13
            have hk := Lib.hid (fun w1 (h : Below ω.heap.size ω w1) => hK (.slice yA ym yc) w1 rfl h)
            clear hK hu hc
            go_simp
            exact hk.out _ (Below.refl _ _)
          · refine calm_step_guard (g := 21) (b := true) (d := 95) rfl rfl (fun a w hc => hc 21 95 rfl rfl) fun a ω κ hb hu hc hK => ?_
            have h100 : a.tmps[100]?.getD undef = .slice xA xm xc := hc 26 100 rfl rfl
            have h101 : a.tmps[101]?.getD undef = .slice yA ym yc := hc 27 101 rfl rfl
            have hk := Lib.hid (fun v w1 (hv : (SRel.bN sAB).p v w1) (h : Below ω.heap.size ω w1) => hK v w1 hv h)
            clear hK hu hc
            go_simp
            go_at_call 24
            refine (kPl.out _ hb).mono ?_
            rintro e w1 ⟨u, rfl, hu, hb1⟩
            exact hk.out _ _ hu hb1
          · refine calm_step_guard (g := 21) (b := true) (d := 95) rfl rfl (fun a w hc => hc 21 95 rfl rfl) fun a ω κ hb hu hc hK => ?_
            have h99 : a.tmps[99]?.getD undef = .func (Fn.func 20) #[] #[.pointer (some ⟨g, 0, none⟩)] := hc 25 99 rfl rfl
            have h102 : (SRel.bN sAB).p (a.tmps[102]?.getD undef) ω := hc 28 102 rfl rfl
            have hk := Lib.hid (fun w1 (h : Below ω.heap.size ω w1) => hK (.agg (arrK .u64 4 (wd vS))) w1 rfl h)
            clear hK hu hc
            go_simp
            refine (kLp.out _ hb _ h102).mono ?_
            rintro e w1 ⟨rfl, hb1⟩
            exact hk.out _ hb1
          · refine calm_step_guard (g := 21) (b := true) (d := 95) rfl rfl (fun a w hc => hc 21 95 rfl rfl) fun a ω κ hb hu hc hK => ?_
            have h98 : a.tmps[98]?.getD undef = .agg (arrK .u64 4 (wd vS)) := hc 24 98 rfl rfl
            have h103 : a.tmps[103]?.getD undef = .agg (arrK .u64 4 (wd vS)) := hc 29 103 rfl rfl
            have hk := Lib.hid (fun w1 (h : Below ω.heap.size ω w1) => hK (.bool true) w1 rfl h)
            clear hK hu hc
            exact wp_eqlA (v := arrK .u64 4 (wd vS)) (u := arrK .u64 4 (wd vS)) (.inr rfl) (by kernel_rfl) (by go_simp) (by go_simp) (eqlS _ _) (hk.out _ (Below.refl _ _))
          · refine calm_step rfl fun a ω κ hb hu hc hK => ?_
            have h95 : a.tmps[95]?.getD undef = .bool true := hc 21 95 rfl rfl
            have h104 : a.tmps[104]?.getD undef = .bool true := hc 30 104 rfl rfl
            have hk := Lib.hid (fun w1 (h : Below ω.heap.size ω w1) => hK (.bool true) w1 rfl h)
            clear hK hu hc
            go_simp
            exact hk.out _ (Below.refl _ _)
          · refine calm_step rfl fun a ω κ hb hu hc hK => ?_
            have h105 : a.tmps[105]?.getD undef = .bool true := hc 31 105 rfl rfl
            have hk := Lib.hid (fun w1 (h : Below ω.heap.size ω w1) => hK (.bool true) w1 rfl h)
            clear hK hu hc
            go_simp
            exact hk.out _ (Below.refl _ _)
          · refine calm_step_guard (g := 32) (b := true) (d := 106) rfl rfl (fun a w hc => hc 32 106 rfl rfl) fun a ω κ hb hu hc hK => ?_
            have h5 : a.tmps[5]?.getD undef = .pointer (some ⟨w.heap.size, 0, none⟩) := (hu 5 rfl).trans e5
            have hk := Lib.hid (fun w1 (h : Below ω.heap.size ω w1) => hK (.agg (arrK .u64 4 (wd ka))) w1 rfl h)
            clear hK hu hc
            have hr1 := (hAA.out.step hb).row
            have hr2 := (hAA.out.step hb).eq
            go_simp
            exact hk.out _ (Below.refl _ _)
          · refine calm_step_guard (g := 32) (b := true) (d := 106) rfl rfl (fun a w hc => hc 32 106 rfl rfl) fun a ω κ hb hu hc hK => ?_
            have h107 : a.tmps[107]?.getD undef = .agg (arrK .u64 4 (wd ka)) := hc 33 107 rfl rfl
            have hk := Lib.hid (fun w1 (h : Below ω.heap.size ω w1) => hK (.agg (arrK .u64 4 (wd vN))) w1 rfl h)
            clear hK hu hc
            go_simp
            go_at_call 31
            refine (kNg.out _).mono ?_
            rintro e w1 ⟨rfl, hb1⟩
            exact hk.out _ hb1
          · refine calm_step_guard (g := 32) (b := true) (d := 106) rfl rfl (fun a w hc => hc 32 106 rfl rfl) fun a ω κ hb hu hc hK => ?_
            have h14 : a.tmps[14]?.getD undef = .func (Fn.func 20) #[] #[.pointer (some ⟨g, 0, none⟩)] := (hu 14 rfl).trans e14
            have hk := Lib.hid (fun w1 (h : Below ω.heap.size ω w1) => hK (.func (Fn.func 20) #[] #[.pointer (some ⟨g, 0, none⟩)]) w1 rfl h)
            clear hK hu hc
            go_simp
            exact hk.out _ (Below.refl _ _)
          · refine calm_step_guard (g := 32) (b := true) (d := 106) rfl rfl (fun a w hc => hc 32 106 rfl rfl) fun a ω κ hb hu hc hK => ?_
            have h11 : a.tmps[11]?.getD undef = .pointer (some ⟨g, 0, none⟩) := (hu 11 rfl).trans e11
            have hk := Lib.hid (fun w1 (h : Below ω.heap.size ω w1) => hK (.slice mA mm mc) w1 rfl h)
            clear hK hu hc
            have cq := hCc.out _ hb
            go_simp
            exact hk.out _ (Below.refl _ _)
          · refine calm_step_guard (g := 32) (b := true) (d := 106) rfl rfl (fun a w hc => hc 32 106 rfl rfl) fun a ω κ hb hu hc hK => ?_
            have h12 : a.tmps[12]?.getD undef = .slice xA xm xc := (hu 12 rfl).trans e12
            have hk := Lib.hid (fun w1 (h : Below ω.heap.size ω w1) => hK (.slice xA xm xc) w1 rfl h)
            clear hK hu hc
            go_simp
            exact hk.out _ (Below.refl _ _)
          · refine calm_step_guard (g := 32) (b := true) (d := 106) rfl rfl (fun a w hc => hc 32 106 rfl rfl) fun a ω κ hb hu hc hK => ?_
            have h11 : a.tmps[11]?.getD undef = .pointer (some ⟨g, 0, none⟩) := (hu 11 rfl).trans e11
            have hk := Lib.hid (fun w1 (h : Below ω.heap.size ω w1) => hK (.slice mA mm mc) w1 rfl h)
            clear hK hu hc
            have cq := hCc.out _ hb
            go_simp
            exact hk.out _ (Below.refl _ _)
          · refine calm_step_guard (g := 32) (b := true) (d := 106) rfl rfl (fun a w hc => hc 32 106 rfl rfl) fun a ω κ hb hu hc hK => ?_
            have h111 : a.tmps[111]?.getD undef = .slice xA xm xc := hc 37 111 rfl rfl
            have h112 : a.tmps[112]?.getD undef = .slice mA mm mc := hc 38 112 rfl rfl
            have hk := Lib.hid (fun v w1 (hv : (SRel.bN vA).p v w1) (h : Below ω.heap.size ω w1) => hK v w1 hv h)
            clear hK hu hc
            go_simp
            go_at_call 22
            refine (kRs.out _ hb).mono ?_
            rintro e w1 ⟨u, rfl, hu, hb1⟩
            exact hk.out _ _ hu hb1
          · refine calm_step_guard (g := 32) (b := true) (d := 106) rfl rfl (fun a w hc => hc 32 106 rfl rfl) fun a ω κ hb hu hc hK => ?_
            have h110 : a.tmps[110]?.getD undef = .slice mA mm mc := hc 36 110 rfl rfl
            have h113 : (SRel.bN vA).p (a.tmps[113]?.getD undef) ω := hc 39 113 rfl rfl
            have hk := Lib.hid (fun v w1 (hv : (SRel.bN dN).p v w1) (h : Below ω.heap.size ω w1) => hK v w1 hv h)
            clear hK hu hc
            go_simp
            go_at_call 32
            refine (kMi.out _ hb _ h113).mono ?_
            rintro e w1 ⟨u, rfl, hu, hb1⟩
            exact hk.out _ _ hu.toN hb1
          · refine calm_step_guard (g := 32) (b := true) (d := 106) rfl rfl (fun a w hc => hc 32 106 rfl rfl) fun a ω κ hb hu hc hK => ?_
            have h109 : a.tmps[109]?.getD undef = .func (Fn.func 20) #[] #[.pointer (some ⟨g, 0, none⟩)] := hc 35 109 rfl rfl
            have h114 : (SRel.bN dN).p (a.tmps[114]?.getD undef) ω := hc 40 114 rfl rfl
            have hk := Lib.hid (fun w1 (h : Below ω.heap.size ω w1) => hK (.agg (arrK .u64 4 (wd vN))) w1 rfl h)
            clear hK hu hc
            go_simp
            refine (kLn.out _ hb _ h114).mono ?_
            rintro e w1 ⟨rfl, hb1⟩
            exact hk.out _ hb1
          · refine calm_step_guard (g := 32) (b := true) (d := 106) rfl rfl (fun a w hc => hc 32 106 rfl rfl) fun a ω κ hb hu hc hK => ?_
            have h108 : a.tmps[108]?.getD undef = .agg (arrK .u64 4 (wd vN)) := hc 34 108 rfl rfl
            have h115 : a.tmps[115]?.getD undef = .agg (arrK .u64 4 (wd vN)) := hc 41 115 rfl rfl
            have hk := Lib.hid (fun w1 (h : Below ω.heap.size ω w1) => hK (.bool true) w1 rfl h)
            clear hK hu hc
            exact wp_eqlA (v := arrK .u64 4 (wd vN)) (u := arrK .u64 4 (wd vN)) (.inr rfl) (by kernel_rfl) (by go_simp) (by go_simp) (eqlS _ _) (hk.out _ (Below.refl _ _))
          · refine calm_step rfl fun a ω κ hb hu hc hK => ?_
            have h106 : a.tmps[106]?.getD undef = .bool true := hc 32 106 rfl rfl
            have h116 : a.tmps[116]?.getD undef = .bool true := hc 42 116 rfl rfl
            have hk := Lib.hid (fun w1 (h : Below ω.heap.size ω w1) => hK (.bool true) w1 rfl h)
            clear hK hu hc
            go_simp
            exact hk.out _ (Below.refl _ _)
          · refine calm_step rfl fun a ω κ hb hu hc hK => ?_
            have h117 : a.tmps[117]?.getD undef = .bool true := hc 43 117 rfl rfl
            have hk := Lib.hid (fun w1 (h : Below ω.heap.size ω w1) => hK (.bool true) w1 rfl h)
            clear hK hu hc
            go_simp
            exact hk.out _ (Below.refl _ _)
          · refine calm_step_guard (g := 44) (b := true) (d := 118) rfl rfl (fun a w hc => hc 44 118 rfl rfl) fun a ω κ hb hu hc hK => ?_
            have h5 : a.tmps[5]?.getD undef = .pointer (some ⟨w.heap.size, 0, none⟩) := (hu 5 rfl).trans e5
            have hk := Lib.hid (fun w1 (h : Below ω.heap.size ω w1) => hK (.agg (arrK .u64 4 (wd ka))) w1 rfl h)
            clear hK hu hc
            have hr1 := (hAA.out.step hb).row
            have hr2 := (hAA.out.step hb).eq
            go_simp
            exact hk.out _ (Below.refl _ _)
          · refine calm_step_guard (g := 44) (b := true) (d := 118) rfl rfl (fun a w hc => hc 44 118 rfl rfl) fun a ω κ hb hu hc hK => ?_
            have h6 : a.tmps[6]?.getD undef = .pointer (some ⟨w.heap.size + 1, 0, none⟩) := (hu 6 rfl).trans e6
            have hk := Lib.hid (fun w1 (h : Below ω.heap.size ω w1) => hK (.agg (arrK .u64 4 (wd kb))) w1 rfl h)
            clear hK hu hc
            have hr1 := (hBB.out.step hb).row
            have hr2 := (hBB.out.step hb).eq
            go_simp
            exact hk.out _ (Below.refl _ _)
          · refine calm_step_guard (g := 44) (b := true) (d := 118) rfl rfl (fun a w hc => hc 44 118 rfl rfl) fun a ω κ hb hu hc hK => ?_
            have h119 : a.tmps[119]?.getD undef = .agg (arrK .u64 4 (wd ka)) := hc 45 119 rfl rfl
            have h120 : a.tmps[120]?.getD undef = .agg (arrK .u64 4 (wd kb)) := hc 46 120 rfl rfl
            have hk := Lib.hid (fun w1 (h : Below ω.heap.size ω w1) => hK (.agg (arrK .u64 4 (wd vM))) w1 rfl h)
            clear hK hu hc
            go_simp
            go_at_call 33
            refine (kMu.out _).mono ?_
            rintro e w1 ⟨rfl, hb1⟩
            exact hk.out _ hb1
          · refine calm_step_guard (g := 44) (b := true) (d := 118) rfl rfl (fun a w hc => hc 44 118 rfl rfl) fun a ω κ hb hu hc hK => ?_
            have h14 : a.tmps[14]?.getD undef = .func (Fn.func 20) #[] #[.pointer (some ⟨g, 0, none⟩)] := (hu 14 rfl).trans e14
            have hk := Lib.hid (fun w1 (h : Below ω.heap.size ω w1) => hK (.func (Fn.func 20) #[] #[.pointer (some ⟨g, 0, none⟩)]) w1 rfl h)
            clear hK hu hc
            go_simp
            exact hk.out _ (Below.refl _ _)
          · refine calm_step_guard (g := 44) (b := true) (d := 118) rfl rfl (fun a w hc => hc 44 118 rfl rfl) fun a ω κ hb hu hc hK => ?_
            have h12 : a.tmps[12]?.getD undef = .slice xA xm xc := (hu 12 rfl).trans e12
            have hk := Lib.hid (fun w1 (h : Below ω.heap.size ω w1) => hK (.slice xA xm xc) w1 rfl h)
            clear hK hu hc
            go_simp
            exact hk.out _ (Below.refl _ _)
          · refine calm_step_guard (g := 44) (b := true) (d := 118) rfl rfl (fun a w hc => hc 44 118 rfl rfl) fun a ω κ hb hu hc hK => ?_
            have h13 : a.tmps[13]?.getD undef = .slice yA ym yc := (hu 13 rfl).trans e13
            have hk := Lib.hid (fun w1 (h : Below ω.heap.size ω w1) => hK (.slice yA ym yc) w1 rfl h)
            clear hK hu hc
            go_simp
            exact hk.out _ (Below.refl _ _)
          · refine calm_step_guard (g := 44) (b := true) (d := 118) rfl rfl (fun a w hc => hc 44 118 rfl rfl) fun a ω κ hb hu hc hK => ?_
            have h123 : a.tmps[123]?.getD undef = .slice xA xm xc := hc 49 123 rfl rfl
            have h124 : a.tmps[124]?.getD undef = .slice yA ym yc := hc 50 124 rfl rfl
            have hk := Lib.hid (fun v w1 (hv : (SRel.bN pAB).p v w1) (h : Below ω.heap.size ω w1) => hK v w1 hv h)
            clear hK hu hc
            go_simp
            go_at_call 25
            refine (kTi.out _ hb).mono ?_
            rintro e w1 ⟨u, rfl, hu, hb1⟩
            exact hk.out _ _ hu hb1
          · refine calm_step_guard (g := 44) (b := true) (d := 118) rfl rfl (fun a w hc => hc 44 118 rfl rfl) fun a ω κ hb hu hc hK => ?_
            have h122 : a.tmps[122]?.getD undef = .func (Fn.func 20) #[] #[.pointer (some ⟨g, 0, none⟩)] := hc 48 122 rfl rfl
            have h125 : (SRel.bN pAB).p (a.tmps[125]?.getD undef) ω := hc 51 125 rfl rfl
            have hk := Lib.hid (fun w1 (h : Below ω.heap.size ω w1) => hK (.agg (arrK .u64 4 (wd vM))) w1 rfl h)
            clear hK hu hc
            go_simp
            refine (kLt.out _ hb _ h125).mono ?_
            rintro e w1 ⟨rfl, hb1⟩
            exact hk.out _ hb1
          · refine calm_step_guard (g := 44) (b := true) (d := 118) rfl rfl (fun a w hc => hc 44 118 rfl rfl) fun a ω κ hb hu hc hK => ?_
            have h121 : a.tmps[121]?.getD undef = .agg (arrK .u64 4 (wd vM)) := hc 47 121 rfl rfl
            have h126 : a.tmps[126]?.getD undef = .agg (arrK .u64 4 (wd vM)) := hc 52 126 rfl rfl
            have hk := Lib.hid (fun w1 (h : Below ω.heap.size ω w1) => hK (.bool true) w1 rfl h)
            clear hK hu hc
            exact wp_eqlA (v := arrK .u64 4 (wd vM)) (u := arrK .u64 4 (wd vM)) (.inr rfl) (by kernel_rfl) (by go_simp) (by go_simp) (eqlS _ _) (hk.out _ (Below.refl _ _))
          · refine calm_step rfl fun a ω κ hb hu hc hK => ?_
            have h118 : a.tmps[118]?.getD undef = .bool true := hc 44 118 rfl rfl
            have h127 : a.tmps[127]?.getD undef = .bool true := hc 53 127 rfl rfl
            have hk := Lib.hid (fun w1 (h : Below ω.heap.size ω w1) => hK (.bool true) w1 rfl h)
            clear hK hu hc
            go_simp
            exact hk.out _ (Below.refl _ _)
          · refine calm_step rfl fun a ω κ hb hu hc hK => ?_
            have h128 : a.tmps[128]?.getD undef = .bool true := hc 54 128 rfl rfl
            have hk := Lib.hid (fun w1 (h : Below ω.heap.size ω w1) => hK (.bool true) w1 rfl h)
            clear hK hu hc
            go_simp
            exact hk.out _ (Below.refl _ _)
          · refine calm_step_guard (g := 55) (b := true) (d := 129) rfl rfl (fun a w hc => hc 55 129 rfl rfl) fun a ω κ hb hu hc hK => ?_
            have h5 : a.tmps[5]?.getD undef = .pointer (some ⟨w.heap.size, 0, none⟩) := (hu 5 rfl).trans e5
            have hk := Lib.hid (fun w1 (h : Below ω.heap.size ω w1) => hK (.agg (arrK .u64 4 (wd ka))) w1 rfl h)
            clear hK hu hc
            have hr1 := (hAA.out.step hb).row
            have hr2 := (hAA.out.step hb).eq
            go_simp
            exact hk.out _ (Below.refl _ _)
          · refine calm_step_guard (g := 55) (b := true) (d := 129) rfl rfl (fun a w hc => hc 55 129 rfl rfl) fun a ω κ hb hu hc hK => ?_
            have h130 : a.tmps[130]?.getD undef = .agg (arrK .u64 4 (wd ka)) := hc 56 130 rfl rfl
            have hk := Lib.hid (fun w1 (h : Below ω.heap.size ω w1) => hK (.agg (arrK .u64 4 (wd vI))) w1 rfl h)
            clear hK hu hc
            go_simp
            go_at_call 34
            refine (kIn.out _).mono ?_
            rintro e w1 ⟨rfl, hb1⟩
            exact hk.out _ hb1
          · refine calm_step_guard (g := 55) (b := true) (d := 129) rfl rfl (fun a w hc => hc 55 129 rfl rfl) fun a ω κ hb hu hc hK => ?_
            have h12 : a.tmps[12]?.getD undef = .slice xA xm xc := (hu 12 rfl).trans e12
            have hk := Lib.hid (fun w1 (h : Below ω.heap.size ω w1) => hK (.slice xA xm xc) w1 rfl h)
            clear hK hu hc
            go_simp
            exact hk.out _ (Below.refl _ _)
          · refine calm_step_guard (g := 55) (b := true) (d := 129) rfl rfl (fun a w hc => hc 55 129 rfl rfl) fun a ω κ hb hu hc hK => ?_
            have h11 : a.tmps[11]?.getD undef = .pointer (some ⟨g, 0, none⟩) := (hu 11 rfl).trans e11
            have hk := Lib.hid (fun w1 (h : Below ω.heap.size ω w1) => hK (.slice mA mm mc) w1 rfl h)
            clear hK hu hc
            have cq := hCc.out _ hb
            go_simp
            exact hk.out _ (Below.refl _ _)
          · refine calm_step_guard (g := 55) (b := true) (d := 129) rfl rfl (fun a w hc => hc 55 129 rfl rfl) fun a ω κ hb hu hc hK => ?_
            have hk := Lib.hid (fun v w1 (hv : (SRel.bV 2).p v w1) (h : Below ω.heap.size ω w1) => hK v w1 hv h)
            clear hK hu hc
            go_simp
            exact hk.out _ _ (IsV.lit ω 3 (d := 2) (by omega)) (below_alloc _ _)
          · refine calm_step_guard (g := 55) (b := true) (d := 129) rfl rfl (fun a w hc => hc 55 129 rfl rfl) fun a ω κ hb hu hc hK => ?_
            have h133 : a.tmps[133]?.getD undef = .slice mA mm mc := hc 59 133 rfl rfl
            have h134 : (SRel.bV 2).p (a.tmps[134]?.getD undef) ω := hc 60 134 rfl rfl
            have hk := Lib.hid (fun v w1 (hv : (SRel.bN l2).p v w1) (h : Below ω.heap.size ω w1) => hK v w1 hv h)
            clear hK hu hc
            go_simp
            go_at_call 32
            refine (kM2.out _ hb _ h134).mono ?_
            rintro e w1 ⟨u, rfl, hu, hb1⟩
            exact hk.out _ _ hu.toN hb1
          · refine calm_step_guard (g := 55) (b := true) (d := 129) rfl rfl (fun a w hc => hc 55 129 rfl rfl) fun a ω κ hb hu hc hK => ?_
            have h11 : a.tmps[11]?.getD undef = .pointer (some ⟨g, 0, none⟩) := (hu 11 rfl).trans e11
            have hk := Lib.hid (fun w1 (h : Below ω.heap.size ω w1) => hK (.slice mA mm mc) w1 rfl h)
            clear hK hu hc
            have cq := hCc.out _ hb
            go_simp
            exact hk.out _ (Below.refl _ _)
          · refine calm_step_guard (g := 55) (b := true) (d := 129) rfl rfl (fun a w hc => hc 55 129 rfl rfl) fun a ω κ hb hu hc hK => ?_
            have h132 : a.tmps[132]?.getD undef = .slice xA xm xc := hc 58 132 rfl rfl
            have h135 : (SRel.bN l2).p (a.tmps[135]?.getD undef) ω := hc 61 135 rfl rfl
            have h136 : a.tmps[136]?.getD undef = .slice mA mm mc := hc 62 136 rfl rfl
            have hk := Lib.hid (fun v w1 (hv : (SRel.bN vI).p v w1) (h : Below ω.heap.size ω w1) => hK v w1 hv h)
            clear hK hu hc
            go_simp
            go_at_call 35
            refine (kPw.out _ hb _ h135).mono ?_
            rintro e w1 ⟨u, rfl, hu, hb1⟩
            exact hk.out _ _ hu hb1
          · refine calm_step_guard (g := 55) (b := true) (d := 129) rfl rfl (fun a w hc => hc 55 129 rfl rfl) fun a ω κ hb hu hc hK => ?_
            have h137 : (SRel.bN vI).p (a.tmps[137]?.getD undef) ω := hc 63 137 rfl rfl
            have hk := Lib.hid (fun w1 (h : Below ω.heap.size ω w1) => hK (.agg (arrK .u64 4 (wd vI))) w1 rfl h)
            clear hK hu hc
            go_simp
            go_at_call 21
            refine (kTv.out _ _ h137).mono ?_
            rintro e w1 ⟨rfl, hb1⟩
            exact hk.out _ hb1
          · refine calm_step_guard (g := 55) (b := true) (d := 129) rfl rfl (fun a w hc => hc 55 129 rfl rfl) fun a ω κ hb hu hc hK => ?_
            have h131 : a.tmps[131]?.getD undef = .agg (arrK .u64 4 (wd vI)) := hc 57 131 rfl rfl
            have h138 : a.tmps[138]?.getD undef = .agg (arrK .u64 4 (wd vI)) := hc 64 138 rfl rfl
            have hk := Lib.hid (fun w1 (h : Below ω.heap.size ω w1) => hK (.bool true) w1 rfl h)
            clear hK hu hc
            exact wp_eqlA (v := arrK .u64 4 (wd vI)) (u := arrK .u64 4 (wd vI)) (.inr rfl) (by kernel_rfl) (by go_simp) (by go_simp) (eqlS _ _) (hk.out _ (Below.refl _ _))
          · refine calm_step rfl fun a ω κ hb hu hc hK => ?_
            have h129 : a.tmps[129]?.getD undef = .bool true := hc 55 129 rfl rfl
            have h139 : a.tmps[139]?.getD undef = .bool true := hc 65 139 rfl rfl
            have hk := Lib.hid (fun w1 (h : Below ω.heap.size ω w1) => hK (.bool true) w1 rfl h)
            clear hK hu hc
            go_simp
            exact hk.out _ (Below.refl _ _)
          · refine calm_step rfl fun a ω κ hb hu hc hK => ?_
            have h140 : a.tmps[140]?.getD undef = .bool true := hc 66 140 rfl rfl
            have hk := Lib.hid (fun w1 (h : Below ω.heap.size ω w1) => hK (.bool true) w1 rfl h)
            clear hK hu hc
            go_simp
            exact hk.out _ (Below.refl _ _)
          · refine calm_step_guard (g := 67) (b := true) (d := 141) rfl rfl (fun a w hc => hc 67 141 rfl rfl) fun a ω κ hb hu hc hK => ?_
            have h3 : a.tmps[3]?.getD undef = .int .u8 (lb.toNat : Nat) := (hu 3 rfl).trans e3
            have hk := Lib.hid (fun w1 (h : Below ω.heap.size ω w1) => hK (.int .u8 (lb.toNat : Nat)) w1 rfl h)
            clear hK hu hc
            go_simp
            exact hk.out _ (Below.refl _ _)
          · refine calm_step_guard (g := 67) (b := true) (d := 141) rfl rfl (fun a w hc => hc 67 141 rfl rfl) fun a ω κ hb hu hc hK => ?_
            have h4 : a.tmps[4]?.getD undef = .slice A n c := (hu 4 rfl).trans e4
            have hk := Lib.hid (fun w1 (h : Below ω.heap.size ω w1) => hK (.slice A n c) w1 rfl h)
            clear hK hu hc
            go_simp
            exact hk.out _ (Below.refl _ _)
          · refine calm_step_guard (g := 67) (b := true) (d := 141) rfl rfl (fun a w hc => hc 67 141 rfl rfl) fun a ω κ hb hu hc hK => ?_
            have h142 : a.tmps[142]?.getD undef = .int .u8 (lb.toNat : Nat) := hc 68 142 rfl rfl
            have h143 : a.tmps[143]?.getD undef = .slice A n c := hc 69 143 rfl rfl
            have hk := Lib.hid (fun w1 (h : Below ω.heap.size ω w1) => hK (.agg (arrK .u64 4 (wd vD))) w1 rfl h)
            clear hK hu hc
            go_simp
            go_at_call 36
            refine (kDg.out _ hb).mono ?_
            rintro e w1 ⟨rfl, hb1⟩
            exact hk.out _ hb1
          · refine calm_step_guard (g := 67) (b := true) (d := 141) rfl rfl (fun a w hc => hc 67 141 rfl rfl) fun a ω κ hb hu hc hK => ?_
            have h3 : a.tmps[3]?.getD undef = .int .u8 (lb.toNat : Nat) := (hu 3 rfl).trans e3
            have hk := Lib.hid (fun w1 (h : Below ω.heap.size ω w1) => hK (.int .u8 (lb.toNat : Nat)) w1 rfl h)
            clear hK hu hc
            go_simp
            exact hk.out _ (Below.refl _ _)
          · refine calm_step_guard (g := 67) (b := true) (d := 141) rfl rfl (fun a w hc => hc 67 141 rfl rfl) fun a ω κ hb hu hc hK => ?_
            have h4 : a.tmps[4]?.getD undef = .slice A n c := (hu 4 rfl).trans e4
            have hk := Lib.hid (fun w1 (h : Below ω.heap.size ω w1) => hK (.slice A n c) w1 rfl h)
            clear hK hu hc
            go_simp
            exact hk.out _ (Below.refl _ _)
          · refine calm_step_guard (g := 67) (b := true) (d := 141) rfl rfl (fun a w hc => hc 67 141 rfl rfl) fun a ω κ hb hu hc hK => ?_
            have h146 : a.tmps[146]?.getD undef = .slice A n c := hc 72 146 rfl rfl
            have hk := Lib.hid (fun w1 (h : Below ω.heap.size ω w1) => hK (strV p) w1 rfl h)
            clear hK hu hc
            have cq := kCv.out _ hb
            go_simp
            exact hk.out _ (Below.refl _ _)
          · refine calm_step_guard (g := 67) (b := true) (d := 141) rfl rfl (fun a w hc => hc 67 141 rfl rfl) fun a ω κ hb hu hc hK => ?_
            have h145 : a.tmps[145]?.getD undef = .int .u8 (lb.toNat : Nat) := hc 71 145 rfl rfl
            have h147 : a.tmps[147]?.getD undef = strV p := hc 73 147 rfl rfl
            have hk := Lib.hid (fun v w1 (hv : (SRel.bN vD).p v w1) (h : Below ω.heap.size ω w1) => hK v w1 hv h)
            clear hK hu hc
            go_simp
            go_at_call 37
            refine (kDr.out _ hb).mono ?_
            rintro e w1 ⟨u, rfl, hu, hb1⟩
            exact hk.out _ _ hu hb1
          · refine calm_step_guard (g := 67) (b := true) (d := 141) rfl rfl (fun a w hc => hc 67 141 rfl rfl) fun a ω κ hb hu hc hK => ?_
            have h148 : (SRel.bN vD).p (a.tmps[148]?.getD undef) ω := hc 74 148 rfl rfl
            have hk := Lib.hid (fun w1 (h : Below ω.heap.size ω w1) => hK (.agg (arrK .u64 4 (wd vD))) w1 rfl h)
            clear hK hu hc
            go_simp
            go_at_call 21
            refine (kTd.out _ _ h148).mono ?_
            rintro e w1 ⟨rfl, hb1⟩
            exact hk.out _ hb1
          · refine calm_step_guard (g := 67) (b := true) (d := 141) rfl rfl (fun a w hc => hc 67 141 rfl rfl) fun a ω κ hb hu hc hK => ?_
            have h144 : a.tmps[144]?.getD undef = .agg (arrK .u64 4 (wd vD)) := hc 70 144 rfl rfl
            have h149 : a.tmps[149]?.getD undef = .agg (arrK .u64 4 (wd vD)) := hc 75 149 rfl rfl
            have hk := Lib.hid (fun w1 (h : Below ω.heap.size ω w1) => hK (.bool true) w1 rfl h)
            clear hK hu hc
            exact wp_eqlA (v := arrK .u64 4 (wd vD)) (u := arrK .u64 4 (wd vD)) (.inr rfl) (by kernel_rfl) (by go_simp) (by go_simp) (eqlS _ _) (hk.out _ (Below.refl _ _))
          · refine calm_step rfl fun a ω κ hb hu hc hK => ?_
            have h141 : a.tmps[141]?.getD undef = .bool true := hc 67 141 rfl rfl
            have h150 : a.tmps[150]?.getD undef = .bool true := hc 76 150 rfl rfl
            have hk := Lib.hid (fun w1 (h : Below ω.heap.size ω w1) => hK (.bool true) w1 rfl h)
            clear hK hu hc
            go_simp
            exact hk.out _ (Below.refl _ _)
          · refine calm_step rfl fun a ω κ hb hu hc hK => ?_
            have h151 : a.tmps[151]?.getD undef = .bool true := hc 77 151 rfl rfl
            have hk := Lib.hid (fun w1 (h : Below ω.heap.size ω w1) => hK (.bool true) w1 rfl h)
            clear hK hu hc
            go_simp
            exact hk.out _ (Below.refl _ _)
          · intro a1 w1 hb1 hu1 hsz1 hdf1 hc1
            have ha0 := hha0.out
            subst ha0
            have he := act_patch (n := 152) [false, false, false, false, false, false, false, false, false, false, true, false, false, false, false, false, false, false, false, false, false, false, false, false, false, false, false, false, false, false, false, false, false, false, false, false, false, false, false, false, false, false, false, false, false, false, false, false, false, false, false, false, false, false, false, false, false, false, false, false, false, false, false, false, false, false, false, false, false, false, false, false, false, false, true, true, true, true, true, true, true, true, true, true, true, true, true, true, true, true, true, true, true, true, true, true, true, true, true, true, true, true, true, true, true, true, true, true, true, true, true, true, true, true, true, true, true, true, true, true, true, true, true, true, true, true, true, true, true, true, true, true, true, true, true, true, true, true, true, true, true, true, true, true, true, true, true, true, true, true, true, true] rfl (by kernel_rfl) hu1 hsz1 hdf1
            simp only [patch, cond_true, cond_false, Nat.reduceAdd] at he
            have hkn10 : a1.tmps[10]?.getD undef = .bool true := hc1 78 10 rfl
            replace hLL := Lib.hid (below_step hb1 hLL.out (Nat.le_refl _))
            clear hb1 hu1 hsz1 hdf1 hc1 hz0 hha0 e3 e4 e5 e6 e7 e11 e12 e13 e14
            rw [he]
            clear he
            rw [hkn10]
            clear hkn10
            generalize a1.tmps[74]?.getD undef = x74 at *
            generalize a1.tmps[75]?.getD undef = x75 at *
            generalize a1.tmps[76]?.getD undef = x76 at *
            generalize a1.tmps[77]?.getD undef = x77 at *
            generalize a1.tmps[78]?.getD undef = x78 at *
            generalize a1.tmps[79]?.getD undef = x79 at *
            generalize a1.tmps[80]?.getD undef = x80 at *
            generalize a1.tmps[81]?.getD undef = x81 at *
            generalize a1.tmps[82]?.getD undef = x82 at *
            generalize a1.tmps[83]?.getD undef = x83 at *
            generalize a1.tmps[84]?.getD undef = x84 at *
            generalize a1.tmps[85]?.getD undef = x85 at *
            generalize a1.tmps[86]?.getD undef = x86 at *
            generalize a1.tmps[87]?.getD undef = x87 at *
            generalize a1.tmps[88]?.getD undef = x88 at *
            generalize a1.tmps[89]?.getD undef = x89 at *
            generalize a1.tmps[90]?.getD undef = x90 at *
            generalize a1.tmps[91]?.getD undef = x91 at *
            generalize a1.tmps[92]?.getD undef = x92 at *
            generalize a1.tmps[93]?.getD undef = x93 at *
            generalize a1.tmps[94]?.getD undef = x94 at *
            generalize a1.tmps[95]?.getD undef = x95 at *
            generalize a1.tmps[96]?.getD undef = x96 at *
            generalize a1.tmps[97]?.getD undef = x97 at *
            generalize a1.tmps[98]?.getD undef = x98 at *
            generalize a1.tmps[99]?.getD undef = x99 at *
            generalize a1.tmps[100]?.getD undef = x100 at *
            generalize a1.tmps[101]?.getD undef = x101 at *
            generalize a1.tmps[102]?.getD undef = x102 at *
            generalize a1.tmps[103]?.getD undef = x103 at *
            generalize a1.tmps[104]?.getD undef = x104 at *
            generalize a1.tmps[105]?.getD undef = x105 at *
            generalize a1.tmps[106]?.getD undef = x106 at *
            generalize a1.tmps[107]?.getD undef = x107 at *
            generalize a1.tmps[108]?.getD undef = x108 at *
            generalize a1.tmps[109]?.getD undef = x109 at *
            generalize a1.tmps[110]?.getD undef = x110 at *
            generalize a1.tmps[111]?.getD undef = x111 at *
            generalize a1.tmps[112]?.getD undef = x112 at *
            generalize a1.tmps[113]?.getD undef = x113 at *
            generalize a1.tmps[114]?.getD undef = x114 at *
            generalize a1.tmps[115]?.getD undef = x115 at *
            generalize a1.tmps[116]?.getD undef = x116 at *
            generalize a1.tmps[117]?.getD undef = x117 at *
            generalize a1.tmps[118]?.getD undef = x118 at *
            generalize a1.tmps[119]?.getD undef = x119 at *
            generalize a1.tmps[120]?.getD undef = x120 at *
            generalize a1.tmps[121]?.getD undef = x121 at *
            generalize a1.tmps[122]?.getD undef = x122 at *
            generalize a1.tmps[123]?.getD undef = x123 at *
            generalize a1.tmps[124]?.getD undef = x124 at *
            generalize a1.tmps[125]?.getD undef = x125 at *
            generalize a1.tmps[126]?.getD undef = x126 at *
            generalize a1.tmps[127]?.getD undef = x127 at *
            generalize a1.tmps[128]?.getD undef = x128 at *
            generalize a1.tmps[129]?.getD undef = x129 at *
            generalize a1.tmps[130]?.getD undef = x130 at *
            generalize a1.tmps[131]?.getD undef = x131 at *
            generalize a1.tmps[132]?.getD undef = x132 at *
            generalize a1.tmps[133]?.getD undef = x133 at *
            generalize a1.tmps[134]?.getD undef = x134 at *
            generalize a1.tmps[135]?.getD undef = x135 at *
            generalize a1.tmps[136]?.getD undef = x136 at *
            generalize a1.tmps[137]?.getD undef = x137 at *
            generalize a1.tmps[138]?.getD undef = x138 at *
            generalize a1.tmps[139]?.getD undef = x139 at *
            generalize a1.tmps[140]?.getD undef = x140 at *
            generalize a1.tmps[141]?.getD undef = x141 at *
            generalize a1.tmps[142]?.getD undef = x142 at *
            generalize a1.tmps[143]?.getD undef = x143 at *
            generalize a1.tmps[144]?.getD undef = x144 at *
            generalize a1.tmps[145]?.getD undef = x145 at *
            generalize a1.tmps[146]?.getD undef = x146 at *
            generalize a1.tmps[147]?.getD undef = x147 at *
            generalize a1.tmps[148]?.getD undef = x148 at *
            generalize a1.tmps[149]?.getD undef = x149 at *
            generalize a1.tmps[150]?.getD undef = x150 at *
            generalize a1.tmps[151]?.getD undef = x151 at *
            go_wp2_with fail
            exact ret_tmp (p := 10) (v := .bool true) rfl (by simp) rfl ⟨rfl, hLL.out⟩
        · obtain ⟨i, rfl⟩ : ∃ i, s = i + 1 := ⟨s - 1, by omega⟩
          rw [show (((i + 1 : Nat) : Int) - 1) = (i : Int) by omega]
          obtain ⟨vA, vm, vc, rfl, -, -, -⟩ := hNv.form
          have hin : i < n := by omega
          obtain ⟨ad, rfl, -⟩ := hpv.out i hin wr (below_step hb4 hL2.out (Nat.le_refl _))
          have hix := Lib.hid (fun V (h : Below wr.heap.size wr V) => show V.cell? (ad.add i) = some (.int .u8 (bytesF p i : Nat)) by
            obtain ⟨ad2, e1, e2⟩ := hpv.out i hin V (below_step h (below_step hb4 hL2.out (Nat.le_refl _)) (Nat.le_refl _))
            cases e1
            exact e2)
          have hfi := hfl.out i hin
          have hlt := hvB_lt (f := bytesF p) (n - (i + 1)) (i + 1) (fun j _ => bytesF_lt p j)
          have hst : hvB (bytesF p) (i + 1) (n - (i + 1)) * 256 + bytesF p i = hvB (bytesF p) i (n - i) := by
            rw [show n - i = (n - (i + 1)) + 1 by omega]; show _ = bytesF p i + 256 * _; omega
          have hHst := Lib.hid hst
          have hb1 : hvB (bytesF p) (i + 1) (n - (i + 1)) < big := lt_big hlt (by omega)
          have hb2 : hvB (bytesF p) (i + 1) (n - (i + 1)) * 256 < big := by
            refine lt_big (k := 8 * (n - (i + 1)) + 8) ?_ (by omega)
            rw [Nat.pow_add]
            exact Nat.mul_lt_mul_of_pos_right hlt (by omega)
          have hb3x := Lib.hid hb2
          have hV := Lib.hid (fun V (h : Below wr.heap.size wr V) => (hNv.step h).toV hb1)
          have d2 : decide ((0 : Int) ≤ (i : Int)) = true := by simp
          have d3 : (0 : Int) ≤ (i : Int) := by omega
          have d4 : (i : Int) < (n : Int) := by omega
          have hBw := Lib.hid hb4
          have hH2 := Lib.hid hs
          clear hst hlt hb1 hb2 hNv hs hs0 hb4 hpv hfl hofp hvl2 hM3 hX3 hY3 hA3 hB3 hW3 hC3 hgl3 hL3 hN153 hb3 hge hM hX hY hA2 hB2 hW2 hC hgl hL2 hN15 hZ17 hR17 hlt15 hTt hpc hHb hHn hO2
          generalize hvB (bytesF p) (i + 1) (n - (i + 1)) = M at *
          generalize bytesF p i = x at *
          have hwx : IntKind.i64.wrap (x : Int) = (x : Int) := by rw [IntKind.wrap_i64]; omega
          have w3i : IntKind.i64.wrap ((i : Int) - 1) = (i : Int) - 1 := by rw [IntKind.wrap_i64]; omega
          go_upto_region 10 with (fail)
          generalize ha0 : Act.mk _ _ = a0
          have e4 : a0.tmps[4]?.getD undef = .slice (some ad) n c := by rw [← ha0]; rfl
          have e18 : a0.tmps[18]?.getD undef = .slice vA vm vc := by rw [← ha0]; rfl
          have e19 : a0.tmps[19]?.getD undef = .int .i64 (i : Nat) := by rw [← ha0]; rfl
          have hz0 : a0.tmps.size = 152 := by rw [← ha0]; rfl
          have hha0 := Lib.hid ha0
          clear ha0
          refine wp_region_tailL (fun jx_ => match jx_ with | 0 => SRel.is (.slice vA vm vc) | 1 => SRel.bV 256 | 2 => SRel.bN (M * 256) | 3 => SRel.is (.slice (some ad) n c) | 4 => SRel.is (.int .i64 (i : Nat)) | 5 => SRel.is (.pointer (some (ad.add i))) | 6 => SRel.is (.int .u8 (x : Nat)) | 7 => SRel.is (.int .i64 (x : Nat)) | 8 => SRel.bV x | 9 => SRel.bN (M * 256 + x) | 10 => SRel.any | _ => SRel.any) 10 (by kernel_rfl) (by kernel_rfl) (by kernel_rfl) (slotsOk_of hz0 (by kernel_rfl)) (by kernel_rfl) (of_decide_eq_true (by kernel_rfl)) ⟨?_, ?_, ?_, ?_, ?_, ?_, ?_, ?_, ?_, ?_, trivial⟩ ?_
          · refine calmL_step rfl fun a ω κ hb hu hc hK => ?_
            have h18 : a.tmps[18]?.getD undef = .slice vA vm vc := (hu 18 rfl).trans e18
            have hk := Lib.hid (fun w1 (h : Below ω.heap.size ω w1) => hK (.slice vA vm vc) w1 rfl h)
            clear hK hu hc
            go_simp
            exact hk.out _ (Below.refl _ _)
          · refine calmL_step rfl fun a ω κ hb hu hc hK => ?_
            have hk := Lib.hid (fun v w1 (hv : (SRel.bV 256).p v w1) (h : Below ω.heap.size ω w1) => hK v w1 hv h)
            clear hK hu hc
            go_simp
            exact hk.out _ _ (IsV.lit256 ω 3) (below_alloc _ _)
          · refine calmL_step rfl fun a ω κ hb hu hc hK => ?_
            have h42 : a.tmps[42]?.getD undef = .slice vA vm vc := hc 0 42 rfl rfl
            have h43 : (SRel.bV 256).p (a.tmps[43]?.getD undef) ω := hc 1 43 rfl rfl
            have hk := Lib.hid (fun v w1 (hv : (SRel.bN (M * 256)).p v w1) (h : Below ω.heap.size ω w1) => hK v w1 hv h)
            clear hK hu hc
            go_simp
            go_at_call 25
            refine (timesN (m := M) (n := 256) ω (hV.out ω hb) h43).mono ?_
            rintro e w1 ⟨u, rfl, hu, hb1⟩
            exact hk.out _ _ hu hb1
          · refine calmL_step rfl fun a ω κ hb hu hc hK => ?_
            have h4 : a.tmps[4]?.getD undef = .slice (some ad) n c := (hu 4 rfl).trans e4
            have hk := Lib.hid (fun w1 (h : Below ω.heap.size ω w1) => hK (.slice (some ad) n c) w1 rfl h)
            clear hK hu hc
            go_simp
            exact hk.out _ (Below.refl _ _)
          · refine calmL_step rfl fun a ω κ hb hu hc hK => ?_
            have h19 : a.tmps[19]?.getD undef = .int .i64 (i : Nat) := (hu 19 rfl).trans e19
            have hk := Lib.hid (fun w1 (h : Below ω.heap.size ω w1) => hK (.int .i64 (i : Nat)) w1 rfl h)
            clear hK hu hc
            go_simp
            exact hk.out _ (Below.refl _ _)
          · refine calmL_step rfl fun a ω κ hb hu hc hK => ?_
            have h45 : a.tmps[45]?.getD undef = .slice (some ad) n c := hc 3 45 rfl rfl
            have h46 : a.tmps[46]?.getD undef = .int .i64 (i : Nat) := hc 4 46 rfl rfl
            have hk := Lib.hid (fun w1 (h : Below ω.heap.size ω w1) => hK (.pointer (some (ad.add i))) w1 rfl h)
            clear hK hu hc
            go_simp
            exact hk.out _ (Below.refl _ _)
          · refine calmL_step rfl fun a ω κ hb hu hc hK => ?_
            have h47 : a.tmps[47]?.getD undef = .pointer (some (ad.add i)) := hc 5 47 rfl rfl
            have hk := Lib.hid (fun w1 (h : Below ω.heap.size ω w1) => hK (.int .u8 (x : Nat)) w1 rfl h)
            clear hK hu hc
            have hq := hix.out ω hb
            go_simp
            exact hk.out _ (Below.refl _ _)
          · refine calmL_step rfl fun a ω κ hb hu hc hK => ?_
            have h48 : a.tmps[48]?.getD undef = .int .u8 (x : Nat) := hc 6 48 rfl rfl
            have hk := Lib.hid (fun w1 (h : Below ω.heap.size ω w1) => hK (.int .i64 (x : Nat)) w1 rfl h)
            clear hK hu hc
            go_simp
            exact hk.out _ (Below.refl _ _)
          · refine calmL_step rfl fun a ω κ hb hu hc hK => ?_
            have h49 : a.tmps[49]?.getD undef = .int .i64 (x : Nat) := hc 7 49 rfl rfl
            have hk := Lib.hid (fun v w1 (hv : (SRel.bV x).p v w1) (h : Below ω.heap.size ω w1) => hK v w1 hv h)
            clear hK hu hc
            go_simp
            exact hk.out _ _ (IsV.lit ω 3 (by omega)) (below_alloc _ _)
          · refine calmL_step rfl fun a ω κ hb hu hc hK => ?_
            have h44 : (SRel.bN (M * 256)).p (a.tmps[44]?.getD undef) ω := hc 2 44 rfl rfl
            have h50 : (SRel.bV x).p (a.tmps[50]?.getD undef) ω := hc 8 50 rfl rfl
            have hk := Lib.hid (fun v w1 (hv : (SRel.bN (M * 256 + x)).p v w1) (h : Below ω.heap.size ω w1) => hK v w1 hv h)
            clear hK hu hc
            go_simp
            go_at_call 24
            refine (plusN (m := M * 256) (n := x) ω (IsN.toV h44 hb3x.out) h50).mono ?_
            rintro e w1 ⟨u, rfl, hu, hb1⟩
            exact hk.out _ _ hu hb1
          · intro aa ω hb hu hsz hdf hc
            have h42 : aa.tmps[42]?.getD undef = .slice vA vm vc := hc 0 42 (by decide) rfl
            have h45 : aa.tmps[45]?.getD undef = .slice (some ad) n c := hc 3 45 (by decide) rfl
            have h46 : aa.tmps[46]?.getD undef = .int .i64 (i : Nat) := hc 4 46 (by decide) rfl
            have h47 : aa.tmps[47]?.getD undef = .pointer (some (ad.add i)) := hc 5 47 (by decide) rfl
            have h48 : aa.tmps[48]?.getD undef = .int .u8 (x : Nat) := hc 6 48 (by decide) rfl
            have h49 : aa.tmps[49]?.getD undef = .int .i64 (x : Nat) := hc 7 49 (by decide) rfl
            have h51 : (SRel.bN (M * 256 + x)).p (aa.tmps[51]?.getD undef) ω := hc 9 51 (by decide) rfl
            have ha0 := hha0.out
            subst ha0
            have he := act_patchL (n := 152) 10 [false, false, false, false, false, false, false, false, false, false, false, false, false, false, false, false, false, false, false, false, false, false, false, false, false, false, false, false, false, false, false, false, false, false, false, false, false, false, false, false, false, false, true, true, true, true, true, true, true, true, true, true, false, false, false, false, false, false, false, false, false, false, false, false, false, false, false, false, false, false, false, false, false, false, false, false, false, false, false, false, false, false, false, false, false, false, false, false, false, false, false, false, false, false, false, false, false, false, false, false, false, false, false, false, false, false, false, false, false, false, false, false, false, false, false, false, false, false, false, false, false, false, false, false, false, false, false, false, false, false, false, false, false, false, false, false, false, false, false, false, false, false, false, false, false, false, false, false, false, false, false, false] rfl (by kernel_rfl) hu hsz hdf
            simp only [patch, cond_true, cond_false, Nat.reduceAdd] at he
            clear hu hsz hdf hc hha0 e4 e18 e19 hz0
            rw [he]
            clear he
            generalize aa.tmps[42]?.getD undef = x42 at *
            generalize aa.tmps[43]?.getD undef = x43 at *
            generalize aa.tmps[44]?.getD undef = x44 at *
            generalize aa.tmps[45]?.getD undef = x45 at *
            generalize aa.tmps[46]?.getD undef = x46 at *
            generalize aa.tmps[47]?.getD undef = x47 at *
            generalize aa.tmps[48]?.getD undef = x48 at *
            generalize aa.tmps[49]?.getD undef = x49 at *
            generalize aa.tmps[50]?.getD undef = x50 at *
            generalize aa.tmps[51]?.getD undef = x51 at *
            subst h42 h45 h46 h47 h48 h49
            dsimp only [List.drop]
            have hB2 := Lib.hid (below_step hb hBw.out (Nat.le_refl _))
            have h52 := Lib.hid (show IsN ω x51 (M * 256 + x) from h51)
            clear hV hb3x hix hb hBw h51
            go_wp2_with fail
            go_roundw
            case rel => exact ⟨i, rfl, by have := hH2.out; omega, by rw [← hHst.out]; exact h52.out, hB2.out⟩
            case measure => simp [intOf]
    · have d1 : decide ((n : Int) ≤ 64) = false := by simp; omega
      subst he1
      subst he2
      have hN17 := hZ17
      go_upto_region 12 with (fail)
      generalize W4 = W9 at *
      have hr1 := hN15.out.row
      have hr2 := hN15.out.eq
      have hr3 := hN17.out.row
      have hr4 := hN17.out.eq
      go_upto_region 14 with (first
        | refine wpList_opS (by go_simp) (fun K hK => wp_eqlA (.inl rfl) (by kernel_rfl) (v := arrK .u64 4 (wd 0)) (u := arrK .u64 4 (wd 0)) (by go_simp) (by go_simp) (neqS _ _) (hK _ _ ?_)))
      clear hr1 hr2 hr3 hr4 hN15 hN17
      obtain ⟨hka, hkb, hwv, hkk⟩ := hHb.out
      have hAA := Lib.hid hA2.out
      have hBB := Lib.hid hB2.out
      have hWW := Lib.hid hW2.out
      have mLt := fL_lt'
      have hMV := Lib.hid (fun V (h : Below W9.heap.size W9 V) => (hM.out.step h).toV (lt_big mLt (by omega)))
      have hXV := Lib.hid (fun V (h : Below W9.heap.size W9 V) => (hX.out.step h).toV (lt_big hka (by omega)))
      have hYV := Lib.hid (fun V (h : Below W9.heap.size W9 V) => (hY.out.step h).toV (lt_big hkb (by omega)))
      have hcc := Lib.hid (fun V (h : Below W9.heap.size W9 V) => And.intro (Nat.lt_of_lt_of_le hgl.out h.size) (((bcell h).1 g 0 hgl.out).trans hC.out))
      have kLl := Lib.hid (fun V => scalar_L V)
      have kTm := Lib.hid (fun V h => toNumN V (hMV.out V h))
      have kLo := Lib.hid (fun V => scalar_Low ka V hka)
      have kLx := Lib.hid (fun V h => low_is (.slice xA xm xc) (.slice mA mm mc) ka 256 g V (hX.out.step h) hka (by omega) (hcc.out V h).1 (hcc.out V h).2 (hM.out.step h))
      have kRd := Lib.hid (fun V => scalar_ReduceK wv kk V hwv hkk)
      have kOw := Lib.hid (fun V => ref_OfWide wv V (hkk ▸ hwv))
      have kLw := Lib.hid (fun V h v (hv : IsN V v wv) => low_is v (.slice mA mm mc) wv kk g V hv hwv (by omega) (hcc.out V h).1 (hcc.out V h).2 (hM.out.step h))
      have kAd := Lib.hid (fun V => scalar_Add ka kb V hka hkb)
      have kPl := Lib.hid (fun V h => plusN V (hXV.out V h) (hYV.out V h))
      have kLp := Lib.hid (fun V h v (hv : IsN V v (ka + kb)) => low_is v (.slice mA mm mc) (ka + kb) kk g V hv (sum_wide hka hkb (by omega)) (by omega) (hcc.out V h).1 (hcc.out V h).2 (hM.out.step h))
      have kNg := Lib.hid (fun V => scalar_Neg ka V hka)
      have kRs := Lib.hid (fun V h => restN V (hX.out.step h) hka (by omega) (hMV.out V h) (Nat.lt_trans (by omega) fL_pos) (mul_big (m := 17) (n := 256) (by omega) mLt (by omega)))
      have kMi := Lib.hid (fun V h v (hv : IsN V v (ka % fL)) => minusN V (hMV.out V h) (hv.toV (lt_big mod_L (by omega))) (Nat.le_of_lt lt_L))
      have kLn := Lib.hid (fun V h v (hv : IsN V v (fL - ka % fL)) => low_is v (.slice mA mm mc) (fL - ka % fL) 256 g V hv subN_small.2 (by omega) (hcc.out V h).1 (hcc.out V h).2 (hM.out.step h))
      have kMu := Lib.hid (fun V => scalar_Mul ka kb V hka hkb)
      have kTi := Lib.hid (fun V h => timesN V (hXV.out V h) (hYV.out V h))
      have kLt := Lib.hid (fun V h v (hv : IsN V v (ka * kb)) => low_is v (.slice mA mm mc) (ka * kb) kk g V hv (mul_wide hka hkb (by omega)) (by omega) (hcc.out V h).1 (hcc.out V h).2 (hM.out.step h))
      have kIn := Lib.hid (fun V => scalar_Inv ka V hka)
      have kM2 := Lib.hid (fun V h v (hv : IsV V v 2) => minusN V (hMV.out V h) hv (Nat.le_of_lt (Nat.lt_trans (by omega) fL_pos)))
      have kPw := Lib.hid (fun V h v (hv : IsN V v (fL - 2)) => show Calls Tryd.prog 35 #[.slice xA xm xc, v, .slice mA mm mc] V (RetN (invL ka) V) from powerN V (hX.out.step h) hka (by omega) hv (Nat.lt_of_le_of_lt (Nat.sub_le _ _) (lt_big mLt (by omega))) (hMV.out V h) (Nat.lt_trans (by omega) fL_pos) mLt (by omega))
      have kTv := Lib.hid (fun V v (hv : IsN V v (invL ka)) => toNumN V (hv.toV (lt_big (invL_lt ka) (by omega))))
      have hbw := Lib.hid (fun V (h : Below W9.heap.size W9 V) => below_step h hL2.out (Nat.le_refl _))
      have kDg := Lib.hid (fun V h => scalar_Digest Kt A p n c lb V hn (hTt.out V (hbw.out V h)) (hpc.out V (hbw.out V h)))
      have kDr := Lib.hid (fun V h => ref_Digest Kt p lb V (hTt.out V (hbw.out V h)) (by omega))
      have kTd := Lib.hid (fun V v (hv : IsN V v (ofL (dgT Kt lb p))) => toNumN V (hv.toV (lt_big (show ofL (dgT Kt lb p) < 2 ^ 256 from mod_L) (by omega))))
      have kCv := Lib.hid (fun V (h : Below W9.heap.size W9 V) => show (convert 22 9 (.slice A n c)).run Tryd.prog V = .ok (strV p) V by rw [← hn]; exact (hpc.out V (hbw.out V h)).conv)
      have hCc := Lib.hid (fun V (h : Below W9.heap.size W9 V) => (hcc.out V h).2)
      have hLL := Lib.hid hL2.out
      clear hM hX hY hA2 hB2 hW2 hC hgl hL2 hMV hXV hYV hcc hbw hHb hHn hTt hpc hka hkb hwv hkk mLt hO2 hn hpl hnc hcm
      unfold numV at kLl kTm kLo kLx kRd kLw kAd kLp kNg kLn kMu kLt kIn kTv kDg kTd
      unfold wideV at kRd kOw
      generalize ofL (dgT Kt lb p) = vD at *
      generalize invL ka = vI at *
      generalize fL = l0 at *
      generalize (l0 - ka % l0) % l0 = vN at *
      generalize l0 - ka % l0 = dN at *
      generalize ka % l0 = vA at *
      generalize wv % l0 = vW at *
      generalize (ka + kb) % l0 = vS at *
      generalize ka * kb % l0 = vM at *
      generalize l0 - 2 = l2 at *
      generalize ka + kb = sAB at *
      generalize ka * kb = pAB at *
      generalize ha0 : Act.mk _ _ = a0
      have e3 : a0.tmps[3]?.getD undef = .int .u8 (lb.toNat : Nat) := by rw [← ha0]; rfl
      have e4 : a0.tmps[4]?.getD undef = .slice A n c := by rw [← ha0]; rfl
      have e5 : a0.tmps[5]?.getD undef = .pointer (some ⟨w.heap.size, 0, none⟩) := by rw [← ha0]; rfl
      have e6 : a0.tmps[6]?.getD undef = .pointer (some ⟨w.heap.size + 1, 0, none⟩) := by rw [← ha0]; rfl
      have e7 : a0.tmps[7]?.getD undef = .pointer (some ⟨w.heap.size + 1 + 1, 0, none⟩) := by rw [← ha0]; rfl
      have e11 : a0.tmps[11]?.getD undef = .pointer (some ⟨g, 0, none⟩) := by rw [← ha0]; rfl
      have e12 : a0.tmps[12]?.getD undef = .slice xA xm xc := by rw [← ha0]; rfl
      have e13 : a0.tmps[13]?.getD undef = .slice yA ym yc := by rw [← ha0]; rfl
      have e14 : a0.tmps[14]?.getD undef = .func (Fn.func 20) #[] #[.pointer (some ⟨g, 0, none⟩)] := by rw [← ha0]; rfl
      have hz0 : a0.tmps.size = 152 := by rw [← ha0]; rfl
      have hha0 := Lib.hid ha0
      clear ha0
      refine wp_region_calm (fun jx_ => match jx_ with | 0 => SRel.is (.agg (arrK .u64 4 (wd l0))) | 1 => SRel.is (.slice mA mm mc) | 2 => SRel.is (.agg (arrK .u64 4 (wd l0))) | 3 => SRel.is (.bool true) | 4 => SRel.is (.bool true) | 5 => SRel.is (.agg (arrK .u64 4 (wd ka))) | 6 => SRel.is (.agg (arrK .u64 4 (wd vA))) | 7 => SRel.is (.func (Fn.func 20) #[] #[.pointer (some ⟨g, 0, none⟩)]) | 8 => SRel.is (.slice xA xm xc) | 9 => SRel.is (.agg (arrK .u64 4 (wd vA))) | 10 => SRel.is (.bool true) | 11 => SRel.is (.bool true) | 12 => SRel.is (.bool true) | 13 => SRel.is (.agg (arrK .u64 8 (wd wv))) | 14 => SRel.is (.agg (arrK .u64 4 (wd vW))) | 15 => SRel.is (.func (Fn.func 20) #[] #[.pointer (some ⟨g, 0, none⟩)]) | 16 => SRel.is (.agg (arrK .u64 8 (wd wv))) | 17 => SRel.bN wv | 18 => SRel.is (.agg (arrK .u64 4 (wd vW))) | 19 => SRel.is (.bool true) | 20 => SRel.is (.bool true) | 21 => SRel.is (.bool true) | 22 => SRel.is (.agg (arrK .u64 4 (wd ka))) | 23 => SRel.is (.agg (arrK .u64 4 (wd kb))) | 24 => SRel.is (.agg (arrK .u64 4 (wd vS))) | 25 => SRel.is (.func (Fn.func 20) #[] #[.pointer (some ⟨g, 0, none⟩)]) | 26 => SRel.is (.slice xA xm xc) | 27 => SRel.is (.slice yA ym yc) | 28 => SRel.bN sAB | 29 => SRel.is (.agg (arrK .u64 4 (wd vS))) | 30 => SRel.is (.bool true) | 31 => SRel.is (.bool true) | 32 => SRel.is (.bool true) | 33 => SRel.is (.agg (arrK .u64 4 (wd ka))) | 34 => SRel.is (.agg (arrK .u64 4 (wd vN))) | 35 => SRel.is (.func (Fn.func 20) #[] #[.pointer (some ⟨g, 0, none⟩)]) | 36 => SRel.is (.slice mA mm mc) | 37 => SRel.is (.slice xA xm xc) | 38 => SRel.is (.slice mA mm mc) | 39 => SRel.bN vA | 40 => SRel.bN dN | 41 => SRel.is (.agg (arrK .u64 4 (wd vN))) | 42 => SRel.is (.bool true) | 43 => SRel.is (.bool true) | 44 => SRel.is (.bool true) | 45 => SRel.is (.agg (arrK .u64 4 (wd ka))) | 46 => SRel.is (.agg (arrK .u64 4 (wd kb))) | 47 => SRel.is (.agg (arrK .u64 4 (wd vM))) | 48 => SRel.is (.func (Fn.func 20) #[] #[.pointer (some ⟨g, 0, none⟩)]) | 49 => SRel.is (.slice xA xm xc) | 50 => SRel.is (.slice yA ym yc) | 51 => SRel.bN pAB | 52 => SRel.is (.agg (arrK .u64 4 (wd vM))) | 53 => SRel.is (.bool true) | 54 => SRel.is (.bool true) | 55 => SRel.is (.bool true) | 56 => SRel.is (.agg (arrK .u64 4 (wd ka))) | 57 => SRel.is (.agg (arrK .u64 4 (wd vI))) | 58 => SRel.is (.slice xA xm xc) | 59 => SRel.is (.slice mA mm mc) | 60 => SRel.bV 2 | 61 => SRel.bN l2 | 62 => SRel.is (.slice mA mm mc) | 63 => SRel.bN vI | 64 => SRel.is (.agg (arrK .u64 4 (wd vI))) | 65 => SRel.is (.bool true) | 66 => SRel.is (.bool true) | 67 => SRel.is (.bool true) | 68 => SRel.is (.int .u8 (lb.toNat : Nat)) | 69 => SRel.is (.slice A n c) | 70 => SRel.is (.agg (arrK .u64 4 (wd vD))) | 71 => SRel.is (.int .u8 (lb.toNat : Nat)) | 72 => SRel.is (.slice A n c) | 73 => SRel.is (strV p) | 74 => SRel.bN vD | 75 => SRel.is (.agg (arrK .u64 4 (wd vD))) | 76 => SRel.is (.bool true) | 77 => SRel.is (.bool true) | 78 => SRel.is (.bool true) | _ => SRel.any) (by kernel_rfl) (by kernel_rfl) (by kernel_rfl) (slotsOk_of hz0 (by kernel_rfl)) ⟨?_, ?_, ?_, ?_, ?_, ?_, ?_, ?_, ?_, ?_, ?_, ?_, ?_, ?_, ?_, ?_, ?_, ?_, ?_, ?_, ?_, ?_, ?_, ?_, ?_, ?_, ?_, ?_, ?_, ?_, ?_, ?_, ?_, ?_, ?_, ?_, ?_, ?_, ?_, ?_, ?_, ?_, ?_, ?_, ?_, ?_, ?_, ?_, ?_, ?_, ?_, ?_, ?_, ?_, ?_, ?_, ?_, ?_, ?_, ?_, ?_, ?_, ?_, ?_, ?_, ?_, ?_, ?_, ?_, ?_, ?_, ?_, ?_, ?_, ?_, ?_, ?_, ?_, ?_, trivial⟩ ?_
      · refine calm_step rfl fun a ω κ hb hu hc hK => ?_
        have hk := Lib.hid (fun w1 (h : Below ω.heap.size ω w1) => hK (.agg (arrK .u64 4 (wd l0))) w1 rfl h)
        clear hK hu hc
        go_simp
        go_at_call 26
        refine (kLl.out _).mono ?_
        rintro e w1 ⟨rfl, hb1⟩
        exact hk.out _ hb1
      · refine calm_step rfl fun a ω κ hb hu hc hK => ?_
        have h11 : a.tmps[11]?.getD undef = .pointer (some ⟨g, 0, none⟩) := (hu 11 rfl).trans e11
        have hk := Lib.hid (fun w1 (h : Below ω.heap.size ω w1) => hK (.slice mA mm mc) w1 rfl h)
        clear hK hu hc
        have cq := hCc.out _ hb
        go_simp
        exact hk.out _ (Below.refl _ _)
      · refine calm_step rfl fun a ω κ hb hu hc hK => ?_
        have h75 : a.tmps[75]?.getD undef = .slice mA mm mc := hc 1 75 rfl rfl
        have hk := Lib.hid (fun w1 (h : Below ω.heap.size ω w1) => hK (.agg (arrK .u64 4 (wd l0))) w1 rfl h)
        clear hK hu hc
        go_simp
        go_at_call 21
        refine (kTm.out _ hb).mono ?_
        rintro e w1 ⟨rfl, hb1⟩
        exact hk.out _ hb1
      · refine calm_step rfl fun a ω κ hb hu hc hK => ?_
        have h74 : a.tmps[74]?.getD undef = .agg (arrK .u64 4 (wd l0)) := hc 0 74 rfl rfl
        have h76 : a.tmps[76]?.getD undef = .agg (arrK .u64 4 (wd l0)) := hc 2 76 rfl rfl
        have hk := Lib.hid (fun w1 (h : Below ω.heap.size ω w1) => hK (.bool true) w1 rfl h)
        clear hK hu hc
        exact wp_eqlA (v := arrK .u64 4 (wd l0)) (u := arrK .u64 4 (wd l0)) (.inr rfl) (by kernel_rfl) (by go_simp) (by go_simp) (eqlS _ _) (hk.out _ (Below.refl _ _))
      · refine calm_step rfl fun a ω κ hb hu hc hK => ?_
        have h77 : a.tmps[77]?.getD undef = .bool true := hc 3 77 rfl rfl
        have hk := Lib.hid (fun w1 (h : Below ω.heap.size ω w1) => hK (.bool true) w1 rfl h)
        clear hK hu hc
        go_simp
        exact hk.out _ (Below.refl _ _)
      · refine calm_step_guard (g := 4) (b := true) (d := 78) rfl rfl (fun a w hc => hc 4 78 rfl rfl) fun a ω κ hb hu hc hK => ?_
        have h5 : a.tmps[5]?.getD undef = .pointer (some ⟨w.heap.size, 0, none⟩) := (hu 5 rfl).trans e5
        have hk := Lib.hid (fun w1 (h : Below ω.heap.size ω w1) => hK (.agg (arrK .u64 4 (wd ka))) w1 rfl h)
        clear hK hu hc
        have hr1 := (hAA.out.step hb).row
        have hr2 := (hAA.out.step hb).eq
        go_simp
        exact hk.out _ (Below.refl _ _)
      · refine calm_step_guard (g := 4) (b := true) (d := 78) rfl rfl (fun a w hc => hc 4 78 rfl rfl) fun a ω κ hb hu hc hK => ?_
        have h79 : a.tmps[79]?.getD undef = .agg (arrK .u64 4 (wd ka)) := hc 5 79 rfl rfl
        have hk := Lib.hid (fun w1 (h : Below ω.heap.size ω w1) => hK (.agg (arrK .u64 4 (wd vA))) w1 rfl h)
        clear hK hu hc
        go_simp
        go_at_call 27
        refine (kLo.out _).mono ?_
        rintro e w1 ⟨rfl, hb1⟩
        exact hk.out _ hb1
      · refine calm_step_guard (g := 4) (b := true) (d := 78) rfl rfl (fun a w hc => hc 4 78 rfl rfl) fun a ω κ hb hu hc hK => ?_
        have h14 : a.tmps[14]?.getD undef = .func (Fn.func 20) #[] #[.pointer (some ⟨g, 0, none⟩)] := (hu 14 rfl).trans e14
        have hk := Lib.hid (fun w1 (h : Below ω.heap.size ω w1) => hK (.func (Fn.func 20) #[] #[.pointer (some ⟨g, 0, none⟩)]) w1 rfl h)
        clear hK hu hc
        go_simp
        exact hk.out _ (Below.refl _ _)
      · refine calm_step_guard (g := 4) (b := true) (d := 78) rfl rfl (fun a w hc => hc 4 78 rfl rfl) fun a ω κ hb hu hc hK => ?_
        have h12 : a.tmps[12]?.getD undef = .slice xA xm xc := (hu 12 rfl).trans e12
        have hk := Lib.hid (fun w1 (h : Below ω.heap.size ω w1) => hK (.slice xA xm xc) w1 rfl h)
        clear hK hu hc
        go_simp
        exact hk.out _ (Below.refl _ _)
      · refine calm_step_guard (g := 4) (b := true) (d := 78) rfl rfl (fun a w hc => hc 4 78 rfl rfl) fun a ω κ hb hu hc hK => ?_
        have h81 : a.tmps[81]?.getD undef = .func (Fn.func 20) #[] #[.pointer (some ⟨g, 0, none⟩)] := hc 7 81 rfl rfl
        have h82 : a.tmps[82]?.getD undef = .slice xA xm xc := hc 8 82 rfl rfl
        have hk := Lib.hid (fun w1 (h : Below ω.heap.size ω w1) => hK (.agg (arrK .u64 4 (wd vA))) w1 rfl h)
        clear hK hu hc
        go_simp
        refine (kLx.out _ hb).mono ?_
        rintro e w1 ⟨rfl, hb1⟩
        exact hk.out _ hb1
      · refine calm_step_guard (g := 4) (b := true) (d := 78) rfl rfl (fun a w hc => hc 4 78 rfl rfl) fun a ω κ hb hu hc hK => ?_
        have h80 : a.tmps[80]?.getD undef = .agg (arrK .u64 4 (wd vA)) := hc 6 80 rfl rfl
        have h83 : a.tmps[83]?.getD undef = .agg (arrK .u64 4 (wd vA)) := hc 9 83 rfl rfl
        have hk := Lib.hid (fun w1 (h : Below ω.heap.size ω w1) => hK (.bool true) w1 rfl h)
        clear hK hu hc
        exact wp_eqlA (v := arrK .u64 4 (wd vA)) (u := arrK .u64 4 (wd vA)) (.inr rfl) (by kernel_rfl) (by go_simp) (by go_simp) (eqlS _ _) (hk.out _ (Below.refl _ _))
      · refine calm_step rfl fun a ω κ hb hu hc hK => ?_
        have h78 : a.tmps[78]?.getD undef = .bool true := hc 4 78 rfl rfl
        have h84 : a.tmps[84]?.getD undef = .bool true := hc 10 84 rfl rfl
        have hk := Lib.hid (fun w1 (h : Below ω.heap.size ω w1) => hK (.bool true) w1 rfl h)
        clear hK hu hc
        go_simp
        exact hk.out _ (Below.refl _ _)
      · refine calm_step rfl fun a ω κ hb hu hc hK => ?_
        have h85 : a.tmps[85]?.getD undef = .bool true := hc 11 85 rfl rfl
        have hk := Lib.hid (fun w1 (h : Below ω.heap.size ω w1) => hK (.bool true) w1 rfl h)
        clear hK hu hc
        go_simp
        exact hk.out _ (Below.refl _ _)
      · refine calm_step_guard (g := 12) (b := true) (d := 86) rfl rfl (fun a w hc => hc 12 86 rfl rfl) fun a ω κ hb hu hc hK => ?_
        have h7 : a.tmps[7]?.getD undef = .pointer (some ⟨w.heap.size + 1 + 1, 0, none⟩) := (hu 7 rfl).trans e7
        have hk := Lib.hid (fun w1 (h : Below ω.heap.size ω w1) => hK (.agg (arrK .u64 8 (wd wv))) w1 rfl h)
        clear hK hu hc
        have hr1 := (hWW.out.step hb).row
        have hr2 := (hWW.out.step hb).eq
        go_simp
        exact hk.out _ (Below.refl _ _)
      · refine calm_step_guard (g := 12) (b := true) (d := 86) rfl rfl (fun a w hc => hc 12 86 rfl rfl) fun a ω κ hb hu hc hK => ?_
        have h87 : a.tmps[87]?.getD undef = .agg (arrK .u64 8 (wd wv)) := hc 13 87 rfl rfl
        have hk := Lib.hid (fun w1 (h : Below ω.heap.size ω w1) => hK (.agg (arrK .u64 4 (wd vW))) w1 rfl h)
        clear hK hu hc
        go_simp
        go_at_call 28
        refine (kRd.out _).mono ?_
        rintro e w1 ⟨rfl, hb1⟩
        exact hk.out _ hb1
      · refine calm_step_guard (g := 12) (b := true) (d := 86) rfl rfl (fun a w hc => hc 12 86 rfl rfl) fun a ω κ hb hu hc hK => ?_
        have h14 : a.tmps[14]?.getD undef = .func (Fn.func 20) #[] #[.pointer (some ⟨g, 0, none⟩)] := (hu 14 rfl).trans e14
        have hk := Lib.hid (fun w1 (h : Below ω.heap.size ω w1) => hK (.func (Fn.func 20) #[] #[.pointer (some ⟨g, 0, none⟩)]) w1 rfl h)
        clear hK hu hc
        go_simp
        exact hk.out _ (Below.refl _ _)
      · refine calm_step_guard (g := 12) (b := true) (d := 86) rfl rfl (fun a w hc => hc 12 86 rfl rfl) fun a ω κ hb hu hc hK => ?_
        have h7 : a.tmps[7]?.getD undef = .pointer (some ⟨w.heap.size + 1 + 1, 0, none⟩) := (hu 7 rfl).trans e7
        have hk := Lib.hid (fun w1 (h : Below ω.heap.size ω w1) => hK (.agg (arrK .u64 8 (wd wv))) w1 rfl h)
        clear hK hu hc
        have hr1 := (hWW.out.step hb).row
        have hr2 := (hWW.out.step hb).eq
        go_simp
        exact hk.out _ (Below.refl _ _)
      · refine calm_step_guard (g := 12) (b := true) (d := 86) rfl rfl (fun a w hc => hc 12 86 rfl rfl) fun a ω κ hb hu hc hK => ?_
        have h90 : a.tmps[90]?.getD undef = .agg (arrK .u64 8 (wd wv)) := hc 16 90 rfl rfl
        have hk := Lib.hid (fun v w1 (hv : (SRel.bN wv).p v w1) (h : Below ω.heap.size ω w1) => hK v w1 hv h)
        clear hK hu hc
        go_simp
        go_at_call 29
        refine (kOw.out _).mono ?_
        rintro e w1 ⟨u, rfl, hu, hb1⟩
        exact hk.out _ _ hu hb1
      · refine calm_step_guard (g := 12) (b := true) (d := 86) rfl rfl (fun a w hc => hc 12 86 rfl rfl) fun a ω κ hb hu hc hK => ?_
        have h89 : a.tmps[89]?.getD undef = .func (Fn.func 20) #[] #[.pointer (some ⟨g, 0, none⟩)] := hc 15 89 rfl rfl
        have h91 : (SRel.bN wv).p (a.tmps[91]?.getD undef) ω := hc 17 91 rfl rfl
        have hk := Lib.hid (fun w1 (h : Below ω.heap.size ω w1) => hK (.agg (arrK .u64 4 (wd vW))) w1 rfl h)
        clear hK hu hc
        go_simp
        refine (kLw.out _ hb _ h91).mono ?_
        rintro e w1 ⟨rfl, hb1⟩
        exact hk.out _ hb1
      · refine calm_step_guard (g := 12) (b := true) (d := 86) rfl rfl (fun a w hc => hc 12 86 rfl rfl) fun a ω κ hb hu hc hK => ?_
        have h88 : a.tmps[88]?.getD undef = .agg (arrK .u64 4 (wd vW)) := hc 14 88 rfl rfl
        have h92 : a.tmps[92]?.getD undef = .agg (arrK .u64 4 (wd vW)) := hc 18 92 rfl rfl
        have hk := Lib.hid (fun w1 (h : Below ω.heap.size ω w1) => hK (.bool true) w1 rfl h)
        clear hK hu hc
        exact wp_eqlA (v := arrK .u64 4 (wd vW)) (u := arrK .u64 4 (wd vW)) (.inr rfl) (by kernel_rfl) (by go_simp) (by go_simp) (eqlS _ _) (hk.out _ (Below.refl _ _))
      · refine calm_step rfl fun a ω κ hb hu hc hK => ?_
        have h86 : a.tmps[86]?.getD undef = .bool true := hc 12 86 rfl rfl
        have h93 : a.tmps[93]?.getD undef = .bool true := hc 19 93 rfl rfl
        have hk := Lib.hid (fun w1 (h : Below ω.heap.size ω w1) => hK (.bool true) w1 rfl h)
        clear hK hu hc
        go_simp
        exact hk.out _ (Below.refl _ _)
      · refine calm_step rfl fun a ω κ hb hu hc hK => ?_
        have h94 : a.tmps[94]?.getD undef = .bool true := hc 20 94 rfl rfl
        have hk := Lib.hid (fun w1 (h : Below ω.heap.size ω w1) => hK (.bool true) w1 rfl h)
        clear hK hu hc
        go_simp
        exact hk.out _ (Below.refl _ _)
      · refine calm_step_guard (g := 21) (b := true) (d := 95) rfl rfl (fun a w hc => hc 21 95 rfl rfl) fun a ω κ hb hu hc hK => ?_
        have h5 : a.tmps[5]?.getD undef = .pointer (some ⟨w.heap.size, 0, none⟩) := (hu 5 rfl).trans e5
        have hk := Lib.hid (fun w1 (h : Below ω.heap.size ω w1) => hK (.agg (arrK .u64 4 (wd ka))) w1 rfl h)
        clear hK hu hc
        have hr1 := (hAA.out.step hb).row
        have hr2 := (hAA.out.step hb).eq
        go_simp
        exact hk.out _ (Below.refl _ _)
      · refine calm_step_guard (g := 21) (b := true) (d := 95) rfl rfl (fun a w hc => hc 21 95 rfl rfl) fun a ω κ hb hu hc hK => ?_
        have h6 : a.tmps[6]?.getD undef = .pointer (some ⟨w.heap.size + 1, 0, none⟩) := (hu 6 rfl).trans e6
        have hk := Lib.hid (fun w1 (h : Below ω.heap.size ω w1) => hK (.agg (arrK .u64 4 (wd kb))) w1 rfl h)
        clear hK hu hc
        have hr1 := (hBB.out.step hb).row
        have hr2 := (hBB.out.step hb).eq
        go_simp
        exact hk.out _ (Below.refl _ _)
      · refine calm_step_guard (g := 21) (b := true) (d := 95) rfl rfl (fun a w hc => hc 21 95 rfl rfl) fun a ω κ hb hu hc hK => ?_
        have h96 : a.tmps[96]?.getD undef = .agg (arrK .u64 4 (wd ka)) := hc 22 96 rfl rfl
        have h97 : a.tmps[97]?.getD undef = .agg (arrK .u64 4 (wd kb)) := hc 23 97 rfl rfl
        have hk := Lib.hid (fun w1 (h : Below ω.heap.size ω w1) => hK (.agg (arrK .u64 4 (wd vS))) w1 rfl h)
        clear hK hu hc
        go_simp
        go_at_call 30
        refine (kAd.out _).mono ?_
        rintro e w1 ⟨rfl, hb1⟩
        exact hk.out _ hb1
      · refine calm_step_guard (g := 21) (b := true) (d := 95) rfl rfl (fun a w hc => hc 21 95 rfl rfl) fun a ω κ hb hu hc hK => ?_
        have h14 : a.tmps[14]?.getD undef = .func (Fn.func 20) #[] #[.pointer (some ⟨g, 0, none⟩)] := (hu 14 rfl).trans e14
        have hk := Lib.hid (fun w1 (h : Below ω.heap.size ω w1) => hK (.func (Fn.func 20) #[] #[.pointer (some ⟨g, 0, none⟩)]) w1 rfl h)
        clear hK hu hc
        go_simp
        exact hk.out _ (Below.refl _ _)
      · refine calm_step_guard (g := 21) (b := true) (d := 95) rfl rfl (fun a w hc => hc 21 95 rfl rfl) fun a ω κ hb hu hc hK => ?_
        have h12 : a.tmps[12]?.getD undef = .slice xA xm xc := (hu 12 rfl).trans e12
        have hk := Lib.hid (fun w1 (h : Below ω.heap.size ω w1) => hK (.slice xA xm xc) w1 rfl h)
        clear hK hu hc
        go_simp
        exact hk.out _ (Below.refl _ _)
      · refine calm_step_guard (g := 21) (b := true) (d := 95) rfl rfl (fun a w hc => hc 21 95 rfl rfl) fun a ω κ hb hu hc hK => ?_
        have h13 : a.tmps[13]?.getD undef = .slice yA ym yc := (hu 13 rfl).trans e13
        have hk := Lib.hid (fun w1 (h : Below ω.heap.size ω w1) => hK (.slice yA ym yc) w1 rfl h)
        clear hK hu hc
        go_simp
        exact hk.out _ (Below.refl _ _)
      · refine calm_step_guard (g := 21) (b := true) (d := 95) rfl rfl (fun a w hc => hc 21 95 rfl rfl) fun a ω κ hb hu hc hK => ?_
        have h100 : a.tmps[100]?.getD undef = .slice xA xm xc := hc 26 100 rfl rfl
        have h101 : a.tmps[101]?.getD undef = .slice yA ym yc := hc 27 101 rfl rfl
        have hk := Lib.hid (fun v w1 (hv : (SRel.bN sAB).p v w1) (h : Below ω.heap.size ω w1) => hK v w1 hv h)
        clear hK hu hc
        go_simp
        go_at_call 24
        refine (kPl.out _ hb).mono ?_
        rintro e w1 ⟨u, rfl, hu, hb1⟩
        exact hk.out _ _ hu hb1
      · refine calm_step_guard (g := 21) (b := true) (d := 95) rfl rfl (fun a w hc => hc 21 95 rfl rfl) fun a ω κ hb hu hc hK => ?_
        have h99 : a.tmps[99]?.getD undef = .func (Fn.func 20) #[] #[.pointer (some ⟨g, 0, none⟩)] := hc 25 99 rfl rfl
        have h102 : (SRel.bN sAB).p (a.tmps[102]?.getD undef) ω := hc 28 102 rfl rfl
        have hk := Lib.hid (fun w1 (h : Below ω.heap.size ω w1) => hK (.agg (arrK .u64 4 (wd vS))) w1 rfl h)
        clear hK hu hc
        go_simp
        refine (kLp.out _ hb _ h102).mono ?_
        rintro e w1 ⟨rfl, hb1⟩
        exact hk.out _ hb1
      · refine calm_step_guard (g := 21) (b := true) (d := 95) rfl rfl (fun a w hc => hc 21 95 rfl rfl) fun a ω κ hb hu hc hK => ?_
        have h98 : a.tmps[98]?.getD undef = .agg (arrK .u64 4 (wd vS)) := hc 24 98 rfl rfl
        have h103 : a.tmps[103]?.getD undef = .agg (arrK .u64 4 (wd vS)) := hc 29 103 rfl rfl
        have hk := Lib.hid (fun w1 (h : Below ω.heap.size ω w1) => hK (.bool true) w1 rfl h)
        clear hK hu hc
        exact wp_eqlA (v := arrK .u64 4 (wd vS)) (u := arrK .u64 4 (wd vS)) (.inr rfl) (by kernel_rfl) (by go_simp) (by go_simp) (eqlS _ _) (hk.out _ (Below.refl _ _))
      · refine calm_step rfl fun a ω κ hb hu hc hK => ?_
        have h95 : a.tmps[95]?.getD undef = .bool true := hc 21 95 rfl rfl
        have h104 : a.tmps[104]?.getD undef = .bool true := hc 30 104 rfl rfl
        have hk := Lib.hid (fun w1 (h : Below ω.heap.size ω w1) => hK (.bool true) w1 rfl h)
        clear hK hu hc
        go_simp
        exact hk.out _ (Below.refl _ _)
      · refine calm_step rfl fun a ω κ hb hu hc hK => ?_
        have h105 : a.tmps[105]?.getD undef = .bool true := hc 31 105 rfl rfl
        have hk := Lib.hid (fun w1 (h : Below ω.heap.size ω w1) => hK (.bool true) w1 rfl h)
        clear hK hu hc
        go_simp
        exact hk.out _ (Below.refl _ _)
      · refine calm_step_guard (g := 32) (b := true) (d := 106) rfl rfl (fun a w hc => hc 32 106 rfl rfl) fun a ω κ hb hu hc hK => ?_
        have h5 : a.tmps[5]?.getD undef = .pointer (some ⟨w.heap.size, 0, none⟩) := (hu 5 rfl).trans e5
        have hk := Lib.hid (fun w1 (h : Below ω.heap.size ω w1) => hK (.agg (arrK .u64 4 (wd ka))) w1 rfl h)
        clear hK hu hc
        have hr1 := (hAA.out.step hb).row
        have hr2 := (hAA.out.step hb).eq
        go_simp
        exact hk.out _ (Below.refl _ _)
      · refine calm_step_guard (g := 32) (b := true) (d := 106) rfl rfl (fun a w hc => hc 32 106 rfl rfl) fun a ω κ hb hu hc hK => ?_
        have h107 : a.tmps[107]?.getD undef = .agg (arrK .u64 4 (wd ka)) := hc 33 107 rfl rfl
        have hk := Lib.hid (fun w1 (h : Below ω.heap.size ω w1) => hK (.agg (arrK .u64 4 (wd vN))) w1 rfl h)
        clear hK hu hc
        go_simp
        go_at_call 31
        refine (kNg.out _).mono ?_
        rintro e w1 ⟨rfl, hb1⟩
        exact hk.out _ hb1
      · refine calm_step_guard (g := 32) (b := true) (d := 106) rfl rfl (fun a w hc => hc 32 106 rfl rfl) fun a ω κ hb hu hc hK => ?_
        have h14 : a.tmps[14]?.getD undef = .func (Fn.func 20) #[] #[.pointer (some ⟨g, 0, none⟩)] := (hu 14 rfl).trans e14
        have hk := Lib.hid (fun w1 (h : Below ω.heap.size ω w1) => hK (.func (Fn.func 20) #[] #[.pointer (some ⟨g, 0, none⟩)]) w1 rfl h)
        clear hK hu hc
        go_simp
        exact hk.out _ (Below.refl _ _)
      · refine calm_step_guard (g := 32) (b := true) (d := 106) rfl rfl (fun a w hc => hc 32 106 rfl rfl) fun a ω κ hb hu hc hK => ?_
        have h11 : a.tmps[11]?.getD undef = .pointer (some ⟨g, 0, none⟩) := (hu 11 rfl).trans e11
        have hk := Lib.hid (fun w1 (h : Below ω.heap.size ω w1) => hK (.slice mA mm mc) w1 rfl h)
        clear hK hu hc
        have cq := hCc.out _ hb
        go_simp
        exact hk.out _ (Below.refl _ _)
      · refine calm_step_guard (g := 32) (b := true) (d := 106) rfl rfl (fun a w hc => hc 32 106 rfl rfl) fun a ω κ hb hu hc hK => ?_
        have h12 : a.tmps[12]?.getD undef = .slice xA xm xc := (hu 12 rfl).trans e12
        have hk := Lib.hid (fun w1 (h : Below ω.heap.size ω w1) => hK (.slice xA xm xc) w1 rfl h)
        clear hK hu hc
        go_simp
        exact hk.out _ (Below.refl _ _)
      · refine calm_step_guard (g := 32) (b := true) (d := 106) rfl rfl (fun a w hc => hc 32 106 rfl rfl) fun a ω κ hb hu hc hK => ?_
        have h11 : a.tmps[11]?.getD undef = .pointer (some ⟨g, 0, none⟩) := (hu 11 rfl).trans e11
        have hk := Lib.hid (fun w1 (h : Below ω.heap.size ω w1) => hK (.slice mA mm mc) w1 rfl h)
        clear hK hu hc
        have cq := hCc.out _ hb
        go_simp
        exact hk.out _ (Below.refl _ _)
      · refine calm_step_guard (g := 32) (b := true) (d := 106) rfl rfl (fun a w hc => hc 32 106 rfl rfl) fun a ω κ hb hu hc hK => ?_
        have h111 : a.tmps[111]?.getD undef = .slice xA xm xc := hc 37 111 rfl rfl
        have h112 : a.tmps[112]?.getD undef = .slice mA mm mc := hc 38 112 rfl rfl
        have hk := Lib.hid (fun v w1 (hv : (SRel.bN vA).p v w1) (h : Below ω.heap.size ω w1) => hK v w1 hv h)
        clear hK hu hc
        go_simp
        go_at_call 22
        refine (kRs.out _ hb).mono ?_
        rintro e w1 ⟨u, rfl, hu, hb1⟩
        exact hk.out _ _ hu hb1
      · refine calm_step_guard (g := 32) (b := true) (d := 106) rfl rfl (fun a w hc => hc 32 106 rfl rfl) fun a ω κ hb hu hc hK => ?_
        have h110 : a.tmps[110]?.getD undef = .slice mA mm mc := hc 36 110 rfl rfl
        have h113 : (SRel.bN vA).p (a.tmps[113]?.getD undef) ω := hc 39 113 rfl rfl
        have hk := Lib.hid (fun v w1 (hv : (SRel.bN dN).p v w1) (h : Below ω.heap.size ω w1) => hK v w1 hv h)
        clear hK hu hc
        go_simp
        go_at_call 32
        refine (kMi.out _ hb _ h113).mono ?_
        rintro e w1 ⟨u, rfl, hu, hb1⟩
        exact hk.out _ _ hu.toN hb1
      · refine calm_step_guard (g := 32) (b := true) (d := 106) rfl rfl (fun a w hc => hc 32 106 rfl rfl) fun a ω κ hb hu hc hK => ?_
        have h109 : a.tmps[109]?.getD undef = .func (Fn.func 20) #[] #[.pointer (some ⟨g, 0, none⟩)] := hc 35 109 rfl rfl
        have h114 : (SRel.bN dN).p (a.tmps[114]?.getD undef) ω := hc 40 114 rfl rfl
        have hk := Lib.hid (fun w1 (h : Below ω.heap.size ω w1) => hK (.agg (arrK .u64 4 (wd vN))) w1 rfl h)
        clear hK hu hc
        go_simp
        refine (kLn.out _ hb _ h114).mono ?_
        rintro e w1 ⟨rfl, hb1⟩
        exact hk.out _ hb1
      · refine calm_step_guard (g := 32) (b := true) (d := 106) rfl rfl (fun a w hc => hc 32 106 rfl rfl) fun a ω κ hb hu hc hK => ?_
        have h108 : a.tmps[108]?.getD undef = .agg (arrK .u64 4 (wd vN)) := hc 34 108 rfl rfl
        have h115 : a.tmps[115]?.getD undef = .agg (arrK .u64 4 (wd vN)) := hc 41 115 rfl rfl
        have hk := Lib.hid (fun w1 (h : Below ω.heap.size ω w1) => hK (.bool true) w1 rfl h)
        clear hK hu hc
        exact wp_eqlA (v := arrK .u64 4 (wd vN)) (u := arrK .u64 4 (wd vN)) (.inr rfl) (by kernel_rfl) (by go_simp) (by go_simp) (eqlS _ _) (hk.out _ (Below.refl _ _))
      · refine calm_step rfl fun a ω κ hb hu hc hK => ?_
        have h106 : a.tmps[106]?.getD undef = .bool true := hc 32 106 rfl rfl
        have h116 : a.tmps[116]?.getD undef = .bool true := hc 42 116 rfl rfl
        have hk := Lib.hid (fun w1 (h : Below ω.heap.size ω w1) => hK (.bool true) w1 rfl h)
        clear hK hu hc
        go_simp
        exact hk.out _ (Below.refl _ _)
      · refine calm_step rfl fun a ω κ hb hu hc hK => ?_
        have h117 : a.tmps[117]?.getD undef = .bool true := hc 43 117 rfl rfl
        have hk := Lib.hid (fun w1 (h : Below ω.heap.size ω w1) => hK (.bool true) w1 rfl h)
        clear hK hu hc
        go_simp
        exact hk.out _ (Below.refl _ _)
      · refine calm_step_guard (g := 44) (b := true) (d := 118) rfl rfl (fun a w hc => hc 44 118 rfl rfl) fun a ω κ hb hu hc hK => ?_
        have h5 : a.tmps[5]?.getD undef = .pointer (some ⟨w.heap.size, 0, none⟩) := (hu 5 rfl).trans e5
        have hk := Lib.hid (fun w1 (h : Below ω.heap.size ω w1) => hK (.agg (arrK .u64 4 (wd ka))) w1 rfl h)
        clear hK hu hc
        have hr1 := (hAA.out.step hb).row
        have hr2 := (hAA.out.step hb).eq
        go_simp
        exact hk.out _ (Below.refl _ _)
      · refine calm_step_guard (g := 44) (b := true) (d := 118) rfl rfl (fun a w hc => hc 44 118 rfl rfl) fun a ω κ hb hu hc hK => ?_
        have h6 : a.tmps[6]?.getD undef = .pointer (some ⟨w.heap.size + 1, 0, none⟩) := (hu 6 rfl).trans e6
        have hk := Lib.hid (fun w1 (h : Below ω.heap.size ω w1) => hK (.agg (arrK .u64 4 (wd kb))) w1 rfl h)
        clear hK hu hc
        have hr1 := (hBB.out.step hb).row
        have hr2 := (hBB.out.step hb).eq
        go_simp
        exact hk.out _ (Below.refl _ _)
      · refine calm_step_guard (g := 44) (b := true) (d := 118) rfl rfl (fun a w hc => hc 44 118 rfl rfl) fun a ω κ hb hu hc hK => ?_
        have h119 : a.tmps[119]?.getD undef = .agg (arrK .u64 4 (wd ka)) := hc 45 119 rfl rfl
        have h120 : a.tmps[120]?.getD undef = .agg (arrK .u64 4 (wd kb)) := hc 46 120 rfl rfl
        have hk := Lib.hid (fun w1 (h : Below ω.heap.size ω w1) => hK (.agg (arrK .u64 4 (wd vM))) w1 rfl h)
        clear hK hu hc
        go_simp
        go_at_call 33
        refine (kMu.out _).mono ?_
        rintro e w1 ⟨rfl, hb1⟩
        exact hk.out _ hb1
      · refine calm_step_guard (g := 44) (b := true) (d := 118) rfl rfl (fun a w hc => hc 44 118 rfl rfl) fun a ω κ hb hu hc hK => ?_
        have h14 : a.tmps[14]?.getD undef = .func (Fn.func 20) #[] #[.pointer (some ⟨g, 0, none⟩)] := (hu 14 rfl).trans e14
        have hk := Lib.hid (fun w1 (h : Below ω.heap.size ω w1) => hK (.func (Fn.func 20) #[] #[.pointer (some ⟨g, 0, none⟩)]) w1 rfl h)
        clear hK hu hc
        go_simp
        exact hk.out _ (Below.refl _ _)
      · refine calm_step_guard (g := 44) (b := true) (d := 118) rfl rfl (fun a w hc => hc 44 118 rfl rfl) fun a ω κ hb hu hc hK => ?_
        have h12 : a.tmps[12]?.getD undef = .slice xA xm xc := (hu 12 rfl).trans e12
        have hk := Lib.hid (fun w1 (h : Below ω.heap.size ω w1) => hK (.slice xA xm xc) w1 rfl h)
        clear hK hu hc
        go_simp
        exact hk.out _ (Below.refl _ _)
      · refine calm_step_guard (g := 44) (b := true) (d := 118) rfl rfl (fun a w hc => hc 44 118 rfl rfl) fun a ω κ hb hu hc hK => ?_
        have h13 : a.tmps[13]?.getD undef = .slice yA ym yc := (hu 13 rfl).trans e13
        have hk := Lib.hid (fun w1 (h : Below ω.heap.size ω w1) => hK (.slice yA ym yc) w1 rfl h)
        clear hK hu hc
        go_simp
        exact hk.out _ (Below.refl _ _)
      · refine calm_step_guard (g := 44) (b := true) (d := 118) rfl rfl (fun a w hc => hc 44 118 rfl rfl) fun a ω κ hb hu hc hK => ?_
        have h123 : a.tmps[123]?.getD undef = .slice xA xm xc := hc 49 123 rfl rfl
        have h124 : a.tmps[124]?.getD undef = .slice yA ym yc := hc 50 124 rfl rfl
        have hk := Lib.hid (fun v w1 (hv : (SRel.bN pAB).p v w1) (h : Below ω.heap.size ω w1) => hK v w1 hv h)
        clear hK hu hc
        go_simp
        go_at_call 25
        refine (kTi.out _ hb).mono ?_
        rintro e w1 ⟨u, rfl, hu, hb1⟩
        exact hk.out _ _ hu hb1
      · refine calm_step_guard (g := 44) (b := true) (d := 118) rfl rfl (fun a w hc => hc 44 118 rfl rfl) fun a ω κ hb hu hc hK => ?_
        have h122 : a.tmps[122]?.getD undef = .func (Fn.func 20) #[] #[.pointer (some ⟨g, 0, none⟩)] := hc 48 122 rfl rfl
        have h125 : (SRel.bN pAB).p (a.tmps[125]?.getD undef) ω := hc 51 125 rfl rfl
        have hk := Lib.hid (fun w1 (h : Below ω.heap.size ω w1) => hK (.agg (arrK .u64 4 (wd vM))) w1 rfl h)
        clear hK hu hc
        go_simp
        refine (kLt.out _ hb _ h125).mono ?_
        rintro e w1 ⟨rfl, hb1⟩
        exact hk.out _ hb1
      · refine calm_step_guard (g := 44) (b := true) (d := 118) rfl rfl (fun a w hc => hc 44 118 rfl rfl) fun a ω κ hb hu hc hK => ?_
        have h121 : a.tmps[121]?.getD undef = .agg (arrK .u64 4 (wd vM)) := hc 47 121 rfl rfl
        have h126 : a.tmps[126]?.getD undef = .agg (arrK .u64 4 (wd vM)) := hc 52 126 rfl rfl
        have hk := Lib.hid (fun w1 (h : Below ω.heap.size ω w1) => hK (.bool true) w1 rfl h)
        clear hK hu hc
        exact wp_eqlA (v := arrK .u64 4 (wd vM)) (u := arrK .u64 4 (wd vM)) (.inr rfl) (by kernel_rfl) (by go_simp) (by go_simp) (eqlS _ _) (hk.out _ (Below.refl _ _))
      · refine calm_step rfl fun a ω κ hb hu hc hK => ?_
        have h118 : a.tmps[118]?.getD undef = .bool true := hc 44 118 rfl rfl
        have h127 : a.tmps[127]?.getD undef = .bool true := hc 53 127 rfl rfl
        have hk := Lib.hid (fun w1 (h : Below ω.heap.size ω w1) => hK (.bool true) w1 rfl h)
        clear hK hu hc
        go_simp
        exact hk.out _ (Below.refl _ _)
      · refine calm_step rfl fun a ω κ hb hu hc hK => ?_
        have h128 : a.tmps[128]?.getD undef = .bool true := hc 54 128 rfl rfl
        have hk := Lib.hid (fun w1 (h : Below ω.heap.size ω w1) => hK (.bool true) w1 rfl h)
        clear hK hu hc
        go_simp
        exact hk.out _ (Below.refl _ _)
      · refine calm_step_guard (g := 55) (b := true) (d := 129) rfl rfl (fun a w hc => hc 55 129 rfl rfl) fun a ω κ hb hu hc hK => ?_
        have h5 : a.tmps[5]?.getD undef = .pointer (some ⟨w.heap.size, 0, none⟩) := (hu 5 rfl).trans e5
        have hk := Lib.hid (fun w1 (h : Below ω.heap.size ω w1) => hK (.agg (arrK .u64 4 (wd ka))) w1 rfl h)
        clear hK hu hc
        have hr1 := (hAA.out.step hb).row
        have hr2 := (hAA.out.step hb).eq
        go_simp
        exact hk.out _ (Below.refl _ _)
      · refine calm_step_guard (g := 55) (b := true) (d := 129) rfl rfl (fun a w hc => hc 55 129 rfl rfl) fun a ω κ hb hu hc hK => ?_
        have h130 : a.tmps[130]?.getD undef = .agg (arrK .u64 4 (wd ka)) := hc 56 130 rfl rfl
        have hk := Lib.hid (fun w1 (h : Below ω.heap.size ω w1) => hK (.agg (arrK .u64 4 (wd vI))) w1 rfl h)
        clear hK hu hc
        go_simp
        go_at_call 34
        refine (kIn.out _).mono ?_
        rintro e w1 ⟨rfl, hb1⟩
        exact hk.out _ hb1
      · refine calm_step_guard (g := 55) (b := true) (d := 129) rfl rfl (fun a w hc => hc 55 129 rfl rfl) fun a ω κ hb hu hc hK => ?_
        have h12 : a.tmps[12]?.getD undef = .slice xA xm xc := (hu 12 rfl).trans e12
        have hk := Lib.hid (fun w1 (h : Below ω.heap.size ω w1) => hK (.slice xA xm xc) w1 rfl h)
        clear hK hu hc
        go_simp
        exact hk.out _ (Below.refl _ _)
      · refine calm_step_guard (g := 55) (b := true) (d := 129) rfl rfl (fun a w hc => hc 55 129 rfl rfl) fun a ω κ hb hu hc hK => ?_
        have h11 : a.tmps[11]?.getD undef = .pointer (some ⟨g, 0, none⟩) := (hu 11 rfl).trans e11
        have hk := Lib.hid (fun w1 (h : Below ω.heap.size ω w1) => hK (.slice mA mm mc) w1 rfl h)
        clear hK hu hc
        have cq := hCc.out _ hb
        go_simp
        exact hk.out _ (Below.refl _ _)
      · refine calm_step_guard (g := 55) (b := true) (d := 129) rfl rfl (fun a w hc => hc 55 129 rfl rfl) fun a ω κ hb hu hc hK => ?_
        have hk := Lib.hid (fun v w1 (hv : (SRel.bV 2).p v w1) (h : Below ω.heap.size ω w1) => hK v w1 hv h)
        clear hK hu hc
        go_simp
        exact hk.out _ _ (IsV.lit ω 3 (d := 2) (by omega)) (below_alloc _ _)
      · refine calm_step_guard (g := 55) (b := true) (d := 129) rfl rfl (fun a w hc => hc 55 129 rfl rfl) fun a ω κ hb hu hc hK => ?_
        have h133 : a.tmps[133]?.getD undef = .slice mA mm mc := hc 59 133 rfl rfl
        have h134 : (SRel.bV 2).p (a.tmps[134]?.getD undef) ω := hc 60 134 rfl rfl
        have hk := Lib.hid (fun v w1 (hv : (SRel.bN l2).p v w1) (h : Below ω.heap.size ω w1) => hK v w1 hv h)
        clear hK hu hc
        go_simp
        go_at_call 32
        refine (kM2.out _ hb _ h134).mono ?_
        rintro e w1 ⟨u, rfl, hu, hb1⟩
        exact hk.out _ _ hu.toN hb1
      · refine calm_step_guard (g := 55) (b := true) (d := 129) rfl rfl (fun a w hc => hc 55 129 rfl rfl) fun a ω κ hb hu hc hK => ?_
        have h11 : a.tmps[11]?.getD undef = .pointer (some ⟨g, 0, none⟩) := (hu 11 rfl).trans e11
        have hk := Lib.hid (fun w1 (h : Below ω.heap.size ω w1) => hK (.slice mA mm mc) w1 rfl h)
        clear hK hu hc
        have cq := hCc.out _ hb
        go_simp
        exact hk.out _ (Below.refl _ _)
      · refine calm_step_guard (g := 55) (b := true) (d := 129) rfl rfl (fun a w hc => hc 55 129 rfl rfl) fun a ω κ hb hu hc hK => ?_
        have h132 : a.tmps[132]?.getD undef = .slice xA xm xc := hc 58 132 rfl rfl
        have h135 : (SRel.bN l2).p (a.tmps[135]?.getD undef) ω := hc 61 135 rfl rfl
        have h136 : a.tmps[136]?.getD undef = .slice mA mm mc := hc 62 136 rfl rfl
        have hk := Lib.hid (fun v w1 (hv : (SRel.bN vI).p v w1) (h : Below ω.heap.size ω w1) => hK v w1 hv h)
        clear hK hu hc
        go_simp
        go_at_call 35
        refine (kPw.out _ hb _ h135).mono ?_
        rintro e w1 ⟨u, rfl, hu, hb1⟩
        exact hk.out _ _ hu hb1
      · refine calm_step_guard (g := 55) (b := true) (d := 129) rfl rfl (fun a w hc => hc 55 129 rfl rfl) fun a ω κ hb hu hc hK => ?_
        have h137 : (SRel.bN vI).p (a.tmps[137]?.getD undef) ω := hc 63 137 rfl rfl
        have hk := Lib.hid (fun w1 (h : Below ω.heap.size ω w1) => hK (.agg (arrK .u64 4 (wd vI))) w1 rfl h)
        clear hK hu hc
        go_simp
        go_at_call 21
        refine (kTv.out _ _ h137).mono ?_
        rintro e w1 ⟨rfl, hb1⟩
        exact hk.out _ hb1
      · refine calm_step_guard (g := 55) (b := true) (d := 129) rfl rfl (fun a w hc => hc 55 129 rfl rfl) fun a ω κ hb hu hc hK => ?_
        have h131 : a.tmps[131]?.getD undef = .agg (arrK .u64 4 (wd vI)) := hc 57 131 rfl rfl
        have h138 : a.tmps[138]?.getD undef = .agg (arrK .u64 4 (wd vI)) := hc 64 138 rfl rfl
        have hk := Lib.hid (fun w1 (h : Below ω.heap.size ω w1) => hK (.bool true) w1 rfl h)
        clear hK hu hc
        exact wp_eqlA (v := arrK .u64 4 (wd vI)) (u := arrK .u64 4 (wd vI)) (.inr rfl) (by kernel_rfl) (by go_simp) (by go_simp) (eqlS _ _) (hk.out _ (Below.refl _ _))
      · refine calm_step rfl fun a ω κ hb hu hc hK => ?_
        have h129 : a.tmps[129]?.getD undef = .bool true := hc 55 129 rfl rfl
        have h139 : a.tmps[139]?.getD undef = .bool true := hc 65 139 rfl rfl
        have hk := Lib.hid (fun w1 (h : Below ω.heap.size ω w1) => hK (.bool true) w1 rfl h)
        clear hK hu hc
        go_simp
        exact hk.out _ (Below.refl _ _)
      · refine calm_step rfl fun a ω κ hb hu hc hK => ?_
        have h140 : a.tmps[140]?.getD undef = .bool true := hc 66 140 rfl rfl
        have hk := Lib.hid (fun w1 (h : Below ω.heap.size ω w1) => hK (.bool true) w1 rfl h)
        clear hK hu hc
        go_simp
        exact hk.out _ (Below.refl _ _)
      · refine calm_step_guard (g := 67) (b := true) (d := 141) rfl rfl (fun a w hc => hc 67 141 rfl rfl) fun a ω κ hb hu hc hK => ?_
        have h3 : a.tmps[3]?.getD undef = .int .u8 (lb.toNat : Nat) := (hu 3 rfl).trans e3
        have hk := Lib.hid (fun w1 (h : Below ω.heap.size ω w1) => hK (.int .u8 (lb.toNat : Nat)) w1 rfl h)
        clear hK hu hc
        go_simp
        exact hk.out _ (Below.refl _ _)
      · refine calm_step_guard (g := 67) (b := true) (d := 141) rfl rfl (fun a w hc => hc 67 141 rfl rfl) fun a ω κ hb hu hc hK => ?_
        have h4 : a.tmps[4]?.getD undef = .slice A n c := (hu 4 rfl).trans e4
        have hk := Lib.hid (fun w1 (h : Below ω.heap.size ω w1) => hK (.slice A n c) w1 rfl h)
        clear hK hu hc
        go_simp
        exact hk.out _ (Below.refl _ _)
      · refine calm_step_guard (g := 67) (b := true) (d := 141) rfl rfl (fun a w hc => hc 67 141 rfl rfl) fun a ω κ hb hu hc hK => ?_
        have h142 : a.tmps[142]?.getD undef = .int .u8 (lb.toNat : Nat) := hc 68 142 rfl rfl
        have h143 : a.tmps[143]?.getD undef = .slice A n c := hc 69 143 rfl rfl
        have hk := Lib.hid (fun w1 (h : Below ω.heap.size ω w1) => hK (.agg (arrK .u64 4 (wd vD))) w1 rfl h)
        clear hK hu hc
        go_simp
        go_at_call 36
        refine (kDg.out _ hb).mono ?_
        rintro e w1 ⟨rfl, hb1⟩
        exact hk.out _ hb1
      · refine calm_step_guard (g := 67) (b := true) (d := 141) rfl rfl (fun a w hc => hc 67 141 rfl rfl) fun a ω κ hb hu hc hK => ?_
        have h3 : a.tmps[3]?.getD undef = .int .u8 (lb.toNat : Nat) := (hu 3 rfl).trans e3
        have hk := Lib.hid (fun w1 (h : Below ω.heap.size ω w1) => hK (.int .u8 (lb.toNat : Nat)) w1 rfl h)
        clear hK hu hc
        go_simp
        exact hk.out _ (Below.refl _ _)
      · refine calm_step_guard (g := 67) (b := true) (d := 141) rfl rfl (fun a w hc => hc 67 141 rfl rfl) fun a ω κ hb hu hc hK => ?_
        have h4 : a.tmps[4]?.getD undef = .slice A n c := (hu 4 rfl).trans e4
        have hk := Lib.hid (fun w1 (h : Below ω.heap.size ω w1) => hK (.slice A n c) w1 rfl h)
        clear hK hu hc
        go_simp
        exact hk.out _ (Below.refl _ _)
      · refine calm_step_guard (g := 67) (b := true) (d := 141) rfl rfl (fun a w hc => hc 67 141 rfl rfl) fun a ω κ hb hu hc hK => ?_
        have h146 : a.tmps[146]?.getD undef = .slice A n c := hc 72 146 rfl rfl
        have hk := Lib.hid (fun w1 (h : Below ω.heap.size ω w1) => hK (strV p) w1 rfl h)
        clear hK hu hc
        have cq := kCv.out _ hb
        go_simp
        exact hk.out _ (Below.refl _ _)
      · refine calm_step_guard (g := 67) (b := true) (d := 141) rfl rfl (fun a w hc => hc 67 141 rfl rfl) fun a ω κ hb hu hc hK => ?_
        have h145 : a.tmps[145]?.getD undef = .int .u8 (lb.toNat : Nat) := hc 71 145 rfl rfl
        have h147 : a.tmps[147]?.getD undef = strV p := hc 73 147 rfl rfl
        have hk := Lib.hid (fun v w1 (hv : (SRel.bN vD).p v w1) (h : Below ω.heap.size ω w1) => hK v w1 hv h)
        clear hK hu hc
        go_simp
        go_at_call 37
        refine (kDr.out _ hb).mono ?_
        rintro e w1 ⟨u, rfl, hu, hb1⟩
        exact hk.out _ _ hu hb1
      · refine calm_step_guard (g := 67) (b := true) (d := 141) rfl rfl (fun a w hc => hc 67 141 rfl rfl) fun a ω κ hb hu hc hK => ?_
        have h148 : (SRel.bN vD).p (a.tmps[148]?.getD undef) ω := hc 74 148 rfl rfl
        have hk := Lib.hid (fun w1 (h : Below ω.heap.size ω w1) => hK (.agg (arrK .u64 4 (wd vD))) w1 rfl h)
        clear hK hu hc
        go_simp
        go_at_call 21
        refine (kTd.out _ _ h148).mono ?_
        rintro e w1 ⟨rfl, hb1⟩
        exact hk.out _ hb1
      · refine calm_step_guard (g := 67) (b := true) (d := 141) rfl rfl (fun a w hc => hc 67 141 rfl rfl) fun a ω κ hb hu hc hK => ?_
        have h144 : a.tmps[144]?.getD undef = .agg (arrK .u64 4 (wd vD)) := hc 70 144 rfl rfl
        have h149 : a.tmps[149]?.getD undef = .agg (arrK .u64 4 (wd vD)) := hc 75 149 rfl rfl
        have hk := Lib.hid (fun w1 (h : Below ω.heap.size ω w1) => hK (.bool true) w1 rfl h)
        clear hK hu hc
        exact wp_eqlA (v := arrK .u64 4 (wd vD)) (u := arrK .u64 4 (wd vD)) (.inr rfl) (by kernel_rfl) (by go_simp) (by go_simp) (eqlS _ _) (hk.out _ (Below.refl _ _))
      · refine calm_step rfl fun a ω κ hb hu hc hK => ?_
        have h141 : a.tmps[141]?.getD undef = .bool true := hc 67 141 rfl rfl
        have h150 : a.tmps[150]?.getD undef = .bool true := hc 76 150 rfl rfl
        have hk := Lib.hid (fun w1 (h : Below ω.heap.size ω w1) => hK (.bool true) w1 rfl h)
        clear hK hu hc
        go_simp
        exact hk.out _ (Below.refl _ _)
      · refine calm_step rfl fun a ω κ hb hu hc hK => ?_
        have h151 : a.tmps[151]?.getD undef = .bool true := hc 77 151 rfl rfl
        have hk := Lib.hid (fun w1 (h : Below ω.heap.size ω w1) => hK (.bool true) w1 rfl h)
        clear hK hu hc
        go_simp
        exact hk.out _ (Below.refl _ _)
      · intro a1 w1 hb1 hu1 hsz1 hdf1 hc1
        have ha0 := hha0.out
        subst ha0
        have he := act_patch (n := 152) [false, false, false, false, false, false, false, false, false, false, true, false, false, false, false, false, false, false, false, false, false, false, false, false, false, false, false, false, false, false, false, false, false, false, false, false, false, false, false, false, false, false, false, false, false, false, false, false, false, false, false, false, false, false, false, false, false, false, false, false, false, false, false, false, false, false, false, false, false, false, false, false, false, false, true, true, true, true, true, true, true, true, true, true, true, true, true, true, true, true, true, true, true, true, true, true, true, true, true, true, true, true, true, true, true, true, true, true, true, true, true, true, true, true, true, true, true, true, true, true, true, true, true, true, true, true, true, true, true, true, true, true, true, true, true, true, true, true, true, true, true, true, true, true, true, true, true, true, true, true, true, true] rfl (by kernel_rfl) hu1 hsz1 hdf1
        simp only [patch, cond_true, cond_false, Nat.reduceAdd] at he
        have hkn10 : a1.tmps[10]?.getD undef = .bool true := hc1 78 10 rfl
        replace hLL := Lib.hid (below_step hb1 hLL.out (Nat.le_refl _))
        clear hb1 hu1 hsz1 hdf1 hc1 hz0 hha0 e3 e4 e5 e6 e7 e11 e12 e13 e14
        rw [he]
        clear he
        rw [hkn10]
        clear hkn10
        generalize a1.tmps[74]?.getD undef = x74 at *
        generalize a1.tmps[75]?.getD undef = x75 at *
        generalize a1.tmps[76]?.getD undef = x76 at *
        generalize a1.tmps[77]?.getD undef = x77 at *
        generalize a1.tmps[78]?.getD undef = x78 at *
        generalize a1.tmps[79]?.getD undef = x79 at *
        generalize a1.tmps[80]?.getD undef = x80 at *
        generalize a1.tmps[81]?.getD undef = x81 at *
        generalize a1.tmps[82]?.getD undef = x82 at *
        generalize a1.tmps[83]?.getD undef = x83 at *
        generalize a1.tmps[84]?.getD undef = x84 at *
        generalize a1.tmps[85]?.getD undef = x85 at *
        generalize a1.tmps[86]?.getD undef = x86 at *
        generalize a1.tmps[87]?.getD undef = x87 at *
        generalize a1.tmps[88]?.getD undef = x88 at *
        generalize a1.tmps[89]?.getD undef = x89 at *
        generalize a1.tmps[90]?.getD undef = x90 at *
        generalize a1.tmps[91]?.getD undef = x91 at *
        generalize a1.tmps[92]?.getD undef = x92 at *
        generalize a1.tmps[93]?.getD undef = x93 at *
        generalize a1.tmps[94]?.getD undef = x94 at *
        generalize a1.tmps[95]?.getD undef = x95 at *
        generalize a1.tmps[96]?.getD undef = x96 at *
        generalize a1.tmps[97]?.getD undef = x97 at *
        generalize a1.tmps[98]?.getD undef = x98 at *
        generalize a1.tmps[99]?.getD undef = x99 at *
        generalize a1.tmps[100]?.getD undef = x100 at *
        generalize a1.tmps[101]?.getD undef = x101 at *
        generalize a1.tmps[102]?.getD undef = x102 at *
        generalize a1.tmps[103]?.getD undef = x103 at *
        generalize a1.tmps[104]?.getD undef = x104 at *
        generalize a1.tmps[105]?.getD undef = x105 at *
        generalize a1.tmps[106]?.getD undef = x106 at *
        generalize a1.tmps[107]?.getD undef = x107 at *
        generalize a1.tmps[108]?.getD undef = x108 at *
        generalize a1.tmps[109]?.getD undef = x109 at *
        generalize a1.tmps[110]?.getD undef = x110 at *
        generalize a1.tmps[111]?.getD undef = x111 at *
        generalize a1.tmps[112]?.getD undef = x112 at *
        generalize a1.tmps[113]?.getD undef = x113 at *
        generalize a1.tmps[114]?.getD undef = x114 at *
        generalize a1.tmps[115]?.getD undef = x115 at *
        generalize a1.tmps[116]?.getD undef = x116 at *
        generalize a1.tmps[117]?.getD undef = x117 at *
        generalize a1.tmps[118]?.getD undef = x118 at *
        generalize a1.tmps[119]?.getD undef = x119 at *
        generalize a1.tmps[120]?.getD undef = x120 at *
        generalize a1.tmps[121]?.getD undef = x121 at *
        generalize a1.tmps[122]?.getD undef = x122 at *
        generalize a1.tmps[123]?.getD undef = x123 at *
        generalize a1.tmps[124]?.getD undef = x124 at *
        generalize a1.tmps[125]?.getD undef = x125 at *
        generalize a1.tmps[126]?.getD undef = x126 at *
        generalize a1.tmps[127]?.getD undef = x127 at *
        generalize a1.tmps[128]?.getD undef = x128 at *
        generalize a1.tmps[129]?.getD undef = x129 at *
        generalize a1.tmps[130]?.getD undef = x130 at *
        generalize a1.tmps[131]?.getD undef = x131 at *
        generalize a1.tmps[132]?.getD undef = x132 at *
        generalize a1.tmps[133]?.getD undef = x133 at *
        generalize a1.tmps[134]?.getD undef = x134 at *
        generalize a1.tmps[135]?.getD undef = x135 at *
        generalize a1.tmps[136]?.getD undef = x136 at *
        generalize a1.tmps[137]?.getD undef = x137 at *
        generalize a1.tmps[138]?.getD undef = x138 at *
        generalize a1.tmps[139]?.getD undef = x139 at *
        generalize a1.tmps[140]?.getD undef = x140 at *
        generalize a1.tmps[141]?.getD undef = x141 at *
        generalize a1.tmps[142]?.getD undef = x142 at *
        generalize a1.tmps[143]?.getD undef = x143 at *
        generalize a1.tmps[144]?.getD undef = x144 at *
        generalize a1.tmps[145]?.getD undef = x145 at *
        generalize a1.tmps[146]?.getD undef = x146 at *
        generalize a1.tmps[147]?.getD undef = x147 at *
        generalize a1.tmps[148]?.getD undef = x148 at *
        generalize a1.tmps[149]?.getD undef = x149 at *
        generalize a1.tmps[150]?.getD undef = x150 at *
        generalize a1.tmps[151]?.getD undef = x151 at *
        go_wp2_with fail
        exact ret_tmp (p := 10) (v := .bool true) rfl (by simp) rfl ⟨rfl, hLL.out⟩
end Go.Proofs.YtodcjeaannfbnaaDoor
namespace Go.Proofs.YtodcjeaannfbnaaDoor
open Go Go.RowKit Go.ChangeShapes Go.WideShapes Go.ChangeAt Go.Deep

section
variable {P : Program} {w : World} {r : Reach} {b0 : Nat} {t : TypeId} {v : Value}

theorem oneCell_of_okWide {u : TypeId} {x : Value} (h : Cell.okWide P w r b0 u x) : x.oneCell' = true := by
  cases x <;> first | rfl | (exfalso; unfold Cell.okWide Cell.ok at h; revert h; split <;> (try split) <;> simp_all)

/-- A struct or an array by value: its cells, each of its own type. -/
theorem open_cells {n : Nat} {ts : List TypeId} (hu : (match P.underlying t with | some (.struct _) | some (.array _ _) => true | _ => false) = true) (hts : P.cellTypes P.depth t = some ts) (hn : ts.length = n)
    (hC : P.cellsOf t = n) (h : Value.okWide P w r b0 t v) : ∃ c : Array Value, v = .agg c ∧ Cells c n ∧ ∀ (i : Nat) u, ts[i]? = some u → ∃ x, c[i]? = some x ∧ Cell.okWide P w r b0 u x := by
  have h' : ∃ cs, v = .agg cs ∧ cs.size = P.cellsOf t ∧ Row.okWide P w r b0 t cs := by
    unfold Value.okWide at h
    cases hd : P.underlying t with
    | none => simp [hd] at hu
    | some d => cases d <;> first | (simp [hd] at hu; done) | (simpa [hd] using h)
  obtain ⟨c, rfl, hs, ts', hts', -, hc⟩ := h'
  obtain rfl : ts = ts' := Option.some.inj (hts.symm.trans hts')
  rw [hC] at hs
  refine ⟨c, rfl, ⟨hs, ?_⟩, fun i u hi => ?_⟩
  · rw [Array.all_eq_true_iff_forall_mem]
    intro x hx
    obtain ⟨i, hi⟩ := Array.getElem?_of_mem hx
    obtain ⟨u, -, hk⟩ := hc i x hi
    exact oneCell_of_okWide hk
  · have hil : i < ts.length := (List.getElem?_eq_some_iff.1 hi).1
    have hi2 : i < c.size := by omega
    obtain ⟨u', h1, h2⟩ := hc i c[i] (Array.getElem?_eq_getElem hi2)
    rw [Nat.mod_eq_of_lt hil] at h1
    obtain rfl : u = u' := Option.some.inj (hi.symm.trans h1)
    exact ⟨_, Array.getElem?_eq_getElem hi2, h2⟩

theorem cell_int {u : TypeId} {k : IntKind} {x : Value} (hu : P.underlying u = some (.int k)) (h : Cell.okWide P w r b0 u x) : ∃ n, x = .int k n ∧ k.has n := by
  cases x <;> simp [Cell.okWide, Cell.ok, hu] at h
  obtain ⟨rfl, h⟩ := h
  exact ⟨_, rfl, h⟩
theorem cell_slice {u e : TypeId} {x : Value} (hu : P.underlying u = some (.slice e)) (h : Cell.okWide P w r b0 u x) : ∃ a n c, x = .slice a n c ∧ n ≤ c ∧ c ≤ 9223372036854775807 := by
  cases x with
  | slice a n c =>
    cases a with
    | none =>
      cases n <;> cases c <;> simp [Cell.okWide, Cell.ok, hu] at h
      exact ⟨_, _, _, rfl, by omega, by omega⟩
    | some a =>
      simp [Cell.okWide, Cell.ok, hu] at h
      exact ⟨_, _, _, rfl, h.1, by have h2 : (c : Int) ≤ 9223372036854775807 := h.2.1; omega⟩
  | _ => simp [Cell.okWide, Cell.ok, hu] at h
theorem has_u8 {n : Int} (h : IntKind.u8.has n) : 0 ≤ n ∧ n < 256 := by simp [IntKind.has, IntKind.min, IntKind.max, IntKind.bits, IntKind.signed] at h; omega
theorem has_u32 {n : Int} (h : IntKind.u32.has n) : 0 ≤ n ∧ n < 4294967296 := by simp [IntKind.has, IntKind.min, IntKind.max, IntKind.bits, IntKind.signed] at h; omega
theorem has_u64 {n : Int} (h : IntKind.u64.has n) : 0 ≤ n ∧ n < 18446744073709551616 := by simp [IntKind.has, IntKind.min, IntKind.max, IntKind.bits, IntKind.signed] at h; omega
theorem has_i64 {n : Int} (h : IntKind.i64.has n) : -9223372036854775808 ≤ n ∧ n < 9223372036854775808 := by simp [IntKind.has, IntKind.min, IntKind.max, IntKind.bits, IntKind.signed] at h; omega
end

theorem cell_lt {w : World} {a : Addr} {v : Value} (h : w.cell? a = some v) : a.block < w.heap.size := by
  rcases Nat.lt_or_ge a.block w.heap.size with hlt | hge
  · exact hlt
  · simp only [World.cell?, Array.getElem?_eq_none hge] at h; cases h

/-- One choice for each index, as a list. -/
theorem list_of {α : Type} (n : Nat) (p : Nat → α → Prop) (h : ∀ i, i < n → ∃ x, p i x) : ∃ l : List α, l.length = n ∧ ∀ i (hi : i < l.length), p i l[i] := by
  induction n with
  | zero => exact ⟨[], rfl, fun i hi => absurd hi (by simp)⟩
  | succ n ih =>
    obtain ⟨l, hl, hp⟩ := ih fun i hi => h i (by omega)
    obtain ⟨x, hx⟩ := h n (by omega)
    refine ⟨l ++ [x], by simp [hl], fun i hi => ?_⟩
    by_cases hlt : i < l.length
    · rw [List.getElem_append_left hlt]; exact hp i hlt
    · have : i = l.length := by simp at hi; omega
      subst this
      rw [List.getElem_append_right (Nat.le_refl _)]
      simpa [hl] using hx

section
variable {H : Type} {enc : TypeId × Value → H} {P : Program} {w : World} {base : Nat} {spare : Nat → Bool} {held : Bool}

theorem wf_u8 {z : Int} (h : (Lit.int .u8 z).wf = true) : 0 ≤ z ∧ z < 256 := by
  simp only [Lit.wf, Bool.and_eq_true, decide_eq_true_eq] at h
  exact has_u8 h

/-- A slice of bytes that came in, by its reading. -/
theorem open_bytes {t e : TypeId} {fuel : Nat} {v : Value} {x : DataW H × List MemPlace} (ht : P.underlying t = some (.slice e)) (he : P.underlying e = some (.int .u8)) (hc : P.cellsOf e = 1)
    (h : DataW.trod enc P w base spare held fuel t [v] = some x) : ∃ (A : Option Addr) (l : List UInt8) (c : Nat), v = .slice A l.length c ∧ Rd w w.heap.size A (bytesV l) ∧ l.length ≤ c ∧ c ≤ maxLen := by
  rcases open_ints ht he hc h with ⟨hcs, -⟩ | ⟨a, len, cap, zs, hcs, -, hl, hm, hz, -, hcell, hwz⟩
  · injection hcs with hv
    exact ⟨none, [], 0, hv, Rd.nil, by simp, by simp [maxLen]⟩
  · injection hcs with hv
    have hlz : len ≤ zs.length := by rw [hz]; split <;> omega
    have hmap : ((zs.take len).map fun z => UInt8.ofNat z.toNat).length = len := by simp; omega
    refine ⟨some a, (zs.take len).map fun z => UInt8.ofNat z.toNat, cap, by rw [hmap]; exact hv, fun j u hu => ?_, by rw [hmap]; exact hl, hm⟩
    have hj : j < len := by
      have := (List.getElem?_eq_some_iff.1 hu).1
      simp [bytesV] at this; omega
    have hjz : j < zs.length := by omega
    have hcj := hcell j hjz
    have hlt := cell_lt hcj
    rw [addr_block] at hlt
    refine ⟨a, rfl, hlt, ?_⟩
    rw [hcj, ← hu]
    have hw := wf_u8 (hwz zs[j] (List.getElem_mem hjz))
    simp [bytesV, hj, List.getElem?_eq_getElem hjz, UInt8.toNat_ofNat']
    omega

/-- A slice of structs of one-cell fields that came in: each field's cell, and its own reading. -/
theorem open_rows {t e : TypeId} {fs : Array Field} {fuel : Nat} {v : Value} {x : DataW H × List MemPlace} (ht : P.underlying t = some (.slice e)) (he : P.underlying e = some (.struct fs))
    (hone : oneCellFields P fs = true) (hC : P.cellsOf e = fs.size) (h : DataW.trod enc P w base spare held fuel t [v] = some x) :
    ∃ (A : Option Addr) (n c : Nat), v = .slice A n c ∧ n ≤ c ∧ c ≤ maxLen ∧ ∀ i, i < n → ∃ a, A = some a ∧
      ∀ (j : Nat) (f : Field), fs[j]? = some f → ∃ (u : Value) (y : DataW H × List MemPlace) (m : Nat), w.cell? (a.add (i * fs.size + j)) = some u ∧ DataW.trod enc P w base spare held m f.type [u] = some y := by
  rcases open_slice ht h with ⟨hcs, -⟩ | ⟨a, len, cap, m, n, D, Pl, hcs, -, hl, hm, hmm, -, hi⟩
  · injection hcs with hv
    exact ⟨none, 0, 0, hv, Nat.le_refl _, by simp [maxLen], fun i hi => absurd hi (by omega)⟩
  · injection hcs with hv
    refine ⟨some a, len, cap, hv, hl, hm, fun i hil => ⟨a, rfl, fun j f hj => ?_⟩⟩
    have him : i < m := by rw [hmm]; split <;> omega
    obtain ⟨cs', hc, ht'⟩ := hi i him
    rw [hC] at hc
    obtain ⟨ys, n', -, -, -, hyl, hf⟩ := DataW.trod_struct he ht'
    obtain ⟨_, hcl, hat⟩ := World.cells?_some hc
    obtain ⟨ho, hk⟩ := hone_of hone j f hj
    have hjl : j < fs.size := (Array.getElem?_eq_some_iff.1 hj).1
    have hcell := hat j hjl
    have hv : cs'[j]? = some (cs'[j]'(by omega)) := List.getElem?_eq_getElem (by omega)
    have h1 := hf j f hj
    rw [ho, hk] at h1
    have hone' : (cs'.drop j).take 1 = [cs'[j]'(by omega)] := by
      rw [List.drop_eq_getElem_cons (by omega)]
      rfl
    rw [hone'] at h1
    have hys : ys[j]? = some (ys[j]'(by omega)) := List.getElem?_eq_getElem (by omega)
    refine ⟨_, _, n', ?_, h1.trans hys⟩
    rw [← addr_add, hcell, hv]
end
end Go.Proofs.YtodcjeaannfbnaaDoor
namespace Go.Proofs.YtodcjeaannfbnaaDoor
open Go Go.RowKit Go.ChangeShapes Go.WideShapes Go.ChangeAt Go.Deep

section
variable {H : Type} {enc : TypeId × Value → H} {P : Program} {w : World} {base : Nat} {held : Bool}

/-- What was read is within the reach. -/
def Wt (P : Program) (t : TypeId) (d : DataW H) : Prop := ∀ n ∈ DataW.weights P t d, n ≤ reachBytes

theorem wt_top {ts : List TypeId} {ds : List (DataW H)} (h : (DataW.weightsEach P ts ds).all (· ≤ reachBytes) = true) {j : Nat} {t : TypeId} {d : DataW H} (ht : ts[j]? = some t) (hd : ds[j]? = some d) : Wt P t d := fun n hn => by
  simpa using List.all_eq_true.1 h n (DataW.weights_mem_each ht hd n hn)
theorem wt_all {e : TypeId} : ∀ {l : List (DataW H)} {d : DataW H}, d ∈ l → ∀ n ∈ DataW.weights P e d, n ∈ DataW.weightsAll P e l
  | x :: r, d, h, n, hn => by
      rw [DataW.weightsAll]
      rcases List.mem_cons.1 h with rfl | h
      · exact List.mem_append_left _ hn
      · exact List.mem_append_right _ (wt_all h n hn)
theorem wt_slice {t e : TypeId} {elems spare : List (DataW H)} (h : Wt P t (.slice elems spare)) (hu : P.underlying t = some (.slice e)) : (elems.length + spare.length) * P.bytesOf e ≤ reachBytes ∧ ∀ d ∈ elems, Wt P e d := by
  refine ⟨h _ (by simp [DataW.weights, hu]), fun d hd n hn => h n ?_⟩
  rw [DataW.weights, hu]
  exact List.mem_cons_of_mem _ (List.mem_append_left _ (wt_all hd n hn))
theorem wt_struct {t : TypeId} {fs : Array Field} {parts : List (DataW H)} (h : Wt P t (.agg parts)) (hu : P.underlying t = some (.struct fs)) {j : Nat} {f : Field} {d : DataW H} (hf : fs[j]? = some f) (hd : parts[j]? = some d) : Wt P f.type d := fun n hn => by
  refine h n ?_
  rw [DataW.weights, hu]
  exact DataW.weights_mem_each (by simp [hf]) hd n hn

/-- A slice of bytes that came in, by its reading, and its bound. -/
theorem open_bytes_wt {t e : TypeId} {fuel : Nat} {v : Value} {x : DataW H × List MemPlace} (ht : P.underlying t = some (.slice e)) (he : P.underlying e = some (.int .u8)) (hc : P.cellsOf e = 1) (hb : P.bytesOf e = 1)
    (h : DataW.trod enc P w base (fun _ => true) held fuel t [v] = some x) (hw : Wt P t x.1) : ∃ (A : Option Addr) (l : List UInt8) (c : Nat), v = .slice A l.length c ∧ Rd w w.heap.size A (bytesV l) ∧ l.length ≤ c ∧ c ≤ 140737488351232 := by
  obtain ⟨A, l, c, rfl, h1, h2, h3⟩ := open_bytes ht he hc h
  refine ⟨A, l, c, rfl, h1, h2, ?_⟩
  rcases open_ints ht he hc h with ⟨hcs, -⟩ | ⟨a, len, cap, zs, hcs, -, hl, hm, hz, hx, -, -⟩
  · simp only [List.cons.injEq, Value.slice.injEq, and_true] at hcs
    omega
  · rw [hx] at hw
    have h4 := (wt_slice hw ht).1
    simp only [List.cons.injEq, Value.slice.injEq, and_true] at hcs
    simp only [if_true] at hz
    rw [hb] at h4
    simp [lits] at h4
    unfold reachBytes at h4
    omega

/-- A slice of structs of one-cell fields that came in: each field's cell, and its own reading, and its bound. -/
theorem open_rows_wt {t e : TypeId} {fs : Array Field} {fuel : Nat} {v : Value} {x : DataW H × List MemPlace} (ht : P.underlying t = some (.slice e)) (he : P.underlying e = some (.struct fs))
    (hone : oneCellFields P fs = true) (hC : P.cellsOf e = fs.size) (h : DataW.trod enc P w base (fun _ => true) held fuel t [v] = some x) (hw : Wt P t x.1) :
    ∃ (A : Option Addr) (n c : Nat), v = .slice A n c ∧ n ≤ c ∧ c ≤ maxLen ∧ c * P.bytesOf e ≤ reachBytes ∧ ∀ i, i < n → ∃ a, A = some a ∧
      ∀ (j : Nat) (f : Field), fs[j]? = some f → ∃ (u : Value) (y : DataW H × List MemPlace) (m : Nat), w.cell? (a.add (i * fs.size + j)) = some u ∧ DataW.trod enc P w base (fun _ => true) held m f.type [u] = some y ∧ Wt P f.type y.1 := by
  rcases open_slice ht h with ⟨hcs, -⟩ | ⟨a, len, cap, m, n, D, Pl, hcs, -, hl, hm, hmm, hx, hi⟩
  · injection hcs with hv
    exact ⟨none, 0, 0, hv, Nat.le_refl _, by simp [maxLen], by simp, fun i hi => absurd hi (by omega)⟩
  · injection hcs with hv
    rw [hx] at hw
    obtain ⟨hw1, hw2⟩ := wt_slice hw ht
    simp only [if_true] at hmm
    refine ⟨some a, len, cap, hv, hl, hm, ?_, fun i hil => ⟨a, rfl, fun j f hj => ?_⟩⟩
    · simp only [List.length_map, List.length_range] at hw1
      rw [show len + (m - len) = cap by omega] at hw1
      exact hw1
    have him : i < m := by omega
    obtain ⟨cs', hc, ht'⟩ := hi i him
    have hwi : Wt P e (D i) := hw2 _ (List.mem_map.2 ⟨i, List.mem_range.2 hil, rfl⟩)
    rw [hC] at hc
    obtain ⟨ys, n', -, hxy, -, hyl, hf⟩ := DataW.trod_struct he ht'
    have hDi : D i = .agg (ys.map (·.1)) := congrArg Prod.fst hxy
    rw [hDi] at hwi
    obtain ⟨_, hcl, hat⟩ := World.cells?_some hc
    obtain ⟨ho, hk⟩ := hone_of hone j f hj
    have hjl : j < fs.size := (Array.getElem?_eq_some_iff.1 hj).1
    have hcell := hat j hjl
    have hv : cs'[j]? = some (cs'[j]'(by omega)) := List.getElem?_eq_getElem (by omega)
    have h1 := hf j f hj
    rw [ho, hk] at h1
    have hone' : (cs'.drop j).take 1 = [cs'[j]'(by omega)] := by
      rw [List.drop_eq_getElem_cons (by omega)]
      rfl
    rw [hone'] at h1
    have hys : ys[j]? = some (ys[j]'(by omega)) := List.getElem?_eq_getElem (by omega)
    refine ⟨_, _, n', ?_, h1.trans hys, wt_struct hwi he hj (by rw [List.getElem?_map, hys]; rfl)⟩
    rw [← addr_add, hcell, hv]
end
end Go.Proofs.YtodcjeaannfbnaaDoor
namespace Go.Proofs.YtodcjeaannfbnaaDoor
open Go Go.RowKit Go.ChangeShapes Go.WideShapes Go.ChangeAt Go.Deep

section
variable {P : Program} {w : World} {r : Reach} {b0 : Nat} {t : TypeId} {v : Value}

theorem val_int {k : IntKind} (hu : P.underlying t = some (.int k)) (h : Value.okWide P w r b0 t v) : ∃ n, v = .int k n ∧ k.has n := by
  have h' : Cell.okWide P w r b0 t v := by
    unfold Value.okWide at h
    simpa [hu] using h
  exact cell_int hu h'
theorem val_u8 (hu : P.underlying t = some (.int .u8)) (h : Value.okWide P w r b0 t v) : ∃ n : Nat, v = .int .u8 n ∧ n < 256 := by
  obtain ⟨n, rfl, hn⟩ := val_int hu h
  have := has_u8 hn
  exact ⟨n.toNat, by rw [Int.toNat_of_nonneg this.1], by omega⟩
theorem val_u64 (hu : P.underlying t = some (.int .u64)) (h : Value.okWide P w r b0 t v) : ∃ n : Nat, v = .int .u64 n ∧ n < 18446744073709551616 := by
  obtain ⟨n, rfl, hn⟩ := val_int hu h
  have := has_u64 hn
  exact ⟨n.toNat, by rw [Int.toNat_of_nonneg this.1], by omega⟩
theorem val_i64 (hu : P.underlying t = some (.int .i64)) (h : Value.okWide P w r b0 t v) : ∃ n : Int, v = .int .i64 n ∧ -9223372036854775808 ≤ n ∧ n < 9223372036854775808 := by
  obtain ⟨n, rfl, hn⟩ := val_int hu h
  exact ⟨n, rfl, has_i64 hn⟩

/-- An array of unsigned integers by value. -/
theorem val_arr {k : IntKind} {e : TypeId} {n m : Nat} (hk : ∀ z, k.has z → 0 ≤ z ∧ z < m) (hu : P.underlying t = some (.array n e)) (he : P.underlying e = some (.int k)) (hts : P.cellTypes P.depth t = some (List.replicate n e))
    (hC : P.cellsOf t = n) (h : Value.okWide P w r b0 t v) : ∃ f : Nat → Nat, v = .agg (arrK k n f) ∧ ∀ i < n, f i < m := by
  obtain ⟨c, rfl, hc, hx⟩ := open_cells (by simp [hu]) hts (by simp) hC h
  have h1 : ∀ i, ∃ z : Nat, i < n → c[i]? = some (.int k z) ∧ z < m := fun i => by
    by_cases hi : i < n
    · obtain ⟨x, hx1, hx2⟩ := hx i e (by simp [hi])
      obtain ⟨z, rfl, hz⟩ := cell_int he hx2
      have := hk z hz
      exact ⟨z.toNat, fun _ => ⟨by rw [Int.toNat_of_nonneg this.1]; exact hx1, by omega⟩⟩
    · exact ⟨0, fun h => absurd h hi⟩
  refine ⟨fun i => (h1 i).choose, ?_, fun i hi => ((h1 i).choose_spec hi).2⟩
  exact congrArg Value.agg (arrK_of hc.1 fun i hi => ((h1 i).choose_spec hi).1)
end
end Go.Proofs.YtodcjeaannfbnaaDoor
namespace Go.Proofs.YtodcjeaannfbnaaDoor
open Go.ChangeShapes Go.WideShapes Go.ChangeAt Go.WideMaps Go.WideElems Go.RowKit
set_option maxRecDepth 100000

theorem gOne : Tryd.prog.globalNamed "sealring/hash.primeRoots" = some 0 := by kernel_rfl
theorem gTwo : Tryd.prog.globalNamed "sealring/sealringref.roundNumbers" = some 1 := by kernel_rfl
theorem tOne : (Tryd.prog.globals[0]?).map (·.type) = some 142 := by kernel_rfl
theorem tTwo : (Tryd.prog.globals[1]?).map (·.type) = some 142 := by kernel_rfl
def laid2 : List (String × DataW Unit) := [("sealring/hash.primeRoots", Rows.laid_sealring_hash_primeRoots), ("sealring/sealringref.roundNumbers", Rows.laid_sealring_sealringref_roundNumbers)]

/-- Number i of a laid array. -/
def litAt : DataW Unit → Nat → Int
  | .agg l, i => match l[i]? with | some (.lit (.int _ z)) => z | _ => 0
  | _, _ => 0
def K0 (i : Nat) : W32 := BitVec.ofNat 32 (litAt Rows.laid_sealring_hash_primeRoots i).toNat
theorem laid_same : (Rows.laid_sealring_sealringref_roundNumbers : DataW Unit) = Rows.laid_sealring_hash_primeRoots := by kernel_rfl
theorem laid_tab {W : World} {enc : TypeId × Value → Unit} {n : String} {g base fuel : Nat} {spare : Nat → Bool} {held : Bool} {cs : Array Value} {pl : List MemPlace} (hg : Tryd.prog.globalNamed n = some g) (hv : W.var? Tryd.prog n = some cs)
    (hd : DataW.trod enc Tryd.prog W base spare held fuel 142 cs.toList = some (Rows.laid_sealring_hash_primeRoots, pl)) : ∀ i < 64, W.cell? ⟨g, i, none⟩ = some (u32v (K0 i)) := by
  intro i hi
  obtain ⟨xs, m, rfl, hx, hlen, hn, hel⟩ := DataW.trod_array Tryd.underlying142 hd
  have c1 : Tryd.prog.cellsOf 96 = 1 := by kernel_rfl
  have h1 := hel i hi
  have hxi : xs[i]? = some (xs[i]'(by omega)) := List.getElem?_eq_getElem (by omega)
  rw [hxi, c1, Nat.mul_one] at h1
  obtain ⟨z, e1, e2, hw⟩ := DataW.trod_int Tryd.underlying96 h1
  have hc : cs[i]? = some (.int .u32 z) := by
    have h2 : (cs.toList.drop i).take 1 = [.int .u32 z] := e1
    have h3 : ((cs.toList.drop i).take 1)[0]? = some (.int .u32 z) := by rw [h2]; rfl
    rw [List.getElem?_take_of_lt (by omega), List.getElem?_drop] at h3
    simpa using h3
  have hz : litAt Rows.laid_sealring_hash_primeRoots i = z := by
    have h4 : (Rows.laid_sealring_hash_primeRoots : DataW Unit) = .agg (xs.map (·.1)) := congrArg Prod.fst hx
    rw [h4]
    simp only [litAt, List.getElem?_map, hxi, e2, Option.map_some]
  rw [World.var?_cell hg hv i, hc]
  unfold K0 u32v
  have hwf : 0 ≤ z ∧ z < 4294967296 := by
    simp only [Lit.wf, Bool.and_eq_true, decide_eq_true_eq] at hw
    have h5 : IntKind.u32.min ≤ z ∧ z ≤ IntKind.u32.max := by simpa [IntKind.has] using hw
    have h6 : IntKind.u32.min = 0 := rfl
    have h7 : IntKind.u32.max = 4294967295 := rfl
    omega
  rw [hz, w2n_of (by omega), Int.toNat_of_nonneg hwf.1]
theorem of_laid {W : World} (h : laidMetH Tryd.prog laid2 W) : Tabs K0 W := by
  rw [MakeChecks.laidMetH_plain _ _ _ (by kernel_rfl)] at h
  obtain ⟨ps, ⟨g0, t0, cs0, f0, p0, q0, hg0, ht0, hv0, hd0, ⟨g1, t1, cs1, f1, p1, q1, hg1, ht1, hv1, hd1, _, _⟩, _⟩, _, _⟩ := h
  obtain rfl := Option.some.inj (gOne.symm.trans hg0)
  obtain rfl := Option.some.inj (gTwo.symm.trans hg1)
  obtain rfl := Option.some.inj (tOne.symm.trans ht0)
  obtain rfl := Option.some.inj (tTwo.symm.trans ht1)
  have h1 := laid_tab gOne hv0 hd0
  have h2 := laid_tab gTwo hv1 (laid_same ▸ hd1)
  exact ⟨h1, cell_lt (h1 0 (by omega)), h2, cell_lt (h2 0 (by omega))⟩
theorem door_met (os : Os) (args : Array Value) : laidMetH Tryd.prog laid2 ((World.doorLaid Tryd.prog 400 os).forCall (fun _ _ => 0) ⟨#[], args, []⟩).memory :=
  laidMetH_of_parts3 (fuel := 8) (laidMet_of_run' 8 (by kernel_rfl) (by kernel_rfl)) (by kernel_rfl) (by kernel_rfl)
end Go.Proofs.YtodcjeaannfbnaaDoor
namespace Go.Proofs.YtodcjeaannfbnaaDoor
open Go Go.RowKit Go.ChangeShapes Go.WideShapes Go.ChangeAt Go.Deep
section
variable {H : Type} {enc : TypeId × Value → H} {P : Program} {w : World} {base : Nat} {spare : Nat → Bool} {held : Bool}
theorem trodAll_five {t0 t1 t2 t3 t4 : TypeId} {args : Array Value} {ds : List (DataW H)} {ps : List MemPlace} (h : DataW.TrodAll enc P w base spare held [t0, t1, t2, t3, t4] args.toList ds ps) :
    ∃ v0 v1 v2 v3 v4 d0 d1 d2 d3 d4 p0 p1 p2 p3 p4, args = #[v0, v1, v2, v3, v4] ∧ ds = [d0, d1, d2, d3, d4] ∧ ps = p0 ++ p1 ++ p2 ++ p3 ++ p4 ∧ DataW.Trod enc P w base spare held t0 v0 d0 p0 ∧ DataW.Trod enc P w base spare held t1 v1 d1 p1 ∧ DataW.Trod enc P w base spare held t2 v2 d2 p2 ∧ DataW.Trod enc P w base spare held t3 v3 d3 p3 ∧ DataW.Trod enc P w base spare held t4 v4 d4 p4 := by
  obtain ⟨v0, vs0, d0, ds0, p0, q0, hargs, rfl, rfl, h0, r0⟩ := trodAll_cons h
  obtain ⟨v1, vs1, d1, ds1, p1, q1, rfl, rfl, rfl, h1, r1⟩ := trodAll_cons r0
  obtain ⟨v2, vs2, d2, ds2, p2, q2, rfl, rfl, rfl, h2, r2⟩ := trodAll_cons r1
  obtain ⟨v3, vs3, d3, ds3, p3, q3, rfl, rfl, rfl, h3, r3⟩ := trodAll_cons r2
  obtain ⟨v4, vs4, d4, ds4, p4, q4, rfl, rfl, rfl, h4, r4⟩ := trodAll_cons r3
  obtain ⟨rfl, rfl, rfl⟩ := trodAll_nil r4
  exact ⟨v0, v1, v2, v3, v4, d0, d1, d2, d3, d4, p0, p1, p2, p3, p4, by cases args; simp_all, rfl, by simp, h0, h1, h2, h3, h4⟩
end
end Go.Proofs.YtodcjeaannfbnaaDoor
