/- Contract of the document's bytesOf. -/
import Derived.Test.YtodcjeaannfbnaaNumN
import Derived.Test.YtodcjeaannfbnaaLimb
import Derived.Test.YtodcjeaannfbnaaTail2
import Derived.Test.YtodcjeaannfbnaaAt
import Derived.Test.YtodcjeaannfbnaaOneW
import Derived.Test.YtodcjeaannfbnaaRet
import Derived.Deep.DeepCutAuto
import Derived.Deep.RegionWith
namespace Go.Proofs.Ytodcjeaannfbnaa
open Go.ChangeShapes Go.WideShapes Go.ChangeAt Go.RowKit
set_option maxHeartbeats 2000000
set_option maxRecDepth 100000
attribute [local go_sem ↓] load_num store_num execl_num execs_num load_b32 store_b32 execl_b32 execs_b32
attribute [local go_sem] isHead_mk blkOf_mk isAgg_mk cellsV_mk row_drew rowAt_drew row_new_cells row_old rowAt_new rowAt_old setRow_new zeroNum zero32
/-- The bytes of the s lowest bits. -/
def bybK (a s : Nat) : Nat → Nat := fun i => byt (a % 2 ^ s) i
theorem byb_zero (a i : Nat) : bybK a 0 i = 0 := by unfold bybK byt; rw [Nat.pow_zero, Nat.mod_one, Nat.zero_div]
theorem byb_all {a : Nat} (h : a < 2 ^ 256) (i : Nat) : bybK a 256 i = byt a i := by unfold bybK; rw [Nat.mod_eq_of_lt h]
theorem byb_step (a s b q r : Nat) (hb : a / 2 ^ s % 2 = b) (hq : s / 8 = q) (hr : s % 8 = r) : bybK a s q + b * 2 ^ r < 256 ∧ ∀ p, upd (bybK a s) q (bybK a s q + b * 2 ^ r) p = bybK a (s + 1) p := by
  have hs : s = 8 * q + r := by omega
  have hpq : (256 : Nat) ^ q = 2 ^ (8 * q) := by rw [show (256 : Nat) = 2 ^ 8 from rfl, ← Nat.pow_mul]
  have hm : a % 2 ^ (s + 1) = a % 2 ^ s + b * 2 ^ s := by rw [Nat.pow_succ, Nat.mod_mul, hb, Nat.mul_comm]
  have h2s : 2 ^ s = 256 ^ q * 2 ^ r := by rw [hs, Nat.pow_add, hpq]
  have hml : a % 2 ^ s < 2 ^ s := Nat.mod_lt _ (Nat.pow_pos (by omega))
  have hb1 : b ≤ 1 := by omega
  have hr7 : r ≤ 7 := by omega
  have h2r : 2 ^ r * 2 ≤ 256 := by
    have : 2 ^ (r + 1) ≤ 2 ^ 8 := Nat.pow_le_pow_right (by omega) (by omega)
    rw [Nat.pow_succ] at this
    omega
  unfold bybK
  rw [hm]
  generalize a % 2 ^ s = m at *
  have hmd : m / 256 ^ q < 2 ^ r := by rw [h2s, Nat.mul_comm] at hml; exact Nat.div_lt_of_lt_mul (by rw [Nat.mul_comm]; exact hml)
  have hbq : byt m q = m / 256 ^ q := by unfold byt; exact Nat.mod_eq_of_lt (by omega)
  have hbr : b * 2 ^ r ≤ 2 ^ r := by
    have := Nat.mul_le_mul_right (2 ^ r) hb1
    omega
  refine ⟨by rw [hbq]; omega, fun p => ?_⟩
  have hpos : 0 < 256 ^ q := Nat.pow_pos (by omega)
  have hadd : m + b * 2 ^ s = m + 256 ^ q * (b * 2 ^ r) := by rw [h2s, Nat.mul_left_comm]
  rw [hadd]
  unfold upd
  by_cases hpe : p = q
  · subst hpe
    rw [if_pos rfl, hbq]
    unfold byt
    rw [Nat.add_mul_div_left _ _ hpos, Nat.mod_eq_of_lt (by omega)]
  · rw [if_neg hpe]
    unfold byt
    rcases Nat.lt_or_ge p q with h | h
    · have h3 : 256 ^ q = 256 ^ p * (256 * 256 ^ (q - p - 1)) := by
        rw [← Nat.mul_assoc, ← Nat.pow_succ, ← Nat.pow_add]
        congr 1
        omega
      rw [h3, Nat.mul_assoc, Nat.add_mul_div_left _ _ (Nat.pow_pos (by omega)), Nat.mul_assoc, Nat.add_mul_mod_self_left]
    · have h3 : 256 ^ q * 256 ≤ 256 ^ p := by
        rw [← Nat.pow_succ]
        exact Nat.pow_le_pow_right (by omega) (by omega)
      have h4 : m + 256 ^ q * (b * 2 ^ r) < 256 ^ q * 256 := by
        have h5 : 256 ^ q * (m / 256 ^ q) + m % 256 ^ q = m := Nat.div_add_mod _ _
        have h6 : m % 256 ^ q < 256 ^ q := Nat.mod_lt _ hpos
        have h7 : 256 ^ q * (m / 256 ^ q + b * 2 ^ r + 1) ≤ 256 ^ q * 256 := Nat.mul_le_mul_left _ (by omega)
        rw [Nat.mul_add, Nat.mul_add] at h7
        omega
      show m / 256 ^ p % 256 = (m + 256 ^ q * (b * 2 ^ r)) / 256 ^ p % 256
      have h8 := Nat.le_add_right m (256 ^ q * (b * 2 ^ r))
      rw [Nat.div_eq_of_lt (Nat.lt_of_lt_of_le (Nat.lt_of_le_of_lt h8 h4) h3), Nat.div_eq_of_lt (Nat.lt_of_lt_of_le h4 h3)]
theorem ref_bytesOf (a : Nat) (w : World) (ha : a < 2 ^ 256) :
    Calls Try.prog 123 #[numV a] w fun e w' => e = .returned (.agg (arrK .u8 32 (byt a))) ∧ Below w.heap.size w w' := by
  have hall := Lib.hid (fun i => byb_all ha i)
  have hz := Lib.hid (fun i => byb_zero a i)
  have hst := Lib.hid (fun s b q r hb hq hr => byb_step a s b q r hb hq hr)
  have kD := Lib.hid (fun V => ref_OfNum a V ha)
  have kB := Lib.hid (fun V v (hv : IsN V v a) => bitsN 256 V (by omega) (hv.toV (lt_big ha (by omega))))
  clear ha
  unfold numV at kD ⊢
  have hcz := arrK_cells .u8 32 fun _ => 0
  have hce := arrK_cells .u8 32 (byt a)
  have hL0 : Below w.heap.size w (((w.alloc (Obj.cells (arrK .u64 4 (wd a)) 24)).alloc (Obj.cells (arrK .u8 32 fun _ => 0) 67)).alloc (Obj.cells (arrK .u8 32 fun _ => 0) 67)) := by go_grown
  have hA0 : At (((w.alloc (Obj.cells (arrK .u64 4 (wd a)) 24)).alloc (Obj.cells (arrK .u8 32 fun _ => 0) 67)).alloc (Obj.cells (arrK .u8 32 fun _ => 0) 67)) w.heap.size .u64 4 (wd a) := ((At.new _ rfl).old _).old _
  have hR0 : Row (((w.alloc (Obj.cells (arrK .u64 4 (wd a)) 24)).alloc (Obj.cells (arrK .u8 32 fun _ => 0) 67)).alloc (Obj.cells (arrK .u8 32 fun _ => 0) 67)) (w.heap.size + 1) 32 := ((At.new (k := .u8) (f := fun _ => 0) _ (by simp)).old _).row
  have hX0 : At (((w.alloc (Obj.cells (arrK .u64 4 (wd a)) 24)).alloc (Obj.cells (arrK .u8 32 fun _ => 0) 67)).alloc (Obj.cells (arrK .u8 32 fun _ => 0) 67)) (w.heap.size + 1 + 1) .u8 32 (bybK a 0) := (At.new (k := .u8) (f := fun _ => 0) _ (by simp)).congr fun i _ => (hz.out i).symm
  have hL := Lib.hid hL0
  have hA := Lib.hid hA0
  have hR := Lib.hid hR0
  have hX := Lib.hid hX0
  clear hL0 hA0 hR0 hX0 hz
  go_enter Try.func123, Try.ntmps123
  go_upto_region 2 with (fail)
  generalize ((w.alloc _).alloc _).alloc _ = W0 at *
  have hr1 := hA.out.row
  have hr2 := hA.out.eq
  go_wp2_with fail
  refine (kD.out _).mono ?_
  rintro e w2 ⟨v, rfl, hv, hb⟩
  obtain ⟨vA, vm, vc, rfl, -, -, -⟩ := hv.form
  replace hR := Lib.hid (row_below hR.out hb hR.out.lt)
  replace hX := Lib.hid (hX.out.step hb)
  replace hL := Lib.hid (below_step hb hL.out (Nat.le_refl _))
  have kB2 := Lib.hid (kB.out _ _ hv)
  clear hr1 hr2 hb kD kB hA hv
  dsimp only
  go_wp2_with fail
  refine (show Calls _ _ #[_, Value.int IntKind.i64 256] w2 _ from kB2.out).mono ?_
  rintro e w3 ⟨g, rfl, hgR, hgE, hgs, hb⟩
  have hG := Lib.hid (show At w3 g .i64 256 (fun i => a / 2 ^ i % 2) from ⟨hgR, hgE⟩)
  have hgl := Lib.hid (show w.heap.size + 1 + 1 < g from Nat.lt_of_lt_of_le hX.out.lt hgs)
  replace hR := Lib.hid (row_below hR.out hb hR.out.lt)
  replace hX := Lib.hid (hX.out.step hb)
  replace hL := Lib.hid (below_step hb hL.out (Nat.le_refl _))
  clear hgR hgE hgs hb kB2
  dsimp only
  go_upto_region 3 with (fail)
  go_loopw [10, 4, 5] (fun i j k wr => ∃ s : Nat, i = .int .i64 s ∧ s ≤ 256 ∧ At wr (w.heap.size + 1 + 1) .u8 32 (bybK a s) ∧ Row wr (w.heap.size + 1) 32 ∧ At wr g .i64 256 (fun i => a / 2 ^ i % 2) ∧ Below w.heap.size w wr) (fun i _ _ _ => 256 - (intOf i).toNat)
  case atStart => exact ⟨0, rfl, by omega, hX.out, hR.out, hG.out, hL.out⟩
  case round =>
    clear hX hR hG hL
    obtain ⟨s, rfl, hs, hX, hR, hG, hL⟩ := hrel
    by_cases h256 : s = 256
    · subst h256
      have hX2 := hX.congr fun i _ => hall.out i
      have hr1 := hX2.row
      have hr2 := hX2.eq
      have hRr := hR
      have d1 : decide ((256 : Int) < 256) = false := by simp
      clear hX
      rw [show ((256 : Nat) : Int) = 256 from rfl]
      go_wp2_with fail
      refine ret_row (p := 2) (ty := 67) (g := w.heap.size + 1) rfl Try.underlying67 rfl (by kernel_rfl) rfl ((row_setRow_same rfl hR).2 hce.1) rfl ?_
      rw [rowAt_setRow_same hR]
      exact ⟨rfl, below_setRow hL (by omega)⟩
    · have c := hG.cell (i := s) (by omega)
      obtain ⟨q, hq⟩ : ∃ q, s / 8 = q := ⟨_, rfl⟩
      obtain ⟨r, hr⟩ : ∃ r, s % 8 = r := ⟨_, rfl⟩
      obtain ⟨b, hb⟩ : ∃ b, a / 2 ^ s % 2 = b := ⟨_, rfl⟩
      have hss := hst.out s b q r hb hq hr
      have hqi : (s : Int) / 8 = q := by omega
      have hri : (s : Int) % 8 = r := by omega
      have hq32 : q < 32 := by omega
      have hr8 : r < 8 := by omega
      have hb2 : b < 2 := by omega
      have c2 := hX.cell hq32
      have hf := hX.row.frozen q
      simp only [hb] at c
      have hHX := Lib.hid hX
      have hHR := Lib.hid hR
      have hHG := Lib.hid hG
      have hHL := Lib.hid hL
      have hHs := Lib.hid hss.2
      have hlt := hss.1
      clear hq hr hb hss hX hR hG hL
      generalize hx : bybK a s q = x at *
      have hHx := Lib.hid hx
      clear hx
      have hp : b * 2 ^ r < 256 := by omega
      have d1 : decide ((s : Int) < 256) = true := by simp; omega
      have d2 : (0 : Int) ≤ (s : Int) := by omega
      have d3 : (s : Int) < 256 := by omega
      have d4 : (0 : Int) ≤ (q : Int) := by omega
      have d5 : (q : Int) < 32 := by omega
      obtain ⟨y, hy⟩ : ∃ y, b * 2 ^ r = y := ⟨_, rfl⟩
      have hy2 : (b : Int) * 2 ^ r = (y : Int) := by rw [← hy]; simp
      rw [hy] at hp hlt hHs
      clear hy
      have t1 : Int.tdiv (s : Int) 8 = (q : Int) := by rw [Int.tdiv_eq_ediv_of_nonneg d2]; exact hqi
      have t2 : Int.tmod (s : Int) 8 = (r : Int) := by rw [Int.tmod_eq_emod_of_nonneg d2]; exact hri
      have t3 : IntKind.i64.wrap (q : Int) = (q : Int) := by rw [IntKind.wrap_i64]; omega
      have t4 : IntKind.i64.wrap (r : Int) = (r : Int) := by rw [IntKind.wrap_i64]; omega
      have t5 : IntKind.i64.wrap (y : Int) = (y : Int) := by rw [IntKind.wrap_i64]; omega
      have t6 : IntKind.u8.wrap (y : Int) = (y : Int) := by rw [IntKind.wrap_u8]; omega
      have t7 : IntKind.u8.wrap ((x : Int) + (y : Int)) = (x : Int) + (y : Int) := by rw [IntKind.wrap_u8]; omega
      go_upto_region 5 with (fail)
      go_region
      go_wp2_with fail
      go_roundw
      case rel =>
        refine ⟨s + 1, by go_num, by omega, ?_, row_setCell.2 hHR.out, (hHG.out.farC (by have := hgl.out; simp; omega)).drew, (hHL.out.setCell (by simp; omega) _).drew⟩
        rw [show (x : Int) + (y : Int) = ((x + y : Nat) : Int) by omega]
        exact (((hHX.out.set q (x + y)).congr fun p _ => hHs.out p)).drew
      case measure => simp [intOf]; omega
end Go.Proofs.Ytodcjeaannfbnaa
