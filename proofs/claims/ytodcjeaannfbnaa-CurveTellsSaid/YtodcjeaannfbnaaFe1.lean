/- Contract of the document's least. -/
import Derived.Test.YtodcjeaannfbnaaFeP
import Derived.Test.YtodcjeaannfbnaaFd1
import Derived.Test.YtodcjeaannfbnaaNumN
import Derived.Test.YtodcjeaannfbnaaLimb
namespace Go.Proofs.Ytodcjeaannfbnaa
open Go.ChangeShapes Go.WideShapes Go.ChangeAt Go.RowKit
set_option maxHeartbeats 2000000
set_option maxRecDepth 100000
theorem load_fe {w : World} {dst : Option Tmp} {x : Operand} {tt : TypeId} {pos : String} {af : Array Edge} {gd : Option (Nat × Bool)} {a : Act} {K : Act → World → Prop} {Q : Exit → Act → World → Prop}
    (hv : IsHead (a.eval x)) (h : Row w (blkOf (a.eval x)) 16) : Oper.wp Try.prog ⟨dst, .load 26 x, tt, pos, af, gd⟩ a w K Q ↔ K (a.put dst (.agg (rowAt w (blkOf (a.eval x))))) w :=
  wp_load_whole Try.underlying26 rfl (by kernel_rfl) hv h
theorem store_fe {w : World} {dst : Option Tmp} {x y : Operand} {tt : TypeId} {pos : String} {af : Array Edge} {gd : Option (Nat × Bool)} {a : Act} {K : Act → World → Prop} {Q : Exit → Act → World → Prop}
    (hv : IsHead (a.eval x)) (h : Row w (blkOf (a.eval x)) 16) (hx : IsAgg (a.eval y) 16) : Oper.wp Try.prog ⟨dst, .store 26 x y, tt, pos, af, gd⟩ a w K Q ↔ K (a.put dst undef) (w.setRow (blkOf (a.eval x)) (cellsV (a.eval y))) :=
  wp_store_whole (by kernel_rfl) hv h hx
theorem execl_fe {w : World} {dst : Option Tmp} {x : Operand} {tt : TypeId} {pos : String} {af : Array Edge} {gd : Option (Nat × Bool)} {ρ : Operand → Value}
    (hv : IsHead (ρ x)) (h : Row w (blkOf (ρ x)) 16) : (execOp ρ ⟨dst, .load 26 x, tt, pos, af, gd⟩).run Try.prog w = .ok (.value (.agg (rowAt w (blkOf (ρ x))))) w :=
  exec_load_whole Try.underlying26 rfl (by kernel_rfl) hv h
theorem execs_fe {w : World} {dst : Option Tmp} {x y : Operand} {tt : TypeId} {pos : String} {af : Array Edge} {gd : Option (Nat × Bool)} {ρ : Operand → Value}
    (hv : IsHead (ρ x)) (h : Row w (blkOf (ρ x)) 16) (hx : IsAgg (ρ y) 16) : (execOp ρ ⟨dst, .store 26 x y, tt, pos, af, gd⟩).run Try.prog w = .ok .skip (w.setRow (blkOf (ρ x)) (cellsV (ρ y))) :=
  exec_store_whole (by kernel_rfl) hv h hx
theorem load_t17 {w : World} {dst : Option Tmp} {x : Operand} {tt : TypeId} {pos : String} {af : Array Edge} {gd : Option (Nat × Bool)} {a : Act} {K : Act → World → Prop} {Q : Exit → Act → World → Prop}
    (hv : IsHead (a.eval x)) (h : Row w (blkOf (a.eval x)) 17) : Oper.wp Try.prog ⟨dst, .load 114 x, tt, pos, af, gd⟩ a w K Q ↔ K (a.put dst (.agg (rowAt w (blkOf (a.eval x))))) w :=
  wp_load_whole Try.underlying114 rfl (by kernel_rfl) hv h
theorem store_t17 {w : World} {dst : Option Tmp} {x y : Operand} {tt : TypeId} {pos : String} {af : Array Edge} {gd : Option (Nat × Bool)} {a : Act} {K : Act → World → Prop} {Q : Exit → Act → World → Prop}
    (hv : IsHead (a.eval x)) (h : Row w (blkOf (a.eval x)) 17) (hx : IsAgg (a.eval y) 17) : Oper.wp Try.prog ⟨dst, .store 114 x y, tt, pos, af, gd⟩ a w K Q ↔ K (a.put dst undef) (w.setRow (blkOf (a.eval x)) (cellsV (a.eval y))) :=
  wp_store_whole (by kernel_rfl) hv h hx
theorem execl_t17 {w : World} {dst : Option Tmp} {x : Operand} {tt : TypeId} {pos : String} {af : Array Edge} {gd : Option (Nat × Bool)} {ρ : Operand → Value}
    (hv : IsHead (ρ x)) (h : Row w (blkOf (ρ x)) 17) : (execOp ρ ⟨dst, .load 114 x, tt, pos, af, gd⟩).run Try.prog w = .ok (.value (.agg (rowAt w (blkOf (ρ x))))) w :=
  exec_load_whole Try.underlying114 rfl (by kernel_rfl) hv h
theorem execs_t17 {w : World} {dst : Option Tmp} {x y : Operand} {tt : TypeId} {pos : String} {af : Array Edge} {gd : Option (Nat × Bool)} {ρ : Operand → Value}
    (hv : IsHead (ρ x)) (h : Row w (blkOf (ρ x)) 17) (hx : IsAgg (ρ y) 17) : (execOp ρ ⟨dst, .store 114 x y, tt, pos, af, gd⟩).run Try.prog w = .ok .skip (w.setRow (blkOf (ρ x)) (cellsV (ρ y))) :=
  exec_store_whole (by kernel_rfl) hv h hx

theorem zeroFe : #[Value.int IntKind.i64 0, Value.int IntKind.i64 0, Value.int IntKind.i64 0, Value.int IntKind.i64 0, Value.int IntKind.i64 0, Value.int IntKind.i64 0, Value.int IntKind.i64 0, Value.int IntKind.i64 0, Value.int IntKind.i64 0, Value.int IntKind.i64 0, Value.int IntKind.i64 0, Value.int IntKind.i64 0, Value.int IntKind.i64 0, Value.int IntKind.i64 0, Value.int IntKind.i64 0, Value.int IntKind.i64 0] = arrK .i64 16 fun _ => 0 := by kernel_rfl
theorem zeroT : #[Value.int IntKind.i64 0, Value.int IntKind.i64 0, Value.int IntKind.i64 0, Value.int IntKind.i64 0, Value.int IntKind.i64 0, Value.int IntKind.i64 0, Value.int IntKind.i64 0, Value.int IntKind.i64 0, Value.int IntKind.i64 0, Value.int IntKind.i64 0, Value.int IntKind.i64 0, Value.int IntKind.i64 0, Value.int IntKind.i64 0, Value.int IntKind.i64 0, Value.int IntKind.i64 0, Value.int IntKind.i64 0, Value.int IntKind.i64 0] = arrK .i64 17 fun _ => 0 := by kernel_rfl
def feV (n : Nat) : Value := .agg (arrK .i64 16 (dgt n))
theorem num_andM {a : Nat} (ha : a < 9223372036854775808) : bits .and .i64 (a : Int) 65535 = ((a % 65536 : Nat) : Int) := by
  have hx : a &&& 65535 < 2 ^ 63 := Nat.lt_of_le_of_lt Nat.and_le_left ha
  show IntKind.i64.wrap ((BitVec.ofInt 64 (a : Int) &&& BitVec.ofInt 64 ((65535 : Nat) : Int)).toNat : Int) = _
  rw [BitVec.toNat_and, num_ofInt a ha, num_ofInt 65535 (by omega), IntKind.wrap_i64]
  rw [show (65535 : Nat) = 2 ^ 16 - 1 from rfl, Nat.and_two_pow_sub_one_eq_mod] at *
  omega
/-- The digits in the middle of a pass. -/
def midF (f : Nat → Nat) (c s j : Nat) : Nat := if j < s then lout f c j else if j = 16 then 0 else f j
/-- The number in a block of sixteen digits. -/
def feOfW (w : World) (g : Nat) : Nat := dval (fun i => (intOf ((rowAt w g)[i]?.getD undef)).toNat) 16
theorem feOfW_at {w : World} {g n : Nat} (h : At w g .i64 16 (dgt n)) (hn : n < 2 ^ 256) : feOfW w g = n := by
  unfold feOfW
  rw [h.eq, dval_congr (g := dgt n) fun i hi => by rw [arrK_at hi]; simp [intOf], dval_dgt, p16]
  exact Nat.mod_eq_of_lt hn
def mixD (f : Nat → Nat) (s j : Nat) : Nat := if j < s then f j else 0
theorem mixD_step (f : Nat → Nat) (s p : Nat) : upd (mixD f s) s (f s) p = mixD f (s + 1) p := by
  unfold upd mixD
  by_cases h : p = s
  · subst h; simp
  · by_cases h2 : p < s
    · simp [h, h2, show p < s + 1 by omega]
    · simp [h, h2, show ¬ p < s + 1 by omega]
theorem midF_step (f : Nat → Nat) (c s p : Nat) : upd (midF f c s) s (lout f c s) p = midF f c (s + 1) p := by
  unfold upd midF
  by_cases h : p = s
  · subst h; simp
  · by_cases h2 : p < s
    · simp [h, h2, show p < s + 1 by omega]
    · simp [h, h2, show ¬ p < s + 1 by omega]
theorem midF_start (f : Nat → Nat) (c p : Nat) : upd f 16 0 p = midF f c 0 p := by
  unfold upd midF
  by_cases h : p = 16
  · subst h; simp
  · simp [h]
theorem midF_end (f : Nat → Nat) (p : Nat) (hp : p < 17) : upd (midF f (f 16 * 38) 16) 16 (lcar f (f 16 * 38) 16) p = lpass f p := by
  unfold upd midF lpass
  by_cases h : p = 16
  · subst h; rw [if_pos rfl, if_neg (by omega)]
  · rw [if_neg h, if_pos (by omega), if_pos (by omega)]
attribute [local go_sem ↓] load_fe store_fe execl_fe execs_fe load_t17 store_t17 execl_t17 execs_t17
attribute [local go_sem] isHead_mk blkOf_mk isAgg_mk cellsV_mk row_drew rowAt_drew row_new_cells row_old rowAt_new rowAt_old setRow_new zeroFe zeroT
theorem ref_least (f : Nat → Nat) (w : World) (hf : Tame f) : Calls Try.prog 95 #[.agg (arrK .i64 17 f)] w fun e w' => e = .returned (feV ((dval f 16 + 2 ^ 256 * f 16) % fP)) ∧ Below w.heap.size w w' := by
  have hfin := Lib.hid (lpass_three hf)
  have htm := Lib.hid (lpassN_tame hf)
  obtain ⟨V, hV⟩ : ∃ V, (dval f 16 + 2 ^ 256 * f 16) % fP = V := ⟨_, rfl⟩
  rw [hV] at hfin ⊢
  clear hV hf
  have hc0 := arrK_cells .i64 16 fun _ => 0
  have hL0 : Below w.heap.size w ((w.alloc (Obj.cells (arrK .i64 17 f) 114)).alloc (Obj.cells (arrK .i64 16 fun _ => 0) 26)) := by go_grown
  have hT0 : At ((w.alloc (Obj.cells (arrK .i64 17 f) 114)).alloc (Obj.cells (arrK .i64 16 fun _ => 0) 26)) w.heap.size .i64 17 f := (At.new _ rfl).old _
  have hR0 : Row ((w.alloc (Obj.cells (arrK .i64 17 f) 114)).alloc (Obj.cells (arrK .i64 16 fun _ => 0) 26)) (w.heap.size + 1) 16 := (At.new (k := .i64) (f := fun _ => 0) _ (by simp)).row
  have hL := Lib.hid hL0
  have hR := Lib.hid hR0
  have hT := Lib.hid hT0
  clear hL0 hR0 hT0
  go_enter Try.func95, Try.ntmps95
  go_wp2_with fail
  generalize (w.alloc _).alloc _ = W0 at *
  go_loopw [11] (fun i wr => ∃ k : Nat, i = .int .i64 k ∧ k ≤ 3 ∧ Hid (At wr w.heap.size .i64 17 (lpassN f k)) ∧ Hid (Row wr (w.heap.size + 1) 16) ∧ Hid (Below w.heap.size w wr)) (fun i _ => 3 - (intOf i).toNat)
  case atStart => exact ⟨0, rfl, by omega, hT, hR, hL⟩
  case round =>
    clear hT hR hL
    obtain ⟨k, rfl, hk, hT, hR, hL⟩ := hrel
    by_cases h3 : k = 3
    · subst h3
      obtain ⟨F, hF⟩ : ∃ F, lpassN f 3 = F := ⟨_, rfl⟩
      have hF3 := htm.out 3
      have hlow : ∀ i < 16, F i < 65536 := fun i hi => by rw [← hF, show lpassN f 3 = lpass (lpassN f 2) from rfl]; unfold lpass; rw [if_pos hi]; exact lout_lt _ _ _
      have hvl := dval_lt hlow
      have hdg := dgt_dval hlow
      rw [hF] at hT hfin
      rw [p16] at hvl
      obtain ⟨v, hv⟩ : ∃ v, dval F 16 = v := ⟨_, rfl⟩
      rw [hv] at hvl hdg hfin
      have hvf := Lib.hid hfin.out.2
      replace hdg := Lib.hid hdg
      replace hvl := Lib.hid hvl
      clear hF hv hlow hF3 hfin htm
      rw [show ((3 : Nat) : Int) = 3 from rfl]
      have hT1 := Lib.hid (hT.out.old (Obj.cells (arrK .i64 16 fun _ => 0) 26))
      have hR1 := Lib.hid ((row_old (o := Obj.cells (arrK .i64 16 fun _ => 0) 26) hR.out.lt).2 hR.out)
      have hL1 := Lib.hid (Below.trans hL.out ((below_alloc wr (Obj.cells (arrK .i64 16 fun _ => 0) 26)).mono hL.out.size))
      have hX1 := Lib.hid (At.new (w := wr) (k := .i64) (m := 16) (f := fun _ => 0) 26 rfl)
      have hlt := hR.out.lt
      clear hT hR hL
      go_upto_region 15 with (fail)
      obtain ⟨g, hg⟩ : ∃ g, wr.heap.size = g := ⟨_, rfl⟩
      rw [hg] at hX1 hlt ⊢
      clear hg
      generalize wr.alloc _ = W1 at *
      have hcc := arrK_cells .i64 17 F
      have hcp : ∀ ty, (Builtin.copy_ #[34, 34] ty #[.slice (some ⟨g, 0, none⟩) 16 16, .slice (some ⟨w.heap.size, 0, none⟩) 16 17]).run Try.prog W1.drew = .ok (.int .i64 16) (W1.drew.setRow g (arrK .i64 16 (dgt v))) := fun ty => by
        rw [run_copy_rows (N := 16) (M := 17) (n := 16) Try.underlying34 (by kernel_rfl) rfl (by omega) (by omega) (by rw [rowAt_drew, hT1.out.eq]; intro u hu; exact Array.all_eq_true_iff_forall_mem.1 hcc.2 u (by simpa using hu)) hX1.out.row.drew hT1.out.row.drew, rowAt_drew, rowAt_drew, hT1.out.eq, hX1.out.eq, splice_arrK (by omega) (by omega)]
        refine congrArg (fun z => Result.ok (Value.int .i64 16) (W1.drew.setRow g z)) (arrK_congr fun i hi => ?_)
        rw [if_pos ⟨by omega, by omega⟩, hdg.out i hi, Nat.zero_add, Nat.sub_zero]
      have hX2 := Lib.hid (At.put (k := .i64) (f := dgt v) hX1.out.row.drew)
      have hR2 := Lib.hid ((row_setRow_far (c' := arrK .i64 16 (dgt v)) (show w.heap.size + 1 ≠ g by omega)).2 hR1.out.drew)
      have hL2 := Lib.hid (below_setRow (c := arrK .i64 16 (dgt v)) hL1.out.drew (show w.heap.size ≤ g by omega))
      clear hX1 hR1 hL1 hT1 hdg hcc
      go_region
      generalize W1.drew.setRow _ _ = W2 at *
      clear hcp
      go_wp2_with fail
      go_loopw [] (fun wr => ∃ v : Nat, Hid (v < 2 ^ 256) ∧ Hid (v % fP = V) ∧ Hid (At wr g .i64 16 (dgt v)) ∧ Hid (Row wr (w.heap.size + 1) 16) ∧ Hid (Below w.heap.size w wr)) (fun wr => feOfW wr g)
      case atStart => exact ⟨v, hvl, hvf, hX2, hR2, hL2⟩
      case round =>
        clear hX2 hR2 hL2 hvl hvf v
        obtain ⟨v, hvl, hvf, hX, hR, hL⟩ := hrel
        obtain ⟨wo, hwo⟩ : ∃ wo : World, wo = wr := ⟨_, rfl⟩
        have hmo := Lib.hid (show feOfW wr g = v from feOfW_at hX.out hvl.out)
        have hX1 := Lib.hid (hX.out.old (Obj.cells (arrK .i64 16 fun _ => 0) 26))
        have hR1 := Lib.hid ((row_old (o := Obj.cells (arrK .i64 16 fun _ => 0) 26) hR.out.lt).2 hR.out)
        have hL1 := Lib.hid (Below.trans hL.out ((below_alloc wr (Obj.cells (arrK .i64 16 fun _ => 0) 26)).mono hL.out.size))
        have hY1 := Lib.hid ((At.new (w := wr) (k := .i64) (m := 16) (f := fun _ => 0) 26 rfl).congr (f' := mixD (ddif (dgt v) pdig) 0) fun i _ => by simp [mixD])
        have hlg := hX.out.lt
        have hlr := hR.out.lt
        have hlessP := Lib.hid (less_P hvl.out)
        clear hX hR hL
        go_upto_region 18 with (fail)
        obtain ⟨y, hy⟩ : ∃ y, wr.heap.size = y := ⟨_, rfl⟩
        rw [hy] at hY1 hlg hlr ⊢
        clear hy
        generalize wr.alloc _ = W3 at *
        go_wp2_with fail
        go_loopw [6, 38] (fun b i wr => ∃ s : Nat, i = .int .i64 s ∧ s ≤ 16 ∧ b = .int .i64 (dbor (dgt v) pdig s : Nat) ∧ Hid (At wr g .i64 16 (dgt v)) ∧ Hid (At wr y .i64 16 (mixD (ddif (dgt v) pdig) s)) ∧ Hid (Row wr (w.heap.size + 1) 16) ∧ Hid (Below w.heap.size w wr)) (fun _ i _ => 16 - (intOf i).toNat)
        case atStart => exact ⟨0, rfl, by omega, rfl, hX1, hY1, hR1, hL1⟩
        case round =>
          clear hX1 hY1 hR1 hL1
          obtain ⟨s, rfl, hs, rfl, hX, hY, hR, hL⟩ := hrel
          by_cases h16 : s = 16
          · subst h16
            rw [show ((16 : Nat) : Int) = 16 from rfl]
            by_cases hlt : v < fP
            · rw [hlessP.out.1 hlt, show ((1 : Nat) : Int) = 1 from rfl]
              have hVv : V = v := by rw [← hvf.out, Nat.mod_eq_of_lt hlt]
              have hr1 := hX.out.row
              have hr2 := hX.out.eq
              have hr3 := hR.out
              have hcv := arrK_cells .i64 16 (dgt v)
              clear hlt hvf hvl hmo hlessP hY
              subst hVv
              go_wp2_with fail
              exact ret_stored (p := 2) (ty := 26) (g := w.heap.size + 1) (n := 16) (c := arrK .i64 16 (dgt V)) rfl Try.underlying26 rfl (by kernel_rfl) rfl hr3 hcv.1 rfl ⟨rfl, below_setRow hL.out (by omega)⟩
            · have hge : fP ≤ v := by omega
              obtain ⟨hb0, hdv⟩ := hlessP.out.2 hge
              rw [hb0, show ((0 : Nat) : Int) = 0 from rfl]
              have hY2 : At wr y .i64 16 (dgt (v - fP)) := hY.out.congr fun i hi => by
                unfold mixD
                rw [if_pos hi, ← hdv, dgt_dval (fun i _ => ddif_lt (dgt_lt v i) (pdig_lt i)) i hi]
              have hn1 := Lib.hid (show v - fP < 2 ^ 256 from Nat.lt_of_le_of_lt (Nat.sub_le _ _) hvl.out)
              have hn2 := Lib.hid (show (v - fP) % fP = V by rw [← hvf.out, Nat.mod_eq_sub_mod hge])
              have hn3 := Lib.hid (show v - fP < v by have := fP_pos; omega)
              obtain ⟨v2, hv2⟩ : ∃ v2, v - fP = v2 := ⟨_, rfl⟩
              rw [hv2] at hY2 hn1 hn2 hn3
              have hr1 := hY2.row
              have hr2 := hY2.eq
              have hr3 := hX.out.row
              have hcv := arrK_cells .i64 16 (dgt v2)
              have hX2 := Lib.hid (At.put (k := .i64) (f := dgt v2) hX.out.row)
              have hR2 := Lib.hid ((row_setRow_far (c' := arrK .i64 16 (dgt v2)) (show w.heap.size + 1 ≠ g by omega)).2 hR.out)
              have hL2 := Lib.hid (below_setRow (c := arrK .i64 16 (dgt v2)) hL.out (show w.heap.size ≤ g by omega))
              clear hv2 hdv hb0 hge hlt hlessP hvf hvl hY hY2 hX hR hL
              go_wp2_with fail
              go_roundw
              case rel => exact ⟨v2, hn1, hn2, hX2, hR2, hL2⟩
              case measure => rw [hmo.out, feOfW_at hX2.out hn1.out]; exact hn3.out
          · have hs16 : (s : Int) < 16 := by omega
            have cs := hX.out.cell (i := s) (by omega)
            have cy := hY.out.cell (i := s) (by omega)
            have fy := hY.out.row.frozen s
            have hd2 : dbor (dgt v) pdig (s + 1) = if dgt v s < pdig s + dbor (dgt v) pdig s then 1 else 0 := rfl
            have hd1 : ddif (dgt v) pdig s = if dgt v s < pdig s + dbor (dgt v) pdig s then dgt v s + 65536 - pdig s - dbor (dgt v) pdig s else dgt v s - pdig s - dbor (dgt v) pdig s := rfl
            have hbl := dbor_le (dgt v) pdig s
            have hfl := dgt_lt v s
            have hA2 : Hid (At (wr.setCell ⟨y, s, none⟩ (.int .i64 (ddif (dgt v) pdig s : Nat))) g .i64 16 (dgt v)) := Lib.hid (hX.out.farC (by simp; omega))
            have hY2 := Lib.hid ((hY.out.set s (ddif (dgt v) pdig s)).congr fun p _ => mixD_step _ s p)
            have hR2 : Hid (Row (wr.setCell ⟨y, s, none⟩ (.int .i64 (ddif (dgt v) pdig s : Nat))) (w.heap.size + 1) 16) := Lib.hid (row_setCell.2 hR.out)
            have hL2 := Lib.hid (show Below w.heap.size w (wr.setCell ⟨y, s, none⟩ (.int .i64 (ddif (dgt v) pdig s : Nat))) from hL.out.setCell (by simp; omega) _)
            clear hX hY hR hL
            obtain ⟨b, hb⟩ : ∃ b, dbor (dgt v) pdig s = b := ⟨_, rfl⟩
            obtain ⟨fs, hfs⟩ : ∃ b, dgt v s = b := ⟨_, rfl⟩
            rw [hb] at hd1 hd2 hbl ⊢
            rw [hfs] at hd1 hd2 hfl cs
            clear hb hfs
            generalize mixD (ddif (dgt v) pdig) s s = yy at *
            by_cases h0 : s = 0
            · have hm : pdig s = 65517 := by rw [h0]; rfl
              have t0 : ((s : Int) == 0) = true := by rw [beq_iff_eq]; omega
              have t15 : ((s : Int) == 15) = false := by rw [beq_eq_false_iff_ne]; omega
              clear h0
              rw [hm] at hd1 hd2
              by_cases hlt : fs < 65517 + b
              · rw [if_pos hlt] at hd1 hd2
                obtain ⟨d, hd⟩ : ∃ d, d = fs + 65536 - 65517 - b := ⟨_, rfl⟩
                rw [← hd] at hd1
                rw [hd1] at hY2 hA2 hR2 hL2
                have hw1 : IntKind.i64.wrap ((fs : Int) - 65517) = (fs : Int) - 65517 := by rw [IntKind.wrap_i64]; omega
                have hw2 : IntKind.i64.wrap ((fs : Int) - 65517 - (b : Int)) = (d : Int) - 65536 := by rw [IntKind.wrap_i64]; omega
                have hneg : (d : Int) - 65536 < 0 := by omega
                have hw3 : IntKind.i64.wrap ((d : Int) - 65536 + 65536) = (d : Int) := by rw [IntKind.wrap_i64]; omega
                replace hd2 := Lib.hid hd2
                clear hd hd1 hlt hbl hfl hm
                go_wp2_with fail
                go_roundw
                case rel => exact ⟨s + 1, by go_num, by omega, by rw [hd2.out]; go_num, hA2, hY2, hR2, hL2⟩
                case measure => simp [intOf]; omega
              · rw [if_neg hlt] at hd1 hd2
                obtain ⟨d, hd⟩ : ∃ d, d = fs - 65517 - b := ⟨_, rfl⟩
                rw [← hd] at hd1
                rw [hd1] at hY2 hA2 hR2 hL2
                have hw1 : IntKind.i64.wrap ((fs : Int) - 65517) = (fs : Int) - 65517 := by rw [IntKind.wrap_i64]; omega
                have hw2 : IntKind.i64.wrap ((fs : Int) - 65517 - (b : Int)) = (d : Int) := by rw [IntKind.wrap_i64]; omega
                have hneg : ¬ (d : Int) < 0 := by omega
                replace hd2 := Lib.hid hd2
                clear hd hd1 hlt hbl hfl hm
                go_wp2_with fail
                go_roundw
                case rel => exact ⟨s + 1, by go_num, by omega, by rw [hd2.out]; go_num, hA2, hY2, hR2, hL2⟩
                case measure => simp [intOf]; omega
            · have t0 : ((s : Int) == 0) = false := by rw [beq_eq_false_iff_ne]; omega
              by_cases h15 : s = 15
              · have hm : pdig s = 32767 := by rw [h15]; rfl
                have t15 : ((s : Int) == 15) = true := by rw [beq_iff_eq]; omega
                clear h15 h0
                rw [hm] at hd1 hd2
                by_cases hlt : fs < 32767 + b
                · rw [if_pos hlt] at hd1 hd2
                  obtain ⟨d, hd⟩ : ∃ d, d = fs + 65536 - 32767 - b := ⟨_, rfl⟩
                  rw [← hd] at hd1
                  rw [hd1] at hY2 hA2 hR2 hL2
                  have hw1 : IntKind.i64.wrap ((fs : Int) - 32767) = (fs : Int) - 32767 := by rw [IntKind.wrap_i64]; omega
                  have hw2 : IntKind.i64.wrap ((fs : Int) - 32767 - (b : Int)) = (d : Int) - 65536 := by rw [IntKind.wrap_i64]; omega
                  have hneg : (d : Int) - 65536 < 0 := by omega
                  have hw3 : IntKind.i64.wrap ((d : Int) - 65536 + 65536) = (d : Int) := by rw [IntKind.wrap_i64]; omega
                  replace hd2 := Lib.hid hd2
                  clear hd hd1 hlt hbl hfl hm
                  go_wp2_with fail
                  go_roundw
                  case rel => exact ⟨s + 1, by go_num, by omega, by rw [hd2.out]; go_num, hA2, hY2, hR2, hL2⟩
                  case measure => simp [intOf]; omega
                · rw [if_neg hlt] at hd1 hd2
                  obtain ⟨d, hd⟩ : ∃ d, d = fs - 32767 - b := ⟨_, rfl⟩
                  rw [← hd] at hd1
                  rw [hd1] at hY2 hA2 hR2 hL2
                  have hw1 : IntKind.i64.wrap ((fs : Int) - 32767) = (fs : Int) - 32767 := by rw [IntKind.wrap_i64]; omega
                  have hw2 : IntKind.i64.wrap ((fs : Int) - 32767 - (b : Int)) = (d : Int) := by rw [IntKind.wrap_i64]; omega
                  have hneg : ¬ (d : Int) < 0 := by omega
                  replace hd2 := Lib.hid hd2
                  clear hd hd1 hlt hbl hfl hm
                  go_wp2_with fail
                  go_roundw
                  case rel => exact ⟨s + 1, by go_num, by omega, by rw [hd2.out]; go_num, hA2, hY2, hR2, hL2⟩
                  case measure => simp [intOf]; omega
              · have hm : pdig s = 65535 := by unfold pdig; rw [if_neg h0, if_neg h15]
                have t15 : ((s : Int) == 15) = false := by rw [beq_eq_false_iff_ne]; omega
                rw [hm] at hd1 hd2
                by_cases hlt : fs < 65535 + b
                · rw [if_pos hlt] at hd1 hd2
                  obtain ⟨d, hd⟩ : ∃ d, d = fs + 65536 - 65535 - b := ⟨_, rfl⟩
                  rw [← hd] at hd1
                  rw [hd1] at hY2 hA2 hR2 hL2
                  have hw1 : IntKind.i64.wrap ((fs : Int) - 65535) = (fs : Int) - 65535 := by rw [IntKind.wrap_i64]; omega
                  have hw2 : IntKind.i64.wrap ((fs : Int) - 65535 - (b : Int)) = (d : Int) - 65536 := by rw [IntKind.wrap_i64]; omega
                  have hneg : (d : Int) - 65536 < 0 := by omega
                  have hw3 : IntKind.i64.wrap ((d : Int) - 65536 + 65536) = (d : Int) := by rw [IntKind.wrap_i64]; omega
                  replace hd2 := Lib.hid hd2
                  clear hd hd1 hlt hbl hfl hm
                  go_wp2_with fail
                  go_roundw
                  case rel => exact ⟨s + 1, by go_num, by omega, by rw [hd2.out]; go_num, hA2, hY2, hR2, hL2⟩
                  case measure => simp [intOf]; omega
                · rw [if_neg hlt] at hd1 hd2
                  obtain ⟨d, hd⟩ : ∃ d, d = fs - 65535 - b := ⟨_, rfl⟩
                  rw [← hd] at hd1
                  rw [hd1] at hY2 hA2 hR2 hL2
                  have hw1 : IntKind.i64.wrap ((fs : Int) - 65535) = (fs : Int) - 65535 := by rw [IntKind.wrap_i64]; omega
                  have hw2 : IntKind.i64.wrap ((fs : Int) - 65535 - (b : Int)) = (d : Int) := by rw [IntKind.wrap_i64]; omega
                  have hneg : ¬ (d : Int) < 0 := by omega
                  replace hd2 := Lib.hid hd2
                  clear hd hd1 hlt hbl hfl hm
                  go_wp2_with fail
                  go_roundw
                  case rel => exact ⟨s + 1, by go_num, by omega, by rw [hd2.out]; go_num, hA2, hY2, hR2, hL2⟩
                  case measure => simp [intOf]; omega
    · have hk3 : (k : Int) < 3 := by omega
      have htk := htm.out k
      have hpk : lpass (lpassN f k) = lpassN f (k + 1) := rfl
      obtain ⟨F, hF⟩ : ∃ F, lpassN f k = F := ⟨_, rfl⟩
      rw [hF] at hT htk hpk
      replace hpk := Lib.hid hpk
      have h16 := htk 16 (by omega)
      have c16 := hT.out.cell (i := 16) (by omega)
      have f16 := hT.out.row.frozen 16
      obtain ⟨c0, hc0'⟩ : ∃ c, F 16 * 38 = c := ⟨_, rfl⟩
      have hw1 : IntKind.i64.wrap ((F 16 : Int) * 38) = (c0 : Int) := by rw [IntKind.wrap_i64]; omega
      have hcb : c0 ≤ 1369094286720630784 := by omega
      have hT1 := Lib.hid ((hT.out.set 16 0).congr fun i _ => midF_start F c0 i)
      have hlc := Lib.hid (fun s (hs : s ≤ 17) => lcar_le htk hcb s hs)
      have hFl := Lib.hid (fun s (hs : s < 17) => htk s hs)
      have hpk2 := Lib.hid (fun p hp => midF_end F p hp)
      rw [hc0'] at hpk2
      have hR1 := Lib.hid (row_setCell (a := ⟨w.heap.size, 16, none⟩) (v := .int .i64 (0 : Nat)) |>.2 hR.out)
      have hL1 := Lib.hid (show Below w.heap.size w (wr.setCell ⟨w.heap.size, 16, none⟩ (.int .i64 (0 : Nat))) from hL.out.setCell (Nat.le_refl _) _)
      clear hF htk hc0' hcb hT hR hL
      generalize F 16 = x16 at *
      go_wp2_with fail
      rw [show ((0 : Nat) : Int) = 0 from rfl] at hT1 hR1 hL1
      generalize wr.setCell _ _ = wr1 at *
      clear hw1 h16 c16 f16
      go_loopw [3, 17] (fun c i wr => ∃ s : Nat, i = .int .i64 s ∧ s ≤ 16 ∧ c = .int .i64 (lcar F c0 s : Nat) ∧ Hid (At wr w.heap.size .i64 17 (midF F c0 s)) ∧ Hid (Row wr (w.heap.size + 1) 16) ∧ Hid (Below w.heap.size w wr)) (fun _ i _ => 16 - (intOf i).toNat)
      case atStart => exact ⟨0, rfl, by omega, rfl, hT1, hR1, hL1⟩
      case round =>
        clear hT1 hR1 hL1
        obtain ⟨s, rfl, hs, rfl, hT, hR, hL⟩ := hrel
        by_cases h16 : s = 16
        · subst h16
          have c16 := hT.out.cell (i := 16) (by omega)
          have f16 := hT.out.row.frozen 16
          have hT2 := Lib.hid ((hT.out.set 16 (lcar F c0 16)).congr hpk2.out)
          have hR2 : Hid (Row (wr.setCell ⟨w.heap.size, 16, none⟩ (.int .i64 (lcar F c0 16 : Nat))) (w.heap.size + 1) 16) := Lib.hid (row_setCell.2 hR.out)
          have hL2 := Lib.hid (show Below w.heap.size w (wr.setCell ⟨w.heap.size, 16, none⟩ (.int .i64 (lcar F c0 16 : Nat))) from hL.out.setCell (Nat.le_refl _) _)
          rw [hpk.out] at hT2
          clear hT hR hL hpk2 hpk
          generalize midF F c0 16 16 = y at *
          go_wp2_with fail
          go_roundw
          case rel => exact ⟨k + 1, by go_num, by omega, hT2, hR2, hL2⟩
          case measure => simp [intOf]; omega
        · have hs16 : (s : Int) < 16 := by omega
          have cs := hT.out.cell (i := s) (by omega)
          have fs := hT.out.row.frozen s
          rw [show midF F c0 s s = F s by unfold midF; rw [if_neg (by omega), if_neg (by omega)]] at cs
          have hl := hlc.out s (by omega)
          have hb := hFl.out s (by omega)
          have hn1 := Lib.hid (show lcar F c0 (s + 1) = (lcar F c0 s + F s) / 65536 from rfl)
          have hn2 := Lib.hid (show lout F c0 s = (lcar F c0 s + F s) % 65536 from rfl)
          have hT2 := Lib.hid ((hT.out.set s (lout F c0 s)).congr fun p _ => midF_step F c0 s p)
          have hR2 : Hid (Row (wr.setCell ⟨w.heap.size, s, none⟩ (.int .i64 (lout F c0 s : Nat))) (w.heap.size + 1) 16) := Lib.hid (row_setCell.2 hR.out)
          have hL2 := Lib.hid (show Below w.heap.size w (wr.setCell ⟨w.heap.size, s, none⟩ (.int .i64 (lout F c0 s : Nat))) from hL.out.setCell (Nat.le_refl _) _)
          rw [hn2.out] at hT2 hR2 hL2
          obtain ⟨x, hx⟩ : ∃ x, lcar F c0 s + F s = x := ⟨_, rfl⟩
          rw [hx] at hn1 hT2 hR2 hL2
          have hw1 : IntKind.i64.wrap ((lcar F c0 s : Int) + (F s : Int)) = (x : Int) := by rw [IntKind.wrap_i64]; omega
          have hand := num_andM (a := x) (by omega)
          have hxb : x < 9223372036854775808 := by omega
          clear hx hT hR hL hn2 hl hb
          generalize lcar F c0 s = c at *
          generalize F s = y at *
          rw [show ((x % 65536 : Nat) : Int) = (x : Int) % 65536 from by omega] at hT2 hR2 hL2
          go_wp2_with fail
          go_roundw
          case rel => exact ⟨s + 1, by go_num, by omega, congrArg (Value.int .i64) (by rw [hn1.out]; omega), hT2, hR2, hL2⟩
          case measure => simp [intOf]; omega
end Go.Proofs.Ytodcjeaannfbnaa
