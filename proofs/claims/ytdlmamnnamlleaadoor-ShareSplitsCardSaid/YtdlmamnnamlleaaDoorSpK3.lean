/- Several texts one behind the other: Sp2 Ok Sp3 Sp4 Sp5 Sp6 Args2 Door. -/
import Derived.Test.YtdlmamnnamlleaaDoorSpK2
import Derived.Great.BuildSlice
import Derived.Test.YtdlmamnnamlleaaDoorOwn
import Derived.Test.YtdlmamnnamlleaaDoorOpen
import Derived.SizedLaws
import Derived.Test.YtdlmamnnamlleaaDoorSpK1
import Derived.Test.YtdlmamnnamlleaaDoorArgs
import Derived.LaidMore
import Derived.Stop.Joined
namespace Go.Proofs.YtdlmamnnamlleaaDoor
open Go Go.ChangeShapes Go.WideShapes Go.ChangeAt Go.RowKit
set_option maxHeartbeats 4000000
set_option maxRecDepth 100000
theorem run_bsN {c : Array Value} (hc : c.size = 4) (w : World) : (Instr.buildSlice 110 1 #[(0, .agg c)]).run Tryd.prog w = .ok (.slice (some ⟨w.heap.size, 0, none⟩) 1 1) (w.alloc (.cells c 41)) := by
  obtain ⟨i, z, hi, hz, hs, -, hzs⟩ := SNum.info
  refine run_buildSlice w _ _ 1 _ c i z SNum.under hi hz (by rw [hs]; omega) (by rw [hs]; omega) ?_
  rw [hs]
  have h := Great.fill_whole (s := 4) (by omega) [.agg c] ((Array.range (1 * 4)).map (z.cells[· % z.cells.size]!)) (by intro v hv; simp at hv; subst hv; exact hc) (by simp)
  have e : ([Value.agg c].flatMap fun v => v.cells.toList).toArray = c := by simp [Value.cells]
  rw [e] at h
  exact h
section
variable {w : World} {dst : Option Tmp} {x : Operand} {tt : TypeId} {pos : String} {af : Array Edge} {gd : Option (Nat × Bool)} {a : Act} {K : Act → World → Prop} {Q : Exit → Act → World → Prop} {ρ : Operand → Value}
theorem execb_N (h : IsAgg (ρ x) 4) : (execOp ρ ⟨dst, .buildSlice 110 1 #[(0, x)], tt, pos, af, gd⟩).run Tryd.prog w = .ok (.value (.slice (some ⟨w.heap.size, 0, none⟩) 1 1)) (w.alloc (.cells (cellsV (ρ x)) 41)) := by
  obtain ⟨c, hc⟩ : ∃ c, ρ x = .agg c := by
    cases hv : ρ x <;> first | exact ⟨_, rfl⟩ | (rw [hv] at h; exact h.elim)
  rw [hc] at h ⊢
  have h2 := run_bsN (c := c) h.1 w
  unfold execOp
  simp only [List.map_toArray, List.map_cons, List.map_nil, hc, Sem.run_bind, h2, Result.andThen_ok]
  rfl
theorem build_N (h : IsAgg (a.eval x) 4) : Oper.wp Tryd.prog ⟨dst, .buildSlice 110 1 #[(0, x)], tt, pos, af, gd⟩ a w K Q ↔ K (a.put dst (.slice (some ⟨w.heap.size, 0, none⟩) 1 1)) (w.alloc (.cells (cellsV (a.eval x)) 41)) := by
  unfold Oper.wp
  rw [execb_N h]
  exact Iff.rfl
theorem load_nE (h : LdOk w 4 (a.eval x)) : Oper.wp Tryd.prog ⟨dst, .load 41 x, tt, pos, af, gd⟩ a w K Q ↔ K (a.put dst (.agg (ldC w 4 (a.eval x)))) w := wp_load_el Tryd.underlying41 rfl (by kernel_rfl) h
end
theorem NumsO.setRow {B g g' : Nat} {W : World} {v : Value} {l : List Nat} {c : Array Value} (h : NumsO B g W v l) (hne : ∀ b, v.ownBlock = some b → b ≠ g') : NumsO B g (W.setRow g' c) v l := by
  refine ⟨⟨h.own.1, ?_⟩, h.off⟩
  rcases h.own.2 with h1 | ⟨b, cap, cur, h1, h2, h3, h4⟩
  · exact .inl h1
  · exact .inr ⟨b, cap, cur, h1, h2, (setRow_other W g' b c (hne b (by rw [h1]; rfl))).trans h3, h4⟩
/-! ### The shares, stored one by one -/
def shc (x : Int) (y j : Nat) : Value := if j = 0 then .int .i64 x else .int .u64 (wd y (j - 1) : Nat)
theorem shA_c (x : Int) (y : Nat) : shA x y = arrV 5 (shc x y) := rfl
def outA (n m : Nat) (Y : Nat → Nat) : Array Value := arrV (5 * n) fun i => if i / 5 < m then shc ((i / 5 + 1 : Nat) : Int) (Y (i / 5)) (i % 5) else shc 0 0 (i % 5)
theorem out_made (n : Nat) (Y : Nat → Nat) : madeCells #[Value.int IntKind.i64 0, Value.int IntKind.u64 0, Value.int IntKind.u64 0, Value.int IntKind.u64 0, Value.int IntKind.u64 0] (n * 5) = outA n 0 Y := by
  rw [zeroSh]
  apply Array.ext_getElem?
  intro i
  unfold outA
  by_cases hi : i < n * 5
  · rw [arrV_at (by omega), if_neg (by omega)]
    have h5 : i % 5 < 5 := Nat.mod_lt _ (by omega)
    have h6 : (shA 0 0)[i % 5]? = some (shc 0 0 (i % 5)) := arrV_at h5
    have h7 : (shA 0 0).size = 5 := arrV_size _ _
    simp [madeCells, hi, h7]
    rw [getElem!_def, h6]
  · rw [Array.getElem?_eq_none (by rw [size_madeCells]; omega), Array.getElem?_eq_none (by rw [arrV_size]; omega)]
theorem out_put {n m : Nat} {Y : Nat → Nat} (_hm : m < n) : putAt (outA n m Y) (5 * m) (shA ((m + 1 : Nat) : Int) (Y m)).toList = outA n (m + 1) Y := by
  unfold outA
  rw [putAt_arrV]
  refine arrV_congr fun i hi => ?_
  rw [Array.getElem?_toList]
  by_cases h1 : 5 * m ≤ i
  · rw [if_pos h1]
    by_cases h2 : i < 5 * m + 5
    · have h3 : (shA ((m + 1 : Nat) : Int) (Y m))[i - 5 * m]? = some (shc ((m + 1 : Nat) : Int) (Y m) (i - 5 * m)) := arrV_at (by omega)
      rw [h3, Option.getD_some, show i / 5 = m by omega, show i - 5 * m = i % 5 by omega, if_pos (Nat.lt_succ_self m)]
    · rw [Array.getElem?_eq_none (by rw [shA_c, arrV_size]; omega), if_neg (by omega), if_neg (by omega)]
      rfl
  · rw [if_neg h1, if_pos (by omega), if_pos (by omega)]
theorem out_shs {w : World} {g n : Nat} {Y : Nat → Nat} (h : Bw w g (5 * n) (outA n n Y)) : Shs w (some ⟨g, 0, none⟩) n (fun i => ((i + 1 : Nat) : Int)) Y := ⟨fun i hi => ⟨⟨g, 0, none⟩, rfl, h.lt, fun k hk => by
  rw [pl_add, pl_add, Nat.zero_add]
  have h2 : (outA n n Y)[i * 5 + k]? = some (shc ((i + 1 : Nat) : Int) (Y i) k) := by
    unfold outA
    rw [arrV_at (by omega), if_pos (by omega), show (i * 5 + k) / 5 = i by omega, show (i * 5 + k) % 5 = k by omega]
  rw [h.cell h2]
  exact (arrV_at hk).symm⟩⟩
theorem SShs : SlT Tryd.prog 60 114 5 40 := SlT.mk' Tryd.underlying60 (by kernel_rfl) (by omega)
theorem run_make_sh (n : Nat) (Y : Nat → Nat) (hn : n ≤ 1000000) (w : World) : (Instr.makeSlice 60 (.int .i64 (n : Int)) (.int .i64 (n : Int))).run Tryd.prog w = .ok (.slice (some ⟨w.heap.size, 0, none⟩) n n) (w.alloc (.cells (outA n 0 Y) 114)) := by
  have hinfo : (Tryd.prog.info? 114).map (fun i => (i.zero.map Value.cells, i.size, i.bytes)) = some (some #[Value.int IntKind.i64 0, Value.int IntKind.u64 0, Value.int IntKind.u64 0, Value.int IntKind.u64 0, Value.int IntKind.u64 0], 5, 40) := by kernel_rfl
  obtain ⟨i, hi, hzz⟩ := Option.map_eq_some_iff.1 hinfo
  simp only [Prod.mk.injEq] at hzz
  obtain ⟨hz, hs, hb⟩ := hzz
  obtain ⟨z, hz1, hz2⟩ := Option.map_eq_some_iff.1 hz
  have hr := run_make (P := Tryd.prog) w 60 114 i z SShs.under hi hz1 .i64 .i64 n n (by omega) (by omega) (by rw [hb]; omega) (by omega)
  simp only [Int.toNat_natCast, hs, hz2] at hr
  rw [hr, out_made]
theorem wp_stShP {w : World} {o : Oper} {x y : Operand} {a : Act} {K : Act → World → Prop} {Q : Exit → Act → World → Prop} {g f n : Nat} {c : Array Value} (ho : o.op = .store 114 x y) (hx : a.eval x = .pointer (some ⟨g, f, none⟩)) (hy : a.eval y = .agg c) (hc : Cells c 5) (hR : Row w g n) (hf : f + 5 ≤ n)
    (h : K (a.put o.dst undef) (w.setRow g (putAt (rowAt w g) f c.toList))) : Oper.wp Tryd.prog o a w K Q := by
  obtain ⟨dst, op, tt, pos, af, gd⟩ := o
  subst ho
  refine (wp_store_part (n := n) (m := 5) (by kernel_rfl) (by rw [hx]; trivial) (by rw [hx]; exact hR) (by rw [hx]; exact hf) (by rw [hy]; exact hc)).2 ?_
  rw [hx, hy]
  exact h
attribute [local go_sem ↓] load_nE load_num store_num execl_num execs_num build_N
attribute [local go_sem] isHead_mk blkOf_mk isAgg_mk cellsV_mk row_drew rowAt_drew row_new_cells row_old rowAt_new rowAt_old setRow_new zeroNum
theorem coF_lt {K : Nat → W32} {seed : List UInt8} {X N : Nat → Nat} {Z : Nat → Int} {s : Nat} (h : Orc K seed X N Z) (hs : s < 2 ^ 256) : ∀ j, coF X N s j < 2 ^ 256
  | 0 => hs
  | _ + 1 => (h.sm _).2
theorem hrn_lt {c : Nat → Nat} {k x : Nat} (h : ∀ j, c j < 2 ^ 256) : ∀ t, hrn c k x t < 2 ^ 256
  | 0 => h _
  | _ + 1 => Nat.lt_trans (Nat.mod_lt _ (Nat.lt_trans (by omega) fL_pos)) fL_256
theorem coF_start {X N : Nat → Nat} {s j : Nat} (hj : j < 1) : ([s] : List Nat)[j]?.getD 0 = coF X N s j := by
  have h0 : j = 0 := by omega
  subst h0
  rfl
theorem share_Split (K : Nat → W32) (X N : Nat → Nat) (Z : Nat → Int) (A : Option Addr) (seed : List UInt8) (c s : Nat) (k n : Int) (w : World) (hT : Tabs K w) (hs : Bs w A seed c) (hO : Orc K seed X N Z) (hs256 : s < 2 ^ 256)
    (hki : -9223372036854775808 ≤ k ∧ k < 9223372036854775808) (hni : -9223372036854775808 ≤ n ∧ n < 9223372036854775808) :
    Calls Tryd.prog 22 #[numV s, .int .i64 k, .int .i64 n, .slice A seed.length c] w (SpR X N Z s k n w) := by
  have hTh := Lib.hid (hT.step (below_alloc w (Obj.cells (arrK .u64 4 (wd s)) 41)))
  have hsh := Lib.hid (hs.step (below_alloc w (Obj.cells (arrK .u64 4 (wd s)) 41)))
  have hG0 : At (w.alloc (Obj.cells (arrK .u64 4 (wd s)) 41)) w.heap.size .u64 4 (wd s) := At.new _ rfl
  have hL0 := below_alloc w (Obj.cells (arrK .u64 4 (wd s)) 41)
  have kCm := Lib.hid (fun V => limb_Cmp s fL V hs256 fL_256)
  have kLl := Lib.hid (fun V => scalar_L V)
  have hOh := Lib.hid hO
  have : ∀ i, SpIs N Z s k n i i → True := fun _ _ => trivial
  have hb4 := Lib.hid (fun h : BadSp k n s => (show SpIs N Z s k n 0 1 from .inl ⟨h, rfl, rfl⟩))
  have hcs := arrK_cells .u64 4 (wd s)
  unfold numV at kCm kLl ⊢
  have hfL := Lib.hid (show (order s fL = -1 ∧ s < fL) ∨ ((order s fL = 0 ∨ order s fL = 1) ∧ fL ≤ s) by
    unfold order
    by_cases h : s < fL
    · exact .inl ⟨if_pos h, h⟩
    · refine .inr ⟨?_, by omega⟩
      rw [if_neg h]
      split
      · exact .inr rfl
      · exact .inl rfl)
  obtain ⟨l0, hl0⟩ : ∃ l, fL = l := ⟨_, rfl⟩
  rw [hl0] at kCm kLl hfL
  obtain ⟨od, hod⟩ : ∃ o, order s l0 = o := ⟨_, rfl⟩
  rw [hod] at kCm hfL
  have hl0h := Lib.hid hl0
  have hkh := Lib.hid hki
  have hnh := Lib.hid hni
  have hs2h := Lib.hid hs256
  clear hl0 hod hT hs hO hki hni hs256
  go_enter Tryd.func22, Tryd.ntmps22
  go_upto_region 1 with (fail)
  have hG := Lib.hid hG0
  have hL := Lib.hid hL0
  clear hG0 hL0
  generalize w.alloc _ = W0 at *
  by_cases h1 : k < 1
  · have d1 : decide (k < 1) = true := by simp; omega
    generalize ha0 : Act.mk _ _ = a0
    have e1 : a0.tmps[1]?.getD undef = .int .i64 k := by rw [← ha0]; rfl
    have e2 : a0.tmps[2]?.getD undef = .int .i64 n := by rw [← ha0]; rfl
    have e4 : a0.tmps[4]?.getD undef = .pointer (some ⟨w.heap.size, 0, none⟩) := by rw [← ha0]; rfl
    have hz0 : a0.tmps.size = 93 := by rw [← ha0]; rfl
    have hha0 := Lib.hid ha0
    clear ha0
    refine wp_region_calm (fun jx_ => match jx_ with | 0 => SRel.is (.int .i64 k) | 1 => SRel.is (.bool true) | 2 => SRel.is (.bool true) | 3 => SRel.any | 4 => SRel.any | 5 => SRel.any | 6 => SRel.is (.bool true) | 7 => SRel.is (.bool true) | 8 => SRel.any | 9 => SRel.any | 10 => SRel.is (.bool true) | 11 => SRel.is (.bool true) | 12 => SRel.any | 13 => SRel.any | 14 => SRel.any | 15 => SRel.any | 16 => SRel.is (.bool true) | _ => SRel.any) (by kernel_rfl) (by kernel_rfl) (by kernel_rfl) (slotsOk_of hz0 (by kernel_rfl)) ⟨?_, ?_, ?_, ?_, ?_, ?_, ?_, ?_, ?_, ?_, ?_, ?_, ?_, ?_, ?_, ?_, ?_, trivial⟩ ?_
    · refine calm_step rfl fun a ω κ hb hu hc hK => ?_
      have h1 : a.tmps[1]?.getD undef = .int .i64 k := (hu 1 rfl).trans e1
      have hk := Lib.hid (fun w1 (h : Below ω.heap.size ω w1) => hK (.int .i64 k) w1 rfl h)
      clear hK hu hc
      go_simp
      exact hk.out _ (Below.refl _ _)
    · refine calm_step rfl fun a ω κ hb hu hc hK => ?_
      have h18 : a.tmps[18]?.getD undef = .int .i64 k := hc 0 18 rfl rfl
      have hk := Lib.hid (fun w1 (h : Below ω.heap.size ω w1) => hK (.bool true) w1 rfl h)
      clear hK hu hc
      go_simp
      exact hk.out _ (Below.refl _ _)
    · refine calm_step rfl fun a ω κ hb hu hc hK => ?_
      have h19 : a.tmps[19]?.getD undef = .bool true := hc 1 19 rfl rfl
      have hk := Lib.hid (fun w1 (h : Below ω.heap.size ω w1) => hK (.bool true) w1 rfl h)
      clear hK hu hc
      go_simp
      exact hk.out _ (Below.refl _ _)
    · exact calm_step_skip (g := 2) (b := false) (d := 20) rfl rfl (fun a w hc => hc 2 20 rfl rfl) (fun _ => trivial)
    · exact calm_step_skip (g := 2) (b := false) (d := 20) rfl rfl (fun a w hc => hc 2 20 rfl rfl) (fun _ => trivial)
    · exact calm_step_skip (g := 2) (b := false) (d := 20) rfl rfl (fun a w hc => hc 2 20 rfl rfl) (fun _ => trivial)
    · refine calm_step rfl fun a ω κ hb hu hc hK => ?_
      have h20 : a.tmps[20]?.getD undef = .bool true := hc 2 20 rfl rfl
      have h23 : (SRel.any).p (a.tmps[23]?.getD undef) ω := hc 5 23 rfl rfl
      have hk := Lib.hid (fun w1 (h : Below ω.heap.size ω w1) => hK (.bool true) w1 rfl h)
      clear hK hu hc
      go_simp
      exact hk.out _ (Below.refl _ _)
    · refine calm_step rfl fun a ω κ hb hu hc hK => ?_
      have h24 : a.tmps[24]?.getD undef = .bool true := hc 6 24 rfl rfl
      have hk := Lib.hid (fun w1 (h : Below ω.heap.size ω w1) => hK (.bool true) w1 rfl h)
      clear hK hu hc
      go_simp
      exact hk.out _ (Below.refl _ _)
    · exact calm_step_skip (g := 7) (b := false) (d := 25) rfl rfl (fun a w hc => hc 7 25 rfl rfl) (fun _ => trivial)
    · exact calm_step_skip (g := 7) (b := false) (d := 25) rfl rfl (fun a w hc => hc 7 25 rfl rfl) (fun _ => trivial)
    · refine calm_step rfl fun a ω κ hb hu hc hK => ?_
      have h25 : a.tmps[25]?.getD undef = .bool true := hc 7 25 rfl rfl
      have h27 : (SRel.any).p (a.tmps[27]?.getD undef) ω := hc 9 27 rfl rfl
      have hk := Lib.hid (fun w1 (h : Below ω.heap.size ω w1) => hK (.bool true) w1 rfl h)
      clear hK hu hc
      go_simp
      exact hk.out _ (Below.refl _ _)
    · refine calm_step rfl fun a ω κ hb hu hc hK => ?_
      have h28 : a.tmps[28]?.getD undef = .bool true := hc 10 28 rfl rfl
      have hk := Lib.hid (fun w1 (h : Below ω.heap.size ω w1) => hK (.bool true) w1 rfl h)
      clear hK hu hc
      go_simp
      exact hk.out _ (Below.refl _ _)
    · exact calm_step_skip (g := 11) (b := false) (d := 29) rfl rfl (fun a w hc => hc 11 29 rfl rfl) (fun _ => trivial)
    · exact calm_step_skip (g := 11) (b := false) (d := 29) rfl rfl (fun a w hc => hc 11 29 rfl rfl) (fun _ => trivial)
    · exact calm_step_skip (g := 11) (b := false) (d := 29) rfl rfl (fun a w hc => hc 11 29 rfl rfl) (fun _ => trivial)
    · exact calm_step_skip (g := 11) (b := false) (d := 29) rfl rfl (fun a w hc => hc 11 29 rfl rfl) (fun _ => trivial)
    · refine calm_step rfl fun a ω κ hb hu hc hK => ?_
      have h29 : a.tmps[29]?.getD undef = .bool true := hc 11 29 rfl rfl
      have h33 : (SRel.any).p (a.tmps[33]?.getD undef) ω := hc 15 33 rfl rfl
      have hk := Lib.hid (fun w1 (h : Below ω.heap.size ω w1) => hK (.bool true) w1 rfl h)
      clear hK hu hc
      go_simp
      exact hk.out _ (Below.refl _ _)
    · intro a1 w1 hb1 hu1 hsz1 hdf1 hc1
      have ha0 := hha0.out
      subst ha0
      have he := act_patch (n := 93) [false, false, false, false, false, false, false, false, false, false, false, false, false, false, false, false, false, false, true, true, true, true, true, true, true, true, true, true, true, true, true, true, true, true, true, false, false, false, false, false, false, false, false, false, false, false, false, false, false, false, false, false, false, false, false, false, false, false, false, false, false, false, false, false, false, false, false, false, false, false, false, false, false, false, false, false, false, false, false, false, false, false, false, false, false, false, false, false, false, false, false, false, false] rfl (by kernel_rfl) hu1 hsz1 hdf1
      simp only [patch, cond_true, cond_false, Nat.reduceAdd] at he
      have hkn34 : a1.tmps[34]?.getD undef = .bool true := hc1 16 34 rfl
      replace hG := Lib.hid (hG.out.step hb1)
      replace hL := Lib.hid (below_step hb1 hL.out (Nat.le_refl _))
      replace hTh := Lib.hid (hTh.out.step hb1)
      replace hsh := Lib.hid (hsh.out.step hb1)
      clear kCm
      clear hb1 hu1 hsz1 hdf1 hc1 hz0 hha0 e1 e2 e4
      rw [he]
      clear he
      rw [hkn34]
      clear hkn34
      generalize a1.tmps[18]?.getD undef = x18 at *
      generalize a1.tmps[19]?.getD undef = x19 at *
      generalize a1.tmps[20]?.getD undef = x20 at *
      generalize a1.tmps[21]?.getD undef = x21 at *
      generalize a1.tmps[22]?.getD undef = x22 at *
      generalize a1.tmps[23]?.getD undef = x23 at *
      generalize a1.tmps[24]?.getD undef = x24 at *
      generalize a1.tmps[25]?.getD undef = x25 at *
      generalize a1.tmps[26]?.getD undef = x26 at *
      generalize a1.tmps[27]?.getD undef = x27 at *
      generalize a1.tmps[28]?.getD undef = x28 at *
      generalize a1.tmps[29]?.getD undef = x29 at *
      generalize a1.tmps[30]?.getD undef = x30 at *
      generalize a1.tmps[31]?.getD undef = x31 at *
      generalize a1.tmps[32]?.getD undef = x32 at *
      generalize a1.tmps[33]?.getD undef = x33 at *
      have hbz := hb4.out (.inl h1)
      go_wp2_with fail
      go_ret2
      exact ⟨none, 0, 0, 1, rfl, by omega, by unfold maxLen; omega, ⟨fun i hi => absurd hi (by omega)⟩, hbz, hL.out⟩
  · have d1 : decide (k < 1) = false := by simp; omega
    by_cases h2 : n < k
    · have d2 : decide (k > n) = true := by simp; omega
      generalize ha0 : Act.mk _ _ = a0
      have e1 : a0.tmps[1]?.getD undef = .int .i64 k := by rw [← ha0]; rfl
      have e2 : a0.tmps[2]?.getD undef = .int .i64 n := by rw [← ha0]; rfl
      have e4 : a0.tmps[4]?.getD undef = .pointer (some ⟨w.heap.size, 0, none⟩) := by rw [← ha0]; rfl
      have hz0 : a0.tmps.size = 93 := by rw [← ha0]; rfl
      have hha0 := Lib.hid ha0
      clear ha0
      refine wp_region_calm (fun jx_ => match jx_ with | 0 => SRel.is (.int .i64 k) | 1 => SRel.is (.bool false) | 2 => SRel.is (.bool false) | 3 => SRel.is (.int .i64 k) | 4 => SRel.is (.int .i64 n) | 5 => SRel.is (.bool true) | 6 => SRel.is (.bool true) | 7 => SRel.is (.bool true) | 8 => SRel.any | 9 => SRel.any | 10 => SRel.is (.bool true) | 11 => SRel.is (.bool true) | 12 => SRel.any | 13 => SRel.any | 14 => SRel.any | 15 => SRel.any | 16 => SRel.is (.bool true) | _ => SRel.any) (by kernel_rfl) (by kernel_rfl) (by kernel_rfl) (slotsOk_of hz0 (by kernel_rfl)) ⟨?_, ?_, ?_, ?_, ?_, ?_, ?_, ?_, ?_, ?_, ?_, ?_, ?_, ?_, ?_, ?_, ?_, trivial⟩ ?_
      · refine calm_step rfl fun a ω κ hb hu hc hK => ?_
        have h1 : a.tmps[1]?.getD undef = .int .i64 k := (hu 1 rfl).trans e1
        have hk := Lib.hid (fun w1 (h : Below ω.heap.size ω w1) => hK (.int .i64 k) w1 rfl h)
        clear hK hu hc
        go_simp
        exact hk.out _ (Below.refl _ _)
      · refine calm_step rfl fun a ω κ hb hu hc hK => ?_
        have h18 : a.tmps[18]?.getD undef = .int .i64 k := hc 0 18 rfl rfl
        have hk := Lib.hid (fun w1 (h : Below ω.heap.size ω w1) => hK (.bool false) w1 rfl h)
        clear hK hu hc
        go_simp
        exact hk.out _ (Below.refl _ _)
      · refine calm_step rfl fun a ω κ hb hu hc hK => ?_
        have h19 : a.tmps[19]?.getD undef = .bool false := hc 1 19 rfl rfl
        have hk := Lib.hid (fun w1 (h : Below ω.heap.size ω w1) => hK (.bool false) w1 rfl h)
        clear hK hu hc
        go_simp
        exact hk.out _ (Below.refl _ _)
      · refine calm_step_guard (g := 2) (b := false) (d := 20) rfl rfl (fun a w hc => hc 2 20 rfl rfl) fun a ω κ hb hu hc hK => ?_
        have h1 : a.tmps[1]?.getD undef = .int .i64 k := (hu 1 rfl).trans e1
        have hk := Lib.hid (fun w1 (h : Below ω.heap.size ω w1) => hK (.int .i64 k) w1 rfl h)
        clear hK hu hc
        go_simp
        exact hk.out _ (Below.refl _ _)
      · refine calm_step_guard (g := 2) (b := false) (d := 20) rfl rfl (fun a w hc => hc 2 20 rfl rfl) fun a ω κ hb hu hc hK => ?_
        have h2 : a.tmps[2]?.getD undef = .int .i64 n := (hu 2 rfl).trans e2
        have hk := Lib.hid (fun w1 (h : Below ω.heap.size ω w1) => hK (.int .i64 n) w1 rfl h)
        clear hK hu hc
        go_simp
        exact hk.out _ (Below.refl _ _)
      · refine calm_step_guard (g := 2) (b := false) (d := 20) rfl rfl (fun a w hc => hc 2 20 rfl rfl) fun a ω κ hb hu hc hK => ?_
        have h21 : a.tmps[21]?.getD undef = .int .i64 k := hc 3 21 rfl rfl
        have h22 : a.tmps[22]?.getD undef = .int .i64 n := hc 4 22 rfl rfl
        have hk := Lib.hid (fun w1 (h : Below ω.heap.size ω w1) => hK (.bool true) w1 rfl h)
        clear hK hu hc
        go_simp
        exact hk.out _ (Below.refl _ _)
      · refine calm_step rfl fun a ω κ hb hu hc hK => ?_
        have h20 : a.tmps[20]?.getD undef = .bool false := hc 2 20 rfl rfl
        have h23 : a.tmps[23]?.getD undef = .bool true := hc 5 23 rfl rfl
        have hk := Lib.hid (fun w1 (h : Below ω.heap.size ω w1) => hK (.bool true) w1 rfl h)
        clear hK hu hc
        go_simp
        exact hk.out _ (Below.refl _ _)
      · refine calm_step rfl fun a ω κ hb hu hc hK => ?_
        have h24 : a.tmps[24]?.getD undef = .bool true := hc 6 24 rfl rfl
        have hk := Lib.hid (fun w1 (h : Below ω.heap.size ω w1) => hK (.bool true) w1 rfl h)
        clear hK hu hc
        go_simp
        exact hk.out _ (Below.refl _ _)
      · exact calm_step_skip (g := 7) (b := false) (d := 25) rfl rfl (fun a w hc => hc 7 25 rfl rfl) (fun _ => trivial)
      · exact calm_step_skip (g := 7) (b := false) (d := 25) rfl rfl (fun a w hc => hc 7 25 rfl rfl) (fun _ => trivial)
      · refine calm_step rfl fun a ω κ hb hu hc hK => ?_
        have h25 : a.tmps[25]?.getD undef = .bool true := hc 7 25 rfl rfl
        have h27 : (SRel.any).p (a.tmps[27]?.getD undef) ω := hc 9 27 rfl rfl
        have hk := Lib.hid (fun w1 (h : Below ω.heap.size ω w1) => hK (.bool true) w1 rfl h)
        clear hK hu hc
        go_simp
        exact hk.out _ (Below.refl _ _)
      · refine calm_step rfl fun a ω κ hb hu hc hK => ?_
        have h28 : a.tmps[28]?.getD undef = .bool true := hc 10 28 rfl rfl
        have hk := Lib.hid (fun w1 (h : Below ω.heap.size ω w1) => hK (.bool true) w1 rfl h)
        clear hK hu hc
        go_simp
        exact hk.out _ (Below.refl _ _)
      · exact calm_step_skip (g := 11) (b := false) (d := 29) rfl rfl (fun a w hc => hc 11 29 rfl rfl) (fun _ => trivial)
      · exact calm_step_skip (g := 11) (b := false) (d := 29) rfl rfl (fun a w hc => hc 11 29 rfl rfl) (fun _ => trivial)
      · exact calm_step_skip (g := 11) (b := false) (d := 29) rfl rfl (fun a w hc => hc 11 29 rfl rfl) (fun _ => trivial)
      · exact calm_step_skip (g := 11) (b := false) (d := 29) rfl rfl (fun a w hc => hc 11 29 rfl rfl) (fun _ => trivial)
      · refine calm_step rfl fun a ω κ hb hu hc hK => ?_
        have h29 : a.tmps[29]?.getD undef = .bool true := hc 11 29 rfl rfl
        have h33 : (SRel.any).p (a.tmps[33]?.getD undef) ω := hc 15 33 rfl rfl
        have hk := Lib.hid (fun w1 (h : Below ω.heap.size ω w1) => hK (.bool true) w1 rfl h)
        clear hK hu hc
        go_simp
        exact hk.out _ (Below.refl _ _)
      · intro a1 w1 hb1 hu1 hsz1 hdf1 hc1
        have ha0 := hha0.out
        subst ha0
        have he := act_patch (n := 93) [false, false, false, false, false, false, false, false, false, false, false, false, false, false, false, false, false, false, true, true, true, true, true, true, true, true, true, true, true, true, true, true, true, true, true, false, false, false, false, false, false, false, false, false, false, false, false, false, false, false, false, false, false, false, false, false, false, false, false, false, false, false, false, false, false, false, false, false, false, false, false, false, false, false, false, false, false, false, false, false, false, false, false, false, false, false, false, false, false, false, false, false, false] rfl (by kernel_rfl) hu1 hsz1 hdf1
        simp only [patch, cond_true, cond_false, Nat.reduceAdd] at he
        have hkn34 : a1.tmps[34]?.getD undef = .bool true := hc1 16 34 rfl
        replace hG := Lib.hid (hG.out.step hb1)
        replace hL := Lib.hid (below_step hb1 hL.out (Nat.le_refl _))
        replace hTh := Lib.hid (hTh.out.step hb1)
        replace hsh := Lib.hid (hsh.out.step hb1)
        clear kCm
        clear hb1 hu1 hsz1 hdf1 hc1 hz0 hha0 e1 e2 e4
        rw [he]
        clear he
        rw [hkn34]
        clear hkn34
        generalize a1.tmps[18]?.getD undef = x18 at *
        generalize a1.tmps[19]?.getD undef = x19 at *
        generalize a1.tmps[20]?.getD undef = x20 at *
        generalize a1.tmps[21]?.getD undef = x21 at *
        generalize a1.tmps[22]?.getD undef = x22 at *
        generalize a1.tmps[23]?.getD undef = x23 at *
        generalize a1.tmps[24]?.getD undef = x24 at *
        generalize a1.tmps[25]?.getD undef = x25 at *
        generalize a1.tmps[26]?.getD undef = x26 at *
        generalize a1.tmps[27]?.getD undef = x27 at *
        generalize a1.tmps[28]?.getD undef = x28 at *
        generalize a1.tmps[29]?.getD undef = x29 at *
        generalize a1.tmps[30]?.getD undef = x30 at *
        generalize a1.tmps[31]?.getD undef = x31 at *
        generalize a1.tmps[32]?.getD undef = x32 at *
        generalize a1.tmps[33]?.getD undef = x33 at *
        have hbz := hb4.out (.inr (.inl h2))
        go_wp2_with fail
        go_ret2
        exact ⟨none, 0, 0, 1, rfl, by omega, by unfold maxLen; omega, ⟨fun i hi => absurd hi (by omega)⟩, hbz, hL.out⟩
    · have d2 : decide (k > n) = false := by simp; omega
      by_cases h3 : 20 < n
      · have d3 : decide (n > 20) = true := by simp; omega
        generalize ha0 : Act.mk _ _ = a0
        have e1 : a0.tmps[1]?.getD undef = .int .i64 k := by rw [← ha0]; rfl
        have e2 : a0.tmps[2]?.getD undef = .int .i64 n := by rw [← ha0]; rfl
        have e4 : a0.tmps[4]?.getD undef = .pointer (some ⟨w.heap.size, 0, none⟩) := by rw [← ha0]; rfl
        have hz0 : a0.tmps.size = 93 := by rw [← ha0]; rfl
        have hha0 := Lib.hid ha0
        clear ha0
        refine wp_region_calm (fun jx_ => match jx_ with | 0 => SRel.is (.int .i64 k) | 1 => SRel.is (.bool false) | 2 => SRel.is (.bool false) | 3 => SRel.is (.int .i64 k) | 4 => SRel.is (.int .i64 n) | 5 => SRel.is (.bool false) | 6 => SRel.is (.bool false) | 7 => SRel.is (.bool false) | 8 => SRel.is (.int .i64 n) | 9 => SRel.is (.bool true) | 10 => SRel.is (.bool true) | 11 => SRel.is (.bool true) | 12 => SRel.any | 13 => SRel.any | 14 => SRel.any | 15 => SRel.any | 16 => SRel.is (.bool true) | _ => SRel.any) (by kernel_rfl) (by kernel_rfl) (by kernel_rfl) (slotsOk_of hz0 (by kernel_rfl)) ⟨?_, ?_, ?_, ?_, ?_, ?_, ?_, ?_, ?_, ?_, ?_, ?_, ?_, ?_, ?_, ?_, ?_, trivial⟩ ?_
        · refine calm_step rfl fun a ω κ hb hu hc hK => ?_
          have h1 : a.tmps[1]?.getD undef = .int .i64 k := (hu 1 rfl).trans e1
          have hk := Lib.hid (fun w1 (h : Below ω.heap.size ω w1) => hK (.int .i64 k) w1 rfl h)
          clear hK hu hc
          go_simp
          exact hk.out _ (Below.refl _ _)
        · refine calm_step rfl fun a ω κ hb hu hc hK => ?_
          have h18 : a.tmps[18]?.getD undef = .int .i64 k := hc 0 18 rfl rfl
          have hk := Lib.hid (fun w1 (h : Below ω.heap.size ω w1) => hK (.bool false) w1 rfl h)
          clear hK hu hc
          go_simp
          exact hk.out _ (Below.refl _ _)
        · refine calm_step rfl fun a ω κ hb hu hc hK => ?_
          have h19 : a.tmps[19]?.getD undef = .bool false := hc 1 19 rfl rfl
          have hk := Lib.hid (fun w1 (h : Below ω.heap.size ω w1) => hK (.bool false) w1 rfl h)
          clear hK hu hc
          go_simp
          exact hk.out _ (Below.refl _ _)
        · refine calm_step_guard (g := 2) (b := false) (d := 20) rfl rfl (fun a w hc => hc 2 20 rfl rfl) fun a ω κ hb hu hc hK => ?_
          have h1 : a.tmps[1]?.getD undef = .int .i64 k := (hu 1 rfl).trans e1
          have hk := Lib.hid (fun w1 (h : Below ω.heap.size ω w1) => hK (.int .i64 k) w1 rfl h)
          clear hK hu hc
          go_simp
          exact hk.out _ (Below.refl _ _)
        · refine calm_step_guard (g := 2) (b := false) (d := 20) rfl rfl (fun a w hc => hc 2 20 rfl rfl) fun a ω κ hb hu hc hK => ?_
          have h2 : a.tmps[2]?.getD undef = .int .i64 n := (hu 2 rfl).trans e2
          have hk := Lib.hid (fun w1 (h : Below ω.heap.size ω w1) => hK (.int .i64 n) w1 rfl h)
          clear hK hu hc
          go_simp
          exact hk.out _ (Below.refl _ _)
        · refine calm_step_guard (g := 2) (b := false) (d := 20) rfl rfl (fun a w hc => hc 2 20 rfl rfl) fun a ω κ hb hu hc hK => ?_
          have h21 : a.tmps[21]?.getD undef = .int .i64 k := hc 3 21 rfl rfl
          have h22 : a.tmps[22]?.getD undef = .int .i64 n := hc 4 22 rfl rfl
          have hk := Lib.hid (fun w1 (h : Below ω.heap.size ω w1) => hK (.bool false) w1 rfl h)
          clear hK hu hc
          go_simp
          exact hk.out _ (Below.refl _ _)
        · refine calm_step rfl fun a ω κ hb hu hc hK => ?_
          have h20 : a.tmps[20]?.getD undef = .bool false := hc 2 20 rfl rfl
          have h23 : a.tmps[23]?.getD undef = .bool false := hc 5 23 rfl rfl
          have hk := Lib.hid (fun w1 (h : Below ω.heap.size ω w1) => hK (.bool false) w1 rfl h)
          clear hK hu hc
          go_simp
          exact hk.out _ (Below.refl _ _)
        · refine calm_step rfl fun a ω κ hb hu hc hK => ?_
          have h24 : a.tmps[24]?.getD undef = .bool false := hc 6 24 rfl rfl
          have hk := Lib.hid (fun w1 (h : Below ω.heap.size ω w1) => hK (.bool false) w1 rfl h)
          clear hK hu hc
          go_simp
          exact hk.out _ (Below.refl _ _)
        · refine calm_step_guard (g := 7) (b := false) (d := 25) rfl rfl (fun a w hc => hc 7 25 rfl rfl) fun a ω κ hb hu hc hK => ?_
          have h2 : a.tmps[2]?.getD undef = .int .i64 n := (hu 2 rfl).trans e2
          have hk := Lib.hid (fun w1 (h : Below ω.heap.size ω w1) => hK (.int .i64 n) w1 rfl h)
          clear hK hu hc
          go_simp
          exact hk.out _ (Below.refl _ _)
        · refine calm_step_guard (g := 7) (b := false) (d := 25) rfl rfl (fun a w hc => hc 7 25 rfl rfl) fun a ω κ hb hu hc hK => ?_
          have h26 : a.tmps[26]?.getD undef = .int .i64 n := hc 8 26 rfl rfl
          have hk := Lib.hid (fun w1 (h : Below ω.heap.size ω w1) => hK (.bool true) w1 rfl h)
          clear hK hu hc
          go_simp
          exact hk.out _ (Below.refl _ _)
        · refine calm_step rfl fun a ω κ hb hu hc hK => ?_
          have h25 : a.tmps[25]?.getD undef = .bool false := hc 7 25 rfl rfl
          have h27 : a.tmps[27]?.getD undef = .bool true := hc 9 27 rfl rfl
          have hk := Lib.hid (fun w1 (h : Below ω.heap.size ω w1) => hK (.bool true) w1 rfl h)
          clear hK hu hc
          go_simp
          exact hk.out _ (Below.refl _ _)
        · refine calm_step rfl fun a ω κ hb hu hc hK => ?_
          have h28 : a.tmps[28]?.getD undef = .bool true := hc 10 28 rfl rfl
          have hk := Lib.hid (fun w1 (h : Below ω.heap.size ω w1) => hK (.bool true) w1 rfl h)
          clear hK hu hc
          go_simp
          exact hk.out _ (Below.refl _ _)
        · exact calm_step_skip (g := 11) (b := false) (d := 29) rfl rfl (fun a w hc => hc 11 29 rfl rfl) (fun _ => trivial)
        · exact calm_step_skip (g := 11) (b := false) (d := 29) rfl rfl (fun a w hc => hc 11 29 rfl rfl) (fun _ => trivial)
        · exact calm_step_skip (g := 11) (b := false) (d := 29) rfl rfl (fun a w hc => hc 11 29 rfl rfl) (fun _ => trivial)
        · exact calm_step_skip (g := 11) (b := false) (d := 29) rfl rfl (fun a w hc => hc 11 29 rfl rfl) (fun _ => trivial)
        · refine calm_step rfl fun a ω κ hb hu hc hK => ?_
          have h29 : a.tmps[29]?.getD undef = .bool true := hc 11 29 rfl rfl
          have h33 : (SRel.any).p (a.tmps[33]?.getD undef) ω := hc 15 33 rfl rfl
          have hk := Lib.hid (fun w1 (h : Below ω.heap.size ω w1) => hK (.bool true) w1 rfl h)
          clear hK hu hc
          go_simp
          exact hk.out _ (Below.refl _ _)
        · intro a1 w1 hb1 hu1 hsz1 hdf1 hc1
          have ha0 := hha0.out
          subst ha0
          have he := act_patch (n := 93) [false, false, false, false, false, false, false, false, false, false, false, false, false, false, false, false, false, false, true, true, true, true, true, true, true, true, true, true, true, true, true, true, true, true, true, false, false, false, false, false, false, false, false, false, false, false, false, false, false, false, false, false, false, false, false, false, false, false, false, false, false, false, false, false, false, false, false, false, false, false, false, false, false, false, false, false, false, false, false, false, false, false, false, false, false, false, false, false, false, false, false, false, false] rfl (by kernel_rfl) hu1 hsz1 hdf1
          simp only [patch, cond_true, cond_false, Nat.reduceAdd] at he
          have hkn34 : a1.tmps[34]?.getD undef = .bool true := hc1 16 34 rfl
          replace hG := Lib.hid (hG.out.step hb1)
          replace hL := Lib.hid (below_step hb1 hL.out (Nat.le_refl _))
          replace hTh := Lib.hid (hTh.out.step hb1)
          replace hsh := Lib.hid (hsh.out.step hb1)
          clear kCm
          clear hb1 hu1 hsz1 hdf1 hc1 hz0 hha0 e1 e2 e4
          rw [he]
          clear he
          rw [hkn34]
          clear hkn34
          generalize a1.tmps[18]?.getD undef = x18 at *
          generalize a1.tmps[19]?.getD undef = x19 at *
          generalize a1.tmps[20]?.getD undef = x20 at *
          generalize a1.tmps[21]?.getD undef = x21 at *
          generalize a1.tmps[22]?.getD undef = x22 at *
          generalize a1.tmps[23]?.getD undef = x23 at *
          generalize a1.tmps[24]?.getD undef = x24 at *
          generalize a1.tmps[25]?.getD undef = x25 at *
          generalize a1.tmps[26]?.getD undef = x26 at *
          generalize a1.tmps[27]?.getD undef = x27 at *
          generalize a1.tmps[28]?.getD undef = x28 at *
          generalize a1.tmps[29]?.getD undef = x29 at *
          generalize a1.tmps[30]?.getD undef = x30 at *
          generalize a1.tmps[31]?.getD undef = x31 at *
          generalize a1.tmps[32]?.getD undef = x32 at *
          generalize a1.tmps[33]?.getD undef = x33 at *
          have hbz := hb4.out (.inr (.inr (.inl h3)))
          go_wp2_with fail
          go_ret2
          exact ⟨none, 0, 0, 1, rfl, by omega, by unfold maxLen; omega, ⟨fun i hi => absurd hi (by omega)⟩, hbz, hL.out⟩
      · have d3 : decide (n > 20) = false := by simp; omega
        rcases hfL.out with ⟨h4, h5⟩ | ⟨h4, h5⟩
        · have d4 : decide (od ≥ 0) = false := by subst h4; rfl
          clear h4
          generalize ha0 : Act.mk _ _ = a0
          have e1 : a0.tmps[1]?.getD undef = .int .i64 k := by rw [← ha0]; rfl
          have e2 : a0.tmps[2]?.getD undef = .int .i64 n := by rw [← ha0]; rfl
          have e4 : a0.tmps[4]?.getD undef = .pointer (some ⟨w.heap.size, 0, none⟩) := by rw [← ha0]; rfl
          have hz0 : a0.tmps.size = 93 := by rw [← ha0]; rfl
          have hha0 := Lib.hid ha0
          clear ha0
          refine wp_region_calm (fun jx_ => match jx_ with | 0 => SRel.is (.int .i64 k) | 1 => SRel.is (.bool false) | 2 => SRel.is (.bool false) | 3 => SRel.is (.int .i64 k) | 4 => SRel.is (.int .i64 n) | 5 => SRel.is (.bool false) | 6 => SRel.is (.bool false) | 7 => SRel.is (.bool false) | 8 => SRel.is (.int .i64 n) | 9 => SRel.is (.bool false) | 10 => SRel.is (.bool false) | 11 => SRel.is (.bool false) | 12 => SRel.is (.agg (arrK .u64 4 (wd s))) | 13 => SRel.is (.agg (arrK .u64 4 (wd l0))) | 14 => SRel.is (.int .i64 od) | 15 => SRel.is (.bool false) | 16 => SRel.is (.bool false) | _ => SRel.any) (by kernel_rfl) (by kernel_rfl) (by kernel_rfl) (slotsOk_of hz0 (by kernel_rfl)) ⟨?_, ?_, ?_, ?_, ?_, ?_, ?_, ?_, ?_, ?_, ?_, ?_, ?_, ?_, ?_, ?_, ?_, trivial⟩ ?_
          · refine calm_step rfl fun a ω κ hb hu hc hK => ?_
            have h1 : a.tmps[1]?.getD undef = .int .i64 k := (hu 1 rfl).trans e1
            have hk := Lib.hid (fun w1 (h : Below ω.heap.size ω w1) => hK (.int .i64 k) w1 rfl h)
            clear hK hu hc
            go_simp
            exact hk.out _ (Below.refl _ _)
          · refine calm_step rfl fun a ω κ hb hu hc hK => ?_
            have h18 : a.tmps[18]?.getD undef = .int .i64 k := hc 0 18 rfl rfl
            have hk := Lib.hid (fun w1 (h : Below ω.heap.size ω w1) => hK (.bool false) w1 rfl h)
            clear hK hu hc
            go_simp
            exact hk.out _ (Below.refl _ _)
          · refine calm_step rfl fun a ω κ hb hu hc hK => ?_
            have h19 : a.tmps[19]?.getD undef = .bool false := hc 1 19 rfl rfl
            have hk := Lib.hid (fun w1 (h : Below ω.heap.size ω w1) => hK (.bool false) w1 rfl h)
            clear hK hu hc
            go_simp
            exact hk.out _ (Below.refl _ _)
          · refine calm_step_guard (g := 2) (b := false) (d := 20) rfl rfl (fun a w hc => hc 2 20 rfl rfl) fun a ω κ hb hu hc hK => ?_
            have h1 : a.tmps[1]?.getD undef = .int .i64 k := (hu 1 rfl).trans e1
            have hk := Lib.hid (fun w1 (h : Below ω.heap.size ω w1) => hK (.int .i64 k) w1 rfl h)
            clear hK hu hc
            go_simp
            exact hk.out _ (Below.refl _ _)
          · refine calm_step_guard (g := 2) (b := false) (d := 20) rfl rfl (fun a w hc => hc 2 20 rfl rfl) fun a ω κ hb hu hc hK => ?_
            have h2 : a.tmps[2]?.getD undef = .int .i64 n := (hu 2 rfl).trans e2
            have hk := Lib.hid (fun w1 (h : Below ω.heap.size ω w1) => hK (.int .i64 n) w1 rfl h)
            clear hK hu hc
            go_simp
            exact hk.out _ (Below.refl _ _)
          · refine calm_step_guard (g := 2) (b := false) (d := 20) rfl rfl (fun a w hc => hc 2 20 rfl rfl) fun a ω κ hb hu hc hK => ?_
            have h21 : a.tmps[21]?.getD undef = .int .i64 k := hc 3 21 rfl rfl
            have h22 : a.tmps[22]?.getD undef = .int .i64 n := hc 4 22 rfl rfl
            have hk := Lib.hid (fun w1 (h : Below ω.heap.size ω w1) => hK (.bool false) w1 rfl h)
            clear hK hu hc
            go_simp
            exact hk.out _ (Below.refl _ _)
          · refine calm_step rfl fun a ω κ hb hu hc hK => ?_
            have h20 : a.tmps[20]?.getD undef = .bool false := hc 2 20 rfl rfl
            have h23 : a.tmps[23]?.getD undef = .bool false := hc 5 23 rfl rfl
            have hk := Lib.hid (fun w1 (h : Below ω.heap.size ω w1) => hK (.bool false) w1 rfl h)
            clear hK hu hc
            go_simp
            exact hk.out _ (Below.refl _ _)
          · refine calm_step rfl fun a ω κ hb hu hc hK => ?_
            have h24 : a.tmps[24]?.getD undef = .bool false := hc 6 24 rfl rfl
            have hk := Lib.hid (fun w1 (h : Below ω.heap.size ω w1) => hK (.bool false) w1 rfl h)
            clear hK hu hc
            go_simp
            exact hk.out _ (Below.refl _ _)
          · refine calm_step_guard (g := 7) (b := false) (d := 25) rfl rfl (fun a w hc => hc 7 25 rfl rfl) fun a ω κ hb hu hc hK => ?_
            have h2 : a.tmps[2]?.getD undef = .int .i64 n := (hu 2 rfl).trans e2
            have hk := Lib.hid (fun w1 (h : Below ω.heap.size ω w1) => hK (.int .i64 n) w1 rfl h)
            clear hK hu hc
            go_simp
            exact hk.out _ (Below.refl _ _)
          · refine calm_step_guard (g := 7) (b := false) (d := 25) rfl rfl (fun a w hc => hc 7 25 rfl rfl) fun a ω κ hb hu hc hK => ?_
            have h26 : a.tmps[26]?.getD undef = .int .i64 n := hc 8 26 rfl rfl
            have hk := Lib.hid (fun w1 (h : Below ω.heap.size ω w1) => hK (.bool false) w1 rfl h)
            clear hK hu hc
            go_simp
            exact hk.out _ (Below.refl _ _)
          · refine calm_step rfl fun a ω κ hb hu hc hK => ?_
            have h25 : a.tmps[25]?.getD undef = .bool false := hc 7 25 rfl rfl
            have h27 : a.tmps[27]?.getD undef = .bool false := hc 9 27 rfl rfl
            have hk := Lib.hid (fun w1 (h : Below ω.heap.size ω w1) => hK (.bool false) w1 rfl h)
            clear hK hu hc
            go_simp
            exact hk.out _ (Below.refl _ _)
          · refine calm_step rfl fun a ω κ hb hu hc hK => ?_
            have h28 : a.tmps[28]?.getD undef = .bool false := hc 10 28 rfl rfl
            have hk := Lib.hid (fun w1 (h : Below ω.heap.size ω w1) => hK (.bool false) w1 rfl h)
            clear hK hu hc
            go_simp
            exact hk.out _ (Below.refl _ _)
          · refine calm_step_guard (g := 11) (b := false) (d := 29) rfl rfl (fun a w hc => hc 11 29 rfl rfl) fun a ω κ hb hu hc hK => ?_
            have h4 : a.tmps[4]?.getD undef = .pointer (some ⟨w.heap.size, 0, none⟩) := (hu 4 rfl).trans e4
            have hk := Lib.hid (fun w1 (h : Below ω.heap.size ω w1) => hK (.agg (arrK .u64 4 (wd s))) w1 rfl h)
            clear hK hu hc
            have hr1 := (hG.out.step hb).row
            have hr2 := (hG.out.step hb).eq
            go_simp
            exact hk.out _ (Below.refl _ _)
          · refine calm_step_guard (g := 11) (b := false) (d := 29) rfl rfl (fun a w hc => hc 11 29 rfl rfl) fun a ω κ hb hu hc hK => ?_
            have hk := Lib.hid (fun w1 (h : Below ω.heap.size ω w1) => hK (.agg (arrK .u64 4 (wd l0))) w1 rfl h)
            clear hK hu hc
            go_simp
            go_at_call 52
            refine (kLl.out _).mono ?_
            rintro e w1 ⟨rfl, hb1⟩
            exact hk.out _ hb1
          · refine calm_step_guard (g := 11) (b := false) (d := 29) rfl rfl (fun a w hc => hc 11 29 rfl rfl) fun a ω κ hb hu hc hK => ?_
            have h30 : a.tmps[30]?.getD undef = .agg (arrK .u64 4 (wd s)) := hc 12 30 rfl rfl
            have h31 : a.tmps[31]?.getD undef = .agg (arrK .u64 4 (wd l0)) := hc 13 31 rfl rfl
            have hk := Lib.hid (fun w1 (h : Below ω.heap.size ω w1) => hK (.int .i64 od) w1 rfl h)
            clear hK hu hc
            go_simp
            go_at_call 38
            refine (kCm.out _).mono ?_
            rintro e w1 ⟨rfl, hb1⟩
            exact hk.out _ hb1
          · refine calm_step_guard (g := 11) (b := false) (d := 29) rfl rfl (fun a w hc => hc 11 29 rfl rfl) fun a ω κ hb hu hc hK => ?_
            have h32 : a.tmps[32]?.getD undef = .int .i64 od := hc 14 32 rfl rfl
            have hk := Lib.hid (fun w1 (h : Below ω.heap.size ω w1) => hK (.bool false) w1 rfl h)
            clear hK hu hc
            go_simp
            exact hk.out _ (Below.refl _ _)
          · refine calm_step rfl fun a ω κ hb hu hc hK => ?_
            have h29 : a.tmps[29]?.getD undef = .bool false := hc 11 29 rfl rfl
            have h33 : a.tmps[33]?.getD undef = .bool false := hc 15 33 rfl rfl
            have hk := Lib.hid (fun w1 (h : Below ω.heap.size ω w1) => hK (.bool false) w1 rfl h)
            clear hK hu hc
            go_simp
            exact hk.out _ (Below.refl _ _)
          · intro a1 w1 hb1 hu1 hsz1 hdf1 hc1
            have ha0 := hha0.out
            subst ha0
            have he := act_patch (n := 93) [false, false, false, false, false, false, false, false, false, false, false, false, false, false, false, false, false, false, true, true, true, true, true, true, true, true, true, true, true, true, true, true, true, true, true, false, false, false, false, false, false, false, false, false, false, false, false, false, false, false, false, false, false, false, false, false, false, false, false, false, false, false, false, false, false, false, false, false, false, false, false, false, false, false, false, false, false, false, false, false, false, false, false, false, false, false, false, false, false, false, false, false, false] rfl (by kernel_rfl) hu1 hsz1 hdf1
            simp only [patch, cond_true, cond_false, Nat.reduceAdd] at he
            have hkn34 : a1.tmps[34]?.getD undef = .bool false := hc1 16 34 rfl
            replace hG := Lib.hid (hG.out.step hb1)
            replace hL := Lib.hid (below_step hb1 hL.out (Nat.le_refl _))
            replace hTh := Lib.hid (hTh.out.step hb1)
            replace hsh := Lib.hid (hsh.out.step hb1)
            clear kCm
            clear hb1 hu1 hsz1 hdf1 hc1 hz0 hha0 e1 e2 e4
            rw [he]
            clear he
            rw [hkn34]
            clear hkn34
            generalize a1.tmps[18]?.getD undef = x18 at *
            generalize a1.tmps[19]?.getD undef = x19 at *
            generalize a1.tmps[20]?.getD undef = x20 at *
            generalize a1.tmps[21]?.getD undef = x21 at *
            generalize a1.tmps[22]?.getD undef = x22 at *
            generalize a1.tmps[23]?.getD undef = x23 at *
            generalize a1.tmps[24]?.getD undef = x24 at *
            generalize a1.tmps[25]?.getD undef = x25 at *
            generalize a1.tmps[26]?.getD undef = x26 at *
            generalize a1.tmps[27]?.getD undef = x27 at *
            generalize a1.tmps[28]?.getD undef = x28 at *
            generalize a1.tmps[29]?.getD undef = x29 at *
            generalize a1.tmps[30]?.getD undef = x30 at *
            generalize a1.tmps[31]?.getD undef = x31 at *
            generalize a1.tmps[32]?.getD undef = x32 at *
            generalize a1.tmps[33]?.getD undef = x33 at *
            have hgd := Lib.hid (show ¬ BadSp k n s from fun h => by rcases h with h | h | h | h <;> first | omega | (rw [hl0h.out] at h; omega))
            obtain ⟨kk, rfl⟩ : ∃ q : Nat, k = (q : Int) := ⟨k.toNat, by omega⟩
            obtain ⟨nn, rfl⟩ : ∃ q : Nat, n = (q : Int) := ⟨n.toNat, by omega⟩
            have hk1 : 1 ≤ kk := by omega
            have hkn : kk ≤ nn := by omega
            have hn20 : nn ≤ 20 := by omega
            have hb2 := below_alloc w1 (Obj.cells (arrK .u64 4 (wd s)) 41)
            have kN := Lib.hid (draw_New K A seed c _ (hTh.out.step hb2) (hsh.out.step hb2))
            have hTb := Lib.hid (hTh.out.step hb2)
            have hNm := Lib.hid (fun g (hg : w1.heap.size ≠ g) => NumsO.start (B := w.heap.size) (g := g) w1 s hL.out.size hg)
            have hL2 := Lib.hid (below_step hb2 hL.out (Nat.le_refl _))
            have r4 := hG.out.row
            have q4 := hG.out.eq
            have hsl : s < l0 := h5
            have hslh := Lib.hid hsl
            clear hb2 d1 d2 d3 d4 h1 h2 h3 h5 hsl hfL hkh hnh hTh hsh hG hL hb4
            have hkh := Lib.hid (And.intro hk1 (And.intro hkn hn20))
            clear hk1 hkn hn20
            go_wp2_with fail
            have hszb : (w1.alloc (Obj.cells (arrK .u64 4 (wd s)) 41)).heap.size = w1.heap.size + 1 := by simp
            have hszbh := Lib.hid hszb
            clear hszb r4 q4
            generalize w1.alloc _ = W2 at *
            refine kN.out.mono ?_
            rintro e w3 ⟨w0, rfl, hS0, hb0⟩
            have hT0 := Lib.hid (hTb.out.step hb0)
            have hg0 := Lib.hid (show w.heap.size ≤ w0.heap.size ∧ w1.heap.size ≠ w0.heap.size by have h1 := hb0.size; have h2 := hL2.out.size; have h3 := hszbh.out; omega)
            have hb3 := below_step hS0.bel hb0 (Nat.le_refl _)
            have hN := Lib.hid ((hNm.out w0.heap.size hg0.out.2).step hb3)
            have hL := Lib.hid (below_step hb3 hL2.out (Nat.le_refl _))
            have hW0 := Lib.hid (below_step hb0 hL2.out (Nat.le_refl _))
            have hS := Lib.hid (show Src K w0 seed (plN N 0) w3 from ⟨false, [], hS0⟩)
            have kB0 := fun p V h => hOh.out.code p w0 V hT0.out h
            unfold numV at kB0
            rw [hl0h.out] at kB0
            have kB := Lib.hid kB0
            clear kN hTb hNm hL2 hszbh hS0 hb0 hb3 kB0
            have hq1 := hkh.out.1
            go_upto_region 5 with (fail)
            go_loopw [10] (fun v wr => ∃ (q : Nat) (l : List Nat), 1 ≤ q ∧ q ≤ kk ∧ lenOf v = q ∧ Hid (l.length = q) ∧ Hid (NumsO w.heap.size w0.heap.size wr v l) ∧ Hid (∃ i, i + 1 = q ∧ Src K w0 seed (plN N i) wr ∧ ∀ j < i, Z (plN N j) = 0) ∧ Hid (∀ j < q, l[j]?.getD 0 = coF X N s j) ∧ Hid (Below w.heap.size w wr)) (fun v _ => kk - lenOf v)
            case atStart => exact ⟨1, [s], by omega, hq1, rfl, Lib.hid rfl, hN, Lib.hid ⟨0, rfl, hS.out, fun j hj => absurd hj (by omega)⟩, Lib.hid (fun j hj => coF_start hj), hL⟩
            case round =>
              clear hN hL hS hq1
              obtain ⟨q, l, hq, hqk, hlv, hll, hN, hS, hC, hL⟩ := hrel
              obtain ⟨cA, cC, rfl, hcl, hcm⟩ := hN.out.form
              have hllh := hll.out
              rw [hllh] at hN hcl
              rw [hllh]
              clear hllh hlv
              by_cases hqe : q = kk
              · subst hqe
                have d1 : decide ((q : Int) < (q : Int)) = false := by simp
                obtain ⟨q1, hq1⟩ : ∃ x, x + 1 = q := ⟨q - 1, by omega⟩
                have hZq := Lib.hid (show ∀ i : Nat, i + 1 < q → Z (plN N i) = 0 from fun i hi => by
                  obtain ⟨i', h1, -, h2⟩ := hS.out
                  exact h2 i (by omega))
                obtain ⟨cf, hcf⟩ : ∃ c, coF X N s = c := ⟨_, rfl⟩
                have hcl := Lib.hid (show ∀ j, cf j < 2 ^ 256 from hcf ▸ coF_lt hOh.out hs2h.out)
                have hc0 := Lib.hid (show cf 0 < fL by rw [← hcf, hl0h.out]; exact hslh.out)
                rw [hcf] at hC
                obtain ⟨Yf, hYf⟩ : ∃ Y : Nat → Nat, ∀ i, Y i = hrn cf q (i + 1) (q - 1) := ⟨_, fun _ => rfl⟩
                have hYe := Lib.hid (show Yf = fun i => shY X N s ((q : Nat) : Int).toNat (i + 1) from funext fun i => by
                  rw [hYf i, hrn_end hq hc0.out, shY, hcf]
                  rfl)
                have hYh := Lib.hid hYf
                have hcfh := Lib.hid hcf
                have hmk := run_make_sh nn Yf (by have := hkh.out; omega)
                obtain ⟨aC, rfl, -⟩ := hN.out.at (i := 0) (by rw [hll.out]; omega)
                clear hS kB hqk hYf hcf hcm
                go_upto_region 11 with (fail)
                have hbA := below_alloc wr (Obj.cells (outA nn 0 Yf) 114)
                have hO := Lib.hid (Bw.new (w := wr) 114 (show (outA nn 0 Yf).size = 5 * nn from arrV_size _ _))
                have hcb := Lib.hid (show ∀ b, (Value.slice (some aC) q cC).ownBlock = some b → b < wr.heap.size from fun b hb => (hN.out.own.lt b hb).2)
                replace hN := Lib.hid (hN.out.step hbA)
                have hgw := Lib.hid (hL.out.size)
                replace hL := Lib.hid (below_step hbA hL.out (Nat.le_refl _))
                clear hbA hmk d1
                generalize wr.alloc _ = W11 at *
                generalize wr.heap.size = g14 at *
                clear hW0
                go_upto_region 12 with (fail)
                go_loopw [60] (fun iv wr => ∃ m : Nat, iv = .int .i64 m ∧ m ≤ nn ∧ Hid (Bw wr g14 (5 * nn) (outA nn m Yf)) ∧ Hid (NumsO w.heap.size w0.heap.size wr (.slice (some aC) q cC) l) ∧ Hid (Below w.heap.size w wr)) (fun iv _ => nn - (intOf iv).toNat)
                case atStart => exact ⟨0, rfl, Nat.zero_le _, hO, hN, hL⟩
                case round =>
                  clear hO hN hL
                  obtain ⟨m, rfl, hm, hO, hN, hL⟩ := hrel
                  by_cases hmn : m = nn
                  · subst hmn
                    have d1 : decide ((m : Int) < (m : Int)) = false := by simp
                    clear hm
                    go_wp2_with fail
                    go_ret2
                    have hSh := out_shs hO.out
                    rw [hYe.out] at hSh
                    exact ⟨some ⟨g14, 0, none⟩, m, m, 0, rfl, Nat.le_refl _, by have := hkh.out; unfold maxLen; omega, hSh, .inr (.inr ⟨hgd.out, fun i hi => hZq.out i (by omega), rfl, rfl⟩), hL.out⟩
                  · have d1 : decide ((m : Int) < (nn : Int)) = true := by simp; omega
                    have hmi : (m : Int) < (nn : Int) := by omega
                    have hm0 : (0 : Int) ≤ (m : Int) := by omega
                    have hw1 : IntKind.i64.wrap ((q : Int) - 1) = (q1 : Int) := by rw [IntKind.wrap_i64]; have := hkh.out; omega
                    have hw2 : IntKind.i64.wrap ((q : Int) - 2) = (q : Int) - 2 := by rw [IntKind.wrap_i64]; have := hkh.out; omega
                    have hqi : (q1 : Int) < (q : Int) := by omega
                    have hq0 : (0 : Int) ≤ (q1 : Int) := by omega
                    obtain ⟨ad9, had, hE1, hE2⟩ := hN.out.at (i := q1) (by rw [hll.out]; omega)
                    injection had with had
                    subst had
                    rw [hC.out q1 (by omega)] at hE2
                    obtain ⟨y0, hy0⟩ : ∃ y, cf q1 = y := ⟨_, rfl⟩
                    rw [hy0] at hE2
                    have hy0h := Lib.hid (show hrn cf q (m + 1) 0 = y0 by rw [hrn, ← hy0, ← hq1, Nat.add_sub_cancel])
                    have hcz := arrK_cells .u64 4 (wd 0)
                    have hcy := arrK_cells .u64 4 (wd y0)
                    have hmnh := Lib.hid (show m < nn by omega)
                    clear hy0 hm hmn
                    go_upto_region 15 with (fail)
                    have hbA := below_alloc wr (Obj.cells (arrK .u64 4 (wd y0)) 41)
                    have hY := Lib.hid (show At (wr.alloc (Obj.cells (arrK .u64 4 (wd y0)) 41)) wr.heap.size .u64 4 (wd y0) from At.new _ rfl)
                    replace hN := Lib.hid (hN.out.step hbA)
                    have hg16 := Lib.hid (show w.heap.size ≤ wr.heap.size ∧ g14 < wr.heap.size from ⟨hL.out.size, hO.out.lt⟩)
                    replace hL := Lib.hid (below_step hbA hL.out (Nat.le_refl _))
                    replace hO := Lib.hid (hO.out.step hbA)
                    clear hbA hE1 hE2 hcz hcy d1 hw1
                    generalize wr.alloc _ = W15 at *
                    generalize wr.heap.size = g16 at *
                    go_upto_region 16 with (fail)
                    go_loopw [17] (fun jv wr => ∃ t : Nat, jv = .int .i64 ((q : Int) - 2 - t) ∧ t + 1 ≤ q ∧ Hid (∃ y, hrn cf q (m + 1) t = y ∧ At wr g16 .u64 4 (wd y)) ∧ Hid (Bw wr g14 (5 * nn) (outA nn m Yf)) ∧ Hid (NumsO w.heap.size w0.heap.size wr (.slice (some aC) q cC) l) ∧ Hid (Below w.heap.size w wr)) (fun jv _ => (intOf jv + 1).toNat)
                    case atStart => exact ⟨0, by simp, by omega, Lib.hid ⟨y0, hy0h.out, hY.out⟩, hO, hN, hL⟩
                    case round =>
                      clear hO hN hL hY hy0h hw2 hqi hq0
                      obtain ⟨t, rfl, ht, hYe2, hO, hN, hL⟩ := hrel
                      obtain ⟨y, hyt, hY0⟩ := hYe2.out
                      have hY := Lib.hid hY0
                      have hyth := Lib.hid hyt
                      clear hY0 hyt hYe2
                      by_cases htq : t = q1
                      · rw [show (q : Int) - 2 - t = -1 by omega]
                        obtain ⟨m1, hm1e⟩ : ∃ x, x = m + 1 := ⟨_, rfl⟩
                        have hwm : IntKind.i64.wrap ((m : Int) + 1) = (m1 : Int) := by rw [IntKind.wrap_i64]; have h1 := hkh.out; omega
                        have hm1 := Lib.hid hm1e
                        have hbl := Lib.hid (fun V => build_sh (m1 : Int) y V)
                        have hcs := Lib.hid (shA_cells (m1 : Int) y)
                        have hyf := Lib.hid (show Yf m = y from (hYh.out m).trans (by rw [show q - 1 = t by omega]; exact hyth.out))
                        have r16 := hY.out.row
                        have q16 := hY.out.eq
                        have hmnn := hmnh.out
                        clear hm1e htq ht
                        go_wp2_with (first | (refine wpList_opT (by go_simp) (fun K9 hK => wp_bldTwo rfl (vx := .int .i64 (m1 : Int)) (vy := .agg (arrK .u64 4 (wd y))) (by go_simp) (by go_simp) (hbl.out _) (hK _ _ ?_))) | (refine wpList_opT (by go_simp) (fun K9 hK => wp_stShP (g := g14) (f := m * 5) (n := 5 * nn) (c := shA (m1 : Int) y) rfl (by go_simp) (by go_simp) hcs.out hO.out.row (by omega) (hK _ _ ?_))))
                        have he : putAt (rowAt wr g14) (m * 5) (shA (m1 : Int) y).toList = outA nn m1 Yf := by
                          rw [hO.out.eq, hm1.out, Nat.mul_comm m 5, ← hyf.out]
                          exact out_put hmnn
                        rw [he]
                        have hO2 := Lib.hid (show Bw (wr.setRow g14 (outA nn m1 Yf)) g14 (5 * nn) (outA nn m1 Yf) from ⟨(row_setRow_same rfl hO.out.row).2 (arrV_size _ _), rowAt_setRow_same hO.out.row⟩)
                        have hN2 := Lib.hid (show NumsO w.heap.size w0.heap.size (wr.setRow g14 (outA nn m1 Yf)) (.slice (some aC) q cC) l from hN.out.setRow fun b hb => by have h1 := hcb.out b hb; omega)
                        have hL2 := Lib.hid (below_setRow (g := g14) (c := outA nn m1 Yf) hL.out (by have := hgw.out; omega))
                        clear hN hO hL hY r16 q16 he hbl hcs hyf
                        go_wp2_with fail
                        go_roundw
                        case rel => exact ⟨m1, rfl, by rw [hm1.out]; exact hmnn, hO2, hN2, hL2⟩
                        case measure => have := hm1.out; simp [intOf]; omega
                      · obtain ⟨j, hj⟩ : ∃ j, j + 2 + t = q := ⟨q - 2 - t, by omega⟩
                        rw [show (q : Int) - 2 - t = (j : Int) by omega]
                        have d1 : decide ((j : Int) ≥ 0) = true := by simp
                        obtain ⟨m1, hm1e⟩ : ∃ x, x = m + 1 := ⟨_, rfl⟩
                        have hwm := Lib.hid (show IntKind.i64.wrap ((m : Int) + 1) = (m1 : Int) by rw [IntKind.wrap_i64]; have h1 := hkh.out; omega)
                        have hm1 := Lib.hid hm1e
                        have hji := Lib.hid (show (0 : Int) ≤ (j : Int) ∧ (j : Int) < (q : Int) by omega)
                        have hyl : y < 2 ^ 256 := hyth.out ▸ hrn_lt hcl.out t
                        have hcjl := hcl.out j
                        obtain ⟨cj, hcj⟩ : ∃ c, cf j = c := ⟨_, rfl⟩
                        rw [hcj] at hcjl
                        have hEl := Lib.hid (show ∀ ω, Below wr.heap.size wr ω → LdOk ω 4 (.pointer (some (aC.add (j * 4)))) ∧ ldC ω 4 (.pointer (some (aC.add (j * 4)))) = arrK .u64 4 (wd cj) from fun ω hb => by
                          obtain ⟨ad9, had, h1, h2⟩ := (hN.out.step hb).at (i := j) (by rw [hll.out]; omega)
                          injection had with had
                          subst had
                          rw [hC.out j (by omega), hcj] at h2
                          exact ⟨h1, h2⟩)
                        have kNu := Lib.hid (fun V => share_num m1 V (by have h1 := hkh.out; omega))
                        have kMu := fun V => scalar_Mul y m1 V hyl (Nat.lt_trans (show m1 < 1000 by have h1 := hkh.out; omega) (by decide +kernel))
                        obtain ⟨ym, hym⟩ : ∃ x, y * m1 % fL = x := ⟨_, rfl⟩
                        have hyml : ym < 2 ^ 256 := hym ▸ Nat.lt_trans (Nat.mod_lt _ (Nat.lt_trans (by omega) fL_pos)) fL_256
                        have kAd := fun V => scalar_Add ym cj V hyml hcjl
                        obtain ⟨ya, hya⟩ : ∃ x, (ym + cj) % fL = x := ⟨_, rfl⟩
                        rw [hym] at kMu
                        rw [hya] at kAd
                        unfold numV at kMu kAd kNu
                        replace kMu := Lib.hid kMu
                        replace kAd := Lib.hid kAd
                        have hnx := Lib.hid (show hrn cf q (m + 1) (t + 1) = ya by rw [hrn, hyth.out, ← hm1e, hym, show q - 2 - t = j by omega, hcj, hya])
                        have hcy := arrK_cells .u64 4 (wd ya)
                        have hjt := Lib.hid (And.intro hj htq)
                        clear hyl hcjl hcj hym hyml hya hm1e hj htq ht
                        go_upto_region 18 with (fail)
                        generalize ha0 : Act.mk _ _ = a0
                        have e10 : a0.tmps[10]?.getD undef = .slice (some aC) q cC := by rw [← ha0]; rfl
                        have e15 : a0.tmps[15]?.getD undef = .int .i64 (m : Nat) := by rw [← ha0]; rfl
                        have e16 : a0.tmps[16]?.getD undef = .pointer (some ⟨g16, 0, none⟩) := by rw [← ha0]; rfl
                        have e17 : a0.tmps[17]?.getD undef = .int .i64 (j : Nat) := by rw [← ha0]; rfl
                        have hz0 : a0.tmps.size = 93 := by rw [← ha0]; rfl
                        have hha0 := Lib.hid ha0
                        clear ha0
                        refine wp_region_tailL (fun jx_ => match jx_ with | 0 => SRel.is (.agg (arrK .u64 4 (wd y))) | 1 => SRel.is (.int .i64 (m : Nat)) | 2 => SRel.is (.int .i64 (m1 : Nat)) | 3 => SRel.is (.agg (arrK .u64 4 (wd m1))) | 4 => SRel.is (.agg (arrK .u64 4 (wd ym))) | 5 => SRel.is (.slice (some aC) q cC) | 6 => SRel.is (.int .i64 (j : Nat)) | 7 => SRel.is (.pointer (some (aC.add (j * 4)))) | 8 => SRel.is (.agg (arrK .u64 4 (wd cj))) | 9 => SRel.is (.agg (arrK .u64 4 (wd ya))) | 10 => SRel.any | _ => SRel.any) 10 (by kernel_rfl) (by kernel_rfl) (by kernel_rfl) (slotsOk_of hz0 (by kernel_rfl)) (by kernel_rfl) (of_decide_eq_true (by kernel_rfl)) ⟨?_, ?_, ?_, ?_, ?_, ?_, ?_, ?_, ?_, ?_, trivial⟩ ?_
                        · refine calmL_step rfl fun a ω κ hb hu hc hK => ?_
                          have h16 : a.tmps[16]?.getD undef = .pointer (some ⟨g16, 0, none⟩) := (hu 16 rfl).trans e16
                          have hk := Lib.hid (fun w1 (h : Below ω.heap.size ω w1) => hK (.agg (arrK .u64 4 (wd y))) w1 rfl h)
                          clear hK hu hc
                          have hr1 := (hY.out.step hb).row
                          have hr2 := (hY.out.step hb).eq
                          go_simp
                          exact hk.out _ (Below.refl _ _)
                        · refine calmL_step rfl fun a ω κ hb hu hc hK => ?_
                          have h15 : a.tmps[15]?.getD undef = .int .i64 (m : Nat) := (hu 15 rfl).trans e15
                          have hk := Lib.hid (fun w1 (h : Below ω.heap.size ω w1) => hK (.int .i64 (m : Nat)) w1 rfl h)
                          clear hK hu hc
                          go_simp
                          exact hk.out _ (Below.refl _ _)
                        · refine calmL_step rfl fun a ω κ hb hu hc hK => ?_
                          have h75 : a.tmps[75]?.getD undef = .int .i64 (m : Nat) := hc 1 75 rfl rfl
                          have hk := Lib.hid (fun w1 (h : Below ω.heap.size ω w1) => hK (.int .i64 (m1 : Nat)) w1 rfl h)
                          clear hK hu hc
                          have hw := hwm.out
                          go_simp
                          exact hk.out _ (Below.refl _ _)
                        · refine calmL_step rfl fun a ω κ hb hu hc hK => ?_
                          have h76 : a.tmps[76]?.getD undef = .int .i64 (m1 : Nat) := hc 2 76 rfl rfl
                          have hk := Lib.hid (fun w1 (h : Below ω.heap.size ω w1) => hK (.agg (arrK .u64 4 (wd m1))) w1 rfl h)
                          clear hK hu hc
                          go_simp
                          go_at_call 55
                          refine (kNu.out _).mono ?_
                          rintro e w1 ⟨rfl, hb1⟩
                          exact hk.out _ hb1
                        · refine calmL_step rfl fun a ω κ hb hu hc hK => ?_
                          have h74 : a.tmps[74]?.getD undef = .agg (arrK .u64 4 (wd y)) := hc 0 74 rfl rfl
                          have h77 : a.tmps[77]?.getD undef = .agg (arrK .u64 4 (wd m1)) := hc 3 77 rfl rfl
                          have hk := Lib.hid (fun w1 (h : Below ω.heap.size ω w1) => hK (.agg (arrK .u64 4 (wd ym))) w1 rfl h)
                          clear hK hu hc
                          go_simp
                          go_at_call 54
                          refine (kMu.out _).mono ?_
                          rintro e w1 ⟨rfl, hb1⟩
                          exact hk.out _ hb1
                        · refine calmL_step rfl fun a ω κ hb hu hc hK => ?_
                          have h10 : a.tmps[10]?.getD undef = .slice (some aC) q cC := (hu 10 rfl).trans e10
                          have hk := Lib.hid (fun w1 (h : Below ω.heap.size ω w1) => hK (.slice (some aC) q cC) w1 rfl h)
                          clear hK hu hc
                          go_simp
                          exact hk.out _ (Below.refl _ _)
                        · refine calmL_step rfl fun a ω κ hb hu hc hK => ?_
                          have h17 : a.tmps[17]?.getD undef = .int .i64 (j : Nat) := (hu 17 rfl).trans e17
                          have hk := Lib.hid (fun w1 (h : Below ω.heap.size ω w1) => hK (.int .i64 (j : Nat)) w1 rfl h)
                          clear hK hu hc
                          go_simp
                          exact hk.out _ (Below.refl _ _)
                        · refine calmL_step rfl fun a ω κ hb hu hc hK => ?_
                          have h79 : a.tmps[79]?.getD undef = .slice (some aC) q cC := hc 5 79 rfl rfl
                          have h80 : a.tmps[80]?.getD undef = .int .i64 (j : Nat) := hc 6 80 rfl rfl
                          have hk := Lib.hid (fun w1 (h : Below ω.heap.size ω w1) => hK (.pointer (some (aC.add (j * 4)))) w1 rfl h)
                          clear hK hu hc
                          have h1 := hji.out
                          go_simp
                          exact hk.out _ (Below.refl _ _)
                        · refine calmL_step rfl fun a ω κ hb hu hc hK => ?_
                          have h81 : a.tmps[81]?.getD undef = .pointer (some (aC.add (j * 4))) := hc 7 81 rfl rfl
                          have hk := Lib.hid (fun w1 (h : Below ω.heap.size ω w1) => hK (.agg (arrK .u64 4 (wd cj))) w1 rfl h)
                          clear hK hu hc
                          have hl1 := (hEl.out ω hb).1
                          have hl2 := (hEl.out ω hb).2
                          go_simp
                          exact hk.out _ (Below.refl _ _)
                        · refine calmL_step rfl fun a ω κ hb hu hc hK => ?_
                          have h78 : a.tmps[78]?.getD undef = .agg (arrK .u64 4 (wd ym)) := hc 4 78 rfl rfl
                          have h82 : a.tmps[82]?.getD undef = .agg (arrK .u64 4 (wd cj)) := hc 8 82 rfl rfl
                          have hk := Lib.hid (fun w1 (h : Below ω.heap.size ω w1) => hK (.agg (arrK .u64 4 (wd ya))) w1 rfl h)
                          clear hK hu hc
                          go_simp
                          go_at_call 53
                          refine (kAd.out _).mono ?_
                          rintro e w1 ⟨rfl, hb1⟩
                          exact hk.out _ hb1
                        · intro aa ω hb hu hsz hdf hc
                          have h74 : aa.tmps[74]?.getD undef = .agg (arrK .u64 4 (wd y)) := hc 0 74 (by decide) rfl
                          have h75 : aa.tmps[75]?.getD undef = .int .i64 (m : Nat) := hc 1 75 (by decide) rfl
                          have h76 : aa.tmps[76]?.getD undef = .int .i64 (m1 : Nat) := hc 2 76 (by decide) rfl
                          have h77 : aa.tmps[77]?.getD undef = .agg (arrK .u64 4 (wd m1)) := hc 3 77 (by decide) rfl
                          have h78 : aa.tmps[78]?.getD undef = .agg (arrK .u64 4 (wd ym)) := hc 4 78 (by decide) rfl
                          have h79 : aa.tmps[79]?.getD undef = .slice (some aC) q cC := hc 5 79 (by decide) rfl
                          have h80 : aa.tmps[80]?.getD undef = .int .i64 (j : Nat) := hc 6 80 (by decide) rfl
                          have h81 : aa.tmps[81]?.getD undef = .pointer (some (aC.add (j * 4))) := hc 7 81 (by decide) rfl
                          have h82 : aa.tmps[82]?.getD undef = .agg (arrK .u64 4 (wd cj)) := hc 8 82 (by decide) rfl
                          have h83 : aa.tmps[83]?.getD undef = .agg (arrK .u64 4 (wd ya)) := hc 9 83 (by decide) rfl
                          have ha0 := hha0.out
                          subst ha0
                          have he := act_patchL (n := 93) 10 [false, false, false, false, false, false, false, false, false, false, false, false, false, false, false, false, false, false, false, false, false, false, false, false, false, false, false, false, false, false, false, false, false, false, false, false, false, false, false, false, false, false, false, false, false, false, false, false, false, false, false, false, false, false, false, false, false, false, false, false, false, false, false, false, false, false, false, false, false, false, false, false, false, false, true, true, true, true, true, true, true, true, true, true, false, false, false, false, false, false, false, false, false] rfl (by kernel_rfl) hu hsz hdf
                          simp only [patch, cond_true, cond_false, Nat.reduceAdd] at he
                          clear hu hsz hdf hc hha0 e10 e15 e16 e17 hz0
                          rw [he]
                          clear he
                          generalize aa.tmps[74]?.getD undef = x74 at *
                          generalize aa.tmps[75]?.getD undef = x75 at *
                          generalize aa.tmps[76]?.getD undef = x76 at *
                          generalize aa.tmps[77]?.getD undef = x77 at *
                          generalize aa.tmps[78]?.getD undef = x78 at *
                          generalize aa.tmps[79]?.getD undef = x79 at *
                          generalize aa.tmps[80]?.getD undef = x80 at *
                          generalize aa.tmps[81]?.getD undef = x81 at *
                          generalize aa.tmps[82]?.getD undef = x82 at *
                          generalize aa.tmps[83]?.getD undef = x83 at *
                          subst h74 h75 h76 h77 h78 h79 h80 h81 h82 h83
                          replace hN := Lib.hid (hN.out.step hb)
                          replace hO := Lib.hid (hO.out.step hb)
                          replace hL := Lib.hid (below_step hb hL.out (Nat.le_refl _))
                          replace hY := Lib.hid (hY.out.step hb)
                          have r16 := hY.out.row
                          have hY2 := Lib.hid (show At (ω.setRow g16 (arrK .u64 4 (wd ya))) g16 .u64 4 (wd ya) from ⟨(row_setRow_same rfl r16).2 (arrK_size _ _ _), rowAt_setRow_same r16⟩)
                          have hO2 := Lib.hid (hO.out.far (g' := g16) (c' := arrK .u64 4 (wd ya)) (by have := hg16.out; omega))
                          have hN2 := Lib.hid (show NumsO w.heap.size w0.heap.size (ω.setRow g16 (arrK .u64 4 (wd ya))) (.slice (some aC) q cC) l from hN.out.setRow fun b hb => by have h1 := hcb.out b hb; have h2 := hg16.out; omega)
                          have hL2 := Lib.hid (below_setRow (g := g16) (c := arrK .u64 4 (wd ya)) hL.out (by have := hg16.out; omega))
                          have hw3 : IntKind.i64.wrap ((j : Int) - 1) = (j : Int) - 1 := by rw [IntKind.wrap_i64]; have := hji.out; have := hkh.out; omega
                          clear hN hO hL hY hb hEl kNu kMu kAd hwm hm1
                          go_wp2_with fail
                          refine ⟨⟨t + 1, ?_, ?_, Lib.hid ⟨ya, hnx.out, hY2.out⟩, hO2, hN2, hL2⟩, ?_⟩
                          · have h1 := hjt.out.1; rw [show (q : Int) - 2 - ((t + 1 : Nat) : Int) = (j : Int) - 1 by omega]
                          · have h1 := hjt.out; omega
                          · simp [intOf]
              · have d1 : decide ((q : Int) < (kk : Int)) = true := by simp; omega
                have hqi : (q : Int) < (kk : Int) := by omega
                have hqlh := Lib.hid (show q < kk by omega)
                obtain ⟨i, hiq, hS, hZ⟩ := hS.out
                obtain ⟨P, hP⟩ : ∃ p, plN N i = p := ⟨_, rfl⟩
                rw [hP] at hS
                have hPh := Lib.hid hP
                obtain ⟨x, hx⟩ : ∃ x, X P = x := ⟨_, rfl⟩
                obtain ⟨z, hz⟩ : ∃ z, Z P = z := ⟨_, rfl⟩
                have kBx := Lib.hid (fun V h => by have := kB.out P V h; rw [hx, hz] at this; exact this)
                have hxz := Lib.hid (And.intro hx hz)
                have hSh := Lib.hid hS
                have hiz := Lib.hid (And.intro hiq hZ)
                have hcz := arrK_cells .u64 4 (wd 0)
                have hcx := arrK_cells .u64 4 (wd x)
                clear hP hx hz hS hZ hiq kB hqe
                go_upto_region 6 with (fail)
                go_wp2_with fail
                refine (kLl.out _).mono ?_
                rintro e w4 ⟨rfl, hb4⟩
                have hS4 := hSh.out.step hb4
                replace hN := Lib.hid (hN.out.step hb4)
                replace hL := Lib.hid (below_step hb4 hL.out (Nat.le_refl _))
                clear hb4 hSh
                go_wp2_with fail
                refine (kBx.out _ hS4).mono ?_
                rintro e w5 ⟨rfl, hS5, hK5⟩
                replace hN := Lib.hid (hN.out.kb hK5)
                have hb5 := hS5.bel
                have hL5 := Lib.hid (show Below w.heap.size w w5 from below_step hb5 hW0.out (Nat.le_refl _))
                have hS6 := Lib.hid (hS5.step (below_alloc w5 (Obj.cells (arrK .u64 4 (wd x)) 41)))
                replace hN := Lib.hid (hN.out.step (below_alloc w5 (Obj.cells (arrK .u64 4 (wd x)) 41)))
                have hL6 := Lib.hid (below_step (below_alloc w5 (Obj.cells (arrK .u64 4 (wd x)) 41)) hL5.out (Nat.le_refl _))
                have hX6 : At (w5.alloc (Obj.cells (arrK .u64 4 (wd x)) 41)) w5.heap.size .u64 4 (wd x) := At.new _ rfl
                clear hS4 hL hS5 hK5 hb5 hL5 kBx
                go_upto_region 7 with (fail)
                generalize w5.alloc _ = W6 at *
                generalize w5.heap.size = g12 at *
                obtain ⟨rX, qX⟩ := hX6
                by_cases hz0 : z = 0
                · have hzz : (z != 0) = false ∧ (z == 0) = true := by simpa using hz0
                  have hz1 := hzz.1
                  have hz2 := hzz.2
                  have hZh := Lib.hid hz0
                  have hbA := below_alloc W6 (Obj.cells (arrK .u64 4 (wd x)) 41)
                  have hN7 := Lib.hid (hN.out.step hbA)
                  have hS7 := Lib.hid (hS6.out.step hbA)
                  have hB7 := Lib.hid (show w.heap.size ≤ (W6.alloc (Obj.cells (arrK .u64 4 (wd x)) 41)).heap.size ∧ w0.heap.size < (W6.alloc (Obj.cells (arrK .u64 4 (wd x)) 41)).heap.size ∧ l.length ≤ 1000000 from ⟨by have h1 := hL6.out.size; have h2 := hbA.size; omega, by have h1 := hS7.out.lt; omega, by have h1 := hll.out; have h2 := hkh.out; omega⟩)
                  have hr7 := Lib.hid (show Rd (W6.alloc (Obj.cells (arrK .u64 4 (wd x)) 41)) (W6.heap.size + 1) (some ⟨W6.heap.size, 0, none⟩) (numC x) from Rd.of_blk (push_new _ _) (by simp))
                  clear hbA hzz hz0 hN hS6 hL6
                  go_wp2_with (at_builtin; refine wpList_plain rfl fun K9 hK => wp_numsO (.tmp 52) (.tmp 54) rfl (by go_simp) hN7.out hB7.out.1 hB7.out.2.1 (by go_simp) hr7.out hB7.out.2.2 fun v7 w7 hN8 hb8 => hK _ _ ?_)
                  obtain ⟨cA2, cC2, rfl, -, -⟩ := hN8.form
                  have hlen : (l ++ [x]).length = q + 1 := by rw [List.length_append, hll.out]; rfl
                  rw [hlen] at hN8 ⊢
                  have hS8 := hS7.out.to hb8
                  have hN8h := Lib.hid hN8
                  have hS8h := Lib.hid hS8
                  have hlh := Lib.hid hlen
                  clear hN8 hS8 hb8 hN7 hS7 hB7 hr7 hlen rX qX
                  have hqk2 := hqlh.out
                  go_wp2_with fail
                  go_roundw
                  case rel => exact ⟨q + 1, l ++ [x], by omega, by omega, rfl, hlh, hN8h, Lib.hid ⟨i + 1, by have := hiz.out.1; omega, by rw [plN, hPh.out]; exact hS8h.out, fun j hj => by
                    rcases Nat.lt_or_ge j i with h | h
                    · exact hiz.out.2 j h
                    · have h2 : j = i := by omega
                      rw [h2, hPh.out, hxz.out.2, hZh.out]⟩, Lib.hid (fun j hj => by
                    rcases Nat.lt_or_ge j q with h | h
                    · rw [List.getElem?_append_left (by rw [hll.out]; exact h)]; exact hC.out j h
                    · have h2 : j = i + 1 := by have := hiz.out.1; omega
                      subst h2
                      rw [List.getElem?_append_right (by rw [hll.out]; exact h), hll.out, show i + 1 - q = 0 by omega, coF, hPh.out, hxz.out.1]
                      rfl), Lib.hid (below_step hS8h.out.bel hW0.out (Nat.le_refl _))⟩
                  case measure => simp [lenOf]; omega
                · have hzz : (z != 0) = true ∧ (z == 0) = false := ⟨by simpa using hz0, by simpa using hz0⟩
                  have hz1 := hzz.1
                  have hz2 := hzz.2
                  have hZh := Lib.hid hz0
                  clear hzz hz0
                  go_wp2_with fail
                  go_ret2
                  exact ⟨none, 0, 0, z, rfl, by omega, by unfold maxLen; omega, ⟨fun i hi => absurd hi (by omega)⟩, .inr (.inl ⟨hgd.out, i, by have h1 := hiz.out.1; have h2 := hqlh.out; omega, by rw [hPh.out, hxz.out.2]; exact hZh.out, hiz.out.2, rfl, by rw [hPh.out, hxz.out.2]⟩), hL6.out⟩
        · have d4 : decide (od ≥ 0) = true := by rcases h4 with rfl | rfl <;> rfl
          clear h4
          have hbz0 := Lib.hid (hb4.out (.inr (.inr (.inr (by rw [hl0h.out]; exact h5)))))
          generalize ha0 : Act.mk _ _ = a0
          have e1 : a0.tmps[1]?.getD undef = .int .i64 k := by rw [← ha0]; rfl
          have e2 : a0.tmps[2]?.getD undef = .int .i64 n := by rw [← ha0]; rfl
          have e4 : a0.tmps[4]?.getD undef = .pointer (some ⟨w.heap.size, 0, none⟩) := by rw [← ha0]; rfl
          have hz0 : a0.tmps.size = 93 := by rw [← ha0]; rfl
          have hha0 := Lib.hid ha0
          clear ha0
          refine wp_region_calm (fun jx_ => match jx_ with | 0 => SRel.is (.int .i64 k) | 1 => SRel.is (.bool false) | 2 => SRel.is (.bool false) | 3 => SRel.is (.int .i64 k) | 4 => SRel.is (.int .i64 n) | 5 => SRel.is (.bool false) | 6 => SRel.is (.bool false) | 7 => SRel.is (.bool false) | 8 => SRel.is (.int .i64 n) | 9 => SRel.is (.bool false) | 10 => SRel.is (.bool false) | 11 => SRel.is (.bool false) | 12 => SRel.is (.agg (arrK .u64 4 (wd s))) | 13 => SRel.is (.agg (arrK .u64 4 (wd l0))) | 14 => SRel.is (.int .i64 od) | 15 => SRel.is (.bool true) | 16 => SRel.is (.bool true) | _ => SRel.any) (by kernel_rfl) (by kernel_rfl) (by kernel_rfl) (slotsOk_of hz0 (by kernel_rfl)) ⟨?_, ?_, ?_, ?_, ?_, ?_, ?_, ?_, ?_, ?_, ?_, ?_, ?_, ?_, ?_, ?_, ?_, trivial⟩ ?_
          · refine calm_step rfl fun a ω κ hb hu hc hK => ?_
            have h1 : a.tmps[1]?.getD undef = .int .i64 k := (hu 1 rfl).trans e1
            have hk := Lib.hid (fun w1 (h : Below ω.heap.size ω w1) => hK (.int .i64 k) w1 rfl h)
            clear hK hu hc
            go_simp
            exact hk.out _ (Below.refl _ _)
          · refine calm_step rfl fun a ω κ hb hu hc hK => ?_
            have h18 : a.tmps[18]?.getD undef = .int .i64 k := hc 0 18 rfl rfl
            have hk := Lib.hid (fun w1 (h : Below ω.heap.size ω w1) => hK (.bool false) w1 rfl h)
            clear hK hu hc
            go_simp
            exact hk.out _ (Below.refl _ _)
          · refine calm_step rfl fun a ω κ hb hu hc hK => ?_
            have h19 : a.tmps[19]?.getD undef = .bool false := hc 1 19 rfl rfl
            have hk := Lib.hid (fun w1 (h : Below ω.heap.size ω w1) => hK (.bool false) w1 rfl h)
            clear hK hu hc
            go_simp
            exact hk.out _ (Below.refl _ _)
          · refine calm_step_guard (g := 2) (b := false) (d := 20) rfl rfl (fun a w hc => hc 2 20 rfl rfl) fun a ω κ hb hu hc hK => ?_
            have h1 : a.tmps[1]?.getD undef = .int .i64 k := (hu 1 rfl).trans e1
            have hk := Lib.hid (fun w1 (h : Below ω.heap.size ω w1) => hK (.int .i64 k) w1 rfl h)
            clear hK hu hc
            go_simp
            exact hk.out _ (Below.refl _ _)
          · refine calm_step_guard (g := 2) (b := false) (d := 20) rfl rfl (fun a w hc => hc 2 20 rfl rfl) fun a ω κ hb hu hc hK => ?_
            have h2 : a.tmps[2]?.getD undef = .int .i64 n := (hu 2 rfl).trans e2
            have hk := Lib.hid (fun w1 (h : Below ω.heap.size ω w1) => hK (.int .i64 n) w1 rfl h)
            clear hK hu hc
            go_simp
            exact hk.out _ (Below.refl _ _)
          · refine calm_step_guard (g := 2) (b := false) (d := 20) rfl rfl (fun a w hc => hc 2 20 rfl rfl) fun a ω κ hb hu hc hK => ?_
            have h21 : a.tmps[21]?.getD undef = .int .i64 k := hc 3 21 rfl rfl
            have h22 : a.tmps[22]?.getD undef = .int .i64 n := hc 4 22 rfl rfl
            have hk := Lib.hid (fun w1 (h : Below ω.heap.size ω w1) => hK (.bool false) w1 rfl h)
            clear hK hu hc
            go_simp
            exact hk.out _ (Below.refl _ _)
          · refine calm_step rfl fun a ω κ hb hu hc hK => ?_
            have h20 : a.tmps[20]?.getD undef = .bool false := hc 2 20 rfl rfl
            have h23 : a.tmps[23]?.getD undef = .bool false := hc 5 23 rfl rfl
            have hk := Lib.hid (fun w1 (h : Below ω.heap.size ω w1) => hK (.bool false) w1 rfl h)
            clear hK hu hc
            go_simp
            exact hk.out _ (Below.refl _ _)
          · refine calm_step rfl fun a ω κ hb hu hc hK => ?_
            have h24 : a.tmps[24]?.getD undef = .bool false := hc 6 24 rfl rfl
            have hk := Lib.hid (fun w1 (h : Below ω.heap.size ω w1) => hK (.bool false) w1 rfl h)
            clear hK hu hc
            go_simp
            exact hk.out _ (Below.refl _ _)
          · refine calm_step_guard (g := 7) (b := false) (d := 25) rfl rfl (fun a w hc => hc 7 25 rfl rfl) fun a ω κ hb hu hc hK => ?_
            have h2 : a.tmps[2]?.getD undef = .int .i64 n := (hu 2 rfl).trans e2
            have hk := Lib.hid (fun w1 (h : Below ω.heap.size ω w1) => hK (.int .i64 n) w1 rfl h)
            clear hK hu hc
            go_simp
            exact hk.out _ (Below.refl _ _)
          · refine calm_step_guard (g := 7) (b := false) (d := 25) rfl rfl (fun a w hc => hc 7 25 rfl rfl) fun a ω κ hb hu hc hK => ?_
            have h26 : a.tmps[26]?.getD undef = .int .i64 n := hc 8 26 rfl rfl
            have hk := Lib.hid (fun w1 (h : Below ω.heap.size ω w1) => hK (.bool false) w1 rfl h)
            clear hK hu hc
            go_simp
            exact hk.out _ (Below.refl _ _)
          · refine calm_step rfl fun a ω κ hb hu hc hK => ?_
            have h25 : a.tmps[25]?.getD undef = .bool false := hc 7 25 rfl rfl
            have h27 : a.tmps[27]?.getD undef = .bool false := hc 9 27 rfl rfl
            have hk := Lib.hid (fun w1 (h : Below ω.heap.size ω w1) => hK (.bool false) w1 rfl h)
            clear hK hu hc
            go_simp
            exact hk.out _ (Below.refl _ _)
          · refine calm_step rfl fun a ω κ hb hu hc hK => ?_
            have h28 : a.tmps[28]?.getD undef = .bool false := hc 10 28 rfl rfl
            have hk := Lib.hid (fun w1 (h : Below ω.heap.size ω w1) => hK (.bool false) w1 rfl h)
            clear hK hu hc
            go_simp
            exact hk.out _ (Below.refl _ _)
          · refine calm_step_guard (g := 11) (b := false) (d := 29) rfl rfl (fun a w hc => hc 11 29 rfl rfl) fun a ω κ hb hu hc hK => ?_
            have h4 : a.tmps[4]?.getD undef = .pointer (some ⟨w.heap.size, 0, none⟩) := (hu 4 rfl).trans e4
            have hk := Lib.hid (fun w1 (h : Below ω.heap.size ω w1) => hK (.agg (arrK .u64 4 (wd s))) w1 rfl h)
            clear hK hu hc
            have hr1 := (hG.out.step hb).row
            have hr2 := (hG.out.step hb).eq
            go_simp
            exact hk.out _ (Below.refl _ _)
          · refine calm_step_guard (g := 11) (b := false) (d := 29) rfl rfl (fun a w hc => hc 11 29 rfl rfl) fun a ω κ hb hu hc hK => ?_
            have hk := Lib.hid (fun w1 (h : Below ω.heap.size ω w1) => hK (.agg (arrK .u64 4 (wd l0))) w1 rfl h)
            clear hK hu hc
            go_simp
            go_at_call 52
            refine (kLl.out _).mono ?_
            rintro e w1 ⟨rfl, hb1⟩
            exact hk.out _ hb1
          · refine calm_step_guard (g := 11) (b := false) (d := 29) rfl rfl (fun a w hc => hc 11 29 rfl rfl) fun a ω κ hb hu hc hK => ?_
            have h30 : a.tmps[30]?.getD undef = .agg (arrK .u64 4 (wd s)) := hc 12 30 rfl rfl
            have h31 : a.tmps[31]?.getD undef = .agg (arrK .u64 4 (wd l0)) := hc 13 31 rfl rfl
            have hk := Lib.hid (fun w1 (h : Below ω.heap.size ω w1) => hK (.int .i64 od) w1 rfl h)
            clear hK hu hc
            go_simp
            go_at_call 38
            refine (kCm.out _).mono ?_
            rintro e w1 ⟨rfl, hb1⟩
            exact hk.out _ hb1
          · refine calm_step_guard (g := 11) (b := false) (d := 29) rfl rfl (fun a w hc => hc 11 29 rfl rfl) fun a ω κ hb hu hc hK => ?_
            have h32 : a.tmps[32]?.getD undef = .int .i64 od := hc 14 32 rfl rfl
            have hk := Lib.hid (fun w1 (h : Below ω.heap.size ω w1) => hK (.bool true) w1 rfl h)
            clear hK hu hc
            go_simp
            exact hk.out _ (Below.refl _ _)
          · refine calm_step rfl fun a ω κ hb hu hc hK => ?_
            have h29 : a.tmps[29]?.getD undef = .bool false := hc 11 29 rfl rfl
            have h33 : a.tmps[33]?.getD undef = .bool true := hc 15 33 rfl rfl
            have hk := Lib.hid (fun w1 (h : Below ω.heap.size ω w1) => hK (.bool true) w1 rfl h)
            clear hK hu hc
            go_simp
            exact hk.out _ (Below.refl _ _)
          · intro a1 w1 hb1 hu1 hsz1 hdf1 hc1
            have ha0 := hha0.out
            subst ha0
            have he := act_patch (n := 93) [false, false, false, false, false, false, false, false, false, false, false, false, false, false, false, false, false, false, true, true, true, true, true, true, true, true, true, true, true, true, true, true, true, true, true, false, false, false, false, false, false, false, false, false, false, false, false, false, false, false, false, false, false, false, false, false, false, false, false, false, false, false, false, false, false, false, false, false, false, false, false, false, false, false, false, false, false, false, false, false, false, false, false, false, false, false, false, false, false, false, false, false, false] rfl (by kernel_rfl) hu1 hsz1 hdf1
            simp only [patch, cond_true, cond_false, Nat.reduceAdd] at he
            have hkn34 : a1.tmps[34]?.getD undef = .bool true := hc1 16 34 rfl
            replace hG := Lib.hid (hG.out.step hb1)
            replace hL := Lib.hid (below_step hb1 hL.out (Nat.le_refl _))
            replace hTh := Lib.hid (hTh.out.step hb1)
            replace hsh := Lib.hid (hsh.out.step hb1)
            clear kCm
            clear hb1 hu1 hsz1 hdf1 hc1 hz0 hha0 e1 e2 e4
            rw [he]
            clear he
            rw [hkn34]
            clear hkn34
            generalize a1.tmps[18]?.getD undef = x18 at *
            generalize a1.tmps[19]?.getD undef = x19 at *
            generalize a1.tmps[20]?.getD undef = x20 at *
            generalize a1.tmps[21]?.getD undef = x21 at *
            generalize a1.tmps[22]?.getD undef = x22 at *
            generalize a1.tmps[23]?.getD undef = x23 at *
            generalize a1.tmps[24]?.getD undef = x24 at *
            generalize a1.tmps[25]?.getD undef = x25 at *
            generalize a1.tmps[26]?.getD undef = x26 at *
            generalize a1.tmps[27]?.getD undef = x27 at *
            generalize a1.tmps[28]?.getD undef = x28 at *
            generalize a1.tmps[29]?.getD undef = x29 at *
            generalize a1.tmps[30]?.getD undef = x30 at *
            generalize a1.tmps[31]?.getD undef = x31 at *
            generalize a1.tmps[32]?.getD undef = x32 at *
            generalize a1.tmps[33]?.getD undef = x33 at *
            go_wp2_with fail
            go_ret2
            exact ⟨none, 0, 0, 1, rfl, by omega, by unfold maxLen; omega, ⟨fun i hi => absurd hi (by omega)⟩, hbz0.out, hL.out⟩
end Go.Proofs.YtdlmamnnamlleaaDoor
namespace Go.Proofs.YtdlmamnnamlleaaDoor
open Go Go.RowKit
/-- A kind of element: its cells, and the bytes that it leads to. -/
structure Kd (α : Type) where
  e : TypeId
  size : Nat
  cells : α → List Value
  A : α → Option Addr
  cap : α → Nat
  body : α → List UInt8
theorem own_kept {w w' : World} {B size n : Nat} {e : TypeId} {v : Value} {xs : List Value} (h : w.ownsRow B e size v n xs) (hb : ∀ j, B ≤ j → j < w.heap.size → w'.heap[j]? = w.heap[j]?) : w'.ownsRow B e size v n xs := by
  refine ⟨h.1, ?_⟩
  rcases h.2 with h1 | ⟨g, cap, cur, h1, h2, h3, h4⟩
  · exact .inl h1
  · exact .inr ⟨g, cap, cur, h1, h2, (hb g h2 (h.lt g (by rw [h1]; rfl)).2).trans h3, h4⟩
theorem rd_kept {w w' : World} {A : Option Addr} {xs : List Value} (h : Rd w w.heap.size A xs) (hb : ∀ a, A = some a → w'.heap[a.block]? = w.heap[a.block]?) (hs : w.heap.size ≤ w'.heap.size) : Rd w' w'.heap.size A xs := fun j u hu => by
  obtain ⟨ad, e, hl, hc⟩ := h j u hu
  exact ⟨ad, e, by omega, (World.cell?_of_block (by rw [addr_block]; exact hb ad e)).trans hc⟩
structure OwnK {α : Type} (k : Kd α) (B : Nat) (w : World) (v : Value) (l : List α) : Prop where
  own : w.ownsRow B k.e k.size v l.length (l.flatMap k.cells)
  body : ∀ x ∈ l, Rd w w.heap.size (k.A x) (bytesV (k.body x)) ∧ (k.body x).length ≤ k.cap x ∧ k.cap x ≤ maxLen ∧ ∀ a, k.A x = some a → B ≤ a.block ∧ a.block < w.heap.size ∧ some a.block ≠ v.ownBlock
section
variable {α : Type} {k : Kd α} {B : Nat} {w w' W : World} {v v' : Value} {l : List α} {x : α}
theorem OwnK.start (k : Kd α) (B : Nat) (w : World) : OwnK k B w (.slice none 0 0) [] := ⟨World.ownsRow_nil _ _ _ _, fun x hx => by simp at hx⟩
theorem OwnK.kept (h : OwnK k B w v l) (hb : ∀ j, B ≤ j → j < w.heap.size → w'.heap[j]? = w.heap[j]?) (hs : w.heap.size ≤ w'.heap.size) : OwnK k B w' v l :=
  ⟨own_kept h.own hb, fun x hx => by
    obtain ⟨r1, r2, r3, r4⟩ := h.body x hx
    exact ⟨rd_kept r1 (fun a ha => hb _ (r4 a ha).1 (r4 a ha).2.1) hs, r2, r3, fun a ha => ⟨(r4 a ha).1, Nat.lt_of_lt_of_le (r4 a ha).2.1 hs, (r4 a ha).2.2⟩⟩⟩
theorem OwnK.step (h : OwnK k B w v l) (hb : Below w.heap.size w w') : OwnK k B w' v l := h.kept (fun j _ hj => hb.block j hj) hb.size
theorem OwnK.setCell (h : OwnK k B w v l) {p : Addr} (hp : p.block < B) (u : Value) : OwnK k B (w.setCell p u) v l := h.kept (fun j hj _ => Below.heap_setCell w p u j (by omega)) (by simp)
theorem OwnK.setRow (h : OwnK k B w v l) {g : Nat} (hp : g < B) (c : Array Value) : OwnK k B (w.setRow g c) v l := h.kept (fun j hj _ => setRow_other w g j c (by omega)) (by simp [World.setRow])
theorem OwnK.lt (h : OwnK k B w v l) {g : Nat} (hg : v.ownBlock = some g) : B ≤ g ∧ g < w.heap.size := h.own.lt g hg
theorem OwnK.form (h : OwnK k B w v l) : ∃ A c, v = .slice A l.length c ∧ l.length ≤ c ∧ c ≤ maxLen := by
  rcases h.own.2 with ⟨h1, h2⟩ | ⟨g, cap, cur, h1, _, _, h2, h3, _⟩
  · exact ⟨_, 0, by rw [h1, h2], by omega, by unfold maxLen; omega⟩
  · exact ⟨_, _, h1, h2, h3⟩
theorem OwnK.rd {A : Option Addr} {n c : Nat} (h : OwnK k B w (.slice A n c) l) : Rd w w.heap.size A (l.flatMap k.cells) := by
  obtain ⟨A', c', e1, -, -⟩ := h.form
  injection e1 with e1 e2 e3
  subst e2
  exact Rd.of_own h.own
theorem OwnK.snoc (h : OwnK k B W v l) (hx : Rd W W.heap.size (k.A x) (bytesV (k.body x)) ∧ (k.body x).length ≤ k.cap x ∧ k.cap x ≤ maxLen) (hfar : ∀ a, k.A x = some a → B ≤ a.block ∧ a.block < W.heap.size ∧ some a.block ≠ v.ownBlock)
    (hg : W.grownBy w' v.ownBlock) (hat : v'.ownBlock = v.ownBlock ∨ v'.ownBlock = some W.heap.size) (hown : w'.ownsRow B k.e k.size v' (l.length + 1) (l.flatMap k.cells ++ k.cells x)) : OwnK k B w' v' (l ++ [x]) := by
  have hs := hg.size
  refine ⟨by simpa using hown, fun y hy => ?_⟩
  have hq : Rd W W.heap.size (k.A y) (bytesV (k.body y)) ∧ (k.body y).length ≤ k.cap y ∧ k.cap y ≤ maxLen ∧ ∀ a, k.A y = some a → B ≤ a.block ∧ a.block < W.heap.size ∧ some a.block ≠ v.ownBlock := by
    rcases List.mem_append.1 hy with hy | hy
    · exact h.body y hy
    · have : y = x := by simpa using hy
      subst this
      exact ⟨hx.1, hx.2.1, hx.2.2, hfar⟩
  obtain ⟨r1, r2, r3, r4⟩ := hq
  refine ⟨rd_kept r1 (fun a ha => hg.block a.block (r4 a ha).2.1 (r4 a ha).2.2) hs, r2, r3, fun a ha => ⟨(r4 a ha).1, Nat.lt_of_lt_of_le (r4 a ha).2.1 hs, ?_⟩⟩
  rcases hat with e | e
  · rw [e]; exact (r4 a ha).2.2
  · rw [e]
    intro e2
    injection e2 with e2
    exact absurd (r4 a ha).2.1 (by omega)
end
section
variable {P : Program} {α : Type} {k : Kd α} {B : Nat} {W : World} {v : Value} {l : List α} {x : α}
/-- append of one element, which lies in a block of its own. -/
theorem wpList_ownK {ops : Array Oper} {rest : List Oper} {o : Oper} {a : Act} {Q : Exit → Act → World → Prop} (hgd : o.guard = none) (s y : Operand) (t : TypeId)
    (ho : o.op = .call { callee := .builtin .append, args := #[s, y], argTypes := #[t, t] }) {bytes : Nat} (S : SlT P t k.e k.size bytes) (hs : a.eval s = v) (I : OwnK k B W v l) (hB : B ≤ W.heap.size)
    {B' : Nat} {ad : Addr} {c : Nat} (hy : a.eval y = .slice (some ad) 1 c) (hr : Rd W B' (some ad) (k.cells x)) (hl : (k.cells x).length = 1 * k.size) (h1 : ∀ u ∈ k.cells x, u.oneCell' = true)
    (hx : Rd W W.heap.size (k.A x) (bytesV (k.body x)) ∧ (k.body x).length ≤ k.cap x ∧ k.cap x ≤ maxLen) (hfar : ∀ a, k.A x = some a → B ≤ a.block ∧ a.block < W.heap.size ∧ some a.block ≠ v.ownBlock)
    (h63 : l.length + 1 ≤ maxLen) (hbytes : (l.length + 1) * bytes ≤ 140737488355328)
    (h : ∀ v' w', OwnK k B w' v' (l ++ [x]) → W.grownBy w' v.ownBlock → (v'.ownBlock = v.ownBlock ∨ v'.ownBlock = some W.heap.size) → wpList P ops Q rest (a.put o.dst v') w') : wpList P ops Q (o :: rest) a W :=
  wpList_app hgd s y t ho S hs I.own hy hl hr h1 h63 hbytes hB fun v' w' h2 h3 h4 => h v' w' (I.snoc hx hfar h3 h4 h2) h3 h4
/-- append of one element, at the operation. -/
theorem wp_ownK {o : Oper} {a : Act} {K : Act → World → Prop} {Q : Exit → Act → World → Prop} (s y : Operand) (t : TypeId)
    (ho : o.op = .call { callee := .builtin .append, args := #[s, y], argTypes := #[t, t] }) {bytes : Nat} (S : SlT P t k.e k.size bytes) (hs : a.eval s = v) (I : OwnK k B W v l) (hB : B ≤ W.heap.size)
    {B' : Nat} {ad : Addr} {c : Nat} (hy : a.eval y = .slice (some ad) 1 c) (hr : Rd W B' (some ad) (k.cells x)) (hl : (k.cells x).length = 1 * k.size) (h1 : ∀ u ∈ k.cells x, u.oneCell' = true)
    (hx : Rd W W.heap.size (k.A x) (bytesV (k.body x)) ∧ (k.body x).length ≤ k.cap x ∧ k.cap x ≤ maxLen) (hfar : ∀ a, k.A x = some a → B ≤ a.block ∧ a.block < W.heap.size ∧ some a.block ≠ v.ownBlock)
    (h63 : l.length + 1 ≤ maxLen) (hbytes : (l.length + 1) * bytes ≤ 140737488355328)
    (h : ∀ v' w', OwnK k B w' v' (l ++ [x]) → W.grownBy w' v.ownBlock → (v'.ownBlock = v.ownBlock ∨ v'.ownBlock = some W.heap.size) → K (a.put o.dst v') w') : Oper.wp P o a W K Q :=
  wp_app s y t ho S hs I.own hy hl hr h1 h63 hbytes hB fun v' w' h2 h3 h4 => h v' w' (I.snoc hx hfar h3 h4 h2) h3 h4
end
end Go.Proofs.YtdlmamnnamlleaaDoor
namespace Go.Proofs.YtdlmamnnamlleaaDoor
open Go Go.ChangeShapes Go.WideShapes Go.ChangeAt Go.RowKit
set_option maxHeartbeats 4000000
set_option maxRecDepth 100000
/-! ### Slices of digits, appended -/
theorem S2I : SlT Tryd.prog 116 89 1 24 := SlT.mk' Tryd.underlying116 (by kernel_rfl) (by omega)
/-- Digits of n, off v's own block. -/
def NmA (W : World) (v u : Value) (n : Nat) : Prop := ∃ A l c, u = .slice A l.length c ∧ Ds W A l c ∧ Dg l n ∧ ∀ ad, A = some ad → l ≠ [] → some ad.block ≠ v.ownBlock
structure NmsO (B : Nat) (W : World) (v : Value) (l : List Value) (c : Nat → Nat) : Prop where
  own : W.ownsRow B 89 1 v l.length l
  num : ∀ i u, l[i]? = some u → NmA W v u (c i)
section
variable {B : Nat} {W W' : World} {v v' u : Value} {l : List Value} {c : Nat → Nat} {n : Nat}
theorem Ds.lt {A : Option Addr} {l : List Nat} {c : Nat} {ad : Addr} (h : Ds W A l c) (ha : A = some ad) (hl : l ≠ []) : ad.block < W.heap.size := by
  cases l with
  | nil => exact absurd rfl hl
  | cons d r =>
    obtain ⟨ad', e', hl, -⟩ := h.rd 0 (.int .i64 (d : Nat)) (by simp [digV])
    rw [ha] at e'
    injection e' with e'
    subst e'
    exact hl
theorem Ds.held {A : Option Addr} {l : List Nat} {c : Nat} (h : Ds W A l c) (hb : ∀ ad, A = some ad → l ≠ [] → W'.heap[ad.block]? = W.heap[ad.block]?) (hs : W.heap.size ≤ W'.heap.size) : Ds W' A l c := by
  refine ⟨fun j x hx => ?_, h.sm, h.le, h.mx⟩
  obtain ⟨ad, e, hl, hc⟩ := h.rd j x hx
  exact ⟨ad, e, Nat.lt_of_lt_of_le hl hs, (World.cell?_of_block (by rw [addr_block]; exact hb ad e (fun h0 => by subst h0; simp [digV] at hx))).trans hc⟩
theorem NmA.toN (h : NmA W v u n) : IsN W u n := by
  obtain ⟨A, l, c, e, h1, h2, -⟩ := h
  exact ⟨A, l, c, e, h1, h2⟩
theorem NmA.step (h : NmA W v u n) (hb : Below W.heap.size W W') : NmA W' v u n := by
  obtain ⟨A, l, c, e, h1, h2, h3⟩ := h
  exact ⟨A, l, c, e, h1.below hb (Nat.le_refl _), h2, h3⟩
theorem NmA.app (h : NmA W v u n) (hg : W.grownBy W' v.ownBlock) (hat : v'.ownBlock = v.ownBlock ∨ v'.ownBlock = some W.heap.size) : NmA W' v' u n := by
  obtain ⟨A, l, c, e, h1, h2, h3⟩ := h
  refine ⟨A, l, c, e, h1.held (fun ad ha hl => hg.block _ (h1.lt ha hl) (h3 ad ha hl)) hg.size, h2, fun ad ha hl => ?_⟩
  rcases hat with e | e
  · rw [e]; exact h3 ad ha hl
  · rw [e]
    intro e2
    injection e2 with e2
    exact absurd (h1.lt ha hl) (by omega)
theorem NmA.fresh {D : Nat} (h : IsNF W D u n) (hD : ∀ b, v.ownBlock = some b → b < D) : NmA W v u n := by
  obtain ⟨A, l, c, e, h1, h2, h3⟩ := h
  refine ⟨A, l, c, e, h1, h2, fun ad ha _ e2 => ?_⟩
  have h4 := hD _ e2.symm
  have h5 := h3 ad ha
  omega
theorem NmsO.step (h : NmsO B W v l c) (hb : Below W.heap.size W W') : NmsO B W' v l c := ⟨own_kept h.own fun j _ hj => hb.block j hj, fun i u hu => (h.num i u hu).step hb⟩
theorem NmsO.form (h : NmsO B W v l c) : ∃ A d, v = .slice A l.length d ∧ l.length ≤ d ∧ d ≤ maxLen := by
  rcases h.own.2 with ⟨h1, h2⟩ | ⟨g, cap, cur, h1, _, _, h2, h3, _⟩
  · exact ⟨_, 0, by rw [h1, h2], by omega, by unfold maxLen; omega⟩
  · exact ⟨_, _, h1, h2, h3⟩
theorem NmsO.at {A : Option Addr} {m d : Nat} (h : NmsO B W (.slice A m d) l c) {i : Nat} (hi : i < l.length) : ∃ ad u, A = some ad ∧ W.cell? (ad.add i) = some u ∧ IsN W u (c i) := by
  obtain ⟨A', c', e1, -, -⟩ := h.form
  injection e1 with e1 e2 e3
  subst e1 e2 e3
  obtain ⟨ad, e, -, hc⟩ := (Rd.of_own h.own) i l[i] (List.getElem?_eq_getElem hi)
  exact ⟨ad, l[i], e, hc, (h.num i _ (List.getElem?_eq_getElem hi)).toN⟩
theorem NmsO.start {D : Nat} {uA : Option Addr} {um uc : Nat} (w : World) (hB : B ≤ w.heap.size) (hu : IsNF w D (.slice uA um uc) (c 0)) : NmsO B (w.alloc (.cells #[.slice uA um uc] 89)) (.slice (some ⟨w.heap.size, 0, none⟩) 1 1) [.slice uA um uc] c := by
  refine ⟨⟨rfl, .inr ⟨w.heap.size, 1, #[.slice uA um uc], rfl, hB, heap_alloc_new _ _, by simp, by unfold maxLen; omega, rfl, rfl⟩⟩, fun i u h => ?_⟩
  have hi : i = 0 := by
    have := (List.getElem?_eq_some_iff.1 h).1
    simpa using this
  subst hi
  have h2 : u = .slice uA um uc := by simpa using h.symm
  subst h2
  obtain ⟨A, l, c', e, h1, h2, h3⟩ := hu
  refine ⟨A, l, c', e, h1.below (below_alloc w _) (Nat.le_refl _), h2, fun ad ha hl e2 => ?_⟩
  have h4 := h1.lt ha hl
  have h5 : ad.block = w.heap.size := by simpa [Value.ownBlock] using e2
  omega
end
theorem wp_nmsO {B : Nat} {W : World} {v u : Value} {l : List Value} {c : Nat → Nat} {o : Oper} {a : Act} {K : Act → World → Prop} {Q : Exit → Act → World → Prop} (s x : Operand)
    (ho : o.op = .call { callee := .builtin .append, args := #[s, x], argTypes := #[116, 116] }) (hs : a.eval s = v) (hO : NmsO B W v l c) (hB : B ≤ W.heap.size)
    {ad : Addr} {B' : Nat} (hx : a.eval x = .slice (some ad) 1 1) (hr : Rd W B' (some ad) [u]) (hu : NmA W v u (c l.length)) (hl : l.length ≤ 1000000)
    (h : ∀ v' w', NmsO B w' v' (l ++ [u]) c → Below B W w' → K (a.put o.dst v') w') : Oper.wp Tryd.prog o a W K Q := by
  have h1 : ∀ x ∈ [u], x.oneCell' = true := fun x hx => by
    obtain ⟨A, l, c, e, -⟩ := hu
    have : x = u := by simpa using hx
    rw [this, e]
    rfl
  refine wp_app s x 116 ho S2I hs hO.own hx (by rfl) hr h1 (by unfold maxLen; omega) (by omega) hB fun v' w' h2 h3 h4 => h v' w' ⟨by rw [List.length_append]; exact h2, fun i y hy => ?_⟩ ((Below.refl B W).grown h3 hB fun k hk => (hO.own.lt k hk).1)
  rcases Nat.lt_or_ge i l.length with hi | hi
  · rw [List.getElem?_append_left hi] at hy
    exact (hO.num i y hy).app h3 h4
  · rw [List.getElem?_append_right hi] at hy
    have h5 : i - l.length = 0 ∧ y = u := by
      have := (List.getElem?_eq_some_iff.1 hy).1
      have h0 : i - l.length = 0 := by simpa using this
      rw [h0] at hy
      exact ⟨h0, by simpa using hy.symm⟩
    have h6 : i = l.length := by omega
    rw [h5.2, h6]
    exact hu.app h3 h4
/-! ### Shares, appended -/
def outL (m : Nat) (Y : Nat → Nat) : List Value := (outA m m Y).toList
theorem outL_succ (m : Nat) (Y : Nat → Nat) : outL (m + 1) Y = outL m Y ++ (shA ((m + 1 : Nat) : Int) (Y m)).toList := by
  apply List.ext_getElem?
  intro i
  have e1 : (outL m Y).length = 5 * m := by unfold outL outA; rw [Array.length_toList, arrV_size]
  have e2 : (shA ((m + 1 : Nat) : Int) (Y m)).toList.length = 5 := by rw [Array.length_toList, shA_c, arrV_size]
  rcases Nat.lt_or_ge i (5 * m) with h | h
  · rw [List.getElem?_append_left (by omega)]
    unfold outL outA
    rw [Array.getElem?_toList, Array.getElem?_toList, arrV_at (by omega), arrV_at h, if_pos (by omega), if_pos (by omega)]
  · rw [List.getElem?_append_right (by omega), e1]
    rcases Nat.lt_or_ge i (5 * m + 5) with h2 | h2
    · unfold outL outA
      rw [Array.getElem?_toList, Array.getElem?_toList, arrV_at (by omega), shA_c, arrV_at (by omega), if_pos (by omega), show i / 5 = m by omega, show i - 5 * m = i % 5 by omega]
    · have e3 : (outL (m + 1) Y).length = 5 * (m + 1) := by unfold outL outA; rw [Array.length_toList, arrV_size]
      rw [List.getElem?_eq_none (l := outL (m + 1) Y) (by omega), List.getElem?_eq_none (by omega)]
theorem outL_shs {W : World} {B m d : Nat} {A : Option Addr} {Y : Nat → Nat} (h : W.ownsRow B 114 5 (.slice A m d) m (outL m Y)) : Shs W A m (fun i => ((i + 1 : Nat) : Int)) Y := ⟨fun i hi => by
  have hr := Rd.of_own h
  have hat : ∀ k, k < 5 → (outL m Y)[5 * i + k]? = some (shc ((i + 1 : Nat) : Int) (Y i) k) := fun k hk => by
    unfold outL outA
    rw [Array.getElem?_toList, arrV_at (by omega), if_pos (by omega), show (5 * i + k) / 5 = i by omega, show (5 * i + k) % 5 = k by omega]
  obtain ⟨ad, e, hl, -⟩ := hr _ _ (hat 0 (by omega))
  subst e
  refine ⟨ad, rfl, hl, fun k hk => ?_⟩
  rw [addr_add, Nat.mul_comm i 5, hr.all (hat k hk)]
  exact (arrV_at hk).symm⟩
theorem smP_lt {c : Nat → Nat} {x b : Nat} (hc : ∀ j, c j < 2 ^ b) (hx : x < 2 ^ 5) : ∀ j, smP c x j < 2 ^ (b + 1 + 6 * j)
  | 0 => by show 0 < _; exact Nat.pow_pos (by omega)
  | j + 1 => by
    have h1 := smP_lt hc hx j
    have h2 : x ^ j ≤ 2 ^ (5 * j) := by rw [Nat.pow_mul]; exact Nat.pow_le_pow_left (by omega) j
    have h3 : c j * x ^ j ≤ 2 ^ b * 2 ^ (5 * j) := Nat.mul_le_mul (Nat.le_of_lt (hc j)) h2
    rw [← Nat.pow_add] at h3
    have h4 : (2 : Nat) ^ (b + 5 * j) ≤ 2 ^ (b + 1 + 6 * j) := Nat.pow_le_pow_right (by omega) (by omega)
    have h5 : (2 : Nat) ^ (b + 1 + 6 * (j + 1)) = 2 ^ (b + 1 + 6 * j) * 64 := by rw [show b + 1 + 6 * (j + 1) = b + 1 + 6 * j + 6 by omega, Nat.pow_add]
    rw [smP, h5]
    omega
end Go.Proofs.YtdlmamnnamlleaaDoor
namespace Go.Proofs.YtdlmamnnamlleaaDoor
open Go Go.ChangeShapes Go.WideShapes Go.ChangeAt Go.RowKit
set_option maxHeartbeats 4000000
set_option maxRecDepth 100000
theorem ownS_form {W : World} {B size n : Nat} {e : TypeId} {v : Value} {xs : List Value} (h : W.ownsRow B e size v n xs) : ∃ A c, v = .slice A n c ∧ n ≤ c ∧ c ≤ maxLen := by
  rcases h.2 with ⟨h1, h2⟩ | ⟨g, cap, cur, h1, _, _, h2, h3, _⟩
  · exact ⟨_, 0, by rw [h1, h2], by omega, by unfold maxLen; omega⟩
  · exact ⟨_, _, h1, h2, h3⟩
theorem pw_lt {x : Nat} (hx : x < 2 ^ 5) (j : Nat) : x ^ j < 2 ^ (5 * j + 1) := by
  have h2 : x ^ j ≤ 2 ^ (5 * j) := by rw [Nat.pow_mul]; exact Nat.pow_le_pow_left (by omega) j
  have h3 : 0 < 2 ^ (5 * j) := Nat.pow_pos (by omega)
  rw [Nat.pow_succ]
  omega
theorem run_bsS {c : Array Value} (hc : c.size = 5) (w : World) : (Instr.buildSlice 60 1 #[(0, .agg c)]).run Tryd.prog w = .ok (.slice (some ⟨w.heap.size, 0, none⟩) 1 1) (w.alloc (.cells c 114)) := by
  obtain ⟨i, z, hi, hz, hs, -, hzs⟩ := SShs.info
  refine run_buildSlice w _ _ 1 _ c i z SShs.under hi hz (by rw [hs]; omega) (by rw [hs]; omega) ?_
  rw [hs]
  have h := Great.fill_whole (s := 5) (by omega) [.agg c] ((Array.range (1 * 5)).map (z.cells[· % z.cells.size]!)) (by intro v hv; simp at hv; subst hv; exact hc) (by simp)
  have e : ([Value.agg c].flatMap fun v => v.cells.toList).toArray = c := by simp [Value.cells]
  rw [e] at h
  exact h
theorem wp_bsS {w : World} {o : Oper} {x : Operand} {a : Act} {K : Act → World → Prop} {Q : Exit → Act → World → Prop} {c : Array Value} (ho : o.op = .buildSlice 60 1 #[(0, x)]) (hx : a.eval x = .agg c) (hc : c.size = 5)
    (h : K (a.put o.dst (.slice (some ⟨w.heap.size, 0, none⟩) 1 1)) (w.alloc (.cells c 114))) : Oper.wp Tryd.prog o a w K Q := by
  obtain ⟨dst, op, tt, pos, af, gd⟩ := o
  subst ho
  have h2 := run_bsS hc w
  unfold Oper.wp execOp
  simp only [List.map_toArray, List.map_cons, List.map_nil, hx, Sem.run_bind, h2, Result.andThen_ok]
  exact h
attribute [local go_sem ↓] load_num store_num execl_num execs_num
attribute [local go_sem] isHead_mk blkOf_mk isAgg_mk cellsV_mk row_drew rowAt_drew row_new_cells row_old rowAt_new rowAt_old setRow_new zeroNum
theorem ref_Shares (K : Nat → W32) (X N : Nat → Nat) (Z : Nat → Int) (seed : List UInt8) (s : Nat) (k n : Int) (w : World) (hT : Tabs K w) (hO : Orc K seed X N Z) (hs256 : s < 2 ^ 256)
    (hki : -9223372036854775808 ≤ k ∧ k < 9223372036854775808) (hni : -9223372036854775808 ≤ n ∧ n < 9223372036854775808) :
    Calls Tryd.prog 23 #[numV s, .int .i64 k, .int .i64 n, strV seed] w (SpR X N Z s k n w) := by
  have hTh := Lib.hid (hT.step (below_alloc w (Obj.cells (arrK .u64 4 (wd s)) 41)))
  have hG0 : At (w.alloc (Obj.cells (arrK .u64 4 (wd s)) 41)) w.heap.size .u64 4 (wd s) := At.new _ rfl
  have hL0 := below_alloc w (Obj.cells (arrK .u64 4 (wd s)) 41)
  have kO1 := fun V => ref_OfNum s V hs256
  have kOF := fun V => ref_OfNumF s V hs256
  have kPr := Lib.hid (fun V => ref_Prime V)
  have hOh := Lib.hid hO
  have hTw := Lib.hid hT
  have hb4 := Lib.hid (fun h : BadSp k n s => (show SpIs N Z s k n 0 1 from .inl ⟨h, rfl, rfl⟩))
  have hcs := arrK_cells .u64 4 (wd s)
  unfold numV at kO1 kOF ⊢
  replace kO1 := Lib.hid kO1
  replace kOF := Lib.hid kOF
  have hfL := Lib.hid (show (order s fL = -1 ∧ s < fL) ∨ ((order s fL = 0 ∨ order s fL = 1) ∧ fL ≤ s) by
    unfold order
    by_cases h : s < fL
    · exact .inl ⟨if_pos h, h⟩
    · refine .inr ⟨?_, by omega⟩
      rw [if_neg h]
      split
      · exact .inr rfl
      · exact .inl rfl)
  have kOd := Lib.hid (fun V u p (h1 : IsN V u s) (h2 : IsN V p fL) => orderN V (h1.toV (lt_big hs256 (by omega))) (h2.toV (lt_big fL_256 (by omega))))
  obtain ⟨od, hod⟩ : ∃ o, order s fL = o := ⟨_, rfl⟩
  rw [hod] at kOd hfL
  have hkh := Lib.hid hki
  have hnh := Lib.hid hni
  have hs2h := Lib.hid hs256
  clear hod hT hO hki hni hs256
  go_enter Tryd.func23, Tryd.ntmps23
  go_upto_region 1 with (fail)
  have hG := Lib.hid hG0
  have hL := Lib.hid hL0
  clear hG0 hL0
  generalize w.alloc _ = W0 at *
  by_cases h1 : k < 1
  · have d1 : decide (k < 1) = true := by simp; omega
    have hbz := Lib.hid (hb4.out (.inl h1))
    go_wp2_with fail
    go_ret2
    exact ⟨none, 0, 0, 1, rfl, by omega, by unfold maxLen; omega, ⟨fun i hi => absurd hi (by omega)⟩, hbz.out, hL.out⟩
  · have d1 : decide (k < 1) = false := by simp; omega
    by_cases h2 : n < k
    · have d2 : decide (n < k) = true := by simp; omega
      have hbz := Lib.hid (hb4.out (.inr (.inl h2)))
      go_wp2_with fail
      go_ret2
      exact ⟨none, 0, 0, 1, rfl, by omega, by unfold maxLen; omega, ⟨fun i hi => absurd hi (by omega)⟩, hbz.out, hL.out⟩
    · have d2 : decide (n < k) = false := by simp; omega
      by_cases h3 : 20 < n
      · have d3 : decide (n > 20) = true := by simp; omega
        have hbz := Lib.hid (hb4.out (.inr (.inr (.inl h3))))
        go_wp2_with fail
        go_ret2
        exact ⟨none, 0, 0, 1, rfl, by omega, by unfold maxLen; omega, ⟨fun i hi => absurd hi (by omega)⟩, hbz.out, hL.out⟩
      · have d3 : decide (n > 20) = false := by simp; omega
        have r4 := hG.out.row
        have q4 := hG.out.eq
        go_wp2_with fail
        refine (kO1.out _).mono ?_
        rintro e w1 ⟨u, rfl, hu, hb1⟩
        clear r4 q4
        replace hG := Lib.hid (hG.out.step hb1)
        replace hL := Lib.hid (below_step hb1 hL.out (Nat.le_refl _))
        replace hTh := Lib.hid (hTh.out.step hb1)
        clear hb1
        go_wp2_with fail
        refine (kPr.out _).mono ?_
        rintro e w2 ⟨p, rfl, hp, hb1⟩
        have hu2 := hu.step hb1
        replace hG := Lib.hid (hG.out.step hb1)
        replace hL := Lib.hid (below_step hb1 hL.out (Nat.le_refl _))
        replace hTh := Lib.hid (hTh.out.step hb1)
        clear hb1 hu
        go_wp2_with fail
        refine (kOd.out _ _ _ hu2 hp).mono ?_
        rintro e w3 ⟨rfl, rfl⟩
        clear hu2 hp kOd
        rcases hfL.out with ⟨h4, h5⟩ | ⟨h4, h5⟩
        · have d4 : decide (od ≥ 0) = false := by subst h4; rfl
          clear h4
          have hgd := Lib.hid (show ¬ BadSp k n s from fun h => by rcases h with h | h | h | h <;> omega)
          obtain ⟨kk, rfl⟩ : ∃ q : Nat, k = (q : Int) := ⟨k.toNat, by omega⟩
          obtain ⟨nn, rfl⟩ : ∃ q : Nat, n = (q : Int) := ⟨n.toNat, by omega⟩
          have hk1 : 1 ≤ kk := by omega
          have hkn : kk ≤ nn := by omega
          have hn20 : nn ≤ 20 := by omega
          have hsl := Lib.hid h5
          have r4 := hG.out.row
          have q4 := hG.out.eq
          clear h1 h2 h3 h5 d1 d2 d3 hfL hkh hnh hb4
          have hkh := Lib.hid (And.intro hk1 (And.intro hkn hn20))
          clear hk1 hkn hn20
          go_wp2_with fail
          refine (kOF.out _).mono ?_
          rintro e w3 ⟨u0, rfl, hu0, hb1⟩
          replace hL := Lib.hid (below_step hb1 hL.out (Nat.le_refl _))
          replace hTh := Lib.hid (hTh.out.step hb1)
          clear hb1 r4 q4 hG kO1 kOF
          obtain ⟨uA, um, uc, rfl, -, -, -⟩ := hu0.toN.form
          have hC0 := Lib.hid (NmsO.start (B := w.heap.size) (c := coF X N s) w3 hL.out.size hu0)
          have hbA := below_alloc w3 (Obj.cells #[Value.slice uA um uc] 89)
          replace hL := Lib.hid (below_step hbA hL.out (Nat.le_refl _))
          replace hTh := Lib.hid (hTh.out.step hbA)
          clear hbA hu0
          have hq1 := hkh.out.1
          go_upto_region 5 with (fail)
          generalize w3.alloc _ = W3 at *
          go_loopw [10, 11] (fun v av wr => ∃ (q P : Nat) (l : List Value), av = .int .u64 P ∧ 1 ≤ q ∧ q ≤ kk ∧ lenOf v = q ∧ Hid (l.length = q) ∧ Hid (NmsO w.heap.size wr v l (coF X N s)) ∧ Hid (∃ i, i + 1 = q ∧ plN N i = P ∧ ∀ j < i, Z (plN N j) = 0) ∧ Hid (Tabs K wr) ∧ Hid (Below w.heap.size w wr)) (fun v _ _ => kk - lenOf v)
          case atStart => exact ⟨1, 0, _, rfl, by omega, hq1, rfl, Lib.hid rfl, hC0, Lib.hid ⟨0, rfl, rfl, fun j hj => absurd hj (by omega)⟩, hTh, hL⟩
          case round =>
            clear hC0 hTh hL hq1
            obtain ⟨q, P, l, rfl, hq, hqk, hlv, hll, hN, hS, hTh, hL⟩ := hrel
            obtain ⟨cA, cC, rfl, hcl, hcm⟩ := hN.out.form
            have hllh := hll.out
            rw [hllh] at hN hcl
            rw [hllh]
            clear hllh hlv
            by_cases hqe : q = kk
            · subst hqe
              have d1 : decide ((q : Int) < (q : Int)) = false := by simp
              have hZq := Lib.hid (show ∀ i : Nat, i + 1 < q → Z (plN N i) = 0 from fun i hi => by
                obtain ⟨i', h1, -, h2⟩ := hS.out
                exact h2 i (by omega))
              obtain ⟨cf, hcf⟩ : ∃ c, coF X N s = c := ⟨_, rfl⟩
              have hcfl := Lib.hid (show ∀ j, cf j < 2 ^ 256 from hcf ▸ coF_lt hOh.out hs2h.out)
              rw [hcf] at hN
              obtain ⟨Yf, hYf⟩ : ∃ Y : Nat → Nat, ∀ i, Y i = smP cf (i + 1) q % fL := ⟨_, fun _ => rfl⟩
              have hYe := Lib.hid (show Yf = fun i => shY X N s ((q : Nat) : Int).toNat (i + 1) from funext fun i => by
                rw [hYf i, shY, hcf]
                rfl)
              have hYh := Lib.hid hYf
              obtain ⟨aC, u0, rfl, -, -⟩ := hN.out.at (i := 0) (by rw [hll.out]; omega)
              have hlq := Lib.hid (show l.length = q from hll.out)
              clear hS hqk hYf hcf hcm hTh hll
              go_upto_region 13 with (fail)
              clear d1
              obtain ⟨w2, rfl⟩ : ∃ x : World, x = wr := ⟨_, rfl⟩
              have hN2 := Lib.hid hN.out
              have hL2 := Lib.hid hL.out
              clear hN hL
              go_loopw [15, 16] (fun v xv wr => ∃ m1 : Nat, xv = .int .i64 m1 ∧ 1 ≤ m1 ∧ m1 ≤ nn + 1 ∧ Hid (wr.ownsRow w2.heap.size 114 5 v (m1 - 1) (outL (m1 - 1) Yf)) ∧ Hid (Below w2.heap.size w2 wr)) (fun _ xv _ => nn + 1 - (intOf xv).toNat)
              case atStart => exact ⟨1, rfl, by omega, by omega, Lib.hid (World.ownsRow_nil _ _ _ _), Lib.hid (Below.refl _ _)⟩
              case round =>
                obtain ⟨m1, rfl, hm0, hm, hO, hB⟩ := hrel
                obtain ⟨m, hme⟩ : ∃ m, m + 1 = m1 := ⟨m1 - 1, by omega⟩
                rw [show m1 - 1 = m by omega] at hO
                obtain ⟨oA, oc, rfl, ho1, ho2⟩ := ownS_form hO.out
                by_cases hmn : m = nn
                · have d2 : ¬ m1 ≤ nn := by omega
                  subst hmn
                  have hoh := Lib.hid (And.intro ho1 ho2)
                  clear ho1 ho2 hm0 hm hme
                  go_wp2_with fail
                  go_ret2
                  have hSh := outL_shs hO.out
                  rw [hYe.out] at hSh
                  exact ⟨oA, oc, m, 0, rfl, hoh.out.1, hoh.out.2, hSh, .inr (.inr ⟨hgd.out, fun i hi => hZq.out i (by omega), rfl, rfl⟩), below_step hB.out hL2.out (Nat.le_refl _)⟩
                · have d2 : m1 ≤ nn := by omega
                  have hm1l := Lib.hid (show m1 < 2 ^ 5 ∧ m1 ≤ nn ∧ m + 1 = m1 by have := hkh.out; refine ⟨?_, ?_, hme⟩ <;> omega)
                  clear hm0 hm hme hmn ho1 ho2
                  go_upto_region 18 with (fail)
                  clear d2
                  have hbA := below_alloc wr (Obj.cells #[Value.int IntKind.i64 ((1 : Nat) : Int)] 3)
                  have hP1 := Lib.hid (IsV.lit wr 3 (d := 1) (by omega))
                  have hLA := Lib.hid hbA
                  clear hbA
                  rw [show (Value.int IntKind.i64 1) = Value.int IntKind.i64 ((1 : Nat) : Int) from rfl]
                  have hB18 := Lib.hid (show Below w2.heap.size w2 (wr.alloc (Obj.cells #[Value.int IntKind.i64 ((1 : Nat) : Int)] 3)) from below_step hLA.out hB.out (Nat.le_refl _))
                  have hO18 := Lib.hid (own_kept (w' := wr.alloc (Obj.cells #[Value.int IntKind.i64 ((1 : Nat) : Int)] 3)) hO.out fun j _ hj => hLA.out.block j hj)
                  clear hO hB hLA
                  generalize wr.alloc _ = W18 at *
                  generalize wr.heap.size = g18 at *
                  go_loopw [17, 18, 75] (fun yv pv iv wr => ∃ j : Nat, iv = .int .i64 j ∧ j ≤ q ∧ Hid (IsN wr yv (smP cf m1 j)) ∧ Hid (IsV wr pv (m1 ^ j)) ∧ Hid (wr.ownsRow w2.heap.size 114 5 (.slice oA m oc) m (outL m Yf)) ∧ Hid (Below w2.heap.size w2 wr)) (fun _ _ iv _ => q - (intOf iv).toNat)
                  case atStart => exact ⟨0, rfl, Nat.zero_le _, Lib.hid (IsN.nil _), Lib.hid (by rw [Nat.pow_zero]; exact hP1.out), hO18, hB18⟩
                  case round =>
                    clear hP1 hO18 hB18
                    obtain ⟨j, rfl, hj, hy, hp, hO, hB⟩ := hrel
                    by_cases hjq : j = q
                    · subst hjq
                      have d3 : decide ((j : Int) < (j : Int)) = false := by simp
                      have hyl := hm1l.out
                      have kRs := Lib.hid (fun V y p (h1 : IsN V y (smP cf m1 j)) (h2 : IsN V p fL) => restN V h1 (smP_lt hcfl.out hyl.1 j) (by have := hkh.out; omega) (h2.toV (lt_big fL_256 (by omega))) (Nat.lt_trans (by omega) fL_pos) (mul_big (m := 17) (n := 256) (by omega) fL_256 (by omega)))
                      have hYm : smP cf m1 j % fL = Yf m := by rw [hYh.out m, hyl.2.2]
                      rw [hYm] at kRs
                      obtain ⟨ym, hym⟩ : ∃ y, Yf m = y := ⟨_, rfl⟩
                      rw [hym] at kRs
                      have hyml : ym < 2 ^ 256 := by rw [← hym, ← hYm]; exact Nat.lt_trans (Nat.mod_lt _ (Nat.lt_trans (by omega) fL_pos)) fL_256
                      have kTx := fun V u (h1 : IsN V u ym) => toNumN V (h1.toV (lt_big hyml (by omega)))
                      unfold numV at kTx
                      have kTn := Lib.hid kTx
                      have hbl := Lib.hid (fun V => build_sh (m1 : Int) ym V)
                      have hcs := Lib.hid (shA_cells (m1 : Int) ym)
                      have hymh := Lib.hid hym
                      clear hj hyl hYm hyml kTx hym
                      go_wp2_with fail
                      refine (kPr.out _).mono ?_
                      rintro e w4 ⟨p4, rfl, hp4, hb4⟩
                      replace hy := Lib.hid (hy.out.step hb4)
                      replace hO := Lib.hid (own_kept hO.out fun j _ hj => hb4.block j hj)
                      replace hB := Lib.hid (below_step hb4 hB.out (Nat.le_refl _))
                      clear hb4
                      go_wp2_with fail
                      refine (kRs.out _ _ _ hy.out hp4).mono ?_
                      rintro e w5 ⟨r5, rfl, hr5, hb4⟩
                      replace hO := Lib.hid (own_kept hO.out fun j _ hj => hb4.block j hj)
                      replace hB := Lib.hid (below_step hb4 hB.out (Nat.le_refl _))
                      clear hb4 hy hp hp4 kRs
                      go_wp2_with fail
                      refine (kTn.out _ _ hr5).mono ?_
                      rintro e w6 ⟨rfl, hb4⟩
                      have hbA := below_alloc w6 (Obj.cells (shA (m1 : Int) ym) 114)
                      replace hO := Lib.hid (own_kept (own_kept hO.out fun j _ hj => hb4.block j hj) fun j _ hj => hbA.block j hj)
                      replace hB := Lib.hid (below_step hbA (below_step hb4 hB.out (Nat.le_refl _)) (Nat.le_refl _))
                      have hr6 := Lib.hid (show Rd (w6.alloc (Obj.cells (shA (m1 : Int) ym) 114)) (w6.heap.size + 1) (some ⟨w6.heap.size, 0, none⟩) (shA (m1 : Int) ym).toList from Rd.of_blk (push_new _ _) (by simp))
                      have ho6 := Lib.hid (show ∀ u ∈ (shA (m1 : Int) ym).toList, u.oneCell' = true from fun u hu => by
                        have h := hcs.out.2
                        rw [Array.all_eq_true_iff_forall_mem] at h
                        exact h u (by simpa using hu))
                      have hn6 := Lib.hid (show m + 1 ≤ 1000 by have h1 := hkh.out; have h2 := hm1l.out; omega)
                      clear hb4 hbA hr5 kTn
                      go_wp2_with (first | (refine wpList_opT (by go_simp) (fun K9 hK => wp_bldTwo rfl (vx := .int .i64 (m1 : Int)) (vy := .agg (arrK .u64 4 (wd ym))) (by go_simp) (by go_simp) (hbl.out _) (hK _ _ ?_))) | (refine wpList_opT (by go_simp) (fun K9 hK => wp_bsS (c := shA (m1 : Int) ym) rfl (by go_simp) hcs.out.1 (hK _ _ ?_))) | (at_builtin; refine wpList_plain rfl fun K9 hK => wp_app (m := 1) (c := 1) (A := some ⟨w6.heap.size, 0, none⟩) (.tmp 89) (.tmp 96) 60 rfl SShs (by go_simp) hO.out (by go_simp) (by rw [Array.length_toList, hcs.out.1]) hr6.out ho6.out (by have := hn6.out; unfold maxLen; omega) (by have := hn6.out; omega) hB.out.size fun v9 w9 h29 h39 h49 => hK _ _ ?_))
                      have hO9 := Lib.hid (show w9.ownsRow w2.heap.size 114 5 v9 (m1 + 1 - 1) (outL (m1 + 1 - 1) Yf) from by
                        have h := h29
                        rw [Nat.add_sub_cancel]
                        rw [← hm1l.out.2.2] at h ⊢
                        rw [outL_succ, hymh.out]
                        exact h)
                      have hB9 := Lib.hid (hB.out.trans ((Below.refl w2.heap.size _).grown h39 hB.out.size fun k hk => (hO.out.lt k hk).1))
                      have hm9 := Lib.hid (show m1 ≤ nn ∧ m1 ≤ 20 by have h1 := hkh.out; have h2 := hm1l.out; omega)
                      obtain ⟨m2, hm2⟩ : ∃ x, x = m1 + 1 := ⟨_, rfl⟩
                      have hw9 : IntKind.i64.wrap ((m1 : Int) + 1) = (m2 : Int) := by rw [IntKind.wrap_i64]; have := hm9.out; omega
                      have hw10 := Lib.hid (show wrap64 ((m1 : Int) + 1) = (m2 : Int) by have := hm9.out; unfold wrap64; omega)
                      have hm2h := Lib.hid hm2
                      rw [← hm2] at hO9
                      clear hm2
                      clear h29 h39 h49 hO hB hr6 ho6 hn6 hbl hcs
                      go_wp2_with fail
                      go_roundw
                      case rel => exact ⟨m2, by rw [hw10.out], by have := hm2h.out; omega, by have := hm9.out; have := hm2h.out; omega, hO9, hB9⟩
                      case measure => rw [hw10.out]; have := hm9.out; have := hm2h.out; simp [intOf]; omega
                    · have d3 : decide ((j : Int) < (q : Int)) = true := by simp; omega
                      have hji : (j : Int) < (q : Int) := by omega
                      have hj0 : (0 : Int) ≤ (j : Int) := by omega
                      have hj20 := Lib.hid (show j < q ∧ j ≤ 20 by have := hkh.out; omega)
                      obtain ⟨ad9, u9, had, hcell, hu⟩ := (hN2.out.step hB.out).at (i := j) (by rw [hlq.out]; omega)
                      injection had with had
                      subst had
                      have huh := Lib.hid hu
                      have kT1 := Lib.hid (fun V u p (h1 : IsN V u (cf j)) (h2 : IsV V p (m1 ^ j)) => timesN V (h1.toV (lt_big (hcfl.out j) (by omega))) h2)
                      have kPl := Lib.hid (fun V y t (h1 : IsN V y (smP cf m1 j)) (h2 : IsN V t (cf j * m1 ^ j)) => plusN V (h1.toV (lt_big (smP_lt hcfl.out hm1l.out.1 j) (by have := hj20.out; omega))) (h2.toV (mul_big (hcfl.out j) (pw_lt hm1l.out.1 j) (by have := hj20.out; omega))))
                      have kT2 := Lib.hid (fun V p x (h1 : IsV V p (m1 ^ j)) (h2 : IsV V x m1) => timesN V h1 h2)
                      clear hu hj hjq
                      go_wp2_with fail
                      refine (kT1.out _ _ _ huh.out hp.out).mono ?_
                      rintro e w4 ⟨t4, rfl, ht4, hb4⟩
                      replace hy := Lib.hid (hy.out.step hb4)
                      replace hp := Lib.hid (hp.out.step hb4)
                      replace hO := Lib.hid (own_kept hO.out fun j _ hj => hb4.block j hj)
                      replace hB := Lib.hid (below_step hb4 hB.out (Nat.le_refl _))
                      clear hb4 huh hcell kT1 hji hj0
                      go_wp2_with fail
                      refine (kPl.out _ _ _ hy.out ht4).mono ?_
                      rintro e w5 ⟨y5, rfl, hy5, hb4⟩
                      have hbA := below_alloc w5 (Obj.cells #[Value.int IntKind.i64 (m1 : Int)] 3)
                      replace hy := Lib.hid (hy5.step hbA)
                      replace hp := Lib.hid ((hp.out.step hb4).step hbA)
                      replace hO := Lib.hid (own_kept (own_kept hO.out fun j _ hj => hb4.block j hj) fun j _ hj => hbA.block j hj)
                      replace hB := Lib.hid (below_step hbA (below_step hb4 hB.out (Nat.le_refl _)) (Nat.le_refl _))
                      have hx5 := Lib.hid (IsV.lit w5 3 (d := m1) (by have := hm1l.out.1; omega))
                      clear hb4 hbA hy5 ht4 kPl
                      go_wp2_with fail
                      refine (kT2.out _ _ _ hp.out hx5.out).mono ?_
                      rintro e w6 ⟨p6, rfl, hp6, hb4⟩
                      replace hy := Lib.hid (hy.out.step hb4)
                      replace hO := Lib.hid (own_kept hO.out fun j _ hj => hb4.block j hj)
                      replace hB := Lib.hid (below_step hb4 hB.out (Nat.le_refl _))
                      have hp7 := Lib.hid (show IsV w6 p6 (m1 ^ (j + 1)) from by
                        rw [← Nat.pow_succ] at hp6
                        exact hp6.toV (lt_big (pw_lt hm1l.out.1 (j + 1)) (by have := hj20.out; omega)))
                      clear hb4 hp6 hx5 hp kT2
                      have hj22 := hj20.out.2
                      go_wp2_with fail
                      go_roundw
                      case rel => exact ⟨j + 1, by go_num, hj20.out.1, hy, hp7, hO, hB⟩
                      case measure => have := hj20.out.1; simp [intOf]; omega
            · have d1 : decide ((q : Int) < (kk : Int)) = true := by simp; omega
              have hqi : (q : Int) < (kk : Int) := by omega
              have hqlh := Lib.hid (show q < kk by omega)
              obtain ⟨i, hiq, hP, hZ⟩ := hS.out
              obtain ⟨x, hx⟩ : ∃ x, X P = x := ⟨_, rfl⟩
              obtain ⟨z, hz⟩ : ∃ z, Z P = z := ⟨_, rfl⟩
              obtain ⟨nP, hnP⟩ : ∃ z, N P = z := ⟨_, rfl⟩
              have hPl : P < 18446744073709551616 := hP ▸ plN_lt N i
              have hsm := hOh.out.sm P
              rw [hx, hnP] at hsm
              have kDx := fun V h => hOh.out.doc P V hPl h
              rw [hx, hz, hnP] at kDx
              unfold numV at kDx
              have kD := Lib.hid kDx
              have kOx := fun V => ref_OfNumF x V hsm.2
              unfold numV at kOx
              have kO := Lib.hid kOx
              have hxz := Lib.hid (And.intro hx (And.intro hz hnP))
              have hiz := Lib.hid (And.intro hiq (And.intro hP hZ))
              have hcz := arrK_cells .u64 4 (wd 0)
              have hcx := arrK_cells .u64 4 (wd x)
              obtain ⟨P2, hP2⟩ : ∃ p, plc P nP = p := ⟨_, rfl⟩
              have hwc : IntKind.u64.wrap (nP : Int) = (nP : Int) := by rw [IntKind.wrap_u64]; omega
              have hwp : IntKind.u64.wrap ((P : Int) + (nP : Int)) = (P2 : Int) := by rw [IntKind.wrap_u64, ← hP2]; unfold plc; omega
              have hP2h := Lib.hid hP2
              clear hP hx hz hnP hS hZ hiq hqe hPl hsm kDx kOx hP2
              have kTN := Lib.hid (fun V p (h2 : IsN V p fL) => toNumN V (h2.toV (lt_big fL_256 (by omega))))
              unfold numV at kTN
              go_upto_region 6 with (fail)
              go_wp2_with fail
              refine (kPr.out _).mono ?_
              rintro e w4 ⟨p4, rfl, hp4, hb4⟩
              replace hN := Lib.hid (hN.out.step hb4)
              replace hL := Lib.hid (below_step hb4 hL.out (Nat.le_refl _))
              replace hTh := Lib.hid (hTh.out.step hb4)
              clear hb4
              go_wp2_with fail
              refine (kTN.out _ _ hp4).mono ?_
              rintro e w5 ⟨rfl, hb4⟩
              replace hN := Lib.hid (hN.out.step hb4)
              replace hL := Lib.hid (below_step hb4 hL.out (Nat.le_refl _))
              have hTh5 := hTh.out.step hb4
              clear hb4 hp4 hTh
              go_wp2_with fail
              refine (kD.out _ hTh5).mono ?_
              rintro e w6 ⟨rfl, hb4⟩
              have hbA := below_alloc w6 (Obj.cells (arrK .u64 4 (wd x)) 41)
              replace hN := Lib.hid ((hN.out.step hb4).step hbA)
              replace hL := Lib.hid (below_step hbA (below_step hb4 hL.out (Nat.le_refl _)) (Nat.le_refl _))
              have hTh := Lib.hid ((hTh5.step hb4).step hbA)
              have hX6 : At (w6.alloc (Obj.cells (arrK .u64 4 (wd x)) 41)) w6.heap.size .u64 4 (wd x) := At.new _ rfl
              clear hb4 hbA hTh5 kTN kD
              go_upto_region 7 with (fail)
              generalize w6.alloc _ = W6 at *
              generalize w6.heap.size = g12 at *
              obtain ⟨rX, qX⟩ := hX6
              by_cases hz0 : z = 0
              · have hzz : (z != 0) = false ∧ (z == 0) = true := by simpa using hz0
                have hz1 := hzz.1
                have hz2 := hzz.2
                have hZh := Lib.hid hz0
                have hD := Lib.hid (fun b hb => (hN.out.own.lt b hb).2)
                clear hzz hz0 hTh
                go_wp2_with fail
                refine (kO.out _).mono ?_
                rintro e w7 ⟨u7, rfl, hu7, hb7⟩
                obtain ⟨vA, vm, vc, rfl, -, -, -⟩ := hu7.toN.form
                have hbA := below_alloc w7 (Obj.cells #[Value.slice vA vm vc] 89)
                have hN7 := Lib.hid ((hN.out.step hb7).step hbA)
                have hL7 := Lib.hid (below_step hbA (below_step hb7 hL.out (Nat.le_refl _)) (Nat.le_refl _))
                have hu8 := Lib.hid (show NmA (w7.alloc (Obj.cells #[Value.slice vA vm vc] 89)) (.slice cA q cC) (.slice vA vm vc) (coF X N s l.length) from by
                  rw [show l.length = i + 1 from hll.out.trans hiz.out.1.symm, coF, hiz.out.2.1, hxz.out.1]
                  exact NmA.fresh (hu7.step hbA) hD.out)
                have hr7 := Lib.hid (show Rd (w7.alloc (Obj.cells #[Value.slice vA vm vc] 89)) (w7.heap.size + 1) (some ⟨w7.heap.size, 0, none⟩) [Value.slice vA vm vc] from Rd.of_blk (cs := #[Value.slice vA vm vc]) (push_new _ _) (by simp))
                have hll2 := Lib.hid (show l.length ≤ 1000000 by have h1 := hll.out; have h2 := hkh.out; omega)
                clear hbA hb7 hu7 hN hL hD rX qX
                go_wp2_with (at_builtin; refine wpList_plain rfl fun K9 hK => wp_nmsO (.tmp 62) (.tmp 65) rfl (by go_simp) hN7.out hL7.out.size (by go_simp) hr7.out hu8.out hll2.out fun v8 w8 hN8 hb8 => hK _ _ ?_)
                obtain ⟨cA2, cC2, rfl, -, -⟩ := hN8.form
                have hlen : (l ++ [Value.slice vA vm vc]).length = q + 1 := by rw [List.length_append, hll.out]; rfl
                rw [hlen] at hN8 ⊢
                have hL8 := Lib.hid (hL7.out.trans hb8)
                have hN8h := Lib.hid hN8
                have hlh := Lib.hid hlen
                clear hN8 hb8 hN7 hL7 hr7 hu8 hlen
                have hqk2 := hqlh.out
                go_wp2_with fail
                go_roundw
                case rel => exact ⟨q + 1, P2, l ++ [.slice vA vm vc], by go_num, by omega, by omega, rfl, hlh, hN8h, Lib.hid ⟨i + 1, by have := hiz.out.1; omega, by rw [plN, hiz.out.2.1, hxz.out.2.2]; exact hP2h.out, fun j hj => by
                  rcases Nat.lt_or_ge j i with h | h
                  · exact hiz.out.2.2 j h
                  · have h2 : j = i := by omega
                    rw [h2, hiz.out.2.1, hxz.out.2.1, hZh.out]⟩, Lib.hid (hTw.out.step hL8.out), hL8⟩
                case measure => simp [lenOf]; omega
              · have hzz : (z != 0) = true ∧ (z == 0) = false := ⟨by simpa using hz0, by simpa using hz0⟩
                have hz1 := hzz.1
                have hz2 := hzz.2
                have hZh := Lib.hid hz0
                clear hzz hz0
                go_wp2_with fail
                go_ret2
                exact ⟨none, 0, 0, z, rfl, by omega, by unfold maxLen; omega, ⟨fun i hi => absurd hi (by omega)⟩, .inr (.inl ⟨hgd.out, i, by have h1 := hiz.out.1; have h2 := hqlh.out; omega, by rw [hiz.out.2.1, hxz.out.2.1]; exact hZh.out, hiz.out.2.2, rfl, by rw [hiz.out.2.1, hxz.out.2.1]⟩), hL.out⟩
        · have d4 : decide (od ≥ 0) = true := by rcases h4 with rfl | rfl <;> rfl
          clear h4
          have hbz0 := Lib.hid (hb4.out (.inr (.inr (.inr h5))))
          go_wp2_with fail
          go_ret2
          exact ⟨none, 0, 0, 1, rfl, by omega, by unfold maxLen; omega, ⟨fun i hi => absurd hi (by omega)⟩, hbz0.out, hL.out⟩
end Go.Proofs.YtdlmamnnamlleaaDoor
namespace Go.Proofs.YtdlmamnnamlleaaDoor
open Go Go.ChangeShapes Go.WideShapes Go.ChangeAt Go.RowKit
set_option maxHeartbeats 2000000
set_option maxRecDepth 100000
theorem part_inS {c d : Array Value} {t : TypeId} {ds : TypeDesc} {n o : Nat} (hu : Tryd.prog.underlying t = some ds) (hds : ds.isRow = true) (hi : (Tryd.prog.info? t).map (·.size) = some n) (he : c.extract o (o + n) = d) (w : World) : (part t c o).run Tryd.prog w = .ok (.agg d) w := by
  obtain ⟨i, hi, hs⟩ : ∃ i, Tryd.prog.info? t = some i ∧ i.size = n := by
    cases h : Tryd.prog.info? t with
    | none => rw [h] at hi; cases hi
    | some i => rw [h] at hi; exact ⟨i, rfl, by simpa using hi⟩
  have hag : (isAgg t).run Tryd.prog w = .ok true w := by
    unfold isAgg
    rw [Sem.run_bind, run_underlying hu w]
    cases ds <;> simp_all
  simp [part, hag, sizeOf, typeInfo, hi, hs, he]
theorem part_intS {c : Array Value} {v : Value} (he : c[0]? = some v) (w : World) : (part 3 c 0).run Tryd.prog w = .ok v w := by
  have hag : (isAgg 3).run Tryd.prog w = .ok false w := by
    unfold isAgg
    rw [Sem.run_bind, run_underlying Tryd.underlying3 w]
    rfl
  simp [part, hag, he]
theorem forIn_yieldS {α β : Type} {P : Program} {w : World} (b : β) (body : α → β → Sem (ForInStep β)) : ∀ l : List α, (∀ x ∈ l, (body x b).run P w = .ok (.yield b) w) → (forIn l b body).run P w = .ok b w
  | [], _ => by rw [List.forIn_nil, Sem.run_pure]
  | x :: l, h => by
    rw [List.forIn_cons, Sem.run_bind, h x (by simp), Result.andThen_ok]
    exact forIn_yieldS b body l fun y hy => h y (by simp [hy])
theorem fld_sameS {P : Program} {w : World} {nm : String} {q : Sem Value} {E : Value → Value → Sem Bool} {v : Value} (h : q.run P w = .ok v w) (he : (E v v).run P w = .ok true w) :
    (if nm ≠ "_" then do
      let a ← q
      let b ← q
      let c ← E a b
      if (!c) = true then pure (ForInStep.done (some false, ())) else pure (ForInStep.yield (none, ()))
    else pure (ForInStep.yield (none, ())) : Sem (ForInStep (Option Bool × Unit))).run P w = .ok (.yield (none, ())) w := by
  split
  · rw [Sem.run_bind, h, Result.andThen_ok, Sem.run_bind, h, Result.andThen_ok, Sem.run_bind, he, Result.andThen_ok]
    rfl
  · rfl
theorem eqlSh (x : Int) (y : Nat) (w : World) : (Op.equalIn 10000 114 (.agg (shA x y)) (.agg (shA x y))).run Tryd.prog w = .ok true w := by
  rw [show 10000 = 9999 + 1 from rfl, Op.equalIn.eq_2]
  simp only [Sem.run_bind, run_underlying Tryd.underlying114, Result.andThen_ok]
  have hst : Tryd.prog.stoodInHeld 114 = false := by kernel_rfl
  have h1 := part_intS (shA_0 x y) w
  have h2 := part_inS (c := shA x y) (o := 1) (n := 4) Tryd.underlying41 rfl (by kernel_rfl) (shA_1 x y) w
  have e1 : (Op.equalIn 9999 3 (.int .i64 x) (.int .i64 x)).run Tryd.prog w = .ok true w := (run_equalIn_int w 9998 3 .i64 .i64 x x Tryd.underlying3).trans (by simp)
  have e2 : (Op.equalIn 9999 41 _ _).run Tryd.prog w = .ok true w := equalIn_4 (wd y) 9997 w
  generalize shA x y = c at *
  generalize arrK .u64 4 (wd y) = ds at *
  generalize Op.equalIn 9999 = E at *
  simp only [run_program, Result.andThen_ok, hst, Bool.false_eq_true, if_false, Sem.run_bind]
  rw [List.forIn_toArray, forIn_yieldS]
  · rfl
  · intro x hx
    simp only [List.mem_cons, List.not_mem_nil, or_false] at hx
    rcases hx with rfl | rfl
    · exact fld_sameS h1 e1
    · exact fld_sameS h2 e2
theorem neqSh (x : Int) (y : Nat) (w : World) : (binOp .neq 114 (.agg (shA x y)) (.agg (shA x y))).run Tryd.prog w = .ok (.bool false) w := by rw [run_neq_struct, eqlSh]; rfl
attribute [local irreducible] arrV shA
attribute [local go_sem ↓] load_shE
/-- Two lists of the same shares. -/
theorem same_Shares (A B : Option Addr) (n c d : Nat) (X : Nat → Int) (Y : Nat → Nat) (w : World) (hA : Shs w A n X Y) (hB : Shs w B n X Y) (hc : n ≤ c) (hd : n ≤ d) (hn : n ≤ 1000) :
    Calls Tryd.prog 24 #[.slice A n c, .slice B n d] w fun e w' => e = .returned (.bool true) ∧ Below w.heap.size w w' := by
  go_enter Tryd.func24, Tryd.ntmps24
  have hAh := Lib.hid hA
  have hBh := Lib.hid hB
  clear hA hB
  have hnn : ((n : Int) != (n : Int)) = false := by simp
  go_upto_region 4 with (fail)
  clear hnn
  go_loopw [13] (fun iv wr => ∃ i : Nat, iv = .int .i64 i ∧ i ≤ n ∧ Hid (Below w.heap.size w wr)) (fun iv _ => n - (intOf iv).toNat)
  case atStart => exact ⟨0, rfl, Nat.zero_le _, Lib.hid (Below.refl _ _)⟩
  case round =>
    obtain ⟨i, rfl, hi, hL⟩ := hrel
    by_cases hin : i = n
    · subst hin
      have d1 : decide ((i : Int) < (i : Int)) = false := by simp
      clear hi
      go_wp2_with fail
      exact ret_tmp (p := 4) (v := .bool true) rfl (by simp) rfl ⟨rfl, hL.out⟩
    · have d1 : decide ((i : Int) < (n : Int)) = true := by simp; omega
      have hii : (i : Int) < (n : Int) := by omega
      have hi0 : (0 : Int) ≤ (i : Int) := by omega
      obtain ⟨a1, e1, -, q1⟩ := (hAh.out.step hL.out).at_ i (by omega)
      obtain ⟨a2, e2, -, q2⟩ := (hBh.out.step hL.out).at_ i (by omega)
      subst e1 e2
      have hE1 := Lib.hid (show ∀ ω, Below wr.heap.size wr ω → LdOk ω 5 (.pointer (some (a1.add (i * 5)))) ∧ ldC ω 5 (.pointer (some (a1.add (i * 5)))) = shA (X i) (Y i) from fun ω hb => by
        obtain ⟨a9, e9, -, q9⟩ := ((hAh.out.step hL.out).step hb).at_ i (by omega)
        injection e9 with e9
        subst e9
        exact pl_ldC (shA_cells (X i) (Y i)).1 (shA_some (X i) (Y i)) q9)
      have hE2 := Lib.hid (show ∀ ω, Below wr.heap.size wr ω → LdOk ω 5 (.pointer (some (a2.add (i * 5)))) ∧ ldC ω 5 (.pointer (some (a2.add (i * 5)))) = shA (X i) (Y i) from fun ω hb => by
        obtain ⟨a9, e9, -, q9⟩ := ((hBh.out.step hL.out).step hb).at_ i (by omega)
        injection e9 with e9
        subst e9
        exact pl_ldC (shA_cells (X i) (Y i)).1 (shA_some (X i) (Y i)) q9)
      have hcl := Lib.hid (show i < n ∧ n ≤ 1000 by omega)
      clear q1 q2 hi hin
      go_upto_region 6 with (fail)
      clear d1
      generalize ha0 : Act.mk _ _ = a0
      have e0 : a0.tmps[0]?.getD undef = .slice (some a1) n c := by rw [← ha0]; rfl
      have e1 : a0.tmps[1]?.getD undef = .slice (some a2) n d := by rw [← ha0]; rfl
      have e5 : a0.tmps[5]?.getD undef = .int .i64 (i : Nat) := by rw [← ha0]; rfl
      have hz0 : a0.tmps.size = 26 := by rw [← ha0]; rfl
      have hha0 := Lib.hid ha0
      clear ha0
      refine wp_region_calm (fun jx_ => match jx_ with | 0 => SRel.is (.slice (some a1) n c) | 1 => SRel.is (.int .i64 (i : Nat)) | 2 => SRel.is (.pointer (some (a1.add (i * 5)))) | 3 => SRel.is (.agg (shA (X i) (Y i))) | 4 => SRel.is (.slice (some a2) n d) | 5 => SRel.is (.int .i64 (i : Nat)) | 6 => SRel.is (.pointer (some (a2.add (i * 5)))) | 7 => SRel.is (.agg (shA (X i) (Y i))) | 8 => SRel.is (.bool false) | _ => SRel.any) (by kernel_rfl) (by kernel_rfl) (by kernel_rfl) (slotsOk_of hz0 (by kernel_rfl)) ⟨?_, ?_, ?_, ?_, ?_, ?_, ?_, ?_, ?_, trivial⟩ ?_
      · refine calm_step rfl fun a ω κ hb hu hc hK => ?_
        have h0 : a.tmps[0]?.getD undef = .slice (some a1) n c := (hu 0 rfl).trans e0
        have hk := Lib.hid (fun w1 (h : Below ω.heap.size ω w1) => hK (.slice (some a1) n c) w1 rfl h)
        clear hK hu hc
        go_simp
        exact hk.out _ (Below.refl _ _)
      · refine calm_step rfl fun a ω κ hb hu hc hK => ?_
        have h5 : a.tmps[5]?.getD undef = .int .i64 (i : Nat) := (hu 5 rfl).trans e5
        have hk := Lib.hid (fun w1 (h : Below ω.heap.size ω w1) => hK (.int .i64 (i : Nat)) w1 rfl h)
        clear hK hu hc
        go_simp
        exact hk.out _ (Below.refl _ _)
      · refine calm_step rfl fun a ω κ hb hu hc hK => ?_
        have h16 : a.tmps[16]?.getD undef = .slice (some a1) n c := hc 0 16 rfl rfl
        have h17 : a.tmps[17]?.getD undef = .int .i64 (i : Nat) := hc 1 17 rfl rfl
        have hk := Lib.hid (fun w1 (h : Below ω.heap.size ω w1) => hK (.pointer (some (a1.add (i * 5)))) w1 rfl h)
        clear hK hu hc
        go_simp
        exact hk.out _ (Below.refl _ _)
      · refine calm_step rfl fun a ω κ hb hu hc hK => ?_
        have h18 : a.tmps[18]?.getD undef = .pointer (some (a1.add (i * 5))) := hc 2 18 rfl rfl
        have hk := Lib.hid (fun w1 (h : Below ω.heap.size ω w1) => hK (.agg (shA (X i) (Y i))) w1 rfl h)
        clear hK hu hc
        have hl1 := (hE1.out ω hb).1
        have hl2 := (hE1.out ω hb).2
        go_simp
        exact hk.out _ (Below.refl _ _)
      · refine calm_step rfl fun a ω κ hb hu hc hK => ?_
        have h1 : a.tmps[1]?.getD undef = .slice (some a2) n d := (hu 1 rfl).trans e1
        have hk := Lib.hid (fun w1 (h : Below ω.heap.size ω w1) => hK (.slice (some a2) n d) w1 rfl h)
        clear hK hu hc
        go_simp
        exact hk.out _ (Below.refl _ _)
      · refine calm_step rfl fun a ω κ hb hu hc hK => ?_
        have h5 : a.tmps[5]?.getD undef = .int .i64 (i : Nat) := (hu 5 rfl).trans e5
        have hk := Lib.hid (fun w1 (h : Below ω.heap.size ω w1) => hK (.int .i64 (i : Nat)) w1 rfl h)
        clear hK hu hc
        go_simp
        exact hk.out _ (Below.refl _ _)
      · refine calm_step rfl fun a ω κ hb hu hc hK => ?_
        have h20 : a.tmps[20]?.getD undef = .slice (some a2) n d := hc 4 20 rfl rfl
        have h21 : a.tmps[21]?.getD undef = .int .i64 (i : Nat) := hc 5 21 rfl rfl
        have hk := Lib.hid (fun w1 (h : Below ω.heap.size ω w1) => hK (.pointer (some (a2.add (i * 5)))) w1 rfl h)
        clear hK hu hc
        go_simp
        exact hk.out _ (Below.refl _ _)
      · refine calm_step rfl fun a ω κ hb hu hc hK => ?_
        have h22 : a.tmps[22]?.getD undef = .pointer (some (a2.add (i * 5))) := hc 6 22 rfl rfl
        have hk := Lib.hid (fun w1 (h : Below ω.heap.size ω w1) => hK (.agg (shA (X i) (Y i))) w1 rfl h)
        clear hK hu hc
        have hl1 := (hE2.out ω hb).1
        have hl2 := (hE2.out ω hb).2
        go_simp
        exact hk.out _ (Below.refl _ _)
      · refine calm_step rfl fun a ω κ hb hu hc hK => ?_
        have h19 : a.tmps[19]?.getD undef = .agg (shA (X i) (Y i)) := hc 3 19 rfl rfl
        have h23 : a.tmps[23]?.getD undef = .agg (shA (X i) (Y i)) := hc 7 23 rfl rfl
        have hk := Lib.hid (fun w1 (h : Below ω.heap.size ω w1) => hK (.bool false) w1 rfl h)
        clear hK hu hc
        exact wp_eqlA (v := shA (X i) (Y i)) (u := shA (X i) (Y i)) (.inl rfl) (by kernel_rfl) (by go_simp) (by go_simp) (neqSh _ _ _) (hk.out _ (Below.refl _ _))
      · intro a1 w1 hb1 hu1 hsz1 hdf1 hc1
        have ha0 := hha0.out
        subst ha0
        have he := act_patch (n := 26) [false, false, false, false, false, false, false, false, false, false, false, false, false, false, false, false, true, true, true, true, true, true, true, true, true, false] rfl (by kernel_rfl) hu1 hsz1 hdf1
        simp only [patch, cond_true, cond_false, Nat.reduceAdd] at he
        have hkn24 : a1.tmps[24]?.getD undef = .bool false := hc1 8 24 rfl
        replace hL := Lib.hid (below_step hb1 hL.out (Nat.le_refl _))
        clear hE1 hE2
        clear hb1 hu1 hsz1 hdf1 hc1 hz0 hha0 e0 e1 e5
        rw [he]
        clear he
        rw [hkn24]
        clear hkn24
        generalize a1.tmps[16]?.getD undef = x16 at *
        generalize a1.tmps[17]?.getD undef = x17 at *
        generalize a1.tmps[18]?.getD undef = x18 at *
        generalize a1.tmps[19]?.getD undef = x19 at *
        generalize a1.tmps[20]?.getD undef = x20 at *
        generalize a1.tmps[21]?.getD undef = x21 at *
        generalize a1.tmps[22]?.getD undef = x22 at *
        generalize a1.tmps[23]?.getD undef = x23 at *
        go_wp2_with fail
        refine ⟨⟨i + 1, by have := hcl.out; go_num, hcl.out.1, hL⟩, ?_⟩
        have := hcl.out; simp [intOf]; omega
end Go.Proofs.YtdlmamnnamlleaaDoor
namespace Go.Proofs.YtdlmamnnamlleaaDoor
open Go Go.ChangeShapes Go.WideShapes Go.ChangeAt Go.RowKit
set_option maxHeartbeats 2000000
set_option maxRecDepth 100000
attribute [local go_sem ↓] load_num store_num execl_num execs_num
attribute [local go_sem] isHead_mk blkOf_mk isAgg_mk cellsV_mk row_drew rowAt_drew row_new_cells row_old rowAt_new rowAt_old setRow_new zeroNum
theorem shareSplits_true (K : Nat → W32) (A : Option Addr) (seed : List UInt8) (c s : Nat) (k n : Int) (w : World) (hT : Tabs K w) (hs : Bs w A seed c) (hsl : seed.length ≤ 576460752303423488) (hs256 : s < 2 ^ 256)
    (hki : -9223372036854775808 ≤ k ∧ k < 9223372036854775808) (hni : -9223372036854775808 ≤ n ∧ n < 9223372036854775808) :
    Calls Tryd.prog 6 #[numV s, .int .i64 k, .int .i64 n, .slice A seed.length c] w fun e w' => e = .returned (.bool true) ∧ Below w.heap.size w w' := by
  obtain ⟨X, N, Z, hO⟩ := orc_ex K seed hsl
  have kS := fun V (h1 : Tabs K V) (h2 : Bs V A seed c) => share_Split K X N Z A seed c s k n V h1 h2 hO hs256 hki hni
  have kR := fun V (h1 : Tabs K V) => ref_Shares K X N Z seed s k n V h1 hO hs256 hki hni
  have hTh := Lib.hid (hT.step (below_alloc w (Obj.cells (arrK .u64 4 (wd s)) 41)))
  have hsh := Lib.hid (hs.step (below_alloc w (Obj.cells (arrK .u64 4 (wd s)) 41)))
  have hG0 : At (w.alloc (Obj.cells (arrK .u64 4 (wd s)) 41)) w.heap.size .u64 4 (wd s) := At.new _ rfl
  have hL0 := below_alloc w (Obj.cells (arrK .u64 4 (wd s)) 41)
  have hcs := arrK_cells .u64 4 (wd s)
  unfold numV at kS kR ⊢
  replace kS := Lib.hid kS
  replace kR := Lib.hid kR
  clear hT hs hO hs256 hki hni hsl
  go_enter Tryd.func6, Tryd.ntmps6
  go_upto_region 1 with (fail)
  have hG := Lib.hid hG0
  have hL := Lib.hid hL0
  clear hG0 hL0
  generalize w.alloc _ = W0 at *
  have r4 := hG.out.row
  have q4 := hG.out.eq
  go_wp2_with fail
  refine (kS.out _ hTh.out hsh.out).mono ?_
  rintro e w1 ⟨A1, c1, m1, z1, rfl, hc1, hcm1, hS1, hI1, hb1⟩
  clear r4 q4
  replace hG := Lib.hid (hG.out.step hb1)
  replace hL := Lib.hid (below_step hb1 hL.out (Nat.le_refl _))
  have hT1 := hTh.out.step hb1
  have hs1 := hsh.out.step hb1
  have hS1h := Lib.hid hS1
  have h1h := Lib.hid (And.intro hc1 (And.intro hcm1 hI1))
  have r4 := hG.out.row
  have q4 := hG.out.eq
  have hcv := hs1.conv
  clear hb1 hS1 hc1 hcm1 hI1 hTh hsh hs1 kS
  go_wp2_with fail
  refine (kR.out _ hT1).mono ?_
  rintro e w2 ⟨A2, c2, m2, z2, rfl, hc2, hcm2, hS2, hI2, hb2⟩
  obtain ⟨em, ez⟩ := h1h.out.2.2.only hI2
  subst em ez
  have hm : m1 ≤ 1000 := by
    rcases hI2 with ⟨_, h, _⟩ | ⟨_, _, _, _, _, h, _⟩ | ⟨h1, _, h, _⟩
    · omega
    · omega
    · have h2 : ¬ (20 < n) := fun h3 => h1 (.inr (.inr (.inl h3)))
      omega
  have kE := Lib.hid (same_Shares A1 A2 m1 c1 c2 _ _ w2 (hS1h.out.step hb2) hS2 h1h.out.1 hc2 hm)
  replace hL := Lib.hid (below_step hb2 hL.out (Nat.le_refl _))
  have hzz : (z1 == z1) = true := by simp
  clear hb2 hcv hT1 kR r4 q4 hG hS1h h1h hc2 hcm2 hS2 hI2 hm
  go_wp2_with fail
  refine kE.out.mono ?_
  rintro e w3 ⟨rfl, hb3⟩
  replace hL := Lib.hid (below_step hb3 hL.out (Nat.le_refl _))
  clear hb3 kE
  go_wp2_with fail
  exact ret_tmp (p := 8) (v := .bool true) rfl (by simp) rfl ⟨rfl, hL.out⟩
end Go.Proofs.YtdlmamnnamlleaaDoor
namespace Go.Proofs.YtdlmamnnamlleaaDoor
open Go Go.RowKit Go.ChangeShapes Go.WideShapes Go.ChangeAt Go.Deep

section
variable {H : Type} {enc : TypeId × Value → H} {P : Program} {w : World} {base : Nat} {held : Bool}

/-- What was read is within the reach. -/
def Wt (P : Program) (t : TypeId) (d : DataW H) : Prop := ∀ n ∈ DataW.weights P t d, n ≤ reachBytes

theorem wt_top {ts : List TypeId} {ds : List (DataW H)} (h : (DataW.weightsEach P ts ds).all (· ≤ reachBytes) = true) {j : Nat} {t : TypeId} {d : DataW H} (ht : ts[j]? = some t) (hd : ds[j]? = some d) : Wt P t d := fun n hn => by
  simpa using List.all_eq_true.1 h n (DataW.weights_mem_each ht hd n hn)
theorem wt_all {e : TypeId} : ∀ {l : List (DataW H)} {d : DataW H}, d ∈ l → ∀ n ∈ DataW.weights P e d, n ∈ DataW.weightsAll P e l
  | x :: r, d, h, n, hn => by
      rw [DataW.weightsAll]
      rcases List.mem_cons.1 h with rfl | h
      · exact List.mem_append_left _ hn
      · exact List.mem_append_right _ (wt_all h n hn)
theorem wt_slice {t e : TypeId} {elems spare : List (DataW H)} (h : Wt P t (.slice elems spare)) (hu : P.underlying t = some (.slice e)) : (elems.length + spare.length) * P.bytesOf e ≤ reachBytes ∧ ∀ d ∈ elems, Wt P e d := by
  refine ⟨h _ (by simp [DataW.weights, hu]), fun d hd n hn => h n ?_⟩
  rw [DataW.weights, hu]
  exact List.mem_cons_of_mem _ (List.mem_append_left _ (wt_all hd n hn))
theorem wt_struct {t : TypeId} {fs : Array Field} {parts : List (DataW H)} (h : Wt P t (.agg parts)) (hu : P.underlying t = some (.struct fs)) {j : Nat} {f : Field} {d : DataW H} (hf : fs[j]? = some f) (hd : parts[j]? = some d) : Wt P f.type d := fun n hn => by
  refine h n ?_
  rw [DataW.weights, hu]
  exact DataW.weights_mem_each (by simp [hf]) hd n hn

/-- A slice of bytes that came in, by its reading, and its bound. -/
theorem open_bytes_wt {t e : TypeId} {fuel : Nat} {v : Value} {x : DataW H × List MemPlace} (ht : P.underlying t = some (.slice e)) (he : P.underlying e = some (.int .u8)) (hc : P.cellsOf e = 1) (hb : P.bytesOf e = 1)
    (h : DataW.trod enc P w base (fun _ => true) held fuel t [v] = some x) (hw : Wt P t x.1) : ∃ (A : Option Addr) (l : List UInt8) (c : Nat), v = .slice A l.length c ∧ Rd w w.heap.size A (bytesV l) ∧ l.length ≤ c ∧ c ≤ 140737488351232 := by
  obtain ⟨A, l, c, rfl, h1, h2, h3⟩ := open_bytes ht he hc h
  refine ⟨A, l, c, rfl, h1, h2, ?_⟩
  rcases open_ints ht he hc h with ⟨hcs, -⟩ | ⟨a, len, cap, zs, hcs, -, hl, hm, hz, hx, -, -⟩
  · simp only [List.cons.injEq, Value.slice.injEq, and_true] at hcs
    omega
  · rw [hx] at hw
    have h4 := (wt_slice hw ht).1
    simp only [List.cons.injEq, Value.slice.injEq, and_true] at hcs
    simp only [if_true] at hz
    rw [hb] at h4
    simp [lits] at h4
    unfold reachBytes at h4
    omega

/-- A slice of structs of one-cell fields that came in: each field's cell, and its own reading, and its bound. -/
theorem open_rows_wt {t e : TypeId} {fs : Array Field} {fuel : Nat} {v : Value} {x : DataW H × List MemPlace} (ht : P.underlying t = some (.slice e)) (he : P.underlying e = some (.struct fs))
    (hone : oneCellFields P fs = true) (hC : P.cellsOf e = fs.size) (h : DataW.trod enc P w base (fun _ => true) held fuel t [v] = some x) (hw : Wt P t x.1) :
    ∃ (A : Option Addr) (n c : Nat), v = .slice A n c ∧ n ≤ c ∧ c ≤ maxLen ∧ c * P.bytesOf e ≤ reachBytes ∧ ∀ i, i < n → ∃ a, A = some a ∧
      ∀ (j : Nat) (f : Field), fs[j]? = some f → ∃ (u : Value) (y : DataW H × List MemPlace) (m : Nat), w.cell? (a.add (i * fs.size + j)) = some u ∧ DataW.trod enc P w base (fun _ => true) held m f.type [u] = some y ∧ Wt P f.type y.1 := by
  rcases open_slice ht h with ⟨hcs, -⟩ | ⟨a, len, cap, m, n, D, Pl, hcs, -, hl, hm, hmm, hx, hi⟩
  · injection hcs with hv
    exact ⟨none, 0, 0, hv, Nat.le_refl _, by simp [maxLen], by simp, fun i hi => absurd hi (by omega)⟩
  · injection hcs with hv
    rw [hx] at hw
    obtain ⟨hw1, hw2⟩ := wt_slice hw ht
    simp only [if_true] at hmm
    refine ⟨some a, len, cap, hv, hl, hm, ?_, fun i hil => ⟨a, rfl, fun j f hj => ?_⟩⟩
    · simp only [List.length_map, List.length_range] at hw1
      rw [show len + (m - len) = cap by omega] at hw1
      exact hw1
    have him : i < m := by omega
    obtain ⟨cs', hc, ht'⟩ := hi i him
    have hwi : Wt P e (D i) := hw2 _ (List.mem_map.2 ⟨i, List.mem_range.2 hil, rfl⟩)
    rw [hC] at hc
    obtain ⟨ys, n', -, hxy, -, hyl, hf⟩ := DataW.trod_struct he ht'
    have hDi : D i = .agg (ys.map (·.1)) := congrArg Prod.fst hxy
    rw [hDi] at hwi
    obtain ⟨_, hcl, hat⟩ := World.cells?_some hc
    obtain ⟨ho, hk⟩ := hone_of hone j f hj
    have hjl : j < fs.size := (Array.getElem?_eq_some_iff.1 hj).1
    have hcell := hat j hjl
    have hv : cs'[j]? = some (cs'[j]'(by omega)) := List.getElem?_eq_getElem (by omega)
    have h1 := hf j f hj
    rw [ho, hk] at h1
    have hone' : (cs'.drop j).take 1 = [cs'[j]'(by omega)] := by
      rw [List.drop_eq_getElem_cons (by omega)]
      rfl
    rw [hone'] at h1
    have hys : ys[j]? = some (ys[j]'(by omega)) := List.getElem?_eq_getElem (by omega)
    refine ⟨_, _, n', ?_, h1.trans hys, wt_struct hwi he hj (by rw [List.getElem?_map, hys]; rfl)⟩
    rw [← addr_add, hcell, hv]
end
end Go.Proofs.YtdlmamnnamlleaaDoor
namespace Go.Proofs.YtdlmamnnamlleaaDoor
open Go.ChangeShapes Go.WideShapes Go.ChangeAt Go.WideMaps Go.WideElems Go.RowKit
set_option maxRecDepth 100000

theorem gOne : Tryd.prog.globalNamed "sealring/hash.primeRoots" = some 1 := by kernel_rfl
theorem gTwo : Tryd.prog.globalNamed "sealring/sealringref.roundNumbers" = some 0 := by kernel_rfl
theorem tOne : (Tryd.prog.globals[1]?).map (·.type) = some 177 := by kernel_rfl
theorem tTwo : (Tryd.prog.globals[0]?).map (·.type) = some 177 := by kernel_rfl
def laid2 : List (String × DataW Unit) := [("sealring/hash.primeRoots", Rows.laid_sealring_hash_primeRoots), ("sealring/sealringref.roundNumbers", Rows.laid_sealring_sealringref_roundNumbers)]

/-- Number i of a laid array. -/
def litAt : DataW Unit → Nat → Int
  | .agg l, i => match l[i]? with | some (.lit (.int _ z)) => z | _ => 0
  | _, _ => 0
def K0 (i : Nat) : W32 := BitVec.ofNat 32 (litAt Rows.laid_sealring_hash_primeRoots i).toNat
theorem laid_same : (Rows.laid_sealring_sealringref_roundNumbers : DataW Unit) = Rows.laid_sealring_hash_primeRoots := by kernel_rfl
theorem laid_tab {W : World} {enc : TypeId × Value → Unit} {n : String} {g base fuel : Nat} {spare : Nat → Bool} {held : Bool} {cs : Array Value} {pl : List MemPlace} (hg : Tryd.prog.globalNamed n = some g) (hv : W.var? Tryd.prog n = some cs)
    (hd : DataW.trod enc Tryd.prog W base spare held fuel 177 cs.toList = some (Rows.laid_sealring_hash_primeRoots, pl)) : ∀ i < 64, W.cell? ⟨g, i, none⟩ = some (u32v (K0 i)) := by
  intro i hi
  obtain ⟨xs, m, rfl, hx, hlen, hn, hel⟩ := DataW.trod_array Tryd.underlying177 hd
  have c1 : Tryd.prog.cellsOf 95 = 1 := by kernel_rfl
  have h1 := hel i hi
  have hxi : xs[i]? = some (xs[i]'(by omega)) := List.getElem?_eq_getElem (by omega)
  rw [hxi, c1, Nat.mul_one] at h1
  obtain ⟨z, e1, e2, hw⟩ := DataW.trod_int Tryd.underlying95 h1
  have hc : cs[i]? = some (.int .u32 z) := by
    have h2 : (cs.toList.drop i).take 1 = [.int .u32 z] := e1
    have h3 : ((cs.toList.drop i).take 1)[0]? = some (.int .u32 z) := by rw [h2]; rfl
    rw [List.getElem?_take_of_lt (by omega), List.getElem?_drop] at h3
    simpa using h3
  have hz : litAt Rows.laid_sealring_hash_primeRoots i = z := by
    have h4 : (Rows.laid_sealring_hash_primeRoots : DataW Unit) = .agg (xs.map (·.1)) := congrArg Prod.fst hx
    rw [h4]
    simp only [litAt, List.getElem?_map, hxi, e2, Option.map_some]
  rw [World.var?_cell hg hv i, hc]
  unfold K0 u32v
  have hwf : 0 ≤ z ∧ z < 4294967296 := by
    simp only [Lit.wf, Bool.and_eq_true, decide_eq_true_eq] at hw
    have h5 : IntKind.u32.min ≤ z ∧ z ≤ IntKind.u32.max := by simpa [IntKind.has] using hw
    have h6 : IntKind.u32.min = 0 := rfl
    have h7 : IntKind.u32.max = 4294967295 := rfl
    omega
  rw [hz, w2n_of (by omega), Int.toNat_of_nonneg hwf.1]
theorem of_laid {W : World} (h : laidMetH Tryd.prog laid2 W) : Tabs K0 W := by
  rw [MakeChecks.laidMetH_plain _ _ _ (by kernel_rfl)] at h
  obtain ⟨ps, ⟨g0, t0, cs0, f0, p0, q0, hg0, ht0, hv0, hd0, ⟨g1, t1, cs1, f1, p1, q1, hg1, ht1, hv1, hd1, _, _⟩, _⟩, _, _⟩ := h
  obtain rfl := Option.some.inj (gOne.symm.trans hg0)
  obtain rfl := Option.some.inj (gTwo.symm.trans hg1)
  obtain rfl := Option.some.inj (tOne.symm.trans ht0)
  obtain rfl := Option.some.inj (tTwo.symm.trans ht1)
  have h1 := laid_tab gOne hv0 hd0
  have h2 := laid_tab gTwo hv1 (laid_same ▸ hd1)
  exact ⟨h1, cell_lt (h1 0 (by omega)), h2, cell_lt (h2 0 (by omega))⟩
theorem door_met (os : Os) (args : Array Value) : laidMetH Tryd.prog laid2 ((World.doorLaid Tryd.prog 400 os).forCall (fun _ _ => 0) ⟨#[], args, []⟩).memory :=
  laidMetH_of_parts3 (fuel := 8) (laidMet_of_run' 8 (by kernel_rfl) (by kernel_rfl)) (by kernel_rfl) (by kernel_rfl)
end Go.Proofs.YtdlmamnnamlleaaDoor
