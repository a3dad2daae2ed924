/- Several texts one behind the other: Sc4 Sg4 Sg5 Sg6 Buf Sg7 Tm3 Sg8 Sg9 SgL Args2 Door Five. -/
import Derived.Test.YtgdiokklfihfoaaDoorSgK2
import Derived.Test.YtgdiokklfihfoaaDoorSgK1
import Derived.ArgAppend
import Derived.Test.YtgdiokklfihfoaaDoorAt
import Derived.Test.YtgdiokklfihfoaaDoorPart
import Derived.SizedLaws
import Derived.LaidMore
import Derived.Stop.Joined
namespace Go.Proofs.YtgdiokklfihfoaaDoor
open Go.ChangeShapes Go.WideShapes Go.ChangeAt Go.RowKit
set_option maxHeartbeats 2000000
set_option maxRecDepth 100000
attribute [local irreducible] arrV dgA sha
attribute [local go_sem ↓] load_num store_num execl_num execs_num load_o32 store_o32 execl_o32 execs_o32
attribute [local go_sem] isHead_mk isPart_mk offOf_mk blkOf_mk isAgg_mk cellsV_mk row_drew rowAt_drew row_new_cells row_old rowAt_new rowAt_old setRow_new zeroNum zeroD bs_app
/-- A literal of two bytes. -/
theorem bs_two (w : World) (a b : UInt8) (t : TypeId) : Bs (w.alloc (.cells #[.int .u8 (a.toNat : Int), .int .u8 (b.toNat : Int)] t)) (some ⟨w.heap.size, 0, none⟩) [a, b] 2 :=
  ⟨Rd.of_blk (cs := #[.int .u8 (a.toNat : Int), .int .u8 (b.toNat : Int)]) (push_new _ _) (B := (w.alloc (.cells #[.int .u8 (a.toNat : Int), .int .u8 (b.toNat : Int)] t)).heap.size) (by simp), by simp, by omega⟩
theorem writeS {K : Nat → W32} {w : World} {A : Option Addr} {l : List UInt8} {n c : Nat} (hT : Tabs K w) (m m' : List UInt8) (h : Bs w A l c) (hn : l.length = n) (hm : m ++ l = m') : Calls Tryd.prog 65 #[.agg (stL K m).cells, .slice A n c] w fun e w' => e = .returned (.agg (stL K m').cells) ∧ Below w.heap.size w w' := by
  subst hn hm
  exact writeC hT m h
theorem SBg : SlT Tryd.prog 22 5 1 1 := SlT.mk' Tryd.underlying22 (by kernel_rfl) (by omega)
/-- Bytes of the call's own. -/
def SRel.gb (l : List UInt8) (n : Nat) : SRel := ⟨fun v w => ∃ g c, v = .slice (some ⟨g, 0, none⟩) n c ∧ Bs w (some ⟨g, 0, none⟩) l c, fun _ _ _ hb ⟨g, c, h1, h2⟩ => ⟨g, c, h1, h2.step hb⟩⟩
def lbB (lb b : UInt8) (p : List UInt8) : List UInt8 := lb :: b :: p
def dgT (K : Nat → W32) (lb : UInt8) (p : List UInt8) : List UInt8 := sha K (lbB lb 0 p) ++ sha K (lbB lb 1 p)
theorem dgT_len (K : Nat → W32) (lb : UInt8) (p : List UInt8) : (dgT K lb p).length = 64 := by unfold dgT; rw [List.length_append, sha_len, sha_len]
section
variable {o : Oper} {a : Act} {w : World} {K : Act → World → Prop} {Q : Exit → Act → World → Prop}
/-- append of one digest onto another: new memory. -/
theorem wp_app64 {x y : List UInt8} {g1 g2 : Nat} (s t : Operand) (ho : o.op = Op.call { callee := Callee.builtin Builtin.append, args := #[s, t], argTypes := #[22, 22] })
    (hs : a.eval s = .slice (some ⟨g1, 0, none⟩) 32 32) (ht : a.eval t = .slice (some ⟨g2, 0, none⟩) 32 32) (hx : Bs w (some ⟨g1, 0, none⟩) x 32) (hy : Bs w (some ⟨g2, 0, none⟩) y 32) (hxl : x.length = 32) (hyl : y.length = 32)
    (h : ∀ v w', (SRel.gb (x ++ y) 64).p v w' → Below w.heap.size w w' → K (a.put o.dst v) w') : Oper.wp Tryd.prog o a w K Q := by
  obtain ⟨i, z, hi, hz, hsz, hb, hzs⟩ := SBg.info
  obtain ⟨v', w', hrun, r1, r2⟩ := run_append_arg_grows (P := Tryd.prog) w 22 o.type 5 i z 1 1 SBg.under hi hz hsz hb hzs (by omega) ⟨g1, 0, none⟩ 32 32 (bytesV x) (by rw [bytesV_length]; omega) (fun j u hj => hx.rd.all hj) ⟨g2, 0, none⟩ 32 32 (bytesV y) (by rw [bytesV_length]; omega) (fun j u hj => hy.rd.all hj) (by omega) (by unfold maxLen; omega) (by omega)
  unfold Oper.wp
  simp [execOp, ho, resolve, invoke, builtin, hs, ht, hrun, Result.andThen]
  refine h v' w' ?_ ((Below.refl _ w).grown r2 (Nat.le_refl _) (fun k hk => by cases hk))
  rcases r1.2 with ⟨-, h0⟩ | ⟨g, cap, cur, rfl, hg, hh, hle, hmx, -, -⟩
  · cases h0
  · refine ⟨g, cap, rfl, ⟨?_, ?_, hmx⟩⟩
    · have := Rd.of_own r1
      rw [← bytesV_append] at this
      exact this
    · rw [List.length_append]; omega
end
theorem scalar_Digest (K : Nat → W32) (A : Option Addr) (p : List UInt8) (n c : Nat) (lb : UInt8) (w : World) (hn : p.length = n) (hT : Tabs K w) (hp : Bs w A p c) : Calls Tryd.prog 63 #[.int .u8 (lb.toNat : Nat), .slice A n c] w fun e w' => e = .returned (numV (ofL (dgT K lb p))) ∧ Below w.heap.size w w' := by
  have kOf := Lib.hid (fun V A c (h : Bs V A (dgT K lb p) c) => scalar_Of A (dgT K lb p) 64 c V (dgT_len K lb p) h)
  simp only [Nat.le_refl, decide_true, cond_true] at kOf
  obtain ⟨r, hr⟩ : ∃ r, ofL (dgT K lb p) = r := ⟨_, rfl⟩
  rw [hr] at kOf ⊢
  clear hr
  unfold numV at kOf ⊢
  have hc0 := arrK_cells .u64 4 (wd 0)
  have hcr := arrK_cells .u64 4 (wd r)
  have hcz := dgA_cells []
  have hd1 := dgA_cells (sha K (lbB lb 0 p))
  have hd2 := dgA_cells (sha K (lbB lb 1 p))
  have hL0 := below_alloc w (Obj.cells (arrK .u64 4 (wd 0)) 41)
  have hR := Lib.hid (show Row (w.alloc (Obj.cells (arrK .u64 4 (wd 0)) 41)) w.heap.size 4 from (row_new rfl).2 hc0.1)
  have hTt := Lib.hid (hT.step hL0)
  have hPp := Lib.hid (hp.step hL0)
  have hL := Lib.hid hL0
  clear hT hp hL0
  go_enter Tryd.func63, Tryd.ntmps63
  go_upto_region 1 with (fail)
  generalize w.alloc _ = W0 at *
  go_wp2_with fail
  refine (newC0 (K := K) _).mono ?_
  rintro e u0 ⟨rfl, hb⟩
  replace hR := Lib.hid (row_below hR.out hb hR.out.lt)
  replace hTt := Lib.hid (hTt.out.step hb)
  replace hPp := Lib.hid (hPp.out.step hb)
  replace hL := Lib.hid (below_step hb hL.out (Nat.le_refl _))
  clear hb
  dsimp only
  go_wp2_with fail
  have ha := below_alloc u0 (Obj.cells #[Value.int .u8 (lb.toNat : Nat), Value.int .u8 0] 5)
  have hbl := Lib.hid (bs_two u0 lb 0 5)
  replace hR := Lib.hid (row_below hR.out ha hR.out.lt)
  replace hTt := Lib.hid (hTt.out.step ha)
  replace hPp := Lib.hid (hPp.out.step ha)
  replace hL := Lib.hid (below_step ha hL.out (Nat.le_refl _))
  clear ha
  refine (writeS (K := K) hTt.out [] [lb, 0] hbl.out rfl rfl).mono ?_
  rintro e u1 ⟨rfl, hb⟩
  replace hR := Lib.hid (row_below hR.out hb hR.out.lt)
  replace hTt := Lib.hid (hTt.out.step hb)
  replace hPp := Lib.hid (hPp.out.step hb)
  replace hL := Lib.hid (below_step hb hL.out (Nat.le_refl _))
  clear hb hbl
  dsimp only
  go_wp2_with fail
  refine (writeS (K := K) hTt.out [lb, 0] (lbB lb 0 p) hPp.out hn rfl).mono ?_
  rintro e u2 ⟨rfl, hb⟩
  replace hR := Lib.hid (row_below hR.out hb hR.out.lt)
  replace hTt := Lib.hid (hTt.out.step hb)
  replace hPp := Lib.hid (hPp.out.step hb)
  replace hL := Lib.hid (below_step hb hL.out (Nat.le_refl _))
  clear hb
  dsimp only
  go_wp2_with fail
  refine (stSumD (K := K) hTt.out _).mono ?_
  rintro e u3 ⟨rfl, hb⟩
  replace hR := Lib.hid (row_below hR.out hb hR.out.lt)
  replace hTt := Lib.hid (hTt.out.step hb)
  replace hPp := Lib.hid (hPp.out.step hb)
  replace hL := Lib.hid (below_step hb hL.out (Nat.le_refl _))
  clear hb
  dsimp only
  have ha := below_alloc u3 (Obj.cells (dgA (sha K (lbB lb 0 p))) 57)
  have hD50 : Bs (u3.alloc (Obj.cells (dgA (sha K (lbB lb 0 p))) 57)) (some ⟨u3.heap.size, 0, none⟩) (sha K (lbB lb 0 p)) 32 := rd_of_row (sha_len _ _) ((row_new rfl).2 (dgA_cells _).1) (rowAt_new rfl)
  have hD5 := Lib.hid hD50
  replace hR := Lib.hid (row_below hR.out ha hR.out.lt)
  replace hTt := Lib.hid (hTt.out.step ha)
  replace hPp := Lib.hid (hPp.out.step ha)
  replace hL := Lib.hid (below_step ha hL.out (Nat.le_refl _))
  clear ha hD50
  go_upto_region 2 with (fail)
  obtain ⟨g5, hg⟩ : ∃ g, u3.heap.size = g := ⟨_, rfl⟩
  rw [hg] at hD5 ⊢
  clear hg
  generalize u3.alloc _ = W5 at *
  go_wp2_with fail
  refine (newC0 (K := K) _).mono ?_
  rintro e x0 ⟨rfl, hb⟩
  replace hR := Lib.hid (row_below hR.out hb hR.out.lt)
  replace hTt := Lib.hid (hTt.out.step hb)
  replace hPp := Lib.hid (hPp.out.step hb)
  replace hL := Lib.hid (below_step hb hL.out (Nat.le_refl _))
  replace hD5 := Lib.hid (hD5.out.step hb)
  clear hb
  dsimp only
  go_wp2_with fail
  have ha := below_alloc x0 (Obj.cells #[Value.int .u8 (lb.toNat : Nat), Value.int .u8 1] 5)
  have hbl := Lib.hid (bs_two x0 lb 1 5)
  replace hR := Lib.hid (row_below hR.out ha hR.out.lt)
  replace hTt := Lib.hid (hTt.out.step ha)
  replace hPp := Lib.hid (hPp.out.step ha)
  replace hL := Lib.hid (below_step ha hL.out (Nat.le_refl _))
  replace hD5 := Lib.hid (hD5.out.step ha)
  clear ha
  refine (writeS (K := K) hTt.out [] [lb, 1] hbl.out rfl rfl).mono ?_
  rintro e x1 ⟨rfl, hb⟩
  replace hR := Lib.hid (row_below hR.out hb hR.out.lt)
  replace hTt := Lib.hid (hTt.out.step hb)
  replace hPp := Lib.hid (hPp.out.step hb)
  replace hL := Lib.hid (below_step hb hL.out (Nat.le_refl _))
  replace hD5 := Lib.hid (hD5.out.step hb)
  clear hb hbl
  dsimp only
  go_wp2_with fail
  refine (writeS (K := K) hTt.out [lb, 1] (lbB lb 1 p) hPp.out hn rfl).mono ?_
  rintro e x2 ⟨rfl, hb⟩
  replace hR := Lib.hid (row_below hR.out hb hR.out.lt)
  replace hTt := Lib.hid (hTt.out.step hb)
  replace hPp := Lib.hid (hPp.out.step hb)
  replace hL := Lib.hid (below_step hb hL.out (Nat.le_refl _))
  replace hD5 := Lib.hid (hD5.out.step hb)
  clear hb
  dsimp only
  go_wp2_with fail
  refine (stSumD (K := K) hTt.out _).mono ?_
  rintro e x3 ⟨rfl, hb⟩
  replace hR := Lib.hid (row_below hR.out hb hR.out.lt)
  replace hTt := Lib.hid (hTt.out.step hb)
  replace hPp := Lib.hid (hPp.out.step hb)
  replace hL := Lib.hid (below_step hb hL.out (Nat.le_refl _))
  replace hD5 := Lib.hid (hD5.out.step hb)
  clear hb
  dsimp only
  have ha := below_alloc x3 (Obj.cells (dgA (sha K (lbB lb 1 p))) 57)
  have hD60 : Bs (x3.alloc (Obj.cells (dgA (sha K (lbB lb 1 p))) 57)) (some ⟨x3.heap.size, 0, none⟩) (sha K (lbB lb 1 p)) 32 := rd_of_row (sha_len _ _) ((row_new rfl).2 (dgA_cells _).1) (rowAt_new rfl)
  have hD6 := Lib.hid hD60
  replace hR := Lib.hid (row_below hR.out ha hR.out.lt)
  replace hTt := Lib.hid (hTt.out.step ha)
  replace hPp := Lib.hid (hPp.out.step ha)
  replace hL := Lib.hid (below_step ha hL.out (Nat.le_refl _))
  replace hD5 := Lib.hid (hD5.out.step ha)
  clear ha hD60
  go_upto_region 3 with (fail)
  obtain ⟨g6, hg⟩ : ∃ g, x3.heap.size = g := ⟨_, rfl⟩
  rw [hg] at hD6 ⊢
  clear hg
  generalize x3.alloc _ = W6 at *
  generalize ha0 : Act.mk _ _ = a0
  have e5 : a0.tmps[5]?.getD undef = .pointer (some ⟨g5, 0, none⟩) := by rw [← ha0]; rfl
  have e6 : a0.tmps[6]?.getD undef = .pointer (some ⟨g6, 0, none⟩) := by rw [← ha0]; rfl
  have hz0 : a0.tmps.size = 31 := by rw [← ha0]; rfl
  have hha0 := Lib.hid ha0
  clear ha0
  refine wp_region_freshR ⟨fun jx_ => match jx_ with | 0 => some (.slice (some ⟨g5, 0, none⟩) 32 32) | 1 => some (.slice (some ⟨g6, 0, none⟩) 32 32) | 3 => some (.tuple #[.agg (arrK .u64 4 (wd r)), .int .i64 0]) | 4 => some (.tuple #[.agg (arrK .u64 4 (wd r)), .int .i64 0]) | 5 => some (.agg (arrK .u64 4 (wd r))) | 6 => some (.int .i64 0) | 9 => some (.int .i64 0) | _ => none, fun jx_ => match jx_ with | 7 => some 4 | _ => none, fun jx_ => match jx_ with | 8 => some 7 | _ => none, fun jx_ => match jx_ with | 8 => arrK .u64 4 (wd r) | _ => #[], fun jx_ => match jx_ with | 2 => some (SRel.gb (sha K (lbB lb 0 p) ++ sha K (lbB lb 1 p)) 64) | _ => none⟩ (by kernel_rfl) (by kernel_rfl) (by kernel_rfl) (slotsOk_of hz0 (by kernel_rfl)) rfl (by kernel_rfl) ⟨?_, ?_, ?_, ?_, ?_, ?_, ?_, ?_, ?_, ?_, trivial⟩ ?_
  · refine fstep_valR rfl rfl (by kernel_rfl) (calm_step rfl fun aa ω κ hb hu hc hK => ?_)
    have h5 : aa.tmps[5]?.getD undef = .pointer (some ⟨g5, 0, none⟩) := (hu 5 rfl).trans e5
    have hk := Lib.hid (fun w1 (h : Below ω.heap.size ω w1) => hK (.slice (some ⟨g5, 0, none⟩) 32 32) w1 rfl h)
    clear hK hu hc
    go_simp
    exact hk.out _ (Below.refl _ _)
  · refine fstep_valR rfl rfl (by kernel_rfl) (calm_step rfl fun aa ω κ hb hu hc hK => ?_)
    have h6 : aa.tmps[6]?.getD undef = .pointer (some ⟨g6, 0, none⟩) := (hu 6 rfl).trans e6
    have hk := Lib.hid (fun w1 (h : Below ω.heap.size ω w1) => hK (.slice (some ⟨g6, 0, none⟩) 32 32) w1 rfl h)
    clear hK hu hc
    go_simp
    exact hk.out _ (Below.refl _ _)
  · refine fstep_valR rfl rfl (by kernel_rfl) (calm_step rfl fun aa ω κ hb hu hc hK => ?_)
    have h24 : aa.tmps[24]?.getD undef = .slice (some ⟨g5, 0, none⟩) 32 32 := hc 0 24 rfl rfl
    have h25 : aa.tmps[25]?.getD undef = .slice (some ⟨g6, 0, none⟩) 32 32 := hc 1 25 rfl rfl
    have hk := Lib.hid (fun v w1 (hv : (SRel.gb (sha K (lbB lb 0 p) ++ sha K (lbB lb 1 p)) 64).p v w1) (h : Below ω.heap.size ω w1) => hK v w1 hv h)
    clear hK hu hc
    exact wp_app64 _ _ rfl (by go_simp) (by go_simp) (hD5.out.step hb) (hD6.out.step hb) (sha_len _ _) (sha_len _ _) (fun v w1 hv hbw => hk.out v w1 hv hbw)
  · refine fstep_valR rfl rfl (by kernel_rfl) (calm_step rfl fun aa ω κ hb hu hc hK => ?_)
    have h26 : (SRel.gb (sha K (lbB lb 0 p) ++ sha K (lbB lb 1 p)) 64).p (aa.tmps[26]?.getD undef) ω := hc 2 26 rfl rfl
    have hk := Lib.hid (fun w1 (h : Below ω.heap.size ω w1) => hK (.tuple #[.agg (arrK .u64 4 (wd r)), .int .i64 0]) w1 rfl h)
    clear hK hu hc
    obtain ⟨gz, cz, h26, hbz⟩ := h26
    go_simp
    go_at_call 100
    refine (kOf.out _ _ _ hbz).mono ?_
    rintro e w1 ⟨rfl, hb1⟩
    exact hk.out _ hb1
  · refine fstep_valR rfl rfl (by kernel_rfl) (calm_step rfl fun aa ω κ hb hu hc hK => ?_)
    have h27 : aa.tmps[27]?.getD undef = .tuple #[.agg (arrK .u64 4 (wd r)), .int .i64 0] := hc 3 27 rfl rfl
    have hk := Lib.hid (fun w1 (h : Below ω.heap.size ω w1) => hK (.tuple #[.agg (arrK .u64 4 (wd r)), .int .i64 0]) w1 rfl h)
    clear hK hu hc
    go_simp
    exact hk.out _ (Below.refl _ _)
  · refine fstep_valR rfl rfl (by kernel_rfl) (calm_step rfl fun aa ω κ hb hu hc hK => ?_)
    have h23 : aa.tmps[23]?.getD undef = .tuple #[.agg (arrK .u64 4 (wd r)), .int .i64 0] := hc 4 23 rfl rfl
    have hk := Lib.hid (fun w1 (h : Below ω.heap.size ω w1) => hK (.agg (arrK .u64 4 (wd r))) w1 rfl h)
    clear hK hu hc
    go_simp
    exact hk.out _ (Below.refl _ _)
  · refine fstep_lateR rfl rfl (by kernel_rfl) (calm_step rfl fun aa ω κ hb hu hc hK => ?_)
    have h23 : aa.tmps[23]?.getD undef = .tuple #[.agg (arrK .u64 4 (wd r)), .int .i64 0] := hc 4 23 rfl rfl
    have hk := Lib.hid (fun w1 (h : Below ω.heap.size ω w1) => hK (.int .i64 0) w1 rfl h)
    clear hK hu hc
    go_simp
    exact hk.out _ (Below.refl _ _)
  · refine fstep_alR (n := 4) rfl rfl fun aa ω κ hK => ?_
    have hk := Lib.hid hK
    clear hK
    go_simp
    exact hk.out _ _ hc0
  · refine fstep_stR (j := 7) (n := 4) (d := 7) rfl rfl rfl rfl rfl hcr.1 rfl rfl fun aa ω κ g hb hu hc hp hr hK => ?_
    have h28 : aa.tmps[28]?.getD undef = .agg (arrK .u64 4 (wd r)) := hc 5 28 rfl rfl
    have hk := Lib.hid hK
    clear hK hu hc
    have hcc := hcr
    go_simp
    exact hk.out undef
  · refine fstep_lateR rfl rfl (by kernel_rfl) (calm_step rfl fun aa ω κ hb hu hc hK => ?_)
    have h29 : aa.tmps[29]?.getD undef = .int .i64 0 := hc 6 29 rfl rfl
    have hk := Lib.hid (fun w1 (h : Below ω.heap.size ω w1) => hK (.int .i64 0) w1 rfl h)
    clear hK hu hc
    go_simp
    exact hk.out _ (Below.refl _ _)
  · intro a1 w1 G I
    have ha0 := hha0.out
    subst ha0
    have he := act_patch (n := 31) [false, false, false, false, false, false, false, true, true, false, false, false, false, false, false, false, false, false, false, false, false, false, false, true, true, true, true, true, true, true, false] rfl (by kernel_rfl) I.un I.sz I.df
    simp only [patch, cond_true, cond_false, Nat.reduceAdd] at he
    have hal7 := I.al 7 7 4 rfl rfl rfl
    replace hR := Lib.hid (row_below hR.out I.bel hR.out.lt)
    replace hL := Lib.hid (below_step I.bel hL.out (Nat.le_refl _))
    have hX := Lib.hid (show At w1 (G 7) .u64 4 (wd r) from ⟨(I.blk 7 4 rfl rfl).2, (I.row 8 7 rfl rfl).2.2⟩)
    clear kOf hD5 hD6 hTt hPp
    clear I hz0 hha0 e5 e6
    rw [he]
    clear he
    rw [hal7]
    clear hal7
    generalize a1.tmps[8]?.getD undef = x8 at *
    generalize a1.tmps[23]?.getD undef = x23 at *
    generalize a1.tmps[24]?.getD undef = x24 at *
    generalize a1.tmps[25]?.getD undef = x25 at *
    generalize a1.tmps[26]?.getD undef = x26 at *
    generalize a1.tmps[27]?.getD undef = x27 at *
    generalize a1.tmps[28]?.getD undef = x28 at *
    generalize a1.tmps[29]?.getD undef = x29 at *
    obtain ⟨g7, hg⟩ : ∃ g, G 7 = g := ⟨_, rfl⟩
    rw [hg] at hX ⊢
    clear hg
    generalize w1 = W7 at *
    have hr1 := hX.out.row
    have hr2 := hX.out.eq
    have hr3 := hR.out
    go_wp2_with fail
    refine ret_row (p := 4) (ty := 41) (g := w.heap.size) rfl Tryd.underlying41 rfl (by kernel_rfl) rfl ((row_setRow_same rfl hR.out).2 hcr.1) rfl ?_
    rw [rowAt_setRow_same hR.out]
    exact ⟨rfl, below_setRow hL.out (by omega)⟩
/-- Bytes of the call's own, with what was there before. -/
def SRel.ow (w0 : World) (l : List UInt8) : SRel := ⟨fun v w => Own w0 w0.heap.size 5 v (bytesV l) w, fun _ _ _ hb h => h.below hb (Nat.le_refl _)⟩
theorem ref_Digest (K : Nat → W32) (p : List UInt8) (lb : UInt8) (w : World) (hT : Tabs K w) (hpl : p.length ≤ 576460752303423488) : Calls Tryd.prog 69 #[.int .u8 (lb.toNat : Nat), strV p] w (RetN (ofL (dgT K lb p)) w) := by
  have hd1 := dgA_cells (sha K (lbB lb 0 p))
  have hd2 := dgA_cells (sha K (lbB lb 1 p))
  have hcz := dgA_cells []
  have hlb : ∀ b, (lbB lb b p).length ≤ 1152921504606846976 := fun b => by unfold lbB; simp; omega
  have kS := Lib.hid (fun b V (h : Tabs K V) => rsumD (K := K) (l := lbB lb b p) h (hlb b))
  have kNum := Lib.hid (fun (V : World) g c (hg : g < V.heap.size) (hcl : ∀ i < 64, V.cell? ⟨g, i, none⟩ = some (.int .u8 (bytesF (dgT K lb p) i : Nat))) (hc : 64 ≤ c) (hcm : c ≤ 9223372036854775807) => ref_number (bytesF (dgT K lb p)) g 64 c V hg hcl (fun i _ => bytesF_lt _ i) (by omega) hc hcm)
  have hnl := bval_lt (f := bytesF (dgT K lb p)) (n := 64) (fun i _ => bytesF_lt _ i)
  rw [show (256 : Nat) = 2 ^ 8 from rfl, ← Nat.pow_mul] at hnl
  have hof : ofL (dgT K lb p) = bval (bytesF (dgT K lb p)) 64 % fL := by unfold ofL; rw [dgT_len]
  rw [hof]
  obtain ⟨N, hN⟩ : ∃ N, bval (bytesF (dgT K lb p)) 64 = N := ⟨_, rfl⟩
  rw [hN] at kNum hnl ⊢
  have kP := Lib.hid (fun V => ref_Prime V)
  have kR := Lib.hid (fun V v u (hv : IsN V v N) (hu : IsN V u fL) => restN V hv hnl (by omega) (hu.toV (lt_big fL_lt' (by omega))) (Nat.lt_trans (by omega) fL_pos) (mul_big (m := 17) (n := 256) (by omega) fL_lt' (by omega)))
  obtain ⟨l0, hl0⟩ : ∃ l, fL = l := ⟨_, rfl⟩
  rw [hl0] at kP kR ⊢
  obtain ⟨R, hRr⟩ : ∃ R, N % l0 = R := ⟨_, rfl⟩
  rw [hRr] at kR ⊢
  have hTt := Lib.hid hT
  have hL := Lib.hid (show Below w.heap.size w w from Below.refl _ _)
  have hl2 : 1 + 1 + p.length ≤ 9223372036854775807 := by omega
  have hl3 : 2 + p.length ≤ 9223372036854775807 := by omega
  clear hRr hl0 hN hof hnl hlb hT hpl
  go_enter Tryd.func69, Tryd.ntmps69
  go_upto_region 1 with (fail)
  have hcv : (convert 22 9 (.slice (some ⟨w.heap.size, 0, none⟩) 2 2)).run Tryd.prog (w.alloc (Obj.cells #[Value.int .u8 (lb.toNat : Nat), Value.int .u8 0] 5)) = .ok (strV [lb, 0]) (w.alloc (Obj.cells #[Value.int .u8 (lb.toNat : Nat), Value.int .u8 0] 5)) := (bs_two w lb 0 5).conv
  have ha := below_alloc w (Obj.cells #[Value.int .u8 (lb.toNat : Nat), Value.int .u8 0] 5)
  replace hTt := Lib.hid (hTt.out.step ha)
  replace hL := Lib.hid (below_step ha hL.out (Nat.le_refl _))
  clear ha
  go_upto_region 2 with (fail)
  refine (show Calls _ _ #[strV (lbB lb 0 p)] _ _ from kS.out 0 _ hTt.out).mono ?_
  rintro e u5 ⟨rfl, hb⟩
  replace hTt := Lib.hid (hTt.out.step hb)
  replace hL := Lib.hid (below_step hb hL.out (Nat.le_refl _))
  clear hb hcv
  dsimp only
  have ha := below_alloc u5 (Obj.cells (dgA (sha K (lbB lb 0 p))) 57)
  have hD50 : Bs (u5.alloc (Obj.cells (dgA (sha K (lbB lb 0 p))) 57)) (some ⟨u5.heap.size, 0, none⟩) (sha K (lbB lb 0 p)) 32 := rd_of_row (sha_len _ _) ((row_new rfl).2 (dgA_cells _).1) (rowAt_new rfl)
  have hD5 := Lib.hid hD50
  replace hTt := Lib.hid (hTt.out.step ha)
  replace hL := Lib.hid (below_step ha hL.out (Nat.le_refl _))
  clear ha hD50
  go_upto_region 2 with (fail)
  obtain ⟨g5, hg⟩ : ∃ g, u5.heap.size = g := ⟨_, rfl⟩
  rw [hg] at hD5 ⊢
  clear hg
  generalize u5.alloc _ = W5 at *
  have hcv : (convert 22 9 (.slice (some ⟨W5.heap.size, 0, none⟩) 2 2)).run Tryd.prog (W5.alloc (Obj.cells #[Value.int .u8 (lb.toNat : Nat), Value.int .u8 1] 5)) = .ok (strV [lb, 1]) (W5.alloc (Obj.cells #[Value.int .u8 (lb.toNat : Nat), Value.int .u8 1] 5)) := (bs_two W5 lb 1 5).conv
  have ha := below_alloc W5 (Obj.cells #[Value.int .u8 (lb.toNat : Nat), Value.int .u8 1] 5)
  replace hTt := Lib.hid (hTt.out.step ha)
  replace hL := Lib.hid (below_step ha hL.out (Nat.le_refl _))
  replace hD5 := Lib.hid (hD5.out.step ha)
  clear ha
  go_upto_region 3 with (fail)
  refine (show Calls _ _ #[strV (lbB lb 1 p)] _ _ from kS.out 1 _ hTt.out).mono ?_
  rintro e u6 ⟨rfl, hb⟩
  replace hTt := Lib.hid (hTt.out.step hb)
  replace hL := Lib.hid (below_step hb hL.out (Nat.le_refl _))
  replace hD5 := Lib.hid (hD5.out.step hb)
  clear hb hcv
  dsimp only
  have ha := below_alloc u6 (Obj.cells (dgA (sha K (lbB lb 1 p))) 57)
  have hD60 : Bs (u6.alloc (Obj.cells (dgA (sha K (lbB lb 1 p))) 57)) (some ⟨u6.heap.size, 0, none⟩) (sha K (lbB lb 1 p)) 32 := rd_of_row (sha_len _ _) ((row_new rfl).2 (dgA_cells _).1) (rowAt_new rfl)
  have hD6 := Lib.hid hD60
  replace hTt := Lib.hid (hTt.out.step ha)
  replace hL := Lib.hid (below_step ha hL.out (Nat.le_refl _))
  replace hD5 := Lib.hid (hD5.out.step ha)
  clear ha hD60
  go_upto_region 3 with (fail)
  obtain ⟨g6, hg⟩ : ∃ g, u6.heap.size = g := ⟨_, rfl⟩
  rw [hg] at hD6 ⊢
  clear hg
  generalize u6.alloc _ = W6 at *
  generalize ha0 : Act.mk _ _ = a0
  have e5 : a0.tmps[5]?.getD undef = .pointer (some ⟨g5, 0, none⟩) := by rw [← ha0]; rfl
  have e6 : a0.tmps[6]?.getD undef = .pointer (some ⟨g6, 0, none⟩) := by rw [← ha0]; rfl
  have hz0 : a0.tmps.size = 26 := by rw [← ha0]; rfl
  have hha0 := Lib.hid ha0
  clear ha0
  refine wp_region_tailL (fun jx_ => match jx_ with | 0 => SRel.is (.slice (some ⟨g5, 0, none⟩) 32 32) | 1 => SRel.ow w (sha K (lbB lb 0 p)) | 2 => SRel.is (.slice (some ⟨g6, 0, none⟩) 32 32) | 3 => SRel.any | 4 => SRel.any | 5 => SRel.any | 6 => SRel.any | 7 => SRel.any | _ => SRel.any) 3 (by kernel_rfl) (by kernel_rfl) (by kernel_rfl) (slotsOk_of hz0 (by kernel_rfl)) (by kernel_rfl) (of_decide_eq_true (by kernel_rfl)) ⟨?_, ?_, ?_, trivial⟩ ?_
  · refine calmL_step rfl fun a ω κ hb hu hc hK => ?_
    have h5 : a.tmps[5]?.getD undef = .pointer (some ⟨g5, 0, none⟩) := (hu 5 rfl).trans e5
    have hk := Lib.hid (fun w1 (h : Below ω.heap.size ω w1) => hK (.slice (some ⟨g5, 0, none⟩) 32 32) w1 rfl h)
    clear hK hu hc
    go_simp
    exact hk.out _ (Below.refl _ _)
  · refine calmL_step rfl fun a ω κ hb hu hc hK => ?_
    have h19 : a.tmps[19]?.getD undef = .slice (some ⟨g5, 0, none⟩) 32 32 := hc 0 19 rfl rfl
    have hk := Lib.hid (fun v w1 (hv : (SRel.ow w (sha K (lbB lb 0 p))).p v w1) (h : Below ω.heap.size ω w1) => hK v w1 hv h)
    clear hK hu hc
    refine wp_app _ _ 22 rfl SBg (v := .slice none 0 0) (by go_simp) (World.ownsRow_nil ω w.heap.size _ _) (news := bytesV (sha K (lbB lb 0 p))) (m := 32) (c := 32) (by go_simp) (by rw [bytesV_length, sha_len]) (hD5.out.step hb).rd (bytesV_oneCell _) (by unfold maxLen; omega) (by omega) (Nat.le_trans hL.out.size hb.size) ?_
    rintro v1 w1 hv1 hg1 -
    have hbl := (show Below ω.heap.size ω ω from Below.refl _ _).grown hg1 (Nat.le_refl _) (fun k hk => by cases hk)
    exact hk.out v1 w1 ⟨by rw [bytesV_length, sha_len]; simpa using hv1, below_step hbl (below_step hb hL.out (Nat.le_refl _)) (Nat.le_refl _), Nat.le_trans hL.out.size (Nat.le_trans hb.size hbl.size)⟩ hbl
  · refine calmL_step rfl fun a ω κ hb hu hc hK => ?_
    have h6 : a.tmps[6]?.getD undef = .pointer (some ⟨g6, 0, none⟩) := (hu 6 rfl).trans e6
    have hk := Lib.hid (fun w1 (h : Below ω.heap.size ω w1) => hK (.slice (some ⟨g6, 0, none⟩) 32 32) w1 rfl h)
    clear hK hu hc
    go_simp
    exact hk.out _ (Below.refl _ _)
  · intro aa ω hb hu hsz hdf hc
    have h19 : aa.tmps[19]?.getD undef = .slice (some ⟨g5, 0, none⟩) 32 32 := hc 0 19 (by decide) rfl
    have h20 : (SRel.ow w (sha K (lbB lb 0 p))).p (aa.tmps[20]?.getD undef) ω := hc 1 20 (by decide) rfl
    have h21 : aa.tmps[21]?.getD undef = .slice (some ⟨g6, 0, none⟩) 32 32 := hc 2 21 (by decide) rfl
    have ha0 := hha0.out
    subst ha0
    have he := act_patchL (n := 26) 3 [false, false, false, false, false, false, false, false, false, false, false, false, false, false, false, false, false, false, false, true, true, true, false, false, false, false] rfl (by kernel_rfl) hu hsz hdf
    simp only [patch, cond_true, cond_false, Nat.reduceAdd] at he
    clear hu hsz hdf hc hha0 e5 e6 hz0
    rw [he]
    clear he
    generalize aa.tmps[19]?.getD undef = x19 at *
    generalize aa.tmps[20]?.getD undef = x20 at *
    generalize aa.tmps[21]?.getD undef = x21 at *
    subst h19 h21
    dsimp only [List.drop]
    have hO := Lib.hid (show Own w w.heap.size 5 x20 (bytesV (sha K (lbB lb 0 p))) ω from h20)
    have hy := Lib.hid (hD6.out.step hb)
    clear h20 hD5 hD6 hb
    refine wpList_own rfl _ _ 22 rfl SBg rfl hO.out (news := bytesV (sha K (lbB lb 1 p))) (c := 32) (by rw [bytesV_length, sha_len]; rfl) hy.out.rd (bytesV_oneCell _) (by rw [bytesV_length, bytesV_length, sha_len, sha_len]; unfold maxLen; omega) (by rw [bytesV_length, bytesV_length, sha_len, sha_len]; omega) ?_
    rintro v2 w2 hO2 hg2 -
    rw [← bytesV_append] at hO2
    have hlen : (bytesV (sha K (lbB lb 0 p) ++ sha K (lbB lb 1 p))).length = 64 := by rw [bytesV_length]; exact dgT_len K lb p
    have hT2 := Lib.hid hTt.out
    rcases hO2.own.2 with ⟨-, h0⟩ | ⟨g, cap, cur, rfl, hgB, hh, hle, hmx, -, -⟩
    · rw [hlen] at h0
      cases h0
    · have hrd := hO2.rd
      have hL2 := Lib.hid hO2.bel
      have hgl : g < w2.heap.size := (Array.getElem?_eq_some_iff.1 hh).1
      have kN2 := Lib.hid (kNum.out w2 g cap hgl (fun i hi => by
        have hu : (bytesV (dgT K lb p))[i]? = some (.int .u8 (bytesF (dgT K lb p) i : Nat)) := by
          rw [bytesF_at (by rw [dgT_len]; exact hi)]
          simp [bytesV, List.getElem?_eq_getElem (show i < (dgT K lb p).length by rw [dgT_len]; exact hi)]
        have h1 := hrd.all hu
        rwa [Addr.add_lit, Nat.zero_add] at h1) (by rw [hlen] at hle; exact hle) (by unfold maxLen at hmx; exact hmx))
      rw [hlen]
      clear hrd hO2 hh hle hmx hgB hg2 hO hy kNum hlen hgl hTt hT2 kS hL
      dsimp only
      go_wp2_with fail
      refine kN2.out.mono ?_
      rintro e w3 ⟨v3, rfl, hv3, hb⟩
      have hV := Lib.hid hv3
      replace hL2 := Lib.hid (below_step hb hL2.out (Nat.le_refl _))
      clear hb hv3 kN2
      dsimp only
      go_wp2_with fail
      refine (kP.out _).mono ?_
      rintro e w4 ⟨v4, rfl, hv4, hb⟩
      replace hV := Lib.hid (hV.out.step hb)
      have hU := Lib.hid hv4
      replace hL2 := Lib.hid (below_step hb hL2.out (Nat.le_refl _))
      clear hb hv4 kP
      dsimp only
      go_wp2_with fail
      refine (kR.out _ _ _ hV.out hU.out).mono ?_
      rintro e w5 ⟨v5, rfl, hv5, hb⟩
      have hX := Lib.hid hv5
      replace hL2 := Lib.hid (below_step hb hL2.out (Nat.le_refl _))
      clear hb hv5 kR hV hU
      dsimp only
      go_wp2_with fail
      go_ret
      exact ⟨v5, rfl, hX.out, hL2.out⟩
end Go.Proofs.YtgdiokklfihfoaaDoor
namespace Go.Proofs.YtgdiokklfihfoaaDoor
open Go.ChangeShapes Go.WideShapes Go.ChangeAt Go.RowKit
set_option maxHeartbeats 2000000
set_option maxRecDepth 100000
attribute [local irreducible] arrV dgA sha
attribute [local go_sem ↓] load_num store_num execl_num execs_num load_o32 store_o32 execl_o32 execs_o32
attribute [local go_sem] isHead_mk isPart_mk offOf_mk blkOf_mk isAgg_mk cellsV_mk row_drew rowAt_drew row_new_cells row_old rowAt_new rowAt_old setRow_new zeroNum zeroD
theorem own_base {w : World} {B B' : Nat} {e : TypeId} {v : Value} {n : Nat} {xs : List Value} (h : w.ownsRow B e 1 v n xs) (hB : B' ≤ B) : w.ownsRow B' e 1 v n xs := by
  refine ⟨h.1, ?_⟩
  rcases h.2 with h1 | ⟨g, cap, cur, h1, h2, h3⟩
  · exact .inl h1
  · exact .inr ⟨g, cap, cur, h1, Nat.le_trans hB h2, h3⟩
theorem Own.bs {w0 w : World} {B : Nat} {v : Value} {l : List UInt8} {n : Nat} (h : Own w0 B 5 v (bytesV l) w) (hn : l.length = n) : ∃ A c, v = .slice A n c ∧ Bs w A l c := by
  obtain ⟨A, c, rfl, h1, h2⟩ := h.form
  rw [bytesV_length] at h1
  refine ⟨A, c, by rw [bytesV_length, hn], h.rd, h1, h2⟩
section
variable {o : Oper} {a : Act} {w : World} {K : Act → World → Prop} {Q : Exit → Act → World → Prop}
/-- append of one array's bytes onto another's: new memory of the call's own. -/
theorem wp_app64O {x y : List UInt8} {g1 g2 : Nat} {w0 : World} (s t : Operand) (ho : o.op = Op.call { callee := Callee.builtin Builtin.append, args := #[s, t], argTypes := #[22, 22] })
    (hs : a.eval s = .slice (some ⟨g1, 0, none⟩) 32 32) (ht : a.eval t = .slice (some ⟨g2, 0, none⟩) 32 32) (hx : Bs w (some ⟨g1, 0, none⟩) x 32) (hy : Bs w (some ⟨g2, 0, none⟩) y 32) (hxl : x.length = 32) (hyl : y.length = 32) (hw : Below w0.heap.size w0 w)
    (h : ∀ v w', (SRel.ow w0 (x ++ y)).p v w' → Below w.heap.size w w' → K (a.put o.dst v) w') : Oper.wp Tryd.prog o a w K Q := by
  obtain ⟨i, z, hi, hz, hsz, hb, hzs⟩ := SBg.info
  obtain ⟨v', w', hrun, r1, r2⟩ := run_append_arg_grows (P := Tryd.prog) w 22 o.type 5 i z 1 1 SBg.under hi hz hsz hb hzs (by omega) ⟨g1, 0, none⟩ 32 32 (bytesV x) (by rw [bytesV_length]; omega) (fun j u hj => hx.rd.all hj) ⟨g2, 0, none⟩ 32 32 (bytesV y) (by rw [bytesV_length]; omega) (fun j u hj => hy.rd.all hj) (by omega) (by unfold maxLen; omega) (by omega)
  have hbw := (Below.refl _ w).grown r2 (Nat.le_refl _) (fun k hk => by cases hk)
  unfold Oper.wp
  simp [execOp, ho, resolve, invoke, builtin, hs, ht, hrun, Result.andThen]
  refine h v' w' ⟨?_, below_step hbw hw (Nat.le_refl _), Nat.le_trans hw.size hbw.size⟩ hbw
  rw [bytesV_append, List.length_append, bytesV_length, bytesV_length, hxl, hyl]
  exact own_base r1 hw.size
/-- append of bytes onto an array's slice, which is full. -/
theorem wp_appF {x y : List UInt8} {gb ob : Nat} {A : Option Addr} {n c : Nat} (s t : Operand) (ho : o.op = Op.call { callee := Callee.builtin Builtin.append, args := #[s, t], argTypes := #[22, 22] })
    (hs : a.eval s = .slice (some ⟨gb, ob, none⟩) 32 32) (ht : a.eval t = .slice A n c) (hx : Bs w (some ⟨gb, ob, none⟩) x 32) (hy : Bs w A y c) (hxl : x.length = 32) (hyl : y.length = n) (hn : 32 + n ≤ 140737488355328)
    (h : ∀ v w', (SRel.bs (x ++ y)).p v w' → Below w.heap.size w w' → K (a.put o.dst v) w') : Oper.wp Tryd.prog o a w K Q := by
  obtain ⟨i, z, hi, hz, hsz, hb, hzs⟩ := SBg.info
  rcases Nat.eq_zero_or_pos n with rfl | hn0
  · have hy0 : y = [] := List.eq_nil_of_length_eq_zero hyl
    subst hy0
    have hrun : (Builtin.append_ #[22, 22] o.type #[.slice (some ⟨gb, ob, none⟩) 32 32, .slice A 0 c]).run Tryd.prog w = .ok (.slice (some ⟨gb, ob, none⟩) 32 32) w := by
      cases A with
      | none => simp [Builtin.append_, run_underlying SBg.under, sizeOf, typeInfo, hi, Builtin.lenOf, Builtin.firstCells, storeCells]
      | some ad => exact run_append_room_cells (P := Tryd.prog) w 22 o.type 5 i SBg.under hi gb ob 32 32 ad 0 c [] (by simp) (fun j u hj => by simp at hj) (fun u hu => by simp at hu) (by omega) (fun j hj => by simp at hj) (fun j hj => by simp at hj)
    unfold Oper.wp
    simp [execOp, ho, resolve, invoke, builtin, hs, ht, hrun, Result.andThen]
    refine h _ w ⟨some ⟨gb, ob, none⟩, 32, ?_, ?_⟩ (Below.refl _ _)
    · rw [List.append_nil, hxl]
    · rw [List.append_nil]; exact hx
  · obtain ⟨ad, rfl⟩ : ∃ ad, A = some ad := by
      cases A with
      | none => 
        obtain ⟨y0, ys, rfl⟩ := List.exists_cons_of_length_pos (l := y) (by omega)
        have := hy.rd.at_ (k := 0) (by simp [bytesV])
        obtain ⟨ad, e, -⟩ := this
        cases e
      | some ad => exact ⟨ad, rfl⟩
    obtain ⟨v', w', hrun, r1, r2⟩ := run_append_arg_grows (P := Tryd.prog) w 22 o.type 5 i z 1 1 SBg.under hi hz hsz hb hzs (by omega) ⟨gb, ob, none⟩ 32 32 (bytesV x) (by rw [bytesV_length]; omega) (fun j u hj => hx.rd.all hj) ad n c (bytesV y) (by rw [bytesV_length]; omega) (fun j u hj => hy.rd.all hj) (by omega) (by unfold maxLen; omega) (by omega)
    have hbw := (Below.refl _ w).grown r2 (Nat.le_refl _) (fun k hk => by cases hk)
    unfold Oper.wp
    simp [execOp, ho, resolve, invoke, builtin, hs, ht, hrun, Result.andThen]
    have hO : Own w w.heap.size 5 v' (bytesV (x ++ y)) w' := ⟨by rw [bytesV_append, List.length_append, bytesV_length, bytesV_length, hxl, hyl]; exact r1, hbw, hbw.size⟩
    exact h v' w' (hO.bs rfl) hbw
end
theorem sign_challenge (K : Nat → W32) (r pb p : List UInt8) (A : Option Addr) (n c : Nat) (w : World) (hT : Tabs K w) (hr : r.length = 32) (hpb : pb.length = 32) (hn : p.length = n) (hp : Bs w A p c) (hb : 64 + n ≤ 140737488355328) : Calls Tryd.prog 75 #[.agg (dgA r), .agg (dgA pb), .slice A n c] w fun e w' => e = .returned (numV (ofL (dgT K 4 (r ++ pb ++ p)))) ∧ Below w.heap.size w w' := by
  have kD := Lib.hid (fun V A2 c2 (h1 : Tabs K V) (h2 : Bs V A2 (r ++ pb ++ p) c2) => scalar_Digest K A2 (r ++ pb ++ p) (64 + n) c2 4 V (by rw [List.length_append, List.length_append, hr, hpb, hn]) h1 h2)
  obtain ⟨v, hv⟩ : ∃ v, ofL (dgT K 4 (r ++ pb ++ p)) = v := ⟨_, rfl⟩
  rw [hv] at kD ⊢
  clear hv
  unfold numV at kD ⊢
  have hc0 := arrK_cells .u64 4 (wd 0)
  have hcv := arrK_cells .u64 4 (wd v)
  have hcr := dgA_cells r
  have hcp := dgA_cells pb
  have hL0 : Below w.heap.size w (((w.alloc (Obj.cells (dgA r) 57)).alloc (Obj.cells (dgA pb) 57)).alloc (Obj.cells (arrK .u64 4 (wd 0)) 41)) := by go_grown
  have hX0 : Bs (((w.alloc (Obj.cells (dgA r) 57)).alloc (Obj.cells (dgA pb) 57)).alloc (Obj.cells (arrK .u64 4 (wd 0)) 41)) (some ⟨w.heap.size, 0, none⟩) r 32 := ((rd_of_row hr ((row_new rfl).2 hcr.1) (rowAt_new rfl) : Bs (w.alloc (Obj.cells (dgA r) 57)) (some ⟨w.heap.size, 0, none⟩) r 32).step (below_alloc _ _)).step (below_alloc _ _)
  have hY0 : Bs (((w.alloc (Obj.cells (dgA r) 57)).alloc (Obj.cells (dgA pb) 57)).alloc (Obj.cells (arrK .u64 4 (wd 0)) 41)) (some ⟨w.heap.size + 1, 0, none⟩) pb 32 := (rd_of_row hpb ((row_new (by simp)).2 hcp.1) (rowAt_new (by simp)) : Bs ((w.alloc (Obj.cells (dgA r) 57)).alloc (Obj.cells (dgA pb) 57)) (some ⟨w.heap.size + 1, 0, none⟩) pb 32).step (below_alloc _ _)
  have hR0 : Row (((w.alloc (Obj.cells (dgA r) 57)).alloc (Obj.cells (dgA pb) 57)).alloc (Obj.cells (arrK .u64 4 (wd 0)) 41)) (w.heap.size + 1 + 1) 4 := (row_new (by simp)).2 hc0.1
  have hX := Lib.hid hX0
  have hY := Lib.hid hY0
  have hR := Lib.hid hR0
  have hP := Lib.hid (hp.step hL0)
  have hTt := Lib.hid (hT.step hL0)
  have hL := Lib.hid hL0
  have hsl := hX0.step (Below.refl _ _)
  clear hX0 hY0 hR0 hp hT hL0 hsl
  go_enter Tryd.func75, Tryd.ntmps75
  go_upto_region 1 with (fail)
  generalize ((w.alloc _).alloc _).alloc _ = W0 at *
  generalize ha0 : Act.mk _ _ = a0
  have e3 : a0.tmps[3]?.getD undef = .pointer (some ⟨w.heap.size, 0, none⟩) := by rw [← ha0]; rfl
  have e4 : a0.tmps[4]?.getD undef = .pointer (some ⟨w.heap.size + 1, 0, none⟩) := by rw [← ha0]; rfl
  have hz0 : a0.tmps.size = 15 := by rw [← ha0]; rfl
  have hha0 := Lib.hid ha0
  clear ha0
  refine wp_region_calm (fun jx_ => match jx_ with | 0 => SRel.is (.slice (some ⟨w.heap.size, 0, none⟩) 32 32) | 1 => SRel.is (.slice (some ⟨w.heap.size + 1, 0, none⟩) 32 32) | 2 => SRel.ow W0 (r ++ pb) | 3 => SRel.ow W0 (r ++ pb) | _ => SRel.any) (by kernel_rfl) (by kernel_rfl) (by kernel_rfl) (slotsOk_of hz0 (by kernel_rfl)) ⟨?_, ?_, ?_, ?_, trivial⟩ ?_
  · refine calm_step rfl fun a ω κ hb hu hc hK => ?_
    have h3 : a.tmps[3]?.getD undef = .pointer (some ⟨w.heap.size, 0, none⟩) := (hu 3 rfl).trans e3
    have hk := Lib.hid (fun w1 (h : Below ω.heap.size ω w1) => hK (.slice (some ⟨w.heap.size, 0, none⟩) 32 32) w1 rfl h)
    clear hK hu hc
    go_simp
    exact hk.out _ (Below.refl _ _)
  · refine calm_step rfl fun a ω κ hb hu hc hK => ?_
    have h4 : a.tmps[4]?.getD undef = .pointer (some ⟨w.heap.size + 1, 0, none⟩) := (hu 4 rfl).trans e4
    have hk := Lib.hid (fun w1 (h : Below ω.heap.size ω w1) => hK (.slice (some ⟨w.heap.size + 1, 0, none⟩) 32 32) w1 rfl h)
    clear hK hu hc
    go_simp
    exact hk.out _ (Below.refl _ _)
  · refine calm_step rfl fun a ω κ hb hu hc hK => ?_
    have h8 : a.tmps[8]?.getD undef = .slice (some ⟨w.heap.size, 0, none⟩) 32 32 := hc 0 8 rfl rfl
    have h9 : a.tmps[9]?.getD undef = .slice (some ⟨w.heap.size + 1, 0, none⟩) 32 32 := hc 1 9 rfl rfl
    have hk := Lib.hid (fun v w1 (hv : (SRel.ow W0 (r ++ pb)).p v w1) (h : Below ω.heap.size ω w1) => hK v w1 hv h)
    clear hK hu hc
    exact wp_app64O _ _ rfl (by go_simp) (by go_simp) (hX.out.step hb) (hY.out.step hb) hr hpb hb (fun v w1 hv hbw => hk.out v w1 hv hbw)
  · refine calm_step rfl fun a ω κ hb hu hc hK => ?_
    have h10 : (SRel.ow W0 (r ++ pb)).p (a.tmps[10]?.getD undef) ω := hc 2 10 rfl rfl
    have hk := Lib.hid (fun v w1 (hv : (SRel.ow W0 (r ++ pb)).p v w1) (h : Below ω.heap.size ω w1) => hK v w1 hv h)
    clear hK hu hc
    go_simp
    exact hk.out _ _ h10 (Below.refl _ _)
  · intro a1 w1 hb1 hu1 hsz1 hdf1 hc1
    have ha0 := hha0.out
    subst ha0
    have he := act_patch (n := 15) [false, false, false, false, false, false, false, true, true, true, true, false, false, false, false] rfl (by kernel_rfl) hu1 hsz1 hdf1
    simp only [patch, cond_true, cond_false, Nat.reduceAdd] at he
    have h7 : Own W0 W0.heap.size 5 (a1.tmps[7]?.getD undef) (bytesV (r ++ pb)) w1 := hc1 3 7 rfl
    replace hP := Lib.hid (hP.out.step hb1)
    clear hX hY
    clear hb1 hu1 hsz1 hdf1 hc1 hz0 hha0 e3 e4
    rw [he]
    clear he
    generalize a1.tmps[7]?.getD undef = x7 at *
    generalize a1.tmps[8]?.getD undef = x8 at *
    generalize a1.tmps[9]?.getD undef = x9 at *
    generalize a1.tmps[10]?.getD undef = x10 at *
    have hO := Lib.hid h7
    have hpl : (bytesV p).length = n := by rw [bytesV_length, hn]
    have hrl : (bytesV (r ++ pb)).length = 64 := by rw [bytesV_length, List.length_append, hr, hpb]
    clear h7
    generalize w1 = W1 at *
    go_wp2_with (at_builtin; refine wpList_own (o := ⟨some 13, _, _, _, _, _⟩) rfl (.tmp 11) (.tmp 12) 22 rfl SBg rfl hO.out (A := A) (c := c) (news := bytesV p) (by rw [hpl]; rfl) hP.out.rd (bytesV_oneCell _) (by rw [hpl, hrl]; unfold maxLen; omega) (by rw [hpl, hrl]; omega) ?_; intro v2 w2 hO2 hgb hob)
    clear hgb hob hpl hrl
    replace hR := Lib.hid (row_below hR.out hO2.bel hR.out.lt)
    replace hTt := Lib.hid (hTt.out.step hO2.bel)
    replace hL := Lib.hid (below_step hO2.bel hL.out (Nat.le_refl _))
    obtain ⟨A2, c2, rfl, hB2⟩ := (show Own W0 W0.heap.size 5 v2 (bytesV (r ++ pb ++ p)) w2 by rw [bytesV_append]; exact hO2).bs (n := 64 + n) (by rw [List.length_append, List.length_append, hr, hpb, hn])
    have kD2 := Lib.hid (kD.out w2 A2 c2 hTt.out hB2)
    clear hO2 hO hP hB2 kD
    go_wp2_with fail
    refine (show Calls _ _ #[Value.int IntKind.u8 4, _] w2 _ from kD2.out).mono ?_
    rintro e w3 ⟨rfl, hb3⟩
    have hR3 := row_below hR.out hb3 hR.out.lt
    have hL3 := below_step hb3 hL.out (Nat.le_refl _)
    clear hb3 hR hL kD2 hTt
    dsimp only
    go_wp2_with fail
    exact ret_stored (p := 6) (ty := 41) (g := w.heap.size + 1 + 1) (n := 4) (c := arrK .u64 4 (wd v)) rfl Tryd.underlying41 rfl (by kernel_rfl) rfl hR3 hcv.1 rfl ⟨rfl, below_setRow hL3 (by omega)⟩
end Go.Proofs.YtgdiokklfihfoaaDoor
namespace Go.Proofs.YtgdiokklfihfoaaDoor
open Go Go.ChangeShapes Go.WideShapes Go.ChangeAt Go.RowKit
set_option maxHeartbeats 2000000
set_option maxRecDepth 100000
theorem load_pa {w : World} {dst : Option Tmp} {x : Operand} {tt : TypeId} {pos : String} {af : Array Edge} {gd : Option (Nat × Bool)} {a : Act} {K : Act → World → Prop} {Q : Exit → Act → World → Prop}
    (hv : IsHead (a.eval x)) (h : Row w (blkOf (a.eval x)) 68) : Oper.wp Tryd.prog ⟨dst, .load 67 x, tt, pos, af, gd⟩ a w K Q ↔ K (a.put dst (.agg (rowAt w (blkOf (a.eval x))))) w :=
  wp_load_whole Tryd.underlying67 rfl (by kernel_rfl) hv h
theorem store_pa {w : World} {dst : Option Tmp} {x y : Operand} {tt : TypeId} {pos : String} {af : Array Edge} {gd : Option (Nat × Bool)} {a : Act} {K : Act → World → Prop} {Q : Exit → Act → World → Prop}
    (hv : IsHead (a.eval x)) (h : Row w (blkOf (a.eval x)) 68) (hx : IsAgg (a.eval y) 68) : Oper.wp Tryd.prog ⟨dst, .store 67 x y, tt, pos, af, gd⟩ a w K Q ↔ K (a.put dst undef) (w.setRow (blkOf (a.eval x)) (cellsV (a.eval y))) :=
  wp_store_whole (by kernel_rfl) hv h hx
theorem execl_pa {w : World} {dst : Option Tmp} {x : Operand} {tt : TypeId} {pos : String} {af : Array Edge} {gd : Option (Nat × Bool)} {ρ : Operand → Value}
    (hv : IsHead (ρ x)) (h : Row w (blkOf (ρ x)) 68) : (execOp ρ ⟨dst, .load 67 x, tt, pos, af, gd⟩).run Tryd.prog w = .ok (.value (.agg (rowAt w (blkOf (ρ x))))) w :=
  exec_load_whole Tryd.underlying67 rfl (by kernel_rfl) hv h
theorem execs_pa {w : World} {dst : Option Tmp} {x y : Operand} {tt : TypeId} {pos : String} {af : Array Edge} {gd : Option (Nat × Bool)} {ρ : Operand → Value}
    (hv : IsHead (ρ x)) (h : Row w (blkOf (ρ x)) 68) (hx : IsAgg (ρ y) 68) : (execOp ρ ⟨dst, .store 67 x y, tt, pos, af, gd⟩).run Tryd.prog w = .ok .skip (w.setRow (blkOf (ρ x)) (cellsV (ρ y))) :=
  exec_store_whole (by kernel_rfl) hv h hx
theorem load_sg {w : World} {dst : Option Tmp} {x : Operand} {tt : TypeId} {pos : String} {af : Array Edge} {gd : Option (Nat × Bool)} {a : Act} {K : Act → World → Prop} {Q : Exit → Act → World → Prop}
    (hv : IsHead (a.eval x)) (h : Row w (blkOf (a.eval x)) 64) : Oper.wp Tryd.prog ⟨dst, .load 69 x, tt, pos, af, gd⟩ a w K Q ↔ K (a.put dst (.agg (rowAt w (blkOf (a.eval x))))) w :=
  wp_load_whole Tryd.underlying69 rfl (by kernel_rfl) hv h
theorem store_sg {w : World} {dst : Option Tmp} {x y : Operand} {tt : TypeId} {pos : String} {af : Array Edge} {gd : Option (Nat × Bool)} {a : Act} {K : Act → World → Prop} {Q : Exit → Act → World → Prop}
    (hv : IsHead (a.eval x)) (h : Row w (blkOf (a.eval x)) 64) (hx : IsAgg (a.eval y) 64) : Oper.wp Tryd.prog ⟨dst, .store 69 x y, tt, pos, af, gd⟩ a w K Q ↔ K (a.put dst undef) (w.setRow (blkOf (a.eval x)) (cellsV (a.eval y))) :=
  wp_store_whole (by kernel_rfl) hv h hx
theorem execl_sg {w : World} {dst : Option Tmp} {x : Operand} {tt : TypeId} {pos : String} {af : Array Edge} {gd : Option (Nat × Bool)} {ρ : Operand → Value}
    (hv : IsHead (ρ x)) (h : Row w (blkOf (ρ x)) 64) : (execOp ρ ⟨dst, .load 69 x, tt, pos, af, gd⟩).run Tryd.prog w = .ok (.value (.agg (rowAt w (blkOf (ρ x))))) w :=
  exec_load_whole Tryd.underlying69 rfl (by kernel_rfl) hv h
theorem execs_sg {w : World} {dst : Option Tmp} {x y : Operand} {tt : TypeId} {pos : String} {af : Array Edge} {gd : Option (Nat × Bool)} {ρ : Operand → Value}
    (hv : IsHead (ρ x)) (h : Row w (blkOf (ρ x)) 64) (hx : IsAgg (ρ y) 64) : (execOp ρ ⟨dst, .store 69 x y, tt, pos, af, gd⟩).run Tryd.prog w = .ok .skip (w.setRow (blkOf (ρ x)) (cellsV (ρ y))) :=
  exec_store_whole (by kernel_rfl) hv h hx
theorem load_f32 {w : World} {dst : Option Tmp} {x : Operand} {tt : TypeId} {pos : String} {af : Array Edge} {gd : Option (Nat × Bool)} {a : Act} {K : Act → World → Prop} {Q : Exit → Act → World → Prop} (h : LdOk w 32 (a.eval x)) : Oper.wp Tryd.prog ⟨dst, .load 57 x, tt, pos, af, gd⟩ a w K Q ↔ K (a.put dst (.agg (ldC w 32 (a.eval x)))) w := wp_load_el Tryd.underlying57 rfl (by kernel_rfl) h
/-- A pair's cells: the secret, the mask, the public key. -/
def prA (s : Nat) (m p : List UInt8) : Array Value := arrV 68 fun i => if i < 4 then .int .u64 (wd s i : Nat) else if i < 36 then .int .u8 (bytesF m (i - 4) : Nat) else .int .u8 (bytesF p (i - 36) : Nat)
section
variable {s : Nat} {m p : List UInt8}
theorem prA_cells (s : Nat) (m p : List UInt8) : Cells (prA s m p) 68 := arrV_cells fun i _ => by
  split
  · rfl
  · split <;> rfl
theorem dgA_V (l : List UInt8) : dgA l = arrV 32 fun i => .int .u8 (bytesF l i : Nat) := arrK_V .u8 32 _
theorem prA_0 : (prA s m p).extract 0 (0 + 4) = arrK .u64 4 (wd s) := by
  unfold prA
  rw [arrV_extract (by omega), arrK_V .u64 4]
  exact arrV_congr fun i hi => by rw [if_pos (by omega), Nat.zero_add]
theorem prA_4 : (prA s m p).extract 4 (4 + 32) = dgA m := by
  unfold prA
  rw [arrV_extract (by omega), dgA_V]
  exact arrV_congr fun i hi => by rw [if_neg (by omega), if_pos (by omega), Nat.add_sub_cancel_left]
theorem prA_36 : (prA s m p).extract 36 (36 + 32) = dgA p := by
  unfold prA
  rw [arrV_extract (by omega), dgA_V]
  exact arrV_congr fun i hi => by rw [if_neg (by omega), if_neg (by omega), Nat.add_sub_cancel_left]
end
theorem build_pair (s : Nat) (m p : List UInt8) (w : World) : (Instr.build 67 #[(0, .agg (arrK .u64 4 (wd s))), (1, .agg (dgA m)), (2, .agg (dgA p))]).run Tryd.prog w = .ok (.agg (prA s m p)) w := run_build w _ _ _ (by kernel_rfl)
theorem ext_at {c d : Array Value} {o n : Nat} (h : c.extract o (o + n) = d) (hd : d.size = n) {i : Nat} (hi : i < n) : c[o + i]? = d[i]? := by
  rw [← h, Array.getElem?_extract]
  have h2 : c.size ≥ o + n := by
    have := congrArg Array.size h
    rw [Array.size_extract, hd] at this
    omega
  rw [if_pos (by omega)]
/-- A part of a block, as a whole array. -/
theorem part_ld {w : World} {g N o n : Nat} {c d : Array Value} (hR : Row w g N) (hr : rowAt w g = c) (he : c.extract o (o + n) = d) (hd : d.size = n) (hv : ∀ i < n, (d[i]?).isSome = true) : LdOk w n (.pointer (some ⟨g, o, none⟩)) ∧ ldC w n (.pointer (some ⟨g, o, none⟩)) = d := by
  have hc : ∀ j, j < n → w.cell? ((⟨g, o, none⟩ : Addr).add j) = d[j]? := fun j hj => by
    have h1 := hR.cell (o + j)
    rw [hr, ext_at he hd hj] at h1
    by_cases e : j = 0
    · subst e; simpa [Addr.add] using h1
    · simpa [Addr.add, e] using h1
  refine ⟨fun j hj => by rw [hc j hj]; exact hv j hj, ?_⟩
  show arrV n (fun j => (w.cell? ((⟨g, o, none⟩ : Addr).add j)).getD undef) = d
  apply Array.ext_getElem?
  intro j
  by_cases hj : j < n
  · rw [arrV_at hj, hc j hj]
    obtain ⟨u, hu⟩ := Option.isSome_iff_exists.1 (hv j hj)
    rw [hu]; rfl
  · rw [Array.getElem?_eq_none (by rw [arrV_size]; omega), Array.getElem?_eq_none (by omega)]
theorem arrK_some {k : IntKind} {n : Nat} {f : Nat → Nat} : ∀ i < n, ((arrK k n f)[i]?).isSome = true := fun i hi => by rw [arrK_at hi]; rfl
theorem part_bs {w : World} {g N o : Nat} {c : Array Value} {l : List UInt8} (hl : l.length = 32) (hR : Row w g N) (hr : rowAt w g = c) (he : c.extract o (o + 32) = dgA l) : Bs w (some ⟨g, o, none⟩) l 32 := by
  refine ⟨?_, by omega, by omega⟩
  have hg := hR.lt
  intro j u hu
  have hj : j < 32 := by
    have := (List.getElem?_eq_some_iff.1 hu).1
    rw [bytesV_length] at this
    omega
  have h1 := hR.cell (o + j)
  rw [hr, ext_at he (dgA_cells l).1 hj, ← Array.getElem?_toList, dgA_bytes hl, hu] at h1
  refine ⟨⟨g, o, none⟩, rfl, hg, ?_⟩
  by_cases e : j = 0
  · subst e; simpa [Addr.add] using h1
  · simpa [Addr.add, e] using h1
theorem part_in {c d : Array Value} {t : TypeId} {ds : TypeDesc} {n o : Nat} (hu : Tryd.prog.underlying t = some ds) (hds : ds.isRow = true) (hi : (Tryd.prog.info? t).map (·.size) = some n) (he : c.extract o (o + n) = d) (w : World) : (part t c o).run Tryd.prog w = .ok (.agg d) w := by
  obtain ⟨i, hi, hs⟩ : ∃ i, Tryd.prog.info? t = some i ∧ i.size = n := by
    cases h : Tryd.prog.info? t with
    | none => rw [h] at hi; cases hi
    | some i => rw [h] at hi; exact ⟨i, rfl, by simpa using hi⟩
  have hag : (isAgg t).run Tryd.prog w = .ok true w := by
    unfold isAgg
    rw [Sem.run_bind, run_underlying hu w]
    cases ds <;> simp_all
  simp [part, hag, sizeOf, typeInfo, hi, hs, he]
theorem equalIn_dgS (d : List UInt8) (k : Nat) (w : World) : (Op.equalIn (k + 2) 57 (.agg (dgA d)) (.agg (dgA d))).run Tryd.prog w = .ok true w := by
  unfold dgA
  rw [run_equalIn_arrK Tryd.underlying57 Tryd.underlying5 (by kernel_rfl)]; simp
theorem forIn_yield {α β : Type} {P : Program} {w : World} (b : β) (body : α → β → Sem (ForInStep β)) : ∀ l : List α, (∀ x ∈ l, (body x b).run P w = .ok (.yield b) w) → (forIn l b body).run P w = .ok b w
  | [], _ => by rw [List.forIn_nil, Sem.run_pure]
  | x :: l, h => by
    rw [List.forIn_cons, Sem.run_bind, h x (by simp), Result.andThen_ok]
    exact forIn_yield b body l fun y hy => h y (by simp [hy])
/-- A field compared with itself. -/
theorem fld_same {P : Program} {w : World} {nm : String} {q : Sem Value} {E : Value → Value → Sem Bool} {v : Value} (h : q.run P w = .ok v w) (he : (E v v).run P w = .ok true w) :
    (if nm ≠ "_" then do
      let a ← q
      let b ← q
      let c ← E a b
      if (!c) = true then pure (ForInStep.done (some false, ())) else pure (ForInStep.yield (none, ()))
    else pure (ForInStep.yield (none, ())) : Sem (ForInStep (Option Bool × Unit))).run P w = .ok (.yield (none, ())) w := by
  split
  · rw [Sem.run_bind, h, Result.andThen_ok, Sem.run_bind, h, Result.andThen_ok, Sem.run_bind, he, Result.andThen_ok]
    rfl
  · rfl
theorem eqlPair (s : Nat) (m p : List UInt8) (w : World) : (Op.equalIn 10000 67 (.agg (prA s m p)) (.agg (prA s m p))).run Tryd.prog w = .ok true w := by
  rw [show 10000 = 9999 + 1 from rfl, Op.equalIn.eq_2]
  simp only [Sem.run_bind, run_underlying Tryd.underlying67, Result.andThen_ok]
  have hst : Tryd.prog.stoodInHeld 67 = false := by kernel_rfl
  have h1 := part_in (c := prA s m p) (o := 0) (n := 4) Tryd.underlying41 rfl (by kernel_rfl) prA_0 w
  have h2 := part_in (c := prA s m p) (o := 4) (n := 32) Tryd.underlying57 rfl (by kernel_rfl) prA_4 w
  have h3 := part_in (c := prA s m p) (o := 36) (n := 32) Tryd.underlying57 rfl (by kernel_rfl) prA_36 w
  have e1 : (Op.equalIn 9999 41 _ _).run Tryd.prog w = .ok true w := equalIn_4 (wd s) 9997 w
  have e2 : (Op.equalIn 9999 57 _ _).run Tryd.prog w = .ok true w := equalIn_dgS m 9997 w
  have e3 : (Op.equalIn 9999 57 _ _).run Tryd.prog w = .ok true w := equalIn_dgS p 9997 w
  generalize prA s m p = c at *
  generalize dgA m = dm at *
  generalize dgA p = dp at *
  generalize arrK .u64 4 (wd s) = ds at *
  generalize Op.equalIn 9999 = E at *
  simp only [run_program, Result.andThen_ok, hst, Bool.false_eq_true, if_false, Sem.run_bind]
  rw [List.forIn_toArray, forIn_yield]
  · rfl
  · intro x hx
    simp only [List.mem_cons, List.not_mem_nil, or_false] at hx
    rcases hx with rfl | rfl | rfl
    · exact fld_same h1 e1
    · exact fld_same h2 e2
    · exact fld_same h3 e3
theorem eqlPairB (s : Nat) (m p : List UInt8) (w : World) : (binOp .eql 67 (.agg (prA s m p)) (.agg (prA s m p))).run Tryd.prog w = .ok (.bool true) w := by rw [run_eql_struct, eqlPair]; rfl
end Go.Proofs.YtgdiokklfihfoaaDoor
namespace Go.Proofs.YtgdiokklfihfoaaDoor
open Go.ChangeShapes Go.WideShapes Go.ChangeAt Go.RowKit
set_option maxHeartbeats 2000000
set_option maxRecDepth 100000
attribute [local irreducible] arrV dgA sha prA
attribute [local go_sem ↓] load_fld load_num store_num execl_num execs_num load_o32 store_o32 execl_o32 execs_o32 load_pa store_pa execl_pa execs_pa
attribute [local go_sem] isHead_mk isPart_mk offOf_mk blkOf_mk isAgg_mk cellsV_mk row_drew rowAt_drew row_new_cells row_old rowAt_new rowAt_old setRow_new zeroNum zeroD
theorem pkF_lt {x y i : Nat} (hy : y < fP) : pkF x y i < 256 := by
  unfold pkF; split
  · have := byt_31 hy; omega
  · exact byt_lt y i
/-- The base's n-fold, packed, as bytes. -/
def bsL (n : Nat) : List UInt8 := bL (bsF n) 32
theorem bsL_len (n : Nat) : (bsL n).length = 32 := bL_len _ _
theorem sign_baseL (n : Nat) (w : World) (hn : n < 2 ^ 256) : Calls Tryd.prog 67 #[numV n] w fun e w' => e = .returned (.agg (dgA (bsL n))) ∧ Below w.heap.size w w' := by
  have h := sign_base n w hn
  rw [dgA_of (f := bsF n) fun i _ => pkF_lt (tmP bX bY n).2.isLt] at h
  exact h
theorem ofL_lt (l : List UInt8) : ofL l < 2 ^ 256 := mod_L
/-- The secret, the mask and the public key of a seed. -/
def secN (K : Nat → W32) (S : List UInt8) : Nat := atL (ofL (dgT K 1 S))
def mskL (K : Nat → W32) (S : List UInt8) : List UInt8 := sha K (2 :: S)
def pubL (K : Nat → W32) (S : List UInt8) : List UInt8 := bsL (secN K S)
theorem secN_lt (K : Nat → W32) (S : List UInt8) : secN K S < 2 ^ 256 := atL_lt (ofL_lt _)
def pairA (K : Nat → W32) (S : List UInt8) : Array Value := prA (secN K S) (mskL K S) (pubL K S)
theorem bs_one1 (w : World) (b : UInt8) (t : TypeId) : Bs (w.alloc (.cells #[.int .u8 (b.toNat : Int)] t)) (some ⟨w.heap.size, 0, none⟩) [b] 1 :=
  ⟨Rd.of_blk (cs := #[.int .u8 (b.toNat : Int)]) (push_new _ _) (B := (w.alloc (.cells #[.int .u8 (b.toNat : Int)] t)).heap.size) (by simp), by simp, by omega⟩
theorem sign_New (K : Nat → W32) (S : List UInt8) (w : World) (hT : Tabs K w) (hS : S.length = 32) : Calls Tryd.prog 26 #[.agg (dgA S)] w fun e w' => e = .returned (.agg (pairA K S)) ∧ Below w.heap.size w w' := by
  have kD := Lib.hid (fun V A2 c2 (h1 : Tabs K V) (h2 : Bs V A2 S c2) => scalar_Digest K A2 S 32 c2 1 V hS h1 h2)
  have kA := Lib.hid (fun V => sign_atLeast (ofL (dgT K 1 S)) V (ofL_lt _))
  have kB := Lib.hid (fun V => sign_baseL (secN K S) V (secN_lt K S))
  have hpa := Lib.hid (show pairA K S = prA (secN K S) (mskL K S) (pubL K S) from rfl)
  obtain ⟨PA, hPA⟩ : ∃ x, pairA K S = x := ⟨_, rfl⟩
  rw [hPA] at hpa ⊢
  rw [show atL (ofL (dgT K 1 S)) = secN K S from rfl] at kA
  rw [show bsL (secN K S) = pubL K S from rfl] at kB
  generalize secN K S = sa at *
  generalize pubL K S = pb at *
  generalize ofL (dgT K 1 S) = d at *
  unfold numV at kD kA kB
  have hbp := Lib.hid (fun W => build_pair sa (mskL K S) pb W)
  rw [← hpa.out] at hbp
  have hcp : Cells PA 68 := by rw [hpa.out]; exact prA_cells _ _ _
  have hc0 := arrK_cells .u64 4 (wd 0)
  have hca := arrK_cells .u64 4 (wd sa)
  have hcs := dgA_cells S
  have hL0 : Below w.heap.size w ((w.alloc (Obj.cells (dgA S) 57)).alloc (Obj.cells Tryd.zeroCells67 67)) := by go_grown
  have hX0 : Bs ((w.alloc (Obj.cells (dgA S) 57)).alloc (Obj.cells Tryd.zeroCells67 67)) (some ⟨w.heap.size, 0, none⟩) S 32 := (rd_of_row hS ((row_new rfl).2 hcs.1) (rowAt_new rfl) : Bs (w.alloc (Obj.cells (dgA S) 57)) (some ⟨w.heap.size, 0, none⟩) S 32).step (below_alloc _ _)
  have hR0 : Row ((w.alloc (Obj.cells (dgA S) 57)).alloc (Obj.cells Tryd.zeroCells67 67)) (w.heap.size + 1) 68 := (row_new (by simp)).2 (by kernel_rfl)
  have hX := Lib.hid hX0
  have hR := Lib.hid hR0
  have hTt := Lib.hid (hT.step hL0)
  have hL := Lib.hid hL0
  clear hPA hpa hX0 hR0 hT hL0
  go_enter Tryd.func26, Tryd.ntmps26
  go_upto_region 1 with (fail)
  generalize (w.alloc _).alloc _ = W0 at *
  go_wp2_with fail
  refine (show Calls _ _ #[Value.int IntKind.u8 1, _] W0 _ from kD.out _ _ _ hTt.out hX.out).mono ?_
  rintro e w1 ⟨rfl, hb⟩
  replace hX := Lib.hid (hX.out.step hb)
  replace hR := Lib.hid (row_below hR.out hb hR.out.lt)
  replace hTt := Lib.hid (hTt.out.step hb)
  replace hL := Lib.hid (below_step hb hL.out (Nat.le_refl _))
  clear hb kD
  dsimp only
  go_wp2_with fail
  refine (kA.out _).mono ?_
  rintro e w2 ⟨rfl, hb⟩
  replace hX := Lib.hid (hX.out.step hb)
  replace hR := Lib.hid (row_below hR.out hb hR.out.lt)
  replace hTt := Lib.hid (hTt.out.step hb)
  replace hL := Lib.hid (below_step hb hL.out (Nat.le_refl _))
  clear hb kA
  dsimp only
  go_upto_region 2 with (fail)
  have hb := below_alloc w2 (Obj.cells (arrK .u64 4 (wd sa)) 41)
  have hA := Lib.hid (At.new (w := w2) (k := .u64) (m := 4) (f := wd sa) 41 rfl)
  replace hX := Lib.hid (hX.out.step hb)
  replace hR := Lib.hid (row_below hR.out hb hR.out.lt)
  replace hTt := Lib.hid (hTt.out.step hb)
  replace hL := Lib.hid (below_step hb hL.out (Nat.le_refl _))
  clear hb
  generalize w2.alloc _ = W2 at *
  generalize w2.heap.size = g3 at *
  generalize ha0 : Act.mk _ _ = a0
  have e1 : a0.tmps[1]?.getD undef = .pointer (some ⟨w.heap.size, 0, none⟩) := by rw [← ha0]; rfl
  have e2 : a0.tmps[2]?.getD undef = .pointer (some ⟨w.heap.size + 1, 0, none⟩) := by rw [← ha0]; rfl
  have e3 : a0.tmps[3]?.getD undef = .pointer (some ⟨g3, 0, none⟩) := by rw [← ha0]; rfl
  have hz0 : a0.tmps.size = 17 := by rw [← ha0]; rfl
  have hha0 := Lib.hid ha0
  clear ha0
  refine wp_region_tailL (fun jx_ => match jx_ with | 0 => SRel.is (.agg (arrK .u64 4 (wd sa))) | 1 => SRel.is (.agg (stL K []).cells) | 2 => SRel.gb [2] 1 | 3 => SRel.is (.agg (stL K [2]).cells) | 4 => SRel.is (.slice (some ⟨w.heap.size, 0, none⟩) 32 32) | 5 => SRel.is (.agg (stL K (2 :: S)).cells) | 6 => SRel.is (.agg (dgA (mskL K S))) | 7 => SRel.is (.agg (arrK .u64 4 (wd sa))) | 8 => SRel.is (.agg (dgA pb)) | 9 => SRel.is (.agg PA) | 10 => SRel.any | _ => SRel.any) 10 (by kernel_rfl) (by kernel_rfl) (by kernel_rfl) (slotsOk_of hz0 (by kernel_rfl)) (by kernel_rfl) (of_decide_eq_true (by kernel_rfl)) ⟨?_, ?_, ?_, ?_, ?_, ?_, ?_, ?_, ?_, ?_, trivial⟩ ?_
  · refine calmL_step rfl fun a ω κ hb hu hc hK => ?_
    have h3 : a.tmps[3]?.getD undef = .pointer (some ⟨g3, 0, none⟩) := (hu 3 rfl).trans e3
    have hk := Lib.hid (fun w1 (h : Below ω.heap.size ω w1) => hK (.agg (arrK .u64 4 (wd sa))) w1 rfl h)
    clear hK hu hc
    have hr1 := (hA.out.step hb).row
    have hr2 := (hA.out.step hb).eq
    go_simp
    exact hk.out _ (Below.refl _ _)
  · refine calmL_step rfl fun a ω κ hb hu hc hK => ?_
    have hk := Lib.hid (fun w1 (h : Below ω.heap.size ω w1) => hK (.agg (stL K []).cells) w1 rfl h)
    clear hK hu hc
    go_simp
    go_at_call 64
    refine (newC0 (K := K) _).mono ?_
    rintro e w1 ⟨rfl, hb1⟩
    exact hk.out _ hb1
  · refine calmL_step rfl fun a ω κ hb hu hc hK => ?_
    have hk := Lib.hid (fun v w1 (hv : (SRel.gb [2] 1).p v w1) (h : Below ω.heap.size ω w1) => hK v w1 hv h)
    clear hK hu hc
    go_simp
    exact hk.out _ _ ⟨_, _, rfl, bs_one1 ω 2 5⟩ (below_alloc _ _)
  · refine calmL_step rfl fun a ω κ hb hu hc hK => ?_
    have h8 : a.tmps[8]?.getD undef = .agg (stL K []).cells := hc 1 8 rfl rfl
    have h9 : (SRel.gb [2] 1).p (a.tmps[9]?.getD undef) ω := hc 2 9 rfl rfl
    have hk := Lib.hid (fun w1 (h : Below ω.heap.size ω w1) => hK (.agg (stL K [2]).cells) w1 rfl h)
    clear hK hu hc
    obtain ⟨gz, cz, h9, hbz⟩ := h9
    go_simp
    go_at_call 65
    refine (writeS (K := K) (hTt.out.step hb) [] [2] hbz rfl rfl).mono ?_
    rintro e w1 ⟨rfl, hb1⟩
    exact hk.out _ hb1
  · refine calmL_step rfl fun a ω κ hb hu hc hK => ?_
    have h1 : a.tmps[1]?.getD undef = .pointer (some ⟨w.heap.size, 0, none⟩) := (hu 1 rfl).trans e1
    have hk := Lib.hid (fun w1 (h : Below ω.heap.size ω w1) => hK (.slice (some ⟨w.heap.size, 0, none⟩) 32 32) w1 rfl h)
    clear hK hu hc
    go_simp
    exact hk.out _ (Below.refl _ _)
  · refine calmL_step rfl fun a ω κ hb hu hc hK => ?_
    have h10 : a.tmps[10]?.getD undef = .agg (stL K [2]).cells := hc 3 10 rfl rfl
    have h11 : a.tmps[11]?.getD undef = .slice (some ⟨w.heap.size, 0, none⟩) 32 32 := hc 4 11 rfl rfl
    have hk := Lib.hid (fun w1 (h : Below ω.heap.size ω w1) => hK (.agg (stL K (2 :: S)).cells) w1 rfl h)
    clear hK hu hc
    go_simp
    go_at_call 65
    refine (writeS (K := K) (hTt.out.step hb) [2] (2 :: S) (hX.out.step hb) hS rfl).mono ?_
    rintro e w1 ⟨rfl, hb1⟩
    exact hk.out _ hb1
  · refine calmL_step rfl fun a ω κ hb hu hc hK => ?_
    have h12 : a.tmps[12]?.getD undef = .agg (stL K (2 :: S)).cells := hc 5 12 rfl rfl
    have hk := Lib.hid (fun w1 (h : Below ω.heap.size ω w1) => hK (.agg (dgA (mskL K S))) w1 rfl h)
    clear hK hu hc
    go_simp
    go_at_call 66
    refine (stSumD (K := K) (hTt.out.step hb) (2 :: S)).mono ?_
    rintro e w1 ⟨rfl, hb1⟩
    exact hk.out _ hb1
  · refine calmL_step rfl fun a ω κ hb hu hc hK => ?_
    have h3 : a.tmps[3]?.getD undef = .pointer (some ⟨g3, 0, none⟩) := (hu 3 rfl).trans e3
    have hk := Lib.hid (fun w1 (h : Below ω.heap.size ω w1) => hK (.agg (arrK .u64 4 (wd sa))) w1 rfl h)
    clear hK hu hc
    have hr1 := (hA.out.step hb).row
    have hr2 := (hA.out.step hb).eq
    go_simp
    exact hk.out _ (Below.refl _ _)
  · refine calmL_step rfl fun a ω κ hb hu hc hK => ?_
    have h14 : a.tmps[14]?.getD undef = .agg (arrK .u64 4 (wd sa)) := hc 7 14 rfl rfl
    have hk := Lib.hid (fun w1 (h : Below ω.heap.size ω w1) => hK (.agg (dgA pb)) w1 rfl h)
    clear hK hu hc
    go_simp
    go_at_call 67
    refine (kB.out _).mono ?_
    rintro e w1 ⟨rfl, hb1⟩
    exact hk.out _ hb1
  · refine calmL_step rfl fun a ω κ hb hu hc hK => ?_
    have h7 : a.tmps[7]?.getD undef = .agg (arrK .u64 4 (wd sa)) := hc 0 7 rfl rfl
    have h13 : a.tmps[13]?.getD undef = .agg (dgA (mskL K S)) := hc 6 13 rfl rfl
    have h15 : a.tmps[15]?.getD undef = .agg (dgA pb) := hc 8 15 rfl rfl
    have hk := Lib.hid (fun w1 (h : Below ω.heap.size ω w1) => hK (.agg PA) w1 rfl h)
    clear hK hu hc
    exact wp_bldC rfl (v0 := .agg (arrK .u64 4 (wd sa))) (v1 := .agg (dgA (mskL K S))) (v2 := .agg (dgA pb)) (by go_simp) (by go_simp) (by go_simp) (hbp.out _) (hk.out _ (Below.refl _ _))
  · intro aa ω hb hu hsz hdf hc
    have h7 : aa.tmps[7]?.getD undef = .agg (arrK .u64 4 (wd sa)) := hc 0 7 (by decide) rfl
    have h8 : aa.tmps[8]?.getD undef = .agg (stL K []).cells := hc 1 8 (by decide) rfl
    have h10 : aa.tmps[10]?.getD undef = .agg (stL K [2]).cells := hc 3 10 (by decide) rfl
    have h11 : aa.tmps[11]?.getD undef = .slice (some ⟨w.heap.size, 0, none⟩) 32 32 := hc 4 11 (by decide) rfl
    have h12 : aa.tmps[12]?.getD undef = .agg (stL K (2 :: S)).cells := hc 5 12 (by decide) rfl
    have h13 : aa.tmps[13]?.getD undef = .agg (dgA (mskL K S)) := hc 6 13 (by decide) rfl
    have h14 : aa.tmps[14]?.getD undef = .agg (arrK .u64 4 (wd sa)) := hc 7 14 (by decide) rfl
    have h15 : aa.tmps[15]?.getD undef = .agg (dgA pb) := hc 8 15 (by decide) rfl
    have h16 : aa.tmps[16]?.getD undef = .agg PA := hc 9 16 (by decide) rfl
    have ha0 := hha0.out
    subst ha0
    have he := act_patchL (n := 17) 10 [false, false, false, false, false, false, false, true, true, true, true, true, true, true, true, true, true] rfl (by kernel_rfl) hu hsz hdf
    simp only [patch, cond_true, cond_false, Nat.reduceAdd] at he
    clear hu hsz hdf hc hha0 e1 e2 e3 hz0
    rw [he]
    clear he
    generalize aa.tmps[7]?.getD undef = x7 at *
    generalize aa.tmps[8]?.getD undef = x8 at *
    generalize aa.tmps[9]?.getD undef = x9 at *
    generalize aa.tmps[10]?.getD undef = x10 at *
    generalize aa.tmps[11]?.getD undef = x11 at *
    generalize aa.tmps[12]?.getD undef = x12 at *
    generalize aa.tmps[13]?.getD undef = x13 at *
    generalize aa.tmps[14]?.getD undef = x14 at *
    generalize aa.tmps[15]?.getD undef = x15 at *
    generalize aa.tmps[16]?.getD undef = x16 at *
    subst h7 h8 h10 h11 h12 h13 h14 h15 h16
    replace hR := Lib.hid (row_below hR.out hb hR.out.lt)
    replace hL := Lib.hid (below_step hb hL.out (Nat.le_refl _))
    clear hX hTt hA kB hbp hb
    dsimp only [List.drop]
    have hr3 := hR.out
    go_wp2_with fail
    refine ret_row (p := 2) (ty := 67) (g := w.heap.size + 1) rfl Tryd.underlying67 rfl (by kernel_rfl) rfl ((row_setRow_same rfl hR.out).2 hcp.1) rfl ?_
    rw [rowAt_setRow_same hR.out]
    exact ⟨rfl, below_setRow hL.out (by omega)⟩
end Go.Proofs.YtgdiokklfihfoaaDoor
namespace Go.Proofs.YtgdiokklfihfoaaDoor
open Go Go.RowKit

/-- b over f, from o on, n places. -/
def cpF (f : Nat → Nat) (o n : Nat) (b : Nat → Nat) : Nat → Nat := fun p => if o ≤ p ∧ p < o + n then b (p - o) else f p
theorem putAt_arrK {k : IntKind} {N n : Nat} {b : Nat → Nat} : ∀ (m : Nat) (o s : Nat) (f : Nat → Nat), putAt (arrK k N f) o ((List.range' s m).map fun j => Value.int k (b j : Nat)) = arrK k N fun p => if o ≤ p ∧ p < o + m then b (p - o + s) else f p
  | 0, o, s, f => by
    show arrK k N f = _
    refine arrK_congr fun p _ => ?_
    rw [if_neg (by omega)]
  | m + 1, o, s, f => by
    rw [List.range'_succ, List.map_cons, putAt, arrK_set, putAt_arrK (n := n) m (o + 1) (s + 1)]
    refine arrK_congr fun p _ => ?_
    unfold upd
    by_cases h : o + 1 ≤ p ∧ p < o + 1 + m
    · rw [if_pos h, if_pos (by omega), show p - (o + 1) + (s + 1) = p - o + s by omega]
    · rw [if_neg h]
      by_cases h2 : p = o
      · subst h2
        rw [if_pos rfl, if_pos (by omega)]
        congr 1; omega
      · rw [if_neg h2, if_neg (by omega)]
theorem putAt_cpF {N n o : Nat} {f b : Nat → Nat} {k : IntKind} : putAt (arrK k N f) o ((List.range' 0 n).map fun j => Value.int k (b j : Nat)) = arrK k N (cpF f o n b) := by
  rw [putAt_arrK (n := 0)]
  rfl
theorem rng_at {n : Nat} {k : IntKind} {b : Nat → Nat} {j : Nat} {v : Value} (h : ((List.range' 0 n).map fun j => Value.int k (b j : Nat))[j]? = some v) : j < n ∧ v = .int k (b j : Nat) := by
  by_cases hj : j < n
  · rw [List.getElem?_map, List.getElem?_range' hj] at h
    simp only [Option.map_some, Option.some.injEq] at h
    exact ⟨hj, by rw [← h]; simp⟩
  · rw [List.getElem?_eq_none (by simp; omega)] at h
    cases h
section
variable {P : Program} {w : World} {g N : Nat} {f b : Nat → Nat} {k : IntKind} {e : TypeId}
theorem At.setCells (T : At w g k N f) (o n : Nat) : w.setCells g o ((List.range' 0 n).map fun j => Value.int k (b j : Nat)) = w.setRow g (arrK k N (cpF f o n b)) := by
  rw [setCells_row _ _ T.row, T.eq, putAt_cpF]
theorem At.has (T : At w g k N f) {i : Nat} (hi : i < N) : (w.cell? ⟨g, i, none⟩).isSome = true := by rw [T.cell hi]; rfl
theorem At.cp (T : At w g k N f) (o n : Nat) (b : Nat → Nat) : At (w.setRow g (arrK k N (cpF f o n b))) g k N (cpF f o n b) := At.put T.row
theorem run_copy_buf {dT sT ty : TypeId} (hu : P.underlying dT = some (.slice e)) (hs : (P.info? e).map (·.size) = some 1) (T : At w g k N f) {o n dl dc sl sc : Nat} {ad : Addr}
    (hb : ∀ j < n, w.cell? (ad.add j) = some (.int k (b j : Nat))) (hn : n = Nat.min sl dl) (ho : o + n ≤ N) :
    (Builtin.copy_ #[dT, sT] ty #[.slice (some ⟨g, o, none⟩) dl dc, .slice (some ad) sl sc]).run P w = .ok (.int .i64 (n : Nat)) (w.setRow g (arrK k N (cpF f o n b))) := by
  have h := run_copy_cells (P := P) w dT sT ty e g o dl dc ad sl sc ((List.range' 0 n).map fun j => Value.int k (b j : Nat)) hu hs (by simpa using hn)
    (fun j v hj => by obtain ⟨h1, h2⟩ := rng_at hj; rw [h2]; exact hb j h1) (fun j hj => T.has (by simp at hj; omega)) (fun j hj => T.row.frozen _)
    (fun v hv => by obtain ⟨j, -, rfl⟩ := List.mem_map.1 hv; rfl)
  rw [h, T.setCells]
  simp [goInt]
theorem run_app_buf {t ty : TypeId} {bytes : Nat} (S : SlT P t e 1 bytes) (T : At w g k N f) {n m c : Nat} {ad : Addr} (hb : ∀ j < m, w.cell? (ad.add j) = some (.int k (b j : Nat))) (hroom : n + m ≤ N) :
    (Builtin.append_ #[t, t] ty #[.slice (some ⟨g, 0, none⟩) n N, .slice (some ad) m c]).run P w = .ok (.slice (some ⟨g, 0, none⟩) (n + m) N) (w.setRow g (arrK k N (cpF f n m b))) := by
  obtain ⟨i, z, hi, -, hs, -⟩ := S.info
  have h := run_append_room_cells (P := P) w t ty e i S.under hi g 0 n N ad m c ((List.range' 0 m).map fun j => Value.int k (b j : Nat)) (by simp [hs])
    (fun j v hj => by obtain ⟨h1, h2⟩ := rng_at hj; rw [h2]; exact hb j h1) (fun v hv => by obtain ⟨j, -, rfl⟩ := List.mem_map.1 hv; rfl) hroom
    (fun j hj => by simp only [hs, Nat.zero_add, Nat.mul_one]; exact T.has (by simp at hj; omega)) (fun j hj => by simp only [hs, Nat.zero_add, Nat.mul_one]; exact T.row.frozen _)
  rw [h]
  simp only [hs, Nat.zero_add, Nat.mul_one]
  rw [T.setCells]
theorem run_app_none {t ty : TypeId} {bytes : Nat} (S : SlT P t e 1 bytes) {n c : Nat} (hA : n ≤ N) :
    (Builtin.append_ #[t, t] ty #[.slice (some ⟨g, 0, none⟩) n N, .slice none 0 c]).run P w = .ok (.slice (some ⟨g, 0, none⟩) n N) w := by
  obtain ⟨i, z, hi, -⟩ := S.info
  simp [Builtin.append_, run_underlying S.under, sizeOf, typeInfo, hi, Builtin.lenOf, Builtin.firstCells, hA, storeCells]
theorem wpList_appR {ops : Array Oper} {rest : List Oper} {o : Oper} {a : Act} {Q : Exit → Act → World → Prop} (hgd : o.guard = none) (s x : Operand) (t u : TypeId)
    (ho : o.op = .call { callee := .builtin .append, args := #[s, x], argTypes := #[t, u] }) {v1 v2 v : Value} {w' : World} (h1 : a.eval s = v1) (h2 : a.eval x = v2) (hrun : (Builtin.append_ #[t, u] o.type #[v1, v2]).run P w = .ok v w')
    (h : wpList P ops Q rest (a.put o.dst v) w') : wpList P ops Q (o :: rest) a w :=
  wpList_plain hgd fun _ hK => by
    unfold Oper.wp execOp
    simp only [ho, resolve, invoke, builtin, Sem.run_bind, Sem.run_pure, Result.andThen_ok, List.map_toArray, List.map_cons, List.map_nil, h1, h2, hrun]
    exact hK _ _ h
theorem wpList_copyR {ops : Array Oper} {rest : List Oper} {o : Oper} {a : Act} {Q : Exit → Act → World → Prop} (hgd : o.guard = none) (s x : Operand) (t u : TypeId)
    (ho : o.op = .call { callee := .builtin .copy, args := #[s, x], argTypes := #[t, u] }) {v1 v2 v : Value} {w' : World} (h1 : a.eval s = v1) (h2 : a.eval x = v2) (hrun : (Builtin.copy_ #[t, u] o.type #[v1, v2]).run P w = .ok v w')
    (h : wpList P ops Q rest (a.put o.dst v) w') : wpList P ops Q (o :: rest) a w :=
  wpList_plain hgd fun _ hK => by
    unfold Oper.wp execOp
    simp only [ho, resolve, invoke, builtin, Sem.run_bind, Sem.run_pure, Result.andThen_ok, List.map_toArray, List.map_cons, List.map_nil, h1, h2, hrun]
    exact hK _ _ h
end
/-- A slice of M bytes, those of f. -/
def BytesOk (f : Nat → Nat) (M : Nat) (w : World) (e : Ending) (w' : World) : Prop := ∃ g, e = .returned (.slice (some ⟨g, 0, none⟩) M M) ∧ At w' g .u8 M f ∧ Below w.heap.size w w'
def bLs (f : Nat → Nat) (n : Nat) : List UInt8 := (List.range n).map fun i => UInt8.ofNat (f i)
theorem bLs_len (f : Nat → Nat) (n : Nat) : (bLs f n).length = n := by simp [bLs]
theorem bLs_congr {f g : Nat → Nat} {n : Nat} (h : ∀ i < n, f i = g i) : bLs f n = bLs g n := by
  unfold bLs
  refine List.map_congr_left fun i hi => ?_
  rw [h i (by simpa using hi)]
theorem bLs_succ (f : Nat → Nat) (n : Nat) : bLs f (n + 1) = bLs f n ++ [UInt8.ofNat (f n)] := by simp [bLs, List.range_succ]
theorem bLs_add (f : Nat → Nat) (n m : Nat) : bLs f (n + m) = bLs f n ++ bLs (fun i => f (n + i)) m := by
  induction m with
  | zero => simp [bLs]
  | succ m ih => rw [← Nat.add_assoc, bLs_succ, ih, bLs_succ, List.append_assoc]
theorem bytesV_bLs {f : Nat → Nat} {n : Nat} (hf : ∀ i < n, f i < 256) : bytesV (bLs f n) = (arrK .u8 n f).toList := by
  refine List.ext_getElem? fun p => ?_
  by_cases hp : p < n
  · rw [Array.getElem?_toList (xs := arrK .u8 n f), arrK_at hp]
    have := hf p hp
    simp [bytesV, bLs, u8v, hp]
    omega
  · rw [Array.getElem?_toList (xs := arrK .u8 n f), Array.getElem?_eq_none (by rw [arrK_size]; omega), List.getElem?_eq_none (by rw [bytesV_length, bLs_len]; omega)]
theorem At.rdB {w : World} {g N n : Nat} {f : Nat → Nat} (T : At w g .u8 N f) (hn : n ≤ N) (hf : ∀ i < n, f i < 256) : Rd w (g + 1) (some ⟨g, 0, none⟩) (bytesV (bLs f n)) := fun j u hu => by
  rw [bytesV_bLs hf, Array.getElem?_toList] at hu
  have hj : j < n := by have := (Array.getElem?_eq_some_iff.1 hu).1; simpa [arrK_size] using this
  rw [arrK_at hj] at hu
  refine ⟨_, rfl, by simp, ?_⟩
  rw [show (Addr.mk g 0 none).add j = ⟨g, j, none⟩ by unfold Addr.add; split <;> simp_all, T.cell (by omega), ← hu]
theorem run_make_buf {P : Program} {t e : TypeId} (ht : P.underlying t = some (.slice e)) (hinfo : (P.info? e).map (fun i => (i.zero, i.size, i.bytes)) = some (some (.int .u8 0), 1, 1)) (kl kc : IntKind) {n M : Nat} (hn : n ≤ M) (hM : M ≤ 281474976710656) (w : World) :
    (Instr.makeSlice t (.int kl (n : Int)) (.int kc (M : Int))).run P w = .ok (.slice (some ⟨w.heap.size, 0, none⟩) n M) (w.alloc (.cells (arrK .u8 M fun _ => 0) e)) := by
  obtain ⟨i, hi, hzz⟩ := Option.map_eq_some_iff.1 hinfo
  simp only [Prod.mk.injEq] at hzz
  obtain ⟨hz, hs, hb⟩ := hzz
  have hr := run_make (P := P) w t e i (.int .u8 0) ht hi hz kl kc n M (by omega) (by omega) (by rw [hb]; omega) (by omega)
  simp only [Int.toNat_natCast, hs, Nat.mul_one] at hr
  rw [hr, ← made_arrK]
  rfl
theorem run_app_bytes {P : Program} {w : World} {g N : Nat} {f : Nat → Nat} {t ty e : TypeId} {bytes : Nat} (S : SlT P t e 1 bytes) (T : At w g .u8 N f) {B n c : Nat} {A : Option Addr} {l : List UInt8} (hA : Rd w B A (bytesV l)) (hroom : n + l.length ≤ N) :
    (Builtin.append_ #[t, t] ty #[.slice (some ⟨g, 0, none⟩) n N, .slice A l.length c]).run P w = .ok (.slice (some ⟨g, 0, none⟩) (n + l.length) N) (w.setRow g (arrK .u8 N (cpF f n l.length fun p => (l[p]?.getD 0).toNat))) := by
  cases A with
  | none =>
    have hl : l = [] := by
      cases l with
      | nil => rfl
      | cons x r => obtain ⟨ad, h, -⟩ := hA 0 (u8v x) rfl; cases h
    subst hl
    obtain ⟨cs, t', hg, -⟩ := T.row
    have e : cs = arrK .u8 N f := by rw [← T.eq]; simp [rowAt, hg]
    rw [show cpF f n ([] : List UInt8).length (fun p => (([] : List UInt8)[p]?.getD 0).toNat) = f by funext p; unfold cpF; rw [if_neg (by intro h; simp at h; omega)], ← e, setRow_self w g cs t' (0, 0) hg]
    exact run_app_none S (by simpa using hroom)
  | some ad =>
    refine run_app_buf S T (fun j hj => ?_) hroom
    exact hA.all (by simp [bytesV, u8v, hj])
theorem run_copy_bytes {P : Program} {w : World} {g N : Nat} {f : Nat → Nat} {e dT sT ty : TypeId} (hu : P.underlying dT = some (.slice e)) (hs : (P.info? e).map (·.size) = some 1) (T : At w g .u8 N f) {B n o dl dc sc : Nat} {A : Option Addr} {l : List UInt8} (hA : Rd w B A (bytesV l))
    (hn : n = Nat.min l.length dl) (hn0 : 0 < n) (ho : o + n ≤ N) :
    (Builtin.copy_ #[dT, sT] ty #[.slice (some ⟨g, o, none⟩) dl dc, .slice A l.length sc]).run P w = .ok (.int .i64 (n : Nat)) (w.setRow g (arrK .u8 N (cpF f o n fun p => (l[p]?.getD 0).toNat))) := by
  have hnl : n ≤ l.length := by rw [hn]; exact Nat.min_le_left _ _
  obtain ⟨ad, rfl, -, -⟩ := hA.at_ (k := 0) (by rw [bytesV_length]; omega)
  refine run_copy_buf hu hs T (fun j hj => ?_) hn ho
  exact hA.all (by rw [bytesV, List.getElem?_map, List.getElem?_eq_getElem (by omega)]; simp [u8v])
theorem bLs_byteAt (l : List UInt8) : bLs (fun p => (l[p]?.getD 0).toNat) l.length = l := by
  apply List.ext_getElem
  · exact bLs_len _ _
  · intro i h1 h2
    simp [bLs, h2]
theorem add0 (g j : Nat) (o : Nat) : (Addr.mk g o none).add j = ⟨g, o + j, none⟩ := by unfold Addr.add; split <;> simp_all
end Go.Proofs.YtgdiokklfihfoaaDoor
namespace Go.Proofs.YtgdiokklfihfoaaDoor
open Go.ChangeShapes Go.WideShapes Go.ChangeAt Go.RowKit
set_option maxHeartbeats 2000000
set_option maxRecDepth 100000
theorem dgA_some (l : List UInt8) : ∀ i < 32, ((dgA l)[i]?).isSome = true := arrK_some
theorem zero_pair : Tryd.zeroCells67 = prA 0 [] [] := by kernel_rfl
attribute [local irreducible] arrV dgA sha prA
attribute [local go_sem ↓] load_fld load_f32 load_num store_num execl_num execs_num load_o32 store_o32 execl_o32 execs_o32 load_pa store_pa execl_pa execs_pa load_sg store_sg execl_sg execs_sg
attribute [local go_sem] isHead_mk isPart_mk offOf_mk blkOf_mk isAgg_mk cellsV_mk row_drew rowAt_drew row_new_cells row_old rowAt_new rowAt_old setRow_new zeroNum zeroD
theorem zero64 : #[Value.int IntKind.u8 0, Value.int IntKind.u8 0, Value.int IntKind.u8 0, Value.int IntKind.u8 0, Value.int IntKind.u8 0, Value.int IntKind.u8 0, Value.int IntKind.u8 0, Value.int IntKind.u8 0, Value.int IntKind.u8 0, Value.int IntKind.u8 0, Value.int IntKind.u8 0, Value.int IntKind.u8 0, Value.int IntKind.u8 0, Value.int IntKind.u8 0, Value.int IntKind.u8 0, Value.int IntKind.u8 0, Value.int IntKind.u8 0, Value.int IntKind.u8 0, Value.int IntKind.u8 0, Value.int IntKind.u8 0, Value.int IntKind.u8 0, Value.int IntKind.u8 0, Value.int IntKind.u8 0, Value.int IntKind.u8 0, Value.int IntKind.u8 0, Value.int IntKind.u8 0, Value.int IntKind.u8 0, Value.int IntKind.u8 0, Value.int IntKind.u8 0, Value.int IntKind.u8 0, Value.int IntKind.u8 0, Value.int IntKind.u8 0, Value.int IntKind.u8 0, Value.int IntKind.u8 0, Value.int IntKind.u8 0, Value.int IntKind.u8 0, Value.int IntKind.u8 0, Value.int IntKind.u8 0, Value.int IntKind.u8 0, Value.int IntKind.u8 0, Value.int IntKind.u8 0, Value.int IntKind.u8 0, Value.int IntKind.u8 0, Value.int IntKind.u8 0, Value.int IntKind.u8 0, Value.int IntKind.u8 0, Value.int IntKind.u8 0, Value.int IntKind.u8 0, Value.int IntKind.u8 0, Value.int IntKind.u8 0, Value.int IntKind.u8 0, Value.int IntKind.u8 0, Value.int IntKind.u8 0, Value.int IntKind.u8 0, Value.int IntKind.u8 0, Value.int IntKind.u8 0, Value.int IntKind.u8 0, Value.int IntKind.u8 0, Value.int IntKind.u8 0, Value.int IntKind.u8 0, Value.int IntKind.u8 0, Value.int IntKind.u8 0, Value.int IntKind.u8 0, Value.int IntKind.u8 0] = arrK .u8 64 fun _ => 0 := by kernel_rfl
attribute [local go_sem] zero64 zero_pair
/-- A block's cells. -/
structure Rw (w : World) (g N : Nat) (c : Array Value) : Prop where
  row : Row w g N
  eq : rowAt w g = c
theorem Rw.step {w w' : World} {g N : Nat} {c : Array Value} (h : Rw w g N c) (hb : Below w.heap.size w w') : Rw w' g N c := ⟨row_below h.row hb h.row.lt, (rowAt_below hb h.row.lt).trans h.eq⟩
theorem Rw.new {w : World} {N : Nat} {c : Array Value} (t : TypeId) (h : c.size = N) : Rw (w.alloc (Obj.cells c t)) w.heap.size N c := ⟨(row_new rfl).2 h, rowAt_new rfl⟩
theorem Rw.bytes {w : World} {g : Nat} {l : List UInt8} (h : Rw w g 32 (dgA l)) : At w g .u8 32 (bytesF l) := ⟨h.row, h.eq.trans (by unfold dgA; rfl)⟩
/-- A signature's numbers: the drawn one, the challenge, what goes behind. -/
def sgR (K : Nat → W32) (S p : List UInt8) : Nat := atL (ofL (dgT K 3 (mskL K S ++ p)))
def sgC (K : Nat → W32) (S p : List UInt8) : Nat := ofL (dgT K 4 (bsL (sgR K S p) ++ pubL K S ++ p))
def sgB (K : Nat → W32) (S p : List UInt8) : Nat := (sgR K S p + sgC K S p * secN K S % fL) % fL
def sgF (K : Nat → W32) (S p : List UInt8) : Nat → Nat := fun i => if i < 32 then bytesF (bsL (sgR K S p)) i else byt (sgB K S p) (i - 32)
theorem sgR_lt (K : Nat → W32) (S p : List UInt8) : sgR K S p < 2 ^ 256 := atL_lt (ofL_lt _)
theorem sign_Sign (K : Nat → W32) (S p : List UInt8) (A : Option Addr) (n c : Nat) (w : World) (hT : Tabs K w) (hS : S.length = 32) (hn : p.length = n) (hp : Bs w A p c) (hb : 64 + n ≤ 140737488355328) : Calls Tryd.prog 28 #[.agg (dgA S), .slice A n c] w fun e w' => e = .returned (.agg (arrK .u8 64 (sgF K S p))) ∧ Below w.heap.size w w' := by
  have kN := Lib.hid (fun V (h : Tabs K V) => sign_New K S V h hS)
  have hml : (mskL K S).length = 32 := sha_len _ _
  have hpl : (pubL K S).length = 32 := bsL_len _
  have hfl : (bsL (sgR K S p)).length = 32 := bsL_len _
  have kD := Lib.hid (fun V A2 c2 (h1 : Tabs K V) (h2 : Bs V A2 (mskL K S ++ p) c2) => scalar_Digest K A2 (mskL K S ++ p) (mskL K S ++ p).length c2 3 V rfl h1 h2)
  have kA := Lib.hid (fun V => sign_atLeast (ofL (dgT K 3 (mskL K S ++ p))) V (ofL_lt _))
  have kB := Lib.hid (fun V => sign_baseL (sgR K S p) V (sgR_lt K S p))
  have kC := Lib.hid (fun V A2 c2 (h1 : Tabs K V) (h2 : Bs V A2 p c2) => sign_challenge K (bsL (sgR K S p)) (pubL K S) p A2 n c2 V h1 hfl hpl hn h2 hb)
  have kM := Lib.hid (fun V => scalar_Mul (sgC K S p) (secN K S) V (ofL_lt _) (secN_lt K S))
  have kP := Lib.hid (fun V => scalar_Add (sgR K S p) (sgC K S p * secN K S % fL) V (sgR_lt K S p) mod_L)
  have kY := Lib.hid (fun V => limb_Bytes (sgB K S p) V)
  rw [show atL (ofL (dgT K 3 (mskL K S ++ p))) = sgR K S p from rfl] at kA
  rw [show ofL (dgT K 4 (bsL (sgR K S p) ++ pubL K S ++ p)) = sgC K S p from rfl] at kC
  rw [show (sgR K S p + sgC K S p * secN K S % fL) % fL = sgB K S p from rfl] at kP
  have hpa := Lib.hid (show pairA K S = prA (secN K S) (mskL K S) (pubL K S) from rfl)
  have hsg := Lib.hid (show sgF K S p = fun i => if i < 32 then bytesF (bsL (sgR K S p)) i else byt (sgB K S p) (i - 32) from rfl)
  obtain ⟨SF, hSF⟩ : ∃ f, sgF K S p = f := ⟨_, rfl⟩
  rw [hSF] at hsg ⊢
  obtain ⟨PA, hPA⟩ : ∃ x, pairA K S = x := ⟨_, rfl⟩
  rw [hPA] at hpa kN
  clear hSF hPA
  generalize sgC K S p * secN K S % fL = mN at *
  generalize sgC K S p = cN at *
  generalize ofL (dgT K 3 (mskL K S ++ p)) = dN' at *
  generalize bsL (sgR K S p) = fr at *
  generalize sgR K S p = rN at *
  generalize sgB K S p = sN at *
  generalize secN K S = kN' at *
  generalize pubL K S = pb at *
  generalize mskL K S = ms at *
  unfold numV at kD kA kB kC kM kP kY
  have hcp : Cells PA 68 := by rw [hpa.out]; exact prA_cells _ _ _
  have hc0 := arrK_cells .u64 4 (wd 0)
  have hcz := dgA_cells []
  have hcq := prA_cells 0 [] []
  have hcw := arrK_cells .u8 64 fun _ => 0
  have hcr := arrK_cells .u64 4 (wd rN)
  have hcS := dgA_cells S
  have hcf := dgA_cells fr
  have hcs := arrK_cells .u8 32 (byt sN)
  have hcg := arrK_cells .u8 64 SF
  go_enter Tryd.func28, Tryd.ntmps28
  go_upto_region 1 with (fail)
  have hL0 : Below w.heap.size w ((w.alloc (Obj.cells (dgA S) 57)).alloc (Obj.cells (arrK .u8 64 fun _ => 0) 69)) := by go_grown
  have hX := Lib.hid ((Rw.new (w := w) 57 hcS.1).step (below_alloc _ (Obj.cells (arrK .u8 64 fun _ => 0) 69)))
  have hR := Lib.hid (show Row ((w.alloc (Obj.cells (dgA S) 57)).alloc (Obj.cells (arrK .u8 64 fun _ => 0) 69)) (w.heap.size + 1) 64 from (row_new (by simp)).2 (arrK_size _ _ _))
  have hTt := Lib.hid (hT.step hL0)
  have hP := Lib.hid (hp.step hL0)
  have hL := Lib.hid hL0
  clear hL0 hT hp
  generalize (w.alloc _).alloc _ = W0 at *
  have hr1 := hX.out.row
  have hr2 := hX.out.eq
  go_wp2_with fail
  refine (kN.out _ hTt.out).mono ?_
  rintro e w1 ⟨rfl, hb1⟩
  replace hR := Lib.hid (row_below hR.out hb1 hR.out.lt)
  replace hTt := Lib.hid (hTt.out.step hb1)
  replace hP := Lib.hid (hP.out.step hb1)
  replace hL := Lib.hid (below_step hb1 hL.out (Nat.le_refl _))
  clear hr1 hr2 hb1 kN hX
  dsimp only
  go_upto_region 2 with (fail)
  have hb1 := below_alloc w1 (Obj.cells PA 67)
  have hPr := Lib.hid (Rw.new (w := w1) 67 hcp.1)
  replace hR := Lib.hid (row_below hR.out hb1 hR.out.lt)
  replace hTt := Lib.hid (hTt.out.step hb1)
  replace hP := Lib.hid (hP.out.step hb1)
  replace hL := Lib.hid (below_step hb1 hL.out (Nat.le_refl _))
  clear hb1
  generalize w1.alloc _ = W1 at *
  generalize w1.heap.size = g5 at *
  have hms := Lib.hid (part_bs (o := 4) hml hPr.out.row hPr.out.eq (by rw [hpa.out]; exact prA_4))
  go_wp2_with (at_builtin; refine wpList_opW (by go_simp) (fun K9 hK => wp_appF (.tmp 13) (.tmp 14) rfl (by go_simp) (by go_simp) hms.out hP.out hml hn (by omega) (fun v2 w2 hv2 hb2 => hK _ _ ?_)))
  obtain ⟨A2, c2, rfl, hB2⟩ := hv2
  replace hR := Lib.hid (row_below hR.out hb2 hR.out.lt)
  replace hTt := Lib.hid (hTt.out.step hb2)
  replace hP := Lib.hid (hP.out.step hb2)
  replace hL := Lib.hid (below_step hb2 hL.out (Nat.le_refl _))
  replace hPr := Lib.hid (hPr.out.step hb2)
  have kD2 := Lib.hid (kD.out w2 A2 c2 hTt.out hB2)
  clear hb2 hB2 kD hms
  go_wp2_with fail
  refine (show Calls _ _ #[Value.int IntKind.u8 3, _] w2 _ from kD2.out).mono ?_
  rintro e w3 ⟨rfl, hb2⟩
  replace hR := Lib.hid (row_below hR.out hb2 hR.out.lt)
  replace hTt := Lib.hid (hTt.out.step hb2)
  replace hP := Lib.hid (hP.out.step hb2)
  replace hL := Lib.hid (below_step hb2 hL.out (Nat.le_refl _))
  replace hPr := Lib.hid (hPr.out.step hb2)
  clear hb2 kD2
  dsimp only
  go_wp2_with fail
  refine (kA.out _).mono ?_
  rintro e w4 ⟨rfl, hb2⟩
  replace hR := Lib.hid (row_below hR.out hb2 hR.out.lt)
  replace hTt := Lib.hid (hTt.out.step hb2)
  replace hP := Lib.hid (hP.out.step hb2)
  replace hL := Lib.hid (below_step hb2 hL.out (Nat.le_refl _))
  replace hPr := Lib.hid (hPr.out.step hb2)
  clear hb2 kA
  dsimp only
  go_upto_region 3 with (fail)
  have hb2 := below_alloc w4 (Obj.cells (arrK .u64 4 (wd rN)) 41)
  have hF6 := Lib.hid (Rw.new (w := w4) 41 hcr.1)
  replace hR := Lib.hid (row_below hR.out hb2 hR.out.lt)
  replace hTt := Lib.hid (hTt.out.step hb2)
  replace hP := Lib.hid (hP.out.step hb2)
  replace hL := Lib.hid (below_step hb2 hL.out (Nat.le_refl _))
  replace hPr := Lib.hid (hPr.out.step hb2)
  clear hb2
  generalize w4.alloc _ = W4 at *
  generalize w4.heap.size = g6 at *
  have hr1 := hF6.out.row
  have hr2 := hF6.out.eq
  go_wp2_with fail
  refine (kB.out _).mono ?_
  rintro e w5 ⟨rfl, hb2⟩
  replace hR := Lib.hid (row_below hR.out hb2 hR.out.lt)
  replace hTt := Lib.hid (hTt.out.step hb2)
  replace hP := Lib.hid (hP.out.step hb2)
  replace hL := Lib.hid (below_step hb2 hL.out (Nat.le_refl _))
  replace hPr := Lib.hid (hPr.out.step hb2)
  replace hF6 := Lib.hid (hF6.out.step hb2)
  clear hb2 kB hr1 hr2
  dsimp only
  go_upto_region 4 with (fail)
  have hb2 := below_alloc w5 (Obj.cells (dgA fr) 57)
  have hF7 := Lib.hid (Rw.new (w := w5) 57 hcf.1)
  replace hR := Lib.hid (row_below hR.out hb2 hR.out.lt)
  replace hTt := Lib.hid (hTt.out.step hb2)
  replace hP := Lib.hid (hP.out.step hb2)
  replace hL := Lib.hid (below_step hb2 hL.out (Nat.le_refl _))
  replace hPr := Lib.hid (hPr.out.step hb2)
  replace hF6 := Lib.hid (hF6.out.step hb2)
  clear hb2
  generalize w5.alloc _ = W5 at *
  generalize w5.heap.size = g7 at *
  generalize ha0 : Act.mk _ _ = a0
  have e1 : a0.tmps[1]?.getD undef = .slice A n c := by rw [← ha0]; rfl
  have e5 : a0.tmps[5]?.getD undef = .pointer (some ⟨g5, 0, none⟩) := by rw [← ha0]; rfl
  have e6 : a0.tmps[6]?.getD undef = .pointer (some ⟨g6, 0, none⟩) := by rw [← ha0]; rfl
  have e7 : a0.tmps[7]?.getD undef = .pointer (some ⟨g7, 0, none⟩) := by rw [← ha0]; rfl
  have hz0 : a0.tmps.size = 38 := by rw [← ha0]; rfl
  have hha0 := Lib.hid ha0
  clear ha0
  refine wp_region_fresh ⟨fun jx_ => match jx_ with | 0 => some (.agg (arrK .u64 4 (wd rN))) | 1 => some (.agg (dgA fr)) | 2 => some (.pointer (some ⟨g5, 36, none⟩)) | 3 => some (.agg (dgA pb)) | 4 => some (.slice A n c) | 5 => some (.agg (arrK .u64 4 (wd cN))) | 6 => some (.pointer (some ⟨g5, 0, none⟩)) | 7 => some (.agg (arrK .u64 4 (wd kN'))) | 8 => some (.agg (arrK .u64 4 (wd mN))) | 9 => some (.agg (arrK .u64 4 (wd sN))) | 10 => some (.agg (arrK .u8 32 (byt sN))) | _ => none, fun jx_ => match jx_ with | 11 => some 32 | _ => none, fun jx_ => match jx_ with | 12 => some 11 | _ => none, fun jx_ => match jx_ with | 12 => arrK .u8 32 (byt sN) | _ => #[]⟩ (by kernel_rfl) (by kernel_rfl) (by kernel_rfl) (slotsOk_of hz0 (by kernel_rfl)) rfl ⟨?_, ?_, ?_, ?_, ?_, ?_, ?_, ?_, ?_, ?_, ?_, ?_, ?_, trivial⟩ ?_
  · refine fstep_val rfl rfl (calm_step rfl fun aa ω κ hb hu hc hK => ?_)
    have h6 : aa.tmps[6]?.getD undef = .pointer (some ⟨g6, 0, none⟩) := (hu 6 rfl).trans e6
    have hk := Lib.hid (fun w1 (h : Below ω.heap.size ω w1) => hK (.agg (arrK .u64 4 (wd rN))) w1 rfl h)
    clear hK hu hc
    have hr1 := (hF6.out.step hb).row
    have hr2 := (hF6.out.step hb).eq
    go_simp
    exact hk.out _ (Below.refl _ _)
  · refine fstep_val rfl rfl (calm_step rfl fun aa ω κ hb hu hc hK => ?_)
    have h7 : aa.tmps[7]?.getD undef = .pointer (some ⟨g7, 0, none⟩) := (hu 7 rfl).trans e7
    have hk := Lib.hid (fun w1 (h : Below ω.heap.size ω w1) => hK (.agg (dgA fr)) w1 rfl h)
    clear hK hu hc
    have hr1 := (hF7.out.step hb).row
    have hr2 := (hF7.out.step hb).eq
    go_simp
    exact hk.out _ (Below.refl _ _)
  · refine fstep_val rfl rfl (calm_step rfl fun aa ω κ hb hu hc hK => ?_)
    have h5 : aa.tmps[5]?.getD undef = .pointer (some ⟨g5, 0, none⟩) := (hu 5 rfl).trans e5
    have hk := Lib.hid (fun w1 (h : Below ω.heap.size ω w1) => hK (.pointer (some ⟨g5, 36, none⟩)) w1 rfl h)
    clear hK hu hc
    go_simp
    exact hk.out _ (Below.refl _ _)
  · refine fstep_val rfl rfl (calm_step rfl fun aa ω κ hb hu hc hK => ?_)
    have h22 : aa.tmps[22]?.getD undef = .pointer (some ⟨g5, 36, none⟩) := hc 2 22 rfl rfl
    have hk := Lib.hid (fun w1 (h : Below ω.heap.size ω w1) => hK (.agg (dgA pb)) w1 rfl h)
    clear hK hu hc
    have hl := part_ld (o := 36) (n := 32) (hPr.out.step hb).row (hPr.out.step hb).eq (by rw [hpa.out]; exact prA_36) (dgA_cells _).1 (dgA_some _)
    have hl1 := hl.1
    have hl2 := hl.2
    clear hl
    go_simp
    exact hk.out _ (Below.refl _ _)
  · refine fstep_val rfl rfl (calm_step rfl fun aa ω κ hb hu hc hK => ?_)
    have h1 : aa.tmps[1]?.getD undef = .slice A n c := (hu 1 rfl).trans e1
    have hk := Lib.hid (fun w1 (h : Below ω.heap.size ω w1) => hK (.slice A n c) w1 rfl h)
    clear hK hu hc
    go_simp
    exact hk.out _ (Below.refl _ _)
  · refine fstep_val rfl rfl (calm_step rfl fun aa ω κ hb hu hc hK => ?_)
    have h21 : aa.tmps[21]?.getD undef = .agg (dgA fr) := hc 1 21 rfl rfl
    have h23 : aa.tmps[23]?.getD undef = .agg (dgA pb) := hc 3 23 rfl rfl
    have h24 : aa.tmps[24]?.getD undef = .slice A n c := hc 4 24 rfl rfl
    have hk := Lib.hid (fun w1 (h : Below ω.heap.size ω w1) => hK (.agg (arrK .u64 4 (wd cN))) w1 rfl h)
    clear hK hu hc
    go_simp
    go_at_call 75
    refine (kC.out _ _ _ (hTt.out.step hb) (hP.out.step hb)).mono ?_
    rintro e w1 ⟨rfl, hb1⟩
    exact hk.out _ hb1
  · refine fstep_val rfl rfl (calm_step rfl fun aa ω κ hb hu hc hK => ?_)
    have h5 : aa.tmps[5]?.getD undef = .pointer (some ⟨g5, 0, none⟩) := (hu 5 rfl).trans e5
    have hk := Lib.hid (fun w1 (h : Below ω.heap.size ω w1) => hK (.pointer (some ⟨g5, 0, none⟩)) w1 rfl h)
    clear hK hu hc
    go_simp
    exact hk.out _ (Below.refl _ _)
  · refine fstep_val rfl rfl (calm_step rfl fun aa ω κ hb hu hc hK => ?_)
    have h26 : aa.tmps[26]?.getD undef = .pointer (some ⟨g5, 0, none⟩) := hc 6 26 rfl rfl
    have hk := Lib.hid (fun w1 (h : Below ω.heap.size ω w1) => hK (.agg (arrK .u64 4 (wd kN'))) w1 rfl h)
    clear hK hu hc
    have hl := part_ld (o := 0) (n := 4) (hPr.out.step hb).row (hPr.out.step hb).eq (by rw [hpa.out]; exact prA_0) (arrK_size _ _ _) arrK_some
    have hl1 := hl.1
    have hl2 := hl.2
    clear hl
    go_simp
    exact hk.out _ (Below.refl _ _)
  · refine fstep_val rfl rfl (calm_step rfl fun aa ω κ hb hu hc hK => ?_)
    have h25 : aa.tmps[25]?.getD undef = .agg (arrK .u64 4 (wd cN)) := hc 5 25 rfl rfl
    have h27 : aa.tmps[27]?.getD undef = .agg (arrK .u64 4 (wd kN')) := hc 7 27 rfl rfl
    have hk := Lib.hid (fun w1 (h : Below ω.heap.size ω w1) => hK (.agg (arrK .u64 4 (wd mN))) w1 rfl h)
    clear hK hu hc
    go_simp
    go_at_call 59
    refine (kM.out _).mono ?_
    rintro e w1 ⟨rfl, hb1⟩
    exact hk.out _ hb1
  · refine fstep_val rfl rfl (calm_step rfl fun aa ω κ hb hu hc hK => ?_)
    have h20 : aa.tmps[20]?.getD undef = .agg (arrK .u64 4 (wd rN)) := hc 0 20 rfl rfl
    have h28 : aa.tmps[28]?.getD undef = .agg (arrK .u64 4 (wd mN)) := hc 8 28 rfl rfl
    have hk := Lib.hid (fun w1 (h : Below ω.heap.size ω w1) => hK (.agg (arrK .u64 4 (wd sN))) w1 rfl h)
    clear hK hu hc
    go_simp
    go_at_call 58
    refine (kP.out _).mono ?_
    rintro e w1 ⟨rfl, hb1⟩
    exact hk.out _ hb1
  · refine fstep_val rfl rfl (calm_step rfl fun aa ω κ hb hu hc hK => ?_)
    have h29 : aa.tmps[29]?.getD undef = .agg (arrK .u64 4 (wd sN)) := hc 9 29 rfl rfl
    have hk := Lib.hid (fun w1 (h : Below ω.heap.size ω w1) => hK (.agg (arrK .u8 32 (byt sN))) w1 rfl h)
    clear hK hu hc
    go_simp
    go_at_call 74
    refine (kY.out _).mono ?_
    rintro e w1 ⟨rfl, hb1⟩
    exact hk.out _ hb1
  · refine fstep_al (n := 32) rfl rfl fun aa ω κ hK => ?_
    have hk := Lib.hid hK
    clear hK
    go_simp
    exact hk.out _ _ hcz
  · refine fstep_st (j := 11) (n := 32) (d := 8) rfl rfl rfl rfl rfl hcs.1 rfl rfl fun aa ω κ g hb hu hc hp hr hK => ?_
    have h30 : aa.tmps[30]?.getD undef = .agg (arrK .u8 32 (byt sN)) := hc 10 30 rfl rfl
    have hk := Lib.hid hK
    clear hK hu hc
    have hcc := hcs
    go_simp
    exact hk.out undef
  · intro a1 w1 G I
    have ha0 := hha0.out
    subst ha0
    have he := act_patch (n := 38) [false, false, false, false, false, false, false, false, true, false, false, false, false, false, false, false, false, false, false, false, true, true, true, true, true, true, true, true, true, true, true, false, false, false, false, false, false, false] rfl (by kernel_rfl) I.un I.sz I.df
    simp only [patch, cond_true, cond_false, Nat.reduceAdd] at he
    have hal8 := I.al 11 8 32 rfl rfl rfl
    replace hR := Lib.hid (row_below hR.out I.bel hR.out.lt)
    replace hL := Lib.hid (below_step I.bel hL.out (Nat.le_refl _))
    replace hF7 := Lib.hid (hF7.out.step I.bel)
    have hF8 := Lib.hid (show At w1 (G 11) .u8 32 (byt sN) from ⟨(I.blk 11 32 rfl rfl).2, (I.row 12 11 rfl rfl).2.2⟩)
    clear kC kM kP kY hF6 hPr hTt hP
    clear I hz0 hha0 e1 e5 e6 e7
    rw [he]
    clear he
    rw [hal8]
    clear hal8
    generalize a1.tmps[20]?.getD undef = x20 at *
    generalize a1.tmps[21]?.getD undef = x21 at *
    generalize a1.tmps[22]?.getD undef = x22 at *
    generalize a1.tmps[23]?.getD undef = x23 at *
    generalize a1.tmps[24]?.getD undef = x24 at *
    generalize a1.tmps[25]?.getD undef = x25 at *
    generalize a1.tmps[26]?.getD undef = x26 at *
    generalize a1.tmps[27]?.getD undef = x27 at *
    generalize a1.tmps[28]?.getD undef = x28 at *
    generalize a1.tmps[29]?.getD undef = x29 at *
    generalize a1.tmps[30]?.getD undef = x30 at *
    obtain ⟨g8, hgz⟩ : ∃ g, G 11 = g := ⟨_, rfl⟩
    rw [hgz] at hF8 ⊢
    clear hgz
    generalize w1 = W6 at *
    have hb2 := below_alloc W6 (Obj.cells (arrK .u8 64 fun _ => 0) 69)
    have hF9 := Lib.hid (At.new (w := W6) (k := .u8) (m := 64) (f := fun _ => 0) 69 rfl)
    have hl8 := Lib.hid hF8.out.lt
    have hl7 := Lib.hid hF7.out.row.lt
    have hlR := Lib.hid hR.out.lt
    replace hR := Lib.hid (row_below hR.out hb2 hR.out.lt)
    replace hL := Lib.hid (below_step hb2 hL.out (Nat.le_refl _))
    replace hF7 := Lib.hid (hF7.out.step hb2)
    replace hF8 := Lib.hid (hF8.out.step hb2)
    clear hb2
    go_upto_region 6 with (fail)
    generalize W6.alloc _ = W7 at *
    generalize W6.heap.size = g9 at *
    have hB7 := hF7.out.bytes
    have add0 : ∀ (g j : Nat), (⟨g, 0, none⟩ : Addr).add j = ⟨g, j, none⟩ := fun g j => by
      by_cases e : j = 0
      · subst e; simp [Addr.add]
      · simp [Addr.add, e]
    have hcp := fun ty => run_copy_buf (P := Tryd.prog) (dT := 22) (sT := 22) (ty := ty) (e := 5) Tryd.underlying22 (by kernel_rfl) hF9.out.drew (o := 0) (n := 32) (dl := 64) (dc := 64) (sl := 32) (sc := 32) (ad := ⟨g7, 0, none⟩) (b := bytesF fr)
      (fun j hj => by rw [add0]; exact hB7.drew.cell hj) (by show 32 = min 32 64; omega) (by omega)
    go_region
    have hB9 := hF9.out.drew.cp 0 32 (bytesF fr)
    have hB8 := Lib.hid (hF8.out.drew.far (g' := g9) (c := arrK .u8 64 (cpF (fun _ => 0) 0 32 (bytesF fr))) (Nat.ne_of_lt hl8.out))
    have hR2 := Lib.hid ((row_setRow_far (c' := arrK .u8 64 (cpF (fun _ => 0) 0 32 (bytesF fr))) (Nat.ne_of_lt hlR.out)).2 (row_drew.2 hR.out))
    have hL2 := Lib.hid (below_setRow (c := arrK .u8 64 (cpF (fun _ => 0) 0 32 (bytesF fr))) hL.out.drew (show w.heap.size ≤ g9 by have := hlR.out; omega))
    clear hcp hB7 hF7 hF8 hF9 hR hL
    generalize W7.drew.setRow _ _ = W8 at *
    have hcp := fun ty => run_copy_buf (P := Tryd.prog) (dT := 22) (sT := 22) (ty := ty) (e := 5) Tryd.underlying22 (by kernel_rfl) hB9.drew (o := 32) (n := 32) (dl := 32) (dc := 32) (sl := 32) (sc := 32) (ad := ⟨g8, 0, none⟩) (b := byt sN)
      (fun j hj => by rw [add0]; exact hB8.out.drew.cell hj) (by show 32 = min 32 32; omega) (by omega)
    have hB9' := Lib.hid ((hB9.drew.cp 32 32 (byt sN)).congr (f' := SF) fun i hi => by
      rw [hsg.out]
      unfold cpF
      by_cases h : i < 32
      · rw [if_neg (by omega), if_pos (by omega)]; exact (if_pos h).symm
      · rw [if_pos (by omega)]; exact (if_neg h).symm)
    clear hB9
    go_upto_region 7 with (fail)
    go_region
    have hR3 := Lib.hid ((row_setRow_far (c' := arrK .u8 64 (cpF (cpF (fun _ => 0) 0 32 (bytesF fr)) 32 32 (byt sN))) (Nat.ne_of_lt hlR.out)).2 (row_drew.2 hR2.out))
    have hL3 := Lib.hid (below_setRow (c := arrK .u8 64 (cpF (cpF (fun _ => 0) 0 32 (bytesF fr)) 32 32 (byt sN))) hL2.out.drew (show w.heap.size ≤ g9 by have := hlR.out; omega))
    clear hcp hB8 hR2 hL2
    generalize W8.drew.setRow _ _ = W9 at *
    have hr1 := hB9'.out.row
    have hr2 := hB9'.out.eq
    have hr3 := hR3.out
    go_wp2_with fail
    exact ret_stored (p := 4) (ty := 69) (g := w.heap.size + 1) (n := 64) (c := arrK .u8 64 SF) rfl Tryd.underlying69 rfl (by kernel_rfl) rfl hR3.out hcg.1 rfl ⟨rfl, below_setRow hL3.out (by omega)⟩
end Go.Proofs.YtgdiokklfihfoaaDoor
namespace Go.Proofs.YtgdiokklfihfoaaDoor
open Go.ChangeShapes Go.WideShapes Go.ChangeAt Go.RowKit
set_option maxHeartbeats 2000000
set_option maxRecDepth 100000
attribute [local go_sem ↓] load_fld load_feP load_num store_num load_fe store_fe load_pt store_pt load_rp store_rp
attribute [local go_sem] isHead_mk blkOf_mk isAgg_mk cellsV_mk row_drew rowAt_drew row_new_cells row_old rowAt_new rowAt_old setRow_new zeroNum zeroPt zeroFe zeroRp
def SRel.tmN (m : Nat) : SRel := ⟨fun v w => IsN w v m, fun _ _ _ hb h => h.step hb⟩
/-- A fraction of the point. -/
def SRel.tmR (mx my : Nat) : SRel := ⟨fun v _ => ∃ X Y Z, v = .agg (arrK .i64 48 (cat3 (dgt X) (dgt Y) (dgt Z))) ∧ X < 2 ^ 256 ∧ Y < 2 ^ 256 ∧ Z < 2 ^ 256 ∧ X * invP Z % fP = mx ∧ Y * invP Z % fP = my, fun _ _ _ _ h => h⟩
theorem ptof_rep {x y : Nat} : RpN (tmP x y 1) (x % fP) (y % fP) 1 := rpN_mod rpN_one
end Go.Proofs.YtgdiokklfihfoaaDoor
namespace Go.Proofs.YtgdiokklfihfoaaDoor
open Go.ChangeShapes Go.WideShapes Go.ChangeAt Go.RowKit
set_option maxHeartbeats 2000000
set_option maxRecDepth 100000
attribute [local irreducible] arrV dgA sha prA
attribute [local go_sem ↓] load_fld load_f32 load_num store_num execl_num execs_num load_o32 store_o32 execl_o32 execs_o32 load_pa store_pa execl_pa execs_pa
attribute [local go_sem] isHead_mk isPart_mk offOf_mk blkOf_mk isAgg_mk cellsV_mk row_drew rowAt_drew row_new_cells row_old rowAt_new rowAt_old setRow_new zeroNum zeroD zero_pair bs_app
theorem ref_nought (v : Value) (d : Nat) (w : World) (h : IsN w v d) : Calls Tryd.prog 68 #[v] w (RetN (atL d) w) := by
  obtain ⟨A, m, c, rfl, hmc, hcm, h0⟩ := h.form
  have hV := Lib.hid h
  by_cases hd : d = 0
  · have hm := h0.2 hd
    subst hm
    have he := Lib.hid (show atL d = 1 by unfold atL; rw [if_pos hd])
    clear h h0 hd
    go_enter Tryd.func68, Tryd.ntmps68
    go_wp2_with fail
    go_ret
    refine ⟨_, rfl, ?_, below_alloc _ _⟩
    rw [he.out]
    exact IsN.one1 w 3
  · have hm : m ≠ 0 := fun e => hd (h0.1 e)
    have he := Lib.hid (show atL d = d by unfold atL; rw [if_neg hd])
    have hz : ((m : Int) == 0) = false := by simp; omega
    have hz2 : decide ((m : Int) = 0) = false := by simp; omega
    clear h h0 hd
    go_enter Tryd.func68, Tryd.ntmps68
    go_wp2_with fail
    go_ret
    refine ⟨_, rfl, ?_, Below.refl _ _⟩
    rw [he.out]
    exact hV.out
theorem atL_big {d : Nat} (h : d < 2 ^ 256) : atL d < big := lt_big (atL_lt h) (by omega)
/-- The document's n-fold of the base. -/
theorem base_often (n : Nat) (v : Value) (w : World) (hv : IsN w v n) (hn : n < big) : Calls Tryd.prog 72 #[rpV bX bY 1, v] w fun e w' => (∃ X Y Z, e = .returned (rpV X Y Z) ∧ X < 2 ^ 256 ∧ Y < 2 ^ 256 ∧ Z < 2 ^ 256 ∧ X * invP Z % fP = (tmP bX bY n).1.val ∧ Y * invP Z % fP = (tmP bX bY n).2.val) ∧ Below w.heap.size w w' := by
  refine (rp_Often bX bY n bX bY 1 v w base_on rpN_one (Nat.lt_trans base_lt.1 P_lt) (Nat.lt_trans base_lt.2 P_lt) (by decide +kernel) hv hn).mono ?_
  rintro e w1 ⟨X, Y, Z, rfl, hr, h1, h2, h3, hb⟩
  exact ⟨⟨X, Y, Z, rfl, h1, h2, h3, rpN_out hr⟩, hb⟩
theorem point_is (mx my X Y Z : Nat) (w : World) (h1 : X < 2 ^ 256) (h2 : Y < 2 ^ 256) (h3 : Z < 2 ^ 256) (e1 : X * invP Z % fP = mx) (e2 : Y * invP Z % fP = my) : Calls Tryd.prog 73 #[rpV X Y Z] w fun e w' => e = .returned (ptV mx my) ∧ Below w.heap.size w w' := by
  have h := rp_Point X Y Z w h1 h2 h3
  rw [e1, e2] at h
  exact h
theorem base_packed (n : Nat) (w : World) : Calls Tryd.prog 70 #[ptV (tmP bX bY n).1.val (tmP bX bY n).2.val] w fun e w' => e = .returned (.agg (dgA (bsL n))) ∧ Below w.heap.size w w' := by
  have h := ref_Packed (tmP bX bY n).1.val (tmP bX bY n).2.val w (tmP bX bY n).1.isLt (tmP bX bY n).2.isLt
  rw [show pkF (tmP bX bY n).1.val (tmP bX bY n).2.val = bsF n from rfl, dgA_of (f := bsF n) fun i _ => pkF_lt (tmP bX bY n).2.isLt] at h
  exact h
theorem ref_PairOf (K : Nat → W32) (S : List UInt8) (w : World) (hT : Tabs K w) (hS : S.length = 32) : Calls Tryd.prog 27 #[.agg (dgA S)] w fun e w' => e = .returned (.agg (pairA K S)) ∧ Below w.heap.size w w' := by
  have kD := Lib.hid (fun V (h1 : Tabs K V) => ref_Digest K S 1 V h1 (by omega))
  have kN := Lib.hid (fun V v (h : IsN V v (ofL (dgT K 1 S))) => ref_nought v (ofL (dgT K 1 S)) V h)
  rw [show atL (ofL (dgT K 1 S)) = secN K S from rfl] at kN
  have hsl := secN_lt K S
  have kT := Lib.hid (fun V v (h : IsN V v (secN K S)) => toNumN V (h.toV (lt_big hsl (by omega))))
  have kS := Lib.hid (fun V (h : Tabs K V) => rsumD (K := K) (l := 2 :: S) h (by simp [hS]))
  rw [show sha K (2 :: S) = mskL K S from rfl] at kS
  have kB := Lib.hid (fun V => ref_PtBase V)
  have kO := Lib.hid (fun V v (h : IsN V v (secN K S)) => base_often (secN K S) v V h (lt_big hsl (by omega)))
  have kP := Lib.hid (fun V => base_packed (secN K S) V)
  rw [show bsL (secN K S) = pubL K S from rfl] at kP
  have hpa := Lib.hid (show pairA K S = prA (secN K S) (mskL K S) (pubL K S) from rfl)
  obtain ⟨PA, hPA⟩ : ∃ x, pairA K S = x := ⟨_, rfl⟩
  rw [hPA] at hpa ⊢
  obtain ⟨mx, hmx⟩ : ∃ v, (tmP bX bY (secN K S)).1.val = v := ⟨_, rfl⟩
  obtain ⟨my, hmy⟩ : ∃ v, (tmP bX bY (secN K S)).2.val = v := ⟨_, rfl⟩
  rw [hmx, hmy] at kO kP
  have kQ := Lib.hid (fun X Y Z V h1 h2 h3 e1 e2 => point_is mx my X Y Z V h1 h2 h3 e1 e2)
  clear hPA hmx hmy hsl
  generalize secN K S = sN at *
  generalize pubL K S = pb at *
  generalize mskL K S = ms at *
  generalize ofL (dgT K 1 S) = d at *
  have hbp := Lib.hid (fun W => build_pair sN ms pb W)
  rw [← hpa.out] at hbp
  have hcp : Cells PA 68 := by rw [hpa.out]; exact prA_cells _ _ _
  unfold numV at kT
  unfold ptV at kP kQ
  unfold rpV at kB kO kQ
  generalize bX = bx at *
  generalize bY = by' at *
  have hcS := dgA_cells S
  have hcq := prA_cells 0 [] []
  clear hpa
  go_enter Tryd.func27, Tryd.ntmps27
  go_upto_region 1 with (fail)
  have hL0 : Below w.heap.size w ((w.alloc (Obj.cells (dgA S) 57)).alloc (Obj.cells (prA 0 [] []) 67)) := by go_grown
  have hX0 : Bs ((w.alloc (Obj.cells (dgA S) 57)).alloc (Obj.cells (prA 0 [] []) 67)) (some ⟨w.heap.size, 0, none⟩) S 32 := (rd_of_row hS ((row_new rfl).2 hcS.1) (rowAt_new rfl) : Bs (w.alloc (Obj.cells (dgA S) 57)) (some ⟨w.heap.size, 0, none⟩) S 32).step (below_alloc _ _)
  have hR := Lib.hid (show Row ((w.alloc (Obj.cells (dgA S) 57)).alloc (Obj.cells (prA 0 [] []) 67)) (w.heap.size + 1) 68 from (row_new (by simp)).2 hcq.1)
  have hX := Lib.hid hX0
  have hTt := Lib.hid (hT.step hL0)
  have hL := Lib.hid hL0
  have hCv := Lib.hid (fun V (hV : Bs V (some ⟨w.heap.size, 0, none⟩) S 32) => show (convert 22 9 (.slice (some ⟨w.heap.size, 0, none⟩) 32 32)).run Tryd.prog V = .ok (strV S) V by
    have := hV.conv
    rwa [hS] at this)
  clear hL0 hX0 hT
  generalize (w.alloc _).alloc _ = W0 at *
  have cq := hCv.out _ hX.out
  go_wp2_with fail
  refine (show Calls _ _ #[Value.int IntKind.u8 1, _] W0 _ from kD.out _ hTt.out).mono ?_
  rintro e w1 ⟨u, rfl, hu, hb⟩
  replace hR := Lib.hid (row_below hR.out hb hR.out.lt)
  replace hTt := Lib.hid (hTt.out.step hb)
  replace hX := Lib.hid (hX.out.step hb)
  replace hL := Lib.hid (below_step hb hL.out (Nat.le_refl _))
  obtain ⟨uA, um, uc, rfl, -, -, -⟩ := hu.form
  have hU := Lib.hid hu
  clear hb kD cq hu
  dsimp only
  go_wp2_with fail
  refine (kN.out _ _ hU.out).mono ?_
  rintro e w2 ⟨u, rfl, hu, hb⟩
  replace hR := Lib.hid (row_below hR.out hb hR.out.lt)
  replace hTt := Lib.hid (hTt.out.step hb)
  replace hX := Lib.hid (hX.out.step hb)
  replace hL := Lib.hid (below_step hb hL.out (Nat.le_refl _))
  obtain ⟨uA, um, uc, rfl, -, -, -⟩ := hu.form
  have hU := Lib.hid hu
  clear hb kN hu
  dsimp only
  go_upto_region 2 with (fail)
  generalize ha0 : Act.mk _ _ = a0
  have e1 : a0.tmps[1]?.getD undef = .pointer (some ⟨w.heap.size, 0, none⟩) := by rw [← ha0]; rfl
  have e2 : a0.tmps[2]?.getD undef = .pointer (some ⟨w.heap.size + 1, 0, none⟩) := by rw [← ha0]; rfl
  have e3 : a0.tmps[3]?.getD undef = .slice uA um uc := by rw [← ha0]; rfl
  have hz0 : a0.tmps.size = 20 := by rw [← ha0]; rfl
  have hha0 := Lib.hid ha0
  clear ha0
  refine wp_region_tailL (fun jx_ => match jx_ with | 0 => SRel.is (.slice uA um uc) | 1 => SRel.is (.agg (arrK .u64 4 (wd sN))) | 2 => SRel.is (.slice (some ⟨w.heap.size, 0, none⟩) 32 32) | 3 => SRel.is (strV S) | 4 => SRel.is (strV (2 :: S)) | 5 => SRel.is (.agg (dgA ms)) | 6 => SRel.is (.agg (arrK .i64 48 (cat3 (dgt bx) (dgt by') (dgt 1)))) | 7 => SRel.is (.slice uA um uc) | 8 => SRel.tmR mx my | 9 => SRel.is (.agg (arrK .u64 8 (cat2 (wd mx) (wd my)))) | 10 => SRel.is (.agg (dgA pb)) | 11 => SRel.is (.agg PA) | 12 => SRel.any | _ => SRel.any) 12 (by kernel_rfl) (by kernel_rfl) (by kernel_rfl) (slotsOk_of hz0 (by kernel_rfl)) (by kernel_rfl) (of_decide_eq_true (by kernel_rfl)) ⟨?_, ?_, ?_, ?_, ?_, ?_, ?_, ?_, ?_, ?_, ?_, ?_, trivial⟩ ?_
  · refine calmL_step rfl fun a ω κ hb hu hc hK => ?_
    have h3 : a.tmps[3]?.getD undef = .slice uA um uc := (hu 3 rfl).trans e3
    have hk := Lib.hid (fun w1 (h : Below ω.heap.size ω w1) => hK (.slice uA um uc) w1 rfl h)
    clear hK hu hc
    go_simp
    exact hk.out _ (Below.refl _ _)
  · refine calmL_step rfl fun a ω κ hb hu hc hK => ?_
    have h8 : a.tmps[8]?.getD undef = .slice uA um uc := hc 0 8 rfl rfl
    have hk := Lib.hid (fun w1 (h : Below ω.heap.size ω w1) => hK (.agg (arrK .u64 4 (wd sN))) w1 rfl h)
    clear hK hu hc
    go_simp
    go_at_call 50
    refine (kT.out _ _ (hU.out.step hb)).mono ?_
    rintro e w1 ⟨rfl, hb1⟩
    exact hk.out _ hb1
  · refine calmL_step rfl fun a ω κ hb hu hc hK => ?_
    have h1 : a.tmps[1]?.getD undef = .pointer (some ⟨w.heap.size, 0, none⟩) := (hu 1 rfl).trans e1
    have hk := Lib.hid (fun w1 (h : Below ω.heap.size ω w1) => hK (.slice (some ⟨w.heap.size, 0, none⟩) 32 32) w1 rfl h)
    clear hK hu hc
    go_simp
    exact hk.out _ (Below.refl _ _)
  · refine calmL_step rfl fun a ω κ hb hu hc hK => ?_
    have h10 : a.tmps[10]?.getD undef = .slice (some ⟨w.heap.size, 0, none⟩) 32 32 := hc 2 10 rfl rfl
    have hk := Lib.hid (fun w1 (h : Below ω.heap.size ω w1) => hK (strV S) w1 rfl h)
    clear hK hu hc
    have cq := hCv.out _ (hX.out.step hb)
    go_simp
    exact hk.out _ (Below.refl _ _)
  · refine calmL_step rfl fun a ω κ hb hu hc hK => ?_
    have h11 : a.tmps[11]?.getD undef = strV S := hc 3 11 rfl rfl
    have hk := Lib.hid (fun w1 (h : Below ω.heap.size ω w1) => hK (strV (2 :: S)) w1 rfl h)
    clear hK hu hc
    go_simp
    exact hk.out _ (Below.refl _ _)
  · refine calmL_step rfl fun a ω κ hb hu hc hK => ?_
    have h12 : a.tmps[12]?.getD undef = strV (2 :: S) := hc 4 12 rfl rfl
    have hk := Lib.hid (fun w1 (h : Below ω.heap.size ω w1) => hK (.agg (dgA ms)) w1 rfl h)
    clear hK hu hc
    go_simp
    go_at_call 22
    refine (kS.out _ (hTt.out.step hb)).mono ?_
    rintro e w1 ⟨rfl, hb1⟩
    exact hk.out _ hb1
  · refine calmL_step rfl fun a ω κ hb hu hc hK => ?_
    have hk := Lib.hid (fun w1 (h : Below ω.heap.size ω w1) => hK (.agg (arrK .i64 48 (cat3 (dgt bx) (dgt by') (dgt 1)))) w1 rfl h)
    clear hK hu hc
    go_simp
    go_at_call 71
    refine (kB.out _).mono ?_
    rintro e w1 ⟨rfl, hb1⟩
    exact hk.out _ hb1
  · refine calmL_step rfl fun a ω κ hb hu hc hK => ?_
    have h3 : a.tmps[3]?.getD undef = .slice uA um uc := (hu 3 rfl).trans e3
    have hk := Lib.hid (fun w1 (h : Below ω.heap.size ω w1) => hK (.slice uA um uc) w1 rfl h)
    clear hK hu hc
    go_simp
    exact hk.out _ (Below.refl _ _)
  · refine calmL_step rfl fun a ω κ hb hu hc hK => ?_
    have h14 : a.tmps[14]?.getD undef = .agg (arrK .i64 48 (cat3 (dgt bx) (dgt by') (dgt 1))) := hc 6 14 rfl rfl
    have h15 : a.tmps[15]?.getD undef = .slice uA um uc := hc 7 15 rfl rfl
    have hk := Lib.hid (fun v w1 (hv : (SRel.tmR mx my).p v w1) (h : Below ω.heap.size ω w1) => hK v w1 hv h)
    clear hK hu hc
    go_simp
    go_at_call 72
    refine (kO.out _ _ (hU.out.step hb)).mono ?_
    rintro e w1 ⟨⟨X, Y, Z, rfl, h1, h2, h3, e1, e2⟩, hb1⟩
    exact hk.out _ _ ⟨X, Y, Z, rfl, h1, h2, h3, e1, e2⟩ hb1
  · refine calmL_step rfl fun a ω κ hb hu hc hK => ?_
    have h16 : (SRel.tmR mx my).p (a.tmps[16]?.getD undef) ω := hc 8 16 rfl rfl
    have hk := Lib.hid (fun w1 (h : Below ω.heap.size ω w1) => hK (.agg (arrK .u64 8 (cat2 (wd mx) (wd my)))) w1 rfl h)
    clear hK hu hc
    obtain ⟨X, Y, Z, h16, h1, h2, h3, e1, e2⟩ := h16
    go_simp
    go_at_call 73
    refine (kQ.out X Y Z _ h1 h2 h3 e1 e2).mono ?_
    rintro e w1 ⟨rfl, hb1⟩
    exact hk.out _ hb1
  · refine calmL_step rfl fun a ω κ hb hu hc hK => ?_
    have h17 : a.tmps[17]?.getD undef = .agg (arrK .u64 8 (cat2 (wd mx) (wd my))) := hc 9 17 rfl rfl
    have hk := Lib.hid (fun w1 (h : Below ω.heap.size ω w1) => hK (.agg (dgA pb)) w1 rfl h)
    clear hK hu hc
    go_simp
    go_at_call 70
    refine (kP.out _).mono ?_
    rintro e w1 ⟨rfl, hb1⟩
    exact hk.out _ hb1
  · refine calmL_step rfl fun a ω κ hb hu hc hK => ?_
    have h9 : a.tmps[9]?.getD undef = .agg (arrK .u64 4 (wd sN)) := hc 1 9 rfl rfl
    have h13 : a.tmps[13]?.getD undef = .agg (dgA ms) := hc 5 13 rfl rfl
    have h18 : a.tmps[18]?.getD undef = .agg (dgA pb) := hc 10 18 rfl rfl
    have hk := Lib.hid (fun w1 (h : Below ω.heap.size ω w1) => hK (.agg PA) w1 rfl h)
    clear hK hu hc
    exact wp_bldC rfl (v0 := .agg (arrK .u64 4 (wd sN))) (v1 := .agg (dgA ms)) (v2 := .agg (dgA pb)) (by go_simp) (by go_simp) (by go_simp) (hbp.out _) (hk.out _ (Below.refl _ _))
  · intro aa ω hb hu hsz hdf hc
    have h8 : aa.tmps[8]?.getD undef = .slice uA um uc := hc 0 8 (by decide) rfl
    have h9 : aa.tmps[9]?.getD undef = .agg (arrK .u64 4 (wd sN)) := hc 1 9 (by decide) rfl
    have h10 : aa.tmps[10]?.getD undef = .slice (some ⟨w.heap.size, 0, none⟩) 32 32 := hc 2 10 (by decide) rfl
    have h11 : aa.tmps[11]?.getD undef = strV S := hc 3 11 (by decide) rfl
    have h12 : aa.tmps[12]?.getD undef = strV (2 :: S) := hc 4 12 (by decide) rfl
    have h13 : aa.tmps[13]?.getD undef = .agg (dgA ms) := hc 5 13 (by decide) rfl
    have h14 : aa.tmps[14]?.getD undef = .agg (arrK .i64 48 (cat3 (dgt bx) (dgt by') (dgt 1))) := hc 6 14 (by decide) rfl
    have h15 : aa.tmps[15]?.getD undef = .slice uA um uc := hc 7 15 (by decide) rfl
    have h17 : aa.tmps[17]?.getD undef = .agg (arrK .u64 8 (cat2 (wd mx) (wd my))) := hc 9 17 (by decide) rfl
    have h18 : aa.tmps[18]?.getD undef = .agg (dgA pb) := hc 10 18 (by decide) rfl
    have h19 : aa.tmps[19]?.getD undef = .agg PA := hc 11 19 (by decide) rfl
    have ha0 := hha0.out
    subst ha0
    have he := act_patchL (n := 20) 12 [false, false, false, false, false, false, false, false, true, true, true, true, true, true, true, true, true, true, true, true] rfl (by kernel_rfl) hu hsz hdf
    simp only [patch, cond_true, cond_false, Nat.reduceAdd] at he
    clear hu hsz hdf hc hha0 e1 e2 e3 hz0
    rw [he]
    clear he
    generalize aa.tmps[8]?.getD undef = x8 at *
    generalize aa.tmps[9]?.getD undef = x9 at *
    generalize aa.tmps[10]?.getD undef = x10 at *
    generalize aa.tmps[11]?.getD undef = x11 at *
    generalize aa.tmps[12]?.getD undef = x12 at *
    generalize aa.tmps[13]?.getD undef = x13 at *
    generalize aa.tmps[14]?.getD undef = x14 at *
    generalize aa.tmps[15]?.getD undef = x15 at *
    generalize aa.tmps[16]?.getD undef = x16 at *
    generalize aa.tmps[17]?.getD undef = x17 at *
    generalize aa.tmps[18]?.getD undef = x18 at *
    generalize aa.tmps[19]?.getD undef = x19 at *
    subst h8 h9 h10 h11 h12 h13 h14 h15 h17 h18 h19
    replace hR := Lib.hid (row_below hR.out hb hR.out.lt)
    replace hL := Lib.hid (below_step hb hL.out (Nat.le_refl _))
    clear hX hTt hU kT kP kS kB kO kQ hbp hCv hb
    dsimp only [List.drop]
    have hr3 := hR.out
    go_wp2_with fail
    refine ret_row (p := 2) (ty := 67) (g := w.heap.size + 1) rfl Tryd.underlying67 rfl (by kernel_rfl) rfl ((row_setRow_same rfl hR.out).2 hcp.1) rfl ?_
    rw [rowAt_setRow_same hR.out]
    exact ⟨rfl, below_setRow hL.out (by omega)⟩
end Go.Proofs.YtgdiokklfihfoaaDoor
namespace Go.Proofs.YtgdiokklfihfoaaDoor
open Go.ChangeShapes Go.WideShapes Go.ChangeAt Go.RowKit
set_option maxHeartbeats 2000000
set_option maxRecDepth 100000
attribute [local irreducible] arrV dgA sha prA
attribute [local go_sem ↓] load_fld load_f32 load_num store_num execl_num execs_num load_o32 store_o32 execl_o32 execs_o32 load_pa store_pa execl_pa execs_pa load_sg store_sg execl_sg execs_sg
attribute [local go_sem] isHead_mk isPart_mk offOf_mk blkOf_mk isAgg_mk cellsV_mk row_drew rowAt_drew row_new_cells row_old rowAt_new rowAt_old setRow_new zeroNum zeroD zero_pair zero64 bs_app
def upK (F : Nat → Nat) (s : Nat) : Nat → Nat := fun i => if i < s then F i else 0
theorem upK_step (F : Nat → Nat) (s i : Nat) : upd (upK F s) s (F s) i = upK F (s + 1) i := by
  unfold upd upK
  by_cases h : i = s
  · subst h; rw [if_pos rfl, if_pos (by omega)]
  · rw [if_neg h]
    by_cases h2 : i < s
    · rw [if_pos h2, if_pos (by omega)]
    · rw [if_neg h2, if_neg (by omega)]
theorem bs_str {V : World} {A : Option Addr} {l : List UInt8} {n : Nat} (hn : l.length = n) (h : Bs V A l n) : (convert 22 9 (.slice A n n)).run Tryd.prog V = .ok (strV l) V := by
  have := h.conv
  rwa [hn] at this
theorem ref_Signature (K : Nat → W32) (S p : List UInt8) (w : World) (hT : Tabs K w) (hS : S.length = 32) (hb : 64 + p.length ≤ 140737488355328) : Calls Tryd.prog 29 #[.agg (dgA S), strV p] w fun e w' => e = .returned (.agg (arrK .u8 64 (sgF K S p))) ∧ Below w.heap.size w w' := by
  have kN := Lib.hid (fun V (h : Tabs K V) => ref_PairOf K S V h hS)
  have hml : (mskL K S).length = 32 := sha_len _ _
  have hpl : (pubL K S).length = 32 := bsL_len _
  have hfl : (bsL (sgR K S p)).length = 32 := bsL_len _
  have kD := Lib.hid (fun V (h1 : Tabs K V) => ref_Digest K (mskL K S ++ p) 3 V h1 (by rw [List.length_append]; omega))
  have kA := Lib.hid (fun V v (h : IsN V v (ofL (dgT K 3 (mskL K S ++ p)))) => ref_nought v (ofL (dgT K 3 (mskL K S ++ p))) V h)
  rw [show atL (ofL (dgT K 3 (mskL K S ++ p))) = sgR K S p from rfl] at kA
  have hrl := sgR_lt K S p
  have hsl := secN_lt K S
  have hcl : sgC K S p < 2 ^ 256 := ofL_lt _
  have kB := Lib.hid (fun V => ref_PtBase V)
  have kO := Lib.hid (fun V v (h : IsN V v (sgR K S p)) => base_often (sgR K S p) v V h (lt_big hrl (by omega)))
  have kP := Lib.hid (fun V => base_packed (sgR K S p) V)
  have kC := Lib.hid (fun V (h1 : Tabs K V) => ref_Digest K (bsL (sgR K S p) ++ pubL K S ++ p) 4 V h1 (by rw [List.length_append, List.length_append]; omega))
  rw [show ofL (dgT K 4 (bsL (sgR K S p) ++ pubL K S ++ p)) = sgC K S p from rfl, List.append_assoc] at kC
  have kU := Lib.hid (fun V => ref_OfNum (secN K S) V hsl)
  have kTi := Lib.hid (fun V v1 v2 (h1 : IsN V v1 (sgC K S p)) (h2 : IsN V v2 (secN K S)) => timesN V (h1.toV (lt_big hcl (by omega))) (h2.toV (lt_big hsl (by omega))))
  obtain ⟨j5, hj5⟩ : ∃ j, 256 + 256 = j := ⟨_, rfl⟩
  have hml2 : sgC K S p * secN K S < 2 ^ j5 := mul_wide hcl hsl hj5
  have hsum : sgR K S p + sgC K S p * secN K S < 2 ^ (j5 + 1) := by
    have h1 : sgR K S p < 2 ^ j5 := Nat.lt_of_lt_of_le hrl (Nat.pow_le_pow_right (by omega) (by omega))
    rw [Nat.pow_succ]; omega
  have kPl := Lib.hid (fun V v1 v2 (h1 : IsN V v1 (sgR K S p)) (h2 : IsN V v2 (sgC K S p * secN K S)) => plusN V (h1.toV (lt_big hrl (by omega))) (h2.toV (lt_big hml2 (by omega))))
  have kL := Lib.hid (fun V => ref_Prime V)
  have kR := Lib.hid (fun V v1 v2 (h1 : IsN V v1 (sgR K S p + sgC K S p * secN K S)) (h2 : IsN V v2 fL) => restN V h1 hsum (by omega) (h2.toV (lt_big fL_lt' (by omega))) (Nat.lt_trans (by omega) fL_pos) (mul_big (m := 17) (n := 256) (by omega) fL_lt' (by omega)))
  have hsB : (sgR K S p + sgC K S p * secN K S) % fL = sgB K S p := by unfold sgB; rw [Nat.add_mod_mod]
  rw [hsB] at kR
  have hbl : sgB K S p < 2 ^ 256 := mod_L
  have kT := Lib.hid (fun V v (h : IsN V v (sgB K S p)) => toNumN V (h.toV (lt_big hbl (by omega))))
  have kY := Lib.hid (fun V => ref_bytesOf (sgB K S p) V hbl)
  have hpa := Lib.hid (show pairA K S = prA (secN K S) (mskL K S) (pubL K S) from rfl)
  have hsg := Lib.hid (show sgF K S p = fun i => if i < 32 then bytesF (bsL (sgR K S p)) i else byt (sgB K S p) (i - 32) from rfl)
  obtain ⟨SF, hSF⟩ : ∃ f, sgF K S p = f := ⟨_, rfl⟩
  rw [hSF] at hsg ⊢
  obtain ⟨PA, hPA⟩ : ∃ x, pairA K S = x := ⟨_, rfl⟩
  rw [hPA] at hpa kN
  obtain ⟨mx, hmx⟩ : ∃ v, (tmP bX bY (sgR K S p)).1.val = v := ⟨_, rfl⟩
  obtain ⟨my, hmy⟩ : ∃ v, (tmP bX bY (sgR K S p)).2.val = v := ⟨_, rfl⟩
  rw [hmx, hmy] at kO kP
  have kQ := Lib.hid (fun X Y Z V h1 h2 h3 e1 e2 => point_is mx my X Y Z V h1 h2 h3 e1 e2)
  clear hSF hPA hmx hmy hrl hsl hcl hml2 hsum hsB hbl hj5
  generalize sgR K S p + sgC K S p * secN K S = aN at *
  generalize sgC K S p * secN K S = mN at *
  generalize sgC K S p = cN at *
  generalize ofL (dgT K 3 (mskL K S ++ p)) = dN' at *
  generalize bsL (sgR K S p) = fr at *
  generalize sgR K S p = rN at *
  generalize sgB K S p = sN at *
  generalize secN K S = kN' at *
  generalize pubL K S = pb at *
  generalize mskL K S = ms at *
  generalize fL = l0 at *
  unfold numV at kU kT kY
  unfold ptV at kP kQ
  unfold rpV at kB kO kQ
  generalize bX = bx at *
  generalize bY = by' at *
  have hcp : Cells PA 68 := by rw [hpa.out]; exact prA_cells _ _ _
  have hcq := prA_cells 0 [] []
  have hcz := dgA_cells []
  have hcw := arrK_cells .u8 64 fun _ => 0
  have hcS := dgA_cells S
  have hcf := dgA_cells fr
  have hcs := arrK_cells .u8 32 (byt sN)
  have hcg := arrK_cells .u8 64 SF
  have hs1 : 32 + p.length ≤ 9223372036854775807 := by omega
  have hs2 : 32 + 32 + p.length ≤ 9223372036854775807 := by omega
  have hs3 : 64 + p.length ≤ 9223372036854775807 := by omega
  clear hb
  go_enter Tryd.func29, Tryd.ntmps29
  go_upto_region 1 with (fail)
  have hL0 : Below w.heap.size w ((w.alloc (Obj.cells (dgA S) 57)).alloc (Obj.cells (arrK .u8 64 fun _ => 0) 69)) := by go_grown
  have hX := Lib.hid ((Rw.new (w := w) 57 hcS.1).step (below_alloc _ (Obj.cells (arrK .u8 64 fun _ => 0) 69)))
  have hR := Lib.hid (show Row ((w.alloc (Obj.cells (dgA S) 57)).alloc (Obj.cells (arrK .u8 64 fun _ => 0) 69)) (w.heap.size + 1) 64 from (row_new (by simp)).2 (arrK_size _ _ _))
  have hTt := Lib.hid (hT.step hL0)
  have hL := Lib.hid hL0
  clear hL0 hT
  generalize (w.alloc _).alloc _ = W0 at *
  have hr1 := hX.out.row
  have hr2 := hX.out.eq
  go_wp2_with fail
  refine (kN.out _ hTt.out).mono ?_
  rintro e w1 ⟨rfl, hb1⟩
  replace hR := Lib.hid (row_below hR.out hb1 hR.out.lt)
  replace hTt := Lib.hid (hTt.out.step hb1)
  replace hL := Lib.hid (below_step hb1 hL.out (Nat.le_refl _))
  clear hr1 hr2 hb1 kN hX
  dsimp only
  go_upto_region 2 with (fail)
  have hb1 := below_alloc w1 (Obj.cells PA 67)
  have hPr := Lib.hid (Rw.new (w := w1) 67 hcp.1)
  replace hR := Lib.hid (row_below hR.out hb1 hR.out.lt)
  replace hTt := Lib.hid (hTt.out.step hb1)
  replace hL := Lib.hid (below_step hb1 hL.out (Nat.le_refl _))
  clear hb1
  generalize w1.alloc _ = W1 at *
  generalize w1.heap.size = g5 at *
  have cq := bs_str hml (part_bs (o := 4) hml hPr.out.row hPr.out.eq (by rw [hpa.out]; exact prA_4))
  go_wp2_with fail
  refine (show Calls _ _ #[Value.int IntKind.u8 3, _] W1 _ from kD.out _ hTt.out).mono ?_
  rintro e w2 ⟨u, rfl, hu, hb1⟩
  obtain ⟨uA, um, uc, rfl, -, -, -⟩ := hu.form
  have hU := Lib.hid hu
  replace hR := Lib.hid (row_below hR.out hb1 hR.out.lt)
  replace hTt := Lib.hid (hTt.out.step hb1)
  replace hL := Lib.hid (below_step hb1 hL.out (Nat.le_refl _))
  replace hPr := Lib.hid (hPr.out.step hb1)
  clear hb1 hu kD cq
  dsimp only
  go_wp2_with fail
  refine (kA.out _ _ hU.out).mono ?_
  rintro e w3 ⟨u, rfl, hu, hb1⟩
  obtain ⟨rA, rm, rc, rfl, -, -, -⟩ := hu.form
  have hF6 := Lib.hid hu
  replace hR := Lib.hid (row_below hR.out hb1 hR.out.lt)
  replace hTt := Lib.hid (hTt.out.step hb1)
  replace hL := Lib.hid (below_step hb1 hL.out (Nat.le_refl _))
  replace hPr := Lib.hid (hPr.out.step hb1)
  clear hb1 hu kA hU
  dsimp only
  go_wp2_with fail
  refine (kB.out _).mono ?_
  rintro e w4 ⟨rfl, hb1⟩
  replace hR := Lib.hid (row_below hR.out hb1 hR.out.lt)
  replace hTt := Lib.hid (hTt.out.step hb1)
  replace hL := Lib.hid (below_step hb1 hL.out (Nat.le_refl _))
  replace hPr := Lib.hid (hPr.out.step hb1)
  replace hF6 := Lib.hid (hF6.out.step hb1)
  clear hb1 kB
  dsimp only
  go_wp2_with fail
  refine (kO.out _ _ hF6.out).mono ?_
  rintro e w5 ⟨⟨X, Y, Z, rfl, h1, h2, h3, e1, e2⟩, hb1⟩
  replace hR := Lib.hid (row_below hR.out hb1 hR.out.lt)
  replace hTt := Lib.hid (hTt.out.step hb1)
  replace hL := Lib.hid (below_step hb1 hL.out (Nat.le_refl _))
  replace hPr := Lib.hid (hPr.out.step hb1)
  replace hF6 := Lib.hid (hF6.out.step hb1)
  have kQ2 := Lib.hid (fun V => kQ.out X Y Z V h1 h2 h3 e1 e2)
  clear hb1 kO kQ h1 h2 h3 e1 e2
  dsimp only
  go_wp2_with fail
  refine (kQ2.out _).mono ?_
  rintro e w6 ⟨rfl, hb1⟩
  replace hR := Lib.hid (row_below hR.out hb1 hR.out.lt)
  replace hTt := Lib.hid (hTt.out.step hb1)
  replace hL := Lib.hid (below_step hb1 hL.out (Nat.le_refl _))
  replace hPr := Lib.hid (hPr.out.step hb1)
  replace hF6 := Lib.hid (hF6.out.step hb1)
  clear hb1 kQ2
  dsimp only
  go_wp2_with fail
  refine (kP.out _).mono ?_
  rintro e w7 ⟨rfl, hb1⟩
  replace hR := Lib.hid (row_below hR.out hb1 hR.out.lt)
  replace hTt := Lib.hid (hTt.out.step hb1)
  replace hL := Lib.hid (below_step hb1 hL.out (Nat.le_refl _))
  replace hPr := Lib.hid (hPr.out.step hb1)
  replace hF6 := Lib.hid (hF6.out.step hb1)
  clear hb1 kP
  dsimp only
  go_upto_region 4 with (fail)
  have hb2 := below_alloc w7 (Obj.cells (dgA fr) 57)
  have hF7 := Lib.hid (Rw.new (w := w7) 57 hcf.1)
  replace hR := Lib.hid (row_below hR.out hb2 hR.out.lt)
  replace hTt := Lib.hid (hTt.out.step hb2)
  replace hL := Lib.hid (below_step hb2 hL.out (Nat.le_refl _))
  replace hPr := Lib.hid (hPr.out.step hb2)
  replace hF6 := Lib.hid (hF6.out.step hb2)
  clear hb2
  generalize w7.alloc _ = W7 at *
  generalize w7.heap.size = g7 at *
  have hsf := Lib.hid (fun V (h : Rw V g7 32 (dgA fr)) => bs_str hfl (part_bs (o := 0) hfl h.row h.eq (by rw [Nat.zero_add]; exact Array.extract_eq_self_of_le (Nat.le_of_eq hcf.1))))
  have hsb := Lib.hid (fun V (h : Rw V g5 68 PA) => bs_str hpl (part_bs (o := 36) hpl h.row h.eq (by rw [hpa.out]; exact prA_36)))
  generalize ha0 : Act.mk _ _ = a0
  have e1 : a0.tmps[1]?.getD undef = strV p := by rw [← ha0]; rfl
  have e5 : a0.tmps[5]?.getD undef = .pointer (some ⟨g5, 0, none⟩) := by rw [← ha0]; rfl
  have e7 : a0.tmps[7]?.getD undef = .pointer (some ⟨g7, 0, none⟩) := by rw [← ha0]; rfl
  have hz0 : a0.tmps.size = 64 := by rw [← ha0]; rfl
  have hha0 := Lib.hid ha0
  clear ha0
  refine wp_region_calm (fun jx_ => match jx_ with | 0 => SRel.is (.slice (some ⟨g7, 0, none⟩) 32 32) | 1 => SRel.is (strV fr) | 2 => SRel.is (.pointer (some ⟨g5, 36, none⟩)) | 3 => SRel.is (.slice (some ⟨g5, 36, none⟩) 32 32) | 4 => SRel.is (strV pb) | 5 => SRel.is (strV (fr ++ pb)) | 6 => SRel.is (strV p) | 7 => SRel.is (strV (fr ++ (pb ++ p))) | 8 => SRel.bN cN | 9 => SRel.bN cN | _ => SRel.any) (by kernel_rfl) (by kernel_rfl) (by kernel_rfl) (slotsOk_of hz0 (by kernel_rfl)) ⟨?_, ?_, ?_, ?_, ?_, ?_, ?_, ?_, ?_, ?_, trivial⟩ ?_
  · refine calm_step rfl fun a ω κ hb hu hc hK => ?_
    have h7 : a.tmps[7]?.getD undef = .pointer (some ⟨g7, 0, none⟩) := (hu 7 rfl).trans e7
    have hk := Lib.hid (fun w1 (h : Below ω.heap.size ω w1) => hK (.slice (some ⟨g7, 0, none⟩) 32 32) w1 rfl h)
    clear hK hu hc
    go_simp
    exact hk.out _ (Below.refl _ _)
  · refine calm_step rfl fun a ω κ hb hu hc hK => ?_
    have h26 : a.tmps[26]?.getD undef = .slice (some ⟨g7, 0, none⟩) 32 32 := hc 0 26 rfl rfl
    have hk := Lib.hid (fun w1 (h : Below ω.heap.size ω w1) => hK (strV fr) w1 rfl h)
    clear hK hu hc
    have cq := hsf.out _ (hF7.out.step hb)
    go_simp
    exact hk.out _ (Below.refl _ _)
  · refine calm_step rfl fun a ω κ hb hu hc hK => ?_
    have h5 : a.tmps[5]?.getD undef = .pointer (some ⟨g5, 0, none⟩) := (hu 5 rfl).trans e5
    have hk := Lib.hid (fun w1 (h : Below ω.heap.size ω w1) => hK (.pointer (some ⟨g5, 36, none⟩)) w1 rfl h)
    clear hK hu hc
    go_simp
    exact hk.out _ (Below.refl _ _)
  · refine calm_step rfl fun a ω κ hb hu hc hK => ?_
    have h28 : a.tmps[28]?.getD undef = .pointer (some ⟨g5, 36, none⟩) := hc 2 28 rfl rfl
    have hk := Lib.hid (fun w1 (h : Below ω.heap.size ω w1) => hK (.slice (some ⟨g5, 36, none⟩) 32 32) w1 rfl h)
    clear hK hu hc
    go_simp
    exact hk.out _ (Below.refl _ _)
  · refine calm_step rfl fun a ω κ hb hu hc hK => ?_
    have h29 : a.tmps[29]?.getD undef = .slice (some ⟨g5, 36, none⟩) 32 32 := hc 3 29 rfl rfl
    have hk := Lib.hid (fun w1 (h : Below ω.heap.size ω w1) => hK (strV pb) w1 rfl h)
    clear hK hu hc
    have cq := hsb.out _ (hPr.out.step hb)
    go_simp
    exact hk.out _ (Below.refl _ _)
  · refine calm_step rfl fun a ω κ hb hu hc hK => ?_
    have h27 : a.tmps[27]?.getD undef = strV fr := hc 1 27 rfl rfl
    have h30 : a.tmps[30]?.getD undef = strV pb := hc 4 30 rfl rfl
    have hk := Lib.hid (fun w1 (h : Below ω.heap.size ω w1) => hK (strV (fr ++ pb)) w1 rfl h)
    clear hK hu hc
    go_simp
    exact hk.out _ (Below.refl _ _)
  · refine calm_step rfl fun a ω κ hb hu hc hK => ?_
    have h1 : a.tmps[1]?.getD undef = strV p := (hu 1 rfl).trans e1
    have hk := Lib.hid (fun w1 (h : Below ω.heap.size ω w1) => hK (strV p) w1 rfl h)
    clear hK hu hc
    go_simp
    exact hk.out _ (Below.refl _ _)
  · refine calm_step rfl fun a ω κ hb hu hc hK => ?_
    have h31 : a.tmps[31]?.getD undef = strV (fr ++ pb) := hc 5 31 rfl rfl
    have h32 : a.tmps[32]?.getD undef = strV p := hc 6 32 rfl rfl
    have hk := Lib.hid (fun w1 (h : Below ω.heap.size ω w1) => hK (strV (fr ++ (pb ++ p))) w1 rfl h)
    clear hK hu hc
    go_simp
    rw [if_neg (by omega)]
    exact hk.out _ (Below.refl _ _)
  · refine calm_step rfl fun a ω κ hb hu hc hK => ?_
    have h33 : a.tmps[33]?.getD undef = strV (fr ++ (pb ++ p)) := hc 7 33 rfl rfl
    have hk := Lib.hid (fun v w1 (hv : (SRel.bN cN).p v w1) (h : Below ω.heap.size ω w1) => hK v w1 hv h)
    clear hK hu hc
    go_simp
    go_at_call 69
    refine (show Calls _ _ #[Value.int IntKind.u8 4, _] ω _ from kC.out _ (hTt.out.step hb)).mono ?_
    rintro e w1 ⟨u, rfl, hu, hb1⟩
    exact hk.out _ _ hu hb1
  · refine calm_step rfl fun a ω κ hb hu hc hK => ?_
    have h34 : (SRel.bN cN).p (a.tmps[34]?.getD undef) ω := hc 8 34 rfl rfl
    have hk := Lib.hid (fun v w1 (hv : (SRel.bN cN).p v w1) (h : Below ω.heap.size ω w1) => hK v w1 hv h)
    clear hK hu hc
    go_simp
    exact hk.out _ _ h34 (Below.refl _ _)
  · intro a1 w1 hb1 hu1 hsz1 hdf1 hc1
    have ha0 := hha0.out
    subst ha0
    have he := act_patch (n := 64) [false, false, false, false, false, false, false, false, true, false, false, false, false, false, false, false, false, false, false, false, false, false, false, false, false, false, true, true, true, true, true, true, true, true, true, false, false, false, false, false, false, false, false, false, false, false, false, false, false, false, false, false, false, false, false, false, false, false, false, false, false, false, false, false] rfl (by kernel_rfl) hu1 hsz1 hdf1
    simp only [patch, cond_true, cond_false, Nat.reduceAdd] at he
    have h8 : IsN w1 (a1.tmps[8]?.getD undef) cN := hc1 9 8 rfl
    replace hR := Lib.hid (row_below hR.out hb1 hR.out.lt)
    replace hL := Lib.hid (below_step hb1 hL.out (Nat.le_refl _))
    replace hPr := Lib.hid (hPr.out.step hb1)
    replace hF6 := Lib.hid (hF6.out.step hb1)
    replace hF7 := Lib.hid (hF7.out.step hb1)
    clear hsf hsb kC hTt
    clear hb1 hu1 hsz1 hdf1 hc1 hz0 hha0 e1 e5 e7
    rw [he]
    clear he
    generalize a1.tmps[8]?.getD undef = x8 at *
    generalize a1.tmps[26]?.getD undef = x26 at *
    generalize a1.tmps[27]?.getD undef = x27 at *
    generalize a1.tmps[28]?.getD undef = x28 at *
    generalize a1.tmps[29]?.getD undef = x29 at *
    generalize a1.tmps[30]?.getD undef = x30 at *
    generalize a1.tmps[31]?.getD undef = x31 at *
    generalize a1.tmps[32]?.getD undef = x32 at *
    generalize a1.tmps[33]?.getD undef = x33 at *
    generalize a1.tmps[34]?.getD undef = x34 at *
    obtain ⟨cA, cm, cc, rfl, -, -, -⟩ := h8.form
    have hF8 := Lib.hid h8
    clear h8
    generalize w1 = W8 at *
    have hl := part_ld (o := 0) (n := 4) hPr.out.row hPr.out.eq (by rw [hpa.out]; exact prA_0) (arrK_size _ _ _) arrK_some
    have hl1 := hl.1
    have hl2 := hl.2
    clear hl
    go_wp2_with fail
    refine (kU.out _).mono ?_
    rintro e w9 ⟨u, rfl, hu, hb1⟩
    obtain ⟨uA, um, uc, rfl, -, -, -⟩ := hu.form
    have hU := Lib.hid hu
    replace hR := Lib.hid (row_below hR.out hb1 hR.out.lt)
    replace hL := Lib.hid (below_step hb1 hL.out (Nat.le_refl _))
    replace hF6 := Lib.hid (hF6.out.step hb1)
    replace hF7 := Lib.hid (hF7.out.step hb1)
    replace hF8 := Lib.hid (hF8.out.step hb1)
    clear hl1 hl2 hPr kU hu hb1
    dsimp only
    go_wp2_with fail
    refine (kTi.out _ _ _ hF8.out hU.out).mono ?_
    rintro e w10 ⟨u, rfl, hu, hb1⟩
    obtain ⟨tA, tm, tc, rfl, -, -, -⟩ := hu.form
    have hU2 := Lib.hid hu
    replace hR := Lib.hid (row_below hR.out hb1 hR.out.lt)
    replace hL := Lib.hid (below_step hb1 hL.out (Nat.le_refl _))
    replace hF6 := Lib.hid (hF6.out.step hb1)
    replace hF7 := Lib.hid (hF7.out.step hb1)
    clear hU hF8 kTi hu hb1
    dsimp only
    go_wp2_with fail
    refine (kPl.out _ _ _ hF6.out hU2.out).mono ?_
    rintro e w11 ⟨u, rfl, hu, hb1⟩
    obtain ⟨tA2, tm2, tc2, rfl, -, -, -⟩ := hu.form
    have hU3 := Lib.hid hu
    replace hR := Lib.hid (row_below hR.out hb1 hR.out.lt)
    replace hL := Lib.hid (below_step hb1 hL.out (Nat.le_refl _))
    replace hF7 := Lib.hid (hF7.out.step hb1)
    clear hU2 hF6 kPl hu hb1
    dsimp only
    go_wp2_with fail
    refine (kL.out _).mono ?_
    rintro e w12 ⟨u, rfl, hu, hb1⟩
    obtain ⟨tA3, tm3, tc3, rfl, -, -, -⟩ := hu.form
    have hU4 := Lib.hid hu
    replace hR := Lib.hid (row_below hR.out hb1 hR.out.lt)
    replace hL := Lib.hid (below_step hb1 hL.out (Nat.le_refl _))
    replace hF7 := Lib.hid (hF7.out.step hb1)
    replace hU3 := Lib.hid (hU3.out.step hb1)
    clear kL hu hb1
    dsimp only
    go_wp2_with fail
    refine (kR.out _ _ _ hU3.out hU4.out).mono ?_
    rintro e w13 ⟨u, rfl, hu, hb1⟩
    obtain ⟨tA4, tm4, tc4, rfl, -, -, -⟩ := hu.form
    have hU5 := Lib.hid hu
    replace hR := Lib.hid (row_below hR.out hb1 hR.out.lt)
    replace hL := Lib.hid (below_step hb1 hL.out (Nat.le_refl _))
    replace hF7 := Lib.hid (hF7.out.step hb1)
    clear hU3 hU4 kR hu hb1
    dsimp only
    go_wp2_with fail
    refine (kT.out _ _ hU5.out).mono ?_
    rintro e w14 ⟨rfl, hb1⟩
    replace hR := Lib.hid (row_below hR.out hb1 hR.out.lt)
    replace hL := Lib.hid (below_step hb1 hL.out (Nat.le_refl _))
    replace hF7 := Lib.hid (hF7.out.step hb1)
    clear hU5 kT hb1
    dsimp only
    go_wp2_with fail
    refine (kY.out _).mono ?_
    rintro e w15 ⟨rfl, hb1⟩
    replace hR := Lib.hid (row_below hR.out hb1 hR.out.lt)
    replace hL := Lib.hid (below_step hb1 hL.out (Nat.le_refl _))
    replace hF7 := Lib.hid (hF7.out.step hb1)
    clear kY hb1
    dsimp only
    go_upto_region 6 with (fail)
    have hb2 := below_alloc w15 (Obj.cells (arrK .u8 32 (byt sN)) 57)
    have hF9 := Lib.hid (At.new (w := w15) (k := .u8) (m := 32) (f := byt sN) 57 rfl)
    replace hR := Lib.hid (row_below hR.out hb2 hR.out.lt)
    replace hL := Lib.hid (below_step hb2 hL.out (Nat.le_refl _))
    replace hF7 := Lib.hid (hF7.out.step hb2)
    clear hb2
    generalize w15.alloc _ = W9 at *
    generalize w15.heap.size = g9 at *
    have hb2 := below_alloc W9 (Obj.cells (arrK .u8 64 fun _ => 0) 69)
    have hF10 := Lib.hid ((At.new (w := W9) (k := .u8) (m := 64) (f := fun _ => 0) 69 rfl).congr (f' := upK SF 0) fun i _ => rfl)
    have hl9 := Lib.hid hF9.out.lt
    have hl7 := Lib.hid hF7.out.row.lt
    have hlR := Lib.hid hR.out.lt
    replace hR := Lib.hid (row_below hR.out hb2 hR.out.lt)
    replace hL := Lib.hid (below_step hb2 hL.out (Nat.le_refl _))
    replace hF7 := Lib.hid (hF7.out.step hb2)
    replace hF9 := Lib.hid (hF9.out.step hb2)
    clear hb2
    go_upto_region 8 with (fail)
    generalize W9.alloc _ = W10 at *
    generalize W9.heap.size = g10 at *
    have hB7 := Lib.hid hF7.out.bytes
    clear hF7
    go_loopw [46] (fun i wr => ∃ s : Nat, i = .int .i64 s ∧ s ≤ 64 ∧ Row wr (w.heap.size + 1) 64 ∧ At wr g7 .u8 32 (bytesF fr) ∧ At wr g9 .u8 32 (byt sN) ∧ At wr g10 .u8 64 (upK SF s) ∧ Below w.heap.size w wr) (fun i _ => 64 - (intOf i).toNat)
    case atStart => exact ⟨0, rfl, by omega, hR.out, hB7.out, hF9.out, hF10.out, hL.out⟩
    case round =>
      clear hR hB7 hF9 hF10 hL
      obtain ⟨s, rfl, hs, hR, hB7, hF9, hF10, hL⟩ := hrel
      by_cases h64 : s = 64
      · subst h64
        have hB := Lib.hid (hF10.congr (f' := SF) fun i hi => by unfold upK; rw [if_pos hi])
        have hr1 := hB.out.row
        have hr2 := hB.out.eq
        have hRh := Lib.hid hR
        have hLh := Lib.hid hL
        clear hB7 hF9 hF10 hL
        rw [show ((64 : Nat) : Int) = 64 from rfl]
        go_wp2_with fail
        exact ret_stored (p := 4) (ty := 69) (g := w.heap.size + 1) (n := 64) (c := arrK .u8 64 SF) rfl Tryd.underlying69 rfl (by kernel_rfl) rfl hRh.out hcg.1 rfl ⟨rfl, below_setRow hLh.out (by omega)⟩
      · have hd : decide ((s : Int) < 64) = true := by simp; omega
        have hs0 : (0 : Int) ≤ (s : Int) := by omega
        have hs64 : (s : Int) < 64 := by omega
        have co := hF10.cell (i := s) (by omega)
        have fo := hF10.row.frozen s
        have hst := Lib.hid (upK_step SF s)
        have hws : IntKind.i64.wrap ((s : Int) + 1) = (s : Int) + 1 := by rw [IntKind.wrap_i64]; omega
        have hn7 : g7 ≠ g10 := Nat.ne_of_lt hl7.out
        have hn9 : g9 ≠ g10 := Nat.ne_of_lt hl9.out
        have hle : w.heap.size ≤ g10 := by have := hlR.out; omega
        by_cases h32 : s < 32
        · have hd2 : decide ((s : Int) < 32) = true := by simp; omega
          have hs32 : (s : Int) < 32 := by omega
          have c7 := hB7.cell (i := s) h32
          have hv : SF s = bytesF fr s := by rw [hsg.out]; exact if_pos h32
          rw [← hv] at c7
          clear hv
          go_wp2_with fail
          refine ⟨⟨s + 1, by go_num, by omega, row_setCell.2 hR, hB7.farC hn7, hF9.farC hn9, (hF10.set s (SF s)).congr fun i _ => hst.out i, hL.setCell hle _⟩, ?_⟩
          simp [intOf]; omega
        · have hd2 : decide ((s : Int) < 32) = false := by simp; omega
          obtain ⟨t, ht⟩ : ∃ t, s = t + 32 := ⟨s - 32, by omega⟩
          have hwt : IntKind.i64.wrap ((s : Int) - 32) = (t : Int) := by rw [IntKind.wrap_i64]; omega
          have ht0 : (0 : Int) ≤ (t : Int) := by omega
          have ht32 : (t : Int) < 32 := by omega
          have c9 := hF9.cell (i := t) (by omega)
          have hv : SF s = byt sN t := by rw [hsg.out, ht]; show (if t + 32 < 32 then _ else _) = _; rw [if_neg (by omega), Nat.add_sub_cancel]
          rw [← hv] at c9
          clear hv ht
          go_wp2_with fail
          refine ⟨⟨s + 1, by go_num, by omega, row_setCell.2 hR, hB7.farC hn7, hF9.farC hn9, (hF10.set s (SF s)).congr fun i _ => hst.out i, hL.setCell hle _⟩, ?_⟩
          simp [intOf]; omega
end Go.Proofs.YtgdiokklfihfoaaDoor
namespace Go.Proofs.YtgdiokklfihfoaaDoor
open Go.ChangeShapes Go.WideShapes Go.ChangeAt Go.RowKit
set_option maxHeartbeats 2000000
set_option maxRecDepth 100000
attribute [local irreducible] arrV dgA sha prA
attribute [local go_sem ↓] load_num store_num load_o32 store_o32 execl_o32 execs_o32
attribute [local go_sem] isHead_mk isPart_mk offOf_mk blkOf_mk isAgg_mk cellsV_mk row_drew rowAt_drew row_new_cells row_old rowAt_new rowAt_old setRow_new zeroNum zeroD
theorem eqlSg (f : Nat → Nat) (w : World) : (binOp .eql 69 (.agg (arrK .u8 64 f)) (.agg (arrK .u8 64 f))).run Tryd.prog w = .ok (.bool true) w := by
  rw [run_eql_arrK Tryd.underlying69 Tryd.underlying5 (by kernel_rfl)]
  simp
theorem signTells (K : Nat → W32) (S p : List UInt8) (A : Option Addr) (n c : Nat) (w : World) (hT : Tabs K w) (hS : S.length = 32) (hn : p.length = n) (hp : Bs w A p c) (hb : 64 + n ≤ 140737488355328) : Calls Tryd.prog 7 #[.agg (dgA S), .slice A n c] w fun e w' => e = .returned (.bool true) ∧ Below w.heap.size w w' := by
  have kN := Lib.hid (fun V (h : Tabs K V) => sign_New K S V h hS)
  have kR := Lib.hid (fun V (h : Tabs K V) => ref_PairOf K S V h hS)
  have kS := Lib.hid (fun V (h : Tabs K V) (h2 : Bs V A p c) => sign_Sign K S p A n c V h hS hn h2 hb)
  have kG := Lib.hid (fun V (h : Tabs K V) => ref_Signature K S p V h hS (by rw [hn]; exact hb))
  have kE := Lib.hid (fun W => eqlPairB (secN K S) (mskL K S) (pubL K S) W)
  have hCv := Lib.hid (fun V (h : Bs V A p c) => show (convert 22 9 (.slice A n c)).run Tryd.prog V = .ok (strV p) V by rw [← hn]; exact h.conv)
  rw [show prA (secN K S) (mskL K S) (pubL K S) = pairA K S from rfl] at kE
  obtain ⟨PA, hPA⟩ : ∃ x, pairA K S = x := ⟨_, rfl⟩
  rw [hPA] at kN kR kE
  obtain ⟨SF, hSF⟩ : ∃ f, sgF K S p = f := ⟨_, rfl⟩
  rw [hSF] at kS kG
  have kQ := Lib.hid (fun W => eqlSg SF W)
  have hcS := dgA_cells S
  clear hPA hSF
  have hL0 := below_alloc w (Obj.cells (dgA S) 57)
  have hX := Lib.hid (Rw.new (w := w) 57 hcS.1)
  have hTt := Lib.hid (hT.step hL0)
  have hP := Lib.hid (hp.step hL0)
  have hL := Lib.hid hL0
  clear hL0 hT hp
  go_enter Tryd.func7, Tryd.ntmps7
  go_upto_region 1 with (fail)
  generalize w.alloc _ = W0 at *
  generalize ha0 : Act.mk _ _ = a0
  have e1 : a0.tmps[1]?.getD undef = .slice A n c := by rw [← ha0]; rfl
  have e2 : a0.tmps[2]?.getD undef = .pointer (some ⟨w.heap.size, 0, none⟩) := by rw [← ha0]; rfl
  have hz0 : a0.tmps.size = 20 := by rw [← ha0]; rfl
  have hha0 := Lib.hid ha0
  clear ha0
  refine wp_region_calm (fun jx_ => match jx_ with | 0 => SRel.is (.agg (dgA S)) | 1 => SRel.is (.agg PA) | 2 => SRel.is (.agg (dgA S)) | 3 => SRel.is (.agg PA) | 4 => SRel.is (.bool true) | 5 => SRel.is (.bool true) | 6 => SRel.is (.agg (dgA S)) | 7 => SRel.is (.slice A n c) | 8 => SRel.is (.agg (arrK .u8 64 SF)) | 9 => SRel.is (.agg (dgA S)) | 10 => SRel.is (.slice A n c) | 11 => SRel.is (strV p) | 12 => SRel.is (.agg (arrK .u8 64 SF)) | 13 => SRel.is (.bool true) | 14 => SRel.is (.bool true) | 15 => SRel.is (.bool true) | _ => SRel.any) (by kernel_rfl) (by kernel_rfl) (by kernel_rfl) (slotsOk_of hz0 (by kernel_rfl)) ⟨?_, ?_, ?_, ?_, ?_, ?_, ?_, ?_, ?_, ?_, ?_, ?_, ?_, ?_, ?_, ?_, trivial⟩ ?_
  · refine calm_step rfl fun a ω κ hb hu hc hK => ?_
    have h2 : a.tmps[2]?.getD undef = .pointer (some ⟨w.heap.size, 0, none⟩) := (hu 2 rfl).trans e2
    have hk := Lib.hid (fun w1 (h : Below ω.heap.size ω w1) => hK (.agg (dgA S)) w1 rfl h)
    clear hK hu hc
    have hr1 := (hX.out.step hb).row
    have hr2 := (hX.out.step hb).eq
    go_simp
    exact hk.out _ (Below.refl _ _)
  · refine calm_step rfl fun a ω κ hb hu hc hK => ?_
    have h5 : a.tmps[5]?.getD undef = .agg (dgA S) := hc 0 5 rfl rfl
    have hk := Lib.hid (fun w1 (h : Below ω.heap.size ω w1) => hK (.agg PA) w1 rfl h)
    clear hK hu hc
    go_simp
    go_at_call 26
    refine (kN.out _ (hTt.out.step hb)).mono ?_
    rintro e w1 ⟨rfl, hb1⟩
    exact hk.out _ hb1
  · refine calm_step rfl fun a ω κ hb hu hc hK => ?_
    have h2 : a.tmps[2]?.getD undef = .pointer (some ⟨w.heap.size, 0, none⟩) := (hu 2 rfl).trans e2
    have hk := Lib.hid (fun w1 (h : Below ω.heap.size ω w1) => hK (.agg (dgA S)) w1 rfl h)
    clear hK hu hc
    have hr1 := (hX.out.step hb).row
    have hr2 := (hX.out.step hb).eq
    go_simp
    exact hk.out _ (Below.refl _ _)
  · refine calm_step rfl fun a ω κ hb hu hc hK => ?_
    have h7 : a.tmps[7]?.getD undef = .agg (dgA S) := hc 2 7 rfl rfl
    have hk := Lib.hid (fun w1 (h : Below ω.heap.size ω w1) => hK (.agg PA) w1 rfl h)
    clear hK hu hc
    go_simp
    go_at_call 27
    refine (kR.out _ (hTt.out.step hb)).mono ?_
    rintro e w1 ⟨rfl, hb1⟩
    exact hk.out _ hb1
  · refine calm_step rfl fun a ω κ hb hu hc hK => ?_
    have h6 : a.tmps[6]?.getD undef = .agg PA := hc 1 6 rfl rfl
    have h8 : a.tmps[8]?.getD undef = .agg PA := hc 3 8 rfl rfl
    have hk := Lib.hid (fun w1 (h : Below ω.heap.size ω w1) => hK (.bool true) w1 rfl h)
    clear hK hu hc
    exact wp_eqlA (v := PA) (u := PA) (.inr rfl) (by kernel_rfl) (by go_simp) (by go_simp) (kE.out _) (hk.out _ (Below.refl _ _))
  · refine calm_step rfl fun a ω κ hb hu hc hK => ?_
    have h9 : a.tmps[9]?.getD undef = .bool true := hc 4 9 rfl rfl
    have hk := Lib.hid (fun w1 (h : Below ω.heap.size ω w1) => hK (.bool true) w1 rfl h)
    clear hK hu hc
    go_simp
    exact hk.out _ (Below.refl _ _)
  · refine calm_step_guard (g := 5) (b := true) (d := 10) rfl rfl (fun a w hc => hc 5 10 rfl rfl) fun a ω κ hb hu hc hK => ?_
    have h2 : a.tmps[2]?.getD undef = .pointer (some ⟨w.heap.size, 0, none⟩) := (hu 2 rfl).trans e2
    have hk := Lib.hid (fun w1 (h : Below ω.heap.size ω w1) => hK (.agg (dgA S)) w1 rfl h)
    clear hK hu hc
    have hr1 := (hX.out.step hb).row
    have hr2 := (hX.out.step hb).eq
    go_simp
    exact hk.out _ (Below.refl _ _)
  · refine calm_step_guard (g := 5) (b := true) (d := 10) rfl rfl (fun a w hc => hc 5 10 rfl rfl) fun a ω κ hb hu hc hK => ?_
    have h1 : a.tmps[1]?.getD undef = .slice A n c := (hu 1 rfl).trans e1
    have hk := Lib.hid (fun w1 (h : Below ω.heap.size ω w1) => hK (.slice A n c) w1 rfl h)
    clear hK hu hc
    go_simp
    exact hk.out _ (Below.refl _ _)
  · refine calm_step_guard (g := 5) (b := true) (d := 10) rfl rfl (fun a w hc => hc 5 10 rfl rfl) fun a ω κ hb hu hc hK => ?_
    have h11 : a.tmps[11]?.getD undef = .agg (dgA S) := hc 6 11 rfl rfl
    have h12 : a.tmps[12]?.getD undef = .slice A n c := hc 7 12 rfl rfl
    have hk := Lib.hid (fun w1 (h : Below ω.heap.size ω w1) => hK (.agg (arrK .u8 64 SF)) w1 rfl h)
    clear hK hu hc
    go_simp
    go_at_call 28
    refine (kS.out _ (hTt.out.step hb) (hP.out.step hb)).mono ?_
    rintro e w1 ⟨rfl, hb1⟩
    exact hk.out _ hb1
  · refine calm_step_guard (g := 5) (b := true) (d := 10) rfl rfl (fun a w hc => hc 5 10 rfl rfl) fun a ω κ hb hu hc hK => ?_
    have h2 : a.tmps[2]?.getD undef = .pointer (some ⟨w.heap.size, 0, none⟩) := (hu 2 rfl).trans e2
    have hk := Lib.hid (fun w1 (h : Below ω.heap.size ω w1) => hK (.agg (dgA S)) w1 rfl h)
    clear hK hu hc
    have hr1 := (hX.out.step hb).row
    have hr2 := (hX.out.step hb).eq
    go_simp
    exact hk.out _ (Below.refl _ _)
  · refine calm_step_guard (g := 5) (b := true) (d := 10) rfl rfl (fun a w hc => hc 5 10 rfl rfl) fun a ω κ hb hu hc hK => ?_
    have h1 : a.tmps[1]?.getD undef = .slice A n c := (hu 1 rfl).trans e1
    have hk := Lib.hid (fun w1 (h : Below ω.heap.size ω w1) => hK (.slice A n c) w1 rfl h)
    clear hK hu hc
    go_simp
    exact hk.out _ (Below.refl _ _)
  · refine calm_step_guard (g := 5) (b := true) (d := 10) rfl rfl (fun a w hc => hc 5 10 rfl rfl) fun a ω κ hb hu hc hK => ?_
    have h15 : a.tmps[15]?.getD undef = .slice A n c := hc 10 15 rfl rfl
    have hk := Lib.hid (fun w1 (h : Below ω.heap.size ω w1) => hK (strV p) w1 rfl h)
    clear hK hu hc
    have cq := hCv.out _ (hP.out.step hb)
    go_simp
    exact hk.out _ (Below.refl _ _)
  · refine calm_step_guard (g := 5) (b := true) (d := 10) rfl rfl (fun a w hc => hc 5 10 rfl rfl) fun a ω κ hb hu hc hK => ?_
    have h14 : a.tmps[14]?.getD undef = .agg (dgA S) := hc 9 14 rfl rfl
    have h16 : a.tmps[16]?.getD undef = strV p := hc 11 16 rfl rfl
    have hk := Lib.hid (fun w1 (h : Below ω.heap.size ω w1) => hK (.agg (arrK .u8 64 SF)) w1 rfl h)
    clear hK hu hc
    go_simp
    go_at_call 29
    refine (kG.out _ (hTt.out.step hb)).mono ?_
    rintro e w1 ⟨rfl, hb1⟩
    exact hk.out _ hb1
  · refine calm_step_guard (g := 5) (b := true) (d := 10) rfl rfl (fun a w hc => hc 5 10 rfl rfl) fun a ω κ hb hu hc hK => ?_
    have h13 : a.tmps[13]?.getD undef = .agg (arrK .u8 64 SF) := hc 8 13 rfl rfl
    have h17 : a.tmps[17]?.getD undef = .agg (arrK .u8 64 SF) := hc 12 17 rfl rfl
    have hk := Lib.hid (fun w1 (h : Below ω.heap.size ω w1) => hK (.bool true) w1 rfl h)
    clear hK hu hc
    exact wp_eqlA (v := arrK .u8 64 SF) (u := arrK .u8 64 SF) (.inr rfl) (by kernel_rfl) (by go_simp) (by go_simp) (kQ.out _) (hk.out _ (Below.refl _ _))
  · refine calm_step rfl fun a ω κ hb hu hc hK => ?_
    have h10 : a.tmps[10]?.getD undef = .bool true := hc 5 10 rfl rfl
    have h18 : a.tmps[18]?.getD undef = .bool true := hc 13 18 rfl rfl
    have hk := Lib.hid (fun w1 (h : Below ω.heap.size ω w1) => hK (.bool true) w1 rfl h)
    clear hK hu hc
    go_simp
    exact hk.out _ (Below.refl _ _)
  · refine calm_step rfl fun a ω κ hb hu hc hK => ?_
    have h19 : a.tmps[19]?.getD undef = .bool true := hc 14 19 rfl rfl
    have hk := Lib.hid (fun w1 (h : Below ω.heap.size ω w1) => hK (.bool true) w1 rfl h)
    clear hK hu hc
    go_simp
    exact hk.out _ (Below.refl _ _)
  · intro a1 w1 hb1 hu1 hsz1 hdf1 hc1
    have ha0 := hha0.out
    subst ha0
    have he := act_patch (n := 20) [false, false, false, false, true, true, true, true, true, true, true, true, true, true, true, true, true, true, true, true] rfl (by kernel_rfl) hu1 hsz1 hdf1
    simp only [patch, cond_true, cond_false, Nat.reduceAdd] at he
    have hkn4 : a1.tmps[4]?.getD undef = .bool true := hc1 15 4 rfl
    replace hL := Lib.hid (below_step hb1 hL.out (Nat.le_refl _))
    clear hb1 hu1 hsz1 hdf1 hc1 hz0 hha0 e1 e2
    rw [he]
    clear he
    rw [hkn4]
    clear hkn4
    generalize a1.tmps[5]?.getD undef = x5 at *
    generalize a1.tmps[6]?.getD undef = x6 at *
    generalize a1.tmps[7]?.getD undef = x7 at *
    generalize a1.tmps[8]?.getD undef = x8 at *
    generalize a1.tmps[9]?.getD undef = x9 at *
    generalize a1.tmps[10]?.getD undef = x10 at *
    generalize a1.tmps[11]?.getD undef = x11 at *
    generalize a1.tmps[12]?.getD undef = x12 at *
    generalize a1.tmps[13]?.getD undef = x13 at *
    generalize a1.tmps[14]?.getD undef = x14 at *
    generalize a1.tmps[15]?.getD undef = x15 at *
    generalize a1.tmps[16]?.getD undef = x16 at *
    generalize a1.tmps[17]?.getD undef = x17 at *
    generalize a1.tmps[18]?.getD undef = x18 at *
    generalize a1.tmps[19]?.getD undef = x19 at *
    go_wp2_with fail
    exact ret_tmp (p := 4) (v := .bool true) rfl (by simp) rfl ⟨rfl, hL.out⟩
end Go.Proofs.YtgdiokklfihfoaaDoor
namespace Go.Proofs.YtgdiokklfihfoaaDoor
open Go Go.RowKit Go.ChangeShapes Go.WideShapes Go.ChangeAt Go.Deep

section
variable {H : Type} {enc : TypeId × Value → H} {P : Program} {w : World} {base : Nat} {held : Bool}

/-- What was read is within the reach. -/
def Wt (P : Program) (t : TypeId) (d : DataW H) : Prop := ∀ n ∈ DataW.weights P t d, n ≤ reachBytes

theorem wt_top {ts : List TypeId} {ds : List (DataW H)} (h : (DataW.weightsEach P ts ds).all (· ≤ reachBytes) = true) {j : Nat} {t : TypeId} {d : DataW H} (ht : ts[j]? = some t) (hd : ds[j]? = some d) : Wt P t d := fun n hn => by
  simpa using List.all_eq_true.1 h n (DataW.weights_mem_each ht hd n hn)
theorem wt_all {e : TypeId} : ∀ {l : List (DataW H)} {d : DataW H}, d ∈ l → ∀ n ∈ DataW.weights P e d, n ∈ DataW.weightsAll P e l
  | x :: r, d, h, n, hn => by
      rw [DataW.weightsAll]
      rcases List.mem_cons.1 h with rfl | h
      · exact List.mem_append_left _ hn
      · exact List.mem_append_right _ (wt_all h n hn)
theorem wt_slice {t e : TypeId} {elems spare : List (DataW H)} (h : Wt P t (.slice elems spare)) (hu : P.underlying t = some (.slice e)) : (elems.length + spare.length) * P.bytesOf e ≤ reachBytes ∧ ∀ d ∈ elems, Wt P e d := by
  refine ⟨h _ (by simp [DataW.weights, hu]), fun d hd n hn => h n ?_⟩
  rw [DataW.weights, hu]
  exact List.mem_cons_of_mem _ (List.mem_append_left _ (wt_all hd n hn))
theorem wt_struct {t : TypeId} {fs : Array Field} {parts : List (DataW H)} (h : Wt P t (.agg parts)) (hu : P.underlying t = some (.struct fs)) {j : Nat} {f : Field} {d : DataW H} (hf : fs[j]? = some f) (hd : parts[j]? = some d) : Wt P f.type d := fun n hn => by
  refine h n ?_
  rw [DataW.weights, hu]
  exact DataW.weights_mem_each (by simp [hf]) hd n hn

/-- A slice of bytes that came in, by its reading, and its bound. -/
theorem open_bytes_wt {t e : TypeId} {fuel : Nat} {v : Value} {x : DataW H × List MemPlace} (ht : P.underlying t = some (.slice e)) (he : P.underlying e = some (.int .u8)) (hc : P.cellsOf e = 1) (hb : P.bytesOf e = 1)
    (h : DataW.trod enc P w base (fun _ => true) held fuel t [v] = some x) (hw : Wt P t x.1) : ∃ (A : Option Addr) (l : List UInt8) (c : Nat), v = .slice A l.length c ∧ Rd w w.heap.size A (bytesV l) ∧ l.length ≤ c ∧ c ≤ 140737488351232 := by
  obtain ⟨A, l, c, rfl, h1, h2, h3⟩ := open_bytes ht he hc h
  refine ⟨A, l, c, rfl, h1, h2, ?_⟩
  rcases open_ints ht he hc h with ⟨hcs, -⟩ | ⟨a, len, cap, zs, hcs, -, hl, hm, hz, hx, -, -⟩
  · simp only [List.cons.injEq, Value.slice.injEq, and_true] at hcs
    omega
  · rw [hx] at hw
    have h4 := (wt_slice hw ht).1
    simp only [List.cons.injEq, Value.slice.injEq, and_true] at hcs
    simp only [if_true] at hz
    rw [hb] at h4
    simp [lits] at h4
    unfold reachBytes at h4
    omega

/-- A slice of structs of one-cell fields that came in: each field's cell, and its own reading, and its bound. -/
theorem open_rows_wt {t e : TypeId} {fs : Array Field} {fuel : Nat} {v : Value} {x : DataW H × List MemPlace} (ht : P.underlying t = some (.slice e)) (he : P.underlying e = some (.struct fs))
    (hone : oneCellFields P fs = true) (hC : P.cellsOf e = fs.size) (h : DataW.trod enc P w base (fun _ => true) held fuel t [v] = some x) (hw : Wt P t x.1) :
    ∃ (A : Option Addr) (n c : Nat), v = .slice A n c ∧ n ≤ c ∧ c ≤ maxLen ∧ c * P.bytesOf e ≤ reachBytes ∧ ∀ i, i < n → ∃ a, A = some a ∧
      ∀ (j : Nat) (f : Field), fs[j]? = some f → ∃ (u : Value) (y : DataW H × List MemPlace) (m : Nat), w.cell? (a.add (i * fs.size + j)) = some u ∧ DataW.trod enc P w base (fun _ => true) held m f.type [u] = some y ∧ Wt P f.type y.1 := by
  rcases open_slice ht h with ⟨hcs, -⟩ | ⟨a, len, cap, m, n, D, Pl, hcs, -, hl, hm, hmm, hx, hi⟩
  · injection hcs with hv
    exact ⟨none, 0, 0, hv, Nat.le_refl _, by simp [maxLen], by simp, fun i hi => absurd hi (by omega)⟩
  · injection hcs with hv
    rw [hx] at hw
    obtain ⟨hw1, hw2⟩ := wt_slice hw ht
    simp only [if_true] at hmm
    refine ⟨some a, len, cap, hv, hl, hm, ?_, fun i hil => ⟨a, rfl, fun j f hj => ?_⟩⟩
    · simp only [List.length_map, List.length_range] at hw1
      rw [show len + (m - len) = cap by omega] at hw1
      exact hw1
    have him : i < m := by omega
    obtain ⟨cs', hc, ht'⟩ := hi i him
    have hwi : Wt P e (D i) := hw2 _ (List.mem_map.2 ⟨i, List.mem_range.2 hil, rfl⟩)
    rw [hC] at hc
    obtain ⟨ys, n', -, hxy, -, hyl, hf⟩ := DataW.trod_struct he ht'
    have hDi : D i = .agg (ys.map (·.1)) := congrArg Prod.fst hxy
    rw [hDi] at hwi
    obtain ⟨_, hcl, hat⟩ := World.cells?_some hc
    obtain ⟨ho, hk⟩ := hone_of hone j f hj
    have hjl : j < fs.size := (Array.getElem?_eq_some_iff.1 hj).1
    have hcell := hat j hjl
    have hv : cs'[j]? = some (cs'[j]'(by omega)) := List.getElem?_eq_getElem (by omega)
    have h1 := hf j f hj
    rw [ho, hk] at h1
    have hone' : (cs'.drop j).take 1 = [cs'[j]'(by omega)] := by
      rw [List.drop_eq_getElem_cons (by omega)]
      rfl
    rw [hone'] at h1
    have hys : ys[j]? = some (ys[j]'(by omega)) := List.getElem?_eq_getElem (by omega)
    refine ⟨_, _, n', ?_, h1.trans hys, wt_struct hwi he hj (by rw [List.getElem?_map, hys]; rfl)⟩
    rw [← addr_add, hcell, hv]
end
end Go.Proofs.YtgdiokklfihfoaaDoor
namespace Go.Proofs.YtgdiokklfihfoaaDoor
open Go.ChangeShapes Go.WideShapes Go.ChangeAt Go.WideMaps Go.WideElems Go.RowKit
set_option maxRecDepth 100000

theorem gOne : Tryd.prog.globalNamed "sealring/hash.primeRoots" = some 1 := by kernel_rfl
theorem gTwo : Tryd.prog.globalNamed "sealring/sealringref.roundNumbers" = some 0 := by kernel_rfl
theorem tOne : (Tryd.prog.globals[1]?).map (·.type) = some 209 := by kernel_rfl
theorem tTwo : (Tryd.prog.globals[0]?).map (·.type) = some 209 := by kernel_rfl
def laid2 : List (String × DataW Unit) := [("sealring/hash.primeRoots", Rows.laid_sealring_hash_primeRoots), ("sealring/sealringref.roundNumbers", Rows.laid_sealring_sealringref_roundNumbers)]

/-- Number i of a laid array. -/
def litAt : DataW Unit → Nat → Int
  | .agg l, i => match l[i]? with | some (.lit (.int _ z)) => z | _ => 0
  | _, _ => 0
def K0 (i : Nat) : W32 := BitVec.ofNat 32 (litAt Rows.laid_sealring_hash_primeRoots i).toNat
theorem laid_same : (Rows.laid_sealring_sealringref_roundNumbers : DataW Unit) = Rows.laid_sealring_hash_primeRoots := by kernel_rfl
theorem laid_tab {W : World} {enc : TypeId × Value → Unit} {n : String} {g base fuel : Nat} {spare : Nat → Bool} {held : Bool} {cs : Array Value} {pl : List MemPlace} (hg : Tryd.prog.globalNamed n = some g) (hv : W.var? Tryd.prog n = some cs)
    (hd : DataW.trod enc Tryd.prog W base spare held fuel 209 cs.toList = some (Rows.laid_sealring_hash_primeRoots, pl)) : ∀ i < 64, W.cell? ⟨g, i, none⟩ = some (u32v (K0 i)) := by
  intro i hi
  obtain ⟨xs, m, rfl, hx, hlen, hn, hel⟩ := DataW.trod_array Tryd.underlying209 hd
  have c1 : Tryd.prog.cellsOf 102 = 1 := by kernel_rfl
  have h1 := hel i hi
  have hxi : xs[i]? = some (xs[i]'(by omega)) := List.getElem?_eq_getElem (by omega)
  rw [hxi, c1, Nat.mul_one] at h1
  obtain ⟨z, e1, e2, hw⟩ := DataW.trod_int Tryd.underlying102 h1
  have hc : cs[i]? = some (.int .u32 z) := by
    have h2 : (cs.toList.drop i).take 1 = [.int .u32 z] := e1
    have h3 : ((cs.toList.drop i).take 1)[0]? = some (.int .u32 z) := by rw [h2]; rfl
    rw [List.getElem?_take_of_lt (by omega), List.getElem?_drop] at h3
    simpa using h3
  have hz : litAt Rows.laid_sealring_hash_primeRoots i = z := by
    have h4 : (Rows.laid_sealring_hash_primeRoots : DataW Unit) = .agg (xs.map (·.1)) := congrArg Prod.fst hx
    rw [h4]
    simp only [litAt, List.getElem?_map, hxi, e2, Option.map_some]
  rw [World.var?_cell hg hv i, hc]
  unfold K0 u32v
  have hwf : 0 ≤ z ∧ z < 4294967296 := by
    simp only [Lit.wf, Bool.and_eq_true, decide_eq_true_eq] at hw
    have h5 : IntKind.u32.min ≤ z ∧ z ≤ IntKind.u32.max := by simpa [IntKind.has] using hw
    have h6 : IntKind.u32.min = 0 := rfl
    have h7 : IntKind.u32.max = 4294967295 := rfl
    omega
  rw [hz, w2n_of (by omega), Int.toNat_of_nonneg hwf.1]
theorem of_laid {W : World} (h : laidMetH Tryd.prog laid2 W) : Tabs K0 W := by
  rw [MakeChecks.laidMetH_plain _ _ _ (by kernel_rfl)] at h
  obtain ⟨ps, ⟨g0, t0, cs0, f0, p0, q0, hg0, ht0, hv0, hd0, ⟨g1, t1, cs1, f1, p1, q1, hg1, ht1, hv1, hd1, _, _⟩, _⟩, _, _⟩ := h
  obtain rfl := Option.some.inj (gOne.symm.trans hg0)
  obtain rfl := Option.some.inj (gTwo.symm.trans hg1)
  obtain rfl := Option.some.inj (tOne.symm.trans ht0)
  obtain rfl := Option.some.inj (tTwo.symm.trans ht1)
  have h1 := laid_tab gOne hv0 hd0
  have h2 := laid_tab gTwo hv1 (laid_same ▸ hd1)
  exact ⟨h1, cell_lt (h1 0 (by omega)), h2, cell_lt (h2 0 (by omega))⟩
theorem door_met (os : Os) (args : Array Value) : laidMetH Tryd.prog laid2 ((World.doorLaid Tryd.prog 400 os).forCall (fun _ _ => 0) ⟨#[], args, []⟩).memory :=
  laidMetH_of_parts3 (fuel := 8) (laidMet_of_run' 8 (by kernel_rfl) (by kernel_rfl)) (by kernel_rfl) (by kernel_rfl)
end Go.Proofs.YtgdiokklfihfoaaDoor
namespace Go.Proofs.YtgdiokklfihfoaaDoor
open Go Go.RowKit Go.ChangeShapes Go.WideShapes Go.ChangeAt Go.Deep
section
variable {H : Type} {enc : TypeId × Value → H} {P : Program} {w : World} {base : Nat} {spare : Nat → Bool} {held : Bool}
theorem trodAll_five {t0 t1 t2 t3 t4 : TypeId} {args : Array Value} {ds : List (DataW H)} {ps : List MemPlace} (h : DataW.TrodAll enc P w base spare held [t0, t1, t2, t3, t4] args.toList ds ps) :
    ∃ v0 v1 v2 v3 v4 d0 d1 d2 d3 d4 p0 p1 p2 p3 p4, args = #[v0, v1, v2, v3, v4] ∧ ds = [d0, d1, d2, d3, d4] ∧ ps = p0 ++ p1 ++ p2 ++ p3 ++ p4 ∧ DataW.Trod enc P w base spare held t0 v0 d0 p0 ∧ DataW.Trod enc P w base spare held t1 v1 d1 p1 ∧ DataW.Trod enc P w base spare held t2 v2 d2 p2 ∧ DataW.Trod enc P w base spare held t3 v3 d3 p3 ∧ DataW.Trod enc P w base spare held t4 v4 d4 p4 := by
  obtain ⟨v0, vs0, d0, ds0, p0, q0, hargs, rfl, rfl, h0, r0⟩ := trodAll_cons h
  obtain ⟨v1, vs1, d1, ds1, p1, q1, rfl, rfl, rfl, h1, r1⟩ := trodAll_cons r0
  obtain ⟨v2, vs2, d2, ds2, p2, q2, rfl, rfl, rfl, h2, r2⟩ := trodAll_cons r1
  obtain ⟨v3, vs3, d3, ds3, p3, q3, rfl, rfl, rfl, h3, r3⟩ := trodAll_cons r2
  obtain ⟨v4, vs4, d4, ds4, p4, q4, rfl, rfl, rfl, h4, r4⟩ := trodAll_cons r3
  obtain ⟨rfl, rfl, rfl⟩ := trodAll_nil r4
  exact ⟨v0, v1, v2, v3, v4, d0, d1, d2, d3, d4, p0, p1, p2, p3, p4, by cases args; simp_all, rfl, by simp, h0, h1, h2, h3, h4⟩
end
end Go.Proofs.YtgdiokklfihfoaaDoor
