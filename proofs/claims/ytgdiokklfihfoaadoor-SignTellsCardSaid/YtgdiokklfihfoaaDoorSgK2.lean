/- Several texts one behind the other: CvE Sg2 Open Args CvO Tm1 Sg3 Sc2 LimbLo Inv Sc1 ShaP Sha Sha2 ShaW ShaX ShaN ShaD ShaQ ShaR App ShaB ShaS ShaF ShaL Sc3 ShaZ Dig Nb FreshR. -/
import Derived.Test.YtgdiokklfihfoaaDoorSgK1
import Derived.Test.YtgdiokklfihfoaaDoorCalmS
import Derived.Test.YtgdiokklfihfoaaDoorMem
import Derived.ProofKit
import Derived.Test.YtgdiokklfihfoaaDoorSl
import Derived.Deep.Slices
import Derived.Deep.Fields
import Derived.ChangeSame
import Derived.Test.YtgdiokklfihfoaaDoorArrK
import Derived.Test.YtgdiokklfihfoaaDoorEd4
import Derived.Test.YtgdiokklfihfoaaDoorFresh
import Derived.Test.YtgdiokklfihfoaaDoorAt
import Derived.Test.YtgdiokklfihfoaaDoorPrm
import Derived.Deep.DeepCutAuto
import Derived.Test.YtgdiokklfihfoaaDoorLimb
import Derived.Test.YtgdiokklfihfoaaDoorQuot
import Derived.Test.YtgdiokklfihfoaaDoorLimb4
import Derived.Deep.CutRange
import Derived.Test.YtgdiokklfihfoaaDoorOneW
import Derived.Test.YtgdiokklfihfoaaDoorBld
import Derived.Test.YtgdiokklfihfoaaDoorLimb5
import Derived.WalkKit
import Derived.Laws.BitsAllLaws
import Derived.Test.YtgdiokklfihfoaaDoorFrame
import Derived.Test.YtgdiokklfihfoaaDoorOwn
import Derived.Test.YtgdiokklfihfoaaDoorMem2
import Derived.Outline
import Derived.Handy
import Derived.Lib.Hide
import Derived.RegionTactic
import Derived.BigRegion
import Derived.Deep.QuietTactic
import Derived.BigQuiet
import Derived.Deep.RegionHeld3
import Derived.Deep.RegionWith
import Derived.Deep.DrawnRows
import Derived.Test.YtgdiokklfihfoaaDoorPart
import Derived.Deep.WholeRow
import Derived.Test.YtgdiokklfihfoaaDoorRet
import Derived.Deep.RegionLaw
import Derived.ArgAppend
import Derived.Deep.Draws
import Derived.StillTailTactics
import Derived.Test.YtgdiokklfihfoaaDoorCalm
import Derived.Test.YtgdiokklfihfoaaDoorRet2
import Derived.Test.YtgdiokklfihfoaaDoorTail
namespace Go.Proofs.YtgdiokklfihfoaaDoor
open Go Go.ChangeShapes Go.WideShapes Go.ChangeAt Go.RowKit
set_option maxRecDepth 100000
theorem part_4 (F f : Nat → Nat) (o : Nat) (ho : o + 4 ≤ 8) (h : ∀ i < 4, F (o + i) = f i) (w : World) : (part 41 (arrK .u64 8 F) o).run Tryd.prog w = .ok (.agg (arrK .u64 4 f)) w := by
  obtain ⟨i, hi, hs⟩ : ∃ i, Tryd.prog.info? 41 = some i ∧ i.size = 4 := by
    have h : (Tryd.prog.info? 41).map (·.size) = some 4 := by kernel_rfl
    cases hi : Tryd.prog.info? 41 with
    | none => rw [hi] at h; cases h
    | some i => rw [hi] at h; exact ⟨i, rfl, by simpa using h⟩
  have h2 : (arrK .u64 8 F).extract o (o + 4) = arrK .u64 4 f := by
    rw [arrK_V .u64 8, arrV_extract ho, arrK_V .u64 4]
    exact arrV_congr fun i hi => by rw [h i hi]
  simp [part, isAgg, run_underlying Tryd.underlying41, sizeOf, typeInfo, hi, hs, h2]
theorem equalIn_4 (f : Nat → Nat) (k : Nat) (w : World) : (Op.equalIn (k + 2) 41 (.agg (arrK .u64 4 f)) (.agg (arrK .u64 4 f))).run Tryd.prog w = .ok true w := by
  rw [run_equalIn_arrK Tryd.underlying41 Tryd.underlying39 (by kernel_rfl)]; simp
theorem eqlPt (f g : Nat → Nat) (w : World) : (Op.equalIn 10000 133 (.agg (arrK .u64 8 (cat2 f g))) (.agg (arrK .u64 8 (cat2 f g)))).run Tryd.prog w = .ok true w := by
  rw [show 10000 = 9999 + 1 from rfl, Op.equalIn.eq_2]
  simp only [Sem.run_bind, run_underlying Tryd.underlying133, Result.andThen_ok]
  have hst : Tryd.prog.stoodInHeld 133 = false := by kernel_rfl
  have h1 := part_4 (cat2 f g) f 0 (by omega) (fun i hi => by unfold cat2; rw [if_pos (by omega), Nat.zero_add]) w
  have h2 := part_4 (cat2 f g) g 4 (by omega) (fun i hi => by unfold cat2; rw [if_neg (by omega), Nat.add_sub_cancel_left]) w
  have hl := equalIn_4 f 9997 w
  have hm := equalIn_4 g 9997 w
  simp only [run_program, Result.andThen_ok, hst, Bool.false_eq_true, if_false, Sem.run_bind]
  simp [List.forIn_cons, h1, h2, hm, hl, Sem.run_bind]
theorem neqPt (f g : Nat → Nat) (w : World) : (binOp .neq 133 (.agg (arrK .u64 8 (cat2 f g))) (.agg (arrK .u64 8 (cat2 f g)))).run Tryd.prog w = .ok (.bool false) w := by rw [run_neq_struct, eqlPt]; rfl
theorem eqlPtB (f g : Nat → Nat) (w : World) : (binOp .eql 133 (.agg (arrK .u64 8 (cat2 f g))) (.agg (arrK .u64 8 (cat2 f g)))).run Tryd.prog w = .ok (.bool true) w := by rw [run_eql_struct, eqlPt]; rfl
section
variable {P : Program} {ops : Array Oper} {Q : Exit → Act → World → Prop}
theorem wpList_opW {rest : List Oper} {o : Oper} {a : Act} {w : World} (hw : Region.wanted o (yielded ops a.tmps) = true) (h : ∀ K : Act → World → Prop, (∀ a' w', wpList P ops Q rest a' w' → K a' w') → Oper.wp P o a w K Q) : wpList P ops Q (o :: rest) a w :=
  wpList_step fun K hK => by rw [if_pos hw]; exact h K hK
theorem calm_step_skipN {R : Nat → SRel} {a0 : Act} {w0 : World} {i g : Nat} {b : Bool} {d : Tmp} {o : Oper} (hg : o.guard = some (g, b)) (hd : dstAt ops g = some d)
    (hv : ∀ (a : Act) (w : World), Came ops R o a w → a.tmps[d]?.getD undef ≠ .bool b) (hR : ∀ w, (R i).p undef w) : StepOk P ops Q R a0 w0 i o := by
  intro a w K hb hu hc hK
  have hy : yielded ops a.tmps g ≠ some b := by
    intro hy
    have h1 := hv a w hc
    unfold dstAt at hd
    unfold yielded at hy
    rw [hd, Option.bind_some] at hy
    cases h2 : a.tmps[d]? with
    | none => rw [h2] at hy; cases hy
    | some v =>
      rw [h2] at hy h1
      cases v with
      | bool x =>
        have h3 : x = b := by simpa using hy
        subst h3
        exact h1 rfl
      | _ => cases hy
  rw [if_neg (by simp [Region.wanted, hg, hy])]
  exact hK undef w (hR w) (Below.refl _ _)
end
end Go.Proofs.YtgdiokklfihfoaaDoor
namespace Go.Proofs.YtgdiokklfihfoaaDoor
open Go.ChangeShapes Go.WideShapes Go.ChangeAt Go.RowKit
set_option maxHeartbeats 2000000
set_option maxRecDepth 100000
theorem on_of_ed {x y : Nat} (hx : x < fP) (hy : y < fP) (h : edOn (fi fP dN) (ptP x y)) : onB x y = true := by
  unfold onB
  rw [Bool.and_eq_true, Bool.and_eq_true, decide_eq_true_eq, decide_eq_true_eq, decide_eq_true_eq]
  refine ⟨⟨(Nat.mod_eq_of_lt hx).symm, (Nat.mod_eq_of_lt hy).symm⟩, ?_⟩
  have key : fi fP (difP (y * y % fP) (x * x % fP)) = fi fP ((1 + dN * ((x * x % fP) * (y * y % fP) % fP) % fP) % fP) := by
    simp only [fi_dif, fi_add, fi_one, fi_mul]
    unfold edOn ptP at h
    simp only at h
    rw [h]
    generalize fi fP x = a
    generalize fi fP y = b
    generalize fi fP dN = d
    clear h
    grind
  have h2 := congrArg Fin.val key
  rw [fi_val, fi_val, Nat.mod_mod] at h2
  exact (Nat.mod_eq_of_lt (show difP (y * y % fP) (x * x % fP) < fP from lt_P)).symm.trans h2
theorem tm_onB {x y : Nat} (h : onB x y = true) (k : Nat) : onB (tmP x y k).1.val (tmP x y k).2.val = true := by
  refine on_of_ed (tmP x y k).1.isLt (tmP x y k).2.isLt ?_
  have e : ptP (tmP x y k).1.val (tmP x y k).2.val = tmP x y k := by unfold ptP; rw [fi_self, fi_self]
  rw [e]
  exact tm_on h k
theorem or_b (b : Nat) (h : b < 128) : bits .or .u8 (b : Int) 0 = (b : Int) ∧ bits .or .u8 (b : Int) 128 = (b : Int) + 128 := by
  have h1 : ∀ y : Fin 128, bits .or .u8 ((y.val : Nat) : Int) 0 = ((y.val : Nat) : Int) := by decide +kernel
  have h2 : ∀ y : Fin 128, bits .or .u8 ((y.val : Nat) : Int) 128 = ((y.val : Nat) : Int) + 128 := by decide +kernel
  exact ⟨h1 ⟨b, h⟩, h2 ⟨b, h⟩⟩
theorem and_1w (x : Nat) : bits .and .u64 (wd x 0 : Int) 1 = ((x % 2 : Nat) : Int) := by
  have h := wd_lt x 0
  rw [show (1 : Int) = ((1 : Nat) : Int) from rfl, u64_and_nat (wd x 0) 1 h (by omega), Nat.and_one_is_mod]
  have : wd x 0 % 2 = x % 2 := by unfold wd; rw [Nat.mul_zero, Nat.pow_zero, Nat.div_one]; omega
  rw [this]
theorem build_32z (w : World) : (Instr.build 57 #[]).run Tryd.prog w = .ok (.agg (arrK .u8 32 fun _ => 0)) w := run_build w _ _ _ (by kernel_rfl)
attribute [local go_sem ↓] load_fld load_num store_num execl_num execs_num load_pt store_pt load_b32 store_b32 execl_b32 execs_b32
attribute [local go_sem] isHead_mk blkOf_mk isAgg_mk cellsV_mk row_drew rowAt_drew row_new_cells row_old rowAt_new rowAt_old setRow_new zeroNum zeroPt zero32
theorem curve_Pack (x y : Nat) (w : World) (hon : onB x y = true) (hx : x < fP) (hy : y < fP) : Calls Tryd.prog 105 #[ptV x y] w fun e w' => e = .returned (.tuple #[.agg (arrK .u8 32 (pkF x y)), .int .i64 0]) ∧ Below w.heap.size w w' := by
  have kO := Lib.hid (fun V => curve_On x y V (Nat.lt_trans hx P_lt) (Nat.lt_trans hy P_lt))
  rw [hon] at kO
  have kB := Lib.hid (fun V => limb_Bytes y V)
  have hb31 := byt_31 hy
  have hor := or_b _ hb31
  have hand := and_1w x
  clear hx hy hon
  unfold numV at kB
  unfold ptV at kO ⊢
  obtain ⟨PF, hPF⟩ : ∃ f, pkF x y = f := ⟨_, rfl⟩
  rw [hPF]
  have hPf := Lib.hid hPF
  have hcp := arrK_cells .u8 32 PF
  clear hPF
  have hcz := arrK_cells .u8 32 fun _ => 0
  have hcb := arrK_cells .u8 32 (byt y)
  have hL0 : Below w.heap.size w ((w.alloc (Obj.cells (arrK .u64 8 (cat2 (wd x) (wd y))) 133)).alloc (Obj.cells (arrK .u8 32 fun _ => 0) 57)) := by go_grown
  have hA0 : At ((w.alloc (Obj.cells (arrK .u64 8 (cat2 (wd x) (wd y))) 133)).alloc (Obj.cells (arrK .u8 32 fun _ => 0) 57)) w.heap.size .u64 8 (cat2 (wd x) (wd y)) := (At.new _ rfl).old _
  have hR0 : Row ((w.alloc (Obj.cells (arrK .u64 8 (cat2 (wd x) (wd y))) 133)).alloc (Obj.cells (arrK .u8 32 fun _ => 0) 57)) (w.heap.size + 1) 32 := (At.new (k := .u8) (f := fun _ => 0) _ (by simp)).row
  have hA := Lib.hid hA0
  have hR := Lib.hid hR0
  have hL := Lib.hid hL0
  clear hA0 hR0 hL0
  go_enter Tryd.func105, Tryd.ntmps105
  go_upto_region 1 with (fail)
  generalize (w.alloc _).alloc _ = W0 at *
  have hr1 := hA.out.row
  have hr2 := hA.out.eq
  go_wp2_with fail
  refine (kO.out _).mono ?_
  rintro e w1 ⟨rfl, hb⟩
  replace hA := Lib.hid (hA.out.step hb)
  replace hR := Lib.hid (row_below hR.out hb hR.out.lt)
  replace hL := Lib.hid (below_step hb hL.out (Nat.le_refl _))
  clear hr1 hr2 hb kO
  dsimp only
  have hl := pt_1 hA.out
  have hl1 := hl.1
  have hl2 := hl.2
  clear hl
  go_wp2_with fail
  refine (kB.out _).mono ?_
  rintro e w2 ⟨rfl, hb⟩
  replace hA := Lib.hid (hA.out.step hb)
  replace hR := Lib.hid (row_below hR.out hb hR.out.lt)
  replace hL := Lib.hid (below_step hb hL.out (Nat.le_refl _))
  clear hl1 hl2 hb kB
  dsimp only
  go_upto_region 4 with (fail)
  have hb := below_alloc w2 (Obj.cells (arrK .u8 32 (byt y)) 57)
  have hX := Lib.hid (At.new (w := w2) (k := .u8) (m := 32) (f := byt y) 57 rfl)
  have hgl := Lib.hid (show w.heap.size + 1 < w2.heap.size from hR.out.lt)
  replace hA := Lib.hid (hA.out.step hb)
  replace hR := Lib.hid (row_below hR.out hb hR.out.lt)
  replace hL := Lib.hid (below_step hb hL.out (Nat.le_refl _))
  clear hb
  generalize w2.alloc _ = W2 at *
  generalize w2.heap.size = g4 at *
  have cx := hA.out.cell (i := 0) (by omega)
  rw [show cat2 (wd x) (wd y) 0 = wd x 0 from rfl] at cx
  have cb := hX.out.cell (i := 31) (by omega)
  have fb := hX.out.row.frozen 31
  have hgn := Lib.hid (Nat.ne_of_lt hgl.out)
  have hgs := Lib.hid (show w.heap.size ≤ g4 by have := hgl.out; omega)
  rcases Nat.mod_two_eq_zero_or_one x with he | ho
  · rw [he] at hand
    have hand2 : bits .and .u64 (wd x 0 : Int) 1 = 0 := hand
    have ho1 := hor.1
    have heh := Lib.hid he
    have hX4 := Lib.hid ((hX.out.set 31 (byt y 31)).congr (f' := PF) fun i _ => by
      rw [← hPf.out]; unfold pkF upd; rw [heh.out]; rfl)
    have hR4 := Lib.hid ((row_setCell (w := W2) (a := ⟨g4, 31, none⟩) (v := .int .u8 ((byt y 31 : Nat) : Int))).2 hR.out)
    have hL4 := Lib.hid (hL.out.setCell (p := ⟨g4, 31, none⟩) hgs.out (.int .u8 ((byt y 31 : Nat) : Int)))
    clear hor hand he hA hX
    go_upto_region 5 with (fail)
    clear hR hL cb fb cx
    generalize W2.setCell _ _ = W5 at *
    have hr1 := hX4.out.row
    have hr2 := hX4.out.eq
    have hr3 := hR4.out
    go_wp2_with fail
    exact ret_stored2 (p := 2) (q := 3) (ty := 57) (g := w.heap.size + 1) (n := 32) (c := arrK .u8 32 PF) rfl Tryd.underlying57 rfl (by kernel_rfl) rfl hR4.out hcp.1 rfl ⟨rfl, below_setRow hL4.out (by omega)⟩
  · rw [ho] at hand
    have hand2 : bits .and .u64 (wd x 0 : Int) 1 = 1 := hand
    have ho1 := hor.2
    have heh := Lib.hid ho
    have hX4 := Lib.hid ((hX.out.set 31 (byt y 31 + 128)).congr (f' := PF) fun i _ => by
      rw [← hPf.out]; unfold pkF upd; rw [heh.out])
    have hR4 := Lib.hid ((row_setCell (w := W2) (a := ⟨g4, 31, none⟩) (v := .int .u8 ((byt y 31 + 128 : Nat) : Int))).2 hR.out)
    have hL4 := Lib.hid (hL.out.setCell (p := ⟨g4, 31, none⟩) hgs.out (.int .u8 ((byt y 31 + 128 : Nat) : Int)))
    rw [show ((byt y 31 + 128 : Nat) : Int) = (byt y 31 : Int) + 128 by push_cast; rfl] at hX4 hR4 hL4
    clear hor hand ho hA hX
    go_upto_region 5 with (fail)
    clear hR hL cb fb cx
    generalize W2.setCell _ _ = W5 at *
    have hr1 := hX4.out.row
    have hr2 := hX4.out.eq
    have hr3 := hR4.out
    go_wp2_with fail
    exact ret_stored2 (p := 2) (q := 3) (ty := 57) (g := w.heap.size + 1) (n := 32) (c := arrK .u8 32 PF) rfl Tryd.underlying57 rfl (by kernel_rfl) rfl hR4.out hcp.1 rfl ⟨rfl, below_setRow hL4.out (by omega)⟩
theorem base_on : onB bX bY = true := by decide +kernel
theorem base_lt : bX < fP ∧ bY < fP := by decide +kernel
/-- The bytes of the base's n-fold. -/
def bsF (n : Nat) : Nat → Nat := pkF (tmP bX bY n).1.val (tmP bX bY n).2.val
def atL (a : Nat) : Nat := if a = 0 then 1 else a
theorem atL_lt {a : Nat} (h : a < 2 ^ 256) : atL a < 2 ^ 256 := by
  unfold atL; split
  · decide +kernel
  · exact h
theorem sign_atLeast (a : Nat) (w : World) (ha : a < 2 ^ 256) : Calls Tryd.prog 62 #[numV a] w fun e w' => e = .returned (numV (atL a)) ∧ Below w.heap.size w w' := by
  have kE0 := fun W => eqlNum (a := a) (b := 0) ha (show 0 < 2 ^ 256 by decide +kernel) W
  unfold numV
  have hc0 := arrK_cells .u64 4 (wd 0)
  have hc1 := arrK_cells .u64 4 (wd 1)
  have hca := arrK_cells .u64 4 (wd a)
  have hL0 : Below w.heap.size w ((w.alloc (Obj.cells (arrK .u64 4 (wd a)) 41)).alloc (Obj.cells (arrK .u64 4 (wd 0)) 41)) := by go_grown
  have hA0 : At ((w.alloc (Obj.cells (arrK .u64 4 (wd a)) 41)).alloc (Obj.cells (arrK .u64 4 (wd 0)) 41)) w.heap.size .u64 4 (wd a) := (At.new _ rfl).old _
  have hR0 : Row ((w.alloc (Obj.cells (arrK .u64 4 (wd a)) 41)).alloc (Obj.cells (arrK .u64 4 (wd 0)) 41)) (w.heap.size + 1) 4 := (At.new (k := .u64) (f := wd 0) _ (by simp)).row
  have hL := Lib.hid hL0
  clear hL0
  go_enter Tryd.func62, Tryd.ntmps62
  go_upto_region 1 with (fail)
  generalize (w.alloc _).alloc _ = W0 at *
  have hr1 := hA0.row
  have hr2 := hA0.eq
  by_cases h1 : a = 0
  · rw [decide_eq_true h1] at kE0
    have kE := Lib.hid kE0
    have he := Lib.hid (show atL a = 1 by unfold atL; rw [if_pos h1])
    clear kE0 h1 hA0 ha
    go_upto_region 2 with (refine wpList_opW (by go_simp) (fun K hK => wp_eqlA (.inr rfl) (by kernel_rfl) (v := arrK .u64 4 (wd a)) (u := arrK .u64 4 (wd 0)) (by go_simp) (by go_simp) (kE.out _) (hK _ _ ?_)))
    go_wp2_with (refine wpList_opW (by go_simp) (fun K hK => wp_bldA rfl (vx := Value.int IntKind.u64 (1 : Int)) rfl (build_one _) (hK _ _ ?_)))
    exact ret_stored (p := 2) (ty := 41) (g := w.heap.size + 1) (n := 4) (c := arrK .u64 4 (wd 1)) rfl Tryd.underlying41 rfl (by kernel_rfl) rfl hR0 hc1.1 rfl ⟨by rw [he.out], below_setRow hL.out (by omega)⟩
  · rw [decide_eq_false h1] at kE0
    have kE := Lib.hid kE0
    have he := Lib.hid (show atL a = a by unfold atL; rw [if_neg h1])
    clear kE0 h1 hA0 ha
    go_wp2_with (refine wpList_opW (by go_simp) (fun K hK => wp_eqlA (.inr rfl) (by kernel_rfl) (v := arrK .u64 4 (wd a)) (u := arrK .u64 4 (wd 0)) (by go_simp) (by go_simp) (kE.out _) (hK _ _ ?_)))
    exact ret_stored (p := 2) (ty := 41) (g := w.heap.size + 1) (n := 4) (c := arrK .u64 4 (wd a)) rfl Tryd.underlying41 rfl (by kernel_rfl) rfl hR0 hca.1 rfl ⟨by rw [he.out], below_setRow hL.out (by omega)⟩
end Go.Proofs.YtgdiokklfihfoaaDoor
namespace Go.Proofs.YtgdiokklfihfoaaDoor
open Go Go.RowKit Go.ChangeShapes Go.WideShapes Go.ChangeAt Go.Deep

section
variable {P : Program} {w : World} {r : Reach} {b0 : Nat} {t : TypeId} {v : Value}

theorem oneCell_of_okWide {u : TypeId} {x : Value} (h : Cell.okWide P w r b0 u x) : x.oneCell' = true := by
  cases x <;> first | rfl | (exfalso; unfold Cell.okWide Cell.ok at h; revert h; split <;> (try split) <;> simp_all)

/-- A struct or an array by value: its cells, each of its own type. -/
theorem open_cells {n : Nat} {ts : List TypeId} (hu : (match P.underlying t with | some (.struct _) | some (.array _ _) => true | _ => false) = true) (hts : P.cellTypes P.depth t = some ts) (hn : ts.length = n)
    (hC : P.cellsOf t = n) (h : Value.okWide P w r b0 t v) : ∃ c : Array Value, v = .agg c ∧ Cells c n ∧ ∀ (i : Nat) u, ts[i]? = some u → ∃ x, c[i]? = some x ∧ Cell.okWide P w r b0 u x := by
  have h' : ∃ cs, v = .agg cs ∧ cs.size = P.cellsOf t ∧ Row.okWide P w r b0 t cs := by
    unfold Value.okWide at h
    cases hd : P.underlying t with
    | none => simp [hd] at hu
    | some d => cases d <;> first | (simp [hd] at hu; done) | (simpa [hd] using h)
  obtain ⟨c, rfl, hs, ts', hts', -, hc⟩ := h'
  obtain rfl : ts = ts' := Option.some.inj (hts.symm.trans hts')
  rw [hC] at hs
  refine ⟨c, rfl, ⟨hs, ?_⟩, fun i u hi => ?_⟩
  · rw [Array.all_eq_true_iff_forall_mem]
    intro x hx
    obtain ⟨i, hi⟩ := Array.getElem?_of_mem hx
    obtain ⟨u, -, hk⟩ := hc i x hi
    exact oneCell_of_okWide hk
  · have hil : i < ts.length := (List.getElem?_eq_some_iff.1 hi).1
    have hi2 : i < c.size := by omega
    obtain ⟨u', h1, h2⟩ := hc i c[i] (Array.getElem?_eq_getElem hi2)
    rw [Nat.mod_eq_of_lt hil] at h1
    obtain rfl : u = u' := Option.some.inj (hi.symm.trans h1)
    exact ⟨_, Array.getElem?_eq_getElem hi2, h2⟩

theorem cell_int {u : TypeId} {k : IntKind} {x : Value} (hu : P.underlying u = some (.int k)) (h : Cell.okWide P w r b0 u x) : ∃ n, x = .int k n ∧ k.has n := by
  cases x <;> simp [Cell.okWide, Cell.ok, hu] at h
  obtain ⟨rfl, h⟩ := h
  exact ⟨_, rfl, h⟩
theorem cell_slice {u e : TypeId} {x : Value} (hu : P.underlying u = some (.slice e)) (h : Cell.okWide P w r b0 u x) : ∃ a n c, x = .slice a n c ∧ n ≤ c ∧ c ≤ 9223372036854775807 := by
  cases x with
  | slice a n c =>
    cases a with
    | none =>
      cases n <;> cases c <;> simp [Cell.okWide, Cell.ok, hu] at h
      exact ⟨_, _, _, rfl, by omega, by omega⟩
    | some a =>
      simp [Cell.okWide, Cell.ok, hu] at h
      exact ⟨_, _, _, rfl, h.1, by have h2 : (c : Int) ≤ 9223372036854775807 := h.2.1; omega⟩
  | _ => simp [Cell.okWide, Cell.ok, hu] at h
theorem has_u8 {n : Int} (h : IntKind.u8.has n) : 0 ≤ n ∧ n < 256 := by simp [IntKind.has, IntKind.min, IntKind.max, IntKind.bits, IntKind.signed] at h; omega
theorem has_u32 {n : Int} (h : IntKind.u32.has n) : 0 ≤ n ∧ n < 4294967296 := by simp [IntKind.has, IntKind.min, IntKind.max, IntKind.bits, IntKind.signed] at h; omega
theorem has_u64 {n : Int} (h : IntKind.u64.has n) : 0 ≤ n ∧ n < 18446744073709551616 := by simp [IntKind.has, IntKind.min, IntKind.max, IntKind.bits, IntKind.signed] at h; omega
theorem has_i64 {n : Int} (h : IntKind.i64.has n) : -9223372036854775808 ≤ n ∧ n < 9223372036854775808 := by simp [IntKind.has, IntKind.min, IntKind.max, IntKind.bits, IntKind.signed] at h; omega
end

theorem cell_lt {w : World} {a : Addr} {v : Value} (h : w.cell? a = some v) : a.block < w.heap.size := by
  rcases Nat.lt_or_ge a.block w.heap.size with hlt | hge
  · exact hlt
  · simp only [World.cell?, Array.getElem?_eq_none hge] at h; cases h

/-- One choice for each index, as a list. -/
theorem list_of {α : Type} (n : Nat) (p : Nat → α → Prop) (h : ∀ i, i < n → ∃ x, p i x) : ∃ l : List α, l.length = n ∧ ∀ i (hi : i < l.length), p i l[i] := by
  induction n with
  | zero => exact ⟨[], rfl, fun i hi => absurd hi (by simp)⟩
  | succ n ih =>
    obtain ⟨l, hl, hp⟩ := ih fun i hi => h i (by omega)
    obtain ⟨x, hx⟩ := h n (by omega)
    refine ⟨l ++ [x], by simp [hl], fun i hi => ?_⟩
    by_cases hlt : i < l.length
    · rw [List.getElem_append_left hlt]; exact hp i hlt
    · have : i = l.length := by simp at hi; omega
      subst this
      rw [List.getElem_append_right (Nat.le_refl _)]
      simpa [hl] using hx

section
variable {H : Type} {enc : TypeId × Value → H} {P : Program} {w : World} {base : Nat} {spare : Nat → Bool} {held : Bool}

theorem wf_u8 {z : Int} (h : (Lit.int .u8 z).wf = true) : 0 ≤ z ∧ z < 256 := by
  simp only [Lit.wf, Bool.and_eq_true, decide_eq_true_eq] at h
  exact has_u8 h

/-- A slice of bytes that came in, by its reading. -/
theorem open_bytes {t e : TypeId} {fuel : Nat} {v : Value} {x : DataW H × List MemPlace} (ht : P.underlying t = some (.slice e)) (he : P.underlying e = some (.int .u8)) (hc : P.cellsOf e = 1)
    (h : DataW.trod enc P w base spare held fuel t [v] = some x) : ∃ (A : Option Addr) (l : List UInt8) (c : Nat), v = .slice A l.length c ∧ Rd w w.heap.size A (bytesV l) ∧ l.length ≤ c ∧ c ≤ maxLen := by
  rcases open_ints ht he hc h with ⟨hcs, -⟩ | ⟨a, len, cap, zs, hcs, -, hl, hm, hz, -, hcell, hwz⟩
  · injection hcs with hv
    exact ⟨none, [], 0, hv, Rd.nil, by simp, by simp [maxLen]⟩
  · injection hcs with hv
    have hlz : len ≤ zs.length := by rw [hz]; split <;> omega
    have hmap : ((zs.take len).map fun z => UInt8.ofNat z.toNat).length = len := by simp; omega
    refine ⟨some a, (zs.take len).map fun z => UInt8.ofNat z.toNat, cap, by rw [hmap]; exact hv, fun j u hu => ?_, by rw [hmap]; exact hl, hm⟩
    have hj : j < len := by
      have := (List.getElem?_eq_some_iff.1 hu).1
      simp [bytesV] at this; omega
    have hjz : j < zs.length := by omega
    have hcj := hcell j hjz
    have hlt := cell_lt hcj
    rw [addr_block] at hlt
    refine ⟨a, rfl, hlt, ?_⟩
    rw [hcj, ← hu]
    have hw := wf_u8 (hwz zs[j] (List.getElem_mem hjz))
    simp [bytesV, hj, List.getElem?_eq_getElem hjz, UInt8.toNat_ofNat']
    omega

/-- A slice of structs of one-cell fields that came in: each field's cell, and its own reading. -/
theorem open_rows {t e : TypeId} {fs : Array Field} {fuel : Nat} {v : Value} {x : DataW H × List MemPlace} (ht : P.underlying t = some (.slice e)) (he : P.underlying e = some (.struct fs))
    (hone : oneCellFields P fs = true) (hC : P.cellsOf e = fs.size) (h : DataW.trod enc P w base spare held fuel t [v] = some x) :
    ∃ (A : Option Addr) (n c : Nat), v = .slice A n c ∧ n ≤ c ∧ c ≤ maxLen ∧ ∀ i, i < n → ∃ a, A = some a ∧
      ∀ (j : Nat) (f : Field), fs[j]? = some f → ∃ (u : Value) (y : DataW H × List MemPlace) (m : Nat), w.cell? (a.add (i * fs.size + j)) = some u ∧ DataW.trod enc P w base spare held m f.type [u] = some y := by
  rcases open_slice ht h with ⟨hcs, -⟩ | ⟨a, len, cap, m, n, D, Pl, hcs, -, hl, hm, hmm, -, hi⟩
  · injection hcs with hv
    exact ⟨none, 0, 0, hv, Nat.le_refl _, by simp [maxLen], fun i hi => absurd hi (by omega)⟩
  · injection hcs with hv
    refine ⟨some a, len, cap, hv, hl, hm, fun i hil => ⟨a, rfl, fun j f hj => ?_⟩⟩
    have him : i < m := by rw [hmm]; split <;> omega
    obtain ⟨cs', hc, ht'⟩ := hi i him
    rw [hC] at hc
    obtain ⟨ys, n', -, -, -, hyl, hf⟩ := DataW.trod_struct he ht'
    obtain ⟨_, hcl, hat⟩ := World.cells?_some hc
    obtain ⟨ho, hk⟩ := hone_of hone j f hj
    have hjl : j < fs.size := (Array.getElem?_eq_some_iff.1 hj).1
    have hcell := hat j hjl
    have hv : cs'[j]? = some (cs'[j]'(by omega)) := List.getElem?_eq_getElem (by omega)
    have h1 := hf j f hj
    rw [ho, hk] at h1
    have hone' : (cs'.drop j).take 1 = [cs'[j]'(by omega)] := by
      rw [List.drop_eq_getElem_cons (by omega)]
      rfl
    rw [hone'] at h1
    have hys : ys[j]? = some (ys[j]'(by omega)) := List.getElem?_eq_getElem (by omega)
    refine ⟨_, _, n', ?_, h1.trans hys⟩
    rw [← addr_add, hcell, hv]
end
end Go.Proofs.YtgdiokklfihfoaaDoor
namespace Go.Proofs.YtgdiokklfihfoaaDoor
open Go Go.RowKit Go.ChangeShapes Go.WideShapes Go.ChangeAt Go.Deep

section
variable {P : Program} {w : World} {r : Reach} {b0 : Nat} {t : TypeId} {v : Value}

theorem val_int {k : IntKind} (hu : P.underlying t = some (.int k)) (h : Value.okWide P w r b0 t v) : ∃ n, v = .int k n ∧ k.has n := by
  have h' : Cell.okWide P w r b0 t v := by
    unfold Value.okWide at h
    simpa [hu] using h
  exact cell_int hu h'
theorem val_u8 (hu : P.underlying t = some (.int .u8)) (h : Value.okWide P w r b0 t v) : ∃ n : Nat, v = .int .u8 n ∧ n < 256 := by
  obtain ⟨n, rfl, hn⟩ := val_int hu h
  have := has_u8 hn
  exact ⟨n.toNat, by rw [Int.toNat_of_nonneg this.1], by omega⟩
theorem val_u64 (hu : P.underlying t = some (.int .u64)) (h : Value.okWide P w r b0 t v) : ∃ n : Nat, v = .int .u64 n ∧ n < 18446744073709551616 := by
  obtain ⟨n, rfl, hn⟩ := val_int hu h
  have := has_u64 hn
  exact ⟨n.toNat, by rw [Int.toNat_of_nonneg this.1], by omega⟩
theorem val_i64 (hu : P.underlying t = some (.int .i64)) (h : Value.okWide P w r b0 t v) : ∃ n : Int, v = .int .i64 n ∧ -9223372036854775808 ≤ n ∧ n < 9223372036854775808 := by
  obtain ⟨n, rfl, hn⟩ := val_int hu h
  exact ⟨n, rfl, has_i64 hn⟩

/-- An array of unsigned integers by value. -/
theorem val_arr {k : IntKind} {e : TypeId} {n m : Nat} (hk : ∀ z, k.has z → 0 ≤ z ∧ z < m) (hu : P.underlying t = some (.array n e)) (he : P.underlying e = some (.int k)) (hts : P.cellTypes P.depth t = some (List.replicate n e))
    (hC : P.cellsOf t = n) (h : Value.okWide P w r b0 t v) : ∃ f : Nat → Nat, v = .agg (arrK k n f) ∧ ∀ i < n, f i < m := by
  obtain ⟨c, rfl, hc, hx⟩ := open_cells (by simp [hu]) hts (by simp) hC h
  have h1 : ∀ i, ∃ z : Nat, i < n → c[i]? = some (.int k z) ∧ z < m := fun i => by
    by_cases hi : i < n
    · obtain ⟨x, hx1, hx2⟩ := hx i e (by simp [hi])
      obtain ⟨z, rfl, hz⟩ := cell_int he hx2
      have := hk z hz
      exact ⟨z.toNat, fun _ => ⟨by rw [Int.toNat_of_nonneg this.1]; exact hx1, by omega⟩⟩
    · exact ⟨0, fun h => absurd h hi⟩
  refine ⟨fun i => (h1 i).choose, ?_, fun i hi => ((h1 i).choose_spec hi).2⟩
  exact congrArg Value.agg (arrK_of hc.1 fun i hi => ((h1 i).choose_spec hi).1)
end
end Go.Proofs.YtgdiokklfihfoaaDoor
namespace Go.Proofs.YtgdiokklfihfoaaDoor
open Go Go.RowKit Go.ChangeShapes Go.WideShapes Go.ChangeAt Go.Deep
set_option maxRecDepth 100000
theorem open_pt {w : World} {r : Reach} {b0 : Nat} {v : Value} (h : Value.okWide Tryd.prog w r b0 133 v) : ∃ x y : Nat, v = ptV x y ∧ x < 2 ^ 256 ∧ y < 2 ^ 256 := by
  obtain ⟨c, rfl, hc, hx⟩ := open_cells (n := 8) (ts := List.replicate 8 39) rfl (by kernel_rfl) (by simp) (by kernel_rfl) h
  have h1 : ∀ i, ∃ z : Nat, i < 8 → c[i]? = some (.int .u64 z) ∧ z < 18446744073709551616 := fun i => by
    by_cases hi : i < 8
    · obtain ⟨x, hx1, hx2⟩ := hx i 39 (by rw [List.getElem?_replicate, if_pos hi])
      obtain ⟨z, rfl, hz⟩ := cell_int Tryd.underlying39 hx2
      have := has_u64 hz
      exact ⟨z.toNat, fun _ => ⟨by rw [Int.toNat_of_nonneg this.1]; exact hx1, by omega⟩⟩
    · exact ⟨0, fun h => absurd h hi⟩
  obtain ⟨f, hf⟩ : ∃ f : Nat → Nat, ∀ i < 8, c[i]? = some (.int .u64 (f i)) ∧ f i < 18446744073709551616 := ⟨fun i => (h1 i).choose, fun i hi => (h1 i).choose_spec hi⟩
  have b1 : ∀ i < 4, f i < 18446744073709551616 := fun i hi => (hf i (by omega)).2
  have b2 : ∀ i < 4, (fun i => f (4 + i)) i < 18446744073709551616 := fun i hi => (hf (4 + i) (by omega)).2
  refine ⟨wval f 4, wval (fun i => f (4 + i)) 4, ?_, wval_lt b1, wval_lt b2⟩
  unfold ptV
  refine congrArg Value.agg ?_
  rw [arrK_V .u64 8]
  refine arrV_of hc.1 fun i hi => ?_
  rw [(hf i hi).1]
  unfold cat2
  by_cases h4 : i < 4
  · rw [if_pos h4, wd_wval b1 i h4]
  · rw [if_neg h4, wd_wval b2 (i - 4) (by omega)]
    rw [show 4 + (i - 4) = i by omega]
end Go.Proofs.YtgdiokklfihfoaaDoor
namespace Go.Proofs.YtgdiokklfihfoaaDoor
open Go.ChangeShapes Go.WideShapes Go.ChangeAt Go.RowKit
set_option maxHeartbeats 2000000
set_option maxRecDepth 100000
attribute [local go_sem ↓] load_fld load_num store_num execl_num execs_num load_pt store_pt execl_pt execs_pt load_qd store_qd execl_qd execs_qd
attribute [local go_sem] isHead_mk blkOf_mk isAgg_mk cellsV_mk row_drew rowAt_drew row_new_cells row_old rowAt_new rowAt_old setRow_new zeroNum zeroPt zeroQd
theorem build_ptZ (w : World) : (Instr.build 133 #[]).run Tryd.prog w = .ok (.agg (arrK .u64 8 (cat2 (wd 0) (wd 0)))) w := run_build w _ _ _ (by kernel_rfl)
section
variable {P : Program} {ops : Array Oper} {o : Oper} {a : Act} {w : World} {K : Act → World → Prop} {Q : Exit → Act → World → Prop} {t : TypeId} {u : Value}
theorem wp_bldE (ho : o.op = .build t #[]) (hr : (Instr.build t #[]).run P w = .ok u w) (h : K (a.put o.dst u) w) : Oper.wp P o a w K Q := by
  obtain ⟨dst, op, tt, pos, af, gd⟩ := o
  subst ho
  unfold Oper.wp execOp
  simp only [List.map_toArray, List.map_nil, Sem.run_bind, hr, Result.andThen_ok]
  exact h
end
theorem qplus_lt4 {x1 y1 z1 t1 x2 y2 z2 t2 : Nat} {r : Nat × Nat × Nat × Nat} (hr : qplus x1 y1 z1 t1 x2 y2 z2 t2 = r) : r.1 < 2 ^ 256 ∧ r.2.1 < 2 ^ 256 ∧ r.2.2.1 < 2 ^ 256 ∧ r.2.2.2 < 2 ^ 256 := by
  subst hr
  exact ⟨low_lt, low_lt, low_lt, low_lt⟩
/-- One round of the program's multiple. -/
theorem tm_round {x y n i X Y Z T X2 Y2 Z2 T2 : Nat} (h : onB x y = true) (hq : RpQ (tmP x y (n / 2 ^ (i + 1))) X Y Z T) (h2 : qplus X Y Z T X Y Z T = (X2, Y2, Z2, T2)) :
    (abit n i = 0 → RpQ (tmP x y (n / 2 ^ i)) X2 Y2 Z2 T2) ∧ (abit n i = 1 → ∀ X3 Y3 Z3 T3, qplus X2 Y2 Z2 T2 x y 1 (x * y % fP) = (X3, Y3, Z3, T3) → RpQ (tmP x y (n / 2 ^ i)) X3 Y3 Z3 T3) := by
  have k := rpQ_plus h hq hq h2
  have hu := half_up n i
  simp only at k
  constructor
  · intro hb
    rw [hu, hb, Nat.add_zero, Nat.two_mul]
    exact k
  · intro hb X3 Y3 Z3 T3 h3
    have k2 := rpQ_plus h k rpQ_one h3
    rw [hu, hb, Nat.two_mul]
    exact k2
theorem curve_Times (n x y : Nat) (w : World) (hn : n < 2 ^ 256) (hx : x < 2 ^ 256) (hy : y < 2 ^ 256) : Calls Tryd.prog 103 #[numV n, ptV x y] w fun e w' => e = .returned (bif onB x y then .tuple #[ptV (tmP x y n).1.val (tmP x y n).2.val, .int .i64 0] else .tuple #[ptV 0 0, .int .i64 1]) ∧ Below w.heap.size w w' := by
  have h1l : 1 < 2 ^ 256 := by decide +kernel
  have h0l : 0 < 2 ^ 256 := by decide +kernel
  have kO := Lib.hid (fun V => curve_On x y V hx hy)
  have kZ := Lib.hid (fun V => curve_Zero V)
  have kQ0 := Lib.hid (fun V => curve_quadOf 0 1 V h0l h1l)
  have kQ1 := Lib.hid (fun V => curve_quadOf x y V hx hy)
  have kLn := Lib.hid (fun V => limb_Len n V hn)
  have hRd := Lib.hid (fun h i X Y Z T X2 Y2 Z2 T2 hq h2 => @tm_round x y n i X Y Z T X2 Y2 Z2 T2 h hq h2)
  have hS0 := Lib.hid (fun s (hs : n < 2 ^ s) => show RpQ (tmP x y (n / 2 ^ s)) 0 1 1 (0 * 1 % fP) by rw [Nat.div_eq_of_lt hs]; exact rpQ_zero)
  have hLe := Lib.hid (fun s (hs : IsLen n s) => show s ≤ 256 by
    rcases hs.2 with h | h
    · omega
    · rcases Nat.lt_or_ge 256 s with h3 | h3
      · exfalso
        have h2 : 2 ^ 256 ≤ 2 ^ (s - 1) := Nat.pow_le_pow_right (by omega) (by omega)
        generalize (2 : Nat) ^ 256 = P at *
        omega
      · exact h3)
  have hEnd := Lib.hid (fun X Y Z T (h : RpQ (tmP x y (n / 2 ^ 0)) X Y Z T) => rpN_out (show RpN (tmP x y n) X Y Z from ⟨by rw [Nat.pow_zero, Nat.div_one] at h; exact h.r⟩))
  have hBt := Lib.hid (fun i (hi : i < 256) V => bitC n i hi V)
  have hab := Lib.hid (fun i => show abit n i = 0 ∨ abit n i = 1 by unfold abit; omega)
  obtain ⟨mx, hmx⟩ : ∃ v, (tmP x y n).1.val = v := ⟨_, rfl⟩
  obtain ⟨my, hmy⟩ : ∃ v, (tmP x y n).2.val = v := ⟨_, rfl⟩
  rw [hmx, hmy] at hEnd ⊢
  obtain ⟨o, ho⟩ : ∃ b, onB x y = b := ⟨_, rfl⟩
  rw [ho] at kO hRd ⊢
  obtain ⟨t0, ht0⟩ : ∃ v, 0 * 1 % fP = v := ⟨_, rfl⟩
  rw [ht0] at kQ0 hS0
  have lt0 : t0 < 2 ^ 256 := ht0 ▸ low_lt
  have ltt : x * y % fP < 2 ^ 256 := low_lt
  obtain ⟨t1, ht1⟩ : ∃ v, x * y % fP = v := ⟨_, rfl⟩
  rw [ht1] at kQ1 ltt hRd
  have hBd := Lib.hid (And.intro hx (And.intro hy (And.intro h1l (And.intro ltt (And.intro h0l lt0)))))
  clear ltt lt0 ht0 ht1 ho hmx hmy hn hx hy h0l h1l
  unfold numV at kLn
  unfold ptV at kO kZ kQ0 kQ1 ⊢
  unfold quadV at kQ0 kQ1
  try unfold numV
  have hcz := arrK_cells .u64 8 (cat2 (wd 0) (wd 0))
  have hcm := arrK_cells .u64 8 (cat2 (wd mx) (wd my))
  have hcq := arrK_cells .u64 16 (cat4 (wd 0) (wd 0) (wd 0) (wd 0))
  have hcq0 := arrK_cells .u64 16 (cat4 (wd 0) (wd 1) (wd 1) (wd t0))
  have hcq1 := arrK_cells .u64 16 (cat4 (wd x) (wd y) (wd 1) (wd t1))
  have hL0 : Below w.heap.size w (((w.alloc (Obj.cells (arrK .u64 4 (wd n)) 41)).alloc (Obj.cells (arrK .u64 8 (cat2 (wd x) (wd y))) 133)).alloc (Obj.cells (arrK .u64 8 (cat2 (wd 0) (wd 0))) 133)) := by go_grown
  have hN0 : At (((w.alloc (Obj.cells (arrK .u64 4 (wd n)) 41)).alloc (Obj.cells (arrK .u64 8 (cat2 (wd x) (wd y))) 133)).alloc (Obj.cells (arrK .u64 8 (cat2 (wd 0) (wd 0))) 133)) w.heap.size .u64 4 (wd n) := (((At.new _ rfl)).old _).old _
  have hA0 : At (((w.alloc (Obj.cells (arrK .u64 4 (wd n)) 41)).alloc (Obj.cells (arrK .u64 8 (cat2 (wd x) (wd y))) 133)).alloc (Obj.cells (arrK .u64 8 (cat2 (wd 0) (wd 0))) 133)) (w.heap.size + 1) .u64 8 (cat2 (wd x) (wd y)) := ((At.new _ (by simp))).old _
  have hR0 : Row (((w.alloc (Obj.cells (arrK .u64 4 (wd n)) 41)).alloc (Obj.cells (arrK .u64 8 (cat2 (wd x) (wd y))) 133)).alloc (Obj.cells (arrK .u64 8 (cat2 (wd 0) (wd 0))) 133)) (w.heap.size + 1 + 1) 8 := (At.new (k := .u64) (f := cat2 (wd 0) (wd 0)) _ (by simp)).row
  have hL := Lib.hid hL0
  have hN := Lib.hid hN0
  have hA := Lib.hid hA0
  have hR := Lib.hid hR0
  clear hL0 hN0 hA0 hR0
  go_enter Tryd.func103, Tryd.ntmps103
  go_upto_region 1 with (fail)
  generalize ((w.alloc _).alloc _).alloc _ = W0 at *
  have hr1 := hA.out.row
  have hr2 := hA.out.eq
  go_wp2_with fail
  refine (kO.out _).mono ?_
  rintro e w2 ⟨rfl, hb⟩
  replace hN := Lib.hid (hN.out.step hb)
  replace hA := Lib.hid (hA.out.step hb)
  replace hR := Lib.hid (row_below hR.out hb hR.out.lt)
  replace hL := Lib.hid (below_step hb hL.out (Nat.le_refl _))
  clear hr1 hr2 hb kO
  dsimp only
  cases o with
  | false =>
    have hrR := hR.out
    go_wp2_with (first
      | refine wpList_opW (by go_simp) (fun K hK => wp_bldE rfl (build_ptZ _) (hK _ _ ?_)))
    exact ret_stored2 (p := 4) (q := 5) (ty := 133) (g := w.heap.size + 1 + 1) (n := 8) (c := arrK .u64 8 (cat2 (wd 0) (wd 0))) rfl Tryd.underlying133 rfl (by kernel_rfl) rfl hrR hcz.1 rfl ⟨rfl, below_setRow hL.out (by omega)⟩
  | true =>
    go_upto_region 3 with (fail)
    generalize ha0 : Act.mk _ _ = a0
    have e3 : a0.tmps[3]?.getD undef = .pointer (some ⟨w.heap.size + 1, 0, none⟩) := by rw [← ha0]; rfl
    have hz0 : a0.tmps.size = 36 := by rw [← ha0]; rfl
    have hha0 := Lib.hid ha0
    clear ha0
    refine wp_region_fresh ⟨fun jx_ => match jx_ with | 0 => some (.agg (arrK .u64 8 (cat2 (wd 0) (wd 1)))) | 1 => some (.agg (arrK .u64 16 (cat4 (wd 0) (wd 1) (wd 1) (wd t0)))) | 2 => some (.agg (arrK .u64 8 (cat2 (wd x) (wd y)))) | 3 => some (.agg (arrK .u64 16 (cat4 (wd x) (wd y) (wd 1) (wd t1)))) | _ => none, fun jx_ => match jx_ with | 4 => some 16 | 5 => some 16 | _ => none, fun jx_ => match jx_ with | 6 => some 4 | 7 => some 5 | _ => none, fun jx_ => match jx_ with | 6 => arrK .u64 16 (cat4 (wd 0) (wd 1) (wd 1) (wd t0)) | 7 => arrK .u64 16 (cat4 (wd x) (wd y) (wd 1) (wd t1)) | _ => #[]⟩ (by kernel_rfl) (by kernel_rfl) (by kernel_rfl) (slotsOk_of hz0 (by kernel_rfl)) rfl ⟨?_, ?_, ?_, ?_, ?_, ?_, ?_, ?_, trivial⟩ ?_
    · refine fstep_val rfl rfl (calm_step rfl fun aa ω κ hb hu hc hK => ?_)
      have hk := Lib.hid (fun w1 (h : Below ω.heap.size ω w1) => hK (.agg (arrK .u64 8 (cat2 (wd 0) (wd 1)))) w1 rfl h)
      clear hK hu hc
      go_simp
      go_at_call 145
      refine (kZ.out _).mono ?_
      rintro e w1 ⟨rfl, hb1⟩
      exact hk.out _ hb1
    · refine fstep_val rfl rfl (calm_step rfl fun aa ω κ hb hu hc hK => ?_)
      have h13 : aa.tmps[13]?.getD undef = .agg (arrK .u64 8 (cat2 (wd 0) (wd 1))) := hc 0 13 rfl rfl
      have hk := Lib.hid (fun w1 (h : Below ω.heap.size ω w1) => hK (.agg (arrK .u64 16 (cat4 (wd 0) (wd 1) (wd 1) (wd t0)))) w1 rfl h)
      clear hK hu hc
      go_simp
      go_at_call 144
      refine (kQ0.out _).mono ?_
      rintro e w1 ⟨rfl, hb1⟩
      exact hk.out _ hb1
    · refine fstep_val rfl rfl (calm_step rfl fun aa ω κ hb hu hc hK => ?_)
      have h3 : aa.tmps[3]?.getD undef = .pointer (some ⟨w.heap.size + 1, 0, none⟩) := (hu 3 rfl).trans e3
      have hk := Lib.hid (fun w1 (h : Below ω.heap.size ω w1) => hK (.agg (arrK .u64 8 (cat2 (wd x) (wd y)))) w1 rfl h)
      clear hK hu hc
      have hr1 := (hA.out.step hb).row
      have hr2 := (hA.out.step hb).eq
      go_simp
      exact hk.out _ (Below.refl _ _)
    · refine fstep_val rfl rfl (calm_step rfl fun aa ω κ hb hu hc hK => ?_)
      have h15 : aa.tmps[15]?.getD undef = .agg (arrK .u64 8 (cat2 (wd x) (wd y))) := hc 2 15 rfl rfl
      have hk := Lib.hid (fun w1 (h : Below ω.heap.size ω w1) => hK (.agg (arrK .u64 16 (cat4 (wd x) (wd y) (wd 1) (wd t1)))) w1 rfl h)
      clear hK hu hc
      go_simp
      go_at_call 144
      refine (kQ1.out _).mono ?_
      rintro e w1 ⟨rfl, hb1⟩
      exact hk.out _ hb1
    · refine fstep_al (n := 16) rfl rfl fun aa ω κ hK => ?_
      have hk := Lib.hid hK
      clear hK
      go_simp
      exact hk.out _ _ hcq
    · refine fstep_al (n := 16) rfl rfl fun aa ω κ hK => ?_
      have hk := Lib.hid hK
      clear hK
      go_simp
      exact hk.out _ _ hcq
    · refine fstep_st (j := 4) (n := 16) (d := 6) rfl rfl rfl rfl rfl hcq0.1 rfl rfl fun aa ω κ g hb hu hc hp hr hK => ?_
      have h14 : aa.tmps[14]?.getD undef = .agg (arrK .u64 16 (cat4 (wd 0) (wd 1) (wd 1) (wd t0))) := hc 1 14 rfl rfl
      have hk := Lib.hid hK
      clear hK hu hc
      have hcc := hcq0
      go_simp
      exact hk.out undef
    · refine fstep_st (j := 5) (n := 16) (d := 7) rfl rfl rfl rfl rfl hcq1.1 rfl rfl fun aa ω κ g hb hu hc hp hr hK => ?_
      have h16 : aa.tmps[16]?.getD undef = .agg (arrK .u64 16 (cat4 (wd x) (wd y) (wd 1) (wd t1))) := hc 3 16 rfl rfl
      have hk := Lib.hid hK
      clear hK hu hc
      have hcc := hcq1
      go_simp
      exact hk.out undef
    · intro a1 w1 G I
      have ha0 := hha0.out
      subst ha0
      have he := act_patch (n := 36) [false, false, false, false, false, false, true, true, false, false, false, false, false, true, true, true, true, false, false, false, false, false, false, false, false, false, false, false, false, false, false, false, false, false, false, false] rfl (by kernel_rfl) I.un I.sz I.df
      simp only [patch, cond_true, cond_false, Nat.reduceAdd] at he
      have hal6 := I.al 4 6 16 rfl rfl rfl
      have hal7 := I.al 5 7 16 rfl rfl rfl
      have hltR := hR.out.lt
      replace hN := Lib.hid (hN.out.step I.bel)
      replace hR := Lib.hid (row_below hR.out I.bel hR.out.lt)
      replace hL := Lib.hid (below_step I.bel hL.out (Nat.le_refl _))
      have hX := Lib.hid (show At w1 (G 4) .u64 16 (cat4 (wd 0) (wd 1) (wd 1) (wd t0)) from ⟨(I.blk 4 16 rfl rfl).2, (I.row 6 4 rfl rfl).2.2⟩)
      have hY := Lib.hid (show At w1 (G 5) .u64 16 (cat4 (wd x) (wd y) (wd 1) (wd t1)) from ⟨(I.blk 5 16 rfl rfl).2, (I.row 7 5 rfl rfl).2.2⟩)
      have hGn := Lib.hid (And.intro (I.ne 4 5 16 16 rfl rfl rfl rfl (by decide)) (show w.heap.size + 1 + 1 < G 4 from Nat.lt_of_lt_of_le hltR (I.blk 4 16 rfl rfl).1))
      clear hltR kZ kQ0 kQ1 hA
      clear I hz0 hha0 e3
      rw [he]
      clear he
      rw [hal6]
      rw [hal7]
      clear hal6 hal7
      generalize a1.tmps[13]?.getD undef = x13 at *
      generalize a1.tmps[14]?.getD undef = x14 at *
      generalize a1.tmps[15]?.getD undef = x15 at *
      generalize a1.tmps[16]?.getD undef = x16 at *
      obtain ⟨g6, hg⟩ : ∃ g, G 4 = g := ⟨_, rfl⟩
      rw [hg] at hX hGn ⊢
      clear hg
      obtain ⟨g7, hg⟩ : ∃ g, G 5 = g := ⟨_, rfl⟩
      rw [hg] at hY hGn ⊢
      clear hg
      generalize w1 = W3 at *
      have hr1 := hN.out.row
      have hr2 := hN.out.eq
      go_wp2_with fail
      refine (kLn.out _).mono ?_
      rintro e w4 ⟨s0, rfl, hs0, hb⟩
      replace hN := Lib.hid (hN.out.step hb)
      replace hR := Lib.hid (row_below hR.out hb hR.out.lt)
      replace hX := Lib.hid (hX.out.step hb)
      replace hY := Lib.hid (hY.out.step hb)
      replace hL := Lib.hid (below_step hb hL.out (Nat.le_refl _))
      clear hr1 hr2 hb kLn
      have hs0l := hLe.out _ hs0
      have hq0 := Lib.hid (hS0.out _ hs0.1)
      clear hLe hS0 hs0
      dsimp only
      have ws : IntKind.i64.wrap ((s0 : Int) - 1) = (s0 : Int) - 1 := by rw [IntKind.wrap_i64]; omega
      go_upto_region 5 with (fail)
      clear ws
      go_loopw [8] (fun vi wr => ∃ s X Y Z T : Nat, vi = .int .i64 ((s : Int) - 1) ∧ s ≤ 256 ∧ X < 2 ^ 256 ∧ Y < 2 ^ 256 ∧ Z < 2 ^ 256 ∧ T < 2 ^ 256 ∧ RpQ (tmP x y (n / 2 ^ s)) X Y Z T ∧ At wr g6 .u64 16 (cat4 (wd X) (wd Y) (wd Z) (wd T)) ∧ At wr g7 .u64 16 (cat4 (wd x) (wd y) (wd 1) (wd t1)) ∧ At wr w.heap.size .u64 4 (wd n) ∧ Row wr (w.heap.size + 1 + 1) 8 ∧ Below w.heap.size w wr) (fun vi _ => (intOf vi + 1).toNat)
      case atStart => exact ⟨s0, 0, 1, 1, t0, (by first | rfl | trivial), hs0l, hBd.out.2.2.2.2.1, hBd.out.2.2.1, hBd.out.2.2.1, hBd.out.2.2.2.2.2, hq0.out, hX.out, hY.out, hN.out, hR.out, hL.out⟩
      case round =>
        clear hX hY hN hR hL hq0
        obtain ⟨s, X, Y, Z, T, rfl, hs, hX1, hX2, hX3, hX4, hq, hX0, hY0, hN0, hR0, hL0⟩ := hrel
        have hX := Lib.hid hX0
        have hY := Lib.hid hY0
        have hN := Lib.hid hN0
        have hR := Lib.hid hR0
        have hL := Lib.hid hL0
        have hQ := Lib.hid hq
        clear hX0 hY0 hN0 hR0 hL0 hq
        rcases Nat.eq_zero_or_pos s with rfl | hs1
        · have hpt := hEnd.out X Y Z T hQ.out
          have kPt := quad_point X Y Z T wr hX1 hX2 hX3
          rw [hpt.1, hpt.2] at kPt
          unfold quadV ptV at kPt
          have hHpt := Lib.hid kPt
          clear hpt kPt hX1 hX2 hX3 hX4 hQ hRd hBt hab hEnd
          have hr1 := hX.out.row
          have hr2 := hX.out.eq
          have d1 : decide ((0 : Int) ≤ ((0 : Nat) : Int) - 1) = false := by simp
          go_wp2_with fail
          refine hHpt.out.mono ?_
          rintro e w5 ⟨rfl, hb⟩
          have hR2 := row_below hR.out hb hR.out.lt
          have hL2 := below_step hb hL.out (Nat.le_refl _)
          clear hr1 hr2 hb hHpt hX hY hN hR hL
          dsimp only
          go_wp2_with fail
          exact ret_stored2 (p := 4) (q := 5) (ty := 133) (g := w.heap.size + 1 + 1) (n := 8) (c := arrK .u64 8 (cat2 (wd mx) (wd my))) rfl Tryd.underlying133 rfl (by kernel_rfl) rfl hR2 hcm.1 rfl ⟨rfl, below_setRow hL2 (by omega)⟩
        · obtain ⟨i, rfl⟩ : ∃ i, s = i + 1 := ⟨s - 1, by omega⟩
          have hi : i < 256 := by omega
          obtain ⟨⟨X5, Y5, Z5, T5⟩, hr⟩ : ∃ r, qplus X Y Z T X Y Z T = r := ⟨_, rfl⟩
          have kP := Lib.hid (quad_plusQ X Y Z T X Y Z T wr hX1 hX2 hX3 hX4 hX1 hX2 hX3 hX4 _ hr)
          have hb5 := qplus_lt4 hr
          have hrd := Lib.hid (hRd.out (by trivial) i X Y Z T X5 Y5 Z5 T5 hQ.out hr)
          obtain ⟨⟨X6, Y6, Z6, T6⟩, hr6⟩ : ∃ r, qplus X5 Y5 Z5 T5 x y 1 t1 = r := ⟨_, rfl⟩
          have kP2 := Lib.hid (fun V => quad_plusQ X5 Y5 Z5 T5 x y 1 t1 V hb5.1 hb5.2.1 hb5.2.2.1 hb5.2.2.2 hBd.out.1 hBd.out.2.1 hBd.out.2.2.1 hBd.out.2.2.2.1 _ hr6)
          have hb6 := Lib.hid (qplus_lt4 hr6)
          have hrd2 := Lib.hid (fun h => (hrd.out.2 h) X6 Y6 Z6 T6 hr6)
          have hHb5 := Lib.hid hb5
          have kB := Lib.hid (hBt.out i hi)
          have hab2 := hab.out i
          dsimp only at kP kP2
          unfold quadV at kP kP2
          clear hr hr6 hb5 hX1 hX2 hX3 hX4 hQ hs1
          rw [show (((i + 1 : Nat) : Int) - 1) = (i : Int) by omega]
          have d1 : decide ((0 : Int) ≤ (i : Int)) = true := by simp
          have hcx := arrK_cells .u64 16 (cat4 (wd X5) (wd Y5) (wd Z5) (wd T5))
          have hcy := arrK_cells .u64 16 (cat4 (wd X6) (wd Y6) (wd Z6) (wd T6))
          have w3 : IntKind.i64.wrap ((i : Int) - 1) = (i : Int) - 1 := by rw [IntKind.wrap_i64]; omega
          have hr1 := hX.out.row
          have hr2 := hX.out.eq
          go_wp2_with fail
          refine kP.out.mono ?_
          rintro e w5 ⟨rfl, hb⟩
          replace hN := Lib.hid (hN.out.step hb)
          replace hR := Lib.hid (row_below hR.out hb hR.out.lt)
          replace hX := Lib.hid (hX.out.step hb)
          replace hY := Lib.hid (hY.out.step hb)
          replace hL := Lib.hid (below_step hb hL.out (Nat.le_refl _))
          clear hr1 hr2 hb kP
          dsimp only
          have hX9 := Lib.hid (At.put (k := .u64) (f := cat4 (wd X5) (wd Y5) (wd Z5) (wd T5)) hX.out.row)
          have hY9 := Lib.hid (hY.out.far (c := arrK .u64 16 (cat4 (wd X5) (wd Y5) (wd Z5) (wd T5))) (show g7 ≠ g6 from fun h => hGn.out.1 h.symm))
          have hN9 := Lib.hid (hN.out.far (c := arrK .u64 16 (cat4 (wd X5) (wd Y5) (wd Z5) (wd T5))) (show w.heap.size ≠ g6 by have := hGn.out.2; omega))
          have hR9 := Lib.hid (show Row (w5.setRow g6 (arrK .u64 16 (cat4 (wd X5) (wd Y5) (wd Z5) (wd T5)))) (w.heap.size + 1 + 1) 8 from (row_setRow_far (show w.heap.size + 1 + 1 ≠ g6 by have := hGn.out.2; omega)).2 hR.out)
          have hL9 := Lib.hid (below_setRow (c := arrK .u64 16 (cat4 (wd X5) (wd Y5) (wd Z5) (wd T5))) hL.out (show w.heap.size ≤ g6 by have := hGn.out.2; omega))
          have hr1 := hX.out.row
          go_upto_region 8 with (fail)
          clear hr1 hX hY hN hR hL
          generalize w5.setRow _ _ = W5 at *
          have hr1 := hN9.out.row
          have hr2 := hN9.out.eq
          go_wp2_with fail
          refine (show Calls _ _ #[_, Value.int IntKind.i64 (i : Int)] W5 _ from kB.out _).mono ?_
          rintro e w6 ⟨rfl, hb⟩
          replace hN9 := Lib.hid (hN9.out.step hb)
          replace hR9 := Lib.hid (row_below hR9.out hb hR9.out.lt)
          replace hX9 := Lib.hid (hX9.out.step hb)
          replace hY9 := Lib.hid (hY9.out.step hb)
          replace hL9 := Lib.hid (below_step hb hL9.out (Nat.le_refl _))
          clear hr1 hr2 hb kB
          dsimp only
          rcases hab2 with hz | hz
          · have hfin := Lib.hid (hrd.out.1 hz)
            rw [hz]
            clear hrd hrd2 kP2 hb6 hz
            go_wp2_with fail
            go_roundw
            case rel => exact ⟨i, X5, Y5, Z5, T5, rfl, by omega, hHb5.out.1, hHb5.out.2.1, hHb5.out.2.2.1, hHb5.out.2.2.2, hfin.out, hX9.out, hY9.out, hN9.out, hR9.out, hL9.out⟩
            case measure => simp [intOf]
          · have hfin := Lib.hid (hrd2.out hz)
            rw [hz]
            clear hrd hrd2 hz hHb5
            have hr1 := hX9.out.row
            have hr2 := hX9.out.eq
            have hr3 := hY9.out.row
            have hr4 := hY9.out.eq
            go_wp2_with fail
            refine (kP2.out _).mono ?_
            rintro e w7 ⟨rfl, hb⟩
            replace hN9 := Lib.hid (hN9.out.step hb)
            replace hR9 := Lib.hid (row_below hR9.out hb hR9.out.lt)
            replace hX9 := Lib.hid (hX9.out.step hb)
            replace hY9 := Lib.hid (hY9.out.step hb)
            replace hL9 := Lib.hid (below_step hb hL9.out (Nat.le_refl _))
            clear hr1 hr2 hr3 hr4 hb kP2
            dsimp only
            have hr1 := hX9.out.row
            go_wp2_with fail
            go_roundw
            case rel =>
              refine ⟨i, X6, Y6, Z6, T6, rfl, by omega, hb6.out.1, hb6.out.2.1, hb6.out.2.2.1, hb6.out.2.2.2, hfin.out, At.put hX9.out.row, hY9.out.far (fun h => hGn.out.1 h.symm), hN9.out.far (by have := hGn.out.2; omega), (row_setRow_far (by have := hGn.out.2; omega)).2 hR9.out, below_setRow hL9.out (by have := hGn.out.2; omega)⟩
            case measure => simp [intOf]
end Go.Proofs.YtgdiokklfihfoaaDoor
namespace Go.Proofs.YtgdiokklfihfoaaDoor
open Go.ChangeShapes Go.WideShapes Go.ChangeAt Go.RowKit
set_option maxHeartbeats 2000000
set_option maxRecDepth 100000
attribute [local go_sem ↓] load_fld load_num store_num execl_num execs_num load_pt store_pt execl_pt execs_pt load_b32 store_b32 execl_b32 execs_b32
attribute [local go_sem] isHead_mk blkOf_mk isAgg_mk cellsV_mk row_drew rowAt_drew row_new_cells row_old rowAt_new rowAt_old setRow_new zeroNum zeroPt zero32
theorem sign_base (n : Nat) (w : World) (hn : n < 2 ^ 256) : Calls Tryd.prog 67 #[numV n] w fun e w' => e = .returned (.agg (arrK .u8 32 (bsF n))) ∧ Below w.heap.size w w' := by
  have kB := Lib.hid (fun V => curve_Base V)
  have kT := Lib.hid (fun V => curve_Times n bX bY V hn (Nat.lt_trans base_lt.1 P_lt) (Nat.lt_trans base_lt.2 P_lt))
  rw [base_on] at kT
  simp only [cond_true] at kT
  have kP := Lib.hid (fun V => curve_Pack (tmP bX bY n).1.val (tmP bX bY n).2.val V (tm_onB base_on n) (tmP bX bY n).1.isLt (tmP bX bY n).2.isLt)
  obtain ⟨PF, hPF⟩ : ∃ f, bsF n = f := ⟨_, rfl⟩
  rw [show pkF (tmP bX bY n).1.val (tmP bX bY n).2.val = PF from hPF] at kP
  rw [hPF]
  clear hPF hn
  generalize (tmP bX bY n).1.val = mx at *
  generalize (tmP bX bY n).2.val = my at *
  generalize bX = bx at *
  generalize bY = by' at *
  unfold ptV at kB kT kP
  unfold numV at kT
  unfold numV
  have hc0 := arrK_cells .u64 8 (cat2 (wd 0) (wd 0))
  have hcz := arrK_cells .u8 32 fun _ => 0
  have hcm := arrK_cells .u64 8 (cat2 (wd mx) (wd my))
  have hcp := arrK_cells .u8 32 PF
  have hL0 : Below w.heap.size w ((w.alloc (Obj.cells (arrK .u64 4 (wd n)) 41)).alloc (Obj.cells (arrK .u8 32 fun _ => 0) 57)) := by go_grown
  have hA0 : At ((w.alloc (Obj.cells (arrK .u64 4 (wd n)) 41)).alloc (Obj.cells (arrK .u8 32 fun _ => 0) 57)) w.heap.size .u64 4 (wd n) := (At.new _ rfl).old _
  have hR0 : Row ((w.alloc (Obj.cells (arrK .u64 4 (wd n)) 41)).alloc (Obj.cells (arrK .u8 32 fun _ => 0) 57)) (w.heap.size + 1) 32 := (At.new (k := .u8) (f := fun _ => 0) _ (by simp)).row
  have hL := Lib.hid hL0
  have hA := Lib.hid hA0
  have hR := Lib.hid hR0
  clear hL0 hA0 hR0
  go_enter Tryd.func67, Tryd.ntmps67
  go_upto_region 1 with (fail)
  generalize (w.alloc _).alloc _ = W0 at *
  generalize ha0 : Act.mk _ _ = a0
  have e1 : a0.tmps[1]?.getD undef = .pointer (some ⟨w.heap.size, 0, none⟩) := by rw [← ha0]; rfl
  have hz0 : a0.tmps.size = 19 := by rw [← ha0]; rfl
  have hha0 := Lib.hid ha0
  clear ha0
  refine wp_region_fresh ⟨fun jx_ => match jx_ with | 0 => some (.agg (arrK .u64 4 (wd n))) | 1 => some (.agg (arrK .u64 8 (cat2 (wd bx) (wd by')))) | 2 => some (.tuple #[.agg (arrK .u64 8 (cat2 (wd mx) (wd my))), .int .i64 0]) | 3 => some (.tuple #[.agg (arrK .u64 8 (cat2 (wd mx) (wd my))), .int .i64 0]) | 4 => some (.agg (arrK .u64 8 (cat2 (wd mx) (wd my)))) | 5 => some (.int .i64 0) | 8 => some (.int .i64 0) | _ => none, fun jx_ => match jx_ with | 6 => some 8 | _ => none, fun jx_ => match jx_ with | 7 => some 6 | _ => none, fun jx_ => match jx_ with | 7 => arrK .u64 8 (cat2 (wd mx) (wd my)) | _ => #[]⟩ (by kernel_rfl) (by kernel_rfl) (by kernel_rfl) (slotsOk_of hz0 (by kernel_rfl)) rfl ⟨?_, ?_, ?_, ?_, ?_, ?_, ?_, ?_, ?_, trivial⟩ ?_
  · refine fstep_val rfl rfl (calm_step rfl fun aa ω κ hb hu hc hK => ?_)
    have h1 : aa.tmps[1]?.getD undef = .pointer (some ⟨w.heap.size, 0, none⟩) := (hu 1 rfl).trans e1
    have hk := Lib.hid (fun w1 (h : Below ω.heap.size ω w1) => hK (.agg (arrK .u64 4 (wd n))) w1 rfl h)
    clear hK hu hc
    have hr1 := (hA.out.step hb).row
    have hr2 := (hA.out.step hb).eq
    go_simp
    exact hk.out _ (Below.refl _ _)
  · refine fstep_val rfl rfl (calm_step rfl fun aa ω κ hb hu hc hK => ?_)
    have hk := Lib.hid (fun w1 (h : Below ω.heap.size ω w1) => hK (.agg (arrK .u64 8 (cat2 (wd bx) (wd by')))) w1 rfl h)
    clear hK hu hc
    go_simp
    go_at_call 104
    refine (kB.out _).mono ?_
    rintro e w1 ⟨rfl, hb1⟩
    exact hk.out _ hb1
  · refine fstep_val rfl rfl (calm_step rfl fun aa ω κ hb hu hc hK => ?_)
    have h8 : aa.tmps[8]?.getD undef = .agg (arrK .u64 4 (wd n)) := hc 0 8 rfl rfl
    have h9 : aa.tmps[9]?.getD undef = .agg (arrK .u64 8 (cat2 (wd bx) (wd by'))) := hc 1 9 rfl rfl
    have hk := Lib.hid (fun w1 (h : Below ω.heap.size ω w1) => hK (.tuple #[.agg (arrK .u64 8 (cat2 (wd mx) (wd my))), .int .i64 0]) w1 rfl h)
    clear hK hu hc
    go_simp
    go_at_call 103
    refine (kT.out _).mono ?_
    rintro e w1 ⟨rfl, hb1⟩
    exact hk.out _ hb1
  · refine fstep_val rfl rfl (calm_step rfl fun aa ω κ hb hu hc hK => ?_)
    have h10 : aa.tmps[10]?.getD undef = .tuple #[.agg (arrK .u64 8 (cat2 (wd mx) (wd my))), .int .i64 0] := hc 2 10 rfl rfl
    have hk := Lib.hid (fun w1 (h : Below ω.heap.size ω w1) => hK (.tuple #[.agg (arrK .u64 8 (cat2 (wd mx) (wd my))), .int .i64 0]) w1 rfl h)
    clear hK hu hc
    go_simp
    exact hk.out _ (Below.refl _ _)
  · refine fstep_val rfl rfl (calm_step rfl fun aa ω κ hb hu hc hK => ?_)
    have h7 : aa.tmps[7]?.getD undef = .tuple #[.agg (arrK .u64 8 (cat2 (wd mx) (wd my))), .int .i64 0] := hc 3 7 rfl rfl
    have hk := Lib.hid (fun w1 (h : Below ω.heap.size ω w1) => hK (.agg (arrK .u64 8 (cat2 (wd mx) (wd my)))) w1 rfl h)
    clear hK hu hc
    go_simp
    exact hk.out _ (Below.refl _ _)
  · refine fstep_val rfl rfl (calm_step rfl fun aa ω κ hb hu hc hK => ?_)
    have h7 : aa.tmps[7]?.getD undef = .tuple #[.agg (arrK .u64 8 (cat2 (wd mx) (wd my))), .int .i64 0] := hc 3 7 rfl rfl
    have hk := Lib.hid (fun w1 (h : Below ω.heap.size ω w1) => hK (.int .i64 0) w1 rfl h)
    clear hK hu hc
    go_simp
    exact hk.out _ (Below.refl _ _)
  · refine fstep_al (n := 8) rfl rfl fun aa ω κ hK => ?_
    have hk := Lib.hid hK
    clear hK
    go_simp
    exact hk.out _ _ hc0
  · refine fstep_st (j := 6) (n := 8) (d := 3) rfl rfl rfl rfl rfl hcm.1 rfl rfl fun aa ω κ g hb hu hc hp hr hK => ?_
    have h11 : aa.tmps[11]?.getD undef = .agg (arrK .u64 8 (cat2 (wd mx) (wd my))) := hc 4 11 rfl rfl
    have hk := Lib.hid hK
    clear hK hu hc
    have hcc := hcm
    go_simp
    exact hk.out undef
  · refine fstep_val rfl rfl (calm_step rfl fun aa ω κ hb hu hc hK => ?_)
    have h12 : aa.tmps[12]?.getD undef = .int .i64 0 := hc 5 12 rfl rfl
    have hk := Lib.hid (fun w1 (h : Below ω.heap.size ω w1) => hK (.int .i64 0) w1 rfl h)
    clear hK hu hc
    go_simp
    exact hk.out _ (Below.refl _ _)
  · intro a1 w1 G I
    have ha0 := hha0.out
    subst ha0
    have he := act_patch (n := 19) [false, false, false, true, true, false, false, true, true, true, true, true, true, false, false, false, false, false, false] rfl (by kernel_rfl) I.un I.sz I.df
    simp only [patch, cond_true, cond_false, Nat.reduceAdd] at he
    have hal3 := I.al 6 3 8 rfl rfl rfl
    replace hR := Lib.hid (row_below hR.out I.bel hR.out.lt)
    replace hL := Lib.hid (below_step I.bel hL.out (Nat.le_refl _))
    have hX := Lib.hid (show At w1 (G 6) .u64 8 (cat2 (wd mx) (wd my)) from ⟨(I.blk 6 8 rfl rfl).2, (I.row 7 6 rfl rfl).2.2⟩)
    clear hA kB kT
    clear I hz0 hha0 e1
    rw [he]
    clear he
    rw [hal3]
    clear hal3
    generalize a1.tmps[4]?.getD undef = x4 at *
    generalize a1.tmps[7]?.getD undef = x7 at *
    generalize a1.tmps[8]?.getD undef = x8 at *
    generalize a1.tmps[9]?.getD undef = x9 at *
    generalize a1.tmps[10]?.getD undef = x10 at *
    generalize a1.tmps[11]?.getD undef = x11 at *
    generalize a1.tmps[12]?.getD undef = x12 at *
    obtain ⟨g3, hgz⟩ : ∃ g, G 6 = g := ⟨_, rfl⟩
    rw [hgz] at hX ⊢
    clear hgz
    generalize w1 = W1 at *
    have hr1 := hX.out.row
    have hr2 := hX.out.eq
    go_wp2_with fail
    refine (kP.out _).mono ?_
    rintro e w2 ⟨rfl, hb⟩
    replace hR := Lib.hid (row_below hR.out hb hR.out.lt)
    replace hL := Lib.hid (below_step hb hL.out (Nat.le_refl _))
    clear hr1 hr2 hb kP hX
    dsimp only
    go_upto_region 3 with (fail)
    have hb := below_alloc w2 (Obj.cells (arrK .u8 32 PF) 57)
    have hX := Lib.hid (At.new (w := w2) (k := .u8) (m := 32) (f := PF) 57 rfl)
    replace hR := Lib.hid (row_below hR.out hb hR.out.lt)
    replace hL := Lib.hid (below_step hb hL.out (Nat.le_refl _))
    clear hb
    generalize w2.alloc _ = W2 at *
    generalize w2.heap.size = g5 at *
    have hr1 := hX.out.row
    have hr2 := hX.out.eq
    have hr3 := hR.out
    go_wp2_with fail
    exact ret_stored (p := 2) (ty := 57) (g := w.heap.size + 1) (n := 32) (c := arrK .u8 32 PF) rfl Tryd.underlying57 rfl (by kernel_rfl) rfl hR.out hcp.1 rfl ⟨rfl, below_setRow hL.out (by omega)⟩
end Go.Proofs.YtgdiokklfihfoaaDoor
namespace Go.Proofs.YtgdiokklfihfoaaDoor
open Go.ChangeShapes Go.WideShapes Go.ChangeAt Go.RowKit
set_option maxHeartbeats 2000000
set_option maxRecDepth 100000
def twoW : Nat → Nat := fun i => if i = 0 then 6346243789798364141 else 1503914060200516822
theorem twoW_val : wval twoW 2 = 27742317777372353535851937790883648493 := by decide +kernel
theorem fL_sum : 2 ^ 252 + 27742317777372353535851937790883648493 = fL := rfl
theorem two_lit : #[Value.int IntKind.u64 6346243789798364141, Value.int IntKind.u64 1503914060200516822] = arrK .u64 2 twoW := by kernel_rfl
theorem ref_Prime (w : World) : Calls Tryd.prog 61 #[] w (RetN fL w) := by
  have kT := Lib.hid (fun V => ref_TwoTo 252 V (by omega))
  have kD := Lib.hid (fun (V : World) g (h : At V g .u64 2 twoW) => by
    obtain ⟨cs, t, hg, hs⟩ := h.row
    have hcs : cs = arrK .u64 2 twoW := by rw [← h.eq]; simp [rowAt, hg]
    have k := ref_Digits (some ⟨g, 0, none⟩) 2 2 twoW V (by rw [← hcs]; exact Rd.of_blk hg h.lt) (by omega) (by omega) (by omega) (fun i _ => by unfold twoW; split <;> omega)
    rw [twoW_val] at k
    exact k)
  have hsm : (2 : Nat) ^ 252 < 2 ^ 253 := Nat.pow_lt_pow_right (by omega) (by omega)
  have hs2 : 27742317777372353535851937790883648493 < 2 ^ 253 := by decide +kernel
  rw [← fL_sum]
  obtain ⟨P, hP⟩ : ∃ P, (2 : Nat) ^ 252 = P := ⟨_, rfl⟩
  obtain ⟨D, hD⟩ : ∃ P, 27742317777372353535851937790883648493 = P := ⟨_, rfl⟩
  rw [hP] at kT hsm ⊢
  rw [hD] at kD hs2 ⊢
  have kS := Lib.hid (fun V v u (hv : IsN V v P) (hu : IsN V u D) => plusN V (hv.toV (lt_big hsm (by omega))) (hu.toV (lt_big hs2 (by omega))))
  clear hD hP hsm hs2
  go_enter Tryd.func61, Tryd.ntmps61
  go_wp2_with fail
  refine (show Calls _ _ #[Value.int IntKind.i64 252] w _ from kT.out _).mono ?_
  rintro e w2 ⟨v, rfl, hv, hb⟩
  have hV := Lib.hid hv
  have hL := Lib.hid hb
  clear hv hb kT
  dsimp only
  go_wp2_with fail
  rw [two_lit]
  refine (kD.out _ _ (At.new (w := w2) (k := .u64) (m := 2) (f := twoW) 39 rfl)).mono ?_
  rintro e w3 ⟨u, rfl, hu, hb⟩
  have hb2 := (below_alloc w2 (Obj.cells (arrK .u64 2 twoW) 39)).trans (hb.mono (by simp))
  have hV2 := Lib.hid (hV.out.step hb2)
  have hU := Lib.hid hu
  have hL2 := Lib.hid (below_step hb2 hL.out (Nat.le_refl _))
  clear hu hb hb2 hV hL kD
  dsimp only
  go_wp2_with fail
  refine (kS.out _ _ _ hV2.out hU.out).mono ?_
  rintro e w4 ⟨x, rfl, hx, hb⟩
  have hX := Lib.hid hx
  have hL3 := Lib.hid (below_step hb hL2.out (Nat.le_refl _))
  clear hx hb hL2 hU hV2 kS
  dsimp only
  go_wp2_with fail
  go_ret
  exact ⟨x, rfl, hX.out, hL3.out⟩
theorem IsN.one1 (w : World) (t : TypeId) : IsN (w.alloc (.cells #[.int .i64 ((1 : Nat) : Int)] t)) (.slice (some ⟨w.heap.size, 0, none⟩) 1 1) 1 :=
  ⟨some ⟨w.heap.size, 0, none⟩, [1], 1, rfl, ⟨Rd.of_blk (cs := #[.int .i64 ((1 : Nat) : Int)]) (push_new _ _) (by simp), Sm.one (by omega), by simp, by omega⟩, ⟨⟨Sm.one (by omega), val_one 1⟩, by simp⟩⟩
theorem pw_bit (a n m s x y : Nat) (hx : x = a ^ (n % 2 ^ s) % m) (hy : y = a ^ 2 ^ s % m) : (n / 2 ^ s % 2 = 0 → x = a ^ (n % 2 ^ (s + 1)) % m) ∧ (n / 2 ^ s % 2 = 1 → x * y % m = a ^ (n % 2 ^ (s + 1)) % m) ∧ y * y % m = a ^ 2 ^ (s + 1) % m := by
  have h : n % 2 ^ (s + 1) = n % 2 ^ s + n / 2 ^ s % 2 * 2 ^ s := by rw [Nat.pow_succ, Nat.mod_mul, Nat.mul_comm (2 ^ s) (n / 2 ^ s % 2)]
  refine ⟨fun hb => ?_, fun hb => ?_, ?_⟩
  · rw [h, hb, Nat.zero_mul, Nat.add_zero]; exact hx
  · rw [h, hb, Nat.one_mul, Nat.pow_add, hx, hy, ← Nat.mul_mod]
  · rw [hy, ← Nat.mul_mod, Nat.pow_succ, Nat.mul_two, Nat.pow_add]
end Go.Proofs.YtgdiokklfihfoaaDoor
namespace Go.Proofs.YtgdiokklfihfoaaDoor
open Go.ChangeShapes Go.WideShapes Go.ChangeAt Go.RowKit
set_option maxHeartbeats 1000000
set_option maxRecDepth 100000
attribute [local go_sem ↓] load_num store_num execl_num execs_num load_wide store_wide execl_wide execs_wide load_b32 store_b32 execl_b32 execs_b32
attribute [local go_sem] isHead_mk blkOf_mk isAgg_mk cellsV_mk row_drew row_new_cells row_old rowAt_new rowAt_old

end Go.Proofs.YtgdiokklfihfoaaDoor
namespace Go.Proofs.YtgdiokklfihfoaaDoor
open Go.ChangeShapes Go.WideShapes Go.ChangeAt Go.RowKit
set_option maxHeartbeats 1000000
set_option maxRecDepth 100000
attribute [local go_sem ↓] load_num store_num execl_num execs_num load_wide store_wide execl_wide execs_wide
attribute [local go_sem] isHead_mk blkOf_mk isAgg_mk cellsV_mk row_drew rowAt_drew row_new_cells row_old rowAt_new rowAt_old setRow_new row_setRow_far rowAt_setRow_far

theorem mod_cancel {x y z m : Nat} (h : (x + z) % m = (y + z) % m) : x % m = y % m := by
  have h1 := Nat.mod_add_div (x + z) m
  have h2 := Nat.mod_add_div (y + z) m
  have e : x + m * ((y + z) / m) = y + m * ((x + z) / m) := by omega
  rw [← Nat.add_mul_mod_self_left x m ((y + z) / m), e, Nat.add_mul_mod_self_left]
/-- What Inverse's loop keeps. -/
structure IvI (a m r0 r1 s0 s1 : Nat) : Prop where
  l0 : s0 < m
  l1 : s1 < m
  e0 : a * s0 % m = r0 % m
  e1 : a * s1 % m = r1 % m
  g : Nat.gcd r0 r1 = Nat.gcd a m
theorem IvI.start {a m : Nat} (hm : 1 < m) : IvI a m m (a % m) 0 1 :=
  ⟨by omega, hm, by simp, by simp, by rw [Nat.gcd_comm m, ← Nat.gcd_rec, Nat.gcd_comm]⟩
/-- The next s. -/
def nextS (m q s0 s1 : Nat) : Nat := if q * s1 % m ≤ s0 then s0 - q * s1 % m else s0 + m - q * s1 % m
theorem IvI.next {a m r0 r1 s0 s1 : Nat} (h : IvI a m r0 r1 s0 s1) : IvI a m r1 (r0 % r1) s1 (nextS m (r0 / r1) s0 s1) := by
  have hm : 0 < m := by have := h.l0; omega
  have ho := Nat.mod_lt (r0 / r1 * s1) hm
  have hl0 := h.l0
  refine ⟨h.l1, ?_, h.e1, ?_, ?_⟩
  · unfold nextS; split <;> omega
  · have hs : (nextS m (r0 / r1) s0 s1 + r0 / r1 * s1 % m) % m = s0 % m := by
      unfold nextS
      split
      · rw [Nat.sub_add_cancel (by assumption)]
      · rw [Nat.sub_add_cancel (by omega), Nat.add_mod_right]
    have h1 : (a * nextS m (r0 / r1) s0 s1 + r0 / r1 * r1) % m = (r0 % r1 + r0 / r1 * r1) % m := by
      rw [Nat.mod_add_div' r0 r1, ← h.e0]
      have h2 : a * s0 % m = a * (nextS m (r0 / r1) s0 s1 + r0 / r1 * s1 % m) % m := by rw [Nat.mul_mod a s0, ← hs, ← Nat.mul_mod]
      rw [h2, Nat.mul_add, Nat.add_mod, Nat.add_mod (a * nextS m (r0 / r1) s0 s1)]
      congr 2
      have e3 : a * (r0 / r1 * s1 % m) % m = a * (r0 / r1 * s1) % m := by rw [Nat.mul_mod, Nat.mod_mod, ← Nat.mul_mod]
      rw [e3, Nat.mul_left_comm, Nat.mul_mod, ← h.e1, ← Nat.mul_mod]
    exact mod_cancel h1
  · rw [← h.g, Nat.gcd_comm r0 r1, Nat.gcd_rec r1 r0, Nat.gcd_comm]
/-- What Inverse answers. -/
def InvP (a m s c : Nat) : Prop := (m = 0 ∧ s = 0 ∧ c = 1) ∨ (m ≠ 0 ∧ Nat.gcd a m ≠ 1 ∧ s = 0 ∧ c = 6) ∨ (m ≠ 0 ∧ Nat.gcd a m = 1 ∧ c = 0 ∧ s < m ∧ a * s % m = 1 % m)
theorem IvI.none {a m r0 s0 s1 : Nat} (h : IvI a m r0 0 s0 s1) (hr : r0 ≠ 1) : InvP a m 0 6 :=
  .inr (.inl ⟨by have := h.l0; omega, by rw [← h.g, Nat.gcd_zero_right]; exact hr, rfl, rfl⟩)
theorem IvI.some {a m s0 s1 : Nat} (h : IvI a m 1 0 s0 s1) : InvP a m s0 0 :=
  .inr (.inr ⟨by have := h.l0; omega, by rw [← h.g, Nat.gcd_zero_right], rfl, h.l0, h.e0⟩)
theorem inv_one (a : Nat) : InvP a 1 0 0 := .inr (.inr ⟨by omega, Nat.gcd_one_right a, rfl, by omega, by simp⟩)
def RetInv (a m : Nat) (w : World) (e : Ending) (w' : World) : Prop := ∃ s c : Nat, e = .returned (.tuple #[.agg (arrK .u64 4 (wd s)), .int .i64 (c : Int)]) ∧ InvP a m s c ∧ s < 2 ^ 256 ∧ Below w.heap.size w w'
theorem cells4 : Cells #[Value.int IntKind.u64 0, Value.int IntKind.u64 0, Value.int IntKind.u64 0, Value.int IntKind.u64 0] 4 := by rw [zeroNum]; exact arrK_cells _ _ _
theorem cells8 : Cells #[Value.int IntKind.u64 0, Value.int IntKind.u64 0, Value.int IntKind.u64 0, Value.int IntKind.u64 0, Value.int IntKind.u64 0, Value.int IntKind.u64 0, Value.int IntKind.u64 0, Value.int IntKind.u64 0] 8 := by rw [zeroWide]; exact arrK_cells _ _ _
theorem oneNum : #[Value.int IntKind.u64 1, Value.int IntKind.u64 0, Value.int IntKind.u64 0, Value.int IntKind.u64 0] = arrK .u64 4 (wd 1) :=
  (arrK4 .u64 (wd 1)).symm ▸ rfl
structure IvAt (w : World) (h a m : Nat) : Prop where
  A : NumAt w h a
  M : NumAt w (h + 1) m
  O : Row w (h + 1 + 1) 4
  Z : NumAt w (h + 1 + 1 + 1) 0
theorem IvAt.step {w w' : World} {h a m : Nat} (k : IvAt w h a m) (hb : Below w.heap.size w w') : IvAt w' h a m :=
  ⟨k.A.step hb, k.M.step hb, row_below k.O hb k.O.lt, k.Z.step hb⟩
theorem IvAt.drew {w : World} {h a m : Nat} (k : IvAt w h a m) : IvAt w.drew h a m := ⟨k.A.drew, k.M.drew, k.O, k.Z.drew⟩
theorem IvAt.far {w : World} {h a m g : Nat} {c : Array Value} (k : IvAt w h a m) (hg : h + 4 ≤ g) : IvAt (w.setRow g c) h a m :=
  ⟨k.A.far (by omega), k.M.far (by omega), (row_setRow_far (by omega)).2 k.O, k.Z.far (by omega)⟩
theorem iv_start (w : World) (a m : Nat) : IvAt ((((w.alloc (Obj.cells (arrK .u64 4 (wd a)) 41)).alloc (Obj.cells (arrK .u64 4 (wd m)) 41)).alloc (Obj.cells (arrK .u64 4 (wd 0)) 41)).alloc (Obj.cells (arrK .u64 4 (wd 0)) 41)) w.heap.size a m :=
  ⟨(((At.new _ rfl).old _).old _).old _, ((At.new _ (by simp)).old _).old _, ((At.new (k := .u64) (f := wd 0) _ (by simp)).old _).row, At.new _ (by simp)⟩
theorem wideC0 (a : Nat) (w : World) (ha : a < 2 ^ 256) : Calls Tryd.prog 138 #[.agg (arrK .u64 4 (wd a)), .agg (arrK .u64 4 (wd 0))] w fun e w' => e = .returned (.agg (arrK .u64 8 (wd a))) ∧ Below w.heap.size w w' := by
  have h := limb_Wide a 0 w ha
  rw [Nat.mul_zero, Nat.add_zero] at h
  exact h

/-- The number in a block. -/
def numIn (w : World) (g : Nat) : Nat := wval (fun i => (intOf ((rowAt w g)[i]?.getD undef)).toNat) 4
theorem numIn_at {w : World} {g n : Nat} (h : NumAt w g n) (hn : n < 2 ^ 256) : numIn w g = n := by
  unfold numIn
  rw [h.eq, wval_congr (g := wd n) fun i hi => by rw [arrK_at hi]; simp [intOf], wval_wd]
  exact Nat.mod_eq_of_lt hn
theorem sub_ge {a b : Nat} (ha : a < 2 ^ 256) (h : b ≤ a) : subN a b = a - b ∧ lessN a b = 0 := by
  refine ⟨?_, if_neg (by omega)⟩
  unfold subN
  rw [show a + 2 ^ 256 - b = (a - b) + 2 ^ 256 by omega, Nat.add_mod_right, Nat.mod_eq_of_lt (by omega)]
theorem sub_lt {a b : Nat} (h : a < b) : subN a b = a + 2 ^ 256 - b ∧ lessN a b = 1 := by
  refine ⟨?_, if_pos h⟩
  unfold subN
  rw [Nat.mod_eq_of_lt (by omega)]
theorem lt_more {r e k : Nat} (h : r < 2 ^ e) (he : e ≤ k) : r < 2 ^ k := Nat.lt_of_lt_of_le h (Nat.pow_le_pow_right (by decide) he)
theorem add_back {a b m : Nat} (hm : m < 2 ^ 256) (h : a < b) (hb : b < m) : addN (a + 2 ^ 256 - b) m = a + m - b := by
  unfold addN
  rw [show a + 2 ^ 256 - b + m = (a + m - b) + 2 ^ 256 by omega, Nat.add_mod_right, Nat.mod_eq_of_lt (by omega)]
/-- The four numbers of Inverse's loop in their blocks. -/
structure IvB (w : World) (b g0 g1 h0 h1 r0 r1 s0 s1 : Nat) : Prop where
  R0 : NumAt w g0 r0
  R1 : NumAt w g1 r1
  S0 : NumAt w h0 s0
  S1 : NumAt w h1 s1
  le : b + 4 ≤ g0 ∧ b + 4 ≤ g1 ∧ b + 4 ≤ h0 ∧ b + 4 ≤ h1
  ne : g0 ≠ g1 ∧ g0 ≠ h0 ∧ g0 ≠ h1 ∧ g1 ≠ h0 ∧ g1 ≠ h1 ∧ h0 ≠ h1
theorem IvB.step {w w' : World} {b g0 g1 h0 h1 r0 r1 s0 s1 : Nat} (k : IvB w b g0 g1 h0 h1 r0 r1 s0 s1) (hb : Below w.heap.size w w') : IvB w' b g0 g1 h0 h1 r0 r1 s0 s1 :=
  ⟨k.R0.step hb, k.R1.step hb, k.S0.step hb, k.S1.step hb, k.le, k.ne⟩
theorem IvB.drew {w : World} {b g0 g1 h0 h1 r0 r1 s0 s1 : Nat} (k : IvB w b g0 g1 h0 h1 r0 r1 s0 s1) : IvB w.drew b g0 g1 h0 h1 r0 r1 s0 s1 :=
  ⟨k.R0.drew, k.R1.drew, k.S0.drew, k.S1.drew, k.le, k.ne⟩
/-- A block that is none of the four. -/
def IvF (g0 g1 h0 h1 g : Nat) : Prop := g ≠ g0 ∧ g ≠ g1 ∧ g ≠ h0 ∧ g ≠ h1
theorem ivF_of {w : World} {b g0 g1 h0 h1 r0 r1 s0 s1 g : Nat} (k : IvB w b g0 g1 h0 h1 r0 r1 s0 s1) (hg : w.heap.size ≤ g) : IvF g0 g1 h0 h1 g := by
  have := k.R0.lt
  have := k.R1.lt
  have := k.S0.lt
  have := k.S1.lt
  exact ⟨by omega, by omega, by omega, by omega⟩
theorem lt_mul {a b e k : Nat} (ha : a < 2 ^ e) (hb : b < 2 ^ e) (hk : e + e ≤ k) : a * b < 2 ^ k := by
  have h := Nat.mul_lt_mul'' ha hb
  rw [← Nat.pow_add] at h
  exact Nat.lt_of_lt_of_le h (Nat.pow_le_pow_right (by decide) hk)
theorem nextS_ge {m q s0 s1 off : Nat} (e : q * s1 % m = off) (h : off ≤ s0) : nextS m q s0 s1 = s0 - off := by unfold nextS; rw [e, if_pos h]
theorem nextS_lt {m q s0 s1 off : Nat} (e : q * s1 % m = off) (h : ¬off ≤ s0) : nextS m q s0 s1 = s0 + m - off := by unfold nextS; rw [e, if_neg h]
theorem IvB.far {w : World} {b g0 g1 h0 h1 r0 r1 s0 s1 g : Nat} {c : Array Value} (k : IvB w b g0 g1 h0 h1 r0 r1 s0 s1) (hg : IvF g0 g1 h0 h1 g) : IvB (w.setRow g c) b g0 g1 h0 h1 r0 r1 s0 s1 :=
  ⟨k.R0.far hg.1.symm, k.R1.far hg.2.1.symm, k.S0.far hg.2.2.1.symm, k.S1.far hg.2.2.2.symm, k.le, k.ne⟩
theorem IvB.move {w : World} {b g0 g1 h0 h1 r0 r1 s0 s1 : Nat} (k : IvB w b g0 g1 h0 h1 r0 r1 s0 s1) (r s : Nat) :
    IvB ((((w.setRow g0 (arrK .u64 4 (wd r1))).setRow g1 (arrK .u64 4 (wd r))).setRow h0 (arrK .u64 4 (wd s1))).setRow h1 (arrK .u64 4 (wd s))) b g0 g1 h0 h1 r1 r s1 s := by
  obtain ⟨n1, n2, n3, n4, n5, n6⟩ := k.ne
  refine ⟨(((At.put k.R0.row).far n1).far n2).far n3, ((At.put ((row_setRow_far n1.symm).2 k.R1.row)).far n4).far n5, (At.put ((row_setRow_far n4.symm).2 ((row_setRow_far n2.symm).2 k.S0.row))).far n6, At.put ((row_setRow_far n6.symm).2 ((row_setRow_far n5.symm).2 ((row_setRow_far n3.symm).2 k.S1.row))), k.le, k.ne⟩
theorem ivB_of {w : World} {b z g0 g1 h0 h1 r0 r1 s0 s1 : Nat} (hz : b + 4 ≤ z) (k0 : z ≤ g0 ∧ Row w g0 4) (k1 : z ≤ g1 ∧ Row w g1 4) (k2 : z ≤ h0 ∧ Row w h0 4) (k3 : z ≤ h1 ∧ Row w h1 4)
    (e0 : rowAt w g0 = arrK .u64 4 (wd r0)) (e1 : rowAt w g1 = arrK .u64 4 (wd r1)) (e2 : rowAt w h0 = arrK .u64 4 (wd s0)) (e3 : rowAt w h1 = arrK .u64 4 (wd s1))
    (n0 : g0 ≠ g1) (n1 : g0 ≠ h0) (n2 : g0 ≠ h1) (n3 : g1 ≠ h0) (n4 : g1 ≠ h1) (n5 : h0 ≠ h1) : IvB w b g0 g1 h0 h1 r0 r1 s0 s1 :=
  ⟨⟨k0.2, e0⟩, ⟨k1.2, e1⟩, ⟨k2.2, e2⟩, ⟨k3.2, e3⟩, ⟨by omega, by omega, by omega, by omega⟩, n0, n1, n2, n3, n4, n5⟩

theorem mulC (a b : Nat) (ha : a < 2 ^ 256) (hb : b < 2 ^ 256) (w : World) : Calls Tryd.prog 99 #[.agg (arrK .u64 4 (wd a)), .agg (arrK .u64 4 (wd b))] w fun e w' => e = .returned (.agg (arrK .u64 8 (wd (a * b)))) ∧ Below w.heap.size w w' := limb_Mul a b w ha hb
theorem modC (x m k : Nat) (hx : x < 2 ^ k) (hk : k = 64 * 8) (hm : m < 2 ^ 256) (h0 : 0 < m) (w : World) : Calls Tryd.prog 139 #[.agg (arrK .u64 8 (wd x)), .agg (arrK .u64 4 (wd m))] w fun e w' => e = .returned (.tuple #[.agg (arrK .u64 4 (wd (x % m))), .int .i64 0]) ∧ Below w.heap.size w w' := by
  subst hk
  exact quot_Mod x m w hx hm (by omega)
theorem divC (x m : Nat) (hx : x < 2 ^ 256) (hm : m < 2 ^ 256) (h0 : m ≠ 0) (w : World) : Calls Tryd.prog 161 #[.agg (arrK .u64 8 (wd x)), .agg (arrK .u64 4 (wd m))] w fun e w' => e = .returned (.tuple #[.agg (arrK .u64 8 (wd (x / m))), .agg (arrK .u64 4 (wd (x % m))), .int .i64 0]) ∧ Below w.heap.size w w' := by
  obtain ⟨k, hk⟩ : ∃ k, k = 64 * 8 := ⟨_, rfl⟩
  have hx' : x < 2 ^ k := lt_more hx (by omega)
  subst hk
  exact quot_DivMod x m w hx' hm h0
theorem modC2 (x m : Nat) (hx : x < 2 ^ 256) (hm : m < 2 ^ 256) (h0 : 0 < m) (w : World) : Calls Tryd.prog 139 #[.agg (arrK .u64 8 (wd x)), .agg (arrK .u64 4 (wd m))] w fun e w' => e = .returned (.tuple #[.agg (arrK .u64 4 (wd (x % m))), .int .i64 0]) ∧ Below w.heap.size w w' := by
  obtain ⟨k, hk⟩ : ∃ k, k = 64 * 8 := ⟨_, rfl⟩
  exact modC x m k (lt_more hx (by omega)) hk hm h0 w
theorem modC3 (x y m : Nat) (hx : x < 2 ^ 256) (hy : y < 2 ^ 256) (hm : m < 2 ^ 256) (h0 : 0 < m) (w : World) : Calls Tryd.prog 139 #[.agg (arrK .u64 8 (wd (x * y))), .agg (arrK .u64 4 (wd m))] w fun e w' => e = .returned (.tuple #[.agg (arrK .u64 4 (wd (x * y % m))), .int .i64 0]) ∧ Below w.heap.size w w' := by
  obtain ⟨k, hk⟩ : ∃ k, k = 64 * 8 := ⟨_, rfl⟩
  exact modC (x * y) m k (lt_mul hx hy (by omega)) hk hm h0 w

theorem subGe (a b : Nat) (ha : a < 2 ^ 256) (h : b ≤ a) (w : World) : Calls Tryd.prog 38 #[.agg (arrK .u64 4 (wd a)), .agg (arrK .u64 4 (wd b))] w fun e w' => e = .returned (.tuple #[.agg (arrK .u64 4 (wd (a - b))), .int .u64 0]) ∧ Below w.heap.size w w' := by
  have hc := limb_Sub a b w ha (by omega)
  rw [(sub_ge ha h).1, (sub_ge ha h).2] at hc
  exact hc
theorem subLt (a b : Nat) (ha : a < 2 ^ 256) (hb : b < 2 ^ 256) (h : a < b) (w : World) : Calls Tryd.prog 38 #[.agg (arrK .u64 4 (wd a)), .agg (arrK .u64 4 (wd b))] w fun e w' => e = .returned (.tuple #[.agg (arrK .u64 4 (wd (a + 2 ^ 256 - b))), .int .u64 1]) ∧ Below w.heap.size w w' := by
  have hc := limb_Sub a b w ha hb
  rw [(sub_lt h).1, (sub_lt h).2] at hc
  exact hc
theorem addBack (a b m : Nat) (hm : m < 2 ^ 256) (h : a < b) (hb : b < m) (w : World) : Calls Tryd.prog 96 #[.agg (arrK .u64 4 (wd (a + 2 ^ 256 - b))), .agg (arrK .u64 4 (wd m))] w fun e w' => (∃ c : Nat, e = .returned (.tuple #[.agg (arrK .u64 4 (wd (a + m - b))), .int .u64 c])) ∧ Below w.heap.size w w' := by
  have hc := limb_Add (a + 2 ^ 256 - b) m w (by omega) hm
  rw [add_back hm h hb] at hc
  exact hc.mono fun e w' h => ⟨⟨_, h.1⟩, h.2⟩
end Go.Proofs.YtgdiokklfihfoaaDoor
namespace Go.Proofs.YtgdiokklfihfoaaDoor
open Go.ChangeShapes Go.WideShapes Go.ChangeAt Go.RowKit
set_option maxHeartbeats 2000000
set_option maxRecDepth 100000
attribute [local go_sem ↓] load_num store_num execl_num execs_num load_wide store_wide execl_wide execs_wide
attribute [local go_sem] isHead_mk blkOf_mk isAgg_mk cellsV_mk row_drew rowAt_drew row_new_cells row_old rowAt_new rowAt_old setRow_new zeroNum zeroWide
theorem fL_lt : fL < 2 ^ 253 := by decide +kernel
theorem fL_lt' : fL < 2 ^ 256 := by decide +kernel
theorem fL_pos : 1000 < fL := by decide +kernel
theorem lt_L {a : Nat} : a % fL < fL := Nat.mod_lt _ (Nat.lt_trans (by omega) fL_pos)
theorem mod_L {a : Nat} : a % fL < 2 ^ 256 := Nat.lt_trans lt_L fL_lt'
theorem build_L (w : World) : (Instr.build 41 #[(0, Value.int IntKind.u64 6346243789798364141), (1, Value.int IntKind.u64 1503914060200516822), (2, Value.int IntKind.u64 0), (3, Value.int IntKind.u64 1152921504606846976)]).run Tryd.prog w = .ok (.agg (arrK .u64 4 (wd fL))) w := run_build w _ _ _ (by kernel_rfl)
theorem build_nz (w : World) : (Instr.build 41 #[]).run Tryd.prog w = .ok (.agg (arrK .u64 4 (wd 0))) w := run_build w _ _ _ (by kernel_rfl)
section
variable {P : Program} {ops : Array Oper} {o : Oper} {a : Act} {w : World} {K : Act → World → Prop} {Q : Exit → Act → World → Prop} {t : TypeId} {u : Value}
theorem wp_bldS (ho : o.op = .build t #[]) (hr : (Instr.build t #[]).run P w = .ok u w) (h : K (a.put o.dst u) w) : Oper.wp P o a w K Q := by
  obtain ⟨dst, op, tt, pos, af, gd⟩ := o
  subst ho
  unfold Oper.wp execOp
  simp only [List.map_toArray, List.map_nil, Sem.run_bind, hr, Result.andThen_ok]
  exact h
end
section
variable {P : Program} {ops : Array Oper} {Q : Exit → Act → World → Prop} {o : Oper} {a : Act} {w : World} {rest : List Oper} {t : TypeId} {u : Value}
theorem wpList_opS (hw : Region.wanted o (yielded ops a.tmps) = true) (h : ∀ K : Act → World → Prop, (∀ a' w', wpList P ops Q rest a' w' → K a' w') → Oper.wp P o a w K Q) : wpList P ops Q (o :: rest) a w :=
  wpList_step fun K hK => by rw [if_pos hw]; exact h K hK
variable {v0 v1 v2 v3 : Value} {x0 x1 x2 x3 : Operand}
theorem wpList_bldL4 (hgd : o.guard = none) (ho : o.op = .build t #[(0, x0), (1, x1), (2, x2), (3, x3)]) (h0 : a.eval x0 = v0) (h1 : a.eval x1 = v1) (h2 : a.eval x2 = v2) (h3 : a.eval x3 = v3)
    (hr : (Instr.build t #[(0, v0), (1, v1), (2, v2), (3, v3)]).run P w = .ok u w) (h : wpList P ops Q rest (a.put o.dst u) w) : wpList P ops Q (o :: rest) a w :=
  wpList_step fun K hK => by
    have hw : Region.wanted o (yielded ops a.tmps) = true := by simp [Region.wanted, hgd]
    rw [if_pos hw]
    subst h0 h1 h2 h3
    obtain ⟨dst, op, tt, pos, af, gd⟩ := o
    subst ho
    unfold Oper.wp execOp
    simp only [List.map_toArray, List.map_cons, List.map_nil, Sem.run_bind, hr, Result.andThen_ok]
    exact hK _ _ h
end
theorem scalar_L (w : World) : Calls Tryd.prog 57 #[] w fun e w' => e = .returned (numV fL) ∧ Below w.heap.size w w' := by
  unfold numV
  have hcz := arrK_cells .u64 4 (wd 0)
  have hcp := arrK_cells .u64 4 (wd fL)
  have hL0 := below_alloc w (Obj.cells (arrK .u64 4 (wd 0)) 41)
  have hR0 : Row (w.alloc (Obj.cells (arrK .u64 4 (wd 0)) 41)) w.heap.size 4 := (row_new rfl).2 hcz.1
  obtain ⟨X, hX⟩ : ∃ X, arrK .u64 4 (wd fL) = X := ⟨_, rfl⟩
  have hbp := Lib.hid (fun V => build_L V)
  rw [hX] at hbp hcp ⊢
  clear hX
  go_enter Tryd.func57, Tryd.ntmps57
  go_upto_region 1 with (fail)
  generalize w.alloc (Obj.cells (arrK .u64 4 (wd 0)) 41) = W0 at *
  go_wp2_with (refine wpList_bldL4 (v0 := Value.int IntKind.u64 6346243789798364141) (v1 := Value.int IntKind.u64 1503914060200516822) (v2 := Value.int IntKind.u64 0) (v3 := Value.int IntKind.u64 1152921504606846976) rfl rfl rfl rfl rfl rfl (hbp.out _) ?_)
  exact ret_stored (p := 0) (ty := 41) (g := w.heap.size) (n := 4) (c := X) rfl Tryd.underlying41 rfl (by kernel_rfl) rfl hR0 hcp.1 rfl ⟨rfl, below_setRow hL0 (Nat.le_refl _)⟩
theorem scalar_Reduce (a : Nat) (w : World) (ha : a < 2 ^ (64 * 8)) : Calls Tryd.prog 98 #[wideV a] w fun e w' => e = .returned (numV (a % fL)) ∧ Below w.heap.size w w' := by
  have kL := Lib.hid (fun V => scalar_L V)
  have kM := Lib.hid (fun V => quot_Mod a fL V ha fL_lt' (Nat.ne_of_gt (Nat.lt_trans (by omega) fL_pos)))
  obtain ⟨r, hr⟩ : ∃ r, a % fL = r := ⟨_, rfl⟩
  rw [hr] at kM ⊢
  obtain ⟨l, hl⟩ : ∃ r, fL = r := ⟨_, rfl⟩
  rw [hl] at kL kM
  clear hr hl ha
  unfold numV at kL kM ⊢
  unfold wideV at kM ⊢
  have hc0 := arrK_cells .u64 4 (wd 0)
  have hcr := arrK_cells .u64 4 (wd r)
  have hL0 : Below w.heap.size w ((w.alloc (Obj.cells (arrK .u64 8 (wd a)) 174)).alloc (Obj.cells (arrK .u64 4 (wd 0)) 41)) := by go_grown
  have hA0 : At ((w.alloc (Obj.cells (arrK .u64 8 (wd a)) 174)).alloc (Obj.cells (arrK .u64 4 (wd 0)) 41)) (w.heap.size) .u64 8 (wd a) := ((At.new _ (by simp))).old _
  have hR0 : Row ((w.alloc (Obj.cells (arrK .u64 8 (wd a)) 174)).alloc (Obj.cells (arrK .u64 4 (wd 0)) 41)) (w.heap.size + 1) 4 := (At.new (k := .u64) (f := wd 0) _ (by simp)).row
  have hL := Lib.hid hL0
  have hA := Lib.hid hA0
  have hR := Lib.hid hR0
  clear hL0 hA0 hR0
  go_enter Tryd.func98, Tryd.ntmps98
  go_upto_region 1 with (fail)
  generalize (w.alloc _).alloc _ = W0 at *
  generalize ha0 : Act.mk _ _ = a0
  have e1 : a0.tmps[1]?.getD undef = .pointer (some ⟨w.heap.size, 0, none⟩) := by rw [← ha0]; rfl
  have hz0 : a0.tmps.size = 12 := by rw [← ha0]; rfl
  have hha0 := Lib.hid ha0
  clear ha0
  refine wp_region_fresh ⟨fun jx_ => match jx_ with | 0 => some (.agg (arrK .u64 8 (wd a))) | 1 => some (.agg (arrK .u64 4 (wd l))) | 2 => some (.tuple #[.agg (arrK .u64 4 (wd r)), .int .i64 0]) | 3 => some (.tuple #[.agg (arrK .u64 4 (wd r)), .int .i64 0]) | 4 => some (.agg (arrK .u64 4 (wd r))) | 5 => some (.int .i64 0) | 8 => some (.int .i64 0) | _ => none, fun jx_ => match jx_ with | 6 => some 4 | _ => none, fun jx_ => match jx_ with | 7 => some 6 | _ => none, fun jx_ => match jx_ with | 7 => arrK .u64 4 (wd r) | _ => #[]⟩ (by kernel_rfl) (by kernel_rfl) (by kernel_rfl) (slotsOk_of hz0 (by kernel_rfl)) rfl ⟨?_, ?_, ?_, ?_, ?_, ?_, ?_, ?_, ?_, trivial⟩ ?_
  · refine fstep_val rfl rfl (calm_step rfl fun aa ω κ hb hu hc hK => ?_)
    have h1 : aa.tmps[1]?.getD undef = .pointer (some ⟨w.heap.size, 0, none⟩) := (hu 1 rfl).trans e1
    have hk := Lib.hid (fun w1 (h : Below ω.heap.size ω w1) => hK (.agg (arrK .u64 8 (wd a))) w1 rfl h)
    clear hK hu hc
    have hr1 := (hA.out.step hb).row
    have hr2 := (hA.out.step hb).eq
    go_simp
    exact hk.out _ (Below.refl _ _)
  · refine fstep_val rfl rfl (calm_step rfl fun aa ω κ hb hu hc hK => ?_)
    have hk := Lib.hid (fun w1 (h : Below ω.heap.size ω w1) => hK (.agg (arrK .u64 4 (wd l))) w1 rfl h)
    clear hK hu hc
    go_simp
    go_at_call 57
    refine (kL.out _).mono ?_
    rintro e w1 ⟨rfl, hb1⟩
    exact hk.out _ hb1
  · refine fstep_val rfl rfl (calm_step rfl fun aa ω κ hb hu hc hK => ?_)
    have h6 : aa.tmps[6]?.getD undef = .agg (arrK .u64 8 (wd a)) := hc 0 6 rfl rfl
    have h7 : aa.tmps[7]?.getD undef = .agg (arrK .u64 4 (wd l)) := hc 1 7 rfl rfl
    have hk := Lib.hid (fun w1 (h : Below ω.heap.size ω w1) => hK (.tuple #[.agg (arrK .u64 4 (wd r)), .int .i64 0]) w1 rfl h)
    clear hK hu hc
    go_simp
    go_at_call 139
    refine (kM.out _).mono ?_
    rintro e w1 ⟨rfl, hb1⟩
    exact hk.out _ hb1
  · refine fstep_val rfl rfl (calm_step rfl fun aa ω κ hb hu hc hK => ?_)
    have h8 : aa.tmps[8]?.getD undef = .tuple #[.agg (arrK .u64 4 (wd r)), .int .i64 0] := hc 2 8 rfl rfl
    have hk := Lib.hid (fun w1 (h : Below ω.heap.size ω w1) => hK (.tuple #[.agg (arrK .u64 4 (wd r)), .int .i64 0]) w1 rfl h)
    clear hK hu hc
    go_simp
    exact hk.out _ (Below.refl _ _)
  · refine fstep_val rfl rfl (calm_step rfl fun aa ω κ hb hu hc hK => ?_)
    have h5 : aa.tmps[5]?.getD undef = .tuple #[.agg (arrK .u64 4 (wd r)), .int .i64 0] := hc 3 5 rfl rfl
    have hk := Lib.hid (fun w1 (h : Below ω.heap.size ω w1) => hK (.agg (arrK .u64 4 (wd r))) w1 rfl h)
    clear hK hu hc
    go_simp
    exact hk.out _ (Below.refl _ _)
  · refine fstep_val rfl rfl (calm_step rfl fun aa ω κ hb hu hc hK => ?_)
    have h5 : aa.tmps[5]?.getD undef = .tuple #[.agg (arrK .u64 4 (wd r)), .int .i64 0] := hc 3 5 rfl rfl
    have hk := Lib.hid (fun w1 (h : Below ω.heap.size ω w1) => hK (.int .i64 0) w1 rfl h)
    clear hK hu hc
    go_simp
    exact hk.out _ (Below.refl _ _)
  · refine fstep_al (n := 4) rfl rfl fun aa ω κ hK => ?_
    have hk := Lib.hid hK
    clear hK
    go_simp
    exact hk.out _ _ hc0
  · refine fstep_st (j := 6) (n := 4) (d := 3) rfl rfl rfl rfl rfl hcr.1 rfl rfl fun aa ω κ g hb hu hc hp hr hK => ?_
    have h9 : aa.tmps[9]?.getD undef = .agg (arrK .u64 4 (wd r)) := hc 4 9 rfl rfl
    have hk := Lib.hid hK
    clear hK hu hc
    have hcc := hcr
    go_simp
    exact hk.out undef
  · refine fstep_val rfl rfl (calm_step rfl fun aa ω κ hb hu hc hK => ?_)
    have h10 : aa.tmps[10]?.getD undef = .int .i64 0 := hc 5 10 rfl rfl
    have hk := Lib.hid (fun w1 (h : Below ω.heap.size ω w1) => hK (.int .i64 0) w1 rfl h)
    clear hK hu hc
    go_simp
    exact hk.out _ (Below.refl _ _)
  · intro a1 w1 G I
    have ha0 := hha0.out
    subst ha0
    have he := act_patch (n := 12) [false, false, false, true, true, true, true, true, true, true, true, false] rfl (by kernel_rfl) I.un I.sz I.df
    simp only [patch, cond_true, cond_false, Nat.reduceAdd] at he
    have hal3 := I.al 6 3 4 rfl rfl rfl
    replace hR := Lib.hid (row_below hR.out I.bel hR.out.lt)
    replace hL := Lib.hid (below_step I.bel hL.out (Nat.le_refl _))
    have hX := Lib.hid (show At w1 (G 6) .u64 4 (wd r) from ⟨(I.blk 6 4 rfl rfl).2, (I.row 7 6 rfl rfl).2.2⟩)
    clear kL kM hA
    clear I hz0 hha0 e1
    rw [he]
    clear he
    rw [hal3]
    clear hal3
    generalize a1.tmps[4]?.getD undef = x4 at *
    generalize a1.tmps[5]?.getD undef = x5 at *
    generalize a1.tmps[6]?.getD undef = x6 at *
    generalize a1.tmps[7]?.getD undef = x7 at *
    generalize a1.tmps[8]?.getD undef = x8 at *
    generalize a1.tmps[9]?.getD undef = x9 at *
    generalize a1.tmps[10]?.getD undef = x10 at *
    obtain ⟨g5, hg⟩ : ∃ g, G 6 = g := ⟨_, rfl⟩
    rw [hg] at hX ⊢
    clear hg
    generalize w1 = W3 at *
    have hr1 := hX.out.row
    have hr2 := hX.out.eq
    have hr3 := hR.out
    go_wp2_with fail
    refine ret_row (p := 2) (ty := 41) (g := w.heap.size + 1) rfl Tryd.underlying41 rfl (by kernel_rfl) rfl ((row_setRow_same rfl hR.out).2 hcr.1) rfl ?_
    rw [rowAt_setRow_same hR.out]
    exact ⟨rfl, below_setRow hL.out (by omega)⟩
theorem low_wide {a k m : Nat} (h : a < 2 ^ k) (hk : k ≤ m) : a < 2 ^ m := Nat.lt_of_lt_of_le h (Nat.pow_le_pow_right (by omega) hk)
theorem mul_wide {a b j k m : Nat} (ha : a < 2 ^ j) (hb : b < 2 ^ k) (h : j + k = m) : a * b < 2 ^ m := by rw [← h, Nat.pow_add]; exact Nat.mul_lt_mul'' ha hb
theorem scalar_ReduceK (a k : Nat) (w : World) (ha : a < 2 ^ k) (hk : k = 64 * 8) : Calls Tryd.prog 98 #[wideV a] w fun e w' => e = .returned (numV (a % fL)) ∧ Below w.heap.size w w' := by
  subst hk
  exact scalar_Reduce a w ha
theorem scalar_Low (a : Nat) (w : World) (ha : a < 2 ^ 256) : Calls Tryd.prog 97 #[numV a] w fun e w' => e = .returned (numV (a % fL)) ∧ Below w.heap.size w w' := by
  have kW := Lib.hid (fun V => limb_Wide a 0 V ha)
  rw [Nat.mul_zero, Nat.add_zero] at kW
  obtain ⟨kk, hkk⟩ : ∃ k, k = 64 * 8 := ⟨_, rfl⟩
  have kR := Lib.hid (fun V => scalar_ReduceK a kk V (low_wide ha (by omega)) hkk)
  clear hkk
  obtain ⟨r, hr⟩ : ∃ r, a % fL = r := ⟨_, rfl⟩
  rw [hr] at kR ⊢
  clear hr ha
  unfold numV at kW kR ⊢
  unfold wideV at kW kR
  have hc0 := arrK_cells .u64 4 (wd 0)
  have hcr := arrK_cells .u64 4 (wd r)
  have hL0 : Below w.heap.size w ((w.alloc (Obj.cells (arrK .u64 4 (wd a)) 41)).alloc (Obj.cells (arrK .u64 4 (wd 0)) 41)) := by go_grown
  have hA0 : At ((w.alloc (Obj.cells (arrK .u64 4 (wd a)) 41)).alloc (Obj.cells (arrK .u64 4 (wd 0)) 41)) (w.heap.size) .u64 4 (wd a) := ((At.new _ (by simp))).old _
  have hR0 : Row ((w.alloc (Obj.cells (arrK .u64 4 (wd a)) 41)).alloc (Obj.cells (arrK .u64 4 (wd 0)) 41)) (w.heap.size + 1) 4 := (At.new (k := .u64) (f := wd 0) _ (by simp)).row
  have hL := Lib.hid hL0
  have hA := Lib.hid hA0
  have hR := Lib.hid hR0
  clear hL0 hA0 hR0
  go_enter Tryd.func97, Tryd.ntmps97
  go_upto_region 1 with (fail)
  generalize (w.alloc _).alloc _ = W0 at *
  have hr1 := hA.out.row
  have hr2 := hA.out.eq
  go_wp2_with (first
    | refine wpList_opS (by go_simp) (fun K hK => wp_bldS rfl (build_nz _) (hK _ _ ?_)))
  refine (kW.out _).mono ?_
  rintro e w9 ⟨rfl, hb⟩
  replace hR := Lib.hid (row_below hR.out hb hR.out.lt)
  replace hL := Lib.hid (below_step hb hL.out (Nat.le_refl _))
  clear hr1 hr2 hb kW hA
  dsimp only
  go_wp2_with fail
  refine (kR.out _).mono ?_
  rintro e w8 ⟨rfl, hb⟩
  replace hR := Lib.hid (row_below hR.out hb hR.out.lt)
  replace hL := Lib.hid (below_step hb hL.out (Nat.le_refl _))
  clear hb kR
  dsimp only
  have hr3 := hR.out
  go_wp2_with fail
  refine ret_row (p := 2) (ty := 41) (g := w.heap.size + 1) rfl Tryd.underlying41 rfl (by kernel_rfl) rfl ((row_setRow_same rfl hR.out).2 hcr.1) rfl ?_
  rw [rowAt_setRow_same hR.out]
  exact ⟨rfl, below_setRow hL.out (by omega)⟩
theorem scalar_Mul (a b : Nat) (w : World) (ha : a < 2 ^ 256) (hb : b < 2 ^ 256) : Calls Tryd.prog 59 #[numV a, numV b] w fun e w' => e = .returned (numV (a * b % fL)) ∧ Below w.heap.size w w' := by
  have kW := Lib.hid (fun V => limb_Mul a b V ha hb)
  obtain ⟨kk, hkk⟩ : ∃ k, k = 64 * 8 := ⟨_, rfl⟩
  have kR := Lib.hid (fun V => scalar_ReduceK (a * b) kk V (mul_wide ha hb (by omega)) hkk)
  clear hkk
  obtain ⟨r, hr⟩ : ∃ r, a * b % fL = r := ⟨_, rfl⟩
  rw [hr] at kR ⊢
  obtain ⟨p, hp⟩ : ∃ r, a * b = r := ⟨_, rfl⟩
  rw [hp] at kW kR
  clear hp hr ha hb
  unfold numV at kW kR ⊢
  unfold wideV at kW kR
  have hc0 := arrK_cells .u64 4 (wd 0)
  have hcr := arrK_cells .u64 4 (wd r)
  have hL0 : Below w.heap.size w (((w.alloc (Obj.cells (arrK .u64 4 (wd a)) 41)).alloc (Obj.cells (arrK .u64 4 (wd b)) 41)).alloc (Obj.cells (arrK .u64 4 (wd 0)) 41)) := by go_grown
  have hA0 : At (((w.alloc (Obj.cells (arrK .u64 4 (wd a)) 41)).alloc (Obj.cells (arrK .u64 4 (wd b)) 41)).alloc (Obj.cells (arrK .u64 4 (wd 0)) 41)) (w.heap.size) .u64 4 (wd a) := (((At.new _ (by simp))).old _).old _
  have hB0 : At (((w.alloc (Obj.cells (arrK .u64 4 (wd a)) 41)).alloc (Obj.cells (arrK .u64 4 (wd b)) 41)).alloc (Obj.cells (arrK .u64 4 (wd 0)) 41)) (w.heap.size + 1) .u64 4 (wd b) := ((At.new _ (by simp))).old _
  have hR0 : Row (((w.alloc (Obj.cells (arrK .u64 4 (wd a)) 41)).alloc (Obj.cells (arrK .u64 4 (wd b)) 41)).alloc (Obj.cells (arrK .u64 4 (wd 0)) 41)) (w.heap.size + 1 + 1) 4 := (At.new (k := .u64) (f := wd 0) _ (by simp)).row
  have hL := Lib.hid hL0
  have hA := Lib.hid hA0
  have hB := Lib.hid hB0
  have hR := Lib.hid hR0
  clear hL0 hA0 hB0 hR0
  go_enter Tryd.func59, Tryd.ntmps59
  go_upto_region 1 with (fail)
  generalize ((w.alloc _).alloc _).alloc _ = W0 at *
  have hr1 := hA.out.row
  have hr2 := hA.out.eq
  have hr4 := hB.out.row
  have hr5 := hB.out.eq
  go_wp2_with fail
  refine (kW.out _).mono ?_
  rintro e w9 ⟨rfl, hb⟩
  replace hR := Lib.hid (row_below hR.out hb hR.out.lt)
  replace hL := Lib.hid (below_step hb hL.out (Nat.le_refl _))
  clear hr1 hr2 hr4 hr5 hb kW hA hB
  dsimp only
  go_wp2_with fail
  refine (kR.out _).mono ?_
  rintro e w8 ⟨rfl, hb⟩
  replace hR := Lib.hid (row_below hR.out hb hR.out.lt)
  replace hL := Lib.hid (below_step hb hL.out (Nat.le_refl _))
  clear hb kR
  dsimp only
  have hr3 := hR.out
  go_wp2_with fail
  refine ret_row (p := 4) (ty := 41) (g := w.heap.size + 1 + 1) rfl Tryd.underlying41 rfl (by kernel_rfl) rfl ((row_setRow_same rfl hR.out).2 hcr.1) rfl ?_
  rw [rowAt_setRow_same hR.out]
  exact ⟨rfl, below_setRow hL.out (by omega)⟩
theorem addN_small {a b : Nat} : addN (a % fL) (b % fL) = a % fL + b % fL ∧ a % fL + b % fL < 2 ^ 256 := by
  have h1 := lt_L (a := a)
  have h2 := lt_L (a := b)
  have h3 := fL_lt
  have h4 : (2 : Nat) ^ 253 + 2 ^ 253 < 2 ^ 256 := by decide +kernel
  unfold addN
  generalize (2 : Nat) ^ 256 = P at *
  generalize (2 : Nat) ^ 253 = Q at *
  exact ⟨Nat.mod_eq_of_lt (by omega), by omega⟩
theorem scalar_Add (a b : Nat) (w : World) (ha : a < 2 ^ 256) (hb : b < 2 ^ 256) : Calls Tryd.prog 58 #[numV a, numV b] w fun e w' => e = .returned (numV ((a + b) % fL)) ∧ Below w.heap.size w w' := by
  have kA := Lib.hid (fun V => scalar_Low a V ha)
  have kB := Lib.hid (fun V => scalar_Low b V hb)
  have kS := Lib.hid (fun V => limb_Add (a % fL) (b % fL) V mod_L mod_L)
  rw [addN_small.1] at kS
  have kR := Lib.hid (fun V => scalar_Low (a % fL + b % fL) V addN_small.2)
  rw [← Nat.add_mod] at kR
  obtain ⟨r, hr⟩ : ∃ r, (a + b) % fL = r := ⟨_, rfl⟩
  rw [hr] at kR ⊢
  obtain ⟨c, hc⟩ : ∃ c, overN (a % fL) (b % fL) = c := ⟨_, rfl⟩
  rw [hc] at kS
  obtain ⟨s, hs⟩ : ∃ s, a % fL + b % fL = s := ⟨_, rfl⟩
  rw [hs] at kS kR
  obtain ⟨x, hx⟩ : ∃ s, a % fL = s := ⟨_, rfl⟩
  rw [hx] at kA kS
  obtain ⟨y, hy⟩ : ∃ s, b % fL = s := ⟨_, rfl⟩
  rw [hy] at kB kS
  clear hy hx hs hc hr ha hb
  unfold numV at kA kB kS kR ⊢
  have hc0 := arrK_cells .u64 4 (wd 0)
  have hcs := arrK_cells .u64 4 (wd s)
  have hcr := arrK_cells .u64 4 (wd r)
  have hL0 : Below w.heap.size w (((w.alloc (Obj.cells (arrK .u64 4 (wd a)) 41)).alloc (Obj.cells (arrK .u64 4 (wd b)) 41)).alloc (Obj.cells (arrK .u64 4 (wd 0)) 41)) := by go_grown
  have hA0 : At (((w.alloc (Obj.cells (arrK .u64 4 (wd a)) 41)).alloc (Obj.cells (arrK .u64 4 (wd b)) 41)).alloc (Obj.cells (arrK .u64 4 (wd 0)) 41)) (w.heap.size) .u64 4 (wd a) := (((At.new _ (by simp))).old _).old _
  have hB0 : At (((w.alloc (Obj.cells (arrK .u64 4 (wd a)) 41)).alloc (Obj.cells (arrK .u64 4 (wd b)) 41)).alloc (Obj.cells (arrK .u64 4 (wd 0)) 41)) (w.heap.size + 1) .u64 4 (wd b) := ((At.new _ (by simp))).old _
  have hR0 : Row (((w.alloc (Obj.cells (arrK .u64 4 (wd a)) 41)).alloc (Obj.cells (arrK .u64 4 (wd b)) 41)).alloc (Obj.cells (arrK .u64 4 (wd 0)) 41)) (w.heap.size + 1 + 1) 4 := (At.new (k := .u64) (f := wd 0) _ (by simp)).row
  have hL := Lib.hid hL0
  have hA := Lib.hid hA0
  have hB := Lib.hid hB0
  have hR := Lib.hid hR0
  clear hL0 hA0 hB0 hR0
  go_enter Tryd.func58, Tryd.ntmps58
  go_upto_region 1 with (fail)
  generalize ((w.alloc _).alloc _).alloc _ = W0 at *
  generalize ha0 : Act.mk _ _ = a0
  have e2 : a0.tmps[2]?.getD undef = .pointer (some ⟨w.heap.size, 0, none⟩) := by rw [← ha0]; rfl
  have e3 : a0.tmps[3]?.getD undef = .pointer (some ⟨w.heap.size + 1, 0, none⟩) := by rw [← ha0]; rfl
  have hz0 : a0.tmps.size = 17 := by rw [← ha0]; rfl
  have hha0 := Lib.hid ha0
  clear ha0
  refine wp_region_fresh ⟨fun jx_ => match jx_ with | 0 => some (.agg (arrK .u64 4 (wd a))) | 1 => some (.agg (arrK .u64 4 (wd x))) | 2 => some (.agg (arrK .u64 4 (wd b))) | 3 => some (.agg (arrK .u64 4 (wd y))) | 4 => some (.tuple #[.agg (arrK .u64 4 (wd s)), .int .u64 (c : Nat)]) | 5 => some (.tuple #[.agg (arrK .u64 4 (wd s)), .int .u64 (c : Nat)]) | 6 => some (.agg (arrK .u64 4 (wd s))) | 7 => some (.int .u64 (c : Nat)) | 10 => some (.int .u64 (c : Nat)) | _ => none, fun jx_ => match jx_ with | 8 => some 4 | _ => none, fun jx_ => match jx_ with | 9 => some 8 | _ => none, fun jx_ => match jx_ with | 9 => arrK .u64 4 (wd s) | _ => #[]⟩ (by kernel_rfl) (by kernel_rfl) (by kernel_rfl) (slotsOk_of hz0 (by kernel_rfl)) rfl ⟨?_, ?_, ?_, ?_, ?_, ?_, ?_, ?_, ?_, ?_, ?_, trivial⟩ ?_
  · refine fstep_val rfl rfl (calm_step rfl fun aa ω κ hb hu hc hK => ?_)
    have h2 : aa.tmps[2]?.getD undef = .pointer (some ⟨w.heap.size, 0, none⟩) := (hu 2 rfl).trans e2
    have hk := Lib.hid (fun w1 (h : Below ω.heap.size ω w1) => hK (.agg (arrK .u64 4 (wd a))) w1 rfl h)
    clear hK hu hc
    have hr1 := (hA.out.step hb).row
    have hr2 := (hA.out.step hb).eq
    go_simp
    exact hk.out _ (Below.refl _ _)
  · refine fstep_val rfl rfl (calm_step rfl fun aa ω κ hb hu hc hK => ?_)
    have h8 : aa.tmps[8]?.getD undef = .agg (arrK .u64 4 (wd a)) := hc 0 8 rfl rfl
    have hk := Lib.hid (fun w1 (h : Below ω.heap.size ω w1) => hK (.agg (arrK .u64 4 (wd x))) w1 rfl h)
    clear hK hu hc
    go_simp
    go_at_call 97
    refine (kA.out _).mono ?_
    rintro e w1 ⟨rfl, hb1⟩
    exact hk.out _ hb1
  · refine fstep_val rfl rfl (calm_step rfl fun aa ω κ hb hu hc hK => ?_)
    have h3 : aa.tmps[3]?.getD undef = .pointer (some ⟨w.heap.size + 1, 0, none⟩) := (hu 3 rfl).trans e3
    have hk := Lib.hid (fun w1 (h : Below ω.heap.size ω w1) => hK (.agg (arrK .u64 4 (wd b))) w1 rfl h)
    clear hK hu hc
    have hr1 := (hB.out.step hb).row
    have hr2 := (hB.out.step hb).eq
    go_simp
    exact hk.out _ (Below.refl _ _)
  · refine fstep_val rfl rfl (calm_step rfl fun aa ω κ hb hu hc hK => ?_)
    have h10 : aa.tmps[10]?.getD undef = .agg (arrK .u64 4 (wd b)) := hc 2 10 rfl rfl
    have hk := Lib.hid (fun w1 (h : Below ω.heap.size ω w1) => hK (.agg (arrK .u64 4 (wd y))) w1 rfl h)
    clear hK hu hc
    go_simp
    go_at_call 97
    refine (kB.out _).mono ?_
    rintro e w1 ⟨rfl, hb1⟩
    exact hk.out _ hb1
  · refine fstep_val rfl rfl (calm_step rfl fun aa ω κ hb hu hc hK => ?_)
    have h9 : aa.tmps[9]?.getD undef = .agg (arrK .u64 4 (wd x)) := hc 1 9 rfl rfl
    have h11 : aa.tmps[11]?.getD undef = .agg (arrK .u64 4 (wd y)) := hc 3 11 rfl rfl
    have hk := Lib.hid (fun w1 (h : Below ω.heap.size ω w1) => hK (.tuple #[.agg (arrK .u64 4 (wd s)), .int .u64 (c : Nat)]) w1 rfl h)
    clear hK hu hc
    go_simp
    go_at_call 96
    refine (kS.out _).mono ?_
    rintro e w1 ⟨rfl, hb1⟩
    exact hk.out _ hb1
  · refine fstep_val rfl rfl (calm_step rfl fun aa ω κ hb hu hc hK => ?_)
    have h12 : aa.tmps[12]?.getD undef = .tuple #[.agg (arrK .u64 4 (wd s)), .int .u64 (c : Nat)] := hc 4 12 rfl rfl
    have hk := Lib.hid (fun w1 (h : Below ω.heap.size ω w1) => hK (.tuple #[.agg (arrK .u64 4 (wd s)), .int .u64 (c : Nat)]) w1 rfl h)
    clear hK hu hc
    go_simp
    exact hk.out _ (Below.refl _ _)
  · refine fstep_val rfl rfl (calm_step rfl fun aa ω κ hb hu hc hK => ?_)
    have h7 : aa.tmps[7]?.getD undef = .tuple #[.agg (arrK .u64 4 (wd s)), .int .u64 (c : Nat)] := hc 5 7 rfl rfl
    have hk := Lib.hid (fun w1 (h : Below ω.heap.size ω w1) => hK (.agg (arrK .u64 4 (wd s))) w1 rfl h)
    clear hK hu hc
    go_simp
    exact hk.out _ (Below.refl _ _)
  · refine fstep_val rfl rfl (calm_step rfl fun aa ω κ hb hu hc hK => ?_)
    have h7 : aa.tmps[7]?.getD undef = .tuple #[.agg (arrK .u64 4 (wd s)), .int .u64 (c : Nat)] := hc 5 7 rfl rfl
    have hk := Lib.hid (fun w1 (h : Below ω.heap.size ω w1) => hK (.int .u64 (c : Nat)) w1 rfl h)
    clear hK hu hc
    go_simp
    exact hk.out _ (Below.refl _ _)
  · refine fstep_al (n := 4) rfl rfl fun aa ω κ hK => ?_
    have hk := Lib.hid hK
    clear hK
    go_simp
    exact hk.out _ _ hc0
  · refine fstep_st (j := 8) (n := 4) (d := 5) rfl rfl rfl rfl rfl hcs.1 rfl rfl fun aa ω κ g hb hu hc hp hr hK => ?_
    have h13 : aa.tmps[13]?.getD undef = .agg (arrK .u64 4 (wd s)) := hc 6 13 rfl rfl
    have hk := Lib.hid hK
    clear hK hu hc
    have hcc := hcs
    go_simp
    exact hk.out undef
  · refine fstep_val rfl rfl (calm_step rfl fun aa ω κ hb hu hc hK => ?_)
    have h14 : aa.tmps[14]?.getD undef = .int .u64 (c : Nat) := hc 7 14 rfl rfl
    have hk := Lib.hid (fun w1 (h : Below ω.heap.size ω w1) => hK (.int .u64 (c : Nat)) w1 rfl h)
    clear hK hu hc
    go_simp
    exact hk.out _ (Below.refl _ _)
  · intro a1 w1 G I
    have ha0 := hha0.out
    subst ha0
    have he := act_patch (n := 17) [false, false, false, false, false, true, true, true, true, true, true, true, true, true, true, false, false] rfl (by kernel_rfl) I.un I.sz I.df
    simp only [patch, cond_true, cond_false, Nat.reduceAdd] at he
    have hal5 := I.al 8 5 4 rfl rfl rfl
    replace hR := Lib.hid (row_below hR.out I.bel hR.out.lt)
    replace hL := Lib.hid (below_step I.bel hL.out (Nat.le_refl _))
    have hX := Lib.hid (show At w1 (G 8) .u64 4 (wd s) from ⟨(I.blk 8 4 rfl rfl).2, (I.row 9 8 rfl rfl).2.2⟩)
    clear kA kB kS hA hB
    clear I hz0 hha0 e2 e3
    rw [he]
    clear he
    rw [hal5]
    clear hal5
    generalize a1.tmps[6]?.getD undef = x6 at *
    generalize a1.tmps[7]?.getD undef = x7 at *
    generalize a1.tmps[8]?.getD undef = x8 at *
    generalize a1.tmps[9]?.getD undef = x9 at *
    generalize a1.tmps[10]?.getD undef = x10 at *
    generalize a1.tmps[11]?.getD undef = x11 at *
    generalize a1.tmps[12]?.getD undef = x12 at *
    generalize a1.tmps[13]?.getD undef = x13 at *
    generalize a1.tmps[14]?.getD undef = x14 at *
    obtain ⟨g5, hg⟩ : ∃ g, G 8 = g := ⟨_, rfl⟩
    rw [hg] at hX ⊢
    clear hg
    generalize w1 = W3 at *
    have hr1 := hX.out.row
    have hr2 := hX.out.eq
    have hr3 := hR.out
    go_wp2_with fail
    refine (kR.out _).mono ?_
    rintro e w9 ⟨rfl, hb⟩
    replace hR := Lib.hid (row_below hR.out hb hR.out.lt)
    replace hL := Lib.hid (below_step hb hL.out (Nat.le_refl _))
    clear hr1 hr2 hr3 hb kR hX
    dsimp only
    have hr3 := hR.out
    go_wp2_with fail
    refine ret_row (p := 4) (ty := 41) (g := w.heap.size + 1 + 1) rfl Tryd.underlying41 rfl (by kernel_rfl) rfl ((row_setRow_same rfl hR.out).2 hcr.1) rfl ?_
    rw [rowAt_setRow_same hR.out]
    exact ⟨rfl, below_setRow hL.out (by omega)⟩
theorem subN_small {a : Nat} : subN fL (a % fL) = fL - a % fL ∧ fL - a % fL < 2 ^ 256 := by
  have h1 := lt_L (a := a)
  have h3 := fL_lt'
  unfold subN
  generalize (2 : Nat) ^ 256 = P at *
  refine ⟨?_, by omega⟩
  rw [show fL + P - a % fL = (fL - a % fL) + P by omega, Nat.add_mod_right]
  exact Nat.mod_eq_of_lt (by omega)
/-- One over a number modulo L. -/
def invL (a : Nat) : Nat := a ^ (fL - 2) % fL
theorem invL_lt (a : Nat) : invL a < 2 ^ 256 := mod_L
theorem pow_L {u : Nat} (h : u % fL ≠ 0) : u ^ (fL - 1) % fL = 1 := fermat1 fL_pr fun hd => h (Nat.mod_eq_zero_of_dvd hd)
theorem invP_is {a s c : Nat} (h : InvP a fL s c) : s = invL a ∧ c = if a % fL = 0 then 6 else 0 := by
  have h1 := fL_pos
  have hp := @pow_L a
  have hcop := @Pr.cop fL a fL_pr
  unfold invL
  rcases h with ⟨h2, -, -⟩ | ⟨-, h2, rfl, rfl⟩ | ⟨-, h2, rfl, h3, h4⟩
  · omega
  · have h5 : a % fL = 0 := by
      rcases Nat.eq_zero_or_pos (a % fL) with h6 | h6
      · exact h6
      · exfalso
        have h7 := hcop fun hd => by have := Nat.mod_eq_zero_of_dvd hd; omega
        rw [Nat.Coprime, Nat.gcd_comm] at h7
        exact h2 h7
    rw [if_pos h5]
    refine ⟨?_, rfl⟩
    rw [Nat.pow_mod, h5, Nat.zero_pow (by omega), Nat.zero_mod]
  · have h5 : a % fL ≠ 0 := by
      intro h6
      rw [Nat.mul_mod, h6, Nat.zero_mul, Nat.zero_mod, Nat.mod_eq_of_lt (by omega)] at h4
      cases h4
    rw [if_neg h5]
    refine ⟨?_, rfl⟩
    have h6 := hp h5
    have h7 : a * a ^ (fL - 2) = a ^ (fL - 1) := by
      have h10 : (fL - 2).succ = fL - 1 := by omega
      rw [Nat.mul_comm, ← Nat.pow_succ, h10]
    rw [← h7] at h6
    have h8 : (a * s) * a ^ (fL - 2) % fL = a ^ (fL - 2) % fL := by rw [← Nat.mod_mul_mod, h4, Nat.mod_mul_mod, Nat.one_mul]
    have h9 : (a * s) * a ^ (fL - 2) = (a * a ^ (fL - 2)) * s := by rw [Nat.mul_assoc, Nat.mul_comm s, ← Nat.mul_assoc]
    rw [h9, ← Nat.mod_mul_mod, h6, Nat.one_mul, Nat.mod_eq_of_lt h3] at h8
    exact h8
end Go.Proofs.YtgdiokklfihfoaaDoor
namespace Go.Proofs.YtgdiokklfihfoaaDoor
open Go

abbrev W32 := BitVec 32
def rotr (x : W32) (n : Nat) : W32 := x >>> n ||| x <<< (32 - n)
def sg0 (x : W32) : W32 := rotr x 7 ^^^ rotr x 18 ^^^ x >>> 3
def sg1 (x : W32) : W32 := rotr x 17 ^^^ rotr x 19 ^^^ x >>> 10
def sG1 (x : W32) : W32 := rotr x 6 ^^^ rotr x 11 ^^^ rotr x 25
def sG0 (x : W32) : W32 := rotr x 2 ^^^ rotr x 13 ^^^ rotr x 22
def chs (x y z : W32) : W32 := (x &&& y) ^^^ (~~~x &&& z)
def maj (x y z : W32) : W32 := (x &&& y) ^^^ (x &&& z) ^^^ (y &&& z)
theorem chs_eq (x y z : W32) : z ^^^ (x &&& (y ^^^ z)) = chs x y z := by
  unfold chs
  ext i
  simp
  cases x[i] <;> cases y[i] <;> cases z[i] <;> rfl
theorem maj_eq (x y z : W32) : (x &&& y) ||| (z &&& (x ||| y)) = maj x y z := by
  unfold maj
  ext i
  simp
  cases x[i] <;> cases y[i] <;> cases z[i] <;> rfl

/-- The words of a block, the first 16 + n. -/
def schl (b : Nat → W32) : Nat → List W32
  | 0 => (List.range 16).map b
  | n + 1 => schl b n ++ [(schl b n)[n]?.getD 0 + sg0 ((schl b n)[n + 1]?.getD 0) + (schl b n)[n + 9]?.getD 0 + sg1 ((schl b n)[n + 14]?.getD 0)]
theorem schl_len (b : Nat → W32) : ∀ n, (schl b n).length = 16 + n
  | 0 => by simp [schl]
  | n + 1 => by simp [schl, schl_len b n]; omega
theorem schl_pre (b : Nat → W32) (n : Nat) : ∀ m t, t < 16 + n → (schl b (n + m))[t]? = (schl b n)[t]?
  | 0, _, _ => rfl
  | m + 1, t, h => by
      show (schl b (n + m) ++ _)[t]? = _
      rw [List.getElem?_append_left (by rw [schl_len]; omega), schl_pre b n m t h]
def sch (b : Nat → W32) (t : Nat) : W32 := (schl b t)[t]?.getD 0
theorem sch_at (b : Nat → W32) {n t : Nat} (h : t < 16 + n) : (schl b n)[t]?.getD 0 = sch b t := by
  unfold sch
  rcases Nat.le_total n t with hle | hle
  · obtain ⟨m, rfl⟩ : ∃ m, t = n + m := ⟨t - n, by omega⟩
    rw [schl_pre b n m _ (by omega)]
  · obtain ⟨m, rfl⟩ : ∃ m, n = t + m := ⟨n - t, by omega⟩
    rw [schl_pre b t m _ (by omega)]
theorem sch_lo (b : Nat → W32) {t : Nat} (h : t < 16) : sch b t = b t := by
  rw [← sch_at b (n := 0) (by omega)]
  simp [schl, h]
theorem sch_hi (b : Nat → W32) {t : Nat} (h : 16 ≤ t) : sch b t = sch b (t - 16) + sg0 (sch b (t - 15)) + sch b (t - 7) + sg1 (sch b (t - 2)) := by
  obtain ⟨n, rfl⟩ : ∃ n, t = n + 16 := ⟨t - 16, by omega⟩
  rw [← sch_at b (n := n + 1) (by omega)]
  show (schl b n ++ _)[n + 16]?.getD 0 = _
  rw [List.getElem?_append_right (by rw [schl_len]; omega), schl_len, show n + 16 - (16 + n) = 0 by omega]
  show (schl b n)[n]?.getD 0 + sg0 ((schl b n)[n + 1]?.getD 0) + (schl b n)[n + 9]?.getD 0 + sg1 ((schl b n)[n + 14]?.getD 0) = _
  rw [sch_at b (by omega), sch_at b (by omega), sch_at b (by omega), sch_at b (by omega), show n + 16 - 16 = n by omega, show n + 16 - 15 = n + 1 by omega, show n + 16 - 7 = n + 9 by omega, show n + 16 - 2 = n + 14 by omega]

def one (k w : W32) (v : Nat → W32) : W32 := v 7 + sG1 (v 4) + chs (v 4) (v 5) (v 6) + k + w
def two (v : Nat → W32) : W32 := sG0 (v 0) + maj (v 0) (v 1) (v 2)
def rnd (k w : W32) (v : Nat → W32) : Nat → W32
  | 0 => one k w v + two v
  | 1 => v 0
  | 2 => v 1
  | 3 => v 2
  | 4 => v 3 + one k w v
  | 5 => v 4
  | 6 => v 5
  | _ => v 6
def rounds (K w v : Nat → W32) : Nat → Nat → W32
  | 0 => v
  | t + 1 => rnd (K t) (w t) (rounds K w v t)
def prs (K h b : Nat → W32) : Nat → W32 := fun i => h i + rounds K (sch b) h 64 i

/-! As the walk has them: the number of a word, under a name of its own (the walk's simp would take 'toNat' apart). -/
def w2n (x : W32) : Nat := x.toNat
theorem w2n_lt (x : W32) : w2n x < 4294967296 := x.isLt
theorem w2n_of {n : Nat} (h : n < 4294967296) : w2n (BitVec.ofNat 32 n) = n := by unfold w2n; rw [BitVec.toNat_ofNat]; exact Nat.mod_eq_of_lt h
theorem w2n_inj {x y : W32} (h : w2n x = w2n y) : x = y := BitVec.eq_of_toNat_eq h
section
variable (x y : W32)
theorem u32_xor' : bits .xor .u32 (w2n x : Int) (w2n y : Int) = (w2n (x ^^^ y) : Int) := by unfold w2n; rw [u32_xor_nat _ _ x.isLt y.isLt, BitVec.toNat_xor]
theorem u32_and' : bits .and .u32 (w2n x : Int) (w2n y : Int) = (w2n (x &&& y) : Int) := by unfold w2n; rw [u32_and_nat _ _ x.isLt y.isLt, BitVec.toNat_and]
theorem u32_or' : bits .or .u32 (w2n x : Int) (w2n y : Int) = (w2n (x ||| y) : Int) := by unfold w2n; rw [u32_or_nat _ _ x.isLt y.isLt, BitVec.toNat_or]
theorem u32_add' : ((w2n x : Int) + (w2n y : Int)) % (4294967296 : Int) = (w2n (x + y) : Int) := by unfold w2n; rw [BitVec.toNat_add]; simp
theorem u32_addw' : IntKind.u32.wrap ((w2n x : Int) + (w2n y : Int)) = (w2n (x + y) : Int) := by rw [IntKind.wrap_u32]; exact u32_add' x y
theorem u32_shr' (n : Nat) : (w2n x : Int) / (2 : Int) ^ n = (w2n (x >>> n) : Int) := by unfold w2n; rw [BitVec.toNat_ushiftRight, Nat.shiftRight_eq_div_pow]; simp
theorem u32_shr3 : (w2n x : Int) / (8 : Int) = (w2n (x >>> 3) : Int) := u32_shr' x 3
theorem u32_shr10 : (w2n x : Int) / (1024 : Int) = (w2n (x >>> 10) : Int) := u32_shr' x 10
theorem u32_shl' (n : Nat) : (w2n x : Int) * (2 : Int) ^ n % (4294967296 : Int) = (w2n (x <<< n) : Int) := by unfold w2n; rw [BitVec.toNat_shiftLeft, Nat.shiftLeft_eq]; simp
theorem u32_shlw' (n : Nat) : IntKind.u32.wrap ((w2n x : Int) * (2 : Int) ^ n) = (w2n (x <<< n) : Int) := by rw [IntKind.wrap_u32]; exact u32_shl' x n
theorem u32_not2 : bits .xor .u32 IntKind.u32.max (w2n x : Int) = (w2n (~~~x) : Int) := by
  unfold w2n
  rw [show IntKind.u32.max = (((BitVec.allOnes 32).toNat : Nat) : Int) from rfl, u32_xor_nat _ _ (by decide) x.isLt, ← BitVec.toNat_xor, BitVec.allOnes_xor]
theorem u32_not' : ((4294967295 : Int) - (w2n x : Int)) = (w2n (~~~x) : Int) := by unfold w2n; have := x.isLt; rw [BitVec.toNat_not]; omega
end
end Go.Proofs.YtgdiokklfihfoaaDoor
namespace Go.Proofs.YtgdiokklfihfoaaDoor
open Go.ChangeShapes Go.WideShapes Go.ChangeAt Go.RowKit
set_option maxHeartbeats 1000000
set_option maxRecDepth 100000
attribute [local go_sem] u32_xor' u32_and' u32_or' u32_add' u32_addw' u32_shr' u32_shl' u32_shlw' u32_not'

abbrev u32v (x : W32) : Value := .int .u32 (w2n x : Int)

theorem rot32 (x : W32) (n : Nat) (w : World) (hn : 0 < n) (hn2 : n < 32) :
    Calls Tryd.prog 163 #[u32v x, .int .i64 (-(n : Int))] w fun e w' => e = .returned (u32v (rotr x n)) ∧ w = w' := by
  obtain ⟨m, hm⟩ : ∃ m, m = 32 - n := ⟨_, rfl⟩
  have hb : bits .and .u64 (IntKind.u64.wrap (-(n : Int))) 31 = (m : Int) := by
    rw [show IntKind.u64.wrap (-(n : Int)) = ((18446744073709551616 - n : Nat) : Int) by rw [IntKind.wrap_u64]; omega, show (31 : Int) = ((31 : Nat) : Int) from rfl, u64_and_nat _ _ (by omega) (by omega), show (31 : Nat) = 2 ^ 5 - 1 from rfl, Nat.and_two_pow_sub_one_eq_mod]
    omega
  have h1 : (0 : Int) ≤ m := by omega
  have h2 : (m : Int) < 32 := by omega
  have h3 : (32 : Int) - m = n := by omega
  have hHm := Lib.hid hm
  clear hm
  go_enter Tryd.func163, Tryd.ntmps163
  go_wp2
  go_ret
  refine ⟨?_, rfl⟩
  unfold rotr
  rw [BitVec.or_comm, ← hHm.out]; rfl
def be32 (f : Nat → Nat) (at_ : Nat) : W32 := BitVec.ofNat 32 (f at_ * 16777216 + f (at_ + 1) * 65536 + f (at_ + 2) * 256 + f (at_ + 3))
theorem or_lo {x y i : Nat} (h : x < 2 ^ i) : 2 ^ i * y ||| x = 2 ^ i * y + x := (Nat.two_pow_add_eq_or_of_lt h y).symm
theorem be_or {a b c d : Nat} (ha : a < 256) (hb : b < 256) (hc : c < 256) (hd : d < 256) :
    bits .or .u32 (bits .or .u32 (bits .or .u32 ((a : Int) * 16777216) ((b : Int) * 65536)) ((c : Int) * 256)) (d : Int) = (w2n (BitVec.ofNat 32 (a * 16777216 + b * 65536 + c * 256 + d)) : Int) := by
  have e1 : a * 16777216 ||| b * 65536 = a * 16777216 + b * 65536 := by
    have := or_lo (x := b * 65536) (y := a) (i := 24) (by omega)
    rw [Nat.mul_comm a]; simpa using this
  have e2 : (a * 16777216 + b * 65536) ||| c * 256 = a * 16777216 + b * 65536 + c * 256 := by
    have := or_lo (x := c * 256) (y := a * 256 + b) (i := 16) (by omega)
    rw [show a * 16777216 + b * 65536 = 2 ^ 16 * (a * 256 + b) by omega]; exact this
  have e3 : (a * 16777216 + b * 65536 + c * 256) ||| d = a * 16777216 + b * 65536 + c * 256 + d := by
    have := or_lo (x := d) (y := a * 65536 + b * 256 + c) (i := 8) (by omega)
    rw [show a * 16777216 + b * 65536 + c * 256 = 2 ^ 8 * (a * 65536 + b * 256 + c) by omega]; exact this
  rw [show (a : Int) * 16777216 = ((a * 16777216 : Nat) : Int) by simp, show (b : Int) * 65536 = ((b * 65536 : Nat) : Int) by simp, show (c : Int) * 256 = ((c * 256 : Nat) : Int) by simp,
    u32_or_nat _ _ (by omega) (by omega), e1, u32_or_nat _ _ (by omega) (by omega), e2, u32_or_nat _ _ (by omega) (by omega), e3, w2n_of (by omega)]
theorem hash_word (A : Option Addr) (n c : Nat) (f : Nat → Nat) (p : Nat) (w : World) (h : Rd w w.heap.size A (arrK .u8 n f).toList) (hf : ∀ i < n, f i < 256) (hp : p + 3 < n) (hn : n ≤ 1000000) :
    Calls Tryd.prog 141 #[.slice A n c, .int .i64 p] w fun e w' => e = .returned (u32v (be32 f p)) ∧ w.drew = w' := by
  obtain ⟨ad, rfl, hb, c0⟩ := h p (.int .u8 (f p)) (by rw [Array.getElem?_toList, arrK_at (by omega)])
  have c1 := h.all (j := p + 1) (u := .int .u8 (f (p + 1))) (by rw [Array.getElem?_toList, arrK_at (by omega)])
  have c2 := h.all (j := p + 2) (u := .int .u8 (f (p + 2))) (by rw [Array.getElem?_toList, arrK_at (by omega)])
  have c3 := h.all (j := p + 3) (u := .int .u8 (f (p + 3))) (by rw [Array.getElem?_toList, arrK_at (by omega)])
  have e1 : ad.add (p + 1) = ⟨ad.block, ad.off + (p + 1), none⟩ := by unfold Addr.add; rw [if_neg (by omega)]
  have e2 : ad.add (p + 2) = ⟨ad.block, ad.off + (p + 1 + 1), none⟩ := by unfold Addr.add; rw [if_neg (by omega)]
  have e3 : ad.add (p + 3) = ⟨ad.block, ad.off + (p + 2 + 1), none⟩ := by unfold Addr.add; rw [if_neg (by omega)]
  rw [e1] at c1
  rw [e2] at c2
  rw [e3] at c3
  clear e1 e2 e3
  have b0 := hf p (by omega)
  have b1 := hf (p + 1) (by omega)
  have b2 := hf (p + 2) (by omega)
  have b3 := hf (p + 3) (by omega)
  have w1 : IntKind.i64.wrap ((p : Int) + 1) = (p : Int) + 1 := by rw [IntKind.wrap_i64]; omega
  have w2 : IntKind.i64.wrap ((p : Int) + 2) = (p : Int) + 2 := by rw [IntKind.wrap_i64]; omega
  have w3 : IntKind.i64.wrap ((p : Int) + 3) = (p : Int) + 3 := by rw [IntKind.wrap_i64]; omega
  have t1 : ((p : Int) + 1).toNat = p + 1 := by omega
  have t2 : ((p : Int) + 2).toNat = p + 2 := by omega
  have t3 : ((p : Int) + 3).toNat = p + 3 := by omega
  have l1 : (p : Int) + 1 < n := by omega
  have l2 : (p : Int) + 2 < n := by omega
  have l3 : (p : Int) + 3 < n := by omega
  have l0 : (p : Int) < n := by omega
  have z1 : (0 : Int) ≤ (p : Int) + 1 := by omega
  have z2 : (0 : Int) ≤ (p : Int) + 2 := by omega
  have z3 : (0 : Int) ≤ (p : Int) + 3 := by omega
  go_enter Tryd.func141, Tryd.ntmps141
  go_wp2
  go_region
  go_wp2
  go_ret
  exact ⟨congrArg (fun z => Ending.returned (.int .u32 z)) (be_or b0 b1 b2 b3), rfl⟩
theorem hash_right (x : W32) (n : Nat) (w : World) (hn : 0 < n) (hn2 : n < 32) :
    Calls Tryd.prog 142 #[u32v x, .int .i64 n] w fun e w' => e = .returned (u32v (rotr x n)) ∧ w = w' := by
  go_enter Tryd.func142, Tryd.ntmps142
  go_wp2_with (go_at_call 163; refine (rot32 x n _ hn hn2).mono ?_; rintro e w' ⟨rfl, rfl⟩)
  go_ret
  exact ⟨rfl, rfl⟩

/-! press -/
def h8 (h : Nat → W32) : Array Value := arrK .u32 8 fun i => w2n (h i)
def wK (b : Nat → W32) (t : Nat) : Nat → Nat := fun i => if i < t then w2n (sch b i) else 0
theorem wK_step (b : Nat → W32) (t p : Nat) : upd (wK b t) t (w2n (sch b t)) p = wK b (t + 1) p := by
  unfold upd wK
  by_cases h : p = t
  · subst h; rw [if_pos rfl, if_pos (by omega)]
  · rw [if_neg h]
    by_cases h2 : p < t
    · rw [if_pos h2, if_pos (by omega)]
    · rw [if_neg h2, if_neg (by omega)]
theorem wK_at (b : Nat → W32) {t i : Nat} (h : i < t) : wK b t i = w2n (sch b i) := if_pos h
end Go.Proofs.YtgdiokklfihfoaaDoor
namespace Go.Proofs.YtgdiokklfihfoaaDoor
open Go.ChangeShapes Go.WideShapes Go.ChangeAt Go.RowKit
set_option maxHeartbeats 2000000
set_option maxRecDepth 100000
theorem load_h8 {w : World} {dst : Option Tmp} {x : Operand} {tt : TypeId} {pos : String} {af : Array Edge} {gd : Option (Nat × Bool)} {a : Act} {K : Act → World → Prop} {Q : Exit → Act → World → Prop}
    (hv : IsHead (a.eval x)) (h : Row w (blkOf (a.eval x)) 8) : Oper.wp Tryd.prog ⟨dst, .load 103 x, tt, pos, af, gd⟩ a w K Q ↔ K (a.put dst (.agg (rowAt w (blkOf (a.eval x))))) w :=
  wp_load_whole Tryd.underlying103 rfl (by kernel_rfl) hv h
theorem store_h8 {w : World} {dst : Option Tmp} {x y : Operand} {tt : TypeId} {pos : String} {af : Array Edge} {gd : Option (Nat × Bool)} {a : Act} {K : Act → World → Prop} {Q : Exit → Act → World → Prop}
    (hv : IsHead (a.eval x)) (h : Row w (blkOf (a.eval x)) 8) (hx : IsAgg (a.eval y) 8) : Oper.wp Tryd.prog ⟨dst, .store 103 x y, tt, pos, af, gd⟩ a w K Q ↔ K (a.put dst undef) (w.setRow (blkOf (a.eval x)) (cellsV (a.eval y))) :=
  wp_store_whole (by kernel_rfl) hv h hx
theorem execl_h8 {w : World} {dst : Option Tmp} {x : Operand} {tt : TypeId} {pos : String} {af : Array Edge} {gd : Option (Nat × Bool)} {ρ : Operand → Value}
    (hv : IsHead (ρ x)) (h : Row w (blkOf (ρ x)) 8) : (execOp ρ ⟨dst, .load 103 x, tt, pos, af, gd⟩).run Tryd.prog w = .ok (.value (.agg (rowAt w (blkOf (ρ x))))) w :=
  exec_load_whole Tryd.underlying103 rfl (by kernel_rfl) hv h
theorem execs_h8 {w : World} {dst : Option Tmp} {x y : Operand} {tt : TypeId} {pos : String} {af : Array Edge} {gd : Option (Nat × Bool)} {ρ : Operand → Value}
    (hv : IsHead (ρ x)) (h : Row w (blkOf (ρ x)) 8) (hx : IsAgg (ρ y) 8) : (execOp ρ ⟨dst, .store 103 x y, tt, pos, af, gd⟩).run Tryd.prog w = .ok .skip (w.setRow (blkOf (ρ x)) (cellsV (ρ y))) :=
  exec_store_whole (by kernel_rfl) hv h hx

attribute [local go_sem] u32_xor' u32_and' u32_or' u32_add' u32_addw' u32_shr3 u32_shr10 u32_shr' u32_shl' u32_shlw' u32_not2 u32_not'
attribute [local go_sem ↓] load_h8 store_h8 execl_h8 execs_h8
attribute [local go_sem] isHead_mk blkOf_mk isAgg_mk cellsV_mk row_drew rowAt_drew row_new_cells row_old rowAt_new rowAt_old setRow_new
attribute [local go_sem ↓] Go.wp_at_zero Go.wp_at_succ

theorem zero8u : #[Value.int IntKind.u32 0, Value.int IntKind.u32 0, Value.int IntKind.u32 0, Value.int IntKind.u32 0, Value.int IntKind.u32 0, Value.int IntKind.u32 0, Value.int IntKind.u32 0, Value.int IntKind.u32 0] = arrK .u32 8 fun _ => 0 := by kernel_rfl
theorem zero64u : #[Value.int IntKind.u32 0, Value.int IntKind.u32 0, Value.int IntKind.u32 0, Value.int IntKind.u32 0, Value.int IntKind.u32 0, Value.int IntKind.u32 0, Value.int IntKind.u32 0, Value.int IntKind.u32 0, Value.int IntKind.u32 0, Value.int IntKind.u32 0, Value.int IntKind.u32 0, Value.int IntKind.u32 0, Value.int IntKind.u32 0, Value.int IntKind.u32 0, Value.int IntKind.u32 0, Value.int IntKind.u32 0, Value.int IntKind.u32 0, Value.int IntKind.u32 0, Value.int IntKind.u32 0, Value.int IntKind.u32 0, Value.int IntKind.u32 0, Value.int IntKind.u32 0, Value.int IntKind.u32 0, Value.int IntKind.u32 0, Value.int IntKind.u32 0, Value.int IntKind.u32 0, Value.int IntKind.u32 0, Value.int IntKind.u32 0, Value.int IntKind.u32 0, Value.int IntKind.u32 0, Value.int IntKind.u32 0, Value.int IntKind.u32 0, Value.int IntKind.u32 0, Value.int IntKind.u32 0, Value.int IntKind.u32 0, Value.int IntKind.u32 0, Value.int IntKind.u32 0, Value.int IntKind.u32 0, Value.int IntKind.u32 0, Value.int IntKind.u32 0, Value.int IntKind.u32 0, Value.int IntKind.u32 0, Value.int IntKind.u32 0, Value.int IntKind.u32 0, Value.int IntKind.u32 0, Value.int IntKind.u32 0, Value.int IntKind.u32 0, Value.int IntKind.u32 0, Value.int IntKind.u32 0, Value.int IntKind.u32 0, Value.int IntKind.u32 0, Value.int IntKind.u32 0, Value.int IntKind.u32 0, Value.int IntKind.u32 0, Value.int IntKind.u32 0, Value.int IntKind.u32 0, Value.int IntKind.u32 0, Value.int IntKind.u32 0, Value.int IntKind.u32 0, Value.int IntKind.u32 0, Value.int IntKind.u32 0, Value.int IntKind.u32 0, Value.int IntKind.u32 0, Value.int IntKind.u32 0] = arrK .u32 64 fun _ => 0 := by kernel_rfl
theorem h8_size (h : Nat → W32) : (h8 h).size = 8 := arrK_size _ _ _
theorem h8_cells (h : Nat → W32) : Cells (h8 h) 8 := arrK_cells _ _ _

theorem cell_ne {w : World} {g i j : Nat} {v : Value} {x : Option Value} (h : w.cell? ⟨g, i, none⟩ = x) (hne : i ≠ j) : (w.setCell ⟨g, j, none⟩ v).cell? ⟨g, i, none⟩ = x :=
  (World.cell?_setCell_other w ⟨g, j, none⟩ ⟨g, i, none⟩ v (fun e => by injection e with _ e2; exact hne e2.symm)).trans h
theorem arrK8' (k : IntKind) (f : Nat → Nat) : #[Value.int k (f 0), Value.int k (f 1), Value.int k (f 2), Value.int k (f 3), Value.int k (f 4), Value.int k (f 5), Value.int k (f 6), Value.int k (f 7)] = arrK k 8 f :=
  arrK_of rfl fun i hi => by rcases (by omega : i = 0 ∨ i = 1 ∨ i = 2 ∨ i = 3 ∨ i = 4 ∨ i = 5 ∨ i = 6 ∨ i = 7) with rfl | rfl | rfl | rfl | rfl | rfl | rfl | rfl <;> rfl
def addK (h v : Nat → W32) (j : Nat) : Nat → Nat := fun i => if i < j then w2n (h i + v i) else w2n (h i)
theorem addK_at (h v : Nat → W32) (j : Nat) : addK h v j j = w2n (h j) := if_neg (by omega)
theorem addK_step (h v : Nat → W32) (j p : Nat) : upd (addK h v j) j (w2n (h j + v j)) p = addK h v (j + 1) p := by
  unfold upd addK
  by_cases e : p = j
  · subst e; rw [if_pos rfl, if_pos (by omega)]
  · rw [if_neg e]
    by_cases e2 : p < j
    · rw [if_pos e2, if_pos (by omega)]
    · rw [if_neg e2, if_neg (by omega)]
/-- The blocks that press reads. -/
structure PrAt (W : World) (g : Nat) (h : Nat → W32) (f : Nat → Nat) (K : Nat → W32) : Prop where
  R0 : Row W g 8
  r0 : rowAt W g = h8 h
  R1 : Row W (g + 1) 64
  r1 : rowAt W (g + 1) = arrK .u8 64 f
  R2 : Row W (g + 1 + 1) 8
  k : ∀ i < 64, W.cell? ⟨1, i, none⟩ = some (u32v (K i))
  kl : 1 < g
theorem PrAt.below {W W' : World} {g B : Nat} {h : Nat → W32} {f : Nat → Nat} {K : Nat → W32} (p : PrAt W g h f K) (hb : Below B W W') (hB : g + 3 ≤ B) : PrAt W' g h f K :=
  ⟨row_below p.R0 hb (by omega), (rowAt_below hb (by omega)).trans p.r0, row_below p.R1 hb (by omega), (rowAt_below hb (by omega)).trans p.r1, row_below p.R2 hb (by omega),
    fun i hi => ((bcell hb).1 _ _ (by have := p.kl; omega)).trans (p.k i hi), p.kl⟩
theorem hash_right2 (x : W32) (w : World) : Calls Tryd.prog 142 #[.int .u32 (w2n x : Int), .int .i64 2] w fun e w' => e = .returned (u32v (rotr x 2)) ∧ w = w' := hash_right x 2 w (by omega) (by omega)
theorem hash_right6 (x : W32) (w : World) : Calls Tryd.prog 142 #[.int .u32 (w2n x : Int), .int .i64 6] w fun e w' => e = .returned (u32v (rotr x 6)) ∧ w = w' := hash_right x 6 w (by omega) (by omega)
theorem hash_right7 (x : W32) (w : World) : Calls Tryd.prog 142 #[.int .u32 (w2n x : Int), .int .i64 7] w fun e w' => e = .returned (u32v (rotr x 7)) ∧ w = w' := hash_right x 7 w (by omega) (by omega)
theorem hash_right11 (x : W32) (w : World) : Calls Tryd.prog 142 #[.int .u32 (w2n x : Int), .int .i64 11] w fun e w' => e = .returned (u32v (rotr x 11)) ∧ w = w' := hash_right x 11 w (by omega) (by omega)
theorem hash_right13 (x : W32) (w : World) : Calls Tryd.prog 142 #[.int .u32 (w2n x : Int), .int .i64 13] w fun e w' => e = .returned (u32v (rotr x 13)) ∧ w = w' := hash_right x 13 w (by omega) (by omega)
theorem hash_right17 (x : W32) (w : World) : Calls Tryd.prog 142 #[.int .u32 (w2n x : Int), .int .i64 17] w fun e w' => e = .returned (u32v (rotr x 17)) ∧ w = w' := hash_right x 17 w (by omega) (by omega)
theorem hash_right18 (x : W32) (w : World) : Calls Tryd.prog 142 #[.int .u32 (w2n x : Int), .int .i64 18] w fun e w' => e = .returned (u32v (rotr x 18)) ∧ w = w' := hash_right x 18 w (by omega) (by omega)
theorem hash_right19 (x : W32) (w : World) : Calls Tryd.prog 142 #[.int .u32 (w2n x : Int), .int .i64 19] w fun e w' => e = .returned (u32v (rotr x 19)) ∧ w = w' := hash_right x 19 w (by omega) (by omega)
theorem hash_right22 (x : W32) (w : World) : Calls Tryd.prog 142 #[.int .u32 (w2n x : Int), .int .i64 22] w fun e w' => e = .returned (u32v (rotr x 22)) ∧ w = w' := hash_right x 22 w (by omega) (by omega)
theorem hash_right25 (x : W32) (w : World) : Calls Tryd.prog 142 #[.int .u32 (w2n x : Int), .int .i64 25] w fun e w' => e = .returned (u32v (rotr x 25)) ∧ w = w' := hash_right x 25 w (by omega) (by omega)

theorem hash_press (h : Nat → W32) (f : Nat → Nat) (K : Nat → W32) (w : World) (hf : ∀ i < 64, f i < 256) (hK : ∀ i < 64, w.cell? ⟨1, i, none⟩ = some (u32v (K i))) (hKl : 1 < w.heap.size) :
    Calls Tryd.prog 101 #[.agg (h8 h), .agg (arrK .u8 64 f)] w fun e w' => e = .returned (.agg (h8 (prs K h fun i => be32 f (4 * i)))) ∧ Below w.heap.size w w' := by
  have hch := h8_cells h
  have hcf := arrK_cells .u8 64 f
  have hcz := arrK_cells .u32 8 fun _ => 0
  have hcz2 := arrK_cells .u32 64 fun _ => 0
  go_enter Tryd.func101, Tryd.ntmps101
  go_wp2
  rw [zero8u, zero64u]
  have hL0 : Below w.heap.size w ((((w.alloc (Obj.cells (h8 h) 103)).alloc (Obj.cells (arrK .u8 64 f) 69)).alloc (Obj.cells (arrK .u32 8 fun _ => 0) 103)).alloc (Obj.cells (arrK .u32 64 fun _ => 0) 209)) := by go_grown
  have hP0 : PrAt ((((w.alloc (Obj.cells (h8 h) 103)).alloc (Obj.cells (arrK .u8 64 f) 69)).alloc (Obj.cells (arrK .u32 8 fun _ => 0) 103)).alloc (Obj.cells (arrK .u32 64 fun _ => 0) 209)) w.heap.size h f K :=
    ⟨(row_old (by simp <;> omega)).2 ((row_old (by simp <;> omega)).2 ((row_old (by simp <;> omega)).2 ((row_new rfl).2 hch.1))), (rowAt_old (by simp <;> omega)).trans ((rowAt_old (by simp <;> omega)).trans ((rowAt_old (by simp <;> omega)).trans (rowAt_new rfl))),
      (row_old (by simp <;> omega)).2 ((row_old (by simp <;> omega)).2 ((row_new (by simp)).2 hcf.1)), (rowAt_old (by simp <;> omega)).trans ((rowAt_old (by simp <;> omega)).trans (rowAt_new (by simp))),
      (row_old (by simp <;> omega)).2 ((row_new (by simp)).2 hcz.1), fun i hi => ((bcell hL0).1 _ _ hKl).trans (hK i hi), hKl⟩
  have hR0 : Row ((((w.alloc (Obj.cells (h8 h) 103)).alloc (Obj.cells (arrK .u8 64 f) 69)).alloc (Obj.cells (arrK .u32 8 fun _ => 0) 103)).alloc (Obj.cells (arrK .u32 64 fun _ => 0) 209)) (w.heap.size + 1 + 1 + 1) 64 := (row_new (by simp)).2 hcz2.1
  have hr0 : rowAt ((((w.alloc (Obj.cells (h8 h) 103)).alloc (Obj.cells (arrK .u8 64 f) 69)).alloc (Obj.cells (arrK .u32 8 fun _ => 0) 103)).alloc (Obj.cells (arrK .u32 64 fun _ => 0) 209)) (w.heap.size + 1 + 1 + 1) = arrK .u32 64 (wK (fun i => be32 f (4 * i)) 0) := by rw [rowAt_new (by simp)]; exact arrK_congr fun i _ => by simp [wK]
  have hz0 : w.heap.size + 4 ≤ ((((w.alloc (Obj.cells (h8 h) 103)).alloc (Obj.cells (arrK .u8 64 f) 69)).alloc (Obj.cells (arrK .u32 8 fun _ => 0) 103)).alloc (Obj.cells (arrK .u32 64 fun _ => 0) 209)).heap.size := by simp
  generalize ((((w.alloc (Obj.cells (h8 h) 103)).alloc (Obj.cells (arrK .u8 64 f) 69)).alloc (Obj.cells (arrK .u32 8 fun _ => 0) 103)).alloc (Obj.cells (arrK .u32 64 fun _ => 0) 209)) = W0 at *
  generalize hb : (fun i => be32 f (4 * i)) = b at *
  go_loopw [20] (fun i wr => ∃ t : Nat, i = .int .i64 t ∧ t ≤ 64 ∧ PrAt wr w.heap.size h f K ∧ Row wr (w.heap.size + 1 + 1 + 1) 64 ∧ rowAt wr (w.heap.size + 1 + 1 + 1) = arrK .u32 64 (wK b t) ∧ Below w.heap.size w wr ∧ w.heap.size + 4 ≤ wr.heap.size) (fun i _ => 64 - (intOf i).toNat)
  case atStart => exact ⟨0, rfl, by omega, hP0, hR0, hr0, hL0, hz0⟩
  case round =>
    clear hP0 hR0 hr0 hL0 hz0
    obtain ⟨t, rfl, ht, hP, hR, hr, hL, hz⟩ := hrel
    by_cases h64 : t = 64
    · subst h64
      have hcw : arrK .u32 64 (wK b 64) = arrK .u32 64 (fun i => w2n (sch b i)) := arrK_congr fun i hi => wK_at b hi
      rw [hcw] at hr
      have hR2 := hP.R0
      have hr2 := hP.r0
      have hPa := hP.below ((Below.refl wr.heap.size wr).alloc (Nat.le_refl _) (.cells (h8 h) 103)) (by omega)
      have hRa := (row_old (o := .cells (h8 h) 103) (show w.heap.size + 1 + 1 + 1 < wr.heap.size by omega)).2 hR
      have hra := (rowAt_old (o := .cells (h8 h) 103) (show w.heap.size + 1 + 1 + 1 < wr.heap.size by omega)).trans hr
      have hLa := hL.alloc (by omega) (.cells (h8 h) 103)
      have hRz : Row (wr.alloc (.cells (arrK .u32 8 fun _ => 0) 103)) wr.heap.size 8 := (row_new rfl).2 (arrK_size _ _ _)
      rw [← zero8u] at hRz
      have hRv : Row (wr.alloc (.cells (h8 h) 103)) wr.heap.size 8 := (row_new rfl).2 (h8_size _)
      have hrv : rowAt (wr.alloc (.cells (h8 h) 103)) wr.heap.size = h8 (rounds K (sch b) h 0) := rowAt_new rfl
      have hza : wr.heap.size < (wr.alloc (.cells (h8 h) 103)).heap.size := by simp
      clear hcw
      go_wp2
      clear hR2 hr2 hRz hP hR hr hL
      generalize (wr.alloc (.cells (h8 h) 103)) = W1 at *
      generalize wr.heap.size = g4 at *
      rw [show ((64 : Nat) : Int) = (64 : Int) from rfl]
      go_loopw [70] (fun i wr => ∃ t : Nat, i = .int .i64 t ∧ t ≤ 64 ∧ PrAt wr w.heap.size h f K ∧ Row wr (w.heap.size + 1 + 1 + 1) 64 ∧ rowAt wr (w.heap.size + 1 + 1 + 1) = arrK .u32 64 (fun i => w2n (sch b i)) ∧ Row wr g4 8 ∧ rowAt wr g4 = h8 (rounds K (sch b) h t) ∧ Below w.heap.size w wr) (fun i _ => 64 - (intOf i).toNat)
      case atStart => exact ⟨0, rfl, by omega, hPa, hRa, hra, hRv, hrv, hLa⟩
      case round =>
        clear hPa hRa hra hRv hrv hLa hza
        obtain ⟨t, rfl, ht, hP, hR, hr, hRv, hrv, hL⟩ := hrel
        by_cases h64 : t = 64
        · subst h64
          generalize hvv : rounds K (sch b) h 64 = v at *
          have hRo := hP.R2
          have hR0 := hP.R0
          have hr0 : rowAt wr w.heap.size = arrK .u32 8 (addK h v 0) := hP.r0.trans (arrK_congr fun i _ => by simp [addK])
          have hg4 : w.heap.size + 4 ≤ g4 := hz
          clear hP hR hr hcz hcz2 hch hcf hK hz
          go_wp2
          rw [show ((64 : Nat) : Int) = (64 : Int) from rfl]
          go_loopw [148] (fun i wr => ∃ j : Nat, i = .int .i64 j ∧ j ≤ 8 ∧ Row wr w.heap.size 8 ∧ rowAt wr w.heap.size = arrK .u32 8 (addK h v j) ∧ Row wr (w.heap.size + 1 + 1) 8 ∧ Row wr g4 8 ∧ rowAt wr g4 = h8 v ∧ Below w.heap.size w wr) (fun i _ => 8 - (intOf i).toNat)
          case atStart => exact ⟨0, rfl, by omega, hR0, hr0, hRo, hRv, hrv, hL⟩
          case round =>
            clear hR0 hr0 hRo hRv hrv hL
            obtain ⟨j, rfl, hj, hR0, hr0, hRo, hRv, hrv, hL⟩ := hrel
            by_cases h8' : j = 8
            · subst h8'
              have e : arrK .u32 8 (addK h v 8) = h8 (prs K h b) := arrK_congr fun i hi => by simp only [addK, if_pos hi, prs, hvv]
              rw [e] at hr0
              have hcs := h8_cells (prs K h b)
              generalize hpr : prs K h b = pr at *
              have hfin := Lib.hid (show prs K h (fun i => be32 f (4 * i)) = pr by rw [hb, hpr])
              clear e hvv hrv hb hpr
              go_wp2
              refine ret_row rfl Tryd.underlying103 rfl (by kernel_rfl) rfl ((row_setRow_same rfl hRo).2 hcs.1) rfl ?_
              rw [rowAt_setRow_same hRo, hfin.out]
              exact ⟨rfl, below_setRow hL (by omega)⟩
            · have hst := arrK_congr (k := .u32) (n := 8) fun p _ => addK_step h v j p
              have c1 := hR0.cell j
              rw [hr0, arrK_at (by omega), addK_at] at c1
              have c2 : wr.cell? ⟨g4, j, none⟩ = some (u32v (v j)) := by rw [hRv.cell, hrv]; unfold h8; rw [arrK_at (by omega)]
              have hf1 := hR0.frozen j
              have mj : (j : Int) < 8 := by omega
              have zj : (0 : Int) ≤ (j : Int) := by omega
              have hHst := Lib.hid hst
              have hHr0 := Lib.hid hr0
              have hHrv := Lib.hid hrv
              clear hst hr0 hrv hvv
              go_wp2
              go_region
              go_wp2
              go_round
              case rel =>
                refine ⟨j + 1, by go_num, by omega, row_setCell.2 hR0, ?_, row_setCell.2 hRo, row_setCell.2 hRv, ?_, (hL.setCell (Nat.le_refl _) _).drew⟩
                · rw [rowAt_drew, rowAt_setCell_same, hHr0.out, arrK_set, hHst.out]
                · rw [rowAt_drew, rowAt_setCell_far (by simp; omega)]; exact hHrv.out
              case measure => simp [intOf]; omega
        · generalize hvv : rounds K (sch b) h t = v at *
          have hcv : ∀ i, i < 8 → wr.cell? ⟨g4, i, none⟩ = some (u32v (v i)) := fun i hi => by rw [hRv.cell, hrv]; unfold h8; rw [arrK_at hi]
          have c0 := hcv 0 (by omega)
          have c1 := hcv 1 (by omega)
          have c2 := hcv 2 (by omega)
          have c3 := hcv 3 (by omega)
          have c4 := hcv 4 (by omega)
          have c5 := hcv 5 (by omega)
          have c6 := hcv 6 (by omega)
          have c7 := hcv 7 (by omega)
          have ck := hP.k t (by omega)
          have cw : wr.cell? ⟨w.heap.size + 1 + 1 + 1, t, none⟩ = some (u32v (sch b t)) := by rw [hR.cell, hr, arrK_at (by omega)]
          have mt : (t : Int) < 64 := by omega
          have zt : (0 : Int) ≤ (t : Int) := by omega
          have hHvv := Lib.hid hvv
          have hHrv := Lib.hid hrv
          have hHr := Lib.hid hr
          have hHP := Lib.hid hP
          have hcs : Cells #[u32v (one (K t) (sch b t) v + two v), u32v (v 0), u32v (v 1), u32v (v 2), u32v (v 3 + one (K t) (sch b t) v), u32v (v 4), u32v (v 5), u32v (v 6)] 8 := ⟨rfl, by simp [Value.oneCell']⟩
          have ho := (show v 7 + (rotr (v 4) 6 ^^^ rotr (v 4) 11 ^^^ rotr (v 4) 25) + ((v 4 &&& v 5) ^^^ (~~~(v 4) &&& v 6)) + K t + sch b t = one (K t) (sch b t) v from rfl)
          have htw := (show (rotr (v 0) 2 ^^^ rotr (v 0) 13 ^^^ rotr (v 0) 22) + ((v 0 &&& v 1) ^^^ (v 0 &&& v 2) ^^^ (v 1 &&& v 2)) = two v from rfl)
          clear hcv hvv hrv hr hP hcz hcz2 hch hcf hK
          go_wp2
          go_region_held3 (fun w' => w'.cell? ⟨g4, 0, none⟩ = some (u32v (v 0)) ∧ w'.cell? ⟨g4, 1, none⟩ = some (u32v (v 1)) ∧ w'.cell? ⟨g4, 2, none⟩ = some (u32v (v 2)) ∧ w'.cell? ⟨g4, 4, none⟩ = some (u32v (v 4)) ∧ w'.cell? ⟨g4, 5, none⟩ = some (u32v (v 5)) ∧ w'.cell? ⟨g4, 6, none⟩ = some (u32v (v 6)))
            (exact ⟨c0, c1, c2, c4, c5, c6⟩) (fail)
          go_wp2
          go_region_held3 (fun w' => w'.cell? ⟨g4, 7, none⟩ = some (u32v (v 7)) ∧ w'.cell? ⟨1, t, none⟩ = some (u32v (K t)) ∧ w'.cell? ⟨w.heap.size + 1 + 1 + 1, t, none⟩ = some (u32v (sch b t)))
            (exact ⟨c7, ck, cw⟩)
            (first
              | (go_at_call 142; (first | with_reducible refine (hash_right6 _ _).mono ?_ | with_reducible refine (hash_right11 _ _).mono ?_ | with_reducible refine (hash_right25 _ _).mono ?_); rintro e w' ⟨rfl, rfl⟩))
          go_wp2_with (go_at_call 142; (first | with_reducible refine (hash_right2 _ _).mono ?_ | with_reducible refine (hash_right13 _ _).mono ?_ | with_reducible refine (hash_right22 _ _).mono ?_); rintro e w' ⟨rfl, rfl⟩)
          go_round
          case rel =>
            have hX : Below g4 wr (wr.drew.drew.setRow g4 #[u32v (one (K t) (sch b t) v + two v), u32v (v 0), u32v (v 1), u32v (v 2), u32v (v 3 + one (K t) (sch b t) v), u32v (v 4), u32v (v 5), u32v (v 6)]) := below_setRow (Below.refl _ _).drew.drew (Nat.le_refl _)
            refine ⟨t + 1, by go_num, by omega, hHP.out.below hX (by omega), row_below hR hX (by omega), (rowAt_below hX (by omega)).trans hHr.out, (row_setRow_same (w := wr.drew.drew) rfl hRv).2 hcs.1, ?_, hL.trans (hX.mono (by omega))⟩
            refine (rowAt_setRow_same (w := wr.drew.drew) hRv).trans ?_
            show _ = h8 (rnd (K t) (sch b t) (rounds K (sch b) _ t))
            rw [hHvv.out]
            exact arrK8' .u32 fun i => w2n (rnd (K t) (sch b t) v i)
          case measure => simp [intOf]; omega
    · have hst := arrK_congr (k := .u32) (n := 64) fun p _ => wK_step b t p
      have hHst := Lib.hid hst
      have hfr := hR.frozen t
      have hct := hR.cell t
      rw [hr, arrK_at (by omega)] at hct
      have hHr := Lib.hid hr
      by_cases h16 : t < 16
      · have hsb : sch b t = be32 f (4 * t) := by rw [sch_lo b h16, ← hb]
        have hrd : Rd wr wr.heap.size (some ⟨w.heap.size + 1, 0, none⟩) (arrK .u8 64 f).toList := by
          obtain ⟨cs, tt, hh, hl⟩ := hP.R1
          have e : cs = arrK .u8 64 f := by have := hP.r1; simpa [rowAt, hh] using this
          have := Rd.of_blk (B := wr.heap.size) hh hP.R1.lt
          rw [e] at this; exact this
        have hHsb := Lib.hid hsb
        have hHP := Lib.hid hP
        clear hst hr hsb
        have hcon := hash_word (some ⟨w.heap.size + 1, 0, none⟩) 64 64 f (4 * t) wr hrd hf (by omega) (by omega)
        push_cast at hcon
        have hHcon := Lib.hid hcon
        clear hcon hrd
        go_wp2_with (go_at_call 141; refine hHcon.out.mono ?_; rintro e w' ⟨rfl, rfl⟩)
        go_round
        case rel =>
          have hbs : Below (w.heap.size + 1 + 1 + 1) wr (wr.setCell ⟨w.heap.size + 1 + 1 + 1, t, none⟩ (.int .u32 (w2n (be32 f (4 * t)) : Int))).drew := ((Below.refl (w.heap.size + 1 + 1 + 1) wr).setCell (p := ⟨w.heap.size + 1 + 1 + 1, t, none⟩) (Nat.le_refl _) _).drew
          exact ⟨t + 1, by go_num, by omega, hHP.out.below hbs (by omega), row_setCell.2 hR, by rw [rowAt_drew, rowAt_setCell_same, hHr.out, arrK_set, ← hHsb.out, hHst.out], hL.trans (hbs.mono (by omega)), Nat.le_trans hz hbs.size⟩
        case measure => simp [intOf]; omega
      · obtain ⟨a1, ha1⟩ : ∃ a1, a1 = t - 16 := ⟨_, rfl⟩
        obtain ⟨a2, ha2⟩ : ∃ a2, a2 = t - 15 := ⟨_, rfl⟩
        obtain ⟨a3, ha3⟩ : ∃ a3, a3 = t - 7 := ⟨_, rfl⟩
        obtain ⟨a4, ha4⟩ : ∃ a4, a4 = t - 2 := ⟨_, rfl⟩
        have hsb := sch_hi b (t := t) (by omega)
        rw [← ha1, ← ha2, ← ha3, ← ha4] at hsb
        have hi1 : (t : Int) - 16 = a1 := by omega
        have hi2 : (t : Int) - 15 = a2 := by omega
        have hi3 : (t : Int) - 7 = a3 := by omega
        have hi4 : (t : Int) - 2 = a4 := by omega
        have l1 : a1 < t := by omega
        have l2 : a2 < t := by omega
        have l3 : a3 < t := by omega
        have l4 : a4 < t := by omega
        have hc : ∀ i, i < t → wr.cell? ⟨w.heap.size + 1 + 1 + 1, i, none⟩ = some (u32v (sch b i)) := fun i hi => by rw [hR.cell, hr, arrK_at (by omega), wK_at b hi]
        have c1 := hc a1 l1
        have c2 := hc a2 l2
        have c3 := hc a3 l3
        have c4 := hc a4 l4
        have hw1 : IntKind.i64.wrap (a1 : Int) = a1 := by rw [IntKind.wrap_i64]; omega
        have hw2 : IntKind.i64.wrap (a2 : Int) = a2 := by rw [IntKind.wrap_i64]; omega
        have hw3 : IntKind.i64.wrap (a3 : Int) = a3 := by rw [IntKind.wrap_i64]; omega
        have hw4 : IntKind.i64.wrap (a4 : Int) = a4 := by rw [IntKind.wrap_i64]; omega
        have m1 : (a1 : Int) < 64 := by omega
        have m2 : (a2 : Int) < 64 := by omega
        have m3 : (a3 : Int) < 64 := by omega
        have m4 : (a4 : Int) < 64 := by omega
        have mt : (t : Int) < 64 := by omega
        have z1 : (0 : Int) ≤ (a1 : Int) := by omega
        have z2 : (0 : Int) ≤ (a2 : Int) := by omega
        have z3 : (0 : Int) ≤ (a3 : Int) := by omega
        have z4 : (0 : Int) ≤ (a4 : Int) := by omega
        have hHsb := Lib.hid hsb
        have hHP := Lib.hid hP
        clear hst hr hsb hc ha1 ha2 ha3 ha4 hP hcz hcz2 hch hcf hK
        go_wp2
        go_region
        go_wp2
        have hne1 : a1 ≠ t := by omega
        have hne3 : a3 ≠ t := by omega
        go_region_held3 (fun w' => w'.cell? ⟨w.heap.size + 1 + 1 + 1, a1, none⟩ = some (u32v (sch b a1)) ∧ w'.cell? ⟨w.heap.size + 1 + 1 + 1, a3, none⟩ = some (u32v (sch b a3)))
          (first | exact ⟨c1, c3⟩ | exact ⟨cell_ne c1 hne1, cell_ne c3 hne3⟩)
          (first
            | (go_at_call 142; (first | with_reducible refine (hash_right7 _ _).mono ?_ | with_reducible refine (hash_right18 _ _).mono ?_ | with_reducible refine (hash_right17 _ _).mono ?_ | with_reducible refine (hash_right19 _ _).mono ?_); rintro e w' ⟨rfl, rfl⟩))
        go_wp2
        go_round
        case rel =>
          have hbs : Below (w.heap.size + 1 + 1 + 1) wr (wr.setCell ⟨w.heap.size + 1 + 1 + 1, t, none⟩ (.int .u32 (w2n (sch b a1 + (rotr (sch b a2) 7 ^^^ rotr (sch b a2) 18 ^^^ sch b a2 >>> 3) + sch b a3 + (rotr (sch b a4) 17 ^^^ rotr (sch b a4) 19 ^^^ sch b a4 >>> 10)) : Int))).drew.drew := ((Below.refl (w.heap.size + 1 + 1 + 1) wr).setCell (p := ⟨w.heap.size + 1 + 1 + 1, t, none⟩) (Nat.le_refl _) _).drew.drew
          exact ⟨t + 1, by go_num, by omega, hHP.out.below hbs (by omega), row_setCell.2 hR, by rw [rowAt_drew, rowAt_drew, rowAt_setCell_same, hHr.out, arrK_set, ← hHst.out, hHsb.out]; rfl, hL.trans (hbs.mono (by omega)), Nat.le_trans hz hbs.size⟩
        case measure => simp [intOf]; omega
end Go.Proofs.YtgdiokklfihfoaaDoor
namespace Go.Proofs.YtgdiokklfihfoaaDoor
open Go.ChangeShapes Go.WideShapes Go.ChangeAt Go.RowKit
set_option maxHeartbeats 2000000
set_option maxRecDepth 100000

/-- A state's cells. -/
def stV (h : Nat → W32) (m : Nat) (f : Nat → Nat) : Nat → Value := fun i => if i < 8 then u32v (h i) else if i = 8 then .int .u64 (m : Int) else .int .u8 (f (i - 9) : Int)
def stC (h : Nat → W32) (m : Nat) (f : Nat → Nat) : Array Value := arrV 73 (stV h m f)
attribute [local irreducible] arrV
section
variable (h h' : Nat → W32) (m m' : Nat) (f : Nat → Nat)
theorem stC_size : (stC h m f).size = 73 := arrV_size _ _
theorem stV_one (i : Nat) : (stV h m f i).oneCell' = true := by
  unfold stV
  split
  · rfl
  · split <;> rfl
theorem stC_cells : Cells (stC h m f) 73 := arrV_cells fun i _ => stV_one h m f i
theorem stC_words : (stC h m f).extract 0 8 = h8 h := by
  have e := arrV_extract (n := 73) (o := 0) (m := 8) (f := stV h m f) (by omega)
  rw [Nat.zero_add] at e
  unfold stC
  rw [e]
  unfold h8
  rw [arrK_V]
  refine arrV_congr fun i hi => ?_
  unfold stV
  rw [Nat.zero_add, if_pos hi]
theorem stC_left : (stC h m f).extract 9 73 = arrK .u8 64 f := by
  have e := arrV_extract (n := 73) (o := 9) (m := 64) (f := stV h m f) (by omega)
  unfold stC
  rw [show (73 : Nat) = 9 + 64 from rfl] at e ⊢
  rw [e, arrK_V]
  refine arrV_congr fun i hi => ?_
  unfold stV
  rw [if_neg (by omega), if_neg (by omega), Nat.add_sub_cancel_left]
theorem stC_m : (stC h m f)[8]? = some (.int .u64 (m : Int)) := by
  unfold stC
  rw [arrV_at (by omega)]
  unfold stV
  rw [if_neg (by omega), if_pos rfl]
theorem stC_at_left {j : Nat} (hj : j < 64) : (stC h m f)[9 + j]? = some (.int .u8 (f j : Int)) := by
  unfold stC
  rw [arrV_at (by omega)]
  unfold stV
  rw [if_neg (by omega), if_neg (by omega), Nat.add_sub_cancel_left]
theorem stC_set_m : (stC h m f).setIfInBounds 8 (.int .u64 (m' : Int)) = stC h m' f := by
  unfold stC
  rw [arrV_set]
  refine arrV_congr fun i hi => ?_
  unfold stV
  by_cases e : i = 8
  · subst e; rw [if_pos rfl, if_neg (by omega), if_pos rfl]
  · rw [if_neg e, if_neg e, if_neg e]
theorem stC_set_left {j b : Nat} (hj : j < 64) : (stC h m f).setIfInBounds (9 + j) (.int .u8 (b : Int)) = stC h m (upd f j b) := by
  unfold stC
  rw [arrV_set]
  refine arrV_congr fun i hi => ?_
  unfold stV upd
  by_cases e : i = 9 + j
  · subst e; rw [if_pos rfl, if_neg (by omega), if_neg (by omega), if_pos (by omega)]
  · rw [if_neg e]
    by_cases e1 : i < 8
    · rw [if_pos e1, if_pos e1]
    · rw [if_neg e1, if_neg e1]
      by_cases e2 : i = 8
      · rw [if_pos e2, if_pos e2]
      · rw [if_neg e2, if_neg e2, if_neg (by omega)]
theorem stC_put : putAt (stC h m f) 0 (h8 h').toList = stC h' m f := by
  unfold stC
  rw [putAt_arrV]
  refine arrV_congr fun i hi => ?_
  rw [if_pos (by omega), Array.getElem?_toList]
  unfold h8 stV
  by_cases e : i < 8
  · rw [Nat.sub_zero, arrK_at e, if_pos e, if_pos e]; rfl
  · rw [Array.getElem?_eq_none (by rw [arrK_size]; omega), if_neg e, if_neg e]; rfl
end
/-- A state. -/
structure St where
  h : Nat → W32
  m : Nat
  f : Nat → Nat
def St.ok (s : St) : Prop := s.m < 18446744073709551616 ∧ ∀ i < 64, s.f i < 256
abbrev St.cells (s : St) : Array Value := stC s.h s.m s.f
def nextM (m : Nat) : Nat := (m + 1) % 18446744073709551616
def St.put (K : Nat → W32) (s : St) (b : UInt8) : St :=
  if nextM s.m % 64 = 0 then ⟨prs K s.h fun i => be32 (upd s.f (s.m % 64) b.toNat) (4 * i), nextM s.m, upd s.f (s.m % 64) b.toNat⟩ else ⟨s.h, nextM s.m, upd s.f (s.m % 64) b.toNat⟩
def St.write (K : Nat → W32) (s : St) (l : List UInt8) : St := l.foldl (St.put K) s
theorem upd_lt {f : Nat → Nat} {j : Nat} {b : UInt8} (h : ∀ i < 64, f i < 256) : ∀ i < 64, upd f j b.toNat i < 256 := fun i hi => by
  unfold upd
  split
  · exact UInt8.toNat_lt b
  · exact h i hi
theorem St.put_ok {K : Nat → W32} {s : St} (b : UInt8) (h : s.ok) : (s.put K b).ok := by
  have hm : nextM s.m < 18446744073709551616 := Nat.mod_lt _ (by omega)
  unfold St.put
  split
  · exact ⟨hm, upd_lt h.2⟩
  · exact ⟨hm, upd_lt h.2⟩
theorem St.write_ok {K : Nat → W32} : ∀ (l : List UInt8) {s : St}, s.ok → (s.write K l).ok
  | [], _, h => h
  | b :: l, _, h => St.write_ok l (St.put_ok b h)
theorem St.write_take {K : Nat → W32} {s : St} {l : List UInt8} {i : Nat} (hi : i < l.length) : s.write K (l.take (i + 1)) = (s.write K (l.take i)).put K l[i] := by
  unfold St.write
  rw [List.take_succ_eq_append_getElem hi, List.foldl_append]
  rfl
theorem load_state {w : World} {dst : Option Tmp} {x : Operand} {tt : TypeId} {pos : String} {af : Array Edge} {gd : Option (Nat × Bool)} {a : Act} {K : Act → World → Prop} {Q : Exit → Act → World → Prop}
    (hv : IsHead (a.eval x)) (h : Row w (blkOf (a.eval x)) 73) : Oper.wp Tryd.prog ⟨dst, .load 105 x, tt, pos, af, gd⟩ a w K Q ↔ K (a.put dst (.agg (rowAt w (blkOf (a.eval x))))) w :=
  wp_load_whole Tryd.underlying105 rfl (by kernel_rfl) hv h
theorem store_state {w : World} {dst : Option Tmp} {x y : Operand} {tt : TypeId} {pos : String} {af : Array Edge} {gd : Option (Nat × Bool)} {a : Act} {K : Act → World → Prop} {Q : Exit → Act → World → Prop}
    (hv : IsHead (a.eval x)) (h : Row w (blkOf (a.eval x)) 73) (hx : IsAgg (a.eval y) 73) : Oper.wp Tryd.prog ⟨dst, .store 105 x y, tt, pos, af, gd⟩ a w K Q ↔ K (a.put dst undef) (w.setRow (blkOf (a.eval x)) (cellsV (a.eval y))) :=
  wp_store_whole (by kernel_rfl) hv h hx
theorem execl_state {w : World} {dst : Option Tmp} {x : Operand} {tt : TypeId} {pos : String} {af : Array Edge} {gd : Option (Nat × Bool)} {ρ : Operand → Value}
    (hv : IsHead (ρ x)) (h : Row w (blkOf (ρ x)) 73) : (execOp ρ ⟨dst, .load 105 x, tt, pos, af, gd⟩).run Tryd.prog w = .ok (.value (.agg (rowAt w (blkOf (ρ x))))) w :=
  exec_load_whole Tryd.underlying105 rfl (by kernel_rfl) hv h
theorem execs_state {w : World} {dst : Option Tmp} {x y : Operand} {tt : TypeId} {pos : String} {af : Array Edge} {gd : Option (Nat × Bool)} {ρ : Operand → Value}
    (hv : IsHead (ρ x)) (h : Row w (blkOf (ρ x)) 73) (hx : IsAgg (ρ y) 73) : (execOp ρ ⟨dst, .store 105 x y, tt, pos, af, gd⟩).run Tryd.prog w = .ok .skip (w.setRow (blkOf (ρ x)) (cellsV (ρ y))) :=
  exec_store_whole (by kernel_rfl) hv h hx
section
variable {w : World} {dst : Option Tmp} {x y : Operand} {tt : TypeId} {pos : String} {af : Array Edge} {gd : Option (Nat × Bool)} {a : Act} {K : Act → World → Prop} {Q : Exit → Act → World → Prop}
theorem load_words (hv : IsPart (a.eval x)) (h : Row w (blkOf (a.eval x)) 73) (ho : offOf (a.eval x) + 8 ≤ 73) :
    Oper.wp Tryd.prog ⟨dst, .load 103 x, tt, pos, af, gd⟩ a w K Q ↔ K (a.put dst (.agg ((rowAt w (blkOf (a.eval x))).extract (offOf (a.eval x)) (offOf (a.eval x) + 8)))) w :=
  wp_load_part Tryd.underlying103 rfl (by kernel_rfl) hv h ho
theorem load_left (hv : IsPart (a.eval x)) (h : Row w (blkOf (a.eval x)) 73) (ho : offOf (a.eval x) + 64 ≤ 73) :
    Oper.wp Tryd.prog ⟨dst, .load 69 x, tt, pos, af, gd⟩ a w K Q ↔ K (a.put dst (.agg ((rowAt w (blkOf (a.eval x))).extract (offOf (a.eval x)) (offOf (a.eval x) + 64)))) w :=
  wp_load_part Tryd.underlying69 rfl (by kernel_rfl) hv h ho
theorem store_words (hv : IsPart (a.eval x)) (h : Row w (blkOf (a.eval x)) 73) (ho : offOf (a.eval x) + 8 ≤ 73) (hx : IsAgg (a.eval y) 8) :
    Oper.wp Tryd.prog ⟨dst, .store 103 x y, tt, pos, af, gd⟩ a w K Q ↔ K (a.put dst undef) (w.setRow (blkOf (a.eval x)) (putAt (rowAt w (blkOf (a.eval x))) (offOf (a.eval x)) (cellsV (a.eval y)).toList)) :=
  wp_store_part (by kernel_rfl) hv h ho hx
end
attribute [local go_sem ↓] load_state store_state load_words load_left store_words
attribute [local go_sem] isHead_mk isPart_mk offOf_mk blkOf_mk isAgg_mk cellsV_mk row_drew rowAt_drew row_new_cells row_old rowAt_new rowAt_old setRow_new stC_words stC_left

/-- The zero state's cells, by numbers. -/
def stNV (hn : Nat → Nat) (m : Nat) (f : Nat → Nat) : Nat → Value := fun i => if i < 8 then .int .u32 (hn i : Int) else if i = 8 then .int .u64 (m : Int) else .int .u8 (f (i - 9) : Int)
def stZ : Array Value := arrV 73 (stNV (fun _ => 0) 0 (fun _ => 0))
theorem stZ_cells : Cells stZ 73 := arrV_cells fun i _ => by
  unfold stNV
  split
  · rfl
  · split <;> rfl
end Go.Proofs.YtgdiokklfihfoaaDoor
namespace Go.Proofs.YtgdiokklfihfoaaDoor
open Go.ChangeShapes Go.WideShapes Go.ChangeAt Go.RowKit
set_option maxHeartbeats 2000000
set_option maxRecDepth 100000
attribute [local irreducible] arrV
attribute [local go_sem ↓] load_state store_state load_words load_left store_words
attribute [local go_sem] isHead_mk isPart_mk offOf_mk blkOf_mk isAgg_mk cellsV_mk row_drew rowAt_drew row_new_cells row_old rowAt_new rowAt_old setRow_new stC_words stC_left
attribute [local go_sem ↓] Go.wp_at_zero Go.wp_at_succ

theorem zero_state (w : World) : (zeroValue 105).run Tryd.prog w = .ok (.agg stZ) w := (zero_of_info (n := 73) (by kernel_rfl)).1 w
theorem zero_cellsS : Tryd.zeroCells105 = stZ := by kernel_rfl
attribute [local go_sem] zero_state zero_cellsS

theorem hash_write (K : Nat → W32) (A : Option Addr) (l : List UInt8) (c : Nat) (s : St) (w : World) (hs : s.ok) (hrd : Rd w w.heap.size A (bytesV l)) (hlc : l.length ≤ c) (hcm : c ≤ maxLen)
    (hK : ∀ i < 64, w.cell? ⟨1, i, none⟩ = some (u32v (K i))) (hKl : 1 < w.heap.size) :
    Calls Tryd.prog 65 #[.agg s.cells, .slice A l.length c] w fun e w' => e = .returned (.agg (s.write K l).cells) ∧ Below w.heap.size w w' := by
  have hlm : l.length ≤ 9223372036854775807 := by unfold maxLen at hcm; omega
  have hch := stC_cells s.h s.m s.f
  have hcz := stZ_cells
  go_enter Tryd.func65, Tryd.ntmps65
  go_wp2
  have hL0 : Below w.heap.size w ((w.alloc (Obj.cells s.cells 105)).alloc (Obj.cells stZ 105)) := by go_grown
  have hR0 : Row ((w.alloc (Obj.cells s.cells 105)).alloc (Obj.cells stZ 105)) w.heap.size 73 := (row_old (by simp)).2 ((row_new rfl).2 hch.1)
  have hr0 : rowAt ((w.alloc (Obj.cells s.cells 105)).alloc (Obj.cells stZ 105)) w.heap.size = (s.write K (l.take 0)).cells := (rowAt_old (by simp)).trans (rowAt_new rfl)
  have hR1 : Row ((w.alloc (Obj.cells s.cells 105)).alloc (Obj.cells stZ 105)) (w.heap.size + 1) 73 := (row_new (by simp)).2 hcz.1
  generalize ((w.alloc (Obj.cells s.cells 105)).alloc (Obj.cells stZ 105)) = W0 at *
  go_loopw [9] (fun i wr => ∃ k : Nat, i = .int .i64 k ∧ k ≤ l.length ∧ Row wr w.heap.size 73 ∧ rowAt wr w.heap.size = (s.write K (l.take k)).cells ∧ Row wr (w.heap.size + 1) 73 ∧ Below w.heap.size w wr) (fun i _ => l.length - (intOf i).toNat)
  case atStart => exact ⟨0, rfl, by omega, hR0, hr0, hR1, hL0⟩
  case round =>
    clear hR0 hr0 hR1 hL0
    obtain ⟨k, rfl, hk, hR, hr, hRo, hL⟩ := hrel
    by_cases hkl : k = l.length
    · subst hkl
      rw [List.take_length] at hr
      have hcs := stC_cells (s.write K l).h (s.write K l).m (s.write K l).f
      obtain ⟨s1, hs1⟩ : ∃ s1, s1 = s.write K l := ⟨_, rfl⟩
      rw [← hs1] at hr hcs
      have hHs1 := Lib.hid hs1
      clear hs1
      go_wp2
      refine ret_row rfl Tryd.underlying105 rfl (by kernel_rfl) rfl ((row_setRow_same rfl hRo).2 hcs.1) rfl ?_
      rw [rowAt_setRow_same hRo]
      rw [← hHs1.out]
      exact ⟨rfl, below_setRow hL (by omega)⟩
    · have hkl2 : k < l.length := by omega
      obtain ⟨ad, rfl, hlt, hc⟩ := hrd k (u8v l[k]) (by simp [bytesV, hkl2])
      have hc' := (hL.cell (p := ad.add k) (by rw [addr_block]; exact hlt)).trans hc
      have hok := St.write_ok (K := K) (l.take k) hs
      have hst := St.write_take (K := K) (s := s) hkl2
      generalize s.write K (l.take k) = s1 at *
      have hc8 : wr.cell? ⟨w.heap.size, 8, none⟩ = some (.int .u64 (s1.m : Int)) := by rw [hR.cell, hr, stC_m]
      have hf8 := hR.frozen 8
      have hj : s1.m % 64 < 64 := by omega
      obtain ⟨j, hjj⟩ : ∃ j, j = s1.m % 64 := ⟨_, rfl⟩
      have hjm : (s1.m : Int) % 64 = j := by omega
      rw [← hjj] at hj
      have hfj := hR.frozen (9 + j)
      have hcj : wr.cell? ⟨w.heap.size, 9 + j, none⟩ = some (.int .u8 (s1.f j : Int)) := by rw [hR.cell, hr, stC_at_left _ _ _ hj]
      have hnm : IntKind.u64.wrap ((s1.m : Int) + 1) = (nextM s1.m : Int) := by rw [IntKind.wrap_u64]; unfold nextM; omega
      have hne : (8 = 9 + j) = False := by simp; omega
      have hj0 : (0 : Int) ≤ (j : Int) := by omega
      have hj64 : (j : Int) < 64 := by omega
      have hHr := Lib.hid hr
      have hHst := Lib.hid hst
      have hHj := Lib.hid hjj
      obtain ⟨W1, hW1⟩ : ∃ W1, W1 = (wr.setCell ⟨w.heap.size, 9 + j, none⟩ (.int .u8 (l[k].toNat : Int))).setCell ⟨w.heap.size, 8, none⟩ (.int .u64 (nextM s1.m : Int)) := ⟨_, rfl⟩
      have hR1 : Row W1 w.heap.size 73 := by rw [hW1]; exact row_setCell.2 (row_setCell.2 hR)
      have hRo1 : Row W1 (w.heap.size + 1) 73 := by rw [hW1]; exact row_setCell.2 (row_setCell.2 hRo)
      have hr1 : rowAt W1 w.heap.size = stC s1.h (nextM s1.m) (upd s1.f j l[k].toNat) := by rw [hW1, rowAt_setCell_same, rowAt_setCell_same, hr, stC_set_left _ _ _ hj, stC_set_m]
      have hL1 : Below w.heap.size w W1 := by rw [hW1]; exact (hL.setCell (Nat.le_refl _) _).setCell (Nat.le_refl _) _
      have hb1 := upd_lt (j := j) (b := l[k]) hok.2
      have hK1 : ∀ i < 64, W1.cell? ⟨1, i, none⟩ = some (u32v (K i)) := fun i hi => ((bcell hL1).1 _ _ hKl).trans (hK i hi)
      have hlt1 : w.heap.size + 1 < W1.heap.size := hRo1.lt
      by_cases hz : nextM s1.m % 64 = 0
      · have hzb : ((nextM s1.m : Int) % 64 == 0) = true := by simp; omega
        have hstep : s.write K (l.take (k + 1)) = ⟨prs K s1.h fun i => be32 (upd s1.f j l[k].toNat) (4 * i), nextM s1.m, upd s1.f j l[k].toNat⟩ := by rw [hst, hjj]; unfold St.put; rw [if_pos hz]
        have hcon := hash_press s1.h (upd s1.f j l[k].toNat) K W1 hb1 hK1 (by omega)
        generalize (upd s1.f j l[k].toNat) = f1 at *
        generalize (prs K s1.h fun i => be32 f1 (4 * i)) = h1 at *
        rw [hW1] at hcon hR1 hr1 hRo1 hL1 hlt1
        have hHcon := Lib.hid hcon
        have hHstep := Lib.hid hstep
        clear hr hst hjj hrd hcon hstep hch hcz
        have hHW1 := Lib.hid hW1
        clear hW1
        go_wp2_with (go_at_call 101; refine hHcon.out.mono ?_; rintro e w2 ⟨rfl, hB2⟩; have hR2 := row_below hR1 hB2 hR1.lt; have hr2 := (rowAt_below hB2 hR1.lt).trans hr1; have hc8' := h8_cells h1)
        go_round
        case rel =>
          rw [stC_put]
          have hR3 := (row_setRow_same (c' := stC h1 (nextM s1.m) f1) rfl hR2).2 (stC_size _ _ _)
          exact ⟨k + 1, by go_num, by omega, hR3, (rowAt_setRow_same hR2).trans (by rw [hHstep.out]), (row_setRow_far (by omega)).2 (row_below hRo1 hB2 hlt1), below_setRow (hL1.trans (hB2.mono (by omega))) (by omega)⟩
        case measure => simp [intOf]; omega
      · have hzb : ((nextM s1.m : Int) % 64 == 0) = false := by simp; omega
        have hstep : s.write K (l.take (k + 1)) = ⟨s1.h, nextM s1.m, upd s1.f j l[k].toNat⟩ := by rw [hst, hjj]; unfold St.put; rw [if_neg hz]
        have hHr1 := Lib.hid hr1
        have hHstep := Lib.hid hstep
        have hHW1 := Lib.hid hW1
        clear hr hst hjj hrd hstep hch hcz hr1 hW1
        go_wp2
        go_round
        case rel =>
          rw [← hHW1.out]
          exact ⟨k + 1, by go_num, by omega, hR1, hHr1.out.trans (by rw [hHstep.out]), hRo1, hL1⟩
        case measure => simp [intOf]; omega
end Go.Proofs.YtgdiokklfihfoaaDoor
namespace Go.Proofs.YtgdiokklfihfoaaDoor
open Go.ChangeShapes Go.WideShapes Go.ChangeAt Go.RowKit
set_option maxHeartbeats 2000000
set_option maxRecDepth 100000
attribute [local go_sem ↓] load_state store_state
attribute [local go_sem] isHead_mk isPart_mk offOf_mk blkOf_mk isAgg_mk cellsV_mk row_drew rowAt_drew row_new_cells row_old rowAt_new rowAt_old setRow_new zero_state zero_cellsS

def ivN : Nat → Nat
  | 0 => 0x6a09e667
  | 1 => 0xbb67ae85
  | 2 => 0x3c6ef372
  | 3 => 0xa54ff53a
  | 4 => 0x510e527f
  | 5 => 0x9b05688c
  | 6 => 0x1f83d9ab
  | _ => 0x5be0cd19
def iv (i : Nat) : W32 := BitVec.ofNat 32 (ivN i)
theorem iv_w (i : Nat) : w2n (iv i) = ivN i := w2n_of (by unfold ivN; split <;> omega)
def newC : Array Value := arrV 73 (stNV ivN 0 fun _ => 0)
theorem newC_st : newC = stC iv 0 fun _ => 0 := by
  unfold newC stC
  refine arrV_congr fun i _ => ?_
  unfold stNV stV
  by_cases e : i < 8
  · rw [if_pos e, if_pos e]
    show Value.int .u32 _ = Value.int .u32 _
    rw [iv_w]
  · rw [if_neg e, if_neg e]
theorem hash_new (w : World) : Calls Tryd.prog 64 #[] w fun e w' => e = .returned (.agg (stC iv 0 fun _ => 0)) ∧ Below w.heap.size w w' := by
  have hcz := stZ_cells
  go_enter Tryd.func64, Tryd.ntmps64
  have hset : ((((((((stZ.setIfInBounds 0 (Value.int IntKind.u32 1779033703)).setIfInBounds 1 (Value.int IntKind.u32 3144134277)).setIfInBounds 2 (Value.int IntKind.u32 1013904242)).setIfInBounds 3 (Value.int IntKind.u32 2773480762)).setIfInBounds 4 (Value.int IntKind.u32 1359893119)).setIfInBounds 5 (Value.int IntKind.u32 2600822924)).setIfInBounds 6 (Value.int IntKind.u32 528734635)).setIfInBounds 7 (Value.int IntKind.u32 1541459225)) = newC := by kernel_rfl
  have hcn : Cells newC 73 := by rw [newC_st]; exact stC_cells _ _ _
  have hRz : Row (w.alloc (Obj.cells stZ 105)) w.heap.size 73 := (row_new rfl).2 hcz.1
  go_wp2
  refine ret_row rfl Tryd.underlying105 rfl (by kernel_rfl) rfl ((row_new (n := 73) rfl).2 hcn.1) rfl ?_
  rw [rowAt_new rfl, newC_st]
  exact ⟨rfl, below_alloc _ _⟩
end Go.Proofs.YtgdiokklfihfoaaDoor
namespace Go.Proofs.YtgdiokklfihfoaaDoor
open Go.ChangeShapes Go.WideShapes Go.ChangeAt Go.RowKit
set_option maxHeartbeats 2000000
set_option maxRecDepth 100000

theorem SB1 : SlT Tryd.prog 22 5 1 1 := SlT.mk' Tryd.underlying22 (by kernel_rfl) (by omega)
/-- What stands behind n bytes. -/
def padZ (n : Nat) : Nat := (119 - n % 64) % 64
def lenB (m k : Nat) : List UInt8 := (List.range k).map fun i => UInt8.ofNat (m / 2 ^ (56 - 8 * i))
def padL (n : Nat) : List UInt8 := 128 :: (List.replicate (padZ n) 0 ++ lenB (8 * n % 18446744073709551616) 8)
theorem padZ_lt (n : Nat) : padZ n < 64 := Nat.mod_lt _ (by omega)
theorem lenB_succ (m k : Nat) : lenB m (k + 1) = lenB m k ++ [UInt8.ofNat (m / 2 ^ (56 - 8 * k))] := by
  unfold lenB; rw [List.range_succ, List.map_append]; rfl
theorem lenB_length (m k : Nat) : (lenB m k).length = k := by simp [lenB]
theorem padL_length (n : Nat) : (padL n).length = padZ n + 9 := by simp [padL, lenB_length]
def lenV : Value → Nat
  | .slice _ n _ => n
  | _ => 0
/-- What is handed back: a slice that reads as l; what was there is as it was. -/
def RetB (l : List UInt8) (w : World) (e : Ending) (w' : World) : Prop := ∃ A c, e = .returned (.slice A l.length c) ∧ l.length ≤ c ∧ c ≤ 9223372036854775807 ∧ Rd w' w'.heap.size A (bytesV l) ∧ Below w.heap.size w w'
theorem shr_u8 (m s : Nat) : (m : Int) / 2 ^ s % 256 = ((UInt8.ofNat (m / 2 ^ s)).toNat : Int) := by
  rw [UInt8.toNat_ofNat']
  simp
theorem hash_Pad (n : Nat) (w : World) : Calls Tryd.prog 102 #[.int .u64 n] w (RetB (padL n) w) := by
  go_enter Tryd.func102, Tryd.ntmps102
  go_wp2
  have hO0 : Own w w.heap.size 5 (.slice (some ⟨w.heap.size, 0, none⟩) 1 1) (bytesV (128 :: List.replicate 0 0)) (w.alloc (Obj.cells #[Value.int .u8 128] 5)) :=
    ⟨World.ownsRow_lit w #[Value.int .u8 128] 1 (Nat.le_refl _) (by unfold maxLen; omega) rfl, (Below.refl _ _).alloc (Nat.le_refl _) _, by simp⟩
  generalize (w.alloc (Obj.cells #[Value.int .u8 128] 5)) = W0 at *
  go_loopw [3] (fun v wr => ∃ j : Nat, j ≤ padZ n ∧ Own w w.heap.size 5 v (bytesV (128 :: List.replicate j 0)) wr) (fun v _ => 64 - lenV v)
  case atStart => exact ⟨0, by omega, hO0⟩
  case round =>
    clear hO0
    obtain ⟨j, hj, hO⟩ := hrel
    have hz := padZ_lt n
    obtain ⟨A, c, rfl, hl, hm⟩ := hO.form
    have hlen : (bytesV (128 :: List.replicate j 0)).length = 1 + j := by simp [bytesV]; omega
    rw [hlen] at hO hl ⊢
    have hx : IntKind.u64.wrap ((n : Int) + (1 + (j : Int))) = ((n + (1 + j)) % 18446744073709551616 : Nat) := by rw [IntKind.wrap_u64]; omega
    obtain ⟨x, hxe⟩ : ∃ x, x = (n + (1 + j)) % 18446744073709551616 := ⟨_, rfl⟩
    rw [← hxe] at hx
    by_cases hjp : j < padZ n
    · have hb : (((x : Int) % 64) != 56) = true := by rw [bne_iff_ne]; unfold padZ at hjp hz; omega
      have hHx := Lib.hid hxe
      have hHl := Lib.hid hlen
      clear hxe hlen
      go_wp2_with (at_builtin; refine wpList_own1 (o := ⟨some 15, _, _, _, _, _⟩) rfl (.tmp 13) (.tmp 14) 22 rfl SB1 rfl hO (.int .u8 0) rfl rfl (by rw [hHl.out]; unfold maxLen; omega) (by rw [hHl.out]; omega) ?_; intro v1 w1 hO1 hg1 hat1; clear hg1 hat1)
      go_roundw
      case rel =>
        refine ⟨j + 1, by omega, ?_⟩
        rw [List.replicate_succ', ← List.cons_append, bytesV_append]
        exact hO1
      case measure =>
        obtain ⟨A2, c2, rfl, -, -⟩ := hO1.form
        simp only [lenV, List.length_append, hHl.out, List.length_singleton]
        omega
    · have hb : (((x : Int) % 64) != 56) = false := by rw [bne_eq_false_iff_eq]; unfold padZ at hjp hj hz; omega
      obtain rfl : j = padZ n := by omega
      have hHx := Lib.hid hxe
      have hHl := Lib.hid hlen
      clear hxe hlen
      obtain ⟨m, hm8⟩ : ∃ m, m = 8 * n % 18446744073709551616 := ⟨_, rfl⟩
      have hmw : IntKind.u64.wrap (8 * (n : Int)) = (m : Int) := by rw [IntKind.wrap_u64]; omega
      have hmL : m < 18446744073709551616 := by omega
      have hHm := Lib.hid hm8
      clear hm8
      have hO2 : Own w w.heap.size 5 (.slice A (1 + padZ n) c) (bytesV (128 :: List.replicate (padZ n) 0 ++ lenB m 0)) wr := by simpa [lenB] using hO
      clear hO
      go_wp2
      go_loopw [3, 4, 16] (fun v _ i wr => ∃ k : Nat, i = .int .i64 k ∧ k ≤ 8 ∧ Own w w.heap.size 5 v (bytesV (128 :: List.replicate (padZ n) 0 ++ lenB m k)) wr) (fun _ _ i _ => 8 - (intOf i).toNat)
      case atStart => exact ⟨0, rfl, by omega, hO2⟩
      case round =>
        clear hO2 hj hl hm
        obtain ⟨k, rfl, hk, hO⟩ := hrel
        have hHlk : Hid ((bytesV (128 :: List.replicate (padZ n) 0 ++ lenB m k)).length = 1 + padZ n + k) := Lib.hid (by simp [bytesV, lenB_length]; omega)
        obtain ⟨A, c, rfl, hl, hm⟩ := hO.form
        rw [hHlk.out] at hO hl ⊢
        by_cases h8 : k = 8
        · subst h8
          go_wp2
          go_ret
          have e : (128 :: List.replicate (padZ n) 0 ++ lenB m 8) = padL n := by unfold padL; rw [hHm.out]; rfl
          rw [e] at hO
          have e2 := hHlk.out
          rw [e] at e2
          have e3 : (padL n).length = 1 + padZ n + 8 := by rw [padL_length]; omega
          exact ⟨A, c, by rw [e3]; rfl, by rw [e3]; exact hl, hm, hO.rd, hO.bel⟩
        · go_wp2_with (at_builtin; refine wpList_own1 (o := ⟨some 29, _, _, _, _, _⟩) rfl (.tmp 19) (.tmp 28) 22 rfl SB1 rfl hO _ rfl rfl (by rw [hHlk.out]; unfold maxLen; omega) (by rw [hHlk.out]; omega) ?_; intro v1 w1 hO1 hg1 hat1; clear hg1 hat1)
          go_roundw
          case rel =>
            refine ⟨k + 1, by go_num, by omega, ?_⟩
            rw [lenB_succ, ← List.append_assoc, bytesV_append]
            rw [shr_u8] at hO1
            exact hO1
          case measure => simp [intOf]; omega
end Go.Proofs.YtgdiokklfihfoaaDoor
namespace Go.Proofs.YtgdiokklfihfoaaDoor
open Go

theorem schl_congr {b b' : Nat → W32} (h : ∀ i < 16, b i = b' i) : ∀ n, schl b n = schl b' n
  | 0 => by
      unfold schl
      exact List.map_congr_left fun i hi => h i (by simpa using hi)
  | n + 1 => by
      unfold schl
      rw [schl_congr h n]
theorem prs_congr {K h b b' : Nat → W32} (hb : ∀ i < 16, b i = b' i) : prs K h b = prs K h b' := by
  have e : sch b = sch b' := by
    funext t
    unfold sch
    rw [schl_congr hb]
  unfold prs
  rw [e]
theorem be32_congr {f g : Nat → Nat} {p : Nat} (h : ∀ i < 64, f i = g i) (hp : p + 3 < 64) : be32 f p = be32 g p := by
  unfold be32
  rw [h p (by omega), h (p + 1) (by omega), h (p + 2) (by omega), h (p + 3) (by omega)]
theorem press_congr {K h : Nat → W32} {f g : Nat → Nat} (hf : ∀ i < 64, f i = g i) : (prs K h fun i => be32 f (4 * i)) = prs K h fun i => be32 g (4 * i) :=
  prs_congr fun i hi => be32_congr hf (by omega)

def bytesF (l : List UInt8) : Nat → Nat := fun i => (l[i]?.getD 0).toNat
theorem bytesF_lt (l : List UInt8) (i : Nat) : bytesF l i < 256 := UInt8.toNat_lt _
theorem bytesF_at {l : List UInt8} {i : Nat} (h : i < l.length) : bytesF l i = l[i].toNat := by unfold bytesF; rw [List.getElem?_eq_getElem h]; rfl
def blk (K h : Nat → W32) (l : List UInt8) : Nat → W32 := prs K h fun i => be32 (bytesF l) (4 * i)
def blks (K : Nat → W32) : Nat → (Nat → W32) → List UInt8 → Nat → W32
  | 0, h, _ => h
  | n + 1, h, l => blks K n (blk K h (l.take 64)) (l.drop 64)
theorem blks_snoc (K : Nat → W32) : ∀ (n : Nat) (h : Nat → W32) (l : List UInt8), blks K (n + 1) h l = blk K (blks K n h l) ((l.drop (64 * n)).take 64)
  | 0, h, l => by simp [blks]
  | n + 1, h, l => by
      rw [blks, blks_snoc K n, List.drop_drop]
      show _ = blk K (blks K n (blk K h (l.take 64)) (l.drop 64)) _
      rw [show 64 + 64 * n = 64 * (n + 1) by omega]
/-- The digest's bytes. -/
def outF (h : Nat → W32) : Nat → Nat := fun i => w2n (h (i / 4)) / 2 ^ (24 - 8 * (i % 4)) % 256
def m64 (n : Nat) : Nat := n % 18446744073709551616
/-- The digest of l, from words that have n bytes. -/
def digW (K h : Nat → W32) (n : Nat) (l : List UInt8) : Nat → W32 := blks K ((l.length + (padL (m64 (n + l.length))).length) / 64) h (l ++ padL (m64 (n + l.length)))
def dig (K h : Nat → W32) (n : Nat) (l : List UInt8) : Nat → Nat := outF (digW K h n l)
theorem pad_whole {n k : Nat} (h : n % 64 = 0) : (k + (padL (m64 (n + k))).length) % 64 = 0 := by
  rw [padL_length]
  unfold padZ m64
  omega

section
variable {K : Nat → W32}
theorem nextM_m64 (n : Nat) : nextM (m64 n) = m64 (n + 1) := by unfold nextM m64; omega
def mix (l : List UInt8) (k : Nat) (f : Nat → Nat) : Nat → Nat := fun i => if i < k then bytesF l i else f i
theorem mix_upd {l : List UInt8} {k : Nat} {f : Nat → Nat} (h : k < l.length) : upd (mix l k f) k l[k].toNat = mix l (k + 1) f := by
  funext i
  unfold upd mix
  by_cases e : i = k
  · subst e; rw [if_pos rfl, if_pos (by omega), bytesF_at h]
  · rw [if_neg e]
    by_cases e2 : i < k
    · rw [if_pos e2, if_pos (by omega)]
    · rw [if_neg e2, if_neg (by omega)]
theorem write_part {s : St} {l : List UInt8} (hm : s.m % 64 = 0) (hs : s.m < 18446744073709551616) : ∀ k, k ≤ 63 → k ≤ l.length → s.write K (l.take k) = ⟨s.h, m64 (s.m + k), mix l k s.f⟩
  | 0, _, _ => by
      have e : m64 (s.m + 0) = s.m := by unfold m64; omega
      rw [e]
      rfl
  | k + 1, h1, h2 => by
      rw [St.write_take (by omega), write_part hm hs k (by omega) (by omega)]
      unfold St.put
      have e : m64 (s.m + k) % 64 = k := by unfold m64; omega
      simp only [nextM_m64]
      rw [if_neg (by unfold m64; omega), e, mix_upd (by omega)]
      rfl
theorem write_64 {s : St} {l : List UInt8} (hm : s.m % 64 = 0) (hs : s.m < 18446744073709551616) (hl : 64 ≤ l.length) : s.write K (l.take 64) = ⟨blk K s.h (l.take 64), m64 (s.m + 64), mix l 64 s.f⟩ := by
  rw [show (64 : Nat) = 63 + 1 from rfl, St.write_take (by omega), write_part hm hs 63 (by omega) (by omega)]
  unfold St.put
  have e : m64 (s.m + 63) % 64 = 63 := by unfold m64; omega
  simp only [nextM_m64]
  rw [if_pos (by unfold m64; omega), e, mix_upd (by omega)]
  have e2 : (prs K s.h fun i => be32 (mix l (63 + 1) s.f) (4 * i)) = blk K s.h (l.take (63 + 1)) := by
    unfold blk
    refine press_congr fun i hi => ?_
    unfold mix bytesF
    rw [if_pos (by omega), List.getElem?_take, if_pos (by omega)]
  rw [e2]
theorem write_app {s : St} (a b : List UInt8) : s.write K (a ++ b) = (s.write K a).write K b := by unfold St.write; rw [List.foldl_append]
theorem write_blks : ∀ (n : Nat) {s : St} {l : List UInt8}, s.m % 64 = 0 → s.m < 18446744073709551616 → l.length = 64 * n → (s.write K l).h = blks K n s.h l
  | 0, s, l, _, _, h => by
      have : l = [] := List.eq_nil_of_length_eq_zero (by omega)
      subst this
      rfl
  | n + 1, s, l, hm, hs, h => by
      have e : l = l.take 64 ++ l.drop 64 := (List.take_append_drop 64 l).symm
      conv => lhs; rw [e]
      rw [write_app, write_64 hm hs (by omega), write_blks n (by show m64 _ % 64 = 0; unfold m64; omega) (Nat.mod_lt _ (by omega)) (by rw [List.length_drop]; omega)]
      rfl
theorem put_m (s : St) (b : UInt8) : (s.put K b).m = nextM s.m := by unfold St.put; split <;> rfl
theorem write_m : ∀ (l : List UInt8) {s : St}, s.m < 18446744073709551616 → (s.write K l).m = m64 (s.m + l.length)
  | [], s, h => by
      show s.m = _
      unfold m64; simp; omega
  | b :: l, s, h => by
      show ((s.put K b).write K l).m = _
      rw [write_m l (by rw [put_m]; exact Nat.mod_lt _ (by omega)), put_m, List.length_cons]
      unfold nextM m64
      omega
/-- A state's digest. -/
theorem write_dig {s : St} {l : List UInt8} (hm : s.m % 64 = 0) (hs : s.m < 18446744073709551616) : ((s.write K l).write K (padL (s.write K l).m)).h = digW K s.h s.m l := by
  rw [write_m l hs, ← write_app]
  unfold digW
  have h1 := pad_whole (k := l.length) hm
  refine write_blks _ hm hs ?_
  rw [List.length_append]
  omega
end
end Go.Proofs.YtgdiokklfihfoaaDoor
namespace Go.Proofs.YtgdiokklfihfoaaDoor
open Go.ChangeShapes Go.WideShapes Go.ChangeAt Go.RowKit
set_option maxHeartbeats 2000000
set_option maxRecDepth 100000
section
attribute [local go_sem] u32_xor' u32_and' u32_or' u32_add' u32_addw' u32_shr' u32_shl' u32_shlw' u32_not'
theorem ref_turn (x : W32) (n : Nat) (w : World) (hn : 0 < n) (hn2 : n < 32) :
    Calls Tryd.prog 134 #[u32v x, .int .u64 n] w fun e w' => e = .returned (u32v (rotr x n)) ∧ w = w' := by
  obtain ⟨m, hm⟩ : ∃ m, m = 32 - n := ⟨_, rfl⟩
  have h3 : IntKind.u64.wrap (32 - (n : Int)) = (m : Int) := by rw [IntKind.wrap_u64]; omega
  have h4 : (32 : Int) - n = (m : Int) := by omega
  have h1 : (0 : Int) ≤ m := by omega
  have h2 : (m : Int) < 32 := by omega
  have hHm := Lib.hid hm
  clear hm
  go_enter Tryd.func134, Tryd.ntmps134
  go_wp2
  go_ret
  refine ⟨?_, rfl⟩
  unfold rotr
  rw [← hHm.out]; rfl
theorem ref_choose (x y z : W32) (w : World) : Calls Tryd.prog 135 #[u32v x, u32v y, u32v z] w fun e w' => e = .returned (u32v (chs x y z)) ∧ w = w' := by
  rw [← chs_eq]
  go_enter Tryd.func135, Tryd.ntmps135
  go_wp2
  go_ret
  exact ⟨rfl, rfl⟩
theorem ref_most (x y z : W32) (w : World) : Calls Tryd.prog 136 #[u32v x, u32v y, u32v z] w fun e w' => e = .returned (u32v (maj x y z)) ∧ w = w' := by
  rw [← maj_eq]
  go_enter Tryd.func136, Tryd.ntmps136
  go_wp2
  go_ret
  exact ⟨rfl, rfl⟩
end
/-- Eight words at the head of a block. -/
structure HsAt (w : World) (g : Nat) (h : Nat → W32) : Prop where
  lt : g < w.heap.size
  at_ : ∀ i < 8, w.cell? ⟨g, i, none⟩ = some (u32v (h i))
theorem HsAt.below {w w' : World} {g B : Nat} {h : Nat → W32} (k : HsAt w g h) (hb : Below B w w') (hg : g < B) : HsAt w' g h :=
  ⟨Nat.lt_of_lt_of_le k.lt hb.size, fun i hi => ((bcell hb).1 _ _ hg).trans (k.at_ i hi)⟩
/-- What is handed back: eight words. -/
def RetH (h : Nat → W32) (w : World) (e : Ending) (w' : World) : Prop := ∃ g c, e = .returned (.slice (some ⟨g, 0, none⟩) 8 c) ∧ 8 ≤ c ∧ c ≤ maxLen ∧ HsAt w' g h ∧ Below w.heap.size w w'
theorem hsAt_new {w : World} {t : TypeId} {g : Nat} (h : Nat → W32) (hg : g = w.heap.size) : HsAt (w.alloc (.cells (h8 h) t)) g h := by
  subst hg
  refine ⟨by simp, fun i hi => ?_⟩
  have hR : Row (w.alloc (.cells (h8 h) t)) w.heap.size 8 := (row_new rfl).2 (h8_size h)
  rw [hR.cell, rowAt_new rfl]
  exact arrK_at hi
theorem h8_iv : h8 iv = arrK .u32 8 ivN := arrK_congr fun i _ => iv_w i
theorem ref_Begin (w : World) : Calls Tryd.prog 56 #[] w (RetH iv w) := by
  go_enter Tryd.func56, Tryd.ntmps56
  go_wp2
  go_ret
  refine ⟨_, 8, rfl, by omega, by unfold maxLen; omega, ?_, by go_grown⟩
  have := hsAt_new (w := w) (t := 102) iv rfl
  rw [h8_iv] at this
  exact this

/-! PadText -/
def tailB (m k : Nat) : List UInt8 := (List.range k).map fun i => UInt8.ofNat (m / 256 ^ (k - 1 - i))
theorem tailB_succ (m k : Nat) : tailB m (k + 1) = UInt8.ofNat (m / 256 ^ k) :: tailB m k := by
  unfold tailB
  rw [List.range_succ_eq_map, List.map_cons, List.map_map]
  congr 1
  refine List.map_congr_left fun i hi => ?_
  simp only [Function.comp]
  rw [show k + 1 - 1 - (i + 1) = k - 1 - i by omega]
theorem tailB_len (m k : Nat) : (tailB m k).length = k := by simp [tailB]
theorem tailB_8 (m : Nat) : tailB m 8 = lenB m 8 := by
  unfold tailB lenB
  refine List.map_congr_left fun i hi => ?_
  have hi : i < 8 := by simpa using hi
  rw [show (256 : Nat) = 2 ^ 8 from rfl, ← Nat.pow_mul, show 8 * (8 - 1 - i) = 56 - 8 * i by omega]
abbrev strV (l : List UInt8) : Value := .string ⟨l.toArray⟩
theorem bs_app (a b : List UInt8) : (⟨a.toArray⟩ : ByteArray) ++ ⟨b.toArray⟩ = ⟨(a ++ b).toArray⟩ := by
  apply ByteArray.ext
  simp
def lenS : Value → Nat
  | .string s => s.size
  | _ => 0
theorem lenS_mk (l : List UInt8) : lenS (strV l) = l.length := by simp [lenS, ByteArray.size]
/-- One byte made a string. -/
theorem conv_one (b : UInt8) (t : TypeId) (W : World) : (convert 22 9 (.slice (some ⟨W.heap.size, 0, none⟩) 1 1)).run Tryd.prog (W.alloc (.cells #[.int .u8 (b.toNat : Int)] t)) = .ok (strV [b]) (W.alloc (.cells #[.int .u8 (b.toNat : Int)] t)) :=
  conv_rd (l := [b]) Tryd.underlying22 Tryd.underlying5 Tryd.underlying9 (Rd.of_blk (cs := #[.int .u8 (b.toNat : Int)]) (push_new _ _) (B := W.heap.size + 1) (by omega))
theorem mod_u8 (x : Nat) : (x : Int) % 256 = ((UInt8.ofNat x).toNat : Int) := by
  rw [UInt8.toNat_ofNat']
  simp
theorem ref_PadText (n : Nat) (w : World) : Calls Tryd.prog 94 #[.int .u64 n] w fun e w' => e = .returned (strV (padL n)) ∧ Below w.heap.size w w' := by
  go_enter Tryd.func94, Tryd.ntmps94
  go_wp2
  go_loop [3] (fun v => ∃ j : Nat, j ≤ padZ n ∧ v = strV (128 :: List.replicate j 0)) (fun v => 65 - lenS v)
  case atStart => exact ⟨0, by omega, rfl⟩
  case round =>
    obtain ⟨j, hj, rfl⟩ := hrel
    have hz := padZ_lt n
    by_cases hjp : j < padZ n
    · have hb : (((n : Int) % 64 + ((j : Int) + 1) + 8) % 64 != 0) = true := by rw [bne_iff_ne]; unfold padZ at hjp hz; omega
      go_wp2
      go_round
      case rel =>
        refine ⟨j + 1, by omega, ?_⟩
        rw [List.replicate_succ', ← List.cons_append]
        exact congrArg Value.string (bs_app (128 :: List.replicate j 0) [0])
      case measure =>
        show 65 - lenS (.string ((⟨(128 :: List.replicate j 0).toArray⟩ : ByteArray) ++ ⟨#[0]⟩)) < _
        rw [show ((⟨(128 :: List.replicate j 0).toArray⟩ : ByteArray) ++ ⟨#[0]⟩) = ⟨((128 : UInt8) :: List.replicate j 0 ++ [0]).toArray⟩ from bs_app (128 :: List.replicate j 0) [0], lenS_mk, lenS_mk]
        simp
        omega
    · obtain rfl : j = padZ n := by omega
      have hb : (((n : Int) % 64 + ((padZ n : Int) + 1) + 8) % 64 != 0) = false := by rw [bne_eq_false_iff_eq]; unfold padZ; omega
      obtain ⟨m, hm8⟩ : ∃ m, m = 8 * n % 18446744073709551616 := ⟨_, rfl⟩
      have hmw : IntKind.u64.wrap ((n : Int) * 8) = (m : Int) := by rw [IntKind.wrap_u64]; omega
      have hmL : m < 18446744073709551616 := by omega
      have hHm := Lib.hid hm8
      clear hm8
      have hb0 : Below w.heap.size w w := Below.refl _ _
      go_wp2
      go_loopw [5, 6, 21] (fun x v i wr => ∃ (k y : Nat), i = .int .i64 k ∧ k ≤ 8 ∧ x = .int .u64 y ∧ y < 18446744073709551616 ∧ Hid (y = m / 256 ^ k) ∧ v = strV (tailB m k) ∧ Below w.heap.size w wr) (fun _ _ i _ => 8 - (intOf i).toNat)
      case atStart => exact ⟨0, m, rfl, by omega, rfl, hmL, Lib.hid (by simp), rfl, hb0⟩
      case round =>
        clear hb0 hb
        obtain ⟨k, y, rfl, hk, rfl, hyL, hHy, rfl, hL⟩ := hrel
        by_cases h8 : k = 8
        · subst h8
          have hq : padZ n + 1 + (tailB m 8).length ≤ 9223372036854775807 := by rw [tailB_len]; omega
          go_wp2
          go_ret
          refine ⟨?_, hL⟩
          have e : (128 :: List.replicate (padZ n) 0 ++ tailB m 8) = padL n := by rw [tailB_8]; unfold padL; rw [hHm.out]; rfl
          rw [← e]
          exact congrArg (fun s => Ending.returned (Value.string s)) (bs_app _ _)
        · have hcv := fun W => conv_one (UInt8.ofNat y) 5 W
          rw [← mod_u8] at hcv
          have hq : 1 + (tailB m k).length ≤ 9223372036854775807 := by rw [tailB_len]; omega
          go_wp2
          go_round
          case rel =>
            refine ⟨k + 1, y / 256, by go_num, by omega, by go_num, by omega, Lib.hid (by rw [hHy.out, Nat.div_div_eq_div_mul, Nat.pow_succ]), ?_, hL.alloc hL.size _⟩
            rw [tailB_succ, ← hHy.out]
            exact congrArg Value.string (bs_app [UInt8.ofNat y] (tailB m k))
          case measure => simp [intOf]; omega
end Go.Proofs.YtgdiokklfihfoaaDoor
namespace Go.Proofs.YtgdiokklfihfoaaDoor
open Go Go.RowKit

section
variable {P : Program} {W : World}
theorem run_app_row {t ty e : TypeId} {bytes : Nat} (S : SlT P t e 1 bytes) {g N n c : Nat} {ad : Addr} {u : Value} (hR : Row W g N) (hn : n < N) (hu : W.cell? ad = some u) (h1 : u.oneCell' = true) :
    (Builtin.append_ #[t, t] ty #[.slice (some ⟨g, 0, none⟩) n N, .slice (some ad) 1 c]).run P W = .ok (.slice (some ⟨g, 0, none⟩) (n + 1) N) (W.setCell ⟨g, n, none⟩ u) := by
  obtain ⟨i, z, hi, -, hs, -⟩ := S.info
  have hcell : W.cell? ⟨g, n, none⟩ = (rowAt W g)[n]? := hR.cell n
  have hsz := hR.size
  have h := run_append_room_cells (P := P) W t ty e i S.under hi g 0 n N ad 1 c [u] (by simp [hs]) (fun j v hj => by
      cases j with
      | zero =>
        simp at hj
        subst hj
        have : ad.add 0 = ad := by unfold Addr.add; simp
        rw [this]; exact hu
      | succ j => simp at hj) (by simpa using h1) (by omega)
    (fun j hj => by
      have : j = 0 := by simpa using hj
      subst this
      simp only [hs, Nat.zero_add, Nat.mul_one, Nat.add_zero]
      rw [hcell, Array.getElem?_eq_getElem (by omega)]; rfl)
    (fun j hj => by
      have : j = 0 := by simpa using hj
      subst this
      exact hR.frozen _)
  rw [h]
  simp [World.setCells, hs]
theorem wp_app_row {o : Oper} {a : Act} {K : Act → World → Prop} {Q : Exit → Act → World → Prop} (s x : Operand) (t : TypeId)
    (ho : o.op = .call { callee := .builtin .append, args := #[s, x], argTypes := #[t, t] }) {e : TypeId} {bytes : Nat} (S : SlT P t e 1 bytes) {g N n c : Nat} {ad : Addr} {u : Value}
    (hs : a.eval s = .slice (some ⟨g, 0, none⟩) n N) (hx : a.eval x = .slice (some ad) 1 c) (hR : Row W g N) (hn : n < N) (hu : W.cell? ad = some u) (h1 : u.oneCell' = true)
    (h : K (a.put o.dst (.slice (some ⟨g, 0, none⟩) (n + 1) N)) (W.setCell ⟨g, n, none⟩ u)) : o.wp P a W K Q := by
  have hrun := run_app_row (P := P) (ty := o.type) (c := c) S hR hn hu h1
  unfold Oper.wp execOp
  simp only [ho, resolve, invoke, builtin, Sem.run_bind, Sem.run_pure, Result.andThen_ok, List.map_toArray, List.map_cons, List.map_nil, hs, hx, hrun]
  exact h
theorem step_app_row {ops : Array Oper} {o : Oper} {a : Act} {K : Act → World → Prop} {Q : Exit → Act → World → Prop} {E : Prop} (hgd : o.guard = none) (s x : Operand) (t : TypeId)
    (ho : o.op = .call { callee := .builtin .append, args := #[s, x], argTypes := #[t, t] }) {e : TypeId} {bytes : Nat} (S : SlT P t e 1 bytes) {g N n c : Nat} {ad : Addr} {u : Value}
    (hs : a.eval s = .slice (some ⟨g, 0, none⟩) n N) (hx : a.eval x = .slice (some ad) 1 c) (hR : Row W g N) (hn : n < N) (hu : W.cell? ad = some u) (h1 : u.oneCell' = true)
    (h : K (a.put o.dst (.slice (some ⟨g, 0, none⟩) (n + 1) N)) (W.setCell ⟨g, n, none⟩ u)) : if Region.wanted o (yielded ops a.tmps) = true then Oper.wp P o a W K Q else E := by
  have hw : Region.wanted o (yielded ops a.tmps) = true := by simp [Region.wanted, hgd]
  rw [if_pos hw]
  exact wp_app_row s x t ho S hs hx hR hn hu h1 h
theorem wpList_app_row {ops : Array Oper} {rest : List Oper} {o : Oper} {a : Act} {Q : Exit → Act → World → Prop} (hgd : o.guard = none) (s x : Operand) (t : TypeId)
    (ho : o.op = .call { callee := .builtin .append, args := #[s, x], argTypes := #[t, t] }) {e : TypeId} {bytes : Nat} (S : SlT P t e 1 bytes) {g N n c : Nat} {ad : Addr} {u : Value}
    (hs : a.eval s = .slice (some ⟨g, 0, none⟩) n N) (hx : a.eval x = .slice (some ad) 1 c) (hR : Row W g N) (hn : n < N) (hu : W.cell? ad = some u) (h1 : u.oneCell' = true)
    (h : wpList P ops Q rest (a.put o.dst (.slice (some ⟨g, 0, none⟩) (n + 1) N)) (W.setCell ⟨g, n, none⟩ u)) : wpList P ops Q (o :: rest) a W :=
  wpList_plain hgd fun _ hK => wp_app_row s x t ho S hs hx hR hn hu h1 (hK _ _ h)
theorem below_drewN {B : Nat} {w w' : World} (h : Below B w w') (n : Nat) : Below B w (w'.drewN n) := ⟨h.os, h.tape, h.output, h.size, h.block⟩
/-- A contract that leaves the world as it was, in a region that only reads. -/
theorem qsame {f : FuncId} {args : Array Value} {w : World} {n : Nat} {v : Value} (h : Calls P f args (w.drewN n) fun e w' => e = .returned v ∧ w.drewN n = w') : Calls P f args (w.drewN n) fun e w'' => e = .returned v ∧ ∃ m, w'' = w.drewN m :=
  h.mono fun _ _ ⟨he, hm⟩ => ⟨he, n, hm.symm⟩
/-- The cell of a block that was just made. -/
theorem cell_new1 {w : World} {u : Value} {te : TypeId} {g : Nat} (hg : g = w.heap.size) : (w.alloc (.cells #[u] te)).cell? ⟨g, 0, none⟩ = some u := by
  subst hg
  unfold World.cell?
  rw [push_new]
  rfl
end

section
variable {P : Program} {w0 W : World} {B : Nat} {e : TypeId} {v : Value} {xs : List Value}
theorem step_own {ops : Array Oper} {o : Oper} {a : Act} {K : Act → World → Prop} {Q : Exit → Act → World → Prop} {E : Prop} (hgd : o.guard = none) (s x : Operand) (t : TypeId)
    (ho : o.op = .call { callee := .builtin .append, args := #[s, x], argTypes := #[t, t] }) {bytes : Nat} (S : SlT P t e 1 bytes) (hs : a.eval s = v) (hO : Own w0 B e v xs W)
    {B' : Nat} {A : Option Addr} {c : Nat} {news : List Value} (hx : a.eval x = .slice A news.length c) (hr : Rd W B' A news) (h1 : ∀ u ∈ news, u.oneCell' = true)
    (h63 : xs.length + news.length ≤ maxLen) (hbytes : (xs.length + news.length) * bytes ≤ 140737488355328)
    (h : ∀ v' w', Own w0 B e v' (xs ++ news) w' → K (a.put o.dst v') w') :
    if Region.wanted o (yielded ops a.tmps) = true then Oper.wp P o a W K Q else E :=
  step_app hgd s x t ho S hs hO.own hx (by simp) hr h1 h63 hbytes hO.sz fun v' w' h2 h3 _ =>
    h v' w' ⟨by rw [List.length_append]; exact h2, hO.bel.grown h3 hO.sz (fun k hk => (hO.own.lt k hk).1), Nat.le_trans hO.sz h3.size⟩
end
end Go.Proofs.YtgdiokklfihfoaaDoor
namespace Go.Proofs.YtgdiokklfihfoaaDoor
open Go.ChangeShapes Go.WideShapes Go.ChangeAt Go.RowKit
set_option maxHeartbeats 2000000
set_option maxRecDepth 100000
theorem u32_wrapn (x : W32) : IntKind.u32.wrap (w2n x : Int) = (w2n x : Int) := by have := w2n_lt x; rw [IntKind.wrap_u32]; omega
theorem sum4 (x y s t : W32) : x + y + s + t = x + s + y + t := by rw [BitVec.add_assoc x y, BitVec.add_comm y, ← BitVec.add_assoc]
attribute [local go_sem] u32_wrapn u32_xor' u32_and' u32_or' u32_add' u32_addw' u32_shr3 u32_shr10 u32_shr' u32_shl' u32_shlw' u32_not2 u32_not'

theorem cell_al {w : World} {o : Obj} {g i : Nat} {v : Value} (h : w.cell? ⟨g, i, none⟩ = some v) (hg : g < w.heap.size) : (w.alloc o).cell? ⟨g, i, none⟩ = some v := ((below_alloc w o).cell (p := ⟨g, i, none⟩) hg).trans h
theorem ref_turn2 (x : W32) (w : World) : Calls Tryd.prog 134 #[u32v x, .int .u64 2] w fun e w' => e = .returned (u32v (rotr x 2)) ∧ w = w' := ref_turn x 2 w (by omega) (by omega)
theorem ref_turn6 (x : W32) (w : World) : Calls Tryd.prog 134 #[u32v x, .int .u64 6] w fun e w' => e = .returned (u32v (rotr x 6)) ∧ w = w' := ref_turn x 6 w (by omega) (by omega)
theorem ref_turn7 (x : W32) (w : World) : Calls Tryd.prog 134 #[u32v x, .int .u64 7] w fun e w' => e = .returned (u32v (rotr x 7)) ∧ w = w' := ref_turn x 7 w (by omega) (by omega)
theorem ref_turn11 (x : W32) (w : World) : Calls Tryd.prog 134 #[u32v x, .int .u64 11] w fun e w' => e = .returned (u32v (rotr x 11)) ∧ w = w' := ref_turn x 11 w (by omega) (by omega)
theorem ref_turn13 (x : W32) (w : World) : Calls Tryd.prog 134 #[u32v x, .int .u64 13] w fun e w' => e = .returned (u32v (rotr x 13)) ∧ w = w' := ref_turn x 13 w (by omega) (by omega)
theorem ref_turn17 (x : W32) (w : World) : Calls Tryd.prog 134 #[u32v x, .int .u64 17] w fun e w' => e = .returned (u32v (rotr x 17)) ∧ w = w' := ref_turn x 17 w (by omega) (by omega)
theorem ref_turn18 (x : W32) (w : World) : Calls Tryd.prog 134 #[u32v x, .int .u64 18] w fun e w' => e = .returned (u32v (rotr x 18)) ∧ w = w' := ref_turn x 18 w (by omega) (by omega)
theorem ref_turn19 (x : W32) (w : World) : Calls Tryd.prog 134 #[u32v x, .int .u64 19] w fun e w' => e = .returned (u32v (rotr x 19)) ∧ w = w' := ref_turn x 19 w (by omega) (by omega)
theorem ref_turn22 (x : W32) (w : World) : Calls Tryd.prog 134 #[u32v x, .int .u64 22] w fun e w' => e = .returned (u32v (rotr x 22)) ∧ w = w' := ref_turn x 22 w (by omega) (by omega)
theorem ref_turn25 (x : W32) (w : World) : Calls Tryd.prog 134 #[u32v x, .int .u64 25] w fun e w' => e = .returned (u32v (rotr x 25)) ∧ w = w' := ref_turn x 25 w (by omega) (by omega)
theorem SW4 : SlT Tryd.prog 113 102 1 4 := SlT.mk' Tryd.underlying113 (by kernel_rfl) (by omega)
/-- The first k of four bytes. -/
def pk (f : Nat → Nat) (p : Nat) : Nat → Nat
  | 0 => 0
  | k + 1 => pk f p k * 256 + f (p + k)
theorem pk_lt {f : Nat → Nat} (hf : ∀ i, f i < 256) (p : Nat) : ∀ k, pk f p k < 256 ^ k
  | 0 => by simp [pk]
  | k + 1 => by
      have h1 := pk_lt hf p k
      have h2 := hf (p + k)
      rw [pk, Nat.pow_succ]; omega
theorem pk_4 {f : Nat → Nat} (p : Nat) : BitVec.ofNat 32 (pk f p 4) = be32 f p := by
  unfold be32
  simp only [pk, Nat.zero_mul, Nat.zero_add, Nat.add_zero]
  congr 1
  omega
theorem str_ix {P : Program} {t : TypeId} (ht : P.underlying t = some .string) {l : List UInt8} {i : Nat} (hi : i < l.length) (k : IntKind) (W : World) : (Instr.index t (strV l) (.int k (i : Int))).run P W = .ok (.int .u8 (bytesF l i : Int)) W := by
  have h : (0 : Int) ≤ (i : Int) ∧ (i : Int) < ((⟨l.toArray⟩ : ByteArray).size : Int) := ⟨by omega, by simpa [ByteArray.size] using hi⟩
  rw [run_index_string W t _ k _ ht, dif_pos h, bytesF_at hi]
  rfl
theorem ref_block (K h : Nat → W32) (g c : Nat) (l : List UInt8) (w : World) (hl : l.length = 64) (hh : HsAt w g h)
    (hK : ∀ i < 64, w.cell? ⟨0, i, none⟩ = some (u32v (K i))) (hKl : 0 < w.heap.size) :
    Calls Tryd.prog 95 #[.slice (some ⟨g, 0, none⟩) 8 c, strV l] w (RetH (blk K h l) w) := by
  have hmk : ∀ W : World, (Instr.makeSlice 113 (.int .i64 0) (.int .i64 64)).run Tryd.prog W = .ok (.slice (some ⟨W.heap.size, 0, none⟩) 0 64) (W.alloc (.cells (arrK .u32 64 fun _ => 0) 102)) := fun _ => by kernel_rfl
  have hR0 : Row (w.alloc (.cells (arrK .u32 64 fun _ => 0) 102)) w.heap.size 64 := (row_new rfl).2 (arrK_size _ _ _)
  have hr0 : rowAt (w.alloc (.cells (arrK .u32 64 fun _ => 0) 102)) w.heap.size = arrK .u32 64 (wK (fun i => be32 (bytesF l) (4 * i)) 0) := (rowAt_new rfl).trans (arrK_congr fun i _ => by simp [wK])
  have hL0 : Below w.heap.size w (w.alloc (.cells (arrK .u32 64 fun _ => 0) 102)) := by go_grown
  have hfl := bytesF_lt l
  have hHf := Lib.hid hfl
  have hHK := Lib.hid hK
  have hHh := Lib.hid hh
  clear hfl hK hh
  go_enter Tryd.func95, Tryd.ntmps95
  go_wp2
  clear hmk
  generalize (w.alloc (.cells (arrK .u32 64 fun _ => 0) 102)) = W0 at *
  generalize hbe : (fun i => be32 (bytesF l) (4 * i)) = b at *
  have hHb := Lib.hid hbe
  clear hbe
  go_loopw [5, 6] (fun v i wr => ∃ j : Nat, i = .int .i64 (4 * (j : Int)) ∧ j ≤ 16 ∧ v = .slice (some ⟨w.heap.size, 0, none⟩) j 64 ∧ Row wr w.heap.size 64 ∧ rowAt wr w.heap.size = arrK .u32 64 (wK b j) ∧ Below w.heap.size w wr) (fun _ i _ => 64 - (intOf i).toNat)
  case atStart => exact ⟨0, rfl, by omega, rfl, hR0, hr0, hL0⟩
  case round =>
    clear hR0 hr0 hL0
    obtain ⟨j, rfl, hj, rfl, hR, hr, hL⟩ := hrel
    by_cases h16 : j = 16
    · subst h16
      go_wp2
      rw [show (4 * ((16 : Nat) : Int)) = (64 : Int) from rfl]
      go_loopw [5] (fun v wr => ∃ n : Nat, 16 ≤ n ∧ n ≤ 64 ∧ v = .slice (some ⟨w.heap.size, 0, none⟩) n 64 ∧ Row wr w.heap.size 64 ∧ rowAt wr w.heap.size = arrK .u32 64 (wK b n) ∧ Below w.heap.size w wr) (fun v _ => 64 - lenV v)
      case atStart => exact ⟨16, by omega, by omega, rfl, hR, hr, hL⟩
      case round =>
        clear hR hr hL
        obtain ⟨n, hn1, hn2, rfl, hR, hr, hL⟩ := hrel
        by_cases h64 : n = 64
        · subst h64
          have h64e : arrK .u32 64 (wK b 64) = arrK .u32 64 (fun i => w2n (sch b i)) := arrK_congr fun i hi => wK_at b hi
          have hcw : ∀ i, i < 64 → wr.cell? ⟨w.heap.size, i, none⟩ = some (u32v (sch b i)) := fun i hi => by rw [hR.cell, hr, arrK_at hi, wK_at b hi]
          have hH := hHh.out.below hL hHh.out.lt
          have c0 := hH.at_ 0 (by omega)
          have c1 := hH.at_ 1 (by omega)
          have c2 := hH.at_ 2 (by omega)
          have c3 := hH.at_ 3 (by omega)
          have c4 := hH.at_ 4 (by omega)
          have c5 := hH.at_ 5 (by omega)
          have c6 := hH.at_ 6 (by omega)
          have c7 := hH.at_ 7 (by omega)
          have hKw : ∀ i, i < 64 → wr.cell? ⟨0, i, none⟩ = some (u32v (K i)) := fun i hi => ((bcell hL).1 _ _ hKl).trans (hHK.out i hi)
          have hHcw := Lib.hid hcw
          have hHKw := Lib.hid hKw
          have hHH := Lib.hid hH
          clear hcw hKw hH hR hr h64e
          go_wp2
          go_quiet (fail)
          go_wp2
          have hL0 := below_drewN hL nq
          have hcw0 : Hid (∀ i, i < 64 → (wr.drewN nq).cell? ⟨w.heap.size, i, none⟩ = some (u32v (sch b i))) := Lib.hid hHcw.out
          have hKw0 : Hid (∀ i, i < 64 → (wr.drewN nq).cell? ⟨0, i, none⟩ = some (u32v (K i))) := Lib.hid hHKw.out
          have hH0 : Hid (HsAt (wr.drewN nq) g h) := Lib.hid ⟨hHH.out.lt, hHH.out.at_⟩
          clear c0 c1 c2 c3 c4 c5 c6 c7 hHcw hHKw hHH hL
          generalize wr.drewN nq = W1 at *
          go_loopw [12, 13, 14, 15, 16, 17, 18, 19, 119] (fun x0 x1 x2 x3 x4 x5 x6 x7 i wr => ∃ t : Nat, i = .int .i64 t ∧ t ≤ 64 ∧ x0 = u32v (rounds K (sch b) h t 0) ∧ x1 = u32v (rounds K (sch b) h t 1) ∧ x2 = u32v (rounds K (sch b) h t 2) ∧ x3 = u32v (rounds K (sch b) h t 3) ∧ x4 = u32v (rounds K (sch b) h t 4) ∧ x5 = u32v (rounds K (sch b) h t 5) ∧ x6 = u32v (rounds K (sch b) h t 6) ∧ x7 = u32v (rounds K (sch b) h t 7) ∧ Hid (∀ i, i < 64 → wr.cell? ⟨w.heap.size, i, none⟩ = some (u32v (sch b i))) ∧ Hid (∀ i, i < 64 → wr.cell? ⟨0, i, none⟩ = some (u32v (K i))) ∧ Hid (HsAt wr g h) ∧ Below w.heap.size w wr) (fun _ _ _ _ _ _ _ _ i _ => 64 - (intOf i).toNat)
          case atStart => exact ⟨0, rfl, by omega, rfl, rfl, rfl, rfl, rfl, rfl, rfl, rfl, hcw0, hKw0, hH0, hL0⟩
          case round =>
            clear hcw0 hKw0 hH0 hL0
            obtain ⟨t, rfl, ht, rfl, rfl, rfl, rfl, rfl, rfl, rfl, rfl, hcw, hKw, hH, hL⟩ := hrel
            by_cases h64 : t = 64
            · subst h64
              have hH := hH.out
              have c0 := hH.at_ 0 (by omega)
              have c1 := hH.at_ 1 (by omega)
              have c2 := hH.at_ 2 (by omega)
              have c3 := hH.at_ 3 (by omega)
              have c4 := hH.at_ 4 (by omega)
              have c5 := hH.at_ 5 (by omega)
              have c6 := hH.at_ 6 (by omega)
              have c7 := hH.at_ 7 (by omega)
              have hfin := Lib.hid (show blk K h l = fun i => h i + rounds K (sch b) h 64 i by unfold blk prs; rw [← hHb.out])
              have hHH := Lib.hid hH
              clear hH
              generalize rounds K (sch b) h 64 = v at *
              go_wp2
              go_still_tail 40, (by kernel_rfl)
              change wpList _ _ _ _ _ wr.drew
              have hLd := hL.drew
              generalize wr.drew = W2 at *
              go_wp2
              go_ret
              refine ⟨W2.heap.size, 8, rfl, by omega, by unfold maxLen; omega, ?_, hLd.alloc hLd.size _⟩
              rw [hfin.out]
              exact Eq.mpr (congrArg (fun cs => HsAt (W2.alloc (.cells cs 102)) W2.heap.size fun i => h i + v i) (arrK8' .u32 fun i => w2n (h i + v i))) (hsAt_new _ rfl)
            · have ht64 : t < 64 := by omega
              have hrs := Lib.hid (show rounds K (sch b) h (t + 1) = rnd (K t) (sch b t) (rounds K (sch b) h t) from rfl)
              generalize rounds K (sch b) h t = v at *
              have ck := hKw.out t ht64
              have cw := hcw.out t ht64
              have mt : (t : Int) < 64 := by omega
              have zt : (0 : Int) ≤ (t : Int) := by omega
              go_wp2
              go_region_held3 (fun w' => w'.cell? ⟨0, t, none⟩ = some (u32v (K t))) (exact ck)
                (first
                  | (go_at_call 134; (first | with_reducible refine (ref_turn6 _ _).mono ?_ | with_reducible refine (ref_turn11 _ _).mono ?_ | with_reducible refine (ref_turn25 _ _).mono ?_); rintro e w' ⟨rfl, rfl⟩)
                  | (go_at_call 135; with_reducible refine (ref_choose _ _ _ _).mono ?_; rintro e w' ⟨rfl, rfl⟩))
              go_wp2_with (first | (go_at_call 134; (first | with_reducible refine (ref_turn2 _ _).mono ?_ | with_reducible refine (ref_turn13 _ _).mono ?_ | with_reducible refine (ref_turn22 _ _).mono ?_); rintro e w' ⟨rfl, rfl⟩) | (go_at_call 136; refine (ref_most _ _ _ _).mono ?_; rintro e w' ⟨rfl, rfl⟩))
              go_round
              case rel => exact ⟨t + 1, by go_num, by omega, by rw [hrs.out]; rfl, by rw [hrs.out]; rfl, by rw [hrs.out]; rfl, by rw [hrs.out]; rfl, by rw [hrs.out]; rfl, by rw [hrs.out]; rfl, by rw [hrs.out]; rfl, by rw [hrs.out]; rfl, Lib.hid hcw.out, Lib.hid hKw.out, Lib.hid ⟨hH.out.lt, hH.out.at_⟩, hL.drew⟩
              case measure => simp [intOf]; omega
        · have hn64 : n < 64 := by omega
          have hcell : ∀ i, i < n → wr.cell? ⟨w.heap.size, i, none⟩ = some (u32v (sch b i)) := fun i hi => by rw [hR.cell, hr, arrK_at (by omega), wK_at b hi]
          obtain ⟨a1, ha1⟩ : ∃ a1, a1 = n - 16 := ⟨_, rfl⟩
          obtain ⟨a2, ha2⟩ : ∃ a2, a2 = n - 15 := ⟨_, rfl⟩
          obtain ⟨a3, ha3⟩ : ∃ a3, a3 = n - 7 := ⟨_, rfl⟩
          obtain ⟨a4, ha4⟩ : ∃ a4, a4 = n - 2 := ⟨_, rfl⟩
          have hsb := sch_hi b (t := n) (by omega)
          rw [← ha1, ← ha2, ← ha3, ← ha4] at hsb
          have hi1 : (n : Int) - 16 = a1 := by omega
          have hi2 : (n : Int) - 15 = a2 := by omega
          have hi3 : (n : Int) - 7 = a3 := by omega
          have hi4 : (n : Int) - 2 = a4 := by omega
          have l1 : a1 < n := by omega
          have l2 : a2 < n := by omega
          have l3 : a3 < n := by omega
          have l4 : a4 < n := by omega
          have c1 := hcell a1 l1
          have c2 := hcell a2 l2
          have c3 := hcell a3 l3
          have c4 := hcell a4 l4
          have hw1 : IntKind.i64.wrap (a1 : Int) = a1 := by rw [IntKind.wrap_i64]; omega
          have hw2 : IntKind.i64.wrap (a2 : Int) = a2 := by rw [IntKind.wrap_i64]; omega
          have hw3 : IntKind.i64.wrap (a3 : Int) = a3 := by rw [IntKind.wrap_i64]; omega
          have hw4 : IntKind.i64.wrap (a4 : Int) = a4 := by rw [IntKind.wrap_i64]; omega
          have m1 : (a1 : Int) < n := by omega
          have m2 : (a2 : Int) < n := by omega
          have m3 : (a3 : Int) < n := by omega
          have m4 : (a4 : Int) < n := by omega
          have z1 : (0 : Int) ≤ (a1 : Int) := by omega
          have z2 : (0 : Int) ≤ (a2 : Int) := by omega
          have z3 : (0 : Int) ≤ (a3 : Int) := by omega
          have z4 : (0 : Int) ≤ (a4 : Int) := by omega
          have hHsb := Lib.hid hsb
          have hHr := Lib.hid hr
          have hst := Lib.hid (arrK_congr (k := .u32) (n := 64) fun p _ => wK_step b n p)
          clear hsb hcell ha1 ha2 ha3 ha4 hr
          go_wp2
          go_quiet (fail)
          go_wp2
          have hne1 : a1 ≠ n := by omega
          have hglt := hR.lt
          have hR' : ∀ o, Row (wr.alloc o) w.heap.size 64 := fun o => (row_old hR.lt).2 hR
          have hne3 : a3 ≠ n := by omega
          go_region_held3 (fun w' => w'.cell? ⟨w.heap.size, a1, none⟩ = some (u32v (sch b a1)) ∧ w'.cell? ⟨w.heap.size, a3, none⟩ = some (u32v (sch b a3)))
            (first | exact ⟨c1, c3⟩ | exact ⟨cell_ne (cell_al c1 hglt) hne1, cell_ne (cell_al c3 hglt) hne3⟩ | go_keep)
            (first
              | (go_at_call 134; (first | with_reducible refine (ref_turn7 _ _).mono ?_ | with_reducible refine (ref_turn18 _ _).mono ?_ | with_reducible refine (ref_turn17 _ _).mono ?_ | with_reducible refine (ref_turn19 _ _).mono ?_); rintro e w' ⟨rfl, rfl⟩)
              | (refine step_app_row rfl (.tmp 61) (.tmp 91) 113 rfl SW4 rfl rfl (hR' _) hn64 (cell_new1 rfl) rfl ?_))
          go_wp2
          go_round
          case rel =>
            refine ⟨n + 1, by omega, by omega, rfl, row_setCell.2 (hR' _), ?_, ?_⟩
            · rw [rowAt_setCell_same, rowAt_old (w := wr.drewN _) hglt, rowAt_drewN, hHr.out, sum4, arrK_set, ← hst.out, hHsb.out]
              rfl
            · exact ((below_drewN hL _).alloc hL.size _).setCell (Nat.le_refl _) _
          case measure => simp [lenV]; omega
    · have hj16 : j < 16 := by omega
      go_wp2
      go_loop [7, 29] (fun x i => ∃ k : Nat, i = .int .i64 k ∧ k ≤ 4 ∧ x = .int .u32 (pk (bytesF l) (4 * j) k : Int)) (fun _ i => 4 - (intOf i).toNat)
      case atStart => exact ⟨0, rfl, by omega, rfl⟩
      case round =>
        obtain ⟨k, rfl, hk, rfl⟩ := hrel
        have hpl := pk_lt hHf.out (4 * j) k
        by_cases h4 : k = 4
        · subst h4
          have e : (pk (bytesF l) (4 * j) 4 : Int) = (w2n (sch b j) : Int) := by
            rw [sch_lo b hj16, ← hHb.out]
            show _ = (w2n (be32 (bytesF l) (4 * j)) : Int)
            rw [← pk_4, w2n_of (by omega)]
          rw [e]
          clear e hpl
          have hst := Lib.hid (arrK_congr (k := .u32) (n := 64) fun p _ => wK_step b j p)
          have hR' : ∀ o, Row (wr.alloc o) w.heap.size 64 := fun o => (row_old hR.lt).2 hR
          go_wp2_with (at_builtin; refine wpList_app_row (o := ⟨some 45, _, _, _, _, _⟩) rfl (.tmp 42) (.tmp 44) 113 rfl SW4 rfl rfl (hR' _) (by omega) (cell_new1 rfl) rfl ?_)
          go_roundw
          case rel =>
            refine ⟨j + 1, by go_num, by omega, rfl, row_setCell.2 (hR' _), ?_, ((hL.alloc hL.size _).setCell (Nat.le_refl _) _)⟩
            rw [rowAt_setCell_same, rowAt_old hR.lt, hr, arrK_set, hst.out]
          case measure => simp [intOf]; omega
        · have hpl3 : pk (bytesF l) (4 * j) k < 16777216 := Nat.lt_of_lt_of_le hpl (Nat.pow_le_pow_right (by omega) (show k ≤ 3 by omega))
          have hfb := hHf.out (4 * j + k)
          have hix : ∀ W : World, (Instr.index 9 (strV l) (.int .i64 (4 * (j : Int) + (k : Int)))).run Tryd.prog W = .ok (.int .u8 (bytesF l (4 * j + k) : Int)) W := fun W => by
            have := str_ix (P := Tryd.prog) Tryd.underlying9 (l := l) (i := 4 * j + k) (by omega) .i64 W
            push_cast at this
            exact this
          clear hpl
          have hst := Lib.hid (show pk (bytesF l) (4 * j) (k + 1) = pk (bytesF l) (4 * j) k * 256 + bytesF l (4 * j + k) from rfl)
          generalize bytesF l (4 * j + k) = y at *
          generalize pk (bytesF l) (4 * j) k = x at *
          go_wp2
          go_round
          case rel => exact ⟨k + 1, by go_num, by omega, by rw [hst.out]; go_num⟩
          case measure => simp [intOf]; omega
end Go.Proofs.YtgdiokklfihfoaaDoor
namespace Go.Proofs.YtgdiokklfihfoaaDoor
open Go.ChangeShapes Go.WideShapes Go.ChangeAt Go.RowKit
set_option maxHeartbeats 2000000
set_option maxRecDepth 100000
attribute [local irreducible] arrV
attribute [local go_sem ↓] load_state store_state execl_state execs_state load_words
attribute [local go_sem] isHead_mk isPart_mk offOf_mk blkOf_mk isAgg_mk cellsV_mk row_drew rowAt_drew row_new_cells row_old rowAt_new rowAt_old setRow_new stC_words

theorem load_o32 {w : World} {dst : Option Tmp} {x : Operand} {tt : TypeId} {pos : String} {af : Array Edge} {gd : Option (Nat × Bool)} {a : Act} {K : Act → World → Prop} {Q : Exit → Act → World → Prop}
    (hv : IsHead (a.eval x)) (h : Row w (blkOf (a.eval x)) 32) : Oper.wp Tryd.prog ⟨dst, .load 57 x, tt, pos, af, gd⟩ a w K Q ↔ K (a.put dst (.agg (rowAt w (blkOf (a.eval x))))) w :=
  wp_load_whole Tryd.underlying57 rfl (by kernel_rfl) hv h
theorem store_o32 {w : World} {dst : Option Tmp} {x y : Operand} {tt : TypeId} {pos : String} {af : Array Edge} {gd : Option (Nat × Bool)} {a : Act} {K : Act → World → Prop} {Q : Exit → Act → World → Prop}
    (hv : IsHead (a.eval x)) (h : Row w (blkOf (a.eval x)) 32) (hx : IsAgg (a.eval y) 32) : Oper.wp Tryd.prog ⟨dst, .store 57 x y, tt, pos, af, gd⟩ a w K Q ↔ K (a.put dst undef) (w.setRow (blkOf (a.eval x)) (cellsV (a.eval y))) :=
  wp_store_whole (by kernel_rfl) hv h hx
theorem execl_o32 {w : World} {dst : Option Tmp} {x : Operand} {tt : TypeId} {pos : String} {af : Array Edge} {gd : Option (Nat × Bool)} {ρ : Operand → Value}
    (hv : IsHead (ρ x)) (h : Row w (blkOf (ρ x)) 32) : (execOp ρ ⟨dst, .load 57 x, tt, pos, af, gd⟩).run Tryd.prog w = .ok (.value (.agg (rowAt w (blkOf (ρ x))))) w :=
  exec_load_whole Tryd.underlying57 rfl (by kernel_rfl) hv h
theorem execs_o32 {w : World} {dst : Option Tmp} {x y : Operand} {tt : TypeId} {pos : String} {af : Array Edge} {gd : Option (Nat × Bool)} {ρ : Operand → Value}
    (hv : IsHead (ρ x)) (h : Row w (blkOf (ρ x)) 32) (hx : IsAgg (ρ y) 32) : (execOp ρ ⟨dst, .store 57 x y, tt, pos, af, gd⟩).run Tryd.prog w = .ok .skip (w.setRow (blkOf (ρ x)) (cellsV (ρ y))) :=
  exec_store_whole (by kernel_rfl) hv h hx
attribute [local go_sem ↓] load_o32 store_o32
theorem zeroB32 : #[Value.int IntKind.u8 0, Value.int IntKind.u8 0, Value.int IntKind.u8 0, Value.int IntKind.u8 0, Value.int IntKind.u8 0, Value.int IntKind.u8 0, Value.int IntKind.u8 0, Value.int IntKind.u8 0, Value.int IntKind.u8 0, Value.int IntKind.u8 0, Value.int IntKind.u8 0, Value.int IntKind.u8 0, Value.int IntKind.u8 0, Value.int IntKind.u8 0, Value.int IntKind.u8 0, Value.int IntKind.u8 0, Value.int IntKind.u8 0, Value.int IntKind.u8 0, Value.int IntKind.u8 0, Value.int IntKind.u8 0, Value.int IntKind.u8 0, Value.int IntKind.u8 0, Value.int IntKind.u8 0, Value.int IntKind.u8 0, Value.int IntKind.u8 0, Value.int IntKind.u8 0, Value.int IntKind.u8 0, Value.int IntKind.u8 0, Value.int IntKind.u8 0, Value.int IntKind.u8 0, Value.int IntKind.u8 0, Value.int IntKind.u8 0] = arrK .u8 32 fun _ => 0 := by kernel_rfl

def outK (h : Nat → W32) (k : Nat) : Nat → Nat := fun i => if i / 4 < k then outF h i else 0
theorem outK_step (h : Nat → W32) {k q : Nat} (hq : q = 4 * k) : arrK .u8 32 (upd (upd (upd (upd (outK h k) q (w2n (h k) / 16777216 % 256)) (q + 1) (w2n (h k) / 65536 % 256)) (q + 2) (w2n (h k) / 256 % 256)) (q + 3) (w2n (h k) % 256)) = arrK .u8 32 (outK h (k + 1)) := by
  refine arrK_congr fun i hi => ?_
  unfold upd outK outF
  subst hq
  by_cases e3 : i = 4 * k + 3
  · subst e3
    rw [if_pos rfl, if_pos (by omega), show (4 * k + 3) / 4 = k by omega, show (4 * k + 3) % 4 = 3 by omega]
    simp
  · rw [if_neg e3]
    by_cases e2 : i = 4 * k + 2
    · subst e2
      rw [if_pos rfl, if_pos (by omega), show (4 * k + 2) / 4 = k by omega, show (4 * k + 2) % 4 = 2 by omega]
    · rw [if_neg e2]
      by_cases e1 : i = 4 * k + 1
      · subst e1
        rw [if_pos rfl, if_pos (by omega), show (4 * k + 1) / 4 = k by omega, show (4 * k + 1) % 4 = 1 by omega]
      · rw [if_neg e1]
        by_cases e0 : i = 4 * k
        · subst e0
          rw [if_pos rfl, if_pos (by omega), show 4 * k / 4 = k by omega, show 4 * k % 4 = 0 by omega]
        · rw [if_neg e0]
          by_cases h1 : i / 4 < k
          · rw [if_pos h1, if_pos (by omega)]
          · rw [if_neg h1, if_neg (by omega)]
theorem hash_StSum (K : Nat → W32) (s : St) (w : World) (hs : s.ok)
    (hK : ∀ i < 64, w.cell? ⟨1, i, none⟩ = some (u32v (K i))) (hKl : 1 < w.heap.size) :
    Calls Tryd.prog 66 #[.agg s.cells] w fun e w' => e = .returned (.agg (arrK .u8 32 (outF (s.write K (padL s.m)).h))) ∧ Below w.heap.size w w' := by
  have hch := stC_cells s.h s.m s.f
  have hcz := arrK_cells .u8 32 fun _ => 0
  have hL0 : Below w.heap.size w ((w.alloc (Obj.cells s.cells 105)).alloc (Obj.cells (arrK .u8 32 fun _ => 0) 57)) := by go_grown
  have hR0 : Row ((w.alloc (Obj.cells s.cells 105)).alloc (Obj.cells (arrK .u8 32 fun _ => 0) 57)) w.heap.size 73 := (row_old (by simp)).2 ((row_new rfl).2 hch.1)
  have hr0 : rowAt ((w.alloc (Obj.cells s.cells 105)).alloc (Obj.cells (arrK .u8 32 fun _ => 0) 57)) w.heap.size = s.cells := (rowAt_old (by simp)).trans (rowAt_new rfl)
  have hR1 : Row ((w.alloc (Obj.cells s.cells 105)).alloc (Obj.cells (arrK .u8 32 fun _ => 0) 57)) (w.heap.size + 1) 32 := (row_new (by simp)).2 hcz.1
  have hK0 : ∀ i < 64, ((w.alloc (Obj.cells s.cells 105)).alloc (Obj.cells (arrK .u8 32 fun _ => 0) 57)).cell? ⟨1, i, none⟩ = some (u32v (K i)) := fun i hi => ((bcell hL0).1 _ _ hKl).trans (hK i hi)
  have hsz : w.heap.size + 2 ≤ ((w.alloc (Obj.cells s.cells 105)).alloc (Obj.cells (arrK .u8 32 fun _ => 0) 57)).heap.size := by simp
  have hHK := Lib.hid hK0
  clear hK hK0
  go_enter Tryd.func66, Tryd.ntmps66
  go_wp2
  rw [zeroB32]
  generalize ((w.alloc (Obj.cells s.cells 105)).alloc (Obj.cells (arrK .u8 32 fun _ => 0) 57)) = W0 at *
  have hHr := Lib.hid hr0
  have hc8 : W0.cell? ⟨w.heap.size, 8, none⟩ = some (.int .u64 (s.m : Int)) := by rw [hR0.cell, hr0, stC_m]
  have hcw := stC_cells (s.write K (padL s.m)).h (s.write K (padL s.m)).m (s.write K (padL s.m)).f
  go_region_law (first
      | (go_simp; go_at_call 102; (with_reducible refine (hash_Pad s.m _).mono ?_); rintro e w2 ⟨A, c, rfl, hlc, hcm, hrd, hb2⟩; have hL2 := below_step hb2 (Below.refl _ _).drew (Nat.le_refl W0.heap.size); have hR2 := row_below hR0 hL2 (by omega); have hr2 := (rowAt_below hL2 (by omega)).trans hr0)
      | (go_simp; go_at_call 65; refine (hash_write K A (padL s.m) c s _ hs hrd hlc hcm (fun i hi => ((bcell hL2).1 _ _ (by omega)).trans (hHK.out i hi)) (Nat.lt_of_lt_of_le (show 1 < W0.heap.size by omega) hL2.size)).mono ?_; rintro e w3 ⟨rfl, hb3⟩; have hL3 := below_step hb3 hL2 (Nat.le_refl W0.heap.size); have hR3 := row_below hR0 hL3 (by omega)))
  all_goals
    clear hr0 hr2 hc8 hrd hb2 hlc hcm hb3
    have hW : Row (w3.setRow w.heap.size (s.write K (padL s.m)).cells) w.heap.size 73 := (row_setRow_same rfl hR3).2 hcw.1
    have hWr : rowAt (w3.setRow w.heap.size (s.write K (padL s.m)).cells) w.heap.size = (s.write K (padL s.m)).cells := rowAt_setRow_same hR3
    have hWo : Row (w3.setRow w.heap.size (s.write K (padL s.m)).cells) (w.heap.size + 1) 32 := (row_setRow_far (by omega)).2 (row_below hR1 hL3 (by omega))
    have hWL : Below w.heap.size w (w3.setRow w.heap.size (s.write K (padL s.m)).cells) := below_setRow (hL0.trans (hL3.mono (by omega))) (Nat.le_refl _)
    have hWz : w.heap.size + 2 ≤ (w3.setRow w.heap.size (s.write K (padL s.m)).cells).heap.size := Nat.le_trans hsz (by have := hL3.size; simpa using this)
    generalize hs1 : s.write K (padL s.m) = s1 at *
    have hHs1 := Lib.hid hs1
    clear hs1
    generalize w3.setRow w.heap.size s1.cells = W1 at *
    have hlt : w.heap.size < W1.heap.size := by omega
    have hz1 : Row (W1.alloc (Obj.cells (arrK .u8 32 fun _ => 0) 57)) W1.heap.size 32 := (row_new rfl).2 hcz.1
    have hL2 : Below w.heap.size w (W1.alloc (Obj.cells (arrK .u8 32 fun _ => 0) 57)) := hWL.alloc (by omega) _
    have hz2 : W1.heap.size < (W1.alloc (Obj.cells (arrK .u8 32 fun _ => 0) 57)).heap.size := by simp
    have hWo2 : Row (W1.alloc (Obj.cells (arrK .u8 32 fun _ => 0) 57)) (w.heap.size + 1) 32 := (row_old (by omega)).2 hWo
    have hrz : rowAt (W1.alloc (Obj.cells (arrK .u8 32 fun _ => 0) 57)) W1.heap.size = arrK .u8 32 (outK s1.h 0) := (rowAt_new rfl).trans (arrK_congr fun i _ => by simp [outK])
    go_wp2
    rw [zeroB32]
    generalize (W1.alloc (Obj.cells (arrK .u8 32 fun _ => 0) 57)) = W2 at *
    generalize W1.heap.size = g at *
    go_loopw [4, 5, 13] (fun _ _ i wr => ∃ k : Nat, i = .int .i64 k ∧ k ≤ 8 ∧ Row wr g 32 ∧ rowAt wr g = arrK .u8 32 (outK s1.h k) ∧ Row wr (w.heap.size + 1) 32 ∧ Below w.heap.size w wr) (fun _ _ i _ => 8 - (intOf i).toNat)
    case atStart => exact ⟨0, rfl, by omega, hz1, hrz, hWo2, hL2⟩
    case round =>
      clear hz1 hrz hWo2 hL2 hW hWr hWo hWL
      obtain ⟨k, rfl, hk, hR, hr, hRo, hL⟩ := hrel
      by_cases h8k : k = 8
      · subst h8k
        have e : arrK .u8 32 (outK s1.h 8) = arrK .u8 32 (outF s1.h) := arrK_congr fun i hi => by unfold outK; rw [if_pos (by omega)]
        rw [e] at hr
        have hco := arrK_cells .u8 32 (outF s1.h)
        clear e
        go_wp2
        exact ret_stored (p := 2) (ty := 57) (g := w.heap.size + 1) (n := 32) (c := arrK .u8 32 (outF s1.h)) rfl Tryd.underlying57 rfl (by kernel_rfl) rfl hRo hco.1 rfl ⟨by rw [hHs1.out], below_setRow hL (by omega)⟩
      · have hix : ∀ W : World, (Instr.index 103 (.agg (h8 s1.h)) (.int .i64 (k : Int))).run Tryd.prog W = .ok (u32v (s1.h k)) W := fun W =>
          index_arrK Tryd.underlying103 Tryd.underlying102 (by kernel_rfl) (by omega) .i64 W
        obtain ⟨q, hq⟩ : ∃ q, q = 4 * k := ⟨_, rfl⟩
        have hqi : 4 * (k : Int) = (q : Int) := by omega
        have hq32 : q + 3 < 32 := by omega
        have hcell : ∀ i, i < 32 → wr.cell? ⟨g, i, none⟩ = some (.int .u8 (outK s1.h k i : Int)) := fun i hi => by rw [hR.cell, hr, arrK_at hi]
        have c0 := hcell q (by omega)
        have c1 := hcell (q + 1) (by omega)
        have c2 := hcell (q + 2) (by omega)
        have c3 := hcell (q + 3) (by omega)
        have f0 := hR.frozen q
        have f1 := hR.frozen (q + 1)
        have f2 := hR.frozen (q + 2)
        have f3 := hR.frozen (q + 3)
        have z0 : (0 : Int) ≤ (q : Int) := by omega
        have z1 : (0 : Int) ≤ (q : Int) + 1 := by omega
        have z2 : (0 : Int) ≤ (q : Int) + 2 := by omega
        have z3 : (0 : Int) ≤ (q : Int) + 3 := by omega
        have l0 : (q : Int) < 32 := by omega
        have l1 : (q : Int) + 1 < 32 := by omega
        have l2 : (q : Int) + 2 < 32 := by omega
        have l3 : (q : Int) + 3 < 32 := by omega
        clear hcell
        have hHq := Lib.hid hq
        have hkk : (k : Int) < 8 := by omega
        clear hq
        have hHr2 := Lib.hid hr
        clear hr
        go_wp2
        go_round
        case rel =>
          have hgw : w.heap.size ≤ g := by omega
          have e1 : ((w2n (s1.h k) : Int) / 16777216 % 256) = ((w2n (s1.h k) / 16777216 % 256 : Nat) : Int) := by omega
          have e2 : ((w2n (s1.h k) : Int) / 65536 % 256) = ((w2n (s1.h k) / 65536 % 256 : Nat) : Int) := by omega
          have e3 : ((w2n (s1.h k) : Int) / 256 % 256) = ((w2n (s1.h k) / 256 % 256 : Nat) : Int) := by omega
          have e4 : ((w2n (s1.h k) : Int) % 256) = ((w2n (s1.h k) % 256 : Nat) : Int) := by omega
          refine ⟨k + 1, by go_num, by omega, row_setCell.2 (row_setCell.2 (row_setCell.2 (row_setCell.2 hR))), ?_, row_setCell.2 (row_setCell.2 (row_setCell.2 (row_setCell.2 hRo))), (((hL.setCell (p := ⟨g, _, none⟩) hgw _).setCell (p := ⟨g, _, none⟩) hgw _).setCell (p := ⟨g, _, none⟩) hgw _).setCell (p := ⟨g, _, none⟩) hgw _⟩
          rw [rowAt_setCell_same, rowAt_setCell_same, rowAt_setCell_same, rowAt_setCell_same, hHr2.out, e1, e2, e3, e4, arrK_set, arrK_set, arrK_set, arrK_set, outK_step _ hHq.out]
        case measure => simp [intOf]; omega
theorem stF_ok (h : Nat → W32) : St.ok ⟨h, 0, fun _ => 0⟩ := ⟨by show 0 < _; omega, fun _ _ => by show 0 < _; omega⟩
theorem hash_Sum (K : Nat → W32) (A : Option Addr) (l : List UInt8) (c : Nat) (w : World) (hrd : Rd w w.heap.size A (bytesV l)) (hlc : l.length ≤ c) (hcm : c ≤ maxLen)
    (hK : ∀ i < 64, w.cell? ⟨1, i, none⟩ = some (u32v (K i))) (hKl : 1 < w.heap.size) :
    Calls Tryd.prog 54 #[.slice A l.length c] w fun e w' => e = .returned (.agg (arrK .u8 32 (dig K iv 0 l))) ∧ Below w.heap.size w w' := by
  have hcz := arrK_cells .u8 32 fun _ => 0
  have hL0 : Below w.heap.size w (w.alloc (Obj.cells (arrK .u8 32 fun _ => 0) 57)) := by go_grown
  have hR0 : Row (w.alloc (Obj.cells (arrK .u8 32 fun _ => 0) 57)) w.heap.size 32 := (row_new rfl).2 hcz.1
  have hsz : w.heap.size < (w.alloc (Obj.cells (arrK .u8 32 fun _ => 0) 57)).heap.size := by simp
  go_enter Tryd.func54, Tryd.ntmps54
  go_wp2_with fail
  rw [zeroB32]
  generalize w.alloc (Obj.cells (arrK .u8 32 fun _ => 0) 57) = W0 at *
  refine (hash_new _).mono ?_
  rintro e w1 ⟨rfl, hb1⟩
  have hL1 := below_step hb1 hL0 (Nat.le_refl _)
  have hrd1 : Rd w1 w1.heap.size A (bytesV l) := (hrd.below hL1).more hL1.size
  have hK1 := Lib.hid (show ∀ i < 64, w1.cell? ⟨1, i, none⟩ = some (u32v (K i)) from fun i hi => ((bcell hL1).1 _ _ hKl).trans (hK i hi))
  go_wp2_with fail
  refine (hash_write K A l c ⟨iv, 0, fun _ => 0⟩ _ (stF_ok _) hrd1 hlc hcm hK1.out (Nat.lt_of_lt_of_le hKl hL1.size)).mono ?_
  rintro e w2 ⟨rfl, hb2⟩
  have hL2 := below_step hb2 hL1 (Nat.le_refl _)
  have hK2 := Lib.hid (show ∀ i < 64, w2.cell? ⟨1, i, none⟩ = some (u32v (K i)) from fun i hi => ((bcell hL2).1 _ _ hKl).trans (hK i hi))
  have hd := Lib.hid (write_dig (K := K) (s := ⟨iv, 0, fun _ => 0⟩) (l := l) rfl (by show 0 < _; omega))
  go_wp2_with fail
  refine (hash_StSum K _ _ (St.write_ok l (stF_ok iv)) hK2.out (Nat.lt_of_lt_of_le hKl hL2.size)).mono ?_
  rintro e w3 ⟨rfl, hb3⟩
  have hL3 := below_step hb3 hL2 (Nat.le_refl _)
  have hR3 := row_below hR0 (below_step hb3 (below_step hb2 (below_step hb1 (Below.refl _ _) (Nat.le_refl W0.heap.size)) (Nat.le_refl _)) (Nat.le_refl _)) hR0.lt
  have hco := arrK_cells .u8 32 (outF (St.write K (St.write K ⟨iv, 0, fun _ => 0⟩ l) (padL (St.write K ⟨iv, 0, fun _ => 0⟩ l).m)).h)
  generalize hx : outF (St.write K (St.write K ⟨iv, 0, fun _ => 0⟩ l) (padL (St.write K ⟨iv, 0, fun _ => 0⟩ l).m)).h = x at *
  have hHx := Lib.hid hx
  clear hx
  go_wp2
  refine ret_stored (p := 2) (ty := 57) (g := w.heap.size) (n := 32) (c := arrK .u8 32 x) rfl Tryd.underlying57 rfl (by kernel_rfl) rfl hR3 hco.1 rfl ⟨?_, below_setRow hL3 (Nat.le_refl _)⟩
  rw [← hHx.out, hd.out]
  rfl
end Go.Proofs.YtgdiokklfihfoaaDoor
namespace Go.Proofs.YtgdiokklfihfoaaDoor
open Go.ChangeShapes Go.WideShapes Go.ChangeAt Go.RowKit
set_option maxHeartbeats 2000000
set_option maxRecDepth 100000
attribute [local go_sem ↓] load_o32 store_o32
attribute [local go_sem] isHead_mk isPart_mk offOf_mk blkOf_mk isAgg_mk cellsV_mk row_drew rowAt_drew row_new_cells row_old rowAt_new rowAt_old setRow_new bs_app
def outT (h : Nat → W32) (t : Nat) : Nat → Nat := fun i => if i < t then outF h i else 0
theorem outT_step (h : Nat → W32) (t : Nat) : arrK .u8 32 (upd (outT h t) t (outF h t)) = arrK .u8 32 (outT h (t + 1)) := by
  refine arrK_congr fun i _ => ?_
  unfold upd outT
  by_cases e : i = t
  · subst e; rw [if_pos rfl, if_pos (by omega)]
  · rw [if_neg e]
    by_cases e2 : i < t
    · rw [if_pos e2, if_pos (by omega)]
    · rw [if_neg e2, if_neg (by omega)]
theorem ref_From (K h : Nat → W32) (g c n : Nat) (p : List UInt8) (w : World) (hn64 : n % 64 = 0) (hh : HsAt w g h) (hc8 : 8 ≤ c) (hcm : c ≤ maxLen) (hp : p.length ≤ 1152921504606846976)
    (hK : ∀ i < 64, w.cell? ⟨0, i, none⟩ = some (u32v (K i))) (hKl : 0 < w.heap.size) :
    Calls Tryd.prog 55 #[.slice (some ⟨g, 0, none⟩) 8 c, .int .u64 n, strV p] w fun e w' => e = .returned (.agg (arrK .u8 32 (dig K h n p))) ∧ Below w.heap.size w w' := by
  have hcz := arrK_cells .u8 32 fun _ => 0
  have hmw : IntKind.u64.wrap ((n : Int) + (p.length : Int)) = (m64 (n + p.length) : Int) := by rw [IntKind.wrap_u64]; unfold m64; omega
  have hpl := padL_length (m64 (n + p.length))
  have hpz := padZ_lt (m64 (n + p.length))
  have hw := pad_whole (k := p.length) hn64
  obtain ⟨N, hN⟩ : ∃ N, N = (p.length + (padL (m64 (n + p.length))).length) / 64 := ⟨_, rfl⟩
  have hdig := Lib.hid (show dig K h n p = outF (blks K N h (p ++ padL (m64 (n + p.length)))) by unfold dig digW; rw [hN])
  have hLl : (p ++ padL (m64 (n + p.length))).length = 64 * N := by rw [List.length_append]; omega
  have hsum : p.length + (padL (m64 (n + p.length))).length ≤ 9223372036854775807 := by omega
  have hNb : 64 * N ≤ 1152921504606847976 := by omega
  have hHLl := Lib.hid hLl
  have hHh := Lib.hid hh
  have hHK := Lib.hid hK
  clear hpl hpz hw hLl hh hK hN
  have hL0 : Below w.heap.size w (w.alloc (Obj.cells (arrK .u8 32 fun _ => 0) 57)) := by go_grown
  have hR0 : Row (w.alloc (Obj.cells (arrK .u8 32 fun _ => 0) 57)) w.heap.size 32 := (row_new rfl).2 hcz.1
  go_enter Tryd.func55, Tryd.ntmps55
  go_wp2_with fail
  rw [zeroB32]
  generalize w.alloc (Obj.cells (arrK .u8 32 fun _ => 0) 57) = W0 at *
  refine (ref_PadText (m64 (n + p.length)) _).mono ?_
  rintro e w1 ⟨rfl, hb1⟩
  have hL1 := below_step hb1 hL0 (Nat.le_refl _)
  have hR1 := row_below hR0 hb1 hR0.lt
  clear hb1 hL0 hR0
  go_wp2_with fail
  generalize p ++ padL (m64 (n + p.length)) = L at *
  clear hmw
  have hHs0 := Lib.hid (hHh.out.below hL1 hHh.out.lt)
  have hLL := hHLl.out
  go_loopw [0, 7] (fun v i wr => ∃ (j gj cj : Nat), i = .int .i64 (64 * (j : Int)) ∧ j ≤ N ∧ v = .slice (some ⟨gj, 0, none⟩) 8 cj ∧ 8 ≤ cj ∧ cj ≤ maxLen ∧ Hid (HsAt wr gj (blks K j h L)) ∧ Row wr w.heap.size 32 ∧ Below w.heap.size w wr) (fun _ i _ => 64 * N - (intOf i).toNat)
  case atStart => exact ⟨0, g, c, rfl, by omega, rfl, hc8, hcm, hHs0, hR1, hL1⟩
  case round =>
    clear hHs0 hR1 hL1 hcm hc8
    obtain ⟨j, gj, cj, rfl, hj, rfl, hc8, hcm, hHs, hR, hL⟩ := hrel
    by_cases hN : j = N
    · subst hN
      have hd : decide (64 * (j : Int) < (L.length : Int)) = false := by simp; omega
      have hco := arrK_cells .u8 32 fun _ => 0
      have hRz : Row (wr.alloc (Obj.cells (arrK .u8 32 fun _ => 0) 57)) wr.heap.size 32 := (row_new rfl).2 hcz.1
      have hRr : rowAt (wr.alloc (Obj.cells (arrK .u8 32 fun _ => 0) 57)) wr.heap.size = arrK .u8 32 (outT (blks K j h L) 0) := (rowAt_new rfl).trans (arrK_congr fun i _ => by simp [outT])
      have hRo : Row (wr.alloc (Obj.cells (arrK .u8 32 fun _ => 0) 57)) w.heap.size 32 := (row_old hR.lt).2 hR
      have hL2 : Below w.heap.size w (wr.alloc (Obj.cells (arrK .u8 32 fun _ => 0) 57)) := hL.alloc hL.size _
      have hH2 := Lib.hid (hHs.out.below (below_alloc wr (Obj.cells (arrK .u8 32 fun _ => 0) 57)) hHs.out.lt)
      have hgj := hHs.out.lt
      have hzs : wr.heap.size < (wr.alloc (Obj.cells (arrK .u8 32 fun _ => 0) 57)).heap.size := by simp
      have hRlt := hR.lt
      go_wp2
      rw [zeroB32]
      clear hHs
      generalize (wr.alloc (Obj.cells (arrK .u8 32 fun _ => 0) 57)) = W2 at *
      generalize wr.heap.size = o at *
      go_loopw [9, 31] (fun _ i wr => ∃ k : Nat, i = .int .i64 k ∧ k ≤ 32 ∧ Row wr o 32 ∧ rowAt wr o = arrK .u8 32 (outT (blks K j h L) k) ∧ Row wr w.heap.size 32 ∧ Hid (HsAt wr gj (blks K j h L)) ∧ Below w.heap.size w wr) (fun _ i _ => 32 - (intOf i).toNat)
      case atStart => exact ⟨0, rfl, by omega, hRz, hRr, hRo, hH2, hL2⟩
      case round =>
        clear hRz hRr hRo hH2 hL2 hR hL
        obtain ⟨k, rfl, hk, hRz, hRr, hRo, hHs, hL⟩ := hrel
        by_cases h32 : k = 32
        · subst h32
          have e : arrK .u8 32 (outT (blks K j h L) 32) = arrK .u8 32 (outF (blks K j h L)) := arrK_congr fun i hi => by unfold outT; rw [if_pos hi]
          have hRr2 := hRr.trans e
          have hcs := arrK_cells .u8 32 (outF (blks K j h L))
          clear e hRr
          go_wp2
          exact ret_stored (p := 6) (ty := 57) (g := w.heap.size) (n := 32) (c := arrK .u8 32 (outF (blks K j h L))) rfl Tryd.underlying57 rfl (by kernel_rfl) rfl hRo hcs.1 rfl ⟨by rw [hdig.out], below_setRow hL (Nat.le_refl _)⟩
        · obtain ⟨q, hq⟩ : ∃ q, q = k / 4 := ⟨_, rfl⟩
          obtain ⟨r, hr⟩ : ∃ r, r = 24 - 8 * (k % 4) := ⟨_, rfl⟩
          have hqi : (k : Int) / 4 = q := by omega
          have hri : 24 - 8 * ((k : Int) % 4) = (r : Int) := by omega
          have hrn : r < 32 := by omega
          have hst := Lib.hid (outT_step (blks K j h L) k)
          have hof : outF (blks K j h L) k = w2n (blks K j h L q) / 2 ^ r % 256 := by unfold outF; rw [← hq, ← hr]
          rw [hof] at hst
          have cq := hHs.out.at_ q (by omega)
          have ck := hRz.cell k
          rw [hRr, arrK_at (by omega)] at ck
          have fk := hRz.frozen k
          have hHr := Lib.hid hRr
          have hq8 : q < 8 := by omega
          have hzr : (0 : Int) ≤ (r : Int) := by omega
          have hne : gj ≠ o := by omega
          have hHq := Lib.hid hq
          have hHrr := Lib.hid hr
          clear hq hr hRr hof
          generalize blks K j h L q = x at *
          go_wp2
          go_round
          case rel =>
            refine ⟨k + 1, by go_num, by omega, row_setCell.2 hRz, ?_, row_setCell.2 hRo, Lib.hid ⟨by simpa using hHs.out.lt, fun i hi => ?_⟩, hL.setCell (p := ⟨o, _, none⟩) (show w.heap.size ≤ o by omega) _⟩
            · rw [rowAt_setCell_same, hHr.out, show ((w2n x : Int) / 2 ^ r % 256) = ((w2n x / 2 ^ r % 256 : Nat) : Int) by simp, arrK_set, hst.out]
            · rw [← hHs.out.at_ i hi]
              exact World.cell?_of_block (w := wr) (Below.heap_setCell wr _ _ gj hne)
          case measure => simp [intOf]; omega
    · have hjN : j < N := by omega
      have hd : decide (64 * (j : Int) < (L.length : Int)) = true := by simp; omega
      have hsl : ∀ W : World, (Instr.slice 9 (strV L) (some (.int .i64 (64 * (j : Int)))) (some (.int .i64 (64 * (j : Int) + 64))) none).run Tryd.prog W = .ok (strV ((L.drop (64 * j)).take 64)) W :=
        str_sl Tryd.underlying9 L _ _ _ (by omega) (by omega) (by omega) (by congr 1; omega)
      have hml : ((L.drop (64 * j)).take 64).length = 64 := by simp; omega
      have hKr := Lib.hid (show ∀ i < 64, wr.cell? ⟨0, i, none⟩ = some (u32v (K i)) from fun i hi => ((bcell hL).1 _ _ hKl).trans (hHK.out i hi))
      have hKlr := Nat.lt_of_lt_of_le hKl hL.size
      have hsn := Lib.hid (blks_snoc K j h L)
      have hcon := Lib.hid (ref_block K (blks K j h L) gj cj ((L.drop (64 * j)).take 64) wr hml hHs.out hKr.out hKlr)
      clear hml hKr hKlr
      generalize (L.drop (64 * j)).take 64 = m at *
      go_wp2_with (go_at_call 95; refine hcon.out.mono ?_; rintro e w' ⟨g2, c2, rfl, hc82, hcm2, hH2, hb2⟩; have hHH := Lib.hid hH2; clear hH2)
      go_round
      case rel => exact ⟨j + 1, g2, c2, by go_num, by omega, rfl, hc82, hcm2, Lib.hid (hsn.out ▸ hHH.out), row_below hR hb2 hR.lt, below_step hb2 hL (Nat.le_refl _)⟩
      case measure => simp [intOf]; omega
theorem ref_Sum (K : Nat → W32) (p : List UInt8) (w : World) (hp : p.length ≤ 1152921504606846976)
    (hK : ∀ i < 64, w.cell? ⟨0, i, none⟩ = some (u32v (K i))) (hKl : 0 < w.heap.size) :
    Calls Tryd.prog 22 #[strV p] w fun e w' => e = .returned (.agg (arrK .u8 32 (dig K iv 0 p))) ∧ Below w.heap.size w w' := by
  have hcz := arrK_cells .u8 32 fun _ => 0
  have hL0 : Below w.heap.size w (w.alloc (Obj.cells (arrK .u8 32 fun _ => 0) 57)) := by go_grown
  have hR0 : Row (w.alloc (Obj.cells (arrK .u8 32 fun _ => 0) 57)) w.heap.size 32 := (row_new rfl).2 hcz.1
  go_enter Tryd.func22, Tryd.ntmps22
  go_wp2_with fail
  rw [zeroB32]
  generalize w.alloc (Obj.cells (arrK .u8 32 fun _ => 0) 57) = W0 at *
  refine (ref_Begin _).mono ?_
  rintro e w1 ⟨g, c, rfl, hc8, hcm, hH, hb1⟩
  have hL1 := below_step hb1 hL0 (Nat.le_refl _)
  have hR1 := row_below hR0 hb1 hR0.lt
  have hHH := Lib.hid hH
  have hK1 := Lib.hid (show ∀ i < 64, w1.cell? ⟨0, i, none⟩ = some (u32v (K i)) from fun i hi => ((bcell hL1).1 _ _ hKl).trans (hK i hi))
  clear hH hb1 hL0 hR0 hK
  go_wp2_with fail
  refine (ref_From K iv g c 0 p _ (by omega) hHH.out hc8 hcm hp hK1.out (Nat.lt_of_lt_of_le hKl hL1.size)).mono ?_
  rintro e w2 ⟨rfl, hb2⟩
  have hL2 := below_step hb2 hL1 (Nat.le_refl _)
  have hR2 := row_below hR1 hb2 hR1.lt
  have hco := arrK_cells .u8 32 (dig K iv 0 p)
  clear hb2 hL1 hR1
  go_wp2
  exact ret_stored (p := 2) (ty := 57) (g := w.heap.size) (n := 32) (c := arrK .u8 32 (dig K iv 0 p)) rfl Tryd.underlying57 rfl (by kernel_rfl) rfl hR2 hco.1 rfl ⟨rfl, below_setRow hL2 (Nat.le_refl _)⟩
end Go.Proofs.YtgdiokklfihfoaaDoor
namespace Go.Proofs.YtgdiokklfihfoaaDoor
open Go.ChangeShapes Go.WideShapes Go.ChangeAt Go.RowKit
set_option maxHeartbeats 2000000
set_option maxRecDepth 100000
attribute [local irreducible] arrV
attribute [local go_sem ↓] load_state store_state execl_state execs_state load_words
attribute [local go_sem] isHead_mk isPart_mk offOf_mk blkOf_mk isAgg_mk cellsV_mk row_drew rowAt_drew row_new_cells row_old rowAt_new rowAt_old setRow_new zero_state zero_cellsS bs_app

/-- The state behind l. -/
def st0 : St := ⟨iv, 0, fun _ => 0⟩
def stL (K : Nat → W32) (l : List UInt8) : St := st0.write K l
theorem stL_ok (K : Nat → W32) (l : List UInt8) : (stL K l).ok := St.write_ok l (stF_ok iv)
/-- Both tables hold K, from a world on. -/
structure Tabs (K : Nat → W32) (w : World) : Prop where
  c1 : ∀ i < 64, w.cell? ⟨1, i, none⟩ = some (u32v (K i))
  l1 : 1 < w.heap.size
  c2 : ∀ i < 64, w.cell? ⟨0, i, none⟩ = some (u32v (K i))
  l2 : 0 < w.heap.size
theorem Tabs.below {K : Nat → W32} {w w' : World} {B : Nat} (h : Tabs K w) (hb : Below B w w') (hB : w.heap.size ≤ B) : Tabs K w' :=
  ⟨fun i hi => ((bcell hb).1 _ _ (Nat.lt_of_lt_of_le h.l1 hB)).trans (h.c1 i hi), Nat.lt_of_lt_of_le h.l1 hb.size, fun i hi => ((bcell hb).1 _ _ (Nat.lt_of_lt_of_le h.l2 hB)).trans (h.c2 i hi), Nat.lt_of_lt_of_le h.l2 hb.size⟩
theorem Tabs.step {K : Nat → W32} {w w' : World} (hb : Below w.heap.size w w') (h : Tabs K w) : Tabs K w' := h.below hb (Nat.le_refl _)
/-- A slice of bytes. -/
structure Bs (w : World) (A : Option Addr) (l : List UInt8) (c : Nat) : Prop where
  rd : Rd w w.heap.size A (bytesV l)
  le : l.length ≤ c
  mx : c ≤ 9223372036854775807
theorem Bs.step {w w' : World} {A : Option Addr} {l : List UInt8} {c : Nat} (hb : Below w.heap.size w w') (h : Bs w A l c) : Bs w' A l c := ⟨(h.rd.below hb).more hb.size, h.le, h.mx⟩
theorem Bs.conv {w : World} {A : Option Addr} {l : List UInt8} {c : Nat} (h : Bs w A l c) : (convert 22 9 (.slice A l.length c)).run Tryd.prog w = .ok (strV l) w :=
  conv_rd Tryd.underlying22 Tryd.underlying5 Tryd.underlying9 h.rd
def SRel.bs (l : List UInt8) : SRel := ⟨fun v w => ∃ A c, v = .slice A l.length c ∧ Bs w A l c, fun _ _ _ hb ⟨A, c, h1, h2⟩ => ⟨A, c, h1, h2.step hb⟩⟩
section
variable {K : Nat → W32} {w : World} {A : Option Addr} {l : List UInt8} {c : Nat}
theorem sumC (hT : Tabs K w) (h : Bs w A l c) : Calls Tryd.prog 54 #[.slice A l.length c] w fun e w' => e = .returned (.agg (arrK .u8 32 (dig K iv 0 l))) ∧ Below w.heap.size w w' :=
  hash_Sum K A l c w h.rd h.le h.mx hT.c1 hT.l1
theorem rsumC (hT : Tabs K w) (hp : l.length ≤ 1152921504606846976) : Calls Tryd.prog 22 #[strV l] w fun e w' => e = .returned (.agg (arrK .u8 32 (dig K iv 0 l))) ∧ Below w.heap.size w w' :=
  ref_Sum K l w hp hT.c2 hT.l2
theorem writeC (hT : Tabs K w) (m : List UInt8) (h : Bs w A l c) : Calls Tryd.prog 65 #[.agg (stL K m).cells, .slice A l.length c] w fun e w' => e = .returned (.agg (stL K (m ++ l)).cells) ∧ Below w.heap.size w w' :=
  (hash_write K A l c (stL K m) w (stL_ok K m) h.rd h.le h.mx hT.c1 hT.l1).mono fun _ _ ⟨h1, h2⟩ => ⟨by rw [h1]; unfold stL; rw [write_app], h2⟩
theorem stSumC (hT : Tabs K w) (m : List UInt8) : Calls Tryd.prog 66 #[.agg (stL K m).cells] w fun e w' => e = .returned (.agg (arrK .u8 32 (dig K iv 0 m))) ∧ Below w.heap.size w w' :=
  (hash_StSum K (stL K m) w (stL_ok K m) hT.c1 hT.l1).mono fun _ _ ⟨h1, h2⟩ => ⟨h1.trans (congrArg (fun h => Ending.returned (Value.agg (arrK .u8 32 (outF h)))) (write_dig (K := K) (s := st0) (l := m) rfl (by show 0 < _; omega))), h2⟩
theorem newC0 (w : World) : Calls Tryd.prog 64 #[] w fun e w' => e = .returned (.agg (stL K []).cells) ∧ Below w.heap.size w w' := hash_new w
end
end Go.Proofs.YtgdiokklfihfoaaDoor
namespace Go.Proofs.YtgdiokklfihfoaaDoor
open Go.ChangeShapes Go.WideShapes Go.ChangeAt Go.RowKit
set_option maxHeartbeats 2000000
set_option maxRecDepth 100000
attribute [local go_sem ↓] load_num store_num execl_num execs_num load_wide store_wide execl_wide execs_wide
attribute [local go_sem] isHead_mk blkOf_mk isAgg_mk cellsV_mk row_drew rowAt_drew row_new_cells row_old rowAt_new rowAt_old setRow_new zeroNum zeroWide
/-- A text as a number, the least byte first, modulo L. -/
def ofL (l : List UInt8) : Nat := bval (bytesF l) l.length % fL
theorem scalar_Of (A : Option Addr) (l : List UInt8) (n c : Nat) (w : World) (hl : l.length = n) (h : Bs w A l c) : Calls Tryd.prog 100 #[.slice A n c] w fun e w' => e = .returned (bif decide (n ≤ 64) then .tuple #[numV (ofL l), .int .i64 0] else .tuple #[numV 0, .int .i64 2]) ∧ Below w.heap.size w w' := by
  have hnc : n ≤ c := hl ▸ h.le
  have hcm := h.mx
  have hni : (n : Int) ≤ 9223372036854775807 := by omega
  have hF := Lib.hid (fun i (hi : i < n) => bytesF_lt l i)
  have hRd := Lib.hid (fun i (hi : i < n) V (hb : Below w.heap.size w V) => show ∃ ad, A = some ad ∧ V.cell? (ad.add i) = some (.int .u8 (bytesF l i : Nat)) by
    obtain ⟨ad, e1, e2, e3⟩ := (h.rd.below hb).at_ (k := i) (by rw [bytesV_length]; omega)
    refine ⟨ad, e1, e3.trans ?_⟩
    rw [bytesF_at (by omega)]
    simp [bytesV])
  have kR := Lib.hid (fun V (hn : n ≤ 64) => by
    obtain ⟨kk, hkk⟩ : ∃ k, k = 64 * 8 := ⟨_, rfl⟩
    have hb := bval_lt (f := bytesF l) (n := n) (fun i _ => bytesF_lt l i)
    rw [show (256 : Nat) = 2 ^ 8 from rfl, ← Nat.pow_mul] at hb
    exact scalar_ReduceK (bval (bytesF l) n) kk V (low_wide hb (by omega)) hkk)
  have hr : ofL l = bval (bytesF l) n % fL := by unfold ofL; rw [hl]
  rw [← hr] at kR
  obtain ⟨r, hr2⟩ : ∃ r, ofL l = r := ⟨_, rfl⟩
  rw [hr2] at kR ⊢
  have hst := Lib.hid (fun s (hs : s < n) p => of_step (f := bytesF l) (s := s) (fun i hi => bytesF_lt l i) p)
  clear hr hr2 h hl
  obtain ⟨f, hf⟩ : ∃ f, bytesF l = f := ⟨_, rfl⟩
  rw [hf] at hF hRd kR hst
  clear hf
  unfold numV at kR ⊢
  unfold wideV at kR
  have hc0 := arrK_cells .u64 4 (wd 0)
  have hcr := arrK_cells .u64 4 (wd r)
  have hcw := arrK_cells .u64 8 (wd 0)
  have hL0 := below_alloc w (Obj.cells (arrK .u64 4 (wd 0)) 41)
  have hR0 : Row (w.alloc (Obj.cells (arrK .u64 4 (wd 0)) 41)) w.heap.size 4 := (row_new rfl).2 hc0.1
  have hR := Lib.hid hR0
  have hL := Lib.hid hL0
  clear hR0 hL0
  by_cases h64 : 64 < n
  · have d1 : decide ((64 : Int) < (n : Int)) = true := by simp; omega
    have d2 : decide (n ≤ 64) = false := by simp; omega
    rw [d2]
    clear h64 hst hRd hF kR d2
    go_enter Tryd.func100, Tryd.ntmps100
    go_upto_region 1 with (fail)
    generalize w.alloc _ = W0 at *
    have hrR := hR.out
    go_wp2_with (first
      | refine wpList_opS (by go_simp) (fun K hK => wp_bldS rfl (build_nz _) (hK _ _ ?_)))
    exact ret_stored2 (p := 2) (q := 3) (ty := 41) (g := w.heap.size) (n := 4) (c := arrK .u64 4 (wd 0)) rfl Tryd.underlying41 rfl (by kernel_rfl) rfl hrR hc0.1 rfl ⟨rfl, below_setRow hL.out (by omega)⟩
  · have d1 : decide ((64 : Int) < (n : Int)) = false := by simp; omega
    have d2 : decide (n ≤ 64) = true := by simp; omega
    rw [d2]
    have kR2 := Lib.hid (fun V => kR.out V (by omega))
    clear d2 kR
    go_enter Tryd.func100, Tryd.ntmps100
    go_upto_region 1 with (fail)
    generalize w.alloc _ = W0 at *
    have hltR := hR.out.lt
    have hX := Lib.hid ((At.new (w := W0) (k := .u64) (m := 8) (f := wd 0) 174 rfl).congr (f' := wd (bval f 0)) fun i _ => rfl)
    have hR2 := Lib.hid ((row_old (o := Obj.cells (arrK .u64 8 (wd 0)) 174) hR.out.lt).2 hR.out)
    have hL2 := Lib.hid (Below.trans hL.out ((below_alloc W0 (Obj.cells (arrK .u64 8 (wd 0)) 174)).mono hL.out.size))
    clear hR hL
    go_upto_region 4 with (fail)
    obtain ⟨g4, hg⟩ : ∃ g, W0.heap.size = g := ⟨_, rfl⟩
    rw [hg] at hX hltR ⊢
    clear hg
    generalize W0.alloc _ = W1 at *
    have hgl := Lib.hid hltR
    clear hltR
    go_upto_region 5 with (fail)
    go_loopw [13, 5, 6] (fun vi vj vx wr => ∃ s : Nat, vi = .int .i64 (s : Nat) ∧ s ≤ n ∧ At wr g4 .u64 8 (wd (bval f s)) ∧ Row wr w.heap.size 4 ∧ Below w.heap.size w wr) (fun vi _ _ _ => n - (intOf vi).toNat)
    case atStart => exact ⟨0, rfl, Nat.zero_le _, hX.out, hR2.out, hL2.out⟩
    case round =>
      clear hX hR2 hL2
      obtain ⟨s, rfl, hs, hX0, hR0, hL0⟩ := hrel
      have hX := Lib.hid hX0
      have hR := Lib.hid hR0
      have hL := Lib.hid hL0
      clear hX0 hR0 hL0
      by_cases hsn : s = n
      · subst hsn
        have hr1 := hX.out.row
        have hr2 := hX.out.eq
        have e1 : decide ((s : Int) < (s : Int)) = false := by simp
        clear hst hRd hF
        go_wp2_with fail
        refine (kR2.out _).mono ?_
        rintro e w5 ⟨rfl, hb⟩
        have hR5 := row_below hR.out hb hR.out.lt
        have hL5 := below_step hb hL.out (Nat.le_refl _)
        clear hr1 hr2 hb hX hR hL kR2
        dsimp only
        go_wp2_with fail
        exact ret_stored2 (p := 2) (q := 3) (ty := 41) (g := w.heap.size) (n := 4) (c := arrK .u64 4 (wd r)) rfl Tryd.underlying41 rfl (by kernel_rfl) rfl hR5 hcr.1 rfl ⟨rfl, below_setRow hL5 (by omega)⟩
      · have hsl : s < n := by omega
        obtain ⟨ad, rfl, c1⟩ := hRd.out s hsl wr hL.out
        obtain ⟨q, hq⟩ : ∃ q, q = s / 8 := ⟨_, rfl⟩
        obtain ⟨z, hz⟩ : ∃ z, z = s % 8 := ⟨_, rfl⟩
        have hqi : (s : Int) / 8 = q := by omega
        have hzi : (s : Int) % 8 = z := by omega
        have hst1 := Lib.hid (fun p => (hst.out s hsl p).1)
        obtain ⟨-, hst2, hst3⟩ := hst.out s hsl 0
        rw [← hq, ← hz] at hst1 hst3
        rw [← hz] at hst2
        have hq8 : q < 8 := by omega
        have hz8 : z < 8 := by omega
        have c2 := hX.out.cell hq8
        have hfz := hX.out.row.frozen q
        have hfs := hF.out s hsl
        have hX8 := wd_lt (bval f s) q
        have e1 : decide ((s : Int) < (n : Int)) = true := by simp; omega
        have e2 : (0 : Int) ≤ (s : Int) := by omega
        have e3 : (s : Int) < (n : Int) := by omega
        have e4 : (0 : Int) ≤ (q : Int) := by omega
        have e5 : (q : Int) < 8 := by omega
        have t1 : Int.tdiv (s : Int) 8 = (q : Int) := by rw [Int.tdiv_eq_ediv_of_nonneg e2]; exact hqi
        have t2 : Int.tmod (s : Int) 8 = (z : Int) := by rw [Int.tmod_eq_emod_of_nonneg e2]; exact hzi
        clear hq hz hst hRd hF
        have hHX := Lib.hid (show wd (bval f s) q = wd (bval f s) q from rfl)
        generalize hx : wd (bval f s) q = X at *
        have hHx := Lib.hid hx
        clear hx hHX
        generalize f s = x at *
        have hv : bits .or .u64 (X : Int) (IntKind.u64.wrap ((x : Int) * 2 ^ (z * 8))) = ((X ||| x * 2 ^ (z * 8) : Nat) : Int) := by
          rw [show (x : Int) * 2 ^ (z * 8) = ((x * 2 ^ (z * 8) : Nat) : Int) by simp, show IntKind.u64.wrap ((x * 2 ^ (z * 8) : Nat) : Int) = ((x * 2 ^ (z * 8) : Nat) : Int) by rw [IntKind.wrap_u64]; omega, u64_or_nat _ _ hX8 hst2]
        have hHv := Lib.hid hv
        clear hv
        go_wp2_with fail
        go_round
        case rel =>
          rw [hHv.out]
          exact ⟨s + 1, by go_num, by omega, ((hX.out.set q (X ||| x * 2 ^ (z * 8))).congr fun p _ => hst1.out p), row_setCell.2 hR.out, hL.out.setCell (by have := hgl.out; simp; omega) _⟩
        case measure => simp [intOf]; omega
end Go.Proofs.YtgdiokklfihfoaaDoor
namespace Go.Proofs.YtgdiokklfihfoaaDoor
open Go.ChangeShapes Go.WideShapes Go.ChangeAt Go.RowKit
set_option maxHeartbeats 2000000
set_option maxRecDepth 100000
attribute [local irreducible] arrV
attribute [local go_sem ↓] load_state store_state
attribute [local go_sem] isHead_mk isPart_mk offOf_mk blkOf_mk isAgg_mk cellsV_mk row_drew rowAt_drew row_new_cells row_old rowAt_new rowAt_old setRow_new zero_state zero_cellsS

def rsH (f : Nat → Nat) (k : Nat) : Nat → W32 := fun i => if i < k then be32 f (4 * i) else iv i
theorem stC_set_h (h h' : Nat → W32) (m : Nat) (f : Nat → Nat) {j : Nat} (hj : j < 8) (he : ∀ i < 8, (if i = j then h' j else h i) = h' i) : (stC h m f).setIfInBounds j (u32v (h' j)) = stC h' m f := by
  unfold stC
  rw [arrV_set]
  refine arrV_congr fun i _ => ?_
  unfold stV
  by_cases e : i < 8
  · rw [if_pos e, if_pos e]
    have := he i e
    by_cases e2 : i = j
    · subst e2; rw [if_pos rfl]
    · rw [if_neg e2] at this ⊢
      rw [this]
  · rw [if_neg (show ¬i = j by omega), if_neg e, if_neg e]
theorem stC_congr {h h' : Nat → W32} {m : Nat} {f : Nat → Nat} (he : ∀ i < 8, h i = h' i) : stC h m f = stC h' m f := by
  unfold stC
  refine arrV_congr fun i _ => ?_
  unfold stV
  by_cases e : i < 8
  · rw [if_pos e, if_pos e, he i e]
  · rw [if_neg e, if_neg e]
theorem stC_at_h {h : Nat → W32} {m : Nat} {f : Nat → Nat} {j : Nat} (hj : j < 8) : (stC h m f)[j]? = some (u32v (h j)) := by
  unfold stC
  rw [arrV_at (by omega)]
  unfold stV
  rw [if_pos hj]
theorem rd_row {w : World} {g n : Nat} {c : Array Value} (hR : Row w g n) (hr : rowAt w g = c) : Rd w w.heap.size (some ⟨g, 0, none⟩) c.toList := by
  obtain ⟨cs, t, hh, hl⟩ := id hR
  have e : cs = c := by rw [← hr]; simp [rowAt, hh]
  have := Rd.of_blk (B := w.heap.size) hh hR.lt
  rw [e] at this
  exact this
end Go.Proofs.YtgdiokklfihfoaaDoor
namespace Go.Proofs.YtgdiokklfihfoaaDoor
open Go.ChangeShapes Go.WideShapes Go.ChangeAt Go.RowKit

/-- The first n bytes. -/
def bL (f : Nat → Nat) (n : Nat) : List UInt8 := (List.range n).map fun i => UInt8.ofNat (f i)
theorem bL_len (f : Nat → Nat) (n : Nat) : (bL f n).length = n := by simp [bL]
theorem bytesF_bL {f : Nat → Nat} {n i : Nat} (hi : i < n) (hf : f i < 256) : bytesF (bL f n) i = f i := by
  rw [bytesF_at (by rw [bL_len]; exact hi)]
  simp [bL, UInt8.toNat_ofNat']
  omega
/-- A digest's cells. -/
def dgA (l : List UInt8) : Array Value := arrK .u8 32 (bytesF l)
theorem dgA_cells (l : List UInt8) : Cells (dgA l) 32 := arrK_cells .u8 32 _
theorem dgA_of {f : Nat → Nat} (hf : ∀ i < 32, f i < 256) : arrK .u8 32 f = dgA (bL f 32) := arrK_congr fun i hi => (bytesF_bL hi (hf i hi)).symm
theorem dgA_bytes {l : List UInt8} (h : l.length = 32) : (dgA l).toList = bytesV l := by
  apply List.ext_getElem?
  intro i
  rw [Array.getElem?_toList]
  by_cases hi : i < 32
  · unfold dgA
    rw [arrK_at hi, bytesF_at (by omega)]
    simp [bytesV, List.getElem?_eq_getElem (show i < l.length by omega)]
  · rw [Array.getElem?_eq_none (by rw [(dgA_cells l).1]; omega), List.getElem?_eq_none (by rw [bytesV_length]; omega)]
theorem dgA_inj {a b : List UInt8} (ha : a.length = 32) (hb : b.length = 32) (h : ∀ i < 32, bytesF a i = bytesF b i) : a = b := by
  apply List.ext_getElem (by omega)
  intro i h1 h2
  have := h i (by omega)
  rw [bytesF_at h1, bytesF_at h2] at this
  exact UInt8.toNat_inj.1 this
theorem eqlD {a b : List UInt8} (ha : a.length = 32) (hb : b.length = 32) (W : World) : (binOp .eql 57 (.agg (dgA a)) (.agg (dgA b))).run Tryd.prog W = .ok (.bool (decide (a = b))) W := by
  unfold dgA
  rw [run_eql_arrK Tryd.underlying57 Tryd.underlying5 (by kernel_rfl)]
  congr 2
  by_cases h : a = b
  · subst h; simp
  · rw [decide_eq_false h]
    exact decide_eq_false fun h' => h (dgA_inj ha hb h')
/-- The digest of a text. -/
def sha (K : Nat → W32) (l : List UInt8) : List UInt8 := bL (dig K iv 0 l) 32
theorem sha_len (K : Nat → W32) (l : List UInt8) : (sha K l).length = 32 := bL_len _ _
theorem outF_lt (h : Nat → W32) (i : Nat) : outF h i < 256 := Nat.mod_lt _ (by omega)
theorem sha_dig (K : Nat → W32) (l : List UInt8) : arrK .u8 32 (dig K iv 0 l) = dgA (sha K l) := dgA_of fun i _ => outF_lt _ i
theorem rd_of_row {w : World} {g : Nat} {l : List UInt8} (hl : l.length = 32) (hR : Row w g 32) (hr : rowAt w g = dgA l) : Bs w (some ⟨g, 0, none⟩) l 32 :=
  ⟨dgA_bytes hl ▸ rd_row hR hr, by omega, by omega⟩
section
variable {K : Nat → W32} {w : World} {A : Option Addr} {l : List UInt8} {c : Nat}
theorem sumD (hT : Tabs K w) (h : Bs w A l c) : Calls Tryd.prog 54 #[.slice A l.length c] w fun e w' => e = .returned (.agg (dgA (sha K l))) ∧ Below w.heap.size w w' := by rw [← sha_dig]; exact sumC hT h
theorem rsumD (hT : Tabs K w) (hp : l.length ≤ 1152921504606846976) : Calls Tryd.prog 22 #[strV l] w fun e w' => e = .returned (.agg (dgA (sha K l))) ∧ Below w.heap.size w w' := by rw [← sha_dig]; exact rsumC hT hp
theorem stSumD (hT : Tabs K w) (m : List UInt8) : Calls Tryd.prog 66 #[.agg (stL K m).cells] w fun e w' => e = .returned (.agg (dgA (sha K m))) ∧ Below w.heap.size w w' := by rw [← sha_dig]; exact stSumC hT m
end
theorem zeroD : #[Value.int IntKind.u8 0, Value.int IntKind.u8 0, Value.int IntKind.u8 0, Value.int IntKind.u8 0, Value.int IntKind.u8 0, Value.int IntKind.u8 0, Value.int IntKind.u8 0, Value.int IntKind.u8 0, Value.int IntKind.u8 0, Value.int IntKind.u8 0, Value.int IntKind.u8 0, Value.int IntKind.u8 0, Value.int IntKind.u8 0, Value.int IntKind.u8 0, Value.int IntKind.u8 0, Value.int IntKind.u8 0, Value.int IntKind.u8 0, Value.int IntKind.u8 0, Value.int IntKind.u8 0, Value.int IntKind.u8 0, Value.int IntKind.u8 0, Value.int IntKind.u8 0, Value.int IntKind.u8 0, Value.int IntKind.u8 0, Value.int IntKind.u8 0, Value.int IntKind.u8 0, Value.int IntKind.u8 0, Value.int IntKind.u8 0, Value.int IntKind.u8 0, Value.int IntKind.u8 0, Value.int IntKind.u8 0, Value.int IntKind.u8 0] = dgA [] := zeroB32.trans (arrK_congr fun _ _ => rfl)
end Go.Proofs.YtgdiokklfihfoaaDoor
namespace Go.Proofs.YtgdiokklfihfoaaDoor
open Go.ChangeShapes Go.WideShapes Go.ChangeAt Go.RowKit
set_option maxHeartbeats 2000000
set_option maxRecDepth 100000
def SRel.bV (m : Nat) : SRel := ⟨fun v w => IsV w v m, fun _ _ _ hb h => h.step hb⟩
def SRel.bN (m : Nat) : SRel := ⟨fun v w => IsN w v m, fun _ _ _ hb h => h.step hb⟩
/-- Bytes from i on, the least first. -/
def hvB (f : Nat → Nat) (i : Nat) : Nat → Nat
  | 0 => 0
  | k + 1 => f i + 256 * hvB f (i + 1) k
theorem hvB_bval (f : Nat → Nat) : ∀ k i, bval f i + 256 ^ i * hvB f i k = bval f (i + k)
  | 0, i => by simp [hvB]
  | k + 1, i => by
    have ih := hvB_bval f k (i + 1)
    rw [show i + (k + 1) = i + 1 + k by omega, ← ih]
    show bval f i + 256 ^ i * (f i + 256 * hvB f (i + 1) k) = bval f i + 256 ^ i * f i + 256 ^ (i + 1) * hvB f (i + 1) k
    rw [Nat.pow_succ]
    generalize hvB f (i + 1) k = x
    grind
theorem hvB_zero (f : Nat → Nat) (n : Nat) : hvB f 0 n = bval f n := by
  have h := hvB_bval f n 0
  rw [Nat.zero_add, Nat.pow_zero, Nat.one_mul] at h
  rw [← h]
  simp [bval]
theorem hvB_lt {f : Nat → Nat} : ∀ k i, (∀ j < i + k, f j < 256) → hvB f i k < 2 ^ (8 * k)
  | 0, i, _ => by simp [hvB]
  | k + 1, i, h => by
    have h1 := hvB_lt k (i + 1) (fun j hj => h j (by omega))
    have h2 := h i (by omega)
    show f i + 256 * hvB f (i + 1) k < 2 ^ (8 * (k + 1))
    rw [show 8 * (k + 1) = 8 * k + 8 by omega, Nat.pow_add]
    omega
theorem ref_number (f : Nat → Nat) (g n c : Nat) (w : World) (hg : g < w.heap.size) (hc : ∀ i < n, w.cell? ⟨g, i, none⟩ = some (.int .u8 (f i : Nat))) (hf : ∀ i < n, f i < 256) (hn : n ≤ 1000) (hnc : n ≤ c) (hcm : c ≤ 9223372036854775807) :
    Calls Tryd.prog 106 #[.slice (some ⟨g, 0, none⟩) n c] w (RetN (bval f n) w) := by
  rw [← hvB_zero]
  have hcc := Lib.hid (fun i (hi : i < n) W (hb : Below w.heap.size w W) => (((bcell hb).1 g i hg).trans (hc i hi)))
  clear hc
  have hHc := Lib.hid (And.intro hnc hcm)
  have w0 : IntKind.i64.wrap ((n : Int) - 1) = (n : Int) - 1 := by rw [IntKind.wrap_i64]; omega
  go_enter Tryd.func106, Tryd.ntmps106
  go_wp2
  clear w0
  go_loopw [3, 4] (fun v i wr => ∃ s : Nat, i = .int .i64 ((s : Int) - 1) ∧ s ≤ n ∧ IsN wr v (hvB f s (n - s)) ∧ Below w.heap.size w wr) (fun _ i _ => (intOf i + 1).toNat)
  case atStart => exact ⟨n, rfl, Nat.le_refl _, by rw [Nat.sub_self]; exact IsN.nil _, Below.refl _ _⟩
  case round =>
    obtain ⟨s, rfl, hs, hN, hL⟩ := hrel
    rename_i u3
    rcases Nat.eq_zero_or_pos s with rfl | hs0
    · rw [Nat.sub_zero] at hN
      go_wp2
      go_ret
      exact ⟨_, rfl, hN, hL⟩
    · obtain ⟨i, rfl⟩ : ∃ i, s = i + 1 := ⟨s - 1, by omega⟩
      rw [show (((i + 1 : Nat) : Int) - 1) = (i : Int) by omega]
      obtain ⟨vA, vm, vc, rfl, -, -, -⟩ := hN.form
      have hfi := hf i (by omega)
      have hlt := hvB_lt (f := f) (n - (i + 1)) (i + 1) (fun j hj => hf j (by omega))
      have hst : hvB f (i + 1) (n - (i + 1)) * 256 + f i = hvB f i (n - i) := by
        rw [show n - i = (n - (i + 1)) + 1 by omega]; show _ = f i + 256 * _; omega
      have hHst := Lib.hid hst
      have hb1 : hvB f (i + 1) (n - (i + 1)) < big := lt_big hlt (by omega)
      have hb2 : hvB f (i + 1) (n - (i + 1)) * 256 < big := by
        refine lt_big (k := 8 * (n - (i + 1)) + 8) ?_ (by omega)
        rw [Nat.pow_add]
        exact Nat.mul_lt_mul_of_pos_right hlt (by omega)
      have hb3 := Lib.hid hb2
      have hV := Lib.hid (fun V (h : Below wr.heap.size wr V) => (hN.step h).toV hb1)
      have hix := Lib.hid (fun V (h : Below wr.heap.size wr V) => hcc.out i (by omega) V (below_step h hL (Nat.le_refl _)))
      have d1 : decide ((0 : Int) ≤ (i : Int)) = true := by simp
      have d2 : (0 : Int) ≤ (i : Int) := by omega
      have d3 : (i : Int) < (n : Int) := by omega
      have hB := Lib.hid hL
      have hH2 := Lib.hid (show i + 1 ≤ n by omega)
      clear hst hlt hb1 hb2 hN hL hs hs0
      generalize hvB f (i + 1) (n - (i + 1)) = M at *
      generalize f i = x at *
      have hwx : IntKind.i64.wrap (x : Int) = (x : Int) := by rw [IntKind.wrap_i64]; omega
      have w3 : IntKind.i64.wrap ((i : Int) - 1) = (i : Int) - 1 := by rw [IntKind.wrap_i64]; omega
      go_upto_region 5 with (fail)
      generalize ha0 : Act.mk _ _ = a0
      have e0 : a0.tmps[0]?.getD undef = .slice (some ⟨g, 0, none⟩) n c := by rw [← ha0]; rfl
      have e3 : a0.tmps[3]?.getD undef = .slice vA vm vc := by rw [← ha0]; rfl
      have e4 : a0.tmps[4]?.getD undef = .int .i64 (i : Nat) := by rw [← ha0]; rfl
      have hz0 : a0.tmps.size = 23 := by rw [← ha0]; rfl
      have hha0 := Lib.hid ha0
      clear ha0
      refine wp_region_tailL (fun jx_ => match jx_ with | 0 => SRel.is (.slice vA vm vc) | 1 => SRel.bV 256 | 2 => SRel.bN (M * 256) | 3 => SRel.is (.slice (some ⟨g, 0, none⟩) n c) | 4 => SRel.is (.int .i64 (i : Nat)) | 5 => SRel.is (.pointer (some ⟨g, (i : Nat), none⟩)) | 6 => SRel.is (.int .u8 (x : Nat)) | 7 => SRel.is (.int .i64 (x : Nat)) | 8 => SRel.bV x | 9 => SRel.bN (M * 256 + x) | 10 => SRel.any | _ => SRel.any) 10 (by kernel_rfl) (by kernel_rfl) (by kernel_rfl) (slotsOk_of hz0 (by kernel_rfl)) (by kernel_rfl) (of_decide_eq_true (by kernel_rfl)) ⟨?_, ?_, ?_, ?_, ?_, ?_, ?_, ?_, ?_, ?_, trivial⟩ ?_
      · refine calmL_step rfl fun a ω κ hb hu hc hK => ?_
        have h3 : a.tmps[3]?.getD undef = .slice vA vm vc := (hu 3 rfl).trans e3
        have hk := Lib.hid (fun w1 (h : Below ω.heap.size ω w1) => hK (.slice vA vm vc) w1 rfl h)
        clear hK hu hc
        go_simp
        exact hk.out _ (Below.refl _ _)
      · refine calmL_step rfl fun a ω κ hb hu hc hK => ?_
        have hk := Lib.hid (fun v w1 (hv : (SRel.bV 256).p v w1) (h : Below ω.heap.size ω w1) => hK v w1 hv h)
        clear hK hu hc
        go_simp
        exact hk.out _ _ (IsV.lit256 ω 3) (below_alloc _ _)
      · refine calmL_step rfl fun a ω κ hb hu hc hK => ?_
        have h12 : a.tmps[12]?.getD undef = .slice vA vm vc := hc 0 12 rfl rfl
        have h13 : (SRel.bV 256).p (a.tmps[13]?.getD undef) ω := hc 1 13 rfl rfl
        have hk := Lib.hid (fun v w1 (hv : (SRel.bN (M * 256)).p v w1) (h : Below ω.heap.size ω w1) => hK v w1 hv h)
        clear hK hu hc
        go_simp
        go_at_call 48
        refine (timesN (m := M) (n := 256) ω (hV.out ω hb) h13).mono ?_
        rintro e w1 ⟨v, rfl, hv, hb1⟩
        exact hk.out _ _ hv hb1
      · refine calmL_step rfl fun a ω κ hb hu hc hK => ?_
        have h0 : a.tmps[0]?.getD undef = .slice (some ⟨g, 0, none⟩) n c := (hu 0 rfl).trans e0
        have hk := Lib.hid (fun w1 (h : Below ω.heap.size ω w1) => hK (.slice (some ⟨g, 0, none⟩) n c) w1 rfl h)
        clear hK hu hc
        go_simp
        exact hk.out _ (Below.refl _ _)
      · refine calmL_step rfl fun a ω κ hb hu hc hK => ?_
        have h4 : a.tmps[4]?.getD undef = .int .i64 (i : Nat) := (hu 4 rfl).trans e4
        have hk := Lib.hid (fun w1 (h : Below ω.heap.size ω w1) => hK (.int .i64 (i : Nat)) w1 rfl h)
        clear hK hu hc
        go_simp
        exact hk.out _ (Below.refl _ _)
      · refine calmL_step rfl fun a ω κ hb hu hc hK => ?_
        have h15 : a.tmps[15]?.getD undef = .slice (some ⟨g, 0, none⟩) n c := hc 3 15 rfl rfl
        have h16 : a.tmps[16]?.getD undef = .int .i64 (i : Nat) := hc 4 16 rfl rfl
        have hk := Lib.hid (fun w1 (h : Below ω.heap.size ω w1) => hK (.pointer (some ⟨g, (i : Nat), none⟩)) w1 rfl h)
        clear hK hu hc
        go_simp
        exact hk.out _ (Below.refl _ _)
      · refine calmL_step rfl fun a ω κ hb hu hc hK => ?_
        have h17 : a.tmps[17]?.getD undef = .pointer (some ⟨g, (i : Nat), none⟩) := hc 5 17 rfl rfl
        have hk := Lib.hid (fun w1 (h : Below ω.heap.size ω w1) => hK (.int .u8 (x : Nat)) w1 rfl h)
        clear hK hu hc
        have hq := hix.out ω hb
        go_simp
        exact hk.out _ (Below.refl _ _)
      · refine calmL_step rfl fun a ω κ hb hu hc hK => ?_
        have h18 : a.tmps[18]?.getD undef = .int .u8 (x : Nat) := hc 6 18 rfl rfl
        have hk := Lib.hid (fun w1 (h : Below ω.heap.size ω w1) => hK (.int .i64 (x : Nat)) w1 rfl h)
        clear hK hu hc
        go_simp
        exact hk.out _ (Below.refl _ _)
      · refine calmL_step rfl fun a ω κ hb hu hc hK => ?_
        have h19 : a.tmps[19]?.getD undef = .int .i64 (x : Nat) := hc 7 19 rfl rfl
        have hk := Lib.hid (fun v w1 (hv : (SRel.bV x).p v w1) (h : Below ω.heap.size ω w1) => hK v w1 hv h)
        clear hK hu hc
        go_simp
        exact hk.out _ _ (IsV.lit ω 3 (by omega)) (below_alloc _ _)
      · refine calmL_step rfl fun a ω κ hb hu hc hK => ?_
        have h14 : (SRel.bN (M * 256)).p (a.tmps[14]?.getD undef) ω := hc 2 14 rfl rfl
        have h20 : (SRel.bV x).p (a.tmps[20]?.getD undef) ω := hc 8 20 rfl rfl
        have hk := Lib.hid (fun v w1 (hv : (SRel.bN (M * 256 + x)).p v w1) (h : Below ω.heap.size ω w1) => hK v w1 hv h)
        clear hK hu hc
        go_simp
        go_at_call 47
        refine (plusN (m := M * 256) (n := x) ω (IsN.toV h14 hb3.out) h20).mono ?_
        rintro e w1 ⟨v, rfl, hv, hb1⟩
        exact hk.out _ _ hv hb1
      · intro aa ω hb hu hsz hdf hc
        have h12 : aa.tmps[12]?.getD undef = .slice vA vm vc := hc 0 12 (by decide) rfl
        have h15 : aa.tmps[15]?.getD undef = .slice (some ⟨g, 0, none⟩) n c := hc 3 15 (by decide) rfl
        have h16 : aa.tmps[16]?.getD undef = .int .i64 (i : Nat) := hc 4 16 (by decide) rfl
        have h17 : aa.tmps[17]?.getD undef = .pointer (some ⟨g, (i : Nat), none⟩) := hc 5 17 (by decide) rfl
        have h18 : aa.tmps[18]?.getD undef = .int .u8 (x : Nat) := hc 6 18 (by decide) rfl
        have h19 : aa.tmps[19]?.getD undef = .int .i64 (x : Nat) := hc 7 19 (by decide) rfl
        have h21 : (SRel.bN (M * 256 + x)).p (aa.tmps[21]?.getD undef) ω := hc 9 21 (by decide) rfl
        have ha0 := hha0.out
        subst ha0
        have he := act_patchL (n := 23) 10 [false, false, false, false, false, false, false, false, false, false, false, false, true, true, true, true, true, true, true, true, true, true, false] rfl (by kernel_rfl) hu hsz hdf
        simp only [patch, cond_true, cond_false, Nat.reduceAdd] at he
        clear hu hsz hdf hc hha0 e0 e3 e4 hz0
        rw [he]
        clear he
        generalize aa.tmps[12]?.getD undef = x12 at *
        generalize aa.tmps[13]?.getD undef = x13 at *
        generalize aa.tmps[14]?.getD undef = x14 at *
        generalize aa.tmps[15]?.getD undef = x15 at *
        generalize aa.tmps[16]?.getD undef = x16 at *
        generalize aa.tmps[17]?.getD undef = x17 at *
        generalize aa.tmps[18]?.getD undef = x18 at *
        generalize aa.tmps[19]?.getD undef = x19 at *
        generalize aa.tmps[20]?.getD undef = x20 at *
        generalize aa.tmps[21]?.getD undef = x21 at *
        subst h12 h15 h16 h17 h18 h19
        dsimp only [List.drop]
        have hB2 := Lib.hid (below_step hb hB.out (Nat.le_refl _))
        have h22 := Lib.hid (show IsN ω x21 (M * 256 + x) from h21)
        clear hV hb3 hix hb hB h21
        go_wp2_with fail
        go_roundw
        case rel => exact ⟨i, rfl, by have := hH2.out; omega, by rw [← hHst.out]; exact h22.out, hB2.out⟩
        case measure => simp [intOf]
end Go.Proofs.YtgdiokklfihfoaaDoor
namespace Go.Proofs.YtgdiokklfihfoaaDoor
open Go Go.RowKit

section
variable {P : Program} {ops : Array Oper} {Q : Exit → Act → World → Prop}

/-- What is told of the operations: the plain value of one, the cells of one that lays a block, the layer whose block one writes, and what it writes. -/
structure FSpecR where
  val : Nat → Option Value
  al : Nat → Option Nat
  tg : Nat → Option Nat
  row : Nat → Array Value
  sr : Nat → Option SRel
def FSpecR.rel0 (F : FSpecR) (i : Nat) : SRel := match F.val i with | some c => SRel.is c | none => SRel.any
def FSpecR.rel (F : FSpecR) (i : Nat) : SRel := match F.sr i with | some r => r | none => F.rel0 i
/-- One that writes a block. -/
def WriteOkR (P : Program) (Q : Exit → Act → World → Prop) (ops : Array Oper) (F : FSpecR) (a0 : Act) (w0 : World) (j n : Nat) (c : Array Value) (o : Oper) : Prop :=
  o.dst = none ∧ (o.after.toList.any fun e => e.on == j && Region.binds .any e) = true ∧ c.size = n ∧
  ∀ (a : Act) (w : World) (K : Act → World → Prop) (g : Nat), Below w0.heap.size w0 w → Untouched ops a0 a → Came ops F.rel0 o a w → (∀ d, dstAt ops j = some d → a.tmps[d]?.getD undef = .pointer (some ⟨g, 0, none⟩)) → Row w g n → (∀ v, K (a.put none v) (w.setRow g c)) →
    if Region.wanted o (yielded ops a.tmps) = true then Oper.wp P o a w K Q else K (a.put o.dst undef) w
/-- Some writing does not wait for the operation. -/
def lateB (ops : Array Oper) (F : FSpecR) (i : Nat) : Bool := !((List.range ops.size).all fun k => (F.tg k).isNone || pathB ops ops.size k i)
def FStepOkR (P : Program) (ops : Array Oper) (Q : Exit → Act → World → Prop) (F : FSpecR) (a0 : Act) (w0 : World) (i : Nat) (o : Oper) : Prop :=
  match F.al i, F.tg i with
  | some n, _ => AllocOk P Q ops n o
  | none, some j => ∃ n, F.al j = some n ∧ WriteOkR P Q ops F a0 w0 j n (F.row i) o
  | none, none => if lateB ops F i = true then StepOk P ops Q F.rel0 a0 w0 i o else StepOk P ops Q F.rel a0 w0 i o
def FStepsOkR (P : Program) (ops : Array Oper) (Q : Exit → Act → World → Prop) (F : FSpecR) (a0 : Act) (w0 : World) : Nat → List Oper → Prop
  | _, [] => True
  | i, o :: l => FStepOkR P ops Q F a0 w0 i o ∧ FStepsOkR P ops Q F a0 w0 (i + 1) l
theorem fsteps_atR {F : FSpecR} {a0 : Act} {w0 : World} : ∀ (l : List Oper) (n i : Nat) (o : Oper), FStepsOkR P ops Q F a0 w0 n l → l[i]? = some o → FStepOkR P ops Q F a0 w0 (n + i) o
  | [], n, i, o, _, h => by simp at h
  | x :: l, n, 0, o, h1, h => by
      have : x = o := by simpa using h
      subst this
      exact h1.1
  | x :: l, n, i + 1, o, h1, h => by
      have := fsteps_atR l (n + 1) i o h1.2 (by simpa using h)
      rw [show n + (i + 1) = n + 1 + i by omega]
      exact this
/-- No operation is told of twice; no block is written twice. -/
def FSpecR.ok (F : FSpecR) (n : Nat) : Bool := (List.range n).all fun i => (List.range n).all fun j => (i == j || (F.tg i).isNone || F.tg i != F.tg j) && ((F.al i).isNone || ((F.tg i).isNone && (F.val i).isNone && (F.sr i).isNone)) && ((F.sr i).isNone || (F.val i).isNone)
/-- What yields a value that holds only ahead of all writing is waited for by all that write. -/
def FSpecR.early (F : FSpecR) (ops : Array Oper) : Bool := (List.range ops.size).all fun i => (F.tg i).isSome || !lateB ops F i || (F.sr i).isNone
/-- Nothing has been written. -/
def Dry (F : FSpecR) (L : Nat → Bool) : Prop := ∀ k, L k = true → F.tg k = none
/-- What stands while the region runs. -/
structure FInvR (ops : Array Oper) (F : FSpecR) (a0 : Act) (w0 : World) (G : Nat → Nat) (L : Nat → Bool) (a : Act) (w : World) : Prop where
  bel : Below w0.heap.size w0 w
  un : Untouched ops a0 a
  sz : a.tmps.size = a0.tmps.size
  df : a.defers = a0.defers
  val : ∀ j d, L j = true → dstAt ops j = some d → (F.rel0 j).p (a.tmps[d]?.getD undef) w
  sr : Dry F L → ∀ j d, L j = true → dstAt ops j = some d → (F.rel j).p (a.tmps[d]?.getD undef) w
  al : ∀ j d n, L j = true → dstAt ops j = some d → F.al j = some n → a.tmps[d]?.getD undef = .pointer (some ⟨G j, 0, none⟩)
  blk : ∀ j n, L j = true → F.al j = some n → w0.heap.size ≤ G j ∧ Row w (G j) n
  ne : ∀ i j n m, L i = true → L j = true → F.al i = some n → F.al j = some m → i ≠ j → G i ≠ G j
  row : ∀ k j, L k = true → F.tg k = some j → L j = true ∧ (∃ n, F.al j = some n) ∧ rowAt w (G j) = F.row k
theorem rel_anyR {F : FSpecR} {i : Nat} {v : Value} {w w' : World} (h : (F.rel0 i).p v w) : (F.rel0 i).p v w' := by
  unfold FSpecR.rel0 at *
  cases h1 : F.val i with
  | none => trivial
  | some c => rw [h1] at h; exact h
theorem wp_region_freshR {id : Nat} {a0 : Act} {w0 : World} (F : FSpecR) (hm : P.follows .mixedOrders = true) (he : edgesOk ops = true) (hd : dstsOk ops = true) (hz : slotsOk ops a0.tmps.size = true) (hF : F.ok ops.size = true) (hE : F.early ops = true)
    (hstep : FStepsOkR P ops Q F a0 w0 0 ops.toList)
    (hend : ∀ (a : Act) (w : World) (G : Nat → Nat), FInvR ops F a0 w0 G (fun i => decide (i < ops.size)) a w → Q .normal a w) :
    (Code.region id ops true).wp P Q a0 w0 := by
  refine wp_region_any hm ?_
  have hlt : ∀ i d, dstAt ops i = some d → i < ops.size := fun i d h => by
    unfold dstAt at h
    rcases Nat.lt_or_ge i ops.size with h1 | h1
    · exact h1
    · rw [Array.getElem?_eq_none h1] at h; cases h
  have hdst : ∀ i j d e, i ≠ j → dstAt ops i = some d → dstAt ops j = some e → d ≠ e := by
    intro i j d e hij h1 h2
    have := List.all_eq_true.1 (List.all_eq_true.1 hd i (by simpa using hlt i d h1)) j (by simpa using hlt j e h2)
    rw [h1, h2] at this
    simpa [hij] using this
  have hslot : ∀ i d, dstAt ops i = some d → d < a0.tmps.size := by
    intro i d h1
    have := List.all_eq_true.1 hz i (by simpa using hlt i d h1)
    rw [h1] at this
    simpa using this
  refine wpAny_inv he (fun listed a w => (listed.size = ops.size ∧ ∀ k o, listed.getD k false = true → ops[k]? = some o → ∀ e ∈ o.after, Region.binds .any e = true → listed.getD e.on false = true) ∧ ∃ G, FInvR ops F a0 w0 G (fun i => listed.getD i false) a w) ?_ ?_ _ _ _ _ (by simp) ?_ ?_
  · rintro listed a w i o hs ⟨⟨-, hcl⟩, G, I⟩ hi h1 ho h2
    have hs0 : (listed.setIfInBounds i true).size = ops.size := by simpa using hs
    have hst := fsteps_atR ops.toList 0 i o hstep (by rw [Array.getElem?_toList]; exact ho)
    rw [Nat.zero_add] at hst
    have hil : i < listed.size := by omega
    have hli : listed.getD i false = false := by simpa [hil] using h1
    have hcl' : ∀ k o', (listed.setIfInBounds i true).getD k false = true → ops[k]? = some o' → ∀ e ∈ o'.after, Region.binds .any e = true → (listed.setIfInBounds i true).getD e.on false = true := by
      intro k o' hk ho' e he1 he2
      have hle : listed.getD e.on false = true := by
        by_cases hki : k = i
        · subst hki
          rw [ho] at ho'
          cases ho'
          exact h2 e he1 he2
        · have hk' : listed.getD k false = true := by simpa [Array.getElem?_setIfInBounds_ne (Ne.symm hki)] using hk
          exact hcl k o' hk' ho' e he1 he2
      by_cases hei : e.on = i
      · rw [hei]; simp [hil]
      · simpa [Array.getElem?_setIfInBounds_ne (Ne.symm hei)] using hle
    have hs' : (listed.setIfInBounds i true).size = ops.size ∧ _ := ⟨hs0, hcl'⟩
    have hL : ∀ j, (listed.setIfInBounds i true).getD j false = true → j = i ∨ listed.getD j false = true := by
      intro j hj
      by_cases hij : i = j
      · exact .inl hij.symm
      · exact .inr (by simpa [Array.getElem?_setIfInBounds_ne hij] using hj)
    have hLm : ∀ j, listed.getD j false = true → (listed.setIfInBounds i true).getD j false = true := by
      intro j hj
      by_cases hij : i = j
      · subst hij; simp [hil]
      · simpa [Array.getElem?_setIfInBounds_ne hij] using hj
    have hun : ∀ v, Untouched ops a0 (a.put o.dst v) := by
      intro v s hs'
      have hns : o.dst ≠ some s := by
        have := List.all_eq_true.1 hs' o (Array.mem_toList_iff.2 (Array.mem_of_getElem? ho))
        simpa using this
      rw [← I.un s hs']
      cases hd' : o.dst with
      | none => rfl
      | some d =>
        have hne : d ≠ s := fun e => hns (by rw [hd', e])
        simp [Act.put, Array.getElem?_setIfInBounds_ne hne]
    have hsz : ∀ v, (a.put o.dst v).tmps.size = a0.tmps.size := fun v => by cases hd' : o.dst <;> simp [Act.put, I.sz]
    have hdf : ∀ v, (a.put o.dst v).defers = a0.defers := fun v => by cases hd' : o.dst <;> simp [Act.put, I.df]
    have hother : ∀ v j d, listed.getD j false = true → dstAt ops j = some d → (a.put o.dst v).tmps[d]?.getD undef = a.tmps[d]?.getD undef := by
      intro v j d hj hjd
      have hij : i ≠ j := fun e => by rw [e, hj] at hli; cases hli
      cases hd' : o.dst with
      | none => rfl
      | some d' =>
        have hne : d' ≠ d := hdst i j d' d hij (by unfold dstAt; rw [ho]; exact hd') hjd
        simp [Act.put, Array.getElem?_setIfInBounds_ne hne]
    have hown : ∀ v d, dstAt ops i = some d → (a.put o.dst v).tmps[d]?.getD undef = v := by
      intro v d hid
      have hd1 := hslot i d hid
      have hod : o.dst = some d := by unfold dstAt at hid; rw [ho] at hid; exact hid
      rw [hod]
      rw [← I.sz] at hd1
      simp [Act.put, hd1]
    have hcame0 : Came ops F.rel0 o a w := by
      intro j d hj hjd
      obtain ⟨e, he1, he2⟩ := List.any_eq_true.1 hj
      have he1 : e ∈ o.after := Array.mem_toList_iff.1 he1
      simp only [Bool.and_eq_true, beq_iff_eq] at he2
      have hjl : listed.getD j false = true := by rw [← he2.1]; exact h2 e he1 he2.2
      exact I.val j d hjl hjd
    have hdry : (Dry F fun z => (listed.setIfInBounds i true).getD z false) → Dry F fun z => listed.getD z false := fun h k hk => h k (hLm k hk)
    have hcame : lateB ops F i = false → Came ops F.rel o a w := by
      intro htn j d hj hjd
      obtain ⟨e, he1, he2⟩ := List.any_eq_true.1 hj
      have he1 : e ∈ o.after := Array.mem_toList_iff.1 he1
      simp only [Bool.and_eq_true, beq_iff_eq] at he2
      have hjl : listed.getD j false = true := by rw [← he2.1]; exact h2 e he1 he2.2
      refine I.sr (fun k hk => ?_) j d hjl hjd
      have hkl : k < ops.size := by
        rcases Nat.lt_or_ge k ops.size with h | h
        · exact h
        · have hk : listed.getD k false = true := hk
          rw [Array.getD_eq_getD_getElem?, Array.getElem?_eq_none (by omega)] at hk; cases hk
      have hEi : ((List.range ops.size).all fun k => (F.tg k).isNone || pathB ops ops.size k i) = true := by
        unfold lateB at htn
        simpa using htn
      have h3 := List.all_eq_true.1 hEi k (by simpa using hkl)
      rw [Bool.or_eq_true] at h3
      rcases h3 with h3 | h3
      · simpa using h3
      · have h4 := path_listed hcl _ _ _ hk h3
        rw [hli] at h4
        cases h4
    have htg : ∀ k k' j, k < ops.size → k' < ops.size → F.tg k = some j → F.tg k' = some j → k = k' := by
      intro k k' j hk hk' h3 h4
      have := List.all_eq_true.1 (List.all_eq_true.1 hF k (by simpa using hk)) k' (by simpa using hk')
      rw [h3, h4, Bool.and_eq_true, Bool.and_eq_true] at this
      simpa using this.1.1
    have hal0 : ∀ n, F.al i = some n → F.tg i = none ∧ F.val i = none ∧ F.sr i = none := by
      intro n h3
      have := List.all_eq_true.1 (List.all_eq_true.1 hF i (by simpa using hi)) i (by simpa using hi)
      rw [h3] at this
      simp only [Option.isNone_some, Bool.false_or, Bool.and_eq_true] at this
      obtain ⟨⟨-, h4⟩, -⟩ := this
      simp only [Option.isNone_iff_eq_none] at h4
      exact ⟨h4.1.1, h4.1.2, h4.2⟩
    have hLs : ∀ j, listed.getD j false = true → j < ops.size := by
      intro j hj
      rcases Nat.lt_or_ge j ops.size with h | h
      · exact h
      · rw [Array.getD_eq_getD_getElem?, Array.getElem?_eq_none (by omega)] at hj; cases hj
    unfold FStepOkR at hst
    cases hal : F.al i with
    | some n =>
      rw [hal] at hst
      refine wpOp_step ho fun K hK => hst a w K fun c t hc => hK _ _ ⟨hs', fun j => if j = i then w.heap.size else G j, ?_⟩
      have hG : ∀ j, listed.getD j false = true → (if j = i then w.heap.size else G j) = G j := fun j hj => if_neg fun e => by rw [e, hli] at hj; cases hj
      refine ⟨I.bel.alloc I.bel.size _, hun _, hsz _, hdf _, ?_, ?_, ?_, ?_, ?_, ?_⟩
      · intro j d hj hjd
        rcases hL j hj with rfl | hj
        · unfold FSpecR.rel0; rw [(hal0 n hal).2.1]; trivial
        · rw [hother _ j d hj hjd]; exact rel_anyR (I.val j d hj hjd)
      · intro hdr j d hj hjd
        rcases hL j hj with rfl | hj
        · unfold FSpecR.rel FSpecR.rel0; rw [(hal0 n hal).2.2, (hal0 n hal).2.1]; trivial
        · rw [hother _ j d hj hjd]; exact (F.rel j).st _ _ _ (below_alloc w _) (I.sr (hdry hdr) j d hj hjd)
      · intro j d m hj hjd hm
        rcases hL j hj with rfl | hj
        · rw [hown _ d hjd, if_pos rfl]
        · rw [hother _ j d hj hjd, hG j hj]; exact I.al j d m hj hjd hm
      · intro j m hj hm
        rcases hL j hj with rfl | hj
        · rw [if_pos rfl]
          rw [hal] at hm
          cases hm
          exact ⟨I.bel.size, (row_new_cells rfl hc).2 trivial⟩
        · rw [hG j hj]
          have := I.blk j m hj hm
          exact ⟨this.1, (row_old this.2.lt).2 this.2⟩
      · intro j k m m' hj hk hm hm' hjk
        rcases hL j hj with rfl | hj'
        · rcases hL k hk with rfl | hk'
          · exact absurd rfl hjk
          · rw [if_pos rfl, hG k hk']
            have := (I.blk k m' hk' hm').2.lt
            omega
        · rcases hL k hk with rfl | hk'
          · rw [if_pos rfl, hG j hj']
            have := (I.blk j m hj' hm).2.lt
            omega
          · rw [hG j hj', hG k hk']; exact I.ne j k m m' hj' hk' hm hm' hjk
      · intro k j hk hkj
        rcases hL k hk with rfl | hk'
        · rw [(hal0 n hal).1] at hkj; cases hkj
        · obtain ⟨h3, ⟨n', h4⟩, h5⟩ := I.row k j hk' hkj
          refine ⟨hLm j h3, ⟨n', h4⟩, ?_⟩
          rw [hG j h3, rowAt_old (I.blk j n' h3 h4).2.lt]
          exact h5
    | none =>
      rw [hal] at hst
      cases htgi : F.tg i with
      | some j =>
        rw [htgi] at hst
        obtain ⟨n, hjn, hod, haf, hcs, hw⟩ := hst
        obtain ⟨e, he1, he2⟩ := List.any_eq_true.1 haf
        have he1 : e ∈ o.after := Array.mem_toList_iff.1 he1
        simp only [Bool.and_eq_true, beq_iff_eq] at he2
        have hjl : listed.getD j false = true := by rw [← he2.1]; exact h2 e he1 he2.2
        have hB := I.blk j n hjl hjn
        have hid : ∀ d, dstAt ops i ≠ some d := fun d h => by unfold dstAt at h; rw [ho] at h; exact absurd (hod.symm.trans h) (by simp)
        refine wpOp_step ho fun K hK => hw a w K (G j) I.bel I.un hcame0 (fun d hd => I.al j d n hjl hd hjn) hB.2 fun v => hod ▸ hK _ _ ⟨hs', G, ?_⟩
        refine ⟨below_setRow I.bel hB.1, hun _, hsz _, hdf _, ?_, fun hdr => absurd (hdr i (by simp [hil])) (by rw [htgi]; simp), ?_, ?_, ?_, ?_⟩
        · intro k d hk hkd
          rcases hL k hk with rfl | hk'
          · exact absurd hkd (hid d)
          · rw [hother _ k d hk' hkd]; exact rel_anyR (I.val k d hk' hkd)
        · intro k d m hk hkd hm
          rcases hL k hk with rfl | hk'
          · exact absurd hkd (hid d)
          · rw [hother _ k d hk' hkd]; exact I.al k d m hk' hkd hm
        · intro k m hk hm
          rcases hL k hk with rfl | hk'
          · rw [hal] at hm; cases hm
          · have h3 := I.blk k m hk' hm
            refine ⟨h3.1, ?_⟩
            by_cases hjk : k = j
            · subst hjk
              rw [hjn] at hm
              cases hm
              exact (row_setRow_same rfl h3.2).2 hcs
            · exact (row_setRow_far (I.ne k j m n hk' hjl hm hjn hjk)).2 h3.2
        · intro k l m m' hk hl hm hm' hkl
          rcases hL k hk with rfl | hk'
          · rw [hal] at hm; cases hm
          · rcases hL l hl with rfl | hl'
            · rw [hal] at hm'; cases hm'
            · exact I.ne k l m m' hk' hl' hm hm' hkl
        · intro k l hk hkl
          rcases hL k hk with rfl | hk'
          · rw [htgi] at hkl
            cases hkl
            exact ⟨hLm j hjl, ⟨n, hjn⟩, rowAt_setRow_same hB.2⟩
          · obtain ⟨h3, ⟨n', h4⟩, h5⟩ := I.row k l hk' hkl
            refine ⟨hLm l h3, ⟨n', h4⟩, ?_⟩
            have hlj : l ≠ j := fun e => by
              subst e
              have := htg k i l (hLs k hk') hi hkl htgi
              rw [this, hli] at hk'
              cases hk'
            rw [rowAt_setRow_far (I.ne l j n' n h3 hjl h4 hjn hlj)]
            exact h5
      | none =>
        rw [htgi] at hst
        have hst2 : ∀ (K : Act → World → Prop), (∀ v w', (F.rel i).p v w' → Below w.heap.size w w' → K (a.put o.dst v) w') → if Region.wanted o (yielded ops a.tmps) = true then Oper.wp P o a w K Q else K (a.put o.dst undef) w := by
          intro K hK
          cases hlt : lateB ops F i with
          | false =>
            simp only [hlt, Bool.false_eq_true, if_false] at hst
            exact hst a w K I.bel I.un (hcame hlt) hK
          | true =>
            simp only [hlt, if_true] at hst
            refine hst a w K I.bel I.un hcame0 fun v w' hv hb' => hK v w' ?_ hb'
            have hEi := List.all_eq_true.1 hE i (by simpa using hi)
            rw [htgi, hlt] at hEi
            have h4 : F.sr i = none := by simpa using hEi
            unfold FSpecR.rel
            rw [h4]
            exact hv
        refine wpOp_step ho fun K hK => hst2 K fun v w' hv hb' => hK _ _ ⟨hs', G, ?_⟩
        have hv0 : (F.rel0 i).p v w' := by
          have h3 := List.all_eq_true.1 (List.all_eq_true.1 hF i (by simpa using hi)) i (by simpa using hi)
          rw [Bool.and_eq_true] at h3
          unfold FSpecR.rel at hv
          cases h4 : F.sr i with
          | none => rw [h4] at hv; exact hv
          | some r =>
            have h5 : F.val i = none := by
              have := h3.2
              rw [h4] at this
              simpa using this
            unfold FSpecR.rel0
            rw [h5]
            trivial
        refine ⟨below_step hb' I.bel (Nat.le_refl _), hun _, hsz _, hdf _, ?_, ?_, ?_, ?_, ?_, ?_⟩
        · intro k d hk hkd
          rcases hL k hk with rfl | hk'
          · rw [hown _ d hkd]; exact hv0
          · rw [hother _ k d hk' hkd]; exact rel_anyR (I.val k d hk' hkd)
        · intro hdr k d hk hkd
          rcases hL k hk with rfl | hk'
          · rw [hown _ d hkd]; exact hv
          · rw [hother _ k d hk' hkd]; exact (F.rel k).st _ _ _ hb' (I.sr (hdry hdr) k d hk' hkd)
        · intro k d m hk hkd hm
          rcases hL k hk with rfl | hk'
          · rw [hal] at hm; cases hm
          · rw [hother _ k d hk' hkd]; exact I.al k d m hk' hkd hm
        · intro k m hk hm
          rcases hL k hk with rfl | hk'
          · rw [hal] at hm; cases hm
          · have h3 := I.blk k m hk' hm
            exact ⟨h3.1, row_below h3.2 hb' h3.2.lt⟩
        · intro k l m m' hk hl hm hm' hkl
          rcases hL k hk with rfl | hk'
          · rw [hal] at hm; cases hm
          · rcases hL l hl with rfl | hl'
            · rw [hal] at hm'; cases hm'
            · exact I.ne k l m m' hk' hl' hm hm' hkl
        · intro k l hk hkl
          rcases hL k hk with rfl | hk'
          · rw [htgi] at hkl; cases hkl
          · obtain ⟨h3, ⟨n', h4⟩, h5⟩ := I.row k l hk' hkl
            exact ⟨hLm l h3, ⟨n', h4⟩, (rowAt_below hb' (I.blk l n' h3 h4).2.lt).trans h5⟩
  · rintro listed a w ⟨⟨hs, -⟩, G, I⟩ hall
    have hLs : ∀ j, decide (j < ops.size) = true → listed.getD j false = true := fun j hj => hall j (by simpa using hj)
    refine hend a w G ⟨I.bel, I.un, I.sz, I.df, fun j d hj => I.val j d (hLs j hj), fun hdr j d hj => I.sr (fun k hk => hdr k (by
      have : k < ops.size := by
        rcases Nat.lt_or_ge k ops.size with h | h
        · exact h
        · have hk : listed.getD k false = true := hk
          rw [Array.getD_eq_getD_getElem?, Array.getElem?_eq_none (by omega)] at hk; cases hk
      simpa using this)) j d (hLs j hj), fun j d n hj => I.al j d n (hLs j hj), fun j n hj => I.blk j n (hLs j hj), fun i j n m hi hj => I.ne i j n m (hLs i hi) (hLs j hj), fun k j hk hkj => ?_⟩
    have hks := I.row k j (hLs k hk) hkj
    refine ⟨?_, hks.2⟩
    have h3 := hks.1
    rcases Nat.lt_or_ge j ops.size with h | h
    · simpa using h
    · rw [Array.getD_eq_getD_getElem?, Array.getElem?_eq_none (by omega)] at h3; cases h3
  · unfold left
    rw [Array.toList_replicate]
    exact Nat.le_trans (List.length_filter_le _ _) (by simp)
  · have h0 : ∀ j, (Array.replicate ops.size false).getD j false ≠ true := fun j => by
      rw [Array.getD_eq_getD_getElem?, Array.getElem?_replicate]
      split <;> simp
    exact ⟨⟨by simp, fun k o hk => absurd hk (h0 k)⟩, fun _ => 0, (Below.refl _ _).drew, fun _ _ => rfl, rfl, rfl, fun j d hj => absurd hj (h0 j), fun _ j d hj => absurd hj (h0 j), fun j d n hj => absurd hj (h0 j), fun j n hj => absurd hj (h0 j), fun i j n m hi => absurd hi (h0 i), fun k j hk => absurd hk (h0 k)⟩
theorem fstep_valR {F : FSpecR} {a0 : Act} {w0 : World} {i : Nat} {o : Oper} (h1 : F.al i = none) (h2 : F.tg i = none) (hl : lateB ops F i = false) (h : StepOk P ops Q F.rel a0 w0 i o) : FStepOkR P ops Q F a0 w0 i o := by
  unfold FStepOkR
  rw [h1, h2]
  simp only [hl, Bool.false_eq_true, if_false]
  exact h
theorem fstep_lateR {F : FSpecR} {a0 : Act} {w0 : World} {i : Nat} {o : Oper} (h1 : F.al i = none) (h2 : F.tg i = none) (hl : lateB ops F i = true) (h : StepOk P ops Q F.rel0 a0 w0 i o) : FStepOkR P ops Q F a0 w0 i o := by
  unfold FStepOkR
  rw [h1, h2]
  simp only [hl, if_true]
  exact h
theorem fstep_alR {F : FSpecR} {a0 : Act} {w0 : World} {i n : Nat} {o : Oper} (h1 : F.al i = some n) (hg : o.guard = none)
    (h : ∀ (a : Act) (w : World) (K : Act → World → Prop), (∀ c t, Cells c n → K (a.put o.dst (.pointer (some ⟨w.heap.size, 0, none⟩))) (w.alloc (.cells c t))) → Oper.wp P o a w K Q) : FStepOkR P ops Q F a0 w0 i o := by
  unfold FStepOkR
  rw [h1]
  intro a w K hK
  rw [if_pos (by simp [Region.wanted, hg])]
  exact h a w K hK
theorem fstep_stR {F : FSpecR} {a0 : Act} {w0 : World} {i j n : Nat} {d : Tmp} {o : Oper} (h1 : F.al i = none) (h2 : F.tg i = some j) (h3 : F.al j = some n) (hod : o.dst = none) (haf : (o.after.toList.any fun e => e.on == j && Region.binds .any e) = true) (hcs : (F.row i).size = n) (hg : o.guard = none) (hdj : dstAt ops j = some d)
    (h : ∀ (a : Act) (w : World) (K : Act → World → Prop) (g : Nat), Below w0.heap.size w0 w → Untouched ops a0 a → Came ops F.rel0 o a w → a.tmps[d]?.getD undef = .pointer (some ⟨g, 0, none⟩) → Row w g n → (∀ v, K (a.put none v) (w.setRow g (F.row i))) → Oper.wp P o a w K Q) : FStepOkR P ops Q F a0 w0 i o := by
  unfold FStepOkR
  rw [h1, h2]
  refine ⟨n, h3, hod, haf, hcs, fun a w K g hb hu hc hp hr hK => ?_⟩
  rw [if_pos (by simp [Region.wanted, hg])]
  exact h a w K g hb hu hc (hp d hdj) hr hK
end
end Go.Proofs.YtgdiokklfihfoaaDoor
