/- Several texts one behind the other: CvE Ld7 Open Args CvO. -/
import Derived.Test.YtodcjeaannfbnaaLdK2
import Derived.Test.YtodcjeaannfbnaaLd5
import Derived.Test.YtodcjeaannfbnaaMem
import Derived.ProofKit
import Derived.Test.YtodcjeaannfbnaaSl
import Derived.Deep.Slices
import Derived.Deep.Fields
import Derived.ChangeSame
import Derived.Test.YtodcjeaannfbnaaArrK
namespace Go.Proofs.Ytodcjeaannfbnaa
open Go Go.ChangeShapes Go.WideShapes Go.ChangeAt Go.RowKit
set_option maxRecDepth 100000
theorem part_4 (F f : Nat → Nat) (o : Nat) (ho : o + 4 ≤ 8) (h : ∀ i < 4, F (o + i) = f i) (w : World) : (part 24 (arrK .u64 8 F) o).run Try.prog w = .ok (.agg (arrK .u64 4 f)) w := by
  obtain ⟨i, hi, hs⟩ : ∃ i, Try.prog.info? 24 = some i ∧ i.size = 4 := by
    have h : (Try.prog.info? 24).map (·.size) = some 4 := by kernel_rfl
    cases hi : Try.prog.info? 24 with
    | none => rw [hi] at h; cases h
    | some i => rw [hi] at h; exact ⟨i, rfl, by simpa using h⟩
  have h2 : (arrK .u64 8 F).extract o (o + 4) = arrK .u64 4 f := by
    rw [arrK_V .u64 8, arrV_extract ho, arrK_V .u64 4]
    exact arrV_congr fun i hi => by rw [h i hi]
  simp [part, isAgg, run_underlying Try.underlying24, sizeOf, typeInfo, hi, hs, h2]
theorem equalIn_4 (f : Nat → Nat) (k : Nat) (w : World) : (Op.equalIn (k + 2) 24 (.agg (arrK .u64 4 f)) (.agg (arrK .u64 4 f))).run Try.prog w = .ok true w := by
  rw [run_equalIn_arrK Try.underlying24 Try.underlying22 (by kernel_rfl)]; simp
theorem eqlPt (f g : Nat → Nat) (w : World) : (Op.equalIn 10000 42 (.agg (arrK .u64 8 (cat2 f g))) (.agg (arrK .u64 8 (cat2 f g)))).run Try.prog w = .ok true w := by
  rw [show 10000 = 9999 + 1 from rfl, Op.equalIn.eq_2]
  simp only [Sem.run_bind, run_underlying Try.underlying42, Result.andThen_ok]
  have hst : Try.prog.stoodInHeld 42 = false := by kernel_rfl
  have h1 := part_4 (cat2 f g) f 0 (by omega) (fun i hi => by unfold cat2; rw [if_pos (by omega), Nat.zero_add]) w
  have h2 := part_4 (cat2 f g) g 4 (by omega) (fun i hi => by unfold cat2; rw [if_neg (by omega), Nat.add_sub_cancel_left]) w
  have hl := equalIn_4 f 9997 w
  have hm := equalIn_4 g 9997 w
  simp only [run_program, Result.andThen_ok, hst, Bool.false_eq_true, if_false, Sem.run_bind]
  simp [List.forIn_cons, h1, h2, hm, hl, Sem.run_bind]
theorem neqPt (f g : Nat → Nat) (w : World) : (binOp .neq 42 (.agg (arrK .u64 8 (cat2 f g))) (.agg (arrK .u64 8 (cat2 f g)))).run Try.prog w = .ok (.bool false) w := by rw [run_neq_struct, eqlPt]; rfl
theorem eqlPtB (f g : Nat → Nat) (w : World) : (binOp .eql 42 (.agg (arrK .u64 8 (cat2 f g))) (.agg (arrK .u64 8 (cat2 f g)))).run Try.prog w = .ok (.bool true) w := by rw [run_eql_struct, eqlPt]; rfl
section
variable {P : Program} {ops : Array Oper} {Q : Exit → Act → World → Prop}
theorem wpList_opW {rest : List Oper} {o : Oper} {a : Act} {w : World} (hw : Region.wanted o (yielded ops a.tmps) = true) (h : ∀ K : Act → World → Prop, (∀ a' w', wpList P ops Q rest a' w' → K a' w') → Oper.wp P o a w K Q) : wpList P ops Q (o :: rest) a w :=
  wpList_step fun K hK => by rw [if_pos hw]; exact h K hK
theorem calm_step_skipN {R : Nat → SRel} {a0 : Act} {w0 : World} {i g : Nat} {b : Bool} {d : Tmp} {o : Oper} (hg : o.guard = some (g, b)) (hd : dstAt ops g = some d)
    (hv : ∀ (a : Act) (w : World), Came ops R o a w → a.tmps[d]?.getD undef ≠ .bool b) (hR : ∀ w, (R i).p undef w) : StepOk P ops Q R a0 w0 i o := by
  intro a w K hb hu hc hK
  have hy : yielded ops a.tmps g ≠ some b := by
    intro hy
    have h1 := hv a w hc
    unfold dstAt at hd
    unfold yielded at hy
    rw [hd, Option.bind_some] at hy
    cases h2 : a.tmps[d]? with
    | none => rw [h2] at hy; cases hy
    | some v =>
      rw [h2] at hy h1
      cases v with
      | bool x =>
        have h3 : x = b := by simpa using hy
        subst h3
        exact h1 rfl
      | _ => cases hy
  rw [if_neg (by simp [Region.wanted, hg, hy])]
  exact hK undef w (hR w) (Below.refl _ _)
end
end Go.Proofs.Ytodcjeaannfbnaa
namespace Go.Proofs.Ytodcjeaannfbnaa
open Go.ChangeShapes Go.WideShapes Go.ChangeAt Go.RowKit
set_option maxHeartbeats 2000000
set_option maxRecDepth 100000
attribute [local go_sem ↓] load_fld load_feP load_num store_num load_fe store_fe load_pt store_pt load_f2 store_f2
attribute [local go_sem] isHead_mk blkOf_mk isAgg_mk cellsV_mk row_drew rowAt_drew row_new_cells row_old rowAt_new rowAt_old setRow_new zeroNum zeroPt zeroFe zeroF2 setRow_old
theorem build_nm0 (w : World) : (Instr.build 24 #[]).run Try.prog w = .ok (.agg (arrK .u64 4 (wd 0))) w := run_build w _ _ _ (by kernel_rfl)
section
variable {P : Program} {ops : Array Oper} {o : Oper} {a : Act} {w : World} {K : Act → World → Prop} {Q : Exit → Act → World → Prop} {t : TypeId} {u : Value}
theorem wp_bldE (ho : o.op = .build t #[]) (hr : (Instr.build t #[]).run P w = .ok u w) (h : K (a.put o.dst u) w) : Oper.wp P o a w K Q := by
  obtain ⟨dst, op, tt, pos, af, gd⟩ := o
  subst ho
  unfold Oper.wp execOp
  simp only [List.map_toArray, List.map_nil, Sem.run_bind, hr, Result.andThen_ok]
  exact h
end
theorem neqN4E (f : Nat → Nat) (w : World) : (binOp .neq 24 (.agg (arrK .u64 4 f)) (.agg (arrK .u64 4 f))).run Try.prog w = .ok (.bool false) w := by rw [run_neq_struct, equalIn_4]; rfl
theorem eqlN4B (f : Nat → Nat) (w : World) : (binOp .eql 24 (.agg (arrK .u64 4 f)) (.agg (arrK .u64 4 f))).run Try.prog w = .ok (.bool true) w := by rw [run_eql_struct, equalIn_4]; rfl
theorem of_same (y : Nat) (hy : y < fP) : (1 % fP + y % fP) % fP * invP (lessM (1 % fP) (y % fP)) % fP = (1 + y) % fP * invP (difP 1 y) % fP := by
  have h1 : 1 % fP = 1 := Nat.mod_eq_of_lt (Nat.lt_trans (by omega) fP_pos)
  have h2 : y % fP = y := Nat.mod_eq_of_lt hy
  rw [h1, h2]
  have h3 : lessM 1 y = difP 1 y := Cg.eq ((Cg.lessM (Cg.refl ((1 : Nat) : Int)) (Cg.refl (y : Int)) hy).trans (Cg.difM (Cg.refl _) (Cg.refl _)).symm) lt_P lt_P
  rw [h3]
theorem ladderTells_true (k u x y : Nat) (w : World) (hk : k < 2 ^ 256) (hu : u < 2 ^ 256) (hx : x < 2 ^ 256) (hy : y < 2 ^ 256) : Calls Try.prog 6 #[numV k, numV u, ptV x y] w fun e w' => e = .returned (.bool true) ∧ Below w.heap.size w w' := by
  have kO := Lib.hid (fun V => ladder_Of x y V hx hy)
  have kL := Lib.hid (fun V => ladder_Ladder k u V hu)
  rw [ladder_same k u hk] at kL
  obtain ⟨L, hL⟩ : ∃ L, (rng (u % fP) k).1 * invP (rng (u % fP) k).2.1 % fP = L := ⟨_, rfl⟩
  rw [hL] at kL
  have kM := Lib.hid (fun V => ref_Ladder k u (u % fP) (rng (u % fP) k).1 (rng (u % fP) k).2.1 (rng (u % fP) k).2.2.1 (rng (u % fP) k).2.2.2 _ _ V hk hu rfl rfl rfl hL)
  have kR := Lib.hid (fun V => ref_On x y V hx hy)
  have h1l : 1 < 2 ^ 256 := by decide +kernel
  have kF1 := Lib.hid (fun V => ref_Field 1 V h1l)
  have kFy := Lib.hid (fun V => ref_Field y V hy)
  have hon : onB x y = true → (1 % fP + y % fP) % fP * invP (lessM (1 % fP) (y % fP)) % fP = (1 + y) % fP * invP (difP 1 y) % fP := fun h => of_same y (on_lt h).2
  have hyl : y % fP < 2 ^ 256 := low_lt
  have h1r : 1 % fP < 2 ^ 256 := low_lt
  obtain ⟨yr, hyr⟩ : ∃ v, y % fP = v := ⟨_, rfl⟩
  rw [hyr] at kFy hon hyl
  obtain ⟨on, hon1⟩ : ∃ v, 1 % fP = v := ⟨_, rfl⟩
  rw [hon1] at kF1 hon h1r
  have kP := Lib.hid (fun V => fe_Plus on yr V h1r hyl)
  have kS := Lib.hid (fun V => fe_Less on yr V h1r hyl)
  rw [show (on + 4 * fP - yr) % fP = lessM on yr from rfl] at kS
  have hsl : (on + yr) % fP < 2 ^ 256 := low_lt
  have hdl : lessM on yr < 2 ^ 256 := low_lt
  obtain ⟨s, hs⟩ : ∃ v, (on + yr) % fP = v := ⟨_, rfl⟩
  rw [hs] at kP hon hsl
  obtain ⟨d, hd⟩ : ∃ v, lessM on yr = v := ⟨_, rfl⟩
  rw [hd] at kS hon hdl
  have kI := Lib.hid (fun V => fe_Over d V hdl)
  have hil : invP d < 2 ^ 256 := low_lt
  obtain ⟨i, hi⟩ : ∃ v, invP d = v := ⟨_, rfl⟩
  rw [hi] at kI hon hil
  have kB := Lib.hid (fun V => fe_By s i V hsl hil)
  have hml : s * i % fP < 2 ^ 256 := low_lt
  obtain ⟨m, hm⟩ : ∃ v, s * i % fP = v := ⟨_, rfl⟩
  rw [hm] at kB hon hml
  have kN := Lib.hid (fun V => fe_Num m V hml)
  obtain ⟨m2, hm2⟩ : ∃ v, (1 + y) % fP * invP (difP 1 y) % fP = v := ⟨_, rfl⟩
  rw [hm2] at kO hon
  rw [on_same] at kR
  obtain ⟨o, ho⟩ : ∃ v, onB x y = v := ⟨_, rfl⟩
  rw [ho] at kO kR hon
  obtain ⟨nv, ne, hN⟩ : ∃ (nv : Nat) (ne : Int), (bif o then (.tuple #[numV m2, .int .i64 0] : Value) else .tuple #[numV 0, .int .i64 1]) = .tuple #[.agg (arrK .u64 4 (wd nv)), .int .i64 ne] ∧ (o = true → nv = m ∧ ne = 0) ∧ (o = false → nv = 0 ∧ ne = 1) := by
    cases o
    · exact ⟨0, 1, rfl, (fun h => by cases h), fun _ => ⟨rfl, rfl⟩⟩
    · exact ⟨m2, 0, rfl, (fun _ => ⟨(hon rfl).symm, rfl⟩), fun h => by cases h⟩
  rw [hN.1] at kO
  replace hN := Lib.hid hN.2
  clear hon ho hm2 hm hml hi hil hd hdl hs hsl hon1 hyr h1r hyl h1l hL hk hu hx hy
  unfold numV at kL kM kF1 kFy kN
  try unfold numV
  unfold feV at kF1 kFy kP kS kI kB kN
  unfold ptV at kO kR ⊢
  have hcn := arrK_cells .u64 4 (wd nv)
  have hcy := arrK_cells .i64 16 (dgt yr)
  have hco := arrK_cells .i64 16 (dgt on)
  have hc0 := arrK_cells .u64 4 (wd 0)
  have hcf := arrK_cells .i64 16 fun _ => 0
  have hL0 : Below w.heap.size w (((w.alloc (Obj.cells (arrK .u64 4 (wd k)) 24)).alloc (Obj.cells (arrK .u64 4 (wd u)) 24)).alloc (Obj.cells (arrK .u64 8 (cat2 (wd x) (wd y))) 42)) := by go_grown
  have hK0 : At (((w.alloc (Obj.cells (arrK .u64 4 (wd k)) 24)).alloc (Obj.cells (arrK .u64 4 (wd u)) 24)).alloc (Obj.cells (arrK .u64 8 (cat2 (wd x) (wd y))) 42)) w.heap.size .u64 4 (wd k) := (((At.new _ rfl)).old _).old _
  have hU0 : At (((w.alloc (Obj.cells (arrK .u64 4 (wd k)) 24)).alloc (Obj.cells (arrK .u64 4 (wd u)) 24)).alloc (Obj.cells (arrK .u64 8 (cat2 (wd x) (wd y))) 42)) (w.heap.size + 1) .u64 4 (wd u) := ((At.new _ (by simp))).old _
  have hA0 : At (((w.alloc (Obj.cells (arrK .u64 4 (wd k)) 24)).alloc (Obj.cells (arrK .u64 4 (wd u)) 24)).alloc (Obj.cells (arrK .u64 8 (cat2 (wd x) (wd y))) 42)) (w.heap.size + 1 + 1) .u64 8 (cat2 (wd x) (wd y)) := At.new _ (by simp)
  have hL := Lib.hid hL0
  have hK := Lib.hid hK0
  have hU := Lib.hid hU0
  have hA := Lib.hid hA0
  clear hL0 hK0 hU0 hA0
  go_enter Try.func6, Try.ntmps6
  go_upto_region 1 with (fail)
  generalize ((w.alloc _).alloc _).alloc _ = W0 at *
  have hr1 := hA.out.row
  have hr2 := hA.out.eq
  go_upto_region 2 with (fail)
  refine (kO.out _).mono ?_
  rintro e w2 ⟨rfl, hb⟩
  replace hK := Lib.hid (hK.out.step hb)
  replace hU := Lib.hid (hU.out.step hb)
  replace hA := Lib.hid (hA.out.step hb)
  replace hL := Lib.hid (below_step hb hL.out (Nat.le_refl _))
  clear hr1 hr2 hb kO
  dsimp only
  have hX7 := Lib.hid (At.new (w := w2) (k := .u64) (m := 4) (f := wd nv) 24 rfl)
  replace hK := Lib.hid (hK.out.old (Obj.cells (arrK .u64 4 (wd nv)) 24))
  replace hU := Lib.hid (hU.out.old (Obj.cells (arrK .u64 4 (wd nv)) 24))
  replace hA := Lib.hid (hA.out.old (Obj.cells (arrK .u64 4 (wd nv)) 24))
  replace hL := Lib.hid (Below.trans hL.out ((below_alloc w2 (Obj.cells (arrK .u64 4 (wd nv)) 24)).mono hL.out.size))
  go_upto_region 2 with (fail)
  obtain ⟨g7, hg⟩ : ∃ g, w2.heap.size = g := ⟨_, rfl⟩
  rw [hg] at hX7 ⊢
  clear hg
  generalize w2.alloc _ = W2 at *
  generalize ha0 : Act.mk _ _ = a0
  have e3 : a0.tmps[3]?.getD undef = .pointer (some ⟨w.heap.size, 0, none⟩) := by rw [← ha0]; rfl
  have e4 : a0.tmps[4]?.getD undef = .pointer (some ⟨w.heap.size + 1, 0, none⟩) := by rw [← ha0]; rfl
  have hz0 : a0.tmps.size = 53 := by rw [← ha0]; rfl
  have hha0 := Lib.hid ha0
  clear ha0
  refine wp_region_calm (fun jx_ => match jx_ with | 0 => SRel.is (.agg (arrK .u64 4 (wd k))) | 1 => SRel.is (.agg (arrK .u64 4 (wd u))) | 2 => SRel.is (.agg (arrK .u64 4 (wd L))) | 3 => SRel.is (.agg (arrK .u64 4 (wd k))) | 4 => SRel.is (.agg (arrK .u64 4 (wd u))) | 5 => SRel.is (.agg (arrK .u64 4 (wd L))) | 6 => SRel.is (.bool false) | _ => SRel.any) (by kernel_rfl) (by kernel_rfl) (by kernel_rfl) (slotsOk_of hz0 (by kernel_rfl)) ⟨?_, ?_, ?_, ?_, ?_, ?_, ?_, trivial⟩ ?_
  · refine calm_step rfl fun a ω κ hb hu hc hK => ?_
    have h3 : a.tmps[3]?.getD undef = .pointer (some ⟨w.heap.size, 0, none⟩) := (hu 3 rfl).trans e3
    have hk := Lib.hid (fun w1 (h : Below ω.heap.size ω w1) => hK (.agg (arrK .u64 4 (wd k))) w1 rfl h)
    clear hK hu hc
    have hr1 := (hK.out.step hb).row
    have hr2 := (hK.out.step hb).eq
    go_simp
    exact hk.out _ (Below.refl _ _)
  · refine calm_step rfl fun a ω κ hb hu hc hK => ?_
    have h4 : a.tmps[4]?.getD undef = .pointer (some ⟨w.heap.size + 1, 0, none⟩) := (hu 4 rfl).trans e4
    have hk := Lib.hid (fun w1 (h : Below ω.heap.size ω w1) => hK (.agg (arrK .u64 4 (wd u))) w1 rfl h)
    clear hK hu hc
    have hr1 := (hU.out.step hb).row
    have hr2 := (hU.out.step hb).eq
    go_simp
    exact hk.out _ (Below.refl _ _)
  · refine calm_step rfl fun a ω κ hb hu hc hK => ?_
    have h16 : a.tmps[16]?.getD undef = .agg (arrK .u64 4 (wd k)) := hc 0 16 rfl rfl
    have h17 : a.tmps[17]?.getD undef = .agg (arrK .u64 4 (wd u)) := hc 1 17 rfl rfl
    have hk := Lib.hid (fun w1 (h : Below ω.heap.size ω w1) => hK (.agg (arrK .u64 4 (wd L))) w1 rfl h)
    clear hK hu hc
    go_simp
    go_at_call 42
    refine (kL.out _).mono ?_
    rintro e w1 ⟨rfl, hb1⟩
    exact hk.out _ hb1
  · refine calm_step rfl fun a ω κ hb hu hc hK => ?_
    have h3 : a.tmps[3]?.getD undef = .pointer (some ⟨w.heap.size, 0, none⟩) := (hu 3 rfl).trans e3
    have hk := Lib.hid (fun w1 (h : Below ω.heap.size ω w1) => hK (.agg (arrK .u64 4 (wd k))) w1 rfl h)
    clear hK hu hc
    have hr1 := (hK.out.step hb).row
    have hr2 := (hK.out.step hb).eq
    go_simp
    exact hk.out _ (Below.refl _ _)
  · refine calm_step rfl fun a ω κ hb hu hc hK => ?_
    have h4 : a.tmps[4]?.getD undef = .pointer (some ⟨w.heap.size + 1, 0, none⟩) := (hu 4 rfl).trans e4
    have hk := Lib.hid (fun w1 (h : Below ω.heap.size ω w1) => hK (.agg (arrK .u64 4 (wd u))) w1 rfl h)
    clear hK hu hc
    have hr1 := (hU.out.step hb).row
    have hr2 := (hU.out.step hb).eq
    go_simp
    exact hk.out _ (Below.refl _ _)
  · refine calm_step rfl fun a ω κ hb hu hc hK => ?_
    have h19 : a.tmps[19]?.getD undef = .agg (arrK .u64 4 (wd k)) := hc 3 19 rfl rfl
    have h20 : a.tmps[20]?.getD undef = .agg (arrK .u64 4 (wd u)) := hc 4 20 rfl rfl
    have hk := Lib.hid (fun w1 (h : Below ω.heap.size ω w1) => hK (.agg (arrK .u64 4 (wd L))) w1 rfl h)
    clear hK hu hc
    go_simp
    go_at_call 43
    refine (kM.out _).mono ?_
    rintro e w1 ⟨rfl, hb1⟩
    exact hk.out _ hb1
  · refine calm_step rfl fun a ω κ hb hu hc hK => ?_
    have h18 : a.tmps[18]?.getD undef = .agg (arrK .u64 4 (wd L)) := hc 2 18 rfl rfl
    have h21 : a.tmps[21]?.getD undef = .agg (arrK .u64 4 (wd L)) := hc 5 21 rfl rfl
    have hk := Lib.hid (fun w1 (h : Below ω.heap.size ω w1) => hK (.bool false) w1 rfl h)
    clear hK hu hc
    exact wp_eqlA (v := arrK .u64 4 (wd L)) (u := arrK .u64 4 (wd L)) (.inl rfl) (by kernel_rfl) (by go_simp) (by go_simp) (neqN4E _ _) (hk.out _ (Below.refl _ _))
  · intro a1 w1 hb1 hu1 hsz1 hdf1 hc1
    have ha0 := hha0.out
    subst ha0
    have he := act_patch (n := 53) [false, false, false, false, false, false, false, false, false, false, false, false, false, false, false, false, true, true, true, true, true, true, true, false, false, false, false, false, false, false, false, false, false, false, false, false, false, false, false, false, false, false, false, false, false, false, false, false, false, false, false, false, false] rfl (by kernel_rfl) hu1 hsz1 hdf1
    simp only [patch, cond_true, cond_false, Nat.reduceAdd] at he
    have hkn22 : a1.tmps[22]?.getD undef = .bool false := hc1 6 22 rfl
    replace hA := Lib.hid (hA.out.step hb1)
    replace hX7 := Lib.hid (hX7.out.step hb1)
    replace hL := Lib.hid (below_step hb1 hL.out (Nat.le_refl _))
    clear kL kM hK hU
    clear hb1 hu1 hsz1 hdf1 hc1 hz0 hha0 e3 e4
    rw [he]
    clear he
    rw [hkn22]
    clear hkn22
    generalize a1.tmps[16]?.getD undef = x16 at *
    generalize a1.tmps[17]?.getD undef = x17 at *
    generalize a1.tmps[18]?.getD undef = x18 at *
    generalize a1.tmps[19]?.getD undef = x19 at *
    generalize a1.tmps[20]?.getD undef = x20 at *
    generalize a1.tmps[21]?.getD undef = x21 at *
    generalize w1 = W3 at *
    have hr1 := hA.out.row
    have hr2 := hA.out.eq
    go_upto_region 5 with (fail)
    refine (kR.out _).mono ?_
    rintro e w4 ⟨rfl, hb⟩
    replace hA := Lib.hid (hA.out.step hb)
    replace hX7 := Lib.hid (hX7.out.step hb)
    replace hL := Lib.hid (below_step hb hL.out (Nat.le_refl _))
    clear hr1 hr2 hb kR
    dsimp only
    cases o with
    | false =>
      obtain ⟨rfl, rfl⟩ := hN.out.2 rfl
      clear hN
      have hr1 := hX7.out.row
      have hr2 := hX7.out.eq
      go_wp2_with (first
        | refine wpList_opW (by go_simp) (fun K hK => wp_bldE rfl (build_nm0 _) (hK _ _ ?_))
        | refine wpList_opW (by go_simp) (fun K hK => wp_eqlA (.inr rfl) (by kernel_rfl) (v := arrK .u64 4 (wd 0)) (u := arrK .u64 4 (wd 0)) (by go_simp) (by go_simp) (eqlN4B _ _) (hK _ _ ?_)))
      exact ret_tmp (p := 6) (v := .bool true) rfl (by simp) rfl ⟨rfl, hL.out⟩
    | true =>
      obtain ⟨e1, e2⟩ := hN.out.1 rfl
      rw [e1] at hX7
      subst e2
      clear hN e1
      have hl := pt_1 hA.out
      have hl1 := hl.1
      have hl2 := hl.2
      go_upto_region 7 with (first
        | refine wpList_bldA (vx := Value.int IntKind.u64 (1 : Int)) rfl rfl rfl (build_one _) ?_)
      refine (kFy.out _).mono ?_
      rintro e w5 ⟨rfl, hb⟩
      replace hX7 := Lib.hid (hX7.out.step hb)
      replace hL := Lib.hid (below_step hb hL.out (Nat.le_refl _))
      clear hb kFy hA hl hl1 hl2
      dsimp only
      go_upto_region 7 with (first
        | refine wpList_bldA (vx := Value.int IntKind.u64 (1 : Int)) rfl rfl rfl (build_one _) ?_)
      refine (kF1.out _).mono ?_
      rintro e w6 ⟨rfl, hb⟩
      replace hX7 := Lib.hid (hX7.out.step hb)
      replace hL := Lib.hid (below_step hb hL.out (Nat.le_refl _))
      clear hb kF1
      dsimp only
      have hY9 := Lib.hid ((At.new (w := w6) (k := .i64) (m := 16) (f := dgt yr) 26 rfl).old (Obj.cells (arrK .i64 16 (dgt on)) 26))
      have hY10 := Lib.hid (At.new (w := w6.alloc (Obj.cells (arrK .i64 16 (dgt yr)) 26)) (g := w6.heap.size + 1) (k := .i64) (m := 16) (f := dgt on) 26 (by simp))
      replace hX7 := Lib.hid ((hX7.out.old (Obj.cells (arrK .i64 16 (dgt yr)) 26)).old (Obj.cells (arrK .i64 16 (dgt on)) 26))
      replace hL := Lib.hid (Below.trans (Below.trans hL.out ((below_alloc w6 (Obj.cells (arrK .i64 16 (dgt yr)) 26)).mono hL.out.size)) ((below_alloc (w6.alloc (Obj.cells (arrK .i64 16 (dgt yr)) 26)) (Obj.cells (arrK .i64 16 (dgt on)) 26)).mono (by simp; have := hL.out.size; omega)))
      go_upto_region 7 with (fail)
      obtain ⟨g9, hg⟩ : ∃ g, w6.heap.size = g := ⟨_, rfl⟩
      rw [hg] at hY9 hY10 ⊢
      clear hg
      obtain ⟨g10, hg⟩ : ∃ g, g9 + 1 = g := ⟨_, rfl⟩
      rw [hg] at hY10 ⊢
      clear hg
      generalize (w6.alloc _).alloc _ = W6 at *
      generalize ha0 : Act.mk _ _ = a0
      have e7 : a0.tmps[7]?.getD undef = .pointer (some ⟨g7, 0, none⟩) := by rw [← ha0]; rfl
      have e8 : a0.tmps[8]?.getD undef = .int .i64 0 := by rw [← ha0]; rfl
      have e9 : a0.tmps[9]?.getD undef = .pointer (some ⟨g9, 0, none⟩) := by rw [← ha0]; rfl
      have e10 : a0.tmps[10]?.getD undef = .pointer (some ⟨g10, 0, none⟩) := by rw [← ha0]; rfl
      have hz0 : a0.tmps.size = 53 := by rw [← ha0]; rfl
      have hha0 := Lib.hid ha0
      clear ha0
      refine wp_region_calm (fun jx_ => match jx_ with | 0 => SRel.is (.int .i64 0) | 1 => SRel.is (.bool true) | 2 => SRel.is (.bool true) | 3 => SRel.is (.agg (arrK .u64 4 (wd m))) | 4 => SRel.is (.agg (arrK .i64 16 (dgt on))) | 5 => SRel.is (.agg (arrK .i64 16 (dgt yr))) | 6 => SRel.is (.agg (arrK .i64 16 (dgt s))) | 7 => SRel.is (.agg (arrK .i64 16 (dgt on))) | 8 => SRel.is (.agg (arrK .i64 16 (dgt yr))) | 9 => SRel.is (.agg (arrK .i64 16 (dgt d))) | 10 => SRel.is (.agg (arrK .i64 16 (dgt i))) | 11 => SRel.is (.agg (arrK .i64 16 (dgt m))) | 12 => SRel.is (.agg (arrK .u64 4 (wd m))) | 13 => SRel.is (.bool true) | 14 => SRel.is (.bool true) | 15 => SRel.is (.bool true) | _ => SRel.any) (by kernel_rfl) (by kernel_rfl) (by kernel_rfl) (slotsOk_of hz0 (by kernel_rfl)) ⟨?_, ?_, ?_, ?_, ?_, ?_, ?_, ?_, ?_, ?_, ?_, ?_, ?_, ?_, ?_, ?_, trivial⟩ ?_
      · refine calm_step rfl fun a ω κ hb hu hc hK => ?_
        have h8 : a.tmps[8]?.getD undef = .int .i64 0 := (hu 8 rfl).trans e8
        have hk := Lib.hid (fun w1 (h : Below ω.heap.size ω w1) => hK (.int .i64 0) w1 rfl h)
        clear hK hu hc
        go_simp
        exact hk.out _ (Below.refl _ _)
      · refine calm_step rfl fun a ω κ hb hu hc hK => ?_
        have h38 : a.tmps[38]?.getD undef = .int .i64 0 := hc 0 38 rfl rfl
        have hk := Lib.hid (fun w1 (h : Below ω.heap.size ω w1) => hK (.bool true) w1 rfl h)
        clear hK hu hc
        go_simp
        exact hk.out _ (Below.refl _ _)
      · refine calm_step rfl fun a ω κ hb hu hc hK => ?_
        have h39 : a.tmps[39]?.getD undef = .bool true := hc 1 39 rfl rfl
        have hk := Lib.hid (fun w1 (h : Below ω.heap.size ω w1) => hK (.bool true) w1 rfl h)
        clear hK hu hc
        go_simp
        exact hk.out _ (Below.refl _ _)
      · refine calm_step_guard (g := 2) (b := true) (d := 40) rfl rfl (fun a w hc => hc 2 40 rfl rfl) fun a ω κ hb hu hc hK => ?_
        have h7 : a.tmps[7]?.getD undef = .pointer (some ⟨g7, 0, none⟩) := (hu 7 rfl).trans e7
        have hk := Lib.hid (fun w1 (h : Below ω.heap.size ω w1) => hK (.agg (arrK .u64 4 (wd m))) w1 rfl h)
        clear hK hu hc
        have hr1 := (hX7.out.step hb).row
        have hr2 := (hX7.out.step hb).eq
        go_simp
        exact hk.out _ (Below.refl _ _)
      · refine calm_step_guard (g := 2) (b := true) (d := 40) rfl rfl (fun a w hc => hc 2 40 rfl rfl) fun a ω κ hb hu hc hK => ?_
        have h10 : a.tmps[10]?.getD undef = .pointer (some ⟨g10, 0, none⟩) := (hu 10 rfl).trans e10
        have hk := Lib.hid (fun w1 (h : Below ω.heap.size ω w1) => hK (.agg (arrK .i64 16 (dgt on))) w1 rfl h)
        clear hK hu hc
        have hr1 := (hY10.out.step hb).row
        have hr2 := (hY10.out.step hb).eq
        go_simp
        exact hk.out _ (Below.refl _ _)
      · refine calm_step_guard (g := 2) (b := true) (d := 40) rfl rfl (fun a w hc => hc 2 40 rfl rfl) fun a ω κ hb hu hc hK => ?_
        have h9 : a.tmps[9]?.getD undef = .pointer (some ⟨g9, 0, none⟩) := (hu 9 rfl).trans e9
        have hk := Lib.hid (fun w1 (h : Below ω.heap.size ω w1) => hK (.agg (arrK .i64 16 (dgt yr))) w1 rfl h)
        clear hK hu hc
        have hr1 := (hY9.out.step hb).row
        have hr2 := (hY9.out.step hb).eq
        go_simp
        exact hk.out _ (Below.refl _ _)
      · refine calm_step_guard (g := 2) (b := true) (d := 40) rfl rfl (fun a w hc => hc 2 40 rfl rfl) fun a ω κ hb hu hc hK => ?_
        have h42 : a.tmps[42]?.getD undef = .agg (arrK .i64 16 (dgt on)) := hc 4 42 rfl rfl
        have h43 : a.tmps[43]?.getD undef = .agg (arrK .i64 16 (dgt yr)) := hc 5 43 rfl rfl
        have hk := Lib.hid (fun w1 (h : Below ω.heap.size ω w1) => hK (.agg (arrK .i64 16 (dgt s))) w1 rfl h)
        clear hK hu hc
        go_simp
        go_at_call 21
        refine (kP.out _).mono ?_
        rintro e w1 ⟨rfl, hb1⟩
        exact hk.out _ hb1
      · refine calm_step_guard (g := 2) (b := true) (d := 40) rfl rfl (fun a w hc => hc 2 40 rfl rfl) fun a ω κ hb hu hc hK => ?_
        have h10 : a.tmps[10]?.getD undef = .pointer (some ⟨g10, 0, none⟩) := (hu 10 rfl).trans e10
        have hk := Lib.hid (fun w1 (h : Below ω.heap.size ω w1) => hK (.agg (arrK .i64 16 (dgt on))) w1 rfl h)
        clear hK hu hc
        have hr1 := (hY10.out.step hb).row
        have hr2 := (hY10.out.step hb).eq
        go_simp
        exact hk.out _ (Below.refl _ _)
      · refine calm_step_guard (g := 2) (b := true) (d := 40) rfl rfl (fun a w hc => hc 2 40 rfl rfl) fun a ω κ hb hu hc hK => ?_
        have h9 : a.tmps[9]?.getD undef = .pointer (some ⟨g9, 0, none⟩) := (hu 9 rfl).trans e9
        have hk := Lib.hid (fun w1 (h : Below ω.heap.size ω w1) => hK (.agg (arrK .i64 16 (dgt yr))) w1 rfl h)
        clear hK hu hc
        have hr1 := (hY9.out.step hb).row
        have hr2 := (hY9.out.step hb).eq
        go_simp
        exact hk.out _ (Below.refl _ _)
      · refine calm_step_guard (g := 2) (b := true) (d := 40) rfl rfl (fun a w hc => hc 2 40 rfl rfl) fun a ω κ hb hu hc hK => ?_
        have h45 : a.tmps[45]?.getD undef = .agg (arrK .i64 16 (dgt on)) := hc 7 45 rfl rfl
        have h46 : a.tmps[46]?.getD undef = .agg (arrK .i64 16 (dgt yr)) := hc 8 46 rfl rfl
        have hk := Lib.hid (fun w1 (h : Below ω.heap.size ω w1) => hK (.agg (arrK .i64 16 (dgt d))) w1 rfl h)
        clear hK hu hc
        go_simp
        go_at_call 23
        refine (kS.out _).mono ?_
        rintro e w1 ⟨rfl, hb1⟩
        exact hk.out _ hb1
      · refine calm_step_guard (g := 2) (b := true) (d := 40) rfl rfl (fun a w hc => hc 2 40 rfl rfl) fun a ω κ hb hu hc hK => ?_
        have h47 : a.tmps[47]?.getD undef = .agg (arrK .i64 16 (dgt d)) := hc 9 47 rfl rfl
        have hk := Lib.hid (fun w1 (h : Below ω.heap.size ω w1) => hK (.agg (arrK .i64 16 (dgt i))) w1 rfl h)
        clear hK hu hc
        go_simp
        go_at_call 27
        refine (kI.out _).mono ?_
        rintro e w1 ⟨rfl, hb1⟩
        exact hk.out _ hb1
      · refine calm_step_guard (g := 2) (b := true) (d := 40) rfl rfl (fun a w hc => hc 2 40 rfl rfl) fun a ω κ hb hu hc hK => ?_
        have h44 : a.tmps[44]?.getD undef = .agg (arrK .i64 16 (dgt s)) := hc 6 44 rfl rfl
        have h48 : a.tmps[48]?.getD undef = .agg (arrK .i64 16 (dgt i)) := hc 10 48 rfl rfl
        have hk := Lib.hid (fun w1 (h : Below ω.heap.size ω w1) => hK (.agg (arrK .i64 16 (dgt m))) w1 rfl h)
        clear hK hu hc
        go_simp
        go_at_call 25
        refine (kB.out _).mono ?_
        rintro e w1 ⟨rfl, hb1⟩
        exact hk.out _ hb1
      · refine calm_step_guard (g := 2) (b := true) (d := 40) rfl rfl (fun a w hc => hc 2 40 rfl rfl) fun a ω κ hb hu hc hK => ?_
        have h49 : a.tmps[49]?.getD undef = .agg (arrK .i64 16 (dgt m)) := hc 11 49 rfl rfl
        have hk := Lib.hid (fun w1 (h : Below ω.heap.size ω w1) => hK (.agg (arrK .u64 4 (wd m))) w1 rfl h)
        clear hK hu hc
        go_simp
        go_at_call 19
        refine (kN.out _).mono ?_
        rintro e w1 ⟨rfl, hb1⟩
        exact hk.out _ hb1
      · refine calm_step_guard (g := 2) (b := true) (d := 40) rfl rfl (fun a w hc => hc 2 40 rfl rfl) fun a ω κ hb hu hc hK => ?_
        have h41 : a.tmps[41]?.getD undef = .agg (arrK .u64 4 (wd m)) := hc 3 41 rfl rfl
        have h50 : a.tmps[50]?.getD undef = .agg (arrK .u64 4 (wd m)) := hc 12 50 rfl rfl
        have hk := Lib.hid (fun w1 (h : Below ω.heap.size ω w1) => hK (.bool true) w1 rfl h)
        clear hK hu hc
        exact wp_eqlA (v := arrK .u64 4 (wd m)) (u := arrK .u64 4 (wd m)) (.inr rfl) (by kernel_rfl) (by go_simp) (by go_simp) (eqlN4B _ _) (hk.out _ (Below.refl _ _))
      · refine calm_step rfl fun a ω κ hb hu hc hK => ?_
        have h40 : a.tmps[40]?.getD undef = .bool true := hc 2 40 rfl rfl
        have h51 : a.tmps[51]?.getD undef = .bool true := hc 13 51 rfl rfl
        have hk := Lib.hid (fun w1 (h : Below ω.heap.size ω w1) => hK (.bool true) w1 rfl h)
        clear hK hu hc
        go_simp
        exact hk.out _ (Below.refl _ _)
      · refine calm_step rfl fun a ω κ hb hu hc hK => ?_
        have h52 : a.tmps[52]?.getD undef = .bool true := hc 14 52 rfl rfl
        have hk := Lib.hid (fun w1 (h : Below ω.heap.size ω w1) => hK (.bool true) w1 rfl h)
        clear hK hu hc
        go_simp
        exact hk.out _ (Below.refl _ _)
      · intro a1 w1 hb1 hu1 hsz1 hdf1 hc1
        have ha0 := hha0.out
        subst ha0
        have he := act_patch (n := 53) [false, false, false, false, false, false, true, false, false, false, false, false, false, false, false, false, false, false, false, false, false, false, false, false, false, false, false, false, false, false, false, false, false, false, false, false, false, false, true, true, true, true, true, true, true, true, true, true, true, true, true, true, true] rfl (by kernel_rfl) hu1 hsz1 hdf1
        simp only [patch, cond_true, cond_false, Nat.reduceAdd] at he
        have hkn6 : a1.tmps[6]?.getD undef = .bool true := hc1 15 6 rfl
        replace hL := Lib.hid (below_step hb1 hL.out (Nat.le_refl _))
        clear hb1 hu1 hsz1 hdf1 hc1 hz0 hha0 e7 e8 e9 e10
        rw [he]
        clear he
        rw [hkn6]
        clear hkn6
        generalize a1.tmps[38]?.getD undef = x38 at *
        generalize a1.tmps[39]?.getD undef = x39 at *
        generalize a1.tmps[40]?.getD undef = x40 at *
        generalize a1.tmps[41]?.getD undef = x41 at *
        generalize a1.tmps[42]?.getD undef = x42 at *
        generalize a1.tmps[43]?.getD undef = x43 at *
        generalize a1.tmps[44]?.getD undef = x44 at *
        generalize a1.tmps[45]?.getD undef = x45 at *
        generalize a1.tmps[46]?.getD undef = x46 at *
        generalize a1.tmps[47]?.getD undef = x47 at *
        generalize a1.tmps[48]?.getD undef = x48 at *
        generalize a1.tmps[49]?.getD undef = x49 at *
        generalize a1.tmps[50]?.getD undef = x50 at *
        generalize a1.tmps[51]?.getD undef = x51 at *
        generalize a1.tmps[52]?.getD undef = x52 at *
        go_wp2_with fail
        exact ret_tmp (p := 6) (v := .bool true) rfl (by simp) rfl ⟨rfl, hL.out⟩
end Go.Proofs.Ytodcjeaannfbnaa
namespace Go.Proofs.Ytodcjeaannfbnaa
open Go Go.RowKit Go.ChangeShapes Go.WideShapes Go.ChangeAt Go.Deep

section
variable {P : Program} {w : World} {r : Reach} {b0 : Nat} {t : TypeId} {v : Value}

theorem oneCell_of_okWide {u : TypeId} {x : Value} (h : Cell.okWide P w r b0 u x) : x.oneCell' = true := by
  cases x <;> first | rfl | (exfalso; unfold Cell.okWide Cell.ok at h; revert h; split <;> (try split) <;> simp_all)

/-- A struct or an array by value: its cells, each of its own type. -/
theorem open_cells {n : Nat} {ts : List TypeId} (hu : (match P.underlying t with | some (.struct _) | some (.array _ _) => true | _ => false) = true) (hts : P.cellTypes P.depth t = some ts) (hn : ts.length = n)
    (hC : P.cellsOf t = n) (h : Value.okWide P w r b0 t v) : ∃ c : Array Value, v = .agg c ∧ Cells c n ∧ ∀ (i : Nat) u, ts[i]? = some u → ∃ x, c[i]? = some x ∧ Cell.okWide P w r b0 u x := by
  have h' : ∃ cs, v = .agg cs ∧ cs.size = P.cellsOf t ∧ Row.okWide P w r b0 t cs := by
    unfold Value.okWide at h
    cases hd : P.underlying t with
    | none => simp [hd] at hu
    | some d => cases d <;> first | (simp [hd] at hu; done) | (simpa [hd] using h)
  obtain ⟨c, rfl, hs, ts', hts', -, hc⟩ := h'
  obtain rfl : ts = ts' := Option.some.inj (hts.symm.trans hts')
  rw [hC] at hs
  refine ⟨c, rfl, ⟨hs, ?_⟩, fun i u hi => ?_⟩
  · rw [Array.all_eq_true_iff_forall_mem]
    intro x hx
    obtain ⟨i, hi⟩ := Array.getElem?_of_mem hx
    obtain ⟨u, -, hk⟩ := hc i x hi
    exact oneCell_of_okWide hk
  · have hil : i < ts.length := (List.getElem?_eq_some_iff.1 hi).1
    have hi2 : i < c.size := by omega
    obtain ⟨u', h1, h2⟩ := hc i c[i] (Array.getElem?_eq_getElem hi2)
    rw [Nat.mod_eq_of_lt hil] at h1
    obtain rfl : u = u' := Option.some.inj (hi.symm.trans h1)
    exact ⟨_, Array.getElem?_eq_getElem hi2, h2⟩

theorem cell_int {u : TypeId} {k : IntKind} {x : Value} (hu : P.underlying u = some (.int k)) (h : Cell.okWide P w r b0 u x) : ∃ n, x = .int k n ∧ k.has n := by
  cases x <;> simp [Cell.okWide, Cell.ok, hu] at h
  obtain ⟨rfl, h⟩ := h
  exact ⟨_, rfl, h⟩
theorem cell_slice {u e : TypeId} {x : Value} (hu : P.underlying u = some (.slice e)) (h : Cell.okWide P w r b0 u x) : ∃ a n c, x = .slice a n c ∧ n ≤ c ∧ c ≤ 9223372036854775807 := by
  cases x with
  | slice a n c =>
    cases a with
    | none =>
      cases n <;> cases c <;> simp [Cell.okWide, Cell.ok, hu] at h
      exact ⟨_, _, _, rfl, by omega, by omega⟩
    | some a =>
      simp [Cell.okWide, Cell.ok, hu] at h
      exact ⟨_, _, _, rfl, h.1, by have h2 : (c : Int) ≤ 9223372036854775807 := h.2.1; omega⟩
  | _ => simp [Cell.okWide, Cell.ok, hu] at h
theorem has_u8 {n : Int} (h : IntKind.u8.has n) : 0 ≤ n ∧ n < 256 := by simp [IntKind.has, IntKind.min, IntKind.max, IntKind.bits, IntKind.signed] at h; omega
theorem has_u32 {n : Int} (h : IntKind.u32.has n) : 0 ≤ n ∧ n < 4294967296 := by simp [IntKind.has, IntKind.min, IntKind.max, IntKind.bits, IntKind.signed] at h; omega
theorem has_u64 {n : Int} (h : IntKind.u64.has n) : 0 ≤ n ∧ n < 18446744073709551616 := by simp [IntKind.has, IntKind.min, IntKind.max, IntKind.bits, IntKind.signed] at h; omega
theorem has_i64 {n : Int} (h : IntKind.i64.has n) : -9223372036854775808 ≤ n ∧ n < 9223372036854775808 := by simp [IntKind.has, IntKind.min, IntKind.max, IntKind.bits, IntKind.signed] at h; omega
end

theorem cell_lt {w : World} {a : Addr} {v : Value} (h : w.cell? a = some v) : a.block < w.heap.size := by
  rcases Nat.lt_or_ge a.block w.heap.size with hlt | hge
  · exact hlt
  · simp only [World.cell?, Array.getElem?_eq_none hge] at h; cases h

/-- One choice for each index, as a list. -/
theorem list_of {α : Type} (n : Nat) (p : Nat → α → Prop) (h : ∀ i, i < n → ∃ x, p i x) : ∃ l : List α, l.length = n ∧ ∀ i (hi : i < l.length), p i l[i] := by
  induction n with
  | zero => exact ⟨[], rfl, fun i hi => absurd hi (by simp)⟩
  | succ n ih =>
    obtain ⟨l, hl, hp⟩ := ih fun i hi => h i (by omega)
    obtain ⟨x, hx⟩ := h n (by omega)
    refine ⟨l ++ [x], by simp [hl], fun i hi => ?_⟩
    by_cases hlt : i < l.length
    · rw [List.getElem_append_left hlt]; exact hp i hlt
    · have : i = l.length := by simp at hi; omega
      subst this
      rw [List.getElem_append_right (Nat.le_refl _)]
      simpa [hl] using hx

section
variable {H : Type} {enc : TypeId × Value → H} {P : Program} {w : World} {base : Nat} {spare : Nat → Bool} {held : Bool}

theorem wf_u8 {z : Int} (h : (Lit.int .u8 z).wf = true) : 0 ≤ z ∧ z < 256 := by
  simp only [Lit.wf, Bool.and_eq_true, decide_eq_true_eq] at h
  exact has_u8 h

/-- A slice of bytes that came in, by its reading. -/
theorem open_bytes {t e : TypeId} {fuel : Nat} {v : Value} {x : DataW H × List MemPlace} (ht : P.underlying t = some (.slice e)) (he : P.underlying e = some (.int .u8)) (hc : P.cellsOf e = 1)
    (h : DataW.trod enc P w base spare held fuel t [v] = some x) : ∃ (A : Option Addr) (l : List UInt8) (c : Nat), v = .slice A l.length c ∧ Rd w w.heap.size A (bytesV l) ∧ l.length ≤ c ∧ c ≤ maxLen := by
  rcases open_ints ht he hc h with ⟨hcs, -⟩ | ⟨a, len, cap, zs, hcs, -, hl, hm, hz, -, hcell, hwz⟩
  · injection hcs with hv
    exact ⟨none, [], 0, hv, Rd.nil, by simp, by simp [maxLen]⟩
  · injection hcs with hv
    have hlz : len ≤ zs.length := by rw [hz]; split <;> omega
    have hmap : ((zs.take len).map fun z => UInt8.ofNat z.toNat).length = len := by simp; omega
    refine ⟨some a, (zs.take len).map fun z => UInt8.ofNat z.toNat, cap, by rw [hmap]; exact hv, fun j u hu => ?_, by rw [hmap]; exact hl, hm⟩
    have hj : j < len := by
      have := (List.getElem?_eq_some_iff.1 hu).1
      simp [bytesV] at this; omega
    have hjz : j < zs.length := by omega
    have hcj := hcell j hjz
    have hlt := cell_lt hcj
    rw [addr_block] at hlt
    refine ⟨a, rfl, hlt, ?_⟩
    rw [hcj, ← hu]
    have hw := wf_u8 (hwz zs[j] (List.getElem_mem hjz))
    simp [bytesV, hj, List.getElem?_eq_getElem hjz, UInt8.toNat_ofNat']
    omega

/-- A slice of structs of one-cell fields that came in: each field's cell, and its own reading. -/
theorem open_rows {t e : TypeId} {fs : Array Field} {fuel : Nat} {v : Value} {x : DataW H × List MemPlace} (ht : P.underlying t = some (.slice e)) (he : P.underlying e = some (.struct fs))
    (hone : oneCellFields P fs = true) (hC : P.cellsOf e = fs.size) (h : DataW.trod enc P w base spare held fuel t [v] = some x) :
    ∃ (A : Option Addr) (n c : Nat), v = .slice A n c ∧ n ≤ c ∧ c ≤ maxLen ∧ ∀ i, i < n → ∃ a, A = some a ∧
      ∀ (j : Nat) (f : Field), fs[j]? = some f → ∃ (u : Value) (y : DataW H × List MemPlace) (m : Nat), w.cell? (a.add (i * fs.size + j)) = some u ∧ DataW.trod enc P w base spare held m f.type [u] = some y := by
  rcases open_slice ht h with ⟨hcs, -⟩ | ⟨a, len, cap, m, n, D, Pl, hcs, -, hl, hm, hmm, -, hi⟩
  · injection hcs with hv
    exact ⟨none, 0, 0, hv, Nat.le_refl _, by simp [maxLen], fun i hi => absurd hi (by omega)⟩
  · injection hcs with hv
    refine ⟨some a, len, cap, hv, hl, hm, fun i hil => ⟨a, rfl, fun j f hj => ?_⟩⟩
    have him : i < m := by rw [hmm]; split <;> omega
    obtain ⟨cs', hc, ht'⟩ := hi i him
    rw [hC] at hc
    obtain ⟨ys, n', -, -, -, hyl, hf⟩ := DataW.trod_struct he ht'
    obtain ⟨_, hcl, hat⟩ := World.cells?_some hc
    obtain ⟨ho, hk⟩ := hone_of hone j f hj
    have hjl : j < fs.size := (Array.getElem?_eq_some_iff.1 hj).1
    have hcell := hat j hjl
    have hv : cs'[j]? = some (cs'[j]'(by omega)) := List.getElem?_eq_getElem (by omega)
    have h1 := hf j f hj
    rw [ho, hk] at h1
    have hone' : (cs'.drop j).take 1 = [cs'[j]'(by omega)] := by
      rw [List.drop_eq_getElem_cons (by omega)]
      rfl
    rw [hone'] at h1
    have hys : ys[j]? = some (ys[j]'(by omega)) := List.getElem?_eq_getElem (by omega)
    refine ⟨_, _, n', ?_, h1.trans hys⟩
    rw [← addr_add, hcell, hv]
end
end Go.Proofs.Ytodcjeaannfbnaa
namespace Go.Proofs.Ytodcjeaannfbnaa
open Go Go.RowKit Go.ChangeShapes Go.WideShapes Go.ChangeAt Go.Deep

section
variable {P : Program} {w : World} {r : Reach} {b0 : Nat} {t : TypeId} {v : Value}

theorem val_int {k : IntKind} (hu : P.underlying t = some (.int k)) (h : Value.okWide P w r b0 t v) : ∃ n, v = .int k n ∧ k.has n := by
  have h' : Cell.okWide P w r b0 t v := by
    unfold Value.okWide at h
    simpa [hu] using h
  exact cell_int hu h'
theorem val_u8 (hu : P.underlying t = some (.int .u8)) (h : Value.okWide P w r b0 t v) : ∃ n : Nat, v = .int .u8 n ∧ n < 256 := by
  obtain ⟨n, rfl, hn⟩ := val_int hu h
  have := has_u8 hn
  exact ⟨n.toNat, by rw [Int.toNat_of_nonneg this.1], by omega⟩
theorem val_u64 (hu : P.underlying t = some (.int .u64)) (h : Value.okWide P w r b0 t v) : ∃ n : Nat, v = .int .u64 n ∧ n < 18446744073709551616 := by
  obtain ⟨n, rfl, hn⟩ := val_int hu h
  have := has_u64 hn
  exact ⟨n.toNat, by rw [Int.toNat_of_nonneg this.1], by omega⟩
theorem val_i64 (hu : P.underlying t = some (.int .i64)) (h : Value.okWide P w r b0 t v) : ∃ n : Int, v = .int .i64 n ∧ -9223372036854775808 ≤ n ∧ n < 9223372036854775808 := by
  obtain ⟨n, rfl, hn⟩ := val_int hu h
  exact ⟨n, rfl, has_i64 hn⟩

/-- An array of unsigned integers by value. -/
theorem val_arr {k : IntKind} {e : TypeId} {n m : Nat} (hk : ∀ z, k.has z → 0 ≤ z ∧ z < m) (hu : P.underlying t = some (.array n e)) (he : P.underlying e = some (.int k)) (hts : P.cellTypes P.depth t = some (List.replicate n e))
    (hC : P.cellsOf t = n) (h : Value.okWide P w r b0 t v) : ∃ f : Nat → Nat, v = .agg (arrK k n f) ∧ ∀ i < n, f i < m := by
  obtain ⟨c, rfl, hc, hx⟩ := open_cells (by simp [hu]) hts (by simp) hC h
  have h1 : ∀ i, ∃ z : Nat, i < n → c[i]? = some (.int k z) ∧ z < m := fun i => by
    by_cases hi : i < n
    · obtain ⟨x, hx1, hx2⟩ := hx i e (by simp [hi])
      obtain ⟨z, rfl, hz⟩ := cell_int he hx2
      have := hk z hz
      exact ⟨z.toNat, fun _ => ⟨by rw [Int.toNat_of_nonneg this.1]; exact hx1, by omega⟩⟩
    · exact ⟨0, fun h => absurd h hi⟩
  refine ⟨fun i => (h1 i).choose, ?_, fun i hi => ((h1 i).choose_spec hi).2⟩
  exact congrArg Value.agg (arrK_of hc.1 fun i hi => ((h1 i).choose_spec hi).1)
end
end Go.Proofs.Ytodcjeaannfbnaa
namespace Go.Proofs.Ytodcjeaannfbnaa
open Go Go.RowKit Go.ChangeShapes Go.WideShapes Go.ChangeAt Go.Deep
set_option maxRecDepth 100000
theorem open_pt {w : World} {r : Reach} {b0 : Nat} {v : Value} (h : Value.okWide Try.prog w r b0 42 v) : ∃ x y : Nat, v = ptV x y ∧ x < 2 ^ 256 ∧ y < 2 ^ 256 := by
  obtain ⟨c, rfl, hc, hx⟩ := open_cells (n := 8) (ts := List.replicate 8 22) rfl (by kernel_rfl) (by simp) (by kernel_rfl) h
  have h1 : ∀ i, ∃ z : Nat, i < 8 → c[i]? = some (.int .u64 z) ∧ z < 18446744073709551616 := fun i => by
    by_cases hi : i < 8
    · obtain ⟨x, hx1, hx2⟩ := hx i 22 (by rw [List.getElem?_replicate, if_pos hi])
      obtain ⟨z, rfl, hz⟩ := cell_int Try.underlying22 hx2
      have := has_u64 hz
      exact ⟨z.toNat, fun _ => ⟨by rw [Int.toNat_of_nonneg this.1]; exact hx1, by omega⟩⟩
    · exact ⟨0, fun h => absurd h hi⟩
  obtain ⟨f, hf⟩ : ∃ f : Nat → Nat, ∀ i < 8, c[i]? = some (.int .u64 (f i)) ∧ f i < 18446744073709551616 := ⟨fun i => (h1 i).choose, fun i hi => (h1 i).choose_spec hi⟩
  have b1 : ∀ i < 4, f i < 18446744073709551616 := fun i hi => (hf i (by omega)).2
  have b2 : ∀ i < 4, (fun i => f (4 + i)) i < 18446744073709551616 := fun i hi => (hf (4 + i) (by omega)).2
  refine ⟨wval f 4, wval (fun i => f (4 + i)) 4, ?_, wval_lt b1, wval_lt b2⟩
  unfold ptV
  refine congrArg Value.agg ?_
  rw [arrK_V .u64 8]
  refine arrV_of hc.1 fun i hi => ?_
  rw [(hf i hi).1]
  unfold cat2
  by_cases h4 : i < 4
  · rw [if_pos h4, wd_wval b1 i h4]
  · rw [if_neg h4, wd_wval b2 (i - 4) (by omega)]
    rw [show 4 + (i - 4) = i by omega]
end Go.Proofs.Ytodcjeaannfbnaa
