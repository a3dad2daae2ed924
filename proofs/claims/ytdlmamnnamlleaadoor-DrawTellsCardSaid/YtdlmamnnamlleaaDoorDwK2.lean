/- Several texts one behind the other: Dw7 El Pl Open Args Sh1 Dw8 Dw9 Args2 Door. -/
import Derived.Test.YtdlmamnnamlleaaDoorDwK1
import Derived.Test.YtdlmamnnamlleaaDoorSl
import Derived.Test.YtdlmamnnamlleaaDoorPart
import Derived.Test.YtdlmamnnamlleaaDoorMem
import Derived.ProofKit
import Derived.Deep.Slices
import Derived.Deep.Fields
import Derived.ChangeSame
import Derived.Test.YtdlmamnnamlleaaDoorArrK
import Derived.Lib.SmallJoins
import Derived.SizedLaws
import Derived.Test.YtdlmamnnamlleaaDoorShaL
import Derived.LaidMore
import Derived.Stop.Joined
namespace Go.Proofs.YtdlmamnnamlleaaDoor
open Go.ChangeShapes Go.WideShapes Go.ChangeAt Go.RowKit
set_option maxHeartbeats 2000000
set_option maxRecDepth 100000
attribute [local irreducible] arrV dgA sha macA macZ srcB be8
attribute [local go_sem ↓] load_num store_num execl_num execs_num
attribute [local go_sem] isHead_mk isPart_mk offOf_mk blkOf_mk isAgg_mk cellsV_mk row_drew rowAt_drew row_new_cells row_old rowAt_new rowAt_old setRow_new zeroNum
theorem results_row_tmp2 {P : Program} {fn : Func} {p q s : Tmp} {ty : TypeId} (h : fn.results = #[.cell p ty, .tmp q, .tmp s]) (tmps : Array Value) (w : World) (g : Nat) (t : TypeId) (cs : Array Value) (fr : Nat × Nat) (d : TypeDesc)
    (hp : tmps.getD p undef = .pointer (some ⟨g, 0, none⟩)) (hg : w.heap[g]? = some (.cells cs t fr))
    (hu : P.underlying ty = some d) (hd : (match d with | .struct _ | .array _ _ => true | _ => false) = true) (hi : (P.info? ty).map (·.size) = some cs.size) :
    (results fn tmps).run P w = .ok (.tuple #[.agg cs, tmps.getD q undef, tmps.getD s undef]) w := by
  have hp' : tmps[p]?.getD undef = .pointer (some ⟨g, 0, none⟩) := by simpa using hp
  simp [results, h, hp', asAddr, run_loadVar_row w g t ty cs fr d hg hu hd hi]
theorem ret_stored12 {P : Program} {fn : Func} {R : Ending → World → Prop} {a : Act} {w : World} {p q s : Tmp} {ty : TypeId} {g n : Nat} {d : TypeDesc} {c : Array Value} (h : fn.results = #[.cell p ty, .tmp q, .tmp s])
    (hu : P.underlying ty = some d) (hd : (match d with | .struct _ | .array _ _ => true | _ => false) = true) (hi : (P.info? ty).map (·.size) = some n)
    (hp : a.tmps.getD p undef = .pointer (some ⟨g, 0, none⟩)) (hr : Row w g n) (hc : c.size = n) (hf : a.defers = []) (hR : R (.returned (.tuple #[.agg c, a.tmps.getD q undef, a.tmps.getD s undef])) (w.setRow g c)) : bodyPost P fn R .ret a (w.setRow g c) := by
  have hr2 : Row (w.setRow g c) g n := (row_setRow_same rfl hr).2 hc
  have e2 : rowAt (w.setRow g c) g = c := rowAt_setRow_same hr
  obtain ⟨cs, t, hg, hs⟩ := hr2
  have e : rowAt (w.setRow g c) g = cs := by simp [rowAt, hg]
  rw [e] at e2
  subst e2
  exact bodyPost_ret (results_row_tmp2 h _ _ g t cs (0, 0) d hp hg hu hd (by rw [hi, hs])) hf hR
theorem build_noneD (w : World) : (Instr.build 41 #[]).run Tryd.prog w = .ok (.agg (arrK .u64 4 (wd 0))) w := (run_build w _ _ _ (by kernel_rfl)).trans (by rw [← zeroNum])
theorem wp_bldNil {P : Program} {Q : Exit → Act → World → Prop} {o : Oper} {a : Act} {w : World} {K : Act → World → Prop} {t : TypeId} {u : Value} (ho : o.op = .build t #[]) (hr : (Instr.build t #[]).run P w = .ok u w) (h : K (a.put o.dst u) w) : Oper.wp P o a w K Q := by
  obtain ⟨dst, op, tt, pos, af, gd⟩ := o
  subst ho
  unfold Oper.wp execOp
  simp only [List.map_toArray, List.map_nil, Sem.run_bind, hr, Result.andThen_ok]
  exact h
theorem ref_DrawnBelowNone (seed : List UInt8) (p : Nat) (w : World) :
    Calls Tryd.prog 14 #[strV seed, .int .u64 (p : Nat), numV 0] w fun e w' => e = .returned (.tuple #[numV 0, .int .i64 0, .int .i64 1]) ∧ Below w.heap.size w w' := by
  have kO := Lib.hid (fun V => ref_OfNum 0 V (by decide +kernel))
  unfold numV at kO
  unfold numV
  have hc0 := arrK_cells .u64 4 (wd 0)
  have kB := Lib.hid (fun V => build_noneD V)
  have hL0 : Below w.heap.size w ((w.alloc (Obj.cells (arrK .u64 4 (wd 0)) 41)).alloc (Obj.cells (arrK .u64 4 (wd 0)) 41)) := by go_grown
  have h5 : At ((w.alloc (Obj.cells (arrK .u64 4 (wd 0)) 41)).alloc (Obj.cells (arrK .u64 4 (wd 0)) 41)) w.heap.size .u64 4 (wd 0) := (At.new _ rfl).old _
  have h6 := Lib.hid (show At ((w.alloc (Obj.cells (arrK .u64 4 (wd 0)) 41)).alloc (Obj.cells (arrK .u64 4 (wd 0)) 41)) (w.heap.size + 1) .u64 4 (wd 0) from At.new _ (by simp))
  have hL := Lib.hid hL0
  clear hL0
  go_enter Tryd.func14, Tryd.ntmps14
  go_upto_region 1 with (fail)
  generalize (w.alloc _).alloc _ = W0 at *
  obtain ⟨r5, q5⟩ := h5
  go_wp2_with fail
  refine (kO.out W0).mono ?_
  rintro e w1 ⟨u, rfl, hu, hb⟩
  obtain ⟨A, k, c, rfl, -, -, hk⟩ := hu.form
  obtain rfl : k = 0 := hk.2 rfl
  replace h6 := Lib.hid (h6.out.step hb)
  replace hL := Lib.hid (below_step hb hL.out (Nat.le_refl _))
  have r6 := h6.out.row
  clear hb hu kO r5 q5
  go_wp2_with (refine wpList_opT (by go_simp) (fun K9 hK => wp_bldNil rfl (kB.out _) (hK _ _ ?_)))
  exact ret_stored12 (p := 6) (q := 7) (s := 8) (ty := 41) (g := w.heap.size + 1) (n := 4) (c := arrK .u64 4 (wd 0)) rfl Tryd.underlying41 rfl (by kernel_rfl) rfl r6 hc0.1 rfl ⟨rfl, below_setRow hL.out (by omega)⟩
def DBelR (K : Nat → W32) (seed : List UInt8) (m L p : Nat) (w : World) (e : Ending) (w' : World) : Prop :=
  ∃ (x n : Nat) (z : Int), e = .returned (.tuple #[numV x, .int .i64 (n : Nat), .int .i64 z]) ∧ BelIs K seed m L p x n z ∧ Below w.heap.size w w'
theorem ref_DrawnBelow (K : Nat → W32) (seed : List UInt8) (p m L : Nat) (w : World) (hT : Tabs K w) (hsl : seed.length ≤ 576460752303423488) (hp : p < 18446744073709551616) (hm0 : m ≠ 0) (hm : m < 2 ^ 256) (hLen : IsLen (m - 1) L) :
    Calls Tryd.prog 14 #[strV seed, .int .u64 (p : Nat), numV m] w (DBelR K seed m L p w) := by
  have kO := Lib.hid (fun V => ref_OfNum m V hm)
  unfold numV at kO
  unfold numV
  have hc0 := arrK_cells .u64 4 (wd 0)
  have hcm := arrK_cells .u64 4 (wd m)
  have kB := Lib.hid (fun V => build_noneD V)
  have hL0 : Below w.heap.size w ((w.alloc (Obj.cells (arrK .u64 4 (wd m)) 41)).alloc (Obj.cells (arrK .u64 4 (wd 0)) 41)) := by go_grown
  have h5 : At ((w.alloc (Obj.cells (arrK .u64 4 (wd m)) 41)).alloc (Obj.cells (arrK .u64 4 (wd 0)) 41)) w.heap.size .u64 4 (wd m) := (At.new _ rfl).old _
  have h6 := Lib.hid (show At ((w.alloc (Obj.cells (arrK .u64 4 (wd m)) 41)).alloc (Obj.cells (arrK .u64 4 (wd 0)) 41)) (w.heap.size + 1) .u64 4 (wd 0) from At.new _ (by simp))
  have hL := Lib.hid hL0
  have hTh := Lib.hid hT
  have hmh := Lib.hid (And.intro hm0 (And.intro hm hLen))
  have hph := Lib.hid hp
  clear hL0 hT hm0 hm hLen hp
  go_enter Tryd.func14, Tryd.ntmps14
  go_upto_region 1 with (fail)
  generalize (w.alloc _).alloc _ = W0 at *
  obtain ⟨r5, q5⟩ := h5
  go_wp2_with fail
  refine (kO.out W0).mono ?_
  rintro e w1 ⟨u, rfl, hu, hb⟩
  obtain ⟨uA, uk, uc, rfl, -, -, hk⟩ := hu.form
  have hk0 : ((uk : Int) == 0) = false := by simp; intro e; exact hmh.out.1 (hk.1 e)
  replace h6 := Lib.hid (h6.out.step hb)
  replace hL := Lib.hid (below_step hb hL.out (Nat.le_refl _))
  have hN := Lib.hid hu
  clear hb hu kO r5 q5 hk
  go_upto_region 5 with (fail)
  go_loopw [10] (fun nv wr => ∃ n : Nat, nv = .int .i64 n ∧ Hid (∀ i < n, 2 ^ i < m) ∧ Hid (IsN wr (.slice uA uk uc) m) ∧ Hid (At wr (w.heap.size + 1) .u64 4 (wd 0)) ∧ Hid (Below w.heap.size w wr)) (fun nv _ => 257 - (intOf nv).toNat)
  case atStart => exact ⟨0, rfl, Lib.hid (fun i hi => absurd hi (by omega)), hN, h6, hL⟩
  case round =>
    clear hN h6 hL hk0
    obtain ⟨n, rfl, hLo, hN, h6, hL⟩ := hrel
    have hn256 : n ≤ 256 := by
      rcases Nat.lt_or_ge 256 n with e | e
      · have h9 := hLo.out 256 e
        exact absurd hmh.out.2.1 (by omega)
      · exact e
    have hpl : 2 ^ n < big := lt_big (k := n + 1) (Nat.pow_lt_pow_right (by omega) (by omega)) (by omega)
    have hml : m < big := lt_big hmh.out.2.1 (by omega)
    have kT := Lib.hid (ref_TwoTo n wr (by omega))
    obtain ⟨q, hq⟩ : ∃ q, 2 ^ n = q := ⟨_, rfl⟩
    rw [hq] at kT hpl
    have kOr := Lib.hid (fun V v (h1 : IsN V v q) (h2 : IsN V (.slice uA uk uc) m) => orderN V (h1.toV hpl) (h2.toV hml))
    have hqh := Lib.hid hq
    clear hq hpl hml
    go_upto_region 5 with (fail)
    go_wp2_with fail
    refine kT.out.mono ?_
    rintro e w2 ⟨v, rfl, hv, hb⟩
    obtain ⟨vA, vk, vc, rfl, -, -, -⟩ := hv.form
    have hN2 := hN.out.step hb
    go_wp2_with fail
    refine (kOr.out w2 _ hv hN2).mono ?_
    rintro e w3 ⟨rfl, rfl⟩
    replace h6 := Lib.hid (h6.out.step hb)
    replace hL := Lib.hid (below_step hb hL.out (Nat.le_refl _))
    replace hN := Lib.hid hN2
    clear hb hv hN2 kT kOr
    by_cases hqm : q < m
    · rw [show order q m = -1 by unfold order; rw [if_pos hqm]]
      have hLo2 := Lib.hid (show ∀ i < n + 1, 2 ^ i < m from fun i hi => by
        rcases Nat.lt_or_ge i n with h9 | h9
        · exact hLo.out i h9
        · obtain rfl : i = n := by omega
          rw [hqh.out]; exact hqm)
      have hwn : IntKind.i64.wrap ((n : Int) + 1) = (n : Int) + 1 := by rw [IntKind.wrap_i64]; omega
      clear hqm
      go_wp2_with fail
      refine ⟨⟨n + 1, by go_num, hLo2, hN, h6, hL⟩, ?_⟩
      simp [intOf]; omega
    · have ho : order q m = 0 ∨ order q m = 1 := by
        unfold order
        rw [if_neg hqm]
        split
        · exact .inr rfl
        · exact .inl rfl
      have hnL : n = L := by
        refine IsLen.only (a := m - 1) ⟨by rw [hqh.out]; have := hmh.out.1; omega, ?_⟩ hmh.out.2.2
        rcases Nat.eq_zero_or_pos n with h9 | h9
        · exact .inl h9
        · have := hLo.out (n - 1) (by omega)
          exact .inr (by omega)
      subst hnL
      obtain ⟨oo, hoo, hoz⟩ : ∃ o : Int, order q m = o ∧ decide (o < 0) = false := by
        rcases ho with ho | ho
        · exact ⟨0, ho, by decide⟩
        · exact ⟨1, ho, by decide⟩
      have hoz2 : ¬ oo < 0 := by simpa using hoz
      rw [hoo]
      clear ho hoo hqm hLo
      go_upto_region 8 with (fail)
      clear hoz hoz2
      go_loopw [28] (fun jv wr => ∃ j : Nat, jv = .int .i64 j ∧ j ≤ 100 ∧ Hid (∀ i < j, ¬ tryX K seed n p i < m) ∧ Hid (IsN wr (.slice uA uk uc) m) ∧ Hid (At wr (w.heap.size + 1) .u64 4 (wd 0)) ∧ Hid (Below w.heap.size w wr)) (fun jv _ => 100 - (intOf jv).toNat)
      case atStart => exact ⟨0, rfl, by omega, Lib.hid (fun i hi => absurd hi (by omega)), hN, h6, hL⟩
      case round =>
        clear hN h6 hL
        obtain ⟨j, rfl, hj, hNo, hN, h6, hL⟩ := hrel
        by_cases hj1 : j = 100
        · subst hj1
          have d1 : decide (((100 : Nat) : Int) < 100) = false := by decide
          have r6 := h6.out.row
          rw [show ((100 : Nat) : Int) = (100 : Int) from rfl] at *
          go_wp2_with (refine wpList_opT (by go_simp) (fun K9 hK => wp_bldNil rfl (kB.out _) (hK _ _ ?_)))
          exact ret_stored12 (p := 6) (q := 7) (s := 8) (ty := 41) (g := w.heap.size + 1) (n := 4) (c := arrK .u64 4 (wd 0)) rfl Tryd.underlying41 rfl (by kernel_rfl) rfl r6 hc0.1 rfl ⟨0, 3200, 6, rfl, .inr ⟨hNo.out, rfl, rfl, rfl⟩, below_setRow hL.out (by omega)⟩
        · have hjl : j < 100 := by omega
          have d1 : decide ((j : Int) < 100) = true := by simp; omega
          have hji : (j : Int) < 100 := by omega
          have hj0 : (0 : Int) ≤ (j : Int) := by omega
          have w1 : IntKind.u64.wrap (j : Int) = (j : Int) := by rw [IntKind.wrap_u64]; omega
          have w2 : IntKind.u64.wrap (32 * (j : Int)) = 32 * (j : Int) := by rw [IntKind.wrap_u64]; omega
          have w3 : IntKind.u64.wrap ((p : Int) + 32 * (j : Int)) = ((plc p (32 * j) : Nat) : Int) := by rw [IntKind.wrap_u64]; unfold plc; omega
          have kD := ref_Drawn K seed (plc p (32 * j)) 32 wr (hTh.out.below hL.out (Nat.le_refl _)) (by omega) hsl
          obtain ⟨f, hf⟩ : ∃ f, (fun i => dwB K seed (plc p (32 * j + i))) = f := ⟨_, rfl⟩
          have hff : (fun i => dwB K seed (plc (plc p (32 * j)) i)) = f := by rw [← hf]; funext i; rw [plc_plc]
          have hf256 : ∀ i, f i < 256 := fun i => by rw [← hf]; exact dwB_lt _ _ _
          have htx := Lib.hid (show tryX K seed n p j = bval f 32 % 2 ^ n by unfold tryX; rw [hf])
          rw [hff] at kD
          have kDh := Lib.hid kD
          have hl32 := bLs_len f 32
          have hix := Lib.hid (fun i (hi : i < 32) V => by
            have h9 := str_ix (P := Tryd.prog) (t := 9) Tryd.underlying9 (l := bLs f 32) (i := i) (by rw [hl32]; exact hi) .i64 V
            rwa [show bytesF (bLs f 32) i = f i from bytesF_bL hi (hf256 i)] at h9)
          obtain ⟨P, hP⟩ : ∃ P, plc p (32 * j) = P := ⟨_, rfl⟩
          rw [hP] at w3 kDh
          obtain ⟨ss, hss⟩ : ∃ s, bLs f 32 = s := ⟨_, rfl⟩
          rw [hss] at kDh hix
          clear hf hff kD hl32 hP hss
          go_upto_region 10 with (fail)
          go_wp2_with fail
          refine kDh.out.mono ?_
          rintro e w4 ⟨rfl, hb⟩
          replace h6 := Lib.hid (h6.out.step hb)
          replace hL := Lib.hid (below_step hb hL.out (Nat.le_refl _))
          replace hN := Lib.hid (hN.out.step hb)
          clear hb kDh w1 w2 w3
          go_upto_region 13 with (fail)
          go_loopw [13, 14] (fun v iv wr => ∃ s : Nat, iv = .int .i64 ((s : Int) - 1) ∧ s ≤ 32 ∧ Hid (IsN wr v (hvB f s (32 - s))) ∧ Hid (IsN wr (.slice uA uk uc) m) ∧ Hid (At wr (w.heap.size + 1) .u64 4 (wd 0)) ∧ Hid (Below w.heap.size w wr)) (fun _ iv _ => (intOf iv + 1).toNat)
          case atStart => exact ⟨32, rfl, Nat.le_refl _, Lib.hid (IsN.nil _), hN, h6, hL⟩
          case round =>
            clear hN h6 hL
            obtain ⟨s, rfl, hs, hX, hN, h6, hL⟩ := hrel
            obtain ⟨vA2, vm, vc2, rfl, -, -, -⟩ := IsN.form hX.out
            rcases Nat.eq_zero_or_pos s with rfl | hs0
            · have hX0 := hX.out
              rw [Nat.sub_zero, hvB_zero] at hX0
              have hx0 : bval f 32 < 2 ^ 256 := by
                have h9 := bval_lt (f := f) (n := 32) (fun i _ => hf256 i)
                rwa [show 256 ^ 32 = 2 ^ 256 by decide +kernel] at h9
              have hpn : (0 : Nat) < 2 ^ n := Nat.pow_pos (by omega)
              have hpl : 2 ^ n < big := lt_big (k := n + 1) (Nat.pow_lt_pow_right (by omega) (by omega)) (by omega)
              have hpb : 65536 * 2 ^ n < big := by
                have h9 : 65536 * 2 ^ n = 2 ^ (16 + n) := by rw [Nat.pow_add]
                rw [h9]
                exact lt_big (k := 16 + n + 1) (Nat.pow_lt_pow_right (by omega) (by omega)) (by omega)
              have hml : m < big := lt_big hmh.out.2.1 (by omega)
              have hxl : bval f 32 % 2 ^ n < 2 ^ 256 := Nat.lt_of_le_of_lt (Nat.mod_le _ _) hx0
              have kT := Lib.hid (fun V => ref_TwoTo n V (by omega))
              have kR := Lib.hid (fun V u v (h1 : IsN V u (bval f 32)) (h2 : IsN V v (2 ^ n)) => restN V h1 hx0 (by omega) (h2.toV hpl) hpn hpb)
              have htx2 := htx.out
              obtain ⟨x, hx⟩ : ∃ x, bval f 32 % 2 ^ n = x := ⟨_, rfl⟩
              rw [hx] at kR htx2 hxl
              have htxh := Lib.hid htx2
              have kOr := Lib.hid (fun V u v (h1 : IsN V u x) (h2 : IsN V v m) => orderN V (h1.toV (lt_big hxl (by omega))) (h2.toV hml))
              have kN := Lib.hid (fun V u (h1 : IsN V u x) => toNumN V (h1.toV (lt_big hxl (by omega))))
              unfold numV at kN
              obtain ⟨x0, hx0e⟩ : ∃ x, bval f 32 = x := ⟨_, rfl⟩
              obtain ⟨q2, hq2⟩ : ∃ x, 2 ^ n = x := ⟨_, rfl⟩
              rw [hx0e, hq2] at kR
              rw [hx0e] at hX0
              rw [hq2] at kT
              have hXh := Lib.hid hX0
              have hcx := arrK_cells .u64 4 (wd x)
              have w7 : IntKind.i64.wrap ((j : Int) + 1) = (j : Int) + 1 := by rw [IntKind.wrap_i64]; omega
              have w8 : IntKind.i64.wrap (32 * ((j : Int) + 1)) = 32 * ((j : Int) + 1) := by rw [IntKind.wrap_i64]; omega
              rw [show (((0 : Nat) : Int) - 1) = (-1 : Int) from rfl]
              clear hX hX0 hx0 hpn hpl hpb hml hxl htx htx2 hx hx0e hq2 hix hs
              go_upto_region 16 with (fail)
              go_wp2_with fail
              refine (kT.out wr).mono ?_
              rintro e w5 ⟨v2, rfl, hv2, hb5⟩
              obtain ⟨A5, k5, c5, rfl, -, -, -⟩ := hv2.form
              have hX5 := hXh.out.step hb5
              go_wp2_with fail
              refine (kR.out w5 _ _ hX5 hv2).mono ?_
              rintro e w6 ⟨v3, rfl, hv3, hb6⟩
              obtain ⟨A6, k6, c6, rfl, -, -, -⟩ := hv3.form
              have hb56 := below_step hb6 hb5 (Nat.le_refl _)
              replace h6 := Lib.hid (h6.out.step hb56)
              replace hL := Lib.hid (below_step hb56 hL.out (Nat.le_refl _))
              replace hN := Lib.hid (hN.out.step hb56)
              have hx3 := Lib.hid hv3
              clear hb56 hb5 hb6 hv2 hX5 hXh kT kR hv3
              go_upto_region 17 with (fail)
              go_wp2_with fail
              refine (kOr.out w6 _ _ hx3.out hN.out).mono ?_
              rintro e w7' ⟨rfl, rfl⟩
              clear kOr
              by_cases hxm : x < m
              · rw [show order x m = -1 by unfold order; rw [if_pos hxm]]
                have hxmh := Lib.hid hxm
                clear hxm
                go_upto_region 18 with (fail)
                go_wp2_with fail
                refine (kN.out _ _ hx3.out).mono ?_
                rintro e w8' ⟨rfl, hb8⟩
                have r6 := (h6.out.step hb8).row
                have hL8 := Lib.hid (below_step hb8 hL.out (Nat.le_refl _))
                have hnj := Lib.hid (show (32 : Int) * ((j : Int) + 1) = ((32 * (j + 1) : Nat) : Int) by omega)
                clear hb8 kN hx3 h6 hL
                go_wp2_with fail
                refine ret_stored12 (p := 6) (q := 7) (s := 8) (ty := 41) (g := w.heap.size + 1) (n := 4) (c := arrK .u64 4 (wd x)) rfl Tryd.underlying41 rfl (by kernel_rfl) rfl r6 hcx.1 rfl ?_
                exact ⟨x, 32 * (j + 1), 0, by rw [← hnj.out] <;> rfl, .inl ⟨j, hjl, hNo.out, by rw [htxh.out]; exact hxmh.out, htxh.out.symm, rfl, rfl⟩, below_setRow hL8.out (by omega)⟩
              · have ho : order x m = 0 ∨ order x m = 1 := by
                  unfold order
                  rw [if_neg hxm]
                  split
                  · exact .inr rfl
                  · exact .inl rfl
                have hNo2 := Lib.hid (show ∀ i < j + 1, ¬ tryX K seed n p i < m from fun i hi => by
                  rcases Nat.lt_or_ge i j with h9 | h9
                  · exact hNo.out i h9
                  · obtain rfl : i = j := by omega
                    rw [htxh.out]; exact hxm)
                clear hxm w7 w8
                rcases ho with ho | ho
                all_goals
                  rw [ho]
                  clear ho
                  go_wp2_with fail
                  refine ⟨⟨j + 1, by go_num, by omega, hNo2, hN, h6, hL⟩, ?_⟩
                  simp [intOf]; omega
            · obtain ⟨i, rfl⟩ : ∃ i, s = i + 1 := ⟨s - 1, by omega⟩
              rw [show (((i + 1 : Nat) : Int) - 1) = (i : Int) by omega]
              have hin : i < 32 := by omega
              have hfi := hf256 i
              have hlt := hvB_lt (f := f) (32 - (i + 1)) (i + 1) (fun j _ => hf256 j)
              have hHst := Lib.hid (show hvB f (i + 1) (32 - (i + 1)) * 256 + f i = hvB f i (32 - i) by
                rw [show 32 - i = (32 - (i + 1)) + 1 by omega]; show _ = f i + 256 * _; omega)
              have hb1 : hvB f (i + 1) (32 - (i + 1)) < big := lt_big hlt (by omega)
              have hb2 : hvB f (i + 1) (32 - (i + 1)) * 256 < big := by
                refine lt_big (k := 8 * (32 - (i + 1)) + 8) ?_ (by omega)
                rw [Nat.pow_add]
                exact Nat.mul_lt_mul_of_pos_right hlt (by omega)
              have hb3 := Lib.hid hb2
              have hV := Lib.hid (fun V (h : Below wr.heap.size wr V) => (hX.out.step h).toV hb1)
              have hixi := fun V => hix.out i hin V
              have d2 : decide ((i : Int) ≥ 0) = true := by simp
              have d3 : (0 : Int) ≤ (i : Int) := by omega
              have d4 : (i : Int) < 32 := by omega
              clear hlt hb1 hb2 hX hs hs0
              generalize hvB f (i + 1) (32 - (i + 1)) = M at *
              generalize f i = x at *
              have hwx : IntKind.i64.wrap (x : Int) = (x : Int) := by rw [IntKind.wrap_i64]; omega
              have w3 : IntKind.i64.wrap ((i : Int) - 1) = (i : Int) - 1 := by rw [IntKind.wrap_i64]; omega
              go_upto_region 15 with (fail)
              generalize ha0 : Act.mk _ _ = a0
              have e12 : a0.tmps[12]?.getD undef = strV ss := by rw [← ha0]; rfl
              have e13 : a0.tmps[13]?.getD undef = .slice vA2 vm vc2 := by rw [← ha0]; rfl
              have e14 : a0.tmps[14]?.getD undef = .int .i64 (i : Nat) := by rw [← ha0]; rfl
              have hz0 : a0.tmps.size = 66 := by rw [← ha0]; rfl
              have hha0 := Lib.hid ha0
              clear ha0
              refine wp_region_tailL (fun jx_ => match jx_ with | 0 => SRel.is (.slice vA2 vm vc2) | 1 => SRel.bV 256 | 2 => SRel.bN (M * 256) | 3 => SRel.is (strV ss) | 4 => SRel.is (.int .i64 (i : Nat)) | 5 => SRel.is (.int .u8 (x : Nat)) | 6 => SRel.is (.int .i64 (x : Nat)) | 7 => SRel.bV x | 8 => SRel.bN (M * 256 + x) | 9 => SRel.any | _ => SRel.any) 9 (by kernel_rfl) (by kernel_rfl) (by kernel_rfl) (slotsOk_of hz0 (by kernel_rfl)) (by kernel_rfl) (of_decide_eq_true (by kernel_rfl)) ⟨?_, ?_, ?_, ?_, ?_, ?_, ?_, ?_, ?_, trivial⟩ ?_
              · refine calmL_step rfl fun a ω κ hb hu hc hK => ?_
                have h13 : a.tmps[13]?.getD undef = .slice vA2 vm vc2 := (hu 13 rfl).trans e13
                have hk := Lib.hid (fun w1 (h : Below ω.heap.size ω w1) => hK (.slice vA2 vm vc2) w1 rfl h)
                clear hK hu hc
                go_simp
                exact hk.out _ (Below.refl _ _)
              · refine calmL_step rfl fun a ω κ hb hu hc hK => ?_
                have hk := Lib.hid (fun v w1 (hv : (SRel.bV 256).p v w1) (h : Below ω.heap.size ω w1) => hK v w1 hv h)
                clear hK hu hc
                go_simp
                exact hk.out _ _ (IsV.lit256 ω 3) (below_alloc _ _)
              · refine calmL_step rfl fun a ω κ hb hu hc hK => ?_
                have h42 : a.tmps[42]?.getD undef = .slice vA2 vm vc2 := hc 0 42 rfl rfl
                have h43 : (SRel.bV 256).p (a.tmps[43]?.getD undef) ω := hc 1 43 rfl rfl
                have hk := Lib.hid (fun v w1 (hv : (SRel.bN (M * 256)).p v w1) (h : Below ω.heap.size ω w1) => hK v w1 hv h)
                clear hK hu hc
                go_simp
                go_at_call 43
                refine (timesN (m := M) (n := 256) ω (hV.out ω hb) h43).mono ?_
                rintro e w1 ⟨v, rfl, hv, hb1⟩
                exact hk.out _ _ hv hb1
              · refine calmL_step rfl fun a ω κ hb hu hc hK => ?_
                have h12 : a.tmps[12]?.getD undef = strV ss := (hu 12 rfl).trans e12
                have hk := Lib.hid (fun w1 (h : Below ω.heap.size ω w1) => hK (strV ss) w1 rfl h)
                clear hK hu hc
                go_simp
                exact hk.out _ (Below.refl _ _)
              · refine calmL_step rfl fun a ω κ hb hu hc hK => ?_
                have h14 : a.tmps[14]?.getD undef = .int .i64 (i : Nat) := (hu 14 rfl).trans e14
                have hk := Lib.hid (fun w1 (h : Below ω.heap.size ω w1) => hK (.int .i64 (i : Nat)) w1 rfl h)
                clear hK hu hc
                go_simp
                exact hk.out _ (Below.refl _ _)
              · refine calmL_step rfl fun a ω κ hb hu hc hK => ?_
                have h45 : a.tmps[45]?.getD undef = strV ss := hc 3 45 rfl rfl
                have h46 : a.tmps[46]?.getD undef = .int .i64 (i : Nat) := hc 4 46 rfl rfl
                have hk := Lib.hid (fun w1 (h : Below ω.heap.size ω w1) => hK (.int .u8 (x : Nat)) w1 rfl h)
                clear hK hu hc
                have q1 := hixi ω
                go_simp
                exact hk.out _ (Below.refl _ _)
              · refine calmL_step rfl fun a ω κ hb hu hc hK => ?_
                have h47 : a.tmps[47]?.getD undef = .int .u8 (x : Nat) := hc 5 47 rfl rfl
                have hk := Lib.hid (fun w1 (h : Below ω.heap.size ω w1) => hK (.int .i64 (x : Nat)) w1 rfl h)
                clear hK hu hc
                go_simp
                exact hk.out _ (Below.refl _ _)
              · refine calmL_step rfl fun a ω κ hb hu hc hK => ?_
                have h48 : a.tmps[48]?.getD undef = .int .i64 (x : Nat) := hc 6 48 rfl rfl
                have hk := Lib.hid (fun v w1 (hv : (SRel.bV x).p v w1) (h : Below ω.heap.size ω w1) => hK v w1 hv h)
                clear hK hu hc
                go_simp
                exact hk.out _ _ (IsV.lit ω 3 (by omega)) (below_alloc _ _)
              · refine calmL_step rfl fun a ω κ hb hu hc hK => ?_
                have h44 : (SRel.bN (M * 256)).p (a.tmps[44]?.getD undef) ω := hc 2 44 rfl rfl
                have h49 : (SRel.bV x).p (a.tmps[49]?.getD undef) ω := hc 7 49 rfl rfl
                have hk := Lib.hid (fun v w1 (hv : (SRel.bN (M * 256 + x)).p v w1) (h : Below ω.heap.size ω w1) => hK v w1 hv h)
                clear hK hu hc
                go_simp
                go_at_call 42
                refine (plusN (m := M * 256) (n := x) ω (IsN.toV h44 hb3.out) h49).mono ?_
                rintro e w1 ⟨v, rfl, hv, hb1⟩
                exact hk.out _ _ hv hb1
              · intro aa ω hb hu hsz hdf hc
                have h42 : aa.tmps[42]?.getD undef = .slice vA2 vm vc2 := hc 0 42 (by decide) rfl
                have h45 : aa.tmps[45]?.getD undef = strV ss := hc 3 45 (by decide) rfl
                have h46 : aa.tmps[46]?.getD undef = .int .i64 (i : Nat) := hc 4 46 (by decide) rfl
                have h47 : aa.tmps[47]?.getD undef = .int .u8 (x : Nat) := hc 5 47 (by decide) rfl
                have h48 : aa.tmps[48]?.getD undef = .int .i64 (x : Nat) := hc 6 48 (by decide) rfl
                have h50 : (SRel.bN (M * 256 + x)).p (aa.tmps[50]?.getD undef) ω := hc 8 50 (by decide) rfl
                have ha0 := hha0.out
                subst ha0
                have he := act_patchL (n := 66) 9 [false, false, false, false, false, false, false, false, false, false, false, false, false, false, false, false, false, false, false, false, false, false, false, false, false, false, false, false, false, false, false, false, false, false, false, false, false, false, false, false, false, false, true, true, true, true, true, true, true, true, true, false, false, false, false, false, false, false, false, false, false, false, false, false, false, false] rfl (by kernel_rfl) hu hsz hdf
                simp only [patch, cond_true, cond_false, Nat.reduceAdd] at he
                clear hu hsz hdf hc hha0 e12 e13 e14 hz0
                rw [he]
                clear he
                generalize aa.tmps[42]?.getD undef = x42 at *
                generalize aa.tmps[43]?.getD undef = x43 at *
                generalize aa.tmps[44]?.getD undef = x44 at *
                generalize aa.tmps[45]?.getD undef = x45 at *
                generalize aa.tmps[46]?.getD undef = x46 at *
                generalize aa.tmps[47]?.getD undef = x47 at *
                generalize aa.tmps[48]?.getD undef = x48 at *
                generalize aa.tmps[49]?.getD undef = x49 at *
                generalize aa.tmps[50]?.getD undef = x50 at *
                subst h42 h45 h46 h47 h48
                replace h6 := Lib.hid (h6.out.step hb)
                replace hL := Lib.hid (below_step hb hL.out (Nat.le_refl _))
                replace hN := Lib.hid (hN.out.step hb)
                obtain ⟨xA, xm, xc, rfl, -, -, -⟩ := IsN.form h50
                have hXn := Lib.hid (show IsN ω (.slice xA xm xc) (hvB f i (32 - i)) from hHst.out ▸ h50)
                clear hV hb3 hixi hb h50
                go_wp2_with fail
                refine ⟨⟨i, by go_num, by omega, hXn, hN, h6, hL⟩, ?_⟩
                simp [intOf]
end Go.Proofs.YtdlmamnnamlleaaDoor
namespace Go.Proofs.YtdlmamnnamlleaaDoor
open Go Go.RowKit

/-- n cells at a pointer. -/
def LdOk (w : World) (n : Nat) : Value → Prop
  | .pointer (some ad) => ∀ j, j < n → (w.cell? (ad.add j)).isSome = true
  | _ => False
def ldC (w : World) (n : Nat) : Value → Array Value
  | .pointer (some ad) => arrV n fun j => (w.cell? (ad.add j)).getD undef
  | _ => #[]
section
variable {P : Program} {w : World} {n : Nat}
theorem LdOk.eq {v : Value} (h : LdOk w n v) : ∃ ad, v = .pointer (some ad) ∧ ∀ j, j < n → (w.cell? (ad.add j)).isSome = true := by
  unfold LdOk at h
  split at h
  · exact ⟨_, rfl, h⟩
  · exact h.elim
theorem run_load_el {ty : TypeId} {d : TypeDesc} (hu : P.underlying ty = some d) (hd : d.isRow = true) (hi : (P.info? ty).map (·.size) = some n) {v : Value} (h : LdOk w n v) :
    (Instr.loadAt ty v).run P w = .ok (.agg (ldC w n v)) w := by
  obtain ⟨ad, rfl, hc⟩ := h.eq
  have hl : (loadCells ad (ldC w n (.pointer (some ad))).toList.length).run P w = .ok (ldC w n (.pointer (some ad))).toList.toArray w :=
    run_loadCells_list (P := P) w ad _ (fun j v hv => by
      rw [Array.getElem?_toList] at hv
      have hj : j < n := by
        have := (Array.getElem?_eq_some_iff.1 hv).1
        simpa [ldC, arrV_size] using this
      unfold ldC at hv
      rw [arrV_at hj] at hv
      obtain ⟨u, hu⟩ := Option.isSome_iff_exists.1 (hc j hj)
      rw [hu] at hv ⊢
      exact hv)
  have hz : (ldC w n (.pointer (some ad))).toList.length = n := by simp [ldC, arrV_size]
  rw [hz] at hl
  have hagg : (isAgg ty).run P w = .ok true w := by
    unfold isAgg
    rw [Sem.run_bind, run_underlying hu w]
    cases d <;> simp_all
  cases hq : P.info? ty with
  | none => simp [hq] at hi
  | some i =>
    have hs : i.size = n := by simpa [hq] using hi
    simp [Instr.loadAt, Instr.sureAddr, loadVar, Sem.run_bind, hagg, sizeOf, typeInfo, hq, hs, hl]
variable {dst : Option Tmp} {x y : Operand} {tt : TypeId} {pos : String} {af : Array Edge} {gd : Option (Nat × Bool)} {a : Act} {K : Act → World → Prop} {Q : Exit → Act → World → Prop}
theorem wp_load_el {ty : TypeId} {d : TypeDesc} (hu : P.underlying ty = some d) (hd : d.isRow = true) (hi : (P.info? ty).map (·.size) = some n) (h : LdOk w n (a.eval x)) :
    Oper.wp P ⟨dst, .load ty x, tt, pos, af, gd⟩ a w K Q ↔ K (a.put dst (.agg (ldC w n (a.eval x)))) w := by
  have h1 := run_load_el (P := P) (w := w) hu hd hi h
  unfold Oper.wp execOp
  simp only [Sem.run_bind, Sem.run_pure, h1, Result.andThen_ok]
  exact Iff.rfl
theorem exec_load_el {ty : TypeId} {d : TypeDesc} (hu : P.underlying ty = some d) (hd : d.isRow = true) (hi : (P.info? ty).map (·.size) = some n) {ρ : Operand → Value} (h : LdOk w n (ρ x)) :
    (execOp ρ ⟨dst, .load ty x, tt, pos, af, gd⟩).run P w = .ok (.value (.agg (ldC w n (ρ x)))) w := by
  have h1 := run_load_el (P := P) (w := w) hu hd hi h
  unfold execOp
  simp only [Sem.run_bind, Sem.run_pure, h1, Result.andThen_ok]
/-- What is known of the cells of an element. -/
theorem ldOk_of {ad : Addr} {l : List Value} (hl : l.length = n) (h : ∀ j u, l[j]? = some u → w.cell? (ad.add j) = some u) : LdOk w n (.pointer (some ad)) := fun j hj => by
  rw [h j (l[j]'(by omega)) (List.getElem?_eq_getElem (by omega))]; rfl
theorem ldC_of {ad : Addr} {l : List Value} (hl : l.length = n) (h : ∀ j u, l[j]? = some u → w.cell? (ad.add j) = some u) : ldC w n (.pointer (some ad)) = l.toArray := by
  apply Array.ext_getElem?
  intro j
  unfold ldC
  by_cases hj : j < n
  · rw [arrV_at hj, h j (l[j]'(by omega)) (List.getElem?_eq_getElem (by omega))]
    simp [List.getElem?_eq_getElem (show j < l.length by omega)]
  · rw [Array.getElem?_eq_none (by rw [arrV_size]; omega), Array.getElem?_eq_none (by simp; omega)]
theorem ldOk_drew {v : Value} : LdOk w.drew n v ↔ LdOk w n v := Iff.rfl
theorem ldC_drew {v : Value} : ldC w.drew n v = ldC w n v := rfl
end
end Go.Proofs.YtdlmamnnamlleaaDoor
namespace Go.Proofs.YtdlmamnnamlleaaDoor
open Go Go.RowKit
theorem pl_ext {c d : Array Value} {o n : Nat} (h : c.extract o (o + n) = d) (hd : d.size = n) {i : Nat} (hi : i < n) : c[o + i]? = d[i]? := by
  rw [← h, Array.getElem?_extract]
  have h2 : c.size ≥ o + n := by
    have := congrArg Array.size h
    rw [Array.size_extract, hd] at this
    omega
  rw [if_pos (by omega)]
theorem pl_add (g o j : Nat) : (⟨g, o, none⟩ : Addr).add j = ⟨g, o + j, none⟩ := by
  by_cases e : j = 0
  · subst e; simp [Addr.add]
  · simp [Addr.add, e]
theorem pl_ldC {w : World} {n : Nat} {ad : Addr} {d : Array Value} (hd : d.size = n) (hv : ∀ i < n, (d[i]?).isSome = true) (hc : ∀ j, j < n → w.cell? (ad.add j) = d[j]?) : LdOk w n (.pointer (some ad)) ∧ ldC w n (.pointer (some ad)) = d := by
  refine ⟨fun j hj => by rw [hc j hj]; exact hv j hj, ?_⟩
  show arrV n (fun j => (w.cell? (ad.add j)).getD undef) = d
  apply Array.ext_getElem?
  intro j
  by_cases hj : j < n
  · rw [arrV_at hj, hc j hj]
    obtain ⟨u, hu⟩ := Option.isSome_iff_exists.1 (hv j hj)
    rw [hu]; rfl
  · rw [Array.getElem?_eq_none (by rw [arrV_size]; omega), Array.getElem?_eq_none (by omega)]
/-- A part of a block. -/
theorem pl_ld {w : World} {g N o n : Nat} {c d : Array Value} (hR : Row w g N) (hr : rowAt w g = c) (he : c.extract o (o + n) = d) (hd : d.size = n) (hv : ∀ i < n, (d[i]?).isSome = true) : LdOk w n (.pointer (some ⟨g, o, none⟩)) ∧ ldC w n (.pointer (some ⟨g, o, none⟩)) = d :=
  pl_ldC hd hv fun j hj => by
    have h1 := hR.cell (o + j)
    rw [hr, pl_ext he hd hj] at h1
    rw [pl_add]; exact h1
theorem pl_some {k : IntKind} {n : Nat} {f : Nat → Nat} : ∀ i < n, ((arrK k n f)[i]?).isSome = true := fun i hi => by rw [arrK_at hi]; rfl
/-- A block's cells. -/
structure Bw (w : World) (g N : Nat) (c : Array Value) : Prop where
  row : Row w g N
  eq : rowAt w g = c
section
variable {w w' : World} {g N : Nat} {c : Array Value}
theorem Bw.step (h : Bw w g N c) (hb : Below w.heap.size w w') : Bw w' g N c := ⟨row_below h.row hb h.row.lt, (rowAt_below hb h.row.lt).trans h.eq⟩
theorem Bw.new (t : TypeId) (h : c.size = N) : Bw (w.alloc (Obj.cells c t)) w.heap.size N c := ⟨(row_new rfl).2 h, rowAt_new rfl⟩
theorem Bw.far (h : Bw w g N c) {g' : Nat} {c' : Array Value} (hg : g ≠ g') : Bw (w.setRow g' c') g N c := ⟨(row_setRow_far hg).2 h.row, (rowAt_setRow_far hg).trans h.eq⟩
theorem Bw.farC (h : Bw w g N c) {a : Addr} {v : Value} (hg : g ≠ a.block) : Bw (w.setCell a v) g N c := ⟨row_setCell.2 h.row, (rowAt_setCell_far hg).trans h.eq⟩
theorem Bw.lt (h : Bw w g N c) : g < w.heap.size := h.row.lt
theorem Bw.cell (h : Bw w g N c) {i : Nat} {v : Value} (hi : c[i]? = some v) : w.cell? ⟨g, i, none⟩ = some v := by rw [h.row.cell, h.eq]; exact hi
end
end Go.Proofs.YtdlmamnnamlleaaDoor
namespace Go.Proofs.YtdlmamnnamlleaaDoor
open Go Go.RowKit Go.ChangeShapes Go.WideShapes Go.ChangeAt Go.Deep

section
variable {P : Program} {w : World} {r : Reach} {b0 : Nat} {t : TypeId} {v : Value}

theorem oneCell_of_okWide {u : TypeId} {x : Value} (h : Cell.okWide P w r b0 u x) : x.oneCell' = true := by
  cases x <;> first | rfl | (exfalso; unfold Cell.okWide Cell.ok at h; revert h; split <;> (try split) <;> simp_all)

/-- A struct or an array by value: its cells, each of its own type. -/
theorem open_cells {n : Nat} {ts : List TypeId} (hu : (match P.underlying t with | some (.struct _) | some (.array _ _) => true | _ => false) = true) (hts : P.cellTypes P.depth t = some ts) (hn : ts.length = n)
    (hC : P.cellsOf t = n) (h : Value.okWide P w r b0 t v) : ∃ c : Array Value, v = .agg c ∧ Cells c n ∧ ∀ (i : Nat) u, ts[i]? = some u → ∃ x, c[i]? = some x ∧ Cell.okWide P w r b0 u x := by
  have h' : ∃ cs, v = .agg cs ∧ cs.size = P.cellsOf t ∧ Row.okWide P w r b0 t cs := by
    unfold Value.okWide at h
    cases hd : P.underlying t with
    | none => simp [hd] at hu
    | some d => cases d <;> first | (simp [hd] at hu; done) | (simpa [hd] using h)
  obtain ⟨c, rfl, hs, ts', hts', -, hc⟩ := h'
  obtain rfl : ts = ts' := Option.some.inj (hts.symm.trans hts')
  rw [hC] at hs
  refine ⟨c, rfl, ⟨hs, ?_⟩, fun i u hi => ?_⟩
  · rw [Array.all_eq_true_iff_forall_mem]
    intro x hx
    obtain ⟨i, hi⟩ := Array.getElem?_of_mem hx
    obtain ⟨u, -, hk⟩ := hc i x hi
    exact oneCell_of_okWide hk
  · have hil : i < ts.length := (List.getElem?_eq_some_iff.1 hi).1
    have hi2 : i < c.size := by omega
    obtain ⟨u', h1, h2⟩ := hc i c[i] (Array.getElem?_eq_getElem hi2)
    rw [Nat.mod_eq_of_lt hil] at h1
    obtain rfl : u = u' := Option.some.inj (hi.symm.trans h1)
    exact ⟨_, Array.getElem?_eq_getElem hi2, h2⟩

theorem cell_int {u : TypeId} {k : IntKind} {x : Value} (hu : P.underlying u = some (.int k)) (h : Cell.okWide P w r b0 u x) : ∃ n, x = .int k n ∧ k.has n := by
  cases x <;> simp [Cell.okWide, Cell.ok, hu] at h
  obtain ⟨rfl, h⟩ := h
  exact ⟨_, rfl, h⟩
theorem cell_slice {u e : TypeId} {x : Value} (hu : P.underlying u = some (.slice e)) (h : Cell.okWide P w r b0 u x) : ∃ a n c, x = .slice a n c ∧ n ≤ c ∧ c ≤ 9223372036854775807 := by
  cases x with
  | slice a n c =>
    cases a with
    | none =>
      cases n <;> cases c <;> simp [Cell.okWide, Cell.ok, hu] at h
      exact ⟨_, _, _, rfl, by omega, by omega⟩
    | some a =>
      simp [Cell.okWide, Cell.ok, hu] at h
      exact ⟨_, _, _, rfl, h.1, by have h2 : (c : Int) ≤ 9223372036854775807 := h.2.1; omega⟩
  | _ => simp [Cell.okWide, Cell.ok, hu] at h
theorem has_u8 {n : Int} (h : IntKind.u8.has n) : 0 ≤ n ∧ n < 256 := by simp [IntKind.has, IntKind.min, IntKind.max, IntKind.bits, IntKind.signed] at h; omega
theorem has_u32 {n : Int} (h : IntKind.u32.has n) : 0 ≤ n ∧ n < 4294967296 := by simp [IntKind.has, IntKind.min, IntKind.max, IntKind.bits, IntKind.signed] at h; omega
theorem has_u64 {n : Int} (h : IntKind.u64.has n) : 0 ≤ n ∧ n < 18446744073709551616 := by simp [IntKind.has, IntKind.min, IntKind.max, IntKind.bits, IntKind.signed] at h; omega
theorem has_i64 {n : Int} (h : IntKind.i64.has n) : -9223372036854775808 ≤ n ∧ n < 9223372036854775808 := by simp [IntKind.has, IntKind.min, IntKind.max, IntKind.bits, IntKind.signed] at h; omega
end

theorem cell_lt {w : World} {a : Addr} {v : Value} (h : w.cell? a = some v) : a.block < w.heap.size := by
  rcases Nat.lt_or_ge a.block w.heap.size with hlt | hge
  · exact hlt
  · simp only [World.cell?, Array.getElem?_eq_none hge] at h; cases h

/-- One choice for each index, as a list. -/
theorem list_of {α : Type} (n : Nat) (p : Nat → α → Prop) (h : ∀ i, i < n → ∃ x, p i x) : ∃ l : List α, l.length = n ∧ ∀ i (hi : i < l.length), p i l[i] := by
  induction n with
  | zero => exact ⟨[], rfl, fun i hi => absurd hi (by simp)⟩
  | succ n ih =>
    obtain ⟨l, hl, hp⟩ := ih fun i hi => h i (by omega)
    obtain ⟨x, hx⟩ := h n (by omega)
    refine ⟨l ++ [x], by simp [hl], fun i hi => ?_⟩
    by_cases hlt : i < l.length
    · rw [List.getElem_append_left hlt]; exact hp i hlt
    · have : i = l.length := by simp at hi; omega
      subst this
      rw [List.getElem_append_right (Nat.le_refl _)]
      simpa [hl] using hx

section
variable {H : Type} {enc : TypeId × Value → H} {P : Program} {w : World} {base : Nat} {spare : Nat → Bool} {held : Bool}

theorem wf_u8 {z : Int} (h : (Lit.int .u8 z).wf = true) : 0 ≤ z ∧ z < 256 := by
  simp only [Lit.wf, Bool.and_eq_true, decide_eq_true_eq] at h
  exact has_u8 h

/-- A slice of bytes that came in, by its reading. -/
theorem open_bytes {t e : TypeId} {fuel : Nat} {v : Value} {x : DataW H × List MemPlace} (ht : P.underlying t = some (.slice e)) (he : P.underlying e = some (.int .u8)) (hc : P.cellsOf e = 1)
    (h : DataW.trod enc P w base spare held fuel t [v] = some x) : ∃ (A : Option Addr) (l : List UInt8) (c : Nat), v = .slice A l.length c ∧ Rd w w.heap.size A (bytesV l) ∧ l.length ≤ c ∧ c ≤ maxLen := by
  rcases open_ints ht he hc h with ⟨hcs, -⟩ | ⟨a, len, cap, zs, hcs, -, hl, hm, hz, -, hcell, hwz⟩
  · injection hcs with hv
    exact ⟨none, [], 0, hv, Rd.nil, by simp, by simp [maxLen]⟩
  · injection hcs with hv
    have hlz : len ≤ zs.length := by rw [hz]; split <;> omega
    have hmap : ((zs.take len).map fun z => UInt8.ofNat z.toNat).length = len := by simp; omega
    refine ⟨some a, (zs.take len).map fun z => UInt8.ofNat z.toNat, cap, by rw [hmap]; exact hv, fun j u hu => ?_, by rw [hmap]; exact hl, hm⟩
    have hj : j < len := by
      have := (List.getElem?_eq_some_iff.1 hu).1
      simp [bytesV] at this; omega
    have hjz : j < zs.length := by omega
    have hcj := hcell j hjz
    have hlt := cell_lt hcj
    rw [addr_block] at hlt
    refine ⟨a, rfl, hlt, ?_⟩
    rw [hcj, ← hu]
    have hw := wf_u8 (hwz zs[j] (List.getElem_mem hjz))
    simp [bytesV, hj, List.getElem?_eq_getElem hjz, UInt8.toNat_ofNat']
    omega

/-- A slice of structs of one-cell fields that came in: each field's cell, and its own reading. -/
theorem open_rows {t e : TypeId} {fs : Array Field} {fuel : Nat} {v : Value} {x : DataW H × List MemPlace} (ht : P.underlying t = some (.slice e)) (he : P.underlying e = some (.struct fs))
    (hone : oneCellFields P fs = true) (hC : P.cellsOf e = fs.size) (h : DataW.trod enc P w base spare held fuel t [v] = some x) :
    ∃ (A : Option Addr) (n c : Nat), v = .slice A n c ∧ n ≤ c ∧ c ≤ maxLen ∧ ∀ i, i < n → ∃ a, A = some a ∧
      ∀ (j : Nat) (f : Field), fs[j]? = some f → ∃ (u : Value) (y : DataW H × List MemPlace) (m : Nat), w.cell? (a.add (i * fs.size + j)) = some u ∧ DataW.trod enc P w base spare held m f.type [u] = some y := by
  rcases open_slice ht h with ⟨hcs, -⟩ | ⟨a, len, cap, m, n, D, Pl, hcs, -, hl, hm, hmm, -, hi⟩
  · injection hcs with hv
    exact ⟨none, 0, 0, hv, Nat.le_refl _, by simp [maxLen], fun i hi => absurd hi (by omega)⟩
  · injection hcs with hv
    refine ⟨some a, len, cap, hv, hl, hm, fun i hil => ⟨a, rfl, fun j f hj => ?_⟩⟩
    have him : i < m := by rw [hmm]; split <;> omega
    obtain ⟨cs', hc, ht'⟩ := hi i him
    rw [hC] at hc
    obtain ⟨ys, n', -, -, -, hyl, hf⟩ := DataW.trod_struct he ht'
    obtain ⟨_, hcl, hat⟩ := World.cells?_some hc
    obtain ⟨ho, hk⟩ := hone_of hone j f hj
    have hjl : j < fs.size := (Array.getElem?_eq_some_iff.1 hj).1
    have hcell := hat j hjl
    have hv : cs'[j]? = some (cs'[j]'(by omega)) := List.getElem?_eq_getElem (by omega)
    have h1 := hf j f hj
    rw [ho, hk] at h1
    have hone' : (cs'.drop j).take 1 = [cs'[j]'(by omega)] := by
      rw [List.drop_eq_getElem_cons (by omega)]
      rfl
    rw [hone'] at h1
    have hys : ys[j]? = some (ys[j]'(by omega)) := List.getElem?_eq_getElem (by omega)
    refine ⟨_, _, n', ?_, h1.trans hys⟩
    rw [← addr_add, hcell, hv]
end
end Go.Proofs.YtdlmamnnamlleaaDoor
namespace Go.Proofs.YtdlmamnnamlleaaDoor
open Go Go.RowKit Go.ChangeShapes Go.WideShapes Go.ChangeAt Go.Deep

section
variable {P : Program} {w : World} {r : Reach} {b0 : Nat} {t : TypeId} {v : Value}

theorem val_int {k : IntKind} (hu : P.underlying t = some (.int k)) (h : Value.okWide P w r b0 t v) : ∃ n, v = .int k n ∧ k.has n := by
  have h' : Cell.okWide P w r b0 t v := by
    unfold Value.okWide at h
    simpa [hu] using h
  exact cell_int hu h'
theorem val_u8 (hu : P.underlying t = some (.int .u8)) (h : Value.okWide P w r b0 t v) : ∃ n : Nat, v = .int .u8 n ∧ n < 256 := by
  obtain ⟨n, rfl, hn⟩ := val_int hu h
  have := has_u8 hn
  exact ⟨n.toNat, by rw [Int.toNat_of_nonneg this.1], by omega⟩
theorem val_u64 (hu : P.underlying t = some (.int .u64)) (h : Value.okWide P w r b0 t v) : ∃ n : Nat, v = .int .u64 n ∧ n < 18446744073709551616 := by
  obtain ⟨n, rfl, hn⟩ := val_int hu h
  have := has_u64 hn
  exact ⟨n.toNat, by rw [Int.toNat_of_nonneg this.1], by omega⟩
theorem val_i64 (hu : P.underlying t = some (.int .i64)) (h : Value.okWide P w r b0 t v) : ∃ n : Int, v = .int .i64 n ∧ -9223372036854775808 ≤ n ∧ n < 9223372036854775808 := by
  obtain ⟨n, rfl, hn⟩ := val_int hu h
  exact ⟨n, rfl, has_i64 hn⟩

/-- An array of unsigned integers by value. -/
theorem val_arr {k : IntKind} {e : TypeId} {n m : Nat} (hk : ∀ z, k.has z → 0 ≤ z ∧ z < m) (hu : P.underlying t = some (.array n e)) (he : P.underlying e = some (.int k)) (hts : P.cellTypes P.depth t = some (List.replicate n e))
    (hC : P.cellsOf t = n) (h : Value.okWide P w r b0 t v) : ∃ f : Nat → Nat, v = .agg (arrK k n f) ∧ ∀ i < n, f i < m := by
  obtain ⟨c, rfl, hc, hx⟩ := open_cells (by simp [hu]) hts (by simp) hC h
  have h1 : ∀ i, ∃ z : Nat, i < n → c[i]? = some (.int k z) ∧ z < m := fun i => by
    by_cases hi : i < n
    · obtain ⟨x, hx1, hx2⟩ := hx i e (by simp [hi])
      obtain ⟨z, rfl, hz⟩ := cell_int he hx2
      have := hk z hz
      exact ⟨z.toNat, fun _ => ⟨by rw [Int.toNat_of_nonneg this.1]; exact hx1, by omega⟩⟩
    · exact ⟨0, fun h => absurd h hi⟩
  refine ⟨fun i => (h1 i).choose, ?_, fun i hi => ((h1 i).choose_spec hi).2⟩
  exact congrArg Value.agg (arrK_of hc.1 fun i hi => ((h1 i).choose_spec hi).1)
end
end Go.Proofs.YtdlmamnnamlleaaDoor
namespace Go.Proofs.YtdlmamnnamlleaaDoor
open Go Go.RowKit Go.ChangeShapes Go.WideShapes Go.ChangeAt Go.Deep
set_option maxHeartbeats 1000000
set_option maxRecDepth 100000
theorem load_sh {w : World} {dst : Option Tmp} {x : Operand} {tt : TypeId} {pos : String} {af : Array Edge} {gd : Option (Nat × Bool)} {a : Act} {K : Act → World → Prop} {Q : Exit → Act → World → Prop}
    (hv : IsHead (a.eval x)) (h : Row w (blkOf (a.eval x)) 5) : Oper.wp Tryd.prog ⟨dst, .load 114 x, tt, pos, af, gd⟩ a w K Q ↔ K (a.put dst (.agg (rowAt w (blkOf (a.eval x))))) w :=
  wp_load_whole Tryd.underlying114 rfl (by kernel_rfl) hv h
theorem store_sh {w : World} {dst : Option Tmp} {x y : Operand} {tt : TypeId} {pos : String} {af : Array Edge} {gd : Option (Nat × Bool)} {a : Act} {K : Act → World → Prop} {Q : Exit → Act → World → Prop}
    (hv : IsHead (a.eval x)) (h : Row w (blkOf (a.eval x)) 5) (hx : IsAgg (a.eval y) 5) : Oper.wp Tryd.prog ⟨dst, .store 114 x y, tt, pos, af, gd⟩ a w K Q ↔ K (a.put dst undef) (w.setRow (blkOf (a.eval x)) (cellsV (a.eval y))) :=
  wp_store_whole (by kernel_rfl) hv h hx
theorem execl_sh {w : World} {dst : Option Tmp} {x : Operand} {tt : TypeId} {pos : String} {af : Array Edge} {gd : Option (Nat × Bool)} {ρ : Operand → Value}
    (hv : IsHead (ρ x)) (h : Row w (blkOf (ρ x)) 5) : (execOp ρ ⟨dst, .load 114 x, tt, pos, af, gd⟩).run Tryd.prog w = .ok (.value (.agg (rowAt w (blkOf (ρ x))))) w :=
  exec_load_whole Tryd.underlying114 rfl (by kernel_rfl) hv h
theorem execs_sh {w : World} {dst : Option Tmp} {x y : Operand} {tt : TypeId} {pos : String} {af : Array Edge} {gd : Option (Nat × Bool)} {ρ : Operand → Value}
    (hv : IsHead (ρ x)) (h : Row w (blkOf (ρ x)) 5) (hx : IsAgg (ρ y) 5) : (execOp ρ ⟨dst, .store 114 x y, tt, pos, af, gd⟩).run Tryd.prog w = .ok .skip (w.setRow (blkOf (ρ x)) (cellsV (ρ y))) :=
  exec_store_whole (by kernel_rfl) hv h hx
theorem load_shE {w : World} {dst : Option Tmp} {x : Operand} {tt : TypeId} {pos : String} {af : Array Edge} {gd : Option (Nat × Bool)} {a : Act} {K : Act → World → Prop} {Q : Exit → Act → World → Prop} (h : LdOk w 5 (a.eval x)) : Oper.wp Tryd.prog ⟨dst, .load 114 x, tt, pos, af, gd⟩ a w K Q ↔ K (a.put dst (.agg (ldC w 5 (a.eval x)))) w := wp_load_el Tryd.underlying114 rfl (by kernel_rfl) h
/-- A share's cells. -/
def shA (x : Int) (y : Nat) : Array Value := arrV 5 fun i => if i = 0 then .int .i64 x else .int .u64 (wd y (i - 1) : Nat)
theorem shA_cells (x : Int) (y : Nat) : Cells (shA x y) 5 := arrV_cells fun i _ => by split <;> rfl
theorem shA_0 (x : Int) (y : Nat) : (shA x y)[0]? = some (.int .i64 x) := arrV_at (by omega)
theorem shA_1 (x : Int) (y : Nat) : (shA x y).extract 1 (1 + 4) = arrK .u64 4 (wd y) := by
  unfold shA
  rw [arrV_extract (by omega), arrK_V .u64 4]
  exact arrV_congr fun i hi => by rw [if_neg (by omega), Nat.add_sub_cancel_left]
theorem shA_some (x : Int) (y : Nat) : ∀ i < 5, ((shA x y)[i]?).isSome = true := fun i hi => by unfold shA; rw [arrV_at hi]; rfl
theorem zeroSh : #[Value.int IntKind.i64 0, Value.int IntKind.u64 0, Value.int IntKind.u64 0, Value.int IntKind.u64 0, Value.int IntKind.u64 0] = shA 0 0 := by kernel_rfl
theorem build_sh (x : Int) (y : Nat) (w : World) : (Instr.build 114 #[(0, .int .i64 x), (1, .agg (arrK .u64 4 (wd y)))]).run Tryd.prog w = .ok (.agg (shA x y)) w := run_build w _ _ _ (by kernel_rfl)
/-- n shares at A. -/
structure Shs (w : World) (A : Option Addr) (n : Nat) (X : Nat → Int) (Y : Nat → Nat) : Prop where
  at_ : ∀ i < n, ∃ ad, A = some ad ∧ ad.block < w.heap.size ∧ ∀ k < 5, w.cell? ((ad.add (i * 5)).add k) = (shA (X i) (Y i))[k]?
theorem Shs.step {w w' : World} {A : Option Addr} {n : Nat} {X : Nat → Int} {Y : Nat → Nat} (h : Shs w A n X Y) (hb : Below w.heap.size w w') : Shs w' A n X Y := ⟨fun i hi => by
  obtain ⟨ad, e, hl, hc⟩ := h.at_ i hi
  refine ⟨ad, e, Nat.lt_of_lt_of_le hl hb.size, fun k hk => ?_⟩
  rw [← hc k hk]
  have hbl : ((ad.add (i * 5)).add k).block < w.heap.size := by rw [addr_block, addr_block]; exact hl
  exact hb.cell hbl⟩
section
variable {H : Type} {enc : TypeId × Value → H} {w : World} {base : Nat} {spare : Nat → Bool} {held : Bool}
/-- The four words of a number. -/
theorem num_of_trod {fuel : Nat} {cs : List Value} {x : DataW H × List MemPlace} (h : DataW.trod enc Tryd.prog w base spare held fuel 41 cs = some x) : ∃ y : Nat, y < 2 ^ 256 ∧ cs = (arrK .u64 4 (wd y)).toList := by
  obtain ⟨xs, m, rfl, hx, hlen, hn, hel⟩ := DataW.trod_array Tryd.underlying41 h
  have c1 : Tryd.prog.cellsOf 39 = 1 := by kernel_rfl
  have c4 : Tryd.prog.cellsOf 41 = 4 := by kernel_rfl
  rw [c4] at hlen
  obtain ⟨l, hl, hp⟩ := list_of 4 (fun i (b : Nat) => b < 18446744073709551616 ∧ cs[i]? = some (.int .u64 (b : Int))) (by
    intro i hi
    have h1 := hel i hi
    have hxi : xs[i]? = some (xs[i]'(by omega)) := List.getElem?_eq_getElem (by omega)
    rw [hxi, c1, Nat.mul_one] at h1
    obtain ⟨z, e1, -, hw⟩ := DataW.trod_int Tryd.underlying39 h1
    have hz : 0 ≤ z ∧ z < 18446744073709551616 := by
      simp only [Lit.wf, Bool.and_eq_true, decide_eq_true_eq] at hw
      exact has_u64 hw
    have h3 : ((cs.drop i).take 1)[0]? = some (.int .u64 z) := by rw [e1]; rfl
    rw [List.getElem?_take_of_lt (by omega), List.getElem?_drop, Nat.add_zero] at h3
    refine ⟨z.toNat, by omega, ?_⟩
    rw [h3, Int.toNat_of_nonneg hz.1])
  have hf : ∀ i < 4, l[i]?.getD 0 < 18446744073709551616 := fun i hi => by
    rw [List.getElem?_eq_getElem (by omega)]; exact (hp i (by omega)).1
  refine ⟨wval (fun i => l[i]?.getD 0) 4, wval_lt hf, ?_⟩
  rw [arrK_congr (wd_wval hf)]
  apply List.ext_getElem?
  intro i
  by_cases hi : i < 4
  · rw [(hp i (by omega)).2, Array.getElem?_toList, arrK_at hi, List.getElem?_eq_getElem (show i < l.length by omega)]; rfl
  · rw [List.getElem?_eq_none (by omega), List.getElem?_eq_none (by rw [Array.length_toList, arrK_size]; omega)]
theorem open_shares {fuel : Nat} {v : Value} {x : DataW H × List MemPlace} (h : DataW.trod enc Tryd.prog w base spare held fuel 60 [v] = some x) :
    ∃ (A : Option Addr) (n c : Nat) (X : Nat → Int) (Y : Nat → Nat), v = .slice A n c ∧ Shs w A n X Y ∧ n ≤ c ∧ c ≤ maxLen ∧ (∀ i < n, Y i < 2 ^ 256) ∧ ∀ i < n, -9223372036854775808 ≤ X i ∧ X i < 9223372036854775808 := by
  have c5 : Tryd.prog.cellsOf 114 = 5 := by kernel_rfl
  have c1 : Tryd.prog.cellsOf 3 = 1 := by kernel_rfl
  have c4 : Tryd.prog.cellsOf 41 = 4 := by kernel_rfl
  rcases open_slice Tryd.underlying60 h with ⟨hcs, -⟩ | ⟨a, len, cap, m, n, D, Pl, hcs, -, hl, hm, hmm, -, hi⟩
  · injection hcs with hv
    exact ⟨none, 0, 0, fun _ => 0, fun _ => 0, hv, ⟨fun i hi => absurd hi (by omega)⟩, Nat.le_refl _, by simp [maxLen], fun i hi => absurd hi (by omega), fun i hi => absurd hi (by omega)⟩
  · injection hcs with hv
    obtain ⟨P, hP, hp⟩ := list_of len (fun i (q : Int × Nat) => q.2 < 2 ^ 256 ∧ (-9223372036854775808 ≤ q.1 ∧ q.1 < 9223372036854775808) ∧ a.block < w.heap.size ∧ ∀ k < 5, w.cell? ((a.add (i * 5)).add k) = (shA q.1 q.2)[k]?) (by
      intro i hil
      have him : i < m := by rw [hmm]; split <;> omega
      obtain ⟨cs', hc, ht'⟩ := hi i him
      rw [c5] at hc
      obtain ⟨y0, y1, n', -, hyl, h0, h1⟩ := trod_struct2 Tryd.underlying114 ht'
      obtain ⟨-, hcl, hat⟩ := World.cells?_some hc
      dsimp only at h0 h1
      rw [c1] at h0
      rw [c4] at h1
      obtain ⟨z, e0, -, hw⟩ := DataW.trod_int Tryd.underlying3 h0
      obtain ⟨y, hy, e1⟩ := num_of_trod h1
      have hz : -9223372036854775808 ≤ z ∧ z < 9223372036854775808 := by
        simp only [Lit.wf, Bool.and_eq_true, decide_eq_true_eq] at hw
        exact has_i64 hw
      have hat' : ∀ k < 5, w.cell? ((a.add (i * 5)).add k) = (shA z y)[k]? := fun k hk => by
        rw [hat k hk]
        unfold shA
        rw [arrV_at hk]
        match k, hk with
        | 0, _ =>
          have h3 : ((cs'.drop 0).take 1)[0]? = some (.int .i64 z) := by rw [e0]; rfl
          rwa [List.getElem?_take_of_lt (by omega), List.getElem?_drop, Nat.add_zero] at h3
        | k + 1, hk =>
          have h3 : ((cs'.drop 1).take 4)[k]? = some (.int .u64 (wd y k : Nat)) := by
            rw [e1]
            have := arrK_at (k := .u64) (f := wd y) (show k < 4 by omega)
            rwa [← Array.getElem?_toList] at this
          rw [List.getElem?_take_of_lt (by omega), List.getElem?_drop] at h3
          rw [if_neg (by omega), Nat.add_sub_cancel, Nat.add_comm k 1, h3]
      have hb := cell_lt ((hat' 0 (by omega)).trans (shA_0 z y))
      rw [addr_block, addr_block] at hb
      exact ⟨(z, y), hy, hz, hb, hat'⟩)
    refine ⟨some a, len, cap, fun i => (P[i]?.getD (0, 0)).1, fun i => (P[i]?.getD (0, 0)).2, hv, ⟨fun i hi => ⟨a, rfl, ?_⟩⟩, hl, hm, fun i hi => ?_, fun i hi => ?_⟩
    · rw [List.getElem?_eq_getElem (show i < P.length by omega)]
      exact (hp i (by omega)).2.2
    · show (P[i]?.getD (0, 0)).2 < _
      rw [List.getElem?_eq_getElem (show i < P.length by omega)]
      exact (hp i (by omega)).1
    · show -9223372036854775808 ≤ (P[i]?.getD (0, 0)).1 ∧ (P[i]?.getD (0, 0)).1 < _
      rw [List.getElem?_eq_getElem (show i < P.length by omega)]
      exact (hp i (by omega)).2.1
end
end Go.Proofs.YtdlmamnnamlleaaDoor
namespace Go.Proofs.YtdlmamnnamlleaaDoor
open Go Go.RowKit Go.ChangeShapes Go.WideShapes Go.ChangeAt Go.Deep
set_option maxHeartbeats 1000000
set_option maxRecDepth 100000
section
variable {w : World} {dst : Option Tmp} {x y : Operand} {tt : TypeId} {pos : String} {af : Array Edge} {gd : Option (Nat × Bool)} {a : Act} {K : Act → World → Prop} {Q : Exit → Act → World → Prop}
theorem store_dw (hv : IsHead (a.eval x)) (h : Row w (blkOf (a.eval x)) 7) (hx : IsAgg (a.eval y) 7) : Oper.wp Tryd.prog ⟨dst, .store 43 x y, tt, pos, af, gd⟩ a w K Q ↔ K (a.put dst undef) (w.setRow (blkOf (a.eval x)) (cellsV (a.eval y))) :=
  wp_store_whole (by kernel_rfl) hv h hx
theorem load_dwE (h : LdOk w 7 (a.eval x)) : Oper.wp Tryd.prog ⟨dst, .load 43 x, tt, pos, af, gd⟩ a w K Q ↔ K (a.put dst (.agg (ldC w 7 (a.eval x)))) w := wp_load_el Tryd.underlying43 rfl (by kernel_rfl) h
theorem load_fldD (h : LdOk w 4 (a.eval x)) : Oper.wp Tryd.prog ⟨dst, .load 41 x, tt, pos, af, gd⟩ a w K Q ↔ K (a.put dst (.agg (ldC w 4 (a.eval x)))) w := wp_load_el Tryd.underlying41 rfl (by kernel_rfl) h
end
/-- A drawing's cells. -/
def dwA (s b : Bool) (n : Int) (m : Nat) : Array Value := arrV 7 fun i => if i = 0 then .bool s else if i = 1 then .bool b else if i = 2 then .int .i64 n else .int .u64 (wd m (i - 3) : Nat)
theorem dwA_cells (s b : Bool) (n : Int) (m : Nat) : Cells (dwA s b n m) 7 := arrV_cells fun i _ => by
  split
  · rfl
  · split
    · rfl
    · split <;> rfl
theorem dwA_0 (s b : Bool) (n : Int) (m : Nat) : (dwA s b n m)[0]? = some (.bool s) := arrV_at (by omega)
theorem dwA_1 (s b : Bool) (n : Int) (m : Nat) : (dwA s b n m)[1]? = some (.bool b) := arrV_at (by omega)
theorem dwA_2 (s b : Bool) (n : Int) (m : Nat) : (dwA s b n m)[2]? = some (.int .i64 n) := arrV_at (by omega)
theorem dwA_3 (s b : Bool) (n : Int) (m : Nat) : (dwA s b n m).extract 3 (3 + 4) = arrK .u64 4 (wd m) := by
  unfold dwA
  rw [arrV_extract (by omega), arrK_V .u64 4]
  exact arrV_congr fun i hi => by rw [if_neg (by omega), if_neg (by omega), if_neg (by omega), Nat.add_sub_cancel_left]
theorem dwA_some (s b : Bool) (n : Int) (m : Nat) : ∀ i < 7, ((dwA s b n m)[i]?).isSome = true := fun i hi => by unfold dwA; rw [arrV_at hi]; rfl
theorem zeroDw : #[Value.bool false, Value.bool false, Value.int IntKind.i64 0, Value.int IntKind.u64 0, Value.int IntKind.u64 0, Value.int IntKind.u64 0, Value.int IntKind.u64 0] = dwA false false 0 0 := by kernel_rfl
/-- A drawing. -/
structure Dr where
  skip : Bool
  below : Bool
  n : Int
  m : Nat
def Dr.cells (x : Dr) : Array Value := dwA x.skip x.below x.n x.m
/-- n drawings at A. -/
structure Drs (w : World) (A : Option Addr) (l : List Dr) : Prop where
  at_ : ∀ i (h : i < l.length), ∃ ad, A = some ad ∧ ad.block < w.heap.size ∧ ∀ k < 7, w.cell? ((ad.add (i * 7)).add k) = (l[i].cells)[k]?
theorem Drs.step {w w' : World} {A : Option Addr} {l : List Dr} (h : Drs w A l) (hb : Below w.heap.size w w') : Drs w' A l := ⟨fun i hi => by
  obtain ⟨ad, e, hl, hc⟩ := h.at_ i hi
  refine ⟨ad, e, Nat.lt_of_lt_of_le hl hb.size, fun k hk => ?_⟩
  rw [← hc k hk]
  have hbl : ((ad.add (i * 7)).add k).block < w.heap.size := by rw [addr_block, addr_block]; exact hl
  exact hb.cell hbl⟩
section
variable {H : Type} {enc : TypeId × Value → H} {w : World} {base : Nat} {spare : Nat → Bool} {held : Bool}
theorem open_drawings {fuel : Nat} {v : Value} {x : DataW H × List MemPlace} (h : DataW.trod enc Tryd.prog w base spare held fuel 36 [v] = some x) :
    ∃ (A : Option Addr) (l : List Dr) (c : Nat), v = .slice A l.length c ∧ Drs w A l ∧ l.length ≤ c ∧ c ≤ maxLen ∧ ∀ x ∈ l, x.m < 2 ^ 256 ∧ -9223372036854775808 ≤ x.n ∧ x.n < 9223372036854775808 := by
  have c7 : Tryd.prog.cellsOf 43 = 7 := by kernel_rfl
  have c1 : Tryd.prog.cellsOf 3 = 1 := by kernel_rfl
  have cb : Tryd.prog.cellsOf 4 = 1 := by kernel_rfl
  have c4 : Tryd.prog.cellsOf 41 = 4 := by kernel_rfl
  rcases open_slice Tryd.underlying36 h with ⟨hcs, -⟩ | ⟨a, len, cap, m, n, D, Pl, hcs, -, hl, hm, hmm, -, hi⟩
  · injection hcs with hv
    exact ⟨none, [], 0, hv, ⟨fun i hi => absurd hi (by simp)⟩, Nat.le_refl _, by simp [maxLen], fun x hx => by simp at hx⟩
  · injection hcs with hv
    obtain ⟨P, hP, hp⟩ := list_of len (fun i (q : Dr) => (q.m < 2 ^ 256 ∧ -9223372036854775808 ≤ q.n ∧ q.n < 9223372036854775808) ∧ a.block < w.heap.size ∧ ∀ k < 7, w.cell? ((a.add (i * 7)).add k) = (q.cells)[k]?) (by
      intro i hil
      have him : i < m := by rw [hmm]; split <;> omega
      obtain ⟨cs', hc, ht'⟩ := hi i him
      rw [c7] at hc
      obtain ⟨y0, y1, y2, y3, n', -, hyl, h0, h1, h2, h3⟩ := Go.Joins.trod_struct4 Tryd.underlying43 ht'
      obtain ⟨-, hcl, hat⟩ := World.cells?_some hc
      dsimp only at h0 h1 h2 h3
      rw [cb] at h0 h1
      rw [c1] at h2
      rw [c4] at h3
      obtain ⟨s, e0, -⟩ := DataW.trod_bool Tryd.underlying4 h0
      obtain ⟨b, e1, -⟩ := DataW.trod_bool Tryd.underlying4 h1
      obtain ⟨z, e2, -, hw⟩ := DataW.trod_int Tryd.underlying3 h2
      obtain ⟨y, hy, e3⟩ := num_of_trod h3
      have hz : -9223372036854775808 ≤ z ∧ z < 9223372036854775808 := by
        simp only [Lit.wf, Bool.and_eq_true, decide_eq_true_eq] at hw
        exact has_i64 hw
      have hat' : ∀ k < 7, w.cell? ((a.add (i * 7)).add k) = (dwA s b z y)[k]? := fun k hk => by
        rw [hat k hk]
        unfold dwA
        rw [arrV_at hk]
        match k, hk with
        | 0, _ =>
          have h4 : ((cs'.drop 0).take 1)[0]? = some (.bool s) := by rw [e0]; rfl
          rwa [List.getElem?_take_of_lt (by omega), List.getElem?_drop, Nat.add_zero] at h4
        | 1, _ =>
          have h4 : ((cs'.drop 1).take 1)[0]? = some (.bool b) := by rw [e1]; rfl
          rwa [List.getElem?_take_of_lt (by omega), List.getElem?_drop, Nat.add_zero] at h4
        | 2, _ =>
          have h4 : ((cs'.drop 2).take 1)[0]? = some (.int .i64 z) := by rw [e2]; rfl
          rwa [List.getElem?_take_of_lt (by omega), List.getElem?_drop, Nat.add_zero] at h4
        | k + 3, hk =>
          have h4 : ((cs'.drop 3).take 4)[k]? = some (.int .u64 (wd y k : Nat)) := by
            rw [e3]
            have := arrK_at (k := .u64) (f := wd y) (show k < 4 by omega)
            rwa [← Array.getElem?_toList] at this
          rw [List.getElem?_take_of_lt (by omega), List.getElem?_drop] at h4
          rw [if_neg (by omega), if_neg (by omega), if_neg (by omega), show k + 3 - 3 = k by omega, show k + 3 = 3 + k by omega, h4]
      have hb := cell_lt ((hat' 0 (by omega)).trans (dwA_0 s b z y))
      rw [addr_block, addr_block] at hb
      exact ⟨⟨s, b, z, y⟩, ⟨hy, hz⟩, hb, hat'⟩)
    refine ⟨some a, P, cap, by rw [hP]; exact hv, ⟨fun i hi => ⟨a, rfl, ?_⟩⟩, by omega, hm, fun x hx => ?_⟩
    · exact (hp i hi).2
    · obtain ⟨i, hi, rfl⟩ := List.getElem_of_mem hx
      exact (hp i hi).1
end
theorem isLen_ex (a : Nat) : ∃ L, a < 2 ^ L ∧ (L = 0 ∨ 2 ^ (L - 1) ≤ a) := by
  rcases Nat.eq_zero_or_pos a with h | h
  · exact ⟨0, by omega, .inl rfl⟩
  · exact ⟨a.log2 + 1, Nat.lt_log2_self, .inr (by rw [Nat.add_sub_cancel]; exact Nat.log2_self_le (by omega))⟩
end Go.Proofs.YtdlmamnnamlleaaDoor
namespace Go.Proofs.YtdlmamnnamlleaaDoor
open Go.ChangeShapes Go.WideShapes Go.ChangeAt Go.RowKit
set_option maxHeartbeats 4000000
set_option maxRecDepth 100000
theorem belIs_ex (K : Nat → W32) (seed : List UInt8) (m L p : Nat) : ∃ (x n : Nat) (z : Int), BelIs K seed m L p x n z ∧ n ≤ 3200 := by
  have h : ∀ k ≤ 100, (∀ i < k, ¬ tryX K seed L p i < m) ∨ ∃ j < k, (∀ i < j, ¬ tryX K seed L p i < m) ∧ tryX K seed L p j < m := by
    intro k
    induction k with
    | zero => exact fun _ => .inl fun i hi => absurd hi (by omega)
    | succ k ih =>
      intro hk
      rcases ih (by omega) with h | ⟨j, hj, h⟩
      · by_cases hx : tryX K seed L p k < m
        · exact .inr ⟨k, by omega, h, hx⟩
        · refine .inl fun i hi => ?_
          rcases Nat.lt_or_ge i k with h2 | h2
          · exact h i h2
          · obtain rfl : i = k := by omega
            exact hx
      · exact .inr ⟨j, by omega, h⟩
  rcases h 100 (Nat.le_refl _) with h | ⟨j, hj, h1, h2⟩
  · exact ⟨0, 3200, 6, .inr ⟨h, rfl, rfl, rfl⟩, Nat.le_refl _⟩
  · exact ⟨_, 32 * (j + 1), 0, .inl ⟨j, hj, h1, h2, rfl, rfl, rfl⟩, by omega⟩
/-- Both ways of drawing a number below m, at once. -/
theorem below_both (K : Nat → W32) (w0 : World) (seed : List UInt8) (p m : Nat) (hT0 : Tabs K w0) (hsl : seed.length ≤ 576460752303423488) (hp : p < 18446744073709551616) (hm : m < 2 ^ 256) : ∃ (x n : Nat) (z : Int), n ≤ 3200 ∧ x < 2 ^ 256 ∧
    (∀ V, Src K w0 seed p V → Calls Tryd.prog 13 #[.pointer (some ⟨w0.heap.size, 0, none⟩), numV m] V fun e w' => e = .returned (.tuple #[numV x, .int .i64 z]) ∧ Src K w0 seed (plc p n) w' ∧ KbG w0.heap.size V w') ∧
    (∀ V, Tabs K V → Calls Tryd.prog 14 #[strV seed, .int .u64 (p : Nat), numV m] V fun e w' => e = .returned (.tuple #[numV x, .int .i64 (n : Nat), .int .i64 z]) ∧ Below V.heap.size V w') := by
  by_cases hm0 : m = 0
  · subst hm0
    refine ⟨0, 0, 1, by omega, by decide +kernel, fun V hS => (src_BelowNone w0 V).mono fun e w' ⟨h1, h2⟩ => ⟨h1, by rw [plc_zero hp]; exact hS.step h2, KbG.of h2⟩, fun V _ => ref_DrawnBelowNone seed p V⟩
  · obtain ⟨L, hL⟩ := isLen_ex (m - 1)
    obtain ⟨x, n, z, hB, hn⟩ := belIs_ex K seed m L p
    refine ⟨x, n, z, hn, Nat.lt_trans (hB.lt (by omega)) hm, fun V hS => (src_Below K w0 seed p m L V hS hT0 hm0 hm hL).mono fun e w' ⟨x', n', z', h1, h2, h3, h4⟩ => ?_, fun V hT => (ref_DrawnBelow K seed p m L V hT hsl hp hm0 hm hL).mono fun e w' ⟨x', n', z', h1, h2, h3⟩ => ?_⟩
    · obtain ⟨rfl, rfl, rfl⟩ := h2.only hB
      exact ⟨h1, h3, h4⟩
    · obtain ⟨rfl, rfl, rfl⟩ := h2.only hB
      exact ⟨h1, h3⟩
theorem place_c (K : Nat → W32) (w0 : World) (seed : List UInt8) (p : Nat) (w : World) (h : Src K w0 seed p w) :
    Calls Tryd.prog 15 #[.pointer (some ⟨w0.heap.size, 0, none⟩)] w fun e w' => e = .returned (.int .u64 (p : Nat)) ∧ w = w' := by
  obtain ⟨m, d, h⟩ := h
  exact draw_Place K w0 seed p m d w h
theorem Bw.kb {w w' : World} {g g0 n : Nat} {c : Array Value} (h : Bw w g n c) (hk : KbG g0 w w') (hne : g ≠ g0) : Bw w' g n c := ⟨(hk.row h.row hne).1, (hk.row h.row hne).2.trans h.eq⟩
theorem conv_dw {K : Nat → W32} {seed : List UInt8} {w : World} {g p k : Nat} (h : At w g .u8 k (dwF K seed p k)) : (convert 22 9 (.slice (some ⟨g, 0, none⟩) k k)).run Tryd.prog w = .ok (strV (bLs (fun i => dwB K seed (plc p i)) k)) w := by
  have hf : ∀ i < k, dwF K seed p k i = dwB K seed (plc p i) := fun i hi => by unfold dwF; rw [if_pos hi]
  have h2 := (h.congr hf).rdB (Nat.le_refl k) (fun i _ => dwB_lt K seed _)
  have h3 := conv_rd (P := Tryd.prog) (c := k) Tryd.underlying22 Tryd.underlying5 Tryd.underlying9 h2
  rwa [bLs_len] at h3
theorem extract_allD {a : Array Value} {n : Nat} (h : a.size = n) : a.extract 0 n = a := by subst h; exact Array.extract_size
theorem neqN4d (f : Nat → Nat) (w : World) : (binOp .neq 41 (.agg (arrK .u64 4 f)) (.agg (arrK .u64 4 f))).run Tryd.prog w = .ok (.bool false) w := by
  rw [run_neq_arrK Tryd.underlying41 Tryd.underlying39 (by kernel_rfl)]
  simp
attribute [local irreducible] arrV dgA sha macA macZ srcB be8 dwA
attribute [local go_sem ↓] load_dwE store_dw load_fldD store_num load_num
attribute [local go_sem] isHead_mk isPart_mk offOf_mk blkOf_mk isAgg_mk cellsV_mk row_drew rowAt_drew row_new_cells row_old rowAt_new rowAt_old setRow_new zeroNum zeroDw
theorem drawTells_true (K : Nat → W32) (A : Option Addr) (seed : List UInt8) (c : Nat) (B : Option Addr) (l : List Dr) (n d : Nat) (w : World) (hT : Tabs K w) (hs : Bs w A seed c) (hsl : seed.length ≤ 140737488351232) (hD : Drs w B l) (hn : l.length = n) (hnc : n ≤ d) (hx : ∀ x ∈ l, x.m < 2 ^ 256 ∧ -9223372036854775808 ≤ x.n ∧ x.n < 9223372036854775808) :
    Calls Tryd.prog 4 #[.slice A seed.length c, .slice B n d] w fun e w' => e = .returned (.bool true) ∧ Below w.heap.size w w' := by
  by_cases h20 : 20 < n
  · have d1 : decide ((n : Int) > 20) = true := by simp; omega
    have d2 : (20 : Int) < (n : Int) := by omega
    clear hT hs hD hx hn h20
    go_enter Tryd.func4, Tryd.ntmps4
    go_wp2_with fail
    exact ret_tmp (p := 4) (v := .bool true) rfl (by simp) rfl ⟨rfl, Below.refl _ _⟩
  · have d1 : decide ((n : Int) > 20) = false := by simp; omega
    have d2 : ¬ (20 : Int) < (n : Int) := by omega
    have hn20 : n ≤ 20 := by omega
    have kN := Lib.hid (draw_New K A seed c w hT hs)
    have hTh := Lib.hid hT
    have hsh := Lib.hid hs
    have hDh := Lib.hid hD
    have hnh := Lib.hid (And.intro hn hx)
    have hsl2 := Lib.hid hsl
    clear hT hs hD hx hn h20 hsl
    go_enter Tryd.func4, Tryd.ntmps4
    go_upto_region 3 with (fail)
    go_wp2_with fail
    refine kN.out.mono ?_
    rintro e w1 ⟨w0, rfl, hS0, hb0⟩
    replace hTh := Lib.hid (hTh.out.step hb0)
    replace hsh := Lib.hid (hsh.out.step hb0)
    replace hDh := Lib.hid (hDh.out.step hb0)
    have hL0 := Lib.hid hb0
    have hS := Lib.hid (show Src K w0 seed 0 w1 from ⟨_, _, hS0⟩)
    clear kN hS0 hb0 d1 d2
    go_upto_region 6 with (fail)
    rw [show (Value.int IntKind.u64 0) = Value.int IntKind.u64 ((0 : Nat) : Int) from rfl]
    go_loopw [6, 24] (fun pv iv wr => ∃ i p : Nat, iv = .int .i64 i ∧ pv = .int .u64 p ∧ i ≤ n ∧ Hid (Src K w0 seed p wr)) (fun _ iv _ => n - (intOf iv).toNat)
    case atStart => exact ⟨0, 0, rfl, rfl, Nat.zero_le _, hS⟩
    case round =>
      clear hS
      obtain ⟨i, p, rfl, rfl, hi, hS⟩ := hrel
      by_cases hin : i = n
      · subst hin
        have d1 : decide ((i : Int) < (i : Int)) = false := by simp
        go_wp2_with fail
        exact ret_tmp (p := 4) (v := .bool true) rfl (by simp) rfl ⟨rfl, below_step hS.out.bel hL0.out (Nat.le_refl _)⟩
      · have d1 : decide ((i : Int) < (n : Int)) = true := by simp; omega
        have hil : i < n := by omega
        have hii : (i : Int) < (n : Int) := by omega
        have hi0 : (0 : Int) ≤ (i : Int) := by omega
        have hir : i < l.length := by rw [hnh.out.1]; exact hil
        obtain ⟨ad, hA, hal, hac⟩ := (hDh.out.step hS.out.bel).at_ i hir
        have hxi := hnh.out.2 l[i] (List.getElem_mem hir)
        obtain ⟨xx, hxx⟩ : ∃ x, l[i] = x := ⟨_, rfl⟩
        rw [hxx] at hac hxi
        obtain ⟨sk, be, N, M⟩ := xx
        unfold Dr.cells at hac
        dsimp only at hac hxi
        have hl := pl_ldC (dwA_cells sk be N M).1 (dwA_some sk be N M) hac
        have hl1 := hl.1
        have hl2 := hl.2
        subst hA
        have hcs := dwA_cells sk be N M
        have hcz := dwA_cells false false 0 0
        have hxh := Lib.hid hxi
        clear hl hac hal hxx hxi
        go_upto_region 8 with (fail)
        have hbA := below_alloc wr (Obj.cells (dwA sk be N M) 43)
        have hG := Lib.hid (Bw.new (w := wr) 43 hcs.1)
        have hg8 := Lib.hid hS.out.lt
        have hpl := Lib.hid hS.out.pl
        replace hS := Lib.hid (hS.out.step hbA)
        clear hbA hl1 hl2 hcs hcz
        generalize wr.alloc _ = W8 at *
        generalize wr.heap.size = g8 at *
        have c0 := hG.out.cell (dwA_0 _ _ _ _)
        have c1 := hG.out.cell (dwA_1 _ _ _ _)
        have c2 := hG.out.cell (dwA_2 _ _ _ _)
        cases be
        · by_cases hf : fitE N = 0
          · obtain ⟨k, hk, hk4⟩ : ∃ k : Nat, N = (k : Int) ∧ k ≤ 4096 := by
              unfold fitE at hf
              by_cases q1 : N < 0
              · rw [if_pos q1] at hf; cases hf
              · rw [if_neg q1] at hf
                by_cases q2 : 4096 < N
                · rw [if_pos q2] at hf; cases hf
                · exact ⟨N.toNat, by omega, by omega⟩
            subst hk
            have f1 : decide ((k : Int) < 0) = false := by simp
            have f2 : decide ((k : Int) > 4096) = false := by simp; omega
            have f3 : ¬ (k : Int) < 0 := by omega
            have f4 : ¬ (4096 : Int) < (k : Int) := by omega
            have w1 : IntKind.u64.wrap (k : Int) = (k : Int) := by rw [IntKind.wrap_u64]; omega
            have w2 : IntKind.u64.wrap ((p : Int) + (k : Int)) = ((plc p k : Nat) : Int) := by rw [IntKind.wrap_u64]; unfold plc; omega
            clear hf
            cases sk
            · -- bytes
              have kB := Lib.hid (src_Bytes K w0 seed p k W8 hS.out hTh.out hk4)
              go_upto_region 23 with (fail)
              go_wp2_with fail
              refine kB.out.mono ?_
              rintro e w5 ⟨gb, rfl, hAb, hS5, hK5⟩
              have hG5 := Lib.hid (hG.out.kb hK5 (by have := hg8.out; omega))
              have hAbh := Lib.hid hAb
              replace hS := Lib.hid hS5
              have c02 := hG5.out.cell (dwA_0 _ _ _ _)
              have c22 := hG5.out.cell (dwA_2 _ _ _ _)
              clear hAb hS5 hK5 kB c0 c1 c2 hG
              go_upto_region 27 with (fail)
              generalize ha0 : Act.mk _ _ = a0
              have e0 : a0.tmps[0]?.getD undef = .slice A seed.length c := by rw [← ha0]; rfl
              have e6 : a0.tmps[6]?.getD undef = .int .u64 (p : Nat) := by rw [← ha0]; rfl
              have e8 : a0.tmps[8]?.getD undef = .pointer (some ⟨g8, 0, none⟩) := by rw [← ha0]; rfl
              have e15 : a0.tmps[15]?.getD undef = .slice (some ⟨gb, 0, none⟩) k k := by rw [← ha0]; rfl
              have hz0 : a0.tmps.size = 122 := by rw [← ha0]; rfl
              have hha0 := Lib.hid ha0
              clear ha0
              refine wp_region_calm (fun jx_ => match jx_ with | 0 => SRel.is (.pointer (some ⟨g8, 0, none⟩)) | 1 => SRel.is (.bool false) | 2 => SRel.is (.bool true) | 3 => SRel.is (.bool true) | 4 => SRel.is (.slice (some ⟨gb, 0, none⟩) k k) | 5 => SRel.is (strV (bLs (fun i => dwB K seed (plc p i)) k)) | 6 => SRel.is (.slice A seed.length c) | 7 => SRel.is (strV seed) | 8 => SRel.is (.int .u64 (p : Nat)) | 9 => SRel.is (.pointer (some ⟨g8, 2, none⟩)) | 10 => SRel.is (.int .i64 (k : Nat)) | 11 => SRel.is (strV (bLs (fun i => dwB K seed (plc p i)) k)) | 12 => SRel.is (.bool false) | 13 => SRel.is (.bool false) | _ => SRel.any) (by kernel_rfl) (by kernel_rfl) (by kernel_rfl) (slotsOk_of hz0 (by kernel_rfl)) ⟨?_, ?_, ?_, ?_, ?_, ?_, ?_, ?_, ?_, ?_, ?_, ?_, ?_, ?_, trivial⟩ ?_
              · refine calm_step rfl fun a ω κ hb hu hc hK => ?_
                have h8 : a.tmps[8]?.getD undef = .pointer (some ⟨g8, 0, none⟩) := (hu 8 rfl).trans e8
                have hk := Lib.hid (fun w1 (h : Below ω.heap.size ω w1) => hK (.pointer (some ⟨g8, 0, none⟩)) w1 rfl h)
                clear hK hu hc
                go_simp
                exact hk.out _ (Below.refl _ _)
              · refine calm_step rfl fun a ω κ hb hu hc hK => ?_
                have h98 : a.tmps[98]?.getD undef = .pointer (some ⟨g8, 0, none⟩) := hc 0 98 rfl rfl
                have hk := Lib.hid (fun w1 (h : Below ω.heap.size ω w1) => hK (.bool false) w1 rfl h)
                clear hK hu hc
                have q1 := (hG5.out.step hb).cell (dwA_0 _ _ _ _)
                go_simp
                exact hk.out _ (Below.refl _ _)
              · refine calm_step rfl fun a ω κ hb hu hc hK => ?_
                have h99 : a.tmps[99]?.getD undef = .bool false := hc 1 99 rfl rfl
                have hk := Lib.hid (fun w1 (h : Below ω.heap.size ω w1) => hK (.bool true) w1 rfl h)
                clear hK hu hc
                go_simp
                exact hk.out _ (Below.refl _ _)
              · refine calm_step rfl fun a ω κ hb hu hc hK => ?_
                have h100 : a.tmps[100]?.getD undef = .bool true := hc 2 100 rfl rfl
                have hk := Lib.hid (fun w1 (h : Below ω.heap.size ω w1) => hK (.bool true) w1 rfl h)
                clear hK hu hc
                go_simp
                exact hk.out _ (Below.refl _ _)
              · refine calm_step_guard (g := 3) (b := true) (d := 101) rfl rfl (fun a w hc => hc 3 101 rfl rfl) fun a ω κ hb hu hc hK => ?_
                have h15 : a.tmps[15]?.getD undef = .slice (some ⟨gb, 0, none⟩) k k := (hu 15 rfl).trans e15
                have hk := Lib.hid (fun w1 (h : Below ω.heap.size ω w1) => hK (.slice (some ⟨gb, 0, none⟩) k k) w1 rfl h)
                clear hK hu hc
                go_simp
                exact hk.out _ (Below.refl _ _)
              · refine calm_step_guard (g := 3) (b := true) (d := 101) rfl rfl (fun a w hc => hc 3 101 rfl rfl) fun a ω κ hb hu hc hK => ?_
                have h102 : a.tmps[102]?.getD undef = .slice (some ⟨gb, 0, none⟩) k k := hc 4 102 rfl rfl
                have hk := Lib.hid (fun w1 (h : Below ω.heap.size ω w1) => hK (strV (bLs (fun i => dwB K seed (plc p i)) k)) w1 rfl h)
                clear hK hu hc
                have q1 := conv_dw (hAbh.out.step hb)
                go_simp
                exact hk.out _ (Below.refl _ _)
              · refine calm_step_guard (g := 3) (b := true) (d := 101) rfl rfl (fun a w hc => hc 3 101 rfl rfl) fun a ω κ hb hu hc hK => ?_
                have h0 : a.tmps[0]?.getD undef = .slice A seed.length c := (hu 0 rfl).trans e0
                have hk := Lib.hid (fun w1 (h : Below ω.heap.size ω w1) => hK (.slice A seed.length c) w1 rfl h)
                clear hK hu hc
                go_simp
                exact hk.out _ (Below.refl _ _)
              · refine calm_step_guard (g := 3) (b := true) (d := 101) rfl rfl (fun a w hc => hc 3 101 rfl rfl) fun a ω κ hb hu hc hK => ?_
                have h104 : a.tmps[104]?.getD undef = .slice A seed.length c := hc 6 104 rfl rfl
                have hk := Lib.hid (fun w1 (h : Below ω.heap.size ω w1) => hK (strV seed) w1 rfl h)
                clear hK hu hc
                have q1 := ((hsh.out.step hS.out.bel).step hb).conv
                go_simp
                exact hk.out _ (Below.refl _ _)
              · refine calm_step_guard (g := 3) (b := true) (d := 101) rfl rfl (fun a w hc => hc 3 101 rfl rfl) fun a ω κ hb hu hc hK => ?_
                have h6 : a.tmps[6]?.getD undef = .int .u64 (p : Nat) := (hu 6 rfl).trans e6
                have hk := Lib.hid (fun w1 (h : Below ω.heap.size ω w1) => hK (.int .u64 (p : Nat)) w1 rfl h)
                clear hK hu hc
                go_simp
                exact hk.out _ (Below.refl _ _)
              · refine calm_step_guard (g := 3) (b := true) (d := 101) rfl rfl (fun a w hc => hc 3 101 rfl rfl) fun a ω κ hb hu hc hK => ?_
                have h8 : a.tmps[8]?.getD undef = .pointer (some ⟨g8, 0, none⟩) := (hu 8 rfl).trans e8
                have hk := Lib.hid (fun w1 (h : Below ω.heap.size ω w1) => hK (.pointer (some ⟨g8, 2, none⟩)) w1 rfl h)
                clear hK hu hc
                go_simp
                exact hk.out _ (Below.refl _ _)
              · refine calm_step_guard (g := 3) (b := true) (d := 101) rfl rfl (fun a w hc => hc 3 101 rfl rfl) fun a ω κ hb hu hc hK => ?_
                have h107 : a.tmps[107]?.getD undef = .pointer (some ⟨g8, 2, none⟩) := hc 9 107 rfl rfl
                have hk := Lib.hid (fun w1 (h : Below ω.heap.size ω w1) => hK (.int .i64 (k : Nat)) w1 rfl h)
                clear hK hu hc
                have q1 := (hG5.out.step hb).cell (dwA_2 _ _ _ _)
                go_simp
                exact hk.out _ (Below.refl _ _)
              · refine calm_step_guard (g := 3) (b := true) (d := 101) rfl rfl (fun a w hc => hc 3 101 rfl rfl) fun a ω κ hb hu hc hK => ?_
                have h105 : a.tmps[105]?.getD undef = strV seed := hc 7 105 rfl rfl
                have h106 : a.tmps[106]?.getD undef = .int .u64 (p : Nat) := hc 8 106 rfl rfl
                have h108 : a.tmps[108]?.getD undef = .int .i64 (k : Nat) := hc 10 108 rfl rfl
                have hk := Lib.hid (fun w1 (h : Below ω.heap.size ω w1) => hK (strV (bLs (fun i => dwB K seed (plc p i)) k)) w1 rfl h)
                clear hK hu hc
                go_simp
                go_at_call 18
                refine (ref_Drawn K seed p k ω ((hTh.out.step hS.out.bel).step hb) hk4 (by have := hsl2.out; omega)).mono ?_
                rintro e w1 ⟨rfl, hb1⟩
                exact hk.out _ hb1
              · refine calm_step_guard (g := 3) (b := true) (d := 101) rfl rfl (fun a w hc => hc 3 101 rfl rfl) fun a ω κ hb hu hc hK => ?_
                have h103 : a.tmps[103]?.getD undef = strV (bLs (fun i => dwB K seed (plc p i)) k) := hc 5 103 rfl rfl
                have h109 : a.tmps[109]?.getD undef = strV (bLs (fun i => dwB K seed (plc p i)) k) := hc 11 109 rfl rfl
                have hk := Lib.hid (fun w1 (h : Below ω.heap.size ω w1) => hK (.bool false) w1 rfl h)
                clear hK hu hc
                go_simp
                exact hk.out _ (Below.refl _ _)
              · refine calm_step rfl fun a ω κ hb hu hc hK => ?_
                have h101 : a.tmps[101]?.getD undef = .bool true := hc 3 101 rfl rfl
                have h110 : a.tmps[110]?.getD undef = .bool false := hc 12 110 rfl rfl
                have hk := Lib.hid (fun w1 (h : Below ω.heap.size ω w1) => hK (.bool false) w1 rfl h)
                clear hK hu hc
                go_simp
                exact hk.out _ (Below.refl _ _)
              · intro a1 w1 hb1 hu1 hsz1 hdf1 hc1
                have ha0 := hha0.out
                subst ha0
                have he := act_patch (n := 122) [false, false, false, false, false, false, false, false, false, false, false, false, false, false, false, false, false, false, false, false, false, false, false, false, false, false, false, false, false, false, false, false, false, false, false, false, false, false, false, false, false, false, false, false, false, false, false, false, false, false, false, false, false, false, false, false, false, false, false, false, false, false, false, false, false, false, false, false, false, false, false, false, false, false, false, false, false, false, false, false, false, false, false, false, false, false, false, false, false, false, false, false, false, false, false, false, false, false, true, true, true, true, true, true, true, true, true, true, true, true, true, true, false, false, false, false, false, false, false, false, false, false] rfl (by kernel_rfl) hu1 hsz1 hdf1
                simp only [patch, cond_true, cond_false, Nat.reduceAdd] at he
                have hkn111 : a1.tmps[111]?.getD undef = .bool false := hc1 13 111 rfl
                replace hS := Lib.hid (hS.out.step hb1)
                replace hG5 := Lib.hid (hG5.out.step hb1)
                clear c02 c22
                clear hb1 hu1 hsz1 hdf1 hc1 hz0 hha0 e0 e6 e8 e15
                rw [he]
                clear he
                rw [hkn111]
                clear hkn111
                generalize a1.tmps[98]?.getD undef = x98 at *
                generalize a1.tmps[99]?.getD undef = x99 at *
                generalize a1.tmps[100]?.getD undef = x100 at *
                generalize a1.tmps[101]?.getD undef = x101 at *
                generalize a1.tmps[102]?.getD undef = x102 at *
                generalize a1.tmps[103]?.getD undef = x103 at *
                generalize a1.tmps[104]?.getD undef = x104 at *
                generalize a1.tmps[105]?.getD undef = x105 at *
                generalize a1.tmps[106]?.getD undef = x106 at *
                generalize a1.tmps[107]?.getD undef = x107 at *
                generalize a1.tmps[108]?.getD undef = x108 at *
                generalize a1.tmps[109]?.getD undef = x109 at *
                generalize a1.tmps[110]?.getD undef = x110 at *
                go_upto_region 29 with (fail)
                have c23 := hG5.out.cell (dwA_2 _ _ _ _)
                go_upto_region 30 with (fail)
                have kP := Lib.hid (place_c K w0 seed (plc p k) w1 hS.out)
                go_upto_region 30 with (fail)
                go_wp2_with fail
                refine kP.out.mono ?_
                rintro e w9' ⟨rfl, rfl⟩
                clear kP
                go_wp2_with fail
                refine ⟨⟨i + 1, (plc p k), by go_num, rfl, hil, hS⟩, ?_⟩
                simp [intOf]; omega
            · -- skip
              have kB := Lib.hid (src_Skip K w0 seed p k W8 hS.out hk4)
              go_upto_region 22 with (fail)
              go_wp2_with fail
              refine kB.out.mono ?_
              rintro e w5 ⟨rfl, hS5, hK5⟩
              have hG5 := Lib.hid (hG.out.kb hK5 (by have := hg8.out; omega))
              replace hS := Lib.hid hS5
              have c02 := hG5.out.cell (dwA_0 _ _ _ _)
              have c22 := hG5.out.cell (dwA_2 _ _ _ _)
              clear hS5 hK5 kB c0 c1 c2 hG
              go_upto_region 27 with (fail)
              generalize ha0 : Act.mk _ _ = a0
              have e0 : a0.tmps[0]?.getD undef = .slice A seed.length c := by rw [← ha0]; rfl
              have e6 : a0.tmps[6]?.getD undef = .int .u64 (p : Nat) := by rw [← ha0]; rfl
              have e8 : a0.tmps[8]?.getD undef = .pointer (some ⟨g8, 0, none⟩) := by rw [← ha0]; rfl
              have e15 : a0.tmps[15]?.getD undef = .slice none 0 0 := by rw [← ha0]; rfl
              have hz0 : a0.tmps.size = 122 := by rw [← ha0]; rfl
              have hha0 := Lib.hid ha0
              clear ha0
              refine wp_region_calm (fun jx_ => match jx_ with | 0 => SRel.is (.pointer (some ⟨g8, 0, none⟩)) | 1 => SRel.is (.bool true) | 2 => SRel.is (.bool false) | 3 => SRel.is (.bool false) | 4 => SRel.any | 5 => SRel.any | 6 => SRel.any | 7 => SRel.any | 8 => SRel.any | 9 => SRel.any | 10 => SRel.any | 11 => SRel.any | 12 => SRel.any | 13 => SRel.is (.bool false) | _ => SRel.any) (by kernel_rfl) (by kernel_rfl) (by kernel_rfl) (slotsOk_of hz0 (by kernel_rfl)) ⟨?_, ?_, ?_, ?_, ?_, ?_, ?_, ?_, ?_, ?_, ?_, ?_, ?_, ?_, trivial⟩ ?_
              · refine calm_step rfl fun a ω κ hb hu hc hK => ?_
                have h8 : a.tmps[8]?.getD undef = .pointer (some ⟨g8, 0, none⟩) := (hu 8 rfl).trans e8
                have hk := Lib.hid (fun w1 (h : Below ω.heap.size ω w1) => hK (.pointer (some ⟨g8, 0, none⟩)) w1 rfl h)
                clear hK hu hc
                go_simp
                exact hk.out _ (Below.refl _ _)
              · refine calm_step rfl fun a ω κ hb hu hc hK => ?_
                have h98 : a.tmps[98]?.getD undef = .pointer (some ⟨g8, 0, none⟩) := hc 0 98 rfl rfl
                have hk := Lib.hid (fun w1 (h : Below ω.heap.size ω w1) => hK (.bool true) w1 rfl h)
                clear hK hu hc
                have q1 := (hG5.out.step hb).cell (dwA_0 _ _ _ _)
                go_simp
                exact hk.out _ (Below.refl _ _)
              · refine calm_step rfl fun a ω κ hb hu hc hK => ?_
                have h99 : a.tmps[99]?.getD undef = .bool true := hc 1 99 rfl rfl
                have hk := Lib.hid (fun w1 (h : Below ω.heap.size ω w1) => hK (.bool false) w1 rfl h)
                clear hK hu hc
                go_simp
                exact hk.out _ (Below.refl _ _)
              · refine calm_step rfl fun a ω κ hb hu hc hK => ?_
                have h100 : a.tmps[100]?.getD undef = .bool false := hc 2 100 rfl rfl
                have hk := Lib.hid (fun w1 (h : Below ω.heap.size ω w1) => hK (.bool false) w1 rfl h)
                clear hK hu hc
                go_simp
                exact hk.out _ (Below.refl _ _)
              · exact calm_step_skip (g := 3) (b := true) (d := 101) rfl rfl (fun a w hc => hc 3 101 rfl rfl) (fun _ => trivial)
              · exact calm_step_skip (g := 3) (b := true) (d := 101) rfl rfl (fun a w hc => hc 3 101 rfl rfl) (fun _ => trivial)
              · exact calm_step_skip (g := 3) (b := true) (d := 101) rfl rfl (fun a w hc => hc 3 101 rfl rfl) (fun _ => trivial)
              · exact calm_step_skip (g := 3) (b := true) (d := 101) rfl rfl (fun a w hc => hc 3 101 rfl rfl) (fun _ => trivial)
              · exact calm_step_skip (g := 3) (b := true) (d := 101) rfl rfl (fun a w hc => hc 3 101 rfl rfl) (fun _ => trivial)
              · exact calm_step_skip (g := 3) (b := true) (d := 101) rfl rfl (fun a w hc => hc 3 101 rfl rfl) (fun _ => trivial)
              · exact calm_step_skip (g := 3) (b := true) (d := 101) rfl rfl (fun a w hc => hc 3 101 rfl rfl) (fun _ => trivial)
              · exact calm_step_skip (g := 3) (b := true) (d := 101) rfl rfl (fun a w hc => hc 3 101 rfl rfl) (fun _ => trivial)
              · exact calm_step_skip (g := 3) (b := true) (d := 101) rfl rfl (fun a w hc => hc 3 101 rfl rfl) (fun _ => trivial)
              · refine calm_step rfl fun a ω κ hb hu hc hK => ?_
                have h101 : a.tmps[101]?.getD undef = .bool false := hc 3 101 rfl rfl
                have h110 : (SRel.any).p (a.tmps[110]?.getD undef) ω := hc 12 110 rfl rfl
                have hk := Lib.hid (fun w1 (h : Below ω.heap.size ω w1) => hK (.bool false) w1 rfl h)
                clear hK hu hc
                go_simp
                exact hk.out _ (Below.refl _ _)
              · intro a1 w1 hb1 hu1 hsz1 hdf1 hc1
                have ha0 := hha0.out
                subst ha0
                have he := act_patch (n := 122) [false, false, false, false, false, false, false, false, false, false, false, false, false, false, false, false, false, false, false, false, false, false, false, false, false, false, false, false, false, false, false, false, false, false, false, false, false, false, false, false, false, false, false, false, false, false, false, false, false, false, false, false, false, false, false, false, false, false, false, false, false, false, false, false, false, false, false, false, false, false, false, false, false, false, false, false, false, false, false, false, false, false, false, false, false, false, false, false, false, false, false, false, false, false, false, false, false, false, true, true, true, true, true, true, true, true, true, true, true, true, true, true, false, false, false, false, false, false, false, false, false, false] rfl (by kernel_rfl) hu1 hsz1 hdf1
                simp only [patch, cond_true, cond_false, Nat.reduceAdd] at he
                have hkn111 : a1.tmps[111]?.getD undef = .bool false := hc1 13 111 rfl
                replace hS := Lib.hid (hS.out.step hb1)
                replace hG5 := Lib.hid (hG5.out.step hb1)
                clear c02 c22
                clear hb1 hu1 hsz1 hdf1 hc1 hz0 hha0 e0 e6 e8 e15
                rw [he]
                clear he
                rw [hkn111]
                clear hkn111
                generalize a1.tmps[98]?.getD undef = x98 at *
                generalize a1.tmps[99]?.getD undef = x99 at *
                generalize a1.tmps[100]?.getD undef = x100 at *
                generalize a1.tmps[101]?.getD undef = x101 at *
                generalize a1.tmps[102]?.getD undef = x102 at *
                generalize a1.tmps[103]?.getD undef = x103 at *
                generalize a1.tmps[104]?.getD undef = x104 at *
                generalize a1.tmps[105]?.getD undef = x105 at *
                generalize a1.tmps[106]?.getD undef = x106 at *
                generalize a1.tmps[107]?.getD undef = x107 at *
                generalize a1.tmps[108]?.getD undef = x108 at *
                generalize a1.tmps[109]?.getD undef = x109 at *
                generalize a1.tmps[110]?.getD undef = x110 at *
                go_upto_region 29 with (fail)
                have c23 := hG5.out.cell (dwA_2 _ _ _ _)
                go_upto_region 30 with (fail)
                have kP := Lib.hid (place_c K w0 seed (plc p k) w1 hS.out)
                go_upto_region 30 with (fail)
                go_wp2_with fail
                refine kP.out.mono ?_
                rintro e w9' ⟨rfl, rfl⟩
                clear kP
                go_wp2_with fail
                refine ⟨⟨i + 1, (plc p k), by go_num, rfl, hil, hS⟩, ?_⟩
                simp [intOf]; omega
          · obtain ⟨z, hz⟩ : ∃ z, fitE N = z := ⟨_, rfl⟩
            have hzz : (z != 0) = true ∧ (z == 0) = false := by rw [← hz]; exact ⟨by simpa using hf, by simpa using hf⟩
            obtain ⟨hz1, hz2⟩ := hzz
            have kK := Lib.hid (src_SkipBad w0 N W8 hf)
            have kB := Lib.hid (src_BytesBad w0 N W8 hf)
            rw [hz] at kK kB
            have hzs : (N < 0 ∧ z = 1) ∨ (¬ N < 0 ∧ 4096 < N ∧ z = 2) := by
              unfold fitE at hz
              by_cases q1 : N < 0
              · rw [if_pos q1] at hz; exact .inl ⟨q1, hz.symm⟩
              · rw [if_neg q1] at hz
                by_cases q2 : 4096 < N
                · rw [if_pos q2] at hz; exact .inr ⟨q1, q2, hz.symm⟩
                · rw [if_neg q2] at hz; rw [← hz] at hz1; cases hz1
            clear hf hz hz1 hz2
            rcases hzs with ⟨q1, rfl⟩ | ⟨q1, q2, rfl⟩
            · have f1 : decide (N < 0) = true := by simpa using q1
              clear q1
              cases sk
              · go_upto_region 23 with (fail)
                go_wp2_with fail
                refine kB.out.mono ?_
                rintro e w5 ⟨rfl, rfl⟩
                clear kB kK
                have kP := Lib.hid (place_c K w0 seed p W8 hS.out)
                go_upto_region 30 with (fail)
                go_wp2_with fail
                refine kP.out.mono ?_
                rintro e w9' ⟨rfl, rfl⟩
                clear kP
                go_wp2_with fail
                refine ⟨⟨i + 1, p, by go_num, rfl, hil, hS⟩, ?_⟩
                simp [intOf]; omega
              · go_upto_region 22 with (fail)
                go_wp2_with fail
                refine kK.out.mono ?_
                rintro e w5 ⟨rfl, rfl⟩
                clear kB kK
                have kP := Lib.hid (place_c K w0 seed p W8 hS.out)
                go_upto_region 30 with (fail)
                go_wp2_with fail
                refine kP.out.mono ?_
                rintro e w9' ⟨rfl, rfl⟩
                clear kP
                go_wp2_with fail
                refine ⟨⟨i + 1, p, by go_num, rfl, hil, hS⟩, ?_⟩
                simp [intOf]; omega
            · have f1 : decide (N < 0) = false := by simpa using q1
              have f2 : decide (N > 4096) = true := by simpa using q2
              clear q1 q2
              cases sk
              · go_upto_region 23 with (fail)
                go_wp2_with fail
                refine kB.out.mono ?_
                rintro e w5 ⟨rfl, rfl⟩
                clear kB kK
                have kP := Lib.hid (place_c K w0 seed p W8 hS.out)
                go_upto_region 30 with (fail)
                go_wp2_with fail
                refine kP.out.mono ?_
                rintro e w9' ⟨rfl, rfl⟩
                clear kP
                go_wp2_with fail
                refine ⟨⟨i + 1, p, by go_num, rfl, hil, hS⟩, ?_⟩
                simp [intOf]; omega
              · go_upto_region 22 with (fail)
                go_wp2_with fail
                refine kK.out.mono ?_
                rintro e w5 ⟨rfl, rfl⟩
                clear kB kK
                have kP := Lib.hid (place_c K w0 seed p W8 hS.out)
                go_upto_region 30 with (fail)
                go_wp2_with fail
                refine kP.out.mono ?_
                rintro e w9' ⟨rfl, rfl⟩
                clear kP
                go_wp2_with fail
                refine ⟨⟨i + 1, p, by go_num, rfl, hil, hS⟩, ?_⟩
                simp [intOf]; omega
        · obtain ⟨x, n', z, hn3, hx2, kB0, kD0⟩ := below_both K w0 seed p M hTh.out (by have := hsl2.out; omega) hpl.out hxh.out.1
          have kB := Lib.hid (kB0 W8 hS.out)
          have kD := Lib.hid kD0
          unfold numV at kB kD
          have hcx := arrK_cells .u64 4 (wd x)
          have hc0 := arrK_cells .u64 4 (wd 0)
          have hl := pl_ld (o := 3) (n := 4) hG.out.row hG.out.eq (dwA_3 _ _ _ _) (arrK_size _ _ _) pl_some
          have hl1 := hl.1
          have hl2 := hl.2
          have w1 : IntKind.u64.wrap (n' : Int) = (n' : Int) := by rw [IntKind.wrap_u64]; omega
          have w2 : IntKind.u64.wrap ((p : Int) + (n' : Int)) = ((plc p n' : Nat) : Int) := by rw [IntKind.wrap_u64]; unfold plc; omega
          clear hl kB0 kD0 hn3 hx2
          go_upto_region 9 with (fail)
          go_wp2_with fail
          refine kB.out.mono ?_
          rintro e w5 ⟨rfl, hS5, hK5⟩
          have hbA := below_alloc w5 (Obj.cells (arrK .u64 4 (wd x)) 41)
          have hG5 := (hG.out.kb hK5 (by have := hg8.out; omega)).step hbA
          have hX9 := Lib.hid (At.new (w := w5) (k := .u64) (m := 4) (f := wd x) 41 rfl)
          replace hS := Lib.hid (hS5.step hbA)
          have hl := pl_ld (o := 3) (n := 4) hG5.row hG5.eq (dwA_3 _ _ _ _) (arrK_size _ _ _) pl_some
          have hl3 := hl.1
          have hl4 := hl.2
          have hcv := (hsh.out.step hS.out.bel).conv
          have hTW := Lib.hid (hTh.out.step hS.out.bel)
          clear hbA hS5 hK5 kB c0 c1 c2 hG hl1 hl2 hl hG5
          dsimp only
          go_upto_region 10 with (fail)
          generalize w5.alloc _ = W9 at *
          generalize w5.heap.size = g9 at *
          go_wp2_with fail
          refine (kD.out W9 hTW.out).mono ?_
          rintro e w6 ⟨rfl, hb6⟩
          have hbA := below_step (below_alloc w6 (Obj.cells (arrK .u64 4 (wd x)) 41)) hb6 (Nat.le_refl _)
          replace hS := Lib.hid (hS.out.step hbA)
          replace hX9 := Lib.hid (hX9.out.step hbA)
          have hX11 := Lib.hid (At.new (w := w6) (k := .u64) (m := 4) (f := wd x) 41 rfl)
          clear hbA hb6 kD hTW hcv hl3 hl4
          dsimp only
          go_upto_region 11 with (fail)
          generalize w6.alloc _ = W11 at *
          generalize w6.heap.size = g11 at *
          have r9 := hX9.out.row
          have q9 := hX9.out.eq
          have r11 := hX11.out.row
          have q11 := hX11.out.eq
          have hl9 := pl_ld (o := 0) (n := 4) r9 q9 (by rw [Nat.zero_add]; exact extract_allD (arrK_size _ _ _)) (arrK_size _ _ _) pl_some
          have hl11 := pl_ld (o := 0) (n := 4) r11 q11 (by rw [Nat.zero_add]; exact extract_allD (arrK_size _ _ _)) (arrK_size _ _ _) pl_some
          obtain ⟨m1, m2⟩ := hl9
          obtain ⟨m3, m4⟩ := hl11
          have kE := Lib.hid (fun V => neqN4d (wd x) V)
          have kP := Lib.hid (place_c K w0 seed (plc p n') W11 hS.out)
          go_wp2_with (refine wpList_opT (by go_simp) (fun K9 hK => wp_eqlA (.inl rfl) (by kernel_rfl) (v := arrK .u64 4 (wd x)) (u := arrK .u64 4 (wd x)) (by go_simp) (by go_simp) (kE.out _) (hK _ _ ?_)))
          refine kP.out.mono ?_
          rintro e w9' ⟨rfl, rfl⟩
          clear kP kE m1 m2 m3 m4 r9 q9 r11 q11
          go_wp2_with fail
          refine ⟨⟨i + 1, plc p n', by go_num, rfl, hil, hS⟩, ?_⟩
          simp [intOf]; omega
end Go.Proofs.YtdlmamnnamlleaaDoor
namespace Go.Proofs.YtdlmamnnamlleaaDoor
open Go Go.RowKit Go.ChangeShapes Go.WideShapes Go.ChangeAt Go.Deep

section
variable {H : Type} {enc : TypeId × Value → H} {P : Program} {w : World} {base : Nat} {held : Bool}

/-- What was read is within the reach. -/
def Wt (P : Program) (t : TypeId) (d : DataW H) : Prop := ∀ n ∈ DataW.weights P t d, n ≤ reachBytes

theorem wt_top {ts : List TypeId} {ds : List (DataW H)} (h : (DataW.weightsEach P ts ds).all (· ≤ reachBytes) = true) {j : Nat} {t : TypeId} {d : DataW H} (ht : ts[j]? = some t) (hd : ds[j]? = some d) : Wt P t d := fun n hn => by
  simpa using List.all_eq_true.1 h n (DataW.weights_mem_each ht hd n hn)
theorem wt_all {e : TypeId} : ∀ {l : List (DataW H)} {d : DataW H}, d ∈ l → ∀ n ∈ DataW.weights P e d, n ∈ DataW.weightsAll P e l
  | x :: r, d, h, n, hn => by
      rw [DataW.weightsAll]
      rcases List.mem_cons.1 h with rfl | h
      · exact List.mem_append_left _ hn
      · exact List.mem_append_right _ (wt_all h n hn)
theorem wt_slice {t e : TypeId} {elems spare : List (DataW H)} (h : Wt P t (.slice elems spare)) (hu : P.underlying t = some (.slice e)) : (elems.length + spare.length) * P.bytesOf e ≤ reachBytes ∧ ∀ d ∈ elems, Wt P e d := by
  refine ⟨h _ (by simp [DataW.weights, hu]), fun d hd n hn => h n ?_⟩
  rw [DataW.weights, hu]
  exact List.mem_cons_of_mem _ (List.mem_append_left _ (wt_all hd n hn))
theorem wt_struct {t : TypeId} {fs : Array Field} {parts : List (DataW H)} (h : Wt P t (.agg parts)) (hu : P.underlying t = some (.struct fs)) {j : Nat} {f : Field} {d : DataW H} (hf : fs[j]? = some f) (hd : parts[j]? = some d) : Wt P f.type d := fun n hn => by
  refine h n ?_
  rw [DataW.weights, hu]
  exact DataW.weights_mem_each (by simp [hf]) hd n hn

/-- A slice of bytes that came in, by its reading, and its bound. -/
theorem open_bytes_wt {t e : TypeId} {fuel : Nat} {v : Value} {x : DataW H × List MemPlace} (ht : P.underlying t = some (.slice e)) (he : P.underlying e = some (.int .u8)) (hc : P.cellsOf e = 1) (hb : P.bytesOf e = 1)
    (h : DataW.trod enc P w base (fun _ => true) held fuel t [v] = some x) (hw : Wt P t x.1) : ∃ (A : Option Addr) (l : List UInt8) (c : Nat), v = .slice A l.length c ∧ Rd w w.heap.size A (bytesV l) ∧ l.length ≤ c ∧ c ≤ 140737488351232 := by
  obtain ⟨A, l, c, rfl, h1, h2, h3⟩ := open_bytes ht he hc h
  refine ⟨A, l, c, rfl, h1, h2, ?_⟩
  rcases open_ints ht he hc h with ⟨hcs, -⟩ | ⟨a, len, cap, zs, hcs, -, hl, hm, hz, hx, -, -⟩
  · simp only [List.cons.injEq, Value.slice.injEq, and_true] at hcs
    omega
  · rw [hx] at hw
    have h4 := (wt_slice hw ht).1
    simp only [List.cons.injEq, Value.slice.injEq, and_true] at hcs
    simp only [if_true] at hz
    rw [hb] at h4
    simp [lits] at h4
    unfold reachBytes at h4
    omega

/-- A slice of structs of one-cell fields that came in: each field's cell, and its own reading, and its bound. -/
theorem open_rows_wt {t e : TypeId} {fs : Array Field} {fuel : Nat} {v : Value} {x : DataW H × List MemPlace} (ht : P.underlying t = some (.slice e)) (he : P.underlying e = some (.struct fs))
    (hone : oneCellFields P fs = true) (hC : P.cellsOf e = fs.size) (h : DataW.trod enc P w base (fun _ => true) held fuel t [v] = some x) (hw : Wt P t x.1) :
    ∃ (A : Option Addr) (n c : Nat), v = .slice A n c ∧ n ≤ c ∧ c ≤ maxLen ∧ c * P.bytesOf e ≤ reachBytes ∧ ∀ i, i < n → ∃ a, A = some a ∧
      ∀ (j : Nat) (f : Field), fs[j]? = some f → ∃ (u : Value) (y : DataW H × List MemPlace) (m : Nat), w.cell? (a.add (i * fs.size + j)) = some u ∧ DataW.trod enc P w base (fun _ => true) held m f.type [u] = some y ∧ Wt P f.type y.1 := by
  rcases open_slice ht h with ⟨hcs, -⟩ | ⟨a, len, cap, m, n, D, Pl, hcs, -, hl, hm, hmm, hx, hi⟩
  · injection hcs with hv
    exact ⟨none, 0, 0, hv, Nat.le_refl _, by simp [maxLen], by simp, fun i hi => absurd hi (by omega)⟩
  · injection hcs with hv
    rw [hx] at hw
    obtain ⟨hw1, hw2⟩ := wt_slice hw ht
    simp only [if_true] at hmm
    refine ⟨some a, len, cap, hv, hl, hm, ?_, fun i hil => ⟨a, rfl, fun j f hj => ?_⟩⟩
    · simp only [List.length_map, List.length_range] at hw1
      rw [show len + (m - len) = cap by omega] at hw1
      exact hw1
    have him : i < m := by omega
    obtain ⟨cs', hc, ht'⟩ := hi i him
    have hwi : Wt P e (D i) := hw2 _ (List.mem_map.2 ⟨i, List.mem_range.2 hil, rfl⟩)
    rw [hC] at hc
    obtain ⟨ys, n', -, hxy, -, hyl, hf⟩ := DataW.trod_struct he ht'
    have hDi : D i = .agg (ys.map (·.1)) := congrArg Prod.fst hxy
    rw [hDi] at hwi
    obtain ⟨_, hcl, hat⟩ := World.cells?_some hc
    obtain ⟨ho, hk⟩ := hone_of hone j f hj
    have hjl : j < fs.size := (Array.getElem?_eq_some_iff.1 hj).1
    have hcell := hat j hjl
    have hv : cs'[j]? = some (cs'[j]'(by omega)) := List.getElem?_eq_getElem (by omega)
    have h1 := hf j f hj
    rw [ho, hk] at h1
    have hone' : (cs'.drop j).take 1 = [cs'[j]'(by omega)] := by
      rw [List.drop_eq_getElem_cons (by omega)]
      rfl
    rw [hone'] at h1
    have hys : ys[j]? = some (ys[j]'(by omega)) := List.getElem?_eq_getElem (by omega)
    refine ⟨_, _, n', ?_, h1.trans hys, wt_struct hwi he hj (by rw [List.getElem?_map, hys]; rfl)⟩
    rw [← addr_add, hcell, hv]
end
end Go.Proofs.YtdlmamnnamlleaaDoor
namespace Go.Proofs.YtdlmamnnamlleaaDoor
open Go.ChangeShapes Go.WideShapes Go.ChangeAt Go.WideMaps Go.WideElems Go.RowKit
set_option maxRecDepth 100000

theorem gOne : Tryd.prog.globalNamed "sealring/hash.primeRoots" = some 1 := by kernel_rfl
theorem gTwo : Tryd.prog.globalNamed "sealring/sealringref.roundNumbers" = some 0 := by kernel_rfl
theorem tOne : (Tryd.prog.globals[1]?).map (·.type) = some 177 := by kernel_rfl
theorem tTwo : (Tryd.prog.globals[0]?).map (·.type) = some 177 := by kernel_rfl
def laid2 : List (String × DataW Unit) := [("sealring/hash.primeRoots", Rows.laid_sealring_hash_primeRoots), ("sealring/sealringref.roundNumbers", Rows.laid_sealring_sealringref_roundNumbers)]

/-- Number i of a laid array. -/
def litAt : DataW Unit → Nat → Int
  | .agg l, i => match l[i]? with | some (.lit (.int _ z)) => z | _ => 0
  | _, _ => 0
def K0 (i : Nat) : W32 := BitVec.ofNat 32 (litAt Rows.laid_sealring_hash_primeRoots i).toNat
theorem laid_same : (Rows.laid_sealring_sealringref_roundNumbers : DataW Unit) = Rows.laid_sealring_hash_primeRoots := by kernel_rfl
theorem laid_tab {W : World} {enc : TypeId × Value → Unit} {n : String} {g base fuel : Nat} {spare : Nat → Bool} {held : Bool} {cs : Array Value} {pl : List MemPlace} (hg : Tryd.prog.globalNamed n = some g) (hv : W.var? Tryd.prog n = some cs)
    (hd : DataW.trod enc Tryd.prog W base spare held fuel 177 cs.toList = some (Rows.laid_sealring_hash_primeRoots, pl)) : ∀ i < 64, W.cell? ⟨g, i, none⟩ = some (u32v (K0 i)) := by
  intro i hi
  obtain ⟨xs, m, rfl, hx, hlen, hn, hel⟩ := DataW.trod_array Tryd.underlying177 hd
  have c1 : Tryd.prog.cellsOf 95 = 1 := by kernel_rfl
  have h1 := hel i hi
  have hxi : xs[i]? = some (xs[i]'(by omega)) := List.getElem?_eq_getElem (by omega)
  rw [hxi, c1, Nat.mul_one] at h1
  obtain ⟨z, e1, e2, hw⟩ := DataW.trod_int Tryd.underlying95 h1
  have hc : cs[i]? = some (.int .u32 z) := by
    have h2 : (cs.toList.drop i).take 1 = [.int .u32 z] := e1
    have h3 : ((cs.toList.drop i).take 1)[0]? = some (.int .u32 z) := by rw [h2]; rfl
    rw [List.getElem?_take_of_lt (by omega), List.getElem?_drop] at h3
    simpa using h3
  have hz : litAt Rows.laid_sealring_hash_primeRoots i = z := by
    have h4 : (Rows.laid_sealring_hash_primeRoots : DataW Unit) = .agg (xs.map (·.1)) := congrArg Prod.fst hx
    rw [h4]
    simp only [litAt, List.getElem?_map, hxi, e2, Option.map_some]
  rw [World.var?_cell hg hv i, hc]
  unfold K0 u32v
  have hwf : 0 ≤ z ∧ z < 4294967296 := by
    simp only [Lit.wf, Bool.and_eq_true, decide_eq_true_eq] at hw
    have h5 : IntKind.u32.min ≤ z ∧ z ≤ IntKind.u32.max := by simpa [IntKind.has] using hw
    have h6 : IntKind.u32.min = 0 := rfl
    have h7 : IntKind.u32.max = 4294967295 := rfl
    omega
  rw [hz, w2n_of (by omega), Int.toNat_of_nonneg hwf.1]
theorem of_laid {W : World} (h : laidMetH Tryd.prog laid2 W) : Tabs K0 W := by
  rw [MakeChecks.laidMetH_plain _ _ _ (by kernel_rfl)] at h
  obtain ⟨ps, ⟨g0, t0, cs0, f0, p0, q0, hg0, ht0, hv0, hd0, ⟨g1, t1, cs1, f1, p1, q1, hg1, ht1, hv1, hd1, _, _⟩, _⟩, _, _⟩ := h
  obtain rfl := Option.some.inj (gOne.symm.trans hg0)
  obtain rfl := Option.some.inj (gTwo.symm.trans hg1)
  obtain rfl := Option.some.inj (tOne.symm.trans ht0)
  obtain rfl := Option.some.inj (tTwo.symm.trans ht1)
  have h1 := laid_tab gOne hv0 hd0
  have h2 := laid_tab gTwo hv1 (laid_same ▸ hd1)
  exact ⟨h1, cell_lt (h1 0 (by omega)), h2, cell_lt (h2 0 (by omega))⟩
theorem door_met (os : Os) (args : Array Value) : laidMetH Tryd.prog laid2 ((World.doorLaid Tryd.prog 400 os).forCall (fun _ _ => 0) ⟨#[], args, []⟩).memory :=
  laidMetH_of_parts3 (fuel := 8) (laidMet_of_run' 8 (by kernel_rfl) (by kernel_rfl)) (by kernel_rfl) (by kernel_rfl)
end Go.Proofs.YtdlmamnnamlleaaDoor
