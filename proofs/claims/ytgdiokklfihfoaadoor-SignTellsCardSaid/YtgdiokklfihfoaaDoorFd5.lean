/- Contracts of package field's pow and Inv. -/
import Derived.Test.YtgdiokklfihfoaaDoorFd4
import Derived.Test.YtgdiokklfihfoaaDoorLimb5
namespace Go.Proofs.YtgdiokklfihfoaaDoor
open Go.ChangeShapes Go.WideShapes Go.ChangeAt Go.RowKit
set_option maxHeartbeats 2000000
set_option maxRecDepth 100000
attribute [local go_sem ↓] load_num store_num execl_num execs_num
attribute [local go_sem] isHead_mk blkOf_mk isAgg_mk cellsV_mk row_drew rowAt_drew row_new_cells row_old rowAt_new rowAt_old setRow_new zeroNum
/-- What pow holds while s bits are still to come. -/
def powS (a n s : Nat) : Nat := a ^ (n / 2 ^ s) % fP
theorem powS_start {a n s : Nat} (h : n < 2 ^ s) : powS a n s = 1 := by
  unfold powS
  rw [Nat.div_eq_of_lt h, Nat.pow_zero]
  decide +kernel
theorem powS_end (a n : Nat) : powS a n 0 = a ^ n % fP := by unfold powS; rw [Nat.pow_zero, Nat.div_one]
theorem powS_lt (a n s : Nat) : powS a n s < 2 ^ 256 := Nat.lt_trans lt_P P_lt
theorem powS_zero {a n s : Nat} (h : abit n s = 0) : powS a n (s + 1) * powS a n (s + 1) % fP = powS a n s := by
  unfold powS
  unfold abit at h
  rw [← Nat.mul_mod, ← Nat.pow_add]
  have e : n / 2 ^ (s + 1) + n / 2 ^ (s + 1) = n / 2 ^ s := by
    rw [Nat.pow_succ, ← Nat.div_div_eq_div_mul]; omega
  rw [e]
theorem powS_one {a n s : Nat} (h : abit n s = 1) : (powS a n (s + 1) * powS a n (s + 1) % fP) * a % fP = powS a n s := by
  unfold powS
  unfold abit at h
  rw [← Nat.mul_mod, ← Nat.pow_add, Nat.mod_mul_mod, ← Nat.pow_succ, Nat.succ_eq_add_one]
  have e : n / 2 ^ (s + 1) + n / 2 ^ (s + 1) + 1 = n / 2 ^ s := by
    rw [Nat.pow_succ, ← Nat.div_div_eq_div_mul]; omega
  rw [e]
theorem len_le {n r : Nat} (hn : n < 2 ^ 256) (h : IsLen n r) : r ≤ 256 := by
  rcases h.2 with h | h
  · omega
  · have := Nat.lt_of_le_of_lt h hn
    have := (Nat.pow_lt_pow_iff_right (by omega : 1 < 2)).1 this
    omega
theorem bitC (n i : Nat) (hi : i < 256) (w : World) : Calls Tryd.prog 147 #[.agg (arrK .u64 4 (wd n)), .int .i64 (i : Int)] w fun e w' => e = .returned (.int .u64 (abit n i : Nat)) ∧ Below w.heap.size w w' := by
  refine (limb_Bit n i w).mono ?_
  rintro e w' ⟨rfl, hb⟩
  rw [if_pos ⟨by omega, by omega⟩]
  exact ⟨rfl, hb⟩
theorem abit_or (n i : Nat) : abit n i = 0 ∨ abit n i = 1 := by unfold abit; omega
theorem field_pow (a n : Nat) (w : World) (ha : a < 2 ^ 256) (hn : n < 2 ^ 256) : Calls Tryd.prog 171 #[numV a, numV n] w fun e w' => e = .returned (numV (a ^ n % fP)) ∧ Below w.heap.size w w' := by
  have hlenC := Lib.hid (fun W => limb_Len n W hn)
  have hlen := Lib.hid (fun r => len_le (r := r) hn)
  have hMul := Lib.hid (fun x W (hx : x < 2 ^ 256) => field_Mul x x W hx hx)
  have hMulA := Lib.hid (fun x W (hx : x < 2 ^ 256) => field_Mul x a W hx ha)
  have hbl := Lib.hid (fun W => show (Instr.build 41 #[(0, Value.int IntKind.u64 (1 : Int))]).run Tryd.prog W = .ok (.agg (arrK .u64 4 (wd 1))) W from (run_build W _ _ _ (by kernel_rfl)).trans (by rw [← num1 (show 1 < 18446744073709551616 by omega)]))
  have hpl := Lib.hid (powS_lt a n)
  have hps := Lib.hid (fun s (h : n < 2 ^ s) => powS_start (a := a) h)
  have hpe := Lib.hid (powS_end a n)
  have hp0 := Lib.hid (fun s (h : abit n s = 0) => powS_zero (a := a) h)
  have hp1 := Lib.hid (fun s (h : abit n s = 1) => powS_one (a := a) h)
  have hlt := Lib.hid (fun x => Nat.lt_trans (lt_P (a := x)) P_lt)
  obtain ⟨PF, hPF⟩ : ∃ x, fP = x := ⟨_, rfl⟩
  obtain ⟨F, hF⟩ : ∃ F, powS a n = F := ⟨_, rfl⟩
  obtain ⟨r, hr⟩ : ∃ r, a ^ n % fP = r := ⟨_, rfl⟩
  rw [hF] at hpl hps hpe hp0 hp1
  rw [hr] at hpe ⊢
  rw [hPF] at hp0 hp1 hMul hMulA hlt
  clear hr hF hPF ha hn
  unfold numV at hlenC hMul hMulA
  have hc1 := arrK_cells .u64 4 (wd 1)
  unfold numV
  have hcz := arrK_cells .u64 4 (wd 0)
  have hL0 : Below w.heap.size w (((w.alloc (Obj.cells (arrK .u64 4 (wd a)) 41)).alloc (Obj.cells (arrK .u64 4 (wd n)) 41)).alloc (Obj.cells (arrK .u64 4 (wd 0)) 41)) := by go_grown
  have hA0 : At (((w.alloc (Obj.cells (arrK .u64 4 (wd a)) 41)).alloc (Obj.cells (arrK .u64 4 (wd n)) 41)).alloc (Obj.cells (arrK .u64 4 (wd 0)) 41)) (w.heap.size) .u64 4 (wd a) := (((At.new _ (by simp))).old _).old _
  have hB0 : At (((w.alloc (Obj.cells (arrK .u64 4 (wd a)) 41)).alloc (Obj.cells (arrK .u64 4 (wd n)) 41)).alloc (Obj.cells (arrK .u64 4 (wd 0)) 41)) (w.heap.size + 1) .u64 4 (wd n) := ((At.new _ (by simp))).old _
  have hR0 : Row (((w.alloc (Obj.cells (arrK .u64 4 (wd a)) 41)).alloc (Obj.cells (arrK .u64 4 (wd n)) 41)).alloc (Obj.cells (arrK .u64 4 (wd 0)) 41)) (w.heap.size + 1 + 1) 4 := (At.new (k := .u64) (f := wd 0) _ (by simp)).row
  have hL := Lib.hid hL0
  have hR := Lib.hid hR0
  have hA := Lib.hid hA0
  have hB := Lib.hid hB0
  clear hL0 hR0 hA0 hB0
  go_enter Tryd.func171, Tryd.ntmps171
  go_upto_region 1 with (fail)
  generalize (((w.alloc (Obj.cells (arrK .u64 4 (wd a)) 41)).alloc (Obj.cells (arrK .u64 4 (wd n)) 41)).alloc (Obj.cells (arrK .u64 4 (wd 0)) 41)) = W0 at *
  have hr1 := hB.out.row
  have hr2 := hB.out.eq
  have hr3 := hB.out.lt
  have hA1 := Lib.hid (hA.out.old (Obj.cells (arrK .u64 4 (wd 1)) 41))
  have hB1 := Lib.hid (hB.out.old (Obj.cells (arrK .u64 4 (wd 1)) 41))
  have hR1 := Lib.hid ((row_old (o := Obj.cells (arrK .u64 4 (wd 1)) 41) hR.out.lt).2 hR.out)
  have hL1 := Lib.hid (Below.trans hL.out ((below_alloc W0 (Obj.cells (arrK .u64 4 (wd 1)) 41)).mono hL.out.size))
  have hX1 := Lib.hid (At.new (w := W0) (k := .u64) (m := 4) (f := wd 1) 41 rfl)
  have hlo2 : w.heap.size + 1 + 1 < W0.heap.size := hR.out.lt
  go_wp2_with (refine wpList_bldA (vx := Value.int IntKind.u64 (1 : Int)) rfl rfl rfl (hbl.out _) ?_)
  refine (hlenC.out _).mono ?_
  rintro e w2 ⟨s, rfl, hs, hb2⟩
  have hs1 := hlen.out s hs
  have hF1 := hps.out s hs.1
  have hA := Lib.hid (hA1.out.step hb2)
  have hB := Lib.hid (hB1.out.step hb2)
  have hX := Lib.hid (hX1.out.step hb2)
  rw [← hF1] at hX
  have hR := Lib.hid (row_below hR1.out hb2 hR1.out.lt)
  have hL := Lib.hid (below_step hb2 hL1.out (Nat.le_refl _))
  obtain ⟨g, hg⟩ : ∃ g, W0.heap.size = g := ⟨_, rfl⟩
  rw [hg] at hX hlo2 ⊢
  clear hr1 hr2 hr3 hA1 hB1 hR1 hL1 hX1 hb2 hs hF1 hg hps hlen
  dsimp only
  have hwr : IntKind.i64.wrap ((s : Int) - 1) = (s : Int) - 1 := by rw [IntKind.wrap_i64]; omega
  go_wp2_with fail
  clear hwr
  go_loopw [6] (fun i wr => ∃ s : Nat, i = .int .i64 ((s : Int) - 1) ∧ s ≤ 256 ∧ Hid (At wr w.heap.size .u64 4 (wd a)) ∧ Hid (At wr (w.heap.size + 1) .u64 4 (wd n)) ∧ Hid (Row wr (w.heap.size + 1 + 1) 4) ∧ Hid (At wr g .u64 4 (wd (F s))) ∧ Hid (Below w.heap.size w wr)) (fun i _ => (intOf i + 1).toNat)
  case atStart => exact ⟨s, rfl, hs1, hA, hB, hR, hX, hL⟩
  case round =>
    clear hA hB hR hX hL hs1
    obtain ⟨t, rfl, hs1, hA, hB, hR, hX, hL⟩ := hrel
    rcases Nat.eq_zero_or_pos t with rfl | hs0
    · rw [hpe.out] at hX
      have hr1 := hX.out.row
      have hr2 := hX.out.eq
      have hrR := hR.out
      rw [show (((0 : Nat) : Int) - 1) = -1 from rfl]
      have hcr := arrK_cells .u64 4 (wd r)
      clear hMul hMulA hp0 hp1 hpe
      go_wp2_with fail
      exact ret_stored (p := 4) (ty := 41) (g := w.heap.size + 1 + 1) (n := 4) (c := arrK .u64 4 (wd r)) rfl Tryd.underlying41 rfl (by kernel_rfl) rfl hrR (arrK_cells .u64 4 (wd r)).1 rfl ⟨rfl, below_setRow hL.out (by omega)⟩
    · obtain ⟨i, rfl⟩ : ∃ i, t = i + 1 := ⟨t - 1, by omega⟩
      rw [show (((i + 1 : Nat) : Int) - 1) = (i : Int) by omega]
      have hbit := Lib.hid (fun W => bitC n i (by omega) W)
      have hM1 := Lib.hid (fun W => hMul.out (F (i + 1)) W (hpl.out _))
      have hr1 := hX.out.row
      have hr2 := hX.out.eq
      have hlo : w.heap.size ≤ g := by omega
      clear hpe hMul
      go_wp2_with fail
      refine (hM1.out _).mono ?_
      rintro e w3 ⟨rfl, hb3⟩
      obtain ⟨z, hz⟩ : ∃ z, F (i + 1) * F (i + 1) % PF = z := ⟨_, rfl⟩
      have hp0i := hp0.out i
      have hp1i := hp1.out i
      have hzl : z < 2 ^ 256 := hz ▸ hlt.out _
      rw [hz] at hp0i hp1i ⊢
      have hA3 := hA.out.step hb3
      have hB3 := hB.out.step hb3
      have hX3 := row_below hX.out.row hb3 hX.out.lt
      have hR3 := row_below hR.out hb3 hR.out.lt
      have hL3 := below_step hb3 hL.out (Nat.le_refl _)
      have hA4 := Lib.hid (hA3.far (c := arrK .u64 4 (wd z)) (show w.heap.size ≠ g by omega))
      have hB4 := Lib.hid (hB3.far (c := arrK .u64 4 (wd z)) (show w.heap.size + 1 ≠ g by omega))
      have hR4 := Lib.hid ((row_setRow_far (c' := arrK .u64 4 (wd z)) (show w.heap.size + 1 + 1 ≠ g by omega)).2 hR3)
      have hX4 := Lib.hid (At.put (k := .u64) (f := wd z) hX3)
      have hL4 := Lib.hid (below_setRow (c := arrK .u64 4 (wd z)) hL3 hlo)
      have hMz := Lib.hid (fun W => hMulA.out z W hzl)
      clear hr1 hr2 hA hB hX hR hL hA3 hB3 hR3 hL3 hM1 hz hMulA hb3 hp0 hp1
      have hcz2 := arrK_cells .u64 4 (wd z)
      have hr1 := hB4.out.row
      have hr2 := hB4.out.eq
      dsimp only
      go_wp2_with fail
      refine (hbit.out _).mono ?_
      rintro e w5 ⟨rfl, hb5⟩
      have hA := Lib.hid (hA4.out.step hb5)
      have hB := Lib.hid (hB4.out.step hb5)
      have hX := Lib.hid (hX4.out.step hb5)
      have hR := Lib.hid (row_below hR4.out hb5 hR4.out.lt)
      have hL := Lib.hid (below_step hb5 hL4.out (Nat.le_refl _))
      clear hr1 hr2 hA4 hB4 hX4 hR4 hL4 hX3 hb5
      dsimp only
      rcases abit_or n i with hbi | hbi
      · rw [hbi, show ((0 : Nat) : Int) = 0 from rfl]
        have hzi := hp0i hbi
        subst hzi
        clear hp1i hMz
        go_wp2_with fail
        go_roundw
        case rel => exact ⟨i, rfl, by omega, hA, hB, hR, hX, hL⟩
        case measure => simp [intOf]
      · rw [hbi, show ((1 : Nat) : Int) = 1 from rfl]
        have hzi := Lib.hid (hp1i hbi)
        have hr1 := hX.out.row
        have hr2 := hX.out.eq
        have hr3 := hA.out.row
        have hr4 := hA.out.eq
        clear hp0i hp1i
        go_wp2_with fail
        refine (hMz.out _).mono ?_
        rintro e w6 ⟨rfl, hb6⟩
        rw [hzi.out]
        have hA6 := hA.out.step hb6
        have hB6 := hB.out.step hb6
        have hX6 := row_below hX.out.row hb6 hX.out.lt
        have hR6 := row_below hR.out hb6 hR.out.lt
        have hL6 := below_step hb6 hL.out (Nat.le_refl _)
        have hA7 := Lib.hid (hA6.far (c := arrK .u64 4 (wd (F i))) (show w.heap.size ≠ g by omega))
        have hB7 := Lib.hid (hB6.far (c := arrK .u64 4 (wd (F i))) (show w.heap.size + 1 ≠ g by omega))
        have hR7 := Lib.hid ((row_setRow_far (c' := arrK .u64 4 (wd (F i))) (show w.heap.size + 1 + 1 ≠ g by omega)).2 hR6)
        have hX7 := Lib.hid (At.put (k := .u64) (f := wd (F i)) hX6)
        have hL7 := Lib.hid (below_setRow (c := arrK .u64 4 (wd (F i))) hL6 hlo)
        have hcz3 := arrK_cells .u64 4 (wd (F i))
        clear hr1 hr2 hr3 hr4 hb6 hA6 hB6 hR6 hL6 hA hB hX hR hL hzi hMz
        dsimp only
        go_wp2_with fail
        go_roundw
        case rel => exact ⟨i, rfl, by omega, hA7, hB7, hR7, hX7, hL7⟩
        case measure => simp [intOf]
theorem two_less : subN fP 2 = fP - 2 := by
  have h1 := P_lt
  have h2 := fP_pos
  unfold subN
  generalize (2 : Nat) ^ 256 = Q at *
  generalize fP = P at *
  rw [show P + Q - 2 = P - 2 + Q by omega, Nat.add_mod_right, Nat.mod_eq_of_lt (by omega)]
theorem field_Inv (a : Nat) (w : World) (ha : a < 2 ^ 256) : Calls Tryd.prog 169 #[numV a] w fun e w' => e = .returned (numV (invP a)) ∧ Below w.heap.size w w' := by
  have hP := Lib.hid (fun V => field_P V)
  have h2 : 2 < 2 ^ 256 := by decide +kernel
  have hS := Lib.hid (fun V => limb_Sub fP 2 V P_lt h2)
  have hq : fP - 2 < 2 ^ 256 := Nat.lt_of_le_of_lt (Nat.sub_le _ _) P_lt
  have hW := Lib.hid (fun V => field_pow a (fP - 2) V ha hq)
  have hbl := Lib.hid (fun W => show (Instr.build 41 #[(0, Value.int IntKind.u64 (2 : Int))]).run Tryd.prog W = .ok (.agg (arrK .u64 4 (wd 2))) W from (run_build W _ _ _ (by kernel_rfl)).trans (by rw [← num1 (show 2 < 18446744073709551616 by omega)]))
  rw [two_less] at hS
  rw [show a ^ (fP - 2) % fP = invP a from rfl] at hW
  obtain ⟨q, hq'⟩ : ∃ q, fP - 2 = q := ⟨_, rfl⟩
  rw [hq'] at hS hW
  obtain ⟨r, hr⟩ : ∃ r, invP a = r := ⟨_, rfl⟩
  rw [hr] at hW ⊢
  obtain ⟨o, ho⟩ : ∃ o, lessN fP 2 = o := ⟨_, rfl⟩
  rw [ho] at hS
  clear hr hq' hq h2 ha ho
  unfold numV at hP hS hW
  obtain ⟨XP, hXP⟩ : ∃ X, arrK .u64 4 (wd fP) = X := ⟨_, rfl⟩
  rw [hXP] at hP hS
  clear hXP
  have hcq := arrK_cells .u64 4 (wd q)
  have hcr := arrK_cells .u64 4 (wd r)
  unfold numV
  have hcz := arrK_cells .u64 4 (wd 0)
  have hL0 : Below w.heap.size w ((w.alloc (Obj.cells (arrK .u64 4 (wd a)) 41)).alloc (Obj.cells (arrK .u64 4 (wd 0)) 41)) := by go_grown
  have hA0 : At ((w.alloc (Obj.cells (arrK .u64 4 (wd a)) 41)).alloc (Obj.cells (arrK .u64 4 (wd 0)) 41)) (w.heap.size) .u64 4 (wd a) := ((At.new _ (by simp))).old _
  have hR0 : Row ((w.alloc (Obj.cells (arrK .u64 4 (wd a)) 41)).alloc (Obj.cells (arrK .u64 4 (wd 0)) 41)) (w.heap.size + 1) 4 := (At.new (k := .u64) (f := wd 0) _ (by simp)).row
  have hL := Lib.hid hL0
  have hR := Lib.hid hR0
  have hA := Lib.hid hA0
  clear hL0 hR0 hA0
  go_enter Tryd.func169, Tryd.ntmps169
  go_upto_region 1 with (fail)
  generalize ((w.alloc (Obj.cells (arrK .u64 4 (wd a)) 41)).alloc (Obj.cells (arrK .u64 4 (wd 0)) 41)) = W0 at *
  go_wp2_with fail
  refine (hP.out _).mono ?_
  rintro e w2 ⟨rfl, hb2⟩
  have hA2 := hA.out.step hb2
  have hR2 := row_below hR.out hb2 hR.out.lt
  have hL2 := below_step hb2 hL.out (Nat.le_refl _)
  clear hA hR hL hb2
  dsimp only
  go_wp2_with (refine wpList_bldA (vx := Value.int IntKind.u64 (2 : Int)) rfl rfl rfl (hbl.out _) ?_)
  refine (hS.out _).mono ?_
  rintro e w3 ⟨rfl, hb3⟩
  have hA3 := hA2.step hb3
  have hR3 := row_below hR2 hb3 hR2.lt
  have hL3 := below_step hb3 hL2 (Nat.le_refl _)
  have hA4 := Lib.hid (hA3.old (Obj.cells (arrK .u64 4 (wd q)) 41))
  have hR4 := Lib.hid ((row_old (o := Obj.cells (arrK .u64 4 (wd q)) 41) hR3.lt).2 hR3)
  have hL4 := Lib.hid (Below.trans hL3 ((below_alloc w3 (Obj.cells (arrK .u64 4 (wd q)) 41)).mono hL3.size))
  have hX4 := At.new (w := w3) (k := .u64) (m := 4) (f := wd q) 41 rfl
  have hr1 := hA4.out.row
  have hr2 := hA4.out.eq
  have hr3 := hX4.row
  have hr4 := hX4.eq
  have hlt := hA3.lt
  clear hA2 hR2 hL2 hb3 hA3 hR3 hL3 hX4
  dsimp only
  go_wp2_with fail
  refine (hW.out _).mono ?_
  rintro e w5 ⟨rfl, hb5⟩
  have hR := row_below hR4.out hb5 hR4.out.lt
  have hL := Lib.hid (below_step hb5 hL4.out (Nat.le_refl _))
  clear hr1 hr2 hr3 hr4 hlt hA4 hR4 hL4 hb5
  dsimp only
  go_wp2_with fail
  exact ret_stored (p := 2) (ty := 41) (g := w.heap.size + 1) (n := 4) (c := arrK .u64 4 (wd r)) rfl Tryd.underlying41 rfl (by kernel_rfl) rfl hR hcr.1 rfl ⟨rfl, below_setRow hL.out (by omega)⟩
end Go.Proofs.YtgdiokklfihfoaaDoor
