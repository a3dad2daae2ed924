/- Contract of package field's Mul. -/
import Derived.Test.YtgdiokklfihfoaaDoorFd3
import Derived.Test.YtgdiokklfihfoaaDoorLimb4
import Derived.Test.YtgdiokklfihfoaaDoorBld
namespace Go.Proofs.YtgdiokklfihfoaaDoor
/-- The carry ahead of word k of the folded product; word k. -/
def mcar (f : Nat → Nat) : Nat → Nat
  | 0 => 0
  | k + 1 => (f (k + 4) * 38 + f k + mcar f k) / 18446744073709551616
def mout (f : Nat → Nat) (k : Nat) : Nat := (f (k + 4) * 38 + f k + mcar f k) % 18446744073709551616
theorem mcar_le {f : Nat → Nat} (hf : ∀ i, f i < 18446744073709551616) (k : Nat) : mcar f k ≤ 38 := by
  induction k with
  | zero => simp [mcar]
  | succ k ih => have h1 := hf k; have h2 := hf (k + 4); unfold mcar; omega
theorem mout_lt (f : Nat → Nat) (k : Nat) : mout f k < 18446744073709551616 := Nat.mod_lt _ (by omega)
theorem mout_wval (f : Nat → Nat) (n : Nat) : wval (mout f) n + 2 ^ (64 * n) * mcar f n = wval f n + 38 * wval (fun j => f (j + 4)) n := by
  induction n with
  | zero => simp [wval, mcar]
  | succ n ih =>
    have h5 : mout f n + 18446744073709551616 * mcar f (n + 1) = f (n + 4) * 38 + f n + mcar f n := by unfold mout; rw [show mcar f (n + 1) = (f (n + 4) * 38 + f n + mcar f n) / 18446744073709551616 from rfl]; omega
    simp only [wval]
    rw [show 64 * (n + 1) = 64 * n + 64 by omega, Nat.pow_add]
    generalize 2 ^ (64 * n) = P at *
    have h6 : P * (mout f n + 18446744073709551616 * mcar f (n + 1)) = P * (f (n + 4) * 38 + f n + mcar f n) := by rw [h5]
    rw [Nat.mul_add, Nat.mul_add, Nat.mul_add, ← Nat.mul_assoc P _ 38, Nat.mul_comm _ 38] at h6
    rw [Nat.mul_assoc, show (2 : Nat) ^ 64 = 18446744073709551616 from rfl, Nat.mul_add]
    omega
/-- The product, folded once: what is left, and what runs over. -/
theorem mul_fold {a b : Nat} (ha : a < 2 ^ 256) (hb : b < 2 ^ 256) (V C : Nat) (hV : wval (mout (wd (a * b))) 4 = V) (hC : mcar (wd (a * b)) 4 = C) : V < 2 ^ 256 ∧ C ≤ 38 ∧ (V + 2 ^ 256 * C) % fP = a * b % fP := by
  have h := mout_wval (wd (a * b)) 4
  have h2 : wval (fun j => wd (a * b) (j + 4)) 4 = a * b / 2 ^ 256 := by
    have e : (fun j => wd (a * b) (j + 4)) = fun j => wd (a * b / 2 ^ 256) j := funext fun j => by rw [Nat.add_comm, wd_div]
    rw [e, show (fun j => wd (a * b / 2 ^ 256) j) = wd (a * b / 2 ^ 256) from rfl, wval_wd, Nat.mod_eq_of_lt]
    rw [show 64 * 4 = 256 from rfl]
    have h3 : a * b < 2 ^ 256 * 2 ^ 256 := Nat.mul_lt_mul'' ha hb
    exact Nat.div_lt_of_lt_mul h3
  rw [h2, wval_wd, hV, hC, show 64 * 4 = 256 from rfl] at h
  refine ⟨hV ▸ wval_lt (k := 4) fun i _ => mout_lt _ _, hC ▸ mcar_le (wd_lt _) 4, ?_⟩
  rw [h, ← fold_P, Nat.mod_add_div]
theorem fold_add {V C : Nat} (hV : V < 2 ^ 256) (hC : C ≤ 38) : foldA V C = (if overN V (38 * C) = 1 then addN (addN V (38 * C)) 38 else addN V (38 * C)) := by
  unfold foldA overN addN
  have h3 : 10000 < 2 ^ 256 := by decide +kernel
  generalize (2 : Nat) ^ 256 = Q at *
  by_cases h : V + 38 * C < Q
  · rw [if_neg (by omega), if_pos h, if_neg (by omega), Nat.mod_eq_of_lt h]
  · rw [if_pos (by omega), if_neg h, if_pos rfl, show (V + 38 * C) % Q = V + 38 * C - Q by rw [Nat.mod_eq_sub_mod (by omega), Nat.mod_eq_of_lt (by omega)], Nat.mod_eq_of_lt (a := V + 38 * C - Q + 38) (by omega)]
theorem num1 {x : Nat} (hx : x < 18446744073709551616) : #[Value.int IntKind.u64 (x : Int), Value.int IntKind.u64 0, Value.int IntKind.u64 0, Value.int IntKind.u64 0] = arrK .u64 4 (wd x) := by
  refine Eq.trans ?_ (arrK4 .u64 (wd x))
  rw [wd_ge (n := x) (i := 1) (by omega), wd_ge (n := x) (i := 2) (by omega), wd_ge (n := x) (i := 3) (by omega), show wd x 0 = x by unfold wd; omega]
  rfl
open Go.ChangeShapes Go.WideShapes Go.ChangeAt Go.RowKit
set_option maxHeartbeats 2000000
set_option maxRecDepth 100000
attribute [local go_sem ↓] load_num store_num execl_num execs_num load_wide store_wide execl_wide execs_wide
attribute [local go_sem] isHead_mk blkOf_mk isAgg_mk cellsV_mk row_drew rowAt_drew row_new_cells row_old rowAt_new rowAt_old setRow_new zeroNum zeroWide
theorem field_Mul (a b : Nat) (w : World) (ha : a < 2 ^ 256) (hb : b < 2 ^ 256) : Calls Tryd.prog 165 #[numV a, numV b] w fun e w' => e = .returned (numV (a * b % fP)) ∧ Below w.heap.size w w' := by
  have hM := Lib.hid (fun V => limb_Mul a b V ha hb)
  obtain ⟨m, hm⟩ : ∃ m, a * b = m := ⟨_, rfl⟩
  obtain ⟨V, hV⟩ : ∃ V, wval (mout (wd m)) 4 = V := ⟨_, rfl⟩
  obtain ⟨C, hC⟩ : ∃ C, mcar (wd m) 4 = C := ⟨_, rfl⟩
  obtain ⟨hV1, hC1, hF⟩ := mul_fold ha hb V C (by rw [hm]; exact hV) (by rw [hm]; exact hC)
  rw [hm] at hM hF ⊢
  have h38 : 10000 < 2 ^ 256 := by decide +kernel
  have hA1 := Lib.hid (fun W => limb_Add V (38 * C) W hV1 (by omega))
  have hs : addN V (38 * C) < 2 ^ 256 := Nat.mod_lt _ (by decide)
  have hA2 := Lib.hid (fun W => limb_Add (addN V (38 * C)) 38 W hs (by omega))
  have hf1 := foldA_is hV1 (show C < 64 by omega)
  rw [hF] at hf1
  have hf2 := fold_add hV1 hC1
  have ho : overN V (38 * C) = 0 ∨ overN V (38 * C) = 1 := by unfold overN; split <;> simp
  obtain ⟨r, hr⟩ : ∃ r, m % fP = r := ⟨_, rfl⟩
  rw [hr] at hf1 ⊢
  have hLs := Lib.hid (fun W => field_Low (foldA V C) W hf1.1)
  rw [hf1.2, hf2] at hLs
  obtain ⟨o, ho'⟩ : ∃ o, overN V (38 * C) = o := ⟨_, rfl⟩
  rw [ho'] at ho hLs hA1
  obtain ⟨s, hs'⟩ : ∃ s, addN V (38 * C) = s := ⟨_, rfl⟩
  rw [hs'] at hLs hA1 hA2
  obtain ⟨s2, hs2⟩ : ∃ t, addN s 38 = t := ⟨_, rfl⟩
  rw [hs2] at hLs hA2
  obtain ⟨o2, ho2⟩ : ∃ o, overN s 38 = o := ⟨_, rfl⟩
  rw [ho2] at hA2
  have hVo := Lib.hid hV
  have hCo := Lib.hid hC
  obtain ⟨c38, h8⟩ : ∃ c, 38 * C = c := ⟨_, rfl⟩
  rw [h8] at hA1
  have h8' : IntKind.u64.wrap ((C : Int) * 38) = (c38 : Nat) := by rw [IntKind.wrap_u64]; omega
  have hc8 : c38 < 18446744073709551616 := by omega
  have hlt := Lib.hid (wd_lt m)
  replace hr := Lib.hid hr
  clear h8 ho2 hs2 hs' ho' hf1 hf2 hs hF hV1 hV hC hm ha hb h38
  unfold numV wideV at hM
  unfold numV at hA1 hA2 hLs
  unfold numV
  have hcw := arrK_cells .u64 8 (wd m)
  have hc0w := arrK_cells .u64 8 (wd 0)
  have hcr := arrK_cells .u64 4 (wd r)
  have hcz := arrK_cells .u64 4 (wd 0)
  have hL0 : Below w.heap.size w (((w.alloc (Obj.cells (arrK .u64 4 (wd a)) 41)).alloc (Obj.cells (arrK .u64 4 (wd b)) 41)).alloc (Obj.cells (arrK .u64 4 (wd 0)) 41)) := by go_grown
  have hA0 : At (((w.alloc (Obj.cells (arrK .u64 4 (wd a)) 41)).alloc (Obj.cells (arrK .u64 4 (wd b)) 41)).alloc (Obj.cells (arrK .u64 4 (wd 0)) 41)) (w.heap.size) .u64 4 (wd a) := (((At.new _ (by simp))).old _).old _
  have hB0 : At (((w.alloc (Obj.cells (arrK .u64 4 (wd a)) 41)).alloc (Obj.cells (arrK .u64 4 (wd b)) 41)).alloc (Obj.cells (arrK .u64 4 (wd 0)) 41)) (w.heap.size + 1) .u64 4 (wd b) := ((At.new _ (by simp))).old _
  have hR0 : Row (((w.alloc (Obj.cells (arrK .u64 4 (wd a)) 41)).alloc (Obj.cells (arrK .u64 4 (wd b)) 41)).alloc (Obj.cells (arrK .u64 4 (wd 0)) 41)) (w.heap.size + 1 + 1) 4 := (At.new (k := .u64) (f := wd 0) _ (by simp)).row
  have hL := Lib.hid hL0
  have hR := Lib.hid hR0
  have hA := Lib.hid hA0
  have hB := Lib.hid hB0
  clear hL0 hR0 hA0 hB0
  go_enter Tryd.func165, Tryd.ntmps165
  go_upto_region 1 with (fail)
  generalize (((w.alloc (Obj.cells (arrK .u64 4 (wd a)) 41)).alloc (Obj.cells (arrK .u64 4 (wd b)) 41)).alloc (Obj.cells (arrK .u64 4 (wd 0)) 41)) = W0 at *

  have hr1 := hA.out.row
  have hr2 := hA.out.eq
  have hr3 := hB.out.row
  have hr4 := hB.out.eq
  go_wp2_with fail
  refine (hM.out _).mono ?_
  rintro e w2 ⟨rfl, hb2⟩
  have hR2 := Lib.hid (row_below hR.out hb2 hR.out.lt)
  have hL2 := Lib.hid (below_step hb2 hL.out (Nat.le_refl _))
  clear hr1 hr2 hr3 hr4 hM hA hB hR hL hb2
  dsimp only
  go_wp2_with fail
  have hlo : w.heap.size ≤ w2.heap.size := hL2.out.size
  have hlo2 : w.heap.size + 1 + 1 < w2.heap.size := hR2.out.lt
  have hL0 : Below w.heap.size w ((w2.alloc (Obj.cells (arrK .u64 8 (wd m)) 174)).alloc (Obj.cells (arrK .u64 4 (wd 0)) 41)) := Below.trans (Below.trans hL2.out ((below_alloc _ _).mono hlo)) ((below_alloc _ _).mono (by simp; omega))
  have hM0 : At ((w2.alloc (Obj.cells (arrK .u64 8 (wd m)) 174)).alloc (Obj.cells (arrK .u64 4 (wd 0)) 41)) w2.heap.size .u64 8 (wd m) := (At.new _ rfl).old _
  have hO0 : At ((w2.alloc (Obj.cells (arrK .u64 8 (wd m)) 174)).alloc (Obj.cells (arrK .u64 4 (wd 0)) 41)) (w2.heap.size + 1) .u64 4 (mixW (mout (wd m)) (wd 0) 0) := (At.new _ (by simp)).congr fun i _ => by simp [mixW]
  have hR0 : Row ((w2.alloc (Obj.cells (arrK .u64 8 (wd m)) 174)).alloc (Obj.cells (arrK .u64 4 (wd 0)) 41)) (w.heap.size + 1 + 1) 4 := (row_old (by simp; omega)).2 ((row_old (by omega)).2 hR2.out)
  have hL := Lib.hid hL0
  have hM := Lib.hid hM0
  have hO := Lib.hid hO0
  have hR := Lib.hid hR0
  clear hL0 hM0 hO0 hR0 hL2 hR2
  obtain ⟨g, hg⟩ : ∃ g, w2.heap.size = g := ⟨_, rfl⟩
  generalize (w2.alloc _).alloc _ = W1 at *
  rw [hg] at hM hO hlo hlo2 ⊢
  clear hg
  go_loopw [7, 16] (fun c i wr => ∃ k : Nat, i = .int .i64 k ∧ k ≤ 4 ∧ c = .int .u64 (mcar (wd m) k : Nat) ∧ Hid (At wr g .u64 8 (wd m)) ∧ Hid (At wr (g + 1) .u64 4 (mixW (mout (wd m)) (wd 0) k)) ∧ Hid (Row wr (w.heap.size + 1 + 1) 4) ∧ Hid (Below w.heap.size w wr)) (fun _ i _ => 4 - (intOf i).toNat)
  case atStart => exact ⟨0, rfl, by omega, rfl, hM, hO, hR, hL⟩
  case round =>
    clear hM hO hR hL
    obtain ⟨k, rfl, hk, rfl, hM, hO, hR, hL⟩ := hrel
    by_cases h4 : k = 4
    · subst h4
      have hMo := Lib.hid (show At wr (g + 1) .u64 4 (wd V) from hO.out.congr fun i hi => by
        unfold mixW
        rw [if_pos hi, ← hVo.out, wd_wval (fun i _ => mout_lt _ i) i hi])
      have hXR := Lib.hid hMo.out.row
      have hr1 := hMo.out.row
      have hr2 := hMo.out.eq
      have hcs := arrK_cells .u64 4 (wd s)
      have hcs2 := arrK_cells .u64 4 (wd s2)
      have hrR := hR.out
      rw [hCo.out, show ((4 : Nat) : Int) = 4 from rfl]
      have hbl := Lib.hid (fun W => show (Instr.build 41 #[(0, Value.int IntKind.u64 (c38 : Int))]).run Tryd.prog W = .ok (.agg (arrK .u64 4 (wd c38))) W from (run_build W _ _ _ (by kernel_rfl)).trans (by rw [← num1 hc8]))
      have hbl2 := Lib.hid (fun W => show (Instr.build 41 #[(0, Value.int IntKind.u64 (38 : Int))]).run Tryd.prog W = .ok (.agg (arrK .u64 4 (wd 38))) W from (run_build W _ _ _ (by kernel_rfl)).trans (by rw [← num1 (show 38 < 18446744073709551616 by omega)]))
      clear hO hM hVo hCo hlt
      go_wp2_with (refine wpList_bldA (vx := Value.int IntKind.u64 (c38 : Int)) rfl rfl (by go_simp) (hbl.out _) ?_)
      refine (hA1.out _).mono ?_
      rintro e w3 ⟨rfl, hb3⟩
      have hX3 := row_below hXR.out hb3 hXR.out.lt
      have hR3 := Lib.hid (row_below hR.out hb3 hR.out.lt)
      have hL3 := Lib.hid (below_step hb3 hL.out (Nat.le_refl _))
      have hne : w.heap.size + 1 + 1 ≠ g + 1 := by omega
      have hR4 := Lib.hid ((row_setRow_far (c' := arrK .u64 4 (wd s)) hne).2 hR3.out)
      have hL4 := Lib.hid (below_setRow (c := arrK .u64 4 (wd s)) hL3.out (show w.heap.size ≤ g + 1 by omega))
      have hX4 := Lib.hid (At.put (k := .u64) (f := wd s) hX3)
      clear hr1 hr2 hrR hXR hR hL hb3 hMo hA1 hR3 hL3
      dsimp only
      have hr1 := hX4.out.row
      have hr2 := hX4.out.eq
      rcases ho with rfl | rfl
      · rw [if_neg (by decide)] at hLs
        go_wp2_with fail
        refine (hLs.out _).mono ?_
        rintro e w5 ⟨rfl, hb5⟩
        have hR5 := row_below hR4.out hb5 hR4.out.lt
        have hL5 := Lib.hid (below_step hb5 hL4.out (Nat.le_refl _))
        clear hr1 hr2 hb5 hX4 hR4 hL4
        dsimp only
        go_wp2_with fail
        exact ret_stored (p := 4) (ty := 41) (g := w.heap.size + 1 + 1) (n := 4) (c := arrK .u64 4 (wd r)) rfl Tryd.underlying41 rfl (by kernel_rfl) rfl hR5 hcr.1 rfl ⟨rfl, below_setRow hL5.out (by omega)⟩
      · rw [if_pos rfl] at hLs
        go_wp2_with (refine wpList_bldA (vx := Value.int IntKind.u64 (38 : Int)) rfl rfl (by go_simp) (hbl2.out _) ?_)
        refine (hA2.out _).mono ?_
        rintro e w5 ⟨rfl, hb5⟩
        have hR5 := Lib.hid (row_below hR4.out hb5 hR4.out.lt)
        have hL5 := Lib.hid (below_step hb5 hL4.out (Nat.le_refl _))
        have hX5 := row_below hX4.out.row hb5 hX4.out.lt
        have hR6 := Lib.hid ((row_setRow_far (c' := arrK .u64 4 (wd s2)) hne).2 hR5.out)
        have hL6 := Lib.hid (below_setRow (c := arrK .u64 4 (wd s2)) hL5.out (show w.heap.size ≤ g + 1 by omega))
        have hX6 := Lib.hid (At.put (k := .u64) (f := wd s2) hX5)
        clear hr1 hr2 hb5 hX4 hR4 hL4 hX3 hR5 hL5
        dsimp only
        have hr1 := hX6.out.row
        have hr2 := hX6.out.eq
        go_wp2_with fail
        refine (hLs.out _).mono ?_
        rintro e w7 ⟨rfl, hb7⟩
        have hR7 := row_below hR6.out hb7 hR6.out.lt
        have hL7 := Lib.hid (below_step hb7 hL6.out (Nat.le_refl _))
        clear hr1 hr2 hb7 hX6 hR6 hL6 hX5
        dsimp only
        go_wp2_with fail
        exact ret_stored (p := 4) (ty := 41) (g := w.heap.size + 1 + 1) (n := 4) (c := arrK .u64 4 (wd r)) rfl Tryd.underlying41 rfl (by kernel_rfl) rfl hR7 hcr.1 rfl ⟨rfl, below_setRow hL7.out (by omega)⟩
    · have c1 := hM.out.cell (i := k + 4) (by omega)
      have c2 := hM.out.cell (i := k) (by omega)
      have hf := hO.out.row.frozen k
      have c3 := hO.out.cell (i := k) (by omega)
      rw [show mixW (mout (wd m)) (wd 0) k k = wd 0 k by unfold mixW; rw [if_neg (by omega)]] at c3
      have hk4 : (k : Int) < 4 := by omega
      have hk8 : (k : Int) + 4 < 8 := by omega
      have hx := hlt.out (k + 4)
      have hy := hlt.out k
      have hcl := mcar_le hlt.out k
      have hd1 : mout (wd m) k = (wd m (k + 4) * 38 + wd m k + mcar (wd m) k) % 18446744073709551616 := rfl
      have hd2 : mcar (wd m) (k + 1) = (wd m (k + 4) * 38 + wd m k + mcar (wd m) k) / 18446744073709551616 := rfl
      obtain ⟨x, hx'⟩ : ∃ x, wd m (k + 4) = x := ⟨_, rfl⟩
      obtain ⟨y, hy'⟩ : ∃ x, wd m k = x := ⟨_, rfl⟩
      obtain ⟨c, hc'⟩ : ∃ x, mcar (wd m) k = x := ⟨_, rfl⟩
      rw [hx'] at c1 hx hd1 hd2
      rw [hy'] at c2 hy hd1 hd2
      rw [hc'] at hcl hd1 hd2 ⊢
      have hm := Lib.hid (fun W => bits_Mul64 x 38 W hx (by omega))
      obtain ⟨p, hp⟩ : ∃ p, p = x * 38 := ⟨_, rfl⟩
      rw [← hp] at hm hd1 hd2
      have hpb : p ≤ 18446744073709551615 * 38 := by omega
      clear hp hx' hy' hc'
      obtain ⟨l, hl⟩ : ∃ l, l = p % 18446744073709551616 := ⟨_, rfl⟩
      obtain ⟨u, hu⟩ : ∃ u, u = p / 18446744073709551616 := ⟨_, rfl⟩
      rw [← hl, ← hu] at hm
      have h1 := Lib.hid (fun W => call_add64 l y 0 (by omega) W)
      have hll : l < 18446744073709551616 := by omega
      obtain ⟨l2, hl2⟩ : ∃ l2, l2 = (l + y + 0) % 18446744073709551616 := ⟨_, rfl⟩
      obtain ⟨o2, ho2⟩ : ∃ o2, o2 = (l + y + 0) / 18446744073709551616 := ⟨_, rfl⟩
      rw [← hl2, ← ho2] at h1
      have h2 := Lib.hid (fun W => call_add64 l2 c 0 (by omega) W)
      obtain ⟨l3, hl3⟩ : ∃ l3, l3 = (l2 + c + 0) % 18446744073709551616 := ⟨_, rfl⟩
      obtain ⟨o3, ho3⟩ : ∃ o3, o3 = (l2 + c + 0) / 18446744073709551616 := ⟨_, rfl⟩
      rw [← hl3, ← ho3] at h2
      have hw1 : IntKind.u64.wrap ((u : Int) + o2) = (u : Int) + o2 := by rw [IntKind.wrap_u64]; omega
      have hw2 : IntKind.u64.wrap ((u : Int) + o2 + o3) = ((u + o2 + o3 : Nat) : Int) := by rw [IntKind.wrap_u64]; omega
      have hr1 := Lib.hid (show mout (wd m) k = l3 by omega)
      have hr2 := Lib.hid (show mcar (wd m) (k + 1) = u + o2 + o3 by omega)
      have hlt2 : l2 < 18446744073709551616 := by omega
      have ho2' : o2 ≤ 1 := by omega
      have ho3' : o3 ≤ 1 := by omega
      have k1 := h1.out
      have k2 := h2.out
      rw [show ((0 : Nat) : Int) = 0 from rfl] at k1 k2
      have hm1 := hm.out
      rw [show ((38 : Nat) : Int) = 38 from rfl] at hm1
      replace hm1 := Lib.hid hm1
      clear hl hu hl2 ho2 hl3 ho3 h1 h2 hm hd1 hd2 hpb
      go_wp2_with fail
      refine (hm1.out _).mono ?_
      rintro e w' ⟨rfl, rfl⟩
      dsimp only
      go_wp2_with fail
      go_roundw
      case rel => exact ⟨k + 1, by go_num, by omega, by rw [hr2.out]; go_num, Lib.hid (hM.out.farC (by simp)), Lib.hid ((hO.out.set k l3).congr fun i _ => by rw [← hr1.out, mixW_upd]), Lib.hid (row_setCell.2 hR.out), Lib.hid (hL.out.setCell (by simp <;> omega) _)⟩
      case measure => simp [intOf]; omega
end Go.Proofs.YtgdiokklfihfoaaDoor
