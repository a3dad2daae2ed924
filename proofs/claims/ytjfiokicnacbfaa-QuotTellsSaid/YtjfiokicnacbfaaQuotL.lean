/- QuotTells: the law's function returns true. -/
import Derived.Test.YtjfiokicnacbfaaNum5
import Derived.Test.YtjfiokicnacbfaaGcd
import Derived.Test.YtjfiokicnacbfaaCalm
namespace Go.Proofs.Ytjfiokicnacbfaa
open Go.ChangeShapes Go.WideShapes Go.ChangeAt Go.RowKit
set_option maxHeartbeats 2000000
set_option maxRecDepth 100000
attribute [local go_sem ↓] load_num store_num execl_num execs_num load_wide store_wide execl_wide execs_wide
attribute [local go_sem] isHead_mk blkOf_mk isAgg_mk cellsV_mk row_drew rowAt_drew row_new_cells row_old rowAt_new rowAt_old setRow_new setRow_old
def SRel.n (m : Nat) : SRel := ⟨fun v w => IsN w v m, fun _ _ _ hb h => h.step hb⟩
def SRel.qr (q r : Nat) : SRel := ⟨fun t w => ∃ u v, t = .tuple #[u, v] ∧ IsN w u q ∧ IsN w v r, fun _ _ _ hb ⟨u, v, h1, h2, h3⟩ => ⟨u, v, h1, h2.step hb, h3.step hb⟩⟩
theorem eqlSame4 (f : Nat → Nat) (W : World) : (Op.equalIn 10000 42 (.agg (arrK .u64 4 f)) (.agg (arrK .u64 4 f))).run Try.prog W = .ok true W := by
  rw [show 10000 = 9998 + 2 from rfl, run_equalIn_arrK Try.underlying42 Try.underlying40 (by kernel_rfl)]; simp
theorem eqlSame8 (f : Nat → Nat) (W : World) : (Op.equalIn 10000 48 (.agg (arrK .u64 8 f)) (.agg (arrK .u64 8 f))).run Try.prog W = .ok true W := by
  rw [show 10000 = 9998 + 2 from rfl, run_equalIn_arrK Try.underlying48 Try.underlying40 (by kernel_rfl)]; simp
theorem divModC (a m : Nat) (W : World) (ha : a < 2 ^ (64 * 8)) (hm : m < 2 ^ 256) (hm0 : m ≠ 0) : Calls Try.prog 52 #[.agg (arrK .u64 8 (wd a)), .agg (arrK .u64 4 (wd m))] W fun e w' => e = .returned (.tuple #[.agg (arrK .u64 8 (wd (a / m))), .agg (arrK .u64 4 (wd (a % m))), .int .i64 0]) ∧ Below W.heap.size W w' := quot_DivMod a m W ha hm hm0
theorem modC (a m : Nat) (W : World) (ha : a < 2 ^ (64 * 8)) (hm : m < 2 ^ 256) (hm0 : m ≠ 0) : Calls Try.prog 53 #[.agg (arrK .u64 8 (wd a)), .agg (arrK .u64 4 (wd m))] W fun e w' => e = .returned (.tuple #[.agg (arrK .u64 4 (wd (a % m))), .int .i64 0]) ∧ Below W.heap.size W w' := quot_Mod a m W ha hm hm0
theorem gcdC (a b : Nat) (W : World) (ha : a < 2 ^ 256) (hb : b < 2 ^ 256) : Calls Try.prog 54 #[.agg (arrK .u64 4 (wd a)), .agg (arrK .u64 4 (wd b))] W fun e w' => e = .returned (.agg (arrK .u64 4 (wd (Nat.gcd a b)))) ∧ Below W.heap.size W w' := quot_Gcd a b W ha hb
theorem ofNumC' (n : Nat) (w : World) (hn : n < 2 ^ 256) : Calls Try.prog 19 #[.agg (arrK .u64 4 (wd n))] w (RetN n w) := ref_OfNum n w hn
theorem ofWideC' (n : Nat) (w : World) (hn : n < 2 ^ (64 * 8)) : Calls Try.prog 56 #[.agg (arrK .u64 8 (wd n))] w (RetN n w) := ref_OfWide n w hn
theorem toNumC' {u : Value} {m : Nat} (w : World) (hu : IsN w u m) (hm : m < big) : Calls Try.prog 25 #[u] w fun e w' => e = .returned (.agg (arrK .u64 4 (wd m))) ∧ Below w.heap.size w w' := toNumN w (hu.toV hm)
theorem toWideC' {u : Value} {m : Nat} (w : World) (hu : IsN w u m) (hm : m < big) : Calls Try.prog 26 #[u] w fun e w' => e = .returned (.agg (arrK .u64 8 (wd m))) ∧ Below w.heap.size w w' := toWideN w (hu.toV hm)
theorem mul_small {m : Nat} (h : m < 2 ^ 256) : 65536 * m < big := by
  have := mul_big (a := 65536) (b := m) (m := 17) (n := 256) (by omega) h (by omega)
  exact this
theorem divMod0C (a m Q R : Nat) (W : World) (hm : m = 0) (hQ : Q = 0) (hR : R = 0) : Calls Try.prog 52 #[.agg (arrK .u64 8 (wd a)), .agg (arrK .u64 4 (wd m))] W fun e w' => e = .returned (.tuple #[.agg (arrK .u64 8 (wd Q)), .agg (arrK .u64 4 (wd R)), .int .i64 1]) ∧ Below W.heap.size W w' := by
  subst hm hQ hR; exact quot_DivMod0 a W
theorem mod0C (a m R : Nat) (W : World) (hm : m = 0) (hR : R = 0) : Calls Try.prog 53 #[.agg (arrK .u64 8 (wd a)), .agg (arrK .u64 4 (wd m))] W fun e w' => e = .returned (.tuple #[.agg (arrK .u64 4 (wd R)), .int .i64 1]) ∧ Below W.heap.size W w' := by
  subst hm hR; exact quot_Mod0 a W
theorem eqlOf4 {a b : Nat} (h : a = b) (W : World) : (Op.equalIn 10000 42 (.agg (arrK .u64 4 (wd a))) (.agg (arrK .u64 4 (wd b)))).run Try.prog W = .ok true W := by subst h; exact eqlSame4 _ W
theorem eqlLit8 {a : Nat} (h : a = 0) (W : World) : (Op.equalIn 10000 48 (.agg (arrK .u64 8 (wd a))) (.agg #[Value.int IntKind.u64 0, Value.int IntKind.u64 0, Value.int IntKind.u64 0, Value.int IntKind.u64 0, Value.int IntKind.u64 0, Value.int IntKind.u64 0, Value.int IntKind.u64 0, Value.int IntKind.u64 0])).run Try.prog W = .ok true W := by subst h; rw [zeroWide]; exact eqlSame8 _ W
theorem cells8 : Cells #[Value.int IntKind.u64 0, Value.int IntKind.u64 0, Value.int IntKind.u64 0, Value.int IntKind.u64 0, Value.int IntKind.u64 0, Value.int IntKind.u64 0, Value.int IntKind.u64 0, Value.int IntKind.u64 0] 8 := by rw [zeroWide]; exact arrK_cells _ _ _
theorem cells4 : Cells #[Value.int IntKind.u64 0, Value.int IntKind.u64 0, Value.int IntKind.u64 0, Value.int IntKind.u64 0] 4 := by rw [zeroNum]; exact arrK_cells _ _ _
theorem quotTells_yes (x m y : Nat) (w : World) (ha : x < 2 ^ (64 * 8)) (hm : m < 2 ^ 256) (hb : y < 2 ^ 256) (hm0 : m ≠ 0) :
    Calls Try.prog 10 #[.agg (arrK .u64 8 (wd x)), .agg (arrK .u64 4 (wd m)), .agg (arrK .u64 4 (wd y))] w fun e w' => e = .returned (.bool true) ∧ Below w.heap.size w w' := by
  have hL0 : Below w.heap.size w (((w.alloc (Obj.cells (arrK .u64 8 (wd x)) 48)).alloc (Obj.cells (arrK .u64 4 (wd m)) 42)).alloc (Obj.cells (arrK .u64 4 (wd y)) 42)) := by go_grown
  have A0 : WideAt (((w.alloc (Obj.cells (arrK .u64 8 (wd x)) 48)).alloc (Obj.cells (arrK .u64 4 (wd m)) 42)).alloc (Obj.cells (arrK .u64 4 (wd y)) 42)) w.heap.size x := ((At.new _ rfl).old _).old _
  have M0 : NumAt (((w.alloc (Obj.cells (arrK .u64 8 (wd x)) 48)).alloc (Obj.cells (arrK .u64 4 (wd m)) 42)).alloc (Obj.cells (arrK .u64 4 (wd y)) 42)) (w.heap.size + 1) m := (At.new _ (by simp)).old _
  have B0 : NumAt (((w.alloc (Obj.cells (arrK .u64 8 (wd x)) 48)).alloc (Obj.cells (arrK .u64 4 (wd m)) 42)).alloc (Obj.cells (arrK .u64 4 (wd y)) 42)) (w.heap.size + 1 + 1) y := At.new _ (by simp)
  obtain ⟨Q, hQ⟩ : ∃ Q, Q = x / m := ⟨_, rfl⟩
  obtain ⟨R, hR⟩ : ∃ R, R = x % m := ⟨_, rfl⟩
  have hcD := Lib.hid (fun W => divModC x m W ha hm hm0)
  have hcM := Lib.hid (fun W => modC x m W ha hm hm0)
  rw [← hQ, ← hR] at hcD
  rw [← hR] at hcM
  have hHQ := Lib.hid hQ
  have hHR := Lib.hid hR
  have hz8 := cells8
  have hz4 := cells4
  have hcq := arrK_cells .u64 8 (wd Q)
  have hcr := arrK_cells .u64 4 (wd R)
  have hRa := A0.row
  have hra := A0.eq
  have hRm := M0.row
  have hrm := M0.eq
  have hHB := Lib.hid B0
  clear hQ hR B0
  go_enter Try.func10, Try.ntmps10
  go_wp2_with fail
  generalize (((w.alloc (Obj.cells (arrK .u64 8 (wd x)) 48)).alloc (Obj.cells (arrK .u64 4 (wd m)) 42)).alloc (Obj.cells (arrK .u64 4 (wd y)) 42)) = W0 at *
  refine (hcD.out _).mono ?_
  rintro e W1 ⟨rfl, hb1⟩
  have A1 := A0.step hb1
  have M1 := M0.step hb1
  have B1 := hHB.out.step hb1
  have hL1 := below_step hb1 hL0 (Nat.le_refl _)
  clear A0 M0 hHB hb1 hL0 hRa hra hRm hrm hcD
  have A2 := (A1.old (Obj.cells (arrK .u64 8 (wd Q)) 48)).old (Obj.cells (arrK .u64 4 (wd R)) 42)
  have M2 := (M1.old (Obj.cells (arrK .u64 8 (wd Q)) 48)).old (Obj.cells (arrK .u64 4 (wd R)) 42)
  have B2 := Lib.hid ((B1.old (Obj.cells (arrK .u64 8 (wd Q)) 48)).old (Obj.cells (arrK .u64 4 (wd R)) 42))
  have Q2 : Hid (WideAt ((W1.alloc (Obj.cells (arrK .u64 8 (wd Q)) 48)).alloc (Obj.cells (arrK .u64 4 (wd R)) 42)) W1.heap.size Q) := Lib.hid ((At.new _ rfl).old _)
  have R2 : Hid (NumAt ((W1.alloc (Obj.cells (arrK .u64 8 (wd Q)) 48)).alloc (Obj.cells (arrK .u64 4 (wd R)) 42)) (W1.heap.size + 1) R) := Lib.hid (At.new _ (by simp))
  have hL2 := Lib.hid ((hL1.alloc hL1.size (Obj.cells (arrK .u64 8 (wd Q)) 48)).alloc (by have := hL1.size; simp; omega) (Obj.cells (arrK .u64 4 (wd R)) 42))
  have hRa := A2.row
  have hra := A2.eq
  have hRm := M2.row
  have hrm := M2.eq
  have hA2 := Lib.hid A2
  have hM2 := Lib.hid M2
  clear A1 M1 B1 hL1 A2 M2
  go_wp2_with fail
  generalize ((W1.alloc (Obj.cells (arrK .u64 8 (wd Q)) 48)).alloc (Obj.cells (arrK .u64 4 (wd R)) 42)) = X at *
  generalize W1.heap.size = g at *
  refine (hcM.out _).mono ?_
  rintro e W2 ⟨rfl, hb2⟩
  have hal := below_step (below_alloc W2 (Obj.cells (arrK .u64 4 (wd R)) 42)) hb2 (Nat.le_refl _)
  have A3 := hA2.out.step hal
  have M3 := hM2.out.step hal
  have B3 := B2.out.step hal
  have Q3 := Q2.out.step hal
  have R3 := R2.out.step hal
  have S3 : NumAt (W2.alloc (Obj.cells (arrK .u64 4 (wd R)) 42)) W2.heap.size R := At.new _ rfl
  have hL3 := Lib.hid (below_step hal hL2.out (Nat.le_refl _))
  have hRm := M3.row
  have hrm := M3.eq
  have hHA := Lib.hid A3
  have hHM := Lib.hid M3
  have hHB := Lib.hid B3
  have hHQ3 := Lib.hid Q3
  have hHR3 := Lib.hid R3
  have hHS := Lib.hid S3
  clear hA2 hM2 B2 Q2 R2 hb2 hal A3 M3 B3 Q3 R3 S3 hL2 hRa hra hcM
  have hne := fun W => eqlNum hm (show 0 < 2 ^ 256 by omega) W
  rw [decide_eq_false hm0, ← zeroNum] at hne
  go_wp2
  clear hne
  generalize (W2.alloc (Obj.cells (arrK .u64 4 (wd R)) 42)) = W at *
  generalize W2.heap.size = g3 at *
  have hbb := hb
  have hmb := mul_small hm
  clear hb
  have hE4 := Lib.hid (fun (W : World) (f : Nat → Nat) => eqlSame4 f W)
  have hE8 := Lib.hid (fun (W : World) (f : Nat → Nat) => eqlSame8 f W)
  clear hRm hrm
  refine wp_region_calm (fun jx_ => match jx_ with | 0 => SRel.is (.agg (arrK .u64 8 (wd x))) | 1 => SRel.n (x) | 2 => SRel.is (.agg (arrK .u64 4 (wd m))) | 3 => SRel.n (m) | 4 => SRel.qr Q R | 5 => SRel.qr Q R | 6 => SRel.n (Q) | 7 => SRel.n (R) | 8 => SRel.n (Q) | 9 => SRel.n (R) | _ => SRel.any) (by kernel_rfl) (by kernel_rfl) (by kernel_rfl) (by kernel_rfl) ⟨?_, ?_, ?_, ?_, ?_, ?_, ?_, ?_, ?_, ?_, trivial⟩ ?_
  · refine calm_step rfl fun a ω κ hb hu hc hK => ?_
    have h3 : a.tmps[3]?.getD undef = .pointer (some ⟨w.heap.size, 0, none⟩) := hu 3 rfl
    have hk := Lib.hid (fun w1 (h : Below ω.heap.size ω w1) => hK (.agg (arrK .u64 8 (wd x))) w1 rfl h)
    clear hK hu hc
    have hA := hHA.out.step hb
    have hr1 := hA.row
    have hr2 := hA.eq
    clear hA
    go_simp
    exact hk.out _ (Below.refl _ _)
  · refine calm_step rfl fun a ω κ hb hu hc hK => ?_
    have h59 : a.tmps[59]?.getD undef = .agg (arrK .u64 8 (wd x)) := hc 0 59 rfl rfl
    have hk := Lib.hid (fun v w1 (hv : (SRel.n (x)).p v w1) (h : Below ω.heap.size ω w1) => hK v w1 hv h)
    clear hK hu hc
    go_simp
    go_at_call 56
    refine (ofWideC' x ω ha).mono ?_
    rintro e w1 ⟨u, rfl, hu1, hb1⟩
    exact hk.out _ _ hu1 hb1
  · refine calm_step rfl fun a ω κ hb hu hc hK => ?_
    have h4 : a.tmps[4]?.getD undef = .pointer (some ⟨w.heap.size + 1, 0, none⟩) := hu 4 rfl
    have hk := Lib.hid (fun w1 (h : Below ω.heap.size ω w1) => hK (.agg (arrK .u64 4 (wd m))) w1 rfl h)
    clear hK hu hc
    have hA := hHM.out.step hb
    have hr1 := hA.row
    have hr2 := hA.eq
    clear hA
    go_simp
    exact hk.out _ (Below.refl _ _)
  · refine calm_step rfl fun a ω κ hb hu hc hK => ?_
    have h61 : a.tmps[61]?.getD undef = .agg (arrK .u64 4 (wd m)) := hc 2 61 rfl rfl
    have hk := Lib.hid (fun v w1 (hv : (SRel.n (m)).p v w1) (h : Below ω.heap.size ω w1) => hK v w1 hv h)
    clear hK hu hc
    go_simp
    go_at_call 19
    refine (ofNumC' m ω hm).mono ?_
    rintro e w1 ⟨u, rfl, hu1, hb1⟩
    exact hk.out _ _ hu1 hb1
  · refine calm_step rfl fun a ω κ hb hu hc hK => ?_
    have h60 : (SRel.n (x)).p (a.tmps[60]?.getD undef) ω := hc 1 60 rfl rfl
    have h62 : (SRel.n (m)).p (a.tmps[62]?.getD undef) ω := hc 3 62 rfl rfl
    have hk := Lib.hid (fun v w1 (hv : (SRel.qr Q R).p v w1) (h : Below ω.heap.size ω w1) => hK v w1 hv h)
    clear hK hu hc
    go_simp
    go_at_call 55
    refine (partsN (k := 64 * 8) ω h60 ha (by omega) (h62.toV (lt_big hm (by omega))) (by omega) hmb).mono ?_
    rintro e w1 ⟨u, v, rfl, hu1, hv1, hb1⟩
    rw [← hHQ.out] at hu1
    rw [← hHR.out] at hv1
    exact hk.out _ _ ⟨u, v, rfl, hu1, hv1⟩ hb1
  · refine calm_step rfl fun a ω κ hb hu hc hK => ?_
    have h63 : (SRel.qr Q R).p (a.tmps[63]?.getD undef) ω := hc 4 63 rfl rfl
    have hk := Lib.hid (fun v w1 (hv : (SRel.qr Q R).p v w1) (h : Below ω.heap.size ω w1) => hK v w1 hv h)
    clear hK hu hc
    go_simp
    exact hk.out _ _ h63 (Below.refl _ _)
  · refine calm_step rfl fun a ω κ hb hu hc hK => ?_
    have h58 : (SRel.qr Q R).p (a.tmps[58]?.getD undef) ω := hc 5 58 rfl rfl
    have hk := Lib.hid (fun v w1 (hv : (SRel.n (Q)).p v w1) (h : Below ω.heap.size ω w1) => hK v w1 hv h)
    clear hK hu hc
    obtain ⟨u, v, h1, hu1, hv1⟩ := h58
    go_simp
    exact hk.out _ _ hu1 (Below.refl _ _)
  · refine calm_step rfl fun a ω κ hb hu hc hK => ?_
    have h58 : (SRel.qr Q R).p (a.tmps[58]?.getD undef) ω := hc 5 58 rfl rfl
    have hk := Lib.hid (fun v w1 (hv : (SRel.n (R)).p v w1) (h : Below ω.heap.size ω w1) => hK v w1 hv h)
    clear hK hu hc
    obtain ⟨u, v, h1, hu1, hv1⟩ := h58
    go_simp
    exact hk.out _ _ hv1 (Below.refl _ _)
  · refine calm_step rfl fun a ω κ hb hu hc hK => ?_
    have h64 : (SRel.n (Q)).p (a.tmps[64]?.getD undef) ω := hc 6 64 rfl rfl
    have hk := Lib.hid (fun v w1 (hv : (SRel.n (Q)).p v w1) (h : Below ω.heap.size ω w1) => hK v w1 hv h)
    clear hK hu hc
    go_simp
    exact hk.out _ _ h64 (Below.refl _ _)
  · refine calm_step rfl fun a ω κ hb hu hc hK => ?_
    have h65 : (SRel.n (R)).p (a.tmps[65]?.getD undef) ω := hc 7 65 rfl rfl
    have hk := Lib.hid (fun v w1 (hv : (SRel.n (R)).p v w1) (h : Below ω.heap.size ω w1) => hK v w1 hv h)
    clear hK hu hc
    go_simp
    exact hk.out _ _ h65 (Below.refl _ _)
  · intro a5 w5 hb5 hu5 hsz5 hdf5 hc5
    have e3 : a5.tmps[3]?.getD undef = .pointer (some ⟨w.heap.size, 0, none⟩) := hu5 3 rfl
    have e4 : a5.tmps[4]?.getD undef = .pointer (some ⟨w.heap.size + 1, 0, none⟩) := hu5 4 rfl
    have e5 : a5.tmps[5]?.getD undef = .pointer (some ⟨w.heap.size + 1 + 1, 0, none⟩) := hu5 5 rfl
    have e7 : a5.tmps[7]?.getD undef = .pointer (some ⟨g, 0, none⟩) := hu5 7 rfl
    have e8 : a5.tmps[8]?.getD undef = .pointer (some ⟨g + 1, 0, none⟩) := hu5 8 rfl
    have e9 : a5.tmps[9]?.getD undef = .int .i64 0 := hu5 9 rfl
    have e10 : a5.tmps[10]?.getD undef = .pointer (some ⟨g3, 0, none⟩) := hu5 10 rfl
    have e11 : a5.tmps[11]?.getD undef = .int .i64 0 := hu5 11 rfl
    have hz5 : a5.tmps.size = 101 := hsz5
    have hNq0 : IsN w5 (a5.tmps[12]?.getD undef) Q := hc5 8 12 rfl
    have hNr0 : IsN w5 (a5.tmps[13]?.getD undef) R := hc5 9 13 rfl
    obtain ⟨uq, e12⟩ : ∃ u, a5.tmps[12]?.getD undef = u := ⟨_, rfl⟩
    obtain ⟨ur, e13⟩ : ∃ u, a5.tmps[13]?.getD undef = u := ⟨_, rfl⟩
    rw [e12] at hNq0
    rw [e13] at hNr0
    have hNq := Lib.hid hNq0
    have hNr := Lib.hid hNr0
    have hHM := Lib.hid (hHM.out.step hb5)
    have hHB := Lib.hid (hHB.out.step hb5)
    have hHQ3 := Lib.hid (hHQ3.out.step hb5)
    have hHR3 := Lib.hid (hHR3.out.step hb5)
    have hHS := Lib.hid (hHS.out.step hb5)
    have hL5 := Lib.hid (below_step hb5 hL3.out (Nat.le_refl _))
    have hQb : Q < big := lt_big (k := 64 * 8) (by rw [hHQ.out]; exact Nat.lt_of_le_of_lt (Nat.div_le_self _ _) ha) (by omega)
    have hRb : R < big := lt_big (k := 256) (by rw [hHR.out]; exact Nat.lt_trans (Nat.mod_lt _ (by omega)) hm) (by omega)
    have hGb : Nat.gcd m y < big := lt_big (k := 256) (Nat.lt_of_le_of_lt (Nat.gcd_le_left y (by omega)) hm) (by omega)
    clear hNq0 hNr0 hu5 hc5
    go_wp2
    refine wp_region_calm (fun jx_ => match jx_ with | 0 => SRel.is (.agg (arrK .u64 8 (wd Q))) | 1 => SRel.is (uq) | 2 => SRel.is (.agg (arrK .u64 8 (wd Q))) | 3 => SRel.is (.bool true) | 4 => SRel.is (.bool true) | 5 => SRel.is (.agg (arrK .u64 4 (wd R))) | 6 => SRel.is (ur) | 7 => SRel.is (.agg (arrK .u64 4 (wd R))) | 8 => SRel.is (.bool true) | 9 => SRel.is (.bool true) | 10 => SRel.is (.bool true) | 11 => SRel.is (.int .i64 0) | 12 => SRel.is (.bool true) | 13 => SRel.is (.bool true) | 14 => SRel.is (.bool true) | 15 => SRel.is (.agg (arrK .u64 4 (wd R))) | 16 => SRel.is (.agg (arrK .u64 4 (wd R))) | 17 => SRel.is (.bool true) | 18 => SRel.is (.bool true) | 19 => SRel.is (.bool true) | 20 => SRel.is (.int .i64 0) | 21 => SRel.is (.bool true) | 22 => SRel.is (.bool true) | 23 => SRel.is (.bool true) | 24 => SRel.is (.agg (arrK .u64 4 (wd m))) | 25 => SRel.is (.agg (arrK .u64 4 (wd y))) | 26 => SRel.is (.agg (arrK .u64 4 (wd (Nat.gcd m y)))) | 27 => SRel.is (.agg (arrK .u64 4 (wd m))) | 28 => SRel.n (m) | 29 => SRel.is (.agg (arrK .u64 4 (wd y))) | 30 => SRel.n (y) | 31 => SRel.n ((Nat.gcd m y)) | 32 => SRel.is (.agg (arrK .u64 4 (wd (Nat.gcd m y)))) | 33 => SRel.is (.bool true) | 34 => SRel.is (.bool true) | 35 => SRel.is (.bool true) | _ => SRel.any) (by kernel_rfl) (by kernel_rfl) (by kernel_rfl) (slotsOk_of hz5 (by kernel_rfl)) ⟨?_, ?_, ?_, ?_, ?_, ?_, ?_, ?_, ?_, ?_, ?_, ?_, ?_, ?_, ?_, ?_, ?_, ?_, ?_, ?_, ?_, ?_, ?_, ?_, ?_, ?_, ?_, ?_, ?_, ?_, ?_, ?_, ?_, ?_, ?_, ?_, trivial⟩ ?_
    · refine calm_step rfl fun a ω κ hb hu hc hK => ?_
      have h7 : a.tmps[7]?.getD undef = .pointer (some ⟨g, 0, none⟩) := (hu 7 rfl).trans e7
      have hk := Lib.hid (fun w1 (h : Below ω.heap.size ω w1) => hK (.agg (arrK .u64 8 (wd Q))) w1 rfl h)
      clear hK hu hc
      have hA := hHQ3.out.step hb
      have hr1 := hA.row
      have hr2 := hA.eq
      clear hA
      go_simp
      exact hk.out _ (Below.refl _ _)
    · refine calm_step rfl fun a ω κ hb hu hc hK => ?_
      have h12 : a.tmps[12]?.getD undef = uq := (hu 12 rfl).trans e12
      have hk := Lib.hid (fun w1 (h : Below ω.heap.size ω w1) => hK (uq) w1 rfl h)
      clear hK hu hc
      go_simp
      exact hk.out _ (Below.refl _ _)
    · refine calm_step rfl fun a ω κ hb hu hc hK => ?_
      have h67 : a.tmps[67]?.getD undef = uq := hc 1 67 rfl rfl
      have hk := Lib.hid (fun w1 (h : Below ω.heap.size ω w1) => hK (.agg (arrK .u64 8 (wd Q))) w1 rfl h)
      clear hK hu hc
      go_simp
      go_at_call 26
      refine (toWideC' ω (hNq.out.step hb) hQb).mono ?_
      rintro e w1 ⟨rfl, hb1⟩
      exact hk.out _ hb1
    · refine calm_step rfl fun a ω κ hb hu hc hK => ?_
      have h66 : a.tmps[66]?.getD undef = .agg (arrK .u64 8 (wd Q)) := hc 0 66 rfl rfl
      have h68 : a.tmps[68]?.getD undef = .agg (arrK .u64 8 (wd Q)) := hc 2 68 rfl rfl
      have hk := Lib.hid (fun w1 (h : Below ω.heap.size ω w1) => hK (.bool true) w1 rfl h)
      clear hK hu hc
      have hq := hE8.out ω (wd Q)
      go_simp
      exact hk.out _ (Below.refl _ _)
    · refine calm_step rfl fun a ω κ hb hu hc hK => ?_
      have h69 : a.tmps[69]?.getD undef = .bool true := hc 3 69 rfl rfl
      have hk := Lib.hid (fun w1 (h : Below ω.heap.size ω w1) => hK (.bool true) w1 rfl h)
      clear hK hu hc
      go_simp
      exact hk.out _ (Below.refl _ _)
    · refine calm_step_guard (g := 4) (b := true) (d := 70) rfl rfl (fun a w hc => hc 4 70 rfl rfl) fun a ω κ hb hu hc hK => ?_
      have h8 : a.tmps[8]?.getD undef = .pointer (some ⟨g + 1, 0, none⟩) := (hu 8 rfl).trans e8
      have hk := Lib.hid (fun w1 (h : Below ω.heap.size ω w1) => hK (.agg (arrK .u64 4 (wd R))) w1 rfl h)
      clear hK hu hc
      have hA := hHR3.out.step hb
      have hr1 := hA.row
      have hr2 := hA.eq
      clear hA
      go_simp
      exact hk.out _ (Below.refl _ _)
    · refine calm_step_guard (g := 4) (b := true) (d := 70) rfl rfl (fun a w hc => hc 4 70 rfl rfl) fun a ω κ hb hu hc hK => ?_
      have h13 : a.tmps[13]?.getD undef = ur := (hu 13 rfl).trans e13
      have hk := Lib.hid (fun w1 (h : Below ω.heap.size ω w1) => hK (ur) w1 rfl h)
      clear hK hu hc
      go_simp
      exact hk.out _ (Below.refl _ _)
    · refine calm_step_guard (g := 4) (b := true) (d := 70) rfl rfl (fun a w hc => hc 4 70 rfl rfl) fun a ω κ hb hu hc hK => ?_
      have h72 : a.tmps[72]?.getD undef = ur := hc 6 72 rfl rfl
      have hk := Lib.hid (fun w1 (h : Below ω.heap.size ω w1) => hK (.agg (arrK .u64 4 (wd R))) w1 rfl h)
      clear hK hu hc
      go_simp
      go_at_call 25
      refine (toNumC' ω (hNr.out.step hb) hRb).mono ?_
      rintro e w1 ⟨rfl, hb1⟩
      exact hk.out _ hb1
    · refine calm_step_guard (g := 4) (b := true) (d := 70) rfl rfl (fun a w hc => hc 4 70 rfl rfl) fun a ω κ hb hu hc hK => ?_
      have h71 : a.tmps[71]?.getD undef = .agg (arrK .u64 4 (wd R)) := hc 5 71 rfl rfl
      have h73 : a.tmps[73]?.getD undef = .agg (arrK .u64 4 (wd R)) := hc 7 73 rfl rfl
      have hk := Lib.hid (fun w1 (h : Below ω.heap.size ω w1) => hK (.bool true) w1 rfl h)
      clear hK hu hc
      have hq := hE4.out ω (wd R)
      go_simp
      exact hk.out _ (Below.refl _ _)
    · refine calm_step rfl fun a ω κ hb hu hc hK => ?_
      have h70 : a.tmps[70]?.getD undef = .bool true := hc 4 70 rfl rfl
      have h74 : a.tmps[74]?.getD undef = .bool true := hc 8 74 rfl rfl
      have hk := Lib.hid (fun w1 (h : Below ω.heap.size ω w1) => hK (.bool true) w1 rfl h)
      clear hK hu hc
      go_simp
      exact hk.out _ (Below.refl _ _)
    · refine calm_step rfl fun a ω κ hb hu hc hK => ?_
      have h75 : a.tmps[75]?.getD undef = .bool true := hc 9 75 rfl rfl
      have hk := Lib.hid (fun w1 (h : Below ω.heap.size ω w1) => hK (.bool true) w1 rfl h)
      clear hK hu hc
      go_simp
      exact hk.out _ (Below.refl _ _)
    · refine calm_step_guard (g := 10) (b := true) (d := 76) rfl rfl (fun a w hc => hc 10 76 rfl rfl) fun a ω κ hb hu hc hK => ?_
      have h9 : a.tmps[9]?.getD undef = .int .i64 0 := (hu 9 rfl).trans e9
      have hk := Lib.hid (fun w1 (h : Below ω.heap.size ω w1) => hK (.int .i64 0) w1 rfl h)
      clear hK hu hc
      go_simp
      exact hk.out _ (Below.refl _ _)
    · refine calm_step_guard (g := 10) (b := true) (d := 76) rfl rfl (fun a w hc => hc 10 76 rfl rfl) fun a ω κ hb hu hc hK => ?_
      have h77 : a.tmps[77]?.getD undef = .int .i64 0 := hc 11 77 rfl rfl
      have hk := Lib.hid (fun w1 (h : Below ω.heap.size ω w1) => hK (.bool true) w1 rfl h)
      clear hK hu hc
      go_simp
      exact hk.out _ (Below.refl _ _)
    · refine calm_step rfl fun a ω κ hb hu hc hK => ?_
      have h76 : a.tmps[76]?.getD undef = .bool true := hc 10 76 rfl rfl
      have h78 : a.tmps[78]?.getD undef = .bool true := hc 12 78 rfl rfl
      have hk := Lib.hid (fun w1 (h : Below ω.heap.size ω w1) => hK (.bool true) w1 rfl h)
      clear hK hu hc
      go_simp
      exact hk.out _ (Below.refl _ _)
    · refine calm_step rfl fun a ω κ hb hu hc hK => ?_
      have h79 : a.tmps[79]?.getD undef = .bool true := hc 13 79 rfl rfl
      have hk := Lib.hid (fun w1 (h : Below ω.heap.size ω w1) => hK (.bool true) w1 rfl h)
      clear hK hu hc
      go_simp
      exact hk.out _ (Below.refl _ _)
    · refine calm_step_guard (g := 14) (b := true) (d := 80) rfl rfl (fun a w hc => hc 14 80 rfl rfl) fun a ω κ hb hu hc hK => ?_
      have h10 : a.tmps[10]?.getD undef = .pointer (some ⟨g3, 0, none⟩) := (hu 10 rfl).trans e10
      have hk := Lib.hid (fun w1 (h : Below ω.heap.size ω w1) => hK (.agg (arrK .u64 4 (wd R))) w1 rfl h)
      clear hK hu hc
      have hA := hHS.out.step hb
      have hr1 := hA.row
      have hr2 := hA.eq
      clear hA
      go_simp
      exact hk.out _ (Below.refl _ _)
    · refine calm_step_guard (g := 14) (b := true) (d := 80) rfl rfl (fun a w hc => hc 14 80 rfl rfl) fun a ω κ hb hu hc hK => ?_
      have h8 : a.tmps[8]?.getD undef = .pointer (some ⟨g + 1, 0, none⟩) := (hu 8 rfl).trans e8
      have hk := Lib.hid (fun w1 (h : Below ω.heap.size ω w1) => hK (.agg (arrK .u64 4 (wd R))) w1 rfl h)
      clear hK hu hc
      have hA := hHR3.out.step hb
      have hr1 := hA.row
      have hr2 := hA.eq
      clear hA
      go_simp
      exact hk.out _ (Below.refl _ _)
    · refine calm_step_guard (g := 14) (b := true) (d := 80) rfl rfl (fun a w hc => hc 14 80 rfl rfl) fun a ω κ hb hu hc hK => ?_
      have h81 : a.tmps[81]?.getD undef = .agg (arrK .u64 4 (wd R)) := hc 15 81 rfl rfl
      have h82 : a.tmps[82]?.getD undef = .agg (arrK .u64 4 (wd R)) := hc 16 82 rfl rfl
      have hk := Lib.hid (fun w1 (h : Below ω.heap.size ω w1) => hK (.bool true) w1 rfl h)
      clear hK hu hc
      have hq := hE4.out ω (wd R)
      go_simp
      exact hk.out _ (Below.refl _ _)
    · refine calm_step rfl fun a ω κ hb hu hc hK => ?_
      have h80 : a.tmps[80]?.getD undef = .bool true := hc 14 80 rfl rfl
      have h83 : a.tmps[83]?.getD undef = .bool true := hc 17 83 rfl rfl
      have hk := Lib.hid (fun w1 (h : Below ω.heap.size ω w1) => hK (.bool true) w1 rfl h)
      clear hK hu hc
      go_simp
      exact hk.out _ (Below.refl _ _)
    · refine calm_step rfl fun a ω κ hb hu hc hK => ?_
      have h84 : a.tmps[84]?.getD undef = .bool true := hc 18 84 rfl rfl
      have hk := Lib.hid (fun w1 (h : Below ω.heap.size ω w1) => hK (.bool true) w1 rfl h)
      clear hK hu hc
      go_simp
      exact hk.out _ (Below.refl _ _)
    · refine calm_step_guard (g := 19) (b := true) (d := 85) rfl rfl (fun a w hc => hc 19 85 rfl rfl) fun a ω κ hb hu hc hK => ?_
      have h11 : a.tmps[11]?.getD undef = .int .i64 0 := (hu 11 rfl).trans e11
      have hk := Lib.hid (fun w1 (h : Below ω.heap.size ω w1) => hK (.int .i64 0) w1 rfl h)
      clear hK hu hc
      go_simp
      exact hk.out _ (Below.refl _ _)
    · refine calm_step_guard (g := 19) (b := true) (d := 85) rfl rfl (fun a w hc => hc 19 85 rfl rfl) fun a ω κ hb hu hc hK => ?_
      have h86 : a.tmps[86]?.getD undef = .int .i64 0 := hc 20 86 rfl rfl
      have hk := Lib.hid (fun w1 (h : Below ω.heap.size ω w1) => hK (.bool true) w1 rfl h)
      clear hK hu hc
      go_simp
      exact hk.out _ (Below.refl _ _)
    · refine calm_step rfl fun a ω κ hb hu hc hK => ?_
      have h85 : a.tmps[85]?.getD undef = .bool true := hc 19 85 rfl rfl
      have h87 : a.tmps[87]?.getD undef = .bool true := hc 21 87 rfl rfl
      have hk := Lib.hid (fun w1 (h : Below ω.heap.size ω w1) => hK (.bool true) w1 rfl h)
      clear hK hu hc
      go_simp
      exact hk.out _ (Below.refl _ _)
    · refine calm_step rfl fun a ω κ hb hu hc hK => ?_
      have h88 : a.tmps[88]?.getD undef = .bool true := hc 22 88 rfl rfl
      have hk := Lib.hid (fun w1 (h : Below ω.heap.size ω w1) => hK (.bool true) w1 rfl h)
      clear hK hu hc
      go_simp
      exact hk.out _ (Below.refl _ _)
    · refine calm_step_guard (g := 23) (b := true) (d := 89) rfl rfl (fun a w hc => hc 23 89 rfl rfl) fun a ω κ hb hu hc hK => ?_
      have h4 : a.tmps[4]?.getD undef = .pointer (some ⟨w.heap.size + 1, 0, none⟩) := (hu 4 rfl).trans e4
      have hk := Lib.hid (fun w1 (h : Below ω.heap.size ω w1) => hK (.agg (arrK .u64 4 (wd m))) w1 rfl h)
      clear hK hu hc
      have hA := hHM.out.step hb
      have hr1 := hA.row
      have hr2 := hA.eq
      clear hA
      go_simp
      exact hk.out _ (Below.refl _ _)
    · refine calm_step_guard (g := 23) (b := true) (d := 89) rfl rfl (fun a w hc => hc 23 89 rfl rfl) fun a ω κ hb hu hc hK => ?_
      have h5 : a.tmps[5]?.getD undef = .pointer (some ⟨w.heap.size + 1 + 1, 0, none⟩) := (hu 5 rfl).trans e5
      have hk := Lib.hid (fun w1 (h : Below ω.heap.size ω w1) => hK (.agg (arrK .u64 4 (wd y))) w1 rfl h)
      clear hK hu hc
      have hA := hHB.out.step hb
      have hr1 := hA.row
      have hr2 := hA.eq
      clear hA
      go_simp
      exact hk.out _ (Below.refl _ _)
    · refine calm_step_guard (g := 23) (b := true) (d := 89) rfl rfl (fun a w hc => hc 23 89 rfl rfl) fun a ω κ hb hu hc hK => ?_
      have h90 : a.tmps[90]?.getD undef = .agg (arrK .u64 4 (wd m)) := hc 24 90 rfl rfl
      have h91 : a.tmps[91]?.getD undef = .agg (arrK .u64 4 (wd y)) := hc 25 91 rfl rfl
      have hk := Lib.hid (fun w1 (h : Below ω.heap.size ω w1) => hK (.agg (arrK .u64 4 (wd (Nat.gcd m y)))) w1 rfl h)
      clear hK hu hc
      go_simp
      go_at_call 54
      refine (gcdC m y ω hm hbb).mono ?_
      rintro e w1 ⟨rfl, hb1⟩
      exact hk.out _ hb1
    · refine calm_step_guard (g := 23) (b := true) (d := 89) rfl rfl (fun a w hc => hc 23 89 rfl rfl) fun a ω κ hb hu hc hK => ?_
      have h4 : a.tmps[4]?.getD undef = .pointer (some ⟨w.heap.size + 1, 0, none⟩) := (hu 4 rfl).trans e4
      have hk := Lib.hid (fun w1 (h : Below ω.heap.size ω w1) => hK (.agg (arrK .u64 4 (wd m))) w1 rfl h)
      clear hK hu hc
      have hA := hHM.out.step hb
      have hr1 := hA.row
      have hr2 := hA.eq
      clear hA
      go_simp
      exact hk.out _ (Below.refl _ _)
    · refine calm_step_guard (g := 23) (b := true) (d := 89) rfl rfl (fun a w hc => hc 23 89 rfl rfl) fun a ω κ hb hu hc hK => ?_
      have h93 : a.tmps[93]?.getD undef = .agg (arrK .u64 4 (wd m)) := hc 27 93 rfl rfl
      have hk := Lib.hid (fun v w1 (hv : (SRel.n (m)).p v w1) (h : Below ω.heap.size ω w1) => hK v w1 hv h)
      clear hK hu hc
      go_simp
      go_at_call 19
      refine (ofNumC' m ω hm).mono ?_
      rintro e w1 ⟨u, rfl, hu1, hb1⟩
      exact hk.out _ _ hu1 hb1
    · refine calm_step_guard (g := 23) (b := true) (d := 89) rfl rfl (fun a w hc => hc 23 89 rfl rfl) fun a ω κ hb hu hc hK => ?_
      have h5 : a.tmps[5]?.getD undef = .pointer (some ⟨w.heap.size + 1 + 1, 0, none⟩) := (hu 5 rfl).trans e5
      have hk := Lib.hid (fun w1 (h : Below ω.heap.size ω w1) => hK (.agg (arrK .u64 4 (wd y))) w1 rfl h)
      clear hK hu hc
      have hA := hHB.out.step hb
      have hr1 := hA.row
      have hr2 := hA.eq
      clear hA
      go_simp
      exact hk.out _ (Below.refl _ _)
    · refine calm_step_guard (g := 23) (b := true) (d := 89) rfl rfl (fun a w hc => hc 23 89 rfl rfl) fun a ω κ hb hu hc hK => ?_
      have h95 : a.tmps[95]?.getD undef = .agg (arrK .u64 4 (wd y)) := hc 29 95 rfl rfl
      have hk := Lib.hid (fun v w1 (hv : (SRel.n (y)).p v w1) (h : Below ω.heap.size ω w1) => hK v w1 hv h)
      clear hK hu hc
      go_simp
      go_at_call 19
      refine (ofNumC' y ω hbb).mono ?_
      rintro e w1 ⟨u, rfl, hu1, hb1⟩
      exact hk.out _ _ hu1 hb1
    · refine calm_step_guard (g := 23) (b := true) (d := 89) rfl rfl (fun a w hc => hc 23 89 rfl rfl) fun a ω κ hb hu hc hK => ?_
      have h94 : (SRel.n (m)).p (a.tmps[94]?.getD undef) ω := hc 28 94 rfl rfl
      have h96 : (SRel.n (y)).p (a.tmps[96]?.getD undef) ω := hc 30 96 rfl rfl
      have hk := Lib.hid (fun v w1 (hv : (SRel.n ((Nat.gcd m y))).p v w1) (h : Below ω.heap.size ω w1) => hK v w1 hv h)
      clear hK hu hc
      go_simp
      go_at_call 57
      refine (commonN (k := 256) ω h94 h96 hm hbb (by omega)).mono ?_
      rintro e w1 ⟨u, rfl, hu1, hb1⟩
      exact hk.out _ _ hu1 hb1
    · refine calm_step_guard (g := 23) (b := true) (d := 89) rfl rfl (fun a w hc => hc 23 89 rfl rfl) fun a ω κ hb hu hc hK => ?_
      have h97 : (SRel.n ((Nat.gcd m y))).p (a.tmps[97]?.getD undef) ω := hc 31 97 rfl rfl
      have hk := Lib.hid (fun w1 (h : Below ω.heap.size ω w1) => hK (.agg (arrK .u64 4 (wd (Nat.gcd m y)))) w1 rfl h)
      clear hK hu hc
      go_simp
      go_at_call 25
      refine (toNumC' ω h97 hGb).mono ?_
      rintro e w1 ⟨rfl, hb1⟩
      exact hk.out _ hb1
    · refine calm_step_guard (g := 23) (b := true) (d := 89) rfl rfl (fun a w hc => hc 23 89 rfl rfl) fun a ω κ hb hu hc hK => ?_
      have h92 : a.tmps[92]?.getD undef = .agg (arrK .u64 4 (wd (Nat.gcd m y))) := hc 26 92 rfl rfl
      have h98 : a.tmps[98]?.getD undef = .agg (arrK .u64 4 (wd (Nat.gcd m y))) := hc 32 98 rfl rfl
      have hk := Lib.hid (fun w1 (h : Below ω.heap.size ω w1) => hK (.bool true) w1 rfl h)
      clear hK hu hc
      have hq := hE4.out ω (wd (Nat.gcd m y))
      go_simp
      exact hk.out _ (Below.refl _ _)
    · refine calm_step rfl fun a ω κ hb hu hc hK => ?_
      have h89 : a.tmps[89]?.getD undef = .bool true := hc 23 89 rfl rfl
      have h99 : a.tmps[99]?.getD undef = .bool true := hc 33 99 rfl rfl
      have hk := Lib.hid (fun w1 (h : Below ω.heap.size ω w1) => hK (.bool true) w1 rfl h)
      clear hK hu hc
      go_simp
      exact hk.out _ (Below.refl _ _)
    · refine calm_step rfl fun a ω κ hb hu hc hK => ?_
      have h100 : a.tmps[100]?.getD undef = .bool true := hc 34 100 rfl rfl
      have hk := Lib.hid (fun w1 (h : Below ω.heap.size ω w1) => hK (.bool true) w1 rfl h)
      clear hK hu hc
      go_simp
      exact hk.out _ (Below.refl _ _)
    · intro a w' hb hu hsz hdf hc
      have h6 : a.tmps[6]?.getD undef = .bool true := hc 35 6 rfl
      go_wp2
      exact ret_tmp rfl h6 (by rw [hdf, hdf5]) ⟨rfl, below_step hb hL5.out (Nat.le_refl _)⟩
theorem quotTells_no (x m y : Nat) (w : World) (hm : m < 2 ^ 256) (hb : y < 2 ^ 256) (h0 : m = 0) :
    Calls Try.prog 10 #[.agg (arrK .u64 8 (wd x)), .agg (arrK .u64 4 (wd m)), .agg (arrK .u64 4 (wd y))] w fun e w' => e = .returned (.bool true) ∧ Below w.heap.size w w' := by
  have hm0 := Lib.hid h0
  clear h0
  have hL0 : Below w.heap.size w (((w.alloc (Obj.cells (arrK .u64 8 (wd x)) 48)).alloc (Obj.cells (arrK .u64 4 (wd m)) 42)).alloc (Obj.cells (arrK .u64 4 (wd y)) 42)) := by go_grown
  have A0 : WideAt (((w.alloc (Obj.cells (arrK .u64 8 (wd x)) 48)).alloc (Obj.cells (arrK .u64 4 (wd m)) 42)).alloc (Obj.cells (arrK .u64 4 (wd y)) 42)) w.heap.size x := ((At.new _ rfl).old _).old _
  have M0 : NumAt (((w.alloc (Obj.cells (arrK .u64 8 (wd x)) 48)).alloc (Obj.cells (arrK .u64 4 (wd m)) 42)).alloc (Obj.cells (arrK .u64 4 (wd y)) 42)) (w.heap.size + 1) m := (At.new _ (by simp)).old _
  have B0 : NumAt (((w.alloc (Obj.cells (arrK .u64 8 (wd x)) 48)).alloc (Obj.cells (arrK .u64 4 (wd m)) 42)).alloc (Obj.cells (arrK .u64 4 (wd y)) 42)) (w.heap.size + 1 + 1) y := At.new _ (by simp)
  obtain ⟨Q, hQ⟩ : ∃ Q, Q = 0 := ⟨_, rfl⟩
  obtain ⟨R, hR⟩ : ∃ R, R = 0 := ⟨_, rfl⟩
  have hcD := Lib.hid (fun W => divMod0C x m Q R W hm0.out hQ hR)
  have hcM := Lib.hid (fun W => mod0C x m R W hm0.out hR)
  skip
  have hHQ := Lib.hid hQ
  have hHR := Lib.hid hR
  have hz8 := cells8
  have hz4 := cells4
  have hcq := arrK_cells .u64 8 (wd Q)
  have hcr := arrK_cells .u64 4 (wd R)
  have hRa := A0.row
  have hra := A0.eq
  have hRm := M0.row
  have hrm := M0.eq
  have hHB := Lib.hid B0
  clear hQ hR B0
  go_enter Try.func10, Try.ntmps10
  go_wp2_with fail
  generalize (((w.alloc (Obj.cells (arrK .u64 8 (wd x)) 48)).alloc (Obj.cells (arrK .u64 4 (wd m)) 42)).alloc (Obj.cells (arrK .u64 4 (wd y)) 42)) = W0 at *
  refine (hcD.out _).mono ?_
  rintro e W1 ⟨rfl, hb1⟩
  have A1 := A0.step hb1
  have M1 := M0.step hb1
  have B1 := hHB.out.step hb1
  have hL1 := below_step hb1 hL0 (Nat.le_refl _)
  clear A0 M0 hHB hb1 hL0 hRa hra hRm hrm hcD
  have A2 := (A1.old (Obj.cells (arrK .u64 8 (wd Q)) 48)).old (Obj.cells (arrK .u64 4 (wd R)) 42)
  have M2 := (M1.old (Obj.cells (arrK .u64 8 (wd Q)) 48)).old (Obj.cells (arrK .u64 4 (wd R)) 42)
  have B2 := Lib.hid ((B1.old (Obj.cells (arrK .u64 8 (wd Q)) 48)).old (Obj.cells (arrK .u64 4 (wd R)) 42))
  have Q2 : Hid (WideAt ((W1.alloc (Obj.cells (arrK .u64 8 (wd Q)) 48)).alloc (Obj.cells (arrK .u64 4 (wd R)) 42)) W1.heap.size Q) := Lib.hid ((At.new _ rfl).old _)
  have R2 : Hid (NumAt ((W1.alloc (Obj.cells (arrK .u64 8 (wd Q)) 48)).alloc (Obj.cells (arrK .u64 4 (wd R)) 42)) (W1.heap.size + 1) R) := Lib.hid (At.new _ (by simp))
  have hL2 := Lib.hid ((hL1.alloc hL1.size (Obj.cells (arrK .u64 8 (wd Q)) 48)).alloc (by have := hL1.size; simp; omega) (Obj.cells (arrK .u64 4 (wd R)) 42))
  have hRa := A2.row
  have hra := A2.eq
  have hRm := M2.row
  have hrm := M2.eq
  have hA2 := Lib.hid A2
  have hM2 := Lib.hid M2
  clear A1 M1 B1 hL1 A2 M2
  go_wp2_with fail
  generalize ((W1.alloc (Obj.cells (arrK .u64 8 (wd Q)) 48)).alloc (Obj.cells (arrK .u64 4 (wd R)) 42)) = X at *
  generalize W1.heap.size = g at *
  refine (hcM.out _).mono ?_
  rintro e W2 ⟨rfl, hb2⟩
  have hal := below_step (below_alloc W2 (Obj.cells (arrK .u64 4 (wd R)) 42)) hb2 (Nat.le_refl _)
  have A3 := hA2.out.step hal
  have M3 := hM2.out.step hal
  have B3 := B2.out.step hal
  have Q3 := Q2.out.step hal
  have R3 := R2.out.step hal
  have S3 : NumAt (W2.alloc (Obj.cells (arrK .u64 4 (wd R)) 42)) W2.heap.size R := At.new _ rfl
  have hL3 := Lib.hid (below_step hal hL2.out (Nat.le_refl _))
  have hRm := M3.row
  have hrm := M3.eq
  have hHA := Lib.hid A3
  have hHM := Lib.hid M3
  have hHB := Lib.hid B3
  have hHQ3 := Lib.hid Q3
  have hHR3 := Lib.hid R3
  have hHS := Lib.hid S3
  clear hA2 hM2 B2 Q2 R2 hb2 hal A3 M3 B3 Q3 R3 S3 hL2 hRa hra hcM
  have hne := fun W => eqlNum hm (show 0 < 2 ^ 256 by omega) W
  rw [decide_eq_true hm0.out, ← zeroNum] at hne
  have hgy := Lib.hid (show Nat.gcd m y = y by rw [hm0.out, Nat.gcd_zero_left])
  have hRem := Lib.hid (show R = m by rw [hm0.out]; exact hHR.out)
  clear hm0
  go_wp2
  clear hne
  generalize (W2.alloc (Obj.cells (arrK .u64 4 (wd R)) 42)) = W at *
  generalize W2.heap.size = g3 at *
  have hbb := hb
  clear hb
  have hE4 := Lib.hid (fun (W : World) (f : Nat → Nat) => eqlSame4 f W)
  have hE8 := Lib.hid (fun (W : World) (f : Nat → Nat) => eqlSame8 f W)
  clear hrm
  refine wp_region_calm (fun jx_ => match jx_ with | 0 => SRel.is (.agg (arrK .u64 8 (wd Q))) | 1 => SRel.is (.agg #[Value.int IntKind.u64 0, Value.int IntKind.u64 0, Value.int IntKind.u64 0, Value.int IntKind.u64 0, Value.int IntKind.u64 0, Value.int IntKind.u64 0, Value.int IntKind.u64 0, Value.int IntKind.u64 0]) | 2 => SRel.is (.bool true) | 3 => SRel.is (.bool true) | 4 => SRel.is (.agg (arrK .u64 4 (wd R))) | 5 => SRel.is (.agg (arrK .u64 4 (wd m))) | 6 => SRel.is (.bool true) | 7 => SRel.is (.bool true) | 8 => SRel.is (.bool true) | 9 => SRel.is (.int .i64 1) | 10 => SRel.is (.bool true) | 11 => SRel.is (.bool true) | 12 => SRel.is (.bool true) | 13 => SRel.is (.agg (arrK .u64 4 (wd R))) | 14 => SRel.is (.agg (arrK .u64 4 (wd m))) | 15 => SRel.is (.bool true) | 16 => SRel.is (.bool true) | 17 => SRel.is (.bool true) | 18 => SRel.is (.int .i64 1) | 19 => SRel.is (.bool true) | 20 => SRel.is (.bool true) | 21 => SRel.is (.bool true) | 22 => SRel.is (.agg (arrK .u64 4 (wd m))) | 23 => SRel.is (.agg (arrK .u64 4 (wd y))) | 24 => SRel.is (.agg (arrK .u64 4 (wd (Nat.gcd m y)))) | 25 => SRel.is (.agg (arrK .u64 4 (wd y))) | 26 => SRel.is (.bool true) | 27 => SRel.is (.bool true) | 28 => SRel.is (.bool true) | _ => SRel.any) (by kernel_rfl) (by kernel_rfl) (by kernel_rfl) (by kernel_rfl) ⟨?_, ?_, ?_, ?_, ?_, ?_, ?_, ?_, ?_, ?_, ?_, ?_, ?_, ?_, ?_, ?_, ?_, ?_, ?_, ?_, ?_, ?_, ?_, ?_, ?_, ?_, ?_, ?_, ?_, trivial⟩ ?_
  · refine calm_step rfl fun a ω κ hb hu hc hK => ?_
    have h7 : a.tmps[7]?.getD undef = .pointer (some ⟨g, 0, none⟩) := hu 7 rfl
    have hk := Lib.hid (fun w1 (h : Below ω.heap.size ω w1) => hK (.agg (arrK .u64 8 (wd Q))) w1 rfl h)
    clear hK hu hc
    have hA := hHQ3.out.step hb
    have hr1 := hA.row
    have hr2 := hA.eq
    clear hA
    go_simp
    exact hk.out _ (Below.refl _ _)
  · refine calm_step rfl fun a ω κ hb hu hc hK => ?_
    have hk := Lib.hid (fun w1 (h : Below ω.heap.size ω w1) => hK (.agg #[Value.int IntKind.u64 0, Value.int IntKind.u64 0, Value.int IntKind.u64 0, Value.int IntKind.u64 0, Value.int IntKind.u64 0, Value.int IntKind.u64 0, Value.int IntKind.u64 0, Value.int IntKind.u64 0]) w1 rfl h)
    clear hK hu hc
    go_simp
    exact hk.out _ (Below.refl _ _)
  · refine calm_step rfl fun a ω κ hb hu hc hK => ?_
    have h30 : a.tmps[30]?.getD undef = .agg (arrK .u64 8 (wd Q)) := hc 0 30 rfl rfl
    have h31 : a.tmps[31]?.getD undef = .agg #[Value.int IntKind.u64 0, Value.int IntKind.u64 0, Value.int IntKind.u64 0, Value.int IntKind.u64 0, Value.int IntKind.u64 0, Value.int IntKind.u64 0, Value.int IntKind.u64 0, Value.int IntKind.u64 0] := hc 1 31 rfl rfl
    have hk := Lib.hid (fun w1 (h : Below ω.heap.size ω w1) => hK (.bool true) w1 rfl h)
    clear hK hu hc
    have hq := eqlLit8 hHQ.out ω
    go_simp
    exact hk.out _ (Below.refl _ _)
  · refine calm_step rfl fun a ω κ hb hu hc hK => ?_
    have h32 : a.tmps[32]?.getD undef = .bool true := hc 2 32 rfl rfl
    have hk := Lib.hid (fun w1 (h : Below ω.heap.size ω w1) => hK (.bool true) w1 rfl h)
    clear hK hu hc
    go_simp
    exact hk.out _ (Below.refl _ _)
  · refine calm_step_guard (g := 3) (b := true) (d := 33) rfl rfl (fun a w hc => hc 3 33 rfl rfl) fun a ω κ hb hu hc hK => ?_
    have h8 : a.tmps[8]?.getD undef = .pointer (some ⟨g + 1, 0, none⟩) := hu 8 rfl
    have hk := Lib.hid (fun w1 (h : Below ω.heap.size ω w1) => hK (.agg (arrK .u64 4 (wd R))) w1 rfl h)
    clear hK hu hc
    have hA := hHR3.out.step hb
    have hr1 := hA.row
    have hr2 := hA.eq
    clear hA
    go_simp
    exact hk.out _ (Below.refl _ _)
  · refine calm_step_guard (g := 3) (b := true) (d := 33) rfl rfl (fun a w hc => hc 3 33 rfl rfl) fun a ω κ hb hu hc hK => ?_
    have h4 : a.tmps[4]?.getD undef = .pointer (some ⟨w.heap.size + 1, 0, none⟩) := hu 4 rfl
    have hk := Lib.hid (fun w1 (h : Below ω.heap.size ω w1) => hK (.agg (arrK .u64 4 (wd m))) w1 rfl h)
    clear hK hu hc
    have hA := hHM.out.step hb
    have hr1 := hA.row
    have hr2 := hA.eq
    clear hA
    go_simp
    exact hk.out _ (Below.refl _ _)
  · refine calm_step_guard (g := 3) (b := true) (d := 33) rfl rfl (fun a w hc => hc 3 33 rfl rfl) fun a ω κ hb hu hc hK => ?_
    have h34 : a.tmps[34]?.getD undef = .agg (arrK .u64 4 (wd R)) := hc 4 34 rfl rfl
    have h35 : a.tmps[35]?.getD undef = .agg (arrK .u64 4 (wd m)) := hc 5 35 rfl rfl
    have hk := Lib.hid (fun w1 (h : Below ω.heap.size ω w1) => hK (.bool true) w1 rfl h)
    clear hK hu hc
    have hq := eqlOf4 hRem.out ω
    go_simp
    exact hk.out _ (Below.refl _ _)
  · refine calm_step rfl fun a ω κ hb hu hc hK => ?_
    have h33 : a.tmps[33]?.getD undef = .bool true := hc 3 33 rfl rfl
    have h36 : a.tmps[36]?.getD undef = .bool true := hc 6 36 rfl rfl
    have hk := Lib.hid (fun w1 (h : Below ω.heap.size ω w1) => hK (.bool true) w1 rfl h)
    clear hK hu hc
    go_simp
    exact hk.out _ (Below.refl _ _)
  · refine calm_step rfl fun a ω κ hb hu hc hK => ?_
    have h37 : a.tmps[37]?.getD undef = .bool true := hc 7 37 rfl rfl
    have hk := Lib.hid (fun w1 (h : Below ω.heap.size ω w1) => hK (.bool true) w1 rfl h)
    clear hK hu hc
    go_simp
    exact hk.out _ (Below.refl _ _)
  · refine calm_step_guard (g := 8) (b := true) (d := 38) rfl rfl (fun a w hc => hc 8 38 rfl rfl) fun a ω κ hb hu hc hK => ?_
    have h9 : a.tmps[9]?.getD undef = .int .i64 1 := hu 9 rfl
    have hk := Lib.hid (fun w1 (h : Below ω.heap.size ω w1) => hK (.int .i64 1) w1 rfl h)
    clear hK hu hc
    go_simp
    exact hk.out _ (Below.refl _ _)
  · refine calm_step_guard (g := 8) (b := true) (d := 38) rfl rfl (fun a w hc => hc 8 38 rfl rfl) fun a ω κ hb hu hc hK => ?_
    have h39 : a.tmps[39]?.getD undef = .int .i64 1 := hc 9 39 rfl rfl
    have hk := Lib.hid (fun w1 (h : Below ω.heap.size ω w1) => hK (.bool true) w1 rfl h)
    clear hK hu hc
    go_simp
    exact hk.out _ (Below.refl _ _)
  · refine calm_step rfl fun a ω κ hb hu hc hK => ?_
    have h38 : a.tmps[38]?.getD undef = .bool true := hc 8 38 rfl rfl
    have h40 : a.tmps[40]?.getD undef = .bool true := hc 10 40 rfl rfl
    have hk := Lib.hid (fun w1 (h : Below ω.heap.size ω w1) => hK (.bool true) w1 rfl h)
    clear hK hu hc
    go_simp
    exact hk.out _ (Below.refl _ _)
  · refine calm_step rfl fun a ω κ hb hu hc hK => ?_
    have h41 : a.tmps[41]?.getD undef = .bool true := hc 11 41 rfl rfl
    have hk := Lib.hid (fun w1 (h : Below ω.heap.size ω w1) => hK (.bool true) w1 rfl h)
    clear hK hu hc
    go_simp
    exact hk.out _ (Below.refl _ _)
  · refine calm_step_guard (g := 12) (b := true) (d := 42) rfl rfl (fun a w hc => hc 12 42 rfl rfl) fun a ω κ hb hu hc hK => ?_
    have h10 : a.tmps[10]?.getD undef = .pointer (some ⟨g3, 0, none⟩) := hu 10 rfl
    have hk := Lib.hid (fun w1 (h : Below ω.heap.size ω w1) => hK (.agg (arrK .u64 4 (wd R))) w1 rfl h)
    clear hK hu hc
    have hA := hHS.out.step hb
    have hr1 := hA.row
    have hr2 := hA.eq
    clear hA
    go_simp
    exact hk.out _ (Below.refl _ _)
  · refine calm_step_guard (g := 12) (b := true) (d := 42) rfl rfl (fun a w hc => hc 12 42 rfl rfl) fun a ω κ hb hu hc hK => ?_
    have h4 : a.tmps[4]?.getD undef = .pointer (some ⟨w.heap.size + 1, 0, none⟩) := hu 4 rfl
    have hk := Lib.hid (fun w1 (h : Below ω.heap.size ω w1) => hK (.agg (arrK .u64 4 (wd m))) w1 rfl h)
    clear hK hu hc
    have hA := hHM.out.step hb
    have hr1 := hA.row
    have hr2 := hA.eq
    clear hA
    go_simp
    exact hk.out _ (Below.refl _ _)
  · refine calm_step_guard (g := 12) (b := true) (d := 42) rfl rfl (fun a w hc => hc 12 42 rfl rfl) fun a ω κ hb hu hc hK => ?_
    have h43 : a.tmps[43]?.getD undef = .agg (arrK .u64 4 (wd R)) := hc 13 43 rfl rfl
    have h44 : a.tmps[44]?.getD undef = .agg (arrK .u64 4 (wd m)) := hc 14 44 rfl rfl
    have hk := Lib.hid (fun w1 (h : Below ω.heap.size ω w1) => hK (.bool true) w1 rfl h)
    clear hK hu hc
    have hq := eqlOf4 hRem.out ω
    go_simp
    exact hk.out _ (Below.refl _ _)
  · refine calm_step rfl fun a ω κ hb hu hc hK => ?_
    have h42 : a.tmps[42]?.getD undef = .bool true := hc 12 42 rfl rfl
    have h45 : a.tmps[45]?.getD undef = .bool true := hc 15 45 rfl rfl
    have hk := Lib.hid (fun w1 (h : Below ω.heap.size ω w1) => hK (.bool true) w1 rfl h)
    clear hK hu hc
    go_simp
    exact hk.out _ (Below.refl _ _)
  · refine calm_step rfl fun a ω κ hb hu hc hK => ?_
    have h46 : a.tmps[46]?.getD undef = .bool true := hc 16 46 rfl rfl
    have hk := Lib.hid (fun w1 (h : Below ω.heap.size ω w1) => hK (.bool true) w1 rfl h)
    clear hK hu hc
    go_simp
    exact hk.out _ (Below.refl _ _)
  · refine calm_step_guard (g := 17) (b := true) (d := 47) rfl rfl (fun a w hc => hc 17 47 rfl rfl) fun a ω κ hb hu hc hK => ?_
    have h11 : a.tmps[11]?.getD undef = .int .i64 1 := hu 11 rfl
    have hk := Lib.hid (fun w1 (h : Below ω.heap.size ω w1) => hK (.int .i64 1) w1 rfl h)
    clear hK hu hc
    go_simp
    exact hk.out _ (Below.refl _ _)
  · refine calm_step_guard (g := 17) (b := true) (d := 47) rfl rfl (fun a w hc => hc 17 47 rfl rfl) fun a ω κ hb hu hc hK => ?_
    have h48 : a.tmps[48]?.getD undef = .int .i64 1 := hc 18 48 rfl rfl
    have hk := Lib.hid (fun w1 (h : Below ω.heap.size ω w1) => hK (.bool true) w1 rfl h)
    clear hK hu hc
    go_simp
    exact hk.out _ (Below.refl _ _)
  · refine calm_step rfl fun a ω κ hb hu hc hK => ?_
    have h47 : a.tmps[47]?.getD undef = .bool true := hc 17 47 rfl rfl
    have h49 : a.tmps[49]?.getD undef = .bool true := hc 19 49 rfl rfl
    have hk := Lib.hid (fun w1 (h : Below ω.heap.size ω w1) => hK (.bool true) w1 rfl h)
    clear hK hu hc
    go_simp
    exact hk.out _ (Below.refl _ _)
  · refine calm_step rfl fun a ω κ hb hu hc hK => ?_
    have h50 : a.tmps[50]?.getD undef = .bool true := hc 20 50 rfl rfl
    have hk := Lib.hid (fun w1 (h : Below ω.heap.size ω w1) => hK (.bool true) w1 rfl h)
    clear hK hu hc
    go_simp
    exact hk.out _ (Below.refl _ _)
  · refine calm_step_guard (g := 21) (b := true) (d := 51) rfl rfl (fun a w hc => hc 21 51 rfl rfl) fun a ω κ hb hu hc hK => ?_
    have h4 : a.tmps[4]?.getD undef = .pointer (some ⟨w.heap.size + 1, 0, none⟩) := hu 4 rfl
    have hk := Lib.hid (fun w1 (h : Below ω.heap.size ω w1) => hK (.agg (arrK .u64 4 (wd m))) w1 rfl h)
    clear hK hu hc
    have hA := hHM.out.step hb
    have hr1 := hA.row
    have hr2 := hA.eq
    clear hA
    go_simp
    exact hk.out _ (Below.refl _ _)
  · refine calm_step_guard (g := 21) (b := true) (d := 51) rfl rfl (fun a w hc => hc 21 51 rfl rfl) fun a ω κ hb hu hc hK => ?_
    have h5 : a.tmps[5]?.getD undef = .pointer (some ⟨w.heap.size + 1 + 1, 0, none⟩) := hu 5 rfl
    have hk := Lib.hid (fun w1 (h : Below ω.heap.size ω w1) => hK (.agg (arrK .u64 4 (wd y))) w1 rfl h)
    clear hK hu hc
    have hA := hHB.out.step hb
    have hr1 := hA.row
    have hr2 := hA.eq
    clear hA
    go_simp
    exact hk.out _ (Below.refl _ _)
  · refine calm_step_guard (g := 21) (b := true) (d := 51) rfl rfl (fun a w hc => hc 21 51 rfl rfl) fun a ω κ hb hu hc hK => ?_
    have h52 : a.tmps[52]?.getD undef = .agg (arrK .u64 4 (wd m)) := hc 22 52 rfl rfl
    have h53 : a.tmps[53]?.getD undef = .agg (arrK .u64 4 (wd y)) := hc 23 53 rfl rfl
    have hk := Lib.hid (fun w1 (h : Below ω.heap.size ω w1) => hK (.agg (arrK .u64 4 (wd (Nat.gcd m y)))) w1 rfl h)
    clear hK hu hc
    go_simp
    go_at_call 54
    refine (gcdC m y ω hm hbb).mono ?_
    rintro e w1 ⟨rfl, hb1⟩
    exact hk.out _ hb1
  · refine calm_step_guard (g := 21) (b := true) (d := 51) rfl rfl (fun a w hc => hc 21 51 rfl rfl) fun a ω κ hb hu hc hK => ?_
    have h5 : a.tmps[5]?.getD undef = .pointer (some ⟨w.heap.size + 1 + 1, 0, none⟩) := hu 5 rfl
    have hk := Lib.hid (fun w1 (h : Below ω.heap.size ω w1) => hK (.agg (arrK .u64 4 (wd y))) w1 rfl h)
    clear hK hu hc
    have hA := hHB.out.step hb
    have hr1 := hA.row
    have hr2 := hA.eq
    clear hA
    go_simp
    exact hk.out _ (Below.refl _ _)
  · refine calm_step_guard (g := 21) (b := true) (d := 51) rfl rfl (fun a w hc => hc 21 51 rfl rfl) fun a ω κ hb hu hc hK => ?_
    have h54 : a.tmps[54]?.getD undef = .agg (arrK .u64 4 (wd (Nat.gcd m y))) := hc 24 54 rfl rfl
    have h55 : a.tmps[55]?.getD undef = .agg (arrK .u64 4 (wd y)) := hc 25 55 rfl rfl
    have hk := Lib.hid (fun w1 (h : Below ω.heap.size ω w1) => hK (.bool true) w1 rfl h)
    clear hK hu hc
    have hq := eqlOf4 hgy.out ω
    go_simp
    exact hk.out _ (Below.refl _ _)
  · refine calm_step rfl fun a ω κ hb hu hc hK => ?_
    have h51 : a.tmps[51]?.getD undef = .bool true := hc 21 51 rfl rfl
    have h56 : a.tmps[56]?.getD undef = .bool true := hc 26 56 rfl rfl
    have hk := Lib.hid (fun w1 (h : Below ω.heap.size ω w1) => hK (.bool true) w1 rfl h)
    clear hK hu hc
    go_simp
    exact hk.out _ (Below.refl _ _)
  · refine calm_step rfl fun a ω κ hb hu hc hK => ?_
    have h57 : a.tmps[57]?.getD undef = .bool true := hc 27 57 rfl rfl
    have hk := Lib.hid (fun w1 (h : Below ω.heap.size ω w1) => hK (.bool true) w1 rfl h)
    clear hK hu hc
    go_simp
    exact hk.out _ (Below.refl _ _)
  · intro a w' hb hu hsz hdf hc
    have h6 : a.tmps[6]?.getD undef = .bool true := hc 28 6 rfl
    go_wp2
    exact ret_tmp rfl h6 hdf ⟨rfl, below_step hb hL3.out (Nat.le_refl _)⟩
theorem quotTells (x m y : Nat) (w : World) (ha : x < 2 ^ (64 * 8)) (hm : m < 2 ^ 256) (hb : y < 2 ^ 256) :
    Calls Try.prog 10 #[wideV x, numV m, numV y] w fun e w' => e = .returned (.bool true) ∧ Below w.heap.size w w' := by
  by_cases h : m = 0
  · exact quotTells_no x m y w hm hb h
  · exact quotTells_yes x m y w ha hm hb h
end Go.Proofs.Ytjfiokicnacbfaa
