/- Several texts one behind the other: Fe4 Fe5 Fd2 Fd3 Fd4 Fd5 CvB Cv1 Cv2 Cv3 Cv4 RpB Rp1 CvP Rp2 CvE Sh2 Ed Ed2 Ed3 Lg Sh4 Sh3 Sc2 Tail2 Nb Sh6 Low Sh7. -/
import Derived.Test.YtdlmamnnamlleaaFe3
import Derived.Test.YtdlmamnnamlleaaNum5
import Derived.Test.YtdlmamnnamlleaaTail
import Derived.Test.YtdlmamnnamlleaaBld
import Derived.Test.YtdlmamnnamlleaaFd1
import Derived.Test.YtdlmamnnamlleaaFresh
import Derived.Test.YtdlmamnnamlleaaOneW
import Derived.Test.YtdlmamnnamlleaaLimb4
import Derived.Test.YtdlmamnnamlleaaLimb5
import Derived.Test.YtdlmamnnamlleaaEl
import Derived.Test.YtdlmamnnamlleaaPart
import Derived.Test.YtdlmamnnamlleaaCalmS
import Derived.Test.YtdlmamnnamlleaaRet2
import Derived.Test.YtdlmamnnamlleaaSh1
import Derived.Test.YtdlmamnnamlleaaSc1
import Derived.Test.YtdlmamnnamlleaaPrm
import Derived.Test.YtdlmamnnamlleaaAt
import Derived.Deep.DeepCutAuto
import Derived.Test.YtdlmamnnamlleaaNumN
import Derived.Test.YtdlmamnnamlleaaLimb
import Derived.Test.YtdlmamnnamlleaaNum4
namespace Go.Proofs.Ytdlmamnnamlleaa
open Go.ChangeShapes Go.WideShapes Go.ChangeAt Go.RowKit
set_option maxHeartbeats 2000000
set_option maxRecDepth 100000
attribute [local go_sem ↓]     load_num store_num execl_num execs_num
attribute [local go_sem] isHead_mk blkOf_mk isAgg_mk cellsV_mk row_drew rowAt_drew row_new_cells row_old rowAt_new rowAt_old setRow_new zeroFe zeroNum
theorem dgt_zero (i : Nat) : dgt 0 i = 0 := by unfold dgt; rw [Nat.zero_div]
theorem fe1 {n : Nat} (hn : n < 65536) : #[Value.int IntKind.i64 (n : Int), Value.int IntKind.i64 0, Value.int IntKind.i64 0, Value.int IntKind.i64 0, Value.int IntKind.i64 0, Value.int IntKind.i64 0, Value.int IntKind.i64 0, Value.int IntKind.i64 0, Value.int IntKind.i64 0, Value.int IntKind.i64 0, Value.int IntKind.i64 0, Value.int IntKind.i64 0, Value.int IntKind.i64 0, Value.int IntKind.i64 0, Value.int IntKind.i64 0, Value.int IntKind.i64 0] = arrK .i64 16 (dgt n) := by
  have h : #[Value.int IntKind.i64 (n : Int), Value.int IntKind.i64 0, Value.int IntKind.i64 0, Value.int IntKind.i64 0, Value.int IntKind.i64 0, Value.int IntKind.i64 0, Value.int IntKind.i64 0, Value.int IntKind.i64 0, Value.int IntKind.i64 0, Value.int IntKind.i64 0, Value.int IntKind.i64 0, Value.int IntKind.i64 0, Value.int IntKind.i64 0, Value.int IntKind.i64 0, Value.int IntKind.i64 0, Value.int IntKind.i64 0] = arrK .i64 16 fun i => if i = 0 then n else 0 := by kernel_rfl
  rw [h]
  refine arrK_congr fun i hi => ?_
  unfold dgt
  by_cases e : i = 0
  · subst e; rw [if_pos rfl]; omega
  · rw [if_neg e, Nat.div_eq_of_lt]
    obtain ⟨j, rfl⟩ : ∃ j, i = j + 1 := ⟨i - 1, by omega⟩
    rw [Nat.pow_succ]
    have : 0 < 65536 ^ j := Nat.pow_pos (by omega)
    exact Nat.lt_of_lt_of_le hn (Nat.le_mul_of_pos_left _ this)
theorem digN {u : Value} {m : Nat} (i : Nat) (w : World) (hu : IsV w u m) : Calls Try.prog 109 #[u, .int .i64 (i : Int)] w fun e w' => e = .returned (.int .i64 (dgt m i : Nat)) ∧ w = w' := by
  obtain ⟨A, l, c, rfl, hD, rfl, hl⟩ := hu
  refine (ref_digit A l c i w hD).mono ?_
  rintro e w' ⟨rfl, rfl⟩
  rw [digZ_nat, Dv.at_ (Dv.mk' hD.sm)]
  exact ⟨rfl, rfl⟩
end Go.Proofs.Ytdlmamnnamlleaa
namespace Go.Proofs.Ytdlmamnnamlleaa
open Go.ChangeShapes Go.WideShapes Go.ChangeAt Go.RowKit
set_option maxHeartbeats 2000000
set_option maxRecDepth 100000
attribute [local go_sem ↓]     load_num store_num execl_num execs_num
attribute [local go_sem] isHead_mk blkOf_mk isAgg_mk cellsV_mk row_drew rowAt_drew row_new_cells row_old rowAt_new rowAt_old setRow_new zeroFe zeroNum
theorem val_range (f : Nat → Nat) (k : Nat) : val ((List.range k).map f) = dval f k := by
  induction k with
  | zero => rfl
  | succ k ih => rw [List.range_succ, List.map_append, List.map_cons, List.map_nil, val_snoc, ih, List.length_map, List.length_range]; rfl
theorem IsV.fe {W : World} {g n : Nat} (h : At W g .i64 16 (dgt n)) (hn : n < 2 ^ 256) : IsV W (.slice (some ⟨g, 0, none⟩) 16 16) n := by
  have hl : ((List.range 16).map (dgt n)).length = 16 := by simp
  refine ⟨some ⟨g, 0, none⟩, (List.range 16).map (dgt n), 16, by rw [hl], ⟨fun j u hu => ?_, fun d hd => ?_, by omega, by omega⟩, ?_, by omega⟩
  · refine ⟨⟨g, 0, none⟩, rfl, h.lt, ?_⟩
    have hj : j < 16 := by
      rcases Nat.lt_or_ge j 16 with h1 | h1
      · exact h1
      · rw [List.getElem?_eq_none (by simp [digV]; omega)] at hu; cases hu
    have h1 := h.cell hj
    have h2 : (⟨g, 0, none⟩ : Addr).add j = ⟨g, j, none⟩ := by
      by_cases e : j = 0
      · subst e; simp [Addr.add]
      · simp [Addr.add, e]
    rw [h2, h1, ← hu]
    simp [digV, List.getElem?_range hj]
  · obtain ⟨i, -, rfl⟩ := List.mem_map.1 hd
    exact dgt_lt _ _
  · rw [val_range, dval_dgt, p16, Nat.mod_eq_of_lt hn]
theorem P_mul_big : 65536 * fP < big := mul_big (m := 17) (n := 256) (by omega) P_lt (by omega)
theorem P_big : fP < big := lt_big P_lt (by omega)
/-- What To holds behind s bits. -/
def toS (a n s : Nat) : Nat := a ^ (n % 2 ^ s) % fP
theorem toS_start (a n : Nat) : toS a n 0 = 1 := by
  unfold toS
  rw [Nat.pow_zero, Nat.mod_one, Nat.pow_zero]
  decide +kernel
theorem toS_end {a n : Nat} (hn : n < 2 ^ 256) : toS a n 256 = a ^ n % fP := by unfold toS; rw [Nat.mod_eq_of_lt hn]
theorem toS_lt (a n s : Nat) : toS a n s < 2 ^ 256 := Nat.lt_trans lt_P P_lt
theorem toS_zero {a n s : Nat} (h : n / 2 ^ s % 2 = 0) : toS a n (s + 1) = toS a n s := by
  unfold toS
  rw [Nat.pow_succ, Nat.mod_mul, h, Nat.mul_zero, Nat.add_zero]
theorem toS_one {a n s v : Nat} (h : n / 2 ^ s % 2 = 1) (hv : v % fP = a ^ 2 ^ s % fP) : toS a n s * v % fP = toS a n (s + 1) := by
  unfold toS
  rw [Nat.pow_succ, Nat.mod_mul, h, Nat.mul_one, Nat.mul_mod, hv, ← Nat.mul_mod, Nat.mod_mul_mod, ← Nat.pow_add]
theorem sq_step {a s v : Nat} (hv : v % fP = a ^ 2 ^ s % fP) : v * v % fP % fP = a ^ 2 ^ (s + 1) % fP := by
  rw [Nat.mod_mod, Nat.mul_mod, hv, ← Nat.mul_mod, ← Nat.pow_add, Nat.pow_succ, Nat.mul_two]
def SRel.fN (m : Nat) : SRel := ⟨fun v w => IsN w v m, fun _ _ _ hb h => h.step hb⟩
def SRel.fV (m : Nat) : SRel := ⟨fun v w => IsV w v m, fun _ _ _ hb h => h.step hb⟩
end Go.Proofs.Ytdlmamnnamlleaa
namespace Go.Proofs.Ytdlmamnnamlleaa
open Go.ChangeShapes Go.WideShapes Go.ChangeAt Go.RowKit
set_option maxHeartbeats 2000000
set_option maxRecDepth 100000
attribute [local go_sem ↓] load_num store_num execl_num execs_num
attribute [local go_sem] isHead_mk blkOf_mk isAgg_mk cellsV_mk row_drew rowAt_drew row_new_cells row_old rowAt_new rowAt_old setRow_new zeroNum
def lowI : Nat → Nat → Nat
  | 0, c => c
  | k + 1, c => lowI k (lowA c)
theorem sub_at {c : Nat} (h : c < 2 ^ 256) (h2 : lessN c fP = 0) : subN c fP = lowA c ∧ lowA c < 2 ^ 256 := by
  unfold lessN at h2
  unfold subN lowA
  have h3 := P_lt
  generalize (2 : Nat) ^ 256 = Q at *
  generalize fP = P at *
  by_cases h4 : c < P
  · rw [if_pos h4] at h2; cases h2
  · rw [if_pos (by omega), show c + Q - P = Q + (c - P) by omega, Nat.add_mod_left, Nat.mod_eq_of_lt (by omega)]
    exact ⟨rfl, by omega⟩
theorem sub_no {c : Nat} (h2 : lessN c fP ≠ 0) : lowA c = c := by
  unfold lessN at h2
  unfold lowA
  by_cases h4 : c < fP
  · rw [if_neg (by omega)]
  · rw [if_neg h4] at h2; exact absurd rfl h2
end Go.Proofs.Ytdlmamnnamlleaa
namespace Go.Proofs.Ytdlmamnnamlleaa
open Go.ChangeShapes Go.WideShapes Go.ChangeAt Go.RowKit
set_option maxHeartbeats 2000000
set_option maxRecDepth 100000
attribute [local go_sem ↓] load_num store_num execl_num execs_num
attribute [local go_sem] isHead_mk blkOf_mk isAgg_mk cellsV_mk row_drew rowAt_drew row_new_cells row_old rowAt_new rowAt_old setRow_new zeroNum
theorem sub_facts (x y : Nat) (hx : x < fP) (hy : y < fP) : (x < y → addN (subN x y) fP = (x + (fP - y)) % fP) ∧ (¬ x < y → subN x y = (x + (fP - y)) % fP) := by
  have h3 := P_lt
  unfold addN subN
  generalize (2 : Nat) ^ 256 = Q at *
  generalize fP = P at *
  constructor
  · intro h
    rw [Nat.mod_eq_of_lt (a := x + (P - y)) (by omega), Nat.mod_eq_of_lt (a := x + Q - y) (by omega), show x + Q - y + P = Q + (x + (P - y)) by omega, Nat.add_mod_left, Nat.mod_eq_of_lt (by omega)]
  · intro h
    rw [show x + (P - y) = P + (x - y) by omega, Nat.add_mod_left, Nat.mod_eq_of_lt (a := x - y) (by omega), show x + Q - y = Q + (x - y) by omega, Nat.add_mod_left, Nat.mod_eq_of_lt (by omega)]
/-- The difference. -/
def difP (a b : Nat) : Nat := (a % fP + (fP - b % fP)) % fP
end Go.Proofs.Ytdlmamnnamlleaa
namespace Go.Proofs.Ytdlmamnnamlleaa
/-- The carry ahead of word k of the folded product; word k. -/
def mcar (f : Nat → Nat) : Nat → Nat
  | 0 => 0
  | k + 1 => (f (k + 4) * 38 + f k + mcar f k) / 18446744073709551616
def mout (f : Nat → Nat) (k : Nat) : Nat := (f (k + 4) * 38 + f k + mcar f k) % 18446744073709551616
theorem mcar_le {f : Nat → Nat} (hf : ∀ i, f i < 18446744073709551616) (k : Nat) : mcar f k ≤ 38 := by
  induction k with
  | zero => simp [mcar]
  | succ k ih => have h1 := hf k; have h2 := hf (k + 4); unfold mcar; omega
theorem mout_lt (f : Nat → Nat) (k : Nat) : mout f k < 18446744073709551616 := Nat.mod_lt _ (by omega)
theorem mout_wval (f : Nat → Nat) (n : Nat) : wval (mout f) n + 2 ^ (64 * n) * mcar f n = wval f n + 38 * wval (fun j => f (j + 4)) n := by
  induction n with
  | zero => simp [wval, mcar]
  | succ n ih =>
    have h5 : mout f n + 18446744073709551616 * mcar f (n + 1) = f (n + 4) * 38 + f n + mcar f n := by unfold mout; rw [show mcar f (n + 1) = (f (n + 4) * 38 + f n + mcar f n) / 18446744073709551616 from rfl]; omega
    simp only [wval]
    rw [show 64 * (n + 1) = 64 * n + 64 by omega, Nat.pow_add]
    generalize 2 ^ (64 * n) = P at *
    have h6 : P * (mout f n + 18446744073709551616 * mcar f (n + 1)) = P * (f (n + 4) * 38 + f n + mcar f n) := by rw [h5]
    rw [Nat.mul_add, Nat.mul_add, Nat.mul_add, ← Nat.mul_assoc P _ 38, Nat.mul_comm _ 38] at h6
    rw [Nat.mul_assoc, show (2 : Nat) ^ 64 = 18446744073709551616 from rfl, Nat.mul_add]
    omega
/-- The product, folded once: what is left, and what runs over. -/
theorem mul_fold {a b : Nat} (ha : a < 2 ^ 256) (hb : b < 2 ^ 256) (V C : Nat) (hV : wval (mout (wd (a * b))) 4 = V) (hC : mcar (wd (a * b)) 4 = C) : V < 2 ^ 256 ∧ C ≤ 38 ∧ (V + 2 ^ 256 * C) % fP = a * b % fP := by
  have h := mout_wval (wd (a * b)) 4
  have h2 : wval (fun j => wd (a * b) (j + 4)) 4 = a * b / 2 ^ 256 := by
    have e : (fun j => wd (a * b) (j + 4)) = fun j => wd (a * b / 2 ^ 256) j := funext fun j => by rw [Nat.add_comm, wd_div]
    rw [e, show (fun j => wd (a * b / 2 ^ 256) j) = wd (a * b / 2 ^ 256) from rfl, wval_wd, Nat.mod_eq_of_lt]
    rw [show 64 * 4 = 256 from rfl]
    have h3 : a * b < 2 ^ 256 * 2 ^ 256 := Nat.mul_lt_mul'' ha hb
    exact Nat.div_lt_of_lt_mul h3
  rw [h2, wval_wd, hV, hC, show 64 * 4 = 256 from rfl] at h
  refine ⟨hV ▸ wval_lt (k := 4) fun i _ => mout_lt _ _, hC ▸ mcar_le (wd_lt _) 4, ?_⟩
  rw [h, ← fold_P, Nat.mod_add_div]
theorem fold_add {V C : Nat} (hV : V < 2 ^ 256) (hC : C ≤ 38) : foldA V C = (if overN V (38 * C) = 1 then addN (addN V (38 * C)) 38 else addN V (38 * C)) := by
  unfold foldA overN addN
  have h3 : 10000 < 2 ^ 256 := by decide +kernel
  generalize (2 : Nat) ^ 256 = Q at *
  by_cases h : V + 38 * C < Q
  · rw [if_neg (by omega), if_pos h, if_neg (by omega), Nat.mod_eq_of_lt h]
  · rw [if_pos (by omega), if_neg h, if_pos rfl, show (V + 38 * C) % Q = V + 38 * C - Q by rw [Nat.mod_eq_sub_mod (by omega), Nat.mod_eq_of_lt (by omega)], Nat.mod_eq_of_lt (a := V + 38 * C - Q + 38) (by omega)]
theorem num1 {x : Nat} (hx : x < 18446744073709551616) : #[Value.int IntKind.u64 (x : Int), Value.int IntKind.u64 0, Value.int IntKind.u64 0, Value.int IntKind.u64 0] = arrK .u64 4 (wd x) := by
  refine Eq.trans ?_ (arrK4 .u64 (wd x))
  rw [wd_ge (n := x) (i := 1) (by omega), wd_ge (n := x) (i := 2) (by omega), wd_ge (n := x) (i := 3) (by omega), show wd x 0 = x by unfold wd; omega]
  rfl
open Go.ChangeShapes Go.WideShapes Go.ChangeAt Go.RowKit
set_option maxHeartbeats 2000000
set_option maxRecDepth 100000
attribute [local go_sem ↓] load_num store_num execl_num execs_num load_wide store_wide execl_wide execs_wide
attribute [local go_sem] isHead_mk blkOf_mk isAgg_mk cellsV_mk row_drew rowAt_drew row_new_cells row_old rowAt_new rowAt_old setRow_new zeroNum zeroWide
end Go.Proofs.Ytdlmamnnamlleaa
namespace Go.Proofs.Ytdlmamnnamlleaa
open Go.ChangeShapes Go.WideShapes Go.ChangeAt Go.RowKit
set_option maxHeartbeats 2000000
set_option maxRecDepth 100000
attribute [local go_sem ↓] load_num store_num execl_num execs_num
attribute [local go_sem] isHead_mk blkOf_mk isAgg_mk cellsV_mk row_drew rowAt_drew row_new_cells row_old rowAt_new rowAt_old setRow_new zeroNum
/-- What pow holds while s bits are still to come. -/
def powS (a n s : Nat) : Nat := a ^ (n / 2 ^ s) % fP
theorem powS_start {a n s : Nat} (h : n < 2 ^ s) : powS a n s = 1 := by
  unfold powS
  rw [Nat.div_eq_of_lt h, Nat.pow_zero]
  decide +kernel
theorem powS_end (a n : Nat) : powS a n 0 = a ^ n % fP := by unfold powS; rw [Nat.pow_zero, Nat.div_one]
theorem powS_lt (a n s : Nat) : powS a n s < 2 ^ 256 := Nat.lt_trans lt_P P_lt
theorem powS_zero {a n s : Nat} (h : abit n s = 0) : powS a n (s + 1) * powS a n (s + 1) % fP = powS a n s := by
  unfold powS
  unfold abit at h
  rw [← Nat.mul_mod, ← Nat.pow_add]
  have e : n / 2 ^ (s + 1) + n / 2 ^ (s + 1) = n / 2 ^ s := by
    rw [Nat.pow_succ, ← Nat.div_div_eq_div_mul]; omega
  rw [e]
theorem powS_one {a n s : Nat} (h : abit n s = 1) : (powS a n (s + 1) * powS a n (s + 1) % fP) * a % fP = powS a n s := by
  unfold powS
  unfold abit at h
  rw [← Nat.mul_mod, ← Nat.pow_add, Nat.mod_mul_mod, ← Nat.pow_succ, Nat.succ_eq_add_one]
  have e : n / 2 ^ (s + 1) + n / 2 ^ (s + 1) + 1 = n / 2 ^ s := by
    rw [Nat.pow_succ, ← Nat.div_div_eq_div_mul]; omega
  rw [e]
theorem len_le {n r : Nat} (hn : n < 2 ^ 256) (h : IsLen n r) : r ≤ 256 := by
  rcases h.2 with h | h
  · omega
  · have := Nat.lt_of_le_of_lt h hn
    have := (Nat.pow_lt_pow_iff_right (by omega : 1 < 2)).1 this
    omega
theorem abit_or (n i : Nat) : abit n i = 0 ∨ abit n i = 1 := by unfold abit; omega
theorem two_less : subN fP 2 = fP - 2 := by
  have h1 := P_lt
  have h2 := fP_pos
  unfold subN
  generalize (2 : Nat) ^ 256 = Q at *
  generalize fP = P at *
  rw [show P + Q - 2 = P - 2 + Q by omega, Nat.add_mod_right, Nat.mod_eq_of_lt (by omega)]
end Go.Proofs.Ytdlmamnnamlleaa
namespace Go.Proofs.Ytdlmamnnamlleaa
open Go.ChangeShapes Go.WideShapes Go.ChangeAt Go.RowKit
set_option maxHeartbeats 2000000
set_option maxRecDepth 100000
theorem load_fld {w : World} {dst : Option Tmp} {x : Operand} {tt : TypeId} {pos : String} {af : Array Edge} {gd : Option (Nat × Bool)} {a : Act} {K : Act → World → Prop} {Q : Exit → Act → World → Prop} (h : LdOk w 4 (a.eval x)) : Oper.wp Try.prog ⟨dst, .load 27 x, tt, pos, af, gd⟩ a w K Q ↔ K (a.put dst (.agg (ldC w 4 (a.eval x)))) w := wp_load_el Try.underlying27 rfl (by kernel_rfl) h
def cat2 (f0 f1 : Nat → Nat) (i : Nat) : Nat := if i < 4 then f0 i else f1 (i - 4)
def cat4 (f0 f1 f2 f3 : Nat → Nat) (i : Nat) : Nat := if i < 4 then f0 i else if i < 8 then f1 (i - 4) else if i < 12 then f2 (i - 8) else f3 (i - 12)
theorem At.fld {w : World} {g m o n : Nat} {k : IntKind} {f : Nat → Nat} (h : At w g k m f) (ho : o + n ≤ m) : LdOk w n (.pointer (some ⟨g, o, none⟩)) ∧ ldC w n (.pointer (some ⟨g, o, none⟩)) = arrK k n fun i => f (o + i) := by
  have hc : ∀ j, j < n → w.cell? ((⟨g, o, none⟩ : Addr).add j) = some (.int k (f (o + j) : Nat)) := fun j hj => by
    have h1 := h.cell (i := o + j) (by omega)
    by_cases e : j = 0
    · subst e; simpa [Addr.add] using h1
    · simpa [Addr.add, e] using h1
  refine ⟨fun j hj => by rw [hc j hj]; rfl, ?_⟩
  show arrV n (fun j => (w.cell? ((⟨g, o, none⟩ : Addr).add j)).getD undef) = arrV n fun i => .int k (f (o + i) : Nat)
  refine arrV_congr fun i hi => ?_
  rw [hc i hi]; rfl
section
variable {w : World} {g : Nat} {f0 f1 f2 f3 : Nat → Nat}
theorem pt_0 (h : At w g .u64 8 (cat2 f0 f1)) : LdOk w 4 (.pointer (some ⟨g, 0, none⟩)) ∧ ldC w 4 (.pointer (some ⟨g, 0, none⟩)) = arrK .u64 4 f0 := by
  refine ⟨(h.fld (by omega)).1, (h.fld (by omega)).2.trans (arrK_congr fun i hi => ?_)⟩
  unfold cat2; rw [if_pos (by omega), Nat.zero_add]
theorem pt_1 (h : At w g .u64 8 (cat2 f0 f1)) : LdOk w 4 (.pointer (some ⟨g, 4, none⟩)) ∧ ldC w 4 (.pointer (some ⟨g, 4, none⟩)) = arrK .u64 4 f1 := by
  refine ⟨(h.fld (by omega)).1, (h.fld (by omega)).2.trans (arrK_congr fun i hi => ?_)⟩
  unfold cat2; rw [if_neg (by omega), Nat.add_sub_cancel_left]
theorem qd_0 (h : At w g .u64 16 (cat4 f0 f1 f2 f3)) : LdOk w 4 (.pointer (some ⟨g, 0, none⟩)) ∧ ldC w 4 (.pointer (some ⟨g, 0, none⟩)) = arrK .u64 4 f0 := by
  refine ⟨(h.fld (by omega)).1, (h.fld (by omega)).2.trans (arrK_congr fun i hi => ?_)⟩
  unfold cat4; rw [if_pos (by omega), Nat.zero_add]
theorem qd_1 (h : At w g .u64 16 (cat4 f0 f1 f2 f3)) : LdOk w 4 (.pointer (some ⟨g, 4, none⟩)) ∧ ldC w 4 (.pointer (some ⟨g, 4, none⟩)) = arrK .u64 4 f1 := by
  refine ⟨(h.fld (by omega)).1, (h.fld (by omega)).2.trans (arrK_congr fun i hi => ?_)⟩
  unfold cat4; rw [if_neg (by omega), if_pos (by omega), Nat.add_sub_cancel_left]
theorem qd_2 (h : At w g .u64 16 (cat4 f0 f1 f2 f3)) : LdOk w 4 (.pointer (some ⟨g, 8, none⟩)) ∧ ldC w 4 (.pointer (some ⟨g, 8, none⟩)) = arrK .u64 4 f2 := by
  refine ⟨(h.fld (by omega)).1, (h.fld (by omega)).2.trans (arrK_congr fun i hi => ?_)⟩
  unfold cat4; rw [if_neg (by omega), if_neg (by omega), if_pos (by omega), Nat.add_sub_cancel_left]
theorem qd_3 (h : At w g .u64 16 (cat4 f0 f1 f2 f3)) : LdOk w 4 (.pointer (some ⟨g, 12, none⟩)) ∧ ldC w 4 (.pointer (some ⟨g, 12, none⟩)) = arrK .u64 4 f3 := by
  refine ⟨(h.fld (by omega)).1, (h.fld (by omega)).2.trans (arrK_congr fun i hi => ?_)⟩
  unfold cat4; rw [if_neg (by omega), if_neg (by omega), if_neg (by omega), Nat.add_sub_cancel_left]
end
def ptV (x y : Nat) : Value := .agg (arrK .u64 8 (cat2 (wd x) (wd y)))
def quadV (x y z t : Nat) : Value := .agg (arrK .u64 16 (cat4 (wd x) (wd y) (wd z) (wd t)))
theorem build_one (w : World) : (Instr.build 27 #[(0, Value.int IntKind.u64 (1 : Int))]).run Try.prog w = .ok (.agg (arrK .u64 4 (wd 1))) w := (run_build w _ _ _ (by kernel_rfl)).trans (by rw [← num1 (show 1 < 18446744073709551616 by omega)])
theorem zeroPt : #[Value.int IntKind.u64 0, Value.int IntKind.u64 0, Value.int IntKind.u64 0, Value.int IntKind.u64 0, Value.int IntKind.u64 0, Value.int IntKind.u64 0, Value.int IntKind.u64 0, Value.int IntKind.u64 0] = arrK .u64 8 (cat2 (wd 0) (wd 0)) := by kernel_rfl
theorem zeroQd : #[Value.int IntKind.u64 0, Value.int IntKind.u64 0, Value.int IntKind.u64 0, Value.int IntKind.u64 0, Value.int IntKind.u64 0, Value.int IntKind.u64 0, Value.int IntKind.u64 0, Value.int IntKind.u64 0, Value.int IntKind.u64 0, Value.int IntKind.u64 0, Value.int IntKind.u64 0, Value.int IntKind.u64 0, Value.int IntKind.u64 0, Value.int IntKind.u64 0, Value.int IntKind.u64 0, Value.int IntKind.u64 0] = arrK .u64 16 (cat4 (wd 0) (wd 0) (wd 0) (wd 0)) := by kernel_rfl
section
variable {P : Program} {ops : Array Oper} {rest : List Oper} {o : Oper} {a : Act} {w : World} {K : Act → World → Prop} {Q : Exit → Act → World → Prop} {t : TypeId} {i0 i1 i2 i3 : Nat} {x0 x1 x2 x3 : Operand} {u v0 v1 v2 v3 : Value}
theorem wp_bldB (ho : o.op = .build t #[(i0, x0), (i1, x1)]) (h0 : a.eval x0 = v0) (h1 : a.eval x1 = v1) (hr : (Instr.build t #[(i0, v0), (i1, v1)]).run P w = .ok u w) (h : K (a.put o.dst u) w) : Oper.wp P o a w K Q := by
  subst h0 h1
  obtain ⟨dst, op, tt, pos, af, gd⟩ := o
  subst ho
  unfold Oper.wp execOp
  simp only [List.map_toArray, List.map_cons, List.map_nil, Sem.run_bind, hr, Result.andThen_ok]
  exact h
theorem wp_bldD (ho : o.op = .build t #[(i0, x0), (i1, x1), (i2, x2), (i3, x3)]) (h0 : a.eval x0 = v0) (h1 : a.eval x1 = v1) (h2 : a.eval x2 = v2) (h3 : a.eval x3 = v3) (hr : (Instr.build t #[(i0, v0), (i1, v1), (i2, v2), (i3, v3)]).run P w = .ok u w) (h : K (a.put o.dst u) w) : Oper.wp P o a w K Q := by
  subst h0 h1 h2 h3
  obtain ⟨dst, op, tt, pos, af, gd⟩ := o
  subst ho
  unfold Oper.wp execOp
  simp only [List.map_toArray, List.map_cons, List.map_nil, Sem.run_bind, hr, Result.andThen_ok]
  exact h
theorem wpList_bldB (hgd : o.guard = none) (ho : o.op = .build t #[(i0, x0), (i1, x1)]) (h0 : a.eval x0 = v0) (h1 : a.eval x1 = v1) (hr : (Instr.build t #[(i0, v0), (i1, v1)]).run P w = .ok u w) (h : wpList P ops Q rest (a.put o.dst u) w) : wpList P ops Q (o :: rest) a w :=
  wpList_step fun K hK => by
    have hw : Region.wanted o (yielded ops a.tmps) = true := by simp [Region.wanted, hgd]
    rw [if_pos hw]
    exact wp_bldB ho h0 h1 hr (hK _ _ h)
end
end Go.Proofs.Ytdlmamnnamlleaa
namespace Go.Proofs.Ytdlmamnnamlleaa
open Go.ChangeShapes Go.WideShapes Go.ChangeAt Go.RowKit
set_option maxHeartbeats 2000000
set_option maxRecDepth 100000
attribute [local go_sem ↓] load_fld load_num store_num execl_num execs_num        
attribute [local go_sem] isHead_mk blkOf_mk isAgg_mk cellsV_mk row_drew rowAt_drew row_new_cells row_old rowAt_new rowAt_old setRow_new zeroNum zeroPt zeroQd
end Go.Proofs.Ytdlmamnnamlleaa
namespace Go.Proofs.Ytdlmamnnamlleaa
open Go.ChangeShapes Go.WideShapes Go.ChangeAt Go.RowKit
set_option maxHeartbeats 2000000
set_option maxRecDepth 100000
attribute [local go_sem ↓] load_fld load_num store_num execl_num execs_num        
attribute [local go_sem] isHead_mk blkOf_mk isAgg_mk cellsV_mk row_drew rowAt_drew row_new_cells row_old rowAt_new rowAt_old setRow_new zeroNum zeroPt zeroQd
/-- The curve's number d. -/
def dN : Nat := 0x52036cee2b6ffe738cc740797779e89800700a4d4141d8ab75eb4dca135978a3
theorem dN_lt : dN < 2 ^ 256 := by decide +kernel
theorem buildD (w : World) : (Instr.build 27 #[(0, Value.int IntKind.u64 8496970652267935907), (1, Value.int IntKind.u64 31536524315187371), (2, Value.int IntKind.u64 10144147576115030168), (3, Value.int IntKind.u64 5909686906226998899)]).run Try.prog w = .ok (.agg (arrK .u64 4 (wd dN))) w :=
  run_build w _ _ _ (by kernel_rfl)
theorem low_lt {a : Nat} : a % fP < 2 ^ 256 := Nat.lt_trans lt_P P_lt
theorem dif_low {a b : Nat} : difP a b < 2 ^ 256 := low_lt
end Go.Proofs.Ytdlmamnnamlleaa
namespace Go.Proofs.Ytdlmamnnamlleaa
open Go.ChangeShapes Go.WideShapes Go.ChangeAt Go.RowKit
set_option maxHeartbeats 2000000
set_option maxRecDepth 100000
attribute [local go_sem ↓] load_fld load_num store_num execl_num execs_num        
attribute [local go_sem] isHead_mk blkOf_mk isAgg_mk cellsV_mk row_drew rowAt_drew row_new_cells row_old rowAt_new rowAt_old setRow_new zeroNum zeroPt zeroQd
/-- The base point. -/
def bX : Nat := 0x216936d3cd6e53fec0a4e231fdd6dc5c692cc7609525a7b2c9562d608f25d51a
def bY : Nat := 0x6666666666666666666666666666666666666666666666666666666666666658
theorem build_bX (w : World) : (Instr.build 27 #[(0, Value.int IntKind.u64 14507833142362363162), (1, Value.int IntKind.u64 7578651490590762930), (2, Value.int IntKind.u64 13881468655802702940), (3, Value.int IntKind.u64 2407515759118799870)]).run Try.prog w = .ok (.agg (arrK .u64 4 (wd bX))) w := run_build w _ _ _ (by kernel_rfl)
theorem build_bY (w : World) : (Instr.build 27 #[(0, Value.int IntKind.u64 7378697629483820632), (1, Value.int IntKind.u64 7378697629483820646), (2, Value.int IntKind.u64 7378697629483820646), (3, Value.int IntKind.u64 7378697629483820646)]).run Try.prog w = .ok (.agg (arrK .u64 4 (wd bY))) w := run_build w _ _ _ (by kernel_rfl)
/-- Is it a point of the curve? -/
def onB (x y : Nat) : Bool := decide (x = x % fP) && decide (y = y % fP) && decide (difP (y * y % fP) (x * x % fP) = (1 + dN * ((x * x % fP) * (y * y % fP) % fP) % fP) % fP)
end Go.Proofs.Ytdlmamnnamlleaa
namespace Go.Proofs.Ytdlmamnnamlleaa
open Go.ChangeShapes Go.WideShapes Go.ChangeAt Go.RowKit
set_option maxHeartbeats 2000000
set_option maxRecDepth 100000
attribute [local go_sem ↓] load_fld load_num store_num execl_num execs_num        
attribute [local go_sem] isHead_mk blkOf_mk isAgg_mk cellsV_mk row_drew rowAt_drew row_new_cells row_old rowAt_new rowAt_old setRow_new zeroNum zeroPt zeroQd
theorem ret_row2c {P : Program} {fn : Func} {R : Ending → World → Prop} {a : Act} {w : World} {p q : Tmp} {ty : TypeId} {g n : Nat} {d : TypeDesc} (h : fn.results = #[.cell p ty, .tmp q])
    (hu : P.underlying ty = some d) (hd : (match d with | .struct _ | .array _ _ => true | _ => false) = true) (hi : (P.info? ty).map (·.size) = some n)
    (hp : a.tmps.getD p undef = .pointer (some ⟨g, 0, none⟩)) (hr : Row w g n) (hf : a.defers = []) (hR : R (.returned (.tuple #[.agg (rowAt w g), a.tmps.getD q undef])) w) : bodyPost P fn R .ret a w := by
  obtain ⟨cs, t, hg, hs⟩ := hr
  have e : rowAt w g = cs := by simp [rowAt, hg]
  rw [e] at hR
  exact bodyPost_ret (results_row_tmp h _ _ g t cs (0, 0) d hp hg hu hd (by rw [hi, hs])) hf hR
theorem store_fldP {w : World} {dst : Option Tmp} {x y : Operand} {tt : TypeId} {pos : String} {af : Array Edge} {gd : Option (Nat × Bool)} {a : Act} {K : Act → World → Prop} {Q : Exit → Act → World → Prop} (hv : IsPart (a.eval x)) (h : Row w (blkOf (a.eval x)) 8) (ho : offOf (a.eval x) + 4 ≤ 8) (hx : IsAgg (a.eval y) 4) :
    Oper.wp Try.prog ⟨dst, .store 27 x y, tt, pos, af, gd⟩ a w K Q ↔ K (a.put dst undef) (w.setRow (blkOf (a.eval x)) (putAt (rowAt w (blkOf (a.eval x))) (offOf (a.eval x)) (cellsV (a.eval y)).toList)) := wp_store_part (by kernel_rfl) hv h ho hx
attribute [local go_sem ↓] store_fldP
attribute [local go_sem] isPart_mk offOf_mk
theorem put_x (f0 f1 f : Nat → Nat) : putAt (arrK .u64 8 (cat2 f0 f1)) 0 (arrK .u64 4 f).toList = arrK .u64 8 (cat2 f f1) := by
  rw [arrK_V .u64 8, putAt_arrV, arrK_V .u64 8]
  refine arrV_congr fun i hi => ?_
  rw [if_pos (Nat.zero_le _), Nat.sub_zero, Array.getElem?_toList]
  unfold cat2
  by_cases h : i < 4
  · rw [arrK_at h, if_pos h, if_pos h]; rfl
  · rw [Array.getElem?_eq_none (by rw [arrK_size]; omega), if_neg h, if_neg h]; rfl
/-- What plus makes of two quads. -/
def qplus (x1 y1 z1 t1 x2 y2 z2 t2 : Nat) : Nat × Nat × Nat × Nat :=
  let a := difP y1 x1 * difP y2 x2 % fP
  let b := ((y1 + x1) % fP) * ((y2 + x2) % fP) % fP
  let c0 := (t1 * t2 % fP) * dN % fP
  let c := (c0 + c0) % fP
  let z0 := z1 * z2 % fP
  let z := (z0 + z0) % fP
  let e := difP b a
  let f := difP z c
  let g := (z + c) % fP
  let h := (b + a) % fP
  (e * f % fP, g * h % fP, f * g % fP, e * h % fP)
/-- The sum of two points, as the program makes it. -/
def addPt (x1 y1 x2 y2 : Nat) : Nat × Nat :=
  let r := qplus x1 y1 1 (x1 * y1 % fP) x2 y2 1 (x2 * y2 % fP)
  (r.1 * invP r.2.2.1 % fP, r.2.1 * invP r.2.2.1 % fP)
theorem qplus_lt (x1 y1 z1 t1 x2 y2 z2 t2 : Nat) (r : Nat × Nat × Nat × Nat) (hr : qplus x1 y1 z1 t1 x2 y2 z2 t2 = r) : r.1 < 2 ^ 256 ∧ r.2.1 < 2 ^ 256 ∧ r.2.2.1 < 2 ^ 256 := by
  subst hr
  exact ⟨low_lt, low_lt, low_lt⟩
end Go.Proofs.Ytdlmamnnamlleaa
namespace Go.Proofs.Ytdlmamnnamlleaa
open Go.ChangeShapes Go.WideShapes Go.ChangeAt Go.RowKit
set_option maxHeartbeats 2000000
set_option maxRecDepth 100000
def cat3 (f0 f1 f2 : Nat → Nat) (i : Nat) : Nat := if i < 16 then f0 i else if i < 32 then f1 (i - 16) else f2 (i - 32)
section
variable {w : World} {g : Nat} {f0 f1 f2 : Nat → Nat}
theorem rp_0 (h : At w g .i64 48 (cat3 f0 f1 f2)) : LdOk w 16 (.pointer (some ⟨g, 0, none⟩)) ∧ ldC w 16 (.pointer (some ⟨g, 0, none⟩)) = arrK .i64 16 f0 := by
  refine ⟨(h.fld (by omega)).1, (h.fld (by omega)).2.trans (arrK_congr fun i hi => ?_)⟩
  unfold cat3; rw [if_pos (by omega), Nat.zero_add]
theorem rp_1 (h : At w g .i64 48 (cat3 f0 f1 f2)) : LdOk w 16 (.pointer (some ⟨g, 16, none⟩)) ∧ ldC w 16 (.pointer (some ⟨g, 16, none⟩)) = arrK .i64 16 f1 := by
  refine ⟨(h.fld (by omega)).1, (h.fld (by omega)).2.trans (arrK_congr fun i hi => ?_)⟩
  unfold cat3; rw [if_neg (by omega), if_pos (by omega), Nat.add_sub_cancel_left]
theorem rp_2 (h : At w g .i64 48 (cat3 f0 f1 f2)) : LdOk w 16 (.pointer (some ⟨g, 32, none⟩)) ∧ ldC w 16 (.pointer (some ⟨g, 32, none⟩)) = arrK .i64 16 f2 := by
  refine ⟨(h.fld (by omega)).1, (h.fld (by omega)).2.trans (arrK_congr fun i hi => ?_)⟩
  unfold cat3; rw [if_neg (by omega), if_neg (by omega), Nat.add_sub_cancel_left]
end
def rpV (x y z : Nat) : Value := .agg (arrK .i64 48 (cat3 (dgt x) (dgt y) (dgt z)))
theorem zeroRp : #[Value.int IntKind.i64 0, Value.int IntKind.i64 0, Value.int IntKind.i64 0, Value.int IntKind.i64 0, Value.int IntKind.i64 0, Value.int IntKind.i64 0, Value.int IntKind.i64 0, Value.int IntKind.i64 0, Value.int IntKind.i64 0, Value.int IntKind.i64 0, Value.int IntKind.i64 0, Value.int IntKind.i64 0, Value.int IntKind.i64 0, Value.int IntKind.i64 0, Value.int IntKind.i64 0, Value.int IntKind.i64 0, Value.int IntKind.i64 0, Value.int IntKind.i64 0, Value.int IntKind.i64 0, Value.int IntKind.i64 0, Value.int IntKind.i64 0, Value.int IntKind.i64 0, Value.int IntKind.i64 0, Value.int IntKind.i64 0, Value.int IntKind.i64 0, Value.int IntKind.i64 0, Value.int IntKind.i64 0, Value.int IntKind.i64 0, Value.int IntKind.i64 0, Value.int IntKind.i64 0, Value.int IntKind.i64 0, Value.int IntKind.i64 0, Value.int IntKind.i64 0, Value.int IntKind.i64 0, Value.int IntKind.i64 0, Value.int IntKind.i64 0, Value.int IntKind.i64 0, Value.int IntKind.i64 0, Value.int IntKind.i64 0, Value.int IntKind.i64 0, Value.int IntKind.i64 0, Value.int IntKind.i64 0, Value.int IntKind.i64 0, Value.int IntKind.i64 0, Value.int IntKind.i64 0, Value.int IntKind.i64 0, Value.int IntKind.i64 0, Value.int IntKind.i64 0] = arrK .i64 48 (cat3 (fun _ => 0) (fun _ => 0) (fun _ => 0)) := by kernel_rfl
section
variable {P : Program} {ops : Array Oper} {rest : List Oper} {o : Oper} {a : Act} {w : World} {K : Act → World → Prop} {Q : Exit → Act → World → Prop} {t : TypeId} {i0 i1 i2 : Nat} {x0 x1 x2 : Operand} {u v0 v1 v2 : Value}
theorem wp_bldC (ho : o.op = .build t #[(i0, x0), (i1, x1), (i2, x2)]) (h0 : a.eval x0 = v0) (h1 : a.eval x1 = v1) (h2 : a.eval x2 = v2) (hr : (Instr.build t #[(i0, v0), (i1, v1), (i2, v2)]).run P w = .ok u w) (h : K (a.put o.dst u) w) : Oper.wp P o a w K Q := by
  subst h0 h1 h2
  obtain ⟨dst, op, tt, pos, af, gd⟩ := o
  subst ho
  unfold Oper.wp execOp
  simp only [List.map_toArray, List.map_cons, List.map_nil, Sem.run_bind, hr, Result.andThen_ok]
  exact h
theorem wpList_bldC (hgd : o.guard = none) (ho : o.op = .build t #[(i0, x0), (i1, x1), (i2, x2)]) (h0 : a.eval x0 = v0) (h1 : a.eval x1 = v1) (h2 : a.eval x2 = v2) (hr : (Instr.build t #[(i0, v0), (i1, v1), (i2, v2)]).run P w = .ok u w) (h : wpList P ops Q rest (a.put o.dst u) w) : wpList P ops Q (o :: rest) a w :=
  wpList_step fun K hK => by
    have hw : Region.wanted o (yielded ops a.tmps) = true := by simp [Region.wanted, hgd]
    rw [if_pos hw]
    exact wp_bldC ho h0 h1 h2 hr (hK _ _ h)
end
section
variable {P : Program} {ops : Array Oper} {rest : List Oper} {o : Oper} {a : Act} {w : World} {Q : Exit → Act → World → Prop} {t : TypeId} {parts : Array (Nat × Operand)} {vs : Array (Nat × Value)} {u : Value}
theorem wpList_bldN (hgd : o.guard = none) (ho : o.op = .build t parts) (hv : (parts.map fun p => (p.1, a.eval p.2)) = vs) (hr : (Instr.build t vs).run P w = .ok u w) (h : wpList P ops Q rest (a.put o.dst u) w) : wpList P ops Q (o :: rest) a w :=
  wpList_step fun K hK => by
    have hw : Region.wanted o (yielded ops a.tmps) = true := by simp [Region.wanted, hgd]
    rw [if_pos hw]
    subst hv
    obtain ⟨dst, op, tt, pos, af, gd⟩ := o
    subst ho
    unfold Oper.wp execOp
    simp only [Sem.run_bind, hr, Result.andThen_ok]
    exact hK _ _ h
end

attribute [local go_sem] isHead_mk blkOf_mk isAgg_mk cellsV_mk row_drew rowAt_drew row_new_cells row_old rowAt_new rowAt_old setRow_new zeroFe
end Go.Proofs.Ytdlmamnnamlleaa
namespace Go.Proofs.Ytdlmamnnamlleaa
open Go.ChangeShapes Go.WideShapes Go.ChangeAt Go.RowKit
set_option maxHeartbeats 2000000
set_option maxRecDepth 100000
attribute [local go_sem ↓] load_fld  load_num store_num      
attribute [local go_sem] isHead_mk blkOf_mk isAgg_mk cellsV_mk row_drew rowAt_drew row_new_cells row_old rowAt_new rowAt_old setRow_new zeroNum zeroPt zeroFe zeroRp
end Go.Proofs.Ytdlmamnnamlleaa
namespace Go.Proofs.Ytdlmamnnamlleaa
/-- Congruence modulo 2^255 - 19. -/
def Cg (a b : Int) : Prop := ∃ k, a = b + (fP : Int) * k
section
variable {a b c d : Int} {m n : Nat}
theorem Cg.refl (a : Int) : Cg a a := ⟨0, by rw [Int.mul_zero, Int.add_zero]⟩
theorem Cg.symm (h : Cg a b) : Cg b a := by obtain ⟨k, hk⟩ := h; exact ⟨-k, by grind⟩
theorem Cg.trans (h : Cg a b) (h2 : Cg b c) : Cg a c := by obtain ⟨k, hk⟩ := h; obtain ⟨l, hl⟩ := h2; exact ⟨k + l, by grind⟩
theorem Cg.add (h : Cg a b) (h2 : Cg c d) : Cg (a + c) (b + d) := by obtain ⟨k, hk⟩ := h; obtain ⟨l, hl⟩ := h2; exact ⟨k + l, by grind⟩
theorem Cg.sub (h : Cg a b) (h2 : Cg c d) : Cg (a - c) (b - d) := by obtain ⟨k, hk⟩ := h; obtain ⟨l, hl⟩ := h2; exact ⟨k - l, by grind⟩
theorem Cg.mul (h : Cg a b) (h2 : Cg c d) : Cg (a * c) (b * d) := by obtain ⟨k, hk⟩ := h; obtain ⟨l, hl⟩ := h2; exact ⟨b * l + k * d + (fP : Int) * k * l, by grind⟩
theorem Cg.mod (n : Nat) : Cg ((n % fP : Nat) : Int) n := by
  have h := Nat.mod_add_div n fP
  refine ⟨-((n / fP : Nat) : Int), ?_⟩
  have h2 : ((n % fP : Nat) : Int) + (fP : Int) * ((n / fP : Nat) : Int) = (n : Int) := by rw [← Int.natCast_mul, ← Int.natCast_add, h]
  grind
theorem Cg.mulM (h : Cg m a) (h2 : Cg n b) : Cg ((m * n % fP : Nat) : Int) (a * b) := (Cg.mod _).trans (by rw [Int.natCast_mul]; exact h.mul h2)
theorem Cg.addM (h : Cg m a) (h2 : Cg n b) : Cg (((m + n) % fP : Nat) : Int) (a + b) := (Cg.mod _).trans (by rw [Int.natCast_add]; exact h.add h2)
theorem Cg.difM (h : Cg m a) (h2 : Cg n b) : Cg ((difP m n : Nat) : Int) (a - b) := by
  unfold difP
  refine (Cg.mod _).trans ?_
  have h3 := lt_P (a := n)
  rw [Int.natCast_add, Int.natCast_sub (Nat.le_of_lt h3)]
  have h4 := ((Cg.mod m).trans h).sub ((Cg.mod n).trans h2)
  obtain ⟨k, hk⟩ := h4
  exact ⟨k + 1, by grind⟩
/-- The document's difference. -/
def lessM (a b : Nat) : Nat := (a + 4 * fP - b) % fP
theorem Cg.lessM (h : Cg m a) (h2 : Cg n b) (hn : n < fP) : Cg ((lessM m n : Nat) : Int) (a - b) := by
  unfold Proofs.Ytdlmamnnamlleaa.lessM
  refine (Cg.mod _).trans ?_
  rw [Int.natCast_sub (by omega), Int.natCast_add, Int.natCast_mul]
  obtain ⟨k, hk⟩ := h.sub h2
  exact ⟨k + 4, by grind⟩
theorem Cg.eq (h : Cg m n) (hm : m < fP) (hn : n < fP) : m = n := by
  obtain ⟨k, hk⟩ := h
  generalize fP = P at *
  have h1 : k < 1 := by
    rcases Int.lt_or_le k 1 with h | h
    · exact h
    · have := Int.mul_le_mul_of_nonneg_left h (show (0 : Int) ≤ (P : Int) by omega)
      omega
  have h2 : -1 < k := by
    rcases Int.lt_or_le (-1) k with h | h
    · exact h
    · have := Int.mul_le_mul_of_nonneg_left h (show (0 : Int) ≤ (P : Int) by omega)
      omega
  have h3 : k = 0 := by omega
  subst h3
  omega
theorem Cg.of_eq (h : m % fP = n % fP) : Cg m n := (Cg.mod m).symm.trans (h ▸ Cg.mod n)
end

/-! Powers, by squaring. -/
def pwf (a : Nat) : Nat → Nat → Nat
  | 0, _ => 1
  | f + 1, n => if n % 2 = 0 then (pwf a f (n / 2)) ^ 2 % fP else ((pwf a f (n / 2)) ^ 2 % fP) * a % fP
theorem pwf_is (a : Nat) : ∀ f n, n < 2 ^ f → pwf a f n % fP = a ^ n % fP
  | 0, n, h => by
    have : n = 0 := by rw [Nat.pow_zero] at h; omega
    subst this; rfl
  | f + 1, n, h => by
    have ih := pwf_is a f (n / 2) (by rw [Nat.pow_succ] at h; omega)
    unfold pwf
    split
    · rename_i h0
      rw [Nat.mod_mod, Nat.pow_mod, ih, ← Nat.pow_mod, ← Nat.pow_mul, show n / 2 * 2 = n by omega]
    · rename_i h0
      rw [Nat.mod_mod, Nat.mod_mul_mod, Nat.mul_mod, Nat.pow_mod, ih, ← Nat.pow_mod, ← Nat.mul_mod, ← Nat.pow_mul, ← Nat.pow_succ, show (n / 2 * 2).succ = n by omega]
theorem four_pow : 4 ^ (fP - 1) % fP = 1 := by
  have h : fP - 1 < 2 ^ 256 := Nat.lt_of_le_of_lt (Nat.sub_le _ _) P_lt
  rw [← pwf_is 4 256 _ h]
  decide +kernel
/-- Four times as much above and below is the same. -/
theorem over_four {X X4 Z Z4 : Nat} (hX : Cg X4 (4 * (X : Int))) (hZ : Cg Z4 (4 * (Z : Int))) : X4 * invP Z4 % fP = X * invP Z % fP := by
  refine Cg.eq ?_ lt_P lt_P
  refine (Cg.mod _).trans (Cg.trans ?_ (Cg.mod _).symm)
  have hi : ∀ n m : Nat, Cg m n → ∀ k : Nat, Cg ((m ^ k : Nat) : Int) ((n ^ k : Nat) : Int) := fun n m h k => by
    induction k with
    | zero => exact Cg.refl _
    | succ k ih => rw [Nat.pow_succ, Nat.pow_succ, Int.natCast_mul, Int.natCast_mul]; exact ih.mul h
  have hZ' : Cg Z4 ((4 * Z : Nat) : Int) := by rw [Int.natCast_mul]; exact hZ
  have h1 : Cg (invP Z4) (((4 ^ (fP - 2) : Nat) : Int) * (invP Z : Int)) := by
    unfold invP
    refine (Cg.mod _).trans ((hi _ _ hZ' (fP - 2)).trans ?_)
    rw [Nat.mul_pow, Int.natCast_mul]
    exact (Cg.refl _).mul (Cg.mod _).symm
  have h2 : Cg (4 * ((4 ^ (fP - 2) : Nat) : Int)) 1 := by
    have h3 : 4 * 4 ^ (fP - 2) = 4 ^ (fP - 1) := by
      rw [Nat.mul_comm, ← Nat.pow_succ]
      congr 1
    rw [show (4 : Int) * ((4 ^ (fP - 2) : Nat) : Int) = ((4 * 4 ^ (fP - 2) : Nat) : Int) by rw [Int.natCast_mul]; rfl, h3]
    refine (Cg.mod _).symm.trans ?_
    rw [four_pow]
    exact Cg.refl _
  rw [Int.natCast_mul, Int.natCast_mul]
  refine (hX.mul h1).trans ?_
  generalize ((4 ^ (fP - 2) : Nat) : Int) = q at *
  have h4 := h2.mul (Cg.refl ((X : Int) * (invP Z : Int)))
  rw [Int.one_mul] at h4
  refine Cg.trans ?_ h4
  rw [show 4 * (X : Int) * (q * (invP Z : Int)) = 4 * q * ((X : Int) * (invP Z : Int)) by grind]
  exact Cg.refl _

/-! The document's side. -/
/-- Is it a point of the curve? -/
def onR (x y : Nat) : Bool := decide (x % fP = x) && decide (y % fP = y) && decide ((y % fP) * (y % fP) % fP = ((1 + (x % fP) * (x % fP) % fP) % fP + (dN * ((x % fP) * (x % fP) % fP) % fP) * ((y % fP) * (y % fP) % fP) % fP) % fP)
theorem on_same (x y : Nat) : onR x y = onB x y := by
  unfold onR onB
  by_cases hx : x % fP = x
  · by_cases hy : y % fP = y
    · rw [hx, hy]
      simp only [decide_true, Bool.true_and]
      refine decide_eq_decide.2 ?_
      have e1 := Cg.mulM (Cg.refl x) (Cg.refl x)
      have e2 := Cg.mulM (Cg.refl y) (Cg.refl y)
      have l1 : x * x % fP < fP := lt_P
      have l2 : y * y % fP < fP := lt_P
      generalize x * x % fP = xx at *
      generalize y * y % fP = yy at *
      generalize dN = dd at *
      have p1 := Cg.difM (Cg.refl yy) (Cg.refl xx)
      have p2 := Cg.addM (m := 1) (Cg.refl 1) (Cg.mulM (Cg.refl dd) (Cg.mulM (Cg.refl xx) (Cg.refl yy)))
      have p3 := Cg.addM (Cg.addM (m := 1) (Cg.refl 1) (Cg.refl xx)) (Cg.mulM (Cg.mulM (Cg.refl dd) (Cg.refl xx)) (Cg.refl yy))
      constructor
      · intro h
        refine Cg.eq (p1.trans (Cg.trans ?_ p2.symm)) lt_P lt_P
        rw [← h] at p3
        obtain ⟨k, hk⟩ := p3
        exact ⟨k, by grind⟩
      · intro h
        refine Cg.eq (Cg.trans ?_ p3.symm) l2 lt_P
        rw [h] at p1
        obtain ⟨k, hk⟩ := p1.symm.trans p2
        exact ⟨k, by grind⟩
    · rw [decide_eq_false hy, decide_eq_false (p := y = y % fP) (fun h => hy h.symm), Bool.and_false, Bool.false_and, Bool.and_false, Bool.false_and]
  · rw [decide_eq_false hx, decide_eq_false (p := x = x % fP) (fun h => hx h.symm), Bool.false_and, Bool.false_and, Bool.false_and, Bool.false_and]
theorem on_lt {x y : Nat} (h : onB x y = true) : x < fP ∧ y < fP := by
  unfold onB at h
  rw [Bool.and_eq_true, Bool.and_eq_true, decide_eq_true_eq, decide_eq_true_eq] at h
  exact ⟨by rw [h.1.1]; exact lt_P, by rw [h.1.2]; exact lt_P⟩
/-- What the document makes of two fractions. -/
def rplus (X1 Y1 Z1 X2 Y2 Z2 : Nat) : Nat × Nat × Nat :=
  let a := Z1 * Z2 % fP
  let c := X1 * X2 % fP
  let d := Y1 * Y2 % fP
  let b := a * a % fP
  let e := (dN * c % fP) * d % fP
  let f := lessM b e
  let g := (b + e) % fP
  let s := (X1 * Y2 % fP + Y1 * X2 % fP) % fP
  ((a * f % fP) * s % fP, (a * g % fP) * ((c + d) % fP) % fP, f * g % fP)
def rpoint (X Y Z : Nat) : Nat × Nat := (X * invP Z % fP, Y * invP Z % fP)
theorem add_same {x1 y1 x2 y2 : Nat} (hx1 : x1 < fP) (hy1 : y1 < fP) (hx2 : x2 < fP) (hy2 : y2 < fP) :
    addPt x1 y1 x2 y2 = rpoint (rplus (x1 % fP) (y1 % fP) 1 (x2 % fP) (y2 % fP) 1).1 (rplus (x1 % fP) (y1 % fP) 1 (x2 % fP) (y2 % fP) 1).2.1 (rplus (x1 % fP) (y1 % fP) 1 (x2 % fP) (y2 % fP) 1).2.2 := by
  rw [Nat.mod_eq_of_lt hx1, Nat.mod_eq_of_lt hy1, Nat.mod_eq_of_lt hx2, Nat.mod_eq_of_lt hy2]
  -- the program's
  have pa := Cg.mulM (Cg.difM (Cg.refl y1) (Cg.refl x1)) (Cg.difM (Cg.refl y2) (Cg.refl x2))
  have pb := Cg.mulM (Cg.addM (Cg.refl y1) (Cg.refl x1)) (Cg.addM (Cg.refl y2) (Cg.refl x2))
  have pc0 := Cg.mulM (Cg.mulM (Cg.mulM (Cg.refl x1) (Cg.refl y1)) (Cg.mulM (Cg.refl x2) (Cg.refl y2))) (Cg.refl dN)
  have pc := Cg.addM pc0 pc0
  have pz0 := Cg.mulM (m := 1) (n := 1) (Cg.refl 1) (Cg.refl 1)
  have pz := Cg.addM pz0 pz0
  have pe := Cg.difM pb pa
  have pf := Cg.difM pz pc
  have pg := Cg.addM pz pc
  have ph := Cg.addM pb pa
  have p1 := Cg.mulM pe pf
  have p2 := Cg.mulM pg ph
  have p3 := Cg.mulM pf pg
  -- the document's
  have ra := Cg.mulM (m := 1) (n := 1) (Cg.refl 1) (Cg.refl 1)
  have rc := Cg.mulM (Cg.refl x1) (Cg.refl x2)
  have rd := Cg.mulM (Cg.refl y1) (Cg.refl y2)
  have rb := Cg.mulM ra ra
  have re := Cg.mulM (Cg.mulM (Cg.refl dN) rc) rd
  have rf := Cg.lessM rb re lt_P
  have rg := Cg.addM rb re
  have rs := Cg.addM (Cg.mulM (Cg.refl x1) (Cg.refl y2)) (Cg.mulM (Cg.refl y1) (Cg.refl x2))
  have r1 := Cg.mulM (Cg.mulM ra rf) rs
  have r2 := Cg.mulM (Cg.mulM ra rg) (Cg.addM rc rd)
  have r3 := Cg.mulM rf rg
  unfold addPt rpoint
  refine Prod.ext ?_ ?_
  · refine over_four (p1.trans (Cg.trans ?_ ((Cg.refl 4).mul r1).symm)) (p3.trans (Cg.trans ?_ ((Cg.refl 4).mul r3).symm))
    · exact ⟨0, by grind⟩
    · exact ⟨0, by grind⟩
  · refine over_four (p2.trans (Cg.trans ?_ ((Cg.refl 4).mul r2).symm)) (p3.trans (Cg.trans ?_ ((Cg.refl 4).mul r3).symm))
    · exact ⟨0, by grind⟩
    · exact ⟨0, by grind⟩
theorem neg_same (x : Nat) : difP 0 x = lessM 0 (x % fP) := by
  refine Cg.eq ((Cg.difM (m := 0) (Cg.refl 0) (Cg.refl x)).trans (Cg.lessM (m := 0) (Cg.refl 0) (Cg.mod x) lt_P).symm) lt_P lt_P
end Go.Proofs.Ytdlmamnnamlleaa
namespace Go.Proofs.Ytdlmamnnamlleaa
open Go.ChangeShapes Go.WideShapes Go.ChangeAt Go.RowKit
set_option maxHeartbeats 2000000
set_option maxRecDepth 100000
attribute [local go_sem ↓] load_fld  load_num store_num      
attribute [local go_sem] isHead_mk blkOf_mk isAgg_mk cellsV_mk row_drew rowAt_drew row_new_cells row_old rowAt_new rowAt_old setRow_new zeroNum zeroPt zeroFe zeroRp
theorem less_low {a b : Nat} : lessM a b < 2 ^ 256 := low_lt
theorem rplus_lt (X1 Y1 Z1 X2 Y2 Z2 : Nat) (r : Nat × Nat × Nat) (hr : rplus X1 Y1 Z1 X2 Y2 Z2 = r) : r.1 < 2 ^ 256 ∧ r.2.1 < 2 ^ 256 ∧ r.2.2 < 2 ^ 256 := by
  subst hr
  exact ⟨low_lt, low_lt, low_lt⟩
theorem dgt_inj {a b : Nat} (ha : a < 2 ^ 256) (hb : b < 2 ^ 256) : (∀ i < 16, dgt a i = dgt b i) ↔ a = b := by
  refine ⟨fun h => ?_, fun h _ _ => by rw [h]⟩
  have := dval_congr h
  rwa [dval_dgt, dval_dgt, p16, Nat.mod_eq_of_lt ha, Nat.mod_eq_of_lt hb] at this
end Go.Proofs.Ytdlmamnnamlleaa
namespace Go.Proofs.Ytdlmamnnamlleaa
open Go Go.ChangeShapes Go.WideShapes Go.ChangeAt Go.RowKit
set_option maxRecDepth 100000
theorem part_4 (F f : Nat → Nat) (o : Nat) (ho : o + 4 ≤ 8) (h : ∀ i < 4, F (o + i) = f i) (w : World) : (part 27 (arrK .u64 8 F) o).run Try.prog w = .ok (.agg (arrK .u64 4 f)) w := by
  obtain ⟨i, hi, hs⟩ : ∃ i, Try.prog.info? 27 = some i ∧ i.size = 4 := by
    have h : (Try.prog.info? 27).map (·.size) = some 4 := by kernel_rfl
    cases hi : Try.prog.info? 27 with
    | none => rw [hi] at h; cases h
    | some i => rw [hi] at h; exact ⟨i, rfl, by simpa using h⟩
  have h2 : (arrK .u64 8 F).extract o (o + 4) = arrK .u64 4 f := by
    rw [arrK_V .u64 8, arrV_extract ho, arrK_V .u64 4]
    exact arrV_congr fun i hi => by rw [h i hi]
  simp [part, isAgg, run_underlying Try.underlying27, sizeOf, typeInfo, hi, hs, h2]
theorem equalIn_4 (f : Nat → Nat) (k : Nat) (w : World) : (Op.equalIn (k + 2) 27 (.agg (arrK .u64 4 f)) (.agg (arrK .u64 4 f))).run Try.prog w = .ok true w := by
  rw [run_equalIn_arrK Try.underlying27 Try.underlying25 (by kernel_rfl)]; simp
section
variable {P : Program} {ops : Array Oper} {Q : Exit → Act → World → Prop}
theorem wpList_opW {rest : List Oper} {o : Oper} {a : Act} {w : World} (hw : Region.wanted o (yielded ops a.tmps) = true) (h : ∀ K : Act → World → Prop, (∀ a' w', wpList P ops Q rest a' w' → K a' w') → Oper.wp P o a w K Q) : wpList P ops Q (o :: rest) a w :=
  wpList_step fun K hK => by rw [if_pos hw]; exact h K hK
theorem calm_step_skipN {R : Nat → SRel} {a0 : Act} {w0 : World} {i g : Nat} {b : Bool} {d : Tmp} {o : Oper} (hg : o.guard = some (g, b)) (hd : dstAt ops g = some d)
    (hv : ∀ (a : Act) (w : World), Came ops R o a w → a.tmps[d]?.getD undef ≠ .bool b) (hR : ∀ w, (R i).p undef w) : StepOk P ops Q R a0 w0 i o := by
  intro a w K hb hu hc hK
  have hy : yielded ops a.tmps g ≠ some b := by
    intro hy
    have h1 := hv a w hc
    unfold dstAt at hd
    unfold yielded at hy
    rw [hd, Option.bind_some] at hy
    cases h2 : a.tmps[d]? with
    | none => rw [h2] at hy; cases hy
    | some v =>
      rw [h2] at hy h1
      cases v with
      | bool x =>
        have h3 : x = b := by simpa using hy
        subst h3
        exact h1 rfl
      | _ => cases hy
  rw [if_neg (by simp [Region.wanted, hg, hy])]
  exact hK undef w (hR w) (Below.refl _ _)
end
end Go.Proofs.Ytdlmamnnamlleaa
namespace Go.Proofs.Ytdlmamnnamlleaa
open Go.ChangeShapes Go.WideShapes Go.ChangeAt Go.RowKit
set_option maxHeartbeats 2000000
set_option maxRecDepth 100000
attribute [local go_sem ↓] load_num store_num execl_num execs_num
attribute [local go_sem] isHead_mk blkOf_mk isAgg_mk cellsV_mk row_drew rowAt_drew row_new_cells row_old rowAt_new rowAt_old setRow_new zeroNum
theorem build_num (x : Nat) (hx : x < 18446744073709551616) (w : World) : (Instr.build 27 #[(0, Value.int IntKind.u64 (x : Int))]).run Try.prog w = .ok (.agg (arrK .u64 4 (wd x))) w := (run_build w _ _ _ (by kernel_rfl)).trans (by rw [← num1 hx])
theorem share_num (x : Nat) (w : World) (hx : x < 9223372036854775808) : Calls Try.prog 60 #[.int .i64 (x : Nat)] w fun e w' => e = .returned (numV x) ∧ Below w.heap.size w w' := by
  unfold numV
  have hbl := Lib.hid (fun W => build_num x (by omega) W)
  have hc0 := arrK_cells .u64 4 (wd 0)
  have hcx := arrK_cells .u64 4 (wd x)
  have hL := Lib.hid (below_alloc w (Obj.cells (arrK .u64 4 (wd 0)) 27))
  have hR : Row (w.alloc (Obj.cells (arrK .u64 4 (wd 0)) 27)) w.heap.size 4 := (row_new rfl).2 hc0.1
  have hw : IntKind.u64.wrap (x : Int) = (x : Int) := by rw [IntKind.wrap_u64]; omega
  go_enter Try.func60, Try.ntmps60
  go_upto_region 1 with (fail)
  generalize w.alloc _ = W0 at *
  go_wp2_with (refine wpList_opW (by go_simp) (fun K hK => wp_bldA rfl (vx := Value.int IntKind.u64 (x : Int)) rfl (hbl.out _) (hK _ _ ?_)))
  exact ret_stored (p := 2) (ty := 27) (g := w.heap.size) (n := 4) (c := arrK .u64 4 (wd x)) rfl Try.underlying27 rfl (by kernel_rfl) rfl hR hcx.1 rfl ⟨rfl, below_setRow hL.out (by omega)⟩
/-- A share that is right, behind those ahead of it. -/
structure ShOk (X : Nat → Int) (Y : Nat → Nat) (i : Nat) : Prop where
  lo : 1 ≤ X i
  hi : X i ≤ 255
  y : Y i < fL
  one : ∀ j < i, X j ≠ X i
/-- What is wrong with n shares, asked at x. -/
def FaultIs (n : Nat) (X : Nat → Int) (Y : Nat → Nat) (x f : Int) : Prop :=
  (20 < n ∧ f = 2) ∨ (n ≤ 20 ∧ (n = 0 ∨ x < 0 ∨ 255 < x) ∧ f = 1) ∨ (n ≤ 20 ∧ ¬ (n = 0 ∨ x < 0 ∨ 255 < x) ∧ (((∃ i < n, ¬ ShOk X Y i) ∧ f = 1) ∨ ((∀ i < n, ShOk X Y i) ∧ f = 0)))
theorem FaultIs.only {n : Nat} {X : Nat → Int} {Y : Nat → Nat} {x f g : Int} (h : FaultIs n X Y x f) (k : FaultIs n X Y x g) : f = g := by
  rcases h with ⟨h1, rfl⟩ | ⟨h1, h2, rfl⟩ | ⟨h1, h2, h3⟩
  · rcases k with ⟨k1, rfl⟩ | ⟨k1, k2, rfl⟩ | ⟨k1, k2, k3⟩
    · rfl
    · omega
    · omega
  · rcases k with ⟨k1, rfl⟩ | ⟨k1, k2, rfl⟩ | ⟨k1, k2, k3⟩
    · omega
    · rfl
    · exact absurd h2 k2
  · rcases k with ⟨k1, rfl⟩ | ⟨k1, k2, rfl⟩ | ⟨k1, k2, k3⟩
    · omega
    · exact absurd k2 h2
    · rcases h3 with ⟨⟨i, hi, hn⟩, rfl⟩ | ⟨ha, rfl⟩
      · rcases k3 with ⟨-, rfl⟩ | ⟨ka, -⟩
        · rfl
        · exact absurd (ka i hi) hn
      · rcases k3 with ⟨⟨i, hi, hn⟩, -⟩ | ⟨-, rfl⟩
        · exact absurd (ha i hi) hn
        · rfl
end Go.Proofs.Ytdlmamnnamlleaa
namespace Go.Proofs.Ytdlmamnnamlleaa
set_option maxHeartbeats 8000000
set_option maxRecDepth 100000
section
variable {n : Nat} [NeZero n]
theorem ed_x (d x1 y1 x2 y2 x3 y3 : Fin n) : ((x1*y2+y1*x2)*(1-(d*x1*x2*y1*y2))*y3+(y1*y2+x1*x2)*(1+(d*x1*x2*y1*y2))*x3)*(1-(d*x2*x3*y2*y3)*(d*x2*x3*y2*y3)+d*x1*y1*(x2*y3+y2*x3)*(y2*y3+x2*x3))-(x1*(y2*y3+x2*x3)*(1+(d*x2*x3*y2*y3))+y1*(x2*y3+y2*x3)*(1-(d*x2*x3*y2*y3)))*(1-(d*x1*x2*y1*y2)*(d*x1*x2*y1*y2)+d*(x1*y2+y1*x2)*(y1*y2+x1*x2)*x3*y3) = (-d*y1*x2*y2*y2*y2*y2*x3*x3*y3 -d*y1*x2*x2*y2*y2*y2*x3 -d*y1*x2*x2*y2*y2*y2*x3*x3*x3 -d*y1*x2*x2*x2*y2*y2*y3 +d*y1*x2*x2*x2*y2*y2*y3*y3*y3 +d*y1*x2*x2*x2*x2*y2*x3*y3*y3 +d*x1*x2*y2*y2*y2*y2*x3*y3*y3 -d*x1*x2*x2*y2*y2*y2*y3 +d*x1*x2*x2*y2*y2*y2*y3*y3*y3 -d*x1*x2*x2*x2*y2*y2*x3 -d*x1*x2*x2*x2*y2*y2*x3*x3*x3 -d*x1*x2*x2*x2*x2*y2*x3*x3*y3 +d*d*y1*x2*x2*x2*y2*y2*y2*y2*x3*x3*y3 +d*d*y1*x2*x2*x2*x2*y2*y2*y2*x3*y3*y3 -d*d*x1*x2*x2*x2*y2*y2*y2*y2*x3*y3*y3 -d*d*x1*x2*x2*x2*x2*y2*y2*y2*x3*x3*y3)*(y1*y1-x1*x1-1-d*x1*x1*y1*y1) + (y1*y2*x3 -y1*y2*x3*y3*y3 +y1*y2*x3*x3*x3 +y1*x2*y3 -y1*x2*y3*y3*y3 +y1*x2*x3*x3*y3 -y1*y1*y1*y2*x3 +y1*y1*y1*y2*x3*y3*y3 -y1*y1*y1*y2*x3*x3*x3 -y1*y1*y1*x2*y3 +y1*y1*y1*x2*y3*y3*y3 -y1*y1*y1*x2*x3*x3*y3 +x1*y2*y3 -x1*y2*y3*y3*y3 +x1*y2*x3*x3*y3 +x1*x2*x3 -x1*x2*x3*y3*y3 +x1*x2*x3*x3*x3 -x1*y1*y1*y2*y3 +x1*y1*y1*y2*y3*y3*y3 -x1*y1*y1*y2*x3*x3*y3 -x1*y1*y1*x2*x3 +x1*y1*y1*x2*x3*y3*y3 -x1*y1*y1*x2*x3*x3*x3 +x1*x1*y1*y2*x3 -x1*x1*y1*y2*x3*y3*y3 +x1*x1*y1*y2*x3*x3*x3 +x1*x1*y1*x2*y3 -x1*x1*y1*x2*y3*y3*y3 +x1*x1*y1*x2*x3*x3*y3 +x1*x1*x1*y2*y3 -x1*x1*x1*y2*y3*y3*y3 +x1*x1*x1*y2*x3*x3*y3 +x1*x1*x1*x2*x3 -x1*x1*x1*x2*x3*y3*y3 +x1*x1*x1*x2*x3*x3*x3 +d*y1*y2*x3*x3*x3*y3*y3 +d*y1*x2*x3*x3*y3*y3*y3 -d*y1*x2*y2*y2*x3*x3*y3 -d*y1*x2*x2*y2*x3*y3*y3 -d*y1*y1*y1*y2*x3*x3*x3*y3*y3 -d*y1*y1*y1*x2*x3*x3*y3*y3*y3 +d*y1*y1*y1*x2*y2*y2*x3*x3*y3 +d*y1*y1*y1*x2*x2*y2*x3*y3*y3 +d*x1*y2*x3*x3*y3*y3*y3 +d*x1*x2*x3*x3*x3*y3*y3 +d*x1*x2*y2*y2*x3*y3*y3 +d*x1*x2*x2*y2*x3*x3*y3 -d*x1*y1*y1*y2*x3*x3*y3*y3*y3 -d*x1*y1*y1*x2*x3*x3*x3*y3*y3 -d*x1*y1*y1*x2*y2*y2*x3*y3*y3 -d*x1*y1*y1*x2*x2*y2*x3*x3*y3 +d*x1*x1*y1*y2*x3*x3*x3*y3*y3 +d*x1*x1*y1*x2*x3*x3*y3*y3*y3 -d*x1*x1*y1*x2*y2*y2*x3*x3*y3 -d*x1*x1*y1*x2*x2*y2*x3*y3*y3 +d*x1*x1*x1*y2*x3*x3*y3*y3*y3 +d*x1*x1*x1*x2*x3*x3*x3*y3*y3 +d*x1*x1*x1*x2*y2*y2*x3*y3*y3 +d*x1*x1*x1*x2*x2*y2*x3*x3*y3 +d*d*x1*y1*y1*x2*y2*y2*x3*x3*x3*y3*y3 -d*d*x1*y1*y1*x2*x2*y2*x3*x3*y3*y3*y3 -d*d*x1*x1*y1*x2*y2*y2*x3*x3*y3*y3*y3 +d*d*x1*x1*y1*x2*x2*y2*x3*x3*x3*y3*y3)*(y2*y2-x2*x2-1-d*x2*x2*y2*y2) + (-y1*y2*x3 +y1*y2*y2*y2*x3 -y1*x2*y3 +y1*x2*y2*y2*y3 -y1*x2*x2*y2*x3 -y1*x2*x2*x2*y3 +y1*y1*y1*y2*x3 -y1*y1*y1*y2*y2*y2*x3 +y1*y1*y1*x2*y3 -y1*y1*y1*x2*y2*y2*y3 +y1*y1*y1*x2*x2*y2*x3 +y1*y1*y1*x2*x2*x2*y3 -x1*y2*y3 +x1*y2*y2*y2*y3 -x1*x2*x3 +x1*x2*y2*y2*x3 -x1*x2*x2*y2*y3 -x1*x2*x2*x2*x3 +x1*y1*y1*y2*y3 -x1*y1*y1*y2*y2*y2*y3 +x1*y1*y1*x2*x3 -x1*y1*y1*x2*y2*y2*x3 +x1*y1*y1*x2*x2*y2*y3 +x1*y1*y1*x2*x2*x2*x3 -x1*x1*y1*y2*x3 +x1*x1*y1*y2*y2*y2*x3 -x1*x1*y1*x2*y3 +x1*x1*y1*x2*y2*y2*y3 -x1*x1*y1*x2*x2*y2*x3 -x1*x1*y1*x2*x2*x2*y3 -x1*x1*x1*y2*y3 +x1*x1*x1*y2*y2*y2*y3 -x1*x1*x1*x2*x3 +x1*x1*x1*x2*y2*y2*x3 -x1*x1*x1*x2*x2*y2*y3 -x1*x1*x1*x2*x2*x2*x3 -d*x1*y1*y1*x2*y2*y2*x3 +d*x1*y1*y1*x2*x2*y2*y3 +d*x1*x1*y1*x2*y2*y2*y3 -d*x1*x1*y1*x2*x2*y2*x3)*(y3*y3-x3*x3-1-d*x3*x3*y3*y3) := by grind
theorem ed_y (d x1 y1 x2 y2 x3 y3 : Fin n) : ((y1*y2+x1*x2)*(1+(d*x1*x2*y1*y2))*y3+(x1*y2+y1*x2)*(1-(d*x1*x2*y1*y2))*x3)*(1-(d*x2*x3*y2*y3)*(d*x2*x3*y2*y3)-d*x1*y1*(x2*y3+y2*x3)*(y2*y3+x2*x3))-(y1*(y2*y3+x2*x3)*(1+(d*x2*x3*y2*y3))+x1*(x2*y3+y2*x3)*(1-(d*x2*x3*y2*y3)))*(1-(d*x1*x2*y1*y2)*(d*x1*x2*y1*y2)-d*(x1*y2+y1*x2)*(y1*y2+x1*x2)*x3*y3) = (d*y1*x2*y2*y2*y2*y2*x3*y3*y3 -d*y1*x2*x2*y2*y2*y2*y3 +d*y1*x2*x2*y2*y2*y2*y3*y3*y3 -d*y1*x2*x2*x2*y2*y2*x3 -d*y1*x2*x2*x2*y2*y2*x3*x3*x3 -d*y1*x2*x2*x2*x2*y2*x3*x3*y3 -d*x1*x2*y2*y2*y2*y2*x3*x3*y3 -d*x1*x2*x2*y2*y2*y2*x3 -d*x1*x2*x2*y2*y2*y2*x3*x3*x3 -d*x1*x2*x2*x2*y2*y2*y3 +d*x1*x2*x2*x2*y2*y2*y3*y3*y3 +d*x1*x2*x2*x2*x2*y2*x3*y3*y3 -d*d*y1*x2*x2*x2*y2*y2*y2*y2*x3*y3*y3 -d*d*y1*x2*x2*x2*x2*y2*y2*y2*x3*x3*y3 +d*d*x1*x2*x2*x2*y2*y2*y2*y2*x3*x3*y3 +d*d*x1*x2*x2*x2*x2*y2*y2*y2*x3*y3*y3)*(y1*y1-x1*x1-1-d*x1*x1*y1*y1) + (y1*y2*y3 -y1*y2*y3*y3*y3 +y1*y2*x3*x3*y3 +y1*x2*x3 -y1*x2*x3*y3*y3 +y1*x2*x3*x3*x3 -y1*y1*y1*y2*y3 +y1*y1*y1*y2*y3*y3*y3 -y1*y1*y1*y2*x3*x3*y3 -y1*y1*y1*x2*x3 +y1*y1*y1*x2*x3*y3*y3 -y1*y1*y1*x2*x3*x3*x3 +x1*y2*x3 -x1*y2*x3*y3*y3 +x1*y2*x3*x3*x3 +x1*x2*y3 -x1*x2*y3*y3*y3 +x1*x2*x3*x3*y3 -x1*y1*y1*y2*x3 +x1*y1*y1*y2*x3*y3*y3 -x1*y1*y1*y2*x3*x3*x3 -x1*y1*y1*x2*y3 +x1*y1*y1*x2*y3*y3*y3 -x1*y1*y1*x2*x3*x3*y3 +x1*x1*y1*y2*y3 -x1*x1*y1*y2*y3*y3*y3 +x1*x1*y1*y2*x3*x3*y3 +x1*x1*y1*x2*x3 -x1*x1*y1*x2*x3*y3*y3 +x1*x1*y1*x2*x3*x3*x3 +x1*x1*x1*y2*x3 -x1*x1*x1*y2*x3*y3*y3 +x1*x1*x1*y2*x3*x3*x3 +x1*x1*x1*x2*y3 -x1*x1*x1*x2*y3*y3*y3 +x1*x1*x1*x2*x3*x3*y3 +d*y1*y2*x3*x3*y3*y3*y3 +d*y1*x2*x3*x3*x3*y3*y3 +d*y1*x2*y2*y2*x3*y3*y3 +d*y1*x2*x2*y2*x3*x3*y3 -d*y1*y1*y1*y2*x3*x3*y3*y3*y3 -d*y1*y1*y1*x2*x3*x3*x3*y3*y3 -d*y1*y1*y1*x2*y2*y2*x3*y3*y3 -d*y1*y1*y1*x2*x2*y2*x3*x3*y3 +d*x1*y2*x3*x3*x3*y3*y3 +d*x1*x2*x3*x3*y3*y3*y3 -d*x1*x2*y2*y2*x3*x3*y3 -d*x1*x2*x2*y2*x3*y3*y3 -d*x1*y1*y1*y2*x3*x3*x3*y3*y3 -d*x1*y1*y1*x2*x3*x3*y3*y3*y3 +d*x1*y1*y1*x2*y2*y2*x3*x3*y3 +d*x1*y1*y1*x2*x2*y2*x3*y3*y3 +d*x1*x1*y1*y2*x3*x3*y3*y3*y3 +d*x1*x1*y1*x2*x3*x3*x3*y3*y3 +d*x1*x1*y1*x2*y2*y2*x3*y3*y3 +d*x1*x1*y1*x2*x2*y2*x3*x3*y3 +d*x1*x1*x1*y2*x3*x3*x3*y3*y3 +d*x1*x1*x1*x2*x3*x3*y3*y3*y3 -d*x1*x1*x1*x2*y2*y2*x3*x3*y3 -d*x1*x1*x1*x2*x2*y2*x3*y3*y3 +d*d*x1*y1*y1*x2*y2*y2*x3*x3*y3*y3*y3 -d*d*x1*y1*y1*x2*x2*y2*x3*x3*x3*y3*y3 -d*d*x1*x1*y1*x2*y2*y2*x3*x3*x3*y3*y3 +d*d*x1*x1*y1*x2*x2*y2*x3*x3*y3*y3*y3)*(y2*y2-x2*x2-1-d*x2*x2*y2*y2) + (-y1*y2*y3 +y1*y2*y2*y2*y3 -y1*x2*x3 +y1*x2*y2*y2*x3 -y1*x2*x2*y2*y3 -y1*x2*x2*x2*x3 +y1*y1*y1*y2*y3 -y1*y1*y1*y2*y2*y2*y3 +y1*y1*y1*x2*x3 -y1*y1*y1*x2*y2*y2*x3 +y1*y1*y1*x2*x2*y2*y3 +y1*y1*y1*x2*x2*x2*x3 -x1*y2*x3 +x1*y2*y2*y2*x3 -x1*x2*y3 +x1*x2*y2*y2*y3 -x1*x2*x2*y2*x3 -x1*x2*x2*x2*y3 +x1*y1*y1*y2*x3 -x1*y1*y1*y2*y2*y2*x3 +x1*y1*y1*x2*y3 -x1*y1*y1*x2*y2*y2*y3 +x1*y1*y1*x2*x2*y2*x3 +x1*y1*y1*x2*x2*x2*y3 -x1*x1*y1*y2*y3 +x1*x1*y1*y2*y2*y2*y3 -x1*x1*y1*x2*x3 +x1*x1*y1*x2*y2*y2*x3 -x1*x1*y1*x2*x2*y2*y3 -x1*x1*y1*x2*x2*x2*x3 -x1*x1*x1*y2*x3 +x1*x1*x1*y2*y2*y2*x3 -x1*x1*x1*x2*y3 +x1*x1*x1*x2*y2*y2*y3 -x1*x1*x1*x2*x2*y2*x3 -x1*x1*x1*x2*x2*x2*y3 -d*x1*y1*y1*x2*y2*y2*y3 +d*x1*y1*y1*x2*x2*y2*x3 +d*x1*x1*y1*x2*y2*y2*x3 -d*x1*x1*y1*x2*x2*y2*y3)*(y3*y3-x3*x3-1-d*x3*x3*y3*y3) := by grind
theorem ed_on (d x1 y1 x2 y2 : Fin n) : ((y1*y2+x1*x2)*(y1*y2+x1*x2)*(1+(d*x1*x2*y1*y2))*(1+(d*x1*x2*y1*y2))-(x1*y2+y1*x2)*(x1*y2+y1*x2)*(1-(d*x1*x2*y1*y2))*(1-(d*x1*x2*y1*y2))-(1-(d*x1*x2*y1*y2)*(d*x1*x2*y1*y2))*(1-(d*x1*x2*y1*y2)*(d*x1*x2*y1*y2))-d*(x1*y2+y1*x2)*(x1*y2+y1*x2)*(y1*y2+x1*x2)*(y1*y2+x1*x2)) = (y2*y2*y2*y2 -4*x2*x2*y2*y2 +2*x2*x2*y2*y2*y2*y2 +x2*x2*x2*x2 -2*x2*x2*x2*x2*y2*y2 -2*d*x2*x2*y2*y2 -2*d*x2*x2*x2*x2*y2*y2*y2*y2 -d*y1*y1*x2*x2*y2*y2*y2*y2 +d*y1*y1*x2*x2*x2*x2*y2*y2 +d*x1*x1*x2*x2*y2*y2*y2*y2 -d*x1*x1*x2*x2*x2*x2*y2*y2 -d*d*x2*x2*x2*x2*y2*y2*y2*y2 +d*d*y1*y1*x2*x2*x2*x2*y2*y2*y2*y2 -d*d*x1*x1*x2*x2*x2*x2*y2*y2*y2*y2 +d*d*d*x1*x1*y1*y1*x2*x2*x2*x2*y2*y2*y2*y2)*(y1*y1-x1*x1-1-d*x1*x1*y1*y1) + (1 +y2*y2 -x2*x2 +2*x2*x2*y2*y2 -y1*y1*y2*y2 +y1*y1*x2*x2 -2*y1*y1*x2*x2*y2*y2 +x1*x1*y2*y2 -x1*x1*x2*x2 +2*x1*x1*x2*x2*y2*y2 +d*x2*x2*y2*y2 -2*d*y1*y1*x2*x2*y2*y2 +d*y1*y1*y1*y1*x2*x2*y2*y2 +2*d*x1*x1*x2*x2*y2*y2 +d*x1*x1*x1*x1*x2*x2*y2*y2)*(y2*y2-x2*x2-1-d*x2*x2*y2*y2) := by grind
/-- What the addition needs of the numbers: no divisors of nothing, one over each, a root of -1, d no square. -/
structure EdOk (n : Nat) [NeZero n] (d : Fin n) (iv : Fin n → Fin n) : Prop where
  dom : ∀ a b : Fin n, a * b = 0 → a = 0 ∨ b = 0
  inv : ∀ a : Fin n, a ≠ 0 → a * iv a = 1
  im : ∃ i : Fin n, i * i = -1
  sq : ∀ u v : Fin n, d * u * u = v * v → u = 0
  two : (2 : Fin n) ≠ 0
  one : (1 : Fin n) ≠ 0
def edOn (d : Fin n) (p : Fin n × Fin n) : Prop := p.2 * p.2 - p.1 * p.1 = 1 + d * p.1 * p.1 * p.2 * p.2
def edAdd (d : Fin n) (iv : Fin n → Fin n) (p q : Fin n × Fin n) : Fin n × Fin n :=
  ((p.1 * q.2 + p.2 * q.1) * iv (1 + d * p.1 * q.1 * p.2 * q.2), (p.2 * q.2 + p.1 * q.1) * iv (1 - d * p.1 * q.1 * p.2 * q.2))
variable {d : Fin n} {iv : Fin n → Fin n}
theorem EdOk.cancel (h : EdOk n d iv) {a b c : Fin n} (hc : c ≠ 0) (e : a * c = b * c) : a = b := by
  have h1 : (a - b) * c = 0 := by grind
  rcases h.dom _ _ h1 with h2 | h2
  · grind
  · exact absurd h2 hc
theorem EdOk.mul_ne (h : EdOk n d iv) {a b : Fin n} (ha : a ≠ 0) (hb : b ≠ 0) : a * b ≠ 0 := fun e => by
  rcases h.dom _ _ e with h2 | h2
  · exact ha h2
  · exact hb h2
/-- Both denominators are not nothing. -/
theorem EdOk.full (h : EdOk n d iv) {x1 y1 x2 y2 : Fin n} (h1 : edOn d (x1, y1)) (h2 : edOn d (x2, y2)) : 1 - (d * x1 * x2 * y1 * y2) * (d * x1 * x2 * y1 * y2) ≠ 0 := by
  intro hD
  unfold edOn at h1 h2
  simp only at h1 h2
  obtain ⟨i, hi⟩ := h.im
  have hD2 : (d * x1 * x2 * y1 * y2) * (d * x1 * x2 * y1 * y2) = 1 := by grind
  have key : ∀ j : Fin n, j * j = -1 → d * (x1 * y1 * (y2 + j * x2)) * (x1 * y1 * (y2 + j * x2)) = (y1 + j * (d * x1 * x2 * y1 * y2) * x1) * (y1 + j * (d * x1 * x2 * y1 * y2) * x1) := by
    intro j hj
    have e1 : d * (x1 * y1 * (y2 + j * x2)) * (x1 * y1 * (y2 + j * x2)) = d * x1 * x1 * y1 * y1 * (y2 * y2 + (j * j) * (x2 * x2)) + 2 * j * (d * x1 * x2 * y1 * y2) * x1 * y1 := by grind
    have e2 : (y1 + j * (d * x1 * x2 * y1 * y2) * x1) * (y1 + j * (d * x1 * x2 * y1 * y2) * x1) = y1 * y1 + (j * j) * ((d * x1 * x2 * y1 * y2) * (d * x1 * x2 * y1 * y2)) * (x1 * x1) + 2 * j * (d * x1 * x2 * y1 * y2) * x1 * y1 := by grind
    rw [e1, e2, hj, hD2]
    have e3 : y2 * y2 + -1 * (x2 * x2) = 1 + d * x2 * x2 * y2 * y2 := by grind
    rw [e3]
    have e4 : d * x1 * x1 * y1 * y1 * (1 + d * x2 * x2 * y2 * y2) = d * x1 * x1 * y1 * y1 + (d * x1 * x2 * y1 * y2) * (d * x1 * x2 * y1 * y2) := by grind
    rw [e4, hD2]
    grind
  have k1 := h.sq _ _ (key i hi)
  have k2 := h.sq _ _ (key (-i) (by grind))
  have hxy : x1 * y1 ≠ 0 := by
    intro h0
    have : (d * x1 * x2 * y1 * y2) = d * (x1 * y1) * x2 * y2 := by grind
    rw [this, h0] at hD2
    exact h.one (by grind)
  have k3 : y2 + i * x2 = 0 := (h.dom _ _ k1).resolve_left hxy
  have k4 : y2 + -i * x2 = 0 := (h.dom _ _ k2).resolve_left hxy
  have k5 : 2 * y2 = 0 := by grind
  have k6 : y2 = 0 := (h.dom _ _ k5).resolve_left h.two
  have k7 : 2 * x2 = 0 := by
    have : i * (i * x2) = 0 := by grind
    grind
  have k8 : x2 = 0 := (h.dom _ _ k7).resolve_left h.two
  rw [k6, k8] at h2
  exact h.one (by grind)
theorem EdOk.full_p (h : EdOk n d iv) {x1 y1 x2 y2 : Fin n} (h1 : edOn d (x1, y1)) (h2 : edOn d (x2, y2)) : 1 + d * x1 * x2 * y1 * y2 ≠ 0 := fun e => h.full h1 h2 (by
  have : 1 - (d * x1 * x2 * y1 * y2) * (d * x1 * x2 * y1 * y2) = (1 + d * x1 * x2 * y1 * y2) * (1 - d * x1 * x2 * y1 * y2) := by grind
  rw [this, e]
  grind)
theorem EdOk.full_m (h : EdOk n d iv) {x1 y1 x2 y2 : Fin n} (h1 : edOn d (x1, y1)) (h2 : edOn d (x2, y2)) : 1 - d * x1 * x2 * y1 * y2 ≠ 0 := fun e => h.full h1 h2 (by
  have : 1 - (d * x1 * x2 * y1 * y2) * (d * x1 * x2 * y1 * y2) = (1 + d * x1 * x2 * y1 * y2) * (1 - d * x1 * x2 * y1 * y2) := by grind
  rw [this, e]
  grind)
/-- The sum's places. -/
theorem EdOk.add_is (h : EdOk n d iv) {x1 y1 x2 y2 : Fin n} (h1 : edOn d (x1, y1)) (h2 : edOn d (x2, y2)) :
    (edAdd d iv (x1, y1) (x2, y2)).1 * (1 + d * x1 * x2 * y1 * y2) = x1 * y2 + y1 * x2 ∧ (edAdd d iv (x1, y1) (x2, y2)).2 * (1 - d * x1 * x2 * y1 * y2) = y1 * y2 + x1 * x2 := by
  have i1 := h.inv _ (h.full_p h1 h2)
  have i2 := h.inv _ (h.full_m h1 h2)
  unfold edAdd
  simp only
  generalize iv (1 + d * x1 * x2 * y1 * y2) = u at *
  generalize iv (1 - d * x1 * x2 * y1 * y2) = v at *
  constructor
  · rw [show (x1 * y2 + y1 * x2) * u * (1 + d * x1 * x2 * y1 * y2) = (x1 * y2 + y1 * x2) * ((1 + d * x1 * x2 * y1 * y2) * u) by grind, i1]
    grind
  · rw [show (y1 * y2 + x1 * x2) * v * (1 - d * x1 * x2 * y1 * y2) = (y1 * y2 + x1 * x2) * ((1 - d * x1 * x2 * y1 * y2) * v) by grind, i2]
    grind
theorem ed_zero {x y : Fin n} (h : y * y - x * x = 1 + d * x * x * y * y) : y*y-x*x-1-d*x*x*y*y = 0 := by grind
theorem ed_on2 {D S C : Fin n} (x3 y3 : Fin n) (h1 : x3 * (1 + D) = S) (h2 : y3 * (1 - D) = C) (h : C*C*(1+D)*(1+D)-S*S*(1-D)*(1-D)-(1-D*D)*(1-D*D)-d*S*S*C*C = 0) : (y3 * y3 - x3 * x3) * ((1 - D * D) * (1 - D * D)) = (1 + d * x3 * x3 * y3 * y3) * ((1 - D * D) * (1 - D * D)) := by
  rw [← h1, ← h2] at h
  clear h1 h2
  grind
theorem EdOk.add_on (h : EdOk n d iv) {p q : Fin n × Fin n} (h1 : edOn d p) (h2 : edOn d q) : edOn d (edAdd d iv p q) := by
  obtain ⟨x1, y1⟩ := p
  obtain ⟨x2, y2⟩ := q
  have hs := h.add_is h1 h2
  have hf := h.full h1 h2
  have hid := ed_on d x1 y1 x2 y2
  unfold edOn at h1 h2 ⊢
  simp only at h1 h2
  generalize edAdd d iv (x1, y1) (x2, y2) = r at *
  obtain ⟨x3, y3⟩ := r
  simp only at hs ⊢
  rw [ed_zero h1, ed_zero h2] at hid
  simp only [Fin.mul_zero, Fin.add_zero] at hid
  generalize d * x1 * x2 * y1 * y2 = D at *
  exact h.cancel (c := (1 - D * D) * (1 - D * D)) (h.mul_ne hf hf) (ed_on2 x3 y3 hs.1 hs.2 hid)
theorem ed_den {D S C xa ya x3 y3 : Fin n} (h1 : xa * (1 + D) = S) (h2 : ya * (1 - D) = C) : 1 - D * D + d * S * C * x3 * y3 = (1 - D * D) * (1 + d * xa * x3 * ya * y3) ∧ 1 - D * D - d * S * C * x3 * y3 = (1 - D * D) * (1 - d * xa * x3 * ya * y3) := by
  rw [← h1, ← h2]
  clear h1 h2
  constructor <;> grind
theorem ed_den2 {D S C xa ya x3 y3 : Fin n} (h1 : xa * (1 + D) = S) (h2 : ya * (1 - D) = C) : 1 - D * D + d * x3 * y3 * S * C = (1 - D * D) * (1 + d * x3 * xa * y3 * ya) ∧ 1 - D * D - d * x3 * y3 * S * C = (1 - D * D) * (1 - d * x3 * xa * y3 * ya) := by
  rw [← h1, ← h2]
  clear h1 h2
  constructor <;> grind
theorem ed_num {D S C xa ya x3 y3 xl Q : Fin n} (h1 : xa * (1 + D) = S) (h2 : ya * (1 - D) = C) (h3 : xl * Q = xa * y3 + ya * x3) : S * (1 - D) * y3 + C * (1 + D) * x3 = xl * ((1 - D * D) * Q) := by
  rw [← h1, ← h2, show xl * ((1 - D * D) * Q) = (1 - D * D) * (xl * Q) by clear h1 h2 h3; grind, h3]
  clear h1 h2 h3
  grind
theorem ed_numy {D S C xa ya x3 y3 yl Q : Fin n} (h1 : xa * (1 + D) = S) (h2 : ya * (1 - D) = C) (h3 : yl * Q = ya * y3 + xa * x3) : C * (1 + D) * y3 + S * (1 - D) * x3 = yl * ((1 - D * D) * Q) := by
  rw [← h1, ← h2, show yl * ((1 - D * D) * Q) = (1 - D * D) * (yl * Q) by clear h1 h2 h3; grind, h3]
  clear h1 h2 h3
  grind
theorem ed_num2 {D S C xa ya x3 y3 xl Q : Fin n} (h1 : xa * (1 + D) = S) (h2 : ya * (1 - D) = C) (h3 : xl * Q = x3 * ya + y3 * xa) : x3 * C * (1 + D) + y3 * S * (1 - D) = xl * ((1 - D * D) * Q) := by
  rw [← h1, ← h2, show xl * ((1 - D * D) * Q) = (1 - D * D) * (xl * Q) by clear h1 h2 h3; grind, h3]
  clear h1 h2 h3
  grind
theorem ed_num2y {D S C xa ya x3 y3 yl Q : Fin n} (h1 : xa * (1 + D) = S) (h2 : ya * (1 - D) = C) (h3 : yl * Q = y3 * ya + x3 * xa) : y3 * C * (1 + D) + x3 * S * (1 - D) = yl * ((1 - D * D) * Q) := by
  rw [← h1, ← h2, show yl * ((1 - D * D) * Q) = (1 - D * D) * (yl * Q) by clear h1 h2 h3; grind, h3]
  clear h1 h2 h3
  grind
theorem ed_last {xl xr A B : Fin n} (h : xl * A * B - xr * B * A = 0) : xl * (A * B) = xr * (A * B) := by grind
theorem EdOk.add_assoc (h : EdOk n d iv) {p q r : Fin n × Fin n} (h1 : edOn d p) (h2 : edOn d q) (h3 : edOn d r) : edAdd d iv (edAdd d iv p q) r = edAdd d iv p (edAdd d iv q r) := by
  have oa := h.add_on h1 h2
  have ob := h.add_on h2 h3
  obtain ⟨x1, y1⟩ := p
  obtain ⟨x2, y2⟩ := q
  obtain ⟨x3, y3⟩ := r
  have ha := h.add_is h1 h2
  have hb := h.add_is h2 h3
  have fa := h.full h1 h2
  have fb := h.full h2 h3
  have ix := ed_x d x1 y1 x2 y2 x3 y3
  have iy := ed_y d x1 y1 x2 y2 x3 y3
  rw [ed_zero (x := x1) (y := y1) h1, ed_zero (x := x2) (y := y2) h2, ed_zero (x := x3) (y := y3) h3] at ix iy
  simp only [Fin.mul_zero, Fin.add_zero] at ix iy
  obtain ⟨⟨xa, ya⟩, ea⟩ : ∃ s, edAdd d iv (x1, y1) (x2, y2) = s := ⟨_, rfl⟩
  obtain ⟨⟨xb, yb⟩, eb⟩ : ∃ s, edAdd d iv (x2, y2) (x3, y3) = s := ⟨_, rfl⟩
  rw [ea] at oa ha ⊢
  rw [eb] at ob hb ⊢
  simp only at ha hb
  have hl := h.add_is oa h3
  have hr := h.add_is h1 ob
  have flp := h.full_p oa h3
  have flm := h.full_m oa h3
  have frp := h.full_p h1 ob
  have frm := h.full_m h1 ob
  obtain ⟨⟨xl, yl⟩, el⟩ : ∃ s, edAdd d iv (xa, ya) (x3, y3) = s := ⟨_, rfl⟩
  obtain ⟨⟨xr, yr⟩, er⟩ : ∃ s, edAdd d iv (x1, y1) (xb, yb) = s := ⟨_, rfl⟩
  rw [el] at hl ⊢
  rw [er] at hr ⊢
  simp only at hl hr
  clear ea eb el er oa ob h1 h2 h3
  obtain ⟨S, hS⟩ : ∃ s, x1 * y2 + y1 * x2 = s := ⟨_, rfl⟩
  obtain ⟨C, hC⟩ : ∃ s, y1 * y2 + x1 * x2 = s := ⟨_, rfl⟩
  obtain ⟨S2, hS2⟩ : ∃ s, x2 * y3 + y2 * x3 = s := ⟨_, rfl⟩
  obtain ⟨C2, hC2⟩ : ∃ s, y2 * y3 + x2 * x3 = s := ⟨_, rfl⟩
  rw [hS, hC, hS2, hC2] at ix iy
  rw [hS, hC] at ha
  rw [hS2, hC2] at hb
  obtain ⟨D, hD⟩ : ∃ s, d * x1 * x2 * y1 * y2 = s := ⟨_, rfl⟩
  obtain ⟨E, hE⟩ : ∃ s, d * x2 * x3 * y2 * y3 = s := ⟨_, rfl⟩
  rw [hD] at ha fa
  rw [hE] at hb fb
  rw [hD, hE] at ix iy
  clear hS hC hS2 hC2 hD hE
  have dl := (ed_den (d := d) (x3 := x3) (y3 := y3) ha.1 ha.2).1
  have dl2 := (ed_den (d := d) (x3 := x3) (y3 := y3) ha.1 ha.2).2
  have dr := (ed_den2 (d := d) (x3 := x1) (y3 := y1) hb.1 hb.2).1
  have dr2 := (ed_den2 (d := d) (x3 := x1) (y3 := y1) hb.1 hb.2).2
  have nl := ed_num ha.1 ha.2 hl.1
  have nl2 := ed_numy ha.1 ha.2 hl.2
  have nr := ed_num2 hb.1 hb.2 hr.1
  have nr2 := ed_num2y hb.1 hb.2 hr.2
  rw [← dl] at nl
  rw [← dl2] at nl2
  rw [← dr] at nr
  rw [← dr2] at nr2
  rw [nl, nr] at ix
  rw [nl2, nr2] at iy
  have zl : 1 - D * D + d * S * C * x3 * y3 ≠ 0 := dl ▸ h.mul_ne fa flp
  have zr : 1 - E * E + d * x1 * y1 * S2 * C2 ≠ 0 := dr ▸ h.mul_ne fb frp
  have zl2 : 1 - D * D - d * S * C * x3 * y3 ≠ 0 := dl2 ▸ h.mul_ne fa flm
  have zr2 : 1 - E * E - d * x1 * y1 * S2 * C2 ≠ 0 := dr2 ▸ h.mul_ne fb frm
  have ex : xl = xr := h.cancel (h.mul_ne zl zr) (ed_last ix)
  have ey : yl = yr := h.cancel (h.mul_ne zl2 zr2) (ed_last iy)
  rw [ex, ey]
end
end Go.Proofs.Ytdlmamnnamlleaa
namespace Go.Proofs.Ytdlmamnnamlleaa
set_option maxHeartbeats 2000000
section
variable {n : Nat} [NeZero n] {d : Fin n} {iv : Fin n → Fin n}
/-- A point, so often. -/
def edMul (d : Fin n) (iv : Fin n → Fin n) (p : Fin n × Fin n) : Nat → Fin n × Fin n
  | 0 => (0, 1)
  | k + 1 => edAdd d iv (edMul d iv p k) p
theorem edOn_zero : edOn d (0, 1) := by unfold edOn; simp only; grind
theorem EdOk.iv_one (h : EdOk n d iv) : iv 1 = 1 := by
  have := h.inv 1 h.one
  grind
theorem EdOk.add_zero (h : EdOk n d iv) (p : Fin n × Fin n) : edAdd d iv p (0, 1) = p := by
  obtain ⟨x, y⟩ := p
  unfold edAdd
  simp only
  rw [show 1 + d * x * 0 * y * 1 = 1 by grind, show 1 - d * x * 0 * y * 1 = 1 by grind, h.iv_one]
  refine Prod.ext ?_ ?_
  · simp only; grind
  · simp only; grind
theorem EdOk.mul_on (h : EdOk n d iv) {p : Fin n × Fin n} (hp : edOn d p) : ∀ k, edOn d (edMul d iv p k)
  | 0 => edOn_zero
  | k + 1 => h.add_on (h.mul_on hp k) hp
theorem EdOk.mul_add (h : EdOk n d iv) {p : Fin n × Fin n} (hp : edOn d p) (a : Nat) : ∀ b, edAdd d iv (edMul d iv p a) (edMul d iv p b) = edMul d iv p (a + b)
  | 0 => h.add_zero _
  | b + 1 => by
    show edAdd d iv (edMul d iv p a) (edAdd d iv (edMul d iv p b) p) = edAdd d iv (edMul d iv p (a + b)) p
    rw [← h.add_assoc (h.mul_on hp a) (h.mul_on hp b) hp, h.mul_add hp a b]
theorem EdOk.mul_one (h : EdOk n d iv) {p : Fin n × Fin n} : edMul d iv p 1 = p := by
  show edAdd d iv (0, 1) p = p
  obtain ⟨x, y⟩ := p
  unfold edAdd
  simp only
  rw [show 1 + d * 0 * x * 1 * y = 1 by grind, show 1 - d * 0 * x * 1 * y = 1 by grind, h.iv_one]
  refine Prod.ext ?_ ?_
  · simp only; grind
  · simp only; grind
/-- A point as a fraction. -/
structure Rp (p : Fin n × Fin n) (X Y Z : Fin n) : Prop where
  x : X = p.1 * Z
  y : Y = p.2 * Z
  z : Z ≠ 0
theorem Rp.out (h : EdOk n d iv) {p : Fin n × Fin n} {X Y Z : Fin n} (r : Rp p X Y Z) : X * iv Z = p.1 ∧ Y * iv Z = p.2 := by
  have hi := h.inv _ r.z
  rw [r.x, r.y]
  generalize iv Z = u at *
  constructor <;> grind
theorem rp_s {x1 y1 x2 y2 Z1 Z2 x3 D : Fin n} (h : x3 * (1 + D) = x1 * y2 + y1 * x2) : Z1 * Z2 * (Z1 * Z2 * (Z1 * Z2) - D * (Z1 * Z2 * (Z1 * Z2))) * (x1 * Z1 * (y2 * Z2) + y1 * Z1 * (x2 * Z2)) = x3 * ((Z1 * Z2 * (Z1 * Z2) - D * (Z1 * Z2 * (Z1 * Z2))) * (Z1 * Z2 * (Z1 * Z2) + D * (Z1 * Z2 * (Z1 * Z2)))) := by
  have e : x1 * Z1 * (y2 * Z2) + y1 * Z1 * (x2 * Z2) = (x1 * y2 + y1 * x2) * (Z1 * Z2) := by clear h; grind
  rw [e, ← h]
  clear h e
  grind
theorem rp_c {x1 y1 x2 y2 Z1 Z2 y3 D : Fin n} (h : y3 * (1 - D) = y1 * y2 + x1 * x2) : Z1 * Z2 * (Z1 * Z2 * (Z1 * Z2) + D * (Z1 * Z2 * (Z1 * Z2))) * (x1 * Z1 * (x2 * Z2) + y1 * Z1 * (y2 * Z2)) = y3 * ((Z1 * Z2 * (Z1 * Z2) - D * (Z1 * Z2 * (Z1 * Z2))) * (Z1 * Z2 * (Z1 * Z2) + D * (Z1 * Z2 * (Z1 * Z2)))) := by
  have e : x1 * Z1 * (x2 * Z2) + y1 * Z1 * (y2 * Z2) = (y1 * y2 + x1 * x2) * (Z1 * Z2) := by clear h; grind
  rw [e, ← h]
  clear h e
  grind
/-- The document's sum of two fractions. -/
theorem EdOk.rplus (h : EdOk n d iv) {p q : Fin n × Fin n} (hp : edOn d p) (hq : edOn d q) {X1 Y1 Z1 X2 Y2 Z2 : Fin n} (r1 : Rp p X1 Y1 Z1) (r2 : Rp q X2 Y2 Z2) {b e f g s : Fin n} (hb : b = Z1 * Z2 * (Z1 * Z2)) (he : e = d * (X1 * X2) * (Y1 * Y2)) (hf : f = b - e) (hg : g = b + e) (hs : s = X1 * Y2 + Y1 * X2) :
    Rp (edAdd d iv p q) (Z1 * Z2 * f * s) (Z1 * Z2 * g * (X1 * X2 + Y1 * Y2)) (f * g) := by
  obtain ⟨x1, y1⟩ := p
  obtain ⟨x2, y2⟩ := q
  have ha := h.add_is hp hq
  have fp := h.full_p hp hq
  have fm := h.full_m hp hq
  generalize edAdd d iv (x1, y1) (x2, y2) = t at *
  obtain ⟨x3, y3⟩ := t
  have e1 := r1.x
  have e2 := r1.y
  have e3 := r2.x
  have e4 := r2.y
  have z1 := r1.z
  have z2 := r2.z
  simp only at ha e1 e2 e3 e4
  clear r1 r2 hp hq
  have hee : e = d * x1 * x2 * y1 * y2 * (Z1 * Z2 * (Z1 * Z2)) := by rw [he, e1, e2, e3, e4]; clear ha fp fm he hf hg hs hb; grind
  generalize d * x1 * x2 * y1 * y2 = D at *
  have zz := h.mul_ne z1 z2
  have hff : f = (1 - D) * (Z1 * Z2 * (Z1 * Z2)) := by rw [hf, hb, hee]; clear hf hb hee he hg hs ha; grind
  have hgg : g = (1 + D) * (Z1 * Z2 * (Z1 * Z2)) := by rw [hg, hb, hee]; clear hf hb hee he hg hs ha; grind
  have zf : f ≠ 0 := hff ▸ h.mul_ne fm (h.mul_ne zz zz)
  have zg : g ≠ 0 := hgg ▸ h.mul_ne fp (h.mul_ne zz zz)
  refine ⟨?_, ?_, h.mul_ne zf zg⟩
  · have k := rp_s (Z1 := Z1) (Z2 := Z2) ha.1
    simp only
    rw [hs, hf, hg, hb, hee, e1, e2, e3, e4]
    exact k
  · have k := rp_c (Z1 := Z1) (Z2 := Z2) ha.2
    simp only
    rw [hf, hg, hb, hee, e1, e2, e3, e4]
    exact k
/-- The program's sum. -/
theorem qp_e {x1 y1 x2 y2 Z1 Z2 : Fin n} : (y1 * Z1 + x1 * Z1) * (y2 * Z2 + x2 * Z2) - (y1 * Z1 - x1 * Z1) * (y2 * Z2 - x2 * Z2) = 2 * ((x1 * y2 + y1 * x2) * (Z1 * Z2)) := by grind
theorem qp_h {x1 y1 x2 y2 Z1 Z2 : Fin n} : (y1 * Z1 + x1 * Z1) * (y2 * Z2 + x2 * Z2) + (y1 * Z1 - x1 * Z1) * (y2 * Z2 - x2 * Z2) = 2 * ((y1 * y2 + x1 * x2) * (Z1 * Z2)) := by grind
theorem EdOk.qplus (h : EdOk n d iv) {p q : Fin n × Fin n} (hp : edOn d p) (hq : edOn d q) {X1 Y1 Z1 T1 X2 Y2 Z2 T2 : Fin n} (r1 : Rp p X1 Y1 Z1) (r2 : Rp q X2 Y2 Z2) (t1 : T1 = p.1 * p.2 * Z1) (t2 : T2 = q.1 * q.2 * Z2)
    {a b c c0 z z0 e f g k : Fin n} (ha : a = (Y1 - X1) * (Y2 - X2)) (hb : b = (Y1 + X1) * (Y2 + X2)) (hc0 : c0 = T1 * T2 * d) (hc : c = c0 + c0) (hz0 : z0 = Z1 * Z2) (hz : z = z0 + z0) (he : e = b - a) (hf : f = z - c) (hg : g = z + c) (hk : k = b + a) :
    Rp (edAdd d iv p q) (e * f) (g * k) (f * g) ∧ e * k = (edAdd d iv p q).1 * (edAdd d iv p q).2 * (f * g) := by
  obtain ⟨x1, y1⟩ := p
  obtain ⟨x2, y2⟩ := q
  have hs := h.add_is hp hq
  have fp := h.full_p hp hq
  have fm := h.full_m hp hq
  generalize edAdd d iv (x1, y1) (x2, y2) = t at *
  obtain ⟨x3, y3⟩ := t
  have e1 := r1.x
  have e2 := r1.y
  have e3 := r2.x
  have e4 := r2.y
  have z1 := r1.z
  have z2 := r2.z
  simp only at hs e1 e2 e3 e4 t1 t2 ⊢
  clear r1 r2 hp hq
  have zz := h.mul_ne z1 z2
  rw [e1, e2, e3, e4] at ha hb
  have hE : e = 2 * ((x1 * y2 + y1 * x2) * (Z1 * Z2)) := by rw [he, hb, ha]; exact qp_e
  have hK : k = 2 * ((y1 * y2 + x1 * x2) * (Z1 * Z2)) := by rw [hk, hb, ha]; exact qp_h
  have hC : c = 2 * (d * x1 * x2 * y1 * y2 * (Z1 * Z2)) := by rw [hc, hc0, t1, t2]; clear hs fp fm hE hK ha hb hc hc0; grind
  have hZ : z = 2 * (Z1 * Z2) := by rw [hz, hz0]; clear hs fp fm hE hK hC ha hb hc hc0; grind
  rw [← hs.1] at hE
  rw [← hs.2] at hK
  generalize d * x1 * x2 * y1 * y2 = D at *
  generalize Z1 * Z2 = w at *
  have hF : f = 2 * ((1 - D) * w) := by rw [hf, hZ, hC]; clear hs hE hK hC hZ ha hb hc hc0; grind
  have hG : g = 2 * ((1 + D) * w) := by rw [hg, hZ, hC]; clear hs hE hK hC hZ ha hb hc hc0; grind
  have zf : f ≠ 0 := hF ▸ h.mul_ne h.two (h.mul_ne fm zz)
  have zg : g ≠ 0 := hG ▸ h.mul_ne h.two (h.mul_ne fp zz)
  refine ⟨⟨?_, ?_, h.mul_ne zf zg⟩, ?_⟩
  · simp only
    rw [hE, hF, hG]
    clear hE hK hC hZ hF hG hs ha hb hc hc0 zf zg
    grind
  · simp only
    rw [hK, hF, hG]
    clear hE hK hC hZ hF hG hs ha hb hc hc0 zf zg
    grind
  · rw [hE, hK, hF, hG]
    clear hE hK hC hZ hF hG hs ha hb hc hc0 zf zg
    grind
end
end Go.Proofs.Ytdlmamnnamlleaa
namespace Go.Proofs.Ytdlmamnnamlleaa
set_option maxHeartbeats 2000000
instance neP : NeZero fP := ⟨by have := fP_pos; omega⟩
section
variable {n : Nat} [NeZero n]
/-- A number modulo n. -/
def fi (n : Nat) [NeZero n] (a : Nat) : Fin n := ⟨a % n, Nat.mod_lt _ (Nat.pos_of_ne_zero (NeZero.ne n))⟩
theorem fi_val (a : Nat) : (fi n a).val = a % n := rfl
theorem fi_self (x : Fin n) : fi n x.val = x := Fin.ext (Nat.mod_eq_of_lt x.isLt)
theorem fi_mod (a : Nat) : fi n (a % n) = fi n a := Fin.ext (Nat.mod_mod _ _)
theorem fi_mul (a b : Nat) : fi n (a * b % n) = fi n a * fi n b := Fin.ext (by rw [Fin.val_mul, fi_val, fi_val, fi_val, Nat.mod_mod, Nat.mul_mod])
theorem fi_add (a b : Nat) : fi n ((a + b) % n) = fi n a + fi n b := Fin.ext (by rw [Fin.val_add, fi_val, fi_val, fi_val, Nat.mod_mod, Nat.add_mod])
theorem fi_sub (a b : Nat) : fi n ((a % n + (n - b % n)) % n) = fi n a - fi n b := Fin.ext (by rw [Fin.sub_def, fi_val, fi_val, fi_val, Nat.mod_mod, Nat.add_comm])
theorem fi_less (a b : Nat) (hb : b < n) : fi n ((a + 4 * n - b) % n) = fi n a - fi n b := by
  rw [← fi_sub]
  refine Fin.ext ?_
  rw [fi_val, fi_val, Nat.mod_eq_of_lt hb, Nat.mod_mod, Nat.mod_mod, Nat.mod_add_mod]
  rw [show a + 4 * n - b = a + (n - b) + n * 3 by omega, Nat.add_mul_mod_self_left]
theorem fi_zero : fi n 0 = 0 := Fin.ext (by rw [fi_val, Nat.zero_mod]; rfl)
theorem fi_one : fi n 1 = 1 := Fin.ext rfl
theorem fi_iff (a : Nat) : fi n a = 0 ↔ n ∣ a := by
  constructor
  · intro h
    have := congrArg Fin.val h
    rw [fi_val] at this
    exact Nat.dvd_of_mod_eq_zero (by rw [this]; rfl)
  · intro h
    exact Fin.ext (by rw [fi_val, Nat.mod_eq_zero_of_dvd h]; rfl)
end
/-- One over a number. -/
def ivP (t : Fin fP) : Fin fP := fi fP (invP t.val)
theorem ivP_fi (a : Nat) : ivP (fi fP a) = fi fP (invP a) := by
  unfold ivP invP
  rw [fi_val, pow_mod_P]
theorem d_half : dN ^ ((fP - 1) / 2) % fP = fP - 1 := by
  have h : (fP - 1) / 2 < 2 ^ 256 := Nat.lt_of_le_of_lt (Nat.le_trans (Nat.div_le_self _ _) (Nat.sub_le _ _)) P_lt
  rw [← pwf_is dN 256 _ h]
  decide +kernel
theorem half_P : 2 * ((fP - 1) / 2) = fP - 1 := by decide +kernel
theorem im_P : (19681161376707505956807079304988542015446066515923890162744021073123829784752 * 19681161376707505956807079304988542015446066515923890162744021073123829784752 + 1) % fP = 0 := by decide +kernel
/-- d is no square. -/
theorem d_sq {u v : Nat} (h : dN * u * u % fP = v * v % fP) : u % fP = 0 := by
  have hh := half_P
  have hd := d_half
  have hp := @pow_P
  have h2 := fP_pos
  generalize (fP - 1) / 2 = e at *
  generalize dN = d at *
  rcases Nat.eq_zero_or_pos (u % fP) with hu | hu
  · exact hu
  exfalso
  have hu1 := hp (u := u) (by omega)
  have h3 : (d * u * u) ^ e % fP = (v * v) ^ e % fP := by rw [Nat.pow_mod, h, ← Nat.pow_mod]
  have hs : ∀ x : Nat, (x * x) ^ e = x ^ (fP - 1) := fun x => by rw [← hh, Nat.pow_mul, Nat.pow_two]
  rw [Nat.mul_assoc, Nat.mul_pow, hs, hs, Nat.mul_mod, hd, hu1, Nat.mul_one] at h3
  generalize fP = P at *
  rw [Nat.mod_eq_of_lt (by omega)] at h3
  by_cases hv : v % P = 0
  · rw [Nat.pow_mod, hv, Nat.zero_pow (by omega), Nat.zero_mod] at h3
    omega
  · rw [hp hv] at h3
    omega
theorem edP : EdOk fP (fi fP dN) ivP where
  dom a b h := by
    have h1 := congrArg Fin.val h
    rw [Fin.val_mul] at h1
    have h2 : fP ∣ a.val * b.val := Nat.dvd_of_mod_eq_zero (by rw [h1]; rfl)
    rcases fP_pr.dvd h2 with h3 | h3
    · exact .inl (by rw [← fi_self a]; exact (fi_iff _).2 h3)
    · exact .inr (by rw [← fi_self b]; exact (fi_iff _).2 h3)
  inv a h := by
    have h1 : a.val % fP ≠ 0 := fun e => h (by rw [← fi_self a]; exact (fi_iff _).2 (Nat.dvd_of_mod_eq_zero e))
    have h2 := pow_P h1
    refine (congrArg (· * ivP a) (fi_self a).symm).trans ?_
    show fi fP a.val * fi fP (invP a.val) = 1
    rw [← fi_mul, fi_mod]
    unfold invP
    refine Fin.ext ?_
    rw [fi_val, Nat.mul_mod_mod, Nat.mul_comm, ← Nat.pow_succ]
    have h3 : (fP - 2).succ = fP - 1 := by have := fP_pos; omega
    rw [h3, h2]
    exact (Nat.mod_eq_of_lt (Nat.lt_trans (by omega) fP_pos)).symm
  im := by
    refine ⟨fi fP 19681161376707505956807079304988542015446066515923890162744021073123829784752, ?_⟩
    have h := im_P
    have h1 : fi fP ((19681161376707505956807079304988542015446066515923890162744021073123829784752 * 19681161376707505956807079304988542015446066515923890162744021073123829784752 + 1) % fP) = 0 := by rw [h, fi_zero]
    rw [fi_add, ← fi_mod (_ * _), fi_mul, fi_one] at h1
    generalize fi fP 19681161376707505956807079304988542015446066515923890162744021073123829784752 = i at *
    grind
  sq u v h := by
    have h1 := congrArg Fin.val h
    rw [Fin.val_mul, Fin.val_mul, Fin.val_mul, fi_val, Nat.mod_mul_mod, Nat.mul_assoc, Nat.mod_mul_mod, ← Nat.mul_assoc] at h1
    have h2 := d_sq h1
    rw [← fi_self u]
    exact (fi_iff _).2 (Nat.dvd_of_mod_eq_zero h2)
  two h := by
    have h1 := congrArg Fin.val h
    have h2 : ((2 : Fin fP)).val = 2 % fP := rfl
    rw [h2, Nat.mod_eq_of_lt (Nat.lt_trans (by omega) fP_pos)] at h1
    cases h1
  one h := by
    have h1 := congrArg Fin.val h
    have h2 : ((1 : Fin fP)).val = 1 % fP := rfl
    rw [h2, Nat.mod_eq_of_lt (Nat.lt_trans (by omega) fP_pos)] at h1
    cases h1
end Go.Proofs.Ytdlmamnnamlleaa
namespace Go.Proofs.Ytdlmamnnamlleaa
section
variable {n : Nat} [NeZero n]
def sm (g : Nat → Fin n) : Nat → Fin n
  | 0 => 0
  | k + 1 => sm g k + g k
def pr (g : Nat → Fin n) : Nat → Fin n
  | 0 => 1
  | k + 1 => pr g k * g k
/-- The product of the first k, but for number m. -/
def prs (g : Nat → Fin n) (m : Nat) : Nat → Fin n
  | 0 => 1
  | k + 1 => if k = m then prs g m k else prs g m k * g k
theorem sm_front (g : Nat → Fin n) : ∀ k, sm g (k + 1) = g 0 + sm (fun j => g (j + 1)) k
  | 0 => by show (0 : Fin n) + g 0 = g 0 + 0; grind
  | k + 1 => by
    show sm g (k + 1) + g (k + 1) = g 0 + (sm (fun j => g (j + 1)) k + g (k + 1))
    rw [sm_front g k]; grind
theorem sm_congr {g h : Nat → Fin n} : ∀ k, (∀ j < k, g j = h j) → sm g k = sm h k
  | 0, _ => rfl
  | k + 1, e => by show sm g k + g k = sm h k + h k; rw [sm_congr k fun j hj => e j (by omega), e k (by omega)]
theorem sm_sub {g h : Nat → Fin n} : ∀ k, sm g k - sm h k = sm (fun j => g j - h j) k
  | 0 => by show (0 : Fin n) - 0 = 0; grind
  | k + 1 => by
    have := sm_sub (g := g) (h := h) k
    show sm g k + g k - (sm h k + h k) = sm (fun j => g j - h j) k + (g k - h k)
    rw [← this]; grind
theorem sm_mul {g : Nat → Fin n} (c : Fin n) : ∀ k, sm g k * c = sm (fun j => g j * c) k
  | 0 => by show (0 : Fin n) * c = 0; grind
  | k + 1 => by
    have := sm_mul (g := g) c k
    show (sm g k + g k) * c = sm (fun j => g j * c) k + g k * c
    rw [← this]; grind
theorem prs_last (g : Nat → Fin n) {m k : Nat} (h : m ≠ k) : prs g m (k + 1) = prs g m k * g k := by
  show (if k = m then _ else _) = _; rw [if_neg (fun e => h e.symm)]
theorem prs_far (g : Nat → Fin n) {m : Nat} : ∀ k, k ≤ m → prs g m k = pr g k
  | 0, _ => rfl
  | k + 1, h => by rw [prs_last g (by omega), prs_far g k (by omega)]; rfl
theorem prs_own (g : Nat → Fin n) (k : Nat) : prs g k (k + 1) = pr g k := by
  show (if k = k then _ else _) = _; rw [if_pos rfl, prs_far g k (Nat.le_refl _)]
theorem pr_front (g : Nat → Fin n) : ∀ k, pr g (k + 1) = g 0 * pr (fun j => g (j + 1)) k
  | 0 => by show (1 : Fin n) * g 0 = g 0 * 1; grind
  | k + 1 => by
    show pr g (k + 1) * g (k + 1) = g 0 * (pr (fun j => g (j + 1)) k * g (k + 1))
    rw [pr_front g k]; grind
theorem prs_front (g : Nat → Fin n) (m : Nat) : ∀ k, prs g (m + 1) (k + 1) = g 0 * prs (fun j => g (j + 1)) m k
  | 0 => by
    show (if 0 = m + 1 then _ else (1 : Fin n) * g 0) = g 0 * 1
    rw [if_neg (by omega)]; grind
  | k + 1 => by
    by_cases e : k = m
    · subst e
      rw [prs_own, prs_own, pr_front]
    · rw [prs_last g (show m + 1 ≠ k + 1 by omega), prs_last _ (fun h => e h.symm), prs_front g m k]; grind
theorem prs_zero (g : Nat → Fin n) : ∀ k, prs g 0 (k + 1) = pr (fun j => g (j + 1)) k
  | 0 => by show (if 0 = 0 then (1 : Fin n) else _) = 1; rw [if_pos rfl]
  | k + 1 => by rw [prs_last g (by omega), prs_zero g k]; rfl
/-- The product is the part times the one left out. -/
theorem prs_pr (g : Nat → Fin n) {m : Nat} : ∀ k, m < k → prs g m k * g m = pr g k
  | 0, h => by omega
  | k + 1, h => by
    by_cases e : m = k
    · subst e; rw [prs_own]; rfl
    · have h2 : m < k := by omega
      rw [prs_last g e, show pr g (k + 1) = pr g k * g k from rfl, ← prs_pr g k h2]; grind
variable {iv : Fin n → Fin n}
theorem pr_ne (hiv : ∀ a : Fin n, a ≠ 0 → a * iv a = 1) (h10 : (1 : Fin n) ≠ 0) {a b : Fin n} (ha : a ≠ 0) (hb : b ≠ 0) : a * b ≠ 0 := fun e => by
  have h1 := hiv a ha
  have h2 := hiv b hb
  have : (1 : Fin n) = 0 := by
    have h3 : a * b * (iv a * iv b) = 0 := by rw [e]; grind
    grind
  exact h10 this
theorem iv_mul (hiv : ∀ a : Fin n, a ≠ 0 → a * iv a = 1) (h10 : (1 : Fin n) ≠ 0) {a b : Fin n} (ha : a ≠ 0) (hb : b ≠ 0) : iv a = b * iv (a * b) := by
  have h1 := hiv a ha
  have h3 := hiv (a * b) (pr_ne hiv h10 ha hb)
  generalize iv (a * b) = c at *
  grind
theorem prs_ne (hiv : ∀ a : Fin n, a ≠ 0 → a * iv a = 1) (h10 : (1 : Fin n) ≠ 0) {g : Nat → Fin n} {m : Nat} : ∀ k, (∀ j < k, j ≠ m → g j ≠ 0) → prs g m k ≠ 0
  | 0, _ => h10
  | k + 1, h => by
    by_cases e : m = k
    · subst e
      show (if m = m then _ else _) ≠ _
      rw [if_pos rfl]
      exact prs_ne hiv h10 m fun j hj hm => h j (by omega) hm
    · rw [prs_last g e]
      exact pr_ne hiv h10 (prs_ne hiv h10 k fun j hj hm => h j (by omega) hm) (h k (by omega) fun e2 => e e2.symm)
/-- The bottom of a weight. -/
def dn (X : Nat → Fin n) (k m : Nat) : Fin n := prs (fun j => X m - X j) m k
/-- A divided difference of the first k + 1. -/
def dd (iv : Fin n → Fin n) (X Y : Nat → Fin n) (k : Nat) : Fin n := sm (fun m => Y m * iv (dn X (k + 1) m)) (k + 1)
def Apart (X : Nat → Fin n) (N : Nat) : Prop := ∀ i < N, ∀ j < N, i ≠ j → X i - X j ≠ 0
theorem dn_ne (hiv : ∀ a : Fin n, a ≠ 0 → a * iv a = 1) (h10 : (1 : Fin n) ≠ 0) {X : Nat → Fin n} {N k m : Nat} (hX : Apart X N) (hm : m < N) (hk : k ≤ N) : dn X k m ≠ 0 :=
  prs_ne hiv h10 k fun j hj hn => hX m hm j (by omega) fun e => hn e.symm
theorem dd_step (hiv : ∀ a : Fin n, a ≠ 0 → a * iv a = 1) (h10 : (1 : Fin n) ≠ 0) {X Y : Nat → Fin n} {N k : Nat} (hX : Apart X N) (hk : k + 1 < N) :
    dd iv X Y (k + 1) = (dd iv (fun j => X (j + 1)) (fun j => Y (j + 1)) k - dd iv X Y k) * iv (X (k + 1) - X 0) := by
  have hd := hiv _ (hX (k + 1) hk 0 (by omega) (by omega))
  suffices h : dd iv X Y (k + 1) * (X (k + 1) - X 0) = dd iv (fun j => X (j + 1)) (fun j => Y (j + 1)) k - dd iv X Y k by
    rw [← h]; grind
  have e1 : dd iv (fun j => X (j + 1)) (fun j => Y (j + 1)) k = sm (fun m => Y m * (X m - X 0) * iv (dn X (k + 2) m)) (k + 2) := by
    rw [sm_front]
    have h0 : Y 0 * (X 0 - X 0) * iv (dn X (k + 2) 0) = 0 := by grind
    rw [h0]
    have h1 : dd iv (fun j => X (j + 1)) (fun j => Y (j + 1)) k = sm (fun j => Y (j + 1) * (X (j + 1) - X 0) * iv (dn X (k + 2) (j + 1))) (k + 1) := by
      refine sm_congr _ fun m hm => ?_
      have h2 : dn X (k + 2) (m + 1) = (X (m + 1) - X 0) * dn (fun j => X (j + 1)) (k + 1) m := prs_front _ m (k + 1)
      have h3 : dn (fun j => X (j + 1)) (k + 1) m ≠ 0 := prs_ne hiv h10 _ fun j hj hn => hX (m + 1) (by omega) (j + 1) (by omega) (by omega)
      have h4 := iv_mul hiv h10 h3 (hX (m + 1) (by omega) 0 (by omega) (by omega))
      rw [h2, h4, show (X (m + 1) - X 0) * dn (fun j => X (j + 1)) (k + 1) m = dn (fun j => X (j + 1)) (k + 1) m * (X (m + 1) - X 0) by grind]
      grind
    rw [h1]; grind
  have e2 : dd iv X Y k = sm (fun m => Y m * (X m - X (k + 1)) * iv (dn X (k + 2) m)) (k + 2) := by
    have h0 : sm (fun m => Y m * (X m - X (k + 1)) * iv (dn X (k + 2) m)) (k + 2) = sm (fun m => Y m * (X m - X (k + 1)) * iv (dn X (k + 2) m)) (k + 1) + Y (k + 1) * (X (k + 1) - X (k + 1)) * iv (dn X (k + 2) (k + 1)) := rfl
    rw [h0]
    have h1 : dd iv X Y k = sm (fun m => Y m * (X m - X (k + 1)) * iv (dn X (k + 2) m)) (k + 1) := by
      refine sm_congr _ fun m hm => ?_
      have h2 : dn X (k + 2) m = dn X (k + 1) m * (X m - X (k + 1)) := prs_last _ (by omega)
      have h4 := iv_mul hiv h10 (dn_ne hiv h10 hX (show m < N by omega) (show k + 1 ≤ N by omega)) (hX m (by omega) (k + 1) hk (by omega))
      rw [h2, h4]; grind
    rw [h1]; grind
  rw [e1, e2, sm_sub]
  unfold dd
  rw [sm_mul]
  refine sm_congr _ fun m _ => ?_
  grind
/-- Lagrange's sum over the first N. -/
def lag (iv : Fin n → Fin n) (X Y : Nat → Fin n) (x : Fin n) (N : Nat) : Fin n := sm (fun m => Y m * (prs (fun j => x - X j) m N * iv (dn X N m))) N
theorem lag_step (hiv : ∀ a : Fin n, a ≠ 0 → a * iv a = 1) (h10 : (1 : Fin n) ≠ 0) {X Y : Nat → Fin n} {x : Fin n} {M N : Nat} (hX : Apart X M) (hN : N < M) :
    lag iv X Y x (N + 1) = lag iv X Y x N + dd iv X Y N * pr (fun j => x - X j) N := by
  have h1 : dd iv X Y N * pr (fun j => x - X j) N = sm (fun m => Y m * iv (dn X (N + 1) m) * pr (fun j => x - X j) N) (N + 1) := sm_mul _ _
  have h2 : lag iv X Y x (N + 1) = sm (fun m => Y m * (prs (fun j => x - X j) m (N + 1) * iv (dn X (N + 1) m))) N + Y N * (prs (fun j => x - X j) N (N + 1) * iv (dn X (N + 1) N)) := rfl
  have h3 : sm (fun m => Y m * iv (dn X (N + 1) m) * pr (fun j => x - X j) N) (N + 1) = sm (fun m => Y m * iv (dn X (N + 1) m) * pr (fun j => x - X j) N) N + Y N * iv (dn X (N + 1) N) * pr (fun j => x - X j) N := rfl
  rw [h1, h2, h3, prs_own]
  have h4 : sm (fun m => Y m * (prs (fun j => x - X j) m (N + 1) * iv (dn X (N + 1) m))) N - lag iv X Y x N = sm (fun m => Y m * iv (dn X (N + 1) m) * pr (fun j => x - X j) N) N := by
    unfold lag
    rw [sm_sub]
    refine sm_congr _ fun m hm => ?_
    have h5 : dn X (N + 1) m = dn X N m * (X m - X N) := prs_last _ (by omega)
    have h6 := iv_mul hiv h10 (dn_ne hiv h10 hX (show m < M by omega) (show N ≤ M by omega)) (hX m (by omega) N hN (by omega))
    have h7 := prs_last (fun j => x - X j) (show m ≠ N by omega)
    have h8 := prs_pr (fun j => x - X j) N hm
    rw [← h8, h7, h6, ← h5]
    grind
  rw [← h4]; grind
theorem newton (hiv : ∀ a : Fin n, a ≠ 0 → a * iv a = 1) (h10 : (1 : Fin n) ≠ 0) {X Y : Nat → Fin n} {x : Fin n} {M : Nat} (hX : Apart X M) : ∀ N, N ≤ M → sm (fun k => dd iv X Y k * pr (fun j => x - X j) k) N = lag iv X Y x N
  | 0, _ => rfl
  | N + 1, h => by
    rw [lag_step hiv h10 hX (by omega), ← newton hiv h10 hX N (by omega)]; rfl
/-- A divided difference of the window a .. a + k. -/
def ddw (iv : Fin n → Fin n) (X Y : Nat → Fin n) (a k : Nat) : Fin n := dd iv (fun j => X (a + j)) (fun j => Y (a + j)) k
theorem ddw_zero (hiv : ∀ a : Fin n, a ≠ 0 → a * iv a = 1) (h10 : (1 : Fin n) ≠ 0) (X Y : Nat → Fin n) (a : Nat) : ddw iv X Y a 0 = Y a := by
  have h := hiv 1 h10
  show (0 : Fin n) + Y (a + 0) * iv (prs _ 0 1) = Y a
  rw [prs_own]
  show (0 : Fin n) + Y (a + 0) * iv 1 = Y a
  rw [Nat.add_zero]; grind
theorem ddw_step (hiv : ∀ a : Fin n, a ≠ 0 → a * iv a = 1) (h10 : (1 : Fin n) ≠ 0) {X Y : Nat → Fin n} {N a k : Nat} (hX : Apart X N) (hk : a + k + 1 < N) :
    ddw iv X Y a (k + 1) = (ddw iv X Y (a + 1) k - ddw iv X Y a k) * iv (X (a + k + 1) - X a) := by
  have h := dd_step (X := fun j => X (a + j)) (Y := fun j => Y (a + j)) (N := N - a) hiv h10 (fun i hi j hj hn => hX (a + i) (by omega) (a + j) (by omega) (by omega)) (show k + 1 < N - a by omega)
  unfold ddw
  rw [h]
  have e : ∀ Z : Nat → Fin n, (fun j => Z (a + (j + 1))) = fun j => Z (a + 1 + j) := fun Z => funext fun j => by rw [show a + (j + 1) = a + 1 + j by omega]
  rw [e X, e Y]
  rfl
/-- Newton's table behind k rounds. -/
def tbl (iv : Fin n → Fin n) (X Y : Nat → Fin n) (k j : Nat) : Fin n := if j < k then ddw iv X Y 0 j else ddw iv X Y (j - k) k
theorem tbl_zero (hiv : ∀ a : Fin n, a ≠ 0 → a * iv a = 1) (h10 : (1 : Fin n) ≠ 0) (X Y : Nat → Fin n) (j : Nat) : tbl iv X Y 0 j = Y j := by
  unfold tbl; rw [if_neg (by omega), Nat.sub_zero, ddw_zero hiv h10]
theorem tbl_low {X Y : Nat → Fin n} {k j : Nat} (h : j ≤ k) : tbl iv X Y (k + 1) j = tbl iv X Y k j := by
  unfold tbl
  rw [if_pos (by omega)]
  by_cases e : j < k
  · rw [if_pos e]
  · rw [if_neg e, show j - k = 0 by omega, show j = k by omega]
theorem tbl_step (hiv : ∀ a : Fin n, a ≠ 0 → a * iv a = 1) (h10 : (1 : Fin n) ≠ 0) {X Y : Nat → Fin n} {N k j : Nat} (hX : Apart X N) (hj : j < N) (hk : k + 1 ≤ j) :
    tbl iv X Y (k + 1) j = (tbl iv X Y k j - tbl iv X Y k (j - 1)) * iv (X j - X (j - (k + 1))) := by
  have h := ddw_step (a := j - (k + 1)) (k := k) (Y := Y) hiv h10 hX (by omega)
  unfold tbl
  rw [if_neg (by omega), if_neg (by omega), if_neg (by omega), h, show j - (k + 1) + 1 = j - k by omega, show j - 1 - k = j - (k + 1) by omega, show j - (k + 1) + k + 1 = j by omega]
theorem tbl_end {X Y : Nat → Fin n} {N j : Nat} (h : j < N) : tbl iv X Y (N - 1) j = dd iv X Y j := by
  have e : ∀ k, ddw iv X Y 0 k = dd iv X Y k := fun k => by unfold ddw; simp only [Nat.zero_add]
  unfold tbl
  by_cases e2 : j < N - 1
  · rw [if_pos e2, e]
  · rw [if_neg e2, show j - (N - 1) = 0 by omega, show N - 1 = j by omega, e]
/-- Horner's way, from the last on. -/
theorem horner {d h : Nat → Fin n} {y : Fin n} {i : Nat} : sm (fun k => d k * pr h k) (i + 1) + y * pr h (i + 1) = sm (fun k => d k * pr h k) i + (y * h i + d i) * pr h i := by
  show sm (fun k => d k * pr h k) i + d i * pr h i + y * (pr h i * h i) = _
  grind
end
end Go.Proofs.Ytdlmamnnamlleaa
namespace Go.Proofs.Ytdlmamnnamlleaa
set_option maxHeartbeats 1000000
instance neL : NeZero fL := ⟨by have := fL_pos; omega⟩
def ivL (t : Fin fL) : Fin fL := fi fL (invL t.val)
theorem oneL : (1 : Fin fL) ≠ 0 := fun h => by
  have h1 := congrArg Fin.val h
  have h2 : (1 : Fin fL).val = 1 % fL := rfl
  have h3 : (0 : Fin fL).val = 0 := rfl
  have := fL_pos
  rw [h2, h3, Nat.mod_eq_of_lt (by omega)] at h1
  omega
theorem ivL_mul (a : Fin fL) (h : a ≠ 0) : a * ivL a = 1 := by
  have hp := fL_pos
  have ha : a.val % fL ≠ 0 := fun e => h (Fin.ext (by rw [Nat.mod_eq_of_lt a.isLt] at e; rw [e]; rfl))
  have hq := pow_L ha
  refine Fin.ext ?_
  unfold ivL invL
  rw [Fin.val_mul, fi_val, Nat.mod_mod, Nat.mul_mod_mod, ← Nat.pow_succ', show (fL - 2).succ = fL - 1 by omega]
  show _ = (1 : Fin fL).val
  rw [hq]
  exact (Nat.mod_eq_of_lt (by omega)).symm
/-- a less b, as the program has it. -/
theorem subL (a b : Nat) : (a + (fL - b % fL) % fL) % fL = (fi fL a - fi fL b).val := by
  rw [← fi_sub, fi_val, Nat.mod_mod, Nat.add_mod_mod, Nat.mod_add_mod]
theorem mulL (u v : Fin fL) : u.val * v.val % fL = (u * v).val := (Fin.val_mul u v).symm
theorem addL (u v : Fin fL) : (u.val + v.val) % fL = (u + v).val := (Fin.val_add u v).symm
theorem fiL_val {a : Nat} (h : a < fL) : (fi fL a).val = a := Nat.mod_eq_of_lt h
theorem ivL_val (u : Fin fL) : invL u.val = (ivL u).val := by
  unfold ivL
  rw [fi_val, Nat.mod_eq_of_lt]
  exact lt_L
/-- The shares' places and values modulo the order. -/
def XL (X : Nat → Int) (i : Nat) : Fin fL := fi fL (X i).toNat
def YL (Y : Nat → Nat) (i : Nat) : Fin fL := fi fL (Y i)
theorem apartL {n : Nat} {X : Nat → Int} {Y : Nat → Nat} (h : ∀ i < n, ShOk X Y i) : Apart (XL X) n := fun i hi j hj hn e => by
  have hij : X i ≠ X j := by
    rcases Nat.lt_or_gt_of_ne hn with h1 | h1
    · exact (h j hj).one i h1
    · exact fun e => (h i hi).one j h1 e.symm
  have e2 : XL X i = XL X j := by grind
  have h1 := congrArg Fin.val e2
  have hp := fL_pos
  have a1 := (h i hi).lo; have a2 := (h i hi).hi; have b1 := (h j hj).lo; have b2 := (h j hj).hi
  unfold XL at h1
  rw [fiL_val (by omega), fiL_val (by omega)] at h1
  omega
/-- What shares say at x. -/
def shAt (X : Nat → Int) (Y : Nat → Nat) (x : Int) (n : Nat) : Nat := (lag ivL (XL X) (YL Y) (fi fL x.toNat) n).val
theorem shAt_lt (X : Nat → Int) (Y : Nat → Nat) (x : Int) (n : Nat) : shAt X Y x n < 2 ^ 256 := Nat.lt_trans (Fin.isLt _) fL_lt'
end Go.Proofs.Ytdlmamnnamlleaa
namespace Go.Proofs.Ytdlmamnnamlleaa
open Go.ChangeShapes Go.WideShapes Go.ChangeAt Go.RowKit
set_option maxHeartbeats 2000000
set_option maxRecDepth 100000
attribute [local go_sem ↓] load_shE load_fld load_num store_num execl_num execs_num load_sh store_sh execl_sh execs_sh
attribute [local go_sem] isHead_mk blkOf_mk isAgg_mk cellsV_mk row_drew rowAt_drew row_new_cells row_old rowAt_new rowAt_old setRow_new zeroNum zeroSh
/-- Which numbers have been there. -/
structure ThAt (w : World) (g : Nat) (f : Nat → Bool) : Prop where
  row : Row w g 256
  eq : rowAt w g = arrV 256 fun i => .bool (f i)
theorem ThAt.step {w w' : World} {g : Nat} {f : Nat → Bool} (h : ThAt w g f) (hb : Below w.heap.size w w') : ThAt w' g f := ⟨row_below h.row hb h.row.lt, (rowAt_below hb h.row.lt).trans h.eq⟩
theorem ThAt.cell {w : World} {g : Nat} {f : Nat → Bool} (h : ThAt w g f) {i : Nat} (hi : i < 256) : w.cell? ⟨g, i, none⟩ = some (.bool (f i)) := by rw [h.row.cell, h.eq, arrV_at hi]
theorem ThAt.set {w : World} {g : Nat} {f : Nat → Bool} (h : ThAt w g f) (i : Nat) : ThAt (w.setCell ⟨g, i, none⟩ (.bool true)) g fun j => if j = i then true else f j := ⟨row_setCell.2 h.row, by
  rw [rowAt_setCell_same, h.eq, arrV_set]
  exact arrV_congr fun j _ => by split <;> rfl⟩
theorem zero_b256 : Try.zeroCells170 = arrV 256 fun _ => .bool false := by kernel_rfl
attribute [local irreducible] arrV shA
attribute [local go_sem] zero_b256
theorem share_check (A : Option Addr) (n c : Nat) (X : Nat → Int) (Y : Nat → Nat) (x : Int) (w : World) (hS : Shs w A n X Y) (hnc : n ≤ c) (hY : ∀ i < n, Y i < 2 ^ 256) (hX : ∀ i < n, -9223372036854775808 ≤ X i ∧ X i < 9223372036854775808) : Calls Try.prog 57 #[.slice A n c, .int .i64 x] w fun e w' => (∃ f, e = .returned (.int .i64 f) ∧ FaultIs n X Y x f) ∧ Below w.heap.size w w' := by
  have hSh := Lib.hid hS
  go_enter Try.func57, Try.ntmps57
  by_cases h20 : 20 < n
  · have d1 : decide ((n : Int) > 20) = true := by simp; omega
    have d2 : (20 : Int) < (n : Int) := by omega
    have hh := Lib.hid h20
    clear hSh hS hY hX h20
    go_wp2_with fail
    go_ret
    exact ⟨⟨2, rfl, .inl ⟨hh.out, rfl⟩⟩, Below.refl _ _⟩
  · have d1 : decide ((n : Int) > 20) = false := by simp; omega
    have d2 : ¬ (20 : Int) < (n : Int) := by omega
    by_cases hb : n = 0 ∨ x < 0 ∨ 255 < x
    · have hbh := Lib.hid hb
      have h20h := Lib.hid h20
      clear hSh hS hY hX h20
      rcases hb with rfl | h1 | h1
      · go_wp2_with fail
        go_ret
        exact ⟨⟨1, rfl, .inr (.inl ⟨by omega, .inl rfl, rfl⟩)⟩, Below.refl _ _⟩
      · by_cases h0 : n = 0
        · subst h0
          go_wp2_with fail
          go_ret
          exact ⟨⟨1, rfl, .inr (.inl ⟨by omega, .inl rfl, rfl⟩)⟩, Below.refl _ _⟩
        · have h3 : ((n : Int) == 0) = false := by simp; omega
          go_wp2_with fail
          go_ret
          exact ⟨⟨1, rfl, .inr (.inl ⟨by have := h20h.out; omega, hbh.out, rfl⟩)⟩, Below.refl _ _⟩
      · by_cases h0 : n = 0
        · subst h0
          go_wp2_with fail
          go_ret
          exact ⟨⟨1, rfl, .inr (.inl ⟨by omega, .inl rfl, rfl⟩)⟩, Below.refl _ _⟩
        · have h3 : ((n : Int) == 0) = false := by simp; omega
          have h4 : decide (x < 0) = false := by simp; omega
          go_wp2_with fail
          go_ret
          exact ⟨⟨1, rfl, .inr (.inl ⟨by have := h20h.out; omega, hbh.out, rfl⟩)⟩, Below.refl _ _⟩
    · have h3 : ((n : Int) == 0) = false := by simp; omega
      have h4 : decide (x < 0) = false := by simp; omega
      have h5 : decide (x > 255) = false := by simp; omega
      have hn20 := Lib.hid (show n ≤ 20 by omega)
      have hbh := Lib.hid hb
      clear hS h20 hb
      go_upto_region 7 with (fail)
      have hL0 := below_alloc w (Obj.cells (arrV 256 fun _ => .bool false) 170)
      have hT0 : ThAt (w.alloc (Obj.cells (arrV 256 fun _ => .bool false) 170)) w.heap.size fun _ => false := ⟨(row_new rfl).2 (arrV_size _ _), rowAt_new rfl⟩
      generalize w.alloc _ = W0 at *
      go_loopw [24] (fun i wr => ∃ (k : Nat) (f : Nat → Bool), i = .int .i64 k ∧ k ≤ n ∧ Hid (ThAt wr w.heap.size f) ∧ Hid (Below w.heap.size w wr) ∧ Hid (∀ q : Nat, f q = true ↔ ∃ j < k, X j = (q : Int)) ∧ Hid (∀ j < k, ShOk X Y j)) (fun i _ => n - (intOf i).toNat)
      case atStart => exact ⟨0, fun _ => false, rfl, by omega, Lib.hid hT0, Lib.hid hL0, Lib.hid (fun q => ⟨fun h => (by cases h), fun ⟨j, hj, _⟩ => absurd hj (by omega)⟩), Lib.hid (fun j hj => absurd hj (by omega))⟩
      case round =>
        clear hT0 hL0
        obtain ⟨k, f, rfl, hk, hT, hL, hF, hO⟩ := hrel
        have hS := Lib.hid (hSh.out.step hL.out)
        by_cases hkn : k = n
        · subst hkn
          have hd : decide ((k : Int) < (k : Int)) = false := by simp
          clear hSh hS hT hF hk
          go_wp2_with fail
          go_ret
          exact ⟨⟨0, rfl, .inr (.inr ⟨hn20.out, hbh.out, .inr ⟨hO.out, rfl⟩⟩)⟩, hL.out⟩
        · have hkl : k < n := by omega
          have hd : decide ((k : Int) < (n : Int)) = true := by simp; omega
          have hki : (k : Int) < (n : Int) := by omega
          have hk0 : (0 : Int) ≤ (k : Int) := by omega
          obtain ⟨ad, hA, hal, hac⟩ := hS.out.at_ k hkl
          have hl := pl_ldC (shA_cells (X k) (Y k)).1 (shA_some (X k) (Y k)) hac
          have hl1 := hl.1
          have hl2 := hl.2
          have hAh := Lib.hid hA
          subst hA
          have hcs := shA_cells (X k) (Y k)
          have hcz := shA_cells 0 0
          clear hl hac
          go_upto_region 9 with (fail)
          have hb1 := below_alloc wr (Obj.cells (shA (X k) (Y k)) 107)
          have hG := Lib.hid (Bw.new (w := wr) 107 hcs.1)
          replace hT := Lib.hid (hT.out.step hb1)
          have h7g := Lib.hid hL.out.size
          replace hL := Lib.hid (below_step hb1 hL.out (Nat.le_refl _))
          have hkk := Lib.hid hkl
          have hyk := hY k hkl
          have kCm := Lib.hid (fun V => limb_Cmp (Y k) fL V hyk fL_lt')
          have kLl := Lib.hid (fun V => scalar_L V)
          have hyh := Lib.hid hyk
          clear hS hb1 hl1 hl2 hcz hyk hkn hk hd hAh hki hk0 hcs hX hY h3 h4 h5 d1 d2 hnc
          generalize wr.alloc _ = W1 at *
          generalize wr.heap.size = g7 at *
          obtain ⟨z, hz⟩ : ∃ z, X k = z := ⟨_, rfl⟩
          obtain ⟨y, hy⟩ : ∃ y, Y k = y := ⟨_, rfl⟩
          rw [hz, hy] at hG
          rw [hy] at kCm hyh
          unfold numV at kCm kLl
          have hzh := Lib.hid hz
          have hyy := Lib.hid hy
          clear hz hy
          have hfL := Lib.hid (show order y fL = -1 ∧ y < fL ∨ (order y fL = 0 ∨ order y fL = 1) ∧ ¬ y < fL by
            unfold order
            by_cases h : y < fL
            · exact .inl ⟨if_pos h, h⟩
            · refine .inr ⟨?_, h⟩
              rw [if_neg h]
              split
              · exact .inr rfl
              · exact .inl rfl)
          have hLi : ∀ i, ShOk X Y i → Y i < fL := fun i h => h.y
          obtain ⟨l0, hl0⟩ : ∃ l, fL = l := ⟨_, rfl⟩
          rw [hl0] at kCm kLl hfL
          have hl0h := Lib.hid hl0
          clear hl0 hLi
          by_cases hz1 : z < 1
          · have hd1 : decide (z < 1) = true := by simp; omega
            generalize ha0 : Act.mk _ _ = a0
            have e5 : a0.tmps[5]?.getD undef = .pointer (some ⟨w.heap.size, 0, none⟩) := by rw [← ha0]; rfl
            have e7 : a0.tmps[7]?.getD undef = .pointer (some ⟨g7, 0, none⟩) := by rw [← ha0]; rfl
            have hz0 : a0.tmps.size = 53 := by rw [← ha0]; rfl
            have hha0 := Lib.hid ha0
            clear ha0
            refine wp_region_calm (fun jx_ => match jx_ with | 0 => SRel.is (.pointer (some ⟨g7, 0, none⟩)) | 1 => SRel.is (.int .i64 z) | 2 => SRel.is (.bool true) | 3 => SRel.is (.bool true) | 4 => SRel.any | 5 => SRel.any | 6 => SRel.any | 7 => SRel.is (.bool true) | 8 => SRel.is (.bool true) | 9 => SRel.any | 10 => SRel.any | 11 => SRel.any | 12 => SRel.any | 13 => SRel.any | 14 => SRel.is (.bool true) | 15 => SRel.is (.bool true) | 16 => SRel.any | 17 => SRel.any | 18 => SRel.any | 19 => SRel.any | 20 => SRel.is (.bool true) | _ => SRel.any) (by kernel_rfl) (by kernel_rfl) (by kernel_rfl) (slotsOk_of hz0 (by kernel_rfl)) ⟨?_, ?_, ?_, ?_, ?_, ?_, ?_, ?_, ?_, ?_, ?_, ?_, ?_, ?_, ?_, ?_, ?_, ?_, ?_, ?_, ?_, trivial⟩ ?_
            · refine calm_step rfl fun a ω κ hb hu hc hK => ?_
              have h7 : a.tmps[7]?.getD undef = .pointer (some ⟨g7, 0, none⟩) := (hu 7 rfl).trans e7
              have hk := Lib.hid (fun w1 (h : Below ω.heap.size ω w1) => hK (.pointer (some ⟨g7, 0, none⟩)) w1 rfl h)
              clear hK hu hc
              go_simp
              exact hk.out _ (Below.refl _ _)
            · refine calm_step rfl fun a ω κ hb hu hc hK => ?_
              have h28 : a.tmps[28]?.getD undef = .pointer (some ⟨g7, 0, none⟩) := hc 0 28 rfl rfl
              have hk := Lib.hid (fun w1 (h : Below ω.heap.size ω w1) => hK (.int .i64 z) w1 rfl h)
              clear hK hu hc
              have c0 := (hG.out.step hb).cell (shA_0 _ _)
              go_simp
              exact hk.out _ (Below.refl _ _)
            · refine calm_step rfl fun a ω κ hb hu hc hK => ?_
              have h29 : a.tmps[29]?.getD undef = .int .i64 z := hc 1 29 rfl rfl
              have hk := Lib.hid (fun w1 (h : Below ω.heap.size ω w1) => hK (.bool true) w1 rfl h)
              clear hK hu hc
              go_simp
              exact hk.out _ (Below.refl _ _)
            · refine calm_step rfl fun a ω κ hb hu hc hK => ?_
              have h30 : a.tmps[30]?.getD undef = .bool true := hc 2 30 rfl rfl
              have hk := Lib.hid (fun w1 (h : Below ω.heap.size ω w1) => hK (.bool true) w1 rfl h)
              clear hK hu hc
              go_simp
              exact hk.out _ (Below.refl _ _)
            · exact calm_step_skip (g := 3) (b := false) (d := 31) rfl rfl (fun a w hc => hc 3 31 rfl rfl) (fun _ => trivial)
            · exact calm_step_skip (g := 3) (b := false) (d := 31) rfl rfl (fun a w hc => hc 3 31 rfl rfl) (fun _ => trivial)
            · exact calm_step_skip (g := 3) (b := false) (d := 31) rfl rfl (fun a w hc => hc 3 31 rfl rfl) (fun _ => trivial)
            · refine calm_step rfl fun a ω κ hb hu hc hK => ?_
              have h31 : a.tmps[31]?.getD undef = .bool true := hc 3 31 rfl rfl
              have h34 : (SRel.any).p (a.tmps[34]?.getD undef) ω := hc 6 34 rfl rfl
              have hk := Lib.hid (fun w1 (h : Below ω.heap.size ω w1) => hK (.bool true) w1 rfl h)
              clear hK hu hc
              go_simp
              exact hk.out _ (Below.refl _ _)
            · refine calm_step rfl fun a ω κ hb hu hc hK => ?_
              have h35 : a.tmps[35]?.getD undef = .bool true := hc 7 35 rfl rfl
              have hk := Lib.hid (fun w1 (h : Below ω.heap.size ω w1) => hK (.bool true) w1 rfl h)
              clear hK hu hc
              go_simp
              exact hk.out _ (Below.refl _ _)
            · exact calm_step_skip (g := 8) (b := false) (d := 36) rfl rfl (fun a w hc => hc 8 36 rfl rfl) (fun _ => trivial)
            · exact calm_step_skip (g := 8) (b := false) (d := 36) rfl rfl (fun a w hc => hc 8 36 rfl rfl) (fun _ => trivial)
            · exact calm_step_skip (g := 8) (b := false) (d := 36) rfl rfl (fun a w hc => hc 8 36 rfl rfl) (fun _ => trivial)
            · exact calm_step_skip (g := 8) (b := false) (d := 36) rfl rfl (fun a w hc => hc 8 36 rfl rfl) (fun _ => trivial)
            · exact calm_step_skip (g := 8) (b := false) (d := 36) rfl rfl (fun a w hc => hc 8 36 rfl rfl) (fun _ => trivial)
            · refine calm_step rfl fun a ω κ hb hu hc hK => ?_
              have h36 : a.tmps[36]?.getD undef = .bool true := hc 8 36 rfl rfl
              have h41 : (SRel.any).p (a.tmps[41]?.getD undef) ω := hc 13 41 rfl rfl
              have hk := Lib.hid (fun w1 (h : Below ω.heap.size ω w1) => hK (.bool true) w1 rfl h)
              clear hK hu hc
              go_simp
              exact hk.out _ (Below.refl _ _)
            · refine calm_step rfl fun a ω κ hb hu hc hK => ?_
              have h42 : a.tmps[42]?.getD undef = .bool true := hc 14 42 rfl rfl
              have hk := Lib.hid (fun w1 (h : Below ω.heap.size ω w1) => hK (.bool true) w1 rfl h)
              clear hK hu hc
              go_simp
              exact hk.out _ (Below.refl _ _)
            · exact calm_step_skip (g := 15) (b := false) (d := 43) rfl rfl (fun a w hc => hc 15 43 rfl rfl) (fun _ => trivial)
            · exact calm_step_skip (g := 15) (b := false) (d := 43) rfl rfl (fun a w hc => hc 15 43 rfl rfl) (fun _ => trivial)
            · exact calm_step_skip (g := 15) (b := false) (d := 43) rfl rfl (fun a w hc => hc 15 43 rfl rfl) (fun _ => trivial)
            · exact calm_step_skip (g := 15) (b := false) (d := 43) rfl rfl (fun a w hc => hc 15 43 rfl rfl) (fun _ => trivial)
            · refine calm_step rfl fun a ω κ hb hu hc hK => ?_
              have h43 : a.tmps[43]?.getD undef = .bool true := hc 15 43 rfl rfl
              have h47 : (SRel.any).p (a.tmps[47]?.getD undef) ω := hc 19 47 rfl rfl
              have hk := Lib.hid (fun w1 (h : Below ω.heap.size ω w1) => hK (.bool true) w1 rfl h)
              clear hK hu hc
              go_simp
              exact hk.out _ (Below.refl _ _)
            · intro a1 w1 hb1 hu1 hsz1 hdf1 hc1
              have ha0 := hha0.out
              subst ha0
              have he := act_patch (n := 53) [false, false, false, false, false, false, false, false, false, false, false, false, false, false, false, false, false, false, false, false, false, false, false, false, false, false, false, false, true, true, true, true, true, true, true, true, true, true, true, true, true, true, true, true, true, true, true, true, true, false, false, false, false] rfl (by kernel_rfl) hu1 hsz1 hdf1
              simp only [patch, cond_true, cond_false, Nat.reduceAdd] at he
              have hkn48 : a1.tmps[48]?.getD undef = .bool true := hc1 20 48 rfl
              replace hT := Lib.hid (hT.out.step hb1)
              replace hG := Lib.hid (hG.out.step hb1)
              replace hL := Lib.hid (below_step hb1 hL.out (Nat.le_refl _))
              clear kCm kLl
              clear hb1 hu1 hsz1 hdf1 hc1 hz0 hha0 e5 e7
              rw [he]
              clear he
              rw [hkn48]
              clear hkn48
              generalize a1.tmps[28]?.getD undef = x28 at *
              generalize a1.tmps[29]?.getD undef = x29 at *
              generalize a1.tmps[30]?.getD undef = x30 at *
              generalize a1.tmps[31]?.getD undef = x31 at *
              generalize a1.tmps[32]?.getD undef = x32 at *
              generalize a1.tmps[33]?.getD undef = x33 at *
              generalize a1.tmps[34]?.getD undef = x34 at *
              generalize a1.tmps[35]?.getD undef = x35 at *
              generalize a1.tmps[36]?.getD undef = x36 at *
              generalize a1.tmps[37]?.getD undef = x37 at *
              generalize a1.tmps[38]?.getD undef = x38 at *
              generalize a1.tmps[39]?.getD undef = x39 at *
              generalize a1.tmps[40]?.getD undef = x40 at *
              generalize a1.tmps[41]?.getD undef = x41 at *
              generalize a1.tmps[42]?.getD undef = x42 at *
              generalize a1.tmps[43]?.getD undef = x43 at *
              generalize a1.tmps[44]?.getD undef = x44 at *
              generalize a1.tmps[45]?.getD undef = x45 at *
              generalize a1.tmps[46]?.getD undef = x46 at *
              generalize a1.tmps[47]?.getD undef = x47 at *
              go_wp2_with fail
              go_ret
              exact ⟨⟨1, rfl, .inr (.inr ⟨hn20.out, hbh.out, .inl ⟨⟨k, hkk.out, fun h => by have h1 := h.lo; rw [hzh.out] at h1; omega⟩, rfl⟩⟩)⟩, hL.out⟩
          · have hd1 : decide (z < 1) = false := by simp; omega
            by_cases hz2 : z > 255
            · have hd2 : decide (z > 255) = true := by simp; omega
              generalize ha0 : Act.mk _ _ = a0
              have e5 : a0.tmps[5]?.getD undef = .pointer (some ⟨w.heap.size, 0, none⟩) := by rw [← ha0]; rfl
              have e7 : a0.tmps[7]?.getD undef = .pointer (some ⟨g7, 0, none⟩) := by rw [← ha0]; rfl
              have hz0 : a0.tmps.size = 53 := by rw [← ha0]; rfl
              have hha0 := Lib.hid ha0
              clear ha0
              refine wp_region_calm (fun jx_ => match jx_ with | 0 => SRel.is (.pointer (some ⟨g7, 0, none⟩)) | 1 => SRel.is (.int .i64 z) | 2 => SRel.is (.bool false) | 3 => SRel.is (.bool false) | 4 => SRel.is (.pointer (some ⟨g7, 0, none⟩)) | 5 => SRel.is (.int .i64 z) | 6 => SRel.is (.bool true) | 7 => SRel.is (.bool true) | 8 => SRel.is (.bool true) | 9 => SRel.any | 10 => SRel.any | 11 => SRel.any | 12 => SRel.any | 13 => SRel.any | 14 => SRel.is (.bool true) | 15 => SRel.is (.bool true) | 16 => SRel.any | 17 => SRel.any | 18 => SRel.any | 19 => SRel.any | 20 => SRel.is (.bool true) | _ => SRel.any) (by kernel_rfl) (by kernel_rfl) (by kernel_rfl) (slotsOk_of hz0 (by kernel_rfl)) ⟨?_, ?_, ?_, ?_, ?_, ?_, ?_, ?_, ?_, ?_, ?_, ?_, ?_, ?_, ?_, ?_, ?_, ?_, ?_, ?_, ?_, trivial⟩ ?_
              · refine calm_step rfl fun a ω κ hb hu hc hK => ?_
                have h7 : a.tmps[7]?.getD undef = .pointer (some ⟨g7, 0, none⟩) := (hu 7 rfl).trans e7
                have hk := Lib.hid (fun w1 (h : Below ω.heap.size ω w1) => hK (.pointer (some ⟨g7, 0, none⟩)) w1 rfl h)
                clear hK hu hc
                go_simp
                exact hk.out _ (Below.refl _ _)
              · refine calm_step rfl fun a ω κ hb hu hc hK => ?_
                have h28 : a.tmps[28]?.getD undef = .pointer (some ⟨g7, 0, none⟩) := hc 0 28 rfl rfl
                have hk := Lib.hid (fun w1 (h : Below ω.heap.size ω w1) => hK (.int .i64 z) w1 rfl h)
                clear hK hu hc
                have c0 := (hG.out.step hb).cell (shA_0 _ _)
                go_simp
                exact hk.out _ (Below.refl _ _)
              · refine calm_step rfl fun a ω κ hb hu hc hK => ?_
                have h29 : a.tmps[29]?.getD undef = .int .i64 z := hc 1 29 rfl rfl
                have hk := Lib.hid (fun w1 (h : Below ω.heap.size ω w1) => hK (.bool false) w1 rfl h)
                clear hK hu hc
                go_simp
                exact hk.out _ (Below.refl _ _)
              · refine calm_step rfl fun a ω κ hb hu hc hK => ?_
                have h30 : a.tmps[30]?.getD undef = .bool false := hc 2 30 rfl rfl
                have hk := Lib.hid (fun w1 (h : Below ω.heap.size ω w1) => hK (.bool false) w1 rfl h)
                clear hK hu hc
                go_simp
                exact hk.out _ (Below.refl _ _)
              · refine calm_step_guard (g := 3) (b := false) (d := 31) rfl rfl (fun a w hc => hc 3 31 rfl rfl) fun a ω κ hb hu hc hK => ?_
                have h7 : a.tmps[7]?.getD undef = .pointer (some ⟨g7, 0, none⟩) := (hu 7 rfl).trans e7
                have hk := Lib.hid (fun w1 (h : Below ω.heap.size ω w1) => hK (.pointer (some ⟨g7, 0, none⟩)) w1 rfl h)
                clear hK hu hc
                go_simp
                exact hk.out _ (Below.refl _ _)
              · refine calm_step_guard (g := 3) (b := false) (d := 31) rfl rfl (fun a w hc => hc 3 31 rfl rfl) fun a ω κ hb hu hc hK => ?_
                have h32 : a.tmps[32]?.getD undef = .pointer (some ⟨g7, 0, none⟩) := hc 4 32 rfl rfl
                have hk := Lib.hid (fun w1 (h : Below ω.heap.size ω w1) => hK (.int .i64 z) w1 rfl h)
                clear hK hu hc
                have c0 := (hG.out.step hb).cell (shA_0 _ _)
                go_simp
                exact hk.out _ (Below.refl _ _)
              · refine calm_step_guard (g := 3) (b := false) (d := 31) rfl rfl (fun a w hc => hc 3 31 rfl rfl) fun a ω κ hb hu hc hK => ?_
                have h33 : a.tmps[33]?.getD undef = .int .i64 z := hc 5 33 rfl rfl
                have hk := Lib.hid (fun w1 (h : Below ω.heap.size ω w1) => hK (.bool true) w1 rfl h)
                clear hK hu hc
                go_simp
                exact hk.out _ (Below.refl _ _)
              · refine calm_step rfl fun a ω κ hb hu hc hK => ?_
                have h31 : a.tmps[31]?.getD undef = .bool false := hc 3 31 rfl rfl
                have h34 : a.tmps[34]?.getD undef = .bool true := hc 6 34 rfl rfl
                have hk := Lib.hid (fun w1 (h : Below ω.heap.size ω w1) => hK (.bool true) w1 rfl h)
                clear hK hu hc
                go_simp
                exact hk.out _ (Below.refl _ _)
              · refine calm_step rfl fun a ω κ hb hu hc hK => ?_
                have h35 : a.tmps[35]?.getD undef = .bool true := hc 7 35 rfl rfl
                have hk := Lib.hid (fun w1 (h : Below ω.heap.size ω w1) => hK (.bool true) w1 rfl h)
                clear hK hu hc
                go_simp
                exact hk.out _ (Below.refl _ _)
              · exact calm_step_skip (g := 8) (b := false) (d := 36) rfl rfl (fun a w hc => hc 8 36 rfl rfl) (fun _ => trivial)
              · exact calm_step_skip (g := 8) (b := false) (d := 36) rfl rfl (fun a w hc => hc 8 36 rfl rfl) (fun _ => trivial)
              · exact calm_step_skip (g := 8) (b := false) (d := 36) rfl rfl (fun a w hc => hc 8 36 rfl rfl) (fun _ => trivial)
              · exact calm_step_skip (g := 8) (b := false) (d := 36) rfl rfl (fun a w hc => hc 8 36 rfl rfl) (fun _ => trivial)
              · exact calm_step_skip (g := 8) (b := false) (d := 36) rfl rfl (fun a w hc => hc 8 36 rfl rfl) (fun _ => trivial)
              · refine calm_step rfl fun a ω κ hb hu hc hK => ?_
                have h36 : a.tmps[36]?.getD undef = .bool true := hc 8 36 rfl rfl
                have h41 : (SRel.any).p (a.tmps[41]?.getD undef) ω := hc 13 41 rfl rfl
                have hk := Lib.hid (fun w1 (h : Below ω.heap.size ω w1) => hK (.bool true) w1 rfl h)
                clear hK hu hc
                go_simp
                exact hk.out _ (Below.refl _ _)
              · refine calm_step rfl fun a ω κ hb hu hc hK => ?_
                have h42 : a.tmps[42]?.getD undef = .bool true := hc 14 42 rfl rfl
                have hk := Lib.hid (fun w1 (h : Below ω.heap.size ω w1) => hK (.bool true) w1 rfl h)
                clear hK hu hc
                go_simp
                exact hk.out _ (Below.refl _ _)
              · exact calm_step_skip (g := 15) (b := false) (d := 43) rfl rfl (fun a w hc => hc 15 43 rfl rfl) (fun _ => trivial)
              · exact calm_step_skip (g := 15) (b := false) (d := 43) rfl rfl (fun a w hc => hc 15 43 rfl rfl) (fun _ => trivial)
              · exact calm_step_skip (g := 15) (b := false) (d := 43) rfl rfl (fun a w hc => hc 15 43 rfl rfl) (fun _ => trivial)
              · exact calm_step_skip (g := 15) (b := false) (d := 43) rfl rfl (fun a w hc => hc 15 43 rfl rfl) (fun _ => trivial)
              · refine calm_step rfl fun a ω κ hb hu hc hK => ?_
                have h43 : a.tmps[43]?.getD undef = .bool true := hc 15 43 rfl rfl
                have h47 : (SRel.any).p (a.tmps[47]?.getD undef) ω := hc 19 47 rfl rfl
                have hk := Lib.hid (fun w1 (h : Below ω.heap.size ω w1) => hK (.bool true) w1 rfl h)
                clear hK hu hc
                go_simp
                exact hk.out _ (Below.refl _ _)
              · intro a1 w1 hb1 hu1 hsz1 hdf1 hc1
                have ha0 := hha0.out
                subst ha0
                have he := act_patch (n := 53) [false, false, false, false, false, false, false, false, false, false, false, false, false, false, false, false, false, false, false, false, false, false, false, false, false, false, false, false, true, true, true, true, true, true, true, true, true, true, true, true, true, true, true, true, true, true, true, true, true, false, false, false, false] rfl (by kernel_rfl) hu1 hsz1 hdf1
                simp only [patch, cond_true, cond_false, Nat.reduceAdd] at he
                have hkn48 : a1.tmps[48]?.getD undef = .bool true := hc1 20 48 rfl
                replace hT := Lib.hid (hT.out.step hb1)
                replace hG := Lib.hid (hG.out.step hb1)
                replace hL := Lib.hid (below_step hb1 hL.out (Nat.le_refl _))
                clear kCm kLl
                clear hb1 hu1 hsz1 hdf1 hc1 hz0 hha0 e5 e7
                rw [he]
                clear he
                rw [hkn48]
                clear hkn48
                generalize a1.tmps[28]?.getD undef = x28 at *
                generalize a1.tmps[29]?.getD undef = x29 at *
                generalize a1.tmps[30]?.getD undef = x30 at *
                generalize a1.tmps[31]?.getD undef = x31 at *
                generalize a1.tmps[32]?.getD undef = x32 at *
                generalize a1.tmps[33]?.getD undef = x33 at *
                generalize a1.tmps[34]?.getD undef = x34 at *
                generalize a1.tmps[35]?.getD undef = x35 at *
                generalize a1.tmps[36]?.getD undef = x36 at *
                generalize a1.tmps[37]?.getD undef = x37 at *
                generalize a1.tmps[38]?.getD undef = x38 at *
                generalize a1.tmps[39]?.getD undef = x39 at *
                generalize a1.tmps[40]?.getD undef = x40 at *
                generalize a1.tmps[41]?.getD undef = x41 at *
                generalize a1.tmps[42]?.getD undef = x42 at *
                generalize a1.tmps[43]?.getD undef = x43 at *
                generalize a1.tmps[44]?.getD undef = x44 at *
                generalize a1.tmps[45]?.getD undef = x45 at *
                generalize a1.tmps[46]?.getD undef = x46 at *
                generalize a1.tmps[47]?.getD undef = x47 at *
                go_wp2_with fail
                go_ret
                exact ⟨⟨1, rfl, .inr (.inr ⟨hn20.out, hbh.out, .inl ⟨⟨k, hkk.out, fun h => by have h1 := h.hi; rw [hzh.out] at h1; omega⟩, rfl⟩⟩)⟩, hL.out⟩
            · have hd2 : decide (z > 255) = false := by simp; omega
              obtain ⟨q, rfl⟩ : ∃ q : Nat, z = (q : Int) := ⟨z.toNat, by omega⟩
              rcases hfL.out with ⟨ho, hlt⟩ | ⟨ho, hge⟩
              · rw [ho] at kCm
                have hq256 : q < 256 := by omega
                have hq0 : (0 : Int) ≤ (q : Int) := by omega
                have hqi : (q : Int) < 256 := by omega
                obtain ⟨b, hfb⟩ : ∃ b, f q = b := ⟨_, rfl⟩
                have hfh := Lib.hid hfb
                clear hfb
                cases b
                · clear ho
                  generalize ha0 : Act.mk _ _ = a0
                  have e5 : a0.tmps[5]?.getD undef = .pointer (some ⟨w.heap.size, 0, none⟩) := by rw [← ha0]; rfl
                  have e7 : a0.tmps[7]?.getD undef = .pointer (some ⟨g7, 0, none⟩) := by rw [← ha0]; rfl
                  have hz0 : a0.tmps.size = 53 := by rw [← ha0]; rfl
                  have hha0 := Lib.hid ha0
                  clear ha0
                  refine wp_region_calm (fun jx_ => match jx_ with | 0 => SRel.is (.pointer (some ⟨g7, 0, none⟩)) | 1 => SRel.is (.int .i64 (q : Nat)) | 2 => SRel.is (.bool false) | 3 => SRel.is (.bool false) | 4 => SRel.is (.pointer (some ⟨g7, 0, none⟩)) | 5 => SRel.is (.int .i64 (q : Nat)) | 6 => SRel.is (.bool false) | 7 => SRel.is (.bool false) | 8 => SRel.is (.bool false) | 9 => SRel.is (.pointer (some ⟨g7, 1, none⟩)) | 10 => SRel.is (.agg (arrK .u64 4 (wd y))) | 11 => SRel.is (.agg (arrK .u64 4 (wd l0))) | 12 => SRel.is (.int .i64 (-1)) | 13 => SRel.is (.bool false) | 14 => SRel.is (.bool false) | 15 => SRel.is (.bool false) | 16 => SRel.is (.pointer (some ⟨g7, 0, none⟩)) | 17 => SRel.is (.int .i64 (q : Nat)) | 18 => SRel.is (.pointer (some ⟨w.heap.size, q, none⟩)) | 19 => SRel.is (.bool false) | 20 => SRel.is (.bool false) | _ => SRel.any) (by kernel_rfl) (by kernel_rfl) (by kernel_rfl) (slotsOk_of hz0 (by kernel_rfl)) ⟨?_, ?_, ?_, ?_, ?_, ?_, ?_, ?_, ?_, ?_, ?_, ?_, ?_, ?_, ?_, ?_, ?_, ?_, ?_, ?_, ?_, trivial⟩ ?_
                  · refine calm_step rfl fun a ω κ hb hu hc hK => ?_
                    have h7 : a.tmps[7]?.getD undef = .pointer (some ⟨g7, 0, none⟩) := (hu 7 rfl).trans e7
                    have hk := Lib.hid (fun w1 (h : Below ω.heap.size ω w1) => hK (.pointer (some ⟨g7, 0, none⟩)) w1 rfl h)
                    clear hK hu hc
                    go_simp
                    exact hk.out _ (Below.refl _ _)
                  · refine calm_step rfl fun a ω κ hb hu hc hK => ?_
                    have h28 : a.tmps[28]?.getD undef = .pointer (some ⟨g7, 0, none⟩) := hc 0 28 rfl rfl
                    have hk := Lib.hid (fun w1 (h : Below ω.heap.size ω w1) => hK (.int .i64 (q : Nat)) w1 rfl h)
                    clear hK hu hc
                    have c0 := (hG.out.step hb).cell (shA_0 _ _)
                    go_simp
                    exact hk.out _ (Below.refl _ _)
                  · refine calm_step rfl fun a ω κ hb hu hc hK => ?_
                    have h29 : a.tmps[29]?.getD undef = .int .i64 (q : Nat) := hc 1 29 rfl rfl
                    have hk := Lib.hid (fun w1 (h : Below ω.heap.size ω w1) => hK (.bool false) w1 rfl h)
                    clear hK hu hc
                    go_simp
                    exact hk.out _ (Below.refl _ _)
                  · refine calm_step rfl fun a ω κ hb hu hc hK => ?_
                    have h30 : a.tmps[30]?.getD undef = .bool false := hc 2 30 rfl rfl
                    have hk := Lib.hid (fun w1 (h : Below ω.heap.size ω w1) => hK (.bool false) w1 rfl h)
                    clear hK hu hc
                    go_simp
                    exact hk.out _ (Below.refl _ _)
                  · refine calm_step_guard (g := 3) (b := false) (d := 31) rfl rfl (fun a w hc => hc 3 31 rfl rfl) fun a ω κ hb hu hc hK => ?_
                    have h7 : a.tmps[7]?.getD undef = .pointer (some ⟨g7, 0, none⟩) := (hu 7 rfl).trans e7
                    have hk := Lib.hid (fun w1 (h : Below ω.heap.size ω w1) => hK (.pointer (some ⟨g7, 0, none⟩)) w1 rfl h)
                    clear hK hu hc
                    go_simp
                    exact hk.out _ (Below.refl _ _)
                  · refine calm_step_guard (g := 3) (b := false) (d := 31) rfl rfl (fun a w hc => hc 3 31 rfl rfl) fun a ω κ hb hu hc hK => ?_
                    have h32 : a.tmps[32]?.getD undef = .pointer (some ⟨g7, 0, none⟩) := hc 4 32 rfl rfl
                    have hk := Lib.hid (fun w1 (h : Below ω.heap.size ω w1) => hK (.int .i64 (q : Nat)) w1 rfl h)
                    clear hK hu hc
                    have c0 := (hG.out.step hb).cell (shA_0 _ _)
                    go_simp
                    exact hk.out _ (Below.refl _ _)
                  · refine calm_step_guard (g := 3) (b := false) (d := 31) rfl rfl (fun a w hc => hc 3 31 rfl rfl) fun a ω κ hb hu hc hK => ?_
                    have h33 : a.tmps[33]?.getD undef = .int .i64 (q : Nat) := hc 5 33 rfl rfl
                    have hk := Lib.hid (fun w1 (h : Below ω.heap.size ω w1) => hK (.bool false) w1 rfl h)
                    clear hK hu hc
                    go_simp
                    exact hk.out _ (Below.refl _ _)
                  · refine calm_step rfl fun a ω κ hb hu hc hK => ?_
                    have h31 : a.tmps[31]?.getD undef = .bool false := hc 3 31 rfl rfl
                    have h34 : a.tmps[34]?.getD undef = .bool false := hc 6 34 rfl rfl
                    have hk := Lib.hid (fun w1 (h : Below ω.heap.size ω w1) => hK (.bool false) w1 rfl h)
                    clear hK hu hc
                    go_simp
                    exact hk.out _ (Below.refl _ _)
                  · refine calm_step rfl fun a ω κ hb hu hc hK => ?_
                    have h35 : a.tmps[35]?.getD undef = .bool false := hc 7 35 rfl rfl
                    have hk := Lib.hid (fun w1 (h : Below ω.heap.size ω w1) => hK (.bool false) w1 rfl h)
                    clear hK hu hc
                    go_simp
                    exact hk.out _ (Below.refl _ _)
                  · refine calm_step_guard (g := 8) (b := false) (d := 36) rfl rfl (fun a w hc => hc 8 36 rfl rfl) fun a ω κ hb hu hc hK => ?_
                    have h7 : a.tmps[7]?.getD undef = .pointer (some ⟨g7, 0, none⟩) := (hu 7 rfl).trans e7
                    have hk := Lib.hid (fun w1 (h : Below ω.heap.size ω w1) => hK (.pointer (some ⟨g7, 1, none⟩)) w1 rfl h)
                    clear hK hu hc
                    go_simp
                    exact hk.out _ (Below.refl _ _)
                  · refine calm_step_guard (g := 8) (b := false) (d := 36) rfl rfl (fun a w hc => hc 8 36 rfl rfl) fun a ω κ hb hu hc hK => ?_
                    have h37 : a.tmps[37]?.getD undef = .pointer (some ⟨g7, 1, none⟩) := hc 9 37 rfl rfl
                    have hk := Lib.hid (fun w1 (h : Below ω.heap.size ω w1) => hK (.agg (arrK .u64 4 (wd y))) w1 rfl h)
                    clear hK hu hc
                    have hl := pl_ld (o := 1) (n := 4) (hG.out.step hb).row (hG.out.step hb).eq (shA_1 _ _) (arrK_size _ _ _) pl_some
                    have hl1 := hl.1
                    have hl2 := hl.2
                    clear hl
                    go_simp
                    exact hk.out _ (Below.refl _ _)
                  · refine calm_step_guard (g := 8) (b := false) (d := 36) rfl rfl (fun a w hc => hc 8 36 rfl rfl) fun a ω κ hb hu hc hK => ?_
                    have hk := Lib.hid (fun w1 (h : Below ω.heap.size ω w1) => hK (.agg (arrK .u64 4 (wd l0))) w1 rfl h)
                    clear hK hu hc
                    go_simp
                    go_at_call 112
                    refine (kLl.out _).mono ?_
                    rintro e w1 ⟨rfl, hb1⟩
                    exact hk.out _ hb1
                  · refine calm_step_guard (g := 8) (b := false) (d := 36) rfl rfl (fun a w hc => hc 8 36 rfl rfl) fun a ω κ hb hu hc hK => ?_
                    have h38 : a.tmps[38]?.getD undef = .agg (arrK .u64 4 (wd y)) := hc 10 38 rfl rfl
                    have h39 : a.tmps[39]?.getD undef = .agg (arrK .u64 4 (wd l0)) := hc 11 39 rfl rfl
                    have hk := Lib.hid (fun w1 (h : Below ω.heap.size ω w1) => hK (.int .i64 (-1)) w1 rfl h)
                    clear hK hu hc
                    go_simp
                    go_at_call 111
                    refine (kCm.out _).mono ?_
                    rintro e w1 ⟨rfl, hb1⟩
                    exact hk.out _ hb1
                  · refine calm_step_guard (g := 8) (b := false) (d := 36) rfl rfl (fun a w hc => hc 8 36 rfl rfl) fun a ω κ hb hu hc hK => ?_
                    have h40 : a.tmps[40]?.getD undef = .int .i64 (-1) := hc 12 40 rfl rfl
                    have hk := Lib.hid (fun w1 (h : Below ω.heap.size ω w1) => hK (.bool false) w1 rfl h)
                    clear hK hu hc
                    go_simp
                    exact hk.out _ (Below.refl _ _)
                  · refine calm_step rfl fun a ω κ hb hu hc hK => ?_
                    have h36 : a.tmps[36]?.getD undef = .bool false := hc 8 36 rfl rfl
                    have h41 : a.tmps[41]?.getD undef = .bool false := hc 13 41 rfl rfl
                    have hk := Lib.hid (fun w1 (h : Below ω.heap.size ω w1) => hK (.bool false) w1 rfl h)
                    clear hK hu hc
                    go_simp
                    exact hk.out _ (Below.refl _ _)
                  · refine calm_step rfl fun a ω κ hb hu hc hK => ?_
                    have h42 : a.tmps[42]?.getD undef = .bool false := hc 14 42 rfl rfl
                    have hk := Lib.hid (fun w1 (h : Below ω.heap.size ω w1) => hK (.bool false) w1 rfl h)
                    clear hK hu hc
                    go_simp
                    exact hk.out _ (Below.refl _ _)
                  · refine calm_step_guard (g := 15) (b := false) (d := 43) rfl rfl (fun a w hc => hc 15 43 rfl rfl) fun a ω κ hb hu hc hK => ?_
                    have h7 : a.tmps[7]?.getD undef = .pointer (some ⟨g7, 0, none⟩) := (hu 7 rfl).trans e7
                    have hk := Lib.hid (fun w1 (h : Below ω.heap.size ω w1) => hK (.pointer (some ⟨g7, 0, none⟩)) w1 rfl h)
                    clear hK hu hc
                    go_simp
                    exact hk.out _ (Below.refl _ _)
                  · refine calm_step_guard (g := 15) (b := false) (d := 43) rfl rfl (fun a w hc => hc 15 43 rfl rfl) fun a ω κ hb hu hc hK => ?_
                    have h44 : a.tmps[44]?.getD undef = .pointer (some ⟨g7, 0, none⟩) := hc 16 44 rfl rfl
                    have hk := Lib.hid (fun w1 (h : Below ω.heap.size ω w1) => hK (.int .i64 (q : Nat)) w1 rfl h)
                    clear hK hu hc
                    have c0 := (hG.out.step hb).cell (shA_0 _ _)
                    go_simp
                    exact hk.out _ (Below.refl _ _)
                  · refine calm_step_guard (g := 15) (b := false) (d := 43) rfl rfl (fun a w hc => hc 15 43 rfl rfl) fun a ω κ hb hu hc hK => ?_
                    have h5 : a.tmps[5]?.getD undef = .pointer (some ⟨w.heap.size, 0, none⟩) := (hu 5 rfl).trans e5
                    have h45 : a.tmps[45]?.getD undef = .int .i64 (q : Nat) := hc 17 45 rfl rfl
                    have hk := Lib.hid (fun w1 (h : Below ω.heap.size ω w1) => hK (.pointer (some ⟨w.heap.size, q, none⟩)) w1 rfl h)
                    clear hK hu hc
                    go_simp
                    exact hk.out _ (Below.refl _ _)
                  · refine calm_step_guard (g := 15) (b := false) (d := 43) rfl rfl (fun a w hc => hc 15 43 rfl rfl) fun a ω κ hb hu hc hK => ?_
                    have h46 : a.tmps[46]?.getD undef = .pointer (some ⟨w.heap.size, q, none⟩) := hc 18 46 rfl rfl
                    have hk := Lib.hid (fun w1 (h : Below ω.heap.size ω w1) => hK (.bool false) w1 rfl h)
                    clear hK hu hc
                    have c0 := (hT.out.step hb).cell hq256
                    rw [hfh.out] at c0
                    go_simp
                    exact hk.out _ (Below.refl _ _)
                  · refine calm_step rfl fun a ω κ hb hu hc hK => ?_
                    have h43 : a.tmps[43]?.getD undef = .bool false := hc 15 43 rfl rfl
                    have h47 : a.tmps[47]?.getD undef = .bool false := hc 19 47 rfl rfl
                    have hk := Lib.hid (fun w1 (h : Below ω.heap.size ω w1) => hK (.bool false) w1 rfl h)
                    clear hK hu hc
                    go_simp
                    exact hk.out _ (Below.refl _ _)
                  · intro a1 w1 hb1 hu1 hsz1 hdf1 hc1
                    have ha0 := hha0.out
                    subst ha0
                    have he := act_patch (n := 53) [false, false, false, false, false, false, false, false, false, false, false, false, false, false, false, false, false, false, false, false, false, false, false, false, false, false, false, false, true, true, true, true, true, true, true, true, true, true, true, true, true, true, true, true, true, true, true, true, true, false, false, false, false] rfl (by kernel_rfl) hu1 hsz1 hdf1
                    simp only [patch, cond_true, cond_false, Nat.reduceAdd] at he
                    have hkn48 : a1.tmps[48]?.getD undef = .bool false := hc1 20 48 rfl
                    replace hT := Lib.hid (hT.out.step hb1)
                    replace hG := Lib.hid (hG.out.step hb1)
                    replace hL := Lib.hid (below_step hb1 hL.out (Nat.le_refl _))
                    clear kCm kLl
                    clear hb1 hu1 hsz1 hdf1 hc1 hz0 hha0 e5 e7
                    rw [he]
                    clear he
                    rw [hkn48]
                    clear hkn48
                    generalize a1.tmps[28]?.getD undef = x28 at *
                    generalize a1.tmps[29]?.getD undef = x29 at *
                    generalize a1.tmps[30]?.getD undef = x30 at *
                    generalize a1.tmps[31]?.getD undef = x31 at *
                    generalize a1.tmps[32]?.getD undef = x32 at *
                    generalize a1.tmps[33]?.getD undef = x33 at *
                    generalize a1.tmps[34]?.getD undef = x34 at *
                    generalize a1.tmps[35]?.getD undef = x35 at *
                    generalize a1.tmps[36]?.getD undef = x36 at *
                    generalize a1.tmps[37]?.getD undef = x37 at *
                    generalize a1.tmps[38]?.getD undef = x38 at *
                    generalize a1.tmps[39]?.getD undef = x39 at *
                    generalize a1.tmps[40]?.getD undef = x40 at *
                    generalize a1.tmps[41]?.getD undef = x41 at *
                    generalize a1.tmps[42]?.getD undef = x42 at *
                    generalize a1.tmps[43]?.getD undef = x43 at *
                    generalize a1.tmps[44]?.getD undef = x44 at *
                    generalize a1.tmps[45]?.getD undef = x45 at *
                    generalize a1.tmps[46]?.getD undef = x46 at *
                    generalize a1.tmps[47]?.getD undef = x47 at *
                    have c0 := hG.out.cell (shA_0 _ _)
                    have c1 := hT.out.cell hq256
                    have f1 := hT.out.row.frozen q
                    have hT2 := Lib.hid (hT.out.set q)
                    have hL2 := Lib.hid (hL.out.setCell (p := ⟨w.heap.size, q, none⟩) (Nat.le_refl _) (.bool true))
                    have hkki := hkk.out
                    have hwk : IntKind.i64.wrap ((k : Int) + 1) = (k : Int) + 1 := by rw [IntKind.wrap_i64]; have := hn20.out; omega
                    have hF2 := Lib.hid (show ∀ q2 : Nat, (if q2 = q then true else f q2) = true ↔ ∃ j < k + 1, X j = (q2 : Int) from fun q2 => by
                      by_cases e : q2 = q
                      · subst e
                        rw [if_pos rfl]
                        exact ⟨fun _ => ⟨k, by omega, hzh.out⟩, fun _ => rfl⟩
                      · rw [if_neg e]
                        refine (hF.out q2).trans ⟨fun ⟨j, hj, h⟩ => ⟨j, by omega, h⟩, fun ⟨j, hj, h⟩ => ?_⟩
                        rcases Nat.lt_or_ge j k with h2 | h2
                        · exact ⟨j, h2, h⟩
                        · exfalso
                          have : j = k := by omega
                          subst this
                          rw [hzh.out] at h
                          omega)
                    have hO2 := Lib.hid (show ∀ j < k + 1, ShOk X Y j from fun j hj => by
                      rcases Nat.lt_or_ge j k with h2 | h2
                      · exact hO.out j h2
                      · have : j = k := by omega
                        subst this
                        refine ⟨by rw [hzh.out]; omega, by rw [hzh.out]; omega, by rw [hyy.out, hl0h.out]; exact hlt, fun i hi he => ?_⟩
                        have h3 := (hF.out q).2 ⟨i, hi, he.trans hzh.out⟩
                        rw [hfh.out] at h3
                        cases h3)
                    clear hT hG hL hF hO hfh hd1 hd2 hz1 hz2 hlt
                    go_wp2_with fail
                    refine ⟨⟨k + 1, _, by go_num, by omega, hT2, hL2, hF2, hO2⟩, ?_⟩
                    simp [intOf]; omega
                · clear ho
                  generalize ha0 : Act.mk _ _ = a0
                  have e5 : a0.tmps[5]?.getD undef = .pointer (some ⟨w.heap.size, 0, none⟩) := by rw [← ha0]; rfl
                  have e7 : a0.tmps[7]?.getD undef = .pointer (some ⟨g7, 0, none⟩) := by rw [← ha0]; rfl
                  have hz0 : a0.tmps.size = 53 := by rw [← ha0]; rfl
                  have hha0 := Lib.hid ha0
                  clear ha0
                  refine wp_region_calm (fun jx_ => match jx_ with | 0 => SRel.is (.pointer (some ⟨g7, 0, none⟩)) | 1 => SRel.is (.int .i64 (q : Nat)) | 2 => SRel.is (.bool false) | 3 => SRel.is (.bool false) | 4 => SRel.is (.pointer (some ⟨g7, 0, none⟩)) | 5 => SRel.is (.int .i64 (q : Nat)) | 6 => SRel.is (.bool false) | 7 => SRel.is (.bool false) | 8 => SRel.is (.bool false) | 9 => SRel.is (.pointer (some ⟨g7, 1, none⟩)) | 10 => SRel.is (.agg (arrK .u64 4 (wd y))) | 11 => SRel.is (.agg (arrK .u64 4 (wd l0))) | 12 => SRel.is (.int .i64 (-1)) | 13 => SRel.is (.bool false) | 14 => SRel.is (.bool false) | 15 => SRel.is (.bool false) | 16 => SRel.is (.pointer (some ⟨g7, 0, none⟩)) | 17 => SRel.is (.int .i64 (q : Nat)) | 18 => SRel.is (.pointer (some ⟨w.heap.size, q, none⟩)) | 19 => SRel.is (.bool true) | 20 => SRel.is (.bool true) | _ => SRel.any) (by kernel_rfl) (by kernel_rfl) (by kernel_rfl) (slotsOk_of hz0 (by kernel_rfl)) ⟨?_, ?_, ?_, ?_, ?_, ?_, ?_, ?_, ?_, ?_, ?_, ?_, ?_, ?_, ?_, ?_, ?_, ?_, ?_, ?_, ?_, trivial⟩ ?_
                  · refine calm_step rfl fun a ω κ hb hu hc hK => ?_
                    have h7 : a.tmps[7]?.getD undef = .pointer (some ⟨g7, 0, none⟩) := (hu 7 rfl).trans e7
                    have hk := Lib.hid (fun w1 (h : Below ω.heap.size ω w1) => hK (.pointer (some ⟨g7, 0, none⟩)) w1 rfl h)
                    clear hK hu hc
                    go_simp
                    exact hk.out _ (Below.refl _ _)
                  · refine calm_step rfl fun a ω κ hb hu hc hK => ?_
                    have h28 : a.tmps[28]?.getD undef = .pointer (some ⟨g7, 0, none⟩) := hc 0 28 rfl rfl
                    have hk := Lib.hid (fun w1 (h : Below ω.heap.size ω w1) => hK (.int .i64 (q : Nat)) w1 rfl h)
                    clear hK hu hc
                    have c0 := (hG.out.step hb).cell (shA_0 _ _)
                    go_simp
                    exact hk.out _ (Below.refl _ _)
                  · refine calm_step rfl fun a ω κ hb hu hc hK => ?_
                    have h29 : a.tmps[29]?.getD undef = .int .i64 (q : Nat) := hc 1 29 rfl rfl
                    have hk := Lib.hid (fun w1 (h : Below ω.heap.size ω w1) => hK (.bool false) w1 rfl h)
                    clear hK hu hc
                    go_simp
                    exact hk.out _ (Below.refl _ _)
                  · refine calm_step rfl fun a ω κ hb hu hc hK => ?_
                    have h30 : a.tmps[30]?.getD undef = .bool false := hc 2 30 rfl rfl
                    have hk := Lib.hid (fun w1 (h : Below ω.heap.size ω w1) => hK (.bool false) w1 rfl h)
                    clear hK hu hc
                    go_simp
                    exact hk.out _ (Below.refl _ _)
                  · refine calm_step_guard (g := 3) (b := false) (d := 31) rfl rfl (fun a w hc => hc 3 31 rfl rfl) fun a ω κ hb hu hc hK => ?_
                    have h7 : a.tmps[7]?.getD undef = .pointer (some ⟨g7, 0, none⟩) := (hu 7 rfl).trans e7
                    have hk := Lib.hid (fun w1 (h : Below ω.heap.size ω w1) => hK (.pointer (some ⟨g7, 0, none⟩)) w1 rfl h)
                    clear hK hu hc
                    go_simp
                    exact hk.out _ (Below.refl _ _)
                  · refine calm_step_guard (g := 3) (b := false) (d := 31) rfl rfl (fun a w hc => hc 3 31 rfl rfl) fun a ω κ hb hu hc hK => ?_
                    have h32 : a.tmps[32]?.getD undef = .pointer (some ⟨g7, 0, none⟩) := hc 4 32 rfl rfl
                    have hk := Lib.hid (fun w1 (h : Below ω.heap.size ω w1) => hK (.int .i64 (q : Nat)) w1 rfl h)
                    clear hK hu hc
                    have c0 := (hG.out.step hb).cell (shA_0 _ _)
                    go_simp
                    exact hk.out _ (Below.refl _ _)
                  · refine calm_step_guard (g := 3) (b := false) (d := 31) rfl rfl (fun a w hc => hc 3 31 rfl rfl) fun a ω κ hb hu hc hK => ?_
                    have h33 : a.tmps[33]?.getD undef = .int .i64 (q : Nat) := hc 5 33 rfl rfl
                    have hk := Lib.hid (fun w1 (h : Below ω.heap.size ω w1) => hK (.bool false) w1 rfl h)
                    clear hK hu hc
                    go_simp
                    exact hk.out _ (Below.refl _ _)
                  · refine calm_step rfl fun a ω κ hb hu hc hK => ?_
                    have h31 : a.tmps[31]?.getD undef = .bool false := hc 3 31 rfl rfl
                    have h34 : a.tmps[34]?.getD undef = .bool false := hc 6 34 rfl rfl
                    have hk := Lib.hid (fun w1 (h : Below ω.heap.size ω w1) => hK (.bool false) w1 rfl h)
                    clear hK hu hc
                    go_simp
                    exact hk.out _ (Below.refl _ _)
                  · refine calm_step rfl fun a ω κ hb hu hc hK => ?_
                    have h35 : a.tmps[35]?.getD undef = .bool false := hc 7 35 rfl rfl
                    have hk := Lib.hid (fun w1 (h : Below ω.heap.size ω w1) => hK (.bool false) w1 rfl h)
                    clear hK hu hc
                    go_simp
                    exact hk.out _ (Below.refl _ _)
                  · refine calm_step_guard (g := 8) (b := false) (d := 36) rfl rfl (fun a w hc => hc 8 36 rfl rfl) fun a ω κ hb hu hc hK => ?_
                    have h7 : a.tmps[7]?.getD undef = .pointer (some ⟨g7, 0, none⟩) := (hu 7 rfl).trans e7
                    have hk := Lib.hid (fun w1 (h : Below ω.heap.size ω w1) => hK (.pointer (some ⟨g7, 1, none⟩)) w1 rfl h)
                    clear hK hu hc
                    go_simp
                    exact hk.out _ (Below.refl _ _)
                  · refine calm_step_guard (g := 8) (b := false) (d := 36) rfl rfl (fun a w hc => hc 8 36 rfl rfl) fun a ω κ hb hu hc hK => ?_
                    have h37 : a.tmps[37]?.getD undef = .pointer (some ⟨g7, 1, none⟩) := hc 9 37 rfl rfl
                    have hk := Lib.hid (fun w1 (h : Below ω.heap.size ω w1) => hK (.agg (arrK .u64 4 (wd y))) w1 rfl h)
                    clear hK hu hc
                    have hl := pl_ld (o := 1) (n := 4) (hG.out.step hb).row (hG.out.step hb).eq (shA_1 _ _) (arrK_size _ _ _) pl_some
                    have hl1 := hl.1
                    have hl2 := hl.2
                    clear hl
                    go_simp
                    exact hk.out _ (Below.refl _ _)
                  · refine calm_step_guard (g := 8) (b := false) (d := 36) rfl rfl (fun a w hc => hc 8 36 rfl rfl) fun a ω κ hb hu hc hK => ?_
                    have hk := Lib.hid (fun w1 (h : Below ω.heap.size ω w1) => hK (.agg (arrK .u64 4 (wd l0))) w1 rfl h)
                    clear hK hu hc
                    go_simp
                    go_at_call 112
                    refine (kLl.out _).mono ?_
                    rintro e w1 ⟨rfl, hb1⟩
                    exact hk.out _ hb1
                  · refine calm_step_guard (g := 8) (b := false) (d := 36) rfl rfl (fun a w hc => hc 8 36 rfl rfl) fun a ω κ hb hu hc hK => ?_
                    have h38 : a.tmps[38]?.getD undef = .agg (arrK .u64 4 (wd y)) := hc 10 38 rfl rfl
                    have h39 : a.tmps[39]?.getD undef = .agg (arrK .u64 4 (wd l0)) := hc 11 39 rfl rfl
                    have hk := Lib.hid (fun w1 (h : Below ω.heap.size ω w1) => hK (.int .i64 (-1)) w1 rfl h)
                    clear hK hu hc
                    go_simp
                    go_at_call 111
                    refine (kCm.out _).mono ?_
                    rintro e w1 ⟨rfl, hb1⟩
                    exact hk.out _ hb1
                  · refine calm_step_guard (g := 8) (b := false) (d := 36) rfl rfl (fun a w hc => hc 8 36 rfl rfl) fun a ω κ hb hu hc hK => ?_
                    have h40 : a.tmps[40]?.getD undef = .int .i64 (-1) := hc 12 40 rfl rfl
                    have hk := Lib.hid (fun w1 (h : Below ω.heap.size ω w1) => hK (.bool false) w1 rfl h)
                    clear hK hu hc
                    go_simp
                    exact hk.out _ (Below.refl _ _)
                  · refine calm_step rfl fun a ω κ hb hu hc hK => ?_
                    have h36 : a.tmps[36]?.getD undef = .bool false := hc 8 36 rfl rfl
                    have h41 : a.tmps[41]?.getD undef = .bool false := hc 13 41 rfl rfl
                    have hk := Lib.hid (fun w1 (h : Below ω.heap.size ω w1) => hK (.bool false) w1 rfl h)
                    clear hK hu hc
                    go_simp
                    exact hk.out _ (Below.refl _ _)
                  · refine calm_step rfl fun a ω κ hb hu hc hK => ?_
                    have h42 : a.tmps[42]?.getD undef = .bool false := hc 14 42 rfl rfl
                    have hk := Lib.hid (fun w1 (h : Below ω.heap.size ω w1) => hK (.bool false) w1 rfl h)
                    clear hK hu hc
                    go_simp
                    exact hk.out _ (Below.refl _ _)
                  · refine calm_step_guard (g := 15) (b := false) (d := 43) rfl rfl (fun a w hc => hc 15 43 rfl rfl) fun a ω κ hb hu hc hK => ?_
                    have h7 : a.tmps[7]?.getD undef = .pointer (some ⟨g7, 0, none⟩) := (hu 7 rfl).trans e7
                    have hk := Lib.hid (fun w1 (h : Below ω.heap.size ω w1) => hK (.pointer (some ⟨g7, 0, none⟩)) w1 rfl h)
                    clear hK hu hc
                    go_simp
                    exact hk.out _ (Below.refl _ _)
                  · refine calm_step_guard (g := 15) (b := false) (d := 43) rfl rfl (fun a w hc => hc 15 43 rfl rfl) fun a ω κ hb hu hc hK => ?_
                    have h44 : a.tmps[44]?.getD undef = .pointer (some ⟨g7, 0, none⟩) := hc 16 44 rfl rfl
                    have hk := Lib.hid (fun w1 (h : Below ω.heap.size ω w1) => hK (.int .i64 (q : Nat)) w1 rfl h)
                    clear hK hu hc
                    have c0 := (hG.out.step hb).cell (shA_0 _ _)
                    go_simp
                    exact hk.out _ (Below.refl _ _)
                  · refine calm_step_guard (g := 15) (b := false) (d := 43) rfl rfl (fun a w hc => hc 15 43 rfl rfl) fun a ω κ hb hu hc hK => ?_
                    have h5 : a.tmps[5]?.getD undef = .pointer (some ⟨w.heap.size, 0, none⟩) := (hu 5 rfl).trans e5
                    have h45 : a.tmps[45]?.getD undef = .int .i64 (q : Nat) := hc 17 45 rfl rfl
                    have hk := Lib.hid (fun w1 (h : Below ω.heap.size ω w1) => hK (.pointer (some ⟨w.heap.size, q, none⟩)) w1 rfl h)
                    clear hK hu hc
                    go_simp
                    exact hk.out _ (Below.refl _ _)
                  · refine calm_step_guard (g := 15) (b := false) (d := 43) rfl rfl (fun a w hc => hc 15 43 rfl rfl) fun a ω κ hb hu hc hK => ?_
                    have h46 : a.tmps[46]?.getD undef = .pointer (some ⟨w.heap.size, q, none⟩) := hc 18 46 rfl rfl
                    have hk := Lib.hid (fun w1 (h : Below ω.heap.size ω w1) => hK (.bool true) w1 rfl h)
                    clear hK hu hc
                    have c0 := (hT.out.step hb).cell hq256
                    rw [hfh.out] at c0
                    go_simp
                    exact hk.out _ (Below.refl _ _)
                  · refine calm_step rfl fun a ω κ hb hu hc hK => ?_
                    have h43 : a.tmps[43]?.getD undef = .bool false := hc 15 43 rfl rfl
                    have h47 : a.tmps[47]?.getD undef = .bool true := hc 19 47 rfl rfl
                    have hk := Lib.hid (fun w1 (h : Below ω.heap.size ω w1) => hK (.bool true) w1 rfl h)
                    clear hK hu hc
                    go_simp
                    exact hk.out _ (Below.refl _ _)
                  · intro a1 w1 hb1 hu1 hsz1 hdf1 hc1
                    have ha0 := hha0.out
                    subst ha0
                    have he := act_patch (n := 53) [false, false, false, false, false, false, false, false, false, false, false, false, false, false, false, false, false, false, false, false, false, false, false, false, false, false, false, false, true, true, true, true, true, true, true, true, true, true, true, true, true, true, true, true, true, true, true, true, true, false, false, false, false] rfl (by kernel_rfl) hu1 hsz1 hdf1
                    simp only [patch, cond_true, cond_false, Nat.reduceAdd] at he
                    have hkn48 : a1.tmps[48]?.getD undef = .bool true := hc1 20 48 rfl
                    replace hT := Lib.hid (hT.out.step hb1)
                    replace hG := Lib.hid (hG.out.step hb1)
                    replace hL := Lib.hid (below_step hb1 hL.out (Nat.le_refl _))
                    clear kCm kLl
                    clear hb1 hu1 hsz1 hdf1 hc1 hz0 hha0 e5 e7
                    rw [he]
                    clear he
                    rw [hkn48]
                    clear hkn48
                    generalize a1.tmps[28]?.getD undef = x28 at *
                    generalize a1.tmps[29]?.getD undef = x29 at *
                    generalize a1.tmps[30]?.getD undef = x30 at *
                    generalize a1.tmps[31]?.getD undef = x31 at *
                    generalize a1.tmps[32]?.getD undef = x32 at *
                    generalize a1.tmps[33]?.getD undef = x33 at *
                    generalize a1.tmps[34]?.getD undef = x34 at *
                    generalize a1.tmps[35]?.getD undef = x35 at *
                    generalize a1.tmps[36]?.getD undef = x36 at *
                    generalize a1.tmps[37]?.getD undef = x37 at *
                    generalize a1.tmps[38]?.getD undef = x38 at *
                    generalize a1.tmps[39]?.getD undef = x39 at *
                    generalize a1.tmps[40]?.getD undef = x40 at *
                    generalize a1.tmps[41]?.getD undef = x41 at *
                    generalize a1.tmps[42]?.getD undef = x42 at *
                    generalize a1.tmps[43]?.getD undef = x43 at *
                    generalize a1.tmps[44]?.getD undef = x44 at *
                    generalize a1.tmps[45]?.getD undef = x45 at *
                    generalize a1.tmps[46]?.getD undef = x46 at *
                    generalize a1.tmps[47]?.getD undef = x47 at *
                    go_wp2_with fail
                    go_ret
                    exact ⟨⟨1, rfl, .inr (.inr ⟨hn20.out, hbh.out, .inl ⟨⟨k, hkk.out, fun h => by obtain ⟨j, hj, he⟩ := (hF.out q).1 hfh.out; exact h.one j hj (he.trans hzh.out.symm)⟩, rfl⟩⟩)⟩, hL.out⟩
              · obtain ⟨od, hod⟩ : ∃ o, order y l0 = o := ⟨_, rfl⟩
                rw [hod] at kCm ho
                have hd3 : decide (od ≥ 0) = true := by rcases ho with rfl | rfl <;> rfl
                clear hod ho
                generalize ha0 : Act.mk _ _ = a0
                have e5 : a0.tmps[5]?.getD undef = .pointer (some ⟨w.heap.size, 0, none⟩) := by rw [← ha0]; rfl
                have e7 : a0.tmps[7]?.getD undef = .pointer (some ⟨g7, 0, none⟩) := by rw [← ha0]; rfl
                have hz0 : a0.tmps.size = 53 := by rw [← ha0]; rfl
                have hha0 := Lib.hid ha0
                clear ha0
                refine wp_region_calm (fun jx_ => match jx_ with | 0 => SRel.is (.pointer (some ⟨g7, 0, none⟩)) | 1 => SRel.is (.int .i64 (q : Nat)) | 2 => SRel.is (.bool false) | 3 => SRel.is (.bool false) | 4 => SRel.is (.pointer (some ⟨g7, 0, none⟩)) | 5 => SRel.is (.int .i64 (q : Nat)) | 6 => SRel.is (.bool false) | 7 => SRel.is (.bool false) | 8 => SRel.is (.bool false) | 9 => SRel.is (.pointer (some ⟨g7, 1, none⟩)) | 10 => SRel.is (.agg (arrK .u64 4 (wd y))) | 11 => SRel.is (.agg (arrK .u64 4 (wd l0))) | 12 => SRel.is (.int .i64 od) | 13 => SRel.is (.bool true) | 14 => SRel.is (.bool true) | 15 => SRel.is (.bool true) | 16 => SRel.any | 17 => SRel.any | 18 => SRel.any | 19 => SRel.any | 20 => SRel.is (.bool true) | _ => SRel.any) (by kernel_rfl) (by kernel_rfl) (by kernel_rfl) (slotsOk_of hz0 (by kernel_rfl)) ⟨?_, ?_, ?_, ?_, ?_, ?_, ?_, ?_, ?_, ?_, ?_, ?_, ?_, ?_, ?_, ?_, ?_, ?_, ?_, ?_, ?_, trivial⟩ ?_
                · refine calm_step rfl fun a ω κ hb hu hc hK => ?_
                  have h7 : a.tmps[7]?.getD undef = .pointer (some ⟨g7, 0, none⟩) := (hu 7 rfl).trans e7
                  have hk := Lib.hid (fun w1 (h : Below ω.heap.size ω w1) => hK (.pointer (some ⟨g7, 0, none⟩)) w1 rfl h)
                  clear hK hu hc
                  go_simp
                  exact hk.out _ (Below.refl _ _)
                · refine calm_step rfl fun a ω κ hb hu hc hK => ?_
                  have h28 : a.tmps[28]?.getD undef = .pointer (some ⟨g7, 0, none⟩) := hc 0 28 rfl rfl
                  have hk := Lib.hid (fun w1 (h : Below ω.heap.size ω w1) => hK (.int .i64 (q : Nat)) w1 rfl h)
                  clear hK hu hc
                  have c0 := (hG.out.step hb).cell (shA_0 _ _)
                  go_simp
                  exact hk.out _ (Below.refl _ _)
                · refine calm_step rfl fun a ω κ hb hu hc hK => ?_
                  have h29 : a.tmps[29]?.getD undef = .int .i64 (q : Nat) := hc 1 29 rfl rfl
                  have hk := Lib.hid (fun w1 (h : Below ω.heap.size ω w1) => hK (.bool false) w1 rfl h)
                  clear hK hu hc
                  go_simp
                  exact hk.out _ (Below.refl _ _)
                · refine calm_step rfl fun a ω κ hb hu hc hK => ?_
                  have h30 : a.tmps[30]?.getD undef = .bool false := hc 2 30 rfl rfl
                  have hk := Lib.hid (fun w1 (h : Below ω.heap.size ω w1) => hK (.bool false) w1 rfl h)
                  clear hK hu hc
                  go_simp
                  exact hk.out _ (Below.refl _ _)
                · refine calm_step_guard (g := 3) (b := false) (d := 31) rfl rfl (fun a w hc => hc 3 31 rfl rfl) fun a ω κ hb hu hc hK => ?_
                  have h7 : a.tmps[7]?.getD undef = .pointer (some ⟨g7, 0, none⟩) := (hu 7 rfl).trans e7
                  have hk := Lib.hid (fun w1 (h : Below ω.heap.size ω w1) => hK (.pointer (some ⟨g7, 0, none⟩)) w1 rfl h)
                  clear hK hu hc
                  go_simp
                  exact hk.out _ (Below.refl _ _)
                · refine calm_step_guard (g := 3) (b := false) (d := 31) rfl rfl (fun a w hc => hc 3 31 rfl rfl) fun a ω κ hb hu hc hK => ?_
                  have h32 : a.tmps[32]?.getD undef = .pointer (some ⟨g7, 0, none⟩) := hc 4 32 rfl rfl
                  have hk := Lib.hid (fun w1 (h : Below ω.heap.size ω w1) => hK (.int .i64 (q : Nat)) w1 rfl h)
                  clear hK hu hc
                  have c0 := (hG.out.step hb).cell (shA_0 _ _)
                  go_simp
                  exact hk.out _ (Below.refl _ _)
                · refine calm_step_guard (g := 3) (b := false) (d := 31) rfl rfl (fun a w hc => hc 3 31 rfl rfl) fun a ω κ hb hu hc hK => ?_
                  have h33 : a.tmps[33]?.getD undef = .int .i64 (q : Nat) := hc 5 33 rfl rfl
                  have hk := Lib.hid (fun w1 (h : Below ω.heap.size ω w1) => hK (.bool false) w1 rfl h)
                  clear hK hu hc
                  go_simp
                  exact hk.out _ (Below.refl _ _)
                · refine calm_step rfl fun a ω κ hb hu hc hK => ?_
                  have h31 : a.tmps[31]?.getD undef = .bool false := hc 3 31 rfl rfl
                  have h34 : a.tmps[34]?.getD undef = .bool false := hc 6 34 rfl rfl
                  have hk := Lib.hid (fun w1 (h : Below ω.heap.size ω w1) => hK (.bool false) w1 rfl h)
                  clear hK hu hc
                  go_simp
                  exact hk.out _ (Below.refl _ _)
                · refine calm_step rfl fun a ω κ hb hu hc hK => ?_
                  have h35 : a.tmps[35]?.getD undef = .bool false := hc 7 35 rfl rfl
                  have hk := Lib.hid (fun w1 (h : Below ω.heap.size ω w1) => hK (.bool false) w1 rfl h)
                  clear hK hu hc
                  go_simp
                  exact hk.out _ (Below.refl _ _)
                · refine calm_step_guard (g := 8) (b := false) (d := 36) rfl rfl (fun a w hc => hc 8 36 rfl rfl) fun a ω κ hb hu hc hK => ?_
                  have h7 : a.tmps[7]?.getD undef = .pointer (some ⟨g7, 0, none⟩) := (hu 7 rfl).trans e7
                  have hk := Lib.hid (fun w1 (h : Below ω.heap.size ω w1) => hK (.pointer (some ⟨g7, 1, none⟩)) w1 rfl h)
                  clear hK hu hc
                  go_simp
                  exact hk.out _ (Below.refl _ _)
                · refine calm_step_guard (g := 8) (b := false) (d := 36) rfl rfl (fun a w hc => hc 8 36 rfl rfl) fun a ω κ hb hu hc hK => ?_
                  have h37 : a.tmps[37]?.getD undef = .pointer (some ⟨g7, 1, none⟩) := hc 9 37 rfl rfl
                  have hk := Lib.hid (fun w1 (h : Below ω.heap.size ω w1) => hK (.agg (arrK .u64 4 (wd y))) w1 rfl h)
                  clear hK hu hc
                  have hl := pl_ld (o := 1) (n := 4) (hG.out.step hb).row (hG.out.step hb).eq (shA_1 _ _) (arrK_size _ _ _) pl_some
                  have hl1 := hl.1
                  have hl2 := hl.2
                  clear hl
                  go_simp
                  exact hk.out _ (Below.refl _ _)
                · refine calm_step_guard (g := 8) (b := false) (d := 36) rfl rfl (fun a w hc => hc 8 36 rfl rfl) fun a ω κ hb hu hc hK => ?_
                  have hk := Lib.hid (fun w1 (h : Below ω.heap.size ω w1) => hK (.agg (arrK .u64 4 (wd l0))) w1 rfl h)
                  clear hK hu hc
                  go_simp
                  go_at_call 112
                  refine (kLl.out _).mono ?_
                  rintro e w1 ⟨rfl, hb1⟩
                  exact hk.out _ hb1
                · refine calm_step_guard (g := 8) (b := false) (d := 36) rfl rfl (fun a w hc => hc 8 36 rfl rfl) fun a ω κ hb hu hc hK => ?_
                  have h38 : a.tmps[38]?.getD undef = .agg (arrK .u64 4 (wd y)) := hc 10 38 rfl rfl
                  have h39 : a.tmps[39]?.getD undef = .agg (arrK .u64 4 (wd l0)) := hc 11 39 rfl rfl
                  have hk := Lib.hid (fun w1 (h : Below ω.heap.size ω w1) => hK (.int .i64 od) w1 rfl h)
                  clear hK hu hc
                  go_simp
                  go_at_call 111
                  refine (kCm.out _).mono ?_
                  rintro e w1 ⟨rfl, hb1⟩
                  exact hk.out _ hb1
                · refine calm_step_guard (g := 8) (b := false) (d := 36) rfl rfl (fun a w hc => hc 8 36 rfl rfl) fun a ω κ hb hu hc hK => ?_
                  have h40 : a.tmps[40]?.getD undef = .int .i64 od := hc 12 40 rfl rfl
                  have hk := Lib.hid (fun w1 (h : Below ω.heap.size ω w1) => hK (.bool true) w1 rfl h)
                  clear hK hu hc
                  go_simp
                  exact hk.out _ (Below.refl _ _)
                · refine calm_step rfl fun a ω κ hb hu hc hK => ?_
                  have h36 : a.tmps[36]?.getD undef = .bool false := hc 8 36 rfl rfl
                  have h41 : a.tmps[41]?.getD undef = .bool true := hc 13 41 rfl rfl
                  have hk := Lib.hid (fun w1 (h : Below ω.heap.size ω w1) => hK (.bool true) w1 rfl h)
                  clear hK hu hc
                  go_simp
                  exact hk.out _ (Below.refl _ _)
                · refine calm_step rfl fun a ω κ hb hu hc hK => ?_
                  have h42 : a.tmps[42]?.getD undef = .bool true := hc 14 42 rfl rfl
                  have hk := Lib.hid (fun w1 (h : Below ω.heap.size ω w1) => hK (.bool true) w1 rfl h)
                  clear hK hu hc
                  go_simp
                  exact hk.out _ (Below.refl _ _)
                · exact calm_step_skip (g := 15) (b := false) (d := 43) rfl rfl (fun a w hc => hc 15 43 rfl rfl) (fun _ => trivial)
                · exact calm_step_skip (g := 15) (b := false) (d := 43) rfl rfl (fun a w hc => hc 15 43 rfl rfl) (fun _ => trivial)
                · exact calm_step_skip (g := 15) (b := false) (d := 43) rfl rfl (fun a w hc => hc 15 43 rfl rfl) (fun _ => trivial)
                · exact calm_step_skip (g := 15) (b := false) (d := 43) rfl rfl (fun a w hc => hc 15 43 rfl rfl) (fun _ => trivial)
                · refine calm_step rfl fun a ω κ hb hu hc hK => ?_
                  have h43 : a.tmps[43]?.getD undef = .bool true := hc 15 43 rfl rfl
                  have h47 : (SRel.any).p (a.tmps[47]?.getD undef) ω := hc 19 47 rfl rfl
                  have hk := Lib.hid (fun w1 (h : Below ω.heap.size ω w1) => hK (.bool true) w1 rfl h)
                  clear hK hu hc
                  go_simp
                  exact hk.out _ (Below.refl _ _)
                · intro a1 w1 hb1 hu1 hsz1 hdf1 hc1
                  have ha0 := hha0.out
                  subst ha0
                  have he := act_patch (n := 53) [false, false, false, false, false, false, false, false, false, false, false, false, false, false, false, false, false, false, false, false, false, false, false, false, false, false, false, false, true, true, true, true, true, true, true, true, true, true, true, true, true, true, true, true, true, true, true, true, true, false, false, false, false] rfl (by kernel_rfl) hu1 hsz1 hdf1
                  simp only [patch, cond_true, cond_false, Nat.reduceAdd] at he
                  have hkn48 : a1.tmps[48]?.getD undef = .bool true := hc1 20 48 rfl
                  replace hT := Lib.hid (hT.out.step hb1)
                  replace hG := Lib.hid (hG.out.step hb1)
                  replace hL := Lib.hid (below_step hb1 hL.out (Nat.le_refl _))
                  clear kCm kLl
                  clear hb1 hu1 hsz1 hdf1 hc1 hz0 hha0 e5 e7
                  rw [he]
                  clear he
                  rw [hkn48]
                  clear hkn48
                  generalize a1.tmps[28]?.getD undef = x28 at *
                  generalize a1.tmps[29]?.getD undef = x29 at *
                  generalize a1.tmps[30]?.getD undef = x30 at *
                  generalize a1.tmps[31]?.getD undef = x31 at *
                  generalize a1.tmps[32]?.getD undef = x32 at *
                  generalize a1.tmps[33]?.getD undef = x33 at *
                  generalize a1.tmps[34]?.getD undef = x34 at *
                  generalize a1.tmps[35]?.getD undef = x35 at *
                  generalize a1.tmps[36]?.getD undef = x36 at *
                  generalize a1.tmps[37]?.getD undef = x37 at *
                  generalize a1.tmps[38]?.getD undef = x38 at *
                  generalize a1.tmps[39]?.getD undef = x39 at *
                  generalize a1.tmps[40]?.getD undef = x40 at *
                  generalize a1.tmps[41]?.getD undef = x41 at *
                  generalize a1.tmps[42]?.getD undef = x42 at *
                  generalize a1.tmps[43]?.getD undef = x43 at *
                  generalize a1.tmps[44]?.getD undef = x44 at *
                  generalize a1.tmps[45]?.getD undef = x45 at *
                  generalize a1.tmps[46]?.getD undef = x46 at *
                  generalize a1.tmps[47]?.getD undef = x47 at *
                  go_wp2_with fail
                  go_ret
                  exact ⟨⟨1, rfl, .inr (.inr ⟨hn20.out, hbh.out, .inl ⟨⟨k, hkk.out, fun h => by have h1 := h.y; rw [hyy.out, hl0h.out] at h1; exact hge h1⟩, rfl⟩⟩)⟩, hL.out⟩
end Go.Proofs.Ytdlmamnnamlleaa
namespace Go.Proofs.Ytdlmamnnamlleaa
open Go.ChangeShapes Go.WideShapes Go.ChangeAt Go.RowKit
set_option maxHeartbeats 2000000
set_option maxRecDepth 100000
def twoW : Nat → Nat := fun i => if i = 0 then 6346243789798364141 else 1503914060200516822
theorem twoW_val : wval twoW 2 = 27742317777372353535851937790883648493 := by decide +kernel
theorem fL_sum : 2 ^ 252 + 27742317777372353535851937790883648493 = fL := rfl
theorem two_lit : #[Value.int IntKind.u64 6346243789798364141, Value.int IntKind.u64 1503914060200516822] = arrK .u64 2 twoW := by kernel_rfl
theorem ref_Prime (w : World) : Calls Try.prog 56 #[] w (RetN fL w) := by
  have kT := Lib.hid (fun V => ref_TwoTo 252 V (by omega))
  have kD := Lib.hid (fun (V : World) g (h : At V g .u64 2 twoW) => by
    obtain ⟨cs, t, hg, hs⟩ := h.row
    have hcs : cs = arrK .u64 2 twoW := by rw [← h.eq]; simp [rowAt, hg]
    have k := ref_Digits (some ⟨g, 0, none⟩) 2 2 twoW V (by rw [← hcs]; exact Rd.of_blk hg h.lt) (by omega) (by omega) (by omega) (fun i _ => by unfold twoW; split <;> omega)
    rw [twoW_val] at k
    exact k)
  have hsm : (2 : Nat) ^ 252 < 2 ^ 253 := Nat.pow_lt_pow_right (by omega) (by omega)
  have hs2 : 27742317777372353535851937790883648493 < 2 ^ 253 := by decide +kernel
  rw [← fL_sum]
  obtain ⟨P, hP⟩ : ∃ P, (2 : Nat) ^ 252 = P := ⟨_, rfl⟩
  obtain ⟨D, hD⟩ : ∃ P, 27742317777372353535851937790883648493 = P := ⟨_, rfl⟩
  rw [hP] at kT hsm ⊢
  rw [hD] at kD hs2 ⊢
  have kS := Lib.hid (fun V v u (hv : IsN V v P) (hu : IsN V u D) => plusN V (hv.toV (lt_big hsm (by omega))) (hu.toV (lt_big hs2 (by omega))))
  clear hD hP hsm hs2
  go_enter Try.func56, Try.ntmps56
  go_wp2_with fail
  refine (show Calls _ _ #[Value.int IntKind.i64 252] w _ from kT.out _).mono ?_
  rintro e w2 ⟨v, rfl, hv, hb⟩
  have hV := Lib.hid hv
  have hL := Lib.hid hb
  clear hv hb kT
  dsimp only
  go_wp2_with fail
  rw [two_lit]
  refine (kD.out _ _ (At.new (w := w2) (k := .u64) (m := 2) (f := twoW) 25 rfl)).mono ?_
  rintro e w3 ⟨u, rfl, hu, hb⟩
  have hb2 := (below_alloc w2 (Obj.cells (arrK .u64 2 twoW) 25)).trans (hb.mono (by simp))
  have hV2 := Lib.hid (hV.out.step hb2)
  have hU := Lib.hid hu
  have hL2 := Lib.hid (below_step hb2 hL.out (Nat.le_refl _))
  clear hu hb hb2 hV hL kD
  dsimp only
  go_wp2_with fail
  refine (kS.out _ _ _ hV2.out hU.out).mono ?_
  rintro e w4 ⟨x, rfl, hx, hb⟩
  have hX := Lib.hid hx
  have hL3 := Lib.hid (below_step hb hL2.out (Nat.le_refl _))
  clear hx hb hL2 hU hV2 kS
  dsimp only
  go_wp2_with fail
  go_ret
  exact ⟨x, rfl, hX.out, hL3.out⟩
theorem IsN.one1 (w : World) (t : TypeId) : IsN (w.alloc (.cells #[.int .i64 ((1 : Nat) : Int)] t)) (.slice (some ⟨w.heap.size, 0, none⟩) 1 1) 1 :=
  ⟨some ⟨w.heap.size, 0, none⟩, [1], 1, rfl, ⟨Rd.of_blk (cs := #[.int .i64 ((1 : Nat) : Int)]) (push_new _ _) (by simp), Sm.one (by omega), by simp, by omega⟩, ⟨⟨Sm.one (by omega), val_one 1⟩, by simp⟩⟩
theorem pw_bit (a n m s x y : Nat) (hx : x = a ^ (n % 2 ^ s) % m) (hy : y = a ^ 2 ^ s % m) : (n / 2 ^ s % 2 = 0 → x = a ^ (n % 2 ^ (s + 1)) % m) ∧ (n / 2 ^ s % 2 = 1 → x * y % m = a ^ (n % 2 ^ (s + 1)) % m) ∧ y * y % m = a ^ 2 ^ (s + 1) % m := by
  have h : n % 2 ^ (s + 1) = n % 2 ^ s + n / 2 ^ s % 2 * 2 ^ s := by rw [Nat.pow_succ, Nat.mod_mul, Nat.mul_comm (2 ^ s) (n / 2 ^ s % 2)]
  refine ⟨fun hb => ?_, fun hb => ?_, ?_⟩
  · rw [h, hb, Nat.zero_mul, Nat.add_zero]; exact hx
  · rw [h, hb, Nat.one_mul, Nat.pow_add, hx, hy, ← Nat.mul_mod]
  · rw [hy, ← Nat.mul_mod, Nat.pow_succ, Nat.mul_two, Nat.pow_add]
theorem powerN {u v x : Value} {a n m k j : Nat} (w : World) (hu : IsN w u a) (ha : a < 2 ^ k) (hk : k ≤ 160000) (hv : IsN w v n) (hn : n < big) (hx : IsV w x m) (hm1 : 0 < m) (hmj : m < 2 ^ j) (hj : j ≤ 1000) :
    Calls Try.prog 65 #[u, v, x] w (RetN (a ^ n % m) w) := by
  obtain ⟨A, l, c, rfl, hD, hG⟩ := hv
  have hll : l.length ≤ 10000 := lt_len hG hn
  have hval : val l = n := hG.val
  have hnl : n < 2 ^ (16 * l.length) := by
    have h := val_lt hG.sm
    rw [hval, show (65536 : Nat) = 2 ^ 16 from rfl, ← Nat.pow_mul] at h
    exact h
  obtain ⟨uA, um, uc, rfl, -, -, -⟩ := hu.form
  obtain ⟨xA, xl, xc, rfl, hxD, hxv, hxl⟩ := hx
  have hmb : 65536 * m < big := mul_big (m := 17) (n := j) (by omega) hmj (by omega)
  have hXV := Lib.hid (fun V (h : Below w.heap.size w V) => show IsV V (.slice xA xl.length xc) m from ⟨xA, xl, xc, rfl, hxD.below h (Nat.le_refl _), hxv, hxl⟩)
  have kR1 := Lib.hid (fun V v (hv : IsN V v 1) (h : Below w.heap.size w V) => restN (k := 1) V hv (by omega) (by omega) (hXV.out V h) hm1 hmb)
  have kRa := Lib.hid (fun V v (hv : IsN V v a) (h : Below w.heap.size w V) => restN V hv ha hk (hXV.out V h) hm1 hmb)
  have kRm := Lib.hid (fun V v p q (hp : p < m) (hq : q < m) (hv : IsN V v (p * q)) (h : Below w.heap.size w V) => restN (k := j + j) V hv (by rw [Nat.pow_add]; exact Nat.mul_lt_mul'' (by omega) (by omega)) (by omega) (hXV.out V h) hm1 hmb)
  have kT := Lib.hid (fun V v1 v2 p q (hp : p < m) (hq : q < m) (h1 : IsN V v1 p) (h2 : IsN V v2 q) => timesN V (h1.toV (lt_big (k := j) (by omega) (by omega))) (h2.toV (lt_big (k := j) (by omega) (by omega))))
  obtain ⟨M, hM⟩ : ∃ m, 16 * l.length = m := ⟨_, rfl⟩
  have hm2 : M ≤ 160000 := by omega
  have kB := Lib.hid (fun V (h : Below w.heap.size w V) => ref_Bits A l c M V (hD.below h (Nat.le_refl _)) (by omega))
  rw [hval] at kB
  have hmi : (16 : Int) * (l.length : Int) = (M : Int) := by omega
  have hln : (l.length : Int) ≤ 10000 := by omega
  have hnm : n % 2 ^ M = n := by rw [← hM]; exact Nat.mod_eq_of_lt hnl
  have hend := Lib.hid (show a ^ (n % 2 ^ M) % m = a ^ n % m by rw [hnm])
  have hrd := Lib.hid (fun s x y hx hy => pw_bit a n m s x y hx hy)
  have hlm := Lib.hid (fun t => Nat.mod_lt t hm1)
  have hs0 := Lib.hid (show 1 % m = a ^ (n % 2 ^ 0) % m by rw [Nat.pow_zero, Nat.mod_one, Nat.pow_zero])
  have hs1 := Lib.hid (show a % m = a ^ 2 ^ 0 % m by rw [Nat.pow_zero, Nat.pow_one])
  have hab := Lib.hid (fun i => show n / 2 ^ i % 2 = 0 ∨ n / 2 ^ i % 2 = 1 by omega)
  have hUa := Lib.hid hu
  obtain ⟨bf, hbf⟩ : ∃ b, (fun i => n / 2 ^ i % 2) = b := ⟨_, rfl⟩
  have hbi : ∀ i, n / 2 ^ i % 2 = bf i := fun i => by rw [← hbf]
  unfold BitsR at kB
  rw [hbf] at kB
  simp only [hbi] at hrd hab
  obtain ⟨R, hR⟩ : ∃ R, a ^ n % m = R := ⟨_, rfl⟩
  rw [hR] at hend ⊢
  generalize l.length = ll at *
  generalize xl.length = xll at *
  clear hR hbf hbi hnm hxD hxv hxl hG hD hval hnl hM hll hn hu ha hk hmj hj hmb hXV
  have hw1 : Below w.heap.size w (w.alloc (.cells #[.int .i64 1] 3)) := below_alloc _ _
  go_enter Try.func65, Try.ntmps65
  go_wp2_with fail
  refine (kR1.out _ _ (IsN.one1 w 3) hw1).mono ?_
  rintro e w2 ⟨o1, rfl, ho1, hb⟩
  have hO := Lib.hid ho1
  have hL := Lib.hid (below_step hb hw1 (Nat.le_refl _))
  clear ho1 hb hw1 kR1
  dsimp only
  go_wp2_with fail
  refine (kRa.out _ _ (hUa.out.step hL.out) hL.out).mono ?_
  rintro e w3 ⟨a1, rfl, ha1, hb⟩
  have hA := Lib.hid ha1
  replace hO := Lib.hid (hO.out.step hb)
  replace hL := Lib.hid (below_step hb hL.out (Nat.le_refl _))
  clear ha1 hb kRa hUa
  dsimp only
  have ws : IntKind.i64.wrap ((M : Nat) : Int) = ((M : Nat) : Int) := by rw [IntKind.wrap_i64]; omega
  have kB2 := Lib.hid (kB.out _ hL.out)
  clear kB
  go_wp2_with fail
  refine (show Calls _ _ #[_, Value.int IntKind.i64 (M : Int)] w3 _ from kB2.out).mono ?_
  rintro e w4 ⟨g, rfl, hgR, hgE, hgs, hb⟩
  have hG := Lib.hid (show At w4 g .i64 M bf from ⟨hgR, hgE⟩)
  replace hO := Lib.hid (hO.out.step hb)
  replace hA := Lib.hid (hA.out.step hb)
  replace hL := Lib.hid (below_step hb hL.out (Nat.le_refl _))
  clear hgR hgE hgs hb kB2 ws
  dsimp only
  go_upto_region 4 with (fail)
  go_loopw [0, 7, 9, 22] (fun va vo vb vi wr => ∃ s p q : Nat, vi = .int .i64 (s : Nat) ∧ s ≤ M ∧ p < m ∧ q < m ∧ p = a ^ (n % 2 ^ s) % m ∧ q = a ^ 2 ^ s % m ∧ IsN wr vo p ∧ IsN wr va q ∧ At wr g .i64 M bf ∧ Below w.heap.size w wr) (fun _ _ _ vi _ => M - (intOf vi).toNat)
  case atStart => exact ⟨0, 1 % m, a % m, rfl, Nat.zero_le _, hlm.out _, hlm.out _, hs0.out, hs1.out, hO.out, hA.out, hG.out, hL.out⟩
  case round =>
    clear hO hA hG hL hs0 hs1
    obtain ⟨s, p, q, rfl, hs, hp, hq, hpe, hqe, hO0, hA0, hG0, hL0⟩ := hrel
    have hO := Lib.hid hO0
    have hA := Lib.hid hA0
    have hG := Lib.hid hG0
    have hL := Lib.hid hL0
    clear hO0 hA0 hG0 hL0
    obtain ⟨oA, om, oc, rfl, -, -, -⟩ := hO.out.form
    obtain ⟨aA, am, ac, rfl, -, -, -⟩ := hA.out.form
    by_cases hsm : s = M
    · subst hsm
      have hfin := Lib.hid (hpe.trans hend.out)
      clear hend hrd hab hpe hqe hp hq hG hA
      have d1 : decide ((s : Int) < (s : Int)) = false := by simp
      go_wp2_with fail
      go_ret
      exact ⟨_, rfl, hfin.out ▸ hO.out, hL.out⟩
    · have hslt : s < M := by omega
      have hr := hrd.out s p q hpe hqe
      have hr0 := Lib.hid hr.1
      have hr1 := Lib.hid hr.2.1
      have hr2 := Lib.hid hr.2.2
      have hab2 := hab.out s
      have c := hG.out.cell hslt
      have d1 : decide ((s : Int) < (M : Int)) = true := by simp; omega
      have d2 : (0 : Int) ≤ (s : Int) := by omega
      have d3 : (s : Int) < (M : Int) := by omega
      have w3 : IntKind.i64.wrap ((s : Int) + 1) = (s : Int) + 1 := by rw [IntKind.wrap_i64]; omega
      have hPe := Lib.hid hpe
      clear hr hpe hqe hsm
      rcases hab2 with hz | hz
      · have hfin := Lib.hid (hr0.out hz)
        rw [hz] at c
        clear hr0 hr1 hz
        go_wp2_with fail
        refine (kT.out _ _ _ q q hq hq hA.out hA.out).mono ?_
        rintro e w5 ⟨t, rfl, ht, hb⟩
        replace hO := Lib.hid (hO.out.step hb)
        replace hG := Lib.hid (hG.out.step hb)
        replace hL := Lib.hid (below_step hb hL.out (Nat.le_refl _))
        have hT := Lib.hid ht
        clear ht hb hA c
        dsimp only
        go_wp2_with fail
        refine (kRm.out _ _ q q hq hq hT.out hL.out).mono ?_
        rintro e w6 ⟨t2, rfl, ht, hb⟩
        replace hO := Lib.hid (hO.out.step hb)
        replace hG := Lib.hid (hG.out.step hb)
        replace hL := Lib.hid (below_step hb hL.out (Nat.le_refl _))
        have hT2 := Lib.hid ht
        clear ht hb hT
        dsimp only
        go_wp2_with fail
        go_roundw
        case rel => exact ⟨s + 1, p, q * q % m, by go_num, by omega, hp, hlm.out _, hfin.out, hr2.out, hO.out, hT2.out, hG.out, hL.out⟩
        case measure => simp [intOf]; omega
      · have hfin := Lib.hid (hr1.out hz)
        rw [hz] at c
        clear hr0 hr1 hz
        go_wp2_with fail
        refine (kT.out _ _ _ p q hp hq hO.out hA.out).mono ?_
        rintro e w5 ⟨t, rfl, ht, hb⟩
        replace hA := Lib.hid (hA.out.step hb)
        replace hG := Lib.hid (hG.out.step hb)
        replace hL := Lib.hid (below_step hb hL.out (Nat.le_refl _))
        have hT := Lib.hid ht
        clear ht hb hO c
        dsimp only
        go_wp2_with fail
        refine (kRm.out _ _ p q hp hq hT.out hL.out).mono ?_
        rintro e w6 ⟨t2, rfl, ht, hb⟩
        replace hA := Lib.hid (hA.out.step hb)
        replace hG := Lib.hid (hG.out.step hb)
        replace hL := Lib.hid (below_step hb hL.out (Nat.le_refl _))
        have hO := Lib.hid ht
        clear ht hb hT
        dsimp only
        go_wp2_with fail
        refine (kT.out _ _ _ q q hq hq hA.out hA.out).mono ?_
        rintro e w7 ⟨t3, rfl, ht, hb⟩
        replace hO := Lib.hid (hO.out.step hb)
        replace hG := Lib.hid (hG.out.step hb)
        replace hL := Lib.hid (below_step hb hL.out (Nat.le_refl _))
        have hT := Lib.hid ht
        clear ht hb hA
        dsimp only
        go_wp2_with fail
        refine (kRm.out _ _ q q hq hq hT.out hL.out).mono ?_
        rintro e w8 ⟨t4, rfl, ht, hb⟩
        replace hO := Lib.hid (hO.out.step hb)
        replace hG := Lib.hid (hG.out.step hb)
        replace hL := Lib.hid (below_step hb hL.out (Nat.le_refl _))
        have hT2 := Lib.hid ht
        clear ht hb hT
        dsimp only
        go_wp2_with fail
        go_roundw
        case rel => exact ⟨s + 1, p * q % m, q * q % m, by go_num, by omega, hlm.out _, hlm.out _, hfin.out, hr2.out, hO.out, hT2.out, hG.out, hL.out⟩
        case measure => simp [intOf]; omega
end Go.Proofs.Ytdlmamnnamlleaa
namespace Go.Proofs.Ytdlmamnnamlleaa
open Go Go.RowKit

section
variable {P : Program} {ops : Array Oper} {Q : Exit → Act → World → Prop}
def tEdgesL (ops : Array Oper) (q : Nat) : Bool := ((List.range q).all fun j => pathB ops ops.size q j) && (List.range ops.size).all fun i => decide (i ≤ q) || pathB ops ops.size i (i - 1)
/-- The slots that no operation before q writes read as at first. -/
def UntouchedL (ops : Array Oper) (q : Nat) (a0 a : Act) : Prop := ∀ s, ((List.range ops.size).all fun i => decide (q ≤ i) || dstAt ops i != some s) = true → a.tmps[s]?.getD undef = a0.tmps[s]?.getD undef
def StepOkL (P : Program) (ops : Array Oper) (Q : Exit → Act → World → Prop) (R : Nat → SRel) (a0 : Act) (w0 : World) (q i : Nat) (o : Oper) : Prop :=
  ∀ (a : Act) (w : World) (K : Act → World → Prop), Below w0.heap.size w0 w → UntouchedL ops q a0 a → Came ops R o a w →
    (∀ v w', (R i).p v w' → Below w.heap.size w w' → K (a.put o.dst v) w') → if Region.wanted o (yielded ops a.tmps) = true then Oper.wp P o a w K Q else K (a.put o.dst undef) w
theorem calmL_step {R : Nat → SRel} {a0 : Act} {w0 : World} {q i : Nat} {o : Oper} (hg : o.guard = none)
    (h : ∀ (a : Act) (w : World) (K : Act → World → Prop), Below w0.heap.size w0 w → UntouchedL ops q a0 a → Came ops R o a w → (∀ v w', (R i).p v w' → Below w.heap.size w w' → K (a.put o.dst v) w') → Oper.wp P o a w K Q) : StepOkL P ops Q R a0 w0 q i o := by
  intro a w K hb hu hc hK
  rw [if_pos (by simp [Region.wanted, hg])]
  exact h a w K hb hu hc hK
theorem calmL_step_guard {R : Nat → SRel} {a0 : Act} {w0 : World} {q i g : Nat} {b : Bool} {d : Tmp} {o : Oper} (hg : o.guard = some (g, b)) (hd : dstAt ops g = some d)
    (hv : ∀ (a : Act) (w : World), Came ops R o a w → a.tmps[d]?.getD undef = .bool b)
    (h : ∀ (a : Act) (w : World) (K : Act → World → Prop), Below w0.heap.size w0 w → UntouchedL ops q a0 a → Came ops R o a w → (∀ v w', (R i).p v w' → Below w.heap.size w w' → K (a.put o.dst v) w') → Oper.wp P o a w K Q) : StepOkL P ops Q R a0 w0 q i o := by
  intro a w K hb hu hc hK
  have hy : yielded ops a.tmps g = some b := by
    have h1 := hv a w hc
    unfold dstAt at hd
    unfold yielded
    rw [hd, Option.bind_some]
    cases h2 : a.tmps[d]? with
    | none => rw [h2] at h1; cases h1
    | some v => rw [h2] at h1; have : v = .bool b := h1; rw [this]
  rw [if_pos (by simp [Region.wanted, hg, hy])]
  exact h a w K hb hu hc hK
/-- The frame before the q-th operation, written out. -/
def dstL (ops : Array Oper) (q s : Nat) : Bool := (List.range ops.size).any fun i => !decide (q ≤ i) && dstAt ops i == some s
theorem act_patchL {a0 a : Act} {n : Nat} (q : Nat) (bs : List Bool) (hn : a0.tmps.size = n) (hbs : bs = (List.range n).map (fun j => dstL ops q (0 + j))) (hu : UntouchedL ops q a0 a) (hsz : a.tmps.size = a0.tmps.size) (hdf : a.defers = a0.defers) :
    a = ⟨(patch a 0 a0.tmps.toList bs).toArray, a0.defers⟩ := by
  rw [patch_eq a (dstL ops q) a0.tmps.toList 0 bs (by rw [hbs, Array.length_toList, hn])]
  obtain ⟨t, d⟩ := a
  simp only at hsz hdf hu ⊢
  subst hdf
  congr 1
  apply Array.ext
  · simp [hsz]
  · intro i h1 h2
    simp only [List.getElem_toArray, List.getElem_map, List.getElem_range, Nat.zero_add]
    cases hD : dstL ops q i with
    | true => simp [h1]
    | false =>
      have h3 := hu i (by
        rw [List.all_eq_true]
        intro j hj
        unfold dstL at hD
        have h4 := List.any_eq_false.1 hD j hj
        cases hjq : decide (q ≤ j) with
        | true => rfl
        | false =>
          rw [hjq] at h4
          simp at h4 ⊢
          exact h4)
      simp [h1] at h3
      rw [cond_false, h3]
      have h5 : i < a0.tmps.size := by omega
      simp [h5]
/-- What is asked of the operations from q on. -/
def LastOkL (P : Program) (ops : Array Oper) (Q : Exit → Act → World → Prop) (R : Nat → SRel) (a0 : Act) (w0 : World) (q : Nat) : Prop :=
  ∀ (a : Act) (w : World), Below w0.heap.size w0 w → UntouchedL ops q a0 a → a.tmps.size = a0.tmps.size → a.defers = a0.defers → (∀ j d, j < q → dstAt ops j = some d → (R j).p (a.tmps[d]?.getD undef) w) →
    wpList P ops Q (ops.toList.drop q) a w
def StepsL (P : Program) (ops : Array Oper) (Q : Exit → Act → World → Prop) (R : Nat → SRel) (a0 : Act) (w0 : World) (q : Nat) : Nat → List Oper → Prop
  | _, [] => True
  | i, o :: l => StepOkL P ops Q R a0 w0 q i o ∧ StepsL P ops Q R a0 w0 q (i + 1) l
theorem stepsL_at {R : Nat → SRel} {a0 : Act} {w0 : World} {q : Nat} : ∀ (l : List Oper) (n i : Nat) (o : Oper), StepsL P ops Q R a0 w0 q n l → l[i]? = some o → StepOkL P ops Q R a0 w0 q (n + i) o
  | [], n, i, o, _, h => by simp at h
  | x :: l, n, 0, o, h1, h => by
      have : x = o := by simpa using h
      subst this
      exact h1.1
  | x :: l, n, i + 1, o, h1, h => by
      have := stepsL_at l (n + 1) i o h1.2 (by simpa using h)
      rw [show n + (i + 1) = n + 1 + i by omega]
      exact this
theorem wp_region_tailL {id : Nat} {a0 : Act} {w0 : World} (R : Nat → SRel) (q : Nat) (hm : P.follows .mixedOrders = true) (he : edgesOk ops = true) (hd : dstsOk ops = true) (hz : slotsOk ops a0.tmps.size = true) (hX : tEdgesL ops q = true)
    (hqn : q < ops.size) (hstep : StepsL P ops Q R a0 w0 q 0 (ops.toList.take q)) (hlast : LastOkL P ops Q R a0 w0 q) : (Code.region id ops true).wp P Q a0 w0 := by
  refine wp_region_any hm ?_
  have hlt : ∀ i d, dstAt ops i = some d → i < ops.size := fun i d h => by
    unfold dstAt at h
    rcases Nat.lt_or_ge i ops.size with h1 | h1
    · exact h1
    · rw [Array.getElem?_eq_none h1] at h; cases h
  have hdst : ∀ i j d e, i ≠ j → dstAt ops i = some d → dstAt ops j = some e → d ≠ e := by
    intro i j d e hij h1 h2
    have := List.all_eq_true.1 (List.all_eq_true.1 hd i (by simpa using hlt i d h1)) j (by simpa using hlt j e h2)
    rw [h1, h2] at this
    simpa [hij] using this
  have hslot : ∀ i d, dstAt ops i = some d → d < a0.tmps.size := by
    intro i d h1
    have := List.all_eq_true.1 hz i (by simpa using hlt i d h1)
    rw [h1] at this
    simpa using this
  unfold tEdgesL at hX
  rw [Bool.and_eq_true] at hX
  have hsz0 : ∃ f, ops.size = f + 1 := ⟨ops.size - 1, by omega⟩
  -- an operation that may run now waits for none that is not listed
  have hpath : ∀ (listed : Array Bool) (i j : Nat) (o : Oper), (∀ k o, listed.getD k false = true → ops[k]? = some o → ∀ e ∈ o.after, Region.binds .any e = true → listed.getD e.on false = true) →
      ops[i]? = some o → (∀ e ∈ o.after, Region.binds .any e = true → listed.getD e.on false = true) → pathB ops ops.size i j = true → listed.getD j false = true := by
    intro listed i j o hcl ho h2 hp
    obtain ⟨f, hf⟩ := hsz0
    rw [hf] at hp
    obtain ⟨o', ho', e, he, hb', h6⟩ := path_on hp
    rw [ho] at ho'
    cases ho'
    have hl := h2 e he hb'
    rcases h6 with h6 | h6
    · rw [← h6]; exact hl
    · exact path_listed hcl f e.on j hl h6
  have hcl' : ∀ (listed : Array Bool) (i : Nat) (o : Oper), listed.size = ops.size → i < ops.size → (∀ k o, listed.getD k false = true → ops[k]? = some o → ∀ e ∈ o.after, Region.binds .any e = true → listed.getD e.on false = true) →
      ops[i]? = some o → (∀ e ∈ o.after, Region.binds .any e = true → listed.getD e.on false = true) →
      (∀ k o, (listed.setIfInBounds i true).getD k false = true → ops[k]? = some o → ∀ e ∈ o.after, Region.binds .any e = true → (listed.setIfInBounds i true).getD e.on false = true) := by
    intro listed i o hs hi hcl ho h2 k o' hk ho' e he1 he2
    have hil : i < listed.size := by omega
    have hle : listed.getD e.on false = true := by
      by_cases hki : k = i
      · subst hki
        rw [ho] at ho'
        cases ho'
        exact h2 e he1 he2
      · have hk' : listed.getD k false = true := by simpa [Array.getElem?_setIfInBounds_ne (Ne.symm hki)] using hk
        exact hcl k o' hk' ho' e he1 he2
    by_cases hei : e.on = i
    · rw [hei]; simp [hil]
    · simpa [Array.getElem?_setIfInBounds_ne (Ne.symm hei)] using hle
  -- the r-th of those from q on
  have hrun : ∀ (listed : Array Bool) (r : Nat) (a : Act) (w : World) (K : Act → World → Prop), r < ops.size → wpList P ops Q (ops.toList.drop r) a w → (∀ a' w', wpList P ops Q (ops.toList.drop (r + 1)) a' w' → K a' w') → wpOp P ops Q r K a w := by
    intro listed r a w K hr h hK
    rw [List.drop_eq_getElem_cons (by simpa using hr)] at h
    refine wpOp_mono hK ?_
    unfold wpOp
    rw [Array.getElem?_eq_getElem hr]
    simp only [Array.getElem_toList] at h
    exact h
  refine wpAny_inv he (fun listed a w => (∀ k o, listed.getD k false = true → ops[k]? = some o → ∀ e ∈ o.after, Region.binds .any e = true → listed.getD e.on false = true) ∧ (((∀ k, q ≤ k → listed.getD k false = false) ∧ Below w0.drew.heap.size w0.drew w ∧ UntouchedL ops q a0 a ∧ a.tmps.size = a0.tmps.size ∧ a.defers = a0.defers ∧ ∀ j d, listed.getD j false = true → dstAt ops j = some d → (R j).p (a.tmps[d]?.getD undef) w) ∨ (∃ r, q ≤ r ∧ r ≤ ops.size ∧ (∀ k, r ≤ k → listed.getD k false = false) ∧ (∀ k, k < r → listed.getD k false = true) ∧ wpList P ops Q (ops.toList.drop r) a w))) ?_ ?_ _ _ _ _ (by simp) ?_ ?_
  · rintro listed a w i o hs ⟨hcl, hI⟩ hi h1 ho h2
    have hil : i < listed.size := by omega
    have hc2 := hcl' listed i o hs hi hcl ho h2
    have hafter : ∀ r, q ≤ r → r ≤ i → (∀ k, r ≤ k → listed.getD k false = false) → i = r := by
      intro r hqr hri hun
      rcases Nat.eq_or_lt_of_le hri with h3 | h3
      · exact h3.symm
      · have h4 := List.all_eq_true.1 hX.2 i (by simpa using hi)
        rw [Bool.or_eq_true, decide_eq_true_eq] at h4
        rcases h4 with h4 | h4
        · omega
        · have := hpath listed i (i - 1) o hcl ho h2 h4
          rw [hun (i - 1) (by omega)] at this
          cases this
    have hset : ∀ r, i = r → (∀ k, r ≤ k → listed.getD k false = false) → ∀ k, r + 1 ≤ k → (listed.setIfInBounds i true).getD k false = false := by
      intro r hir hun k hk
      have := hun k (by omega)
      simpa [Array.getElem?_setIfInBounds_ne (show i ≠ k by omega)] using this
    have hset2 : ∀ _ : Nat, (∀ k, k < i → listed.getD k false = true) → ∀ k, k < i + 1 → (listed.setIfInBounds i true).getD k false = true := by
      intro r hli k hk
      by_cases hki : k = i
      · rw [hki]; simp [hil]
      · have := hli k (by omega)
        simpa [Array.getElem?_setIfInBounds_ne (Ne.symm hki)] using this
    rcases hI with ⟨hun, hb, hu, hsz, hdf, hR⟩ | ⟨r, hqr, hrn, hun, hli, hW⟩
    · rcases Nat.lt_or_ge i q with hiq | hiq
      · have hst := stepsL_at (ops.toList.take q) 0 i o hstep (by rw [List.getElem?_take_of_lt hiq, Array.getElem?_toList]; exact ho)
        rw [Nat.zero_add] at hst
        refine wpOp_step ho fun K hK => hst a w K (below_step hb (Below.refl _ _).drew (Nat.le_refl _)) hu (fun j d hj hjd => ?_) fun v w' hv hb' => hK _ _ ⟨hc2, .inl ⟨?_, below_step hb' hb (Nat.le_refl _), ?_, ?_, ?_, ?_⟩⟩
        · obtain ⟨e, he1, he2⟩ := List.any_eq_true.1 hj
          have he1 : e ∈ o.after := Array.mem_toList_iff.1 he1
          simp only [Bool.and_eq_true, beq_iff_eq] at he2
          refine hR j d ?_ hjd
          rw [← he2.1]
          exact h2 e he1 he2.2
        · intro k hk
          have := hun k hk
          simpa [Array.getElem?_setIfInBounds_ne (show i ≠ k by omega)] using this
        · intro s hs'
          have hns : o.dst ≠ some s := by
            have h6 := List.all_eq_true.1 hs' i (by simpa using hi)
            rw [Bool.or_eq_true, decide_eq_true_eq] at h6
            rcases h6 with h6 | h6
            · omega
            · unfold dstAt at h6
              rw [ho] at h6
              simpa using h6
          rw [← hu s hs']
          cases hd' : o.dst with
          | none => rfl
          | some d =>
            have hne : d ≠ s := fun e => hns (by rw [hd', e])
            simp [Act.put, Array.getElem?_setIfInBounds_ne hne]
        · cases hd' : o.dst <;> simp [Act.put, hsz]
        · cases hd' : o.dst <;> simp [Act.put, hdf]
        · intro j d hj hjd
          by_cases hij : i = j
          · subst hij
            have hd1 := hslot i d hjd
            have hod : o.dst = some d := by unfold dstAt at hjd; rw [ho] at hjd; exact hjd
            rw [hod]
            rw [← hsz] at hd1
            simp [Act.put, hd1]
            exact hv
          · have hlj : listed.getD j false = true := by
              simpa [Array.getElem?_setIfInBounds_ne hij] using hj
            have h3 := (R j).st _ _ _ hb' (hR j d hlj hjd)
            cases hd' : o.dst with
            | none => simpa [Act.put] using h3
            | some d' =>
              have hne : d' ≠ d := hdst i j d' d hij (by unfold dstAt; rw [ho]; exact hd') hjd
              simpa [Act.put, Array.getElem?_setIfInBounds_ne hne] using h3
      · have hiq' := hafter q (Nat.le_refl _) hiq hun
        have hallj : ∀ j, j < q → listed.getD j false = true := fun j hj => hpath listed i j o hcl ho h2 (by rw [hiq']; exact List.all_eq_true.1 hX.1 j (by simpa using hj))
        refine hrun listed i a w _ hi ?_ fun a' w' hK => ⟨hc2, .inr ⟨i + 1, by omega, by omega, hset i rfl (hiq' ▸ hun), hset2 i (fun k hk => hallj k (by omega)), hK⟩⟩
        rw [hiq']
        exact hlast a w (below_step hb (Below.refl _ _).drew (Nat.le_refl _)) hu hsz hdf fun j d hj hjd => hR j d (hallj j hj) hjd
    · have hir : r ≤ i := by
        rcases Nat.lt_or_ge i r with h3 | h3
        · exfalso
          have h4 := hli i h3
          rw [Array.getD_eq_getD_getElem?] at h4
          simp [hil] at h1 h4
          rw [h1] at h4
          cases h4
        · exact h3
      have hiq' := hafter r hqr hir hun
      exact hrun listed i a w _ hi (hiq' ▸ hW) fun a' w' hK => ⟨hc2, .inr ⟨i + 1, by omega, by omega, hset i rfl (hiq' ▸ hun), hset2 i (fun k hk => hli k (by omega)), hK⟩⟩
  · rintro listed a w ⟨-, ⟨hun, -⟩ | ⟨r, hqr, hrn, hun, hli, hW⟩⟩ hall
    · have := hall q hqn
      rw [hun q (Nat.le_refl _)] at this
      cases this
    · have hr : r = ops.size := by
        rcases Nat.eq_or_lt_of_le hrn with h | h
        · exact h
        · have := hall r h
          rw [hun r (Nat.le_refl _)] at this
          cases this
      rw [hr, ← Array.length_toList, List.drop_length] at hW
      exact hW
  · unfold left
    rw [Array.toList_replicate]
    exact Nat.le_trans (List.length_filter_le _ _) (by simp)
  · have h0 : ∀ j, (Array.replicate ops.size false).getD j false = false := fun j => by
      rw [Array.getD_eq_getD_getElem?, Array.getElem?_replicate]
      split <;> simp
    exact ⟨fun k o hk => absurd hk (by rw [h0]; simp), .inl ⟨fun k _ => h0 k, Below.refl _ _, fun _ _ => rfl, rfl, rfl, fun j d hj => absurd hj (by rw [h0]; simp)⟩⟩
end
end Go.Proofs.Ytdlmamnnamlleaa
namespace Go.Proofs.Ytdlmamnnamlleaa
open Go.ChangeShapes Go.WideShapes Go.ChangeAt Go.RowKit
set_option maxHeartbeats 2000000
set_option maxRecDepth 100000
def SRel.bV (m : Nat) : SRel := ⟨fun v w => IsV w v m, fun _ _ _ hb h => h.step hb⟩
def SRel.bN (m : Nat) : SRel := ⟨fun v w => IsN w v m, fun _ _ _ hb h => h.step hb⟩
/-- Bytes from i on, the least first. -/
def hvB (f : Nat → Nat) (i : Nat) : Nat → Nat
  | 0 => 0
  | k + 1 => f i + 256 * hvB f (i + 1) k
theorem hvB_bval (f : Nat → Nat) : ∀ k i, bval f i + 256 ^ i * hvB f i k = bval f (i + k)
  | 0, i => by simp [hvB]
  | k + 1, i => by
    have ih := hvB_bval f k (i + 1)
    rw [show i + (k + 1) = i + 1 + k by omega, ← ih]
    show bval f i + 256 ^ i * (f i + 256 * hvB f (i + 1) k) = bval f i + 256 ^ i * f i + 256 ^ (i + 1) * hvB f (i + 1) k
    rw [Nat.pow_succ]
    generalize hvB f (i + 1) k = x
    grind
theorem hvB_zero (f : Nat → Nat) (n : Nat) : hvB f 0 n = bval f n := by
  have h := hvB_bval f n 0
  rw [Nat.zero_add, Nat.pow_zero, Nat.one_mul] at h
  rw [← h]
  simp [bval]
theorem hvB_lt {f : Nat → Nat} : ∀ k i, (∀ j < i + k, f j < 256) → hvB f i k < 2 ^ (8 * k)
  | 0, i, _ => by simp [hvB]
  | k + 1, i, h => by
    have h1 := hvB_lt k (i + 1) (fun j hj => h j (by omega))
    have h2 := h i (by omega)
    show f i + 256 * hvB f (i + 1) k < 2 ^ (8 * (k + 1))
    rw [show 8 * (k + 1) = 8 * k + 8 by omega, Nat.pow_add]
    omega
end Go.Proofs.Ytdlmamnnamlleaa
namespace Go.Proofs.Ytdlmamnnamlleaa
open Go.ChangeShapes Go.WideShapes Go.ChangeAt Go.RowKit
set_option maxHeartbeats 2000000
set_option maxRecDepth 100000
attribute [local go_sem ↓] load_shE load_fld load_num store_num execl_num execs_num load_sh store_sh execl_sh execs_sh
attribute [local go_sem] isHead_mk blkOf_mk isAgg_mk cellsV_mk row_drew rowAt_drew row_new_cells row_old rowAt_new rowAt_old setRow_new zeroNum zeroSh
attribute [local irreducible] arrV shA
theorem ref_SharesFault (A : Option Addr) (n c : Nat) (X : Nat → Int) (Y : Nat → Nat) (x : Int) (w : World) (hS : Shs w A n X Y) (hnc : n ≤ c) (hY : ∀ i < n, Y i < 2 ^ 256) (hX : ∀ i < n, -9223372036854775808 ≤ X i ∧ X i < 9223372036854775808) : Calls Try.prog 11 #[.slice A n c, .int .i64 x] w fun e w' => (∃ f, e = .returned (.int .i64 f) ∧ FaultIs n X Y x f) ∧ Below w.heap.size w w' := by
  have hSh := Lib.hid hS
  go_enter Try.func11, Try.ntmps11
  by_cases h20 : 20 < n
  · have d1 : decide ((n : Int) > 20) = true := by simp; omega
    have d2 : (20 : Int) < (n : Int) := by omega
    have hh := Lib.hid h20
    clear hSh hS hY hX h20
    go_wp2_with fail
    go_ret
    exact ⟨⟨2, rfl, .inl ⟨hh.out, rfl⟩⟩, Below.refl _ _⟩
  · have d1 : decide ((n : Int) > 20) = false := by simp; omega
    have d2 : ¬ (20 : Int) < (n : Int) := by omega
    by_cases hb : n = 0 ∨ x < 0 ∨ 255 < x
    · have hbh := Lib.hid hb
      have h20h := Lib.hid h20
      clear hSh hS hY hX h20
      rcases hb with rfl | h1 | h1
      · go_wp2_with fail
        go_ret
        exact ⟨⟨1, rfl, .inr (.inl ⟨by omega, .inl rfl, rfl⟩)⟩, Below.refl _ _⟩
      · by_cases h0 : n = 0
        · subst h0
          go_wp2_with fail
          go_ret
          exact ⟨⟨1, rfl, .inr (.inl ⟨by omega, .inl rfl, rfl⟩)⟩, Below.refl _ _⟩
        · have h3 : ((n : Int) == 0) = false := by simp; omega
          go_wp2_with fail
          go_ret
          exact ⟨⟨1, rfl, .inr (.inl ⟨by have := h20h.out; omega, hbh.out, rfl⟩)⟩, Below.refl _ _⟩
      · by_cases h0 : n = 0
        · subst h0
          go_wp2_with fail
          go_ret
          exact ⟨⟨1, rfl, .inr (.inl ⟨by omega, .inl rfl, rfl⟩)⟩, Below.refl _ _⟩
        · have h3 : ((n : Int) == 0) = false := by simp; omega
          have h4 : decide (x < 0) = false := by simp; omega
          go_wp2_with fail
          go_ret
          exact ⟨⟨1, rfl, .inr (.inl ⟨by have := h20h.out; omega, hbh.out, rfl⟩)⟩, Below.refl _ _⟩
    · have h3 : ((n : Int) == 0) = false := by simp; omega
      have h4 : decide (x < 0) = false := by simp; omega
      have h5 : decide (x > 255) = false := by simp; omega
      have hn20 := Lib.hid (show n ≤ 20 by omega)
      have hbh := Lib.hid hb
      clear hS h20 hb
      go_upto_region 6 with (fail)
      have hL0 := Below.refl w.heap.size w
      go_loopw [25] (fun i wr => ∃ k : Nat, i = .int .i64 k ∧ k ≤ n ∧ Hid (Below w.heap.size w wr) ∧ Hid (∀ j < k, ShOk X Y j)) (fun i _ => n - (intOf i).toNat)
      case atStart => exact ⟨0, rfl, by omega, Lib.hid hL0, Lib.hid (fun j hj => absurd hj (by omega))⟩
      case round =>
        clear hL0
        obtain ⟨k, rfl, hk, hL, hO⟩ := hrel
        have hS := Lib.hid (hSh.out.step hL.out)
        by_cases hkn : k = n
        · subst hkn
          have hd : decide ((k : Int) < (k : Int)) = false := by simp
          clear hSh hS hk
          go_wp2_with fail
          go_ret
          exact ⟨⟨0, rfl, .inr (.inr ⟨hn20.out, hbh.out, .inr ⟨hO.out, rfl⟩⟩)⟩, hL.out⟩
        · have hkl : k < n := by omega
          have hd : decide ((k : Int) < (n : Int)) = true := by simp; omega
          have hki : (k : Int) < (n : Int) := by omega
          have hk0 : (0 : Int) ≤ (k : Int) := by omega
          obtain ⟨ad, hA, hal, hac⟩ := hS.out.at_ k hkl
          have hl := pl_ldC (shA_cells (X k) (Y k)).1 (shA_some (X k) (Y k)) hac
          have hl1 := hl.1
          have hl2 := hl.2
          have hAh := Lib.hid hA
          subst hA
          have hcs := shA_cells (X k) (Y k)
          have hcz := shA_cells 0 0
          clear hl hac
          go_upto_region 8 with (fail)
          have hb1 := below_alloc wr (Obj.cells (shA (X k) (Y k)) 107)
          have hG := Lib.hid (Bw.new (w := wr) 107 hcs.1)
          replace hL := Lib.hid (below_step hb1 hL.out (Nat.le_refl _))
          have hkk := Lib.hid hkl
          have hyk := hY k hkl
          have kLl := Lib.hid (fun V => ref_Prime V)
          have kOf := Lib.hid (fun V => ref_OfNum (Y k) V hyk)
          have kCm := Lib.hid (fun V u v (h1 : IsN V u (Y k)) (h2 : IsN V v fL) => orderN V (h1.toV (lt_big hyk (by omega))) (h2.toV (lt_big fL_lt' (by omega))))
          have hyh := Lib.hid hyk
          have hnch := Lib.hid hnc
          clear hS hb1 hl1 hl2 hcz hyk hkn hk hd hAh hki hk0 hcs hX hY h3 h4 h5 d1 d2 hnc
          generalize wr.alloc _ = W1 at *
          generalize wr.heap.size = g7 at *
          obtain ⟨z, hz⟩ : ∃ z, X k = z := ⟨_, rfl⟩
          obtain ⟨y, hy⟩ : ∃ y, Y k = y := ⟨_, rfl⟩
          rw [hz, hy] at hG
          rw [hy] at kCm kOf hyh
          unfold numV at kOf
          have hzh := Lib.hid hz
          have hyy := Lib.hid hy
          clear hz hy
          have hfL := Lib.hid (show order y fL = -1 ∧ y < fL ∨ (order y fL = 0 ∨ order y fL = 1) ∧ ¬ y < fL by
            unfold order
            by_cases h : y < fL
            · exact .inl ⟨if_pos h, h⟩
            · refine .inr ⟨?_, h⟩
              rw [if_neg h]
              split
              · exact .inr rfl
              · exact .inl rfl)
          have hLi : ∀ i, ShOk X Y i → Y i < fL := fun i h => h.y
          obtain ⟨l0, hl0⟩ : ∃ l, fL = l := ⟨_, rfl⟩
          rw [hl0] at kCm kLl hfL
          have hl0h := Lib.hid hl0
          clear hl0 hLi
          by_cases hz1 : z < 1
          · have hd1 : decide (z < 1) = true := by simp; omega
            have c0 := hG.out.cell (shA_0 _ _)
            clear kCm kLl kOf
            go_wp2_with fail
            go_ret
            exact ⟨⟨1, rfl, .inr (.inr ⟨hn20.out, hbh.out, .inl ⟨⟨k, hkk.out, fun h => by have h1 := h.lo; rw [hzh.out] at h1; omega⟩, rfl⟩⟩)⟩, hL.out⟩
          · have hd1 : decide (z < 1) = false := by simp; omega
            by_cases hz2 : z > 255
            · have hd2 : decide (z > 255) = true := by simp; omega
              have c0 := hG.out.cell (shA_0 _ _)
              clear kCm kLl kOf
              go_wp2_with fail
              go_ret
              exact ⟨⟨1, rfl, .inr (.inr ⟨hn20.out, hbh.out, .inl ⟨⟨k, hkk.out, fun h => by have h1 := h.hi; rw [hzh.out] at h1; omega⟩, rfl⟩⟩)⟩, hL.out⟩
            · have hd2 : decide (z > 255) = false := by simp; omega
              obtain ⟨q, rfl⟩ : ∃ q : Nat, z = (q : Int) := ⟨z.toNat, by omega⟩
              rcases hfL.out with ⟨ho, hlt⟩ | ⟨ho, hge⟩
              · rw [ho] at kCm
                have hq0 : (0 : Int) ≤ (q : Int) := by omega
                clear ho
                have c0 := hG.out.cell (shA_0 _ _)
                have hl := pl_ld (o := 1) (n := 4) hG.out.row hG.out.eq (shA_1 _ _) (arrK_size _ _ _) pl_some
                have hl1 := hl.1
                have hl2 := hl.2
                clear hl
                go_wp2_with fail
                refine (kOf.out _).mono ?_
                rintro e w2 ⟨u, rfl, hu, hb⟩
                obtain ⟨uA, um, uc, rfl, -, -, -⟩ := hu.form
                have hU := Lib.hid hu
                replace hG := Lib.hid (hG.out.step hb)
                replace hL := Lib.hid (below_step hb hL.out (Nat.le_refl _))
                clear hu hb hl1 hl2 kOf c0
                have c0 := hG.out.cell (shA_0 _ _)
                dsimp only
                go_wp2_with fail
                refine (kLl.out _).mono ?_
                rintro e w3 ⟨u, rfl, hu, hb⟩
                obtain ⟨vA, vm, vc, rfl, -, -, -⟩ := hu.form
                have hV := Lib.hid hu
                replace hG := Lib.hid (hG.out.step hb)
                replace hL := Lib.hid (below_step hb hL.out (Nat.le_refl _))
                replace hU := Lib.hid (hU.out.step hb)
                clear hu hb kLl c0
                have c0 := hG.out.cell (shA_0 _ _)
                dsimp only
                go_wp2_with fail
                refine (kCm.out _ _ _ hU.out hV.out).mono ?_
                rintro e w4 ⟨rfl, rfl⟩
                clear hU hV kCm
                dsimp only
                have hkki := hkk.out
                have hki0 : (0 : Int) ≤ (k : Int) := by omega
                have hkc : (k : Int) ≤ (c : Int) := by have := hnch.out; omega
                have hkc2 : k ≤ c := by have := hnch.out; omega
                have hxl := Lib.hid hlt
                have hqb := Lib.hid (show (1 : Int) ≤ (q : Int) ∧ (q : Int) ≤ 255 by omega)
                clear hd1 hd2 hz1 hz2 hlt
                go_upto_region 11 with (fail)
                obtain ⟨W3, hW3⟩ : ∃ W, W = w3 := ⟨_, rfl⟩
                rw [← hW3] at hG hL c0 ⊢
                clear hW3
                go_loopw [50] (fun jv wr => ∃ j : Nat, jv = .int .i64 j ∧ j ≤ k ∧ Hid (Below w.heap.size w wr) ∧ Hid (Bw wr g7 5 (shA (q : Int) y)) ∧ Hid (∀ t < j, X t ≠ (q : Int))) (fun jv _ => k - (intOf jv).toNat)
                case atStart => exact ⟨0, rfl, by omega, hL, hG, Lib.hid (fun t ht => absurd ht (by omega))⟩
                case round =>
                  clear hL hG c0
                  obtain ⟨j, rfl, hj, hL, hG, hN⟩ := hrel
                  by_cases hjk : j = k
                  · subst hjk
                    have hd : decide ((j : Int) < (j : Int)) = false := by simp
                    have hwk : IntKind.i64.wrap ((j : Int) + 1) = (j : Int) + 1 := by rw [IntKind.wrap_i64]; have := hn20.out; omega
                    have hO2 := Lib.hid (show ∀ t < j + 1, ShOk X Y t from fun t ht => by
                      rcases Nat.lt_or_ge t j with h2 | h2
                      · exact hO.out t h2
                      · have : t = j := by omega
                        subst this
                        exact ⟨by rw [hzh.out]; exact hqb.out.1, by rw [hzh.out]; exact hqb.out.2, by rw [hyy.out, hl0h.out]; exact hxl.out, fun i hi he => hN.out i hi (he.trans hzh.out)⟩)
                    clear hG hO hN
                    go_wp2_with fail
                    refine ⟨⟨j + 1, by go_num, by omega, hL, hO2⟩, ?_⟩
                    simp [intOf]; omega
                  · have hjl : j < k := by omega
                    have hd : decide ((j : Int) < (k : Int)) = true := by simp; omega
                    have hkj : (j : Int) < (k : Int) := by omega
                    have hk0 : (0 : Int) ≤ (j : Int) := by omega
                    have hS2 := hSh.out.step hL.out
                    obtain ⟨ad2, hA, hal2, hac⟩ := hS2.at_ j (by omega)
                    cases hA
                    have hl := pl_ldC (shA_cells (X j) (Y j)).1 (shA_some (X j) (Y j)) hac
                    have hl1 := hl.1
                    have hl2 := hl.2
                    have hcs2 := shA_cells (X j) (Y j)
                    have hcz := shA_cells 0 0
                    clear hl hac hal2 hS2
                    go_upto_region 13 with (fail)
                    have hb := below_alloc wr (Obj.cells (shA (X j) (Y j)) 107)
                    have hH := Bw.new (w := wr) 107 hcs2.1
                    replace hG := Lib.hid (hG.out.step hb)
                    replace hL := Lib.hid (below_step hb hL.out (Nat.le_refl _))
                    clear hb hl1 hl2 hd hkj hk0 hcs2 hcz
                    generalize wr.alloc _ = W5 at *
                    generalize wr.heap.size = g8 at *
                    have c0 := hG.out.cell (shA_0 _ _)
                    have c1 := hH.cell (shA_0 _ _)
                    have hjj : IntKind.i64.wrap ((j : Int) + 1) = (j : Int) + 1 := by rw [IntKind.wrap_i64]; have := hn20.out; omega
                    obtain ⟨zj, hzj⟩ : ∃ z, X j = z := ⟨_, rfl⟩
                    rw [hzj] at c1 hH
                    have hzjh := Lib.hid hzj
                    clear hzj
                    by_cases he : zj = (q : Int)
                    · subst he
                      have hd1 : ((q : Int) == (q : Int)) = true := by simp
                      go_wp2_with fail
                      go_ret
                      exact ⟨⟨1, rfl, .inr (.inr ⟨hn20.out, hbh.out, .inl ⟨⟨k, hkk.out, fun h => h.one j hjl (hzjh.out.trans hzh.out.symm)⟩, rfl⟩⟩)⟩, hL.out⟩
                    · have hd1 : (zj == (q : Int)) = false := by rw [beq_eq_false_iff_ne]; exact he
                      have hN2 := Lib.hid (show ∀ t < j + 1, X t ≠ (q : Int) from fun t ht => by
                        rcases Nat.lt_or_ge t j with h2 | h2
                        · exact hN.out t h2
                        · have : t = j := by omega
                          subst this
                          rw [hzjh.out]; exact he)
                      clear hN he
                      go_wp2_with fail
                      refine ⟨⟨j + 1, by go_num, by omega, hL, hG, hN2⟩, ?_⟩
                      simp [intOf]; omega
              · obtain ⟨od, hod⟩ : ∃ o, order y l0 = o := ⟨_, rfl⟩
                rw [hod] at kCm ho
                have hd3 : decide (od ≥ 0) = true := by rcases ho with rfl | rfl <;> rfl
                clear hod ho
                have c0 := hG.out.cell (shA_0 _ _)
                have hl := pl_ld (o := 1) (n := 4) hG.out.row hG.out.eq (shA_1 _ _) (arrK_size _ _ _) pl_some
                have hl1 := hl.1
                have hl2 := hl.2
                clear hl
                go_wp2_with fail
                refine (kOf.out _).mono ?_
                rintro e w2 ⟨u, rfl, hu, hb⟩
                obtain ⟨uA, um, uc, rfl, -, -, -⟩ := hu.form
                have hU := Lib.hid hu
                replace hG := Lib.hid (hG.out.step hb)
                replace hL := Lib.hid (below_step hb hL.out (Nat.le_refl _))
                clear hu hb hl1 hl2 kOf c0
                have c0 := hG.out.cell (shA_0 _ _)
                dsimp only
                go_wp2_with fail
                refine (kLl.out _).mono ?_
                rintro e w3 ⟨u, rfl, hu, hb⟩
                obtain ⟨vA, vm, vc, rfl, -, -, -⟩ := hu.form
                have hV := Lib.hid hu
                replace hG := Lib.hid (hG.out.step hb)
                replace hL := Lib.hid (below_step hb hL.out (Nat.le_refl _))
                replace hU := Lib.hid (hU.out.step hb)
                clear hu hb kLl c0
                have c0 := hG.out.cell (shA_0 _ _)
                dsimp only
                go_wp2_with fail
                refine (kCm.out _ _ _ hU.out hV.out).mono ?_
                rintro e w4 ⟨rfl, rfl⟩
                clear hU hV kCm
                dsimp only
                go_wp2_with fail
                go_ret
                exact ⟨⟨1, rfl, .inr (.inr ⟨hn20.out, hbh.out, .inl ⟨⟨k, hkk.out, fun h => by have h1 := h.y; rw [hyy.out, hl0h.out] at h1; exact hge h1⟩, rfl⟩⟩)⟩, hL.out⟩
end Go.Proofs.Ytdlmamnnamlleaa
namespace Go.Proofs.Ytdlmamnnamlleaa
open Go.ChangeShapes Go.WideShapes Go.ChangeAt Go.RowKit
/-- A block that holds nothing yet but room for a slice. -/
structure Nul (w : World) (g : Nat) : Prop where
  row : Row w g 1
  eq : rowAt w g = #[.slice none 0 0]
theorem Nul.step {w w' : World} {g : Nat} (h : Nul w g) (hb : Below w.heap.size w w') : Nul w' g := ⟨row_below h.row hb h.row.lt, (rowAt_below hb h.row.lt).trans h.eq⟩
theorem Nul.cell {w : World} {g : Nat} (h : Nul w g) : w.cell? ⟨g, 0, none⟩ = some (.slice none 0 0) := by rw [h.row.cell, h.eq]; rfl
theorem Nul.only {w : World} {g j : Nat} {v : Value} (h : Nul w g) (hc : w.cell? ⟨g, j, none⟩ = some v) : v = .slice none 0 0 := by
  rw [h.row.cell, h.eq] at hc
  cases j with
  | zero => exact (Option.some.inj hc).symm
  | succ j => cases hc
def SRel.nl (B : Nat) : SRel := ⟨fun v w => ∃ g, v = .pointer (some ⟨g, 0, none⟩) ∧ B ≤ g ∧ Nul w g, fun _ _ _ hb ⟨g, h1, h2, h3⟩ => ⟨g, h1, h2, h3.step hb⟩⟩
/-- A number's digits lie elsewhere. -/
theorem IsN.away {w : World} {v : Value} {n g : Nat} (h : IsN w v n) (hg : Nul w g) (u : Value) : IsN (w.setCell ⟨g, 0, none⟩ u) v n := by
  obtain ⟨A, l, c, e, hD, hG⟩ := h
  refine ⟨A, l, c, e, ⟨fun j x hx => ?_, hD.sm, hD.le, hD.mx⟩, hG⟩
  obtain ⟨ad, e1, hl, hc⟩ := hD.rd j x hx
  refine ⟨ad, e1, by simpa using hl, ?_⟩
  rw [← hc]
  refine World.cell?_setCell_other w ⟨g, 0, none⟩ (ad.add j) u fun e2 => ?_
  have hx2 : ∃ d : Nat, x = .int .i64 (d : Nat) := by
    unfold digV at hx
    rw [List.getElem?_map] at hx
    cases h3 : l[j]? with
    | none => rw [h3] at hx; cases hx
    | some d =>
      rw [h3] at hx
      exact ⟨d, by simpa using hx.symm⟩
  obtain ⟨d, rfl⟩ := hx2
  rw [← e2, hg.cell] at hc
  cases hc
theorem sum_wide {a b j m : Nat} (ha : a < 2 ^ j) (hb : b < 2 ^ j) (h : j + 1 ≤ m) : a + b < 2 ^ m := by
  have := Nat.pow_le_pow_right (show 0 < 2 by omega) h
  rw [Nat.pow_succ] at this
  omega
theorem neqS (f : Nat → Nat) (w : World) : (binOp .neq 27 (.agg (arrK .u64 4 f)) (.agg (arrK .u64 4 f))).run Try.prog w = .ok (.bool false) w := by
  rw [run_neq_arrK Try.underlying27 Try.underlying25 (by kernel_rfl)]
  simp
theorem eqlS (f : Nat → Nat) (w : World) : (binOp .eql 27 (.agg (arrK .u64 4 f)) (.agg (arrK .u64 4 f))).run Try.prog w = .ok (.bool true) w := by
  rw [run_eql_arrK Try.underlying27 Try.underlying25 (by kernel_rfl)]
  simp
end Go.Proofs.Ytdlmamnnamlleaa
namespace Go.Proofs.Ytdlmamnnamlleaa
open Go.ChangeShapes Go.WideShapes Go.ChangeAt Go.RowKit
set_option maxHeartbeats 2000000
set_option maxRecDepth 100000
theorem lessL {a b : Nat} (ha : a < fL) (hb : b < fL) : (a + fL - b) % fL = (fi fL a - fi fL b).val := by
  rw [← fi_sub, fi_val, Nat.mod_mod, Nat.mod_eq_of_lt ha, Nat.mod_eq_of_lt hb, show a + fL - b = a + (fL - b) by omega]
theorem ref_modLess (va vb : Value) (a b : Nat) (w : World) (h1 : IsN w va a) (h2 : IsN w vb b) (ha : a < fL) (hb : b < fL) : Calls Try.prog 63 #[va, vb] w (RetN (fi fL a - fi fL b).val w) := by
  rw [← lessL ha hb]
  have hp := fL_pos
  have hl := fL_lt'
  obtain ⟨k7, hk7⟩ : ∃ k, 256 + 1 = k := ⟨_, rfl⟩
  have hs : a + fL < 2 ^ k7 := sum_wide (Nat.lt_trans ha hl) hl (by omega)
  have hd : a + fL - b < 2 ^ k7 := Nat.lt_of_le_of_lt (Nat.sub_le _ _) hs
  have kL := Lib.hid (fun V => ref_Prime V)
  have kP := Lib.hid (fun V u v (h1 : IsN V u a) (h2 : IsN V v fL) => plusN V (h1.toV (lt_big (Nat.lt_trans ha hl) (by omega))) (h2.toV (lt_big hl (by omega))))
  have kM := Lib.hid (fun V u v (h1 : IsN V u (a + fL)) (h2 : IsN V v b) => minusN V (h1.toV (lt_big hs (by omega))) (h2.toV (lt_big (Nat.lt_trans hb hl) (by omega))) (by omega))
  have kR := Lib.hid (fun V u v (h1 : IsN V u (a + fL - b)) (h2 : IsN V v fL) => restN V h1 hd (by omega) (h2.toV (lt_big hl (by omega))) (Nat.lt_trans (by omega) hp) (mul_big (m := 17) (n := 256) (by omega) hl (by omega)))
  obtain ⟨A, m, c, rfl, -, -, -⟩ := h1.form
  obtain ⟨B, mb, cb, rfl, -, -, -⟩ := h2.form
  have hA := Lib.hid h1
  have hB := Lib.hid h2
  have hL := Lib.hid (Below.refl w.heap.size w)
  obtain ⟨r, hr⟩ : ∃ r, (a + fL - b) % fL = r := ⟨_, rfl⟩
  rw [hr] at kR ⊢
  clear hr h1 h2 ha hb hp hl hs hd hk7
  generalize a + fL - b = d at *
  generalize a + fL = s at *
  generalize fL = l0 at *
  go_enter Try.func63, Try.ntmps63
  go_wp2_with fail
  refine (kL.out _).mono ?_
  rintro e w1 ⟨u, rfl, hu, hb⟩
  obtain ⟨lA, lm, lc, rfl, -, -, -⟩ := hu.form
  have hU := Lib.hid hu
  replace hA := Lib.hid (hA.out.step hb)
  replace hB := Lib.hid (hB.out.step hb)
  replace hL := Lib.hid (below_step hb hL.out (Nat.le_refl _))
  clear hu hb
  dsimp only
  go_wp2_with fail
  refine (kP.out _ _ _ hA.out hU.out).mono ?_
  rintro e w2 ⟨u, rfl, hu, hb⟩
  obtain ⟨pA, pm, pc, rfl, -, -, -⟩ := hu.form
  have hP := Lib.hid hu
  replace hB := Lib.hid (hB.out.step hb)
  replace hL := Lib.hid (below_step hb hL.out (Nat.le_refl _))
  clear hu hb hA hU kP
  dsimp only
  go_wp2_with fail
  refine (kM.out _ _ _ hP.out hB.out).mono ?_
  rintro e w3 ⟨u, rfl, hu, hb⟩
  have hu2 := hu.toN
  obtain ⟨dA, dm, dc, rfl, -, -, -⟩ := hu2.form
  have hD := Lib.hid hu2
  replace hL := Lib.hid (below_step hb hL.out (Nat.le_refl _))
  clear hu hu2 hb hP hB kM
  dsimp only
  go_wp2_with fail
  refine (kL.out _).mono ?_
  rintro e w4 ⟨u, rfl, hu, hb⟩
  obtain ⟨lA2, lm2, lc2, rfl, -, -, -⟩ := hu.form
  have hU := Lib.hid hu
  replace hD := Lib.hid (hD.out.step hb)
  replace hL := Lib.hid (below_step hb hL.out (Nat.le_refl _))
  clear hu hb kL
  dsimp only
  go_wp2_with fail
  refine (kR.out _ _ _ hD.out hU.out).mono ?_
  rintro e w5 ⟨u, rfl, hu, hb⟩
  have hX := Lib.hid hu
  replace hL := Lib.hid (below_step hb hL.out (Nat.le_refl _))
  clear hu hb kR hD hU
  dsimp only
  go_wp2_with fail
  go_ret
  exact ⟨u, rfl, hX.out, hL.out⟩
/-- A number's digits lie elsewhere. -/
theorem IsN.apart {w : World} {v : Value} {n g j : Nat} (h : IsN w v n) (hg : ∀ d : Int, w.cell? ⟨g, j, none⟩ ≠ some (.int .i64 d)) (u : Value) : IsN (w.setCell ⟨g, j, none⟩ u) v n := by
  obtain ⟨A, l, c, e, hD, hG⟩ := h
  refine ⟨A, l, c, e, ⟨fun i x hx => ?_, hD.sm, hD.le, hD.mx⟩, hG⟩
  obtain ⟨ad, e1, hl, hc⟩ := hD.rd i x hx
  refine ⟨ad, e1, by simpa using hl, ?_⟩
  rw [← hc]
  refine World.cell?_setCell_other w ⟨g, j, none⟩ (ad.add i) u fun e2 => ?_
  have hx2 : ∃ d : Nat, x = .int .i64 (d : Nat) := by
    unfold digV at hx
    rw [List.getElem?_map] at hx
    cases h3 : l[i]? with
    | none => rw [h3] at hx; cases hx
    | some d =>
      rw [h3] at hx
      exact ⟨d, by simpa using hx.symm⟩
  obtain ⟨d, rfl⟩ := hx2
  rw [← e2] at hc
  exact hg d hc
/-- A block of n numbers' slices. -/
structure DsAt (w : World) (g n : Nat) (D : Nat → Value) (T : Nat → Nat) : Prop where
  row : Row w g n
  eq : rowAt w g = arrV n D
  num : ∀ j < n, IsN w (D j) (T j)
section
variable {w w' : World} {g n : Nat} {D : Nat → Value} {T : Nat → Nat}
theorem DsAt.step (h : DsAt w g n D T) (hb : Below w.heap.size w w') : DsAt w' g n D T := ⟨row_below h.row hb h.row.lt, (rowAt_below hb h.row.lt).trans h.eq, fun j hj => (h.num j hj).step hb⟩
theorem DsAt.cell (h : DsAt w g n D T) {j : Nat} (hj : j < n) : w.cell? ⟨g, j, none⟩ = some (D j) := by rw [h.row.cell, h.eq, arrV_at hj]
theorem DsAt.set (h : DsAt w g n D T) {i m : Nat} (hi : i < n) {u : Value} (hu : IsN w u m) : DsAt (w.setCell ⟨g, i, none⟩ u) g n (fun j => if j = i then u else D j) (fun j => if j = i then m else T j) := by
  have hne : ∀ d : Int, w.cell? ⟨g, i, none⟩ ≠ some (.int .i64 d) := fun d e => by
    rw [h.cell hi] at e
    obtain ⟨A, k, c, e2, -, -, -⟩ := (h.num i hi).form
    rw [e2] at e
    cases e
  refine ⟨row_setCell.2 h.row, ?_, fun j hj => ?_⟩
  · rw [rowAt_setCell_same, h.eq, arrV_set]
  · by_cases e : j = i
    · rw [if_pos e, if_pos e]; exact hu.apart hne u
    · rw [if_neg e, if_neg e]; exact (h.num j hj).apart hne u
theorem DsAt.congr {T' : Nat → Nat} (h : DsAt w g n D T) (e : ∀ j < n, T j = T' j) : DsAt w g n D T' := ⟨h.row, h.eq, fun j hj => e j hj ▸ h.num j hj⟩
theorem DsAt.drew (h : DsAt w g n D T) : DsAt w.drew g n D T := ⟨h.row, h.eq, fun j hj => (h.num j hj).drew⟩
end
end Go.Proofs.Ytdlmamnnamlleaa
