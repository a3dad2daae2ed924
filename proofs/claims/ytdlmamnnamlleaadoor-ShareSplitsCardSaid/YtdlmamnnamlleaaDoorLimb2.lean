/- Contracts of package limb, the second part: Add, Sub, Cmp; math/bits.Add64, Sub64. -/
import Derived.Test.YtdlmamnnamlleaaDoorLimb
import Derived.Test.YtdlmamnnamlleaaDoorRet2
import Derived.Laws.Externs
import Derived.BigQuiet
import Derived.Deep.QuietTactic
import Derived.Deep.RegionLaw
namespace Go.Proofs.YtdlmamnnamlleaaDoor
open Go.ChangeShapes Go.WideShapes Go.ChangeAt Go.RowKit
set_option maxHeartbeats 1000000
set_option maxRecDepth 100000
attribute [local go_sem ↓] load_num store_num execl_num execs_num load_wide store_wide execl_wide execs_wide
attribute [local go_sem] isHead_mk blkOf_mk isAgg_mk cellsV_mk row_drew row_new_cells row_old rowAt_new rowAt_old

/-! math/bits: the model's own rows. -/
def sub64Entry : Array Value → Sem Value := fun args => do
  let (x, y, b) ← Extern.MathBitsCarry.three "Sub64" args
  pure (Extern.MathBitsCarry.pair ((x + Extern.MathBitsCarry.m64 - y - b) % Extern.MathBitsCarry.m64) (if x < y + b then 1 else 0))
theorem run_sub64 (P : Program) (x y b : Nat) (hb : b ≤ 1) (w : World) :
    (sub64Entry #[.int .u64 x, .int .u64 y, .int .u64 b]).run P w =
      .ok (.tuple #[.int .u64 (((x + 18446744073709551616 - y - b) % 18446744073709551616 : Nat) : Int), .int .u64 ((if x < y + b then 1 else 0 : Nat) : Int)]) w := by
  have : b = 0 ∨ b = 1 := by omega
  rcases this with rfl | rfl <;> rfl
theorem call_sub64 (x y b : Nat) (hb : b ≤ 1) (w : World) :
    (callFunc 63 #[.int .u64 x, .int .u64 y, .int .u64 b]).run Tryd.prog w =
      .ok (.value (.tuple #[.int .u64 (((x + 18446744073709551616 - y - b) % 18446744073709551616 : Nat) : Int), .int .u64 ((if x < y + b then 1 else 0 : Nat) : Int)])) w := by
  rw [run_callFunc_extern Tryd.func63 (by kernel_rfl) (by kernel_rfl) (by kernel_rfl) (e := sub64Entry) (by kernel_rfl), run_sub64 _ x y b hb]
  rfl
/-- The borrow ahead of word k; word k of the difference. -/
def bor (f g : Nat → Nat) : Nat → Nat
  | 0 => 0
  | k + 1 => if f k < g k + bor f g k then 1 else 0
def dif (f g : Nat → Nat) (k : Nat) : Nat := (f k + 18446744073709551616 - g k - bor f g k) % 18446744073709551616
theorem bor_le (f g : Nat → Nat) (k : Nat) : bor f g k ≤ 1 := by
  cases k with
  | zero => simp [bor]
  | succ k => unfold bor; split <;> omega
theorem dif_lt (f g : Nat → Nat) (k : Nat) : dif f g k < 18446744073709551616 := Nat.mod_lt _ (by omega)
theorem dif_wval {f g : Nat → Nat} {n : Nat} (hf : ∀ i < n, f i < 18446744073709551616) (hg : ∀ i < n, g i < 18446744073709551616) :
    wval (dif f g) n + wval g n = wval f n + 2 ^ (64 * n) * bor f g n := by
  induction n with
  | zero => simp [wval, bor]
  | succ n ih =>
    have h1 := ih (fun i hi => hf i (by omega)) (fun i hi => hg i (by omega))
    have h2 := hf n (by omega)
    have h3 := hg n (by omega)
    have h4 := bor_le f g n
    have h5 : dif f g n + g n + bor f g n = f n + 18446744073709551616 * bor f g (n + 1) := by
      unfold dif
      show _ = f n + 18446744073709551616 * (if f n < g n + bor f g n then 1 else 0)
      split <;> omega
    simp only [wval]
    rw [show 64 * (n + 1) = 64 * n + 64 by omega, Nat.pow_add]
    generalize 2 ^ (64 * n) = P at *
    have h6 : P * (dif f g n + g n + bor f g n) = P * (f n + 18446744073709551616 * bor f g (n + 1)) := by rw [h5]
    rw [Nat.mul_add, Nat.mul_add, Nat.mul_add] at h6
    rw [Nat.mul_assoc]
    rw [show (2 : Nat) ^ 64 = 18446744073709551616 from rfl]
    omega
/-- What Sub answers. -/
def subN (a b : Nat) : Nat := (a + 2 ^ 256 - b) % 2 ^ 256
def lessN (a b : Nat) : Nat := if a < b then 1 else 0
theorem dif_sub {a b : Nat} (ha : a < 2 ^ 256) (hb : b < 2 ^ 256) : wval (dif (wd a) (wd b)) 4 = subN a b ∧ bor (wd a) (wd b) 4 = lessN a b := by
  have h := dif_wval (f := wd a) (g := wd b) (n := 4) (fun i _ => wd_lt a i) fun i _ => wd_lt b i
  rw [wval_wd, wval_wd, show 64 * 4 = 256 from rfl, Nat.mod_eq_of_lt ha, Nat.mod_eq_of_lt hb] at h
  have h1 := bor_le (wd a) (wd b) 4
  have h2 := wval_lt (f := dif (wd a) (wd b)) (k := 4) fun i _ => dif_lt _ _ i
  rw [show 64 * 4 = 256 from rfl] at h2
  unfold subN lessN
  generalize 2 ^ 256 = P at *
  have : bor (wd a) (wd b) 4 = 0 ∨ bor (wd a) (wd b) 4 = 1 := by omega
  rcases this with e | e
  · rw [e] at h ⊢
    simp only [Nat.mul_zero, Nat.add_zero] at h
    rw [if_neg (by omega)]
    refine ⟨?_, rfl⟩
    rw [show a + P - b = (a - b) + P by omega, Nat.add_mod_right, Nat.mod_eq_of_lt (by omega)]
    omega
  · rw [e] at h ⊢
    simp only [Nat.mul_one] at h
    rw [if_pos (by omega)]
    refine ⟨?_, rfl⟩
    rw [Nat.mod_eq_of_lt (by omega)]
    omega
/-- The first k words of one, the others of another. -/
def mixW (f g : Nat → Nat) (k : Nat) : Nat → Nat := fun i => if i < k then f i else g i
theorem mixW_upd (f g : Nat → Nat) (k : Nat) : upd (mixW f g k) k (f k) = mixW f g (k + 1) := by
  funext i
  unfold upd mixW
  by_cases e : i = k
  · subst e; rw [if_pos rfl, if_pos (by omega)]
  · rw [if_neg e]
    by_cases e2 : i < k
    · rw [if_pos e2, if_pos (by omega)]
    · rw [if_neg e2, if_neg (by omega)]

theorem limb_Sub (a b : Nat) (w : World) (ha : a < 2 ^ 256) (hb : b < 2 ^ 256) :
    Calls Tryd.prog 33 #[numV a, numV b] w fun e w' => e = .returned (.tuple #[numV (subN a b), .int .u64 (lessN a b : Nat)]) ∧ Below w.heap.size w w' := by
  unfold numV
  have hca := arrK_cells .u64 4 (wd a)
  have hcb := arrK_cells .u64 4 (wd b)
  have hL : Below w.heap.size w (((w.alloc (Obj.cells (arrK .u64 4 (wd a)) 41)).alloc (Obj.cells (arrK .u64 4 (wd b)) 41)).alloc (Obj.cells (arrK .u64 4 fun _ => 0) 41)) := by go_grown
  have hRa : Row (((w.alloc (Obj.cells (arrK .u64 4 (wd a)) 41)).alloc (Obj.cells (arrK .u64 4 (wd b)) 41)).alloc (Obj.cells (arrK .u64 4 fun _ => 0) 41)) w.heap.size 4 := by go_simp
  have hra : rowAt (((w.alloc (Obj.cells (arrK .u64 4 (wd a)) 41)).alloc (Obj.cells (arrK .u64 4 (wd b)) 41)).alloc (Obj.cells (arrK .u64 4 fun _ => 0) 41)) w.heap.size = arrK .u64 4 (mixW (dif (wd a) (wd b)) (wd a) 0) := by go_simp; exact arrK_congr fun i _ => by simp [mixW]
  have hRb : Row (((w.alloc (Obj.cells (arrK .u64 4 (wd a)) 41)).alloc (Obj.cells (arrK .u64 4 (wd b)) 41)).alloc (Obj.cells (arrK .u64 4 fun _ => 0) 41)) (w.heap.size + 1) 4 := by go_simp
  have hrb : rowAt (((w.alloc (Obj.cells (arrK .u64 4 (wd a)) 41)).alloc (Obj.cells (arrK .u64 4 (wd b)) 41)).alloc (Obj.cells (arrK .u64 4 fun _ => 0) 41)) (w.heap.size + 1) = arrK .u64 4 (wd b) := by go_simp
  have hRo : Row (((w.alloc (Obj.cells (arrK .u64 4 (wd a)) 41)).alloc (Obj.cells (arrK .u64 4 (wd b)) 41)).alloc (Obj.cells (arrK .u64 4 fun _ => 0) 41)) (w.heap.size + 1 + 1) 4 := (row_new (by simp)).2 (arrK_size _ _ _)
  rw [← zero4w] at *
  go_enter Tryd.func33, Tryd.ntmps33
  go_wp2
  generalize (((w.alloc (Obj.cells (arrK .u64 4 (wd a)) 41)).alloc (Obj.cells (arrK .u64 4 (wd b)) 41)).alloc (Obj.cells _ 41)) = W0 at *
  go_loopw [6, 8] (fun c i wr => ∃ k : Nat, i = .int .i64 k ∧ k ≤ 4 ∧ c = .int .u64 (bor (wd a) (wd b) k : Nat) ∧ Row wr w.heap.size 4 ∧ rowAt wr w.heap.size = arrK .u64 4 (mixW (dif (wd a) (wd b)) (wd a) k) ∧ Row wr (w.heap.size + 1) 4 ∧ rowAt wr (w.heap.size + 1) = arrK .u64 4 (wd b) ∧ Row wr (w.heap.size + 1 + 1) 4 ∧ Below w.heap.size w wr) (fun _ i _ => 4 - (intOf i).toNat)
  case atStart => exact ⟨0, rfl, by omega, rfl, hRa, hra, hRb, hrb, hRo, hL⟩
  case round =>
    clear hRa hra hRb hrb hRo hL
    obtain ⟨k, rfl, hk, rfl, hRa, hra, hRb, hrb, hRo, hL⟩ := hrel
    by_cases h4 : k = 4
    · subst h4
      have hds := dif_sub ha hb
      have e : arrK .u64 4 (mixW (dif (wd a) (wd b)) (wd a) 4) = arrK .u64 4 (wd (subN a b)) := arrK_congr fun i hi => by
        unfold mixW
        rw [if_pos hi, ← hds.1, wd_wval (fun i _ => dif_lt _ _ i) i hi]
      rw [e] at hra
      have hcs := arrK_cells .u64 4 (wd (subN a b))
      rw [hds.2]
      clear hds e
      go_wp2
      exact ret_stored2 (p := 4) (q := 5) (ty := 41) (g := w.heap.size + 1 + 1) (n := 4) (c := arrK .u64 4 (wd (subN a b))) rfl Tryd.underlying41 rfl (by kernel_rfl) rfl hRo hcs.1 rfl ⟨rfl, below_setRow hL (by omega)⟩
    · have c1 := hRa.cell k
      rw [hra, arrK_at (by omega)] at c1
      have c2 := hRb.cell k
      rw [hrb, arrK_at (by omega)] at c2
      have hf := hRa.frozen k
      have e1 : mixW (dif (wd a) (wd b)) (wd a) k k = wd a k := by unfold mixW; rw [if_neg (by omega)]
      rw [e1] at c1
      have hbl := bor_le (wd a) (wd b) k
      have hcall := fun W => call_sub64 (wd a k) (wd b k) (bor (wd a) (wd b) k) hbl W
      rw [show ((wd a k + 18446744073709551616 - wd b k - bor (wd a) (wd b) k) % 18446744073709551616) = dif (wd a) (wd b) k from rfl, show (if wd a k < wd b k + bor (wd a) (wd b) k then 1 else 0) = bor (wd a) (wd b) (k + 1) from rfl] at hcall
      have hHr := Lib.hid hra
      clear hra hbl e1
      generalize dif (wd a) (wd b) = d at *
      generalize bor (wd a) (wd b) = bb at *
      go_wp2
      go_region
      go_wp2
      go_round
      case rel => exact ⟨k + 1, by go_num, by omega, rfl, row_setCell.2 hRa, by rw [rowAt_drew, rowAt_setCell_same, hHr.out, arrK_set, mixW_upd], row_setCell.2 hRb, by rw [rowAt_drew, rowAt_setCell_far (by simp)]; exact hrb, row_setCell.2 hRo, (hL.setCell (Nat.le_refl _) _).drew⟩
      case measure => simp [intOf]; omega
end Go.Proofs.YtdlmamnnamlleaaDoor
