/- Contracts of package limb, the fourth part: Add, Mul, Len, Bit, Pick; of math/bits: Mul64, Len64. -/
import Derived.Test.YtdlmamnnamlleaaDoorLimb3
import Derived.Test.YtdlmamnnamlleaaDoorAt
import Derived.Lib.Mul64
import Derived.Lib.BitFns
import Derived.Deep.DeepCutAuto
namespace Go.Proofs.YtdlmamnnamlleaaDoor
open Go.ChangeShapes Go.WideShapes Go.ChangeAt Go.RowKit
set_option maxHeartbeats 1000000
set_option maxRecDepth 100000
attribute [local go_sem ↓] load_num store_num execl_num execs_num load_wide store_wide execl_wide execs_wide
attribute [local go_sem] isHead_mk blkOf_mk isAgg_mk cellsV_mk row_drew rowAt_drew row_new_cells row_old rowAt_new rowAt_old

theorem call_add64 (x y b : Nat) (hb : b ≤ 1) (w : World) :
    (callFunc 108 #[.int .u64 x, .int .u64 y, .int .u64 b]).run Tryd.prog w =
      .ok (.value (.tuple #[.int .u64 (((x + y + b) % 18446744073709551616 : Nat) : Int), .int .u64 (((x + y + b) / 18446744073709551616 : Nat) : Int)])) w := by
  rw [run_callFunc_extern Tryd.func108 (by kernel_rfl) (by kernel_rfl) (by kernel_rfl) (e := add64Entry) (by kernel_rfl), run_add64 _ _ _ (by omega) (by omega) (by omega) (by omega)]
  have e1 : ((x : Int) + y + b) % 18446744073709551616 = (((x + y + b) % 18446744073709551616 : Nat) : Int) := by omega
  have e2 : ((x : Int) + y + b) / 18446744073709551616 = (((x + y + b) / 18446744073709551616 : Nat) : Int) := by omega
  rw [e1, e2]
  rfl
/-- The carry ahead of word k; word k of the sum. -/
def car (f g : Nat → Nat) : Nat → Nat
  | 0 => 0
  | k + 1 => (f k + g k + car f g k) / 18446744073709551616
def sumW (f g : Nat → Nat) (k : Nat) : Nat := (f k + g k + car f g k) % 18446744073709551616
theorem car_le {f g : Nat → Nat} (hf : ∀ i, f i < 18446744073709551616) (hg : ∀ i, g i < 18446744073709551616) (k : Nat) : car f g k ≤ 1 := by
  induction k with
  | zero => simp [car]
  | succ k ih => have h1 := hf k; have h2 := hg k; unfold car; omega
theorem sumW_lt (f g : Nat → Nat) (k : Nat) : sumW f g k < 18446744073709551616 := Nat.mod_lt _ (by omega)
theorem sum_wval (f g : Nat → Nat) (n : Nat) : wval (sumW f g) n + 2 ^ (64 * n) * car f g n = wval f n + wval g n := by
  induction n with
  | zero => simp [wval, car]
  | succ n ih =>
    have h5 : sumW f g n + 18446744073709551616 * car f g (n + 1) = f n + g n + car f g n := by unfold sumW; rw [show car f g (n + 1) = (f n + g n + car f g n) / 18446744073709551616 from rfl]; omega
    simp only [wval]
    rw [show 64 * (n + 1) = 64 * n + 64 by omega, Nat.pow_add]
    generalize 2 ^ (64 * n) = P at *
    have h6 : P * (sumW f g n + 18446744073709551616 * car f g (n + 1)) = P * (f n + g n + car f g n) := by rw [h5]
    rw [Nat.mul_add, Nat.mul_add, Nat.mul_add] at h6
    rw [Nat.mul_assoc, show (2 : Nat) ^ 64 = 18446744073709551616 from rfl]
    omega
def addN (a b : Nat) : Nat := (a + b) % 2 ^ 256
def overN (a b : Nat) : Nat := if a + b < 2 ^ 256 then 0 else 1
theorem sum_add {a b : Nat} (ha : a < 2 ^ 256) (hb : b < 2 ^ 256) : wval (sumW (wd a) (wd b)) 4 = addN a b ∧ car (wd a) (wd b) 4 = overN a b := by
  have h := sum_wval (wd a) (wd b) 4
  rw [wval_wd, wval_wd, show 64 * 4 = 256 from rfl, Nat.mod_eq_of_lt ha, Nat.mod_eq_of_lt hb] at h
  have h1 := car_le (wd_lt a) (wd_lt b) 4
  have h2 := wval_lt (f := sumW (wd a) (wd b)) (k := 4) fun i _ => sumW_lt _ _ i
  rw [show 64 * 4 = 256 from rfl] at h2
  unfold addN overN
  generalize (2 : Nat) ^ 256 = P at *
  have : car (wd a) (wd b) 4 = 0 ∨ car (wd a) (wd b) 4 = 1 := by omega
  rcases this with e | e
  · rw [e] at h ⊢
    simp only [Nat.mul_zero, Nat.add_zero] at h
    rw [if_pos (by omega), Nat.mod_eq_of_lt (by omega)]
    exact ⟨h, rfl⟩
  · rw [e] at h ⊢
    simp only [Nat.mul_one] at h
    rw [if_neg (by omega), ← h, Nat.add_mod_right, Nat.mod_eq_of_lt h2]
    exact ⟨rfl, rfl⟩

theorem limb_Add (a b : Nat) (w : World) (ha : a < 2 ^ 256) (hb : b < 2 ^ 256) :
    Calls Tryd.prog 79 #[numV a, numV b] w fun e w' => e = .returned (.tuple #[numV (addN a b), .int .u64 (overN a b : Nat)]) ∧ Below w.heap.size w w' := by
  unfold numV
  have hL : Below w.heap.size w (((w.alloc (Obj.cells (arrK .u64 4 (wd a)) 41)).alloc (Obj.cells (arrK .u64 4 (wd b)) 41)).alloc (Obj.cells (arrK .u64 4 (wd 0)) 41)) := by go_grown
  have hA : At (((w.alloc (Obj.cells (arrK .u64 4 (wd a)) 41)).alloc (Obj.cells (arrK .u64 4 (wd b)) 41)).alloc (Obj.cells (arrK .u64 4 (wd 0)) 41)) w.heap.size .u64 4 (mixW (sumW (wd a) (wd b)) (wd a) 0) := (((At.new _ rfl).old _).old _).congr fun i _ => by simp [mixW]
  have hB : NumAt (((w.alloc (Obj.cells (arrK .u64 4 (wd a)) 41)).alloc (Obj.cells (arrK .u64 4 (wd b)) 41)).alloc (Obj.cells (arrK .u64 4 (wd 0)) 41)) (w.heap.size + 1) b := (At.new _ (by simp)).old _
  have hO : Row (((w.alloc (Obj.cells (arrK .u64 4 (wd a)) 41)).alloc (Obj.cells (arrK .u64 4 (wd b)) 41)).alloc (Obj.cells (arrK .u64 4 (wd 0)) 41)) (w.heap.size + 1 + 1) 4 := (At.new (k := .u64) (f := wd 0) _ (by simp)).row
  rw [← zeroNum] at *
  go_enter Tryd.func79, Tryd.ntmps79
  go_wp2
  generalize (((w.alloc (Obj.cells (arrK .u64 4 (wd a)) 41)).alloc (Obj.cells (arrK .u64 4 (wd b)) 41)).alloc (Obj.cells _ 41)) = W0 at *
  go_loopw [6, 8] (fun c i wr => ∃ k : Nat, i = .int .i64 k ∧ k ≤ 4 ∧ c = .int .u64 (car (wd a) (wd b) k : Nat) ∧ At wr w.heap.size .u64 4 (mixW (sumW (wd a) (wd b)) (wd a) k) ∧ NumAt wr (w.heap.size + 1) b ∧ Row wr (w.heap.size + 1 + 1) 4 ∧ Below w.heap.size w wr) (fun _ i _ => 4 - (intOf i).toNat)
  case atStart => exact ⟨0, rfl, by omega, rfl, hA, hB, hO, hL⟩
  case round =>
    clear hA hB hO hL
    obtain ⟨k, rfl, hk, rfl, hA, hB, hO, hL⟩ := hrel
    by_cases h4 : k = 4
    · subst h4
      have hds := sum_add ha hb
      have hA' : At wr w.heap.size .u64 4 (wd (addN a b)) := hA.congr fun i hi => by
        unfold mixW
        rw [if_pos hi, ← hds.1, wd_wval (fun i _ => sumW_lt _ _ i) i hi]
      have hRa := hA'.row
      have hra := hA'.eq
      have hcs := arrK_cells .u64 4 (wd (addN a b))
      rw [hds.2]
      clear hds hA hA'
      go_wp2
      exact ret_stored2 (p := 4) (q := 5) (ty := 41) (g := w.heap.size + 1 + 1) (n := 4) (c := arrK .u64 4 (wd (addN a b))) rfl Tryd.underlying41 rfl (by kernel_rfl) rfl hO hcs.1 rfl ⟨rfl, below_setRow hL (by omega)⟩
    · have c1 := hA.cell (i := k) (by omega)
      have c2 := hB.cell (i := k) (by omega)
      have hf := hA.row.frozen k
      have e1 : mixW (sumW (wd a) (wd b)) (wd a) k k = wd a k := by unfold mixW; rw [if_neg (by omega)]
      rw [e1] at c1
      have hbl := car_le (wd_lt a) (wd_lt b) k
      have hcall := fun W => call_add64 (wd a k) (wd b k) (car (wd a) (wd b) k) hbl W
      rw [show ((wd a k + wd b k + car (wd a) (wd b) k) % 18446744073709551616) = sumW (wd a) (wd b) k from rfl, show (wd a k + wd b k + car (wd a) (wd b) k) / 18446744073709551616 = car (wd a) (wd b) (k + 1) from rfl] at hcall
      clear hbl e1
      generalize sumW (wd a) (wd b) = d at *
      generalize car (wd a) (wd b) = bb at *
      go_wp2
      go_region
      go_wp2
      go_round
      case rel => exact ⟨k + 1, by go_num, by omega, rfl, ((hA.set k (d k)).congr fun i _ => by rw [mixW_upd]).drew, (hB.farC (by simp)).drew, row_setCell.2 hO, (hL.setCell (Nat.le_refl _) _).drew⟩
      case measure => simp [intOf]; omega

theorem w_mask (a : Nat) (ha : a < 18446744073709551616) : bits .and .u64 (a : Int) 4294967295 = ((a % 4294967296 : Nat) : Int) := by
  rw [show (4294967295 : Int) = ((4294967295 : Nat) : Int) from rfl, u64_and_nat a 4294967295 ha (by omega), show (4294967295 : Nat) = 2 ^ 32 - 1 from rfl, Nat.and_two_pow_sub_one_eq_mod]
theorem w_wrap (a : Nat) : IntKind.u64.wrap (a : Int) = ((a % 18446744073709551616 : Nat) : Int) := by rw [IntKind.wrap_u64]; omega
theorem bits_Mul64 (x y : Nat) (w : World) (hx : x < 18446744073709551616) (hy : y < 18446744073709551616) :
    Calls Tryd.prog 120 #[.int .u64 x, .int .u64 y] w fun e w' => e = .returned (.tuple #[.int .u64 (x * y / 18446744073709551616 : Nat), .int .u64 (x * y % 18446744073709551616 : Nat)]) ∧ w = w' := by
  obtain ⟨b1, b2, b3, hhi⟩ := Lib.mul64_hi x y hx hy
  have ba := Lib.half_mul_le (a := x / 4294967296) (b := y / 4294967296) (by omega) (by omega)
  have bb := Lib.half_mul_le (a := x / 4294967296) (b := y % 4294967296) (by omega) (by omega)
  have bc := Lib.half_mul_le (a := x % 4294967296) (b := y / 4294967296) (by omega) (by omega)
  have hq : x * y / 18446744073709551616 < 18446744073709551616 := (Nat.div_lt_iff_lt_mul (by omega)).2 (Nat.mul_lt_mul'' hx hy)
  go_enter Tryd.func120, Tryd.ntmps120
  go_wp2
  have bb' : x / 4294967296 * (y % 4294967296) < 18446744073709551616 := by omega
  have ba' : x / 4294967296 * (y / 4294967296) < 18446744073709551616 := by omega
  have bc' : x % 4294967296 * (y / 4294967296) < 18446744073709551616 := by omega
  have b4 : x / 4294967296 * (y / 4294967296) + (x / 4294967296 * (y % 4294967296) + x % 4294967296 * (y % 4294967296) / 4294967296) / 4294967296 < 18446744073709551616 := by omega
  have b5 : x / 4294967296 * (y / 4294967296) + (x / 4294967296 * (y % 4294967296) + x % 4294967296 * (y % 4294967296) / 4294967296) / 4294967296 + ((x / 4294967296 * (y % 4294967296) + x % 4294967296 * (y % 4294967296) / 4294967296) % 4294967296 + x % 4294967296 * (y / 4294967296)) / 4294967296 < 18446744073709551616 := by rw [hhi]; exact hq
  have dv : ∀ a : Nat, (a : Int) / 4294967296 = ((a / 4294967296 : Nat) : Int) := fun a => by omega
  have ml : ∀ a b : Nat, (a : Int) * (b : Int) = ((a * b : Nat) : Int) := fun a b => (Int.natCast_mul a b).symm
  have ad : ∀ a b : Nat, (a : Int) + (b : Int) = ((a + b : Nat) : Int) := fun a b => (Int.natCast_add a b).symm
  have wr : ∀ a : Nat, a < 18446744073709551616 → IntKind.u64.wrap (a : Int) = (a : Int) := fun a h => by rw [IntKind.wrap_u64]; omega
  simp only [w_mask x hx, w_mask y hy, dv, ml, ad, wr _ b1, wr _ bb', wr _ b2, w_mask _ b2, wr _ bc', wr _ b3, wr _ ba', wr _ b4, wr _ b5, w_wrap (x * y)]
  rw [hhi]
  go_ret2
  exact ⟨rfl, rfl⟩

theorem step_bound {a b c d : Nat} (ha : a < 18446744073709551616) (hb : b < 18446744073709551616) (hc : c < 18446744073709551616) (hd : d < 18446744073709551616) : a * b + c + d < 18446744073709551616 * 18446744073709551616 := by
  have h : a * b ≤ 18446744073709551615 * 18446744073709551615 := Nat.mul_le_mul (by omega) (by omega)
  omega
theorem limb_step (a b c d : Nat) (w : World) (ha : a < 18446744073709551616) (hb : b < 18446744073709551616) (hc : c < 18446744073709551616) (hd : d < 18446744073709551616) :
    Calls Tryd.prog 111 #[.int .u64 a, .int .u64 b, .int .u64 c, .int .u64 d] w fun e w' => e = .returned (.tuple #[.int .u64 ((a * b + c + d) % 18446744073709551616 : Nat), .int .u64 ((a * b + c + d) / 18446744073709551616 : Nat)]) ∧ w = w' := by
  have hm := Lib.hid (bits_Mul64 a b w ha hb)
  have hbd := step_bound ha hb hc hd
  obtain ⟨p, hp⟩ : ∃ p, p = a * b := ⟨_, rfl⟩
  rw [← hp] at hm hbd ⊢
  clear hp ha hb
  obtain ⟨l, hl⟩ : ∃ l, l = p % 18446744073709551616 := ⟨_, rfl⟩
  obtain ⟨u, hu⟩ : ∃ u, u = p / 18446744073709551616 := ⟨_, rfl⟩
  rw [← hl, ← hu] at hm
  have h1 := Lib.hid (fun W => call_add64 l c 0 (by omega) W)
  have hll : l < 18446744073709551616 := by omega
  obtain ⟨l2, hl2⟩ : ∃ l2, l2 = (l + c + 0) % 18446744073709551616 := ⟨_, rfl⟩
  obtain ⟨o2, ho2⟩ : ∃ o2, o2 = (l + c + 0) / 18446744073709551616 := ⟨_, rfl⟩
  rw [← hl2, ← ho2] at h1
  have h2 := Lib.hid (fun W => call_add64 l2 d 0 (by omega) W)
  obtain ⟨l3, hl3⟩ : ∃ l3, l3 = (l2 + d + 0) % 18446744073709551616 := ⟨_, rfl⟩
  obtain ⟨o3, ho3⟩ : ∃ o3, o3 = (l2 + d + 0) / 18446744073709551616 := ⟨_, rfl⟩
  rw [← hl3, ← ho3] at h2
  have hw1 : IntKind.u64.wrap ((u : Int) + o2) = (u : Int) + o2 := by rw [IntKind.wrap_u64]; omega
  have hw2 : IntKind.u64.wrap ((u : Int) + o2 + o3) = ((u + o2 + o3 : Nat) : Int) := by rw [IntKind.wrap_u64]; omega
  have hr1 := Lib.hid (show l3 = (p + c + d) % 18446744073709551616 by omega)
  have hr2 := Lib.hid (show u + o2 + o3 = (p + c + d) / 18446744073709551616 by omega)
  have hlt2 : l2 < 18446744073709551616 := by omega
  have ho2' : o2 ≤ 1 := by omega
  have ho3' : o3 ≤ 1 := by omega
  have k1 := h1.out
  have k2 := h2.out
  rw [show ((0 : Nat) : Int) = 0 from rfl] at k1 k2
  clear hl hu hl2 ho2 hl3 ho3 hbd h1 h2
  go_enter Tryd.func111, Tryd.ntmps111
  go_wp2_with fail
  refine hm.out.mono ?_
  rintro e w' ⟨rfl, rfl⟩
  go_wp2
  go_ret2
  refine ⟨?_, rfl⟩
  show Ending.returned (.tuple #[.int .u64 (l3 : Int), .int .u64 ((u : Int) + o2 + o3)]) = _
  rw [← hr1.out, ← hr2.out, Int.natCast_add, Int.natCast_add]

/-! Mul -/
/-- Words of one number beside those of another, from place i on. -/
theorem wval_split (f : Nat → Nat) (i n : Nat) : wval f (i + n) = wval f i + 2 ^ (64 * i) * wval (fun j => f (i + j)) n := by
  induction n with
  | zero => simp [wval]
  | succ n ih =>
    show wval f (i + n) + 2 ^ (64 * (i + n)) * f (i + n) = _
    rw [ih]
    simp only [wval]
    rw [Nat.mul_add 64, Nat.pow_add, Nat.mul_add, Nat.mul_assoc, Nat.add_assoc]
theorem upd_wval (f : Nat → Nat) (j v : Nat) : ∀ n, j < n → wval (upd f j v) n + 2 ^ (64 * j) * f j = wval f n + 2 ^ (64 * j) * v
  | 0, h => by omega
  | n + 1, h => by
    simp only [wval]
    by_cases e : j = n
    · subst e
      have h1 : wval (upd f j v) j = wval f j := wval_congr fun i hi => by unfold upd; rw [if_neg (by omega)]
      rw [h1]; unfold upd; rw [if_pos rfl]; omega
    · have h2 := upd_wval f j v n (by omega)
      have h3 : upd f j v n = f n := by unfold upd; rw [if_neg (by omega)]
      rw [h3]; omega
/-- What Mul has behind i rows and k steps of the next: out, carry. -/
structure MulI (a b i k : Nat) (f : Nat → Nat) (c : Nat) : Prop where
  lt : ∀ j, f j < 18446744073709551616
  cl : c < 18446744073709551616
  zero : ∀ j, i + 4 ≤ j → f j = 0
  eq : wval f 8 + 2 ^ (64 * (i + k)) * c = a % 2 ^ (64 * i) * b + 2 ^ (64 * i) * wd a i * (b % 2 ^ (64 * k))
theorem wval_zero (n : Nat) : wval (fun _ => 0) n = 0 := by
  induction n with
  | zero => rfl
  | succ n ih => show wval _ n + 2 ^ (64 * n) * 0 = 0; rw [ih, Nat.mul_zero]
theorem MulI.start (a b : Nat) : MulI a b 0 0 (fun _ => 0) 0 := ⟨fun _ => by omega, by omega, fun _ _ => rfl, by rw [wval_zero]; simp only [Nat.mul_zero, Nat.pow_zero, Nat.mod_one, Nat.zero_mul]⟩
theorem mod_up (b k : Nat) : b % 2 ^ (64 * (k + 1)) = b % 2 ^ (64 * k) + 2 ^ (64 * k) * wd b k := by
  rw [show 64 * (k + 1) = 64 * k + 64 by omega, Nat.pow_add, Nat.mod_mul]; rfl
theorem MulI.step {a b i k c : Nat} {f : Nat → Nat} (h : MulI a b i k f c) (hk : k < 4) (hi : i < 4) :
    MulI a b i (k + 1) (upd f (i + k) ((wd a i * wd b k + f (i + k) + c) % 18446744073709551616)) ((wd a i * wd b k + f (i + k) + c) / 18446744073709551616) := by
  have hb := step_bound (wd_lt a i) (wd_lt b k) (h.lt (i + k)) h.cl
  refine ⟨fun j => ?_, by omega, fun j hj => ?_, ?_⟩
  · unfold upd; split
    · omega
    · exact h.lt j
  · unfold upd; rw [if_neg (by omega)]; exact h.zero j hj
  · have h1 := upd_wval f (i + k) ((wd a i * wd b k + f (i + k) + c) % 18446744073709551616) 8 (by omega)
    have h2 := h.eq
    have h3 : (wd a i * wd b k + f (i + k) + c) % 18446744073709551616 + 18446744073709551616 * ((wd a i * wd b k + f (i + k) + c) / 18446744073709551616) = wd a i * wd b k + f (i + k) + c := Nat.mod_add_div _ _
    rw [mod_up, show 64 * (i + (k + 1)) = 64 * (i + k) + 64 by omega, Nat.pow_add, Nat.mul_assoc, show (2 : Nat) ^ 64 = 18446744073709551616 from rfl, Nat.mul_add (2 ^ (64 * i) * wd a i)]
    have h4 : 2 ^ (64 * i) * wd a i * (2 ^ (64 * k) * wd b k) = 2 ^ (64 * (i + k)) * (wd a i * wd b k) := by
      rw [Nat.mul_add 64, Nat.pow_add]; ac_rfl
    rw [h4]
    generalize 2 ^ (64 * (i + k)) = P at *
    generalize wd a i * wd b k = p at *
    generalize (p + f (i + k) + c) % 18446744073709551616 = lo at *
    generalize (p + f (i + k) + c) / 18446744073709551616 = hi' at *
    have h5 : P * (lo + 18446744073709551616 * hi') = P * (p + f (i + k) + c) := by rw [h3]
    rw [Nat.mul_add, Nat.mul_add, Nat.mul_add] at h5
    omega
theorem MulI.row {a b i c : Nat} {f : Nat → Nat} (h : MulI a b i 4 f c) (hi : i < 4) (hb : b < 2 ^ 256) : MulI a b (i + 1) 0 (upd f (i + 4) c) 0 := by
  refine ⟨fun j => ?_, by omega, fun j hj => ?_, ?_⟩
  · unfold upd; split
    · exact h.cl
    · exact h.lt j
  · unfold upd; rw [if_neg (by omega)]; exact h.zero j (by omega)
  · have h1 := upd_wval f (i + 4) c 8 (by omega)
    rw [h.zero (i + 4) (by omega)] at h1
    have h2 := h.eq
    rw [show 64 * 4 = 256 from rfl, Nat.mod_eq_of_lt hb] at h2
    rw [mod_up a i, Nat.mul_zero, Nat.mul_zero, Nat.pow_zero, Nat.mod_one, Nat.mul_zero, Nat.add_mul]
    omega
theorem MulI.done {a b : Nat} {f : Nat → Nat} (h : MulI a b 4 0 f 0) (ha : a < 2 ^ 256) : ∀ j < 8, f j = wd (a * b) j := by
  have h2 := h.eq
  rw [show 64 * 4 = 256 from rfl, Nat.mod_eq_of_lt ha, Nat.mul_zero 64, Nat.pow_zero, Nat.mod_one, Nat.mul_zero] at h2
  simp only [Nat.add_zero] at h2
  intro j hj
  rw [← h2, wd_wval (fun i _ => h.lt i) j hj]

theorem limb_Mul (a b : Nat) (w : World) (ha : a < 2 ^ 256) (hb : b < 2 ^ 256) :
    Calls Tryd.prog 82 #[numV a, numV b] w fun e w' => e = .returned (wideV (a * b)) ∧ Below w.heap.size w w' := by
  unfold numV wideV
  have hL : Below w.heap.size w ((((w.alloc (Obj.cells (arrK .u64 4 (wd a)) 41)).alloc (Obj.cells (arrK .u64 4 (wd b)) 41)).alloc (Obj.cells (arrK .u64 8 (wd 0)) 154)).alloc (Obj.cells (arrK .u64 8 (wd 0)) 154)) := by go_grown
  have hA : NumAt ((((w.alloc (Obj.cells (arrK .u64 4 (wd a)) 41)).alloc (Obj.cells (arrK .u64 4 (wd b)) 41)).alloc (Obj.cells (arrK .u64 8 (wd 0)) 154)).alloc (Obj.cells (arrK .u64 8 (wd 0)) 154)) w.heap.size a := (((At.new _ rfl).old _).old _).old _
  have hB : NumAt ((((w.alloc (Obj.cells (arrK .u64 4 (wd a)) 41)).alloc (Obj.cells (arrK .u64 4 (wd b)) 41)).alloc (Obj.cells (arrK .u64 8 (wd 0)) 154)).alloc (Obj.cells (arrK .u64 8 (wd 0)) 154)) (w.heap.size + 1) b := ((At.new _ (by simp)).old _).old _
  have hO : Row ((((w.alloc (Obj.cells (arrK .u64 4 (wd a)) 41)).alloc (Obj.cells (arrK .u64 4 (wd b)) 41)).alloc (Obj.cells (arrK .u64 8 (wd 0)) 154)).alloc (Obj.cells (arrK .u64 8 (wd 0)) 154)) (w.heap.size + 1 + 1) 8 := ((At.new (k := .u64) (f := wd 0) _ (by simp)).old _).row
  have hF : At ((((w.alloc (Obj.cells (arrK .u64 4 (wd a)) 41)).alloc (Obj.cells (arrK .u64 4 (wd b)) 41)).alloc (Obj.cells (arrK .u64 8 (wd 0)) 154)).alloc (Obj.cells (arrK .u64 8 (wd 0)) 154)) (w.heap.size + 1 + 1 + 1) .u64 8 (fun _ => 0) := (At.new (k := .u64) (f := wd 0) _ (by simp)).congr fun i _ => wd_zero i
  rw [← zeroWide] at *
  go_enter Tryd.func82, Tryd.ntmps82
  go_wp2
  generalize ((((w.alloc (Obj.cells (arrK .u64 4 (wd a)) 41)).alloc (Obj.cells (arrK .u64 4 (wd b)) 41)).alloc (Obj.cells _ 154)).alloc (Obj.cells _ 154)) = W0 at *
  go_loopw [9] (fun i wr => ∃ (k : Nat) (f : Nat → Nat), i = .int .i64 k ∧ k ≤ 4 ∧ NumAt wr w.heap.size a ∧ NumAt wr (w.heap.size + 1) b ∧ Row wr (w.heap.size + 1 + 1) 8 ∧ At wr (w.heap.size + 1 + 1 + 1) .u64 8 f ∧ Below w.heap.size w wr ∧ Hid (MulI a b k 0 f 0)) (fun i _ => 4 - (intOf i).toNat)
  case atStart => exact ⟨0, fun _ => 0, rfl, by omega, hA, hB, hO, hF, hL, Lib.hid (MulI.start a b)⟩
  case round =>
    clear hA hB hO hF hL
    obtain ⟨i, f, rfl, hi, hA, hB, hO, hF, hL, hI⟩ := hrel
    by_cases h4 : i = 4
    · subst h4
      have hF' := hF.congr (hI.out.done ha)
      have hRf := hF'.row
      have hrf := hF'.eq
      have hcs := arrK_cells .u64 8 (wd (a * b))
      obtain ⟨N, hN⟩ : ∃ N, N = wd (a * b) := ⟨_, rfl⟩
      rw [← hN] at hrf hcs
      have hHN := Lib.hid hN
      clear hN hF hF' hI
      go_wp2
      exact ret_stored (p := 4) (ty := 154) (g := w.heap.size + 1 + 1) (n := 8) (c := arrK .u64 8 N) rfl Tryd.underlying154 rfl (by kernel_rfl) rfl hO hcs.1 rfl ⟨by rw [hHN.out], below_setRow hL (by omega)⟩
    · have hi0 : (i : Int) < 4 := by omega
      go_wp2
      obtain ⟨wo, rfl⟩ : ∃ wo : World, wo = wr := ⟨_, rfl⟩
      go_loopw [7, 12] (fun c k wr => ∃ (k' c' : Nat) (f : Nat → Nat), k = .int .i64 k' ∧ c = .int .u64 c' ∧ k' ≤ 4 ∧ NumAt wr w.heap.size a ∧ NumAt wr (w.heap.size + 1) b ∧ Row wr (w.heap.size + 1 + 1) 8 ∧ At wr (w.heap.size + 1 + 1 + 1) .u64 8 f ∧ Below w.heap.size w wr ∧ Hid (MulI a b i k' f c')) (fun _ k _ => 4 - (intOf k).toNat)
      case atStart => exact ⟨0, 0, f, rfl, rfl, by omega, hA, hB, hO, hF, hL, hI⟩
      case round =>
        clear hA hB hO hF hL hI f
        obtain ⟨k, c, f, rfl, rfl, hk, hA, hB, hO, hF, hL, hI⟩ := hrel
        by_cases hk4 : k = 4
        · subst hk4
          have hI2 := Lib.hid (hI.out.row (by omega) hb)
          have co := hF.cell (i := i + 4) (by omega)
          have fo := hF.row.frozen (i + 4)
          have hi4 : (i : Int) + 4 < 8 := by omega
          clear hI
          go_wp2
          go_roundw
          case rel => exact ⟨i + 1, upd f (i + 4) c, by go_num, by omega, hA.farC (by simp <;> omega), hB.farC (by simp <;> omega), row_setCell.2 hO, hF.set (i + 4) c, hL.setCell (by simp <;> omega) _, hI2⟩
          case measure => simp [intOf]; omega
        · have hI2 := Lib.hid (hI.out.step (by omega) (by omega))
          have ca := hA.cell (i := i) (by omega)
          have cb := hB.cell (i := k) (by omega)
          have co := hF.cell (i := i + k) (by omega)
          have fo := hF.row.frozen (i + k)
          have hcon := Lib.hid (fun W => limb_step (wd a i) (wd b k) (f (i + k)) c W (wd_lt a i) (wd_lt b k) (hI.out.lt _) hI.out.cl)
          obtain ⟨lo, hlo⟩ : ∃ lo, lo = (wd a i * wd b k + f (i + k) + c) % 18446744073709551616 := ⟨_, rfl⟩
          obtain ⟨up, hup⟩ : ∃ up, up = (wd a i * wd b k + f (i + k) + c) / 18446744073709551616 := ⟨_, rfl⟩
          rw [← hlo, ← hup] at hcon hI2
          have hw1 : IntKind.i64.wrap ((i : Int) + k) = (i : Int) + k := by rw [IntKind.wrap_i64]; omega
          have hw2 : (0 : Int) ≤ (i : Int) + k := by omega
          have hw3 : (i : Int) + k < 8 := by omega
          have hw4 : ((i : Int) + k).toNat = i + k := by omega
          have hk0 : (k : Int) < 4 := by omega
          clear hlo hup hI
          go_wp2
          go_region_law (first
            | (go_simp; go_at_call 111; (refine Calls.mono (hcon.out _) ?_); rintro e w' ⟨rfl, rfl⟩))
          all_goals
            clear hw1 hw2 hw3 hw4 ca cb co fo hcon
            go_wp2
            go_roundw
            case rel => exact ⟨k + 1, up, upd f (i + k) lo, by go_num, rfl, by omega, (hA.farC (by simp <;> omega)).drew, (hB.farC (by simp <;> omega)).drew, row_setCell.2 hO, (hF.set (i + k) lo).drew, (hL.setCell (by simp <;> omega) _).drew, hI2⟩
            case measure => simp [intOf]; omega
end Go.Proofs.YtdlmamnnamlleaaDoor
