/- Contracts of package limb: Wide, Bytes, Of. -/
import Derived.Test.YtdlmamnnamlleaaDoorNum2
import Derived.Laws.CopyRow
import Derived.Laws.BitsAllLaws
import Derived.RegionTactic
import Derived.BigRegion
namespace Go.Proofs.YtdlmamnnamlleaaDoor
open Go.ChangeShapes Go.WideShapes Go.ChangeAt Go.RowKit
set_option maxHeartbeats 1000000
set_option maxRecDepth 100000
attribute [local go_sem ↓] load_num store_num execl_num execs_num load_wide store_wide execl_wide execs_wide load_b32 store_b32 execl_b32 execs_b32
attribute [local go_sem] isHead_mk blkOf_mk isAgg_mk cellsV_mk row_drew row_new_cells row_old rowAt_new rowAt_old

theorem wd_ge {n i : Nat} (h : n < 2 ^ (64 * i)) : wd n i = 0 := by unfold wd; rw [Nat.div_eq_of_lt h]
theorem wd_lo {a b i k : Nat} (hi : i < k) : wd (a + 2 ^ (64 * k) * b) i = wd a i := by
  unfold wd
  rw [show 64 * k = 64 * i + 64 + 64 * (k - i - 1) by omega, Nat.pow_add, Nat.pow_add, Nat.mul_assoc, Nat.mul_assoc, Nat.add_mul_div_left _ _ (Nat.pow_pos (by omega)), Nat.add_mul_mod_self_left]
theorem wd_hi {a b i k : Nat} (ha : a < 2 ^ (64 * k)) : wd (a + 2 ^ (64 * k) * b) (k + i) = wd b i := by
  unfold wd
  rw [show 64 * (k + i) = 64 * k + 64 * i by omega, Nat.pow_add, ← Nat.div_div_eq_div_mul, Nat.add_mul_div_left _ _ (Nat.pow_pos (by omega)), Nat.div_eq_of_lt ha, Nat.zero_add]

theorem wd_mod {n i : Nat} (h : i < 4) : wd n (0 + i) = wd (n % 2 ^ 256) i := by
  conv => lhs; rw [← Nat.mod_add_div n (2 ^ 256), Nat.zero_add]
  exact wd_lo (k := 4) h
theorem wd_div (n i : Nat) : wd n (4 + i) = wd (n / 2 ^ 256) i := by
  conv => lhs; rw [← Nat.mod_add_div n (2 ^ 256)]
  exact wd_hi (k := 4) (Nat.mod_lt _ (by decide))

/-! copy between two rows -/
def splice (c : Array Value) (o : Nat) (d : Array Value) (p n : Nat) : Array Value := (c.toList.take o ++ (d.toList.drop p).take n ++ c.toList.drop (o + n)).toArray
theorem splice_size {c d : Array Value} {o p n : Nat} (h1 : o + n ≤ c.size) (h2 : p + n ≤ d.size) : (splice c o d p n).size = c.size := by
  simp [splice]; omega
theorem splice_arrK {k : IntKind} {N M : Nat} {f g : Nat → Nat} {o p n : Nat} (h1 : o + n ≤ N) (h2 : p + n ≤ M) :
    splice (arrK k N f) o (arrK k M g) p n = arrK k N fun i => if o ≤ i ∧ i < o + n then g (p + (i - o)) else f i := by
  refine arrK_of (by rw [splice_size (by rw [arrK_size]; exact h1) (by rw [arrK_size]; exact h2), arrK_size]) fun i hi => ?_
  have hf := arrK_at (k := k) (f := f) hi
  rw [← Array.getElem?_toList] at hf
  unfold splice
  rw [List.getElem?_toArray, List.append_assoc]
  by_cases h3 : i < o
  · rw [List.getElem?_append_left (by simp [arrK_size]; omega), List.getElem?_take_of_lt h3, hf, if_neg (by omega)]
  · rw [List.getElem?_append_right (by simp [arrK_size]; omega)]
    have hlen : ((arrK k N f).toList.take o).length = o := by simp [arrK_size]; omega
    rw [hlen]
    by_cases h4 : i < o + n
    · rw [List.getElem?_append_left (by simp [arrK_size]; omega), List.getElem?_take_of_lt (by omega), List.getElem?_drop, Array.getElem?_toList, arrK_at (by omega), if_pos ⟨by omega, h4⟩]
    · have hl2 : (((arrK k M g).toList.drop p).take n).length = n := by simp [arrK_size]; omega
      rw [List.getElem?_append_right (by rw [hl2]; omega), hl2, List.getElem?_drop, show o + n + (i - o - n) = i by omega, hf, if_neg (by omega)]
theorem run_copy_rows {P : Program} {w : World} {dT sT ty elem : TypeId} {g o dLen dCap h q sLen sCap N M n : Nat}
    (hu : P.underlying dT = some (.slice elem)) (hs : (P.info? elem).map (·.size) = some 1) (hn : n = Nat.min sLen dLen) (h1 : o + n ≤ N) (h2 : q + n ≤ M) (hc : ∀ u ∈ (rowAt w h).toList, u.oneCell' = true)
    (hR : Row w g N) (hS : Row w h M) :
    (Builtin.copy_ #[dT, sT] ty #[.slice (some ⟨g, o, none⟩) dLen dCap, .slice (some ⟨h, q, none⟩) sLen sCap]).run P w = .ok (goInt n) (w.setRow g (splice (rowAt w g) o (rowAt w h) q n)) := by
  obtain ⟨cs, t, hg, hl⟩ := hR
  have e : rowAt w g = cs := by simp [rowAt, hg]
  have hsz := hS.size
  have hlen : (((rowAt w h).toList.drop q).take n).length = n := by simp; omega
  have := run_copy_row (P := P) w dT sT ty elem g o dLen dCap ⟨h, q, none⟩ sLen sCap cs t (((rowAt w h).toList.drop q).take n) hu hs hg (by rw [hlen]; exact hn) (fun j v hv => by
    rw [List.getElem?_take] at hv
    split at hv
    · rw [List.getElem?_drop, Array.getElem?_toList] at hv
      rw [show (⟨h, q, none⟩ : Addr).add j = ⟨h, q + j, none⟩ by unfold Addr.add; split <;> simp_all, hS.cell, hv]
    · cases hv) (by rw [hlen, hl]; omega) (fun v hv => hc v (List.mem_of_mem_drop (List.mem_of_mem_take hv)))
  rw [this, hlen, e]
  rfl

theorem Row.drew {w : World} {g n : Nat} (h : Row w g n) : Row w.drew g n := h
theorem zero8 : #[Value.int IntKind.u64 0, Value.int IntKind.u64 0, Value.int IntKind.u64 0, Value.int IntKind.u64 0, Value.int IntKind.u64 0, Value.int IntKind.u64 0, Value.int IntKind.u64 0, Value.int IntKind.u64 0] = arrK .u64 8 fun _ => 0 := arrK8 .u64 fun _ => 0
theorem goInt_4 : goInt ((4 : Nat) : Int) = .int .i64 4 := rfl

theorem limb_Wide (a b : Nat) (w : World) (ha : a < 2 ^ 256) :
    Calls Tryd.prog 109 #[numV a, numV b] w fun e w' => e = .returned (wideV (a + 2 ^ 256 * b)) ∧ Below w.heap.size w w' := by
  unfold numV
  have hca := arrK_cells .u64 4 (wd a)
  have hcb := arrK_cells .u64 4 (wd b)
  go_enter Tryd.func109, Tryd.ntmps109
  go_wp2
  rw [zero8]
  have hRa : Row ((((w.alloc (Obj.cells (arrK .u64 4 (wd a)) 41)).alloc (Obj.cells (arrK .u64 4 (wd b)) 41)).alloc (Obj.cells (arrK .u64 8 fun _ => 0) 154)).alloc (Obj.cells (arrK .u64 8 fun _ => 0) 154)) w.heap.size 4 := by go_simp
  have hra : rowAt ((((w.alloc (Obj.cells (arrK .u64 4 (wd a)) 41)).alloc (Obj.cells (arrK .u64 4 (wd b)) 41)).alloc (Obj.cells (arrK .u64 8 fun _ => 0) 154)).alloc (Obj.cells (arrK .u64 8 fun _ => 0) 154)) w.heap.size = arrK .u64 4 (wd a) := by go_simp
  have hRb : Row ((((w.alloc (Obj.cells (arrK .u64 4 (wd a)) 41)).alloc (Obj.cells (arrK .u64 4 (wd b)) 41)).alloc (Obj.cells (arrK .u64 8 fun _ => 0) 154)).alloc (Obj.cells (arrK .u64 8 fun _ => 0) 154)) (w.heap.size + 1) 4 := by go_simp
  have hrb : rowAt ((((w.alloc (Obj.cells (arrK .u64 4 (wd a)) 41)).alloc (Obj.cells (arrK .u64 4 (wd b)) 41)).alloc (Obj.cells (arrK .u64 8 fun _ => 0) 154)).alloc (Obj.cells (arrK .u64 8 fun _ => 0) 154)) (w.heap.size + 1) = arrK .u64 4 (wd b) := by go_simp
  have hRz : Row ((((w.alloc (Obj.cells (arrK .u64 4 (wd a)) 41)).alloc (Obj.cells (arrK .u64 4 (wd b)) 41)).alloc (Obj.cells (arrK .u64 8 fun _ => 0) 154)).alloc (Obj.cells (arrK .u64 8 fun _ => 0) 154)) (w.heap.size + 1 + 1) 8 := (row_old (by simp)).2 ((row_new (by simp)).2 (arrK_size _ _ _))
  have hRo : Row ((((w.alloc (Obj.cells (arrK .u64 4 (wd a)) 41)).alloc (Obj.cells (arrK .u64 4 (wd b)) 41)).alloc (Obj.cells (arrK .u64 8 fun _ => 0) 154)).alloc (Obj.cells (arrK .u64 8 fun _ => 0) 154)) (w.heap.size + 1 + 1 + 1) 8 := (row_new (by simp)).2 (arrK_size _ _ _)
  have hro : rowAt ((((w.alloc (Obj.cells (arrK .u64 4 (wd a)) 41)).alloc (Obj.cells (arrK .u64 4 (wd b)) 41)).alloc (Obj.cells (arrK .u64 8 fun _ => 0) 154)).alloc (Obj.cells (arrK .u64 8 fun _ => 0) 154)) (w.heap.size + 1 + 1 + 1) = arrK .u64 8 fun _ => 0 := by go_simp
  have hL : Below w.heap.size w ((((w.alloc (Obj.cells (arrK .u64 4 (wd a)) 41)).alloc (Obj.cells (arrK .u64 4 (wd b)) 41)).alloc (Obj.cells (arrK .u64 8 fun _ => 0) 154)).alloc (Obj.cells (arrK .u64 8 fun _ => 0) 154)) := by go_grown
  generalize ((((w.alloc (Obj.cells (arrK .u64 4 (wd a)) 41)).alloc (Obj.cells (arrK .u64 4 (wd b)) 41)).alloc (Obj.cells (arrK .u64 8 fun _ => 0) 154)).alloc (Obj.cells (arrK .u64 8 fun _ => 0) 154)) = W0 at *
  have hcp : ∀ ty, (Builtin.copy_ #[132, 132] ty #[.slice (some ⟨w.heap.size + 1 + 1 + 1, 0, none⟩) 4 8, .slice (some ⟨w.heap.size, 0, none⟩) 4 4]).run Tryd.prog W0.drew = .ok (.int .i64 4) (W0.drew.setRow (w.heap.size + 1 + 1 + 1) (arrK .u64 8 fun i => if i < 4 then wd a i else 0)) := fun ty => by
    rw [run_copy_rows (N := 8) (M := 4) (n := 4) Tryd.underlying132 (by kernel_rfl) rfl (by omega) (by omega) (by rw [rowAt_drew, hra]; intro u hu; exact Array.all_eq_true_iff_forall_mem.1 hca.2 u (by simpa using hu)) hRo.drew hRa.drew, rowAt_drew, rowAt_drew, hra, hro, splice_arrK (by omega) (by omega), goInt_4, arrK_congr (g := fun i => if i < 4 then wd a i else 0) fun i _ => by simp]
  have hR1 := (row_setRow_same (c' := arrK .u64 8 fun i => if i < 4 then wd a i else 0) rfl hRo.drew).2 (arrK_size _ _ _)
  have hr1 := rowAt_setRow_same (c := arrK .u64 8 fun i => if i < 4 then wd a i else 0) hRo.drew
  have hR2 : Row (W0.drew.setRow (w.heap.size + 1 + 1 + 1) (arrK .u64 8 fun i => if i < 4 then wd a i else 0)) (w.heap.size + 1) 4 := (row_setRow_far (by omega)).2 hRb.drew
  have hr2 := (rowAt_setRow_far (w := W0.drew) (c' := arrK .u64 8 fun i => if i < 4 then wd a i else 0) (show w.heap.size + 1 ≠ w.heap.size + 1 + 1 + 1 by omega)).trans hrb
  have hR3 : Row (W0.drew.setRow (w.heap.size + 1 + 1 + 1) (arrK .u64 8 fun i => if i < 4 then wd a i else 0)) (w.heap.size + 1 + 1) 8 := (row_setRow_far (by omega)).2 hRz.drew
  have hL1 : Below w.heap.size w (W0.drew.setRow (w.heap.size + 1 + 1 + 1) (arrK .u64 8 fun i => if i < 4 then wd a i else 0)) := below_setRow hL.drew (by omega)
  go_region
  generalize (W0.drew.setRow (w.heap.size + 1 + 1 + 1) (arrK .u64 8 fun i => if i < 4 then wd a i else 0)) = W1 at *
  have hcp2 : ∀ ty, (Builtin.copy_ #[132, 132] ty #[.slice (some ⟨w.heap.size + 1 + 1 + 1, 4, none⟩) 4 4, .slice (some ⟨w.heap.size + 1, 0, none⟩) 4 4]).run Tryd.prog W1.drew = .ok (.int .i64 4) (W1.drew.setRow (w.heap.size + 1 + 1 + 1) (arrK .u64 8 (wd (a + 2 ^ 256 * b)))) := fun ty => by
    rw [run_copy_rows (N := 8) (M := 4) (n := 4) Tryd.underlying132 (by kernel_rfl) rfl (by omega) (by omega) (by rw [rowAt_drew, hr2]; intro u hu; exact Array.all_eq_true_iff_forall_mem.1 hcb.2 u (by simpa using hu)) hR1.drew hR2.drew, rowAt_drew, rowAt_drew, hr1, hr2, splice_arrK (by omega) (by omega), goInt_4]
    congr 2
    refine arrK_congr fun i hi => ?_
    by_cases h : i < 4
    · rw [if_neg (by omega), if_pos h, wd_lo (k := 4) h]
    · rw [if_pos (by omega)]
      obtain ⟨j, rfl⟩ : ∃ j, i = 4 + j := ⟨i - 4, by omega⟩
      rw [wd_hi (k := 4) ha, Nat.zero_add, Nat.add_sub_cancel_left]
  clear hcp
  go_wp2
  go_region
  have hR4 : Row (W1.drew.setRow (w.heap.size + 1 + 1 + 1) (arrK .u64 8 (wd (a + 2 ^ 256 * b)))) (w.heap.size + 1 + 1 + 1) 8 := (row_setRow_same rfl hR1.drew).2 (arrK_size _ _ _)
  have hr4 := rowAt_setRow_same (c := arrK .u64 8 (wd (a + 2 ^ 256 * b))) hR1.drew
  have hR5 : Row (W1.drew.setRow (w.heap.size + 1 + 1 + 1) (arrK .u64 8 (wd (a + 2 ^ 256 * b)))) (w.heap.size + 1 + 1) 8 := (row_setRow_far (by omega)).2 hR3.drew
  have hL2 : Below w.heap.size w (W1.drew.setRow (w.heap.size + 1 + 1 + 1) (arrK .u64 8 (wd (a + 2 ^ 256 * b)))) := below_setRow hL1.drew (by omega)
  generalize (W1.drew.setRow (w.heap.size + 1 + 1 + 1) (arrK .u64 8 (wd (a + 2 ^ 256 * b)))) = W2 at *
  have hcs := arrK_cells .u64 8 (wd (a + 2 ^ 256 * b))
  go_wp2
  refine ret_row rfl Tryd.underlying154 rfl (by kernel_rfl) rfl ((row_setRow_same rfl hR5).2 hcs.1) rfl ?_
  rw [rowAt_setRow_same hR5]
  exact ⟨rfl, below_setRow hL2 (by omega)⟩

/-! Bytes, Of -/
def byt (a i : Nat) : Nat := a / 256 ^ i % 256
theorem byt_lt (a i : Nat) : byt a i < 256 := Nat.mod_lt _ (by omega)
def bytK (a s : Nat) : Nat → Nat := fun i => if i < s then byt a i else 0
theorem byt_wd (a i : Nat) : wd a (i / 8) / 2 ^ (i % 8 * 8) % 256 = byt a i := by
  unfold wd byt
  have h1 : a / 256 ^ i = a / 2 ^ (64 * (i / 8)) / 2 ^ (i % 8 * 8) := by
    rw [Nat.div_div_eq_div_mul, ← Nat.pow_add, show (256 : Nat) = 2 ^ 8 from rfl, ← Nat.pow_mul]
    congr 2; omega
  rw [h1]
  generalize a / 2 ^ (64 * (i / 8)) = M
  have h2 : 2 ^ (i % 8 * 8) * 256 ∣ 2 ^ 64 := by
    rw [show (256 : Nat) = 2 ^ 8 from rfl, ← Nat.pow_add]
    exact Nat.pow_dvd_pow 2 (by omega)
  rw [← Nat.mod_mul_right_div_self, ← Nat.mod_mul_right_div_self, Nat.mod_mod_of_dvd _ h2]
theorem bytK_step (a s : Nat) (p : Nat) : upd (bytK a s) s (byt a s) p = bytK a (s + 1) p := by
  unfold upd bytK
  by_cases h : p = s
  · subst h; rw [if_pos rfl, if_pos (by omega)]
  · rw [if_neg h]
    by_cases h2 : p < s
    · rw [if_pos h2, if_pos (by omega)]
    · rw [if_neg h2, if_neg (by omega)]

theorem zero32 : #[Value.int IntKind.u8 0, Value.int IntKind.u8 0, Value.int IntKind.u8 0, Value.int IntKind.u8 0, Value.int IntKind.u8 0, Value.int IntKind.u8 0, Value.int IntKind.u8 0, Value.int IntKind.u8 0, Value.int IntKind.u8 0, Value.int IntKind.u8 0, Value.int IntKind.u8 0, Value.int IntKind.u8 0, Value.int IntKind.u8 0, Value.int IntKind.u8 0, Value.int IntKind.u8 0, Value.int IntKind.u8 0, Value.int IntKind.u8 0, Value.int IntKind.u8 0, Value.int IntKind.u8 0, Value.int IntKind.u8 0, Value.int IntKind.u8 0, Value.int IntKind.u8 0, Value.int IntKind.u8 0, Value.int IntKind.u8 0, Value.int IntKind.u8 0, Value.int IntKind.u8 0, Value.int IntKind.u8 0, Value.int IntKind.u8 0, Value.int IntKind.u8 0, Value.int IntKind.u8 0, Value.int IntKind.u8 0, Value.int IntKind.u8 0] = arrK .u8 32 fun _ => 0 := by kernel_rfl
theorem zero4w : #[Value.int IntKind.u64 0, Value.int IntKind.u64 0, Value.int IntKind.u64 0, Value.int IntKind.u64 0] = arrK .u64 4 fun _ => 0 := arrK4 .u64 fun _ => 0

def bval (f : Nat → Nat) : Nat → Nat
  | 0 => 0
  | n + 1 => bval f n + 256 ^ n * f n
theorem bval_lt {f : Nat → Nat} {n : Nat} (h : ∀ i < n, f i < 256) : bval f n < 256 ^ n := by
  induction n with
  | zero => simp [bval]
  | succ n ih =>
    have h1 := ih fun i hi => h i (by omega)
    have h2 : 256 ^ n * (f n + 1) ≤ 256 ^ n * 256 := Nat.mul_le_mul_left _ (by have := h n (by omega); omega)
    rw [Nat.mul_add] at h2
    simp only [bval, Nat.pow_succ]; omega
theorem or_low {x y i : Nat} (h : x < 2 ^ i) : x ||| 2 ^ i * y = x + 2 ^ i * y := by
  have := Nat.two_pow_add_eq_or_of_lt h y
  rw [Nat.or_comm, ← this, Nat.add_comm]
theorem of_step {f : Nat → Nat} {s : Nat} (hf : ∀ i < s + 1, f i < 256) (p : Nat) :
    upd (wd (bval f s)) (s / 8) (wd (bval f s) (s / 8) ||| f s * 2 ^ (s % 8 * 8)) p = wd (bval f (s + 1)) p ∧ f s * 2 ^ (s % 8 * 8) < 18446744073709551616 ∧ (wd (bval f s) (s / 8) ||| f s * 2 ^ (s % 8 * 8)) < 18446744073709551616 := by
  have hs := hf s (by omega)
  have hb := bval_lt (f := f) (n := s) fun i hi => hf i (by omega)
  have e1 : 256 ^ s = 2 ^ (64 * (s / 8)) * 2 ^ (s % 8 * 8) := by
    rw [← Nat.pow_add, show (256 : Nat) = 2 ^ 8 from rfl, ← Nat.pow_mul]; congr 1; omega
  have hlow : bval f s / 2 ^ (64 * (s / 8)) < 2 ^ (s % 8 * 8) := by
    rw [Nat.div_lt_iff_lt_mul (Nat.pow_pos (by omega)), Nat.mul_comm, ← e1]; exact hb
  have h7 : 2 ^ (s % 8 * 8) ≤ 2 ^ 56 := Nat.pow_le_pow_right (by omega) (by omega)
  have hfs : f s * 2 ^ (s % 8 * 8) ≤ 255 * 2 ^ (s % 8 * 8) := Nat.mul_le_mul_right _ (by omega)
  have hw : wd (bval f s) (s / 8) = bval f s / 2 ^ (64 * (s / 8)) := by unfold wd; exact Nat.mod_eq_of_lt (by omega)
  have hor : wd (bval f s) (s / 8) ||| f s * 2 ^ (s % 8 * 8) = bval f s / 2 ^ (64 * (s / 8)) + 2 ^ (s % 8 * 8) * f s := by
    rw [hw, Nat.mul_comm (f s), or_low hlow]
  have hlt : bval f s / 2 ^ (64 * (s / 8)) + 2 ^ (s % 8 * 8) * f s < 18446744073709551616 := by rw [Nat.mul_comm] at hfs; omega
  refine ⟨?_, by omega, by omega⟩
  have e2 : bval f (s + 1) = bval f s + 2 ^ (64 * (s / 8)) * (2 ^ (s % 8 * 8) * f s) := by
    show bval f s + 256 ^ s * f s = _
    rw [e1, Nat.mul_assoc]
  unfold upd
  by_cases hp : p = s / 8
  · rw [if_pos hp, hor, hp, e2]
    unfold wd
    rw [Nat.add_mul_div_left _ _ (Nat.pow_pos (by omega))]
    exact (Nat.mod_eq_of_lt hlt).symm
  · rw [if_neg hp]
    rcases Nat.lt_or_ge p (s / 8) with h | h
    · rw [e2, wd_lo h]
    · have h3 : 256 ^ (s + 1) ≤ 2 ^ (64 * p) := by
        rw [show (256 : Nat) = 2 ^ 8 from rfl, ← Nat.pow_mul]
        exact Nat.pow_le_pow_right (by omega) (by omega)
      have h4 := bval_lt (f := f) (n := s + 1) hf
      have h5 : 256 ^ s ≤ 256 ^ (s + 1) := Nat.pow_le_pow_right (by omega) (by omega)
      rw [wd_ge (by omega), wd_ge (by omega)]

theorem limb_Of (f : Nat → Nat) (w : World) (hf : ∀ i < 32, f i < 256) :
    Calls Tryd.prog 37 #[.agg (arrK .u8 32 f)] w fun e w' => e = .returned (numV (bval f 32)) ∧ Below w.heap.size w w' := by
  unfold numV
  have hca := arrK_cells .u8 32 f
  have hcz := arrK_cells .u64 4 fun _ => 0
  have hRa : Row (((w.alloc (Obj.cells (arrK .u8 32 f) 57)).alloc (Obj.cells (arrK .u64 4 fun _ => 0) 41)).alloc (Obj.cells (arrK .u64 4 fun _ => 0) 41)) w.heap.size 32 := by go_simp
  have hra : rowAt (((w.alloc (Obj.cells (arrK .u8 32 f) 57)).alloc (Obj.cells (arrK .u64 4 fun _ => 0) 41)).alloc (Obj.cells (arrK .u64 4 fun _ => 0) 41)) w.heap.size = arrK .u8 32 f := by go_simp
  have hRo : Row (((w.alloc (Obj.cells (arrK .u8 32 f) 57)).alloc (Obj.cells (arrK .u64 4 fun _ => 0) 41)).alloc (Obj.cells (arrK .u64 4 fun _ => 0) 41)) (w.heap.size + 1) 4 := by go_simp
  have hRz : Row (((w.alloc (Obj.cells (arrK .u8 32 f) 57)).alloc (Obj.cells (arrK .u64 4 fun _ => 0) 41)).alloc (Obj.cells (arrK .u64 4 fun _ => 0) 41)) (w.heap.size + 1 + 1) 4 := by go_simp
  have hrz : rowAt (((w.alloc (Obj.cells (arrK .u8 32 f) 57)).alloc (Obj.cells (arrK .u64 4 fun _ => 0) 41)).alloc (Obj.cells (arrK .u64 4 fun _ => 0) 41)) (w.heap.size + 1 + 1) = arrK .u64 4 (wd (bval f 0)) := by go_simp; exact arrK_congr fun i _ => by simp [bval, wd_zero]
  have hL : Below w.heap.size w (((w.alloc (Obj.cells (arrK .u8 32 f) 57)).alloc (Obj.cells (arrK .u64 4 fun _ => 0) 41)).alloc (Obj.cells (arrK .u64 4 fun _ => 0) 41)) := by go_grown
  rw [← zero4w] at hRa hra hRo hRz hrz hL
  go_enter Tryd.func37, Tryd.ntmps37
  go_wp2
  rw [zero4w] at *
  generalize (((w.alloc (Obj.cells (arrK .u8 32 f) 57)).alloc (Obj.cells (arrK .u64 4 fun _ => 0) 41)).alloc (Obj.cells (arrK .u64 4 fun _ => 0) 41)) = W0 at *
  go_loopw [7] (fun i wr => ∃ s : Nat, i = .int .i64 s ∧ s ≤ 32 ∧ Row wr (w.heap.size + 1 + 1) 4 ∧ rowAt wr (w.heap.size + 1 + 1) = arrK .u64 4 (wd (bval f s)) ∧ Below (w.heap.size + 1 + 1) W0 wr) (fun i _ => 32 - (intOf i).toNat)
  case atStart => exact ⟨0, rfl, by omega, hRz, hrz, Below.refl _ _⟩
  case round =>
    obtain ⟨s, rfl, hs, hR, hr, hb⟩ := hrel
    have hRo' := row_below hRo hb (by omega)
    by_cases h32 : s = 32
    · subst h32
      have hcs := arrK_cells .u64 4 (wd (bval f 32))
      go_wp2
      refine ret_row rfl Tryd.underlying41 rfl (by kernel_rfl) rfl ((row_setRow_same rfl hRo').2 hcs.1) rfl ?_
      rw [rowAt_setRow_same hRo']
      exact ⟨rfl, below_setRow (hL.trans (hb.mono (by omega))) (by omega)⟩
    · have hix : ∀ W : World, (Instr.index 57 (.agg (arrK .u8 32 f)) (.int .i64 s)).run Tryd.prog W = .ok (.int .u8 (f s : Nat)) W := fun W => index_arrK Tryd.underlying57 Tryd.underlying5 (by kernel_rfl) (by omega) .i64 W
      have hst := of_step (f := f) (s := s) (fun i hi => hf i (by omega))
      have hst1 := arrK_congr (k := .u64) (n := 4) fun p _ => (hst p).1
      obtain ⟨-, hst2, hst3⟩ := hst 0
      obtain ⟨q, hq⟩ : ∃ q, q = s / 8 := ⟨_, rfl⟩
      obtain ⟨r, hr'⟩ : ∃ r, r = s % 8 := ⟨_, rfl⟩
      have hqi : (s : Int) / 8 = q := by omega
      have hri : (s : Int) % 8 = r := by omega
      rw [← hq, ← hr'] at hst1 hst3
      rw [← hr'] at hst2
      have hq4 : q < 4 := by omega
      have hr8 : r < 8 := by omega
      have hc : wr.cell? ⟨w.heap.size + 1 + 1, q, none⟩ = some (.int .u64 (wd (bval f s) q : Nat)) := by rw [hR.cell, hr, arrK_at hq4]
      have hfz := hR.frozen q
      have hfs := hf s (by omega)
      have hX := wd_lt (bval f s) q
      have hHst := Lib.hid hst1
      have hHr := Lib.hid hr
      have hd : decide ((s : Int) < 32) = true := by simp; omega
      clear hq hr' hst hst1 hr
      generalize wd (bval f s) q = X at *
      generalize f s = x at *
      have hv : bits .or .u64 (X : Int) (IntKind.u64.wrap ((x : Int) * 2 ^ (r * 8))) = ((X ||| x * 2 ^ (r * 8) : Nat) : Int) := by
        rw [show (x : Int) * 2 ^ (r * 8) = ((x * 2 ^ (r * 8) : Nat) : Int) by simp, show IntKind.u64.wrap ((x * 2 ^ (r * 8) : Nat) : Int) = ((x * 2 ^ (r * 8) : Nat) : Int) by rw [IntKind.wrap_u64]; omega, u64_or_nat _ _ hX hst2]
      have hHv := Lib.hid hv
      clear hv
      go_wp2
      go_round
      case rel =>
        refine ⟨s + 1, by go_num, by omega, row_setCell.2 hR, ?_, hb.setCell (by simp) _⟩
        rw [rowAt_setCell_same, hHr.out, hHv.out, arrK_set, hHst.out]
      case measure => simp [intOf]; omega
end Go.Proofs.YtdlmamnnamlleaaDoor
