/- Contracts of package quot: DivMod, Mod. -/
import Derived.Test.YtdlmamnnamlleaaDoorLimb3
import Derived.Test.YtdlmamnnamlleaaDoorAt
import Derived.Test.YtdlmamnnamlleaaDoorRet3
namespace Go.Proofs.YtdlmamnnamlleaaDoor
open Go.ChangeShapes Go.WideShapes Go.ChangeAt Go.RowKit
set_option maxHeartbeats 1000000
set_option maxRecDepth 100000
attribute [local go_sem ↓] load_num store_num execl_num execs_num load_wide store_wide execl_wide execs_wide
attribute [local go_sem] isHead_mk blkOf_mk isAgg_mk cellsV_mk row_drew rowAt_drew row_new_cells row_old rowAt_new rowAt_old setRow_new

/-- What DivMod has ahead of its loop. -/
def dmW (w : World) (a m : Nat) : World :=
  (((((w.alloc (Obj.cells (arrK .u64 8 (wd a)) 154)).alloc (Obj.cells (arrK .u64 4 (wd m)) 41)).alloc (Obj.cells (arrK .u64 8 (wd 0)) 154)).alloc (Obj.cells (arrK .u64 4 (wd 0)) 41)).alloc (Obj.cells (arrK .u64 8 (wd 0)) 154)).alloc (Obj.cells (arrK .u64 4 (wd 0)) 41)
structure DmAt (w : World) (h a m q r : Nat) : Prop where
  A : WideAt w h a
  M : NumAt w (h + 1) m
  Oq : Row w (h + 1 + 1) 8
  Or : Row w (h + 1 + 1 + 1) 4
  Q : WideAt w (h + 1 + 1 + 1 + 1) q
  R : NumAt w (h + 1 + 1 + 1 + 1 + 1) r
theorem DmAt.below {w w' : World} {h a m q r B : Nat} (k : DmAt w h a m q r) (hb : Below B w w') (hB : h + 6 ≤ B) : DmAt w' h a m q r :=
  ⟨k.A.below hb (by omega), k.M.below hb (by omega), row_below k.Oq hb (by omega), row_below k.Or hb (by omega), k.Q.below hb (by omega), k.R.below hb (by omega)⟩
theorem DmAt.drew {w : World} {h a m q r : Nat} (k : DmAt w h a m q r) : DmAt w.drew h a m q r := ⟨k.A.drew, k.M.drew, k.Oq, k.Or, k.Q.drew, k.R.drew⟩
theorem DmAt.setR {w : World} {h a m q r r' : Nat} (k : DmAt w h a m q r) : DmAt (w.setRow (h + 1 + 1 + 1 + 1 + 1) (arrK .u64 4 (wd r'))) h a m q r' :=
  ⟨k.A.far (by omega), k.M.far (by omega), (row_setRow_far (by omega)).2 k.Oq, (row_setRow_far (by omega)).2 k.Or, k.Q.far (by omega), At.put k.R.row⟩
theorem DmAt.bitR {w : World} {h a m q S b : Nat} (k : DmAt w h a m q S) (hb : ∀ p, upd (wd S) 0 (wd S 0 + b) p = wd (S + b) p) :
    DmAt (w.setCell ⟨h + 1 + 1 + 1 + 1 + 1, 0, none⟩ (.int .u64 ((wd S 0 + b : Nat) : Int))) h a m q (S + b) :=
  ⟨k.A.farC (by simp; omega), k.M.farC (by simp <;> omega), row_setCell.2 k.Oq, row_setCell.2 k.Or, k.Q.farC (by simp), (k.R.set 0 _).congr fun p _ => hb p⟩
theorem DmAt.bitQ {w : World} {h a m q r i t u : Nat} (k : DmAt w h a m q r) (hb : ∀ p, upd (wd q) t u p = wd (q ||| 2 ^ i) p) :
    DmAt (w.setCell ⟨h + 1 + 1 + 1 + 1, t, none⟩ (.int .u64 (u : Int))) h a m (q ||| 2 ^ i) r :=
  ⟨k.A.farC (by simp; omega), k.M.farC (by simp <;> omega), row_setCell.2 k.Oq, row_setCell.2 k.Or, (k.Q.set t u).congr fun p _ => hb p, k.R.farC (by simp)⟩
theorem dm_start' (w : World) (a m : Nat) : DmAt (dmW w a m) w.heap.size a m 0 0 ∧ Below w.heap.size w (dmW w a m) ∧ (dmW w a m).heap.size = w.heap.size + 6 := by
  unfold dmW
  refine ⟨⟨?_, ?_, ?_, ?_, ?_, ?_⟩, by go_grown, by simp⟩
  · exact ((((At.new _ rfl).old _).old _).old _).old _ |>.old _
  · exact (((At.new _ (by simp)).old _).old _).old _ |>.old _
  · exact (((At.new (k := .u64) (m := 8) (f := wd 0) _ (by simp)).old _).old _).old _ |>.row
  · exact ((At.new (k := .u64) (m := 4) (f := wd 0) _ (by simp)).old _).old _ |>.row
  · exact (At.new _ (by simp)).old _
  · exact At.new _ (by simp)

theorem top_wd {r : Nat} (hr : r < 2 ^ 256) : wd r 3 / 9223372036854775808 = if 2 ^ 256 ≤ 2 * r then 1 else 0 := by
  have h : wd r 3 = r / 2 ^ (64 * 3) := by unfold wd; exact Nat.mod_eq_of_lt (by rw [Nat.div_lt_iff_lt_mul (Nat.pow_pos (by omega)), ← Nat.pow_add]; exact hr)
  rw [h, show (9223372036854775808 : Nat) = 2 ^ 63 from rfl, Nat.div_div_eq_div_mul, ← Nat.pow_add, show 64 * 3 + 63 = 255 from rfl]
  have e : (2 : Nat) ^ 256 = 2 * 2 ^ 255 := by rw [Nat.mul_comm, ← Nat.pow_succ]
  rw [e] at hr ⊢
  generalize (2 : Nat) ^ 255 = P at *
  have hP : 0 < P := by omega
  split
  · exact Nat.div_eq_of_lt_le (by omega) (by omega)
  · exact Nat.div_eq_of_lt (by omega)
theorem shl_one (r : Nat) : r * 2 ^ 1 % 2 ^ 256 % 2 = 0 := by
  rw [Nat.mod_mod_of_dvd _ (show 2 ∣ 2 ^ 256 from Nat.pow_dvd_pow 2 (show 1 ≤ 256 by omega)), Nat.pow_one, Nat.mul_mod_left]
theorem low_bit {S b : Nat} (hS : S % 2 = 0) (hS2 : S < 2 ^ 256) (hb : b ≤ 1) : wd S 0 ||| b = wd S 0 + b ∧ S + b < 2 ^ 256 ∧ ∀ p, upd (wd S) 0 (wd S 0 + b) p = wd (S + b) p := by
  have e1 : wd S 0 = S % 2 ^ 64 := by unfold wd; simp
  have h2 : wd S 0 % 2 = 0 := by rw [e1, Nat.mod_mod_of_dvd _ (show 2 ∣ 2 ^ 64 from Nat.pow_dvd_pow 2 (show 1 ≤ 64 by omega))]; exact hS
  refine ⟨?_, ?_, fun p => ?_⟩
  · have h := Nat.two_pow_add_eq_or_of_lt (i := 1) (b := b) (by omega) (wd S 0 / 2)
    rw [Nat.pow_one, show 2 * (wd S 0 / 2) = wd S 0 by omega] at h
    exact h.symm
  · have : (2 : Nat) ^ 256 % 2 = 0 := by decide
    omega
  · unfold upd
    split
    · rename_i hp
      subst hp
      unfold wd at e1 ⊢
      simp only [Nat.mul_zero, Nat.pow_zero, Nat.div_one]
      omega
    · rename_i hp
      obtain ⟨t, rfl⟩ : ∃ t, p = t + 1 := ⟨p - 1, by omega⟩
      unfold wd
      have h3 : ∀ x, x / 2 ^ (64 * (t + 1)) = x / 2 / 2 ^ (64 * t + 63) := fun x => by
        rw [Nat.div_div_eq_div_mul, show 2 * 2 ^ (64 * t + 63) = 2 ^ (64 * (t + 1)) by rw [Nat.mul_comm, ← Nat.pow_succ]; rfl]
      rw [h3, h3, show (S + b) / 2 = S / 2 by omega]
/-- What the round's test tells. -/
theorem dm_test {r m b S : Nat} (hm : m < 2 ^ 256) (hr : r < m) (hb : b ≤ 1) (hS : r * 2 ^ 1 % 2 ^ 256 = S) :
    (2 ^ 256 ≤ 2 * r → m ≤ 2 * r + b ∧ subN (S + b) m = 2 * r + b - m) ∧
    (¬ 2 ^ 256 ≤ 2 * r → (¬ 2 * r + b < m → lessN (S + b) m = 0 ∧ m ≤ 2 * r + b ∧ subN (S + b) m = 2 * r + b - m) ∧ (2 * r + b < m → lessN (S + b) m = 1 ∧ ¬ m ≤ 2 * r + b ∧ S + b = 2 * r + b)) := by
  rw [Nat.pow_one] at hS
  unfold subN lessN
  generalize (2 : Nat) ^ 256 = P at *
  refine ⟨fun h => ?_, fun h => ⟨fun h2 => ?_, fun h2 => ?_⟩⟩
  · have e : S = 2 * r - P := by rw [← hS, Nat.mul_comm, Nat.mod_eq_sub_mod h, Nat.mod_eq_of_lt (by omega)]
    refine ⟨by omega, ?_⟩
    rw [show S + b + P - m = 2 * r + b - m by omega, Nat.mod_eq_of_lt (by omega)]
  · have e : S = 2 * r := by rw [← hS, Nat.mul_comm, Nat.mod_eq_of_lt (by omega)]
    rw [e, if_neg h2]
    refine ⟨rfl, by omega, ?_⟩
    rw [show 2 * r + b + P - m = (2 * r + b - m) + P by omega, Nat.add_mod_right, Nat.mod_eq_of_lt (by omega)]
  · have e : S = 2 * r := by rw [← hS, Nat.mul_comm, Nat.mod_eq_of_lt (by omega)]
    rw [e, if_pos h2]
    exact ⟨rfl, by omega, rfl⟩
theorem abit_wd (a i : Nat) : wd a (i / 64) / 2 ^ (i % 64) % 2 = abit a i := by
  unfold wd abit
  have h1 : a / 2 ^ i = a / 2 ^ (64 * (i / 64)) / 2 ^ (i % 64) := by
    rw [Nat.div_div_eq_div_mul, ← Nat.pow_add]; congr 2; omega
  rw [h1]
  generalize a / 2 ^ (64 * (i / 64)) = M
  have h2 : 2 ^ (i % 64) * 2 ∣ 2 ^ 64 := by rw [← Nat.pow_succ]; exact Nat.pow_dvd_pow 2 (by omega)
  rw [← Nat.mod_mul_right_div_self, ← Nat.mod_mul_right_div_self, Nat.mod_mod_of_dvd _ h2]
theorem q_bit (q i p : Nat) : upd (wd q) (i / 64) (wd q (i / 64) ||| 2 ^ (i % 64)) p = wd (q ||| 2 ^ i) p := by
  rw [wd_or, wd_bit]
  unfold upd
  split
  · rename_i h; subst h; rfl
  · simp
theorem u64_and1 (x : Nat) (hx : x < 18446744073709551616) : bits .and .u64 (x : Int) 1 = ((x % 2 : Nat) : Int) := by
  rw [show (1 : Int) = ((1 : Nat) : Int) from rfl, u64_and_nat x 1 hx (by omega), Nat.and_one_is_mod]

theorem quot_DivMod (a m : Nat) (w : World) (ha : a < 2 ^ (64 * 8)) (hm : m < 2 ^ 256) (hm0 : m ≠ 0) :
    Calls Tryd.prog 119 #[wideV a, numV m] w fun e w' => e = .returned (.tuple #[wideV (a / m), numV (a % m), .int .i64 0]) ∧ Below w.heap.size w w' := by
  unfold wideV numV
  obtain ⟨hD, hL, hz⟩ := dm_start' w a m
  have heq := fun W => eqlNum hm (show 0 < 2 ^ 256 by omega) W
  rw [decide_eq_false hm0] at heq
  unfold dmW at hD hL hz
  have hRa := hD.A.row
  have hRm := hD.M.row
  have hrm := hD.M.eq
  have hRr := hD.R.row
  have hrr := hD.R.eq
  rw [← zeroNum, ← zeroWide] at *
  have hHD := Lib.hid hD
  clear hD
  go_enter Tryd.func119, Tryd.ntmps119
  go_wp2
  clear hRa hRm hrm hRr hrr heq
  rw [zeroNum, zeroWide] at *
  have hD := hHD.out
  clear hHD
  generalize (((((w.alloc (Obj.cells (arrK .u64 8 (wd a)) 154)).alloc (Obj.cells (arrK .u64 4 (wd m)) 41)).alloc (Obj.cells (arrK .u64 8 (wd 0)) 154)).alloc (Obj.cells (arrK .u64 4 (wd 0)) 41)).alloc (Obj.cells (arrK .u64 8 (wd 0)) 154)).alloc (Obj.cells (arrK .u64 4 (wd 0)) 41) = W0 at *
  go_loopw [9] (fun i wr => ∃ s : Nat, i = .int .i64 ((s : Int) - 1) ∧ s ≤ 512 ∧ DmAt wr w.heap.size a m (dmQ a m s) (dmR a m s) ∧ Below w.heap.size w wr) (fun i _ => (intOf i + 1).toNat)
  case atStart =>
    have h0 := dm_start (m := m) ha
    exact ⟨64 * 8, rfl, by omega, by rw [h0.1, h0.2]; exact hD, hL⟩
  case round =>
    clear hD hL hz
    obtain ⟨s, rfl, hs, hD, hL⟩ := hrel
    rcases Nat.eq_zero_or_pos s with rfl | hs0
    · rw [(dm_end a m).1, (dm_end a m).2] at hD
      have hRq := hD.Q.row
      have hRr := hD.R.row
      have hrq := hD.Q.eq
      have hrr := hD.R.eq
      have hOq := hD.Oq
      have hOr := hD.Or
      obtain ⟨Q, hQ⟩ : ∃ Q, Q = a / m := ⟨_, rfl⟩
      obtain ⟨R, hR⟩ : ∃ R, R = a % m := ⟨_, rfl⟩
      rw [← hQ] at hrq
      rw [← hR] at hrr
      have hHQ := Lib.hid hQ
      have hHR := Lib.hid hR
      clear hQ hR hD
      have hcq := arrK_cells .u64 8 (wd Q)
      have hcr := arrK_cells .u64 4 (wd R)
      have s1 : ∀ c, Row (wr.drew.setRow (w.heap.size + 1 + 1) c) (w.heap.size + 1 + 1 + 1) 4 := fun c => (row_setRow_far (by omega)).2 (row_drew.2 hOr)
      have s2 : ∀ c, Row (wr.drew.setRow (w.heap.size + 1 + 1) c) (w.heap.size + 1 + 1 + 1 + 1 + 1) 4 := fun c => (row_setRow_far (by omega)).2 (row_drew.2 hRr)
      have s3 : ∀ c, rowAt (wr.drew.setRow (w.heap.size + 1 + 1) c) (w.heap.size + 1 + 1 + 1 + 1 + 1) = arrK .u64 4 (wd R) := fun c => (rowAt_setRow_far (by omega)).trans hrr
      have s4 : ∀ c, Row (wr.drew.setRow (w.heap.size + 1 + 1 + 1) c) (w.heap.size + 1 + 1) 8 := fun c => (row_setRow_far (by omega)).2 (row_drew.2 hOq)
      have s5 : ∀ c, Row (wr.drew.setRow (w.heap.size + 1 + 1 + 1) c) (w.heap.size + 1 + 1 + 1 + 1) 8 := fun c => (row_setRow_far (by omega)).2 (row_drew.2 hRq)
      have s6 : ∀ c, rowAt (wr.drew.setRow (w.heap.size + 1 + 1 + 1) c) (w.heap.size + 1 + 1 + 1 + 1) = arrK .u64 8 (wd Q) := fun c => (rowAt_setRow_far (by omega)).trans hrq
      go_wp2
      go_region
      go_wp2
      refine ret_cct (p := 4) (q := 5) (s := 6) (ty := 154) (ty2 := 41) (g := w.heap.size + 1 + 1) (g2 := w.heap.size + 1 + 1 + 1) (n := 8) (n2 := 4) rfl Tryd.underlying154 rfl (by kernel_rfl) Tryd.underlying41 rfl (by kernel_rfl) rfl rfl
        ((row_setRow_far (by omega)).2 ((row_setRow_same rfl (row_drew.2 hOq)).2 hcq.1)) ((row_setRow_same rfl (s1 _)).2 hcr.1) rfl ?_
      rw [rowAt_setRow_far (by omega), rowAt_setRow_same (row_drew.2 hOq), rowAt_setRow_same (s1 _), hHQ.out, hHR.out]
      exact ⟨rfl, below_setRow (below_setRow hL.drew (by omega)) (by omega)⟩
    · obtain ⟨i, rfl⟩ : ∃ i, s = i + 1 := ⟨s - 1, by omega⟩
      rw [show (((i + 1 : Nat) : Int) - 1) = (i : Int) by omega]
      have hrm : dmR a m (i + 1) < m := Nat.mod_lt _ (by omega)
      have hdr := Lib.hid (dm_round (a := a) (m := m) (i := i) (by omega))
      obtain ⟨S, hS⟩ : ∃ S, dmR a m (i + 1) * 2 ^ 1 % 2 ^ 256 = S := ⟨_, rfl⟩
      have hS2 := shl_one (dmR a m (i + 1))
      have hbl : abit a i ≤ 1 := by unfold abit; omega
      have hdt := Lib.hid (dm_test hm hrm hbl hS)
      rw [hS] at hS2
      have hS3 : S < 2 ^ 256 := by rw [← hS]; exact Nat.mod_lt _ (Nat.pow_pos (by omega))
      have htop := top_wd (Nat.lt_trans hrm hm)
      have hab := abit_wd a i
      generalize hr : dmR a m (i + 1) = r at *
      generalize hq : dmQ a m (i + 1) = q at *
      have hcr := hD.R.cell (i := 3) (by omega)
      have hR := hD.R.row
      have hRe := hD.R.eq
      have hlt3 := wd_lt r 3
      have hHr := Lib.hid hr
      have hHq := Lib.hid hq
      have hHS := Lib.hid hS
      have hHt := Lib.hid htop
      have hHa := Lib.hid hab
      have hHS2 := Lib.hid hS2
      clear hr hq hS htop hab hS2
      go_wp2_with fail
      refine (limb_Shl r 1 S _ (by omega) hHS.out).mono ?_
      rintro e W1 ⟨rfl, hb1⟩
      unfold numV
      have hR1 := row_below hR hb1 hR.lt
      have hcs := arrK_cells .u64 4 (wd S)
      have hD1 := Lib.hid ((hD.below hb1 (by have := hR.lt; omega)).setR (r' := S))
      have hL1 := Lib.hid (below_setRow (c := arrK .u64 4 (wd S)) (below_step hb1 hL (Nat.le_refl _)) (show w.heap.size ≤ w.heap.size + 1 + 1 + 1 + 1 + 1 by omega))
      clear hb1 hR hRe hD hL hcr hHS
      go_wp2
      have hD := hD1.out
      have hL := hL1.out
      clear hD1 hL1 hR1 hcs
      generalize W1.setRow (w.heap.size + 1 + 1 + 1 + 1 + 1) (arrK .u64 4 (wd S)) = W2 at *
      obtain ⟨t, ht⟩ : ∃ t, t = i / 64 := ⟨_, rfl⟩
      obtain ⟨k, hk⟩ : ∃ k, k = i % 64 := ⟨_, rfl⟩
      have ht8 : t < 8 := by omega
      have hk64 : k < 64 := by omega
      have hqt : Int.tdiv (i : Int) 64 = t := by rw [Int.tdiv_eq_ediv_of_nonneg (by omega)]; omega
      have hkt : Int.tmod (i : Int) 64 = k := by rw [Int.tmod_eq_emod_of_nonneg (by omega)]; omega
      have hqi : (i : Int) / 64 = t := by omega
      have hki : (i : Int) % 64 = k := by omega
      have ht0 : (0 : Int) ≤ t := by omega
      have ht1 : (t : Int) < 8 := by omega
      have hk0 : (0 : Int) ≤ k := by omega
      have hk1 : (k : Int).toNat = k := by omega
      have c0 := hD.R.cell (i := 0) (by omega)
      have f0 := hD.R.row.frozen 0
      have ca := hD.A.cell ht8
      have hla := wd_lt a t
      have hl0 := wd_lt S 0
      rw [← ht, ← hk] at hHa
      have hlow := Lib.hid (low_bit hHS2.out hS3 hbl)
      have hand : bits .and .u64 (((wd a t : Nat) : Int) / 2 ^ k) 1 = ((abit a i : Nat) : Int) := by
        rw [show ((wd a t : Nat) : Int) / 2 ^ k = ((wd a t / 2 ^ k : Nat) : Int) by simp, u64_and1 _ (Nat.lt_of_le_of_lt (Nat.div_le_self _ _) hla), hHa.out]
      have hor : bits .or .u64 (wd S 0 : Nat) ((abit a i : Nat) : Int) = ((wd S 0 + abit a i : Nat) : Int) := by
        rw [u64_or_nat _ _ hl0 (by omega), hlow.out.1]
      have hHand := Lib.hid hand
      have hHor := Lib.hid hor
      have hHtk := Lib.hid (And.intro ht hk)
      clear ht hk hand hor
      go_region
      rw [hHand.out, hHor.out]
      have hD1 := (hD.bitR hlow.out.2.2).drew
      have hL1 := (hL.setCell (p := ⟨w.heap.size + 1 + 1 + 1 + 1 + 1, 0, none⟩) (show w.heap.size ≤ w.heap.size + 1 + 1 + 1 + 1 + 1 by omega) (.int .u64 ((wd S 0 + abit a i : Nat) : Int))).drew
      have hc2 := hlow.out.2.1
      clear hD hL c0 f0 ca hla hl0 hlow hHand hHor hHa hHS2
      generalize (W2.setCell ⟨w.heap.size + 1 + 1 + 1 + 1 + 1, 0, none⟩ (.int .u64 ((wd S 0 + abit a i : Nat) : Int))).drew = W3 at *
      obtain ⟨c, hc⟩ : ∃ c, c = S + abit a i := ⟨_, rfl⟩
      rw [← hc] at hdt hD1 hc2
      have hRr := hD1.R.row
      have hre := hD1.R.eq
      have hRm := hD1.M.row
      have hme := hD1.M.eq
      have hlc : lessN c m ≤ 1 := by unfold lessN; split <;> omega
      have hHc := Lib.hid hc
      clear hc hS3
      go_wp2_with fail
      refine (limb_Sub c m _ hc2 hm).mono ?_
      rintro e W4 ⟨rfl, hb4⟩
      unfold numV
      have hD4 := hD1.below hb4 (by have := hRr.lt; omega)
      have hL4 := below_step hb4 hL1 (Nat.le_refl _)
      have hcl := arrK_cells .u64 4 (wd (subN c m))
      have hRl : Row (W4.alloc (Obj.cells (arrK .u64 4 (wd 0)) 41)) W4.heap.size 4 := (row_new rfl).2 (arrK_size _ _ _)
      have hba := (Below.refl W4.heap.size W4).alloc (Nat.le_refl _) (Obj.cells (arrK .u64 4 (wd (subN c m))) 41)
      have hD5 := hD4.below hba (by have := hD4.R.lt; omega)
      have hL5 := below_step hba hL4 (Nat.le_refl _)
      have hRl5 : Row (W4.alloc (Obj.cells (arrK .u64 4 (wd (subN c m))) 41)) W4.heap.size 4 := (row_new rfl).2 (arrK_size _ _ _)
      have hRr5 := hD5.R.row
      have hD6 := hD5.setR (r' := subN c m)
      have hL6 := below_setRow (c := arrK .u64 4 (wd (subN c m))) hL5 (show w.heap.size ≤ w.heap.size + 1 + 1 + 1 + 1 + 1 by omega)
      have cq := hD6.Q.cell ht8
      have fq := hD6.Q.row.frozen t
      have hlq := wd_lt q t
      have h2k : 2 ^ k < 18446744073709551616 := Nat.lt_of_lt_of_le (Nat.pow_lt_pow_right (by omega) hk64) (by decide)
      rw [← zeroNum] at hRl
      clear hRr hre hRm hme hb4 hD1 hL1 hD4 hL4 hba
      have hw1 : IntKind.u64.wrap ((2 : Int) ^ k) = ((2 ^ k : Nat) : Int) := by
        rw [show (2 : Int) ^ k = ((2 ^ k : Nat) : Int) by simp]
        generalize 2 ^ k = e at h2k ⊢
        rw [IntKind.wrap_u64]; omega
      have hqb := fun p => q_bit q i p
      rw [← hHtk.out.1, ← hHtk.out.2] at hqb
      have hor : bits .or .u64 (wd q t : Nat) ((2 : Int) ^ k) = ((wd q t ||| 2 ^ k : Nat) : Int) := by
        rw [show (2 : Int) ^ k = ((2 ^ k : Nat) : Int) by simp, u64_or_nat _ _ hlq h2k]
      have hHor := Lib.hid hor
      have hD7 := Lib.hid (hD6.bitQ hqb)
      have hL7 := Lib.hid (hL6.setCell (p := ⟨w.heap.size + 1 + 1 + 1 + 1, t, none⟩) (show w.heap.size ≤ w.heap.size + 1 + 1 + 1 + 1 by omega) (.int .u64 ((wd q t ||| 2 ^ k : Nat) : Int)))
      have hHD6 := Lib.hid hD6
      have hHD5 := Lib.hid hD5
      clear hor hqb hD6 hD5 hHtk
      have hT := hHt.out
      clear hHt
      by_cases h256 : 2 ^ 256 ≤ 2 * r
      · rw [if_pos h256] at hT
        have hT' : ((wd r 3 : Nat) : Int) / 9223372036854775808 = 1 := by omega
        have hge := hdt.out.1 h256
        rw [← hge.2] at hdr
        have hHres := Lib.hid (hdr.out.1 hge.1)
        clear hT h256 hge hdr hdt
        go_wp2
        go_round
        case rel => exact ⟨i, rfl, by omega, by rw [hHor.out, hHres.out.1, hHres.out.2]; exact hD7.out, by rw [hHor.out]; exact hL7.out⟩
        case measure => simp [intOf]
      · rw [if_neg h256] at hT
        have hT' : ((wd r 3 : Nat) : Int) / 9223372036854775808 = 0 := by omega
        have hdt2 := hdt.out.2 h256
        clear hdt hT h256
        by_cases hlt : 2 * r + abit a i < m
        · have hx := hdt2.2 hlt
          have hHres := Lib.hid (hdr.out.2 hx.2.1)
          have hrc : c = 2 * r + abit a i := hx.2.2
          rw [← hrc] at hHres
          rw [hx.1]
          clear hdt2 hdr hlt hrc hx
          go_wp2
          go_round
          case rel => exact ⟨i, rfl, by omega, by rw [hHres.out.1, hHres.out.2]; exact hHD5.out, hL5⟩
          case measure => simp [intOf]
        · have hge := hdt2.1 hlt
          rw [← hge.2.2] at hdr
          have hHres := Lib.hid (hdr.out.1 hge.2.1)
          rw [hge.1]
          clear hdt2 hdr hlt hge
          go_wp2
          go_round
          case rel => exact ⟨i, rfl, by omega, by rw [hHor.out, hHres.out.1, hHres.out.2]; exact hD7.out, by rw [hHor.out]; exact hL7.out⟩
          case measure => simp [intOf]
theorem quot_DivMod0 (a : Nat) (w : World) :
    Calls Tryd.prog 119 #[wideV a, numV 0] w fun e w' => e = .returned (.tuple #[wideV 0, numV 0, .int .i64 1]) ∧ Below w.heap.size w w' := by
  unfold wideV numV
  obtain ⟨hD, hL, hz⟩ := dm_start' w a 0
  have heq := fun W => eqlNum (show 0 < 2 ^ 256 by omega) (show 0 < 2 ^ 256 by omega) W
  rw [decide_eq_true rfl] at heq
  unfold dmW at hD hL hz
  have hRa := hD.A.row
  have hRm := hD.M.row
  have hrm := hD.M.eq
  have hRr := hD.R.row
  have hrr := hD.R.eq
  have hRq := hD.Q.row
  have hrq := hD.Q.eq
  have hOq := hD.Oq
  have hOr := hD.Or
  have hcq := arrK_cells .u64 8 (wd 0)
  have hcr := arrK_cells .u64 4 (wd 0)
  have hHD := Lib.hid hD
  clear hD
  rw [← zeroNum, ← zeroWide] at *
  go_enter Tryd.func119, Tryd.ntmps119
  go_wp2
  rw [zeroNum, zeroWide] at *
  generalize (((((w.alloc (Obj.cells (arrK .u64 8 (wd a)) 154)).alloc (Obj.cells (arrK .u64 4 (wd 0)) 41)).alloc (Obj.cells (arrK .u64 8 (wd 0)) 154)).alloc (Obj.cells (arrK .u64 4 (wd 0)) 41)).alloc (Obj.cells (arrK .u64 8 (wd 0)) 154)).alloc (Obj.cells (arrK .u64 4 (wd 0)) 41) = wr at *
  have s1 : ∀ c, Row (wr.drew.setRow (w.heap.size + 1 + 1) c) (w.heap.size + 1 + 1 + 1) 4 := fun c => (row_setRow_far (by omega)).2 (row_drew.2 hOr)
  have s2 : ∀ c, Row (wr.drew.setRow (w.heap.size + 1 + 1) c) (w.heap.size + 1 + 1 + 1 + 1 + 1) 4 := fun c => (row_setRow_far (by omega)).2 (row_drew.2 hRr)
  have s3 : ∀ c, rowAt (wr.drew.setRow (w.heap.size + 1 + 1) c) (w.heap.size + 1 + 1 + 1 + 1 + 1) = arrK .u64 4 (wd 0) := fun c => (rowAt_setRow_far (by omega)).trans hrr
  have s4 : ∀ c, Row (wr.drew.setRow (w.heap.size + 1 + 1 + 1) c) (w.heap.size + 1 + 1) 8 := fun c => (row_setRow_far (by omega)).2 (row_drew.2 hOq)
  have s5 : ∀ c, Row (wr.drew.setRow (w.heap.size + 1 + 1 + 1) c) (w.heap.size + 1 + 1 + 1 + 1) 8 := fun c => (row_setRow_far (by omega)).2 (row_drew.2 hRq)
  have s6 : ∀ c, rowAt (wr.drew.setRow (w.heap.size + 1 + 1 + 1) c) (w.heap.size + 1 + 1 + 1 + 1) = arrK .u64 8 (wd 0) := fun c => (rowAt_setRow_far (by omega)).trans hrq
  go_region
  go_wp2
  refine ret_cct (p := 4) (q := 5) (s := 6) (ty := 154) (ty2 := 41) (g := w.heap.size + 1 + 1) (g2 := w.heap.size + 1 + 1 + 1) (n := 8) (n2 := 4) rfl Tryd.underlying154 rfl (by kernel_rfl) Tryd.underlying41 rfl (by kernel_rfl) rfl rfl
    ((row_setRow_far (by omega)).2 ((row_setRow_same rfl (row_drew.2 hOq)).2 hcq.1)) ((row_setRow_same rfl (s1 _)).2 hcr.1) rfl ?_
  rw [rowAt_setRow_far (by omega), rowAt_setRow_same (row_drew.2 hOq), rowAt_setRow_same (s1 _)]
  exact ⟨by rw [← zeroNum, ← zeroWide]; rfl, below_setRow (below_setRow hL.drew (by omega)) (by omega)⟩
theorem quot_ModAux (a m Q R c : Nat) (w : World) (hc : ∀ W, Calls Tryd.prog 119 #[wideV a, numV m] W fun e w' => e = .returned (.tuple #[wideV Q, numV R, .int .i64 c]) ∧ Below W.heap.size W w') :
    Calls Tryd.prog 110 #[wideV a, numV m] w fun e w' => e = .returned (.tuple #[numV R, .int .i64 c]) ∧ Below w.heap.size w w' := by
  have hHc := Lib.hid hc
  clear hc
  unfold wideV numV at *
  have hL : Below w.heap.size w (((w.alloc (Obj.cells (arrK .u64 8 (wd a)) 154)).alloc (Obj.cells (arrK .u64 4 (wd m)) 41)).alloc (Obj.cells (arrK .u64 4 (wd 0)) 41)) := by go_grown
  have hRa : Row (((w.alloc (Obj.cells (arrK .u64 8 (wd a)) 154)).alloc (Obj.cells (arrK .u64 4 (wd m)) 41)).alloc (Obj.cells (arrK .u64 4 (wd 0)) 41)) w.heap.size 8 := (row_old (by simp <;> omega)).2 ((row_old (by simp)).2 ((row_new rfl).2 (arrK_size _ _ _)))
  have hra : rowAt (((w.alloc (Obj.cells (arrK .u64 8 (wd a)) 154)).alloc (Obj.cells (arrK .u64 4 (wd m)) 41)).alloc (Obj.cells (arrK .u64 4 (wd 0)) 41)) w.heap.size = arrK .u64 8 (wd a) := (rowAt_old (by simp <;> omega)).trans ((rowAt_old (by simp)).trans (rowAt_new rfl))
  have hRm : Row (((w.alloc (Obj.cells (arrK .u64 8 (wd a)) 154)).alloc (Obj.cells (arrK .u64 4 (wd m)) 41)).alloc (Obj.cells (arrK .u64 4 (wd 0)) 41)) (w.heap.size + 1) 4 := (row_old (by simp)).2 ((row_new (by simp)).2 (arrK_size _ _ _))
  have hrm : rowAt (((w.alloc (Obj.cells (arrK .u64 8 (wd a)) 154)).alloc (Obj.cells (arrK .u64 4 (wd m)) 41)).alloc (Obj.cells (arrK .u64 4 (wd 0)) 41)) (w.heap.size + 1) = arrK .u64 4 (wd m) := (rowAt_old (by simp)).trans (rowAt_new (by simp))
  have hRo : Row (((w.alloc (Obj.cells (arrK .u64 8 (wd a)) 154)).alloc (Obj.cells (arrK .u64 4 (wd m)) 41)).alloc (Obj.cells (arrK .u64 4 (wd 0)) 41)) (w.heap.size + 1 + 1) 4 := (row_new (by simp)).2 (arrK_size _ _ _)
  rw [← zeroNum] at *
  go_enter Tryd.func110, Tryd.ntmps110
  go_wp2_with fail
  rw [zeroNum] at *
  generalize (((w.alloc (Obj.cells (arrK .u64 8 (wd a)) 154)).alloc (Obj.cells (arrK .u64 4 (wd m)) 41)).alloc (Obj.cells (arrK .u64 4 (wd 0)) 41)) = W0 at *
  refine (hHc.out _).mono ?_
  rintro e W1 ⟨rfl, hb1⟩
  have hR1 := row_below hRo hb1 hRo.lt
  have hL1 := below_step hb1 hL (Nat.le_refl _)
  have hlt := hR1.lt
  have hcq := arrK_cells .u64 8 (wd Q)
  have hcr := arrK_cells .u64 4 (wd R)
  have hX1 : Row ((W1.alloc (Obj.cells (arrK .u64 8 (wd 0)) 154)).alloc (Obj.cells (arrK .u64 4 (wd 0)) 41)) W1.heap.size 8 := (row_old (by simp)).2 ((row_new rfl).2 (arrK_size _ _ _))
  have hX2 : Row ((W1.alloc (Obj.cells (arrK .u64 8 (wd 0)) 154)).alloc (Obj.cells (arrK .u64 4 (wd 0)) 41)) (W1.heap.size + 1) 4 := (row_new (by simp)).2 (arrK_size _ _ _)
  have hX3 : Row ((W1.alloc (Obj.cells (arrK .u64 8 (wd 0)) 154)).alloc (Obj.cells (arrK .u64 4 (wd 0)) 41)) (w.heap.size + 1 + 1) 4 := (row_old (by simp; omega)).2 ((row_old hlt).2 hR1)
  have hL2 := (hL1.alloc (by omega) (Obj.cells (arrK .u64 8 (wd 0)) 154)).alloc (by simp; omega) (Obj.cells (arrK .u64 4 (wd 0)) 41)
  rw [← zeroNum, ← zeroWide] at *
  have hY2 := (row_setRow_far (c' := arrK .u64 8 (wd Q)) (show W1.heap.size + 1 ≠ W1.heap.size by omega)).2 hX2
  have hY3 := (row_setRow_far (c' := arrK .u64 8 (wd Q)) (show w.heap.size + 1 + 1 ≠ W1.heap.size by omega)).2 hX3
  have hZ2 := (row_setRow_same (c' := arrK .u64 4 (wd R)) rfl hY2).2 hcr.1
  have hz2 := rowAt_setRow_same (c := arrK .u64 4 (wd R)) hY2
  have hZ3 := (row_setRow_far (c' := arrK .u64 4 (wd R)) (show w.heap.size + 1 + 1 ≠ W1.heap.size + 1 by omega)).2 hY3
  have hL3 := Lib.hid (below_setRow (c := arrK .u64 4 (wd R)) (below_setRow (c := arrK .u64 8 (wd Q)) hL2 (show w.heap.size ≤ W1.heap.size by omega)) (show w.heap.size ≤ W1.heap.size + 1 by omega))
  clear hRa hra hRm hrm hRo hb1 hL hHc hL1 hL2 hX2 hX3
  go_wp2
  exact ret_stored2 (p := 4) (q := 5) (ty := 41) (g := w.heap.size + 1 + 1) (n := 4) (c := arrK .u64 4 (wd R)) rfl Tryd.underlying41 rfl (by kernel_rfl) rfl hZ3 hcr.1 rfl ⟨rfl, below_setRow hL3.out (by omega)⟩
theorem quot_Mod (a m : Nat) (w : World) (ha : a < 2 ^ (64 * 8)) (hm : m < 2 ^ 256) (hm0 : m ≠ 0) :
    Calls Tryd.prog 110 #[wideV a, numV m] w fun e w' => e = .returned (.tuple #[numV (a % m), .int .i64 0]) ∧ Below w.heap.size w w' :=
  quot_ModAux a m (a / m) (a % m) 0 w fun W => quot_DivMod a m W ha hm hm0
theorem quot_Mod0 (a : Nat) (w : World) :
    Calls Tryd.prog 110 #[wideV a, numV 0] w fun e w' => e = .returned (.tuple #[numV 0, .int .i64 1]) ∧ Below w.heap.size w w' :=
  quot_ModAux a 0 0 0 1 w fun W => quot_DivMod0 a W

end Go.Proofs.YtdlmamnnamlleaaDoor
