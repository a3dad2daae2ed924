/- Contracts of the document's numbers: trim, digit, Digits, OfNum, Plus, Times and the like. -/
import Derived.Test.YtdlmamnnamlleaaDoorFrame
import Derived.Test.YtdlmamnnamlleaaDoorOwn
import Derived.Test.YtdlmamnnamlleaaDoorArrK
import Derived.Test.YtdlmamnnamlleaaDoorNumP
import Derived.Outline
import Derived.Handy
import Derived.Lib.Hide
import Derived.Deep.DeepMust
import Derived.Deep.RegionHeld3
import Derived.Deep.RegionWith
namespace Go.Proofs.YtdlmamnnamlleaaDoor
open Go.ChangeShapes Go.WideShapes Go.ChangeAt Go.RowKit
set_option maxHeartbeats 1000000
set_option maxRecDepth 100000

def lenOf : Value → Nat
  | .slice _ n _ => n
  | _ => 0
abbrev i64v (d : Nat) : Value := .int .i64 (d : Int)
def digV (l : List Nat) : List Value := l.map i64v
theorem digV_len (l : List Nat) : (digV l).length = l.length := by simp [digV]
theorem digV_append (a b : List Nat) : digV (a ++ b) = digV a ++ digV b := by simp [digV]
theorem digV_take (a : List Nat) (k : Nat) : digV (a.take k) = (digV a).take k := by simp [digV]
theorem digV_one (l : List Nat) : ∀ u ∈ digV l, u.oneCell' = true := by
  intro u hu
  obtain ⟨d, -, rfl⟩ := List.mem_map.1 hu
  rfl
theorem digV_at {w : World} {B : Nat} {A : Option Addr} {l : List Nat} (h : Rd w B A (digV l)) {k : Nat} (hk : k < l.length) : ∃ ad, A = some ad ∧ ad.block < B ∧ w.cell? (ad.add k) = some (.int .i64 (l[k] : Nat)) := by
  obtain ⟨ad, e, hb, hc⟩ := h.at_ (k := k) (by rw [digV_len]; exact hk)
  exact ⟨ad, e, hb, by rw [hc]; simp [digV]⟩

/-- A slice of digits. -/
structure Ds (w : World) (A : Option Addr) (l : List Nat) (c : Nat) : Prop where
  rd : Rd w w.heap.size A (digV l)
  sm : Sm l
  le : l.length ≤ c
  mx : c ≤ 9223372036854775807
theorem Ds.below {w w' : World} {A : Option Addr} {l : List Nat} {c B : Nat} (h : Ds w A l c) (hb : Below B w w') (hB : w.heap.size ≤ B) : Ds w' A l c :=
  ⟨fun j u hu => by
    obtain ⟨ad, e, hl, hc⟩ := h.rd j u hu
    exact ⟨ad, e, Nat.lt_of_lt_of_le hl hb.size, (hb.cell (p := ad.add j) (by rw [addr_block]; omega)).trans hc⟩, h.sm, h.le, h.mx⟩
/-- A value that is a number: its digits, none 0 at the end. -/
def IsN (w : World) (v : Value) (n : Nat) : Prop := ∃ A l c, v = .slice A l.length c ∧ Ds w A l c ∧ Dg l n
def RetN (n : Nat) (w : World) (e : Ending) (w' : World) : Prop := ∃ v, e = .returned v ∧ IsN w' v n ∧ Below w.heap.size w w'

def TrimR (A : Option Addr) (l : List Nat) (c : Nat) (w : World) (e : Ending) (w' : World) : Prop := ∃ k, k ≤ l.length ∧ e = .returned (.slice A k c) ∧ Dg (l.take k) (val l) ∧ w = w'

theorem SI : SlT Tryd.prog 89 3 1 8 := SlT.mk' Tryd.underlying89 (by kernel_rfl) (by omega)

theorem ref_trim (A : Option Addr) (l : List Nat) (c : Nat) (w : World) (h : Ds w A l c) :
    Calls Tryd.prog 67 #[.slice A l.length c] w (TrimR A l c w) := by
  have hcl := h.le
  have hmx := h.mx
  go_enter Tryd.func67, Tryd.ntmps67
  go_wp2
  go_loop [0] (fun x => ∃ k : Nat, k ≤ l.length ∧ x = .slice A k c ∧ Hid (val (l.take k) = val l)) (fun x => lenOf x)
  case atStart => exact ⟨l.length, Nat.le_refl _, rfl, Lib.hid (by rw [List.take_length])⟩
  case round =>
    obtain ⟨k, hk, rfl, hv⟩ := hrel
    by_cases h0 : k = 0
    · subst h0
      go_wp2
      go_ret
      exact ⟨0, by omega, rfl, trim_end h.sm hv.out (by omega) (.inl rfl), rfl⟩
    · obtain ⟨ad, rfl, hb, hc⟩ := digV_at h.rd (k := k - 1) (by omega)
      have hk0 : (0 : Int) < k := by omega
      have hk1 : ((k : Int) - 1).toNat = k - 1 := by omega
      by_cases hz : l[k - 1] = 0
      · have hz' : (((l[k - 1] : Nat) : Int) == 0) = true := by simp [hz]
        have hsl := sl_to SI (some ad) k c (k - 1) ((k : Int) - 1) (by omega) (by omega) hk1
        have hts := Lib.hid (trim_step (k := k - 1) (by omega) hz)
        clear hz
        go_wp2
        go_round
        case rel => exact ⟨k - 1, by omega, rfl, Lib.hid (by rw [← hv.out, ← hts.out, show k - 1 + 1 = k by omega])⟩
        case measure => simp [lenOf]; omega
      · have hz' : (((l[k - 1] : Nat) : Int) == 0) = false := by simp; omega
        have hne : l[k - 1]? ≠ some 0 := by rw [List.getElem?_eq_getElem (by omega)]; simpa using hz
        have hH := Lib.hid hne
        clear hne
        replace hz := Lib.hid hz
        go_wp2
        go_ret
        exact ⟨k, hk, rfl, trim_end h.sm hv.out hk (.inr hH.out), rfl⟩

def digZ (l : List Nat) (i : Int) : Nat := if i < 0 then 0 else l[i.toNat]?.getD 0
theorem digZ_nat (l : List Nat) (k : Nat) : digZ l k = l[k]?.getD 0 := by unfold digZ; rw [if_neg (by omega)]; rfl
theorem digZ_lt {l : List Nat} (h : Sm l) (i : Int) : digZ l i < 65536 := by
  unfold digZ; split
  · omega
  · exact h.at_ _
theorem ref_digit (A : Option Addr) (l : List Nat) (c : Nat) (i : Int) (w : World) (h : Ds w A l c) :
    Calls Tryd.prog 66 #[.slice A l.length c, .int .i64 i] w fun e w' => e = .returned (.int .i64 (digZ l i : Nat)) ∧ w = w' := by
  have hcl := h.le
  have hmx := h.mx
  by_cases h0 : i < 0
  · go_enter Tryd.func66, Tryd.ntmps66
    have hd : decide (i < 0) = true := by simpa using h0
    go_wp2
    go_ret
    exact ⟨ret_int (by unfold digZ; rw [if_pos (of_decide_eq_true hd)]; rfl), rfl⟩
  · have hd : decide (i < 0) = false := by simpa using h0
    by_cases h1 : i.toNat < l.length
    · obtain ⟨ad, rfl, hb, hc⟩ := digV_at h.rd h1
      have hd2 : decide ((l.length : Int) ≤ i) = false := by simp; omega
      have e : l[i.toNat]?.getD 0 = l[i.toNat] := by rw [List.getElem?_eq_getElem h1]; rfl
      have hE := Lib.hid e
      clear e
      go_enter Tryd.func66, Tryd.ntmps66
      go_wp2
      go_ret
      exact ⟨ret_int (by unfold digZ; rw [if_neg (of_decide_eq_false hd), hE.out]), rfl⟩
    · have hd2 : decide ((l.length : Int) ≤ i) = true := by simp; omega
      have e : l[i.toNat]?.getD 0 = 0 := by rw [List.getElem?_eq_none (by omega)]; rfl
      have hE := Lib.hid e
      clear e
      go_enter Tryd.func66, Tryd.ntmps66
      go_wp2
      go_ret
      exact ⟨ret_int (by unfold digZ; rw [if_neg (of_decide_eq_false hd), hE.out]; rfl), rfl⟩

theorem ds_own {w0 W : World} {B : Nat} {e : TypeId} {A : Option Addr} {n c : Nat} {l : List Nat} (h : Own w0 B e (.slice A n c) (digV l) W) (hs : Sm l) : n = l.length ∧ Ds W A l c := by
  obtain ⟨A', c', e1, h2, h3⟩ := h.form
  injection e1 with e1 e2 e3
  rw [digV_len] at e2 h2
  exact ⟨e2, h.rd, hs, by rw [e3]; exact h2, by rw [e3]; exact h3⟩
/-- What trim leaves of a slice of the call's own. -/
theorem isN_trim {W : World} {A : Option Addr} {l : List Nat} {c k : Nat} (h : Ds W A l c) (hk : k ≤ l.length) (hg : Dg (l.take k) (val l)) : IsN W (.slice A k c) (val l) :=
  ⟨A, l.take k, c, by rw [List.length_take, Nat.min_eq_left hk], ⟨by rw [digV_take]; exact h.rd.take, h.sm.take k, by rw [List.length_take, Nat.min_eq_left hk]; exact Nat.le_trans hk h.le, h.mx⟩, hg⟩
theorem digV_snoc (l : List Nat) (d : Nat) : digV (l ++ [d]) = digV l ++ [.int .i64 (d : Int)] := by simp [digV]

theorem arrK_rd {w : World} {B : Nat} {A : Option Addr} {k : IntKind} {n : Nat} {f : Nat → Nat} (h : Rd w B A (arrK k n f).toList) {i : Nat} (hi : i < n) : ∃ ad, A = some ad ∧ ad.block < B ∧ w.cell? (ad.add i) = some (.int k (f i)) :=
  h i _ (by rw [Array.getElem?_toList, arrK_at hi])

theorem dig_step {f : Nat → Nat} {k j x : Nat} {L : List Nat} (hL : L.length = 4 * k + j) (hv : val L = wval f k + 2 ^ (64 * k) * (f k % 65536 ^ j)) (hx : x = f k / 65536 ^ j) :
    val (L ++ [x % 65536]) = wval f k + 2 ^ (64 * k) * (f k % 65536 ^ (j + 1)) := by
  have h1 : 65536 ^ L.length = 2 ^ (64 * k) * 65536 ^ j := by
    rw [hL, Nat.pow_add, show (65536 : Nat) = 2 ^ 16 from rfl, ← Nat.pow_mul]
    congr 2; omega
  rw [val_snoc, hv, h1, hx, Nat.pow_succ, Nat.mod_mul, Nat.mul_add, Nat.mul_assoc, Nat.add_assoc]
theorem dig_end {f : Nat → Nat} {k : Nat} {L : List Nat} (hf : f k < 18446744073709551616) (hv : val L = wval f k + 2 ^ (64 * k) * (f k % 65536 ^ 4)) : val L = wval f (k + 1) := by
  rw [hv, Nat.mod_eq_of_lt (by simpa using hf)]; rfl

theorem ref_Digits (A : Option Addr) (m c : Nat) (f : Nat → Nat) (w : World) (h : Rd w w.heap.size A (arrK .u64 m f).toList) (hm : m ≤ 1000000) (hmc : m ≤ c) (hc : c ≤ 9223372036854775807) (hf : ∀ i < m, f i < 18446744073709551616) :
    Calls Tryd.prog 65 #[.slice A m c] w (RetN (wval f m) w) := by
  go_enter Tryd.func65, Tryd.ntmps65
  go_wp2
  go_loopw [3, 8] (fun v i wr => ∃ (k : Nat) (L : List Nat), k ≤ m ∧ i = .int .i64 k ∧ Own w w.heap.size 3 v (digV L) wr ∧ L.length ≤ 4 * k ∧ 4 * k ≤ L.length ∧ Hid (Sm L ∧ val L = wval f k)) (fun _ i _ => m - (intOf i).toNat)
  case atStart => exact ⟨0, [], by omega, rfl, Own.start _ _, by simp, by simp, Sm.nil, rfl⟩
  case round =>
    obtain ⟨k, L, hk, rfl, hO, hl1, hl2, hH⟩ := hrel
    by_cases hlt : k < m
    · obtain ⟨ad, rfl, hb, hcl⟩ := arrK_rd (h.kp (kp_of_below hO.bel)) hlt
      have hfk := hf k hlt
      go_wp2
      obtain ⟨wo, rfl⟩ : ∃ wo : World, wo = wr := ⟨_, rfl⟩
      go_loopw [3, 5, 12] (fun v x i wr => ∃ (j : Nat) (L : List Nat) (x' : Nat), j ≤ 4 ∧ i = .int .i64 j ∧ x = .int .u64 x' ∧ x' < 18446744073709551616 ∧ Own w w.heap.size 3 v (digV L) wr ∧ L.length ≤ 4 * k + j ∧ 4 * k + j ≤ L.length ∧ Hid (x' = f k / 65536 ^ j ∧ Sm L ∧ val L = wval f k + 2 ^ (64 * k) * (f k % 65536 ^ j))) (fun _ _ i _ => 4 - (intOf i).toNat)
      case atStart => exact ⟨0, L, f k, by omega, rfl, rfl, hfk, hO, by omega, by omega, by simp, hH.out.1, by rw [hH.out.2]; simp [Nat.mod_one]⟩
      case round =>
        obtain ⟨j, L, x, hj, rfl, rfl, hx, hO, hl1, hl2, hH⟩ := hrel
        by_cases hj4 : j = 4
        · subst hj4
          go_wp2
          go_roundw
          case rel => exact ⟨k + 1, L, by omega, by go_num, hO, by omega, by omega, hH.out.2.1, dig_end hfk hH.out.2.2⟩
          case measure => simp [intOf]; omega
        · go_wp2_with (at_builtin; refine wpList_own1 (o := ⟨some 19, _, _, _, _, _⟩) rfl (.tmp 14) (.tmp 18) 89 rfl SI rfl hO (.int .i64 ((x : Int) % 65536)) rfl rfl (by rw [digV_len]; unfold maxLen; omega) (by rw [digV_len]; omega) ?_; intro v1 w1 hO1 hg1 hat1; clear hg1 hat1)
          go_roundw
          case rel => exact ⟨j + 1, L ++ [x % 65536], x / 65536, by omega, by go_num, by go_num, by omega, by rw [digV_snoc]; exact hO1, by simp; omega, by simp; omega, by rw [hH.out.1, Nat.div_div_eq_div_mul, Nat.pow_succ], hH.out.2.1.append (Sm.one (Nat.mod_lt _ (by omega))), dig_step (by omega) hH.out.2.2 hH.out.1⟩
          case measure => simp [intOf]; omega
    · obtain rfl : k = m := by omega
      obtain ⟨A', c', rfl, -, -⟩ := hO.form
      obtain ⟨hn, hD⟩ := ds_own hO hH.out.1
      have hb := hO.bel
      rw [hn]
      go_wp2_with (go_at_call 67; refine (ref_trim A' L c' _ hD).mono ?_; rintro e w' ⟨q, hq, rfl, hg, rfl⟩)
      go_ret
      exact ⟨_, rfl, hH.out.2 ▸ isN_trim hD hq hg, hb⟩

/-! ### Numbers of words -/
def numV (n : Nat) : Value := .agg (arrK .u64 4 (wd n))
def wideV (n : Nat) : Value := .agg (arrK .u64 8 (wd n))
theorem arrK4 (k : IntKind) (f : Nat → Nat) : #[Value.int k (f 0), Value.int k (f 1), Value.int k (f 2), Value.int k (f 3)] = arrK k 4 f :=
  arrK_of rfl fun i hi => by rcases (by omega : i = 0 ∨ i = 1 ∨ i = 2 ∨ i = 3) with rfl | rfl | rfl | rfl <;> rfl
theorem arrK8 (k : IntKind) (f : Nat → Nat) : #[Value.int k (f 0), Value.int k (f 1), Value.int k (f 2), Value.int k (f 3), Value.int k (f 4), Value.int k (f 5), Value.int k (f 6), Value.int k (f 7)] = arrK k 8 f :=
  arrK_of rfl fun i hi => by rcases (by omega : i = 0 ∨ i = 1 ∨ i = 2 ∨ i = 3 ∨ i = 4 ∨ i = 5 ∨ i = 6 ∨ i = 7) with rfl | rfl | rfl | rfl | rfl | rfl | rfl | rfl <;> rfl

theorem ref_OfNum (n : Nat) (w : World) (hn : n < 2 ^ 256) :
    Calls Tryd.prog 39 #[numV n] w (RetN n w) := by
  have hb := arrK_cells .u64 4 (wd n)
  have hc : ∀ i < 4, (w.alloc (Obj.cells (arrK .u64 4 (wd n)) 41)).cell? ⟨w.heap.size, i, none⟩ = some (.int .u64 (wd n i)) := fun i hi => by
    have hR : Row (w.alloc (Obj.cells (arrK .u64 4 (wd n)) 41)) w.heap.size 4 := (row_new rfl).2 hb.1
    rw [hR.cell, rowAt_new rfl, arrK_at hi]
  have h0 := hc 0 (by omega)
  have h1 := hc 1 (by omega)
  have h2 := hc 2 (by omega)
  have h3 := hc 3 (by omega)
  have hr : Rd ((w.alloc (Obj.cells (arrK .u64 4 (wd n)) 41)).alloc (Obj.cells #[Value.int IntKind.u64 (wd n 0 : Nat), Value.int IntKind.u64 (wd n 1 : Nat), Value.int IntKind.u64 (wd n 2 : Nat), Value.int IntKind.u64 (wd n 3 : Nat)] 39)) ((w.alloc (Obj.cells (arrK .u64 4 (wd n)) 41)).alloc (Obj.cells #[Value.int IntKind.u64 (wd n 0 : Nat), Value.int IntKind.u64 (wd n 1 : Nat), Value.int IntKind.u64 (wd n 2 : Nat), Value.int IntKind.u64 (wd n 3 : Nat)] 39)).heap.size (some ⟨w.heap.size + 1, 0, none⟩) (arrK .u64 4 (wd n)).toList := by
    rw [← arrK4]; exact Rd.of_blk (blk_new _ _ (by simp)) (by simp)
  have hB : Below w.heap.size w ((w.alloc (Obj.cells (arrK .u64 4 (wd n)) 41)).alloc (Obj.cells #[Value.int IntKind.u64 (wd n 0 : Nat), Value.int IntKind.u64 (wd n 1 : Nat), Value.int IntKind.u64 (wd n 2 : Nat), Value.int IntKind.u64 (wd n 3 : Nat)] 39)) := by go_grown
  have hv : wval (wd n) 4 = n := by rw [wval_wd]; exact Nat.mod_eq_of_lt hn
  have hHv := Lib.hid hv
  clear hc hv
  unfold numV
  go_enter Tryd.func39, Tryd.ntmps39
  go_wp2_with fail
  refine (ref_Digits _ 4 4 (wd n) _ hr (by omega) (by omega) (by omega) (fun i _ => wd_lt n i)).mono ?_
  rintro e w' ⟨v, rfl, hN, hb'⟩
  rw [hHv.out] at hN
  have hB' := hB.trans (hb'.mono (by simp; omega))
  clear hb' hB hr
  go_wp2
  go_ret
  exact ⟨v, rfl, hN, hB'⟩
/-! words: the digits from the highest on. -/
def wD (l : List Nat) (s q : Nat) : Nat := val ((l.drop (max s (4 * q))).take (4 * q + 4 - max s (4 * q)))
theorem wD_end {l : List Nat} (h : Sm l) (q : Nat) : wD l 0 q = wd (val l) q := by
  unfold wD wd
  rw [Nat.zero_max, val_take (h.drop _), val_drop h, show 4 * q + 4 - 4 * q = 4 by omega, show (65536 : Nat) ^ 4 = 2 ^ 64 from rfl, show (65536 : Nat) = 2 ^ 16 from rfl, ← Nat.pow_mul]
  congr 3; omega
theorem wD_top {l : List Nat} {s : Nat} (h : l.length ≤ s) (q : Nat) : wD l s q = 0 := by
  unfold wD
  rw [List.drop_of_length_le (by omega)]; simp [val]
theorem wD_step {l : List Nat} {i q : Nat} (hi : i < l.length) (hq : i / 4 = q) : wD l i q = l[i] + 65536 * wD l (i + 1) q := by
  unfold wD
  rw [show max i (4 * q) = i by omega, show max (i + 1) (4 * q) = i + 1 by omega, List.drop_eq_getElem_cons hi, show 4 * q + 4 - i = (4 * q + 4 - (i + 1)) + 1 by omega, List.take_succ_cons]
  rfl
theorem wD_else {l : List Nat} {i q : Nat} (hq : i / 4 ≠ q) : wD l (i + 1) q = wD l i q := by
  unfold wD
  rcases Nat.lt_or_ge i (4 * q) with h | h
  · rw [show max (i + 1) (4 * q) = 4 * q by omega, show max i (4 * q) = 4 * q by omega]
  · rw [show 4 * q + 4 - max (i + 1) (4 * q) = 0 by omega, show 4 * q + 4 - max i (4 * q) = 0 by omega]; simp
theorem wD_lt {l : List Nat} (h : Sm l) (s q : Nat) : wD l s q < 65536 ^ (4 * q + 4 - max s (4 * q)) := by
  have h1 := val_lt ((h.drop (max s (4 * q))).take (4 * q + 4 - max s (4 * q)))
  exact Nat.lt_of_lt_of_le h1 (Nat.pow_le_pow_right (by omega) (by rw [List.length_take]; omega))

def RetW (n m : Nat) (w : World) (e : Ending) (w' : World) : Prop := ∃ g, e = .returned (.slice (some ⟨g, 0, none⟩) m m) ∧ Row w' g m ∧ rowAt w' g = arrK .u64 m (wd n) ∧ g < w'.heap.size ∧ Below w.heap.size w w'

theorem made_arrK (k : IntKind) (n : Nat) : madeCells #[Value.int k 0] n = arrK k n fun _ => 0 :=
  arrK_of (by rw [size_madeCells]) fun i hi => by simp [madeCells, hi, Nat.mod_one]

theorem ref_words (A : Option Addr) (l : List Nat) (c m : Nat) (w : World) (h : Ds w A l c) (hm : m ≤ 8) (hm0 : 0 < m) :
    Calls Tryd.prog 69 #[.slice A l.length c, .int .i64 m] w (RetW (val l) m w) := by
  have hcl := h.le
  have hmx := h.mx
  have hmk := run_make_row' (P := Tryd.prog) 132 39 (.int .u64 0) 8 Tryd.underlying132 (by kernel_rfl) rfl .i64 .i64 m (by omega) (by omega)
  rw [made_arrK] at hmk
  go_enter Tryd.func69, Tryd.ntmps69
  have hR0 : Row (w.alloc (Obj.cells (arrK .u64 m fun _ => 0) 39)) w.heap.size m := (row_new rfl).2 (arrK_size _ _ _)
  have hr0 : rowAt (w.alloc (Obj.cells (arrK .u64 m fun _ => 0) 39)) w.heap.size = arrK .u64 m (wD l l.length) := by rw [rowAt_new rfl]; exact arrK_congr fun q _ => (wD_top (Nat.le_refl _) q).symm
  have hL0 : Below w.heap.size w (w.alloc (Obj.cells (arrK .u64 m fun _ => 0) 39)) := by go_grown
  go_wp2
  generalize w.alloc (Obj.cells (arrK .u64 m fun _ => 0) 39) = W0 at *
  go_loopw [6] (fun i wr => ∃ s : Nat, i = .int .i64 ((s : Int) - 1) ∧ s ≤ l.length ∧ Row wr w.heap.size m ∧ rowAt wr w.heap.size = arrK .u64 m (wD l s) ∧ Below w.heap.size w wr) (fun i _ => (intOf i + 1).toNat)
  case atStart => exact ⟨l.length, rfl, by omega, hR0, hr0, hL0⟩
  case round =>
    obtain ⟨s, rfl, hs, hR, hr, hL⟩ := hrel
    rcases Nat.eq_zero_or_pos s with rfl | hs0
    · go_wp2
      go_ret
      exact ⟨_, rfl, hR, by rw [hr]; exact arrK_congr fun q _ => wD_end h.sm q, hR.lt, hL⟩
    · obtain ⟨i, rfl⟩ : ∃ i, s = i + 1 := ⟨s - 1, by omega⟩
      rw [show (((i + 1 : Nat) : Int) - 1) = (i : Int) by omega]
      by_cases hi4 : i < 4 * m
      · obtain ⟨ad, rfl, hb, hc⟩ := digV_at (h.below hL (Nat.le_refl _)).rd (show i < l.length by omega)
        obtain ⟨q, hq⟩ : ∃ q, q = i / 4 := ⟨_, rfl⟩
        have hqm : q < m := by omega
        have hc2 : wr.cell? ⟨w.heap.size, q, none⟩ = some (.int .u64 (wD l (i + 1) q : Nat)) := by rw [hR.cell, hr, arrK_at hqm]
        have hf := hR.frozen q
        have hst := wD_step (show i < l.length by omega) hq.symm
        have hel : ∀ p, p ≠ q → wD l (i + 1) p = wD l i p := fun p hp => wD_else (by omega)
        have hlt := wD_lt h.sm (i + 1) q
        have hlt2 : wD l (i + 1) q < 281474976710656 := Nat.lt_of_lt_of_le hlt (Nat.le_trans (Nat.pow_le_pow_right (by omega) (show 4 * q + 4 - max (i + 1) (4 * q) ≤ 3 by omega)) (by decide))
        have hd := h.sm l[i] (List.getElem_mem _)
        have hqi : Int.tdiv (i : Int) 4 = q := by rw [Int.tdiv_eq_ediv_of_nonneg (by omega)]; omega
        have hqi2 : (i : Int) / 4 = q := by omega
        have hup : arrK .u64 m (upd (wD l (i + 1)) q (l[i] + 65536 * wD l (i + 1) q)) = arrK .u64 m (wD l i) := arrK_congr fun p _ => by
          unfold upd
          by_cases hp : p = q
          · subst hp; rw [if_pos rfl, hst]
          · rw [if_neg hp, hel p hp]
        have hHup := Lib.hid hup
        have hHr := Lib.hid hr
        generalize hX : wD l (i + 1) q = X at *
        generalize hD : l[i] = d at *
        have hw1 : IntKind.u64.wrap ((X : Int) * 65536) = (X : Int) * 65536 := by rw [IntKind.wrap_u64]; omega
        have hw2 : IntKind.u64.wrap ((X : Int) * 65536 + d) = (X : Int) * 65536 + d := by rw [IntKind.wrap_u64]; omega
        have hq1 : (0 : Int) ≤ q := by omega
        have hq2 : (q : Int) < m := by omega
        clear hq hst hel hlt hX hD hup hr
        go_wp2
        go_region
        go_wp2
        go_round
        case rel => exact ⟨i, by go_num, by omega, row_setCell.2 hR, by rw [rowAt_drew, rowAt_setCell_same, hHr.out, show ((X : Int) * 65536 + d) = ((d + 65536 * X : Nat) : Int) by omega, arrK_set, hHup.out], (hL.setCell (Nat.le_refl _) _).drew⟩
        case measure => simp [intOf]
      · go_wp2
        go_round
        case rel => exact ⟨i, by go_num, by omega, hR, by rw [hr]; exact arrK_congr fun q hq => wD_else (by omega), hL⟩
        case measure => simp [intOf]
end Go.Proofs.YtdlmamnnamlleaaDoor
