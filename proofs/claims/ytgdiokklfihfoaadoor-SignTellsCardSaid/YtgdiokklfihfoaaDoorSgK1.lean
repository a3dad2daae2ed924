/- Several texts one behind the other: Num3 NumN Fe1 Fe2 Fe3 Num4 Num5 Fe4 Fe5 RpB Rp1 Rp2 Tm2 Tail2 Nc Sg1. -/
import Derived.Test.YtgdiokklfihfoaaDoorNum
import Derived.RegionTactic
import Derived.Test.YtgdiokklfihfoaaDoorNum2
import Derived.Test.YtgdiokklfihfoaaDoorFeP
import Derived.Test.YtgdiokklfihfoaaDoorFd1
import Derived.Test.YtgdiokklfihfoaaDoorLimb
import Derived.Deep.RegionLaw
import Derived.Deep.DeepCutAuto
import Derived.Laws.OwnMore
import Derived.Test.YtgdiokklfihfoaaDoorTail
import Derived.Test.YtgdiokklfihfoaaDoorBld
import Derived.Test.YtgdiokklfihfoaaDoorCv4
import Derived.Test.YtgdiokklfihfoaaDoorCalmS
import Derived.Test.YtgdiokklfihfoaaDoorOneW
import Derived.Test.YtgdiokklfihfoaaDoorCvP
import Derived.Test.YtgdiokklfihfoaaDoorEd4
import Derived.Test.YtgdiokklfihfoaaDoorAt
import Derived.Test.YtgdiokklfihfoaaDoorRet
import Derived.Deep.RegionWith
namespace Go.Proofs.YtgdiokklfihfoaaDoor
open Go.ChangeShapes Go.WideShapes Go.ChangeAt Go.RowKit
set_option maxHeartbeats 1000000
set_option maxRecDepth 100000

/-- Digits as an array of cells. -/
def digA (L : List Nat) : Array Value := (digV L).toArray
theorem digA_size (L : List Nat) : (digA L).size = L.length := by simp [digA, digV]
theorem digA_at {L : List Nat} {i : Nat} (hi : i < L.length) : (digA L)[i]? = some (.int .i64 (L[i] : Nat)) := by simp [digA, digV, hi]
theorem digA_set (L : List Nat) (i d : Nat) : (digA L).setIfInBounds i (.int .i64 (d : Int)) = digA (L.set i d) := by simp [digA, digV]
theorem digA_made (n : Nat) : madeCells #[Value.int .i64 0] n = digA (List.replicate n 0) := by
  apply Array.ext_getElem?
  intro i
  by_cases hi : i < n
  · simp [madeCells, digA, digV, hi, Nat.mod_one]
  · rw [Array.getElem?_eq_none (by rw [size_madeCells]; omega), Array.getElem?_eq_none (by rw [digA_size]; simp; omega)]
/-- A block that is a row of digits. -/
structure DRow (w : World) (g : Nat) (L : List Nat) : Prop where
  row : Row w g L.length
  eq : rowAt w g = digA L
theorem DRow.cell {w : World} {g : Nat} {L : List Nat} (h : DRow w g L) {i : Nat} (hi : i < L.length) : w.cell? ⟨g, i, none⟩ = some (.int .i64 (L[i] : Nat)) := by
  rw [h.row.cell, h.eq, digA_at hi]
theorem DRow.set {w : World} {g : Nat} {L : List Nat} (h : DRow w g L) (i d : Nat) : DRow (w.setCell ⟨g, i, none⟩ (.int .i64 (d : Int))) g (L.set i d) := by
  refine ⟨by rw [List.length_set]; exact row_setCell.2 h.row, ?_⟩
  rw [rowAt_setCell_same, h.eq, digA_set]
theorem DRow.drew {w : World} {g : Nat} {L : List Nat} (h : DRow w g L) : DRow w.drew g L := ⟨h.row, h.eq⟩
theorem DRow.new (w : World) (L : List Nat) (t : TypeId) : DRow (w.alloc (.cells (digA L) t)) w.heap.size L :=
  ⟨(row_new rfl).2 (digA_size L), rowAt_new rfl⟩
theorem DRow.below {w w' : World} {g B : Nat} {L : List Nat} (h : DRow w g L) (hb : Below B w w') (hg : g < B) : DRow w' g L := ⟨row_below h.row hb hg, (rowAt_below hb hg).trans h.eq⟩
theorem run_make_dig (n : Nat) (hn : n ≤ 1000000000) (w : World) : (Instr.makeSlice 96 (.int .i64 (n : Int)) (.int .i64 (n : Int))).run Tryd.prog w = .ok (.slice (some ⟨w.heap.size, 0, none⟩) n n) (w.alloc (.cells (digA (List.replicate n 0)) 3)) := by
  rw [← digA_made]
  exact run_make_row' (P := Tryd.prog) 96 3 (.int .i64 0) 8 Tryd.underlying96 (by kernel_rfl) rfl .i64 .i64 n (by omega) (by omega) w
theorem DRow.ds {w : World} {g : Nat} {L : List Nat} (h : DRow w g L) (hs : Sm L) (hm : L.length ≤ 9223372036854775807) : Ds w (some ⟨g, 0, none⟩) L L.length := by
  refine ⟨?_, hs, Nat.le_refl _, hm⟩
  obtain ⟨cs, t, hh, hl⟩ := h.row
  have e : cs = digA L := by have := h.eq; simpa [rowAt, hh] using this
  have := Rd.of_blk (B := w.heap.size) hh h.row.lt
  rw [e] at this; exact this

theorem val_set (L : List Nat) : ∀ (i d : Nat), i < L.length → val (L.set i d) + 65536 ^ i * (L[i]?.getD 0) = val L + 65536 ^ i * d := by
  induction L with
  | nil => intro i d h; simp at h
  | cons x L ih =>
    intro i d h
    cases i with
    | zero => simp [val]; omega
    | succ i =>
      have h1 := ih i d (by simpa using h)
      simp only [List.set_cons_succ, val, List.getElem?_cons_succ, Nat.pow_succ]
      have h2 : ∀ y, 65536 ^ i * 65536 * y = 65536 * (65536 ^ i * y) := fun y => by rw [Nat.mul_comm (65536 ^ i) 65536, Nat.mul_assoc]
      rw [h2, h2]
      omega
theorem val_zeros (n : Nat) : val (List.replicate n 0) = 0 := by
  induction n with
  | zero => rfl
  | succ n ih => rw [List.replicate_succ]; simp only [val]; omega
theorem sm_zeros (n : Nat) : Sm (List.replicate n 0) := fun d h => by have := (List.mem_replicate.1 h).2; omega

theorem pow_two_16 (n : Nat) : 65536 ^ (n / 16) * 2 ^ (n % 16) = 2 ^ n := by
  rw [show (65536 : Nat) = 2 ^ 16 from rfl, ← Nat.pow_mul, ← Nat.pow_add]; congr 1; omega
theorem val_take_succ' (l : List Nat) (i : Nat) : val (l.take (i + 1)) = val (l.take i) + 65536 ^ i * (l[i]?.getD 0) := by
  rcases Nat.lt_or_ge i l.length with h | h
  · rw [List.take_succ_eq_append_getElem h, val_snoc, List.getElem?_eq_getElem h, List.length_take, Nat.min_eq_left (by omega)]; rfl
  · rw [List.take_of_length_le h, List.take_of_length_le (by omega), List.getElem?_eq_none h]; simp
theorem twoTo_dg (n : Nat) : Dg ((List.replicate (n / 16 + 1) 0).set (n / 16) (2 ^ (n % 16))) (2 ^ n) := by
  have hlt : 2 ^ (n % 16) < 65536 := Nat.lt_of_lt_of_le (Nat.pow_lt_pow_right (by omega) (show n % 16 < 16 by omega)) (by decide)
  have hv := val_set (List.replicate (n / 16 + 1) 0) (n / 16) (2 ^ (n % 16)) (by simp)
  rw [val_zeros, pow_two_16] at hv
  have h0 : (List.replicate (n / 16 + 1) 0)[n / 16]?.getD 0 = 0 := by simp
  rw [h0] at hv
  refine ⟨⟨(sm_zeros _).set _ hlt, by omega⟩, ?_⟩
  rw [List.getLast?_eq_getElem?]
  simp

/-! Bits -/
def bitK (n s : Nat) : Nat → Nat := fun i => if i < s then n / 2 ^ i % 2 else 0
def BitsR (N n : Nat) (w : World) (e : Ending) (w' : World) : Prop := ∃ g, e = .returned (.slice (some ⟨g, 0, none⟩) n n) ∧ Row w' g n ∧ rowAt w' g = arrK .i64 n (fun i => N / 2 ^ i % 2) ∧ w.heap.size ≤ g ∧ Below w.heap.size w w'
theorem bit_step (N s : Nat) (p : Nat) : upd (bitK N s) s (N / 65536 ^ (s / 16) % 65536 / 2 ^ (s % 16) % 2) p = bitK N (s + 1) p := by
  have e : N / 65536 ^ (s / 16) % 65536 / 2 ^ (s % 16) % 2 = N / 2 ^ s % 2 := by
    have h1 : N / 2 ^ s = N / 65536 ^ (s / 16) / 2 ^ (s % 16) := by rw [Nat.div_div_eq_div_mul, pow_two_16]
    rw [h1]
    generalize N / 65536 ^ (s / 16) = M
    have h2 : 2 ^ (s % 16) * 2 ∣ 65536 := by
      rw [← Nat.pow_succ, show (65536 : Nat) = 2 ^ 16 from rfl]
      exact Nat.pow_dvd_pow 2 (by omega)
    rw [← Nat.mod_mul_right_div_self, ← Nat.mod_mul_right_div_self, Nat.mod_mod_of_dvd _ h2]
  unfold upd bitK
  by_cases h : p = s
  · subst h; rw [if_pos rfl, if_pos (by omega), e]
  · rw [if_neg h]
    by_cases h2 : p < s
    · rw [if_pos h2, if_pos (by omega)]
    · rw [if_neg h2, if_neg (by omega)]
theorem num_ofInt (a : Nat) (ha : a < 2 ^ 63) : (BitVec.ofInt 64 (a : Int)).toNat = a := by
  rw [BitVec.ofInt_natCast, BitVec.toNat_ofNat]; exact Nat.mod_eq_of_lt (by omega)
theorem num_and1 {a : Nat} (ha : a < 2 ^ 63) : bits .and .i64 (a : Int) 1 = ((a % 2 : Nat) : Int) := by
  have hx : a &&& 1 < 2 ^ 63 := Nat.and_lt_two_pow _ (by omega)
  show IntKind.i64.wrap ((BitVec.ofInt 64 (a : Int) &&& BitVec.ofInt 64 ((1 : Nat) : Int)).toNat : Int) = _
  rw [BitVec.toNat_and, num_ofInt a ha, num_ofInt 1 (by omega), IntKind.wrap_i64]
  rw [Nat.and_one_is_mod] at *
  omega

theorem ref_TwoTo (n : Nat) (w : World) (hn : n ≤ 1000000) :
    Calls Tryd.prog 46 #[.int .i64 n] w (RetN (2 ^ n) w) := by
  have hmk := run_make_dig (n / 16 + 1) (by omega)
  have hR := DRow.new w (List.replicate (n / 16 + 1) 0) 3
  have hL : ∀ L, Below w.heap.size w (w.alloc (.cells (digA L) 3)) := fun L => by go_grown
  obtain ⟨q, hq⟩ : ∃ q, q = n / 16 := ⟨_, rfl⟩
  obtain ⟨r, hr⟩ : ∃ r, r = n % 16 := ⟨_, rfl⟩
  have hqi : (n : Int) / 16 = q := by omega
  have hri : (n : Int) % 16 = r := by omega
  have hdg := twoTo_dg n
  rw [← hq, ← hr] at hdg
  rw [← hq] at hmk hR
  have hHdg := Lib.hid hdg
  have hr16 : r < 16 := by omega
  have hqn : q ≤ n := by omega
  have h2 : (2 : Int) ^ r < 65536 := by
    have : 2 ^ r < 2 ^ 16 := Nat.pow_lt_pow_right (by omega) hr16
    have h3 : ((2 ^ r : Nat) : Int) < 65536 := by omega
    simpa using h3
  have h2' : (0 : Int) < 2 ^ r := Int.pow_pos (by omega)
  have hc := hR.cell (i := q) (by simp)
  have hf := hR.row.frozen q
  rw [List.getElem_replicate] at hc
  have hq0 : (0 : Int) ≤ q := by omega
  have hq1 : (q : Int) < (q : Int) + 1 := by omega
  push_cast at hmk
  clear hq hr hdg
  go_enter Tryd.func46, Tryd.ntmps46
  go_wp2
  go_ret
  rw [show (2 : Int) ^ r = ((2 ^ r : Nat) : Int) by simp, digA_set]
  have hN := DRow.new w ((List.replicate (q + 1) 0).set q (2 ^ r)) 3
  have hl : ((List.replicate (q + 1) 0).set q (2 ^ r)).length = q + 1 := by simp
  have hDs := hN.ds hHdg.out.sm (by omega)
  rw [hl] at hDs
  exact ⟨.slice (some ⟨w.heap.size, 0, none⟩) (q + 1) (q + 1), rfl, ⟨some ⟨w.heap.size, 0, none⟩, _, q + 1, by rw [hl], hDs, hHdg.out⟩, hL _⟩

theorem ref_Bits (A : Option Addr) (l : List Nat) (c n : Nat) (w : World) (h : Ds w A l c) (hn : n ≤ 1000000) :
    Calls Tryd.prog 109 #[.slice A l.length c, .int .i64 n] w (BitsR (val l) n w) := by
  have hmk := run_make_row' (P := Tryd.prog) 96 3 (.int .i64 0) 8 Tryd.underlying96 (by kernel_rfl) rfl .i64 .i64 n (by omega) (by omega)
  rw [made_arrK] at hmk
  have hR0 : Row (w.alloc (Obj.cells (arrK .i64 n fun _ => 0) 3)) w.heap.size n := (row_new rfl).2 (arrK_size _ _ _)
  have hr0 : rowAt (w.alloc (Obj.cells (arrK .i64 n fun _ => 0) 3)) w.heap.size = arrK .i64 n (bitK (val l) 0) := by rw [rowAt_new rfl]; exact arrK_congr fun q _ => by simp [bitK]
  have hL0 : Below w.heap.size w (w.alloc (Obj.cells (arrK .i64 n fun _ => 0) 3)) := by go_grown
  go_enter Tryd.func109, Tryd.ntmps109
  go_wp2
  generalize w.alloc (Obj.cells (arrK .i64 n fun _ => 0) 3) = W0 at *
  go_loopw [11] (fun i wr => ∃ s : Nat, i = .int .i64 s ∧ s ≤ n ∧ Row wr w.heap.size n ∧ rowAt wr w.heap.size = arrK .i64 n (bitK (val l) s) ∧ Below w.heap.size w wr) (fun i _ => n - (intOf i).toNat)
  case atStart => exact ⟨0, rfl, by omega, hR0, hr0, hL0⟩
  case round =>
    obtain ⟨s, rfl, hs, hR, hr, hL⟩ := hrel
    by_cases hlt : s < n
    · obtain ⟨q, hq⟩ : ∃ q, q = s / 16 := ⟨_, rfl⟩
      obtain ⟨r, hr'⟩ : ∃ r, r = s % 16 := ⟨_, rfl⟩
      have hqi : (s : Int) / 16 = q := by omega
      have hri : (s : Int) % 16 = r := by omega
      have hbs := bit_step (val l) s
      have hdz := digZ_nat l q
      rw [Dv.at_ (Dv.mk' h.sm)] at hdz
      rw [← hq, ← hr', ← hdz] at hbs
      have hD := h.below hL (Nat.le_refl _)
      have hf := hR.frozen s
      have hc := hR.cell s
      rw [hr, arrK_at hlt] at hc
      have hdl := digZ_lt h.sm (q : Int)
      have hr16 : r < 16 := by omega
      have hqs : q ≤ s := by omega
      have hHr := Lib.hid hr
      have hHbs := Lib.hid hbs
      clear hr hq hr' hdz hbs
      have hcon := ref_digit A l c (q : Int) wr hD
      have hdv : digZ l q / 2 ^ r ≤ digZ l q := Nat.div_le_self _ _
      have h1 : bits .and .i64 ((digZ l q : Int) / 2 ^ r) 1 = ((digZ l q / 2 ^ r % 2 : Nat) : Int) := by
        rw [show ((digZ l q : Int) / 2 ^ r) = ((digZ l q / 2 ^ r : Nat) : Int) by simp, num_and1 (by omega)]
      have hHcon := Lib.hid hcon
      clear hcon
      go_wp2_with (go_at_call 86; refine hHcon.out.mono ?_; rintro e w' ⟨rfl, rfl⟩)
      go_round
      case rel => exact ⟨s + 1, by go_num, by omega, row_setCell.2 hR, by rw [rowAt_setCell_same, hHr.out, show ((digZ l q : Int) / 2 ^ r % 2) = ((digZ l q / 2 ^ r % 2 : Nat) : Int) by simp, arrK_set]; exact arrK_congr fun p _ => hHbs.out p, hL.setCell (Nat.le_refl _) _⟩
      case measure => simp [intOf]; omega
    · obtain rfl : s = n := by omega
      go_wp2
      go_ret
      exact ⟨_, rfl, hR, by rw [hr]; exact arrK_congr fun p hp => by simp [bitK, hp], Nat.le_refl _, hL⟩

/-! Times -/
theorem times_step {L : List Nat} {P cy x V m : Nat} {i : Nat} (hi : i < L.length) (hP : P = 65536 ^ i) (hx : x = cy + (L[i]?.getD 0 + m)) (hv : val L + P * cy = V) :
    val (L.set i (x % 65536)) + P * 65536 * (x / 65536) = V + P * m := by
  have h1 := val_set L i (x % 65536) hi
  rw [← hP] at h1
  have h2 : P * (x % 65536) + P * 65536 * (x / 65536) = P * x := by rw [Nat.mul_assoc, ← Nat.mul_add, Nat.mod_add_div]
  have h3 : P * x = P * cy + P * (L[i]?.getD 0) + P * m := by rw [hx, Nat.mul_add, Nat.mul_add]; omega
  omega
theorem times_in {k : List Nat} {V i j a b : Nat} (hb : k[j]?.getD 0 = b) : V + 65536 ^ i * a * val (k.take j) + 65536 ^ (i + j) * (a * b) = V + 65536 ^ i * a * val (k.take (j + 1)) := by
  rw [val_take_succ', hb, Nat.pow_add, Nat.mul_add, Nat.add_assoc]
  congr 2
  simp only [Nat.mul_assoc]
  congr 1
  rw [← Nat.mul_assoc, Nat.mul_comm (65536 ^ j) a, Nat.mul_assoc]
theorem zeros_set {L : List Nat} {p q d n : Nat} (h : ∀ j, n ≤ j → L[j]?.getD 0 = 0) (hp : p < n) (hq : n ≤ q) : (L.set p d)[q]?.getD 0 = 0 := by
  rw [List.getElem?_set_ne (by omega)]; exact h q hq
theorem times_round {l k L' : List Nat} {i cy : Nat} (hi : i + k.length < L'.length) (hz : L'[i + k.length]?.getD 0 = 0) (hv : val L' + 65536 ^ (i + k.length) * cy = val (l.take i) * val k + 65536 ^ i * (l[i]?.getD 0) * val k) :
    val (L'.set (i + k.length) cy) = val (l.take (i + 1)) * val k := by
  have h1 := val_set L' (i + k.length) cy hi
  rw [hz] at h1
  rw [val_take_succ', Nat.add_mul]
  omega

theorem ref_Times (A : Option Addr) (l : List Nat) (c : Nat) (B : Option Addr) (k : List Nat) (d : Nat) (w : World) (ha : Ds w A l c) (hb : Ds w B k d) (hl : l.length ≤ 1000000) (hk : k.length ≤ 1000000) :
    Calls Tryd.prog 48 #[.slice A l.length c, .slice B k.length d] w (RetN (val l * val k) w) := by
  have hmk := run_make_dig (l.length + k.length) (by omega)
  push_cast at hmk
  have hR := DRow.new w (List.replicate (l.length + k.length) 0) 3
  have hL : Below w.heap.size w (w.alloc (.cells (digA (List.replicate (l.length + k.length) 0)) 3)) := by go_grown
  go_enter Tryd.func48, Tryd.ntmps48
  go_wp2
  generalize w.alloc (.cells (digA (List.replicate (l.length + k.length) 0)) 3) = W0 at *
  go_loopw [17] (fun i wr => ∃ (i' : Nat) (L : List Nat), i = .int .i64 i' ∧ i' ≤ l.length ∧ L.length ≤ l.length + k.length ∧ l.length + k.length ≤ L.length ∧ DRow wr w.heap.size L ∧ Below w.heap.size w wr ∧
    Hid (Sm L ∧ val L = val (l.take i') * val k ∧ ∀ j, i' + k.length ≤ j → L[j]?.getD 0 = 0)) (fun i _ => l.length - (intOf i).toNat)
  case atStart => exact ⟨0, _, rfl, by omega, by simp, by simp, hR, hL, sm_zeros _, by rw [val_zeros]; simp [val], fun j _ => by simp [List.getElem?_replicate]; split <;> rfl⟩
  case round =>
    obtain ⟨i, L, rfl, hi, hL1, hL2, hR, hL, hH⟩ := hrel
    by_cases hlt : i < l.length
    · go_wp2
      obtain ⟨wo, rfl⟩ : ∃ wo : World, wo = wr := ⟨_, rfl⟩
      go_loopw [7, 22] (fun y j wr => ∃ (j' cy : Nat) (L : List Nat), j = .int .i64 j' ∧ j' ≤ k.length ∧ y = .int .i64 cy ∧ cy < 65536 ∧ L.length ≤ l.length + k.length ∧ l.length + k.length ≤ L.length ∧ DRow wr w.heap.size L ∧ Below w.heap.size w wr ∧
        Hid (Sm L ∧ val L + 65536 ^ (i + j') * cy = val (l.take i) * val k + 65536 ^ i * (l[i]?.getD 0) * val (k.take j') ∧ ∀ q, i + k.length ≤ q → L[q]?.getD 0 = 0)) (fun _ j _ => k.length - (intOf j).toNat)
      case atStart => exact ⟨0, 0, L, rfl, by omega, rfl, by omega, hL1, hL2, hR, hL, hH.out.1, by rw [hH.out.2.1]; simp [val], hH.out.2.2⟩
      case round =>
        clear hH hR hL hL1 hL2 L
        obtain ⟨j, cy, L, rfl, hj, rfl, hcy, hL1, hL2, hR, hL, hH⟩ := hrel
        have hf : ∀ q, wr.frozen? ⟨w.heap.size, q, none⟩ = false := fun q => hR.row.frozen q
        by_cases hjk : j < k.length
        · obtain ⟨ad, rfl, hbl, hca⟩ := digV_at (ha.below hL (Nat.le_refl _)).rd hlt
          obtain ⟨bd, rfl, hbl2, hcb⟩ := digV_at (hb.below hL (Nat.le_refl _)).rd hjk
          have hcx := hR.cell (i := i + j) (by omega)
          have hfx := hf (i + j)
          have ha1 := ha.sm l[i] (List.getElem_mem _)
          have hb1 := hb.sm k[j] (List.getElem_mem _)
          have hx1 := hH.out.1 L[i + j] (List.getElem_mem _)
          obtain ⟨m, hm⟩ : ∃ m, m = l[i] * k[j] := ⟨_, rfl⟩
          have hm1 : m ≤ 65535 * 65535 := hm ▸ Nat.mul_le_mul (by omega) (by omega)
          have hmi : ((l[i] : Nat) : Int) * ((k[j] : Nat) : Int) = (m : Int) := by rw [hm]; simp
          have hst := times_step (i := i + j) (x := cy + (L[i + j] + m)) (m := m) (by omega) rfl (by rw [List.getElem?_eq_getElem (by omega)]; rfl) hH.out.2.1
          rw [show l[i]?.getD 0 = l[i] by rw [List.getElem?_eq_getElem hlt]; rfl, hm, times_in (by rw [List.getElem?_eq_getElem hjk]; rfl), ← hm] at hst
          have hst2 : Hid (Sm (L.set (i + j) ((cy + (L[i + j] + m)) % 65536)) ∧ val (L.set (i + j) ((cy + (L[i + j] + m)) % 65536)) + 65536 ^ (i + (j + 1)) * ((cy + (L[i + j] + m)) / 65536) = val (l.take i) * val k + 65536 ^ i * (l[i]?.getD 0) * val (k.take (j + 1)) ∧ ∀ q, i + k.length ≤ q → (L.set (i + j) ((cy + (L[i + j] + m)) % 65536))[q]?.getD 0 = 0) :=
            ⟨hH.out.1.set _ (Nat.mod_lt _ (by omega)), by rw [show i + (j + 1) = (i + j) + 1 by omega, Nat.pow_succ, hst, List.getElem?_eq_getElem hlt]; rfl, fun q hq => zeros_set hH.out.2.2 (by omega) hq⟩
          have hw1 : IntKind.i64.wrap ((i : Int) + j) = (i : Int) + j := by rw [IntKind.wrap_i64]; omega
          have hw2 : IntKind.i64.wrap (m : Int) = m := by rw [IntKind.wrap_i64]; omega
          have hs0 : (0 : Int) ≤ (i : Int) + j := by omega
          have hs1 : ((i : Int) + j).toNat = i + j := by omega
          have hs2 : (i : Int) + j < (l.length : Int) + k.length := by omega
          clear hst hm hf hH
          generalize L[i + j] = x at *
          generalize l[i] = a at *
          generalize k[j] = b at *
          have hw3 : IntKind.i64.wrap ((x : Int) + m) = (x : Int) + m := by rw [IntKind.wrap_i64]; omega
          have hw4 : IntKind.i64.wrap ((cy : Int) + ((x : Int) + m)) = (cy : Int) + ((x : Int) + m) := by rw [IntKind.wrap_i64]; omega
          have hR2 := hR.set (i + j) ((cy + (x + m)) % 65536)
          have hHR := Lib.hid hR2
          clear hR2
          go_wp2
          go_region
          go_wp2
          go_round
          case rel => exact ⟨j + 1, (cy + (x + m)) / 65536, L.set (i + j) ((cy + (x + m)) % 65536), by go_num, by omega, by go_num, by omega, by simp; omega, by simp; omega, hHR.out.drew, (hL.setCell (Nat.le_refl _) _).drew, hst2⟩
          case measure => simp [intOf]; omega
        · obtain rfl : j = k.length := by omega
          have hz0 := hH.out.2.2 (i + k.length) (by omega)
          have hcx := hR.cell (i := i + k.length) (by omega)
          have hz : L[i + k.length] = 0 := by rw [List.getElem?_eq_getElem (by omega)] at hz0; exact hz0
          rw [hz] at hcx
          have hfx := hf (i + k.length)
          clear hf hz hz0
          go_wp2
          go_round
          case rel =>
            refine ⟨i + 1, L.set (i + k.length) cy, by go_num, by omega, by simp; omega, by simp; omega, hR.set _ _, hL.setCell (Nat.le_refl _) _, hH.out.1.set _ hcy, ?_, fun q hq => ?_⟩
            · have h1 := hH.out.2.1
              rw [List.take_length] at h1
              exact times_round (by omega) (hH.out.2.2 _ (by omega)) h1
            · rw [List.getElem?_set_ne (by omega)]; exact hH.out.2.2 q (by omega)
          case measure => simp [intOf]; omega
    · obtain rfl : i = l.length := by omega
      have hn : L.length = l.length + k.length := by omega
      have hDs := hR.ds hH.out.1 (by omega)
      rw [hn] at hDs
      have hcon := ref_trim _ L _ wr hDs
      rw [hn] at hcon
      have hHcon := Lib.hid hcon
      clear hcon
      go_wp2_with fail
      refine hHcon.out.mono ?_
      rintro e w' ⟨q, hq, rfl, hg, rfl⟩
      go_wp2
      go_ret
      have hv := hH.out.2.1
      rw [List.take_length] at hv
      exact ⟨_, rfl, hv ▸ isN_trim hDs hq hg, hL⟩
end Go.Proofs.YtgdiokklfihfoaaDoor
namespace Go.Proofs.YtgdiokklfihfoaaDoor
open Go.ChangeShapes Go.WideShapes Go.ChangeAt Go.RowKit

/-- No number of ours is as great. -/
def bigK : Nat := 10000
def big : Nat := 65536 ^ bigK
theorem lt_big {n k : Nat} (h : n < 2 ^ k) (hk : k ≤ 160000) : n < big := by
  refine Nat.lt_of_lt_of_le h ?_
  unfold big
  rw [show (65536 : Nat) = 2 ^ 16 from rfl, ← Nat.pow_mul]
  exact Nat.pow_le_pow_right (by omega) (by unfold bigK; omega)

theorem wide_big {a b m : Nat} (ha : a < 2 ^ m) (hb : b < 2 ^ m) (h : m + m ≤ 160000) : a + b * 2 ^ m < big := by
  refine lt_big (k := m + m) ?_ h
  have h1 : (b + 1) * 2 ^ m ≤ 2 ^ m * 2 ^ m := Nat.mul_le_mul_right _ hb
  rw [Nat.add_mul, Nat.one_mul] at h1
  rw [Nat.pow_add]
  omega
theorem mul_big {a b m n : Nat} (ha : a < 2 ^ m) (hb : b < 2 ^ n) (h : m + n ≤ 160000) : a * b < big :=
  lt_big (k := m + n) (by rw [Nat.pow_add]; exact Nat.mul_lt_mul'' ha hb) h
theorem add_big {a b k : Nat} (ha : a < 2 ^ k) (hb : b < 2 ^ k) (h : k + 1 ≤ 160000) : a + b < big :=
  lt_big (k := k + 1) (by rw [Nat.pow_succ]; omega) h

/-- A slice of digits of n, whatever stands at its end. -/
def IsV (w : World) (v : Value) (n : Nat) : Prop := ∃ A l c, v = .slice A l.length c ∧ Ds w A l c ∧ val l = n ∧ l.length ≤ 1000000

section
variable {w w' : World} {v : Value} {n : Nat}
theorem IsN.toV (h : IsN w v n) (hn : n < big) : IsV w v n := by
  obtain ⟨A, l, c, e, hD, hG⟩ := h
  exact ⟨A, l, c, e, hD, hG.val, Nat.le_trans (hG.len hn) (by unfold bigK; omega)⟩
theorem IsV.step (hb : Below w.heap.size w w') (h : IsV w v n) : IsV w' v n := by
  obtain ⟨A, l, c, e, hD, h1, h2⟩ := h
  exact ⟨A, l, c, e, hD.below hb (Nat.le_refl _), h1, h2⟩
theorem IsN.step (hb : Below w.heap.size w w') (h : IsN w v n) : IsN w' v n := by
  obtain ⟨A, l, c, e, hD, h1⟩ := h
  exact ⟨A, l, c, e, hD.below hb (Nat.le_refl _), h1⟩
theorem IsV.alloc (h : IsV w v n) (o : Obj) : IsV (w.alloc o) v n := h.step (below_alloc w o)
theorem IsN.alloc (h : IsN w v n) (o : Obj) : IsN (w.alloc o) v n := h.step (below_alloc w o)
theorem IsV.drew (h : IsV w v n) : IsV w.drew v n := h.step (Below.refl _ _).drew
theorem IsN.drew (h : IsN w v n) : IsN w.drew v n := h.step (Below.refl _ _).drew
theorem IsN.nil (w : World) : IsN w (.slice none 0 0) 0 := ⟨none, [], 0, rfl, ⟨Rd.nil, Sm.nil, by simp, by omega⟩, Dg.nil⟩
/-- '[]int{d}'. -/
theorem IsV.lit (w : World) (t : TypeId) {d : Nat} (hd : d < 65536) : IsV (w.alloc (.cells #[.int .i64 (d : Int)] t)) (.slice (some ⟨w.heap.size, 0, none⟩) 1 1) d :=
  ⟨some ⟨w.heap.size, 0, none⟩, [d], 1, rfl, ⟨Rd.of_blk (cs := #[.int .i64 (d : Int)]) (push_new _ _) (by simp), Sm.one hd, by simp, by omega⟩, val_one d, by simp⟩
theorem IsV.lit256 (w : World) (t : TypeId) : IsV (w.alloc (.cells #[.int .i64 256] t)) (.slice (some ⟨w.heap.size, 0, none⟩) 1 1) 256 := IsV.lit w t (d := 256) (by omega)
theorem IsV.lit' (w : World) (t : TypeId) {d g : Nat} (hg : g = w.heap.size) (hd : d < 65536) : IsV (w.alloc (.cells #[.int .i64 (d : Int)] t)) (.slice (some ⟨g, 0, none⟩) 1 1) d := by subst hg; exact IsV.lit w t hd
theorem IsV.lit256' (w : World) (t : TypeId) {g : Nat} (hg : g = w.heap.size) : IsV (w.alloc (.cells #[.int .i64 256] t)) (.slice (some ⟨g, 0, none⟩) 1 1) 256 := by subst hg; exact IsV.lit256 w t
theorem IsN.form (h : IsN w v n) : ∃ A m c, v = .slice A m c ∧ m ≤ c ∧ c ≤ 9223372036854775807 ∧ (m = 0 ↔ n = 0) := by
  obtain ⟨A, l, c, rfl, hD, hG⟩ := h
  refine ⟨A, l.length, c, rfl, hD.le, hD.mx, fun h0 => ?_, fun h0 => ?_⟩
  · rw [← hG.val, List.eq_nil_of_length_eq_zero h0]; rfl
  · subst h0; rw [hG.zero]; rfl

theorem plusN {u v : Value} {m n : Nat} (w : World) (hu : IsV w u m) (hv : IsV w v n) : Calls Tryd.prog 47 #[u, v] w (RetN (m + n) w) := by
  obtain ⟨A, l, c, rfl, hD, rfl, hl⟩ := hu
  obtain ⟨B, k, d, rfl, hE, rfl, hk⟩ := hv
  exact ref_Plus A l c B k d w hD hE hl hk
theorem timesN {u v : Value} {m n : Nat} (w : World) (hu : IsV w u m) (hv : IsV w v n) : Calls Tryd.prog 48 #[u, v] w (RetN (m * n) w) := by
  obtain ⟨A, l, c, rfl, hD, rfl, hl⟩ := hu
  obtain ⟨B, k, d, rfl, hE, rfl, hk⟩ := hv
  exact ref_Times A l c B k d w hD hE hl hk
theorem toNumN {u : Value} {m : Nat} (w : World) (hu : IsV w u m) : Calls Tryd.prog 50 #[u] w fun e w' => e = .returned (numV m) ∧ Below w.heap.size w w' := by
  obtain ⟨A, l, c, rfl, hD, rfl, hl⟩ := hu
  exact ref_ToNum A l c w hD
theorem bitsN {u : Value} {m : Nat} (n : Nat) (w : World) (hn : n ≤ 1000000) (hu : IsV w u m) : Calls Tryd.prog 109 #[u, .int .i64 n] w (BitsR m n w) := by
  obtain ⟨A, l, c, rfl, hD, rfl, hl⟩ := hu
  exact ref_Bits A l c n w hD hn
end
end Go.Proofs.YtgdiokklfihfoaaDoor
namespace Go.Proofs.YtgdiokklfihfoaaDoor
open Go.ChangeShapes Go.WideShapes Go.ChangeAt Go.RowKit
set_option maxHeartbeats 2000000
set_option maxRecDepth 100000
theorem load_fe {w : World} {dst : Option Tmp} {x : Operand} {tt : TypeId} {pos : String} {af : Array Edge} {gd : Option (Nat × Bool)} {a : Act} {K : Act → World → Prop} {Q : Exit → Act → World → Prop}
    (hv : IsHead (a.eval x)) (h : Row w (blkOf (a.eval x)) 16) : Oper.wp Tryd.prog ⟨dst, .load 135 x, tt, pos, af, gd⟩ a w K Q ↔ K (a.put dst (.agg (rowAt w (blkOf (a.eval x))))) w :=
  wp_load_whole Tryd.underlying135 rfl (by kernel_rfl) hv h
theorem store_fe {w : World} {dst : Option Tmp} {x y : Operand} {tt : TypeId} {pos : String} {af : Array Edge} {gd : Option (Nat × Bool)} {a : Act} {K : Act → World → Prop} {Q : Exit → Act → World → Prop}
    (hv : IsHead (a.eval x)) (h : Row w (blkOf (a.eval x)) 16) (hx : IsAgg (a.eval y) 16) : Oper.wp Tryd.prog ⟨dst, .store 135 x y, tt, pos, af, gd⟩ a w K Q ↔ K (a.put dst undef) (w.setRow (blkOf (a.eval x)) (cellsV (a.eval y))) :=
  wp_store_whole (by kernel_rfl) hv h hx
theorem execl_fe {w : World} {dst : Option Tmp} {x : Operand} {tt : TypeId} {pos : String} {af : Array Edge} {gd : Option (Nat × Bool)} {ρ : Operand → Value}
    (hv : IsHead (ρ x)) (h : Row w (blkOf (ρ x)) 16) : (execOp ρ ⟨dst, .load 135 x, tt, pos, af, gd⟩).run Tryd.prog w = .ok (.value (.agg (rowAt w (blkOf (ρ x))))) w :=
  exec_load_whole Tryd.underlying135 rfl (by kernel_rfl) hv h
theorem execs_fe {w : World} {dst : Option Tmp} {x y : Operand} {tt : TypeId} {pos : String} {af : Array Edge} {gd : Option (Nat × Bool)} {ρ : Operand → Value}
    (hv : IsHead (ρ x)) (h : Row w (blkOf (ρ x)) 16) (hx : IsAgg (ρ y) 16) : (execOp ρ ⟨dst, .store 135 x y, tt, pos, af, gd⟩).run Tryd.prog w = .ok .skip (w.setRow (blkOf (ρ x)) (cellsV (ρ y))) :=
  exec_store_whole (by kernel_rfl) hv h hx
theorem load_t17 {w : World} {dst : Option Tmp} {x : Operand} {tt : TypeId} {pos : String} {af : Array Edge} {gd : Option (Nat × Bool)} {a : Act} {K : Act → World → Prop} {Q : Exit → Act → World → Prop}
    (hv : IsHead (a.eval x)) (h : Row w (blkOf (a.eval x)) 17) : Oper.wp Tryd.prog ⟨dst, .load 222 x, tt, pos, af, gd⟩ a w K Q ↔ K (a.put dst (.agg (rowAt w (blkOf (a.eval x))))) w :=
  wp_load_whole Tryd.underlying222 rfl (by kernel_rfl) hv h
theorem store_t17 {w : World} {dst : Option Tmp} {x y : Operand} {tt : TypeId} {pos : String} {af : Array Edge} {gd : Option (Nat × Bool)} {a : Act} {K : Act → World → Prop} {Q : Exit → Act → World → Prop}
    (hv : IsHead (a.eval x)) (h : Row w (blkOf (a.eval x)) 17) (hx : IsAgg (a.eval y) 17) : Oper.wp Tryd.prog ⟨dst, .store 222 x y, tt, pos, af, gd⟩ a w K Q ↔ K (a.put dst undef) (w.setRow (blkOf (a.eval x)) (cellsV (a.eval y))) :=
  wp_store_whole (by kernel_rfl) hv h hx
theorem execl_t17 {w : World} {dst : Option Tmp} {x : Operand} {tt : TypeId} {pos : String} {af : Array Edge} {gd : Option (Nat × Bool)} {ρ : Operand → Value}
    (hv : IsHead (ρ x)) (h : Row w (blkOf (ρ x)) 17) : (execOp ρ ⟨dst, .load 222 x, tt, pos, af, gd⟩).run Tryd.prog w = .ok (.value (.agg (rowAt w (blkOf (ρ x))))) w :=
  exec_load_whole Tryd.underlying222 rfl (by kernel_rfl) hv h
theorem execs_t17 {w : World} {dst : Option Tmp} {x y : Operand} {tt : TypeId} {pos : String} {af : Array Edge} {gd : Option (Nat × Bool)} {ρ : Operand → Value}
    (hv : IsHead (ρ x)) (h : Row w (blkOf (ρ x)) 17) (hx : IsAgg (ρ y) 17) : (execOp ρ ⟨dst, .store 222 x y, tt, pos, af, gd⟩).run Tryd.prog w = .ok .skip (w.setRow (blkOf (ρ x)) (cellsV (ρ y))) :=
  exec_store_whole (by kernel_rfl) hv h hx

theorem zeroFe : #[Value.int IntKind.i64 0, Value.int IntKind.i64 0, Value.int IntKind.i64 0, Value.int IntKind.i64 0, Value.int IntKind.i64 0, Value.int IntKind.i64 0, Value.int IntKind.i64 0, Value.int IntKind.i64 0, Value.int IntKind.i64 0, Value.int IntKind.i64 0, Value.int IntKind.i64 0, Value.int IntKind.i64 0, Value.int IntKind.i64 0, Value.int IntKind.i64 0, Value.int IntKind.i64 0, Value.int IntKind.i64 0] = arrK .i64 16 fun _ => 0 := by kernel_rfl
theorem zeroT : #[Value.int IntKind.i64 0, Value.int IntKind.i64 0, Value.int IntKind.i64 0, Value.int IntKind.i64 0, Value.int IntKind.i64 0, Value.int IntKind.i64 0, Value.int IntKind.i64 0, Value.int IntKind.i64 0, Value.int IntKind.i64 0, Value.int IntKind.i64 0, Value.int IntKind.i64 0, Value.int IntKind.i64 0, Value.int IntKind.i64 0, Value.int IntKind.i64 0, Value.int IntKind.i64 0, Value.int IntKind.i64 0, Value.int IntKind.i64 0] = arrK .i64 17 fun _ => 0 := by kernel_rfl
def feV (n : Nat) : Value := .agg (arrK .i64 16 (dgt n))
theorem num_andM {a : Nat} (ha : a < 9223372036854775808) : bits .and .i64 (a : Int) 65535 = ((a % 65536 : Nat) : Int) := by
  have hx : a &&& 65535 < 2 ^ 63 := Nat.lt_of_le_of_lt Nat.and_le_left ha
  show IntKind.i64.wrap ((BitVec.ofInt 64 (a : Int) &&& BitVec.ofInt 64 ((65535 : Nat) : Int)).toNat : Int) = _
  rw [BitVec.toNat_and, num_ofInt a ha, num_ofInt 65535 (by omega), IntKind.wrap_i64]
  rw [show (65535 : Nat) = 2 ^ 16 - 1 from rfl, Nat.and_two_pow_sub_one_eq_mod] at *
  omega
/-- The digits in the middle of a pass. -/
def midF (f : Nat → Nat) (c s j : Nat) : Nat := if j < s then lout f c j else if j = 16 then 0 else f j
/-- The number in a block of sixteen digits. -/
def feOfW (w : World) (g : Nat) : Nat := dval (fun i => (intOf ((rowAt w g)[i]?.getD undef)).toNat) 16
theorem feOfW_at {w : World} {g n : Nat} (h : At w g .i64 16 (dgt n)) (hn : n < 2 ^ 256) : feOfW w g = n := by
  unfold feOfW
  rw [h.eq, dval_congr (g := dgt n) fun i hi => by rw [arrK_at hi]; simp [intOf], dval_dgt, p16]
  exact Nat.mod_eq_of_lt hn
def mixD (f : Nat → Nat) (s j : Nat) : Nat := if j < s then f j else 0
theorem mixD_step (f : Nat → Nat) (s p : Nat) : upd (mixD f s) s (f s) p = mixD f (s + 1) p := by
  unfold upd mixD
  by_cases h : p = s
  · subst h; simp
  · by_cases h2 : p < s
    · simp [h, h2, show p < s + 1 by omega]
    · simp [h, h2, show ¬ p < s + 1 by omega]
theorem midF_step (f : Nat → Nat) (c s p : Nat) : upd (midF f c s) s (lout f c s) p = midF f c (s + 1) p := by
  unfold upd midF
  by_cases h : p = s
  · subst h; simp
  · by_cases h2 : p < s
    · simp [h, h2, show p < s + 1 by omega]
    · simp [h, h2, show ¬ p < s + 1 by omega]
theorem midF_start (f : Nat → Nat) (c p : Nat) : upd f 16 0 p = midF f c 0 p := by
  unfold upd midF
  by_cases h : p = 16
  · subst h; simp
  · simp [h]
theorem midF_end (f : Nat → Nat) (p : Nat) (hp : p < 17) : upd (midF f (f 16 * 38) 16) 16 (lcar f (f 16 * 38) 16) p = lpass f p := by
  unfold upd midF lpass
  by_cases h : p = 16
  · subst h; rw [if_pos rfl, if_neg (by omega)]
  · rw [if_neg h, if_pos (by omega), if_pos (by omega)]
attribute [local go_sem ↓] load_fe store_fe execl_fe execs_fe load_t17 store_t17 execl_t17 execs_t17
attribute [local go_sem] isHead_mk blkOf_mk isAgg_mk cellsV_mk row_drew rowAt_drew row_new_cells row_old rowAt_new rowAt_old setRow_new zeroFe zeroT
theorem ref_least (f : Nat → Nat) (w : World) (hf : Tame f) : Calls Tryd.prog 155 #[.agg (arrK .i64 17 f)] w fun e w' => e = .returned (feV ((dval f 16 + 2 ^ 256 * f 16) % fP)) ∧ Below w.heap.size w w' := by
  have hfin := Lib.hid (lpass_three hf)
  have htm := Lib.hid (lpassN_tame hf)
  obtain ⟨V, hV⟩ : ∃ V, (dval f 16 + 2 ^ 256 * f 16) % fP = V := ⟨_, rfl⟩
  rw [hV] at hfin ⊢
  clear hV hf
  have hc0 := arrK_cells .i64 16 fun _ => 0
  have hL0 : Below w.heap.size w ((w.alloc (Obj.cells (arrK .i64 17 f) 222)).alloc (Obj.cells (arrK .i64 16 fun _ => 0) 135)) := by go_grown
  have hT0 : At ((w.alloc (Obj.cells (arrK .i64 17 f) 222)).alloc (Obj.cells (arrK .i64 16 fun _ => 0) 135)) w.heap.size .i64 17 f := (At.new _ rfl).old _
  have hR0 : Row ((w.alloc (Obj.cells (arrK .i64 17 f) 222)).alloc (Obj.cells (arrK .i64 16 fun _ => 0) 135)) (w.heap.size + 1) 16 := (At.new (k := .i64) (f := fun _ => 0) _ (by simp)).row
  have hL := Lib.hid hL0
  have hR := Lib.hid hR0
  have hT := Lib.hid hT0
  clear hL0 hR0 hT0
  go_enter Tryd.func155, Tryd.ntmps155
  go_wp2_with fail
  generalize (w.alloc _).alloc _ = W0 at *
  go_loopw [11] (fun i wr => ∃ k : Nat, i = .int .i64 k ∧ k ≤ 3 ∧ Hid (At wr w.heap.size .i64 17 (lpassN f k)) ∧ Hid (Row wr (w.heap.size + 1) 16) ∧ Hid (Below w.heap.size w wr)) (fun i _ => 3 - (intOf i).toNat)
  case atStart => exact ⟨0, rfl, by omega, hT, hR, hL⟩
  case round =>
    clear hT hR hL
    obtain ⟨k, rfl, hk, hT, hR, hL⟩ := hrel
    by_cases h3 : k = 3
    · subst h3
      obtain ⟨F, hF⟩ : ∃ F, lpassN f 3 = F := ⟨_, rfl⟩
      have hF3 := htm.out 3
      have hlow : ∀ i < 16, F i < 65536 := fun i hi => by rw [← hF, show lpassN f 3 = lpass (lpassN f 2) from rfl]; unfold lpass; rw [if_pos hi]; exact lout_lt _ _ _
      have hvl := dval_lt hlow
      have hdg := dgt_dval hlow
      rw [hF] at hT hfin
      rw [p16] at hvl
      obtain ⟨v, hv⟩ : ∃ v, dval F 16 = v := ⟨_, rfl⟩
      rw [hv] at hvl hdg hfin
      have hvf := Lib.hid hfin.out.2
      replace hdg := Lib.hid hdg
      replace hvl := Lib.hid hvl
      clear hF hv hlow hF3 hfin htm
      rw [show ((3 : Nat) : Int) = 3 from rfl]
      have hT1 := Lib.hid (hT.out.old (Obj.cells (arrK .i64 16 fun _ => 0) 135))
      have hR1 := Lib.hid ((row_old (o := Obj.cells (arrK .i64 16 fun _ => 0) 135) hR.out.lt).2 hR.out)
      have hL1 := Lib.hid (Below.trans hL.out ((below_alloc wr (Obj.cells (arrK .i64 16 fun _ => 0) 135)).mono hL.out.size))
      have hX1 := Lib.hid (At.new (w := wr) (k := .i64) (m := 16) (f := fun _ => 0) 135 rfl)
      have hlt := hR.out.lt
      clear hT hR hL
      go_upto_region 15 with (fail)
      obtain ⟨g, hg⟩ : ∃ g, wr.heap.size = g := ⟨_, rfl⟩
      rw [hg] at hX1 hlt ⊢
      clear hg
      generalize wr.alloc _ = W1 at *
      have hcc := arrK_cells .i64 17 F
      have hcp : ∀ ty, (Builtin.copy_ #[96, 96] ty #[.slice (some ⟨g, 0, none⟩) 16 16, .slice (some ⟨w.heap.size, 0, none⟩) 16 17]).run Tryd.prog W1.drew = .ok (.int .i64 16) (W1.drew.setRow g (arrK .i64 16 (dgt v))) := fun ty => by
        rw [run_copy_rows (N := 16) (M := 17) (n := 16) Tryd.underlying96 (by kernel_rfl) rfl (by omega) (by omega) (by rw [rowAt_drew, hT1.out.eq]; intro u hu; exact Array.all_eq_true_iff_forall_mem.1 hcc.2 u (by simpa using hu)) hX1.out.row.drew hT1.out.row.drew, rowAt_drew, rowAt_drew, hT1.out.eq, hX1.out.eq, splice_arrK (by omega) (by omega)]
        refine congrArg (fun z => Result.ok (Value.int .i64 16) (W1.drew.setRow g z)) (arrK_congr fun i hi => ?_)
        rw [if_pos ⟨by omega, by omega⟩, hdg.out i hi, Nat.zero_add, Nat.sub_zero]
      have hX2 := Lib.hid (At.put (k := .i64) (f := dgt v) hX1.out.row.drew)
      have hR2 := Lib.hid ((row_setRow_far (c' := arrK .i64 16 (dgt v)) (show w.heap.size + 1 ≠ g by omega)).2 hR1.out.drew)
      have hL2 := Lib.hid (below_setRow (c := arrK .i64 16 (dgt v)) hL1.out.drew (show w.heap.size ≤ g by omega))
      clear hX1 hR1 hL1 hT1 hdg hcc
      go_region
      generalize W1.drew.setRow _ _ = W2 at *
      clear hcp
      go_wp2_with fail
      go_loopw [] (fun wr => ∃ v : Nat, Hid (v < 2 ^ 256) ∧ Hid (v % fP = V) ∧ Hid (At wr g .i64 16 (dgt v)) ∧ Hid (Row wr (w.heap.size + 1) 16) ∧ Hid (Below w.heap.size w wr)) (fun wr => feOfW wr g)
      case atStart => exact ⟨v, hvl, hvf, hX2, hR2, hL2⟩
      case round =>
        clear hX2 hR2 hL2 hvl hvf v
        obtain ⟨v, hvl, hvf, hX, hR, hL⟩ := hrel
        obtain ⟨wo, hwo⟩ : ∃ wo : World, wo = wr := ⟨_, rfl⟩
        have hmo := Lib.hid (show feOfW wr g = v from feOfW_at hX.out hvl.out)
        have hX1 := Lib.hid (hX.out.old (Obj.cells (arrK .i64 16 fun _ => 0) 135))
        have hR1 := Lib.hid ((row_old (o := Obj.cells (arrK .i64 16 fun _ => 0) 135) hR.out.lt).2 hR.out)
        have hL1 := Lib.hid (Below.trans hL.out ((below_alloc wr (Obj.cells (arrK .i64 16 fun _ => 0) 135)).mono hL.out.size))
        have hY1 := Lib.hid ((At.new (w := wr) (k := .i64) (m := 16) (f := fun _ => 0) 135 rfl).congr (f' := mixD (ddif (dgt v) pdig) 0) fun i _ => by simp [mixD])
        have hlg := hX.out.lt
        have hlr := hR.out.lt
        have hlessP := Lib.hid (less_P hvl.out)
        clear hX hR hL
        go_upto_region 18 with (fail)
        obtain ⟨y, hy⟩ : ∃ y, wr.heap.size = y := ⟨_, rfl⟩
        rw [hy] at hY1 hlg hlr ⊢
        clear hy
        generalize wr.alloc _ = W3 at *
        go_wp2_with fail
        go_loopw [6, 38] (fun b i wr => ∃ s : Nat, i = .int .i64 s ∧ s ≤ 16 ∧ b = .int .i64 (dbor (dgt v) pdig s : Nat) ∧ Hid (At wr g .i64 16 (dgt v)) ∧ Hid (At wr y .i64 16 (mixD (ddif (dgt v) pdig) s)) ∧ Hid (Row wr (w.heap.size + 1) 16) ∧ Hid (Below w.heap.size w wr)) (fun _ i _ => 16 - (intOf i).toNat)
        case atStart => exact ⟨0, rfl, by omega, rfl, hX1, hY1, hR1, hL1⟩
        case round =>
          clear hX1 hY1 hR1 hL1
          obtain ⟨s, rfl, hs, rfl, hX, hY, hR, hL⟩ := hrel
          by_cases h16 : s = 16
          · subst h16
            rw [show ((16 : Nat) : Int) = 16 from rfl]
            by_cases hlt : v < fP
            · rw [hlessP.out.1 hlt, show ((1 : Nat) : Int) = 1 from rfl]
              have hVv : V = v := by rw [← hvf.out, Nat.mod_eq_of_lt hlt]
              have hr1 := hX.out.row
              have hr2 := hX.out.eq
              have hr3 := hR.out
              have hcv := arrK_cells .i64 16 (dgt v)
              clear hlt hvf hvl hmo hlessP hY
              subst hVv
              go_wp2_with fail
              exact ret_stored (p := 2) (ty := 135) (g := w.heap.size + 1) (n := 16) (c := arrK .i64 16 (dgt V)) rfl Tryd.underlying135 rfl (by kernel_rfl) rfl hr3 hcv.1 rfl ⟨rfl, below_setRow hL.out (by omega)⟩
            · have hge : fP ≤ v := by omega
              obtain ⟨hb0, hdv⟩ := hlessP.out.2 hge
              rw [hb0, show ((0 : Nat) : Int) = 0 from rfl]
              have hY2 : At wr y .i64 16 (dgt (v - fP)) := hY.out.congr fun i hi => by
                unfold mixD
                rw [if_pos hi, ← hdv, dgt_dval (fun i _ => ddif_lt (dgt_lt v i) (pdig_lt i)) i hi]
              have hn1 := Lib.hid (show v - fP < 2 ^ 256 from Nat.lt_of_le_of_lt (Nat.sub_le _ _) hvl.out)
              have hn2 := Lib.hid (show (v - fP) % fP = V by rw [← hvf.out, Nat.mod_eq_sub_mod hge])
              have hn3 := Lib.hid (show v - fP < v by have := fP_pos; omega)
              obtain ⟨v2, hv2⟩ : ∃ v2, v - fP = v2 := ⟨_, rfl⟩
              rw [hv2] at hY2 hn1 hn2 hn3
              have hr1 := hY2.row
              have hr2 := hY2.eq
              have hr3 := hX.out.row
              have hcv := arrK_cells .i64 16 (dgt v2)
              have hX2 := Lib.hid (At.put (k := .i64) (f := dgt v2) hX.out.row)
              have hR2 := Lib.hid ((row_setRow_far (c' := arrK .i64 16 (dgt v2)) (show w.heap.size + 1 ≠ g by omega)).2 hR.out)
              have hL2 := Lib.hid (below_setRow (c := arrK .i64 16 (dgt v2)) hL.out (show w.heap.size ≤ g by omega))
              clear hv2 hdv hb0 hge hlt hlessP hvf hvl hY hY2 hX hR hL
              go_wp2_with fail
              go_roundw
              case rel => exact ⟨v2, hn1, hn2, hX2, hR2, hL2⟩
              case measure => rw [hmo.out, feOfW_at hX2.out hn1.out]; exact hn3.out
          · have hs16 : (s : Int) < 16 := by omega
            have cs := hX.out.cell (i := s) (by omega)
            have cy := hY.out.cell (i := s) (by omega)
            have fy := hY.out.row.frozen s
            have hd2 : dbor (dgt v) pdig (s + 1) = if dgt v s < pdig s + dbor (dgt v) pdig s then 1 else 0 := rfl
            have hd1 : ddif (dgt v) pdig s = if dgt v s < pdig s + dbor (dgt v) pdig s then dgt v s + 65536 - pdig s - dbor (dgt v) pdig s else dgt v s - pdig s - dbor (dgt v) pdig s := rfl
            have hbl := dbor_le (dgt v) pdig s
            have hfl := dgt_lt v s
            have hA2 : Hid (At (wr.setCell ⟨y, s, none⟩ (.int .i64 (ddif (dgt v) pdig s : Nat))) g .i64 16 (dgt v)) := Lib.hid (hX.out.farC (by simp; omega))
            have hY2 := Lib.hid ((hY.out.set s (ddif (dgt v) pdig s)).congr fun p _ => mixD_step _ s p)
            have hR2 : Hid (Row (wr.setCell ⟨y, s, none⟩ (.int .i64 (ddif (dgt v) pdig s : Nat))) (w.heap.size + 1) 16) := Lib.hid (row_setCell.2 hR.out)
            have hL2 := Lib.hid (show Below w.heap.size w (wr.setCell ⟨y, s, none⟩ (.int .i64 (ddif (dgt v) pdig s : Nat))) from hL.out.setCell (by simp; omega) _)
            clear hX hY hR hL
            obtain ⟨b, hb⟩ : ∃ b, dbor (dgt v) pdig s = b := ⟨_, rfl⟩
            obtain ⟨fs, hfs⟩ : ∃ b, dgt v s = b := ⟨_, rfl⟩
            rw [hb] at hd1 hd2 hbl ⊢
            rw [hfs] at hd1 hd2 hfl cs
            clear hb hfs
            generalize mixD (ddif (dgt v) pdig) s s = yy at *
            by_cases h0 : s = 0
            · have hm : pdig s = 65517 := by rw [h0]; rfl
              have t0 : ((s : Int) == 0) = true := by rw [beq_iff_eq]; omega
              have t15 : ((s : Int) == 15) = false := by rw [beq_eq_false_iff_ne]; omega
              clear h0
              rw [hm] at hd1 hd2
              by_cases hlt : fs < 65517 + b
              · rw [if_pos hlt] at hd1 hd2
                obtain ⟨d, hd⟩ : ∃ d, d = fs + 65536 - 65517 - b := ⟨_, rfl⟩
                rw [← hd] at hd1
                rw [hd1] at hY2 hA2 hR2 hL2
                have hw1 : IntKind.i64.wrap ((fs : Int) - 65517) = (fs : Int) - 65517 := by rw [IntKind.wrap_i64]; omega
                have hw2 : IntKind.i64.wrap ((fs : Int) - 65517 - (b : Int)) = (d : Int) - 65536 := by rw [IntKind.wrap_i64]; omega
                have hneg : (d : Int) - 65536 < 0 := by omega
                have hw3 : IntKind.i64.wrap ((d : Int) - 65536 + 65536) = (d : Int) := by rw [IntKind.wrap_i64]; omega
                replace hd2 := Lib.hid hd2
                clear hd hd1 hlt hbl hfl hm
                go_wp2_with fail
                go_roundw
                case rel => exact ⟨s + 1, by go_num, by omega, by rw [hd2.out]; go_num, hA2, hY2, hR2, hL2⟩
                case measure => simp [intOf]; omega
              · rw [if_neg hlt] at hd1 hd2
                obtain ⟨d, hd⟩ : ∃ d, d = fs - 65517 - b := ⟨_, rfl⟩
                rw [← hd] at hd1
                rw [hd1] at hY2 hA2 hR2 hL2
                have hw1 : IntKind.i64.wrap ((fs : Int) - 65517) = (fs : Int) - 65517 := by rw [IntKind.wrap_i64]; omega
                have hw2 : IntKind.i64.wrap ((fs : Int) - 65517 - (b : Int)) = (d : Int) := by rw [IntKind.wrap_i64]; omega
                have hneg : ¬ (d : Int) < 0 := by omega
                replace hd2 := Lib.hid hd2
                clear hd hd1 hlt hbl hfl hm
                go_wp2_with fail
                go_roundw
                case rel => exact ⟨s + 1, by go_num, by omega, by rw [hd2.out]; go_num, hA2, hY2, hR2, hL2⟩
                case measure => simp [intOf]; omega
            · have t0 : ((s : Int) == 0) = false := by rw [beq_eq_false_iff_ne]; omega
              by_cases h15 : s = 15
              · have hm : pdig s = 32767 := by rw [h15]; rfl
                have t15 : ((s : Int) == 15) = true := by rw [beq_iff_eq]; omega
                clear h15 h0
                rw [hm] at hd1 hd2
                by_cases hlt : fs < 32767 + b
                · rw [if_pos hlt] at hd1 hd2
                  obtain ⟨d, hd⟩ : ∃ d, d = fs + 65536 - 32767 - b := ⟨_, rfl⟩
                  rw [← hd] at hd1
                  rw [hd1] at hY2 hA2 hR2 hL2
                  have hw1 : IntKind.i64.wrap ((fs : Int) - 32767) = (fs : Int) - 32767 := by rw [IntKind.wrap_i64]; omega
                  have hw2 : IntKind.i64.wrap ((fs : Int) - 32767 - (b : Int)) = (d : Int) - 65536 := by rw [IntKind.wrap_i64]; omega
                  have hneg : (d : Int) - 65536 < 0 := by omega
                  have hw3 : IntKind.i64.wrap ((d : Int) - 65536 + 65536) = (d : Int) := by rw [IntKind.wrap_i64]; omega
                  replace hd2 := Lib.hid hd2
                  clear hd hd1 hlt hbl hfl hm
                  go_wp2_with fail
                  go_roundw
                  case rel => exact ⟨s + 1, by go_num, by omega, by rw [hd2.out]; go_num, hA2, hY2, hR2, hL2⟩
                  case measure => simp [intOf]; omega
                · rw [if_neg hlt] at hd1 hd2
                  obtain ⟨d, hd⟩ : ∃ d, d = fs - 32767 - b := ⟨_, rfl⟩
                  rw [← hd] at hd1
                  rw [hd1] at hY2 hA2 hR2 hL2
                  have hw1 : IntKind.i64.wrap ((fs : Int) - 32767) = (fs : Int) - 32767 := by rw [IntKind.wrap_i64]; omega
                  have hw2 : IntKind.i64.wrap ((fs : Int) - 32767 - (b : Int)) = (d : Int) := by rw [IntKind.wrap_i64]; omega
                  have hneg : ¬ (d : Int) < 0 := by omega
                  replace hd2 := Lib.hid hd2
                  clear hd hd1 hlt hbl hfl hm
                  go_wp2_with fail
                  go_roundw
                  case rel => exact ⟨s + 1, by go_num, by omega, by rw [hd2.out]; go_num, hA2, hY2, hR2, hL2⟩
                  case measure => simp [intOf]; omega
              · have hm : pdig s = 65535 := by unfold pdig; rw [if_neg h0, if_neg h15]
                have t15 : ((s : Int) == 15) = false := by rw [beq_eq_false_iff_ne]; omega
                rw [hm] at hd1 hd2
                by_cases hlt : fs < 65535 + b
                · rw [if_pos hlt] at hd1 hd2
                  obtain ⟨d, hd⟩ : ∃ d, d = fs + 65536 - 65535 - b := ⟨_, rfl⟩
                  rw [← hd] at hd1
                  rw [hd1] at hY2 hA2 hR2 hL2
                  have hw1 : IntKind.i64.wrap ((fs : Int) - 65535) = (fs : Int) - 65535 := by rw [IntKind.wrap_i64]; omega
                  have hw2 : IntKind.i64.wrap ((fs : Int) - 65535 - (b : Int)) = (d : Int) - 65536 := by rw [IntKind.wrap_i64]; omega
                  have hneg : (d : Int) - 65536 < 0 := by omega
                  have hw3 : IntKind.i64.wrap ((d : Int) - 65536 + 65536) = (d : Int) := by rw [IntKind.wrap_i64]; omega
                  replace hd2 := Lib.hid hd2
                  clear hd hd1 hlt hbl hfl hm
                  go_wp2_with fail
                  go_roundw
                  case rel => exact ⟨s + 1, by go_num, by omega, by rw [hd2.out]; go_num, hA2, hY2, hR2, hL2⟩
                  case measure => simp [intOf]; omega
                · rw [if_neg hlt] at hd1 hd2
                  obtain ⟨d, hd⟩ : ∃ d, d = fs - 65535 - b := ⟨_, rfl⟩
                  rw [← hd] at hd1
                  rw [hd1] at hY2 hA2 hR2 hL2
                  have hw1 : IntKind.i64.wrap ((fs : Int) - 65535) = (fs : Int) - 65535 := by rw [IntKind.wrap_i64]; omega
                  have hw2 : IntKind.i64.wrap ((fs : Int) - 65535 - (b : Int)) = (d : Int) := by rw [IntKind.wrap_i64]; omega
                  have hneg : ¬ (d : Int) < 0 := by omega
                  replace hd2 := Lib.hid hd2
                  clear hd hd1 hlt hbl hfl hm
                  go_wp2_with fail
                  go_roundw
                  case rel => exact ⟨s + 1, by go_num, by omega, by rw [hd2.out]; go_num, hA2, hY2, hR2, hL2⟩
                  case measure => simp [intOf]; omega
    · have hk3 : (k : Int) < 3 := by omega
      have htk := htm.out k
      have hpk : lpass (lpassN f k) = lpassN f (k + 1) := rfl
      obtain ⟨F, hF⟩ : ∃ F, lpassN f k = F := ⟨_, rfl⟩
      rw [hF] at hT htk hpk
      replace hpk := Lib.hid hpk
      have h16 := htk 16 (by omega)
      have c16 := hT.out.cell (i := 16) (by omega)
      have f16 := hT.out.row.frozen 16
      obtain ⟨c0, hc0'⟩ : ∃ c, F 16 * 38 = c := ⟨_, rfl⟩
      have hw1 : IntKind.i64.wrap ((F 16 : Int) * 38) = (c0 : Int) := by rw [IntKind.wrap_i64]; omega
      have hcb : c0 ≤ 1369094286720630784 := by omega
      have hT1 := Lib.hid ((hT.out.set 16 0).congr fun i _ => midF_start F c0 i)
      have hlc := Lib.hid (fun s (hs : s ≤ 17) => lcar_le htk hcb s hs)
      have hFl := Lib.hid (fun s (hs : s < 17) => htk s hs)
      have hpk2 := Lib.hid (fun p hp => midF_end F p hp)
      rw [hc0'] at hpk2
      have hR1 := Lib.hid (row_setCell (a := ⟨w.heap.size, 16, none⟩) (v := .int .i64 (0 : Nat)) |>.2 hR.out)
      have hL1 := Lib.hid (show Below w.heap.size w (wr.setCell ⟨w.heap.size, 16, none⟩ (.int .i64 (0 : Nat))) from hL.out.setCell (Nat.le_refl _) _)
      clear hF htk hc0' hcb hT hR hL
      generalize F 16 = x16 at *
      go_wp2_with fail
      rw [show ((0 : Nat) : Int) = 0 from rfl] at hT1 hR1 hL1
      generalize wr.setCell _ _ = wr1 at *
      clear hw1 h16 c16 f16
      go_loopw [3, 17] (fun c i wr => ∃ s : Nat, i = .int .i64 s ∧ s ≤ 16 ∧ c = .int .i64 (lcar F c0 s : Nat) ∧ Hid (At wr w.heap.size .i64 17 (midF F c0 s)) ∧ Hid (Row wr (w.heap.size + 1) 16) ∧ Hid (Below w.heap.size w wr)) (fun _ i _ => 16 - (intOf i).toNat)
      case atStart => exact ⟨0, rfl, by omega, rfl, hT1, hR1, hL1⟩
      case round =>
        clear hT1 hR1 hL1
        obtain ⟨s, rfl, hs, rfl, hT, hR, hL⟩ := hrel
        by_cases h16 : s = 16
        · subst h16
          have c16 := hT.out.cell (i := 16) (by omega)
          have f16 := hT.out.row.frozen 16
          have hT2 := Lib.hid ((hT.out.set 16 (lcar F c0 16)).congr hpk2.out)
          have hR2 : Hid (Row (wr.setCell ⟨w.heap.size, 16, none⟩ (.int .i64 (lcar F c0 16 : Nat))) (w.heap.size + 1) 16) := Lib.hid (row_setCell.2 hR.out)
          have hL2 := Lib.hid (show Below w.heap.size w (wr.setCell ⟨w.heap.size, 16, none⟩ (.int .i64 (lcar F c0 16 : Nat))) from hL.out.setCell (Nat.le_refl _) _)
          rw [hpk.out] at hT2
          clear hT hR hL hpk2 hpk
          generalize midF F c0 16 16 = y at *
          go_wp2_with fail
          go_roundw
          case rel => exact ⟨k + 1, by go_num, by omega, hT2, hR2, hL2⟩
          case measure => simp [intOf]; omega
        · have hs16 : (s : Int) < 16 := by omega
          have cs := hT.out.cell (i := s) (by omega)
          have fs := hT.out.row.frozen s
          rw [show midF F c0 s s = F s by unfold midF; rw [if_neg (by omega), if_neg (by omega)]] at cs
          have hl := hlc.out s (by omega)
          have hb := hFl.out s (by omega)
          have hn1 := Lib.hid (show lcar F c0 (s + 1) = (lcar F c0 s + F s) / 65536 from rfl)
          have hn2 := Lib.hid (show lout F c0 s = (lcar F c0 s + F s) % 65536 from rfl)
          have hT2 := Lib.hid ((hT.out.set s (lout F c0 s)).congr fun p _ => midF_step F c0 s p)
          have hR2 : Hid (Row (wr.setCell ⟨w.heap.size, s, none⟩ (.int .i64 (lout F c0 s : Nat))) (w.heap.size + 1) 16) := Lib.hid (row_setCell.2 hR.out)
          have hL2 := Lib.hid (show Below w.heap.size w (wr.setCell ⟨w.heap.size, s, none⟩ (.int .i64 (lout F c0 s : Nat))) from hL.out.setCell (Nat.le_refl _) _)
          rw [hn2.out] at hT2 hR2 hL2
          obtain ⟨x, hx⟩ : ∃ x, lcar F c0 s + F s = x := ⟨_, rfl⟩
          rw [hx] at hn1 hT2 hR2 hL2
          have hw1 : IntKind.i64.wrap ((lcar F c0 s : Int) + (F s : Int)) = (x : Int) := by rw [IntKind.wrap_i64]; omega
          have hand := num_andM (a := x) (by omega)
          have hxb : x < 9223372036854775808 := by omega
          clear hx hT hR hL hn2 hl hb
          generalize lcar F c0 s = c at *
          generalize F s = y at *
          rw [show ((x % 65536 : Nat) : Int) = (x : Int) % 65536 from by omega] at hT2 hR2 hL2
          go_wp2_with fail
          go_roundw
          case rel => exact ⟨s + 1, by go_num, by omega, congrArg (Value.int .i64) (by rw [hn1.out]; omega), hT2, hR2, hL2⟩
          case measure => simp [intOf]; omega
end Go.Proofs.YtgdiokklfihfoaaDoor
namespace Go.Proofs.YtgdiokklfihfoaaDoor
open Go.ChangeShapes Go.WideShapes Go.ChangeAt Go.RowKit
set_option maxHeartbeats 2000000
set_option maxRecDepth 100000
attribute [local go_sem ↓] load_fe store_fe execl_fe execs_fe load_t17 store_t17 execl_t17 execs_t17
attribute [local go_sem] isHead_mk blkOf_mk isAgg_mk cellsV_mk row_drew rowAt_drew row_new_cells row_old rowAt_new rowAt_old setRow_new zeroFe zeroT
theorem dval_add (f g : Nat → Nat) (n : Nat) : dval (fun i => f i + g i) n = dval f n + dval g n := by
  induction n with
  | zero => rfl
  | succ n ih => simp only [dval]; rw [ih, Nat.mul_add]; omega
theorem plus_val {a b : Nat} (ha : a < 2 ^ 256) (hb : b < 2 ^ 256) {t : Nat → Nat} (h : ∀ i < 16, t i = dgt a i + dgt b i) : dval t 16 = a + b := by
  rw [dval_congr h, dval_add, dval_dgt, dval_dgt, p16, Nat.mod_eq_of_lt ha, Nat.mod_eq_of_lt hb]
theorem less_val {a b : Nat} (ha : a < 2 ^ 256) (hb : b < 2 ^ 256) {t : Nat → Nat} (h : ∀ i < 16, t i + dgt b i = dgt a i + 4 * pdig i) : dval t 16 = a + 4 * fP - b := by
  have h1 := dval_congr h
  rw [dval_add, dval_add, dval_dgt, dval_dgt, p16, Nat.mod_eq_of_lt ha, Nat.mod_eq_of_lt hb] at h1
  have h2 : ∀ n, dval (fun i => 4 * pdig i) n = 4 * dval pdig n := fun n => by
    induction n with
    | zero => rfl
    | succ n ih => simp only [dval]; rw [ih, Nat.mul_add, Nat.mul_left_comm]
  rw [h2, pdig_val] at h1
  omega
/-- The digits laid so far, and zeros. -/
def cut16 (f : Nat → Nat) (j : Nat) : Nat := if j < 16 then f j else 0
theorem mixD16 (f : Nat → Nat) (j : Nat) (_ : j < 17) : mixD f 16 j = cut16 f j := rfl
theorem cut_val (f : Nat → Nat) : dval (cut16 f) 16 + 2 ^ 256 * cut16 f 16 = dval f 16 := by
  rw [dval_congr (f := cut16 f) (g := f) fun i hi => by unfold cut16; rw [if_pos hi], show cut16 f 16 = 0 from rfl]; omega
theorem fe_Plus (a b : Nat) (w : World) (ha : a < 2 ^ 256) (hb : b < 2 ^ 256) : Calls Tryd.prog 153 #[feV a, feV b] w fun e w' => e = .returned (feV ((a + b) % fP)) ∧ Below w.heap.size w w' := by
  have hF : ∀ i, dgt a i + dgt b i < 131072 := fun i => by have := dgt_lt a i; have := dgt_lt b i; omega
  have htm : Tame (cut16 fun i => dgt a i + dgt b i) := fun i _ => by
    show (if i < 16 then dgt a i + dgt b i else 0) < _
    have := hF i
    split <;> omega
  have hle := Lib.hid (fun V => ref_least (cut16 fun i => dgt a i + dgt b i) V htm)
  rw [cut_val, plus_val ha hb (t := fun i => dgt a i + dgt b i) fun _ _ => rfl] at hle
  replace hF := Lib.hid hF
  obtain ⟨V, hV⟩ : ∃ V, (a + b) % fP = V := ⟨_, rfl⟩
  rw [hV] at hle ⊢
  clear hV htm ha hb
  unfold feV at hle ⊢
  have hFx := Lib.hid (fun i => show (fun i => dgt a i + dgt b i) i = dgt a i + dgt b i from rfl)
  generalize (fun i => dgt a i + dgt b i) = F at *
  have hc0 := arrK_cells .i64 16 fun _ => 0
  have hc1 := arrK_cells .i64 17 fun _ => 0
  have hL0 : Below w.heap.size w ((((w.alloc (Obj.cells (arrK .i64 16 (dgt a)) 135)).alloc (Obj.cells (arrK .i64 16 (dgt b)) 135)).alloc (Obj.cells (arrK .i64 16 fun _ => 0) 135)).alloc (Obj.cells (arrK .i64 17 fun _ => 0) 222)) := by go_grown
  have hA0 : At ((((w.alloc (Obj.cells (arrK .i64 16 (dgt a)) 135)).alloc (Obj.cells (arrK .i64 16 (dgt b)) 135)).alloc (Obj.cells (arrK .i64 16 fun _ => 0) 135)).alloc (Obj.cells (arrK .i64 17 fun _ => 0) 222)) w.heap.size .i64 16 (dgt a) := (((At.new _ rfl).old _).old _).old _
  have hB0 : At ((((w.alloc (Obj.cells (arrK .i64 16 (dgt a)) 135)).alloc (Obj.cells (arrK .i64 16 (dgt b)) 135)).alloc (Obj.cells (arrK .i64 16 fun _ => 0) 135)).alloc (Obj.cells (arrK .i64 17 fun _ => 0) 222)) (w.heap.size + 1) .i64 16 (dgt b) := ((At.new _ (by simp)).old _).old _
  have hR0 : Row ((((w.alloc (Obj.cells (arrK .i64 16 (dgt a)) 135)).alloc (Obj.cells (arrK .i64 16 (dgt b)) 135)).alloc (Obj.cells (arrK .i64 16 fun _ => 0) 135)).alloc (Obj.cells (arrK .i64 17 fun _ => 0) 222)) (w.heap.size + 1 + 1) 16 := ((At.new (k := .i64) (f := fun _ => 0) _ (by simp)).old _).row
  have hT0 : At ((((w.alloc (Obj.cells (arrK .i64 16 (dgt a)) 135)).alloc (Obj.cells (arrK .i64 16 (dgt b)) 135)).alloc (Obj.cells (arrK .i64 16 fun _ => 0) 135)).alloc (Obj.cells (arrK .i64 17 fun _ => 0) 222)) (w.heap.size + 1 + 1 + 1) .i64 17 (mixD F 0) := (At.new _ (by simp)).congr fun i _ => by simp [mixD]
  have hL := Lib.hid hL0
  have hR := Lib.hid hR0
  have hA := Lib.hid hA0
  have hB := Lib.hid hB0
  have hT := Lib.hid hT0
  clear hL0 hR0 hA0 hB0 hT0
  go_enter Tryd.func153, Tryd.ntmps153
  go_wp2_with fail
  generalize (((w.alloc _).alloc _).alloc _).alloc _ = W0 at *
  go_loopw [7] (fun i wr => ∃ s : Nat, i = .int .i64 s ∧ s ≤ 16 ∧ Hid (At wr w.heap.size .i64 16 (dgt a)) ∧ Hid (At wr (w.heap.size + 1) .i64 16 (dgt b)) ∧ Hid (Row wr (w.heap.size + 1 + 1) 16) ∧ Hid (At wr (w.heap.size + 1 + 1 + 1) .i64 17 (mixD F s)) ∧ Hid (Below w.heap.size w wr)) (fun i _ => 16 - (intOf i).toNat)
  case atStart => exact ⟨0, rfl, by omega, hA, hB, hR, hT, hL⟩
  case round =>
    clear hA hB hR hT hL
    obtain ⟨s, rfl, hs, hA, hB, hR, hT, hL⟩ := hrel
    by_cases h16 : s = 16
    · subst h16
      have hTc := hT.out.congr (f' := cut16 F) (mixD16 F)
      have hr1 := hTc.row
      have hr2 := hTc.eq
      rw [show ((16 : Nat) : Int) = 16 from rfl]
      clear hA hB hT
      go_wp2_with fail
      refine (hle.out _).mono ?_
      rintro e w2 ⟨rfl, hbz⟩
      have hR2 := row_below hR.out hbz hR.out.lt
      have hL2 := Lib.hid (below_step hbz hL.out (Nat.le_refl _))
      have hcv := arrK_cells .i64 16 (dgt V)
      clear hr1 hr2 hbz hTc hR hL
      dsimp only
      go_wp2_with fail
      exact ret_stored (p := 4) (ty := 135) (g := w.heap.size + 1 + 1) (n := 16) (c := arrK .i64 16 (dgt V)) rfl Tryd.underlying135 rfl (by kernel_rfl) rfl hR2 hcv.1 rfl ⟨rfl, below_setRow hL2.out (by omega)⟩
    · have hs16 : (s : Int) < 16 := by omega
      have hs17 : (s : Int) < 17 := by omega
      have ca := hA.out.cell (i := s) (by omega)
      have cb := hB.out.cell (i := s) (by omega)
      have ct := hT.out.cell (i := s) (by omega)
      have ft := hT.out.row.frozen s
      have hb := hF.out s
      have hx := hFx.out s
      have hA2 : Hid (At (wr.setCell ⟨w.heap.size + 1 + 1 + 1, s, none⟩ (.int .i64 (F s : Nat))) w.heap.size .i64 16 (dgt a)) := Lib.hid (hA.out.farC (by simp <;> omega))
      have hB2 : Hid (At (wr.setCell ⟨w.heap.size + 1 + 1 + 1, s, none⟩ (.int .i64 (F s : Nat))) (w.heap.size + 1) .i64 16 (dgt b)) := Lib.hid (hB.out.farC (by simp <;> omega))
      have hT2 := Lib.hid ((hT.out.set s (F s)).congr fun p _ => mixD_step F s p)
      have hR2 : Hid (Row (wr.setCell ⟨w.heap.size + 1 + 1 + 1, s, none⟩ (.int .i64 (F s : Nat))) (w.heap.size + 1 + 1) 16) := Lib.hid (row_setCell.2 hR.out)
      have hL2 := Lib.hid (show Below w.heap.size w (wr.setCell ⟨w.heap.size + 1 + 1 + 1, s, none⟩ (.int .i64 (F s : Nat))) from hL.out.setCell (by simp <;> omega) _)
      have hw : IntKind.i64.wrap ((dgt a s : Int) + (dgt b s : Int)) = (F s : Int) := by rw [IntKind.wrap_i64]; omega
      clear hx hb hA hB hR hT hL
      generalize mixD F s s = yy at *
      generalize F s = x at *
      generalize dgt a s = x1 at *
      generalize dgt b s = x2 at *
      go_wp2
      go_region
      all_goals
        go_wp2_with fail
        go_roundw
        case rel => exact ⟨s + 1, by go_num, by omega, Lib.hid hA2.out.drew, Lib.hid hB2.out.drew, Lib.hid hR2.out.drew, Lib.hid hT2.out.drew, Lib.hid hL2.out.drew⟩
        case measure => simp [intOf]; omega
theorem fe_Less (a b : Nat) (w : World) (ha : a < 2 ^ 256) (hb : b < 2 ^ 256) : Calls Tryd.prog 152 #[feV a, feV b] w fun e w' => e = .returned (feV ((a + 4 * fP - b) % fP)) ∧ Below w.heap.size w w' := by
  have hp : ∀ i, 65536 ≤ 4 * pdig i ∧ 4 * pdig i ≤ 262140 := fun i => by unfold pdig; split <;> (try split) <;> omega
  have hF : ∀ i, dgt a i + 4 * pdig i - dgt b i < 400000 ∧ dgt b i ≤ 4 * pdig i := fun i => by have := dgt_lt a i; have := dgt_lt b i; have := hp i; omega
  have htm : Tame (cut16 fun i => dgt a i + 4 * pdig i - dgt b i) := fun i _ => by
    show (if i < 16 then dgt a i + 4 * pdig i - dgt b i else 0) < _
    have := hF i
    split <;> omega
  have hle := Lib.hid (fun V => ref_least (cut16 fun i => dgt a i + 4 * pdig i - dgt b i) V htm)
  rw [cut_val, less_val ha hb (t := fun i => dgt a i + 4 * pdig i - dgt b i) fun i _ => by have := (hF i).2; omega] at hle
  replace hF := Lib.hid hF
  obtain ⟨V, hV⟩ : ∃ V, (a + 4 * fP - b) % fP = V := ⟨_, rfl⟩
  rw [hV] at hle ⊢
  clear hV htm ha hb hp
  unfold feV at hle ⊢
  have hFx := Lib.hid (fun i => show (fun i => dgt a i + 4 * pdig i - dgt b i) i = dgt a i + 4 * pdig i - dgt b i from rfl)
  generalize (fun i => dgt a i + 4 * pdig i - dgt b i) = F at *
  have hc0 := arrK_cells .i64 16 fun _ => 0
  have hc1 := arrK_cells .i64 17 fun _ => 0
  have hL0 : Below w.heap.size w ((((w.alloc (Obj.cells (arrK .i64 16 (dgt a)) 135)).alloc (Obj.cells (arrK .i64 16 (dgt b)) 135)).alloc (Obj.cells (arrK .i64 16 fun _ => 0) 135)).alloc (Obj.cells (arrK .i64 17 fun _ => 0) 222)) := by go_grown
  have hA0 : At ((((w.alloc (Obj.cells (arrK .i64 16 (dgt a)) 135)).alloc (Obj.cells (arrK .i64 16 (dgt b)) 135)).alloc (Obj.cells (arrK .i64 16 fun _ => 0) 135)).alloc (Obj.cells (arrK .i64 17 fun _ => 0) 222)) w.heap.size .i64 16 (dgt a) := (((At.new _ rfl).old _).old _).old _
  have hB0 : At ((((w.alloc (Obj.cells (arrK .i64 16 (dgt a)) 135)).alloc (Obj.cells (arrK .i64 16 (dgt b)) 135)).alloc (Obj.cells (arrK .i64 16 fun _ => 0) 135)).alloc (Obj.cells (arrK .i64 17 fun _ => 0) 222)) (w.heap.size + 1) .i64 16 (dgt b) := ((At.new _ (by simp)).old _).old _
  have hR0 : Row ((((w.alloc (Obj.cells (arrK .i64 16 (dgt a)) 135)).alloc (Obj.cells (arrK .i64 16 (dgt b)) 135)).alloc (Obj.cells (arrK .i64 16 fun _ => 0) 135)).alloc (Obj.cells (arrK .i64 17 fun _ => 0) 222)) (w.heap.size + 1 + 1) 16 := ((At.new (k := .i64) (f := fun _ => 0) _ (by simp)).old _).row
  have hT0 : At ((((w.alloc (Obj.cells (arrK .i64 16 (dgt a)) 135)).alloc (Obj.cells (arrK .i64 16 (dgt b)) 135)).alloc (Obj.cells (arrK .i64 16 fun _ => 0) 135)).alloc (Obj.cells (arrK .i64 17 fun _ => 0) 222)) (w.heap.size + 1 + 1 + 1) .i64 17 (mixD F 0) := (At.new _ (by simp)).congr fun i _ => by simp [mixD]
  have hL := Lib.hid hL0
  have hR := Lib.hid hR0
  have hA := Lib.hid hA0
  have hB := Lib.hid hB0
  have hT := Lib.hid hT0
  clear hL0 hR0 hA0 hB0 hT0
  go_enter Tryd.func152, Tryd.ntmps152
  go_wp2_with fail
  generalize (((w.alloc _).alloc _).alloc _).alloc _ = W0 at *
  go_loopw [8] (fun i wr => ∃ s : Nat, i = .int .i64 s ∧ s ≤ 16 ∧ Hid (At wr w.heap.size .i64 16 (dgt a)) ∧ Hid (At wr (w.heap.size + 1) .i64 16 (dgt b)) ∧ Hid (Row wr (w.heap.size + 1 + 1) 16) ∧ Hid (At wr (w.heap.size + 1 + 1 + 1) .i64 17 (mixD F s)) ∧ Hid (Below w.heap.size w wr)) (fun i _ => 16 - (intOf i).toNat)
  case atStart => exact ⟨0, rfl, by omega, hA, hB, hR, hT, hL⟩
  case round =>
    clear hA hB hR hT hL
    obtain ⟨s, rfl, hs, hA, hB, hR, hT, hL⟩ := hrel
    by_cases h16 : s = 16
    · subst h16
      have hTc := hT.out.congr (f' := cut16 F) (mixD16 F)
      have hr1 := hTc.row
      have hr2 := hTc.eq
      rw [show ((16 : Nat) : Int) = 16 from rfl]
      clear hA hB hT
      go_wp2_with fail
      refine (hle.out _).mono ?_
      rintro e w2 ⟨rfl, hbz⟩
      have hR2 := row_below hR.out hbz hR.out.lt
      have hL2 := Lib.hid (below_step hbz hL.out (Nat.le_refl _))
      have hcv := arrK_cells .i64 16 (dgt V)
      clear hr1 hr2 hbz hTc hR hL
      dsimp only
      go_wp2_with fail
      exact ret_stored (p := 4) (ty := 135) (g := w.heap.size + 1 + 1) (n := 16) (c := arrK .i64 16 (dgt V)) rfl Tryd.underlying135 rfl (by kernel_rfl) rfl hR2 hcv.1 rfl ⟨rfl, below_setRow hL2.out (by omega)⟩
    · have hs16 : (s : Int) < 16 := by omega
      have hs17 : (s : Int) < 17 := by omega
      have ca := hA.out.cell (i := s) (by omega)
      have cb := hB.out.cell (i := s) (by omega)
      have ct := hT.out.cell (i := s) (by omega)
      have ft := hT.out.row.frozen s
      have hb := hF.out s
      have hx := hFx.out s
      have hA2 : Hid (At (wr.setCell ⟨w.heap.size + 1 + 1 + 1, s, none⟩ (.int .i64 (F s : Nat))) w.heap.size .i64 16 (dgt a)) := Lib.hid (hA.out.farC (by simp <;> omega))
      have hB2 : Hid (At (wr.setCell ⟨w.heap.size + 1 + 1 + 1, s, none⟩ (.int .i64 (F s : Nat))) (w.heap.size + 1) .i64 16 (dgt b)) := Lib.hid (hB.out.farC (by simp <;> omega))
      have hT2 := Lib.hid ((hT.out.set s (F s)).congr fun p _ => mixD_step F s p)
      have hR2 : Hid (Row (wr.setCell ⟨w.heap.size + 1 + 1 + 1, s, none⟩ (.int .i64 (F s : Nat))) (w.heap.size + 1 + 1) 16) := Lib.hid (row_setCell.2 hR.out)
      have hL2 := Lib.hid (show Below w.heap.size w (wr.setCell ⟨w.heap.size + 1 + 1 + 1, s, none⟩ (.int .i64 (F s : Nat))) from hL.out.setCell (by simp <;> omega) _)
      have hax := dgt_lt a s
      have hbx := dgt_lt b s
      clear hA hB hR hT hL
      generalize mixD F s s = yy at *
      generalize F s = x at *
      generalize dgt a s = x1 at *
      generalize dgt b s = x2 at *
      by_cases h0 : s = 0
      · have hm : 4 * pdig s = 262068 := by rw [h0]; rfl
        have t0 : ((s : Int) == 0) = true := by rw [beq_iff_eq]; omega
        have t15 : ((s : Int) == 15) = false := by rw [beq_eq_false_iff_ne]; omega
        clear h0
        rw [hm] at hx hb
        have hw1 : IntKind.i64.wrap ((x1 : Int) + 262068) = (x1 : Int) + 262068 := by rw [IntKind.wrap_i64]; omega
        have hw2 : IntKind.i64.wrap ((x1 : Int) + 262068 - (x2 : Int)) = (x : Int) := by rw [IntKind.wrap_i64]; omega
        clear hx hb hm hax hbx
        go_wp2
        go_region
        all_goals
          go_wp2_with fail
          go_roundw
          case rel => exact ⟨s + 1, by go_num, by omega, Lib.hid hA2.out.drew, Lib.hid hB2.out.drew, Lib.hid hR2.out.drew, Lib.hid hT2.out.drew, Lib.hid hL2.out.drew⟩
          case measure => simp [intOf]; omega
      · have t0 : ((s : Int) == 0) = false := by rw [beq_eq_false_iff_ne]; omega
        by_cases h15 : s = 15
        · have hm : 4 * pdig s = 131068 := by rw [h15]; rfl
          have t15 : ((s : Int) == 15) = true := by rw [beq_iff_eq]; omega
          clear h0 h15
          rw [hm] at hx hb
          have hw1 : IntKind.i64.wrap ((x1 : Int) + 131068) = (x1 : Int) + 131068 := by rw [IntKind.wrap_i64]; omega
          have hw2 : IntKind.i64.wrap ((x1 : Int) + 131068 - (x2 : Int)) = (x : Int) := by rw [IntKind.wrap_i64]; omega
          clear hx hb hm hax hbx
          go_wp2
          go_region
          all_goals
            go_wp2_with fail
            go_roundw
            case rel => exact ⟨s + 1, by go_num, by omega, Lib.hid hA2.out.drew, Lib.hid hB2.out.drew, Lib.hid hR2.out.drew, Lib.hid hT2.out.drew, Lib.hid hL2.out.drew⟩
            case measure => simp [intOf]; omega
        · have hm : 4 * pdig s = 262140 := by unfold pdig; rw [if_neg h0, if_neg h15]
          have t15 : ((s : Int) == 15) = false := by rw [beq_eq_false_iff_ne]; omega
          rw [hm] at hx hb
          have hw1 : IntKind.i64.wrap ((x1 : Int) + 262140) = (x1 : Int) + 262140 := by rw [IntKind.wrap_i64]; omega
          have hw2 : IntKind.i64.wrap ((x1 : Int) + 262140 - (x2 : Int)) = (x : Int) := by rw [IntKind.wrap_i64]; omega
          clear hx hb hm hax hbx
          go_wp2
          go_region
          all_goals
            go_wp2_with fail
            go_roundw
            case rel => exact ⟨s + 1, by go_num, by omega, Lib.hid hA2.out.drew, Lib.hid hB2.out.drew, Lib.hid hR2.out.drew, Lib.hid hT2.out.drew, Lib.hid hL2.out.drew⟩
            case measure => simp [intOf]; omega
end Go.Proofs.YtgdiokklfihfoaaDoor
namespace Go.Proofs.YtgdiokklfihfoaaDoor
open Go.ChangeShapes Go.WideShapes Go.ChangeAt Go.RowKit
set_option maxHeartbeats 2000000
set_option maxRecDepth 100000
theorem zeroT32 : #[Value.int IntKind.i64 0, Value.int IntKind.i64 0, Value.int IntKind.i64 0, Value.int IntKind.i64 0, Value.int IntKind.i64 0, Value.int IntKind.i64 0, Value.int IntKind.i64 0, Value.int IntKind.i64 0, Value.int IntKind.i64 0, Value.int IntKind.i64 0, Value.int IntKind.i64 0, Value.int IntKind.i64 0, Value.int IntKind.i64 0, Value.int IntKind.i64 0, Value.int IntKind.i64 0, Value.int IntKind.i64 0, Value.int IntKind.i64 0, Value.int IntKind.i64 0, Value.int IntKind.i64 0, Value.int IntKind.i64 0, Value.int IntKind.i64 0, Value.int IntKind.i64 0, Value.int IntKind.i64 0, Value.int IntKind.i64 0, Value.int IntKind.i64 0, Value.int IntKind.i64 0, Value.int IntKind.i64 0, Value.int IntKind.i64 0, Value.int IntKind.i64 0, Value.int IntKind.i64 0, Value.int IntKind.i64 0, Value.int IntKind.i64 0] = arrK .i64 32 fun _ => 0 := by kernel_rfl
attribute [local go_sem ↓] load_fe store_fe execl_fe execs_fe load_t17 store_t17 execl_t17 execs_t17
attribute [local go_sem] isHead_mk blkOf_mk isAgg_mk cellsV_mk row_drew rowAt_drew row_new_cells row_old rowAt_new rowAt_old setRow_new zeroFe zeroT
attribute [local go_sem] zeroT32
theorem dval_split (f : Nat → Nat) (m n : Nat) : dval f (m + n) = dval f m + 65536 ^ m * dval (fun j => f (j + m)) n := by
  induction n with
  | zero => simp [dval]
  | succ n ih => rw [← Nat.add_assoc, dval, ih, dval, Nat.mul_add, Nat.pow_add, Nat.mul_assoc, Nat.add_comm n m]; omega
theorem dval_upd (f : Nat → Nat) (j v : Nat) : ∀ n, j < n → dval (upd f j v) n + 65536 ^ j * f j = dval f n + 65536 ^ j * v
  | 0, h => by omega
  | n + 1, h => by
    by_cases e : j = n
    · subst e
      have h1 : dval (upd f j v) j = dval f j := dval_congr fun i hi => by unfold upd; rw [if_neg (by omega)]
      rw [dval, dval, h1]
      unfold upd
      rw [if_pos rfl]
      omega
    · have ih := dval_upd f j v n (by omega)
      rw [dval, dval, show upd f j v n = f n by unfold upd; rw [if_neg (by omega)]]
      omega
/-- What stands in p while the product is made: row i, up to place k. -/
structure ByI (a b i k : Nat) (p : Nat → Nat) : Prop where
  val : dval p 32 = a % 65536 ^ i * b + 65536 ^ i * dgt a i * (b % 65536 ^ k)
  le : ∀ j, p j ≤ (16 * i + k) * 4294836225
theorem ByI.start (a b : Nat) : ByI a b 0 0 fun _ => 0 := by
  have h : ∀ n, dval (fun _ => 0) n = 0 := fun n => by induction n with
    | zero => rfl
    | succ n ih => simp [dval, ih]
  exact ⟨by rw [h, Nat.pow_zero, Nat.mod_one, Nat.mod_one]; simp, fun _ => Nat.zero_le _⟩
theorem dgt_up (b k : Nat) : b % 65536 ^ (k + 1) = b % 65536 ^ k + 65536 ^ k * dgt b k := by unfold dgt; rw [Nat.pow_succ, Nat.mod_mul]
theorem ByI.step {a b i k : Nat} {p : Nat → Nat} (h : ByI a b i k p) (hi : i < 16) (hk : k < 16) : ByI a b i (k + 1) (upd p (i + k) (p (i + k) + dgt a i * dgt b k)) := by
  refine ⟨?_, fun j => ?_⟩
  · have h1 := dval_upd p (i + k) (p (i + k) + dgt a i * dgt b k) 32 (by omega)
    have h2 := h.val
    rw [Nat.mul_add (65536 ^ (i + k))] at h1
    rw [dgt_up, Nat.mul_add, show 65536 ^ i * dgt a i * (65536 ^ k * dgt b k) = 65536 ^ (i + k) * (dgt a i * dgt b k) by rw [Nat.pow_add]; simp only [Nat.mul_assoc, Nat.mul_left_comm]]
    omega
  · have h1 : dgt a i * dgt b k ≤ 4294836225 := Nat.le_trans (Nat.mul_le_mul (show dgt a i ≤ 65535 by have := dgt_lt a i; omega) (show dgt b k ≤ 65535 by have := dgt_lt b k; omega)) (by decide)
    have h2 := h.le j
    have h3 := h.le (i + k)
    rw [← Nat.add_assoc, Nat.add_mul _ 1, Nat.one_mul]
    unfold upd
    generalize (16 * i + k) * 4294836225 = M at *
    generalize dgt a i * dgt b k = q at *
    by_cases e : j = i + k
    · rw [if_pos e]; omega
    · rw [if_neg e]; omega
theorem ByI.row {a b i : Nat} {p : Nat → Nat} (h : ByI a b i 16 p) (hb : b < 2 ^ 256) : ByI a b (i + 1) 0 p := by
  refine ⟨?_, fun j => by have := h.le j; omega⟩
  rw [h.val, p16, Nat.mod_eq_of_lt hb, dgt_up, Nat.pow_zero, Nat.mod_one, Nat.mul_zero, Nat.add_zero, Nat.add_mul]
/-- The folded digits. -/
def byG (p : Nat → Nat) (i : Nat) : Nat := p i + 38 * p (i + 16)
theorem byG_val {a b : Nat} {p : Nat → Nat} (h : ByI a b 16 0 p) (ha : a < 2 ^ 256) : dval (byG p) 16 % fP = a * b % fP := by
  have h1 := h.val
  rw [p16, Nat.mod_eq_of_lt ha, Nat.pow_zero, Nat.mod_one, Nat.mul_zero, Nat.add_zero, show (32 : Nat) = 16 + 16 from rfl, dval_split, p16] at h1
  have h2 : ∀ n, dval (byG p) n = dval p n + 38 * dval (fun j => p (j + 16)) n := fun n => by
    induction n with
    | zero => rfl
    | succ n ih => simp only [dval]; rw [ih]; unfold byG; rw [Nat.mul_add, Nat.mul_left_comm (65536 ^ n)]; omega
  rw [h2, ← h1, fold_P]
theorem byG_le {a b : Nat} {p : Nat → Nat} (h : ByI a b 16 0 p) (i : Nat) : byG p i ≤ 42880364870400 := by
  have h1 := h.le i
  have h2 := h.le (i + 16)
  unfold byG
  omega
/-- The digits that least is handed. -/
def byT (G : Nat → Nat) (i : Nat) : Nat := if i < 16 then lout G 0 i else lcar G 0 16
theorem byG_car {G : Nat → Nat} (h : ∀ i, G i ≤ 42880364870400) : ∀ k, lcar G 0 k ≤ 42880364870400
  | 0 => Nat.zero_le _
  | k + 1 => by
    have h1 := byG_car h k
    have h2 := h k
    unfold lcar; omega
theorem byT_tame {G : Nat → Nat} (h : ∀ i, G i ≤ 42880364870400) : Tame (byT G) := by
  intro i _
  have h1 := byG_car h 16
  unfold byT
  split
  · exact Nat.lt_trans (lout_lt _ _ _) (by omega)
  · omega
theorem byT_val (G : Nat → Nat) : dval (byT G) 16 + 2 ^ 256 * byT G 16 = dval G 16 := by
  have h := lout_dval G 0 16
  rw [p16] at h
  rw [dval_congr (f := byT G) (g := lout G 0) fun i hi => by unfold byT; rw [if_pos hi], show byT G 16 = lcar G 0 16 from rfl]
  exact h
theorem byT_end (G : Nat → Nat) (p : Nat) (hp : p < 17) : upd (mixD (lout G 0) 16) 16 (lcar G 0 16) p = byT G p := by
  unfold upd mixD byT
  by_cases h : p = 16
  · subst h; simp
  · simp [h, show p < 16 by omega]
theorem load_t32 {w : World} {dst : Option Tmp} {x : Operand} {tt : TypeId} {pos : String} {af : Array Edge} {gd : Option (Nat × Bool)} {a : Act} {K : Act → World → Prop} {Q : Exit → Act → World → Prop}
    (hv : IsHead (a.eval x)) (h : Row w (blkOf (a.eval x)) 32) : Oper.wp Tryd.prog ⟨dst, .load 221 x, tt, pos, af, gd⟩ a w K Q ↔ K (a.put dst (.agg (rowAt w (blkOf (a.eval x))))) w :=
  wp_load_whole Tryd.underlying221 rfl (by kernel_rfl) hv h
theorem store_t32 {w : World} {dst : Option Tmp} {x y : Operand} {tt : TypeId} {pos : String} {af : Array Edge} {gd : Option (Nat × Bool)} {a : Act} {K : Act → World → Prop} {Q : Exit → Act → World → Prop}
    (hv : IsHead (a.eval x)) (h : Row w (blkOf (a.eval x)) 32) (hx : IsAgg (a.eval y) 32) : Oper.wp Tryd.prog ⟨dst, .store 221 x y, tt, pos, af, gd⟩ a w K Q ↔ K (a.put dst undef) (w.setRow (blkOf (a.eval x)) (cellsV (a.eval y))) :=
  wp_store_whole (by kernel_rfl) hv h hx
theorem execl_t32 {w : World} {dst : Option Tmp} {x : Operand} {tt : TypeId} {pos : String} {af : Array Edge} {gd : Option (Nat × Bool)} {ρ : Operand → Value}
    (hv : IsHead (ρ x)) (h : Row w (blkOf (ρ x)) 32) : (execOp ρ ⟨dst, .load 221 x, tt, pos, af, gd⟩).run Tryd.prog w = .ok (.value (.agg (rowAt w (blkOf (ρ x))))) w :=
  exec_load_whole Tryd.underlying221 rfl (by kernel_rfl) hv h
theorem execs_t32 {w : World} {dst : Option Tmp} {x y : Operand} {tt : TypeId} {pos : String} {af : Array Edge} {gd : Option (Nat × Bool)} {ρ : Operand → Value}
    (hv : IsHead (ρ x)) (h : Row w (blkOf (ρ x)) 32) (hx : IsAgg (ρ y) 32) : (execOp ρ ⟨dst, .store 221 x y, tt, pos, af, gd⟩).run Tryd.prog w = .ok .skip (w.setRow (blkOf (ρ x)) (cellsV (ρ y))) :=
  exec_store_whole (by kernel_rfl) hv h hx

attribute [local go_sem ↓] load_t32 store_t32
theorem fe_By (a b : Nat) (w : World) (ha : a < 2 ^ 256) (hb : b < 2 ^ 256) : Calls Tryd.prog 112 #[feV a, feV b] w fun e w' => e = .returned (feV (a * b % fP)) ∧ Below w.heap.size w w' := by
  have hle := Lib.hid (fun G (h : ∀ i, G i ≤ 42880364870400) V => ref_least (byT G) V (byT_tame h))
  have hval := Lib.hid (fun p (h : ByI a b 16 0 p) => byG_val h ha)
  have hrow := Lib.hid (fun i p (h : ByI a b i 16 p) => h.row hb)
  have hI0 := Lib.hid (ByI.start a b)
  clear ha hb
  unfold feV at hle ⊢
  have hc0 := arrK_cells .i64 16 fun _ => 0
  have hc1 := arrK_cells .i64 17 fun _ => 0
  have hc2 := arrK_cells .i64 32 fun _ => 0
  have hL0 : Below w.heap.size w ((((w.alloc (Obj.cells (arrK .i64 16 (dgt a)) 135)).alloc (Obj.cells (arrK .i64 16 (dgt b)) 135)).alloc (Obj.cells (arrK .i64 16 fun _ => 0) 135)).alloc (Obj.cells (arrK .i64 32 fun _ => 0) 221)) := by go_grown
  have hA0 : At ((((w.alloc (Obj.cells (arrK .i64 16 (dgt a)) 135)).alloc (Obj.cells (arrK .i64 16 (dgt b)) 135)).alloc (Obj.cells (arrK .i64 16 fun _ => 0) 135)).alloc (Obj.cells (arrK .i64 32 fun _ => 0) 221)) w.heap.size .i64 16 (dgt a) := (((At.new _ rfl).old _).old _).old _
  have hB0 : At ((((w.alloc (Obj.cells (arrK .i64 16 (dgt a)) 135)).alloc (Obj.cells (arrK .i64 16 (dgt b)) 135)).alloc (Obj.cells (arrK .i64 16 fun _ => 0) 135)).alloc (Obj.cells (arrK .i64 32 fun _ => 0) 221)) (w.heap.size + 1) .i64 16 (dgt b) := ((At.new _ (by simp)).old _).old _
  have hR0 : Row ((((w.alloc (Obj.cells (arrK .i64 16 (dgt a)) 135)).alloc (Obj.cells (arrK .i64 16 (dgt b)) 135)).alloc (Obj.cells (arrK .i64 16 fun _ => 0) 135)).alloc (Obj.cells (arrK .i64 32 fun _ => 0) 221)) (w.heap.size + 1 + 1) 16 := ((At.new (k := .i64) (f := fun _ => 0) _ (by simp)).old _).row
  have hP0 : At ((((w.alloc (Obj.cells (arrK .i64 16 (dgt a)) 135)).alloc (Obj.cells (arrK .i64 16 (dgt b)) 135)).alloc (Obj.cells (arrK .i64 16 fun _ => 0) 135)).alloc (Obj.cells (arrK .i64 32 fun _ => 0) 221)) (w.heap.size + 1 + 1 + 1) .i64 32 (fun _ => 0) := At.new _ (by simp)
  have hL := Lib.hid hL0
  have hR := Lib.hid hR0
  have hA := Lib.hid hA0
  have hB := Lib.hid hB0
  have hP := Lib.hid hP0
  clear hL0 hR0 hA0 hB0 hP0
  go_enter Tryd.func112, Tryd.ntmps112
  go_wp2_with fail
  generalize (((w.alloc _).alloc _).alloc _).alloc _ = W0 at *
  go_loopw [11] (fun i wr => ∃ (s : Nat) (p : Nat → Nat), i = .int .i64 s ∧ s ≤ 16 ∧ Hid (ByI a b s 0 p) ∧ Hid (At wr w.heap.size .i64 16 (dgt a)) ∧ Hid (At wr (w.heap.size + 1) .i64 16 (dgt b)) ∧ Hid (Row wr (w.heap.size + 1 + 1) 16) ∧ Hid (At wr (w.heap.size + 1 + 1 + 1) .i64 32 p) ∧ Hid (Below w.heap.size w wr)) (fun i _ => 16 - (intOf i).toNat)
  case atStart => exact ⟨0, _, rfl, by omega, hI0, hA, hB, hR, hP, hL⟩
  case round =>
    clear hI0 hA hB hR hP hL
    obtain ⟨s, p, rfl, hs, hI, hA, hB, hR, hP, hL⟩ := hrel
    by_cases h16 : s = 16
    · subst h16
      rw [show ((16 : Nat) : Int) = 16 from rfl]
      have hcG := Lib.hid (byG_le hI.out)
      have hvG := hval.out p hI.out
      have hcar := Lib.hid (byG_car hcG.out)
      have hle2 := Lib.hid (hle.out (byG p) hcG.out)
      rw [byT_val, hvG] at hle2
      obtain ⟨V, hV⟩ : ∃ V, a * b % fP = V := ⟨_, rfl⟩
      rw [hV] at hle2
      have hVV := Lib.hid hV
      have hpl := Lib.hid hI.out.le
      have hGx := Lib.hid (fun i => show byG p i = p i + 38 * p (i + 16) from rfl)
      have hbe := Lib.hid (byT_end (byG p))
      clear hV hvG hle hval hrow hI
      obtain ⟨G, hG⟩ : ∃ G, byG p = G := ⟨_, rfl⟩
      rw [hG] at hGx hcG hcar hle2 hbe
      clear hG
      have hR1 := Lib.hid ((row_old (o := Obj.cells (arrK .i64 17 fun _ => 0) 222) hR.out.lt).2 hR.out)
      have hL1 := Lib.hid (Below.trans hL.out ((below_alloc wr (Obj.cells (arrK .i64 17 fun _ => 0) 222)).mono hL.out.size))
      have hP1 := Lib.hid (hP.out.old (Obj.cells (arrK .i64 17 fun _ => 0) 222))
      have hT1 := Lib.hid ((At.new (w := wr) (k := .i64) (m := 17) (f := fun _ => 0) 222 rfl).congr (f' := mixD (lout G 0) 0) fun i _ => by simp [mixD])
      have hlt := hP.out.lt
      clear hA hB hR hL hP
      go_wp2_with fail
      obtain ⟨g, hg⟩ : ∃ g, wr.heap.size = g := ⟨_, rfl⟩
      rw [hg] at hT1 hlt ⊢
      clear hg
      generalize wr.alloc _ = W1 at *
      go_loopw [9, 33] (fun c i wr => ∃ s : Nat, i = .int .i64 s ∧ s ≤ 16 ∧ c = .int .i64 (lcar G 0 s : Nat) ∧ Hid (Row wr (w.heap.size + 1 + 1) 16) ∧ Hid (At wr (w.heap.size + 1 + 1 + 1) .i64 32 p) ∧ Hid (At wr g .i64 17 (mixD (lout G 0) s)) ∧ Hid (Below w.heap.size w wr)) (fun _ i _ => 16 - (intOf i).toNat)
      case atStart => exact ⟨0, rfl, by omega, rfl, hR1, hP1, hT1, hL1⟩
      case round =>
        clear hR1 hP1 hT1 hL1
        obtain ⟨s, rfl, hs, rfl, hR, hP, hT, hL⟩ := hrel
        by_cases h16 : s = 16
        · subst h16
          rw [show ((16 : Nat) : Int) = 16 from rfl]
          have ct := hT.out.cell (i := 16) (by omega)
          have ft := hT.out.row.frozen 16
          have hT2 := Lib.hid ((hT.out.set 16 (lcar G 0 16)).congr hbe.out)
          have hR2 : Hid (Row (wr.setCell ⟨g, 16, none⟩ (.int .i64 (lcar G 0 16 : Nat))) (w.heap.size + 1 + 1) 16) := Lib.hid (row_setCell.2 hR.out)
          have hL2 := Lib.hid (show Below w.heap.size w (wr.setCell ⟨g, 16, none⟩ (.int .i64 (lcar G 0 16 : Nat))) from hL.out.setCell (by simp <;> omega) _)
          clear hT hR hL hP hbe hcG hcar hpl hGx
          generalize lcar G 0 16 = cc at *
          generalize mixD (lout G 0) 16 16 = yy at *
          go_upto_region 21 with (fail)
          generalize wr.setCell _ _ = W2 at *
          have hr1 := hT2.out.row
          have hr2 := hT2.out.eq
          go_wp2_with fail
          refine (hle2.out _).mono ?_
          rintro e w2 ⟨rfl, hbz⟩
          have hR3 := row_below hR2.out hbz hR2.out.lt
          have hL3 := Lib.hid (below_step hbz hL2.out (Nat.le_refl _))
          have hcv := arrK_cells .i64 16 (dgt V)
          clear hr1 hr2 hbz hT2 hR2 hL2
          dsimp only
          go_wp2_with fail
          exact ret_stored (p := 4) (ty := 135) (g := w.heap.size + 1 + 1) (n := 16) (c := arrK .i64 16 (dgt V)) rfl Tryd.underlying135 rfl (by kernel_rfl) rfl hR3 hcv.1 rfl ⟨by rw [hVV.out], below_setRow hL3.out (by omega)⟩
        · have hs16 : (s : Int) < 16 := by omega
          have hs17 : (s : Int) < 17 := by omega
          have hs32 : (s : Int) < 32 := by omega
          have hs3 : (s : Int) + 16 < 32 := by omega
          have hs0 : (0 : Int) ≤ (s : Int) + 16 := by omega
          have hsn : ((s : Int) + 16).toNat = s + 16 := by omega
          have c1 := hP.out.cell (i := s) (by omega)
          have c2 := hP.out.cell (i := s + 16) (by omega)
          have ct := hT.out.drew.cell (i := s) (by omega)
          have ft := hT.out.drew.row.frozen s
          have hl := hcar.out s
          have hb := hcG.out s
          have hp1 := hpl.out s
          have hp2 := hpl.out (s + 16)
          have hgx := hGx.out s
          have hn1 := Lib.hid (show lcar G 0 (s + 1) = (lcar G 0 s + G s) / 65536 from rfl)
          have hn2 := Lib.hid (show lout G 0 s = (lcar G 0 s + G s) % 65536 from rfl)
          have hT2 := Lib.hid ((hT.out.drew.set s (lout G 0 s)).congr fun p _ => mixD_step (lout G 0) s p)
          have hP2 : Hid (At (wr.drew.setCell ⟨g, s, none⟩ (.int .i64 (lout G 0 s : Nat))) (w.heap.size + 1 + 1 + 1) .i64 32 p) := Lib.hid (hP.out.drew.farC (by simp <;> omega))
          have hR2 : Hid (Row (wr.drew.setCell ⟨g, s, none⟩ (.int .i64 (lout G 0 s : Nat))) (w.heap.size + 1 + 1) 16) := Lib.hid (row_setCell.2 hR.out.drew)
          have hL2 := Lib.hid (show Below w.heap.size w (wr.drew.setCell ⟨g, s, none⟩ (.int .i64 (lout G 0 s : Nat))) from hL.out.drew.setCell (by simp <;> omega) _)
          rw [hn2.out] at hT2 hP2 hR2 hL2
          obtain ⟨x, hx⟩ : ∃ x, lcar G 0 s + G s = x := ⟨_, rfl⟩
          rw [hx] at hn1 hT2 hP2 hR2 hL2
          rw [show ((x % 65536 : Nat) : Int) = (x : Int) % 65536 from by omega] at hT2 hP2 hR2 hL2
          have hw0 : IntKind.i64.wrap (38 * (p (s + 16) : Int)) = 38 * (p (s + 16) : Int) := by rw [IntKind.wrap_i64]; omega
          have hw1 : IntKind.i64.wrap ((p s : Int) + 38 * (p (s + 16) : Int)) = (G s : Int) := by rw [IntKind.wrap_i64]; omega
          have hw2 : IntKind.i64.wrap ((lcar G 0 s : Int) + (G s : Int)) = (x : Int) := by rw [IntKind.wrap_i64]; omega
          have hw3 : IntKind.i64.wrap ((s : Int) + 16) = (s : Int) + 16 := by rw [IntKind.wrap_i64]; omega
          have hand := num_andM (a := x) (by omega)
          have hxb : x < 9223372036854775808 := by omega
          clear hx hT hR hL hP hn2 hl hb hp1 hp2 hgx
          generalize lcar G 0 s = c at *
          generalize mixD (lout G 0) s s = yy at *
          obtain ⟨gs, hgs⟩ : ∃ x, G s = x := ⟨_, rfl⟩
          rw [hgs] at hw1 hw2
          clear hgs
          go_wp2
          go_region
          all_goals
            go_wp2_with fail
            go_roundw
            case rel => exact ⟨s + 1, by go_num, by omega, congrArg (Value.int .i64) (by rw [hn1.out]; omega), hR2, hP2, hT2, hL2⟩
            case measure => simp [intOf]; omega
    · have hs16 : (s : Int) < 16 := by omega
      clear hle hval
      go_wp2_with fail
      go_loopw [14] (fun i wr => ∃ (k : Nat) (p : Nat → Nat), i = .int .i64 k ∧ k ≤ 16 ∧ Hid (ByI a b s k p) ∧ Hid (At wr w.heap.size .i64 16 (dgt a)) ∧ Hid (At wr (w.heap.size + 1) .i64 16 (dgt b)) ∧ Hid (Row wr (w.heap.size + 1 + 1) 16) ∧ Hid (At wr (w.heap.size + 1 + 1 + 1) .i64 32 p) ∧ Hid (Below w.heap.size w wr)) (fun i _ => 16 - (intOf i).toNat)
      case atStart => exact ⟨0, p, rfl, by omega, hI, hA, hB, hR, hP, hL⟩
      case round =>
        clear hI hA hB hR hP hL p
        obtain ⟨k, p, rfl, hk, hI, hA, hB, hR, hP, hL⟩ := hrel
        by_cases hk16 : k = 16
        · subst hk16
          rw [show ((16 : Nat) : Int) = 16 from rfl]
          have hI2 := Lib.hid (hrow.out s p hI.out)
          clear hrow
          go_wp2_with fail
          go_roundw
          case rel => exact ⟨s + 1, p, by go_num, by omega, hI2, hA, hB, hR, hP, hL⟩
          case measure => simp [intOf]; omega
        · have hk0 : (k : Int) < 16 := by omega
          have hI2 := Lib.hid (hI.out.step (by omega) (by omega))
          have hpb := hI.out.le (s + k)
          have hpb2 := hI2.out.le (s + k)
          rw [show upd p (s + k) (p (s + k) + dgt a s * dgt b k) (s + k) = p (s + k) + dgt a s * dgt b k by unfold upd; rw [if_pos rfl]] at hpb2
          have ca := hA.out.cell (i := s) (by omega)
          have cb := hB.out.cell (i := k) (by omega)
          have cp := hP.out.cell (i := s + k) (by omega)
          have fp := hP.out.row.frozen (s + k)
          have hax := dgt_lt a s
          have hbx := dgt_lt b k
          have hm1 : dgt a s * dgt b k ≤ 65535 * 65535 := Nat.mul_le_mul (by omega) (by omega)
          obtain ⟨v, hv⟩ : ∃ v, p (s + k) + dgt a s * dgt b k = v := ⟨_, rfl⟩
          rw [hv] at hI2 hpb2
          have hA2 : Hid (At (wr.setCell ⟨w.heap.size + 1 + 1 + 1, s + k, none⟩ (.int .i64 (v : Nat))) w.heap.size .i64 16 (dgt a)) := Lib.hid (hA.out.farC (by simp <;> omega))
          have hB2 : Hid (At (wr.setCell ⟨w.heap.size + 1 + 1 + 1, s + k, none⟩ (.int .i64 (v : Nat))) (w.heap.size + 1) .i64 16 (dgt b)) := Lib.hid (hB.out.farC (by simp <;> omega))
          have hP2 := Lib.hid (hP.out.set (s + k) v)
          have hR2 : Hid (Row (wr.setCell ⟨w.heap.size + 1 + 1 + 1, s + k, none⟩ (.int .i64 (v : Nat))) (w.heap.size + 1 + 1) 16) := Lib.hid (row_setCell.2 hR.out)
          have hL2 := Lib.hid (show Below w.heap.size w (wr.setCell ⟨w.heap.size + 1 + 1 + 1, s + k, none⟩ (.int .i64 (v : Nat))) from hL.out.setCell (by simp <;> omega) _)
          obtain ⟨m, hm⟩ : ∃ m, dgt a s * dgt b k = m := ⟨_, rfl⟩
          rw [hm] at hv hm1
          have hmi : ((dgt a s : Int) * (dgt b k : Int)) = (m : Int) := by rw [← hm]; simp
          have hw0 : IntKind.i64.wrap ((dgt a s : Int) * (dgt b k : Int)) = (m : Int) := by rw [hmi, IntKind.wrap_i64]; omega
          have hw1 : IntKind.i64.wrap ((p (s + k) : Int) + (m : Int)) = (v : Int) := by rw [IntKind.wrap_i64]; omega
          have hw2 : IntKind.i64.wrap ((s : Int) + k) = (s : Int) + k := by rw [IntKind.wrap_i64]; omega
          have hw3 : (0 : Int) ≤ (s : Int) + k := by omega
          have hw4 : (s : Int) + k < 32 := by omega
          have hw5 : ((s : Int) + k).toNat = s + k := by omega
          clear hv hm hmi hm1 hpb hpb2 hax hbx hA hB hP hR hL hI hrow
          generalize p (s + k) = x0 at *
          generalize dgt a s = x1 at *
          generalize dgt b k = x2 at *
          go_wp2
          go_region
          all_goals
            go_wp2_with fail
            go_roundw
            case rel => exact ⟨k + 1, _, by go_num, by omega, hI2, Lib.hid hA2.out.drew, Lib.hid hB2.out.drew, Lib.hid hR2.out.drew, Lib.hid hP2.out.drew, Lib.hid hL2.out.drew⟩
            case measure => simp [intOf]; omega
end Go.Proofs.YtgdiokklfihfoaaDoor
namespace Go.Proofs.YtgdiokklfihfoaaDoor
open Go.ChangeShapes Go.WideShapes Go.ChangeAt Go.RowKit
set_option maxHeartbeats 1000000
set_option maxRecDepth 100000

/-- A number whose digits lie at block B or behind. -/
def IsNF (w : World) (B : Nat) (v : Value) (n : Nat) : Prop := ∃ A l c, v = .slice A l.length c ∧ Ds w A l c ∧ Dg l n ∧ ∀ ad, A = some ad → B ≤ ad.block
def RetNF (n : Nat) (w : World) (e : Ending) (w' : World) : Prop := ∃ v, e = .returned v ∧ IsNF w' w.heap.size v n ∧ Below w.heap.size w w'
theorem IsNF.toN {w : World} {B : Nat} {v : Value} {n : Nat} (h : IsNF w B v n) : IsN w v n := by
  obtain ⟨A, l, c, e, h1, h2, -⟩ := h
  exact ⟨A, l, c, e, h1, h2⟩
theorem IsNF.mono {w : World} {B B' : Nat} {v : Value} {n : Nat} (h : IsNF w B v n) (hB : B' ≤ B) : IsNF w B' v n := by
  obtain ⟨A, l, c, e, h1, h2, h3⟩ := h
  exact ⟨A, l, c, e, h1, h2, fun ad ha => Nat.le_trans hB (h3 ad ha)⟩
theorem IsNF.step {w w' : World} {B : Nat} {v : Value} {n : Nat} (hb : Below w.heap.size w w') (h : IsNF w B v n) : IsNF w' B v n := by
  obtain ⟨A, l, c, e, h1, h2, h3⟩ := h
  exact ⟨A, l, c, e, h1.below hb (Nat.le_refl _), h2, h3⟩
theorem IsNF.setCell {w : World} {B : Nat} {v : Value} {n : Nat} (h : IsNF w B v n) {a : Addr} (ha : a.block < B) (u : Value) : IsNF (w.setCell a u) B v n := by
  obtain ⟨A, l, c, e, h1, h2, h3⟩ := h
  refine ⟨A, l, c, e, ⟨fun j x hx => ?_, h1.sm, h1.le, h1.mx⟩, h2, h3⟩
  obtain ⟨ad, e1, hl, hc⟩ := h1.rd j x hx
  refine ⟨ad, e1, by simpa using hl, ?_⟩
  have hne : (ad.add j).block ≠ a.block := by rw [addr_block]; have := h3 ad e1; omega
  rw [← hc]
  exact World.cell?_of_block (w := w) (Below.heap_setCell w a u _ hne)
theorem isNF_trim {w0 W : World} {B : Nat} {e : TypeId} {A : Option Addr} {n c k : Nat} {l : List Nat} (h : Own w0 B e (.slice A n c) (digV l) W) (hs : Sm l) (hk : k ≤ l.length) (hg : Dg (l.take k) (val l)) : IsNF W B (.slice A k c) (val l) := by
  obtain ⟨hn, hD⟩ := ds_own h hs
  obtain ⟨A', l', c', e1, h1, h2⟩ := isN_trim hD hk hg
  refine ⟨A', l', c', e1, h1, h2, fun ad ha => ?_⟩
  injection e1 with e1
  subst e1
  exact (h.lt (g := ad.block) (by rw [ha]; rfl)).1

theorem minus_step {l k L : List Nat} {i bo x bo' : Nat} (hL : L.length = i) (hx : bo + x + k[i]?.getD 0 = l[i]?.getD 0 + 65536 * bo') (hv : val L + val (k.take i) = val (l.take i) + 65536 ^ i * bo) :
    val (L ++ [x]) + val (k.take (i + 1)) = val (l.take (i + 1)) + 65536 ^ (i + 1) * bo' := by
  rw [val_snoc, hL, val_take_succ', val_take_succ', Nat.pow_succ, Nat.mul_assoc]
  have h : 65536 ^ i * (bo + x + k[i]?.getD 0) = 65536 ^ i * (l[i]?.getD 0 + 65536 * bo') := by rw [hx]
  rw [Nat.mul_add, Nat.mul_add, Nat.mul_add] at h
  omega
theorem minus_end {l k L : List Nat} {bo : Nat} (hl : Sm l) (hk : Sm k) (hle : val k ≤ val l) (hv : val L + val (k.take l.length) = val l + 65536 ^ l.length * bo) (hL : val L < 65536 ^ l.length) : val L = val l - val k := by
  have h1 := val_lt hl
  have h2 := val_take hk l.length
  rw [Nat.mod_eq_of_lt (by omega)] at h2
  rw [h2] at hv
  rcases Nat.eq_zero_or_pos bo with rfl | h
  · omega
  · have : 65536 ^ l.length * 1 ≤ 65536 ^ l.length * bo := Nat.mul_le_mul_left _ h
    omega

theorem ref_Minus (A : Option Addr) (l : List Nat) (c : Nat) (B : Option Addr) (k : List Nat) (d : Nat) (w : World) (ha : Ds w A l c) (hb : Ds w B k d) (hl : l.length ≤ 1000000) (hle : val k ≤ val l) :
    Calls Tryd.prog 115 #[.slice A l.length c, .slice B k.length d] w (RetNF (val l - val k) w) := by
  go_enter Tryd.func115, Tryd.ntmps115
  go_wp2
  go_loopw [5, 6, 11] (fun v y i wr => ∃ (i' : Nat) (L : List Nat) (bo : Nat), i = .int .i64 i' ∧ y = .int .i64 bo ∧ bo ≤ 1 ∧ Own w w.heap.size 3 v (digV L) wr ∧ L.length ≤ i' ∧ i' ≤ L.length ∧ i' ≤ l.length ∧
    Hid (Sm L ∧ val L + val (k.take i') = val (l.take i') + 65536 ^ i' * bo)) (fun _ _ i _ => l.length - (intOf i).toNat)
  case atStart => exact ⟨0, [], 0, rfl, rfl, by omega, Own.start _ _, by simp, by simp, by omega, Sm.nil, by simp [val]⟩
  case round =>
    obtain ⟨i, L, bo, rfl, rfl, hbo, hO, hl1, hl2, him, hH⟩ := hrel
    rename_i u5
    have hDa := ha.below hO.bel (Nat.le_refl _)
    have hDb := hb.below hO.bel (Nat.le_refl _)
    by_cases hlt : i < l.length
    · have hdb := digZ_lt hb.sm (i : Int)
      obtain ⟨ad, rfl, hbl, hc⟩ := digV_at hDa.rd hlt
      have hla := ha.sm l[i] (List.getElem_mem _)
      have hdz := digZ_nat k i
      have hst := fun x bo' hx => minus_step (x := x) (bo' := bo') (l := l) (k := k) (by omega) hx hH.out.2
      rw [← hdz, List.getElem?_eq_getElem hlt] at hst
      have hHst := Lib.hid hst
      have hcon := Lib.hid (fun W (h : Ds W B k d) => ref_digit B k d (i : Int) W h)
      have hHD := Lib.hid hDb
      clear hst hdz hDb
      generalize digZ k i = y at *
      generalize l[i] = x at *
      have hw1 : IntKind.i64.wrap ((x : Int) - y) = (x : Int) - y := by rw [IntKind.wrap_i64]; omega
      obtain ⟨o, ho⟩ : ∃ o : Int, (x : Int) - y - bo = o := ⟨_, rfl⟩
      have hw2 : IntKind.i64.wrap ((x : Int) - y - bo) = o := by rw [IntKind.wrap_i64]; omega
      have ho1 : -65536 ≤ o := by omega
      have ho2 : o < 65536 := by omega
      have hlL : L.length < 1000000 := by omega
      have hOd := hO.drew
      obtain ⟨X, bo', hX, hX2, hXl, hcase⟩ : ∃ X bo' : Nat, (bo + X + y = x + 65536 * bo') ∧ bo' ≤ 1 ∧ X < 65536 ∧ ((o < 0 ∧ o + 65536 = X ∧ bo' = 1) ∨ (¬ o < 0 ∧ o = X ∧ bo' = 0)) := by
        by_cases h : o < 0
        · exact ⟨(o + 65536).toNat, 1, by omega, by omega, by omega, .inl ⟨h, by omega, rfl⟩⟩
        · exact ⟨o.toNat, 0, by omega, by omega, by omega, .inr ⟨h, by omega, rfl⟩⟩
      have hfin := Lib.hid (hHst.out X bo' hX)
      have hHo := Lib.hid ho
      clear ho hHst hX
      go_wp2
      go_upto_region 6 with (fail)
      go_cut [8] (fun v8 wx => v8 = .int .i64 o ∧ Own w w.heap.size 3 u5 (digV L) wx)
      case first =>
        have hHD := Lib.hid (hHD.out.below (Below.refl wr.heap.size wr).drew (Nat.le_refl _))
        go_region_law (first
          | (go_simp; go_at_call 86; (refine Calls.mono (hcon.out _ hHD.out) ?_); rintro e w' ⟨rfl, rfl⟩))
        all_goals go_wp2_with fail
        all_goals go_meet
        all_goals exact ⟨rfl, hOd⟩
      case rest =>
        clear hOd
        obtain ⟨rfl, hOd⟩ := hcut
        clear hw1 hw2 hc
        rcases hcase with ⟨h0, h1, rfl⟩ | ⟨h0, h1, rfl⟩
        · have hw3 : IntKind.i64.wrap (o + 65536) = (X : Int) := by rw [IntKind.wrap_i64]; omega
          go_wp2_with (at_builtin; refine wpList_own1 (o := ⟨some 31, _, _, _, _, _⟩) rfl (.tmp 28) (.tmp 30) 96 rfl SI rfl hOd (.int .i64 (X : Int)) rfl rfl (by rw [digV_len]; unfold maxLen; omega) (by rw [digV_len]; omega) ?_; intro v1 w1 hO1 hg1 hat1; clear hg1 hat1)
          go_roundw
          case rel => exact ⟨i + 1, L ++ [X], 1, by go_num, rfl, by omega, by rw [digV_snoc]; exact hO1, by simp; omega, by simp; omega, by omega, hH.out.1.append (Sm.one hXl), hfin.out⟩
          case measure => simp [intOf]; omega
        · subst h1
          clear h0 ho1 ho2
          go_wp2_with (at_builtin; refine wpList_own1 (o := ⟨some 31, _, _, _, _, _⟩) rfl (.tmp 28) (.tmp 30) 96 rfl SI rfl hOd (.int .i64 (X : Int)) rfl rfl (by rw [digV_len]; unfold maxLen; omega) (by rw [digV_len]; omega) ?_; intro v1 w1 hO1 hg1 hat1; clear hg1 hat1)
          go_roundw
          case rel => exact ⟨i + 1, L ++ [X], 0, by go_num, rfl, by omega, by rw [digV_snoc]; exact hO1, by simp; omega, by simp; omega, by omega, hH.out.1.append (Sm.one hXl), hfin.out⟩
          case measure => simp [intOf]; omega
    · obtain rfl : i = l.length := by omega
      obtain ⟨A', c', rfl, -, -⟩ := hO.form
      obtain ⟨hn, hD⟩ := ds_own hO hH.out.1
      have hbl := hO.bel
      rw [hn]
      rw [hn] at hO
      have hHO := Lib.hid hO
      have hll := Lib.hid (show L.length = l.length by omega)
      clear hO
      go_wp2_with (go_at_call 87; refine (ref_trim A' L c' _ hD).mono ?_; rintro e w' ⟨q, hq, rfl, hg, rfl⟩)
      go_ret
      have hv := hH.out.2
      rw [List.take_length] at hv
      have hLt := val_lt hH.out.1
      rw [hll.out] at hLt
      have hr := minus_end ha.sm hb.sm hle hv hLt
      exact ⟨_, rfl, hr ▸ isNF_trim hHO.out hH.out.1 hq hg, hbl⟩

theorem order_digit {a b i : Nat} (hlt : a / 65536 ^ (i + 1) = b / 65536 ^ (i + 1)) {x y : Nat} (hx : x = a / 65536 ^ i % 65536) (hy : y = b / 65536 ^ i % 65536) :
    (x < y → order a b = -1) ∧ (y < x → order a b = 1) ∧ (x = y → a / 65536 ^ i = b / 65536 ^ i) := by
  have h := order_step hlt
  rw [← hx, ← hy] at h
  exact ⟨fun e => if_pos (h.1 e), fun e => by unfold order; rw [if_neg (by have := h.2.1 e; omega), if_pos (h.2.1 e)], h.2.2⟩
theorem ref_Order (A : Option Addr) (l : List Nat) (c : Nat) (B : Option Addr) (k : List Nat) (d : Nat) (w : World) (ha : Ds w A l c) (hb : Ds w B k d) (hl : l.length ≤ 1000000) (hk : k.length ≤ 1000000) :
    Calls Tryd.prog 45 #[.slice A l.length c, .slice B k.length d] w fun e w' => e = .returned (.int .i64 (order (val l) (val k))) ∧ w = w' := by
  go_enter Tryd.func45, Tryd.ntmps45
  go_wp2
  all_goals
    go_loop [5] (fun i => ∃ s : Nat, i = .int .i64 ((s : Int) - 1) ∧ s ≤ 1000000 ∧ Hid (val l / 65536 ^ s = val k / 65536 ^ s)) (fun i => (intOf i + 1).toNat)
    case atStart =>
      have h1 := val_lt ha.sm
      have h2 := val_lt hb.sm
      first
      | exact ⟨k.length, rfl, hk, Lib.hid (by rw [Nat.div_eq_of_lt (Nat.lt_of_lt_of_le h1 (Nat.pow_le_pow_right (by omega) (by omega))), Nat.div_eq_of_lt h2])⟩
      | exact ⟨l.length, rfl, hl, Lib.hid (by rw [Nat.div_eq_of_lt h1, Nat.div_eq_of_lt (Nat.lt_of_lt_of_le h2 (Nat.pow_le_pow_right (by omega) (by omega)))])⟩
    case round =>
      obtain ⟨s, rfl, hs, hH⟩ := hrel
      rcases Nat.eq_zero_or_pos s with rfl | hs0
      · have e : val l = val k := by have := hH.out; simpa using this
        have hq := Lib.hid (show order (val l) (val k) = 0 by rw [e]; unfold order; rw [if_neg (by omega), if_neg (by omega)])
        clear e hH
        go_wp2
        go_ret
        exact ⟨by rw [hq.out]; rfl, rfl⟩
      · obtain ⟨i, rfl⟩ : ∃ i, s = i + 1 := ⟨s - 1, by omega⟩
        rw [show (((i + 1 : Nat) : Int) - 1) = (i : Int) by omega]
        have ho := order_digit hH.out (x := digZ l i) (y := digZ k i) (by rw [digZ_nat, Dv.at_ (Dv.mk' ha.sm)]) (by rw [digZ_nat, Dv.at_ (Dv.mk' hb.sm)])
        have hHo := Lib.hid ho
        have hc1 := Lib.hid (ref_digit A l c (i : Int) w ha)
        have hc2 := Lib.hid (ref_digit B k d (i : Int) w hb)
        clear ho hH
        generalize digZ l i = x at *
        generalize digZ k i = y at *
        rcases Nat.lt_trichotomy x y with h | h | h
        · have hq := Lib.hid (hHo.out.1 h)
          go_wp2_with (go_at_call 86; (first | with_reducible refine hc1.out.mono ?_ | with_reducible refine hc2.out.mono ?_); rintro e w' ⟨rfl, rfl⟩)
          go_ret
          exact ⟨by rw [hq.out]; rfl, rfl⟩
        · subst h
          have hq := Lib.hid (hHo.out.2.2 rfl)
          go_wp2_with (go_at_call 86; (first | with_reducible refine hc1.out.mono ?_ | with_reducible refine hc2.out.mono ?_); rintro e w' ⟨rfl, rfl⟩)
          go_round
          case rel => exact ⟨i, rfl, by omega, hq⟩
          case measure => simp [intOf]
        · have hq := Lib.hid (hHo.out.2.1 h)
          have hn : ¬ x < y := by omega
          go_wp2_with (go_at_call 86; (first | with_reducible refine hc1.out.mono ?_ | with_reducible refine hc2.out.mono ?_); rintro e w' ⟨rfl, rfl⟩)
          go_ret
          exact ⟨by rw [hq.out]; rfl, rfl⟩
/-- In numbers alone. -/
theorem minusN {u v : Value} {m n : Nat} (w : World) (hu : IsV w u m) (hv : IsV w v n) (hle : n ≤ m) : Calls Tryd.prog 115 #[u, v] w (RetNF (m - n) w) := by
  obtain ⟨A, l, c, rfl, hD, rfl, hl⟩ := hu
  obtain ⟨B, k, d, rfl, hE, rfl, hk⟩ := hv
  exact ref_Minus A l c B k d w hD hE hl hle
theorem orderN {u v : Value} {m n : Nat} (w : World) (hu : IsV w u m) (hv : IsV w v n) : Calls Tryd.prog 45 #[u, v] w fun e w' => e = .returned (.int .i64 (order m n)) ∧ w = w' := by
  obtain ⟨A, l, c, rfl, hD, rfl, hl⟩ := hu
  obtain ⟨B, k, d, rfl, hE, rfl, hk⟩ := hv
  exact ref_Order A l c B k d w hD hE hl hk
end Go.Proofs.YtgdiokklfihfoaaDoor
namespace Go.Proofs.YtgdiokklfihfoaaDoor
open Go.ChangeShapes Go.WideShapes Go.ChangeAt Go.RowKit
set_option maxHeartbeats 1000000
set_option maxRecDepth 100000

/-- A literal of one element is the call's own. -/
theorem Own.lit {w0 W : World} {B : Nat} (e : TypeId) (u : Value) (hb : Below B w0 W) (hB : B ≤ W.heap.size) : Own w0 B e (.slice (some ⟨W.heap.size, 0, none⟩) 1 1) [u] (W.alloc (.cells #[u] e)) :=
  ⟨World.ownsRow_lit W #[u] 1 hB (by unfold maxLen; omega) rfl, hb.alloc hB _, by simp; omega⟩
/-- What Parts has ahead of digit i - 1. -/
def ptQ (a m i : Nat) : Nat := a / 65536 ^ i / m * 65536 ^ i
def ptR (a m i : Nat) : Nat := a / 65536 ^ i % m
theorem pt_up {l : List Nat} (h : Sm l) (i : Nat) : val l / 65536 ^ i = l[i]?.getD 0 + 65536 * (val l / 65536 ^ (i + 1)) := by
  rw [val_at h, Nat.pow_succ, ← Nat.div_div_eq_div_mul, Nat.mod_add_div]
theorem pt_round {a m i d : Nat} (hm : 0 < m) (h : a / 65536 ^ i = d + 65536 * (a / 65536 ^ (i + 1))) :
    ptR a m i = (d + 65536 * ptR a m (i + 1)) % m ∧ ptQ a m i = ptQ a m (i + 1) + 65536 ^ i * ((d + 65536 * ptR a m (i + 1)) / m) := by
  unfold ptR ptQ
  rw [h]
  generalize a / 65536 ^ (i + 1) = A
  have hA := Nat.mod_add_div A m
  have e : d + 65536 * A = (d + 65536 * (A % m)) + m * (65536 * (A / m)) := by
    conv => lhs; rw [← hA]
    rw [Nat.mul_add, Nat.mul_left_comm 65536 m]; omega
  rw [e, Nat.add_mul_mod_self_left, Nat.add_mul_div_left _ _ hm]
  refine ⟨rfl, ?_⟩
  rw [Nat.add_mul, Nat.pow_succ, Nat.add_comm, Nat.mul_comm ((d + 65536 * (A % m)) / m)]
  congr 1
  rw [Nat.mul_comm 65536 (A / m), Nat.mul_assoc, Nat.mul_comm 65536]
theorem pt_start {l : List Nat} (h : Sm l) (m : Nat) : ptR (val l) m l.length = 0 ∧ ptQ (val l) m l.length = 0 := by
  have : val l / 65536 ^ l.length = 0 := Nat.div_eq_of_lt (val_lt h)
  unfold ptR ptQ
  rw [this]; simp
theorem pt_end (a m : Nat) : ptR a m 0 = a % m ∧ ptQ a m 0 = a / m := by simp [ptR, ptQ]
theorem pt_lt {a m i : Nat} (hm : 0 < m) : ptR a m i < m := Nat.mod_lt _ hm

def RetQR (q r : Nat) (w : World) (e : Ending) (w' : World) : Prop := ∃ u v, e = .returned (.tuple #[u, v]) ∧ IsN w' u q ∧ IsN w' v r ∧ Below w.heap.size w w'

theorem own_digs {w0 W : World} {B : Nat} {e : TypeId} {v : Value} {l : List Nat} (h : Own w0 B e v (digV l) W) (hs : Sm l) : ∃ A c, v = .slice A l.length c ∧ Ds W A l c ∧ Own w0 B e (.slice A l.length c) (digV l) W := by
  obtain ⟨A, c, e1, -, -⟩ := h.form
  rw [digV_len] at e1
  subst e1
  exact ⟨A, c, rfl, (ds_own h hs).2, h⟩
theorem lt_len {l : List Nat} {n : Nat} (h : Dg l n) (hn : n < big) : l.length ≤ 10000 := by
  have := h.len hn
  unfold bigK at this
  exact this
theorem order_le {a b : Nat} (h : a ≤ b) : order a b ≤ 0 := by
  by_cases e : a < b
  · rw [show order a b = -1 from if_pos e]; omega
  · unfold order; rw [if_neg e, if_neg (by omega)]; omega
theorem order_nle {a b : Nat} (h : ¬ a ≤ b) : ¬ order a b ≤ 0 := by unfold order; rw [if_neg (by omega), if_pos (by omega)]; omega

theorem ref_Parts (A : Option Addr) (l : List Nat) (c : Nat) {v : Value} {m : Nat} (w : World) (ha : Ds w A l c) (hl : l.length ≤ 500000) (hv : IsV w v m) (hm : 0 < m) (hmb : 65536 * m < big) :
    Calls Tryd.prog 88 #[.slice A l.length c, v] w (RetQR (val l / m) (val l % m) w) := by
  have hmk := run_make_dig l.length (by omega)
  have hR := DRow.new w (List.replicate l.length 0) 3
  have hL : Below w.heap.size w (w.alloc (.cells (digA (List.replicate l.length 0)) 3)) := by go_grown
  obtain ⟨n, hn⟩ : ∃ n, n = l.length := ⟨_, rfl⟩
  go_enter Tryd.func88, Tryd.ntmps88
  go_wp2
  generalize w.alloc (.cells (digA (List.replicate l.length 0)) 3) = W0 at *
  go_loopw [7, 8] (fun r i wr => ∃ (s : Nat) (L : List Nat), i = .int .i64 ((s : Int) - 1) ∧ s ≤ l.length ∧ L.length ≤ l.length ∧ l.length ≤ L.length ∧ DRow wr w.heap.size L ∧ IsNF wr (w.heap.size + 1) r (ptR (val l) m s) ∧ Below w.heap.size w wr ∧
    Hid (Sm L ∧ val L = ptQ (val l) m s ∧ ∀ j, j < s → L[j]?.getD 0 = 0)) (fun _ i _ => (intOf i + 1).toNat)
  case atStart =>
    refine ⟨l.length, _, rfl, Nat.le_refl _, by simp, by simp, hR, ?_, hL, sm_zeros _, by rw [val_zeros, (pt_start ha.sm m).2], fun j _ => by simp [List.getElem?_replicate]; split <;> rfl⟩
    rw [(pt_start ha.sm m).1]
    exact ⟨none, [], 0, rfl, ⟨Rd.nil, Sm.nil, by simp, by omega⟩, Dg.nil, fun ad h => by cases h⟩
  case round =>
    clear hR hL hmk
    obtain ⟨s, L, rfl, hs, hL1, hL2, hR, hN, hL, hH⟩ := hrel
    rcases Nat.eq_zero_or_pos s with rfl | hs0
    · rw [(pt_end (val l) m).1] at hN
      have hvL := hH.out.2.1
      rw [(pt_end (val l) m).2] at hvL
      have hHvL := Lib.hid hvL
      have hDs := hR.ds hH.out.1 (by omega)
      have hlen := Lib.hid (show L.length = l.length by omega)
      have hcon := Lib.hid (ref_trim _ L _ wr hDs)
      rw [hlen.out] at hcon
      rw [hlen.out] at hDs
      have hHDs := Lib.hid hDs
      clear hvL hDs
      go_wp2_with (go_at_call 87; refine hcon.out.mono ?_; rintro e w' ⟨q, hq, rfl, hg, rfl⟩)
      go_ret2
      exact ⟨_, _, rfl, hHvL.out ▸ isN_trim hHDs.out hq hg, hN.toN, hL⟩
    · obtain ⟨i, rfl⟩ : ∃ i, s = i + 1 := ⟨s - 1, by omega⟩
      rw [show (((i + 1 : Nat) : Int) - 1) = (i : Int) by omega]
      have hlt : i < l.length := by omega
      obtain ⟨ad, rfl, hbl, hc⟩ := digV_at (ha.below hL (Nat.le_refl _)).rd hlt
      have hpr := Lib.hid (pt_round (m := m) hm (pt_up ha.sm i))
      rw [List.getElem?_eq_getElem hlt, Option.getD_some] at hpr
      have hrm := pt_lt (a := val l) (i := i + 1) hm
      have hd := ha.sm l[i] (List.getElem_mem _)
      generalize l[i] = d at *
      generalize hr : ptR (val l) m (i + 1) = r at *
      have hHr := Lib.hid hr
      clear hr
      obtain ⟨A2, k, c2, rfl, hD, hG, hB⟩ := hN
      have hkb : k.length ≤ 10000 := lt_len hG (by omega)
      have hO := Own.lit (w0 := wr) (W := wr) (e := 3) (u := .int .i64 (d : Int)) (Below.refl _ _) (Nat.le_refl _)
      obtain ⟨L1, hL1e⟩ : ∃ L1, L1 = d :: k := ⟨_, rfl⟩
      have hs1 : Sm L1 := by rw [hL1e]; exact fun x hx => by rcases List.mem_cons.1 hx with h | h; exact h ▸ hd; exact hD.sm x h
      have hv1 : val L1 = d + 65536 * r := by rw [hL1e, ← hG.val]; rfl
      have hdg : [Value.int IntKind.i64 (d : Int)] ++ digV k = digV L1 := by rw [hL1e]; rfl
      have hrd := (hD.below (below_alloc wr (Obj.cells #[Value.int IntKind.i64 (d : Int)] 3)) (Nat.le_refl _)).rd
      have hHdg := Lib.hid hdg
      have hHv1 := Lib.hid hv1
      clear hL1e hv1 hdg hG hD
      go_wp2_with (first
        | (at_builtin; refine wpList_own (o := ⟨some 28, _, _, _, _, _⟩) rfl (.tmp 26) (.tmp 27) 96 rfl SI rfl hO (news := digV k) (c := c2) (by rw [digV_len]; rfl) hrd (digV_one k) (by rw [digV_len]; unfold maxLen; simp; omega) (by rw [digV_len]; simp; omega) ?_; intro v1 w1 hO1 hg1 hat1; clear hg1 hat1; rw [hHdg.out] at hO1; obtain ⟨A1, c1, rfl, hD1, hO2⟩ := own_digs hO1 hs1; clear hO1)
        | (go_at_call 87; refine (ref_trim A1 L1 c1 _ hD1).mono ?_; rintro e w' ⟨q, hq, rfl, hg, rfl⟩; have hN1 := isNF_trim hO2 hs1 hq hg))
      have hgl := hR.row.lt
      have hbw := hO2.bel
      rw [hHv1.out] at hN1
      have hN1 := hN1.mono (show w.heap.size + 1 ≤ wr.heap.size by omega)
      generalize Value.slice A1 q c1 = r1 at *
      have hR1 := hR.below hbw hgl
      have hL1' := below_step hbw hL (Nat.le_refl _)
      obtain ⟨R1, hR1e⟩ : ∃ R1, R1 = d + 65536 * r := ⟨_, rfl⟩
      rw [← hR1e] at hN1 hpr
      have hR1m : R1 < 65536 * m := by rw [hR1e]; have : 65536 * r + 65536 ≤ 65536 * m := by omega
                                       omega
      clear hR1e hO hO2 hD1 hg hq hrd hHdg hHv1 hR hL hbw hc hs1
      go_loopw [9, 10] (fun a b wr => ∃ lo hi : Nat, a = .int .i64 lo ∧ b = .int .i64 hi ∧ lo < hi ∧ hi ≤ 65536 ∧ DRow wr w.heap.size L ∧ IsNF wr (w.heap.size + 1) r1 R1 ∧ Below w.heap.size w wr ∧ Hid (m * lo ≤ R1 ∧ R1 < m * hi)) (fun a b _ => (intOf b).toNat - (intOf a).toNat)
      case atStart => exact ⟨0, 65536, rfl, rfl, by omega, by omega, hR1, hN1, hL1', Lib.hid ⟨by omega, by omega⟩⟩
      case round =>
        clear hR1 hN1 hL1'
        obtain ⟨lo, hi, rfl, rfl, hlh, hh, hR, hN, hL, hI⟩ := hrel
        have hRb : R1 < big := by omega
        by_cases hgo : lo + 1 < hi
        · obtain ⟨mid, hmid⟩ : ∃ mid, mid = (lo + hi) / 2 := ⟨_, rfl⟩
          have hmi : ((lo : Int) + hi) / 2 = mid := by omega
          have hm1 : lo < mid := by omega
          have hm2 : mid < hi := by omega
          have hgi : (1 : Int) < (hi : Int) - lo := by omega
          have hmb2 : m * mid < big := Nat.lt_of_le_of_lt (Nat.mul_le_mul_left m (show mid ≤ 65536 by omega)) (by rw [Nat.mul_comm]; exact hmb)
          have hnf := Lib.hid hN
          have hvw := Lib.hid (hv.step hL)
          clear hmid hgo
          by_cases hle : m * mid ≤ R1
          · obtain ⟨o, ho, ho2⟩ : ∃ o : Int, order (m * mid) R1 = o ∧ o ≤ 0 := ⟨_, rfl, order_le hle⟩
            have hHo := Lib.hid ho
            clear ho
            go_wp2_with (first
              | (go_at_call 48; refine (timesN (m := m) (n := mid) _ (hvw.out.step (below_alloc _ _)) (IsV.lit _ _ (by omega))).mono ?_; rintro e w' ⟨t, rfl, ht, hbt⟩; have hbt := (below_alloc _ _).trans (hbt.mono (by simp)))
              | (go_at_call 45; refine (orderN (m := m * mid) (n := R1) _ (ht.toV hmb2) ((hnf.out.step hbt).toN.toV hRb)).mono ?_; rintro e w' ⟨rfl, rfl⟩; rw [hHo.out]))
            go_roundw
            case rel => exact ⟨mid, hi, rfl, rfl, hm2, hh, hR.below hbt hR.row.lt, hN.step hbt, below_step hbt hL (Nat.le_refl _), Lib.hid ⟨hle, hI.out.2⟩⟩
            case measure => simp [intOf]; omega
          · obtain ⟨o, ho, ho2⟩ : ∃ o : Int, order (m * mid) R1 = o ∧ ¬ o ≤ 0 := ⟨_, rfl, order_nle hle⟩
            have hHo := Lib.hid ho
            clear ho
            go_wp2_with (first
              | (go_at_call 48; refine (timesN (m := m) (n := mid) _ (hvw.out.step (below_alloc _ _)) (IsV.lit _ _ (by omega))).mono ?_; rintro e w' ⟨t, rfl, ht, hbt⟩; have hbt := (below_alloc _ _).trans (hbt.mono (by simp)))
              | (go_at_call 45; refine (orderN (m := m * mid) (n := R1) _ (ht.toV hmb2) ((hnf.out.step hbt).toN.toV hRb)).mono ?_; rintro e w' ⟨rfl, rfl⟩; rw [hHo.out]))
            go_roundw
            case rel => exact ⟨lo, mid, rfl, rfl, hm1, by omega, hR.below hbt hR.row.lt, hN.step hbt, below_step hbt hL (Nat.le_refl _), Lib.hid ⟨hI.out.1, by omega⟩⟩
            case measure => simp [intOf]; omega
        · have hgi : ¬ (1 : Int) < (hi : Int) - lo := by omega
          have hq : R1 / m = lo := by
            have h1 := hI.out.1
            have h2 := hI.out.2
            rw [show hi = lo + 1 by omega] at h2
            exact Nat.div_eq_of_lt_le (by rw [Nat.mul_comm]; exact h1) (by rw [Nat.mul_comm]; exact h2)
          rw [hq] at hpr
          have hRm : R1 % m = R1 - m * lo := by
            have := Nat.mod_add_div R1 m
            rw [hq] at this; omega
          rw [hRm] at hpr
          have hlo : lo < 65536 := by omega
          have hle := hI.out.1
          have hmb2 : m * lo < big := by omega
          have hnf := Lib.hid hN
          have hvw := Lib.hid (hv.step hL)
          have hQ0 := hH.out.2.2 i (by omega)
          have hvs := val_set L i lo (by omega)
          rw [hQ0, Nat.mul_zero, Nat.add_zero, hH.out.2.1, ← hpr.out.2] at hvs
          have hfin : Hid (Sm (L.set i lo) ∧ val (L.set i lo) = ptQ (val l) m i ∧ ∀ j, j < i → (L.set i lo)[j]?.getD 0 = 0) :=
            Lib.hid ⟨hH.out.1.set _ hlo, hvs, fun j hj => by rw [List.getElem?_set_ne (by omega)]; exact hH.out.2.2 j (by omega)⟩
          have hsl1 : (L.set i lo).length ≤ l.length := by simp; omega
          have hsl2 : l.length ≤ (L.set i lo).length := by simp; omega
          have hpr1 := Lib.hid hpr.out.1
          clear hq hRm hQ0 hvs hpr hI
          have hget : DRow (wr.setCell ⟨w.heap.size, i, none⟩ (.int .i64 (lo : Int))) w.heap.size (L.set i lo) := hR.set i lo
          by_cases h0 : lo = 0
          · have h0' : ¬ (0 : Int) < lo := by omega
            have hRr : ptR (val l) m i = R1 := by rw [hpr1.out, h0]; simp
            have hHRr := Lib.hid hRr
            have c1 := hR.cell (i := i) (by omega)
            have f1 := hR.row.frozen i
            have hHg := Lib.hid hget
            clear h0 hRr hpr1 hget
            go_wp2
            go_roundw
            case rel => exact ⟨i, L.set i lo, rfl, by omega, hsl1, hsl2, hHg.out, hHRr.out ▸ hN.setCell (by simp) _, hL.setCell (Nat.le_refl _) _, hfin⟩
            case measure => simp [intOf]
          · have h0' : (0 : Int) < lo := by omega
            clear h0 hget
            go_wp2_with (first
              | (go_at_call 48; refine (timesN (m := m) (n := lo) _ (hvw.out.step (below_alloc _ _)) (IsV.lit _ _ hlo)).mono ?_; rintro e w' ⟨t, rfl, ht, hbt⟩; have hbt := (below_alloc _ _).trans (hbt.mono (by simp)))
              | (go_at_call 115; refine (minusN (m := R1) (n := m * lo) _ ((hnf.out.step hbt).toN.toV hRb) (ht.toV hmb2) hle).mono ?_; rintro e w2 ⟨r2, rfl, hN2, hb2⟩; have hb3 := below_step hb2 hbt (Nat.le_refl _); have hR3 := hR.below hb3 hR.row.lt; have c1 := hR3.cell (i := i) (by omega); have f1 := hR3.row.frozen i; have hL3 := below_step hb3 hL (Nat.le_refl _); have hN3 := hN2.mono (show w.heap.size + 1 ≤ w'.heap.size from Nat.le_trans hR.row.lt hbt.size)))
            go_roundw
            case rel => exact ⟨i, L.set i lo, rfl, by omega, hsl1, hsl2, hR3.set i lo, hpr1.out ▸ hN3.setCell (by simp) _, hL3.setCell (Nat.le_refl _) _, hfin⟩
            case measure => simp [intOf]
/-- In numbers alone. -/
theorem partsN {u v : Value} {a m k : Nat} (w : World) (hu : IsN w u a) (ha : a < 2 ^ k) (hk : k ≤ 160000) (hv : IsV w v m) (hm : 0 < m) (hmb : 65536 * m < big) :
    Calls Tryd.prog 88 #[u, v] w (RetQR (a / m) (a % m) w) := by
  obtain ⟨A, l, c, rfl, hD, hG⟩ := hu
  have hl := lt_len hG (lt_big ha hk)
  have h := ref_Parts A l c w hD (by omega) hv hm hmb
  rw [hG.val] at h
  exact h
theorem restN {u v : Value} {a m k : Nat} (w : World) (hu : IsN w u a) (ha : a < 2 ^ k) (hk : k ≤ 160000) (hv : IsV w v m) (hm : 0 < m) (hmb : 65536 * m < big) :
    Calls Tryd.prog 49 #[u, v] w (RetN (a % m) w) := by
  have hc := Lib.hid (partsN w hu ha hk hv hm hmb)
  obtain ⟨A, l, c, rfl, -⟩ := hu
  obtain ⟨B, l2, c2, rfl, -⟩ := hv
  go_enter Tryd.func49, Tryd.ntmps49
  go_wp2_with fail
  refine hc.out.mono ?_
  rintro e w' ⟨u, v, rfl, -, hN, hb⟩
  go_wp2
  go_ret
  exact ⟨v, rfl, hN, hb⟩
/-- The number that a slice's digits are. -/
def digOf (w : World) : Value → Nat
  | .slice (some ad) n _ => val ((List.range n).map fun j => (intOf ((w.cell? (ad.add j)).getD undef)).toNat)
  | _ => 0
theorem digOf_is {w : World} {v : Value} {n : Nat} (h : IsN w v n) : digOf w v = n := by
  obtain ⟨A, l, c, rfl, hD, hG⟩ := h
  cases A with
  | none =>
    have : l = [] := by
      cases l with
      | nil => rfl
      | cons d r => obtain ⟨ad, e, -⟩ := hD.rd 0 _ rfl; cases e
    subst this
    exact hG.val
  | some ad =>
    show val _ = n
    rw [← hG.val]
    congr 1
    apply List.ext_getElem (by simp)
    intro j h1 h2
    have := hD.rd.all (j := j) (u := .int .i64 (l[j] : Nat)) (by simp [digV, h2])
    simp [this, intOf]
end Go.Proofs.YtgdiokklfihfoaaDoor
namespace Go.Proofs.YtgdiokklfihfoaaDoor
open Go.ChangeShapes Go.WideShapes Go.ChangeAt Go.RowKit
set_option maxHeartbeats 2000000
set_option maxRecDepth 100000
attribute [local go_sem ↓] load_fe store_fe execl_fe execs_fe load_num store_num execl_num execs_num
attribute [local go_sem] isHead_mk blkOf_mk isAgg_mk cellsV_mk row_drew rowAt_drew row_new_cells row_old rowAt_new rowAt_old setRow_new zeroFe zeroNum
theorem dgt_zero (i : Nat) : dgt 0 i = 0 := by unfold dgt; rw [Nat.zero_div]
theorem fe1 {n : Nat} (hn : n < 65536) : #[Value.int IntKind.i64 (n : Int), Value.int IntKind.i64 0, Value.int IntKind.i64 0, Value.int IntKind.i64 0, Value.int IntKind.i64 0, Value.int IntKind.i64 0, Value.int IntKind.i64 0, Value.int IntKind.i64 0, Value.int IntKind.i64 0, Value.int IntKind.i64 0, Value.int IntKind.i64 0, Value.int IntKind.i64 0, Value.int IntKind.i64 0, Value.int IntKind.i64 0, Value.int IntKind.i64 0, Value.int IntKind.i64 0] = arrK .i64 16 (dgt n) := by
  have h : #[Value.int IntKind.i64 (n : Int), Value.int IntKind.i64 0, Value.int IntKind.i64 0, Value.int IntKind.i64 0, Value.int IntKind.i64 0, Value.int IntKind.i64 0, Value.int IntKind.i64 0, Value.int IntKind.i64 0, Value.int IntKind.i64 0, Value.int IntKind.i64 0, Value.int IntKind.i64 0, Value.int IntKind.i64 0, Value.int IntKind.i64 0, Value.int IntKind.i64 0, Value.int IntKind.i64 0, Value.int IntKind.i64 0] = arrK .i64 16 fun i => if i = 0 then n else 0 := by kernel_rfl
  rw [h]
  refine arrK_congr fun i hi => ?_
  unfold dgt
  by_cases e : i = 0
  · subst e; rw [if_pos rfl]; omega
  · rw [if_neg e, Nat.div_eq_of_lt]
    obtain ⟨j, rfl⟩ : ∃ j, i = j + 1 := ⟨i - 1, by omega⟩
    rw [Nat.pow_succ]
    have : 0 < 65536 ^ j := Nat.pow_pos (by omega)
    exact Nat.lt_of_lt_of_le hn (Nat.le_mul_of_pos_left _ this)
theorem build_fe {n : Nat} (hn : n < 65536) (w : World) : (Instr.build 135 #[(0, Value.int IntKind.i64 (n : Int))]).run Tryd.prog w = .ok (.agg (arrK .i64 16 (dgt n))) w := (run_build w _ _ _ (by kernel_rfl)).trans (by rw [← fe1 hn])
theorem ref_small (n : Nat) (w : World) (hn : n < 65536) : Calls Tryd.prog 108 #[.int .i64 n] w fun e w' => e = .returned (feV n) ∧ Below w.heap.size w w' := by
  unfold feV
  have hb := Lib.hid (fun V => build_fe hn V)
  clear hn
  have hcz := arrK_cells .i64 16 fun _ => 0
  have hcp := arrK_cells .i64 16 (dgt n)
  have hL0 := below_alloc w (Obj.cells (arrK .i64 16 fun _ => 0) 135)
  have hR0 : Row (w.alloc (Obj.cells (arrK .i64 16 fun _ => 0) 135)) w.heap.size 16 := (row_new rfl).2 hcz.1
  go_enter Tryd.func108, Tryd.ntmps108
  go_upto_region 1 with (fail)
  generalize w.alloc _ = W0 at *
  go_wp2_with (refine wpList_bldA (vx := Value.int IntKind.i64 (n : Int)) rfl rfl (by go_simp) (hb.out _) ?_)
  exact ret_stored (p := 2) (ty := 135) (g := w.heap.size) (n := 16) (c := arrK .i64 16 (dgt n)) rfl Tryd.underlying135 rfl (by kernel_rfl) rfl hR0 hcp.1 rfl ⟨rfl, below_setRow hL0 (Nat.le_refl _)⟩
theorem digN {u : Value} {m : Nat} (i : Nat) (w : World) (hu : IsV w u m) : Calls Tryd.prog 86 #[u, .int .i64 (i : Int)] w fun e w' => e = .returned (.int .i64 (dgt m i : Nat)) ∧ w = w' := by
  obtain ⟨A, l, c, rfl, hD, rfl, hl⟩ := hu
  refine (ref_digit A l c i w hD).mono ?_
  rintro e w' ⟨rfl, rfl⟩
  rw [digZ_nat, Dv.at_ (Dv.mk' hD.sm)]
  exact ⟨rfl, rfl⟩
theorem ref_feOf {u : Value} {n : Nat} (w : World) (hu : IsV w u n) : Calls Tryd.prog 149 #[u] w fun e w' => e = .returned (feV n) ∧ Below w.heap.size w w' := by
  unfold feV
  have hcz := arrK_cells .i64 16 fun _ => 0
  have hL0 : Below w.heap.size w ((w.alloc (Obj.cells (arrK .i64 16 fun _ => 0) 135)).alloc (Obj.cells (arrK .i64 16 fun _ => 0) 135)) := by go_grown
  have hR0 : Row ((w.alloc (Obj.cells (arrK .i64 16 fun _ => 0) 135)).alloc (Obj.cells (arrK .i64 16 fun _ => 0) 135)) w.heap.size 16 := ((At.new (k := .i64) (f := fun _ => 0) _ rfl).old _).row
  have hX0 : At ((w.alloc (Obj.cells (arrK .i64 16 fun _ => 0) 135)).alloc (Obj.cells (arrK .i64 16 fun _ => 0) 135)) (w.heap.size + 1) .i64 16 (mixD (dgt n) 0) := (At.new _ (by simp)).congr fun i _ => by simp [mixD]
  have hU0 : IsV ((w.alloc (Obj.cells (arrK .i64 16 fun _ => 0) 135)).alloc (Obj.cells (arrK .i64 16 fun _ => 0) 135)) u n := (hu.alloc _).alloc _
  have hL := Lib.hid hL0
  have hR := Lib.hid hR0
  have hX := Lib.hid hX0
  have hU := Lib.hid hu
  clear hL0 hR0 hX0 hU0 hu
  go_enter Tryd.func149, Tryd.ntmps149
  go_wp2_with fail
  generalize (w.alloc _).alloc _ = W0 at *
  go_loopw [5] (fun i wr => ∃ s : Nat, i = .int .i64 s ∧ s ≤ 16 ∧ Hid (Row wr w.heap.size 16) ∧ Hid (At wr (w.heap.size + 1) .i64 16 (mixD (dgt n) s)) ∧ Hid (Below w.heap.size w wr)) (fun i _ => 16 - (intOf i).toNat)
  case atStart => exact ⟨0, rfl, by omega, hR, hX, hL⟩
  case round =>
    clear hR hX hL
    obtain ⟨s, rfl, hs, hR, hX, hL⟩ := hrel
    by_cases h16 : s = 16
    · subst h16
      rw [show ((16 : Nat) : Int) = 16 from rfl]
      have hX2 := hX.out.congr (f' := dgt n) fun i hi => by unfold mixD; rw [if_pos hi]
      have hr1 := hX2.row
      have hr2 := hX2.eq
      have hr3 := hR.out
      have hcv := arrK_cells .i64 16 (dgt n)
      clear hX hU hX2
      go_wp2_with fail
      exact ret_stored (p := 2) (ty := 135) (g := w.heap.size) (n := 16) (c := arrK .i64 16 (dgt n)) rfl Tryd.underlying135 rfl (by kernel_rfl) rfl hr3 hcv.1 rfl ⟨rfl, below_setRow hL.out (by omega)⟩
    · have hs16 : (s : Int) < 16 := by omega
      have hc := Lib.hid (digN s wr (hU.out.step hL.out))
      have cx := hX.out.cell (i := s) (by omega)
      have fx := hX.out.row.frozen s
      have hX2 := Lib.hid ((hX.out.set s (dgt n s)).congr fun p _ => mixD_step (dgt n) s p)
      have hR2 : Hid (Row (wr.setCell ⟨w.heap.size + 1, s, none⟩ (.int .i64 (dgt n s : Nat))) w.heap.size 16) := Lib.hid (row_setCell.2 hR.out)
      have hL2 := Lib.hid (show Below w.heap.size w (wr.setCell ⟨w.heap.size + 1, s, none⟩ (.int .i64 (dgt n s : Nat))) from hL.out.setCell (by simp <;> omega) _)
      clear hX hR hL
      generalize mixD (dgt n) s s = yy at *
      generalize dgt n s = d at *
      go_wp2_with fail
      refine hc.out.mono ?_
      rintro e w' ⟨rfl, rfl⟩
      dsimp only
      go_wp2_with fail
      go_roundw
      case rel => exact ⟨s + 1, by go_num, by omega, hR2, hX2, hL2⟩
      case measure => simp [intOf]; omega
theorem ref_Modulus (w : World) : Calls Tryd.prog 150 #[] w (RetN fP w) := by
  have h0 := Lib.hid (fun V => ref_TwoTo 255 V (by omega))
  have hbg := Lib.hid (show 2 ^ 255 < big from lt_big (k := 256) (Nat.pow_lt_pow_right (by omega) (by omega)) (by omega))
  have hle := Lib.hid (show 19 ≤ 2 ^ 255 by decide +kernel)
  rw [show fP = 2 ^ 255 - 19 from rfl]
  obtain ⟨Q, hQ⟩ : ∃ Q, 2 ^ 255 = Q := ⟨_, rfl⟩
  rw [hQ] at h0 hbg hle ⊢
  clear hQ
  go_enter Tryd.func150, Tryd.ntmps150
  go_wp2_with fail
  refine (h0.out _).mono ?_
  rintro e w2 ⟨v, rfl, hv, hb2⟩
  have hV := Lib.hid ((hv.toV hbg.out).alloc (.cells #[.int .i64 19] 3))
  have hN := Lib.hid (IsV.lit w2 3 (d := 19) (by omega))
  have hL := Lib.hid (Below.trans hb2 ((below_alloc w2 (.cells #[.int .i64 19] 3)).mono hb2.size))
  clear hv hb2
  dsimp only
  go_wp2_with fail
  refine (minusN _ hV.out hN.out hle.out).mono ?_
  rintro e w3 ⟨v3, rfl, hv3, hb3⟩
  have hv4 := Lib.hid hv3
  have hL3 := Lib.hid (below_step hb3 hL.out (Nat.le_refl _))
  clear hv3 hb3
  dsimp only
  go_wp2_with fail
  go_ret
  exact ⟨v3, rfl, hv4.out.toN, hL3.out⟩
end Go.Proofs.YtgdiokklfihfoaaDoor
namespace Go.Proofs.YtgdiokklfihfoaaDoor
open Go.ChangeShapes Go.WideShapes Go.ChangeAt Go.RowKit
set_option maxHeartbeats 2000000
set_option maxRecDepth 100000
attribute [local go_sem ↓] load_fe store_fe execl_fe execs_fe load_num store_num execl_num execs_num
attribute [local go_sem] isHead_mk blkOf_mk isAgg_mk cellsV_mk row_drew rowAt_drew row_new_cells row_old rowAt_new rowAt_old setRow_new zeroFe zeroNum
theorem val_range (f : Nat → Nat) (k : Nat) : val ((List.range k).map f) = dval f k := by
  induction k with
  | zero => rfl
  | succ k ih => rw [List.range_succ, List.map_append, List.map_cons, List.map_nil, val_snoc, ih, List.length_map, List.length_range]; rfl
theorem IsV.fe {W : World} {g n : Nat} (h : At W g .i64 16 (dgt n)) (hn : n < 2 ^ 256) : IsV W (.slice (some ⟨g, 0, none⟩) 16 16) n := by
  have hl : ((List.range 16).map (dgt n)).length = 16 := by simp
  refine ⟨some ⟨g, 0, none⟩, (List.range 16).map (dgt n), 16, by rw [hl], ⟨fun j u hu => ?_, fun d hd => ?_, by omega, by omega⟩, ?_, by omega⟩
  · refine ⟨⟨g, 0, none⟩, rfl, h.lt, ?_⟩
    have hj : j < 16 := by
      rcases Nat.lt_or_ge j 16 with h1 | h1
      · exact h1
      · rw [List.getElem?_eq_none (by simp [digV]; omega)] at hu; cases hu
    have h1 := h.cell hj
    have h2 : (⟨g, 0, none⟩ : Addr).add j = ⟨g, j, none⟩ := by
      by_cases e : j = 0
      · subst e; simp [Addr.add]
      · simp [Addr.add, e]
    rw [h2, h1, ← hu]
    simp [digV, List.getElem?_range hj]
  · obtain ⟨i, -, rfl⟩ := List.mem_map.1 hd
    exact dgt_lt _ _
  · rw [val_range, dval_dgt, p16, Nat.mod_eq_of_lt hn]
theorem fe_Num (n : Nat) (w : World) (hn : n < 2 ^ 256) : Calls Tryd.prog 113 #[feV n] w fun e w' => e = .returned (numV n) ∧ Below w.heap.size w w' := by
  have hl := Lib.hid hn
  clear hn
  have hcn := arrK_cells .u64 4 (wd n)
  have hcz := arrK_cells .u64 4 (wd 0)
  unfold feV
  have hL0 : Below w.heap.size w ((w.alloc (Obj.cells (arrK .i64 16 (dgt n)) 135)).alloc (Obj.cells (arrK .u64 4 (wd 0)) 41)) := by go_grown
  have hA0 : At ((w.alloc (Obj.cells (arrK .i64 16 (dgt n)) 135)).alloc (Obj.cells (arrK .u64 4 (wd 0)) 41)) w.heap.size .i64 16 (dgt n) := (At.new _ rfl).old _
  have hR0 : Row ((w.alloc (Obj.cells (arrK .i64 16 (dgt n)) 135)).alloc (Obj.cells (arrK .u64 4 (wd 0)) 41)) (w.heap.size + 1) 4 := (At.new (k := .u64) (f := wd 0) _ (by simp)).row
  have hL := Lib.hid hL0
  have hR := Lib.hid hR0
  have hA := Lib.hid hA0
  clear hL0 hR0 hA0
  go_enter Tryd.func113, Tryd.ntmps113
  go_upto_region 1 with (fail)
  generalize (w.alloc _).alloc _ = W0 at *
  have hc := Lib.hid (toNumN W0 (IsV.fe hA.out hl.out))
  unfold numV at hc
  go_wp2_with fail
  refine hc.out.mono ?_
  rintro e w2 ⟨rfl, hb⟩
  have hR2 := row_below hR.out hb hR.out.lt
  have hL2 := Lib.hid (below_step hb hL.out (Nat.le_refl _))
  clear hA hR hL hb
  dsimp only
  go_wp2_with fail
  exact ret_stored (p := 2) (ty := 41) (g := w.heap.size + 1) (n := 4) (c := arrK .u64 4 (wd n)) rfl Tryd.underlying41 rfl (by kernel_rfl) rfl hR2 hcn.1 rfl ⟨rfl, below_setRow hL2.out (by omega)⟩
theorem P_mul_big : 65536 * fP < big := mul_big (m := 17) (n := 256) (by omega) P_lt (by omega)
theorem P_big : fP < big := lt_big P_lt (by omega)
theorem ref_Field (a : Nat) (w : World) (ha : a < 2 ^ 256) : Calls Tryd.prog 107 #[numV a] w fun e w' => e = .returned (feV (a % fP)) ∧ Below w.heap.size w w' := by
  have hl := Lib.hid ha
  have h1 := Lib.hid (fun V => ref_OfNum a V ha)
  have h2 := Lib.hid (fun V => ref_Modulus V)
  have h3 := Lib.hid (fun u v V (hu : IsN V u a) (hv : IsN V v fP) => restN (k := 256) V hu ha (by omega) (hv.toV P_big) (Nat.lt_trans (by omega) fP_pos) P_mul_big)
  have h4 := Lib.hid (fun u V (hu : IsN V u (a % fP)) => ref_feOf V (hu.toV (lt_big (Nat.lt_trans lt_P P_lt) (by omega))))
  obtain ⟨r, hr⟩ : ∃ r, a % fP = r := ⟨_, rfl⟩
  rw [hr] at h3 h4 ⊢
  obtain ⟨p, hp⟩ : ∃ r, fP = r := ⟨_, rfl⟩
  rw [hp] at h2 h3
  clear hr hp ha
  have hcr := arrK_cells .i64 16 (dgt r)
  have hcz := arrK_cells .i64 16 fun _ => 0
  unfold numV at h1 ⊢
  unfold feV at h4 ⊢
  have hL0 : Below w.heap.size w ((w.alloc (Obj.cells (arrK .u64 4 (wd a)) 41)).alloc (Obj.cells (arrK .i64 16 fun _ => 0) 135)) := by go_grown
  have hA0 : At ((w.alloc (Obj.cells (arrK .u64 4 (wd a)) 41)).alloc (Obj.cells (arrK .i64 16 fun _ => 0) 135)) w.heap.size .u64 4 (wd a) := (At.new _ rfl).old _
  have hR0 : Row ((w.alloc (Obj.cells (arrK .u64 4 (wd a)) 41)).alloc (Obj.cells (arrK .i64 16 fun _ => 0) 135)) (w.heap.size + 1) 16 := (At.new (k := .i64) (f := fun _ => 0) _ (by simp)).row
  have hL := Lib.hid hL0
  have hR := Lib.hid hR0
  have hA := Lib.hid hA0
  clear hL0 hR0 hA0
  go_enter Tryd.func107, Tryd.ntmps107
  go_upto_region 1 with (fail)
  generalize (w.alloc _).alloc _ = W0 at *
  have hr1 := hA.out.row
  have hr2 := hA.out.eq
  go_wp2_with fail
  refine (h1.out _).mono ?_
  rintro e w2 ⟨u, rfl, hu, hb⟩
  have hU := Lib.hid hu
  replace hR := Lib.hid (row_below hR.out hb hR.out.lt)
  replace hL := Lib.hid (below_step hb hL.out (Nat.le_refl _))
  clear hr1 hr2 hA hb hu h1
  dsimp only
  go_wp2_with fail
  refine (h2.out _).mono ?_
  rintro e w3 ⟨v, rfl, hv, hb⟩
  have hV := Lib.hid hv
  replace hU := Lib.hid (hU.out.step hb)
  replace hR := Lib.hid (row_below hR.out hb hR.out.lt)
  replace hL := Lib.hid (below_step hb hL.out (Nat.le_refl _))
  clear hb hv h2
  dsimp only
  go_wp2_with fail
  refine (h3.out _ _ _ hU.out hV.out).mono ?_
  rintro e w4 ⟨x, rfl, hx, hb⟩
  have hX := Lib.hid hx
  replace hR := Lib.hid (row_below hR.out hb hR.out.lt)
  replace hL := Lib.hid (below_step hb hL.out (Nat.le_refl _))
  clear hb hx h3 hU hV
  dsimp only
  go_wp2_with fail
  refine (h4.out _ _ hX.out).mono ?_
  rintro e w5 ⟨rfl, hb⟩
  have hR2 := row_below hR.out hb hR.out.lt
  have hL2 := Lib.hid (below_step hb hL.out (Nat.le_refl _))
  clear hb hX h4 hR hL
  dsimp only
  go_wp2_with fail
  exact ret_stored (p := 2) (ty := 135) (g := w.heap.size + 1) (n := 16) (c := arrK .i64 16 (dgt r)) rfl Tryd.underlying135 rfl (by kernel_rfl) rfl hR2 hcr.1 rfl ⟨rfl, below_setRow hL2.out (by omega)⟩
/-- What To holds behind s bits. -/
def toS (a n s : Nat) : Nat := a ^ (n % 2 ^ s) % fP
theorem toS_start (a n : Nat) : toS a n 0 = 1 := by
  unfold toS
  rw [Nat.pow_zero, Nat.mod_one, Nat.pow_zero]
  decide +kernel
theorem toS_end {a n : Nat} (hn : n < 2 ^ 256) : toS a n 256 = a ^ n % fP := by unfold toS; rw [Nat.mod_eq_of_lt hn]
theorem toS_lt (a n s : Nat) : toS a n s < 2 ^ 256 := Nat.lt_trans lt_P P_lt
theorem toS_zero {a n s : Nat} (h : n / 2 ^ s % 2 = 0) : toS a n (s + 1) = toS a n s := by
  unfold toS
  rw [Nat.pow_succ, Nat.mod_mul, h, Nat.mul_zero, Nat.add_zero]
theorem toS_one {a n s v : Nat} (h : n / 2 ^ s % 2 = 1) (hv : v % fP = a ^ 2 ^ s % fP) : toS a n s * v % fP = toS a n (s + 1) := by
  unfold toS
  rw [Nat.pow_succ, Nat.mod_mul, h, Nat.mul_one, Nat.mul_mod, hv, ← Nat.mul_mod, Nat.mod_mul_mod, ← Nat.pow_add]
theorem sq_step {a s v : Nat} (hv : v % fP = a ^ 2 ^ s % fP) : v * v % fP % fP = a ^ 2 ^ (s + 1) % fP := by
  rw [Nat.mod_mod, Nat.mul_mod, hv, ← Nat.mul_mod, ← Nat.pow_add, Nat.pow_succ, Nat.mul_two]
theorem fe_To (a n : Nat) (u : Value) (w : World) (ha : a < 2 ^ 256) (hn : n < 2 ^ 256) (hu : IsV w u n) : Calls Tryd.prog 154 #[feV a, u] w fun e w' => e = .returned (feV (a ^ n % fP)) ∧ Below w.heap.size w w' := by
  have hal := Lib.hid ha
  have h1 := Lib.hid (fun V => ref_small 1 V (by omega))
  have h2 := Lib.hid (fun V (h : Below w.heap.size w V) => bitsN 256 V (by omega) (hu.step h))
  have hBy := Lib.hid (fun x y V (hx : x < 2 ^ 256) (hy : y < 2 ^ 256) => fe_By x y V hx hy)
  have hlow := Lib.hid (fun x => Nat.lt_trans (lt_P (a := x)) P_lt)
  have hts := Lib.hid (toS_start a n)
  have hte := Lib.hid (toS_end (a := a) hn)
  have htl := Lib.hid (toS_lt a n)
  have ht0 := Lib.hid (fun s (h : n / 2 ^ s % 2 = 0) => toS_zero (a := a) h)
  have ht1 := Lib.hid (fun s v (h : n / 2 ^ s % 2 = 1) (hv : v % fP = a ^ 2 ^ s % fP) => toS_one h hv)
  have hsq := Lib.hid (fun s v (hv : v % fP = a ^ 2 ^ s % fP) => sq_step hv)
  have hv0 := Lib.hid (show a % fP = a ^ 2 ^ 0 % fP by rw [Nat.pow_zero, Nat.pow_one])
  obtain ⟨B, hB⟩ : ∃ B, (fun i => n / 2 ^ i % 2) = B := ⟨_, rfl⟩
  have hBi : ∀ i, n / 2 ^ i % 2 = B i := fun i => by rw [← hB]
  have hB01 : ∀ i, B i = 0 ∨ B i = 1 := fun i => by rw [← hBi]; omega
  obtain ⟨S, hS⟩ : ∃ S, (fun s => a ^ 2 ^ s % fP) = S := ⟨_, rfl⟩
  have hSi : ∀ i, a ^ 2 ^ i % fP = S i := fun i => by rw [← hS]
  simp only [hBi] at ht0 ht1
  simp only [hSi] at ht1 hsq hv0
  unfold BitsR at h2
  rw [hB] at h2
  obtain ⟨r, hr⟩ : ∃ r, a ^ n % fP = r := ⟨_, rfl⟩
  rw [hr] at hte ⊢
  obtain ⟨F, hF⟩ : ∃ F, toS a n = F := ⟨_, rfl⟩
  rw [hF] at hts hte htl ht0 ht1
  obtain ⟨p, hp⟩ : ∃ p, fP = p := ⟨_, rfl⟩
  rw [hp] at hBy hlow ht1 hsq hv0
  replace hB01 := Lib.hid hB01
  clear hp hF hr hB hBi hS hSi hu hn ha
  have hcz := arrK_cells .i64 16 fun _ => 0
  have hc1 := arrK_cells .i64 16 (dgt 1)
  unfold feV at h1 hBy ⊢
  have hL0 : Below w.heap.size w ((w.alloc (Obj.cells (arrK .i64 16 (dgt a)) 135)).alloc (Obj.cells (arrK .i64 16 fun _ => 0) 135)) := by go_grown
  have hA0 : At ((w.alloc (Obj.cells (arrK .i64 16 (dgt a)) 135)).alloc (Obj.cells (arrK .i64 16 fun _ => 0) 135)) w.heap.size .i64 16 (dgt a) := (At.new _ rfl).old _
  have hR0 : Row ((w.alloc (Obj.cells (arrK .i64 16 (dgt a)) 135)).alloc (Obj.cells (arrK .i64 16 fun _ => 0) 135)) (w.heap.size + 1) 16 := (At.new (k := .i64) (f := fun _ => 0) _ (by simp)).row
  have hL := Lib.hid hL0
  have hR := Lib.hid hR0
  have hA := Lib.hid hA0
  clear hL0 hR0 hA0
  go_enter Tryd.func154, Tryd.ntmps154
  go_upto_region 1 with (fail)
  generalize (w.alloc _).alloc _ = W0 at *
  go_wp2_with fail
  refine (h1.out _).mono ?_
  rintro e w2 ⟨rfl, hb⟩
  have hA2 := hA.out.step hb
  have hR2 := row_below hR.out hb hR.out.lt
  have hL2 := below_step hb hL.out (Nat.le_refl _)
  have hlt : w.heap.size + 1 < w2.heap.size := hR2.lt
  clear hA hR hL hb h1
  have hA := Lib.hid (hA2.old (Obj.cells (arrK .i64 16 (dgt 1)) 135))
  have hR := Lib.hid ((row_old (o := Obj.cells (arrK .i64 16 (dgt 1)) 135) hR2.lt).2 hR2)
  have hL := Lib.hid (Below.trans hL2 ((below_alloc w2 (Obj.cells (arrK .i64 16 (dgt 1)) 135)).mono hL2.size))
  have hX := Lib.hid (At.new (w := w2) (k := .i64) (m := 16) (f := dgt 1) 135 rfl)
  clear hA2 hR2 hL2
  dsimp only
  go_upto_region 2 with (fail)
  obtain ⟨g, hg⟩ : ∃ g, w2.heap.size = g := ⟨_, rfl⟩
  rw [hg] at hX hlt ⊢
  clear hg
  generalize w2.alloc _ = W1 at *
  have h2' := Lib.hid (h2.out W1 hL.out)
  clear h2
  go_wp2_with fail
  refine h2'.out.mono ?_
  rintro e w3 ⟨gb, rfl, hrow, heq, hgb, hb⟩
  have hlt2 : g < W1.heap.size := hX.out.lt
  replace hA := Lib.hid (hA.out.step hb)
  replace hX := Lib.hid (hX.out.step hb)
  replace hR := Lib.hid (row_below hR.out hb hR.out.lt)
  replace hL := Lib.hid (below_step hb hL.out (Nat.le_refl _))
  have hY := Lib.hid (show At w3 gb .i64 256 B from ⟨hrow, heq⟩)
  rw [← hts.out] at hX
  clear hrow heq hb h2'
  dsimp only
  go_wp2_with fail
  go_loopw [12] (fun i wr => ∃ (s v : Nat), i = .int .i64 s ∧ s ≤ 256 ∧ Hid (v < 2 ^ 256) ∧ Hid (v % p = S s) ∧ Hid (At wr w.heap.size .i64 16 (dgt v)) ∧ Hid (Row wr (w.heap.size + 1) 16) ∧ Hid (At wr g .i64 16 (dgt (F s))) ∧ Hid (At wr gb .i64 256 B) ∧ Hid (Below w.heap.size w wr)) (fun i _ => 256 - (intOf i).toNat)
  case atStart => exact ⟨0, a, rfl, by omega, hal, hv0, hA, hR, hX, hY, hL⟩
  case round =>
    clear hA hR hX hY hL hal hv0 hts
    obtain ⟨s, v, rfl, hs, hvl, hvS, hA, hR, hX, hY, hL⟩ := hrel
    by_cases h256 : s = 256
    · subst h256
      rw [hte.out] at hX
      rw [show ((256 : Nat) : Int) = 256 from rfl]
      have hr1 := hX.out.row
      have hr2 := hX.out.eq
      have hr3 := hR.out
      have hcr := arrK_cells .i64 16 (dgt r)
      clear hBy ht0 ht1 hsq
      go_wp2_with fail
      exact ret_stored (p := 4) (ty := 135) (g := w.heap.size + 1) (n := 16) (c := arrK .i64 16 (dgt r)) rfl Tryd.underlying135 rfl (by kernel_rfl) rfl hr3 hcr.1 rfl ⟨rfl, below_setRow hL.out (by omega)⟩
    · have hs256 : (s : Int) < 256 := by omega
      have cy := hY.out.cell (i := s) (by omega)
      have hB1 := Lib.hid (fun V => hBy.out (F s) v V (htl.out s) hvl.out)
      have hB2 := Lib.hid (fun V => hBy.out v v V hvl.out hvl.out)
      have hq := Lib.hid (hsq.out s v hvS.out)
      have hz0 := Lib.hid (ht0.out s)
      have hz1 := Lib.hid (fun h => ht1.out s v h hvS.out)
      have hql := Lib.hid (hlow.out (v * v))
      have hb01 := hB01.out s
      obtain ⟨q, hq'⟩ : ∃ q, v * v % p = q := ⟨_, rfl⟩
      rw [hq'] at hB2 hq hql
      obtain ⟨bt, hbt⟩ : ∃ q, B s = q := ⟨_, rfl⟩
      rw [hbt] at cy hz0 hz1 hb01
      clear hq' hbt hBy ht0 ht1 hsq hte hvl hvS
      have hne1 : w.heap.size ≠ g := by omega
      have hne2 : w.heap.size + 1 ≠ g := by omega
      have hne3 : gb ≠ g := by omega
      have hne4 : w.heap.size + 1 ≠ w.heap.size := by omega
      have hne5 : g ≠ w.heap.size := by omega
      have hne6 : gb ≠ w.heap.size := by omega
      have hlog : w.heap.size ≤ g := by omega
      rcases hb01 with rfl | rfl
      · have hF := hz0.out rfl
        rw [← hF] at hX
        rw [show ((0 : Nat) : Int) = 0 from rfl] at cy
        have hr1 := hA.out.row
        have hr2 := hA.out.eq
        clear hF hz0 hz1 hB1
        go_wp2_with fail
        refine (hB2.out _).mono ?_
        rintro e w5 ⟨rfl, hb⟩
        have ha5 := row_below hA.out.row hb hA.out.lt
        have hA6 := Lib.hid (At.put (k := .i64) (f := dgt q) ha5)
        have hX6 := Lib.hid ((hX.out.step hb).far (c := arrK .i64 16 (dgt q)) hne5)
        have hY6 := Lib.hid ((hY.out.step hb).far (c := arrK .i64 16 (dgt q)) hne6)
        have hR6 := Lib.hid ((row_setRow_far (c' := arrK .i64 16 (dgt q)) hne4).2 (row_below hR.out hb hR.out.lt))
        have hL6 := Lib.hid (below_setRow (c := arrK .i64 16 (dgt q)) (below_step hb hL.out (Nat.le_refl _)) (Nat.le_refl _))
        have hcq := arrK_cells .i64 16 (dgt q)
        clear hr1 hr2 hb hA hX hY hR hL hB2 cy
        dsimp only
        go_wp2_with fail
        go_roundw
        case rel => exact ⟨s + 1, q, by go_num, by omega, hql, hq, hA6, hR6, hX6, hY6, hL6⟩
        case measure => simp [intOf]; omega
      · have hF := Lib.hid (hz1.out rfl)
        rw [show ((1 : Nat) : Int) = 1 from rfl] at cy
        rw [hF.out] at hB1
        have hr1 := hA.out.row
        have hr2 := hA.out.eq
        have hr3 := hX.out.row
        have hr4 := hX.out.eq
        clear hF hz0 hz1
        go_wp2_with fail
        refine (hB1.out _).mono ?_
        rintro e w4 ⟨rfl, hb⟩
        have ha4 := row_below hX.out.row hb hX.out.lt
        have hX4 := Lib.hid (At.put (k := .i64) (f := dgt (F (s + 1))) ha4)
        have hA4 := Lib.hid ((hA.out.step hb).far (c := arrK .i64 16 (dgt (F (s + 1)))) hne1)
        have hY4 := Lib.hid ((hY.out.step hb).far (c := arrK .i64 16 (dgt (F (s + 1)))) hne3)
        have hR4 := Lib.hid ((row_setRow_far (c' := arrK .i64 16 (dgt (F (s + 1)))) hne2).2 (row_below hR.out hb hR.out.lt))
        have hL4 := Lib.hid (below_setRow (c := arrK .i64 16 (dgt (F (s + 1)))) (below_step hb hL.out (Nat.le_refl _)) hlog)
        have hcq4 := arrK_cells .i64 16 (dgt (F (s + 1)))
        clear hr1 hr2 hr3 hr4 hb hA hX hY hR hL hB1 cy
        have hr1 := hA4.out.row
        have hr2 := hA4.out.eq
        dsimp only
        go_wp2_with fail
        refine (hB2.out _).mono ?_
        rintro e w5 ⟨rfl, hb⟩
        have ha5 := row_below hA4.out.row hb hA4.out.lt
        have hA6 := Lib.hid (At.put (k := .i64) (f := dgt q) ha5)
        have hX6 := Lib.hid ((hX4.out.step hb).far (c := arrK .i64 16 (dgt q)) hne5)
        have hY6 := Lib.hid ((hY4.out.step hb).far (c := arrK .i64 16 (dgt q)) hne6)
        have hR6 := Lib.hid ((row_setRow_far (c' := arrK .i64 16 (dgt q)) hne4).2 (row_below hR4.out hb hR4.out.lt))
        have hL6 := Lib.hid (below_setRow (c := arrK .i64 16 (dgt q)) (below_step hb hL4.out (Nat.le_refl _)) (Nat.le_refl _))
        have hcq := arrK_cells .i64 16 (dgt q)
        clear hr1 hr2 hb hA4 hX4 hY4 hR4 hL4 hB2
        dsimp only
        go_wp2_with fail
        go_roundw
        case rel => exact ⟨s + 1, q, by go_num, by omega, hql, hq, hA6, hR6, hX6, hY6, hL6⟩
        case measure => simp [intOf]; omega
def SRel.fN (m : Nat) : SRel := ⟨fun v w => IsN w v m, fun _ _ _ hb h => h.step hb⟩
def SRel.fV (m : Nat) : SRel := ⟨fun v w => IsV w v m, fun _ _ _ hb h => h.step hb⟩
theorem fe_Over (av : Nat) (w : World) (ha : av < 2 ^ 256) : Calls Tryd.prog 111 #[feV av] w fun e w' => e = .returned (feV (invP av)) ∧ Below w.heap.size w w' := by
  have h2 := Lib.hid (fun V => ref_Modulus V)
  have h3 := Lib.hid (fun u v V (hu : IsN V u fP) (hv : IsV V v 2) => minusN V (hu.toV P_big) hv (Nat.le_trans (by omega) (Nat.le_of_lt fP_pos)))
  have hq : fP - 2 < 2 ^ 256 := Nat.lt_of_le_of_lt (Nat.sub_le _ _) P_lt
  have hT := Lib.hid (fun u V (hu : IsN V u (fP - 2)) => fe_To av (fP - 2) u V ha hq (hu.toV (lt_big hq (by omega))))
  unfold invP
  obtain ⟨r, hr⟩ : ∃ r, av ^ (fP - 2) % fP = r := ⟨_, rfl⟩
  rw [hr] at hT ⊢
  obtain ⟨q, hq'⟩ : ∃ r, fP - 2 = r := ⟨_, rfl⟩
  rw [hq'] at h3 hT
  obtain ⟨p, hp⟩ : ∃ r, fP = r := ⟨_, rfl⟩
  rw [hp] at h2 h3
  clear hr hp hq' hq ha
  have hcr := arrK_cells .i64 16 (dgt r)
  have hcz := arrK_cells .i64 16 fun _ => 0
  unfold feV at hT ⊢
  have hL0 : Below w.heap.size w ((w.alloc (Obj.cells (arrK .i64 16 (dgt av)) 135)).alloc (Obj.cells (arrK .i64 16 fun _ => 0) 135)) := by go_grown
  have hA0 : At ((w.alloc (Obj.cells (arrK .i64 16 (dgt av)) 135)).alloc (Obj.cells (arrK .i64 16 fun _ => 0) 135)) w.heap.size .i64 16 (dgt av) := (At.new _ rfl).old _
  have hR0 : Row ((w.alloc (Obj.cells (arrK .i64 16 (dgt av)) 135)).alloc (Obj.cells (arrK .i64 16 fun _ => 0) 135)) (w.heap.size + 1) 16 := (At.new (k := .i64) (f := fun _ => 0) _ (by simp)).row
  have hL := Lib.hid hL0
  have hR := Lib.hid hR0
  have hA := Lib.hid hA0
  clear hL0 hR0 hA0
  go_enter Tryd.func111, Tryd.ntmps111
  go_upto_region 1 with (fail)
  generalize (w.alloc _).alloc _ = W0 at *
  generalize ha0 : Act.mk _ _ = a0
  have e1 : a0.tmps[1]?.getD undef = .pointer (some ⟨w.heap.size, 0, none⟩) := by rw [← ha0]; rfl
  have e2 : a0.tmps[2]?.getD undef = .pointer (some ⟨w.heap.size + 1, 0, none⟩) := by rw [← ha0]; rfl
  have hz0 : a0.tmps.size = 8 := by rw [← ha0]; rfl
  have hha0 := Lib.hid ha0
  clear ha0
  refine wp_region_tail (fun jx_ => match jx_ with | 0 => SRel.is (.agg (arrK .i64 16 (dgt av))) | 1 => SRel.fN p | 2 => SRel.fV 2 | 3 => SRel.fN q | 4 => SRel.is (.agg (arrK .i64 16 (dgt r))) | 5 => SRel.any | _ => SRel.any) 5 (by kernel_rfl) (by kernel_rfl) (by kernel_rfl) (slotsOk_of hz0 (by kernel_rfl)) (by kernel_rfl) ⟨?_, ?_, ?_, ?_, ?_, ?_, trivial⟩ (of_decide_eq_true (by kernel_rfl))
  · rw [if_neg (by decide)]
    refine calmT_step rfl fun a ω κ hb hu hc hK => ?_
    have h1 : a.tmps[1]?.getD undef = .pointer (some ⟨w.heap.size, 0, none⟩) := (hu 1 rfl).trans e1
    have hk := Lib.hid (fun w1 (h : Below ω.heap.size ω w1) => hK (.agg (arrK .i64 16 (dgt av))) w1 rfl h)
    clear hK hu hc
    have hr1 := (hA.out.step hb).row
    have hr2 := (hA.out.step hb).eq
    go_simp
    exact hk.out _ (Below.refl _ _)
  · rw [if_neg (by decide)]
    refine calmT_step rfl fun a ω κ hb hu hc hK => ?_
    have hk := Lib.hid (fun v w1 (hv : (SRel.fN p).p v w1) (h : Below ω.heap.size ω w1) => hK v w1 hv h)
    clear hK hu hc
    go_simp
    go_at_call 150
    refine (h2.out _).mono ?_
    rintro e w1 ⟨u, rfl, hu1, hb1⟩
    exact hk.out _ _ hu1 hb1
  · rw [if_neg (by decide)]
    refine calmT_step rfl fun a ω κ hb hu hc hK => ?_
    have hk := Lib.hid (fun v w1 (hv : (SRel.fV 2).p v w1) (h : Below ω.heap.size ω w1) => hK v w1 hv h)
    clear hK hu hc
    go_simp
    exact hk.out _ _ (IsV.lit ω 3 (d := 2) (by omega)) (below_alloc _ _)
  · rw [if_neg (by decide)]
    refine calmT_step rfl fun a ω κ hb hu hc hK => ?_
    have h4 : (SRel.fN p).p (a.tmps[4]?.getD undef) ω := hc 1 4 rfl rfl
    have h5 : (SRel.fV 2).p (a.tmps[5]?.getD undef) ω := hc 2 5 rfl rfl
    have hk := Lib.hid (fun v w1 (hv : (SRel.fN q).p v w1) (h : Below ω.heap.size ω w1) => hK v w1 hv h)
    clear hK hu hc
    go_simp
    go_at_call 115
    refine (h3.out _ _ _ h4 h5).mono ?_
    rintro e w1 ⟨u, rfl, hu1, hb1⟩
    exact hk.out _ _ hu1.toN hb1
  · rw [if_neg (by decide)]
    refine calmT_step rfl fun a ω κ hb hu hc hK => ?_
    have h3 : a.tmps[3]?.getD undef = .agg (arrK .i64 16 (dgt av)) := hc 0 3 rfl rfl
    have h6 : (SRel.fN q).p (a.tmps[6]?.getD undef) ω := hc 3 6 rfl rfl
    have hk := Lib.hid (fun w1 (h : Below ω.heap.size ω w1) => hK (.agg (arrK .i64 16 (dgt r))) w1 rfl h)
    clear hK hu hc
    go_simp
    go_at_call 154
    refine (hT.out _ _ h6).mono ?_
    rintro e w1 ⟨rfl, hb1⟩
    exact hk.out _ hb1
  · rw [if_pos rfl]
    refine last_of rfl fun aa ω hb hu hsz hdf hc => ?_
    have h2 : aa.tmps[2]?.getD undef = .pointer (some ⟨w.heap.size + 1, 0, none⟩) := (hu 2 rfl).trans e2
    have h7 : aa.tmps[7]?.getD undef = .agg (arrK .i64 16 (dgt r)) := hc 4 7 (by decide) rfl
    have hHz := Lib.hid (And.intro hu (And.intro hsz hdf))
    clear hc hu hsz hdf hz0
    have hr1 := row_below hR.out hb hR.out.lt
    have hL2 := Lib.hid (below_step hb hL.out (Nat.le_refl _))
    go_simp
    have ha0 := hha0.out
    subst ha0
    have he := act_patchT (n := 8) 5 [false, false, false, true, true, true, true, true] rfl (by kernel_rfl) hHz.out.1 hHz.out.2.1 hHz.out.2.2
    simp only [patch, cond_true, cond_false, Nat.reduceAdd] at he
    clear hHz hha0 e1 e2
    rw [he]
    clear he
    generalize aa.tmps[3]?.getD undef = x3 at *
    generalize aa.tmps[4]?.getD undef = x4 at *
    generalize aa.tmps[5]?.getD undef = x5 at *
    generalize aa.tmps[6]?.getD undef = x6 at *
    generalize aa.tmps[7]?.getD undef = x7 at *
    go_wp2_with fail
    exact ret_stored (p := 2) (ty := 135) (g := w.heap.size + 1) (n := 16) (c := arrK .i64 16 (dgt r)) rfl Tryd.underlying135 rfl (by kernel_rfl) rfl hr1 hcr.1 rfl ⟨rfl, below_setRow hL2.out (by omega)⟩
end Go.Proofs.YtgdiokklfihfoaaDoor
namespace Go.Proofs.YtgdiokklfihfoaaDoor
open Go.ChangeShapes Go.WideShapes Go.ChangeAt Go.RowKit
set_option maxHeartbeats 2000000
set_option maxRecDepth 100000
theorem load_rp {w : World} {dst : Option Tmp} {x : Operand} {tt : TypeId} {pos : String} {af : Array Edge} {gd : Option (Nat × Bool)} {a : Act} {K : Act → World → Prop} {Q : Exit → Act → World → Prop}
    (hv : IsHead (a.eval x)) (h : Row w (blkOf (a.eval x)) 48) : Oper.wp Tryd.prog ⟨dst, .load 137 x, tt, pos, af, gd⟩ a w K Q ↔ K (a.put dst (.agg (rowAt w (blkOf (a.eval x))))) w :=
  wp_load_whole Tryd.underlying137 rfl (by kernel_rfl) hv h
theorem store_rp {w : World} {dst : Option Tmp} {x y : Operand} {tt : TypeId} {pos : String} {af : Array Edge} {gd : Option (Nat × Bool)} {a : Act} {K : Act → World → Prop} {Q : Exit → Act → World → Prop}
    (hv : IsHead (a.eval x)) (h : Row w (blkOf (a.eval x)) 48) (hx : IsAgg (a.eval y) 48) : Oper.wp Tryd.prog ⟨dst, .store 137 x y, tt, pos, af, gd⟩ a w K Q ↔ K (a.put dst undef) (w.setRow (blkOf (a.eval x)) (cellsV (a.eval y))) :=
  wp_store_whole (by kernel_rfl) hv h hx
theorem execl_rp {w : World} {dst : Option Tmp} {x : Operand} {tt : TypeId} {pos : String} {af : Array Edge} {gd : Option (Nat × Bool)} {ρ : Operand → Value}
    (hv : IsHead (ρ x)) (h : Row w (blkOf (ρ x)) 48) : (execOp ρ ⟨dst, .load 137 x, tt, pos, af, gd⟩).run Tryd.prog w = .ok (.value (.agg (rowAt w (blkOf (ρ x))))) w :=
  exec_load_whole Tryd.underlying137 rfl (by kernel_rfl) hv h
theorem execs_rp {w : World} {dst : Option Tmp} {x y : Operand} {tt : TypeId} {pos : String} {af : Array Edge} {gd : Option (Nat × Bool)} {ρ : Operand → Value}
    (hv : IsHead (ρ x)) (h : Row w (blkOf (ρ x)) 48) (hx : IsAgg (ρ y) 48) : (execOp ρ ⟨dst, .store 137 x y, tt, pos, af, gd⟩).run Tryd.prog w = .ok .skip (w.setRow (blkOf (ρ x)) (cellsV (ρ y))) :=
  exec_store_whole (by kernel_rfl) hv h hx

theorem load_feP {w : World} {dst : Option Tmp} {x : Operand} {tt : TypeId} {pos : String} {af : Array Edge} {gd : Option (Nat × Bool)} {a : Act} {K : Act → World → Prop} {Q : Exit → Act → World → Prop} (h : LdOk w 16 (a.eval x)) : Oper.wp Tryd.prog ⟨dst, .load 135 x, tt, pos, af, gd⟩ a w K Q ↔ K (a.put dst (.agg (ldC w 16 (a.eval x)))) w := wp_load_el Tryd.underlying135 rfl (by kernel_rfl) h
def cat3 (f0 f1 f2 : Nat → Nat) (i : Nat) : Nat := if i < 16 then f0 i else if i < 32 then f1 (i - 16) else f2 (i - 32)
section
variable {w : World} {g : Nat} {f0 f1 f2 : Nat → Nat}
theorem rp_0 (h : At w g .i64 48 (cat3 f0 f1 f2)) : LdOk w 16 (.pointer (some ⟨g, 0, none⟩)) ∧ ldC w 16 (.pointer (some ⟨g, 0, none⟩)) = arrK .i64 16 f0 := by
  refine ⟨(h.fld (by omega)).1, (h.fld (by omega)).2.trans (arrK_congr fun i hi => ?_)⟩
  unfold cat3; rw [if_pos (by omega), Nat.zero_add]
theorem rp_1 (h : At w g .i64 48 (cat3 f0 f1 f2)) : LdOk w 16 (.pointer (some ⟨g, 16, none⟩)) ∧ ldC w 16 (.pointer (some ⟨g, 16, none⟩)) = arrK .i64 16 f1 := by
  refine ⟨(h.fld (by omega)).1, (h.fld (by omega)).2.trans (arrK_congr fun i hi => ?_)⟩
  unfold cat3; rw [if_neg (by omega), if_pos (by omega), Nat.add_sub_cancel_left]
theorem rp_2 (h : At w g .i64 48 (cat3 f0 f1 f2)) : LdOk w 16 (.pointer (some ⟨g, 32, none⟩)) ∧ ldC w 16 (.pointer (some ⟨g, 32, none⟩)) = arrK .i64 16 f2 := by
  refine ⟨(h.fld (by omega)).1, (h.fld (by omega)).2.trans (arrK_congr fun i hi => ?_)⟩
  unfold cat3; rw [if_neg (by omega), if_neg (by omega), Nat.add_sub_cancel_left]
end
def rpV (x y z : Nat) : Value := .agg (arrK .i64 48 (cat3 (dgt x) (dgt y) (dgt z)))
theorem build_rp (f0 f1 f2 : Nat → Nat) (w : World) : (Instr.build 137 #[(0, .agg (arrK .i64 16 f0)), (1, .agg (arrK .i64 16 f1)), (2, .agg (arrK .i64 16 f2))]).run Tryd.prog w = .ok (.agg (arrK .i64 48 (cat3 f0 f1 f2))) w := run_build w _ _ _ (by kernel_rfl)
theorem zeroRp : #[Value.int IntKind.i64 0, Value.int IntKind.i64 0, Value.int IntKind.i64 0, Value.int IntKind.i64 0, Value.int IntKind.i64 0, Value.int IntKind.i64 0, Value.int IntKind.i64 0, Value.int IntKind.i64 0, Value.int IntKind.i64 0, Value.int IntKind.i64 0, Value.int IntKind.i64 0, Value.int IntKind.i64 0, Value.int IntKind.i64 0, Value.int IntKind.i64 0, Value.int IntKind.i64 0, Value.int IntKind.i64 0, Value.int IntKind.i64 0, Value.int IntKind.i64 0, Value.int IntKind.i64 0, Value.int IntKind.i64 0, Value.int IntKind.i64 0, Value.int IntKind.i64 0, Value.int IntKind.i64 0, Value.int IntKind.i64 0, Value.int IntKind.i64 0, Value.int IntKind.i64 0, Value.int IntKind.i64 0, Value.int IntKind.i64 0, Value.int IntKind.i64 0, Value.int IntKind.i64 0, Value.int IntKind.i64 0, Value.int IntKind.i64 0, Value.int IntKind.i64 0, Value.int IntKind.i64 0, Value.int IntKind.i64 0, Value.int IntKind.i64 0, Value.int IntKind.i64 0, Value.int IntKind.i64 0, Value.int IntKind.i64 0, Value.int IntKind.i64 0, Value.int IntKind.i64 0, Value.int IntKind.i64 0, Value.int IntKind.i64 0, Value.int IntKind.i64 0, Value.int IntKind.i64 0, Value.int IntKind.i64 0, Value.int IntKind.i64 0, Value.int IntKind.i64 0] = arrK .i64 48 (cat3 (fun _ => 0) (fun _ => 0) (fun _ => 0)) := by kernel_rfl
section
variable {P : Program} {ops : Array Oper} {rest : List Oper} {o : Oper} {a : Act} {w : World} {K : Act → World → Prop} {Q : Exit → Act → World → Prop} {t : TypeId} {i0 i1 i2 : Nat} {x0 x1 x2 : Operand} {u v0 v1 v2 : Value}
theorem wp_bldC (ho : o.op = .build t #[(i0, x0), (i1, x1), (i2, x2)]) (h0 : a.eval x0 = v0) (h1 : a.eval x1 = v1) (h2 : a.eval x2 = v2) (hr : (Instr.build t #[(i0, v0), (i1, v1), (i2, v2)]).run P w = .ok u w) (h : K (a.put o.dst u) w) : Oper.wp P o a w K Q := by
  subst h0 h1 h2
  obtain ⟨dst, op, tt, pos, af, gd⟩ := o
  subst ho
  unfold Oper.wp execOp
  simp only [List.map_toArray, List.map_cons, List.map_nil, Sem.run_bind, hr, Result.andThen_ok]
  exact h
theorem wpList_bldC (hgd : o.guard = none) (ho : o.op = .build t #[(i0, x0), (i1, x1), (i2, x2)]) (h0 : a.eval x0 = v0) (h1 : a.eval x1 = v1) (h2 : a.eval x2 = v2) (hr : (Instr.build t #[(i0, v0), (i1, v1), (i2, v2)]).run P w = .ok u w) (h : wpList P ops Q rest (a.put o.dst u) w) : wpList P ops Q (o :: rest) a w :=
  wpList_step fun K hK => by
    have hw : Region.wanted o (yielded ops a.tmps) = true := by simp [Region.wanted, hgd]
    rw [if_pos hw]
    exact wp_bldC ho h0 h1 h2 hr (hK _ _ h)
end
section
variable {P : Program} {ops : Array Oper} {rest : List Oper} {o : Oper} {a : Act} {w : World} {Q : Exit → Act → World → Prop} {t : TypeId} {parts : Array (Nat × Operand)} {vs : Array (Nat × Value)} {u : Value}
theorem wpList_bldN (hgd : o.guard = none) (ho : o.op = .build t parts) (hv : (parts.map fun p => (p.1, a.eval p.2)) = vs) (hr : (Instr.build t vs).run P w = .ok u w) (h : wpList P ops Q rest (a.put o.dst u) w) : wpList P ops Q (o :: rest) a w :=
  wpList_step fun K hK => by
    have hw : Region.wanted o (yielded ops a.tmps) = true := by simp [Region.wanted, hgd]
    rw [if_pos hw]
    subst hv
    obtain ⟨dst, op, tt, pos, af, gd⟩ := o
    subst ho
    unfold Oper.wp execOp
    simp only [Sem.run_bind, hr, Result.andThen_ok]
    exact hK _ _ h
end
theorem build_d (w : World) : (Instr.build 135 #[(0, Value.int IntKind.i64 30883), (1, Value.int IntKind.i64 4953), (2, Value.int IntKind.i64 19914), (3, Value.int IntKind.i64 30187), (4, Value.int IntKind.i64 55467), (5, Value.int IntKind.i64 16705), (6, Value.int IntKind.i64 2637), (7, Value.int IntKind.i64 112), (8, Value.int IntKind.i64 59544), (9, Value.int IntKind.i64 30585), (10, Value.int IntKind.i64 16505), (11, Value.int IntKind.i64 36039), (12, Value.int IntKind.i64 65139), (13, Value.int IntKind.i64 11119), (14, Value.int IntKind.i64 27886), (15, Value.int IntKind.i64 20995)]).run Tryd.prog w = .ok (.agg (arrK .i64 16 (dgt dN))) w := run_build w _ _ _ (by kernel_rfl)
attribute [local go_sem ↓] load_fe store_fe
attribute [local go_sem] isHead_mk blkOf_mk isAgg_mk cellsV_mk row_drew rowAt_drew row_new_cells row_old rowAt_new rowAt_old setRow_new zeroFe
theorem ref_dOf (w : World) : Calls Tryd.prog 151 #[] w fun e w' => e = .returned (feV dN) ∧ Below w.heap.size w w' := by
  unfold feV
  have hl := Lib.hid (fun V => build_d V)
  obtain ⟨F, hF⟩ : ∃ F, dgt dN = F := ⟨_, rfl⟩
  rw [hF] at hl ⊢
  clear hF
  have hcz := arrK_cells .i64 16 fun _ => 0
  have hcp := arrK_cells .i64 16 F
  have hL0 := below_alloc w (Obj.cells (arrK .i64 16 fun _ => 0) 135)
  have hR0 : Row (w.alloc (Obj.cells (arrK .i64 16 fun _ => 0) 135)) w.heap.size 16 := (row_new rfl).2 hcz.1
  go_enter Tryd.func151, Tryd.ntmps151
  go_upto_region 1 with (fail)
  generalize w.alloc _ = W0 at *
  go_wp2_with (refine wpList_bldN (vs := #[(0, Value.int IntKind.i64 30883), (1, Value.int IntKind.i64 4953), (2, Value.int IntKind.i64 19914), (3, Value.int IntKind.i64 30187), (4, Value.int IntKind.i64 55467), (5, Value.int IntKind.i64 16705), (6, Value.int IntKind.i64 2637), (7, Value.int IntKind.i64 112), (8, Value.int IntKind.i64 59544), (9, Value.int IntKind.i64 30585), (10, Value.int IntKind.i64 16505), (11, Value.int IntKind.i64 36039), (12, Value.int IntKind.i64 65139), (13, Value.int IntKind.i64 11119), (14, Value.int IntKind.i64 27886), (15, Value.int IntKind.i64 20995)]) rfl rfl (by simp [Act.eval]) (hl.out _) ?_)
  exact ret_stored (p := 0) (ty := 135) (g := w.heap.size) (n := 16) (c := arrK .i64 16 F) rfl Tryd.underlying135 rfl (by kernel_rfl) rfl hR0 hcp.1 rfl ⟨rfl, below_setRow hL0 (Nat.le_refl _)⟩
end Go.Proofs.YtgdiokklfihfoaaDoor
namespace Go.Proofs.YtgdiokklfihfoaaDoor
open Go.ChangeShapes Go.WideShapes Go.ChangeAt Go.RowKit
set_option maxHeartbeats 2000000
set_option maxRecDepth 100000
attribute [local go_sem ↓] load_fld load_feP load_num store_num load_fe store_fe load_pt store_pt load_rp store_rp
attribute [local go_sem] isHead_mk blkOf_mk isAgg_mk cellsV_mk row_drew rowAt_drew row_new_cells row_old rowAt_new rowAt_old setRow_new zeroNum zeroPt zeroFe zeroRp
theorem build_rX (w : World) : (Instr.build 135 #[(0, Value.int IntKind.i64 54554), (1, Value.int IntKind.i64 36645), (2, Value.int IntKind.i64 11616), (3, Value.int IntKind.i64 51542), (4, Value.int IntKind.i64 42930), (5, Value.int IntKind.i64 38181), (6, Value.int IntKind.i64 51040), (7, Value.int IntKind.i64 26924), (8, Value.int IntKind.i64 56412), (9, Value.int IntKind.i64 64982), (10, Value.int IntKind.i64 57905), (11, Value.int IntKind.i64 49316), (12, Value.int IntKind.i64 21502), (13, Value.int IntKind.i64 52590), (14, Value.int IntKind.i64 14035), (15, Value.int IntKind.i64 8553)]).run Tryd.prog w = .ok (.agg (arrK .i64 16 (dgt bX))) w := run_build w _ _ _ (by kernel_rfl)
theorem build_rY (w : World) : (Instr.build 135 #[(0, Value.int IntKind.i64 26200), (1, Value.int IntKind.i64 26214), (2, Value.int IntKind.i64 26214), (3, Value.int IntKind.i64 26214), (4, Value.int IntKind.i64 26214), (5, Value.int IntKind.i64 26214), (6, Value.int IntKind.i64 26214), (7, Value.int IntKind.i64 26214), (8, Value.int IntKind.i64 26214), (9, Value.int IntKind.i64 26214), (10, Value.int IntKind.i64 26214), (11, Value.int IntKind.i64 26214), (12, Value.int IntKind.i64 26214), (13, Value.int IntKind.i64 26214), (14, Value.int IntKind.i64 26214), (15, Value.int IntKind.i64 26214)]).run Tryd.prog w = .ok (.agg (arrK .i64 16 (dgt bY))) w := run_build w _ _ _ (by kernel_rfl)
theorem ref_PtBase (w : World) : Calls Tryd.prog 71 #[] w fun e w' => e = .returned (rpV bX bY 1) ∧ Below w.heap.size w w' := by
  unfold rpV
  have hb1 := Lib.hid (fun V => build_rX V)
  have hb2 := Lib.hid (fun V => build_rY V)
  have h1 := Lib.hid (fun V => ref_small 1 V (by omega))
  unfold feV at h1
  rw [show ((1 : Nat) : Int) = 1 from rfl] at h1
  obtain ⟨F, hF⟩ : ∃ X, dgt bX = X := ⟨_, rfl⟩
  obtain ⟨G, hG⟩ : ∃ X, dgt bY = X := ⟨_, rfl⟩
  rw [hF] at hb1 ⊢
  rw [hG] at hb2 ⊢
  clear hF hG
  have hcz := arrK_cells .i64 48 (cat3 (fun _ => 0) (fun _ => 0) (fun _ => 0))
  have hcp := arrK_cells .i64 48 (cat3 F G (dgt 1))
  have hL := Lib.hid (below_alloc w (Obj.cells (arrK .i64 48 (cat3 (fun _ => 0) (fun _ => 0) (fun _ => 0))) 137))
  have hR := Lib.hid (show Row (w.alloc (Obj.cells (arrK .i64 48 (cat3 (fun _ => 0) (fun _ => 0) (fun _ => 0))) 137)) w.heap.size 48 from (row_new rfl).2 hcz.1)
  go_enter Tryd.func71, Tryd.ntmps71
  go_upto_region 1 with (fail)
  generalize w.alloc _ = W0 at *
  go_wp2_with (first | (refine wpList_bldN (vs := #[(0, Value.int IntKind.i64 54554), (1, Value.int IntKind.i64 36645), (2, Value.int IntKind.i64 11616), (3, Value.int IntKind.i64 51542), (4, Value.int IntKind.i64 42930), (5, Value.int IntKind.i64 38181), (6, Value.int IntKind.i64 51040), (7, Value.int IntKind.i64 26924), (8, Value.int IntKind.i64 56412), (9, Value.int IntKind.i64 64982), (10, Value.int IntKind.i64 57905), (11, Value.int IntKind.i64 49316), (12, Value.int IntKind.i64 21502), (13, Value.int IntKind.i64 52590), (14, Value.int IntKind.i64 14035), (15, Value.int IntKind.i64 8553)]) rfl rfl ?_ (hb1.out _) ?_; focus (simp [Act.eval]; done)) | (refine wpList_bldN (vs := #[(0, Value.int IntKind.i64 26200), (1, Value.int IntKind.i64 26214), (2, Value.int IntKind.i64 26214), (3, Value.int IntKind.i64 26214), (4, Value.int IntKind.i64 26214), (5, Value.int IntKind.i64 26214), (6, Value.int IntKind.i64 26214), (7, Value.int IntKind.i64 26214), (8, Value.int IntKind.i64 26214), (9, Value.int IntKind.i64 26214), (10, Value.int IntKind.i64 26214), (11, Value.int IntKind.i64 26214), (12, Value.int IntKind.i64 26214), (13, Value.int IntKind.i64 26214), (14, Value.int IntKind.i64 26214), (15, Value.int IntKind.i64 26214)]) rfl rfl ?_ (hb2.out _) ?_; focus (simp [Act.eval]; done)))
  refine (h1.out _).mono ?_
  rintro e w2 ⟨rfl, hb⟩
  have hR2 := row_below hR.out hb hR.out.lt
  have hL2 := Lib.hid (below_step hb hL.out (Nat.le_refl _))
  clear hb hR hL
  dsimp only
  go_wp2_with (refine wpList_bldC (v0 := .agg (arrK .i64 16 F)) (v1 := .agg (arrK .i64 16 G)) (v2 := .agg (arrK .i64 16 (dgt 1))) rfl rfl (by go_simp) (by go_simp) (by go_simp) (build_rp _ _ _ _) ?_)
  exact ret_stored (p := 0) (ty := 137) (g := w.heap.size) (n := 48) (c := arrK .i64 48 (cat3 F G (dgt 1))) rfl Tryd.underlying137 rfl (by kernel_rfl) rfl hR2 hcp.1 rfl ⟨rfl, below_setRow hL2.out (Nat.le_refl _)⟩
theorem rp_Point (x y z : Nat) (w : World) (hx : x < 2 ^ 256) (hy : y < 2 ^ 256) (hz : z < 2 ^ 256) : Calls Tryd.prog 73 #[rpV x y z] w fun e w' => e = .returned (ptV (x * invP z % fP) (y * invP z % fP)) ∧ Below w.heap.size w w' := by
  have hi : invP z < 2 ^ 256 := Nat.lt_trans lt_P P_lt
  have hI := Lib.hid (fun V => fe_Over z V hz)
  obtain ⟨i, hi'⟩ : ∃ i, invP z = i := ⟨_, rfl⟩
  rw [hi'] at hI hi ⊢
  have hM1 := Lib.hid (fun V => fe_By x i V hx hi)
  have hM2 := Lib.hid (fun V => fe_By y i V hy hi)
  have hN1 := Lib.hid (fun V => fe_Num (x * i % fP) V low_lt)
  have hN2 := Lib.hid (fun V => fe_Num (y * i % fP) V low_lt)
  obtain ⟨a, ha⟩ : ∃ m, x * i % fP = m := ⟨_, rfl⟩
  obtain ⟨b, hb⟩ : ∃ m, y * i % fP = m := ⟨_, rfl⟩
  rw [ha] at hM1 hN1 ⊢
  rw [hb] at hM2 hN2 ⊢
  clear ha hb hx hy hz hi' hi
  unfold feV at hM1 hM2 hI hN1 hN2
  unfold numV at hN1 hN2
  unfold ptV rpV
  have hcq := arrK_cells .u64 8 (cat2 (wd a) (wd b))
  have hci := arrK_cells .i64 16 (dgt i)
  have hc0 := arrK_cells .i64 16 fun _ => 0
  have hcz := arrK_cells .u64 8 (cat2 (wd 0) (wd 0))
  have hL0 : Below w.heap.size w ((w.alloc (Obj.cells (arrK .i64 48 (cat3 (dgt x) (dgt y) (dgt z))) 137)).alloc (Obj.cells (arrK .u64 8 (cat2 (wd 0) (wd 0))) 133)) := by go_grown
  have hA0 : At ((w.alloc (Obj.cells (arrK .i64 48 (cat3 (dgt x) (dgt y) (dgt z))) 137)).alloc (Obj.cells (arrK .u64 8 (cat2 (wd 0) (wd 0))) 133)) w.heap.size .i64 48 (cat3 (dgt x) (dgt y) (dgt z)) := (At.new _ rfl).old _
  have hR0 : Row ((w.alloc (Obj.cells (arrK .i64 48 (cat3 (dgt x) (dgt y) (dgt z))) 137)).alloc (Obj.cells (arrK .u64 8 (cat2 (wd 0) (wd 0))) 133)) (w.heap.size + 1) 8 := (At.new (k := .u64) (f := cat2 (wd 0) (wd 0)) _ (by simp)).row
  have hL := Lib.hid hL0
  have hR := Lib.hid hR0
  have hA := Lib.hid hA0
  clear hL0 hR0 hA0
  go_enter Tryd.func73, Tryd.ntmps73
  go_upto_region 1 with (fail)
  generalize (w.alloc _).alloc _ = W0 at *
  have hl1 := (rp_2 hA.out).1
  have hl2 := (rp_2 hA.out).2
  go_upto_region 2 with (fail)
  refine (hI.out _).mono ?_
  rintro e w2 ⟨rfl, hb2⟩
  have hA2 := hA.out.step hb2
  have hR2 := row_below hR.out hb2 hR.out.lt
  have hL2 := below_step hb2 hL.out (Nat.le_refl _)
  have hlt : w.heap.size + 1 < w2.heap.size := hR2.lt
  clear hl1 hl2 hA hR hL hb2 hI
  have hA := Lib.hid (hA2.old (Obj.cells (arrK .i64 16 (dgt i)) 135))
  have hR := Lib.hid ((row_old (o := Obj.cells (arrK .i64 16 (dgt i)) 135) hR2.lt).2 hR2)
  have hL := Lib.hid (Below.trans hL2 ((below_alloc w2 (Obj.cells (arrK .i64 16 (dgt i)) 135)).mono hL2.size))
  have hX := Lib.hid (At.new (w := w2) (k := .i64) (m := 16) (f := dgt i) 135 rfl)
  clear hA2 hR2 hL2
  dsimp only
  go_upto_region 2 with (fail)
  obtain ⟨g, hg⟩ : ∃ g, w2.heap.size = g := ⟨_, rfl⟩
  rw [hg] at hX hlt ⊢
  clear hg
  generalize w2.alloc _ = W1 at *
  generalize ha0 : Act.mk _ _ = a0
  have e1 : a0.tmps[1]?.getD undef = .pointer (some ⟨w.heap.size, 0, none⟩) := by rw [← ha0]; rfl
  have e2 : a0.tmps[2]?.getD undef = .pointer (some ⟨w.heap.size + 1, 0, none⟩) := by rw [← ha0]; rfl
  have e3 : a0.tmps[3]?.getD undef = .pointer (some ⟨g, 0, none⟩) := by rw [← ha0]; rfl
  have hz0 : a0.tmps.size = 18 := by rw [← ha0]; rfl
  have hha0 := Lib.hid ha0
  clear ha0
  refine wp_region_one (fun jx_ => match jx_ with | 0 => some (.pointer (some ⟨w.heap.size, 0, none⟩)) | 1 => some (.agg (arrK .i64 16 (dgt x))) | 2 => some (.agg (arrK .i64 16 (dgt i))) | 3 => some (.agg (arrK .i64 16 (dgt a))) | 4 => some (.agg (arrK .u64 4 (wd a))) | 5 => some (.pointer (some ⟨w.heap.size, 16, none⟩)) | 6 => some (.agg (arrK .i64 16 (dgt y))) | 7 => some (.agg (arrK .i64 16 (dgt i))) | 8 => some (.agg (arrK .i64 16 (dgt b))) | 9 => some (.agg (arrK .u64 4 (wd b))) | 10 => some (.agg (arrK .u64 8 (cat2 (wd a) (wd b)))) | _ => none) 11 ((w.heap.size + 1)) 8 (arrK .u64 8 (cat2 (wd a) (wd b))) (by kernel_rfl) (by kernel_rfl) (by kernel_rfl) (slotsOk_of hz0 (by kernel_rfl)) (of_decide_eq_true (by kernel_rfl)) hR.out ⟨?_, ?_, ?_, ?_, ?_, ?_, ?_, ?_, ?_, ?_, ?_, ?_, trivial⟩ ?_
  · refine one_before (by decide) (by kernel_rfl) (calm_step rfl fun aa ω κ hb hu hc hK => ?_)
    have h1 : aa.tmps[1]?.getD undef = .pointer (some ⟨w.heap.size, 0, none⟩) := (hu 1 rfl).trans e1
    have hk := Lib.hid (fun w1 (h : Below ω.heap.size ω w1) => hK (.pointer (some ⟨w.heap.size, 0, none⟩)) w1 rfl h)
    clear hK hu hc
    go_simp
    exact hk.out _ (Below.refl _ _)
  · refine one_before (by decide) (by kernel_rfl) (calm_step rfl fun aa ω κ hb hu hc hK => ?_)
    have h7 : aa.tmps[7]?.getD undef = .pointer (some ⟨w.heap.size, 0, none⟩) := hc 0 7 rfl rfl
    have hk := Lib.hid (fun w1 (h : Below ω.heap.size ω w1) => hK (.agg (arrK .i64 16 (dgt x))) w1 rfl h)
    clear hK hu hc
    have hl := rp_0 (hA.out.step hb)
    have hl1 := hl.1
    have hl2 := hl.2
    go_simp
    exact hk.out _ (Below.refl _ _)
  · refine one_before (by decide) (by kernel_rfl) (calm_step rfl fun aa ω κ hb hu hc hK => ?_)
    have h3 : aa.tmps[3]?.getD undef = .pointer (some ⟨g, 0, none⟩) := (hu 3 rfl).trans e3
    have hk := Lib.hid (fun w1 (h : Below ω.heap.size ω w1) => hK (.agg (arrK .i64 16 (dgt i))) w1 rfl h)
    clear hK hu hc
    have hr1 := (hX.out.step hb).row
    have hr2 := (hX.out.step hb).eq
    go_simp
    exact hk.out _ (Below.refl _ _)
  · refine one_before (by decide) (by kernel_rfl) (calm_step rfl fun aa ω κ hb hu hc hK => ?_)
    have h8 : aa.tmps[8]?.getD undef = .agg (arrK .i64 16 (dgt x)) := hc 1 8 rfl rfl
    have h9 : aa.tmps[9]?.getD undef = .agg (arrK .i64 16 (dgt i)) := hc 2 9 rfl rfl
    have hk := Lib.hid (fun w1 (h : Below ω.heap.size ω w1) => hK (.agg (arrK .i64 16 (dgt a))) w1 rfl h)
    clear hK hu hc
    go_simp
    go_at_call 112
    refine (hM1.out _).mono ?_
    rintro e w1 ⟨rfl, hb1⟩
    exact hk.out _ hb1
  · refine one_before (by decide) (by kernel_rfl) (calm_step rfl fun aa ω κ hb hu hc hK => ?_)
    have h10 : aa.tmps[10]?.getD undef = .agg (arrK .i64 16 (dgt a)) := hc 3 10 rfl rfl
    have hk := Lib.hid (fun w1 (h : Below ω.heap.size ω w1) => hK (.agg (arrK .u64 4 (wd a))) w1 rfl h)
    clear hK hu hc
    go_simp
    go_at_call 113
    refine (hN1.out _).mono ?_
    rintro e w1 ⟨rfl, hb1⟩
    exact hk.out _ hb1
  · refine one_before (by decide) (by kernel_rfl) (calm_step rfl fun aa ω κ hb hu hc hK => ?_)
    have h1 : aa.tmps[1]?.getD undef = .pointer (some ⟨w.heap.size, 0, none⟩) := (hu 1 rfl).trans e1
    have hk := Lib.hid (fun w1 (h : Below ω.heap.size ω w1) => hK (.pointer (some ⟨w.heap.size, 16, none⟩)) w1 rfl h)
    clear hK hu hc
    go_simp
    exact hk.out _ (Below.refl _ _)
  · refine one_before (by decide) (by kernel_rfl) (calm_step rfl fun aa ω κ hb hu hc hK => ?_)
    have h12 : aa.tmps[12]?.getD undef = .pointer (some ⟨w.heap.size, 16, none⟩) := hc 5 12 rfl rfl
    have hk := Lib.hid (fun w1 (h : Below ω.heap.size ω w1) => hK (.agg (arrK .i64 16 (dgt y))) w1 rfl h)
    clear hK hu hc
    have hl := rp_1 (hA.out.step hb)
    have hl1 := hl.1
    have hl2 := hl.2
    go_simp
    exact hk.out _ (Below.refl _ _)
  · refine one_before (by decide) (by kernel_rfl) (calm_step rfl fun aa ω κ hb hu hc hK => ?_)
    have h3 : aa.tmps[3]?.getD undef = .pointer (some ⟨g, 0, none⟩) := (hu 3 rfl).trans e3
    have hk := Lib.hid (fun w1 (h : Below ω.heap.size ω w1) => hK (.agg (arrK .i64 16 (dgt i))) w1 rfl h)
    clear hK hu hc
    have hr1 := (hX.out.step hb).row
    have hr2 := (hX.out.step hb).eq
    go_simp
    exact hk.out _ (Below.refl _ _)
  · refine one_before (by decide) (by kernel_rfl) (calm_step rfl fun aa ω κ hb hu hc hK => ?_)
    have h13 : aa.tmps[13]?.getD undef = .agg (arrK .i64 16 (dgt y)) := hc 6 13 rfl rfl
    have h14 : aa.tmps[14]?.getD undef = .agg (arrK .i64 16 (dgt i)) := hc 7 14 rfl rfl
    have hk := Lib.hid (fun w1 (h : Below ω.heap.size ω w1) => hK (.agg (arrK .i64 16 (dgt b))) w1 rfl h)
    clear hK hu hc
    go_simp
    go_at_call 112
    refine (hM2.out _).mono ?_
    rintro e w1 ⟨rfl, hb1⟩
    exact hk.out _ hb1
  · refine one_before (by decide) (by kernel_rfl) (calm_step rfl fun aa ω κ hb hu hc hK => ?_)
    have h15 : aa.tmps[15]?.getD undef = .agg (arrK .i64 16 (dgt b)) := hc 8 15 rfl rfl
    have hk := Lib.hid (fun w1 (h : Below ω.heap.size ω w1) => hK (.agg (arrK .u64 4 (wd b))) w1 rfl h)
    clear hK hu hc
    go_simp
    go_at_call 113
    refine (hN2.out _).mono ?_
    rintro e w1 ⟨rfl, hb1⟩
    exact hk.out _ hb1
  · refine one_before (by decide) (by kernel_rfl) (calm_step rfl fun aa ω κ hb hu hc hK => ?_)
    have h11 : aa.tmps[11]?.getD undef = .agg (arrK .u64 4 (wd a)) := hc 4 11 rfl rfl
    have h16 : aa.tmps[16]?.getD undef = .agg (arrK .u64 4 (wd b)) := hc 9 16 rfl rfl
    have hk := Lib.hid (fun w1 (h : Below ω.heap.size ω w1) => hK (.agg (arrK .u64 8 (cat2 (wd a) (wd b)))) w1 rfl h)
    clear hK hu hc
    exact wp_bldB (v0 := .agg (arrK .u64 4 (wd a))) (v1 := .agg (arrK .u64 4 (wd b))) rfl (by go_simp) (by go_simp) (build_pt _ _ _) (hk.out _ (Below.refl _ _))
  · refine one_q (one_write rfl rfl fun aa ω κ hb hu hc hr hK => ?_)
    have h2 : aa.tmps[2]?.getD undef = .pointer (some ⟨w.heap.size + 1, 0, none⟩) := (hu 2 rfl).trans e2
    have h17 : aa.tmps[17]?.getD undef = .agg (arrK .u64 8 (cat2 (wd a) (wd b))) := hc 10 17 rfl rfl
    have hk := Lib.hid hK
    clear hK hu hc
    have hcc := hcq
    go_simp
    exact hk.out undef
  · intro a1 w1 hb1 hu1 hsz1 hdf1 hv1
    have ha0 := hha0.out
    subst ha0
    have he := act_patch (n := 18) [false, false, false, false, false, false, false, true, true, true, true, true, true, true, true, true, true, true] rfl (by kernel_rfl) hu1 hsz1 hdf1
    simp only [patch, cond_true, cond_false, Nat.reduceAdd] at he
    have hXz := (At.put (k := .u64) (f := (cat2 (wd a) (wd b))) hR.out).below hb1 (by simpa using hR.out.lt)
    have hLz := Lib.hid (Below.trans (below_setRow (c := arrK .u64 8 (cat2 (wd a) (wd b))) hL.out (by omega)) (hb1.mono (by simpa using hL.out.size)))
    clear hR hL hA hM1 hM2 hN1 hN2 hX
    clear hb1 hu1 hsz1 hdf1 hv1 hz0 hha0 e1 e2 e3
    rw [he]
    clear he
    generalize a1.tmps[7]?.getD undef = x7 at *
    generalize a1.tmps[8]?.getD undef = x8 at *
    generalize a1.tmps[9]?.getD undef = x9 at *
    generalize a1.tmps[10]?.getD undef = x10 at *
    generalize a1.tmps[11]?.getD undef = x11 at *
    generalize a1.tmps[12]?.getD undef = x12 at *
    generalize a1.tmps[13]?.getD undef = x13 at *
    generalize a1.tmps[14]?.getD undef = x14 at *
    generalize a1.tmps[15]?.getD undef = x15 at *
    generalize a1.tmps[16]?.getD undef = x16 at *
    generalize a1.tmps[17]?.getD undef = x17 at *
    go_wp2_with fail
    refine ret_row (p := 2) (ty := 133) (g := (w.heap.size + 1)) rfl Tryd.underlying133 rfl (by kernel_rfl) rfl hXz.row rfl ?_
    rw [hXz.eq]
    exact ⟨rfl, hLz.out⟩
end Go.Proofs.YtgdiokklfihfoaaDoor
namespace Go.Proofs.YtgdiokklfihfoaaDoor
open Go.ChangeShapes Go.WideShapes Go.ChangeAt Go.RowKit
set_option maxHeartbeats 2000000
set_option maxRecDepth 100000
attribute [local go_sem ↓] load_fld load_feP load_num store_num load_fe store_fe load_pt store_pt load_rp store_rp
attribute [local go_sem] isHead_mk blkOf_mk isAgg_mk cellsV_mk row_drew rowAt_drew row_new_cells row_old rowAt_new rowAt_old setRow_new zeroNum zeroPt zeroFe zeroRp
theorem less_low {a b : Nat} : lessM a b < 2 ^ 256 := low_lt
theorem rp_Plus (X1 Y1 Z1 X2 Y2 Z2 va vc vd vb ve0 ve vf vg vs1 vs2 vs vu1 r1 vu2 vcd r2 r3 : Nat) (w : World) (hX1 : X1 < 2 ^ 256) (hY1 : Y1 < 2 ^ 256) (hZ1 : Z1 < 2 ^ 256) (hX2 : X2 < 2 ^ 256) (hY2 : Y2 < 2 ^ 256) (hZ2 : Z2 < 2 ^ 256) (hva : Z1 * Z2 % fP = va) (hvc : X1 * X2 % fP = vc) (hvd : Y1 * Y2 % fP = vd) (hvb : va * va % fP = vb) (hve0 : dN * vc % fP = ve0) (hve : ve0 * vd % fP = ve) (hvf : lessM vb ve = vf) (hvg : (vb + ve) % fP = vg) (hvs1 : X1 * Y2 % fP = vs1) (hvs2 : Y1 * X2 % fP = vs2) (hvs : (vs1 + vs2) % fP = vs) (hvu1 : va * vf % fP = vu1) (hr1 : vu1 * vs % fP = r1) (hvu2 : va * vg % fP = vu2) (hvcd : (vc + vd) % fP = vcd) (hr2 : vu2 * vcd % fP = r2) (hr3 : vf * vg % fP = r3) : Calls Tryd.prog 110 #[rpV X1 Y1 Z1, rpV X2 Y2 Z2] w fun e w' => e = .returned (rpV r1 r2 r3) ∧ Below w.heap.size w w' := by
  have hdN := dN_lt
  have lva : va < 2 ^ 256 := hva ▸ low_lt
  have lvc : vc < 2 ^ 256 := hvc ▸ low_lt
  have lvd : vd < 2 ^ 256 := hvd ▸ low_lt
  have lvb : vb < 2 ^ 256 := hvb ▸ low_lt
  have lve0 : ve0 < 2 ^ 256 := hve0 ▸ low_lt
  have lve : ve < 2 ^ 256 := hve ▸ low_lt
  have lvf : vf < 2 ^ 256 := hvf ▸ less_low
  have lvg : vg < 2 ^ 256 := hvg ▸ low_lt
  have lvs1 : vs1 < 2 ^ 256 := hvs1 ▸ low_lt
  have lvs2 : vs2 < 2 ^ 256 := hvs2 ▸ low_lt
  have lvs : vs < 2 ^ 256 := hvs ▸ low_lt
  have lvu1 : vu1 < 2 ^ 256 := hvu1 ▸ low_lt
  have lr1 : r1 < 2 ^ 256 := hr1 ▸ low_lt
  have lvu2 : vu2 < 2 ^ 256 := hvu2 ▸ low_lt
  have lvcd : vcd < 2 ^ 256 := hvcd ▸ low_lt
  have lr2 : r2 < 2 ^ 256 := hr2 ▸ low_lt
  have lr3 : r3 < 2 ^ 256 := hr3 ▸ low_lt
  have kva := Lib.hid (fun V => fe_By Z1 Z2 V hZ1 hZ2)
  rw [hva] at kva
  have kvc := Lib.hid (fun V => fe_By X1 X2 V hX1 hX2)
  rw [hvc] at kvc
  have kvd := Lib.hid (fun V => fe_By Y1 Y2 V hY1 hY2)
  rw [hvd] at kvd
  have kvb := Lib.hid (fun V => fe_By va va V lva lva)
  rw [hvb] at kvb
  have kve0 := Lib.hid (fun V => fe_By dN vc V hdN lvc)
  rw [hve0] at kve0
  have kve := Lib.hid (fun V => fe_By ve0 vd V lve0 lvd)
  rw [hve] at kve
  have kvf := Lib.hid (fun V => fe_Less vb ve V lvb lve)
  rw [show (vb + 4 * fP - ve) % fP = vf from hvf] at kvf
  have kvg := Lib.hid (fun V => fe_Plus vb ve V lvb lve)
  rw [hvg] at kvg
  have kvs1 := Lib.hid (fun V => fe_By X1 Y2 V hX1 hY2)
  rw [hvs1] at kvs1
  have kvs2 := Lib.hid (fun V => fe_By Y1 X2 V hY1 hX2)
  rw [hvs2] at kvs2
  have kvs := Lib.hid (fun V => fe_Plus vs1 vs2 V lvs1 lvs2)
  rw [hvs] at kvs
  have kvu1 := Lib.hid (fun V => fe_By va vf V lva lvf)
  rw [hvu1] at kvu1
  have kr1 := Lib.hid (fun V => fe_By vu1 vs V lvu1 lvs)
  rw [hr1] at kr1
  have kvu2 := Lib.hid (fun V => fe_By va vg V lva lvg)
  rw [hvu2] at kvu2
  have kvcd := Lib.hid (fun V => fe_Plus vc vd V lvc lvd)
  rw [hvcd] at kvcd
  have kr2 := Lib.hid (fun V => fe_By vu2 vcd V lvu2 lvcd)
  rw [hr2] at kr2
  have kr3 := Lib.hid (fun V => fe_By vf vg V lvf lvg)
  rw [hr3] at kr3
  have kd := Lib.hid (fun V => ref_dOf V)
  obtain ⟨dn, hdn⟩ : ∃ d, dN = d := ⟨_, rfl⟩
  rw [hdn] at kd kve0
  clear hdn hdN hX1 hY1 hZ1 hX2 hY2 hZ2 hva lva hvc lvc hvd lvd hvb lvb hve0 lve0 hve lve hvf lvf hvg lvg hvs1 lvs1 hvs2 lvs2 hvs lvs hvu1 lvu1 hr1 lr1 hvu2 lvu2 hvcd lvcd hr2 lr2 hr3 lr3
  unfold feV at kd kva kvc kvd kvb kve0 kve kvf kvg kvs1 kvs2 kvs kvu1 kr1 kvu2 kvcd kr2 kr3
  unfold rpV
  have hcr := arrK_cells .i64 48 (cat3 (dgt r1) (dgt r2) (dgt r3))
  have hcz := arrK_cells .i64 48 (cat3 (fun _ => 0) (fun _ => 0) (fun _ => 0))
  have hc0 := arrK_cells .i64 16 fun _ => 0
  have hcva := arrK_cells .i64 16 (dgt va)
  have hcvc := arrK_cells .i64 16 (dgt vc)
  have hcvd := arrK_cells .i64 16 (dgt vd)
  have hcvb := arrK_cells .i64 16 (dgt vb)
  have hcve := arrK_cells .i64 16 (dgt ve)
  have hcvf := arrK_cells .i64 16 (dgt vf)
  have hcvg := arrK_cells .i64 16 (dgt vg)
  have hcvs := arrK_cells .i64 16 (dgt vs)
  have hL0 : Below w.heap.size w (((w.alloc (Obj.cells (arrK .i64 48 (cat3 (dgt X1) (dgt Y1) (dgt Z1))) 137)).alloc (Obj.cells (arrK .i64 48 (cat3 (dgt X2) (dgt Y2) (dgt Z2))) 137)).alloc (Obj.cells (arrK .i64 48 (cat3 (fun _ => 0) (fun _ => 0) (fun _ => 0))) 137)) := by go_grown
  have hA0 : At (((w.alloc (Obj.cells (arrK .i64 48 (cat3 (dgt X1) (dgt Y1) (dgt Z1))) 137)).alloc (Obj.cells (arrK .i64 48 (cat3 (dgt X2) (dgt Y2) (dgt Z2))) 137)).alloc (Obj.cells (arrK .i64 48 (cat3 (fun _ => 0) (fun _ => 0) (fun _ => 0))) 137)) w.heap.size .i64 48 (cat3 (dgt X1) (dgt Y1) (dgt Z1)) := ((At.new _ rfl).old _).old _
  have hB0 : At (((w.alloc (Obj.cells (arrK .i64 48 (cat3 (dgt X1) (dgt Y1) (dgt Z1))) 137)).alloc (Obj.cells (arrK .i64 48 (cat3 (dgt X2) (dgt Y2) (dgt Z2))) 137)).alloc (Obj.cells (arrK .i64 48 (cat3 (fun _ => 0) (fun _ => 0) (fun _ => 0))) 137)) (w.heap.size + 1) .i64 48 (cat3 (dgt X2) (dgt Y2) (dgt Z2)) := (At.new _ (by simp)).old _
  have hR0 : Row (((w.alloc (Obj.cells (arrK .i64 48 (cat3 (dgt X1) (dgt Y1) (dgt Z1))) 137)).alloc (Obj.cells (arrK .i64 48 (cat3 (dgt X2) (dgt Y2) (dgt Z2))) 137)).alloc (Obj.cells (arrK .i64 48 (cat3 (fun _ => 0) (fun _ => 0) (fun _ => 0))) 137)) (w.heap.size + 1 + 1) 48 := (At.new (k := .i64) (f := (cat3 (fun _ => 0) (fun _ => 0) (fun _ => 0))) _ (by simp)).row
  have hL := Lib.hid hL0
  have hR := Lib.hid hR0
  have hA := Lib.hid hA0
  have hB := Lib.hid hB0
  clear hL0 hR0 hA0 hB0
  go_enter Tryd.func110, Tryd.ntmps110
  go_upto_region 1 with (fail)
  generalize ((w.alloc _).alloc _).alloc _ = W0 at *
  generalize ha0 : Act.mk _ _ = a0
  have e2 : a0.tmps[2]?.getD undef = .pointer (some ⟨w.heap.size, 0, none⟩) := by rw [← ha0]; rfl
  have e3 : a0.tmps[3]?.getD undef = .pointer (some ⟨w.heap.size + 1, 0, none⟩) := by rw [← ha0]; rfl
  have hz0 : a0.tmps.size = 69 := by rw [← ha0]; rfl
  have hha0 := Lib.hid ha0
  clear ha0
  refine wp_region_fresh ⟨fun jx_ => match jx_ with | 0 => some (.pointer (some ⟨w.heap.size, 32, none⟩)) | 1 => some (.agg (arrK .i64 16 (dgt Z1))) | 2 => some (.pointer (some ⟨w.heap.size + 1, 32, none⟩)) | 3 => some (.agg (arrK .i64 16 (dgt Z2))) | 4 => some (.agg (arrK .i64 16 (dgt va))) | 5 => some (.pointer (some ⟨w.heap.size, 0, none⟩)) | 6 => some (.agg (arrK .i64 16 (dgt X1))) | 7 => some (.pointer (some ⟨w.heap.size + 1, 0, none⟩)) | 8 => some (.agg (arrK .i64 16 (dgt X2))) | 9 => some (.agg (arrK .i64 16 (dgt vc))) | 10 => some (.pointer (some ⟨w.heap.size, 16, none⟩)) | 11 => some (.agg (arrK .i64 16 (dgt Y1))) | 12 => some (.pointer (some ⟨w.heap.size + 1, 16, none⟩)) | 13 => some (.agg (arrK .i64 16 (dgt Y2))) | 14 => some (.agg (arrK .i64 16 (dgt vd))) | _ => none, fun jx_ => match jx_ with | 15 => some 16 | 16 => some 16 | 17 => some 16 | _ => none, fun jx_ => match jx_ with | 18 => some 15 | 19 => some 16 | 20 => some 17 | _ => none, fun jx_ => match jx_ with | 18 => arrK .i64 16 (dgt va) | 19 => arrK .i64 16 (dgt vc) | 20 => arrK .i64 16 (dgt vd) | _ => #[]⟩ (by kernel_rfl) (by kernel_rfl) (by kernel_rfl) (slotsOk_of hz0 (by kernel_rfl)) rfl ⟨?_, ?_, ?_, ?_, ?_, ?_, ?_, ?_, ?_, ?_, ?_, ?_, ?_, ?_, ?_, ?_, ?_, ?_, ?_, ?_, ?_, trivial⟩ ?_
  · refine fstep_val rfl rfl (calm_step rfl fun aa ω κ hb hu hc hK => ?_)
    have h2 : aa.tmps[2]?.getD undef = .pointer (some ⟨w.heap.size, 0, none⟩) := (hu 2 rfl).trans e2
    have hk := Lib.hid (fun w1 (h : Below ω.heap.size ω w1) => hK (.pointer (some ⟨w.heap.size, 32, none⟩)) w1 rfl h)
    clear hK hu hc
    go_simp
    exact hk.out _ (Below.refl _ _)
  · refine fstep_val rfl rfl (calm_step rfl fun aa ω κ hb hu hc hK => ?_)
    have h13 : aa.tmps[13]?.getD undef = .pointer (some ⟨w.heap.size, 32, none⟩) := hc 0 13 rfl rfl
    have hk := Lib.hid (fun w1 (h : Below ω.heap.size ω w1) => hK (.agg (arrK .i64 16 (dgt Z1))) w1 rfl h)
    clear hK hu hc
    have hl := rp_2 (hA.out.step hb)
    have hl1 := hl.1
    have hl2 := hl.2
    go_simp
    exact hk.out _ (Below.refl _ _)
  · refine fstep_val rfl rfl (calm_step rfl fun aa ω κ hb hu hc hK => ?_)
    have h3 : aa.tmps[3]?.getD undef = .pointer (some ⟨w.heap.size + 1, 0, none⟩) := (hu 3 rfl).trans e3
    have hk := Lib.hid (fun w1 (h : Below ω.heap.size ω w1) => hK (.pointer (some ⟨w.heap.size + 1, 32, none⟩)) w1 rfl h)
    clear hK hu hc
    go_simp
    exact hk.out _ (Below.refl _ _)
  · refine fstep_val rfl rfl (calm_step rfl fun aa ω κ hb hu hc hK => ?_)
    have h15 : aa.tmps[15]?.getD undef = .pointer (some ⟨w.heap.size + 1, 32, none⟩) := hc 2 15 rfl rfl
    have hk := Lib.hid (fun w1 (h : Below ω.heap.size ω w1) => hK (.agg (arrK .i64 16 (dgt Z2))) w1 rfl h)
    clear hK hu hc
    have hl := rp_2 (hB.out.step hb)
    have hl1 := hl.1
    have hl2 := hl.2
    go_simp
    exact hk.out _ (Below.refl _ _)
  · refine fstep_val rfl rfl (calm_step rfl fun aa ω κ hb hu hc hK => ?_)
    have h14 : aa.tmps[14]?.getD undef = .agg (arrK .i64 16 (dgt Z1)) := hc 1 14 rfl rfl
    have h16 : aa.tmps[16]?.getD undef = .agg (arrK .i64 16 (dgt Z2)) := hc 3 16 rfl rfl
    have hk := Lib.hid (fun w1 (h : Below ω.heap.size ω w1) => hK (.agg (arrK .i64 16 (dgt va))) w1 rfl h)
    clear hK hu hc
    go_simp
    go_at_call 112
    refine (kva.out _).mono ?_
    rintro e w1 ⟨rfl, hb1⟩
    exact hk.out _ hb1
  · refine fstep_val rfl rfl (calm_step rfl fun aa ω κ hb hu hc hK => ?_)
    have h2 : aa.tmps[2]?.getD undef = .pointer (some ⟨w.heap.size, 0, none⟩) := (hu 2 rfl).trans e2
    have hk := Lib.hid (fun w1 (h : Below ω.heap.size ω w1) => hK (.pointer (some ⟨w.heap.size, 0, none⟩)) w1 rfl h)
    clear hK hu hc
    go_simp
    exact hk.out _ (Below.refl _ _)
  · refine fstep_val rfl rfl (calm_step rfl fun aa ω κ hb hu hc hK => ?_)
    have h18 : aa.tmps[18]?.getD undef = .pointer (some ⟨w.heap.size, 0, none⟩) := hc 5 18 rfl rfl
    have hk := Lib.hid (fun w1 (h : Below ω.heap.size ω w1) => hK (.agg (arrK .i64 16 (dgt X1))) w1 rfl h)
    clear hK hu hc
    have hl := rp_0 (hA.out.step hb)
    have hl1 := hl.1
    have hl2 := hl.2
    go_simp
    exact hk.out _ (Below.refl _ _)
  · refine fstep_val rfl rfl (calm_step rfl fun aa ω κ hb hu hc hK => ?_)
    have h3 : aa.tmps[3]?.getD undef = .pointer (some ⟨w.heap.size + 1, 0, none⟩) := (hu 3 rfl).trans e3
    have hk := Lib.hid (fun w1 (h : Below ω.heap.size ω w1) => hK (.pointer (some ⟨w.heap.size + 1, 0, none⟩)) w1 rfl h)
    clear hK hu hc
    go_simp
    exact hk.out _ (Below.refl _ _)
  · refine fstep_val rfl rfl (calm_step rfl fun aa ω κ hb hu hc hK => ?_)
    have h20 : aa.tmps[20]?.getD undef = .pointer (some ⟨w.heap.size + 1, 0, none⟩) := hc 7 20 rfl rfl
    have hk := Lib.hid (fun w1 (h : Below ω.heap.size ω w1) => hK (.agg (arrK .i64 16 (dgt X2))) w1 rfl h)
    clear hK hu hc
    have hl := rp_0 (hB.out.step hb)
    have hl1 := hl.1
    have hl2 := hl.2
    go_simp
    exact hk.out _ (Below.refl _ _)
  · refine fstep_val rfl rfl (calm_step rfl fun aa ω κ hb hu hc hK => ?_)
    have h19 : aa.tmps[19]?.getD undef = .agg (arrK .i64 16 (dgt X1)) := hc 6 19 rfl rfl
    have h21 : aa.tmps[21]?.getD undef = .agg (arrK .i64 16 (dgt X2)) := hc 8 21 rfl rfl
    have hk := Lib.hid (fun w1 (h : Below ω.heap.size ω w1) => hK (.agg (arrK .i64 16 (dgt vc))) w1 rfl h)
    clear hK hu hc
    go_simp
    go_at_call 112
    refine (kvc.out _).mono ?_
    rintro e w1 ⟨rfl, hb1⟩
    exact hk.out _ hb1
  · refine fstep_val rfl rfl (calm_step rfl fun aa ω κ hb hu hc hK => ?_)
    have h2 : aa.tmps[2]?.getD undef = .pointer (some ⟨w.heap.size, 0, none⟩) := (hu 2 rfl).trans e2
    have hk := Lib.hid (fun w1 (h : Below ω.heap.size ω w1) => hK (.pointer (some ⟨w.heap.size, 16, none⟩)) w1 rfl h)
    clear hK hu hc
    go_simp
    exact hk.out _ (Below.refl _ _)
  · refine fstep_val rfl rfl (calm_step rfl fun aa ω κ hb hu hc hK => ?_)
    have h23 : aa.tmps[23]?.getD undef = .pointer (some ⟨w.heap.size, 16, none⟩) := hc 10 23 rfl rfl
    have hk := Lib.hid (fun w1 (h : Below ω.heap.size ω w1) => hK (.agg (arrK .i64 16 (dgt Y1))) w1 rfl h)
    clear hK hu hc
    have hl := rp_1 (hA.out.step hb)
    have hl1 := hl.1
    have hl2 := hl.2
    go_simp
    exact hk.out _ (Below.refl _ _)
  · refine fstep_val rfl rfl (calm_step rfl fun aa ω κ hb hu hc hK => ?_)
    have h3 : aa.tmps[3]?.getD undef = .pointer (some ⟨w.heap.size + 1, 0, none⟩) := (hu 3 rfl).trans e3
    have hk := Lib.hid (fun w1 (h : Below ω.heap.size ω w1) => hK (.pointer (some ⟨w.heap.size + 1, 16, none⟩)) w1 rfl h)
    clear hK hu hc
    go_simp
    exact hk.out _ (Below.refl _ _)
  · refine fstep_val rfl rfl (calm_step rfl fun aa ω κ hb hu hc hK => ?_)
    have h25 : aa.tmps[25]?.getD undef = .pointer (some ⟨w.heap.size + 1, 16, none⟩) := hc 12 25 rfl rfl
    have hk := Lib.hid (fun w1 (h : Below ω.heap.size ω w1) => hK (.agg (arrK .i64 16 (dgt Y2))) w1 rfl h)
    clear hK hu hc
    have hl := rp_1 (hB.out.step hb)
    have hl1 := hl.1
    have hl2 := hl.2
    go_simp
    exact hk.out _ (Below.refl _ _)
  · refine fstep_val rfl rfl (calm_step rfl fun aa ω κ hb hu hc hK => ?_)
    have h24 : aa.tmps[24]?.getD undef = .agg (arrK .i64 16 (dgt Y1)) := hc 11 24 rfl rfl
    have h26 : aa.tmps[26]?.getD undef = .agg (arrK .i64 16 (dgt Y2)) := hc 13 26 rfl rfl
    have hk := Lib.hid (fun w1 (h : Below ω.heap.size ω w1) => hK (.agg (arrK .i64 16 (dgt vd))) w1 rfl h)
    clear hK hu hc
    go_simp
    go_at_call 112
    refine (kvd.out _).mono ?_
    rintro e w1 ⟨rfl, hb1⟩
    exact hk.out _ hb1
  · refine fstep_al (n := 16) rfl rfl fun aa ω κ hK => ?_
    have hk := Lib.hid hK
    clear hK
    go_simp
    exact hk.out _ _ hc0
  · refine fstep_al (n := 16) rfl rfl fun aa ω κ hK => ?_
    have hk := Lib.hid hK
    clear hK
    go_simp
    exact hk.out _ _ hc0
  · refine fstep_al (n := 16) rfl rfl fun aa ω κ hK => ?_
    have hk := Lib.hid hK
    clear hK
    go_simp
    exact hk.out _ _ hc0
  · refine fstep_st (j := 15) (n := 16) (d := 5) rfl rfl rfl rfl rfl hcva.1 rfl rfl fun aa ω κ g hb hu hc hp hr hK => ?_
    have h17 : aa.tmps[17]?.getD undef = .agg (arrK .i64 16 (dgt va)) := hc 4 17 rfl rfl
    have hk := Lib.hid hK
    clear hK hu hc
    have hcc := hcva
    go_simp
    exact hk.out undef
  · refine fstep_st (j := 16) (n := 16) (d := 6) rfl rfl rfl rfl rfl hcvc.1 rfl rfl fun aa ω κ g hb hu hc hp hr hK => ?_
    have h22 : aa.tmps[22]?.getD undef = .agg (arrK .i64 16 (dgt vc)) := hc 9 22 rfl rfl
    have hk := Lib.hid hK
    clear hK hu hc
    have hcc := hcvc
    go_simp
    exact hk.out undef
  · refine fstep_st (j := 17) (n := 16) (d := 7) rfl rfl rfl rfl rfl hcvd.1 rfl rfl fun aa ω κ g hb hu hc hp hr hK => ?_
    have h27 : aa.tmps[27]?.getD undef = .agg (arrK .i64 16 (dgt vd)) := hc 14 27 rfl rfl
    have hk := Lib.hid hK
    clear hK hu hc
    have hcc := hcvd
    go_simp
    exact hk.out undef
  · intro a1 w1 G I
    have ha0 := hha0.out
    subst ha0
    have he := act_patch (n := 69) [false, false, false, false, false, true, true, true, false, false, false, false, false, true, true, true, true, true, true, true, true, true, true, true, true, true, true, true, false, false, false, false, false, false, false, false, false, false, false, false, false, false, false, false, false, false, false, false, false, false, false, false, false, false, false, false, false, false, false, false, false, false, false, false, false, false, false, false, false] rfl (by kernel_rfl) I.un I.sz I.df
    simp only [patch, cond_true, cond_false, Nat.reduceAdd] at he
    have hal5 := I.al 15 5 16 rfl rfl rfl
    have hal6 := I.al 16 6 16 rfl rfl rfl
    have hal7 := I.al 17 7 16 rfl rfl rfl
    replace hA := Lib.hid (hA.out.step I.bel)
    replace hB := Lib.hid (hB.out.step I.bel)
    replace hR := Lib.hid (row_below hR.out I.bel hR.out.lt)
    replace hL := Lib.hid (below_step I.bel hL.out (Nat.le_refl _))
    have hX5 := Lib.hid (show At w1 (G 15) .i64 16 (dgt va) from ⟨(I.blk 15 16 rfl rfl).2, (I.row 18 15 rfl rfl).2.2⟩)
    have hX6 := Lib.hid (show At w1 (G 16) .i64 16 (dgt vc) from ⟨(I.blk 16 16 rfl rfl).2, (I.row 19 16 rfl rfl).2.2⟩)
    have hX7 := Lib.hid (show At w1 (G 17) .i64 16 (dgt vd) from ⟨(I.blk 17 16 rfl rfl).2, (I.row 20 17 rfl rfl).2.2⟩)
    clear kva kvc kvd
    clear I hz0 hha0 e2 e3
    rw [he]
    clear he
    rw [hal5]
    rw [hal6]
    rw [hal7]
    clear hal5 hal6 hal7
    generalize a1.tmps[13]?.getD undef = x13 at *
    generalize a1.tmps[14]?.getD undef = x14 at *
    generalize a1.tmps[15]?.getD undef = x15 at *
    generalize a1.tmps[16]?.getD undef = x16 at *
    generalize a1.tmps[17]?.getD undef = x17 at *
    generalize a1.tmps[18]?.getD undef = x18 at *
    generalize a1.tmps[19]?.getD undef = x19 at *
    generalize a1.tmps[20]?.getD undef = x20 at *
    generalize a1.tmps[21]?.getD undef = x21 at *
    generalize a1.tmps[22]?.getD undef = x22 at *
    generalize a1.tmps[23]?.getD undef = x23 at *
    generalize a1.tmps[24]?.getD undef = x24 at *
    generalize a1.tmps[25]?.getD undef = x25 at *
    generalize a1.tmps[26]?.getD undef = x26 at *
    generalize a1.tmps[27]?.getD undef = x27 at *
    obtain ⟨g5, hgz⟩ : ∃ g, G 15 = g := ⟨_, rfl⟩
    rw [hgz] at hX5 ⊢
    clear hgz
    obtain ⟨g6, hgz⟩ : ∃ g, G 16 = g := ⟨_, rfl⟩
    rw [hgz] at hX6 ⊢
    clear hgz
    obtain ⟨g7, hgz⟩ : ∃ g, G 17 = g := ⟨_, rfl⟩
    rw [hgz] at hX7 ⊢
    clear hgz
    generalize w1 = W1 at *
    go_upto_region 2 with (fail)
    generalize ha0 : Act.mk _ _ = a0
    have e5 : a0.tmps[5]?.getD undef = .pointer (some ⟨g5, 0, none⟩) := by rw [← ha0]; rfl
    have e6 : a0.tmps[6]?.getD undef = .pointer (some ⟨g6, 0, none⟩) := by rw [← ha0]; rfl
    have e7 : a0.tmps[7]?.getD undef = .pointer (some ⟨g7, 0, none⟩) := by rw [← ha0]; rfl
    have hz0 : a0.tmps.size = 69 := by rw [← ha0]; rfl
    have hha0 := Lib.hid ha0
    clear ha0
    refine wp_region_fresh ⟨fun jx_ => match jx_ with | 0 => some (.agg (arrK .i64 16 (dgt va))) | 1 => some (.agg (arrK .i64 16 (dgt va))) | 2 => some (.agg (arrK .i64 16 (dgt vb))) | 3 => some (.agg (arrK .i64 16 (dgt dn))) | 4 => some (.agg (arrK .i64 16 (dgt vc))) | 5 => some (.agg (arrK .i64 16 (dgt ve0))) | 6 => some (.agg (arrK .i64 16 (dgt vd))) | 7 => some (.agg (arrK .i64 16 (dgt ve))) | _ => none, fun jx_ => match jx_ with | 8 => some 16 | 9 => some 16 | _ => none, fun jx_ => match jx_ with | 10 => some 8 | 11 => some 9 | _ => none, fun jx_ => match jx_ with | 10 => arrK .i64 16 (dgt vb) | 11 => arrK .i64 16 (dgt ve) | _ => #[]⟩ (by kernel_rfl) (by kernel_rfl) (by kernel_rfl) (slotsOk_of hz0 (by kernel_rfl)) rfl ⟨?_, ?_, ?_, ?_, ?_, ?_, ?_, ?_, ?_, ?_, ?_, ?_, trivial⟩ ?_
    · refine fstep_val rfl rfl (calm_step rfl fun aa ω κ hb hu hc hK => ?_)
      have h5 : aa.tmps[5]?.getD undef = .pointer (some ⟨g5, 0, none⟩) := (hu 5 rfl).trans e5
      have hk := Lib.hid (fun w1 (h : Below ω.heap.size ω w1) => hK (.agg (arrK .i64 16 (dgt va))) w1 rfl h)
      clear hK hu hc
      have hr1 := (hX5.out.step hb).row
      have hr2 := (hX5.out.step hb).eq
      go_simp
      exact hk.out _ (Below.refl _ _)
    · refine fstep_val rfl rfl (calm_step rfl fun aa ω κ hb hu hc hK => ?_)
      have h5 : aa.tmps[5]?.getD undef = .pointer (some ⟨g5, 0, none⟩) := (hu 5 rfl).trans e5
      have hk := Lib.hid (fun w1 (h : Below ω.heap.size ω w1) => hK (.agg (arrK .i64 16 (dgt va))) w1 rfl h)
      clear hK hu hc
      have hr1 := (hX5.out.step hb).row
      have hr2 := (hX5.out.step hb).eq
      go_simp
      exact hk.out _ (Below.refl _ _)
    · refine fstep_val rfl rfl (calm_step rfl fun aa ω κ hb hu hc hK => ?_)
      have h28 : aa.tmps[28]?.getD undef = .agg (arrK .i64 16 (dgt va)) := hc 0 28 rfl rfl
      have h29 : aa.tmps[29]?.getD undef = .agg (arrK .i64 16 (dgt va)) := hc 1 29 rfl rfl
      have hk := Lib.hid (fun w1 (h : Below ω.heap.size ω w1) => hK (.agg (arrK .i64 16 (dgt vb))) w1 rfl h)
      clear hK hu hc
      go_simp
      go_at_call 112
      refine (kvb.out _).mono ?_
      rintro e w1 ⟨rfl, hb1⟩
      exact hk.out _ hb1
    · refine fstep_val rfl rfl (calm_step rfl fun aa ω κ hb hu hc hK => ?_)
      have hk := Lib.hid (fun w1 (h : Below ω.heap.size ω w1) => hK (.agg (arrK .i64 16 (dgt dn))) w1 rfl h)
      clear hK hu hc
      go_simp
      go_at_call 151
      refine (kd.out _).mono ?_
      rintro e w1 ⟨rfl, hb1⟩
      exact hk.out _ hb1
    · refine fstep_val rfl rfl (calm_step rfl fun aa ω κ hb hu hc hK => ?_)
      have h6 : aa.tmps[6]?.getD undef = .pointer (some ⟨g6, 0, none⟩) := (hu 6 rfl).trans e6
      have hk := Lib.hid (fun w1 (h : Below ω.heap.size ω w1) => hK (.agg (arrK .i64 16 (dgt vc))) w1 rfl h)
      clear hK hu hc
      have hr1 := (hX6.out.step hb).row
      have hr2 := (hX6.out.step hb).eq
      go_simp
      exact hk.out _ (Below.refl _ _)
    · refine fstep_val rfl rfl (calm_step rfl fun aa ω κ hb hu hc hK => ?_)
      have h31 : aa.tmps[31]?.getD undef = .agg (arrK .i64 16 (dgt dn)) := hc 3 31 rfl rfl
      have h32 : aa.tmps[32]?.getD undef = .agg (arrK .i64 16 (dgt vc)) := hc 4 32 rfl rfl
      have hk := Lib.hid (fun w1 (h : Below ω.heap.size ω w1) => hK (.agg (arrK .i64 16 (dgt ve0))) w1 rfl h)
      clear hK hu hc
      go_simp
      go_at_call 112
      refine (kve0.out _).mono ?_
      rintro e w1 ⟨rfl, hb1⟩
      exact hk.out _ hb1
    · refine fstep_val rfl rfl (calm_step rfl fun aa ω κ hb hu hc hK => ?_)
      have h7 : aa.tmps[7]?.getD undef = .pointer (some ⟨g7, 0, none⟩) := (hu 7 rfl).trans e7
      have hk := Lib.hid (fun w1 (h : Below ω.heap.size ω w1) => hK (.agg (arrK .i64 16 (dgt vd))) w1 rfl h)
      clear hK hu hc
      have hr1 := (hX7.out.step hb).row
      have hr2 := (hX7.out.step hb).eq
      go_simp
      exact hk.out _ (Below.refl _ _)
    · refine fstep_val rfl rfl (calm_step rfl fun aa ω κ hb hu hc hK => ?_)
      have h33 : aa.tmps[33]?.getD undef = .agg (arrK .i64 16 (dgt ve0)) := hc 5 33 rfl rfl
      have h34 : aa.tmps[34]?.getD undef = .agg (arrK .i64 16 (dgt vd)) := hc 6 34 rfl rfl
      have hk := Lib.hid (fun w1 (h : Below ω.heap.size ω w1) => hK (.agg (arrK .i64 16 (dgt ve))) w1 rfl h)
      clear hK hu hc
      go_simp
      go_at_call 112
      refine (kve.out _).mono ?_
      rintro e w1 ⟨rfl, hb1⟩
      exact hk.out _ hb1
    · refine fstep_al (n := 16) rfl rfl fun aa ω κ hK => ?_
      have hk := Lib.hid hK
      clear hK
      go_simp
      exact hk.out _ _ hc0
    · refine fstep_al (n := 16) rfl rfl fun aa ω κ hK => ?_
      have hk := Lib.hid hK
      clear hK
      go_simp
      exact hk.out _ _ hc0
    · refine fstep_st (j := 8) (n := 16) (d := 8) rfl rfl rfl rfl rfl hcvb.1 rfl rfl fun aa ω κ g hb hu hc hp hr hK => ?_
      have h30 : aa.tmps[30]?.getD undef = .agg (arrK .i64 16 (dgt vb)) := hc 2 30 rfl rfl
      have hk := Lib.hid hK
      clear hK hu hc
      have hcc := hcvb
      go_simp
      exact hk.out undef
    · refine fstep_st (j := 9) (n := 16) (d := 9) rfl rfl rfl rfl rfl hcve.1 rfl rfl fun aa ω κ g hb hu hc hp hr hK => ?_
      have h35 : aa.tmps[35]?.getD undef = .agg (arrK .i64 16 (dgt ve)) := hc 7 35 rfl rfl
      have hk := Lib.hid hK
      clear hK hu hc
      have hcc := hcve
      go_simp
      exact hk.out undef
    · intro a1 w1 G I
      have ha0 := hha0.out
      subst ha0
      have he := act_patch (n := 69) [false, false, false, false, false, false, false, false, true, true, false, false, false, false, false, false, false, false, false, false, false, false, false, false, false, false, false, false, true, true, true, true, true, true, true, true, false, false, false, false, false, false, false, false, false, false, false, false, false, false, false, false, false, false, false, false, false, false, false, false, false, false, false, false, false, false, false, false, false] rfl (by kernel_rfl) I.un I.sz I.df
      simp only [patch, cond_true, cond_false, Nat.reduceAdd] at he
      have hal8 := I.al 8 8 16 rfl rfl rfl
      have hal9 := I.al 9 9 16 rfl rfl rfl
      replace hA := Lib.hid (hA.out.step I.bel)
      replace hB := Lib.hid (hB.out.step I.bel)
      replace hR := Lib.hid (row_below hR.out I.bel hR.out.lt)
      replace hL := Lib.hid (below_step I.bel hL.out (Nat.le_refl _))
      replace hX5 := Lib.hid (hX5.out.step I.bel)
      replace hX6 := Lib.hid (hX6.out.step I.bel)
      replace hX7 := Lib.hid (hX7.out.step I.bel)
      have hX8 := Lib.hid (show At w1 (G 8) .i64 16 (dgt vb) from ⟨(I.blk 8 16 rfl rfl).2, (I.row 10 8 rfl rfl).2.2⟩)
      have hX9 := Lib.hid (show At w1 (G 9) .i64 16 (dgt ve) from ⟨(I.blk 9 16 rfl rfl).2, (I.row 11 9 rfl rfl).2.2⟩)
      clear kvb kd kve0 kve
      clear I hz0 hha0 e5 e6 e7
      rw [he]
      clear he
      rw [hal8]
      rw [hal9]
      clear hal8 hal9
      generalize a1.tmps[28]?.getD undef = x28 at *
      generalize a1.tmps[29]?.getD undef = x29 at *
      generalize a1.tmps[30]?.getD undef = x30 at *
      generalize a1.tmps[31]?.getD undef = x31 at *
      generalize a1.tmps[32]?.getD undef = x32 at *
      generalize a1.tmps[33]?.getD undef = x33 at *
      generalize a1.tmps[34]?.getD undef = x34 at *
      generalize a1.tmps[35]?.getD undef = x35 at *
      obtain ⟨g8, hgz⟩ : ∃ g, G 8 = g := ⟨_, rfl⟩
      rw [hgz] at hX8 ⊢
      clear hgz
      obtain ⟨g9, hgz⟩ : ∃ g, G 9 = g := ⟨_, rfl⟩
      rw [hgz] at hX9 ⊢
      clear hgz
      generalize w1 = W2 at *
      go_upto_region 3 with (fail)
      generalize ha0 : Act.mk _ _ = a0
      have e8 : a0.tmps[8]?.getD undef = .pointer (some ⟨g8, 0, none⟩) := by rw [← ha0]; rfl
      have e9 : a0.tmps[9]?.getD undef = .pointer (some ⟨g9, 0, none⟩) := by rw [← ha0]; rfl
      have hz0 : a0.tmps.size = 69 := by rw [← ha0]; rfl
      have hha0 := Lib.hid ha0
      clear ha0
      refine wp_region_fresh ⟨fun jx_ => match jx_ with | 0 => some (.agg (arrK .i64 16 (dgt vb))) | 1 => some (.agg (arrK .i64 16 (dgt ve))) | 2 => some (.agg (arrK .i64 16 (dgt vf))) | 3 => some (.agg (arrK .i64 16 (dgt vb))) | 4 => some (.agg (arrK .i64 16 (dgt ve))) | 5 => some (.agg (arrK .i64 16 (dgt vg))) | _ => none, fun jx_ => match jx_ with | 6 => some 16 | 7 => some 16 | _ => none, fun jx_ => match jx_ with | 8 => some 6 | 9 => some 7 | _ => none, fun jx_ => match jx_ with | 8 => arrK .i64 16 (dgt vf) | 9 => arrK .i64 16 (dgt vg) | _ => #[]⟩ (by kernel_rfl) (by kernel_rfl) (by kernel_rfl) (slotsOk_of hz0 (by kernel_rfl)) rfl ⟨?_, ?_, ?_, ?_, ?_, ?_, ?_, ?_, ?_, ?_, trivial⟩ ?_
      · refine fstep_val rfl rfl (calm_step rfl fun aa ω κ hb hu hc hK => ?_)
        have h8 : aa.tmps[8]?.getD undef = .pointer (some ⟨g8, 0, none⟩) := (hu 8 rfl).trans e8
        have hk := Lib.hid (fun w1 (h : Below ω.heap.size ω w1) => hK (.agg (arrK .i64 16 (dgt vb))) w1 rfl h)
        clear hK hu hc
        have hr1 := (hX8.out.step hb).row
        have hr2 := (hX8.out.step hb).eq
        go_simp
        exact hk.out _ (Below.refl _ _)
      · refine fstep_val rfl rfl (calm_step rfl fun aa ω κ hb hu hc hK => ?_)
        have h9 : aa.tmps[9]?.getD undef = .pointer (some ⟨g9, 0, none⟩) := (hu 9 rfl).trans e9
        have hk := Lib.hid (fun w1 (h : Below ω.heap.size ω w1) => hK (.agg (arrK .i64 16 (dgt ve))) w1 rfl h)
        clear hK hu hc
        have hr1 := (hX9.out.step hb).row
        have hr2 := (hX9.out.step hb).eq
        go_simp
        exact hk.out _ (Below.refl _ _)
      · refine fstep_val rfl rfl (calm_step rfl fun aa ω κ hb hu hc hK => ?_)
        have h36 : aa.tmps[36]?.getD undef = .agg (arrK .i64 16 (dgt vb)) := hc 0 36 rfl rfl
        have h37 : aa.tmps[37]?.getD undef = .agg (arrK .i64 16 (dgt ve)) := hc 1 37 rfl rfl
        have hk := Lib.hid (fun w1 (h : Below ω.heap.size ω w1) => hK (.agg (arrK .i64 16 (dgt vf))) w1 rfl h)
        clear hK hu hc
        go_simp
        go_at_call 152
        refine (kvf.out _).mono ?_
        rintro e w1 ⟨rfl, hb1⟩
        exact hk.out _ hb1
      · refine fstep_val rfl rfl (calm_step rfl fun aa ω κ hb hu hc hK => ?_)
        have h8 : aa.tmps[8]?.getD undef = .pointer (some ⟨g8, 0, none⟩) := (hu 8 rfl).trans e8
        have hk := Lib.hid (fun w1 (h : Below ω.heap.size ω w1) => hK (.agg (arrK .i64 16 (dgt vb))) w1 rfl h)
        clear hK hu hc
        have hr1 := (hX8.out.step hb).row
        have hr2 := (hX8.out.step hb).eq
        go_simp
        exact hk.out _ (Below.refl _ _)
      · refine fstep_val rfl rfl (calm_step rfl fun aa ω κ hb hu hc hK => ?_)
        have h9 : aa.tmps[9]?.getD undef = .pointer (some ⟨g9, 0, none⟩) := (hu 9 rfl).trans e9
        have hk := Lib.hid (fun w1 (h : Below ω.heap.size ω w1) => hK (.agg (arrK .i64 16 (dgt ve))) w1 rfl h)
        clear hK hu hc
        have hr1 := (hX9.out.step hb).row
        have hr2 := (hX9.out.step hb).eq
        go_simp
        exact hk.out _ (Below.refl _ _)
      · refine fstep_val rfl rfl (calm_step rfl fun aa ω κ hb hu hc hK => ?_)
        have h39 : aa.tmps[39]?.getD undef = .agg (arrK .i64 16 (dgt vb)) := hc 3 39 rfl rfl
        have h40 : aa.tmps[40]?.getD undef = .agg (arrK .i64 16 (dgt ve)) := hc 4 40 rfl rfl
        have hk := Lib.hid (fun w1 (h : Below ω.heap.size ω w1) => hK (.agg (arrK .i64 16 (dgt vg))) w1 rfl h)
        clear hK hu hc
        go_simp
        go_at_call 153
        refine (kvg.out _).mono ?_
        rintro e w1 ⟨rfl, hb1⟩
        exact hk.out _ hb1
      · refine fstep_al (n := 16) rfl rfl fun aa ω κ hK => ?_
        have hk := Lib.hid hK
        clear hK
        go_simp
        exact hk.out _ _ hc0
      · refine fstep_al (n := 16) rfl rfl fun aa ω κ hK => ?_
        have hk := Lib.hid hK
        clear hK
        go_simp
        exact hk.out _ _ hc0
      · refine fstep_st (j := 6) (n := 16) (d := 10) rfl rfl rfl rfl rfl hcvf.1 rfl rfl fun aa ω κ g hb hu hc hp hr hK => ?_
        have h38 : aa.tmps[38]?.getD undef = .agg (arrK .i64 16 (dgt vf)) := hc 2 38 rfl rfl
        have hk := Lib.hid hK
        clear hK hu hc
        have hcc := hcvf
        go_simp
        exact hk.out undef
      · refine fstep_st (j := 7) (n := 16) (d := 11) rfl rfl rfl rfl rfl hcvg.1 rfl rfl fun aa ω κ g hb hu hc hp hr hK => ?_
        have h41 : aa.tmps[41]?.getD undef = .agg (arrK .i64 16 (dgt vg)) := hc 5 41 rfl rfl
        have hk := Lib.hid hK
        clear hK hu hc
        have hcc := hcvg
        go_simp
        exact hk.out undef
      · intro a1 w1 G I
        have ha0 := hha0.out
        subst ha0
        have he := act_patch (n := 69) [false, false, false, false, false, false, false, false, false, false, true, true, false, false, false, false, false, false, false, false, false, false, false, false, false, false, false, false, false, false, false, false, false, false, false, false, true, true, true, true, true, true, false, false, false, false, false, false, false, false, false, false, false, false, false, false, false, false, false, false, false, false, false, false, false, false, false, false, false] rfl (by kernel_rfl) I.un I.sz I.df
        simp only [patch, cond_true, cond_false, Nat.reduceAdd] at he
        have hal10 := I.al 6 10 16 rfl rfl rfl
        have hal11 := I.al 7 11 16 rfl rfl rfl
        replace hA := Lib.hid (hA.out.step I.bel)
        replace hB := Lib.hid (hB.out.step I.bel)
        replace hR := Lib.hid (row_below hR.out I.bel hR.out.lt)
        replace hL := Lib.hid (below_step I.bel hL.out (Nat.le_refl _))
        replace hX5 := Lib.hid (hX5.out.step I.bel)
        replace hX6 := Lib.hid (hX6.out.step I.bel)
        replace hX7 := Lib.hid (hX7.out.step I.bel)
        replace hX8 := Lib.hid (hX8.out.step I.bel)
        replace hX9 := Lib.hid (hX9.out.step I.bel)
        have hX10 := Lib.hid (show At w1 (G 6) .i64 16 (dgt vf) from ⟨(I.blk 6 16 rfl rfl).2, (I.row 8 6 rfl rfl).2.2⟩)
        have hX11 := Lib.hid (show At w1 (G 7) .i64 16 (dgt vg) from ⟨(I.blk 7 16 rfl rfl).2, (I.row 9 7 rfl rfl).2.2⟩)
        clear kvf kvg
        clear I hz0 hha0 e8 e9
        rw [he]
        clear he
        rw [hal10]
        rw [hal11]
        clear hal10 hal11
        generalize a1.tmps[36]?.getD undef = x36 at *
        generalize a1.tmps[37]?.getD undef = x37 at *
        generalize a1.tmps[38]?.getD undef = x38 at *
        generalize a1.tmps[39]?.getD undef = x39 at *
        generalize a1.tmps[40]?.getD undef = x40 at *
        generalize a1.tmps[41]?.getD undef = x41 at *
        obtain ⟨g10, hgz⟩ : ∃ g, G 6 = g := ⟨_, rfl⟩
        rw [hgz] at hX10 ⊢
        clear hgz
        obtain ⟨g11, hgz⟩ : ∃ g, G 7 = g := ⟨_, rfl⟩
        rw [hgz] at hX11 ⊢
        clear hgz
        generalize w1 = W3 at *
        go_upto_region 4 with (fail)
        generalize ha0 : Act.mk _ _ = a0
        have e2 : a0.tmps[2]?.getD undef = .pointer (some ⟨w.heap.size, 0, none⟩) := by rw [← ha0]; rfl
        have e3 : a0.tmps[3]?.getD undef = .pointer (some ⟨w.heap.size + 1, 0, none⟩) := by rw [← ha0]; rfl
        have hz0 : a0.tmps.size = 69 := by rw [← ha0]; rfl
        have hha0 := Lib.hid ha0
        clear ha0
        refine wp_region_fresh ⟨fun jx_ => match jx_ with | 0 => some (.pointer (some ⟨w.heap.size, 0, none⟩)) | 1 => some (.agg (arrK .i64 16 (dgt X1))) | 2 => some (.pointer (some ⟨w.heap.size + 1, 16, none⟩)) | 3 => some (.agg (arrK .i64 16 (dgt Y2))) | 4 => some (.agg (arrK .i64 16 (dgt vs1))) | 5 => some (.pointer (some ⟨w.heap.size, 16, none⟩)) | 6 => some (.agg (arrK .i64 16 (dgt Y1))) | 7 => some (.pointer (some ⟨w.heap.size + 1, 0, none⟩)) | 8 => some (.agg (arrK .i64 16 (dgt X2))) | 9 => some (.agg (arrK .i64 16 (dgt vs2))) | 10 => some (.agg (arrK .i64 16 (dgt vs))) | _ => none, fun jx_ => match jx_ with | 11 => some 16 | _ => none, fun jx_ => match jx_ with | 12 => some 11 | _ => none, fun jx_ => match jx_ with | 12 => arrK .i64 16 (dgt vs) | _ => #[]⟩ (by kernel_rfl) (by kernel_rfl) (by kernel_rfl) (slotsOk_of hz0 (by kernel_rfl)) rfl ⟨?_, ?_, ?_, ?_, ?_, ?_, ?_, ?_, ?_, ?_, ?_, ?_, ?_, trivial⟩ ?_
        · refine fstep_val rfl rfl (calm_step rfl fun aa ω κ hb hu hc hK => ?_)
          have h2 : aa.tmps[2]?.getD undef = .pointer (some ⟨w.heap.size, 0, none⟩) := (hu 2 rfl).trans e2
          have hk := Lib.hid (fun w1 (h : Below ω.heap.size ω w1) => hK (.pointer (some ⟨w.heap.size, 0, none⟩)) w1 rfl h)
          clear hK hu hc
          go_simp
          exact hk.out _ (Below.refl _ _)
        · refine fstep_val rfl rfl (calm_step rfl fun aa ω κ hb hu hc hK => ?_)
          have h42 : aa.tmps[42]?.getD undef = .pointer (some ⟨w.heap.size, 0, none⟩) := hc 0 42 rfl rfl
          have hk := Lib.hid (fun w1 (h : Below ω.heap.size ω w1) => hK (.agg (arrK .i64 16 (dgt X1))) w1 rfl h)
          clear hK hu hc
          have hl := rp_0 (hA.out.step hb)
          have hl1 := hl.1
          have hl2 := hl.2
          go_simp
          exact hk.out _ (Below.refl _ _)
        · refine fstep_val rfl rfl (calm_step rfl fun aa ω κ hb hu hc hK => ?_)
          have h3 : aa.tmps[3]?.getD undef = .pointer (some ⟨w.heap.size + 1, 0, none⟩) := (hu 3 rfl).trans e3
          have hk := Lib.hid (fun w1 (h : Below ω.heap.size ω w1) => hK (.pointer (some ⟨w.heap.size + 1, 16, none⟩)) w1 rfl h)
          clear hK hu hc
          go_simp
          exact hk.out _ (Below.refl _ _)
        · refine fstep_val rfl rfl (calm_step rfl fun aa ω κ hb hu hc hK => ?_)
          have h44 : aa.tmps[44]?.getD undef = .pointer (some ⟨w.heap.size + 1, 16, none⟩) := hc 2 44 rfl rfl
          have hk := Lib.hid (fun w1 (h : Below ω.heap.size ω w1) => hK (.agg (arrK .i64 16 (dgt Y2))) w1 rfl h)
          clear hK hu hc
          have hl := rp_1 (hB.out.step hb)
          have hl1 := hl.1
          have hl2 := hl.2
          go_simp
          exact hk.out _ (Below.refl _ _)
        · refine fstep_val rfl rfl (calm_step rfl fun aa ω κ hb hu hc hK => ?_)
          have h43 : aa.tmps[43]?.getD undef = .agg (arrK .i64 16 (dgt X1)) := hc 1 43 rfl rfl
          have h45 : aa.tmps[45]?.getD undef = .agg (arrK .i64 16 (dgt Y2)) := hc 3 45 rfl rfl
          have hk := Lib.hid (fun w1 (h : Below ω.heap.size ω w1) => hK (.agg (arrK .i64 16 (dgt vs1))) w1 rfl h)
          clear hK hu hc
          go_simp
          go_at_call 112
          refine (kvs1.out _).mono ?_
          rintro e w1 ⟨rfl, hb1⟩
          exact hk.out _ hb1
        · refine fstep_val rfl rfl (calm_step rfl fun aa ω κ hb hu hc hK => ?_)
          have h2 : aa.tmps[2]?.getD undef = .pointer (some ⟨w.heap.size, 0, none⟩) := (hu 2 rfl).trans e2
          have hk := Lib.hid (fun w1 (h : Below ω.heap.size ω w1) => hK (.pointer (some ⟨w.heap.size, 16, none⟩)) w1 rfl h)
          clear hK hu hc
          go_simp
          exact hk.out _ (Below.refl _ _)
        · refine fstep_val rfl rfl (calm_step rfl fun aa ω κ hb hu hc hK => ?_)
          have h47 : aa.tmps[47]?.getD undef = .pointer (some ⟨w.heap.size, 16, none⟩) := hc 5 47 rfl rfl
          have hk := Lib.hid (fun w1 (h : Below ω.heap.size ω w1) => hK (.agg (arrK .i64 16 (dgt Y1))) w1 rfl h)
          clear hK hu hc
          have hl := rp_1 (hA.out.step hb)
          have hl1 := hl.1
          have hl2 := hl.2
          go_simp
          exact hk.out _ (Below.refl _ _)
        · refine fstep_val rfl rfl (calm_step rfl fun aa ω κ hb hu hc hK => ?_)
          have h3 : aa.tmps[3]?.getD undef = .pointer (some ⟨w.heap.size + 1, 0, none⟩) := (hu 3 rfl).trans e3
          have hk := Lib.hid (fun w1 (h : Below ω.heap.size ω w1) => hK (.pointer (some ⟨w.heap.size + 1, 0, none⟩)) w1 rfl h)
          clear hK hu hc
          go_simp
          exact hk.out _ (Below.refl _ _)
        · refine fstep_val rfl rfl (calm_step rfl fun aa ω κ hb hu hc hK => ?_)
          have h49 : aa.tmps[49]?.getD undef = .pointer (some ⟨w.heap.size + 1, 0, none⟩) := hc 7 49 rfl rfl
          have hk := Lib.hid (fun w1 (h : Below ω.heap.size ω w1) => hK (.agg (arrK .i64 16 (dgt X2))) w1 rfl h)
          clear hK hu hc
          have hl := rp_0 (hB.out.step hb)
          have hl1 := hl.1
          have hl2 := hl.2
          go_simp
          exact hk.out _ (Below.refl _ _)
        · refine fstep_val rfl rfl (calm_step rfl fun aa ω κ hb hu hc hK => ?_)
          have h48 : aa.tmps[48]?.getD undef = .agg (arrK .i64 16 (dgt Y1)) := hc 6 48 rfl rfl
          have h50 : aa.tmps[50]?.getD undef = .agg (arrK .i64 16 (dgt X2)) := hc 8 50 rfl rfl
          have hk := Lib.hid (fun w1 (h : Below ω.heap.size ω w1) => hK (.agg (arrK .i64 16 (dgt vs2))) w1 rfl h)
          clear hK hu hc
          go_simp
          go_at_call 112
          refine (kvs2.out _).mono ?_
          rintro e w1 ⟨rfl, hb1⟩
          exact hk.out _ hb1
        · refine fstep_val rfl rfl (calm_step rfl fun aa ω κ hb hu hc hK => ?_)
          have h46 : aa.tmps[46]?.getD undef = .agg (arrK .i64 16 (dgt vs1)) := hc 4 46 rfl rfl
          have h51 : aa.tmps[51]?.getD undef = .agg (arrK .i64 16 (dgt vs2)) := hc 9 51 rfl rfl
          have hk := Lib.hid (fun w1 (h : Below ω.heap.size ω w1) => hK (.agg (arrK .i64 16 (dgt vs))) w1 rfl h)
          clear hK hu hc
          go_simp
          go_at_call 153
          refine (kvs.out _).mono ?_
          rintro e w1 ⟨rfl, hb1⟩
          exact hk.out _ hb1
        · refine fstep_al (n := 16) rfl rfl fun aa ω κ hK => ?_
          have hk := Lib.hid hK
          clear hK
          go_simp
          exact hk.out _ _ hc0
        · refine fstep_st (j := 11) (n := 16) (d := 12) rfl rfl rfl rfl rfl hcvs.1 rfl rfl fun aa ω κ g hb hu hc hp hr hK => ?_
          have h52 : aa.tmps[52]?.getD undef = .agg (arrK .i64 16 (dgt vs)) := hc 10 52 rfl rfl
          have hk := Lib.hid hK
          clear hK hu hc
          have hcc := hcvs
          go_simp
          exact hk.out undef
        · intro a1 w1 G I
          have ha0 := hha0.out
          subst ha0
          have he := act_patch (n := 69) [false, false, false, false, false, false, false, false, false, false, false, false, true, false, false, false, false, false, false, false, false, false, false, false, false, false, false, false, false, false, false, false, false, false, false, false, false, false, false, false, false, false, true, true, true, true, true, true, true, true, true, true, true, false, false, false, false, false, false, false, false, false, false, false, false, false, false, false, false] rfl (by kernel_rfl) I.un I.sz I.df
          simp only [patch, cond_true, cond_false, Nat.reduceAdd] at he
          have hal12 := I.al 11 12 16 rfl rfl rfl
          replace hA := Lib.hid (hA.out.step I.bel)
          replace hB := Lib.hid (hB.out.step I.bel)
          replace hR := Lib.hid (row_below hR.out I.bel hR.out.lt)
          replace hL := Lib.hid (below_step I.bel hL.out (Nat.le_refl _))
          replace hX5 := Lib.hid (hX5.out.step I.bel)
          replace hX6 := Lib.hid (hX6.out.step I.bel)
          replace hX7 := Lib.hid (hX7.out.step I.bel)
          replace hX8 := Lib.hid (hX8.out.step I.bel)
          replace hX9 := Lib.hid (hX9.out.step I.bel)
          replace hX10 := Lib.hid (hX10.out.step I.bel)
          replace hX11 := Lib.hid (hX11.out.step I.bel)
          have hX12 := Lib.hid (show At w1 (G 11) .i64 16 (dgt vs) from ⟨(I.blk 11 16 rfl rfl).2, (I.row 12 11 rfl rfl).2.2⟩)
          clear kvs1 kvs2 kvs
          clear I hz0 hha0 e2 e3
          rw [he]
          clear he
          rw [hal12]
          clear hal12
          generalize a1.tmps[42]?.getD undef = x42 at *
          generalize a1.tmps[43]?.getD undef = x43 at *
          generalize a1.tmps[44]?.getD undef = x44 at *
          generalize a1.tmps[45]?.getD undef = x45 at *
          generalize a1.tmps[46]?.getD undef = x46 at *
          generalize a1.tmps[47]?.getD undef = x47 at *
          generalize a1.tmps[48]?.getD undef = x48 at *
          generalize a1.tmps[49]?.getD undef = x49 at *
          generalize a1.tmps[50]?.getD undef = x50 at *
          generalize a1.tmps[51]?.getD undef = x51 at *
          generalize a1.tmps[52]?.getD undef = x52 at *
          obtain ⟨g12, hgz⟩ : ∃ g, G 11 = g := ⟨_, rfl⟩
          rw [hgz] at hX12 ⊢
          clear hgz
          generalize w1 = W4 at *
          go_upto_region 5 with (fail)
          generalize ha0 : Act.mk _ _ = a0
          have e4 : a0.tmps[4]?.getD undef = .pointer (some ⟨w.heap.size + 1 + 1, 0, none⟩) := by rw [← ha0]; rfl
          have e5 : a0.tmps[5]?.getD undef = .pointer (some ⟨g5, 0, none⟩) := by rw [← ha0]; rfl
          have e6 : a0.tmps[6]?.getD undef = .pointer (some ⟨g6, 0, none⟩) := by rw [← ha0]; rfl
          have e7 : a0.tmps[7]?.getD undef = .pointer (some ⟨g7, 0, none⟩) := by rw [← ha0]; rfl
          have e10 : a0.tmps[10]?.getD undef = .pointer (some ⟨g10, 0, none⟩) := by rw [← ha0]; rfl
          have e11 : a0.tmps[11]?.getD undef = .pointer (some ⟨g11, 0, none⟩) := by rw [← ha0]; rfl
          have e12 : a0.tmps[12]?.getD undef = .pointer (some ⟨g12, 0, none⟩) := by rw [← ha0]; rfl
          have hz0 : a0.tmps.size = 69 := by rw [← ha0]; rfl
          have hha0 := Lib.hid ha0
          clear ha0
          refine wp_region_one (fun jx_ => match jx_ with | 0 => some (.agg (arrK .i64 16 (dgt va))) | 1 => some (.agg (arrK .i64 16 (dgt vf))) | 2 => some (.agg (arrK .i64 16 (dgt vu1))) | 3 => some (.agg (arrK .i64 16 (dgt vs))) | 4 => some (.agg (arrK .i64 16 (dgt r1))) | 5 => some (.agg (arrK .i64 16 (dgt va))) | 6 => some (.agg (arrK .i64 16 (dgt vg))) | 7 => some (.agg (arrK .i64 16 (dgt vu2))) | 8 => some (.agg (arrK .i64 16 (dgt vc))) | 9 => some (.agg (arrK .i64 16 (dgt vd))) | 10 => some (.agg (arrK .i64 16 (dgt vcd))) | 11 => some (.agg (arrK .i64 16 (dgt r2))) | 12 => some (.agg (arrK .i64 16 (dgt vf))) | 13 => some (.agg (arrK .i64 16 (dgt vg))) | 14 => some (.agg (arrK .i64 16 (dgt r3))) | 15 => some (.agg (arrK .i64 48 (cat3 (dgt r1) (dgt r2) (dgt r3)))) | _ => none) 16 ((w.heap.size + 1 + 1)) 48 (arrK .i64 48 (cat3 (dgt r1) (dgt r2) (dgt r3))) (by kernel_rfl) (by kernel_rfl) (by kernel_rfl) (slotsOk_of hz0 (by kernel_rfl)) (of_decide_eq_true (by kernel_rfl)) hR.out ⟨?_, ?_, ?_, ?_, ?_, ?_, ?_, ?_, ?_, ?_, ?_, ?_, ?_, ?_, ?_, ?_, ?_, trivial⟩ ?_
          · refine one_before (by decide) (by kernel_rfl) (calm_step rfl fun aa ω κ hb hu hc hK => ?_)
            have h5 : aa.tmps[5]?.getD undef = .pointer (some ⟨g5, 0, none⟩) := (hu 5 rfl).trans e5
            have hk := Lib.hid (fun w1 (h : Below ω.heap.size ω w1) => hK (.agg (arrK .i64 16 (dgt va))) w1 rfl h)
            clear hK hu hc
            have hr1 := (hX5.out.step hb).row
            have hr2 := (hX5.out.step hb).eq
            go_simp
            exact hk.out _ (Below.refl _ _)
          · refine one_before (by decide) (by kernel_rfl) (calm_step rfl fun aa ω κ hb hu hc hK => ?_)
            have h10 : aa.tmps[10]?.getD undef = .pointer (some ⟨g10, 0, none⟩) := (hu 10 rfl).trans e10
            have hk := Lib.hid (fun w1 (h : Below ω.heap.size ω w1) => hK (.agg (arrK .i64 16 (dgt vf))) w1 rfl h)
            clear hK hu hc
            have hr1 := (hX10.out.step hb).row
            have hr2 := (hX10.out.step hb).eq
            go_simp
            exact hk.out _ (Below.refl _ _)
          · refine one_before (by decide) (by kernel_rfl) (calm_step rfl fun aa ω κ hb hu hc hK => ?_)
            have h53 : aa.tmps[53]?.getD undef = .agg (arrK .i64 16 (dgt va)) := hc 0 53 rfl rfl
            have h54 : aa.tmps[54]?.getD undef = .agg (arrK .i64 16 (dgt vf)) := hc 1 54 rfl rfl
            have hk := Lib.hid (fun w1 (h : Below ω.heap.size ω w1) => hK (.agg (arrK .i64 16 (dgt vu1))) w1 rfl h)
            clear hK hu hc
            go_simp
            go_at_call 112
            refine (kvu1.out _).mono ?_
            rintro e w1 ⟨rfl, hb1⟩
            exact hk.out _ hb1
          · refine one_before (by decide) (by kernel_rfl) (calm_step rfl fun aa ω κ hb hu hc hK => ?_)
            have h12 : aa.tmps[12]?.getD undef = .pointer (some ⟨g12, 0, none⟩) := (hu 12 rfl).trans e12
            have hk := Lib.hid (fun w1 (h : Below ω.heap.size ω w1) => hK (.agg (arrK .i64 16 (dgt vs))) w1 rfl h)
            clear hK hu hc
            have hr1 := (hX12.out.step hb).row
            have hr2 := (hX12.out.step hb).eq
            go_simp
            exact hk.out _ (Below.refl _ _)
          · refine one_before (by decide) (by kernel_rfl) (calm_step rfl fun aa ω κ hb hu hc hK => ?_)
            have h55 : aa.tmps[55]?.getD undef = .agg (arrK .i64 16 (dgt vu1)) := hc 2 55 rfl rfl
            have h56 : aa.tmps[56]?.getD undef = .agg (arrK .i64 16 (dgt vs)) := hc 3 56 rfl rfl
            have hk := Lib.hid (fun w1 (h : Below ω.heap.size ω w1) => hK (.agg (arrK .i64 16 (dgt r1))) w1 rfl h)
            clear hK hu hc
            go_simp
            go_at_call 112
            refine (kr1.out _).mono ?_
            rintro e w1 ⟨rfl, hb1⟩
            exact hk.out _ hb1
          · refine one_before (by decide) (by kernel_rfl) (calm_step rfl fun aa ω κ hb hu hc hK => ?_)
            have h5 : aa.tmps[5]?.getD undef = .pointer (some ⟨g5, 0, none⟩) := (hu 5 rfl).trans e5
            have hk := Lib.hid (fun w1 (h : Below ω.heap.size ω w1) => hK (.agg (arrK .i64 16 (dgt va))) w1 rfl h)
            clear hK hu hc
            have hr1 := (hX5.out.step hb).row
            have hr2 := (hX5.out.step hb).eq
            go_simp
            exact hk.out _ (Below.refl _ _)
          · refine one_before (by decide) (by kernel_rfl) (calm_step rfl fun aa ω κ hb hu hc hK => ?_)
            have h11 : aa.tmps[11]?.getD undef = .pointer (some ⟨g11, 0, none⟩) := (hu 11 rfl).trans e11
            have hk := Lib.hid (fun w1 (h : Below ω.heap.size ω w1) => hK (.agg (arrK .i64 16 (dgt vg))) w1 rfl h)
            clear hK hu hc
            have hr1 := (hX11.out.step hb).row
            have hr2 := (hX11.out.step hb).eq
            go_simp
            exact hk.out _ (Below.refl _ _)
          · refine one_before (by decide) (by kernel_rfl) (calm_step rfl fun aa ω κ hb hu hc hK => ?_)
            have h58 : aa.tmps[58]?.getD undef = .agg (arrK .i64 16 (dgt va)) := hc 5 58 rfl rfl
            have h59 : aa.tmps[59]?.getD undef = .agg (arrK .i64 16 (dgt vg)) := hc 6 59 rfl rfl
            have hk := Lib.hid (fun w1 (h : Below ω.heap.size ω w1) => hK (.agg (arrK .i64 16 (dgt vu2))) w1 rfl h)
            clear hK hu hc
            go_simp
            go_at_call 112
            refine (kvu2.out _).mono ?_
            rintro e w1 ⟨rfl, hb1⟩
            exact hk.out _ hb1
          · refine one_before (by decide) (by kernel_rfl) (calm_step rfl fun aa ω κ hb hu hc hK => ?_)
            have h6 : aa.tmps[6]?.getD undef = .pointer (some ⟨g6, 0, none⟩) := (hu 6 rfl).trans e6
            have hk := Lib.hid (fun w1 (h : Below ω.heap.size ω w1) => hK (.agg (arrK .i64 16 (dgt vc))) w1 rfl h)
            clear hK hu hc
            have hr1 := (hX6.out.step hb).row
            have hr2 := (hX6.out.step hb).eq
            go_simp
            exact hk.out _ (Below.refl _ _)
          · refine one_before (by decide) (by kernel_rfl) (calm_step rfl fun aa ω κ hb hu hc hK => ?_)
            have h7 : aa.tmps[7]?.getD undef = .pointer (some ⟨g7, 0, none⟩) := (hu 7 rfl).trans e7
            have hk := Lib.hid (fun w1 (h : Below ω.heap.size ω w1) => hK (.agg (arrK .i64 16 (dgt vd))) w1 rfl h)
            clear hK hu hc
            have hr1 := (hX7.out.step hb).row
            have hr2 := (hX7.out.step hb).eq
            go_simp
            exact hk.out _ (Below.refl _ _)
          · refine one_before (by decide) (by kernel_rfl) (calm_step rfl fun aa ω κ hb hu hc hK => ?_)
            have h61 : aa.tmps[61]?.getD undef = .agg (arrK .i64 16 (dgt vc)) := hc 8 61 rfl rfl
            have h62 : aa.tmps[62]?.getD undef = .agg (arrK .i64 16 (dgt vd)) := hc 9 62 rfl rfl
            have hk := Lib.hid (fun w1 (h : Below ω.heap.size ω w1) => hK (.agg (arrK .i64 16 (dgt vcd))) w1 rfl h)
            clear hK hu hc
            go_simp
            go_at_call 153
            refine (kvcd.out _).mono ?_
            rintro e w1 ⟨rfl, hb1⟩
            exact hk.out _ hb1
          · refine one_before (by decide) (by kernel_rfl) (calm_step rfl fun aa ω κ hb hu hc hK => ?_)
            have h60 : aa.tmps[60]?.getD undef = .agg (arrK .i64 16 (dgt vu2)) := hc 7 60 rfl rfl
            have h63 : aa.tmps[63]?.getD undef = .agg (arrK .i64 16 (dgt vcd)) := hc 10 63 rfl rfl
            have hk := Lib.hid (fun w1 (h : Below ω.heap.size ω w1) => hK (.agg (arrK .i64 16 (dgt r2))) w1 rfl h)
            clear hK hu hc
            go_simp
            go_at_call 112
            refine (kr2.out _).mono ?_
            rintro e w1 ⟨rfl, hb1⟩
            exact hk.out _ hb1
          · refine one_before (by decide) (by kernel_rfl) (calm_step rfl fun aa ω κ hb hu hc hK => ?_)
            have h10 : aa.tmps[10]?.getD undef = .pointer (some ⟨g10, 0, none⟩) := (hu 10 rfl).trans e10
            have hk := Lib.hid (fun w1 (h : Below ω.heap.size ω w1) => hK (.agg (arrK .i64 16 (dgt vf))) w1 rfl h)
            clear hK hu hc
            have hr1 := (hX10.out.step hb).row
            have hr2 := (hX10.out.step hb).eq
            go_simp
            exact hk.out _ (Below.refl _ _)
          · refine one_before (by decide) (by kernel_rfl) (calm_step rfl fun aa ω κ hb hu hc hK => ?_)
            have h11 : aa.tmps[11]?.getD undef = .pointer (some ⟨g11, 0, none⟩) := (hu 11 rfl).trans e11
            have hk := Lib.hid (fun w1 (h : Below ω.heap.size ω w1) => hK (.agg (arrK .i64 16 (dgt vg))) w1 rfl h)
            clear hK hu hc
            have hr1 := (hX11.out.step hb).row
            have hr2 := (hX11.out.step hb).eq
            go_simp
            exact hk.out _ (Below.refl _ _)
          · refine one_before (by decide) (by kernel_rfl) (calm_step rfl fun aa ω κ hb hu hc hK => ?_)
            have h65 : aa.tmps[65]?.getD undef = .agg (arrK .i64 16 (dgt vf)) := hc 12 65 rfl rfl
            have h66 : aa.tmps[66]?.getD undef = .agg (arrK .i64 16 (dgt vg)) := hc 13 66 rfl rfl
            have hk := Lib.hid (fun w1 (h : Below ω.heap.size ω w1) => hK (.agg (arrK .i64 16 (dgt r3))) w1 rfl h)
            clear hK hu hc
            go_simp
            go_at_call 112
            refine (kr3.out _).mono ?_
            rintro e w1 ⟨rfl, hb1⟩
            exact hk.out _ hb1
          · refine one_before (by decide) (by kernel_rfl) (calm_step rfl fun aa ω κ hb hu hc hK => ?_)
            have h57 : aa.tmps[57]?.getD undef = .agg (arrK .i64 16 (dgt r1)) := hc 4 57 rfl rfl
            have h64 : aa.tmps[64]?.getD undef = .agg (arrK .i64 16 (dgt r2)) := hc 11 64 rfl rfl
            have h67 : aa.tmps[67]?.getD undef = .agg (arrK .i64 16 (dgt r3)) := hc 14 67 rfl rfl
            have hk := Lib.hid (fun w1 (h : Below ω.heap.size ω w1) => hK (.agg (arrK .i64 48 (cat3 (dgt r1) (dgt r2) (dgt r3)))) w1 rfl h)
            clear hK hu hc
            exact wp_bldC (v0 := .agg (arrK .i64 16 (dgt r1))) (v1 := .agg (arrK .i64 16 (dgt r2))) (v2 := .agg (arrK .i64 16 (dgt r3))) rfl (by go_simp) (by go_simp) (by go_simp) (build_rp _ _ _ _) (hk.out _ (Below.refl _ _))
          · refine one_q (one_write rfl rfl fun aa ω κ hb hu hc hr hK => ?_)
            have h4 : aa.tmps[4]?.getD undef = .pointer (some ⟨w.heap.size + 1 + 1, 0, none⟩) := (hu 4 rfl).trans e4
            have h68 : aa.tmps[68]?.getD undef = .agg (arrK .i64 48 (cat3 (dgt r1) (dgt r2) (dgt r3))) := hc 15 68 rfl rfl
            have hk := Lib.hid hK
            clear hK hu hc
            have hcc := hcr
            go_simp
            exact hk.out undef
          · intro a1 w1 hb1 hu1 hsz1 hdf1 hv1
            have ha0 := hha0.out
            subst ha0
            have he := act_patch (n := 69) [false, false, false, false, false, false, false, false, false, false, false, false, false, false, false, false, false, false, false, false, false, false, false, false, false, false, false, false, false, false, false, false, false, false, false, false, false, false, false, false, false, false, false, false, false, false, false, false, false, false, false, false, false, true, true, true, true, true, true, true, true, true, true, true, true, true, true, true, true] rfl (by kernel_rfl) hu1 hsz1 hdf1
            simp only [patch, cond_true, cond_false, Nat.reduceAdd] at he
            have hXz := (At.put (k := .i64) (f := (cat3 (dgt r1) (dgt r2) (dgt r3))) hR.out).below hb1 (by simpa using hR.out.lt)
            have hLz := Lib.hid (Below.trans (below_setRow (c := arrK .i64 48 (cat3 (dgt r1) (dgt r2) (dgt r3))) hL.out (by omega)) (hb1.mono (by simpa using hL.out.size)))
            clear hR hL hA hB hX5 hX6 hX7 hX8 hX9 hX10 hX11 hX12 kvu1 kr1 kvu2 kvcd kr2 kr3
            clear hb1 hu1 hsz1 hdf1 hv1 hz0 hha0 e4 e5 e6 e7 e10 e11 e12
            rw [he]
            clear he
            generalize a1.tmps[53]?.getD undef = x53 at *
            generalize a1.tmps[54]?.getD undef = x54 at *
            generalize a1.tmps[55]?.getD undef = x55 at *
            generalize a1.tmps[56]?.getD undef = x56 at *
            generalize a1.tmps[57]?.getD undef = x57 at *
            generalize a1.tmps[58]?.getD undef = x58 at *
            generalize a1.tmps[59]?.getD undef = x59 at *
            generalize a1.tmps[60]?.getD undef = x60 at *
            generalize a1.tmps[61]?.getD undef = x61 at *
            generalize a1.tmps[62]?.getD undef = x62 at *
            generalize a1.tmps[63]?.getD undef = x63 at *
            generalize a1.tmps[64]?.getD undef = x64 at *
            generalize a1.tmps[65]?.getD undef = x65 at *
            generalize a1.tmps[66]?.getD undef = x66 at *
            generalize a1.tmps[67]?.getD undef = x67 at *
            generalize a1.tmps[68]?.getD undef = x68 at *
            go_wp2_with fail
            refine ret_row (p := 4) (ty := 137) (g := (w.heap.size + 1 + 1)) rfl Tryd.underlying137 rfl (by kernel_rfl) rfl hXz.row rfl ?_
            rw [hXz.eq]
            exact ⟨rfl, hLz.out⟩
theorem rp_PlusQ (X1 Y1 Z1 X2 Y2 Z2 : Nat) (w : World) (hX1 : X1 < 2 ^ 256) (hY1 : Y1 < 2 ^ 256) (hZ1 : Z1 < 2 ^ 256) (hX2 : X2 < 2 ^ 256) (hY2 : Y2 < 2 ^ 256) (hZ2 : Z2 < 2 ^ 256) (r : Nat × Nat × Nat) (hr : rplus X1 Y1 Z1 X2 Y2 Z2 = r) :
    Calls Tryd.prog 110 #[rpV X1 Y1 Z1, rpV X2 Y2 Z2] w fun e w' => e = .returned (rpV r.1 r.2.1 r.2.2) ∧ Below w.heap.size w w' := by
  subst hr
  exact rp_Plus _ _ _ _ _ _ _ _ _ _ _ _ _ _ _ _ _ _ _ _ _ _ _ w hX1 hY1 hZ1 hX2 hY2 hZ2 rfl rfl rfl rfl rfl rfl rfl rfl rfl rfl rfl rfl rfl rfl rfl rfl rfl
theorem rplus_lt (X1 Y1 Z1 X2 Y2 Z2 : Nat) (r : Nat × Nat × Nat) (hr : rplus X1 Y1 Z1 X2 Y2 Z2 = r) : r.1 < 2 ^ 256 ∧ r.2.1 < 2 ^ 256 ∧ r.2.2 < 2 ^ 256 := by
  subst hr
  exact ⟨low_lt, low_lt, low_lt⟩
theorem dgt_inj {a b : Nat} (ha : a < 2 ^ 256) (hb : b < 2 ^ 256) : (∀ i < 16, dgt a i = dgt b i) ↔ a = b := by
  refine ⟨fun h => ?_, fun h _ _ => by rw [h]⟩
  have := dval_congr h
  rwa [dval_dgt, dval_dgt, p16, Nat.mod_eq_of_lt ha, Nat.mod_eq_of_lt hb] at this
theorem eqlFe {a b : Nat} (ha : a < 2 ^ 256) (hb : b < 2 ^ 256) {r : Bool} (h : decide (a = b) = r) (W : World) : (binOp .eql 135 (.agg (arrK .i64 16 (dgt a))) (.agg (arrK .i64 16 (dgt b)))).run Tryd.prog W = .ok (.bool r) W := by
  rw [run_eql_arrK Tryd.underlying135 Tryd.underlying3 (by kernel_rfl), ← h]
  congr 2
  exact decide_eq_decide.2 (dgt_inj ha hb)
end Go.Proofs.YtgdiokklfihfoaaDoor
namespace Go.Proofs.YtgdiokklfihfoaaDoor
open Go.ChangeShapes Go.WideShapes Go.ChangeAt Go.RowKit
set_option maxHeartbeats 2000000
set_option maxRecDepth 100000
attribute [local go_sem ↓] load_fld load_feP load_num store_num load_fe store_fe load_pt store_pt load_rp store_rp
attribute [local go_sem] isHead_mk blkOf_mk isAgg_mk cellsV_mk row_drew rowAt_drew row_new_cells row_old rowAt_new rowAt_old setRow_new zeroNum zeroPt zeroFe zeroRp
theorem rplus_lt3 {X1 Y1 Z1 X2 Y2 Z2 : Nat} {r : Nat × Nat × Nat} (hr : rplus X1 Y1 Z1 X2 Y2 Z2 = r) : r.1 < 2 ^ 256 ∧ r.2.1 < 2 ^ 256 ∧ r.2.2 < 2 ^ 256 := rplus_lt _ _ _ _ _ _ r hr
theorem mod_bit2 (n s : Nat) : n % 2 ^ (s + 1) = n % 2 ^ s + n / 2 ^ s % 2 * 2 ^ s := by rw [Nat.pow_succ, Nat.mod_mul, Nat.mul_comm (2 ^ s) (n / 2 ^ s % 2)]
/-- One round of the document's multiple. -/
theorem of_round {x y n s X Y Z X2 Y2 Z2 : Nat} (h : onB x y = true) (hq : RpN (tmP x y (n % 2 ^ s)) X Y Z) (hp : RpN (tmP x y (2 ^ s)) X2 Y2 Z2) :
    (n / 2 ^ s % 2 = 0 → RpN (tmP x y (n % 2 ^ (s + 1))) X Y Z) ∧ (n / 2 ^ s % 2 = 1 → ∀ X3 Y3 Z3, rplus X Y Z X2 Y2 Z2 = (X3, Y3, Z3) → RpN (tmP x y (n % 2 ^ (s + 1))) X3 Y3 Z3) ∧ (∀ X4 Y4 Z4, rplus X2 Y2 Z2 X2 Y2 Z2 = (X4, Y4, Z4) → RpN (tmP x y (2 ^ (s + 1))) X4 Y4 Z4) := by
  refine ⟨fun hb => ?_, fun hb X3 Y3 Z3 h3 => ?_, fun X4 Y4 Z4 h4 => ?_⟩
  · rw [mod_bit2, hb, Nat.zero_mul, Nat.add_zero]; exact hq
  · have k := rpN_plus h hq hp h3
    rw [mod_bit2, hb, Nat.one_mul]
    exact k
  · have k := rpN_plus h hp hp h4
    rw [Nat.pow_succ, Nat.mul_two]
    exact k
/-- What Often gives back. -/
def OftenR (x y n : Nat) (w : World) (e : Ending) (w' : World) : Prop := ∃ X Y Z, e = .returned (rpV X Y Z) ∧ RpN (tmP x y n) X Y Z ∧ X < 2 ^ 256 ∧ Y < 2 ^ 256 ∧ Z < 2 ^ 256 ∧ Below w.heap.size w w'
theorem rp_Often (x y n X0 Y0 Z0 : Nat) (v : Value) (w : World) (ho : onB x y = true) (hp : RpN (tmP x y 1) X0 Y0 Z0) (hX0 : X0 < 2 ^ 256) (hY0 : Y0 < 2 ^ 256) (hZ0 : Z0 < 2 ^ 256) (hv : IsN w v n) (hn : n < big) :
    Calls Tryd.prog 72 #[rpV X0 Y0 Z0, v] w (OftenR x y n w) := by
  obtain ⟨A, l, c, rfl, hD, hG⟩ := hv
  have hll : l.length ≤ 10000 := lt_len hG hn
  have hval : val l = n := hG.val
  have hnl : n < 2 ^ (16 * l.length) := by
    have h := val_lt hG.sm
    rw [hval, show (65536 : Nat) = 2 ^ 16 from rfl, ← Nat.pow_mul] at h
    exact h
  obtain ⟨m, hm⟩ : ∃ m, 16 * l.length = m := ⟨_, rfl⟩
  have hm2 : m ≤ 160000 := by omega
  have kB := Lib.hid (fun V (h : Below w.heap.size w V) => ref_Bits A l c m V (hD.below h (Nat.le_refl _)) (by omega))
  rw [hval] at kB
  have hmi : (16 : Int) * (l.length : Int) = (m : Int) := by omega
  have hln : (l.length : Int) ≤ 10000 := by omega
  have hnm : n % 2 ^ m = n := by rw [← hm]; exact Nat.mod_eq_of_lt hnl
  generalize hll2 : l.length = ll at *
  have hend := Lib.hid (fun X Y Z (h : RpN (tmP x y (n % 2 ^ m)) X Y Z) => show RpN (tmP x y n) X Y Z by rw [hnm] at h; exact h)
  have hRd := Lib.hid (fun s X Y Z X2 Y2 Z2 hq hp => @of_round x y n s X Y Z X2 Y2 Z2 ho hq hp)
  have hS0 := Lib.hid (show RpN (tmP x y (n % 2 ^ 0)) 0 1 1 by rw [Nat.pow_zero, Nat.mod_one]; exact rpN_zero)
  have hS1 := Lib.hid (show RpN (tmP x y (2 ^ 0)) X0 Y0 Z0 by rw [Nat.pow_zero]; exact hp)
  have h1 := Lib.hid (fun V => ref_small 1 V (by omega))
  have h0 := Lib.hid (fun V => ref_small 0 V (by omega))
  have hBd := Lib.hid (And.intro hX0 (And.intro hY0 hZ0))
  have hab := Lib.hid (fun i => show n / 2 ^ i % 2 = 0 ∨ n / 2 ^ i % 2 = 1 by omega)
  obtain ⟨bf, hbf⟩ : ∃ b, (fun i => n / 2 ^ i % 2) = b := ⟨_, rfl⟩
  have hbi : ∀ i, n / 2 ^ i % 2 = bf i := fun i => by rw [← hbf]
  unfold BitsR at kB
  rw [hbf] at kB
  simp only [hbi] at hRd hab
  clear hnm hbf hbi hX0 hY0 hZ0 hp hG hD hval hnl hll hll2 hn ho
  unfold feV at h1 h0
  rw [show ((1 : Nat) : Int) = 1 from rfl] at h1
  rw [show ((0 : Nat) : Int) = 0 from rfl] at h0
  unfold rpV
  have hcz := arrK_cells .i64 48 (cat3 (fun _ => 0) (fun _ => 0) (fun _ => 0))
  have hcq := arrK_cells .i64 48 (cat3 (dgt 0) (dgt 1) (dgt 1))
  have hL0 : Below w.heap.size w ((w.alloc (Obj.cells (arrK .i64 48 (cat3 (dgt X0) (dgt Y0) (dgt Z0))) 137)).alloc (Obj.cells (arrK .i64 48 (cat3 (fun _ => 0) (fun _ => 0) (fun _ => 0))) 137)) := by go_grown
  have hA0 : At ((w.alloc (Obj.cells (arrK .i64 48 (cat3 (dgt X0) (dgt Y0) (dgt Z0))) 137)).alloc (Obj.cells (arrK .i64 48 (cat3 (fun _ => 0) (fun _ => 0) (fun _ => 0))) 137)) w.heap.size .i64 48 (cat3 (dgt X0) (dgt Y0) (dgt Z0)) := (At.new _ rfl).old _
  have hR0 : Row ((w.alloc (Obj.cells (arrK .i64 48 (cat3 (dgt X0) (dgt Y0) (dgt Z0))) 137)).alloc (Obj.cells (arrK .i64 48 (cat3 (fun _ => 0) (fun _ => 0) (fun _ => 0))) 137)) (w.heap.size + 1) 48 := (At.new (k := .i64) (f := (cat3 (fun _ => 0) (fun _ => 0) (fun _ => 0))) _ (by simp)).row
  have hL := Lib.hid hL0
  have hA := Lib.hid hA0
  have hR := Lib.hid hR0
  clear hL0 hA0 hR0
  go_enter Tryd.func72, Tryd.ntmps72
  go_upto_region 1 with (fail)
  generalize (w.alloc _).alloc _ = W0 at *
  go_wp2_with fail
  refine (h0.out _).mono ?_
  rintro e w2 ⟨rfl, hb⟩
  replace hA := Lib.hid (hA.out.step hb)
  replace hR := Lib.hid (row_below hR.out hb hR.out.lt)
  replace hL := Lib.hid (below_step hb hL.out (Nat.le_refl _))
  clear hb h0
  dsimp only
  go_wp2_with fail
  refine (h1.out _).mono ?_
  rintro e w3 ⟨rfl, hb⟩
  replace hA := Lib.hid (hA.out.step hb)
  replace hR := Lib.hid (row_below hR.out hb hR.out.lt)
  replace hL := Lib.hid (below_step hb hL.out (Nat.le_refl _))
  clear hb
  dsimp only
  go_wp2_with fail
  refine (h1.out _).mono ?_
  rintro e w4 ⟨rfl, hb⟩
  replace hA := Lib.hid (hA.out.step hb)
  replace hR := Lib.hid (row_below hR.out hb hR.out.lt)
  replace hL := Lib.hid (below_step hb hL.out (Nat.le_refl _))
  clear hb h1
  dsimp only
  have hX := Lib.hid (At.new (w := w4) (k := .i64) (m := 48) (f := cat3 (dgt 0) (dgt 1) (dgt 1)) 137 rfl)
  have hltR := Lib.hid hR.out.lt
  replace hA := Lib.hid (hA.out.old (Obj.cells (arrK .i64 48 (cat3 (dgt 0) (dgt 1) (dgt 1))) 137))
  replace hR := Lib.hid ((row_old (o := Obj.cells (arrK .i64 48 (cat3 (dgt 0) (dgt 1) (dgt 1))) 137) hR.out.lt).2 hR.out)
  replace hL := Lib.hid (Below.trans hL.out ((below_alloc w4 (Obj.cells (arrK .i64 48 (cat3 (dgt 0) (dgt 1) (dgt 1))) 137)).mono hL.out.size))
  go_upto_region 2 with (refine wpList_bldC (v0 := .agg (arrK .i64 16 (dgt 0))) (v1 := .agg (arrK .i64 16 (dgt 1))) (v2 := .agg (arrK .i64 16 (dgt 1))) rfl rfl (by go_simp) (by go_simp) (by go_simp) (build_rp _ _ _ _) ?_)
  obtain ⟨g5, hg⟩ : ∃ g, w4.heap.size = g := ⟨_, rfl⟩
  rw [hg] at hX hltR ⊢
  clear hg
  generalize w4.alloc _ = W4 at *
  have ws : IntKind.i64.wrap ((m : Nat) : Int) = ((m : Nat) : Int) := by rw [IntKind.wrap_i64]; omega
  have kB2 := Lib.hid (kB.out _ hL.out)
  clear kB
  go_wp2_with fail
  refine (show Calls _ _ #[_, Value.int IntKind.i64 (m : Int)] W4 _ from kB2.out).mono ?_
  rintro e w5 ⟨g, rfl, hgR, hgE, hgs, hb⟩
  have hG := Lib.hid (show At w5 g .i64 m bf from ⟨hgR, hgE⟩)
  have hgl := Lib.hid (show g5 < g ∧ w.heap.size + 1 < g5 from ⟨Nat.lt_of_lt_of_le hX.out.lt hgs, hltR.out⟩)
  replace hA := Lib.hid (hA.out.step hb)
  replace hR := Lib.hid (row_below hR.out hb hR.out.lt)
  replace hX := Lib.hid (hX.out.step hb)
  replace hL := Lib.hid (below_step hb hL.out (Nat.le_refl _))
  clear hgR hgE hgs hb kB2 hltR ws
  dsimp only
  go_upto_region 3 with (fail)
  go_loopw [18, 7] (fun vi vb wr => ∃ s X Y Z X2 Y2 Z2 : Nat, vi = .int .i64 (s : Nat) ∧ s ≤ m ∧ X < 2 ^ 256 ∧ Y < 2 ^ 256 ∧ Z < 2 ^ 256 ∧ X2 < 2 ^ 256 ∧ Y2 < 2 ^ 256 ∧ Z2 < 2 ^ 256 ∧ RpN (tmP x y (n % 2 ^ s)) X Y Z ∧ RpN (tmP x y (2 ^ s)) X2 Y2 Z2 ∧ At wr g5 .i64 48 (cat3 (dgt X) (dgt Y) (dgt Z)) ∧ At wr w.heap.size .i64 48 (cat3 (dgt X2) (dgt Y2) (dgt Z2)) ∧ At wr g .i64 m bf ∧ Row wr (w.heap.size + 1) 48 ∧ Below w.heap.size w wr) (fun vi _ _ => m - (intOf vi).toNat)
  case atStart => exact ⟨0, 0, 1, 1, X0, Y0, Z0, rfl, Nat.zero_le _, by decide +kernel, by decide +kernel, by decide +kernel, hBd.out.1, hBd.out.2.1, hBd.out.2.2, hS0.out, hS1.out, hX.out, hA.out, hG.out, hR.out, hL.out⟩
  case round =>
    clear hX hA hG hR hL hS0 hS1 hBd
    obtain ⟨s, X, Y, Z, X2, Y2, Z2, rfl, hs, b1, b2, b3, b4, b5, b6, hq, hp, hX0, hA0, hG0, hR0, hL0⟩ := hrel
    have hX := Lib.hid hX0
    have hA := Lib.hid hA0
    have hG := Lib.hid hG0
    have hR := Lib.hid hR0
    have hL := Lib.hid hL0
    clear hX0 hA0 hG0 hR0 hL0
    by_cases hsm : s = m
    · subst hsm
      have hfin := Lib.hid (hend.out X Y Z hq)
      have hHb := Lib.hid (And.intro b1 (And.intro b2 b3))
      clear hend hRd hab hq hp b1 b2 b3 b4 b5 b6 hG hA
      have hr1 := hX.out.row
      have hr2 := hX.out.eq
      have hr3 := hR.out
      have hcx := arrK_cells .i64 48 (cat3 (dgt X) (dgt Y) (dgt Z))
      have d1 : decide ((s : Int) < (s : Int)) = false := by simp
      go_wp2_with fail
      refine ret_row (p := 4) (ty := 137) (g := w.heap.size + 1) rfl Tryd.underlying137 rfl (by kernel_rfl) rfl ((row_setRow_same rfl hR.out).2 hcx.1) rfl ?_
      rw [rowAt_setRow_same hR.out]
      exact ⟨X, Y, Z, rfl, hfin.out, hHb.out.1, hHb.out.2.1, hHb.out.2.2, below_setRow hL.out (by omega)⟩
    · have hslt : s < m := by omega
      obtain ⟨⟨X5, Y5, Z5⟩, hr5⟩ : ∃ r, rplus X Y Z X2 Y2 Z2 = r := ⟨_, rfl⟩
      obtain ⟨⟨X6, Y6, Z6⟩, hr6⟩ : ∃ r, rplus X2 Y2 Z2 X2 Y2 Z2 = r := ⟨_, rfl⟩
      have kP := Lib.hid (fun V => rp_PlusQ X Y Z X2 Y2 Z2 V b1 b2 b3 b4 b5 b6 _ hr5)
      have kD := Lib.hid (fun V => rp_PlusQ X2 Y2 Z2 X2 Y2 Z2 V b4 b5 b6 b4 b5 b6 _ hr6)
      have hb5 := Lib.hid (rplus_lt3 hr5)
      have hb6 := Lib.hid (rplus_lt3 hr6)
      have hrd := hRd.out s X Y Z X2 Y2 Z2 hq hp
      have hrd0 := Lib.hid hrd.1
      have hrd1 := Lib.hid (fun h => hrd.2.1 h X5 Y5 Z5 hr5)
      have hrd2 := Lib.hid (hrd.2.2 X6 Y6 Z6 hr6)
      have hHb := Lib.hid (And.intro b1 (And.intro b2 b3))
      have hab2 := hab.out s
      have c := hG.out.cell hslt
      dsimp only at kP kD
      unfold rpV at kP kD
      clear hrd hr5 hr6 b1 b2 b3 b4 b5 b6 hq hp hsm
      have d1 : decide ((s : Int) < (m : Int)) = true := by simp; omega
      have d2 : (0 : Int) ≤ (s : Int) := by omega
      have d3 : (s : Int) < (m : Int) := by omega
      have w3 : IntKind.i64.wrap ((s : Int) + 1) = (s : Int) + 1 := by rw [IntKind.wrap_i64]; omega
      have hc5 := arrK_cells .i64 48 (cat3 (dgt X5) (dgt Y5) (dgt Z5))
      have hc6 := arrK_cells .i64 48 (cat3 (dgt X6) (dgt Y6) (dgt Z6))
      rcases hab2 with hz | hz
      · have hfin := Lib.hid (hrd0.out hz)
        rw [hz] at c
        clear hrd0 hrd1 hz kP hb5 hc5
        have hr1 := hA.out.row
        have hr2 := hA.out.eq
        go_wp2_with fail
        refine (kD.out _).mono ?_
        rintro e w6 ⟨rfl, hb⟩
        replace hA := Lib.hid (hA.out.step hb)
        replace hR := Lib.hid (row_below hR.out hb hR.out.lt)
        replace hX := Lib.hid (hX.out.step hb)
        replace hG := Lib.hid (hG.out.step hb)
        replace hL := Lib.hid (below_step hb hL.out (Nat.le_refl _))
        clear hr1 hr2 hb kD c
        dsimp only
        have hr1 := hA.out.row
        go_wp2_with fail
        go_roundw
        case rel =>
          refine ⟨s + 1, X, Y, Z, X6, Y6, Z6, by go_num, by omega, hHb.out.1, hHb.out.2.1, hHb.out.2.2, hb6.out.1, hb6.out.2.1, hb6.out.2.2, hfin.out, hrd2.out, hX.out.far (by have := hgl.out; omega), At.put hA.out.row, hG.out.far (by have := hgl.out; omega), (row_setRow_far (by omega)).2 hR.out, below_setRow hL.out (Nat.le_refl _)⟩
        case measure => simp [intOf]; omega
      · have hfin := Lib.hid (hrd1.out hz)
        rw [hz] at c
        clear hrd0 hrd1 hz hHb
        have hr1 := hA.out.row
        have hr2 := hA.out.eq
        have hr3 := hX.out.row
        have hr4 := hX.out.eq
        go_wp2_with fail
        refine (kP.out _).mono ?_
        rintro e w6 ⟨rfl, hb⟩
        replace hA := Lib.hid (hA.out.step hb)
        replace hR := Lib.hid (row_below hR.out hb hR.out.lt)
        replace hX := Lib.hid (hX.out.step hb)
        replace hG := Lib.hid (hG.out.step hb)
        replace hL := Lib.hid (below_step hb hL.out (Nat.le_refl _))
        clear hr1 hr2 hr3 hr4 hb kP c
        dsimp only
        have hr1 := hX.out.row
        go_upto_region 7 with (fail)
        have hX9 := Lib.hid (At.put (k := .i64) (f := cat3 (dgt X5) (dgt Y5) (dgt Z5)) hX.out.row)
        have hA9 := Lib.hid (hA.out.far (c := arrK .i64 48 (cat3 (dgt X5) (dgt Y5) (dgt Z5))) (show w.heap.size ≠ g5 by have := hgl.out; omega))
        have hG9 := Lib.hid (hG.out.far (c := arrK .i64 48 (cat3 (dgt X5) (dgt Y5) (dgt Z5))) (show g ≠ g5 by have := hgl.out; omega))
        have hR9 := Lib.hid (show Row (w6.setRow g5 (arrK .i64 48 (cat3 (dgt X5) (dgt Y5) (dgt Z5)))) (w.heap.size + 1) 48 from (row_setRow_far (show w.heap.size + 1 ≠ g5 by have := hgl.out; omega)).2 hR.out)
        have hL9 := Lib.hid (below_setRow (c := arrK .i64 48 (cat3 (dgt X5) (dgt Y5) (dgt Z5))) hL.out (show w.heap.size ≤ g5 by have := hgl.out; omega))
        clear hr1 hX hA hG hR hL
        have hX := hX9
        have hA := hA9
        have hG := hG9
        have hR := hR9
        have hL := hL9
        clear hX9 hA9 hG9 hR9 hL9
        generalize w6.setRow _ _ = W6 at *
        have hr1 := hA.out.row
        have hr2 := hA.out.eq
        go_wp2_with fail
        refine (kD.out _).mono ?_
        rintro e w7 ⟨rfl, hb⟩
        replace hA := Lib.hid (hA.out.step hb)
        replace hR := Lib.hid (row_below hR.out hb hR.out.lt)
        replace hX := Lib.hid (hX.out.step hb)
        replace hG := Lib.hid (hG.out.step hb)
        replace hL := Lib.hid (below_step hb hL.out (Nat.le_refl _))
        clear hr1 hr2 hb kD
        dsimp only
        have hr1 := hA.out.row
        go_wp2_with fail
        go_roundw
        case rel =>
          refine ⟨s + 1, X5, Y5, Z5, X6, Y6, Z6, by go_num, by omega, hb5.out.1, hb5.out.2.1, hb5.out.2.2, hb6.out.1, hb6.out.2.1, hb6.out.2.2, hfin.out, hrd2.out, hX.out.far (by have := hgl.out; omega), At.put hA.out.row, hG.out.far (by have := hgl.out; omega), (row_setRow_far (by omega)).2 hR.out, below_setRow hL.out (Nat.le_refl _)⟩
        case measure => simp [intOf]; omega
end Go.Proofs.YtgdiokklfihfoaaDoor
namespace Go.Proofs.YtgdiokklfihfoaaDoor
open Go Go.RowKit

section
variable {P : Program} {ops : Array Oper} {Q : Exit → Act → World → Prop}
def tEdgesL (ops : Array Oper) (q : Nat) : Bool := ((List.range q).all fun j => pathB ops ops.size q j) && (List.range ops.size).all fun i => decide (i ≤ q) || pathB ops ops.size i (i - 1)
/-- The slots that no operation before q writes read as at first. -/
def UntouchedL (ops : Array Oper) (q : Nat) (a0 a : Act) : Prop := ∀ s, ((List.range ops.size).all fun i => decide (q ≤ i) || dstAt ops i != some s) = true → a.tmps[s]?.getD undef = a0.tmps[s]?.getD undef
def StepOkL (P : Program) (ops : Array Oper) (Q : Exit → Act → World → Prop) (R : Nat → SRel) (a0 : Act) (w0 : World) (q i : Nat) (o : Oper) : Prop :=
  ∀ (a : Act) (w : World) (K : Act → World → Prop), Below w0.heap.size w0 w → UntouchedL ops q a0 a → Came ops R o a w →
    (∀ v w', (R i).p v w' → Below w.heap.size w w' → K (a.put o.dst v) w') → if Region.wanted o (yielded ops a.tmps) = true then Oper.wp P o a w K Q else K (a.put o.dst undef) w
theorem calmL_step {R : Nat → SRel} {a0 : Act} {w0 : World} {q i : Nat} {o : Oper} (hg : o.guard = none)
    (h : ∀ (a : Act) (w : World) (K : Act → World → Prop), Below w0.heap.size w0 w → UntouchedL ops q a0 a → Came ops R o a w → (∀ v w', (R i).p v w' → Below w.heap.size w w' → K (a.put o.dst v) w') → Oper.wp P o a w K Q) : StepOkL P ops Q R a0 w0 q i o := by
  intro a w K hb hu hc hK
  rw [if_pos (by simp [Region.wanted, hg])]
  exact h a w K hb hu hc hK
theorem calmL_step_guard {R : Nat → SRel} {a0 : Act} {w0 : World} {q i g : Nat} {b : Bool} {d : Tmp} {o : Oper} (hg : o.guard = some (g, b)) (hd : dstAt ops g = some d)
    (hv : ∀ (a : Act) (w : World), Came ops R o a w → a.tmps[d]?.getD undef = .bool b)
    (h : ∀ (a : Act) (w : World) (K : Act → World → Prop), Below w0.heap.size w0 w → UntouchedL ops q a0 a → Came ops R o a w → (∀ v w', (R i).p v w' → Below w.heap.size w w' → K (a.put o.dst v) w') → Oper.wp P o a w K Q) : StepOkL P ops Q R a0 w0 q i o := by
  intro a w K hb hu hc hK
  have hy : yielded ops a.tmps g = some b := by
    have h1 := hv a w hc
    unfold dstAt at hd
    unfold yielded
    rw [hd, Option.bind_some]
    cases h2 : a.tmps[d]? with
    | none => rw [h2] at h1; cases h1
    | some v => rw [h2] at h1; have : v = .bool b := h1; rw [this]
  rw [if_pos (by simp [Region.wanted, hg, hy])]
  exact h a w K hb hu hc hK
/-- The frame before the q-th operation, written out. -/
def dstL (ops : Array Oper) (q s : Nat) : Bool := (List.range ops.size).any fun i => !decide (q ≤ i) && dstAt ops i == some s
theorem act_patchL {a0 a : Act} {n : Nat} (q : Nat) (bs : List Bool) (hn : a0.tmps.size = n) (hbs : bs = (List.range n).map (fun j => dstL ops q (0 + j))) (hu : UntouchedL ops q a0 a) (hsz : a.tmps.size = a0.tmps.size) (hdf : a.defers = a0.defers) :
    a = ⟨(patch a 0 a0.tmps.toList bs).toArray, a0.defers⟩ := by
  rw [patch_eq a (dstL ops q) a0.tmps.toList 0 bs (by rw [hbs, Array.length_toList, hn])]
  obtain ⟨t, d⟩ := a
  simp only at hsz hdf hu ⊢
  subst hdf
  congr 1
  apply Array.ext
  · simp [hsz]
  · intro i h1 h2
    simp only [List.getElem_toArray, List.getElem_map, List.getElem_range, Nat.zero_add]
    cases hD : dstL ops q i with
    | true => simp [h1]
    | false =>
      have h3 := hu i (by
        rw [List.all_eq_true]
        intro j hj
        unfold dstL at hD
        have h4 := List.any_eq_false.1 hD j hj
        cases hjq : decide (q ≤ j) with
        | true => rfl
        | false =>
          rw [hjq] at h4
          simp at h4 ⊢
          exact h4)
      simp [h1] at h3
      rw [cond_false, h3]
      have h5 : i < a0.tmps.size := by omega
      simp [h5]
/-- What is asked of the operations from q on. -/
def LastOkL (P : Program) (ops : Array Oper) (Q : Exit → Act → World → Prop) (R : Nat → SRel) (a0 : Act) (w0 : World) (q : Nat) : Prop :=
  ∀ (a : Act) (w : World), Below w0.heap.size w0 w → UntouchedL ops q a0 a → a.tmps.size = a0.tmps.size → a.defers = a0.defers → (∀ j d, j < q → dstAt ops j = some d → (R j).p (a.tmps[d]?.getD undef) w) →
    wpList P ops Q (ops.toList.drop q) a w
def StepsL (P : Program) (ops : Array Oper) (Q : Exit → Act → World → Prop) (R : Nat → SRel) (a0 : Act) (w0 : World) (q : Nat) : Nat → List Oper → Prop
  | _, [] => True
  | i, o :: l => StepOkL P ops Q R a0 w0 q i o ∧ StepsL P ops Q R a0 w0 q (i + 1) l
theorem stepsL_at {R : Nat → SRel} {a0 : Act} {w0 : World} {q : Nat} : ∀ (l : List Oper) (n i : Nat) (o : Oper), StepsL P ops Q R a0 w0 q n l → l[i]? = some o → StepOkL P ops Q R a0 w0 q (n + i) o
  | [], n, i, o, _, h => by simp at h
  | x :: l, n, 0, o, h1, h => by
      have : x = o := by simpa using h
      subst this
      exact h1.1
  | x :: l, n, i + 1, o, h1, h => by
      have := stepsL_at l (n + 1) i o h1.2 (by simpa using h)
      rw [show n + (i + 1) = n + 1 + i by omega]
      exact this
theorem wp_region_tailL {id : Nat} {a0 : Act} {w0 : World} (R : Nat → SRel) (q : Nat) (hm : P.follows .mixedOrders = true) (he : edgesOk ops = true) (hd : dstsOk ops = true) (hz : slotsOk ops a0.tmps.size = true) (hX : tEdgesL ops q = true)
    (hqn : q < ops.size) (hstep : StepsL P ops Q R a0 w0 q 0 (ops.toList.take q)) (hlast : LastOkL P ops Q R a0 w0 q) : (Code.region id ops true).wp P Q a0 w0 := by
  refine wp_region_any hm ?_
  have hlt : ∀ i d, dstAt ops i = some d → i < ops.size := fun i d h => by
    unfold dstAt at h
    rcases Nat.lt_or_ge i ops.size with h1 | h1
    · exact h1
    · rw [Array.getElem?_eq_none h1] at h; cases h
  have hdst : ∀ i j d e, i ≠ j → dstAt ops i = some d → dstAt ops j = some e → d ≠ e := by
    intro i j d e hij h1 h2
    have := List.all_eq_true.1 (List.all_eq_true.1 hd i (by simpa using hlt i d h1)) j (by simpa using hlt j e h2)
    rw [h1, h2] at this
    simpa [hij] using this
  have hslot : ∀ i d, dstAt ops i = some d → d < a0.tmps.size := by
    intro i d h1
    have := List.all_eq_true.1 hz i (by simpa using hlt i d h1)
    rw [h1] at this
    simpa using this
  unfold tEdgesL at hX
  rw [Bool.and_eq_true] at hX
  have hsz0 : ∃ f, ops.size = f + 1 := ⟨ops.size - 1, by omega⟩
  -- an operation that may run now waits for none that is not listed
  have hpath : ∀ (listed : Array Bool) (i j : Nat) (o : Oper), (∀ k o, listed.getD k false = true → ops[k]? = some o → ∀ e ∈ o.after, Region.binds .any e = true → listed.getD e.on false = true) →
      ops[i]? = some o → (∀ e ∈ o.after, Region.binds .any e = true → listed.getD e.on false = true) → pathB ops ops.size i j = true → listed.getD j false = true := by
    intro listed i j o hcl ho h2 hp
    obtain ⟨f, hf⟩ := hsz0
    rw [hf] at hp
    obtain ⟨o', ho', e, he, hb', h6⟩ := path_on hp
    rw [ho] at ho'
    cases ho'
    have hl := h2 e he hb'
    rcases h6 with h6 | h6
    · rw [← h6]; exact hl
    · exact path_listed hcl f e.on j hl h6
  have hcl' : ∀ (listed : Array Bool) (i : Nat) (o : Oper), listed.size = ops.size → i < ops.size → (∀ k o, listed.getD k false = true → ops[k]? = some o → ∀ e ∈ o.after, Region.binds .any e = true → listed.getD e.on false = true) →
      ops[i]? = some o → (∀ e ∈ o.after, Region.binds .any e = true → listed.getD e.on false = true) →
      (∀ k o, (listed.setIfInBounds i true).getD k false = true → ops[k]? = some o → ∀ e ∈ o.after, Region.binds .any e = true → (listed.setIfInBounds i true).getD e.on false = true) := by
    intro listed i o hs hi hcl ho h2 k o' hk ho' e he1 he2
    have hil : i < listed.size := by omega
    have hle : listed.getD e.on false = true := by
      by_cases hki : k = i
      · subst hki
        rw [ho] at ho'
        cases ho'
        exact h2 e he1 he2
      · have hk' : listed.getD k false = true := by simpa [Array.getElem?_setIfInBounds_ne (Ne.symm hki)] using hk
        exact hcl k o' hk' ho' e he1 he2
    by_cases hei : e.on = i
    · rw [hei]; simp [hil]
    · simpa [Array.getElem?_setIfInBounds_ne (Ne.symm hei)] using hle
  -- the r-th of those from q on
  have hrun : ∀ (listed : Array Bool) (r : Nat) (a : Act) (w : World) (K : Act → World → Prop), r < ops.size → wpList P ops Q (ops.toList.drop r) a w → (∀ a' w', wpList P ops Q (ops.toList.drop (r + 1)) a' w' → K a' w') → wpOp P ops Q r K a w := by
    intro listed r a w K hr h hK
    rw [List.drop_eq_getElem_cons (by simpa using hr)] at h
    refine wpOp_mono hK ?_
    unfold wpOp
    rw [Array.getElem?_eq_getElem hr]
    simp only [Array.getElem_toList] at h
    exact h
  refine wpAny_inv he (fun listed a w => (∀ k o, listed.getD k false = true → ops[k]? = some o → ∀ e ∈ o.after, Region.binds .any e = true → listed.getD e.on false = true) ∧ (((∀ k, q ≤ k → listed.getD k false = false) ∧ Below w0.drew.heap.size w0.drew w ∧ UntouchedL ops q a0 a ∧ a.tmps.size = a0.tmps.size ∧ a.defers = a0.defers ∧ ∀ j d, listed.getD j false = true → dstAt ops j = some d → (R j).p (a.tmps[d]?.getD undef) w) ∨ (∃ r, q ≤ r ∧ r ≤ ops.size ∧ (∀ k, r ≤ k → listed.getD k false = false) ∧ (∀ k, k < r → listed.getD k false = true) ∧ wpList P ops Q (ops.toList.drop r) a w))) ?_ ?_ _ _ _ _ (by simp) ?_ ?_
  · rintro listed a w i o hs ⟨hcl, hI⟩ hi h1 ho h2
    have hil : i < listed.size := by omega
    have hc2 := hcl' listed i o hs hi hcl ho h2
    have hafter : ∀ r, q ≤ r → r ≤ i → (∀ k, r ≤ k → listed.getD k false = false) → i = r := by
      intro r hqr hri hun
      rcases Nat.eq_or_lt_of_le hri with h3 | h3
      · exact h3.symm
      · have h4 := List.all_eq_true.1 hX.2 i (by simpa using hi)
        rw [Bool.or_eq_true, decide_eq_true_eq] at h4
        rcases h4 with h4 | h4
        · omega
        · have := hpath listed i (i - 1) o hcl ho h2 h4
          rw [hun (i - 1) (by omega)] at this
          cases this
    have hset : ∀ r, i = r → (∀ k, r ≤ k → listed.getD k false = false) → ∀ k, r + 1 ≤ k → (listed.setIfInBounds i true).getD k false = false := by
      intro r hir hun k hk
      have := hun k (by omega)
      simpa [Array.getElem?_setIfInBounds_ne (show i ≠ k by omega)] using this
    have hset2 : ∀ _ : Nat, (∀ k, k < i → listed.getD k false = true) → ∀ k, k < i + 1 → (listed.setIfInBounds i true).getD k false = true := by
      intro r hli k hk
      by_cases hki : k = i
      · rw [hki]; simp [hil]
      · have := hli k (by omega)
        simpa [Array.getElem?_setIfInBounds_ne (Ne.symm hki)] using this
    rcases hI with ⟨hun, hb, hu, hsz, hdf, hR⟩ | ⟨r, hqr, hrn, hun, hli, hW⟩
    · rcases Nat.lt_or_ge i q with hiq | hiq
      · have hst := stepsL_at (ops.toList.take q) 0 i o hstep (by rw [List.getElem?_take_of_lt hiq, Array.getElem?_toList]; exact ho)
        rw [Nat.zero_add] at hst
        refine wpOp_step ho fun K hK => hst a w K (below_step hb (Below.refl _ _).drew (Nat.le_refl _)) hu (fun j d hj hjd => ?_) fun v w' hv hb' => hK _ _ ⟨hc2, .inl ⟨?_, below_step hb' hb (Nat.le_refl _), ?_, ?_, ?_, ?_⟩⟩
        · obtain ⟨e, he1, he2⟩ := List.any_eq_true.1 hj
          have he1 : e ∈ o.after := Array.mem_toList_iff.1 he1
          simp only [Bool.and_eq_true, beq_iff_eq] at he2
          refine hR j d ?_ hjd
          rw [← he2.1]
          exact h2 e he1 he2.2
        · intro k hk
          have := hun k hk
          simpa [Array.getElem?_setIfInBounds_ne (show i ≠ k by omega)] using this
        · intro s hs'
          have hns : o.dst ≠ some s := by
            have h6 := List.all_eq_true.1 hs' i (by simpa using hi)
            rw [Bool.or_eq_true, decide_eq_true_eq] at h6
            rcases h6 with h6 | h6
            · omega
            · unfold dstAt at h6
              rw [ho] at h6
              simpa using h6
          rw [← hu s hs']
          cases hd' : o.dst with
          | none => rfl
          | some d =>
            have hne : d ≠ s := fun e => hns (by rw [hd', e])
            simp [Act.put, Array.getElem?_setIfInBounds_ne hne]
        · cases hd' : o.dst <;> simp [Act.put, hsz]
        · cases hd' : o.dst <;> simp [Act.put, hdf]
        · intro j d hj hjd
          by_cases hij : i = j
          · subst hij
            have hd1 := hslot i d hjd
            have hod : o.dst = some d := by unfold dstAt at hjd; rw [ho] at hjd; exact hjd
            rw [hod]
            rw [← hsz] at hd1
            simp [Act.put, hd1]
            exact hv
          · have hlj : listed.getD j false = true := by
              simpa [Array.getElem?_setIfInBounds_ne hij] using hj
            have h3 := (R j).st _ _ _ hb' (hR j d hlj hjd)
            cases hd' : o.dst with
            | none => simpa [Act.put] using h3
            | some d' =>
              have hne : d' ≠ d := hdst i j d' d hij (by unfold dstAt; rw [ho]; exact hd') hjd
              simpa [Act.put, Array.getElem?_setIfInBounds_ne hne] using h3
      · have hiq' := hafter q (Nat.le_refl _) hiq hun
        have hallj : ∀ j, j < q → listed.getD j false = true := fun j hj => hpath listed i j o hcl ho h2 (by rw [hiq']; exact List.all_eq_true.1 hX.1 j (by simpa using hj))
        refine hrun listed i a w _ hi ?_ fun a' w' hK => ⟨hc2, .inr ⟨i + 1, by omega, by omega, hset i rfl (hiq' ▸ hun), hset2 i (fun k hk => hallj k (by omega)), hK⟩⟩
        rw [hiq']
        exact hlast a w (below_step hb (Below.refl _ _).drew (Nat.le_refl _)) hu hsz hdf fun j d hj hjd => hR j d (hallj j hj) hjd
    · have hir : r ≤ i := by
        rcases Nat.lt_or_ge i r with h3 | h3
        · exfalso
          have h4 := hli i h3
          rw [Array.getD_eq_getD_getElem?] at h4
          simp [hil] at h1 h4
          rw [h1] at h4
          cases h4
        · exact h3
      have hiq' := hafter r hqr hir hun
      exact hrun listed i a w _ hi (hiq' ▸ hW) fun a' w' hK => ⟨hc2, .inr ⟨i + 1, by omega, by omega, hset i rfl (hiq' ▸ hun), hset2 i (fun k hk => hli k (by omega)), hK⟩⟩
  · rintro listed a w ⟨-, ⟨hun, -⟩ | ⟨r, hqr, hrn, hun, hli, hW⟩⟩ hall
    · have := hall q hqn
      rw [hun q (Nat.le_refl _)] at this
      cases this
    · have hr : r = ops.size := by
        rcases Nat.eq_or_lt_of_le hrn with h | h
        · exact h
        · have := hall r h
          rw [hun r (Nat.le_refl _)] at this
          cases this
      rw [hr, ← Array.length_toList, List.drop_length] at hW
      exact hW
  · unfold left
    rw [Array.toList_replicate]
    exact Nat.le_trans (List.length_filter_le _ _) (by simp)
  · have h0 : ∀ j, (Array.replicate ops.size false).getD j false = false := fun j => by
      rw [Array.getD_eq_getD_getElem?, Array.getElem?_replicate]
      split <;> simp
    exact ⟨fun k o hk => absurd hk (by rw [h0]; simp), .inl ⟨fun k _ => h0 k, Below.refl _ _, fun _ _ => rfl, rfl, rfl, fun j d hj => absurd hj (by rw [h0]; simp)⟩⟩
end
end Go.Proofs.YtgdiokklfihfoaaDoor
namespace Go.Proofs.YtgdiokklfihfoaaDoor
open Go.ChangeShapes Go.WideShapes Go.ChangeAt Go.RowKit
set_option maxHeartbeats 2000000
set_option maxRecDepth 100000
attribute [local go_sem ↓] load_num store_num execl_num execs_num load_b32 store_b32 execl_b32 execs_b32
attribute [local go_sem] isHead_mk blkOf_mk isAgg_mk cellsV_mk row_drew rowAt_drew row_new_cells row_old rowAt_new rowAt_old setRow_new zeroNum zero32
/-- The bytes of the s lowest bits. -/
def bybK (a s : Nat) : Nat → Nat := fun i => byt (a % 2 ^ s) i
theorem byb_zero (a i : Nat) : bybK a 0 i = 0 := by unfold bybK byt; rw [Nat.pow_zero, Nat.mod_one, Nat.zero_div]
theorem byb_all {a : Nat} (h : a < 2 ^ 256) (i : Nat) : bybK a 256 i = byt a i := by unfold bybK; rw [Nat.mod_eq_of_lt h]
theorem byb_step (a s b q r : Nat) (hb : a / 2 ^ s % 2 = b) (hq : s / 8 = q) (hr : s % 8 = r) : bybK a s q + b * 2 ^ r < 256 ∧ ∀ p, upd (bybK a s) q (bybK a s q + b * 2 ^ r) p = bybK a (s + 1) p := by
  have hs : s = 8 * q + r := by omega
  have hpq : (256 : Nat) ^ q = 2 ^ (8 * q) := by rw [show (256 : Nat) = 2 ^ 8 from rfl, ← Nat.pow_mul]
  have hm : a % 2 ^ (s + 1) = a % 2 ^ s + b * 2 ^ s := by rw [Nat.pow_succ, Nat.mod_mul, hb, Nat.mul_comm]
  have h2s : 2 ^ s = 256 ^ q * 2 ^ r := by rw [hs, Nat.pow_add, hpq]
  have hml : a % 2 ^ s < 2 ^ s := Nat.mod_lt _ (Nat.pow_pos (by omega))
  have hb1 : b ≤ 1 := by omega
  have hr7 : r ≤ 7 := by omega
  have h2r : 2 ^ r * 2 ≤ 256 := by
    have : 2 ^ (r + 1) ≤ 2 ^ 8 := Nat.pow_le_pow_right (by omega) (by omega)
    rw [Nat.pow_succ] at this
    omega
  unfold bybK
  rw [hm]
  generalize a % 2 ^ s = m at *
  have hmd : m / 256 ^ q < 2 ^ r := by rw [h2s, Nat.mul_comm] at hml; exact Nat.div_lt_of_lt_mul (by rw [Nat.mul_comm]; exact hml)
  have hbq : byt m q = m / 256 ^ q := by unfold byt; exact Nat.mod_eq_of_lt (by omega)
  have hbr : b * 2 ^ r ≤ 2 ^ r := by
    have := Nat.mul_le_mul_right (2 ^ r) hb1
    omega
  refine ⟨by rw [hbq]; omega, fun p => ?_⟩
  have hpos : 0 < 256 ^ q := Nat.pow_pos (by omega)
  have hadd : m + b * 2 ^ s = m + 256 ^ q * (b * 2 ^ r) := by rw [h2s, Nat.mul_left_comm]
  rw [hadd]
  unfold upd
  by_cases hpe : p = q
  · subst hpe
    rw [if_pos rfl, hbq]
    unfold byt
    rw [Nat.add_mul_div_left _ _ hpos, Nat.mod_eq_of_lt (by omega)]
  · rw [if_neg hpe]
    unfold byt
    rcases Nat.lt_or_ge p q with h | h
    · have h3 : 256 ^ q = 256 ^ p * (256 * 256 ^ (q - p - 1)) := by
        rw [← Nat.mul_assoc, ← Nat.pow_succ, ← Nat.pow_add]
        congr 1
        omega
      rw [h3, Nat.mul_assoc, Nat.add_mul_div_left _ _ (Nat.pow_pos (by omega)), Nat.mul_assoc, Nat.add_mul_mod_self_left]
    · have h3 : 256 ^ q * 256 ≤ 256 ^ p := by
        rw [← Nat.pow_succ]
        exact Nat.pow_le_pow_right (by omega) (by omega)
      have h4 : m + 256 ^ q * (b * 2 ^ r) < 256 ^ q * 256 := by
        have h5 : 256 ^ q * (m / 256 ^ q) + m % 256 ^ q = m := Nat.div_add_mod _ _
        have h6 : m % 256 ^ q < 256 ^ q := Nat.mod_lt _ hpos
        have h7 : 256 ^ q * (m / 256 ^ q + b * 2 ^ r + 1) ≤ 256 ^ q * 256 := Nat.mul_le_mul_left _ (by omega)
        rw [Nat.mul_add, Nat.mul_add] at h7
        omega
      show m / 256 ^ p % 256 = (m + 256 ^ q * (b * 2 ^ r)) / 256 ^ p % 256
      have h8 := Nat.le_add_right m (256 ^ q * (b * 2 ^ r))
      rw [Nat.div_eq_of_lt (Nat.lt_of_lt_of_le (Nat.lt_of_le_of_lt h8 h4) h3), Nat.div_eq_of_lt (Nat.lt_of_lt_of_le h4 h3)]
theorem ref_bytesOf (a : Nat) (w : World) (ha : a < 2 ^ 256) :
    Calls Tryd.prog 76 #[numV a] w fun e w' => e = .returned (.agg (arrK .u8 32 (byt a))) ∧ Below w.heap.size w w' := by
  have hall := Lib.hid (fun i => byb_all ha i)
  have hz := Lib.hid (fun i => byb_zero a i)
  have hst := Lib.hid (fun s b q r hb hq hr => byb_step a s b q r hb hq hr)
  have kD := Lib.hid (fun V => ref_OfNum a V ha)
  have kB := Lib.hid (fun V v (hv : IsN V v a) => bitsN 256 V (by omega) (hv.toV (lt_big ha (by omega))))
  clear ha
  unfold numV at kD ⊢
  have hcz := arrK_cells .u8 32 fun _ => 0
  have hce := arrK_cells .u8 32 (byt a)
  have hL0 : Below w.heap.size w (((w.alloc (Obj.cells (arrK .u64 4 (wd a)) 41)).alloc (Obj.cells (arrK .u8 32 fun _ => 0) 57)).alloc (Obj.cells (arrK .u8 32 fun _ => 0) 57)) := by go_grown
  have hA0 : At (((w.alloc (Obj.cells (arrK .u64 4 (wd a)) 41)).alloc (Obj.cells (arrK .u8 32 fun _ => 0) 57)).alloc (Obj.cells (arrK .u8 32 fun _ => 0) 57)) w.heap.size .u64 4 (wd a) := ((At.new _ rfl).old _).old _
  have hR0 : Row (((w.alloc (Obj.cells (arrK .u64 4 (wd a)) 41)).alloc (Obj.cells (arrK .u8 32 fun _ => 0) 57)).alloc (Obj.cells (arrK .u8 32 fun _ => 0) 57)) (w.heap.size + 1) 32 := ((At.new (k := .u8) (f := fun _ => 0) _ (by simp)).old _).row
  have hX0 : At (((w.alloc (Obj.cells (arrK .u64 4 (wd a)) 41)).alloc (Obj.cells (arrK .u8 32 fun _ => 0) 57)).alloc (Obj.cells (arrK .u8 32 fun _ => 0) 57)) (w.heap.size + 1 + 1) .u8 32 (bybK a 0) := (At.new (k := .u8) (f := fun _ => 0) _ (by simp)).congr fun i _ => (hz.out i).symm
  have hL := Lib.hid hL0
  have hA := Lib.hid hA0
  have hR := Lib.hid hR0
  have hX := Lib.hid hX0
  clear hL0 hA0 hR0 hX0 hz
  go_enter Tryd.func76, Tryd.ntmps76
  go_upto_region 2 with (fail)
  generalize ((w.alloc _).alloc _).alloc _ = W0 at *
  have hr1 := hA.out.row
  have hr2 := hA.out.eq
  go_wp2_with fail
  refine (kD.out _).mono ?_
  rintro e w2 ⟨v, rfl, hv, hb⟩
  obtain ⟨vA, vm, vc, rfl, -, -, -⟩ := hv.form
  replace hR := Lib.hid (row_below hR.out hb hR.out.lt)
  replace hX := Lib.hid (hX.out.step hb)
  replace hL := Lib.hid (below_step hb hL.out (Nat.le_refl _))
  have kB2 := Lib.hid (kB.out _ _ hv)
  clear hr1 hr2 hb kD kB hA hv
  dsimp only
  go_wp2_with fail
  refine (show Calls _ _ #[_, Value.int IntKind.i64 256] w2 _ from kB2.out).mono ?_
  rintro e w3 ⟨g, rfl, hgR, hgE, hgs, hb⟩
  have hG := Lib.hid (show At w3 g .i64 256 (fun i => a / 2 ^ i % 2) from ⟨hgR, hgE⟩)
  have hgl := Lib.hid (show w.heap.size + 1 + 1 < g from Nat.lt_of_lt_of_le hX.out.lt hgs)
  replace hR := Lib.hid (row_below hR.out hb hR.out.lt)
  replace hX := Lib.hid (hX.out.step hb)
  replace hL := Lib.hid (below_step hb hL.out (Nat.le_refl _))
  clear hgR hgE hgs hb kB2
  dsimp only
  go_upto_region 3 with (fail)
  go_loopw [10, 4, 5] (fun i j k wr => ∃ s : Nat, i = .int .i64 s ∧ s ≤ 256 ∧ At wr (w.heap.size + 1 + 1) .u8 32 (bybK a s) ∧ Row wr (w.heap.size + 1) 32 ∧ At wr g .i64 256 (fun i => a / 2 ^ i % 2) ∧ Below w.heap.size w wr) (fun i _ _ _ => 256 - (intOf i).toNat)
  case atStart => exact ⟨0, rfl, by omega, hX.out, hR.out, hG.out, hL.out⟩
  case round =>
    clear hX hR hG hL
    obtain ⟨s, rfl, hs, hX, hR, hG, hL⟩ := hrel
    by_cases h256 : s = 256
    · subst h256
      have hX2 := hX.congr fun i _ => hall.out i
      have hr1 := hX2.row
      have hr2 := hX2.eq
      have hRr := hR
      have d1 : decide ((256 : Int) < 256) = false := by simp
      clear hX
      rw [show ((256 : Nat) : Int) = 256 from rfl]
      go_wp2_with fail
      refine ret_row (p := 2) (ty := 57) (g := w.heap.size + 1) rfl Tryd.underlying57 rfl (by kernel_rfl) rfl ((row_setRow_same rfl hR).2 hce.1) rfl ?_
      rw [rowAt_setRow_same hR]
      exact ⟨rfl, below_setRow hL (by omega)⟩
    · have c := hG.cell (i := s) (by omega)
      obtain ⟨q, hq⟩ : ∃ q, s / 8 = q := ⟨_, rfl⟩
      obtain ⟨r, hr⟩ : ∃ r, s % 8 = r := ⟨_, rfl⟩
      obtain ⟨b, hb⟩ : ∃ b, a / 2 ^ s % 2 = b := ⟨_, rfl⟩
      have hss := hst.out s b q r hb hq hr
      have hqi : (s : Int) / 8 = q := by omega
      have hri : (s : Int) % 8 = r := by omega
      have hq32 : q < 32 := by omega
      have hr8 : r < 8 := by omega
      have hb2 : b < 2 := by omega
      have c2 := hX.cell hq32
      have hf := hX.row.frozen q
      simp only [hb] at c
      have hHX := Lib.hid hX
      have hHR := Lib.hid hR
      have hHG := Lib.hid hG
      have hHL := Lib.hid hL
      have hHs := Lib.hid hss.2
      have hlt := hss.1
      clear hq hr hb hss hX hR hG hL
      generalize hx : bybK a s q = x at *
      have hHx := Lib.hid hx
      clear hx
      have hp : b * 2 ^ r < 256 := by omega
      have d1 : decide ((s : Int) < 256) = true := by simp; omega
      have d2 : (0 : Int) ≤ (s : Int) := by omega
      have d3 : (s : Int) < 256 := by omega
      have d4 : (0 : Int) ≤ (q : Int) := by omega
      have d5 : (q : Int) < 32 := by omega
      obtain ⟨y, hy⟩ : ∃ y, b * 2 ^ r = y := ⟨_, rfl⟩
      have hy2 : (b : Int) * 2 ^ r = (y : Int) := by rw [← hy]; simp
      rw [hy] at hp hlt hHs
      clear hy
      have t1 : Int.tdiv (s : Int) 8 = (q : Int) := by rw [Int.tdiv_eq_ediv_of_nonneg d2]; exact hqi
      have t2 : Int.tmod (s : Int) 8 = (r : Int) := by rw [Int.tmod_eq_emod_of_nonneg d2]; exact hri
      have t3 : IntKind.i64.wrap (q : Int) = (q : Int) := by rw [IntKind.wrap_i64]; omega
      have t4 : IntKind.i64.wrap (r : Int) = (r : Int) := by rw [IntKind.wrap_i64]; omega
      have t5 : IntKind.i64.wrap (y : Int) = (y : Int) := by rw [IntKind.wrap_i64]; omega
      have t6 : IntKind.u8.wrap (y : Int) = (y : Int) := by rw [IntKind.wrap_u8]; omega
      have t7 : IntKind.u8.wrap ((x : Int) + (y : Int)) = (x : Int) + (y : Int) := by rw [IntKind.wrap_u8]; omega
      go_upto_region 5 with (fail)
      go_region
      go_wp2_with fail
      go_roundw
      case rel =>
        refine ⟨s + 1, by go_num, by omega, ?_, row_setCell.2 hHR.out, (hHG.out.farC (by have := hgl.out; simp; omega)).drew, (hHL.out.setCell (by simp; omega) _).drew⟩
        rw [show (x : Int) + (y : Int) = ((x + y : Nat) : Int) by omega]
        exact (((hHX.out.set q (x + y)).congr fun p _ => hHs.out p)).drew
      case measure => simp [intOf]; omega
end Go.Proofs.YtgdiokklfihfoaaDoor
namespace Go.Proofs.YtgdiokklfihfoaaDoor
open Go.ChangeShapes Go.WideShapes Go.ChangeAt Go.RowKit
set_option maxHeartbeats 2000000
set_option maxRecDepth 100000
/-- A point's bytes: y's, the least bit of x on top. -/
def pkF (x y : Nat) : Nat → Nat := fun i => if i = 31 then byt y 31 + 128 * (x % 2) else byt y i
theorem P_255 : fP < 2 ^ 255 := by decide +kernel
theorem byt_31 {y : Nat} (h : y < fP) : byt y 31 < 128 := by
  have h1 := Nat.lt_trans h P_255
  unfold byt
  have h2 : y / 256 ^ 31 < 128 := (Nat.div_lt_iff_lt_mul (Nat.pow_pos (by omega))).2 (by rw [show (128 : Nat) = 2 ^ 7 from rfl, show (256 : Nat) = 2 ^ 8 from rfl, ← Nat.pow_mul, ← Nat.pow_add]; exact h1)
  omega
theorem dgt_byt (y i : Nat) : dgt y (i / 2) / 2 ^ (i % 2 * 8) % 256 = byt y i := by
  unfold dgt byt
  have h1 : y / 256 ^ i = y / 65536 ^ (i / 2) / 2 ^ (i % 2 * 8) := by
    rw [Nat.div_div_eq_div_mul, show (65536 : Nat) = 2 ^ 16 from rfl, ← Nat.pow_mul, ← Nat.pow_add, show (256 : Nat) = 2 ^ 8 from rfl, ← Nat.pow_mul]
    congr 2; omega
  rw [h1]
  generalize y / 65536 ^ (i / 2) = M
  rcases Nat.mod_two_eq_zero_or_one i with e | e
  · rw [e]; omega
  · rw [e]; omega
attribute [local go_sem ↓] load_fld load_feP load_num store_num load_fe store_fe load_pt store_pt load_b32 store_b32
attribute [local go_sem] isHead_mk blkOf_mk isAgg_mk cellsV_mk row_drew rowAt_drew row_new_cells row_old rowAt_new rowAt_old setRow_new zeroNum zeroPt zeroFe zero32
theorem ref_Packed (x y : Nat) (w : World) (hx : x < fP) (hy : y < fP) : Calls Tryd.prog 70 #[ptV x y] w fun e w' => e = .returned (.agg (arrK .u8 32 (pkF x y))) ∧ Below w.heap.size w w' := by
  have kX := Lib.hid (fun V => ref_Field x V (Nat.lt_trans hx P_lt))
  have kY := Lib.hid (fun V => ref_Field y V (Nat.lt_trans hy P_lt))
  rw [Nat.mod_eq_of_lt hx] at kX
  rw [Nat.mod_eq_of_lt hy] at kY
  have hb31 := Lib.hid (byt_31 hy)
  have hx0 : dgt x 0 % 2 = x % 2 := by unfold dgt; rw [Nat.pow_zero, Nat.div_one]; omega
  have hxx := Lib.hid hx0
  have hxl := Lib.hid (dgt_lt x 0)
  clear hx hy hx0
  unfold numV feV at kX kY
  unfold ptV
  obtain ⟨PF, hPF⟩ : ∃ f, pkF x y = f := ⟨_, rfl⟩
  rw [hPF]
  have hPf := Lib.hid hPF
  have hcp := arrK_cells .u8 32 PF
  clear hPF
  have hcz := arrK_cells .u8 32 fun _ => 0
  have hcf := arrK_cells .i64 16 fun _ => 0
  have hcy := arrK_cells .i64 16 (dgt y)
  have hL0 : Below w.heap.size w (((w.alloc (Obj.cells (arrK .u64 8 (cat2 (wd x) (wd y))) 133)).alloc (Obj.cells (arrK .u8 32 fun _ => 0) 57)).alloc (Obj.cells (arrK .u8 32 fun _ => 0) 57)) := by go_grown
  have hA0 : At (((w.alloc (Obj.cells (arrK .u64 8 (cat2 (wd x) (wd y))) 133)).alloc (Obj.cells (arrK .u8 32 fun _ => 0) 57)).alloc (Obj.cells (arrK .u8 32 fun _ => 0) 57)) w.heap.size .u64 8 (cat2 (wd x) (wd y)) := ((At.new _ rfl).old _).old _
  have hR0 : Row (((w.alloc (Obj.cells (arrK .u64 8 (cat2 (wd x) (wd y))) 133)).alloc (Obj.cells (arrK .u8 32 fun _ => 0) 57)).alloc (Obj.cells (arrK .u8 32 fun _ => 0) 57)) (w.heap.size + 1) 32 := ((At.new (k := .u8) (f := fun _ => 0) _ (by simp)).old _).row
  have hX0 : At (((w.alloc (Obj.cells (arrK .u64 8 (cat2 (wd x) (wd y))) 133)).alloc (Obj.cells (arrK .u8 32 fun _ => 0) 57)).alloc (Obj.cells (arrK .u8 32 fun _ => 0) 57)) (w.heap.size + 1 + 1) .u8 32 (bytK y 0) := (At.new (k := .u8) (f := fun _ => 0) _ (by simp)).congr fun i _ => by simp [bytK]
  have hA := Lib.hid hA0
  have hR := Lib.hid hR0
  have hX := Lib.hid hX0
  have hL := Lib.hid hL0
  clear hA0 hR0 hX0 hL0
  go_enter Tryd.func70, Tryd.ntmps70
  go_upto_region 2 with (fail)
  generalize ((w.alloc _).alloc _).alloc _ = W0 at *
  have hl := pt_1 hA.out
  have hl1 := hl.1
  have hl2 := hl.2
  clear hl
  go_wp2_with fail
  refine (kY.out _).mono ?_
  rintro e w1 ⟨rfl, hb⟩
  replace hA := Lib.hid (hA.out.step hb)
  replace hX := Lib.hid (hX.out.step hb)
  replace hR := Lib.hid (row_below hR.out hb hR.out.lt)
  replace hL := Lib.hid (below_step hb hL.out (Nat.le_refl _))
  clear hl1 hl2 hb kY
  dsimp only
  go_upto_region 4 with (fail)
  have hb := below_alloc w1 (Obj.cells (arrK .i64 16 (dgt y)) 135)
  have hY := Lib.hid (At.new (w := w1) (k := .i64) (m := 16) (f := dgt y) 135 rfl)
  have hgl := Lib.hid (show w.heap.size + 1 + 1 < w1.heap.size from hX.out.lt)
  replace hA := Lib.hid (hA.out.step hb)
  replace hX := Lib.hid (hX.out.step hb)
  replace hR := Lib.hid (row_below hR.out hb hR.out.lt)
  replace hL := Lib.hid (below_step hb hL.out (Nat.le_refl _))
  clear hb
  generalize w1.alloc _ = W1 at *
  generalize w1.heap.size = g4 at *
  go_loopw [9] (fun i wr => ∃ s : Nat, i = .int .i64 s ∧ s ≤ 32 ∧ At wr w.heap.size .u64 8 (cat2 (wd x) (wd y)) ∧ Row wr (w.heap.size + 1) 32 ∧ At wr (w.heap.size + 1 + 1) .u8 32 (bytK y s) ∧ At wr g4 .i64 16 (dgt y) ∧ Below w.heap.size w wr) (fun i _ => 32 - (intOf i).toNat)
  case atStart => exact ⟨0, rfl, by omega, hA.out, hR.out, hX.out, hY.out, hL.out⟩
  case round =>
    clear hA hR hX hY hL
    obtain ⟨s, rfl, hs, hA, hR, hX, hY, hL⟩ := hrel
    by_cases h32 : s = 32
    · subst h32
      have hX2 := hX.congr (f' := byt y) fun i hi => by simp [bytK, hi]
      have hl := pt_0 hA
      have hl1 := hl.1
      have hl2 := hl.2
      clear hl hX
      go_wp2_with fail
      refine (kX.out _).mono ?_
      rintro e w2 ⟨rfl, hb⟩
      have hX3 := Lib.hid (hX2.step hb)
      have hR3 := Lib.hid (row_below hR hb hR.lt)
      have hL3 := Lib.hid (below_step hb hL (Nat.le_refl _))
      clear hl1 hl2 hb kX hX2 hR hL hA hY
      dsimp only
      have hix : ∀ W, (Instr.index 135 (.agg (arrK .i64 16 (dgt x))) (.int .i64 0)).run Tryd.prog W = .ok (.int .i64 (dgt x 0 : Nat)) W := fun W => index_arrK (P := Tryd.prog) (f := dgt x) (j := 0) (n := 16) Tryd.underlying135 Tryd.underlying3 (by kernel_rfl) (by omega) .i64 W
      have hrm : Int.tmod (dgt x 0 : Int) 2 = ((x % 2 : Nat) : Int) := by rw [Int.tmod_eq_emod_of_nonneg (by omega), ← hxx.out]; omega
      rcases Nat.mod_two_eq_zero_or_one x with he | ho
      · rw [he] at hrm
        have hrm2 : Int.tmod (dgt x 0 : Int) 2 = 0 := hrm
        have hX4 := hX3.out.congr (f' := PF) fun i _ => by
          rw [← hPf.out]; unfold pkF; rw [he]; split
          · rename_i h; rw [h]; omega
          · rfl
        have hr1 := hX4.row
        have hr2 := hX4.eq
        have hr3 := hR3.out
        clear hX4 hX3 hrm
        go_wp2_with fail
        exact ret_stored (p := 2) (ty := 57) (g := w.heap.size + 1) (n := 32) (c := arrK .u8 32 PF) rfl Tryd.underlying57 rfl (by kernel_rfl) rfl hR3.out hcp.1 rfl ⟨rfl, below_setRow hL3.out (by omega)⟩
      · rw [ho] at hrm
        have hrm2 : Int.tmod (dgt x 0 : Int) 2 = 1 := hrm
        have hcx := hX3.out.cell (i := 31) (by omega)
        have hfx := hX3.out.row.frozen 31
        have hw8 : IntKind.u8.wrap ((byt y 31 : Int) + 128) = (byt y 31 : Int) + 128 := by rw [IntKind.wrap_u8]; have := hb31.out; omega
        have hX4 := Lib.hid ((hX3.out.set 31 (byt y 31 + 128)).congr (f' := PF) fun i _ => by
          rw [← hPf.out]; unfold pkF upd; rw [ho])
        have hR4 := Lib.hid (row_setCell (w := w2) (a := ⟨w.heap.size + 1 + 1, 31, none⟩) (v := .int .u8 ((byt y 31 + 128 : Nat) : Int)) |>.2 hR3.out)
        have hL4 := Lib.hid (hL3.out.setCell (p := ⟨w.heap.size + 1 + 1, 31, none⟩) (by simp <;> omega) (.int .u8 ((byt y 31 + 128 : Nat) : Int)))
        rw [show ((byt y 31 + 128 : Nat) : Int) = (byt y 31 : Int) + 128 by push_cast; rfl] at hX4 hR4 hL4
        clear hX3 hrm hR3 hL3
        go_upto_region 10 with (fail)
        generalize w2.setCell _ _ = W5 at *
        have hr1 := hX4.out.row
        have hr2 := hX4.out.eq
        have hr3 := hR4.out
        go_wp2_with fail
        exact ret_stored (p := 2) (ty := 57) (g := w.heap.size + 1) (n := 32) (c := arrK .u8 32 PF) rfl Tryd.underlying57 rfl (by kernel_rfl) rfl hR4.out hcp.1 rfl ⟨rfl, below_setRow hL4.out (by omega)⟩
    · obtain ⟨q, hq⟩ : ∃ q, q = s / 2 := ⟨_, rfl⟩
      obtain ⟨r, hr'⟩ : ∃ r, r = s % 2 := ⟨_, rfl⟩
      have hqi : Int.tdiv (s : Int) 2 = ((q : Nat) : Int) := by rw [Int.tdiv_eq_ediv_of_nonneg (by omega)]; omega
      have hri : Int.tmod (s : Int) 2 = ((r : Nat) : Int) := by rw [Int.tmod_eq_emod_of_nonneg (by omega)]; omega
      have hbw := dgt_byt y s
      rw [← hq, ← hr'] at hbw
      have hq16 : q < 16 := by omega
      have hr2 : r < 2 := by omega
      have hc := hY.cell hq16
      have hf := hX.row.frozen s
      have hst := Lib.hid (bytK_step y s)
      have hd : decide ((s : Int) < 32) = true := by simp; omega
      have hdl := dgt_lt y q
      have hcx := hX.cell (i := s) (by omega)
      have hHb := Lib.hid hbw
      clear hq hr' hbw
      go_wp2_with fail
      rw [show ((dgt y q : Nat) : Int) / 2 ^ (r * 8) % 256 = ((dgt y q / 2 ^ (r * 8) % 256 : Nat) : Int) by simp, hHb.out]
      refine ⟨⟨s + 1, by go_num, by omega, hA.farC (by simp <;> omega), row_setCell.2 hR, (hX.set s (byt y s)).congr fun i _ => hst.out i, hY.farC (by have := hgl.out; simp; omega), hL.setCell (by simp <;> omega) _⟩, ?_⟩
      simp [intOf]; omega
end Go.Proofs.YtgdiokklfihfoaaDoor
