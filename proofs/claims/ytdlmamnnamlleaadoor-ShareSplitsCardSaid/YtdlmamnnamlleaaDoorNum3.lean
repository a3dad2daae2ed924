/- Contracts of the document's numbers, the third part: Times, TwoTo, Bits. -/
import Derived.Test.YtdlmamnnamlleaaDoorNum
import Derived.RegionTactic
namespace Go.Proofs.YtdlmamnnamlleaaDoor
open Go.ChangeShapes Go.WideShapes Go.ChangeAt Go.RowKit
set_option maxHeartbeats 1000000
set_option maxRecDepth 100000

/-- Digits as an array of cells. -/
def digA (L : List Nat) : Array Value := (digV L).toArray
theorem digA_size (L : List Nat) : (digA L).size = L.length := by simp [digA, digV]
theorem digA_at {L : List Nat} {i : Nat} (hi : i < L.length) : (digA L)[i]? = some (.int .i64 (L[i] : Nat)) := by simp [digA, digV, hi]
theorem digA_set (L : List Nat) (i d : Nat) : (digA L).setIfInBounds i (.int .i64 (d : Int)) = digA (L.set i d) := by simp [digA, digV]
theorem digA_made (n : Nat) : madeCells #[Value.int .i64 0] n = digA (List.replicate n 0) := by
  apply Array.ext_getElem?
  intro i
  by_cases hi : i < n
  · simp [madeCells, digA, digV, hi, Nat.mod_one]
  · rw [Array.getElem?_eq_none (by rw [size_madeCells]; omega), Array.getElem?_eq_none (by rw [digA_size]; simp; omega)]
/-- A block that is a row of digits. -/
structure DRow (w : World) (g : Nat) (L : List Nat) : Prop where
  row : Row w g L.length
  eq : rowAt w g = digA L
theorem DRow.cell {w : World} {g : Nat} {L : List Nat} (h : DRow w g L) {i : Nat} (hi : i < L.length) : w.cell? ⟨g, i, none⟩ = some (.int .i64 (L[i] : Nat)) := by
  rw [h.row.cell, h.eq, digA_at hi]
theorem DRow.set {w : World} {g : Nat} {L : List Nat} (h : DRow w g L) (i d : Nat) : DRow (w.setCell ⟨g, i, none⟩ (.int .i64 (d : Int))) g (L.set i d) := by
  refine ⟨by rw [List.length_set]; exact row_setCell.2 h.row, ?_⟩
  rw [rowAt_setCell_same, h.eq, digA_set]
theorem DRow.drew {w : World} {g : Nat} {L : List Nat} (h : DRow w g L) : DRow w.drew g L := ⟨h.row, h.eq⟩
theorem DRow.new (w : World) (L : List Nat) (t : TypeId) : DRow (w.alloc (.cells (digA L) t)) w.heap.size L :=
  ⟨(row_new rfl).2 (digA_size L), rowAt_new rfl⟩
theorem DRow.below {w w' : World} {g B : Nat} {L : List Nat} (h : DRow w g L) (hb : Below B w w') (hg : g < B) : DRow w' g L := ⟨row_below h.row hb hg, (rowAt_below hb hg).trans h.eq⟩
theorem run_make_dig (n : Nat) (hn : n ≤ 1000000000) (w : World) : (Instr.makeSlice 89 (.int .i64 (n : Int)) (.int .i64 (n : Int))).run Tryd.prog w = .ok (.slice (some ⟨w.heap.size, 0, none⟩) n n) (w.alloc (.cells (digA (List.replicate n 0)) 3)) := by
  rw [← digA_made]
  exact run_make_row' (P := Tryd.prog) 89 3 (.int .i64 0) 8 Tryd.underlying89 (by kernel_rfl) rfl .i64 .i64 n (by omega) (by omega) w
theorem DRow.ds {w : World} {g : Nat} {L : List Nat} (h : DRow w g L) (hs : Sm L) (hm : L.length ≤ 9223372036854775807) : Ds w (some ⟨g, 0, none⟩) L L.length := by
  refine ⟨?_, hs, Nat.le_refl _, hm⟩
  obtain ⟨cs, t, hh, hl⟩ := h.row
  have e : cs = digA L := by have := h.eq; simpa [rowAt, hh] using this
  have := Rd.of_blk (B := w.heap.size) hh h.row.lt
  rw [e] at this; exact this

theorem val_set (L : List Nat) : ∀ (i d : Nat), i < L.length → val (L.set i d) + 65536 ^ i * (L[i]?.getD 0) = val L + 65536 ^ i * d := by
  induction L with
  | nil => intro i d h; simp at h
  | cons x L ih =>
    intro i d h
    cases i with
    | zero => simp [val]; omega
    | succ i =>
      have h1 := ih i d (by simpa using h)
      simp only [List.set_cons_succ, val, List.getElem?_cons_succ, Nat.pow_succ]
      have h2 : ∀ y, 65536 ^ i * 65536 * y = 65536 * (65536 ^ i * y) := fun y => by rw [Nat.mul_comm (65536 ^ i) 65536, Nat.mul_assoc]
      rw [h2, h2]
      omega
theorem val_zeros (n : Nat) : val (List.replicate n 0) = 0 := by
  induction n with
  | zero => rfl
  | succ n ih => rw [List.replicate_succ]; simp only [val]; omega
theorem sm_zeros (n : Nat) : Sm (List.replicate n 0) := fun d h => by have := (List.mem_replicate.1 h).2; omega

theorem pow_two_16 (n : Nat) : 65536 ^ (n / 16) * 2 ^ (n % 16) = 2 ^ n := by
  rw [show (65536 : Nat) = 2 ^ 16 from rfl, ← Nat.pow_mul, ← Nat.pow_add]; congr 1; omega
theorem val_take_succ' (l : List Nat) (i : Nat) : val (l.take (i + 1)) = val (l.take i) + 65536 ^ i * (l[i]?.getD 0) := by
  rcases Nat.lt_or_ge i l.length with h | h
  · rw [List.take_succ_eq_append_getElem h, val_snoc, List.getElem?_eq_getElem h, List.length_take, Nat.min_eq_left (by omega)]; rfl
  · rw [List.take_of_length_le h, List.take_of_length_le (by omega), List.getElem?_eq_none h]; simp
theorem twoTo_dg (n : Nat) : Dg ((List.replicate (n / 16 + 1) 0).set (n / 16) (2 ^ (n % 16))) (2 ^ n) := by
  have hlt : 2 ^ (n % 16) < 65536 := Nat.lt_of_lt_of_le (Nat.pow_lt_pow_right (by omega) (show n % 16 < 16 by omega)) (by decide)
  have hv := val_set (List.replicate (n / 16 + 1) 0) (n / 16) (2 ^ (n % 16)) (by simp)
  rw [val_zeros, pow_two_16] at hv
  have h0 : (List.replicate (n / 16 + 1) 0)[n / 16]?.getD 0 = 0 := by simp
  rw [h0] at hv
  refine ⟨⟨(sm_zeros _).set _ hlt, by omega⟩, ?_⟩
  rw [List.getLast?_eq_getElem?]
  simp

/-! Bits -/
def bitK (n s : Nat) : Nat → Nat := fun i => if i < s then n / 2 ^ i % 2 else 0
def BitsR (N n : Nat) (w : World) (e : Ending) (w' : World) : Prop := ∃ g, e = .returned (.slice (some ⟨g, 0, none⟩) n n) ∧ Row w' g n ∧ rowAt w' g = arrK .i64 n (fun i => N / 2 ^ i % 2) ∧ w.heap.size ≤ g ∧ Below w.heap.size w w'
theorem bit_step (N s : Nat) (p : Nat) : upd (bitK N s) s (N / 65536 ^ (s / 16) % 65536 / 2 ^ (s % 16) % 2) p = bitK N (s + 1) p := by
  have e : N / 65536 ^ (s / 16) % 65536 / 2 ^ (s % 16) % 2 = N / 2 ^ s % 2 := by
    have h1 : N / 2 ^ s = N / 65536 ^ (s / 16) / 2 ^ (s % 16) := by rw [Nat.div_div_eq_div_mul, pow_two_16]
    rw [h1]
    generalize N / 65536 ^ (s / 16) = M
    have h2 : 2 ^ (s % 16) * 2 ∣ 65536 := by
      rw [← Nat.pow_succ, show (65536 : Nat) = 2 ^ 16 from rfl]
      exact Nat.pow_dvd_pow 2 (by omega)
    rw [← Nat.mod_mul_right_div_self, ← Nat.mod_mul_right_div_self, Nat.mod_mod_of_dvd _ h2]
  unfold upd bitK
  by_cases h : p = s
  · subst h; rw [if_pos rfl, if_pos (by omega), e]
  · rw [if_neg h]
    by_cases h2 : p < s
    · rw [if_pos h2, if_pos (by omega)]
    · rw [if_neg h2, if_neg (by omega)]
theorem num_ofInt (a : Nat) (ha : a < 2 ^ 63) : (BitVec.ofInt 64 (a : Int)).toNat = a := by
  rw [BitVec.ofInt_natCast, BitVec.toNat_ofNat]; exact Nat.mod_eq_of_lt (by omega)
theorem num_and1 {a : Nat} (ha : a < 2 ^ 63) : bits .and .i64 (a : Int) 1 = ((a % 2 : Nat) : Int) := by
  have hx : a &&& 1 < 2 ^ 63 := Nat.and_lt_two_pow _ (by omega)
  show IntKind.i64.wrap ((BitVec.ofInt 64 (a : Int) &&& BitVec.ofInt 64 ((1 : Nat) : Int)).toNat : Int) = _
  rw [BitVec.toNat_and, num_ofInt a ha, num_ofInt 1 (by omega), IntKind.wrap_i64]
  rw [Nat.and_one_is_mod] at *
  omega

theorem ref_TwoTo (n : Nat) (w : World) (hn : n ≤ 1000000) :
    Calls Tryd.prog 41 #[.int .i64 n] w (RetN (2 ^ n) w) := by
  have hmk := run_make_dig (n / 16 + 1) (by omega)
  have hR := DRow.new w (List.replicate (n / 16 + 1) 0) 3
  have hL : ∀ L, Below w.heap.size w (w.alloc (.cells (digA L) 3)) := fun L => by go_grown
  obtain ⟨q, hq⟩ : ∃ q, q = n / 16 := ⟨_, rfl⟩
  obtain ⟨r, hr⟩ : ∃ r, r = n % 16 := ⟨_, rfl⟩
  have hqi : (n : Int) / 16 = q := by omega
  have hri : (n : Int) % 16 = r := by omega
  have hdg := twoTo_dg n
  rw [← hq, ← hr] at hdg
  rw [← hq] at hmk hR
  have hHdg := Lib.hid hdg
  have hr16 : r < 16 := by omega
  have hqn : q ≤ n := by omega
  have h2 : (2 : Int) ^ r < 65536 := by
    have : 2 ^ r < 2 ^ 16 := Nat.pow_lt_pow_right (by omega) hr16
    have h3 : ((2 ^ r : Nat) : Int) < 65536 := by omega
    simpa using h3
  have h2' : (0 : Int) < 2 ^ r := Int.pow_pos (by omega)
  have hc := hR.cell (i := q) (by simp)
  have hf := hR.row.frozen q
  rw [List.getElem_replicate] at hc
  have hq0 : (0 : Int) ≤ q := by omega
  have hq1 : (q : Int) < (q : Int) + 1 := by omega
  push_cast at hmk
  clear hq hr hdg
  go_enter Tryd.func41, Tryd.ntmps41
  go_wp2
  go_ret
  rw [show (2 : Int) ^ r = ((2 ^ r : Nat) : Int) by simp, digA_set]
  have hN := DRow.new w ((List.replicate (q + 1) 0).set q (2 ^ r)) 3
  have hl : ((List.replicate (q + 1) 0).set q (2 ^ r)).length = q + 1 := by simp
  have hDs := hN.ds hHdg.out.sm (by omega)
  rw [hl] at hDs
  exact ⟨.slice (some ⟨w.heap.size, 0, none⟩) (q + 1) (q + 1), rfl, ⟨some ⟨w.heap.size, 0, none⟩, _, q + 1, by rw [hl], hDs, hHdg.out⟩, hL _⟩

/-! Times -/
theorem times_step {L : List Nat} {P cy x V m : Nat} {i : Nat} (hi : i < L.length) (hP : P = 65536 ^ i) (hx : x = cy + (L[i]?.getD 0 + m)) (hv : val L + P * cy = V) :
    val (L.set i (x % 65536)) + P * 65536 * (x / 65536) = V + P * m := by
  have h1 := val_set L i (x % 65536) hi
  rw [← hP] at h1
  have h2 : P * (x % 65536) + P * 65536 * (x / 65536) = P * x := by rw [Nat.mul_assoc, ← Nat.mul_add, Nat.mod_add_div]
  have h3 : P * x = P * cy + P * (L[i]?.getD 0) + P * m := by rw [hx, Nat.mul_add, Nat.mul_add]; omega
  omega
theorem times_in {k : List Nat} {V i j a b : Nat} (hb : k[j]?.getD 0 = b) : V + 65536 ^ i * a * val (k.take j) + 65536 ^ (i + j) * (a * b) = V + 65536 ^ i * a * val (k.take (j + 1)) := by
  rw [val_take_succ', hb, Nat.pow_add, Nat.mul_add, Nat.add_assoc]
  congr 2
  simp only [Nat.mul_assoc]
  congr 1
  rw [← Nat.mul_assoc, Nat.mul_comm (65536 ^ j) a, Nat.mul_assoc]
theorem zeros_set {L : List Nat} {p q d n : Nat} (h : ∀ j, n ≤ j → L[j]?.getD 0 = 0) (hp : p < n) (hq : n ≤ q) : (L.set p d)[q]?.getD 0 = 0 := by
  rw [List.getElem?_set_ne (by omega)]; exact h q hq
theorem times_round {l k L' : List Nat} {i cy : Nat} (hi : i + k.length < L'.length) (hz : L'[i + k.length]?.getD 0 = 0) (hv : val L' + 65536 ^ (i + k.length) * cy = val (l.take i) * val k + 65536 ^ i * (l[i]?.getD 0) * val k) :
    val (L'.set (i + k.length) cy) = val (l.take (i + 1)) * val k := by
  have h1 := val_set L' (i + k.length) cy hi
  rw [hz] at h1
  rw [val_take_succ', Nat.add_mul]
  omega

theorem ref_Times (A : Option Addr) (l : List Nat) (c : Nat) (B : Option Addr) (k : List Nat) (d : Nat) (w : World) (ha : Ds w A l c) (hb : Ds w B k d) (hl : l.length ≤ 1000000) (hk : k.length ≤ 1000000) :
    Calls Tryd.prog 43 #[.slice A l.length c, .slice B k.length d] w (RetN (val l * val k) w) := by
  have hmk := run_make_dig (l.length + k.length) (by omega)
  push_cast at hmk
  have hR := DRow.new w (List.replicate (l.length + k.length) 0) 3
  have hL : Below w.heap.size w (w.alloc (.cells (digA (List.replicate (l.length + k.length) 0)) 3)) := by go_grown
  go_enter Tryd.func43, Tryd.ntmps43
  go_wp2
  generalize w.alloc (.cells (digA (List.replicate (l.length + k.length) 0)) 3) = W0 at *
  go_loopw [17] (fun i wr => ∃ (i' : Nat) (L : List Nat), i = .int .i64 i' ∧ i' ≤ l.length ∧ L.length ≤ l.length + k.length ∧ l.length + k.length ≤ L.length ∧ DRow wr w.heap.size L ∧ Below w.heap.size w wr ∧
    Hid (Sm L ∧ val L = val (l.take i') * val k ∧ ∀ j, i' + k.length ≤ j → L[j]?.getD 0 = 0)) (fun i _ => l.length - (intOf i).toNat)
  case atStart => exact ⟨0, _, rfl, by omega, by simp, by simp, hR, hL, sm_zeros _, by rw [val_zeros]; simp [val], fun j _ => by simp [List.getElem?_replicate]; split <;> rfl⟩
  case round =>
    obtain ⟨i, L, rfl, hi, hL1, hL2, hR, hL, hH⟩ := hrel
    by_cases hlt : i < l.length
    · go_wp2
      obtain ⟨wo, rfl⟩ : ∃ wo : World, wo = wr := ⟨_, rfl⟩
      go_loopw [7, 22] (fun y j wr => ∃ (j' cy : Nat) (L : List Nat), j = .int .i64 j' ∧ j' ≤ k.length ∧ y = .int .i64 cy ∧ cy < 65536 ∧ L.length ≤ l.length + k.length ∧ l.length + k.length ≤ L.length ∧ DRow wr w.heap.size L ∧ Below w.heap.size w wr ∧
        Hid (Sm L ∧ val L + 65536 ^ (i + j') * cy = val (l.take i) * val k + 65536 ^ i * (l[i]?.getD 0) * val (k.take j') ∧ ∀ q, i + k.length ≤ q → L[q]?.getD 0 = 0)) (fun _ j _ => k.length - (intOf j).toNat)
      case atStart => exact ⟨0, 0, L, rfl, by omega, rfl, by omega, hL1, hL2, hR, hL, hH.out.1, by rw [hH.out.2.1]; simp [val], hH.out.2.2⟩
      case round =>
        clear hH hR hL hL1 hL2 L
        obtain ⟨j, cy, L, rfl, hj, rfl, hcy, hL1, hL2, hR, hL, hH⟩ := hrel
        have hf : ∀ q, wr.frozen? ⟨w.heap.size, q, none⟩ = false := fun q => hR.row.frozen q
        by_cases hjk : j < k.length
        · obtain ⟨ad, rfl, hbl, hca⟩ := digV_at (ha.below hL (Nat.le_refl _)).rd hlt
          obtain ⟨bd, rfl, hbl2, hcb⟩ := digV_at (hb.below hL (Nat.le_refl _)).rd hjk
          have hcx := hR.cell (i := i + j) (by omega)
          have hfx := hf (i + j)
          have ha1 := ha.sm l[i] (List.getElem_mem _)
          have hb1 := hb.sm k[j] (List.getElem_mem _)
          have hx1 := hH.out.1 L[i + j] (List.getElem_mem _)
          obtain ⟨m, hm⟩ : ∃ m, m = l[i] * k[j] := ⟨_, rfl⟩
          have hm1 : m ≤ 65535 * 65535 := hm ▸ Nat.mul_le_mul (by omega) (by omega)
          have hmi : ((l[i] : Nat) : Int) * ((k[j] : Nat) : Int) = (m : Int) := by rw [hm]; simp
          have hst := times_step (i := i + j) (x := cy + (L[i + j] + m)) (m := m) (by omega) rfl (by rw [List.getElem?_eq_getElem (by omega)]; rfl) hH.out.2.1
          rw [show l[i]?.getD 0 = l[i] by rw [List.getElem?_eq_getElem hlt]; rfl, hm, times_in (by rw [List.getElem?_eq_getElem hjk]; rfl), ← hm] at hst
          have hst2 : Hid (Sm (L.set (i + j) ((cy + (L[i + j] + m)) % 65536)) ∧ val (L.set (i + j) ((cy + (L[i + j] + m)) % 65536)) + 65536 ^ (i + (j + 1)) * ((cy + (L[i + j] + m)) / 65536) = val (l.take i) * val k + 65536 ^ i * (l[i]?.getD 0) * val (k.take (j + 1)) ∧ ∀ q, i + k.length ≤ q → (L.set (i + j) ((cy + (L[i + j] + m)) % 65536))[q]?.getD 0 = 0) :=
            ⟨hH.out.1.set _ (Nat.mod_lt _ (by omega)), by rw [show i + (j + 1) = (i + j) + 1 by omega, Nat.pow_succ, hst, List.getElem?_eq_getElem hlt]; rfl, fun q hq => zeros_set hH.out.2.2 (by omega) hq⟩
          have hw1 : IntKind.i64.wrap ((i : Int) + j) = (i : Int) + j := by rw [IntKind.wrap_i64]; omega
          have hw2 : IntKind.i64.wrap (m : Int) = m := by rw [IntKind.wrap_i64]; omega
          have hs0 : (0 : Int) ≤ (i : Int) + j := by omega
          have hs1 : ((i : Int) + j).toNat = i + j := by omega
          have hs2 : (i : Int) + j < (l.length : Int) + k.length := by omega
          clear hst hm hf hH
          generalize L[i + j] = x at *
          generalize l[i] = a at *
          generalize k[j] = b at *
          have hw3 : IntKind.i64.wrap ((x : Int) + m) = (x : Int) + m := by rw [IntKind.wrap_i64]; omega
          have hw4 : IntKind.i64.wrap ((cy : Int) + ((x : Int) + m)) = (cy : Int) + ((x : Int) + m) := by rw [IntKind.wrap_i64]; omega
          have hR2 := hR.set (i + j) ((cy + (x + m)) % 65536)
          have hHR := Lib.hid hR2
          clear hR2
          go_wp2
          go_region
          go_wp2
          go_round
          case rel => exact ⟨j + 1, (cy + (x + m)) / 65536, L.set (i + j) ((cy + (x + m)) % 65536), by go_num, by omega, by go_num, by omega, by simp; omega, by simp; omega, hHR.out.drew, (hL.setCell (Nat.le_refl _) _).drew, hst2⟩
          case measure => simp [intOf]; omega
        · obtain rfl : j = k.length := by omega
          have hz0 := hH.out.2.2 (i + k.length) (by omega)
          have hcx := hR.cell (i := i + k.length) (by omega)
          have hz : L[i + k.length] = 0 := by rw [List.getElem?_eq_getElem (by omega)] at hz0; exact hz0
          rw [hz] at hcx
          have hfx := hf (i + k.length)
          clear hf hz hz0
          go_wp2
          go_round
          case rel =>
            refine ⟨i + 1, L.set (i + k.length) cy, by go_num, by omega, by simp; omega, by simp; omega, hR.set _ _, hL.setCell (Nat.le_refl _) _, hH.out.1.set _ hcy, ?_, fun q hq => ?_⟩
            · have h1 := hH.out.2.1
              rw [List.take_length] at h1
              exact times_round (by omega) (hH.out.2.2 _ (by omega)) h1
            · rw [List.getElem?_set_ne (by omega)]; exact hH.out.2.2 q (by omega)
          case measure => simp [intOf]; omega
    · obtain rfl : i = l.length := by omega
      have hn : L.length = l.length + k.length := by omega
      have hDs := hR.ds hH.out.1 (by omega)
      rw [hn] at hDs
      have hcon := ref_trim _ L _ wr hDs
      rw [hn] at hcon
      have hHcon := Lib.hid hcon
      clear hcon
      go_wp2_with fail
      refine hHcon.out.mono ?_
      rintro e w' ⟨q, hq, rfl, hg, rfl⟩
      go_wp2
      go_ret
      have hv := hH.out.2.1
      rw [List.take_length] at hv
      exact ⟨_, rfl, hv ▸ isN_trim hDs hq hg, hL⟩
end Go.Proofs.YtdlmamnnamlleaaDoor
