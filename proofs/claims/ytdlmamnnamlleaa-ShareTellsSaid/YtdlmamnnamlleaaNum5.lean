/- Contracts of the document's numbers, the fifth part: Parts, Rest, Common. -/
import Derived.Test.YtdlmamnnamlleaaNum4
import Derived.Laws.OwnMore
namespace Go.Proofs.Ytdlmamnnamlleaa
open Go.ChangeShapes Go.WideShapes Go.ChangeAt Go.RowKit
set_option maxHeartbeats 1000000
set_option maxRecDepth 100000

/-- A literal of one element is the call's own. -/
theorem Own.lit {w0 W : World} {B : Nat} (e : TypeId) (u : Value) (hb : Below B w0 W) (hB : B ≤ W.heap.size) : Own w0 B e (.slice (some ⟨W.heap.size, 0, none⟩) 1 1) [u] (W.alloc (.cells #[u] e)) :=
  ⟨World.ownsRow_lit W #[u] 1 hB (by unfold maxLen; omega) rfl, hb.alloc hB _, by simp; omega⟩
/-- What Parts has ahead of digit i - 1. -/
def ptQ (a m i : Nat) : Nat := a / 65536 ^ i / m * 65536 ^ i
def ptR (a m i : Nat) : Nat := a / 65536 ^ i % m
theorem pt_up {l : List Nat} (h : Sm l) (i : Nat) : val l / 65536 ^ i = l[i]?.getD 0 + 65536 * (val l / 65536 ^ (i + 1)) := by
  rw [val_at h, Nat.pow_succ, ← Nat.div_div_eq_div_mul, Nat.mod_add_div]
theorem pt_round {a m i d : Nat} (hm : 0 < m) (h : a / 65536 ^ i = d + 65536 * (a / 65536 ^ (i + 1))) :
    ptR a m i = (d + 65536 * ptR a m (i + 1)) % m ∧ ptQ a m i = ptQ a m (i + 1) + 65536 ^ i * ((d + 65536 * ptR a m (i + 1)) / m) := by
  unfold ptR ptQ
  rw [h]
  generalize a / 65536 ^ (i + 1) = A
  have hA := Nat.mod_add_div A m
  have e : d + 65536 * A = (d + 65536 * (A % m)) + m * (65536 * (A / m)) := by
    conv => lhs; rw [← hA]
    rw [Nat.mul_add, Nat.mul_left_comm 65536 m]; omega
  rw [e, Nat.add_mul_mod_self_left, Nat.add_mul_div_left _ _ hm]
  refine ⟨rfl, ?_⟩
  rw [Nat.add_mul, Nat.pow_succ, Nat.add_comm, Nat.mul_comm ((d + 65536 * (A % m)) / m)]
  congr 1
  rw [Nat.mul_comm 65536 (A / m), Nat.mul_assoc, Nat.mul_comm 65536]
theorem pt_start {l : List Nat} (h : Sm l) (m : Nat) : ptR (val l) m l.length = 0 ∧ ptQ (val l) m l.length = 0 := by
  have : val l / 65536 ^ l.length = 0 := Nat.div_eq_of_lt (val_lt h)
  unfold ptR ptQ
  rw [this]; simp
theorem pt_end (a m : Nat) : ptR a m 0 = a % m ∧ ptQ a m 0 = a / m := by simp [ptR, ptQ]
theorem pt_lt {a m i : Nat} (hm : 0 < m) : ptR a m i < m := Nat.mod_lt _ hm

def RetQR (q r : Nat) (w : World) (e : Ending) (w' : World) : Prop := ∃ u v, e = .returned (.tuple #[u, v]) ∧ IsN w' u q ∧ IsN w' v r ∧ Below w.heap.size w w'

theorem own_digs {w0 W : World} {B : Nat} {e : TypeId} {v : Value} {l : List Nat} (h : Own w0 B e v (digV l) W) (hs : Sm l) : ∃ A c, v = .slice A l.length c ∧ Ds W A l c ∧ Own w0 B e (.slice A l.length c) (digV l) W := by
  obtain ⟨A, c, e1, -, -⟩ := h.form
  rw [digV_len] at e1
  subst e1
  exact ⟨A, c, rfl, (ds_own h hs).2, h⟩
theorem lt_len {l : List Nat} {n : Nat} (h : Dg l n) (hn : n < big) : l.length ≤ 10000 := by
  have := h.len hn
  unfold bigK at this
  exact this
theorem order_le {a b : Nat} (h : a ≤ b) : order a b ≤ 0 := by
  by_cases e : a < b
  · rw [show order a b = -1 from if_pos e]; omega
  · unfold order; rw [if_neg e, if_neg (by omega)]; omega
theorem order_nle {a b : Nat} (h : ¬ a ≤ b) : ¬ order a b ≤ 0 := by unfold order; rw [if_neg (by omega), if_pos (by omega)]; omega

theorem ref_Parts (A : Option Addr) (l : List Nat) (c : Nat) {v : Value} {m : Nat} (w : World) (ha : Ds w A l c) (hl : l.length ≤ 500000) (hv : IsV w v m) (hm : 0 < m) (hmb : 65536 * m < big) :
    Calls Try.prog 121 #[.slice A l.length c, v] w (RetQR (val l / m) (val l % m) w) := by
  have hmk := run_make_dig l.length (by omega)
  have hR := DRow.new w (List.replicate l.length 0) 3
  have hL : Below w.heap.size w (w.alloc (.cells (digA (List.replicate l.length 0)) 3)) := by go_grown
  obtain ⟨n, hn⟩ : ∃ n, n = l.length := ⟨_, rfl⟩
  go_enter Try.func121, Try.ntmps121
  go_wp2
  generalize w.alloc (.cells (digA (List.replicate l.length 0)) 3) = W0 at *
  go_loopw [7, 8] (fun r i wr => ∃ (s : Nat) (L : List Nat), i = .int .i64 ((s : Int) - 1) ∧ s ≤ l.length ∧ L.length ≤ l.length ∧ l.length ≤ L.length ∧ DRow wr w.heap.size L ∧ IsNF wr (w.heap.size + 1) r (ptR (val l) m s) ∧ Below w.heap.size w wr ∧
    Hid (Sm L ∧ val L = ptQ (val l) m s ∧ ∀ j, j < s → L[j]?.getD 0 = 0)) (fun _ i _ => (intOf i + 1).toNat)
  case atStart =>
    refine ⟨l.length, _, rfl, Nat.le_refl _, by simp, by simp, hR, ?_, hL, sm_zeros _, by rw [val_zeros, (pt_start ha.sm m).2], fun j _ => by simp [List.getElem?_replicate]; split <;> rfl⟩
    rw [(pt_start ha.sm m).1]
    exact ⟨none, [], 0, rfl, ⟨Rd.nil, Sm.nil, by simp, by omega⟩, Dg.nil, fun ad h => by cases h⟩
  case round =>
    clear hR hL hmk
    obtain ⟨s, L, rfl, hs, hL1, hL2, hR, hN, hL, hH⟩ := hrel
    rcases Nat.eq_zero_or_pos s with rfl | hs0
    · rw [(pt_end (val l) m).1] at hN
      have hvL := hH.out.2.1
      rw [(pt_end (val l) m).2] at hvL
      have hHvL := Lib.hid hvL
      have hDs := hR.ds hH.out.1 (by omega)
      have hlen := Lib.hid (show L.length = l.length by omega)
      have hcon := Lib.hid (ref_trim _ L _ wr hDs)
      rw [hlen.out] at hcon
      rw [hlen.out] at hDs
      have hHDs := Lib.hid hDs
      clear hvL hDs
      go_wp2_with (go_at_call 119; refine hcon.out.mono ?_; rintro e w' ⟨q, hq, rfl, hg, rfl⟩)
      go_ret2
      exact ⟨_, _, rfl, hHvL.out ▸ isN_trim hHDs.out hq hg, hN.toN, hL⟩
    · obtain ⟨i, rfl⟩ : ∃ i, s = i + 1 := ⟨s - 1, by omega⟩
      rw [show (((i + 1 : Nat) : Int) - 1) = (i : Int) by omega]
      have hlt : i < l.length := by omega
      obtain ⟨ad, rfl, hbl, hc⟩ := digV_at (ha.below hL (Nat.le_refl _)).rd hlt
      have hpr := Lib.hid (pt_round (m := m) hm (pt_up ha.sm i))
      rw [List.getElem?_eq_getElem hlt, Option.getD_some] at hpr
      have hrm := pt_lt (a := val l) (i := i + 1) hm
      have hd := ha.sm l[i] (List.getElem_mem _)
      generalize l[i] = d at *
      generalize hr : ptR (val l) m (i + 1) = r at *
      have hHr := Lib.hid hr
      clear hr
      obtain ⟨A2, k, c2, rfl, hD, hG, hB⟩ := hN
      have hkb : k.length ≤ 10000 := lt_len hG (by omega)
      have hO := Own.lit (w0 := wr) (W := wr) (e := 3) (u := .int .i64 (d : Int)) (Below.refl _ _) (Nat.le_refl _)
      obtain ⟨L1, hL1e⟩ : ∃ L1, L1 = d :: k := ⟨_, rfl⟩
      have hs1 : Sm L1 := by rw [hL1e]; exact fun x hx => by rcases List.mem_cons.1 hx with h | h; exact h ▸ hd; exact hD.sm x h
      have hv1 : val L1 = d + 65536 * r := by rw [hL1e, ← hG.val]; rfl
      have hdg : [Value.int IntKind.i64 (d : Int)] ++ digV k = digV L1 := by rw [hL1e]; rfl
      have hrd := (hD.below (below_alloc wr (Obj.cells #[Value.int IntKind.i64 (d : Int)] 3)) (Nat.le_refl _)).rd
      have hHdg := Lib.hid hdg
      have hHv1 := Lib.hid hv1
      clear hL1e hv1 hdg hG hD
      go_wp2_with (first
        | (at_builtin; refine wpList_own (o := ⟨some 28, _, _, _, _, _⟩) rfl (.tmp 26) (.tmp 27) 33 rfl SI rfl hO (news := digV k) (c := c2) (by rw [digV_len]; rfl) hrd (digV_one k) (by rw [digV_len]; unfold maxLen; simp; omega) (by rw [digV_len]; simp; omega) ?_; intro v1 w1 hO1 hg1 hat1; clear hg1 hat1; rw [hHdg.out] at hO1; obtain ⟨A1, c1, rfl, hD1, hO2⟩ := own_digs hO1 hs1; clear hO1)
        | (go_at_call 119; refine (ref_trim A1 L1 c1 _ hD1).mono ?_; rintro e w' ⟨q, hq, rfl, hg, rfl⟩; have hN1 := isNF_trim hO2 hs1 hq hg))
      have hgl := hR.row.lt
      have hbw := hO2.bel
      rw [hHv1.out] at hN1
      have hN1 := hN1.mono (show w.heap.size + 1 ≤ wr.heap.size by omega)
      generalize Value.slice A1 q c1 = r1 at *
      have hR1 := hR.below hbw hgl
      have hL1' := below_step hbw hL (Nat.le_refl _)
      obtain ⟨R1, hR1e⟩ : ∃ R1, R1 = d + 65536 * r := ⟨_, rfl⟩
      rw [← hR1e] at hN1 hpr
      have hR1m : R1 < 65536 * m := by rw [hR1e]; have : 65536 * r + 65536 ≤ 65536 * m := by omega
                                       omega
      clear hR1e hO hO2 hD1 hg hq hrd hHdg hHv1 hR hL hbw hc hs1
      go_loopw [9, 10] (fun a b wr => ∃ lo hi : Nat, a = .int .i64 lo ∧ b = .int .i64 hi ∧ lo < hi ∧ hi ≤ 65536 ∧ DRow wr w.heap.size L ∧ IsNF wr (w.heap.size + 1) r1 R1 ∧ Below w.heap.size w wr ∧ Hid (m * lo ≤ R1 ∧ R1 < m * hi)) (fun a b _ => (intOf b).toNat - (intOf a).toNat)
      case atStart => exact ⟨0, 65536, rfl, rfl, by omega, by omega, hR1, hN1, hL1', Lib.hid ⟨by omega, by omega⟩⟩
      case round =>
        clear hR1 hN1 hL1'
        obtain ⟨lo, hi, rfl, rfl, hlh, hh, hR, hN, hL, hI⟩ := hrel
        have hRb : R1 < big := by omega
        by_cases hgo : lo + 1 < hi
        · obtain ⟨mid, hmid⟩ : ∃ mid, mid = (lo + hi) / 2 := ⟨_, rfl⟩
          have hmi : ((lo : Int) + hi) / 2 = mid := by omega
          have hm1 : lo < mid := by omega
          have hm2 : mid < hi := by omega
          have hgi : (1 : Int) < (hi : Int) - lo := by omega
          have hmb2 : m * mid < big := Nat.lt_of_le_of_lt (Nat.mul_le_mul_left m (show mid ≤ 65536 by omega)) (by rw [Nat.mul_comm]; exact hmb)
          have hnf := Lib.hid hN
          have hvw := Lib.hid (hv.step hL)
          clear hmid hgo
          by_cases hle : m * mid ≤ R1
          · obtain ⟨o, ho, ho2⟩ : ∃ o : Int, order (m * mid) R1 = o ∧ o ≤ 0 := ⟨_, rfl, order_le hle⟩
            have hHo := Lib.hid ho
            clear ho
            go_wp2_with (first
              | (go_at_call 68; refine (timesN (m := m) (n := mid) _ (hvw.out.step (below_alloc _ _)) (IsV.lit _ _ (by omega))).mono ?_; rintro e w' ⟨t, rfl, ht, hbt⟩; have hbt := (below_alloc _ _).trans (hbt.mono (by simp)))
              | (go_at_call 54; refine (orderN (m := m * mid) (n := R1) _ (ht.toV hmb2) ((hnf.out.step hbt).toN.toV hRb)).mono ?_; rintro e w' ⟨rfl, rfl⟩; rw [hHo.out]))
            go_roundw
            case rel => exact ⟨mid, hi, rfl, rfl, hm2, hh, hR.below hbt hR.row.lt, hN.step hbt, below_step hbt hL (Nat.le_refl _), Lib.hid ⟨hle, hI.out.2⟩⟩
            case measure => simp [intOf]; omega
          · obtain ⟨o, ho, ho2⟩ : ∃ o : Int, order (m * mid) R1 = o ∧ ¬ o ≤ 0 := ⟨_, rfl, order_nle hle⟩
            have hHo := Lib.hid ho
            clear ho
            go_wp2_with (first
              | (go_at_call 68; refine (timesN (m := m) (n := mid) _ (hvw.out.step (below_alloc _ _)) (IsV.lit _ _ (by omega))).mono ?_; rintro e w' ⟨t, rfl, ht, hbt⟩; have hbt := (below_alloc _ _).trans (hbt.mono (by simp)))
              | (go_at_call 54; refine (orderN (m := m * mid) (n := R1) _ (ht.toV hmb2) ((hnf.out.step hbt).toN.toV hRb)).mono ?_; rintro e w' ⟨rfl, rfl⟩; rw [hHo.out]))
            go_roundw
            case rel => exact ⟨lo, mid, rfl, rfl, hm1, by omega, hR.below hbt hR.row.lt, hN.step hbt, below_step hbt hL (Nat.le_refl _), Lib.hid ⟨hI.out.1, by omega⟩⟩
            case measure => simp [intOf]; omega
        · have hgi : ¬ (1 : Int) < (hi : Int) - lo := by omega
          have hq : R1 / m = lo := by
            have h1 := hI.out.1
            have h2 := hI.out.2
            rw [show hi = lo + 1 by omega] at h2
            exact Nat.div_eq_of_lt_le (by rw [Nat.mul_comm]; exact h1) (by rw [Nat.mul_comm]; exact h2)
          rw [hq] at hpr
          have hRm : R1 % m = R1 - m * lo := by
            have := Nat.mod_add_div R1 m
            rw [hq] at this; omega
          rw [hRm] at hpr
          have hlo : lo < 65536 := by omega
          have hle := hI.out.1
          have hmb2 : m * lo < big := by omega
          have hnf := Lib.hid hN
          have hvw := Lib.hid (hv.step hL)
          have hQ0 := hH.out.2.2 i (by omega)
          have hvs := val_set L i lo (by omega)
          rw [hQ0, Nat.mul_zero, Nat.add_zero, hH.out.2.1, ← hpr.out.2] at hvs
          have hfin : Hid (Sm (L.set i lo) ∧ val (L.set i lo) = ptQ (val l) m i ∧ ∀ j, j < i → (L.set i lo)[j]?.getD 0 = 0) :=
            Lib.hid ⟨hH.out.1.set _ hlo, hvs, fun j hj => by rw [List.getElem?_set_ne (by omega)]; exact hH.out.2.2 j (by omega)⟩
          have hsl1 : (L.set i lo).length ≤ l.length := by simp; omega
          have hsl2 : l.length ≤ (L.set i lo).length := by simp; omega
          have hpr1 := Lib.hid hpr.out.1
          clear hq hRm hQ0 hvs hpr hI
          have hget : DRow (wr.setCell ⟨w.heap.size, i, none⟩ (.int .i64 (lo : Int))) w.heap.size (L.set i lo) := hR.set i lo
          by_cases h0 : lo = 0
          · have h0' : ¬ (0 : Int) < lo := by omega
            have hRr : ptR (val l) m i = R1 := by rw [hpr1.out, h0]; simp
            have hHRr := Lib.hid hRr
            have c1 := hR.cell (i := i) (by omega)
            have f1 := hR.row.frozen i
            have hHg := Lib.hid hget
            clear h0 hRr hpr1 hget
            go_wp2
            go_roundw
            case rel => exact ⟨i, L.set i lo, rfl, by omega, hsl1, hsl2, hHg.out, hHRr.out ▸ hN.setCell (by simp) _, hL.setCell (Nat.le_refl _) _, hfin⟩
            case measure => simp [intOf]
          · have h0' : (0 : Int) < lo := by omega
            clear h0 hget
            go_wp2_with (first
              | (go_at_call 68; refine (timesN (m := m) (n := lo) _ (hvw.out.step (below_alloc _ _)) (IsV.lit _ _ hlo)).mono ?_; rintro e w' ⟨t, rfl, ht, hbt⟩; have hbt := (below_alloc _ _).trans (hbt.mono (by simp)))
              | (go_at_call 66; refine (minusN (m := R1) (n := m * lo) _ ((hnf.out.step hbt).toN.toV hRb) (ht.toV hmb2) hle).mono ?_; rintro e w2 ⟨r2, rfl, hN2, hb2⟩; have hb3 := below_step hb2 hbt (Nat.le_refl _); have hR3 := hR.below hb3 hR.row.lt; have c1 := hR3.cell (i := i) (by omega); have f1 := hR3.row.frozen i; have hL3 := below_step hb3 hL (Nat.le_refl _); have hN3 := hN2.mono (show w.heap.size + 1 ≤ w'.heap.size from Nat.le_trans hR.row.lt hbt.size)))
            go_roundw
            case rel => exact ⟨i, L.set i lo, rfl, by omega, hsl1, hsl2, hR3.set i lo, hpr1.out ▸ hN3.setCell (by simp) _, hL3.setCell (Nat.le_refl _) _, hfin⟩
            case measure => simp [intOf]
/-- In numbers alone. -/
theorem partsN {u v : Value} {a m k : Nat} (w : World) (hu : IsN w u a) (ha : a < 2 ^ k) (hk : k ≤ 160000) (hv : IsV w v m) (hm : 0 < m) (hmb : 65536 * m < big) :
    Calls Try.prog 121 #[u, v] w (RetQR (a / m) (a % m) w) := by
  obtain ⟨A, l, c, rfl, hD, hG⟩ := hu
  have hl := lt_len hG (lt_big ha hk)
  have h := ref_Parts A l c w hD (by omega) hv hm hmb
  rw [hG.val] at h
  exact h
theorem restN {u v : Value} {a m k : Nat} (w : World) (hu : IsN w u a) (ha : a < 2 ^ k) (hk : k ≤ 160000) (hv : IsV w v m) (hm : 0 < m) (hmb : 65536 * m < big) :
    Calls Try.prog 67 #[u, v] w (RetN (a % m) w) := by
  have hc := Lib.hid (partsN w hu ha hk hv hm hmb)
  obtain ⟨A, l, c, rfl, -⟩ := hu
  obtain ⟨B, l2, c2, rfl, -⟩ := hv
  go_enter Try.func67, Try.ntmps67
  go_wp2_with fail
  refine hc.out.mono ?_
  rintro e w' ⟨u, v, rfl, -, hN, hb⟩
  go_wp2
  go_ret
  exact ⟨v, rfl, hN, hb⟩
/-- The number that a slice's digits are. -/
def digOf (w : World) : Value → Nat
  | .slice (some ad) n _ => val ((List.range n).map fun j => (intOf ((w.cell? (ad.add j)).getD undef)).toNat)
  | _ => 0
theorem digOf_is {w : World} {v : Value} {n : Nat} (h : IsN w v n) : digOf w v = n := by
  obtain ⟨A, l, c, rfl, hD, hG⟩ := h
  cases A with
  | none =>
    have : l = [] := by
      cases l with
      | nil => rfl
      | cons d r => obtain ⟨ad, e, -⟩ := hD.rd 0 _ rfl; cases e
    subst this
    exact hG.val
  | some ad =>
    show val _ = n
    rw [← hG.val]
    congr 1
    apply List.ext_getElem (by simp)
    intro j h1 h2
    have := hD.rd.all (j := j) (u := .int .i64 (l[j] : Nat)) (by simp [digV, h2])
    simp [this, intOf]
end Go.Proofs.Ytdlmamnnamlleaa
