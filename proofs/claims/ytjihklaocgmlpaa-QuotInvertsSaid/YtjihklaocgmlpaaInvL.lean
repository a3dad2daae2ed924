/- QuotInverts: the law's function returns true. -/
import Derived.Test.YtjihklaocgmlpaaInv
import Derived.Test.YtjihklaocgmlpaaNum4
import Derived.Test.YtjihklaocgmlpaaNum5
namespace Go.Proofs.Ytjihklaocgmlpaa
open Go.ChangeShapes Go.WideShapes Go.ChangeAt Go.RowKit
set_option maxHeartbeats 2000000
set_option maxRecDepth 100000
attribute [local go_sem ↓] load_num store_num execl_num execs_num load_wide store_wide execl_wide execs_wide
attribute [local go_sem] isHead_mk blkOf_mk isAgg_mk cellsV_mk row_drew rowAt_drew row_new_cells row_old rowAt_new rowAt_old setRow_new
theorem mul_smallI {m : Nat} (h : m < 2 ^ 256) : 65536 * m < big := by
  have := mul_big (a := 65536) (b := m) (m := 17) (n := 256) (by omega) h (by omega)
  exact this
theorem mulN {a b k : Nat} (ha : a < 2 ^ k) (hb : b < 2 ^ k) : a * b < 2 ^ (k + k) := by rw [Nat.pow_add]; exact Nat.mul_lt_mul'' ha hb
theorem IsN.lit1 (w : World) (t : TypeId) : IsN (w.alloc (.cells #[.int .i64 ((1 : Nat) : Int)] t)) (.slice (some ⟨w.heap.size, 0, none⟩) 1 1) 1 :=
  ⟨some ⟨w.heap.size, 0, none⟩, [1], 1, rfl, ⟨Rd.of_blk (cs := #[.int .i64 ((1 : Nat) : Int)]) (push_new _ _) (by simp), Sm.one (by omega), by simp, by omega⟩, ⟨⟨Sm.one (by omega), val_one 1⟩, by simp⟩⟩
theorem orderI {a b : Nat} : order a b = 0 ↔ a = b := by
  unfold order
  split
  · constructor
    · intro h; cases h
    · omega
  · split
    · constructor
      · intro h; cases h
      · omega
    · constructor
      · omega
      · intro; rfl
theorem order_negI {a b : Nat} (h : a < b) : order a b < 0 := by unfold order; rw [if_pos h]; decide
theorem quotInverts_run (a m : Nat) (w : World) (ha : a < 2 ^ 256) (hm : m < 2 ^ 256) :
    Calls Try.prog 7 #[.agg (arrK .u64 4 (wd a)), .agg (arrK .u64 4 (wd m))] w fun e w' => e = .returned (.bool true) ∧ Below w.heap.size w w' := by
  have hL0 : Below w.heap.size w ((w.alloc (Obj.cells (arrK .u64 4 (wd a)) 24)).alloc (Obj.cells (arrK .u64 4 (wd m)) 24)) := by go_grown
  have A0 : NumAt ((w.alloc (Obj.cells (arrK .u64 4 (wd a)) 24)).alloc (Obj.cells (arrK .u64 4 (wd m)) 24)) w.heap.size a := (At.new _ rfl).old _
  have M0 : NumAt ((w.alloc (Obj.cells (arrK .u64 4 (wd a)) 24)).alloc (Obj.cells (arrK .u64 4 (wd m)) 24)) (w.heap.size + 1) m := At.new _ (by simp)
  have hInv := Lib.hid (fun V => quot_Inverse a m V ha hm)
  have hNm := Lib.hid (fun V => ref_OfNum m V hm)
  have hNa := Lib.hid (fun V => ref_OfNum a V ha)
  unfold numV at hInv hNm hNa
  have hRa := A0.row
  have hra := A0.eq
  have hRm := M0.row
  have hrm := M0.eq
  have hz4 := cells4
  go_enter Try.func7, Try.ntmps7
  go_wp2_with fail
  generalize (w.alloc (Obj.cells (arrK .u64 4 (wd a)) 24)).alloc (Obj.cells (arrK .u64 4 (wd m)) 24) = W0 at *
  refine (hInv.out _).mono ?_
  rintro e W1 ⟨x, c, rfl, hP, hx, hb1⟩
  have hHP := Lib.hid hP
  have hNx := Lib.hid (fun V => ref_OfNum x V hx)
  unfold numV at hNx
  have hcx := arrK_cells .u64 4 (wd x)
  have A1 := A0.step hb1
  have M1 := M0.step hb1
  have hL1 := below_step hb1 hL0 (Nat.le_refl _)
  have hRm := M1.row
  have hrm := M1.eq
  have hlm := M1.lt
  have hA1 := Lib.hid A1
  have hM1 := Lib.hid M1
  clear A0 M0 hL0 hb1 hRa hra hInv hP A1 M1
  go_wp2_with fail
  have hX1 : NumAt (W1.alloc (Obj.cells (arrK .u64 4 (wd x)) 24)) W1.heap.size x := At.new _ rfl
  have hA2 := (hA1.out.old (Obj.cells (arrK .u64 4 (wd x)) 24))
  have hM2 := (hM1.out.old (Obj.cells (arrK .u64 4 (wd x)) 24))
  have hL2 : Below w.heap.size w (W1.alloc (Obj.cells (arrK .u64 4 (wd x)) 24)) := below_step (below_alloc _ _) hL1 (Nat.le_refl _)
  generalize W1.alloc (Obj.cells (arrK .u64 4 (wd x)) 24) = V1 at *
  generalize hg : W1.heap.size = g at *
  refine (hNm.out _).mono ?_
  rintro e W2 ⟨u, rfl, hu, hb2⟩
  have A := hA2.step hb2
  have M := hM2.step hb2
  have X := hX1.step hb2
  have hL3 := below_step hb2 hL2 (Nat.le_refl _)
  clear hA2 hM2 hX1 hL2 hb2 hL1 hA1 hM1 hRm hrm hlm hNm hg
  have hRa := A.row
  have hra := A.eq
  have hRm := M.row
  have hrm := M.eq
  have hRx := X.row
  have hrx := X.eq
  obtain ⟨uA, k, uc, rfl, hk1, hk2, hk3⟩ := hu.form
  have hk3' := Lib.hid hk3
  have hbig : m < big := lt_big hm (by omega)
  rcases hHP.out with ⟨rfl, rfl, rfl⟩ | ⟨hm0, hg1, rfl, rfl⟩ | ⟨hm0, hg1, rfl, hxm, hmul⟩
  · have hk0 : k = 0 := hk3.2 rfl
    subst hk0
    have heq := fun V => eqlNum hx hm V
    clear hu hHP hNa hNx hz4 hk3
    go_wp2_with fail
    go_ret
    exact ⟨rfl, hL3⟩
  · have hk0 : ¬ (k : Int) = 0 := by omega
    have heq := fun V => eqlNum hx (show 0 < 2 ^ 256 by omega) V
    have hHu := Lib.hid hu
    have hord : (order (Nat.gcd a m) 1 == 0) = false := by rw [beq_eq_false_iff_ne]; exact fun e => hg1 (orderI.1 e)
    obtain ⟨G, hG⟩ : ∃ G, G = Nat.gcd a m := ⟨_, rfl⟩
    obtain ⟨O, hO⟩ : ∃ O, O = order G 1 := ⟨_, rfl⟩
    have hGl : G < big := by
      rw [hG]; exact Nat.lt_of_le_of_lt (Nat.le_of_dvd (by omega) (Nat.gcd_dvd_right a m)) hbig
    rw [← hG, ← hO] at hord
    have hHG := Lib.hid hG
    have hHO := Lib.hid hO
    clear hu hHP hNx hk3 hg1 hG hO
    go_wp2_with fail
    refine (hNa.out _).mono ?_
    rintro e W3 ⟨v, rfl, hv, hb3⟩
    have hu3 := hHu.out.step hb3
    have A3 := A.step hb3
    have M3 := M.step hb3
    have X3 := X.step hb3
    have hL4 := below_step hb3 hL3 (Nat.le_refl _)
    have hHv := Lib.hid hv
    have hHu3 := Lib.hid hu3
    clear A M X hL3 hb3 hu3 hv hHu hRa hra hRm hrm hRx hrx hNa
    go_wp2_with fail
    refine (commonN W3 hHv.out hHu3.out ha hm (by omega)).mono ?_
    rintro e W4 ⟨x4, rfl, hx4, hb4⟩
    rw [← hHG.out] at hx4
    have X4 := X3.step hb4
    have hL5 := below_step hb4 hL4 (Nat.le_refl _)
    have hHx4 := Lib.hid (hx4.toV hGl)
    clear A3 M3 X3 hL4 hb4 hx4 hHu3 hHv
    go_wp2_with fail
    refine (orderN _ (hHx4.out.alloc _) (IsV.lit _ _ (d := 1) (by omega))).mono ?_
    rintro e W5 ⟨rfl, rfl⟩
    rw [← hHO.out]
    have X5 := X4.old (Obj.cells #[Value.int IntKind.i64 ((1 : Nat) : Int)] 3)
    have hL6 := below_step (below_alloc _ (Obj.cells #[Value.int IntKind.i64 ((1 : Nat) : Int)] 3)) hL5 (Nat.le_refl _)
    generalize W4.alloc (Obj.cells #[Value.int IntKind.i64 ((1 : Nat) : Int)] 3) = W5 at *
    have hRx := X5.row
    have hrx := X5.eq
    have heq2 := fun V => (congrArg (fun z => Sem.run Try.prog (binOp .eql 24 (.agg (arrK .u64 4 (wd 0))) (.agg z)) V) zeroNum).trans (heq V)
    clear X4 X5 hL5 hHx4 hHO
    go_wp2_with fail
    go_ret
    exact ⟨rfl, hL6⟩
  · have hk0 : ¬ (k : Int) = 0 := by omega
    have hHu := Lib.hid hu
    obtain ⟨O, hO⟩ : ∃ O, O = order 1 1 := ⟨_, rfl⟩
    have hord : (O == 0) = true := by rw [hO]; decide
    have hHO := Lib.hid hO
    have hHg := Lib.hid hg1
    have hHm := Lib.hid hmul
    have hxb : x < big := lt_big hx (by omega)
    have hab : a < big := lt_big ha (by omega)
    clear hu hHP hk3 hg1 hO hmul
    go_wp2_with fail
    refine (hNa.out _).mono ?_
    rintro e W3 ⟨v, rfl, hv, hb3⟩
    have hu3 := hHu.out.step hb3
    have A3 := A.step hb3
    have X3 := X.step hb3
    have hL4 := below_step hb3 hL3 (Nat.le_refl _)
    have hHv := Lib.hid hv
    have hHu3 := Lib.hid hu3
    clear A M X hL3 hb3 hu3 hv hHu hRa hra hRm hrm hRx hrx
    go_wp2_with fail
    refine (commonN W3 hHv.out hHu3.out ha hm (by omega)).mono ?_
    rintro e W4 ⟨x4, rfl, hx4, hb4⟩
    rw [hHg.out] at hx4
    have A4 := A3.step hb4
    have X4 := X3.step hb4
    have hu4 := hHu3.out.step hb4
    have hL5 := below_step hb4 hL4 (Nat.le_refl _)
    have hHx4 := Lib.hid (hx4.toV (lt_big (k := 1) (by omega) (by omega)))
    clear A3 X3 hL4 hb4 hx4 hHu3 hHv
    have hHu4 := Lib.hid hu4
    clear hu4
    go_wp2_with fail
    refine (orderN _ (hHx4.out.alloc _) (IsV.lit _ _ (d := 1) (by omega))).mono ?_
    rintro e W5 ⟨rfl, rfl⟩
    rw [← hHO.out]
    have X5 := X4.old (Obj.cells #[Value.int IntKind.i64 ((1 : Nat) : Int)] 3)
    have A5 := A4.old (Obj.cells #[Value.int IntKind.i64 ((1 : Nat) : Int)] 3)
    have hu5 := hHu4.out.alloc (Obj.cells #[Value.int IntKind.i64 ((1 : Nat) : Int)] 3)
    have hL6 := below_step (below_alloc _ (Obj.cells #[Value.int IntKind.i64 ((1 : Nat) : Int)] 3)) hL5 (Nat.le_refl _)
    generalize W4.alloc (Obj.cells #[Value.int IntKind.i64 ((1 : Nat) : Int)] 3) = W5 at *
    have hRx := X5.row
    have hrx := X5.eq
    have hHu5 := Lib.hid hu5
    clear X4 A4 hL5 hHx4 hHO hu5
    go_wp2_with fail
    refine (hNx.out _).mono ?_
    rintro e W6 ⟨y, rfl, hy, hb6⟩
    have A6 := A5.step hb6
    have hu6 := hHu5.out.step hb6
    have hL7 := below_step hb6 hL6 (Nat.le_refl _)
    have hHy := Lib.hid hy
    have hHu6 := Lib.hid hu6
    clear A5 X5 hRx hrx hL6 hb6 hHu5 hy hu6
    go_wp2_with fail
    refine (orderN W6 (hHy.out.toV hxb) (hHu6.out.toV hbig)).mono ?_
    rintro e W7 ⟨rfl, rfl⟩
    obtain ⟨O2, hO2⟩ : ∃ O, O = order x m := ⟨_, rfl⟩
    have ho2 : O2 < 0 := by rw [hO2]; exact order_negI hxm
    rw [← hO2]
    have hHO2 := Lib.hid hO2
    clear hO2
    have hRa := A6.row
    have hra := A6.eq
    go_wp2_with fail
    refine (hNa.out _).mono ?_
    rintro e W8 ⟨v8, rfl, hv8, hb8⟩
    have hu8 := hHu6.out.step hb8
    have hy8 := hHy.out.step hb8
    have hL9 := below_step hb8 hL7 (Nat.le_refl _)
    have hHv8 := Lib.hid hv8
    have hHu8 := Lib.hid hu8
    have hHy8 := Lib.hid hy8
    clear A6 hRa hra hL7 hb8 hHu6 hHy hv8 hu8 hy8
    go_wp2_with fail
    refine (timesN W8 (hHv8.out.toV hab) (hHy8.out.toV hxb)).mono ?_
    rintro e W9 ⟨v9, rfl, hv9, hb9⟩
    have hu9 := hHu8.out.step hb9
    have hL10 := below_step hb9 hL9 (Nat.le_refl _)
    have hHv9 := Lib.hid hv9
    have hHu9 := Lib.hid hu9
    clear hL9 hb9 hHu8 hHy8 hHv8 hv9 hu9
    go_wp2_with fail
    refine (restN W9 hHv9.out (mulN ha hx) (by omega) (hHu9.out.toV hbig) (by omega) (mul_smallI hm)).mono ?_
    rintro e W10 ⟨v10, rfl, hv10, hb10⟩
    have hu10 := hHu9.out.step hb10
    have hL11 := below_step hb10 hL10 (Nat.le_refl _)
    have hHv10 := Lib.hid hv10
    have hHu10 := Lib.hid hu10
    clear hL10 hb10 hHu9 hHv9 hv10 hu10
    go_wp2_with fail
    refine (restN _ (IsN.lit1 W10 3) (k := 1) (by omega) (by omega) ((hHu10.out.toV hbig).alloc _) (by omega) (mul_smallI hm)).mono ?_
    rintro e W11 ⟨v11, rfl, hv11, hb11⟩
    have hv10 := (hHv10.out.alloc (Obj.cells #[Value.int IntKind.i64 ((1 : Nat) : Int)] 3)).step hb11
    have hL12 := below_step hb11 (below_step (below_alloc _ (Obj.cells #[Value.int IntKind.i64 ((1 : Nat) : Int)] 3)) hL11 (Nat.le_refl _)) (Nat.le_refl _)
    have hs1 : a * x % m < big := Nat.lt_trans (Nat.mod_lt _ (by omega)) hbig
    have hs2 : 1 % m < big := Nat.lt_trans (Nat.mod_lt _ (by omega)) hbig
    have hHv11 := Lib.hid (hv11.toV hs2)
    have hHv10b := Lib.hid (hv10.toV hs1)
    clear hL11 hb11 hHu10 hHv10 hv10 hv11
    go_wp2_with fail
    refine (orderN W11 hHv10b.out hHv11.out).mono ?_
    rintro e W12 ⟨rfl, rfl⟩
    rw [hHm.out, orderI.2 rfl]
    go_wp2_with fail
    go_ret
    exact ⟨rfl, hL12⟩
end Go.Proofs.Ytjihklaocgmlpaa
