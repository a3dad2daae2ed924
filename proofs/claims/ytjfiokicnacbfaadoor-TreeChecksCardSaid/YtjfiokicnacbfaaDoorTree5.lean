/- Contract of the document's Check. -/
import Derived.Test.YtjfiokicnacbfaaDoorTree4
namespace Go.Proofs.YtjfiokicnacbfaaDoor
open Go.ChangeShapes Go.WideShapes Go.ChangeAt Go.RowKit
set_option maxHeartbeats 1000000
set_option maxRecDepth 100000
attribute [local irreducible] arrV dgA sha
attribute [local go_sem ↓] load_o32 store_o32 execl_o32 execs_o32 load_e32 execl_e32
attribute [local go_sem] isHead_mk isPart_mk offOf_mk blkOf_mk isAgg_mk cellsV_mk row_drew rowAt_drew row_new_cells row_old rowAt_new rowAt_old zeroD ldOk_drew ldC_drew

theorem Pt.cons {w : World} {A : Option Addr} {x : List UInt8} {P : List (List UInt8)} {c : Nat} (h : Pt w A (x :: P) c) : ∃ ad, A = some ad ∧ LdOk w 32 (.pointer (some ad)) ∧ ldC w 32 (.pointer (some ad)) = dgA x := by
  have hxl := h.all x (by simp)
  obtain ⟨ad, rfl, -, -⟩ := h.rd 0 (.int .u8 (bytesF x 0 : Int)) (by
    refine flat_at h.all (i := 0) (x := x) rfl 0 _ ?_
    simp [bytesV, bytesF, List.getElem?_eq_getElem (show 0 < x.length by omega)])
  have e : ad.add (0 * 32) = ad := by unfold Addr.add; simp
  have h1 := el_ok h.rd h.all (m := 0) (x := x) rfl
  have h2 := el_ld h.rd h.all (m := 0) (x := x) rfl
  rw [e] at h1 h2
  exact ⟨ad, rfl, h1, h2⟩
set_option maxHeartbeats 4000000 in
theorem ref_Check_yes (K : Nat → W32) (root : List UInt8) (n i : Nat) (B : Option Addr) (p : List UInt8) (cp : Nat) (A : Option Addr) (P : List (List UInt8)) (c : Nat) (w : World) (hT : Tabs K w) (hp : Bs w B p cp) (hP : Pt w A P c) (hr : root.length = 32) (h1 : 1 ≤ n) (hn : n ≤ 65536) (hi : i < n) (hpl : p.length ≤ 576460752303423488) :
    Calls Tryd.prog 18 #[.agg (dgA root), .int .i64 n, .int .i64 i, .slice B p.length cp, .slice A P.length c] w fun e w' => e = .returned (.bool (pathOk K root n i p P)) ∧ Below w.heap.size w w' := by
  have hcr := dgA_cells root
  have hcz := dgA_cells []
  have hL0 := below_alloc w (Obj.cells (dgA root) 31)
  have hR0 : Row (w.alloc (Obj.cells (dgA root) 31)) w.heap.size 32 := (row_new rfl).2 hcr.1
  have hr0 : rowAt (w.alloc (Obj.cells (dgA root) 31)) w.heap.size = dgA root := rowAt_new rfl
  have hT0 := Lib.hid (hT.step hL0)
  have hcv := (hp.step hL0).conv
  have d1 : decide ((n : Int) < 1) = false := by simp; omega
  have d2 : decide ((65536 : Int) < (n : Int)) = false := by simp; omega
  have d3 : decide ((i : Int) < 0) = false := by simp
  have d4 : decide ((n : Int) ≤ (i : Int)) = false := by simp; omega
  have hcl := dgA_cells (leafL K p)
  have hHT := Lib.hid hT
  have hHP := Lib.hid hP
  obtain ⟨res, hres⟩ : ∃ res, res = pathOk K root n i p P := ⟨_, rfl⟩
  rw [← hres]
  have hHres := Lib.hid hres
  clear hT hp hP hres
  go_enter Tryd.func18, Tryd.ntmps18
  go_wp2_with fail
  generalize (w.alloc (Obj.cells (dgA root) 31)) = W0 at *
  refine (ref_Leaf K p _ hT0.out hpl).mono ?_
  rintro e w1 ⟨rfl, hb1⟩
  have hL1 := below_step hb1 hL0 (Nat.le_refl _)
  have hR1 := row_below hR0 hb1 hR0.lt
  have hr1 := (rowAt_below hb1 hR0.lt).trans hr0
  have hlt := hR1.lt
  have hzz : Row (w1.alloc (Obj.cells (dgA []) 31)) w1.heap.size 32 := (row_new rfl).2 hcz.1
  have hst : (w1.alloc (Obj.cells (dgA []) 31)).setRow w1.heap.size (dgA (leafL K p)) = w1.alloc (Obj.cells (dgA (leafL K p)) 31) := setRow_new rfl
  have hzx : Row (w1.alloc (Obj.cells (dgA (leafL K p)) 31)) w1.heap.size 32 := (row_new rfl).2 hcl.1
  have hzr : rowAt (w1.alloc (Obj.cells (dgA (leafL K p)) 31)) w1.heap.size = dgA (leafL K p) := rowAt_new rfl
  have hRa : Row (w1.alloc (Obj.cells (dgA (leafL K p)) 31)) w.heap.size 32 := (row_old hlt).2 hR1
  have hra : rowAt (w1.alloc (Obj.cells (dgA (leafL K p)) 31)) w.heap.size = dgA root := (rowAt_old hlt).trans hr1
  have hLe : Below w.heap.size w (w1.alloc (Obj.cells (dgA (leafL K p)) 31)) := hL1.alloc hL1.size _
  clear hb1 hL0 hR0 hr0 hT0 hcv hR1 hr1 hL1
  go_wp2
  clear hst hzz d1 d2 d3 d4
  generalize (w1.alloc (Obj.cells (dgA (leafL K p)) 31)) = W1 at *
  generalize w1.heap.size = g at *
  have hll := leaf_len K p
  go_loopw [1, 2, 4] (fun vn vi vp wr => ∃ (nk ik : Nat) (dk : List UInt8) (Pk : List (List UInt8)) (Ak : Option Addr) (ck : Nat), vn = .int .i64 nk ∧ vi = .int .i64 ik ∧ vp = .slice Ak Pk.length ck ∧ 1 ≤ nk ∧ nk ≤ 65536 ∧ ik < nk ∧ dk.length = 32 ∧ Hid (floors (nodeL K) n n i (leafL K p) P = floors (nodeL K) nk nk ik dk Pk) ∧ Hid (Pt w Ak Pk ck) ∧
    Row wr g 32 ∧ rowAt wr g = dgA dk ∧ Row wr w.heap.size 32 ∧ rowAt wr w.heap.size = dgA root ∧ Below w.heap.size w wr) (fun vn _ _ _ => (intOf vn).toNat)
  case atStart => exact ⟨n, i, leafL K p, P, A, c, rfl, rfl, rfl, h1, hn, hi, hll, Lib.hid rfl, hHP, hzx, hzr, hRa, hra, hLe⟩
  case round =>
    clear hzx hzr hRa hra hLe h1 hn hi hcl hll
    obtain ⟨nk, ik, dk, Pk, Ak, ck, rfl, rfl, rfl, h1, hn, hi, hdl, hfl, hPk, hRg, hrg, hRa, hra, hL⟩ := hrel
    by_cases hone : nk = 1
    · subst hone
      have d1 : decide ((1 : Int) < ((1 : Nat) : Int)) = false := rfl
      have heq := eqlD hdl hr
      cases Pk with
      | nil =>
        have hfin := Lib.hid (show res = decide (dk = root) by rw [hHres.out]; unfold pathOk; rw [hfl.out, floors_one]; show decide (some dk = some root) = _; simp)
        go_wp2
        go_ret
        exact ⟨by rw [hfin.out]; rfl, hL⟩
      | cons x Pk =>
        have hfin := Lib.hid (show res = false by rw [hHres.out]; unfold pathOk; rw [hfl.out, floors_one]; rfl)
        have d2 : (((Pk.length : Int) + 1) == 0) = false := by simp; omega
        go_wp2
        go_ret
        exact ⟨by rw [hfin.out]; rfl, hL⟩
    · have d1 : decide ((1 : Int) < (nk : Int)) = true := by simp; omega
      have hx : bits .xor .i64 (ik : Int) 1 = (beside ik : Nat) := by
        have := i64_xor_nat ik 1 (by omega) (by omega)
        rw [xor_one] at this
        exact this
      have hsf := floors_step (node := nodeL K) (n := nk) (i := ik) (d := dk) (p := Pk) (by omega)
      have q1 : Int.tdiv (ik : Int) 2 = ((ik / 2 : Nat) : Int) := by rw [Int.tdiv_eq_ediv_of_nonneg (by omega)]; omega
      have q2 : Int.tdiv ((nk : Int) + 1) 2 = (((nk + 1) / 2 : Nat) : Int) := by rw [Int.tdiv_eq_ediv_of_nonneg (by omega)]; omega
      have q3 : IntKind.i64.wrap ((ik / 2 : Nat) : Int) = ((ik / 2 : Nat) : Int) := by rw [IntKind.wrap_i64]; omega
      have q4 : IntKind.i64.wrap (((nk + 1) / 2 : Nat) : Int) = (((nk + 1) / 2 : Nat) : Int) := by rw [IntKind.wrap_i64]; omega
      have z1 : (0 : Int) ≤ (ik : Int) := by omega
      have z2 : (ik : Int) ≤ 65536 := by omega
      have z3 : (0 : Int) ≤ (nk : Int) := by omega
      have z4 : (nk : Int) ≤ 65536 := by omega
      by_cases hb : beside ik < nk
      · have d2 : decide (((beside ik : Nat) : Int) < (nk : Int)) = true := by simp; exact hb
        rw [if_pos hb] at hsf
        cases Pk with
        | nil =>
          have hfin := Lib.hid (show res = false by rw [hHres.out]; unfold pathOk; rw [hfl.out, hsf]; rfl)
          clear hsf
          go_wp2
          go_ret
          exact ⟨by rw [hfin.out]; rfl, hL⟩
        | cons x Pk =>
          have d3 : (((Pk.length : Int) + 1) == 0) = false := by simp; omega
          have hxl := hPk.out.all x (by simp)
          obtain ⟨ad, rfl, -, -⟩ := hPk.out.cons
          obtain ⟨ad', e, hlk, hlc⟩ := (hPk.out.step hL).cons
          injection e with e
          subst e
          obtain ⟨A1, hs1, hs2⟩ := sl_from S32 (some ad) (Pk.length + 1) ck Pk.length 1 (by omega) (by omega) (by simp) hPk.out.le
          have hPn : Pt w A1 Pk (ck - 1) := by
            refine ⟨?_, fun y hy => hPk.out.all y (by simp [hy]), by have := hPk.out.le; simp at this; omega, by have := hPk.out.mx; omega⟩
            have := hs2 w w.heap.size (flat (x :: Pk)) (by rw [flat_len hPk.out.all]; simp; omega) hPk.out.rd
            have e : (flat (x :: Pk)).drop ((1 : Int).toNat * 32) = flat Pk := by
              show (bytesV x ++ flat Pk).drop 32 = _
              rw [List.drop_append_of_le_length (by rw [bytesV_length]; omega), List.drop_eq_nil_of_le (by rw [bytesV_length]; omega), List.nil_append]
            rwa [e] at this
          have hHPn := Lib.hid hPn
          have hTr := Lib.hid (hHT.out.step hL)
          clear hs2 hPn
          by_cases he : ik % 2 = 0
          · have d4 : (((ik : Int) % 2) == 0) = true := by rw [beq_iff_eq]; omega
            have hsf2 : floors (nodeL K) nk nk ik dk (x :: Pk) = floors (nodeL K) ((nk + 1) / 2) ((nk + 1) / 2) (ik / 2) (if ik % 2 = 0 then nodeL K dk x else nodeL K x dk) Pk := hsf
            rw [if_pos he] at hsf2
            have hfn := Lib.hid (hfl.out.trans hsf2)
            clear hsf2
            have hN := Lib.hid (fun V (h : Tabs K V) => ref_Node K dk x V h hdl hxl)
            have hcn := dgA_cells (nodeL K dk x)
            have hnl := node_len K dk x
            generalize nodeL K dk x = y at *
            clear hsf
            go_wp2
            go_region_law (first
              | (go_simp; go_at_call 33; (refine (hN.out _ (hTr.out.step (Below.refl _ _).drew)).mono ?_); rintro e w5 ⟨rfl, hb5⟩; have hRg5 := row_below (row_drew.2 hRg) hb5 hRg.lt))
            all_goals
              have hRa5 := row_below (row_drew.2 hRa) hb5 hRa.lt
              have hra5 := (rowAt_below hb5 hRa.lt).trans hra
              have hL5 := below_step hb5 hL.drew (Nat.le_refl _)
              clear hb5 hTr hN hlk hlc
              go_wp2
              go_round
              case rel => exact ⟨(nk + 1) / 2, ik / 2, y, Pk, A1, ck - 1, rfl, rfl, rfl, by omega, by omega, by omega, hnl, hfn, hHPn, (row_setRow_same rfl hRg5).2 hcn.1, rowAt_setRow_same hRg5, (row_setRow_far (by omega)).2 hRa5, (rowAt_setRow_far (by omega)).trans hra5, below_setRow hL5 (by omega)⟩
              case measure => simp [intOf]; omega
          · have d4 : (((ik : Int) % 2) == 0) = false := by rw [beq_eq_false_iff_ne]; omega
            have hsf2 : floors (nodeL K) nk nk ik dk (x :: Pk) = floors (nodeL K) ((nk + 1) / 2) ((nk + 1) / 2) (ik / 2) (if ik % 2 = 0 then nodeL K dk x else nodeL K x dk) Pk := hsf
            rw [if_neg he] at hsf2
            have hfn := Lib.hid (hfl.out.trans hsf2)
            clear hsf2
            have hN := Lib.hid (fun V (h : Tabs K V) => ref_Node K x dk V h hxl hdl)
            have hcn := dgA_cells (nodeL K x dk)
            have hnl := node_len K x dk
            generalize nodeL K x dk = y at *
            clear hsf
            go_wp2
            go_region_law (first
              | (go_simp; go_at_call 33; (refine (hN.out _ (hTr.out.step (Below.refl _ _).drew)).mono ?_); rintro e w5 ⟨rfl, hb5⟩; have hRg5 := row_below (row_drew.2 hRg) hb5 hRg.lt))
            all_goals
              have hRa5 := row_below (row_drew.2 hRa) hb5 hRa.lt
              have hra5 := (rowAt_below hb5 hRa.lt).trans hra
              have hL5 := below_step hb5 hL.drew (Nat.le_refl _)
              clear hb5 hTr hN hlk hlc
              go_wp2
              go_round
              case rel => exact ⟨(nk + 1) / 2, ik / 2, y, Pk, A1, ck - 1, rfl, rfl, rfl, by omega, by omega, by omega, hnl, hfn, hHPn, (row_setRow_same rfl hRg5).2 hcn.1, rowAt_setRow_same hRg5, (row_setRow_far (by omega)).2 hRa5, (rowAt_setRow_far (by omega)).trans hra5, below_setRow hL5 (by omega)⟩
              case measure => simp [intOf]; omega
      · have d2 : decide (((beside ik : Nat) : Int) < (nk : Int)) = false := by simp; omega
        rw [if_neg hb] at hsf
        have hfn := Lib.hid (hfl.out.trans hsf)
        clear hsf
        go_wp2
        go_round
        case rel => exact ⟨(nk + 1) / 2, ik / 2, dk, Pk, Ak, ck, rfl, rfl, rfl, by omega, by omega, by omega, hdl, hfn, hPk, hRg, hrg, hRa, hra, hL⟩
        case measure => simp [intOf]; omega
end Go.Proofs.YtjfiokicnacbfaaDoor
