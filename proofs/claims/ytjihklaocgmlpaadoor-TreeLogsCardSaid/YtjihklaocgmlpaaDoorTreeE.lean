/- Contract of slices.Equal of digests, where they are. -/
import Derived.Test.YtjihklaocgmlpaaDoorLf2
namespace Go.Proofs.YtjihklaocgmlpaaDoor
open Go.ChangeShapes Go.WideShapes Go.ChangeAt Go.RowKit
set_option maxHeartbeats 1000000
set_option maxRecDepth 100000
attribute [local irreducible] arrV dgA sha
attribute [local go_sem ↓] load_o32 store_o32 execl_o32 execs_o32 load_e32 execl_e32 build_32 execb_32
attribute [local go_sem] isHead_mk isPart_mk offOf_mk blkOf_mk isAgg_mk cellsV_mk row_drew rowAt_drew row_new_cells row_old rowAt_new rowAt_old zeroD ldOk_drew ldC_drew
theorem neqD (a : List UInt8) (V : World) : (binOp .neq 28 (.agg (dgA a)) (.agg (dgA a))).run Tryd.prog V = .ok (.bool false) V := by
  unfold dgA
  rw [run_neq_arrK Tryd.underlying28 Tryd.underlying5 (by kernel_rfl)]; simp
theorem eq_digests (A B : Option Addr) (P : List (List UInt8)) (c d : Nat) (w : World) (hA : Pt w A P c) (hB : Pt w B P d) (h60 : P.length ≤ 1000000) :
    Calls Tryd.prog 10 #[.slice A P.length c, .slice B P.length d] w fun e w' => e = .returned (.bool true) ∧ Below w.heap.size w w' := by
  obtain ⟨N, hN⟩ : ∃ N, P.length = N := ⟨_, rfl⟩
  rw [hN] at h60 ⊢
  have hnf : ((N : Int) != N) = false := by simp
  have hL0 := Below.refl w.heap.size w
  have hcA := hN ▸ hA.le
  have hcB := hN ▸ hB.le
  have hHN := Lib.hid hN
  have hA0 := Lib.hid hA
  have hB0 := Lib.hid hB
  clear hN hA hB
  go_enter Tryd.func10, Tryd.ntmps10
  go_wp2_with fail
  go_loopw [13] (fun x wr => ∃ i : Nat, x = .int .i64 i ∧ i ≤ N ∧ Below w.heap.size w wr) (fun x _ => N - (intOf x).toNat)
  case atStart => exact ⟨0, rfl, by omega, hL0⟩
  case round =>
    obtain ⟨i, rfl, hi, hL⟩ := hrel
    clear hL0
    by_cases hiN : i = N
    · subst hiN
      go_wp2_with fail
      go_ret
      exact ⟨rfl, hL⟩
    · have hlt : (i : Int) < (N : Int) := by omega
      have hz : (0 : Int) ≤ (i : Int) := by omega
      obtain ⟨x, hx⟩ : ∃ x, P[i]? = some x := ⟨_, List.getElem?_eq_getElem (by have := hHN.out; omega)⟩
      have hxl := hA0.out.all x (List.mem_of_getElem? hx)
      obtain ⟨a, rfl, -, -⟩ := hA0.out.rd (32 * i) (.int .u8 (bytesF x 0 : Int)) (by
        refine flat_at hA0.out.all hx 0 _ ?_
        simp [bytesV, bytesF, List.getElem?_eq_getElem (show 0 < x.length by omega)])
      obtain ⟨b, rfl, -, -⟩ := hB0.out.rd (32 * i) (.int .u8 (bytesF x 0 : Int)) (by
        refine flat_at hA0.out.all hx 0 _ ?_
        simp [bytesV, bytesF, List.getElem?_eq_getElem (show 0 < x.length by omega)])
      have hA1 := (hA0.out.step hL).step (Below.refl _ _).drew
      have hB1 := (hB0.out.step hL).step (Below.refl _ _).drew
      have a1 := el_ok hA1.rd hA1.all hx
      have a2 := el_ld hA1.rd hA1.all hx
      have b1 := el_ok hB1.rd hB1.all hx
      have b2 := el_ld hB1.rd hB1.all hx
      have hq := neqD x
      clear hA1 hB1 hx
      go_wp2_with fail
      go_region
      all_goals
        go_wp2_with fail
        go_round
        case rel => exact ⟨i + 1, by go_num, by omega, hL.drew⟩
        case measure => simp [intOf]; omega
end Go.Proofs.YtjihklaocgmlpaaDoor
