/- WrapTells: the law's function returns true. -/
import Derived.Test.YtjihklaocgmlpaaAesPre
import Derived.Test.YtjihklaocgmlpaaWrap5
namespace Go.Proofs.Ytjihklaocgmlpaa
open Go.ChangeShapes Go.WideShapes Go.ChangeAt Go.RowKit
set_option maxHeartbeats 4000000
set_option maxRecDepth 100000
attribute [local go_sem ↓] load_a16 store_a16 execl_a16 execs_a16 load_akey store_akey execl_akey execs_akey
attribute [local go_sem] isHead_mk blkOf_mk isAgg_mk cellsV_mk row_drew rowAt_drew row_new_cells row_old rowAt_new rowAt_old setRow_new bs_join bs_size

theorem wrap_WrapC (A : Option Addr) (l : List UInt8) (c R : Nat) (F : Nat → Nat) (w : World) (hA : Rd w w.heap.size A (bytesV l)) (hR : R ≤ 14) (hF : ∀ p, F p < 256) :
    Calls Try.prog 53 #[.agg (keyV F R), .slice A l.length c] w (RetOpen (wrapR F R l) w) := by
  by_cases h : badW l
  · exact wrap_WrapBad A l l.length c R F w rfl h
  · have h2 := h
    unfold badW at h2
    exact wrap_WrapOk A l l.length (l.length / 8) c R F w hA rfl (by omega) (by omega) (by omega) hR hF
theorem wrap_UnwrapC (A : Option Addr) (l : List UInt8) (c R : Nat) (F : Nat → Nat) (w : World) (hA : Rd w w.heap.size A (bytesV l)) (hR : R ≤ 14) (hF : ∀ p, F p < 256) :
    Calls Try.prog 55 #[.agg (keyV F R), .slice A l.length c] w (RetOpen (unwrapR F R l) w) := by
  by_cases h : badU l
  · exact wrap_UnwrapBad A l l.length c R F w rfl h
  · have h2 := h
    unfold badU at h2
    exact wrap_UnwrapOk A l l.length (l.length / 8 - 1) c R F w hA rfl (by omega) (by omega) (by omega) hR hF
theorem ref_WrappedC (l : List UInt8) (C gw cap N R : Nat) (F : Nat → Nat) (w : World) (hC : CipAt w C gw cap N F) (hN : N = 4 * (R + 1)) (hR : R ≤ 14) (hF : ∀ p, F p < 256) (hlb : l.length ≤ 140737488351232) :
    Calls Try.prog 54 #[.pointer (some ⟨C, 0, none⟩), .string ⟨l.toArray⟩] w (RetOpenS (wrapR F R l) w) := by
  by_cases h : badW l
  · exact ref_WrappedBad l C R F w h hlb
  · have h2 := h
    unfold badW at h2
    exact ref_WrappedOk l l.length (l.length / 8) C gw cap N R F w hC hN hR hF rfl (by omega) (by omega) (by omega)
theorem ref_UnwrappedC (l : List UInt8) (C gw cap N R : Nat) (F : Nat → Nat) (w : World) (hC : CipAt w C gw cap N F) (hN : N = 4 * (R + 1)) (hR : R ≤ 14) (hF : ∀ p, F p < 256) (hlb : l.length ≤ 140737488351232) :
    Calls Try.prog 56 #[.pointer (some ⟨C, 0, none⟩), .string ⟨l.toArray⟩] w (RetOpenS (unwrapR F R l) w) := by
  by_cases h : badU l
  · exact ref_UnwrappedBad l C R F w h hlb
  · have h2 := h
    unfold badU at h2
    exact ref_UnwrappedOk l l.length (l.length / 8 - 1) C gw cap N R F w hC hN hR hF rfl (by omega) (by omega) (by omega)
theorem wrapTells_bad (A Ap As : Option Addr) (l p s : List UInt8) (c cp cs : Nat) (w : World) (hA : Rd w w.heap.size A (bytesV l)) (hL : ¬ (l.length = 16 ∨ l.length = 24 ∨ l.length = 32)) (hc : l.length ≤ c ∧ c < 2 ^ 63) :
    Calls Try.prog 9 #[.slice A l.length c, .slice Ap p.length cp, .slice As s.length cs] w fun e w' => e = .returned (.bool true) ∧ Below w.heap.size w w' := by
  have hL0 : Below w.heap.size w w := Below.refl _ _
  have hBd := Lib.hid (fun V => aes_ExpandBad A l.length c V hL hc)
  have hRf := Lib.hid (fun V => ref_NewCipherBad l V hL)
  clear hc
  go_enter Try.func9, Try.ntmps9
  go_wp2_with fail
  refine (hBd.out _).mono ?_
  rintro e w1 ⟨rfl, hb1⟩
  have hL1 := below_step hb1 hL0 (Nat.le_refl _)
  have hkc := keyV_cells (fun _ => 0) 0
  have hR2 : Row (w1.alloc (Obj.cells Try.zeroCells42 42)) w1.heap.size 241 := (row_new rfl).2 (by rw [zeroKey]; exact hkc.1)
  have hLz : Below w.heap.size w (w1.alloc (Obj.cells (keyV (fun _ => 0) 0) 42)) := hL1.alloc hL1.size _
  have hcv := convK (c := c) (hA.below hLz)
  go_wp2_with fail
  refine (hRf.out _).mono ?_
  rintro e w2 ⟨rfl, hb2⟩
  have hL2 := below_step hb2 hLz (Nat.le_refl _)
  go_wp2_with fail
  go_ret
  exact ⟨rfl, hL2⟩
theorem wrapTells_ok (A Ap As : Option Addr) (l p s : List UInt8) (n c cp cs : Nat) (w : World) (hA : Rd w w.heap.size A (bytesV l)) (hAp : Rd w w.heap.size Ap (bytesV p)) (hAs : Rd w w.heap.size As (bytesV s)) (hl : l.length = 4 * n) (hn : n = 4 ∨ n = 6 ∨ n = 8) (hc : l.length ≤ c ∧ c < 2 ^ 63)
    (hcp : p.length ≤ 140737488351232) (hcs : s.length ≤ 140737488351232) :
    Calls Try.prog 9 #[.slice A l.length c, .slice Ap p.length cp, .slice As s.length cs] w fun e w' => e = .returned (.bool true) ∧ Below w.heap.size w w' := by
  have hL0 : Below w.heap.size w w := Below.refl _ _
  have hEx := Lib.hid (fun V (hV : Below w.heap.size w V) => aes_ExpandOk A l n l.length c V ((hA.below hV).more hV.size) rfl hl hn hc)
  have hNc := Lib.hid (fun V => ref_NewCipherOk l n V hl hn)
  have hF := fun p => kw_lt (n := n) (byteAt_lt l) (4 * (n + 7)) p
  obtain ⟨R, hR⟩ : ∃ R, R = n + 6 := ⟨_, rfl⟩
  obtain ⟨N, hN⟩ : ∃ N, N = 4 * (n + 7) := ⟨_, rfl⟩
  have hR14 : R ≤ 14 := by omega
  have hHN := Lib.hid (show N = 4 * (R + 1) by omega)
  unfold ExpOk at hEx
  unfold NewCOk at hNc
  rw [← hN, ← hR] at hEx
  rw [← hN] at hNc hF
  generalize kw (byteAt l) n N = F at *
  obtain ⟨r0, hr0⟩ : ∃ r, r = wrapR F R p := ⟨_, rfl⟩
  obtain ⟨r1, hr1⟩ : ∃ r, r = unwrapR F R s := ⟨_, rfl⟩
  have hWr := Lib.hid (fun V (hV : Below w.heap.size w V) => wrap_WrapC Ap p cp R F V ((hAp.below hV).more hV.size) hR14 hF)
  have hWd := Lib.hid (fun V C g cap (hC : CipAt V C g cap N F) => ref_WrappedC p C g cap N R F V hC hHN.out hR14 hF hcp)
  have hUn := Lib.hid (fun V (hV : Below w.heap.size w V) => wrap_UnwrapC As s cs R F V ((hAs.below hV).more hV.size) hR14 hF)
  have hUd := Lib.hid (fun V C g cap (hC : CipAt V C g cap N F) => ref_UnwrappedC s C g cap N R F V hC hHN.out hR14 hF hcs)
  rw [← hr0] at hWr hWd
  rw [← hr1] at hUn hUd
  unfold RetOpen at hWr hUn
  unfold RetOpenS at hWd hUd
  obtain ⟨rl, rn⟩ := r0
  obtain ⟨ql, qn⟩ := r1
  clear hc hn hl hR hN hr0 hr1
  have hbytes := Lib.hid (And.intro hAp hAs)
  clear hAp hAs
  go_enter Try.func9, Try.ntmps9
  go_wp2_with fail
  refine (hEx.out _ hL0).mono ?_
  rintro e w1 ⟨rfl, hb1⟩
  have hL1 := below_step hb1 hL0 (Nat.le_refl _)
  have hkc := keyV_cells F R
  have hkz := keyV_cells (fun _ => 0) 0
  have hR2 : Row (w1.alloc (Obj.cells Try.zeroCells42 42)) w1.heap.size 241 := (row_new rfl).2 (by rw [zeroKey]; exact hkz.1)
  have hLz : Below w.heap.size w (w1.alloc (Obj.cells (keyV F R) 42)) := hL1.alloc hL1.size _
  have K2 : KeyAt (w1.alloc (Obj.cells (keyV F R) 42)) w1.heap.size F R := KeyAt.new _ rfl
  have hcv := convK (c := c) (hA.below hLz)
  go_wp2_with fail
  clear hcv hR2
  generalize w1.alloc (Obj.cells (keyV F R) 42) = W2 at *
  generalize w1.heap.size = gk at *
  refine (hNc.out W2).mono ?_
  rintro e w3 ⟨C, g, cap, rfl, hCp, hb3⟩
  have hL3 := below_step hb3 hLz (Nat.le_refl _)
  have K3 := K2.step hb3
  have hK3 := Lib.hid K3
  have hRK := K3.row
  have hrK := K3.eq
  clear K2 hb1 hb3 hL0 hL1 hLz hEx hNc hkc hkz K3
  go_wp2_with fail
  refine (hWr.out w3 hL3).mono ?_
  rintro e w4 ⟨A2, c2, rfl, hR4, hb4⟩
  have hL4 := below_step hb4 hL3 (Nat.le_refl _)
  have hK4 := Lib.hid (hK3.out.step hb4)
  have hC4 := Lib.hid (hCp.step hb4)
  have hcv := convK (c := cp) (hbytes.out.1.below hL4)
  clear hRK hrK hK3 hCp
  go_wp2_with fail
  refine (hWd.out w4 C g cap hC4.out).mono ?_
  rintro e w5 ⟨rfl, hb5⟩
  have hL5 := below_step hb5 hL4 (Nat.le_refl _)
  have hK5 := Lib.hid (hK4.out.step hb5)
  have hC5 := Lib.hid (hC4.out.step hb5)
  have hR5 := (hR4.below hb5).more hb5.size
  have hRK := hK5.out.row
  have hrK := hK5.out.eq
  clear hcv hK4 hC4 hR4 hb4 hb5 hL4 hL3 hWr hWd
  go_wp2_with fail
  refine (hUn.out w5 hL5).mono ?_
  rintro e w6 ⟨A3, c3, rfl, hQ6, hb6⟩
  have hL6 := below_step hb6 hL5 (Nat.le_refl _)
  have hC6 := Lib.hid (hC5.out.step hb6)
  have hR6 := (hR5.below hb6).more hb6.size
  have hcv := convK (c := cs) (hbytes.out.2.below hL6)
  clear hRK hrK hK5 hC5 hR5 hb6 hL5
  go_wp2_with fail
  refine (hUd.out w6 C g cap hC6.out).mono ?_
  rintro e w7 ⟨rfl, hb7⟩
  have hL7 := below_step hb7 hL6 (Nat.le_refl _)
  have hcv1 := convK (c := c2) (hR6.below hb7)
  have hcv2 := convK (c := c3) (hQ6.below hb7)
  clear hcv hC6 hR6 hQ6 hb7 hL6 hUn hUd hbytes hA
  go_wp2_with fail
  go_ret
  exact ⟨by simp, hL7⟩
end Go.Proofs.Ytjihklaocgmlpaa
