/- ModeSeals: the law's function returns true. -/
import Derived.Test.YtjihklaocgmlpaaAesPre
import Derived.Test.YtjihklaocgmlpaaMode2
import Derived.Test.YtjihklaocgmlpaaMode5
namespace Go.Proofs.Ytjihklaocgmlpaa
open Go.ChangeShapes Go.WideShapes Go.ChangeAt Go.RowKit
set_option maxHeartbeats 4000000
set_option maxRecDepth 100000
attribute [local go_sem ↓] load_a16 store_a16 execl_a16 execs_a16 load_akey store_akey execl_akey execs_akey
attribute [local go_sem] isHead_mk blkOf_mk isAgg_mk cellsV_mk row_drew rowAt_drew row_new_cells row_old rowAt_new rowAt_old setRow_new bs_join bs_size

def SRel.buf (f : Nat → Nat) (M : Nat) : SRel := ⟨fun v w => ∃ g, v = .slice (some ⟨g, 0, none⟩) M M ∧ At w g .u8 M f, fun _ _ _ hb ⟨g, h1, h2⟩ => ⟨g, h1, h2.step hb⟩⟩
theorem conv_buf {w : World} {g M : Nat} {f : Nat → Nat} (T : At w g .u8 M f) (hf : ∀ i, f i < 256) : (convert 25 9 (.slice (some ⟨g, 0, none⟩) M M)).run Try.prog w = .ok (.string ⟨(bLs f M).toArray⟩) w := by
  have h := conv_rd Try.underlying25 Try.underlying5 Try.underlying9 (c := M) (T.rdB (n := M) (by omega) (fun i _ => hf i))
  rw [bLs_len] at h
  exact h
theorem mode_OpenC (A : Option Addr) (l : List UInt8) (c R : Nat) (F iv : Nat → Nat) (w : World) (hA : Rd w w.heap.size A (bytesV l)) (hc : l.length ≤ c ∧ c ≤ 140737488351232) (hR : R ≤ 14) (hF : ∀ p, F p < 256) (hv : ∀ i < 16, iv i < 256) :
    Calls Try.prog 49 #[.agg (keyV F R), .agg (arrK .u8 16 iv), .slice A l.length c] w (RetOpen (openR F R iv l) w) := by
  by_cases h : l.length = 0 ∨ l.length % 16 ≠ 0
  · exact mode_OpenBad A l l.length c R F iv w rfl h hc
  · exact mode_OpenOk A l l.length (l.length / 16) c R F iv w hA rfl (by omega) (by omega) hc hR hF hv
theorem ref_OpenedC (l : List UInt8) (C gw cap N R : Nat) (F iv : Nat → Nat) (w : World) (hC : CipAt w C gw cap N F) (hN : N = 4 * (R + 1)) (hR : R ≤ 14) (hF : ∀ p, F p < 256) (hv : ∀ i < 16, iv i < 256) (hlb : l.length ≤ 140737488351232) :
    Calls Try.prog 50 #[.pointer (some ⟨C, 0, none⟩), .agg (arrK .u8 16 iv), .string ⟨l.toArray⟩] w (RetOpenS (openR F R iv l) w) := by
  by_cases h : l.length = 0 ∨ l.length % 16 ≠ 0
  · exact ref_OpenedBad l C R F iv w h
  · exact ref_OpenedOk l l.length (l.length / 16) C gw cap N R F iv w hC hN hR hF hv rfl (by omega) (by omega) hlb
theorem modeSeals_bad (A Ap As : Option Addr) (l p s : List UInt8) (c cp cs : Nat) (iv : Nat → Nat) (w : World) (hA : Rd w w.heap.size A (bytesV l)) (hL : ¬ (l.length = 16 ∨ l.length = 24 ∨ l.length = 32)) (hc : l.length ≤ c ∧ c < 2 ^ 63) :
    Calls Try.prog 8 #[.slice A l.length c, .agg (arrK .u8 16 iv), .slice Ap p.length cp, .slice As s.length cs] w fun e w' => e = .returned (.bool true) ∧ Below w.heap.size w w' := by
  have hL0 : Below w.heap.size w (w.alloc (Obj.cells (arrK .u8 16 iv) 38)) := by go_grown
  have hBd := Lib.hid (fun V => aes_ExpandBad A l.length c V hL hc)
  have hRf := Lib.hid (fun V => ref_NewCipherBad l V hL)
  clear hc
  go_enter Try.func8, Try.ntmps8
  go_wp2_with fail
  refine (hBd.out _).mono ?_
  rintro e w1 ⟨rfl, hb1⟩
  have hL1 := below_step hb1 hL0 (Nat.le_refl _)
  have hkc := keyV_cells (fun _ => 0) 0
  have hR2 : Row (w1.alloc (Obj.cells Try.zeroCells42 42)) w1.heap.size 241 := (row_new rfl).2 (by rw [zeroKey]; exact hkc.1)
  have hLz : Below w.heap.size w (w1.alloc (Obj.cells (keyV (fun _ => 0) 0) 42)) := hL1.alloc hL1.size _
  have hcv := convK (c := c) (hA.below hLz)
  go_wp2_with fail
  refine (hRf.out _).mono ?_
  rintro e w2 ⟨rfl, hb2⟩
  have hL2 := below_step hb2 hLz (Nat.le_refl _)
  go_wp2_with fail
  go_ret
  exact ⟨rfl, hL2⟩
theorem modeSeals_ok (A Ap As : Option Addr) (l p s : List UInt8) (n c cp cs : Nat) (iv : Nat → Nat) (w : World) (hA : Rd w w.heap.size A (bytesV l)) (hAp : Rd w w.heap.size Ap (bytesV p)) (hAs : Rd w w.heap.size As (bytesV s)) (hl : l.length = 4 * n) (hn : n = 4 ∨ n = 6 ∨ n = 8) (hc : l.length ≤ c ∧ c < 2 ^ 63)
    (hcp : p.length ≤ cp ∧ cp ≤ 140737488351232) (hcs : s.length ≤ cs ∧ cs ≤ 140737488351232) (hv16 : ∀ i < 16, iv i < 256) :
    Calls Try.prog 8 #[.slice A l.length c, .agg (arrK .u8 16 iv), .slice Ap p.length cp, .slice As s.length cs] w fun e w' => e = .returned (.bool true) ∧ Below w.heap.size w w' := by
  have hL0 : Below w.heap.size w (w.alloc (Obj.cells (arrK .u8 16 iv) 38)) := by go_grown
  have T0 : At (w.alloc (Obj.cells (arrK .u8 16 iv) 38)) w.heap.size .u8 16 iv := At.new _ rfl
  have hEx := Lib.hid (fun V (hV : Below w.heap.size w V) => aes_ExpandOk A l n l.length c V ((hA.below hV).more hV.size) rfl hl hn hc)
  have hNc := Lib.hid (fun V => ref_NewCipherOk l n V hl hn)
  have hF := fun p => kw_lt (n := n) (byteAt_lt l) (4 * (n + 7)) p
  obtain ⟨R, hR⟩ : ∃ R, R = n + 6 := ⟨_, rfl⟩
  obtain ⟨N, hN⟩ : ∃ N, N = 4 * (n + 7) := ⟨_, rfl⟩
  have hR14 : R ≤ 14 := by omega
  have hN60 : N ≤ 60 := by omega
  have hHN := Lib.hid (show N = 4 * (R + 1) by omega)
  unfold ExpOk at hEx
  unfold NewCOk at hNc
  rw [← hN, ← hR] at hEx
  rw [← hN] at hNc hF
  generalize kw (byteAt l) n N = F at *
  obtain ⟨r0, hr0⟩ : ∃ r, r = openR F R iv s := ⟨_, rfl⟩
  have hOp := Lib.hid (fun V (hV : Below w.heap.size w V) => mode_OpenC As s cs R F iv V ((hAs.below hV).more hV.size) hcs hR14 hF hv16)
  have hOd := Lib.hid (fun V C g cap (hC : CipAt V C g cap N F) => ref_OpenedC s C g cap N R F iv V hC hHN.out hR14 hF hv16 (by omega))
  rw [← hr0] at hOp hOd
  unfold RetOpen at hOp
  unfold RetOpenS at hOd
  obtain ⟨rl, rn⟩ := r0
  have hse := Lib.hid (sealF_lt (R := R) hF hv16 (padF_lt (l := p) (n := 16 - p.length % 16) (by omega)))
  clear hc hn hl hR hN hr0
  have hbytes := Lib.hid (And.intro hAp hAs)
  clear hAp hAs
  go_enter Try.func8, Try.ntmps8
  go_wp2_with fail
  refine (hEx.out _ hL0).mono ?_
  rintro e w1 ⟨rfl, hb1⟩
  have hL1 := below_step hb1 hL0 (Nat.le_refl _)
  have T1 := T0.step hb1
  have hkc := keyV_cells F R
  have hkz := keyV_cells (fun _ => 0) 0
  have hR2 : Row (w1.alloc (Obj.cells Try.zeroCells42 42)) w1.heap.size 241 := (row_new rfl).2 (by rw [zeroKey]; exact hkz.1)
  have hLz : Below w.heap.size w (w1.alloc (Obj.cells (keyV F R) 42)) := hL1.alloc hL1.size _
  have T2 := T1.old (Obj.cells (keyV F R) 42)
  have K2 : KeyAt (w1.alloc (Obj.cells (keyV F R) 42)) w1.heap.size F R := KeyAt.new _ rfl
  have hcv := convK (c := c) (hA.below hLz)
  go_wp2_with fail
  clear hcv hR2
  generalize w1.alloc (Obj.cells (keyV F R) 42) = W2 at *
  generalize w1.heap.size = gk at *
  refine (hNc.out W2).mono ?_
  rintro e w3 ⟨C, g, cap, rfl, hCp, hb3⟩
  have hL3 := below_step hb3 hLz (Nat.le_refl _)
  have K3 := K2.step hb3
  have T3 := T2.step hb3
  have hK3 := Lib.hid K3
  have hT3 := Lib.hid T3
  have hRK := K3.row
  have hrK := K3.eq
  have hRT := T3.row
  have hrT := T3.eq
  clear T0 T1 T2 K2 hb1 hb3 hL0 hL1 hLz hEx hNc hkc hkz K3 T3
  go_wp2_with fail
  refine (hOp.out w3 hL3).mono ?_
  rintro e w4 ⟨A2, c2, rfl, hR4, hb4⟩
  have hL4 := below_step hb4 hL3 (Nat.le_refl _)
  have hK4 := Lib.hid (hK3.out.step hb4)
  have hT4 := Lib.hid (hT3.out.step hb4)
  have hC4 := Lib.hid (hCp.step hb4)
  have hRT := hT4.out.row
  have hrT := hT4.out.eq
  have hcv := convK (c := cs) (hbytes.out.2.below hL4)
  clear hRK hrK hK3 hT3 hCp
  go_wp2_with fail
  refine (hOd.out w4 C g cap hC4.out).mono ?_
  rintro e w5 ⟨rfl, hb5⟩
  have hL5 := below_step hb5 hL4 (Nat.le_refl _)
  have hKk := Lib.hid (hK4.out.step hb5)
  have hVv := Lib.hid (hT4.out.step hb5)
  have hCc := Lib.hid (hC4.out.step hb5)
  have hP := Lib.hid (RdB.mk ((hbytes.out.1.below hL5).more hL5.size))
  have hRl := Lib.hid (RdB.mk ((hR4.below hb5).more hb5.size))
  clear hRT hrT hcv hK4 hT4 hC4 hR4 hb4 hb5 hL4 hL3 hOp hOd hbytes hA
  go_wp2_with fail
  refine wp_region_calm (fun jx_ => match jx_ with | 0 => SRel.is (.agg (keyV F R)) | 1 => SRel.is (.agg (arrK .u8 16 iv)) | 2 => SRel.is (.slice Ap p.length cp) | 3 => SRel.buf (sealF F R iv (padF p (16 - p.length % 16))) (p.length + (16 - p.length % 16)) | 4 => SRel.is (.string ⟨(bLs (sealF F R iv (padF p (16 - p.length % 16))) (p.length + (16 - p.length % 16))).toArray⟩) | 5 => SRel.is (.pointer (some ⟨C, 0, none⟩)) | 6 => SRel.is (.agg (arrK .u8 16 iv)) | 7 => SRel.is (.slice Ap p.length cp) | 8 => SRel.is (.string ⟨p.toArray⟩) | 9 => SRel.is (.string ⟨(bLs (sealF F R iv (padF p (16 - p.length % 16))) (p.length + (16 - p.length % 16))).toArray⟩) | 10 => SRel.is (.bool true) | 11 => SRel.is (.bool true) | 12 => SRel.is (.slice A2 rl.length c2) | 13 => SRel.is (.string ⟨rl.toArray⟩) | 14 => SRel.is (.string ⟨rl.toArray⟩) | 15 => SRel.is (.bool true) | 16 => SRel.is (.bool true) | 17 => SRel.is (.bool true) | 18 => SRel.is (.int .i64 (rn : Nat)) | 19 => SRel.is (.int .i64 (rn : Nat)) | 20 => SRel.is (.bool true) | 21 => SRel.is (.bool true) | 22 => SRel.is (.bool true) | _ => SRel.any) (by kernel_rfl) (by kernel_rfl) (by kernel_rfl) (by kernel_rfl) ⟨?_, ?_, ?_, ?_, ?_, ?_, ?_, ?_, ?_, ?_, ?_, ?_, ?_, ?_, ?_, ?_, ?_, ?_, ?_, ?_, ?_, ?_, ?_, trivial⟩ ?_
  · refine calm_step rfl fun a ω κ hb hu hc hK => ?_
    have h9 : a.tmps[9]?.getD undef = .pointer (some ⟨gk, 0, none⟩) := hu 9 rfl
    have hk := Lib.hid (fun w1 (h : Below ω.heap.size ω w1) => hK (.agg (keyV F R)) w1 rfl h)
    clear hK hu hc
    have hr1 := (hKk.out.step hb).row
    have hr2 := (hKk.out.step hb).eq
    go_simp
    exact hk.out _ (Below.refl _ _)
  · refine calm_step rfl fun a ω κ hb hu hc hK => ?_
    have h5 : a.tmps[5]?.getD undef = .pointer (some ⟨w.heap.size, 0, none⟩) := hu 5 rfl
    have hk := Lib.hid (fun w1 (h : Below ω.heap.size ω w1) => hK (.agg (arrK .u8 16 iv)) w1 rfl h)
    clear hK hu hc
    have hr1 := (hVv.out.step hb).row
    have hr2 := (hVv.out.step hb).eq
    go_simp
    exact hk.out _ (Below.refl _ _)
  · refine calm_step rfl fun a ω κ hb hu hc hK => ?_
    have h2 : a.tmps[2]?.getD undef = .slice Ap p.length cp := hu 2 rfl
    have hk := Lib.hid (fun w1 (h : Below ω.heap.size ω w1) => hK (.slice Ap p.length cp) w1 rfl h)
    clear hK hu hc
    go_simp
    exact hk.out _ (Below.refl _ _)
  · refine calm_step rfl fun a ω κ hb hu hc hK => ?_
    have h48 : a.tmps[48]?.getD undef = .agg (keyV F R) := hc 0 48 rfl rfl
    have h49 : a.tmps[49]?.getD undef = .agg (arrK .u8 16 iv) := hc 1 49 rfl rfl
    have h50 : a.tmps[50]?.getD undef = .slice Ap p.length cp := hc 2 50 rfl rfl
    have hk := Lib.hid (fun v w1 (hv : (SRel.buf (sealF F R iv (padF p (16 - p.length % 16))) (p.length + (16 - p.length % 16))).p v w1) (h : Below ω.heap.size ω w1) => hK v w1 hv h)
    clear hK hu hc
    go_simp
    go_at_call 51
    refine (mode_Seal Ap p p.length cp R F iv ω (hP.out.step hb) rfl hcp (by omega) hF hv16).mono ?_
    rintro e w1 ⟨g1, rfl, hx1, hb1⟩
    exact hk.out _ _ ⟨g1, rfl, hx1⟩ hb1
  · refine calm_step rfl fun a ω κ hb hu hc hK => ?_
    have h51 : (SRel.buf (sealF F R iv (padF p (16 - p.length % 16))) (p.length + (16 - p.length % 16))).p (a.tmps[51]?.getD undef) ω := hc 3 51 rfl rfl
    have hk := Lib.hid (fun w1 (h : Below ω.heap.size ω w1) => hK (.string ⟨(bLs (sealF F R iv (padF p (16 - p.length % 16))) (p.length + (16 - p.length % 16))).toArray⟩) w1 rfl h)
    clear hK hu hc
    obtain ⟨g1, hv1, hx1⟩ := h51
    have hcv := conv_buf hx1 hse.out
    go_simp
    exact hk.out _ (Below.refl _ _)
  · refine calm_step rfl fun a ω κ hb hu hc hK => ?_
    have h11 : a.tmps[11]?.getD undef = .pointer (some ⟨C, 0, none⟩) := hu 11 rfl
    have hk := Lib.hid (fun w1 (h : Below ω.heap.size ω w1) => hK (.pointer (some ⟨C, 0, none⟩)) w1 rfl h)
    clear hK hu hc
    go_simp
    exact hk.out _ (Below.refl _ _)
  · refine calm_step rfl fun a ω κ hb hu hc hK => ?_
    have h5 : a.tmps[5]?.getD undef = .pointer (some ⟨w.heap.size, 0, none⟩) := hu 5 rfl
    have hk := Lib.hid (fun w1 (h : Below ω.heap.size ω w1) => hK (.agg (arrK .u8 16 iv)) w1 rfl h)
    clear hK hu hc
    have hr1 := (hVv.out.step hb).row
    have hr2 := (hVv.out.step hb).eq
    go_simp
    exact hk.out _ (Below.refl _ _)
  · refine calm_step rfl fun a ω κ hb hu hc hK => ?_
    have h2 : a.tmps[2]?.getD undef = .slice Ap p.length cp := hu 2 rfl
    have hk := Lib.hid (fun w1 (h : Below ω.heap.size ω w1) => hK (.slice Ap p.length cp) w1 rfl h)
    clear hK hu hc
    go_simp
    exact hk.out _ (Below.refl _ _)
  · refine calm_step rfl fun a ω κ hb hu hc hK => ?_
    have h55 : a.tmps[55]?.getD undef = .slice Ap p.length cp := hc 7 55 rfl rfl
    have hk := Lib.hid (fun w1 (h : Below ω.heap.size ω w1) => hK (.string ⟨p.toArray⟩) w1 rfl h)
    clear hK hu hc
    have hcv := convK (c := cp) (hP.out.step hb)
    go_simp
    exact hk.out _ (Below.refl _ _)
  · refine calm_step rfl fun a ω κ hb hu hc hK => ?_
    have h53 : a.tmps[53]?.getD undef = .pointer (some ⟨C, 0, none⟩) := hc 5 53 rfl rfl
    have h54 : a.tmps[54]?.getD undef = .agg (arrK .u8 16 iv) := hc 6 54 rfl rfl
    have h56 : a.tmps[56]?.getD undef = .string ⟨p.toArray⟩ := hc 8 56 rfl rfl
    have hk := Lib.hid (fun w1 (h : Below ω.heap.size ω w1) => hK (.string ⟨(bLs (sealF F R iv (padF p (16 - p.length % 16))) (p.length + (16 - p.length % 16))).toArray⟩) w1 rfl h)
    clear hK hu hc
    have hC := hCc.out.step hb
    go_simp
    go_at_call 52
    refine (ref_Sealed p C g cap N R F iv _ hC hHN.out (by omega) hF hv16 (by have := hcp; omega)).mono ?_
    rintro e w1 ⟨rfl, hb1⟩
    exact hk.out _ hb1
  · refine calm_step rfl fun a ω κ hb hu hc hK => ?_
    have h52 : a.tmps[52]?.getD undef = .string ⟨(bLs (sealF F R iv (padF p (16 - p.length % 16))) (p.length + (16 - p.length % 16))).toArray⟩ := hc 4 52 rfl rfl
    have h57 : a.tmps[57]?.getD undef = .string ⟨(bLs (sealF F R iv (padF p (16 - p.length % 16))) (p.length + (16 - p.length % 16))).toArray⟩ := hc 9 57 rfl rfl
    have hk := Lib.hid (fun w1 (h : Below ω.heap.size ω w1) => hK (.bool true) w1 rfl h)
    clear hK hu hc
    go_simp
    exact hk.out _ (Below.refl _ _)
  · refine calm_step rfl fun a ω κ hb hu hc hK => ?_
    have h58 : a.tmps[58]?.getD undef = .bool true := hc 10 58 rfl rfl
    have hk := Lib.hid (fun w1 (h : Below ω.heap.size ω w1) => hK (.bool true) w1 rfl h)
    clear hK hu hc
    go_simp
    exact hk.out _ (Below.refl _ _)
  · refine calm_step_guard (g := 11) (b := true) (d := 59) rfl rfl (fun a w hc => hc 11 59 rfl rfl) fun a ω κ hb hu hc hK => ?_
    have h13 : a.tmps[13]?.getD undef = .slice A2 rl.length c2 := hu 13 rfl
    have hk := Lib.hid (fun w1 (h : Below ω.heap.size ω w1) => hK (.slice A2 rl.length c2) w1 rfl h)
    clear hK hu hc
    go_simp
    exact hk.out _ (Below.refl _ _)
  · refine calm_step_guard (g := 11) (b := true) (d := 59) rfl rfl (fun a w hc => hc 11 59 rfl rfl) fun a ω κ hb hu hc hK => ?_
    have h60 : a.tmps[60]?.getD undef = .slice A2 rl.length c2 := hc 12 60 rfl rfl
    have hk := Lib.hid (fun w1 (h : Below ω.heap.size ω w1) => hK (.string ⟨rl.toArray⟩) w1 rfl h)
    clear hK hu hc
    have hcv := convK (c := c2) (hRl.out.step hb)
    go_simp
    exact hk.out _ (Below.refl _ _)
  · refine calm_step_guard (g := 11) (b := true) (d := 59) rfl rfl (fun a w hc => hc 11 59 rfl rfl) fun a ω κ hb hu hc hK => ?_
    have h15 : a.tmps[15]?.getD undef = .string ⟨rl.toArray⟩ := hu 15 rfl
    have hk := Lib.hid (fun w1 (h : Below ω.heap.size ω w1) => hK (.string ⟨rl.toArray⟩) w1 rfl h)
    clear hK hu hc
    go_simp
    exact hk.out _ (Below.refl _ _)
  · refine calm_step_guard (g := 11) (b := true) (d := 59) rfl rfl (fun a w hc => hc 11 59 rfl rfl) fun a ω κ hb hu hc hK => ?_
    have h61 : a.tmps[61]?.getD undef = .string ⟨rl.toArray⟩ := hc 13 61 rfl rfl
    have h62 : a.tmps[62]?.getD undef = .string ⟨rl.toArray⟩ := hc 14 62 rfl rfl
    have hk := Lib.hid (fun w1 (h : Below ω.heap.size ω w1) => hK (.bool true) w1 rfl h)
    clear hK hu hc
    go_simp
    exact hk.out _ (Below.refl _ _)
  · refine calm_step rfl fun a ω κ hb hu hc hK => ?_
    have h59 : a.tmps[59]?.getD undef = .bool true := hc 11 59 rfl rfl
    have h63 : a.tmps[63]?.getD undef = .bool true := hc 15 63 rfl rfl
    have hk := Lib.hid (fun w1 (h : Below ω.heap.size ω w1) => hK (.bool true) w1 rfl h)
    clear hK hu hc
    go_simp
    exact hk.out _ (Below.refl _ _)
  · refine calm_step rfl fun a ω κ hb hu hc hK => ?_
    have h64 : a.tmps[64]?.getD undef = .bool true := hc 16 64 rfl rfl
    have hk := Lib.hid (fun w1 (h : Below ω.heap.size ω w1) => hK (.bool true) w1 rfl h)
    clear hK hu hc
    go_simp
    exact hk.out _ (Below.refl _ _)
  · refine calm_step_guard (g := 17) (b := true) (d := 65) rfl rfl (fun a w hc => hc 17 65 rfl rfl) fun a ω κ hb hu hc hK => ?_
    have h14 : a.tmps[14]?.getD undef = .int .i64 (rn : Nat) := hu 14 rfl
    have hk := Lib.hid (fun w1 (h : Below ω.heap.size ω w1) => hK (.int .i64 (rn : Nat)) w1 rfl h)
    clear hK hu hc
    go_simp
    exact hk.out _ (Below.refl _ _)
  · refine calm_step_guard (g := 17) (b := true) (d := 65) rfl rfl (fun a w hc => hc 17 65 rfl rfl) fun a ω κ hb hu hc hK => ?_
    have h16 : a.tmps[16]?.getD undef = .int .i64 (rn : Nat) := hu 16 rfl
    have hk := Lib.hid (fun w1 (h : Below ω.heap.size ω w1) => hK (.int .i64 (rn : Nat)) w1 rfl h)
    clear hK hu hc
    go_simp
    exact hk.out _ (Below.refl _ _)
  · refine calm_step_guard (g := 17) (b := true) (d := 65) rfl rfl (fun a w hc => hc 17 65 rfl rfl) fun a ω κ hb hu hc hK => ?_
    have h66 : a.tmps[66]?.getD undef = .int .i64 (rn : Nat) := hc 18 66 rfl rfl
    have h67 : a.tmps[67]?.getD undef = .int .i64 (rn : Nat) := hc 19 67 rfl rfl
    have hk := Lib.hid (fun w1 (h : Below ω.heap.size ω w1) => hK (.bool true) w1 rfl h)
    clear hK hu hc
    go_simp
    exact hk.out _ (Below.refl _ _)
  · refine calm_step rfl fun a ω κ hb hu hc hK => ?_
    have h65 : a.tmps[65]?.getD undef = .bool true := hc 17 65 rfl rfl
    have h68 : a.tmps[68]?.getD undef = .bool true := hc 20 68 rfl rfl
    have hk := Lib.hid (fun w1 (h : Below ω.heap.size ω w1) => hK (.bool true) w1 rfl h)
    clear hK hu hc
    go_simp
    exact hk.out _ (Below.refl _ _)
  · refine calm_step rfl fun a ω κ hb hu hc hK => ?_
    have h69 : a.tmps[69]?.getD undef = .bool true := hc 21 69 rfl rfl
    have hk := Lib.hid (fun w1 (h : Below ω.heap.size ω w1) => hK (.bool true) w1 rfl h)
    clear hK hu hc
    go_simp
    exact hk.out _ (Below.refl _ _)
  · intro a w' hb hu hsz hdf hc
    have h8 : a.tmps[8]?.getD undef = .bool true := hc 22 8 rfl
    go_wp2
    exact ret_tmp rfl h8 hdf ⟨rfl, below_step hb hL5 (Nat.le_refl _)⟩
end Go.Proofs.Ytjihklaocgmlpaa
