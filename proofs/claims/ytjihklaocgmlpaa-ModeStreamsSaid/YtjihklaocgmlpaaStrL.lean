/- ModeStreams: the law's function returns true. -/
import Derived.Test.YtjihklaocgmlpaaAesPre
import Derived.Test.YtjihklaocgmlpaaStr2
import Derived.Test.YtjihklaocgmlpaaStr3
namespace Go.Proofs.Ytjihklaocgmlpaa
open Go.ChangeShapes Go.WideShapes Go.ChangeAt Go.RowKit
set_option maxHeartbeats 4000000
set_option maxRecDepth 100000
attribute [local go_sem ↓] load_a16 store_a16 execl_a16 execs_a16 load_akey store_akey execl_akey execs_akey
attribute [local go_sem] isHead_mk blkOf_mk isAgg_mk cellsV_mk row_drew rowAt_drew row_new_cells row_old rowAt_new rowAt_old setRow_new bs_join bs_size

def SRel.bufT (f : Nat → Nat) (M : Nat) : SRel := ⟨fun v w => ∃ g, v = .slice (some ⟨g, 0, none⟩) M M ∧ At w g .u8 M f, fun _ _ _ hb ⟨g, h1, h2⟩ => ⟨g, h1, h2.step hb⟩⟩
theorem conv_bufT {w : World} {g M : Nat} {f : Nat → Nat} (T : At w g .u8 M f) (hf : ∀ i, f i < 256) : (convert 25 9 (.slice (some ⟨g, 0, none⟩) M M)).run Try.prog w = .ok (.string ⟨(bLs f M).toArray⟩) w := by
  have h := conv_rd Try.underlying25 Try.underlying5 Try.underlying9 (c := M) (T.rdB (n := M) (by omega) (fun i _ => hf i))
  rw [bLs_len] at h
  exact h
theorem modeStreams_bad (A Ap : Option Addr) (l p : List UInt8) (c cp x : Nat) (iv : Nat → Nat) (w : World) (hA : Rd w w.heap.size A (bytesV l)) (hL : ¬ (l.length = 16 ∨ l.length = 24 ∨ l.length = 32)) (hc : l.length ≤ c ∧ c < 2 ^ 63) :
    Calls Try.prog 4 #[.slice A l.length c, .agg (arrK .u8 16 iv), .int .u64 x, .slice Ap p.length cp] w fun e w' => e = .returned (.bool true) ∧ Below w.heap.size w w' := by
  have hL0 : Below w.heap.size w (w.alloc (Obj.cells (arrK .u8 16 iv) 38)) := by go_grown
  have hBd := Lib.hid (fun V => aes_ExpandBad A l.length c V hL hc)
  have hRf := Lib.hid (fun V => ref_NewCipherBad l V hL)
  clear hc
  go_enter Try.func4, Try.ntmps4
  go_wp2_with fail
  refine (hBd.out _).mono ?_
  rintro e w1 ⟨rfl, hb1⟩
  have hL1 := below_step hb1 hL0 (Nat.le_refl _)
  have hkc := keyV_cells (fun _ => 0) 0
  have hR2 : Row (w1.alloc (Obj.cells Try.zeroCells42 42)) w1.heap.size 241 := (row_new rfl).2 (by rw [zeroKey]; exact hkc.1)
  have hLz : Below w.heap.size w (w1.alloc (Obj.cells (keyV (fun _ => 0) 0) 42)) := hL1.alloc hL1.size _
  have hcv := convK (c := c) (hA.below hLz)
  go_wp2_with fail
  refine (hRf.out _).mono ?_
  rintro e w2 ⟨rfl, hb2⟩
  have hL2 := below_step hb2 hLz (Nat.le_refl _)
  go_wp2_with fail
  go_ret
  exact ⟨rfl, hL2⟩
theorem modeStreams_ok (A Ap : Option Addr) (l p : List UInt8) (n c cp x : Nat) (iv : Nat → Nat) (w : World) (hA : Rd w w.heap.size A (bytesV l)) (hAp : Rd w w.heap.size Ap (bytesV p)) (hl : l.length = 4 * n) (hn : n = 4 ∨ n = 6 ∨ n = 8) (hc : l.length ≤ c ∧ c < 2 ^ 63)
    (hcp : p.length ≤ cp ∧ cp ≤ 140737488351232) (hv16 : ∀ i < 16, iv i < 256) :
    Calls Try.prog 4 #[.slice A l.length c, .agg (arrK .u8 16 iv), .int .u64 x, .slice Ap p.length cp] w fun e w' => e = .returned (.bool true) ∧ Below w.heap.size w w' := by
  have hL0 : Below w.heap.size w (w.alloc (Obj.cells (arrK .u8 16 iv) 38)) := by go_grown
  have T0 : At (w.alloc (Obj.cells (arrK .u8 16 iv) 38)) w.heap.size .u8 16 iv := At.new _ rfl
  have hEx := Lib.hid (fun V (hV : Below w.heap.size w V) => aes_ExpandOk A l n l.length c V ((hA.below hV).more hV.size) rfl hl hn hc)
  have hNc := Lib.hid (fun V => ref_NewCipherOk l n V hl hn)
  have hF := fun p => kw_lt (n := n) (byteAt_lt l) (4 * (n + 7)) p
  obtain ⟨R, hR⟩ : ∃ R, R = n + 6 := ⟨_, rfl⟩
  obtain ⟨N, hN⟩ : ∃ N, N = 4 * (n + 7) := ⟨_, rfl⟩
  have hR14 : R ≤ 14 := by omega
  have hN60 : N ≤ 60 := by omega
  have hHN := Lib.hid (show N = 4 * (R + 1) by omega)
  unfold ExpOk at hEx
  unfold NewCOk at hNc
  rw [← hN, ← hR] at hEx
  rw [← hN] at hNc hF
  generalize kw (byteAt l) n N = F at *
  have hse := Lib.hid (show ∀ i, strF F R iv x (byteAt p) i < 256 from fun i => xor_lt8 (byteAt_lt _ _) (padAt_lt hF _ _ (by omega)))
  clear hc hn hl hR hN
  have hbytes := Lib.hid hAp
  clear hAp
  go_enter Try.func4, Try.ntmps4
  go_wp2_with fail
  refine (hEx.out _ hL0).mono ?_
  rintro e w1 ⟨rfl, hb1⟩
  have hL1 := below_step hb1 hL0 (Nat.le_refl _)
  have T1 := T0.step hb1
  have hkc := keyV_cells F R
  have hkz := keyV_cells (fun _ => 0) 0
  have hR2 : Row (w1.alloc (Obj.cells Try.zeroCells42 42)) w1.heap.size 241 := (row_new rfl).2 (by rw [zeroKey]; exact hkz.1)
  have hLz : Below w.heap.size w (w1.alloc (Obj.cells (keyV F R) 42)) := hL1.alloc hL1.size _
  have T2 := T1.old (Obj.cells (keyV F R) 42)
  have K2 : KeyAt (w1.alloc (Obj.cells (keyV F R) 42)) w1.heap.size F R := KeyAt.new _ rfl
  have hcv := convK (c := c) (hA.below hLz)
  go_wp2_with fail
  clear hcv hR2
  generalize w1.alloc (Obj.cells (keyV F R) 42) = W2 at *
  generalize w1.heap.size = gk at *
  refine (hNc.out W2).mono ?_
  rintro e w3 ⟨C, g, cap, rfl, hCp, hb3⟩
  have hL5 := below_step hb3 hLz (Nat.le_refl _)
  have hKk := Lib.hid (K2.step hb3)
  have hVv := Lib.hid (T2.step hb3)
  have hCc := Lib.hid hCp
  have hP := Lib.hid (RdB.mk ((hbytes.out.below hL5).more hL5.size))
  clear T0 T1 T2 K2 hb1 hb3 hL0 hL1 hLz hEx hNc hkc hkz hbytes hA hCp
  go_wp2_with fail
  refine wp_region_calm (fun jx_ => match jx_ with | 0 => SRel.is (.agg (keyV F R)) | 1 => SRel.is (.agg (arrK .u8 16 iv)) | 2 => SRel.is (.int .u64 (x : Nat)) | 3 => SRel.is (.slice Ap p.length cp) | 4 => SRel.bufT (strF F R iv x (byteAt p)) p.length | 5 => SRel.is (.string ⟨(bLs (strF F R iv x (byteAt p)) p.length).toArray⟩) | 6 => SRel.is (.pointer (some ⟨C, 0, none⟩)) | 7 => SRel.is (.agg (arrK .u8 16 iv)) | 8 => SRel.is (.int .u64 (x : Nat)) | 9 => SRel.is (.slice Ap p.length cp) | 10 => SRel.is (.string ⟨p.toArray⟩) | 11 => SRel.is (.string ⟨(bLs (strF F R iv x (byteAt p)) p.length).toArray⟩) | 12 => SRel.is (.bool true) | 13 => SRel.is (.bool true) | _ => SRel.any) (by kernel_rfl) (by kernel_rfl) (by kernel_rfl) (by kernel_rfl) ⟨?_, ?_, ?_, ?_, ?_, ?_, ?_, ?_, ?_, ?_, ?_, ?_, ?_, ?_, trivial⟩ ?_
  · refine calm_step rfl fun a ω κ hb hu hc hK => ?_
    have h9 : a.tmps[9]?.getD undef = .pointer (some ⟨gk, 0, none⟩) := hu 9 rfl
    have hk := Lib.hid (fun w1 (h : Below ω.heap.size ω w1) => hK (.agg (keyV F R)) w1 rfl h)
    clear hK hu hc
    have hr1 := (hKk.out.step hb).row
    have hr2 := (hKk.out.step hb).eq
    go_simp
    exact hk.out _ (Below.refl _ _)
  · refine calm_step rfl fun a ω κ hb hu hc hK => ?_
    have h5 : a.tmps[5]?.getD undef = .pointer (some ⟨w.heap.size, 0, none⟩) := hu 5 rfl
    have hk := Lib.hid (fun w1 (h : Below ω.heap.size ω w1) => hK (.agg (arrK .u8 16 iv)) w1 rfl h)
    clear hK hu hc
    have hr1 := (hVv.out.step hb).row
    have hr2 := (hVv.out.step hb).eq
    go_simp
    exact hk.out _ (Below.refl _ _)
  · refine calm_step rfl fun a ω κ hb hu hc hK => ?_
    have h2 : a.tmps[2]?.getD undef = .int .u64 (x : Nat) := hu 2 rfl
    have hk := Lib.hid (fun w1 (h : Below ω.heap.size ω w1) => hK (.int .u64 (x : Nat)) w1 rfl h)
    clear hK hu hc
    go_simp
    exact hk.out _ (Below.refl _ _)
  · refine calm_step rfl fun a ω κ hb hu hc hK => ?_
    have h3 : a.tmps[3]?.getD undef = .slice Ap p.length cp := hu 3 rfl
    have hk := Lib.hid (fun w1 (h : Below ω.heap.size ω w1) => hK (.slice Ap p.length cp) w1 rfl h)
    clear hK hu hc
    go_simp
    exact hk.out _ (Below.refl _ _)
  · refine calm_step rfl fun a ω κ hb hu hc hK => ?_
    have h29 : a.tmps[29]?.getD undef = .agg (keyV F R) := hc 0 29 rfl rfl
    have h30 : a.tmps[30]?.getD undef = .agg (arrK .u8 16 iv) := hc 1 30 rfl rfl
    have h31 : a.tmps[31]?.getD undef = .int .u64 (x : Nat) := hc 2 31 rfl rfl
    have h32 : a.tmps[32]?.getD undef = .slice Ap p.length cp := hc 3 32 rfl rfl
    have hk := Lib.hid (fun v w1 (hv : (SRel.bufT (strF F R iv x (byteAt p)) p.length).p v w1) (h : Below ω.heap.size ω w1) => hK v w1 hv h)
    clear hK hu hc
    go_simp
    go_at_call 20
    refine (mode_Stream Ap p p.length cp R x F iv ω (hP.out.step hb) rfl hcp (by omega) hF hv16).mono ?_
    rintro e w1 ⟨g1, rfl, hx1, hb1⟩
    exact hk.out _ _ ⟨g1, rfl, hx1⟩ hb1
  · refine calm_step rfl fun a ω κ hb hu hc hK => ?_
    have h33 : (SRel.bufT (strF F R iv x (byteAt p)) p.length).p (a.tmps[33]?.getD undef) ω := hc 4 33 rfl rfl
    have hk := Lib.hid (fun w1 (h : Below ω.heap.size ω w1) => hK (.string ⟨(bLs (strF F R iv x (byteAt p)) p.length).toArray⟩) w1 rfl h)
    clear hK hu hc
    obtain ⟨g1, hv1, hx1⟩ := h33
    have hcv := conv_bufT hx1 hse.out
    go_simp
    exact hk.out _ (Below.refl _ _)
  · refine calm_step rfl fun a ω κ hb hu hc hK => ?_
    have h11 : a.tmps[11]?.getD undef = .pointer (some ⟨C, 0, none⟩) := hu 11 rfl
    have hk := Lib.hid (fun w1 (h : Below ω.heap.size ω w1) => hK (.pointer (some ⟨C, 0, none⟩)) w1 rfl h)
    clear hK hu hc
    go_simp
    exact hk.out _ (Below.refl _ _)
  · refine calm_step rfl fun a ω κ hb hu hc hK => ?_
    have h5 : a.tmps[5]?.getD undef = .pointer (some ⟨w.heap.size, 0, none⟩) := hu 5 rfl
    have hk := Lib.hid (fun w1 (h : Below ω.heap.size ω w1) => hK (.agg (arrK .u8 16 iv)) w1 rfl h)
    clear hK hu hc
    have hr1 := (hVv.out.step hb).row
    have hr2 := (hVv.out.step hb).eq
    go_simp
    exact hk.out _ (Below.refl _ _)
  · refine calm_step rfl fun a ω κ hb hu hc hK => ?_
    have h2 : a.tmps[2]?.getD undef = .int .u64 (x : Nat) := hu 2 rfl
    have hk := Lib.hid (fun w1 (h : Below ω.heap.size ω w1) => hK (.int .u64 (x : Nat)) w1 rfl h)
    clear hK hu hc
    go_simp
    exact hk.out _ (Below.refl _ _)
  · refine calm_step rfl fun a ω κ hb hu hc hK => ?_
    have h3 : a.tmps[3]?.getD undef = .slice Ap p.length cp := hu 3 rfl
    have hk := Lib.hid (fun w1 (h : Below ω.heap.size ω w1) => hK (.slice Ap p.length cp) w1 rfl h)
    clear hK hu hc
    go_simp
    exact hk.out _ (Below.refl _ _)
  · refine calm_step rfl fun a ω κ hb hu hc hK => ?_
    have h38 : a.tmps[38]?.getD undef = .slice Ap p.length cp := hc 9 38 rfl rfl
    have hk := Lib.hid (fun w1 (h : Below ω.heap.size ω w1) => hK (.string ⟨p.toArray⟩) w1 rfl h)
    clear hK hu hc
    have hcv := convK (c := cp) (hP.out.step hb)
    go_simp
    exact hk.out _ (Below.refl _ _)
  · refine calm_step rfl fun a ω κ hb hu hc hK => ?_
    have h35 : a.tmps[35]?.getD undef = .pointer (some ⟨C, 0, none⟩) := hc 6 35 rfl rfl
    have h36 : a.tmps[36]?.getD undef = .agg (arrK .u8 16 iv) := hc 7 36 rfl rfl
    have h37 : a.tmps[37]?.getD undef = .int .u64 (x : Nat) := hc 8 37 rfl rfl
    have h39 : a.tmps[39]?.getD undef = .string ⟨p.toArray⟩ := hc 10 39 rfl rfl
    have hk := Lib.hid (fun w1 (h : Below ω.heap.size ω w1) => hK (.string ⟨(bLs (strF F R iv x (byteAt p)) p.length).toArray⟩) w1 rfl h)
    clear hK hu hc
    have hC := hCc.out.step hb
    go_simp
    go_at_call 21
    refine (ref_Streamed p p.length C g cap N R x F iv _ hC hHN.out (by omega) hF hv16 rfl (by have := hcp; omega)).mono ?_
    rintro e w1 ⟨rfl, hb1⟩
    exact hk.out _ hb1
  · refine calm_step rfl fun a ω κ hb hu hc hK => ?_
    have h34 : a.tmps[34]?.getD undef = .string ⟨(bLs (strF F R iv x (byteAt p)) p.length).toArray⟩ := hc 5 34 rfl rfl
    have h40 : a.tmps[40]?.getD undef = .string ⟨(bLs (strF F R iv x (byteAt p)) p.length).toArray⟩ := hc 11 40 rfl rfl
    have hk := Lib.hid (fun w1 (h : Below ω.heap.size ω w1) => hK (.bool true) w1 rfl h)
    clear hK hu hc
    go_simp
    exact hk.out _ (Below.refl _ _)
  · refine calm_step rfl fun a ω κ hb hu hc hK => ?_
    have h41 : a.tmps[41]?.getD undef = .bool true := hc 12 41 rfl rfl
    have hk := Lib.hid (fun w1 (h : Below ω.heap.size ω w1) => hK (.bool true) w1 rfl h)
    clear hK hu hc
    go_simp
    exact hk.out _ (Below.refl _ _)
  · intro a w' hb hu hsz hdf hc
    have h8 : a.tmps[8]?.getD undef = .bool true := hc 13 8 rfl
    go_wp2
    exact ret_tmp rfl h8 hdf ⟨rfl, below_step hb hL5 (Nat.le_refl _)⟩
end Go.Proofs.Ytjihklaocgmlpaa
