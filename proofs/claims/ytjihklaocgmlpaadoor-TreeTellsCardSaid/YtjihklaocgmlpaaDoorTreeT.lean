/- TreeTells: the law's function returns true. -/
import Derived.Test.YtjihklaocgmlpaaDoorTreeV
import Derived.Test.YtjihklaocgmlpaaDoorTreeS
import Derived.Test.YtjihklaocgmlpaaDoorTreeE
import Derived.Test.YtjihklaocgmlpaaDoorCalm
namespace Go.Proofs.YtjihklaocgmlpaaDoor
open Go.ChangeShapes Go.WideShapes Go.ChangeAt Go.RowKit
set_option maxHeartbeats 1000000
set_option maxRecDepth 100000
attribute [local irreducible] arrV dgA sha
attribute [local go_sem ↓] load_o32 store_o32 execl_o32 execs_o32 load_e32 execl_e32
attribute [local go_sem] isHead_mk isPart_mk offOf_mk blkOf_mk isAgg_mk cellsV_mk row_drew rowAt_drew row_new_cells row_old rowAt_new rowAt_old zeroD ldOk_drew ldC_drew

theorem paths (K : Nat → W32) (l : List Sb) (A : Option Addr) (n c : Nat) (i : Int) (w0 : World) (hl : l.length = n) (hn : n ≤ 60) (hT : Tabs K w0) (hI : Lf w0 A l c) :
    ∃ (P : List (List UInt8)) (ex : Int), P.length ≤ 60 ∧
      (∀ w, Below w0.heap.size w0 w → Calls Tryd.prog 14 #[.slice A n c, .int .i64 i] w fun e w' => ∃ A1 c1, e = .returned (.tuple #[.slice A1 P.length c1, .int .i64 ex]) ∧ Pt w' A1 P c1 ∧ Below w.heap.size w w') ∧
      (∀ w, Below w0.heap.size w0 w → Calls Tryd.prog 15 #[.slice A n c, .int .i64 i] w fun e w' => ∃ A1 c1, e = .returned (.tuple #[.slice A1 P.length c1, .int .i64 ex]) ∧ Pt w' A1 P c1 ∧ Below w.heap.size w w') := by
  by_cases h : 0 ≤ i ∧ i < n
  · obtain ⟨i, rfl⟩ := Int.eq_ofNat_of_zero_le h.1
    have hpl := pathL_len K l i
    refine ⟨pathL K l i, 0, by omega, fun w hb => (tree_Path K n l A c i w hl (by omega) (by omega) (hT.step hb) (hI.step hb)).mono ?_, fun w hb => (ref_Path K l A n c i w hl (by omega) (by omega) (hT.step hb) (hI.step hb)).mono ?_⟩ <;>
    · rintro e w' ⟨v, rfl, hO⟩
      obtain ⟨A1, c1, rfl, -, -⟩ := hO.form
      exact ⟨A1, c1, rfl, hO.pt, hO.bel⟩
  · have hP0 : ∀ w : World, Pt w none [] 0 := fun w => ⟨Rd.nil, fun x hx => by simp at hx, by simp, by omega⟩
    refine ⟨[], 1, by simp, fun w _ => (tree_Path_no A n c i w h).mono ?_, fun w _ => (ref_Path_no A n c i w h).mono ?_⟩ <;>
    · rintro e w' ⟨rfl, hb⟩
      exact ⟨none, 0, rfl, hP0 _, hb⟩
theorem treeTells (K : Nat → W32) (l : List Sb) (A : Option Addr) (n c : Nat) (i : Int) (B : Option Addr) (p : List UInt8) (cp : Nat) (da db : List UInt8) (w : World) (hl : l.length = n) (hT : Tabs K w) (hI : Lf w A l c) (hp : Bs w B p cp) (hpl : p.length ≤ 576460752303423488) (hal : da.length = 32) (hbl : db.length = 32) :
    Calls Tryd.prog 4 #[.slice A n c, .int .i64 i, .slice B p.length cp, .agg (dgA da), .agg (dgA db)] w fun e w' => e = .returned (.bool true) ∧ Below w.heap.size w w' := by
  have hca := dgA_cells da
  have hcb := dgA_cells db
  have hL0 : Below w.heap.size w ((w.alloc (Obj.cells (dgA da) 28)).alloc (Obj.cells (dgA db) 28)) := by go_grown
  have hA0 : Row ((w.alloc (Obj.cells (dgA da) 28)).alloc (Obj.cells (dgA db) 28)) w.heap.size 32 := by go_simp
  have ha0 : rowAt ((w.alloc (Obj.cells (dgA da) 28)).alloc (Obj.cells (dgA db) 28)) w.heap.size = dgA da := by go_simp
  have hB0 : Row ((w.alloc (Obj.cells (dgA da) 28)).alloc (Obj.cells (dgA db) 28)) (w.heap.size + 1) 32 := by go_simp
  have hb0 : rowAt ((w.alloc (Obj.cells (dgA da) 28)).alloc (Obj.cells (dgA db) 28)) (w.heap.size + 1) = dgA db := by go_simp
  by_cases hlen : 60 < n
  · have hd : decide ((60 : Int) < (n : Int)) = true := by simp; omega
    clear hT hI hp
    go_enter Tryd.func4, Tryd.ntmps4
    go_wp2
    go_ret
    exact ⟨rfl, hL0⟩
  · have hd : decide ((60 : Int) < (n : Int)) = false := by simp; omega
    obtain ⟨P, ex, hP60, hc1, hc2⟩ := paths K l A n c i _ hl (by omega) (hT.step hL0) (hI.step hL0)
    have hC1 := Lib.hid hc1
    have hC2 := Lib.hid hc2
    have hT0 := Lib.hid (hT.step hL0)
    have hI0 := Lib.hid (hI.step hL0)
    have hp0 := Lib.hid (hp.step hL0)
    clear hT hI hp hc1 hc2
    go_enter Tryd.func4, Tryd.ntmps4
    go_wp2_with fail
    generalize ((w.alloc (Obj.cells (dgA da) 28)).alloc (Obj.cells (dgA db) 28)) = W0 at *
    refine (hC1.out _ (Below.refl _ _)).mono ?_
    rintro e w1 ⟨A1, c1, rfl, hP1, hb1⟩
    have hP1' := Lib.hid hP1
    clear hP1
    go_wp2_with fail
    refine (hC2.out _ hb1).mono ?_
    rintro e w2 ⟨A2, c2, rfl, hP2, hb2⟩
    have hPa := Lib.hid (hP1'.out.step hb2)
    have hPb := Lib.hid hP2
    have hb3 := below_step hb2 hb1 (Nat.le_refl _)
    have hL2 := below_step hb3 hL0 (Nat.le_refl _)
    have hT2 := Lib.hid (hT0.out.step hb3)
    have hI2 := Lib.hid (hI0.out.step hb3)
    have hp2 := Lib.hid (hp0.out.step hb3)
    have hSa := Lib.hid (show ∀ ω, Below w2.heap.size w2 ω → Row ω w.heap.size 32 ∧ rowAt ω w.heap.size = dgA da from fun ω hb => ⟨row_below hA0 (below_step hb hb3 (Nat.le_refl _)) hA0.lt, (rowAt_below (below_step hb hb3 (Nat.le_refl _)) hA0.lt).trans ha0⟩)
    have hSb := Lib.hid (show ∀ ω, Below w2.heap.size w2 ω → Row ω (w.heap.size + 1) 32 ∧ rowAt ω (w.heap.size + 1) = dgA db from fun ω hb => ⟨row_below hB0 (below_step hb hb3 (Nat.le_refl _)) hB0.lt, (rowAt_below (below_step hb hb3 (Nat.le_refl _)) hB0.lt).trans hb0⟩)
    have hLl := leaf_len K p
    have hNl := node_len K da db
    have hRl := rootL_len K l
    have hLf := Lib.hid (show ∀ ω, Below w2.heap.size w2 ω → _ from fun ω hb => tree_Leaf K B p cp ω (hT2.out.step hb) (hp2.out.step hb))
    have hLr := Lib.hid (show ∀ ω, Below w2.heap.size w2 ω → _ from fun ω hb => ref_Leaf K p ω (hT2.out.step hb) hpl)
    have hCv := Lib.hid (show ∀ ω, Below w2.heap.size w2 ω → _ from fun ω hb => (hp2.out.step hb).conv)
    have hNf := Lib.hid (show ∀ ω, Below w2.heap.size w2 ω → _ from fun ω hb => tree_Node K da db ω (hT2.out.step hb) hal hbl)
    have hNr := Lib.hid (show ∀ ω, Below w2.heap.size w2 ω → _ from fun ω hb => ref_Node K da db ω (hT2.out.step hb) hal hbl)
    have hRf := Lib.hid (show ∀ ω, Below w2.heap.size w2 ω → _ from fun ω hb => tree_Root K n l A c ω hl (hT2.out.step hb) (hI2.out.step hb))
    have hRr := Lib.hid (show ∀ ω, Below w2.heap.size w2 ω → _ from fun ω hb => ref_Root K l A n c ω hl (by omega) (hT2.out.step hb) (hI2.out.step hb))
    have hEq := Lib.hid (show ∀ ω, Below w2.heap.size w2 ω → _ from fun ω hb => eq_digests A1 A2 P c1 c2 ω (hPa.out.step hb) (hPb.out.step hb) (by omega))
    have hE := Lib.hid (show ∀ (x : List UInt8) (_ : x.length = 32) (ω : World), (binOp .eql 28 (.agg (dgA x)) (.agg (dgA x))).run Tryd.prog ω = .ok (.bool true) ω from fun x hx ω => by rw [eqlD hx hx]; simp)
    have hEi := Lib.hid (show ∀ (x : List UInt8) (ω : World), (Op.equalIn 10000 28 (.agg (dgA x)) (.agg (dgA x))).run Tryd.prog ω = .ok true ω from fun x ω => by unfold dgA; rw [show 10000 = 9998 + 2 from rfl, run_equalIn_arrK Tryd.underlying28 Tryd.underlying5 (by kernel_rfl)]; simp)
    generalize leafL K p = L at *
    generalize nodeL K da db = N at *
    generalize rootL K l = R at *
    clear hP2 hP1' hPa hPb hC1 hC2 hT0 hI0 hp0 hT2 hI2 hp2 hb1 hb2 hA0 ha0 hB0 hb0 hL0 hb3
    go_wp2_with fail
    generalize ha0 : Act.mk _ _ = a0
    have e0 : a0.tmps[0]?.getD undef = .slice A n c := by rw [← ha0]; rfl
    have e2 : a0.tmps[2]?.getD undef = .slice B p.length cp := by rw [← ha0]; rfl
    have e8 : a0.tmps[8]?.getD undef = .pointer (some ⟨w.heap.size, 0, none⟩) := by rw [← ha0]; rfl
    have e9 : a0.tmps[9]?.getD undef = .pointer (some ⟨w.heap.size + 1, 0, none⟩) := by rw [← ha0]; rfl
    have e11 : a0.tmps[11]?.getD undef = .slice A1 P.length c1 := by rw [← ha0]; rfl
    have e12 : a0.tmps[12]?.getD undef = .int .i64 ex := by rw [← ha0]; rfl
    have e13 : a0.tmps[13]?.getD undef = .slice A2 P.length c2 := by rw [← ha0]; rfl
    have e14 : a0.tmps[14]?.getD undef = .int .i64 ex := by rw [← ha0]; rfl
    have hz0 : a0.tmps.size = 62 := by rw [← ha0]; rfl
    have hha0 := Lib.hid ha0
    clear ha0
    refine wp_region_calm (fun jx_ => match jx_ with | 0 => SRel.is (.slice B p.length cp) | 1 => SRel.is (.agg (dgA L)) | 2 => SRel.is (.slice B p.length cp) | 3 => SRel.is (strV p) | 4 => SRel.is (.agg (dgA L)) | 5 => SRel.is (.bool true) | 6 => SRel.is (.bool true) | 7 => SRel.is (.agg (dgA da)) | 8 => SRel.is (.agg (dgA db)) | 9 => SRel.is (.agg (dgA N)) | 10 => SRel.is (.agg (dgA da)) | 11 => SRel.is (.agg (dgA db)) | 12 => SRel.is (.agg (dgA N)) | 13 => SRel.is (.bool true) | 14 => SRel.is (.bool true) | 15 => SRel.is (.bool true) | 16 => SRel.is (.slice A n c) | 17 => SRel.is (.agg (dgA R)) | 18 => SRel.is (.slice A n c) | 19 => SRel.is (.agg (dgA R)) | 20 => SRel.is (.bool true) | 21 => SRel.is (.bool true) | 22 => SRel.is (.bool true) | 23 => SRel.is (.slice A1 P.length c1) | 24 => SRel.is (.slice A2 P.length c2) | 25 => SRel.is (.bool true) | 26 => SRel.is (.bool true) | 27 => SRel.is (.bool true) | 28 => SRel.is (.int .i64 ex) | 29 => SRel.is (.int .i64 ex) | 30 => SRel.is (.bool true) | 31 => SRel.is (.bool true) | 32 => SRel.is (.bool true) | _ => SRel.any) (by kernel_rfl) (by kernel_rfl) (by kernel_rfl) (slotsOk_of hz0 (by kernel_rfl)) ⟨?_, ?_, ?_, ?_, ?_, ?_, ?_, ?_, ?_, ?_, ?_, ?_, ?_, ?_, ?_, ?_, ?_, ?_, ?_, ?_, ?_, ?_, ?_, ?_, ?_, ?_, ?_, ?_, ?_, ?_, ?_, ?_, ?_, trivial⟩ ?_
    · refine calm_step rfl fun a ω κ hb hu hc hK => ?_
      have h2 : a.tmps[2]?.getD undef = .slice B p.length cp := (hu 2 rfl).trans e2
      have hk := Lib.hid (fun w1 (h : Below ω.heap.size ω w1) => hK (.slice B p.length cp) w1 rfl h)
      clear hK hu hc
      go_simp
      exact hk.out _ (Below.refl _ _)
    · refine calm_step rfl fun a ω κ hb hu hc hK => ?_
      have h30 : a.tmps[30]?.getD undef = .slice B p.length cp := hc 0 30 rfl rfl
      have hk := Lib.hid (fun w1 (h : Below ω.heap.size ω w1) => hK (.agg (dgA L)) w1 rfl h)
      clear hK hu hc
      go_simp
      go_at_call 16
      refine (hLf.out ω hb).mono ?_
      rintro e w1 ⟨rfl, hb1⟩
      exact hk.out _ hb1
    · refine calm_step rfl fun a ω κ hb hu hc hK => ?_
      have h2 : a.tmps[2]?.getD undef = .slice B p.length cp := (hu 2 rfl).trans e2
      have hk := Lib.hid (fun w1 (h : Below ω.heap.size ω w1) => hK (.slice B p.length cp) w1 rfl h)
      clear hK hu hc
      go_simp
      exact hk.out _ (Below.refl _ _)
    · refine calm_step rfl fun a ω κ hb hu hc hK => ?_
      have h32 : a.tmps[32]?.getD undef = .slice B p.length cp := hc 2 32 rfl rfl
      have hk := Lib.hid (fun w1 (h : Below ω.heap.size ω w1) => hK (strV p) w1 rfl h)
      clear hK hu hc
      have hq := hCv.out ω hb
      go_simp
      exact hk.out _ (Below.refl _ _)
    · refine calm_step rfl fun a ω κ hb hu hc hK => ?_
      have h33 : a.tmps[33]?.getD undef = strV p := hc 3 33 rfl rfl
      have hk := Lib.hid (fun w1 (h : Below ω.heap.size ω w1) => hK (.agg (dgA L)) w1 rfl h)
      clear hK hu hc
      go_simp
      go_at_call 17
      refine (hLr.out ω hb).mono ?_
      rintro e w1 ⟨rfl, hb1⟩
      exact hk.out _ hb1
    · refine calm_step rfl fun a ω κ hb hu hc hK => ?_
      have h31 : a.tmps[31]?.getD undef = .agg (dgA L) := hc 1 31 rfl rfl
      have h34 : a.tmps[34]?.getD undef = .agg (dgA L) := hc 4 34 rfl rfl
      have hk := Lib.hid (fun w1 (h : Below ω.heap.size ω w1) => hK (.bool true) w1 rfl h)
      clear hK hu hc
      have hq := hEi.out L ω
      go_simp
      exact hk.out _ (Below.refl _ _)
    · refine calm_step rfl fun a ω κ hb hu hc hK => ?_
      have h35 : a.tmps[35]?.getD undef = .bool true := hc 5 35 rfl rfl
      have hk := Lib.hid (fun w1 (h : Below ω.heap.size ω w1) => hK (.bool true) w1 rfl h)
      clear hK hu hc
      go_simp
      exact hk.out _ (Below.refl _ _)
    · refine calm_step_guard (g := 6) (b := true) (d := 36) rfl rfl (fun a w hc => hc 6 36 rfl rfl) fun a ω κ hb hu hc hK => ?_
      have h8 : a.tmps[8]?.getD undef = .pointer (some ⟨w.heap.size, 0, none⟩) := (hu 8 rfl).trans e8
      have hk := Lib.hid (fun w1 (h : Below ω.heap.size ω w1) => hK (.agg (dgA da)) w1 rfl h)
      clear hK hu hc
      have hr := hSa.out ω hb
      have hr1 := hr.1
      have hr2 := hr.2
      clear hr
      go_simp
      exact hk.out _ (Below.refl _ _)
    · refine calm_step_guard (g := 6) (b := true) (d := 36) rfl rfl (fun a w hc => hc 6 36 rfl rfl) fun a ω κ hb hu hc hK => ?_
      have h9 : a.tmps[9]?.getD undef = .pointer (some ⟨w.heap.size + 1, 0, none⟩) := (hu 9 rfl).trans e9
      have hk := Lib.hid (fun w1 (h : Below ω.heap.size ω w1) => hK (.agg (dgA db)) w1 rfl h)
      clear hK hu hc
      have hr := hSb.out ω hb
      have hr1 := hr.1
      have hr2 := hr.2
      clear hr
      go_simp
      exact hk.out _ (Below.refl _ _)
    · refine calm_step_guard (g := 6) (b := true) (d := 36) rfl rfl (fun a w hc => hc 6 36 rfl rfl) fun a ω κ hb hu hc hK => ?_
      have h37 : a.tmps[37]?.getD undef = .agg (dgA da) := hc 7 37 rfl rfl
      have h38 : a.tmps[38]?.getD undef = .agg (dgA db) := hc 8 38 rfl rfl
      have hk := Lib.hid (fun w1 (h : Below ω.heap.size ω w1) => hK (.agg (dgA N)) w1 rfl h)
      clear hK hu hc
      go_simp
      go_at_call 18
      refine (hNf.out ω hb).mono ?_
      rintro e w1 ⟨rfl, hb1⟩
      exact hk.out _ hb1
    · refine calm_step_guard (g := 6) (b := true) (d := 36) rfl rfl (fun a w hc => hc 6 36 rfl rfl) fun a ω κ hb hu hc hK => ?_
      have h8 : a.tmps[8]?.getD undef = .pointer (some ⟨w.heap.size, 0, none⟩) := (hu 8 rfl).trans e8
      have hk := Lib.hid (fun w1 (h : Below ω.heap.size ω w1) => hK (.agg (dgA da)) w1 rfl h)
      clear hK hu hc
      have hr := hSa.out ω hb
      have hr1 := hr.1
      have hr2 := hr.2
      clear hr
      go_simp
      exact hk.out _ (Below.refl _ _)
    · refine calm_step_guard (g := 6) (b := true) (d := 36) rfl rfl (fun a w hc => hc 6 36 rfl rfl) fun a ω κ hb hu hc hK => ?_
      have h9 : a.tmps[9]?.getD undef = .pointer (some ⟨w.heap.size + 1, 0, none⟩) := (hu 9 rfl).trans e9
      have hk := Lib.hid (fun w1 (h : Below ω.heap.size ω w1) => hK (.agg (dgA db)) w1 rfl h)
      clear hK hu hc
      have hr := hSb.out ω hb
      have hr1 := hr.1
      have hr2 := hr.2
      clear hr
      go_simp
      exact hk.out _ (Below.refl _ _)
    · refine calm_step_guard (g := 6) (b := true) (d := 36) rfl rfl (fun a w hc => hc 6 36 rfl rfl) fun a ω κ hb hu hc hK => ?_
      have h40 : a.tmps[40]?.getD undef = .agg (dgA da) := hc 10 40 rfl rfl
      have h41 : a.tmps[41]?.getD undef = .agg (dgA db) := hc 11 41 rfl rfl
      have hk := Lib.hid (fun w1 (h : Below ω.heap.size ω w1) => hK (.agg (dgA N)) w1 rfl h)
      clear hK hu hc
      go_simp
      go_at_call 19
      refine (hNr.out ω hb).mono ?_
      rintro e w1 ⟨rfl, hb1⟩
      exact hk.out _ hb1
    · refine calm_step_guard (g := 6) (b := true) (d := 36) rfl rfl (fun a w hc => hc 6 36 rfl rfl) fun a ω κ hb hu hc hK => ?_
      have h39 : a.tmps[39]?.getD undef = .agg (dgA N) := hc 9 39 rfl rfl
      have h42 : a.tmps[42]?.getD undef = .agg (dgA N) := hc 12 42 rfl rfl
      have hk := Lib.hid (fun w1 (h : Below ω.heap.size ω w1) => hK (.bool true) w1 rfl h)
      clear hK hu hc
      have hq := hEi.out N ω
      go_simp
      exact hk.out _ (Below.refl _ _)
    · refine calm_step rfl fun a ω κ hb hu hc hK => ?_
      have h36 : a.tmps[36]?.getD undef = .bool true := hc 6 36 rfl rfl
      have h43 : a.tmps[43]?.getD undef = .bool true := hc 13 43 rfl rfl
      have hk := Lib.hid (fun w1 (h : Below ω.heap.size ω w1) => hK (.bool true) w1 rfl h)
      clear hK hu hc
      go_simp
      exact hk.out _ (Below.refl _ _)
    · refine calm_step rfl fun a ω κ hb hu hc hK => ?_
      have h44 : a.tmps[44]?.getD undef = .bool true := hc 14 44 rfl rfl
      have hk := Lib.hid (fun w1 (h : Below ω.heap.size ω w1) => hK (.bool true) w1 rfl h)
      clear hK hu hc
      go_simp
      exact hk.out _ (Below.refl _ _)
    · refine calm_step_guard (g := 15) (b := true) (d := 45) rfl rfl (fun a w hc => hc 15 45 rfl rfl) fun a ω κ hb hu hc hK => ?_
      have h0 : a.tmps[0]?.getD undef = .slice A n c := (hu 0 rfl).trans e0
      have hk := Lib.hid (fun w1 (h : Below ω.heap.size ω w1) => hK (.slice A n c) w1 rfl h)
      clear hK hu hc
      go_simp
      exact hk.out _ (Below.refl _ _)
    · refine calm_step_guard (g := 15) (b := true) (d := 45) rfl rfl (fun a w hc => hc 15 45 rfl rfl) fun a ω κ hb hu hc hK => ?_
      have h46 : a.tmps[46]?.getD undef = .slice A n c := hc 16 46 rfl rfl
      have hk := Lib.hid (fun w1 (h : Below ω.heap.size ω w1) => hK (.agg (dgA R)) w1 rfl h)
      clear hK hu hc
      go_simp
      go_at_call 20
      refine (hRf.out ω hb).mono ?_
      rintro e w1 ⟨rfl, hb1⟩
      exact hk.out _ hb1
    · refine calm_step_guard (g := 15) (b := true) (d := 45) rfl rfl (fun a w hc => hc 15 45 rfl rfl) fun a ω κ hb hu hc hK => ?_
      have h0 : a.tmps[0]?.getD undef = .slice A n c := (hu 0 rfl).trans e0
      have hk := Lib.hid (fun w1 (h : Below ω.heap.size ω w1) => hK (.slice A n c) w1 rfl h)
      clear hK hu hc
      go_simp
      exact hk.out _ (Below.refl _ _)
    · refine calm_step_guard (g := 15) (b := true) (d := 45) rfl rfl (fun a w hc => hc 15 45 rfl rfl) fun a ω κ hb hu hc hK => ?_
      have h48 : a.tmps[48]?.getD undef = .slice A n c := hc 18 48 rfl rfl
      have hk := Lib.hid (fun w1 (h : Below ω.heap.size ω w1) => hK (.agg (dgA R)) w1 rfl h)
      clear hK hu hc
      go_simp
      go_at_call 9
      refine (hRr.out ω hb).mono ?_
      rintro e w1 ⟨rfl, hb1⟩
      exact hk.out _ hb1
    · refine calm_step_guard (g := 15) (b := true) (d := 45) rfl rfl (fun a w hc => hc 15 45 rfl rfl) fun a ω κ hb hu hc hK => ?_
      have h47 : a.tmps[47]?.getD undef = .agg (dgA R) := hc 17 47 rfl rfl
      have h49 : a.tmps[49]?.getD undef = .agg (dgA R) := hc 19 49 rfl rfl
      have hk := Lib.hid (fun w1 (h : Below ω.heap.size ω w1) => hK (.bool true) w1 rfl h)
      clear hK hu hc
      have hq := hEi.out R ω
      go_simp
      exact hk.out _ (Below.refl _ _)
    · refine calm_step rfl fun a ω κ hb hu hc hK => ?_
      have h45 : a.tmps[45]?.getD undef = .bool true := hc 15 45 rfl rfl
      have h50 : a.tmps[50]?.getD undef = .bool true := hc 20 50 rfl rfl
      have hk := Lib.hid (fun w1 (h : Below ω.heap.size ω w1) => hK (.bool true) w1 rfl h)
      clear hK hu hc
      go_simp
      exact hk.out _ (Below.refl _ _)
    · refine calm_step rfl fun a ω κ hb hu hc hK => ?_
      have h51 : a.tmps[51]?.getD undef = .bool true := hc 21 51 rfl rfl
      have hk := Lib.hid (fun w1 (h : Below ω.heap.size ω w1) => hK (.bool true) w1 rfl h)
      clear hK hu hc
      go_simp
      exact hk.out _ (Below.refl _ _)
    · refine calm_step_guard (g := 22) (b := true) (d := 52) rfl rfl (fun a w hc => hc 22 52 rfl rfl) fun a ω κ hb hu hc hK => ?_
      have h11 : a.tmps[11]?.getD undef = .slice A1 P.length c1 := (hu 11 rfl).trans e11
      have hk := Lib.hid (fun w1 (h : Below ω.heap.size ω w1) => hK (.slice A1 P.length c1) w1 rfl h)
      clear hK hu hc
      go_simp
      exact hk.out _ (Below.refl _ _)
    · refine calm_step_guard (g := 22) (b := true) (d := 52) rfl rfl (fun a w hc => hc 22 52 rfl rfl) fun a ω κ hb hu hc hK => ?_
      have h13 : a.tmps[13]?.getD undef = .slice A2 P.length c2 := (hu 13 rfl).trans e13
      have hk := Lib.hid (fun w1 (h : Below ω.heap.size ω w1) => hK (.slice A2 P.length c2) w1 rfl h)
      clear hK hu hc
      go_simp
      exact hk.out _ (Below.refl _ _)
    · refine calm_step_guard (g := 22) (b := true) (d := 52) rfl rfl (fun a w hc => hc 22 52 rfl rfl) fun a ω κ hb hu hc hK => ?_
      have h53 : a.tmps[53]?.getD undef = .slice A1 P.length c1 := hc 23 53 rfl rfl
      have h54 : a.tmps[54]?.getD undef = .slice A2 P.length c2 := hc 24 54 rfl rfl
      have hk := Lib.hid (fun w1 (h : Below ω.heap.size ω w1) => hK (.bool true) w1 rfl h)
      clear hK hu hc
      go_simp
      go_at_call 10
      refine (hEq.out ω hb).mono ?_
      rintro e w1 ⟨rfl, hb1⟩
      exact hk.out _ hb1
    · refine calm_step rfl fun a ω κ hb hu hc hK => ?_
      have h52 : a.tmps[52]?.getD undef = .bool true := hc 22 52 rfl rfl
      have h55 : a.tmps[55]?.getD undef = .bool true := hc 25 55 rfl rfl
      have hk := Lib.hid (fun w1 (h : Below ω.heap.size ω w1) => hK (.bool true) w1 rfl h)
      clear hK hu hc
      go_simp
      exact hk.out _ (Below.refl _ _)
    · refine calm_step rfl fun a ω κ hb hu hc hK => ?_
      have h56 : a.tmps[56]?.getD undef = .bool true := hc 26 56 rfl rfl
      have hk := Lib.hid (fun w1 (h : Below ω.heap.size ω w1) => hK (.bool true) w1 rfl h)
      clear hK hu hc
      go_simp
      exact hk.out _ (Below.refl _ _)
    · refine calm_step_guard (g := 27) (b := true) (d := 57) rfl rfl (fun a w hc => hc 27 57 rfl rfl) fun a ω κ hb hu hc hK => ?_
      have h12 : a.tmps[12]?.getD undef = .int .i64 ex := (hu 12 rfl).trans e12
      have hk := Lib.hid (fun w1 (h : Below ω.heap.size ω w1) => hK (.int .i64 ex) w1 rfl h)
      clear hK hu hc
      go_simp
      exact hk.out _ (Below.refl _ _)
    · refine calm_step_guard (g := 27) (b := true) (d := 57) rfl rfl (fun a w hc => hc 27 57 rfl rfl) fun a ω κ hb hu hc hK => ?_
      have h14 : a.tmps[14]?.getD undef = .int .i64 ex := (hu 14 rfl).trans e14
      have hk := Lib.hid (fun w1 (h : Below ω.heap.size ω w1) => hK (.int .i64 ex) w1 rfl h)
      clear hK hu hc
      go_simp
      exact hk.out _ (Below.refl _ _)
    · refine calm_step_guard (g := 27) (b := true) (d := 57) rfl rfl (fun a w hc => hc 27 57 rfl rfl) fun a ω κ hb hu hc hK => ?_
      have h58 : a.tmps[58]?.getD undef = .int .i64 ex := hc 28 58 rfl rfl
      have h59 : a.tmps[59]?.getD undef = .int .i64 ex := hc 29 59 rfl rfl
      have hk := Lib.hid (fun w1 (h : Below ω.heap.size ω w1) => hK (.bool true) w1 rfl h)
      clear hK hu hc
      have hq : (ex == ex) = true := by simp
      go_simp
      exact hk.out _ (Below.refl _ _)
    · refine calm_step rfl fun a ω κ hb hu hc hK => ?_
      have h57 : a.tmps[57]?.getD undef = .bool true := hc 27 57 rfl rfl
      have h60 : a.tmps[60]?.getD undef = .bool true := hc 30 60 rfl rfl
      have hk := Lib.hid (fun w1 (h : Below ω.heap.size ω w1) => hK (.bool true) w1 rfl h)
      clear hK hu hc
      go_simp
      exact hk.out _ (Below.refl _ _)
    · refine calm_step rfl fun a ω κ hb hu hc hK => ?_
      have h61 : a.tmps[61]?.getD undef = .bool true := hc 31 61 rfl rfl
      have hk := Lib.hid (fun w1 (h : Below ω.heap.size ω w1) => hK (.bool true) w1 rfl h)
      clear hK hu hc
      go_simp
      exact hk.out _ (Below.refl _ _)
    · intro a w' hb hu hsz hdf hc
      have h6 : a.tmps[10]?.getD undef = .bool true := hc 32 10 rfl
      go_wp2
      exact ret_tmp rfl h6 (hdf.trans (by rw [← hha0.out])) ⟨rfl, below_step hb hL2 (Nat.le_refl _)⟩
end Go.Proofs.YtjihklaocgmlpaaDoor
