/- HashTells: the law's function returns true. -/
import Derived.Test.YtjfiokicnacbfaaDoorShaF
import Derived.Test.YtjfiokicnacbfaaDoorCalm
namespace Go.Proofs.YtjfiokicnacbfaaDoor
open Go.ChangeShapes Go.WideShapes Go.ChangeAt Go.RowKit
set_option maxHeartbeats 2000000
set_option maxRecDepth 100000
attribute [local irreducible] arrV
attribute [local go_sem ↓] load_state store_state execl_state execs_state load_words
attribute [local go_sem] isHead_mk isPart_mk offOf_mk blkOf_mk isAgg_mk cellsV_mk row_drew rowAt_drew row_new_cells row_old rowAt_new rowAt_old setRow_new zero_state bs_app

/-- The state behind l. -/
def st0 : St := ⟨iv, 0, fun _ => 0⟩
def stL (K : Nat → W32) (l : List UInt8) : St := st0.write K l
theorem stL_ok (K : Nat → W32) (l : List UInt8) : (stL K l).ok := St.write_ok l (stF_ok iv)
/-- Both tables hold K, from a world on. -/
structure Tabs (K : Nat → W32) (w : World) : Prop where
  c1 : ∀ i < 64, w.cell? ⟨0, i, none⟩ = some (u32v (K i))
  l1 : 0 < w.heap.size
  c2 : ∀ i < 64, w.cell? ⟨1, i, none⟩ = some (u32v (K i))
  l2 : 1 < w.heap.size
theorem Tabs.below {K : Nat → W32} {w w' : World} {B : Nat} (h : Tabs K w) (hb : Below B w w') (hB : w.heap.size ≤ B) : Tabs K w' :=
  ⟨fun i hi => ((bcell hb).1 _ _ (Nat.lt_of_lt_of_le h.l1 hB)).trans (h.c1 i hi), Nat.lt_of_lt_of_le h.l1 hb.size, fun i hi => ((bcell hb).1 _ _ (Nat.lt_of_lt_of_le h.l2 hB)).trans (h.c2 i hi), Nat.lt_of_lt_of_le h.l2 hb.size⟩
theorem Tabs.step {K : Nat → W32} {w w' : World} (hb : Below w.heap.size w w') (h : Tabs K w) : Tabs K w' := h.below hb (Nat.le_refl _)
/-- A slice of bytes. -/
structure Bs (w : World) (A : Option Addr) (l : List UInt8) (c : Nat) : Prop where
  rd : Rd w w.heap.size A (bytesV l)
  le : l.length ≤ c
  mx : c ≤ 9223372036854775807
theorem Bs.step {w w' : World} {A : Option Addr} {l : List UInt8} {c : Nat} (hb : Below w.heap.size w w') (h : Bs w A l c) : Bs w' A l c := ⟨(h.rd.below hb).more hb.size, h.le, h.mx⟩
theorem Bs.conv {w : World} {A : Option Addr} {l : List UInt8} {c : Nat} (h : Bs w A l c) : (convert 22 9 (.slice A l.length c)).run Tryd.prog w = .ok (strV l) w :=
  conv_rd Tryd.underlying22 Tryd.underlying5 Tryd.underlying9 h.rd
def SRel.bs (l : List UInt8) : SRel := ⟨fun v w => ∃ A c, v = .slice A l.length c ∧ Bs w A l c, fun _ _ _ hb ⟨A, c, h1, h2⟩ => ⟨A, c, h1, h2.step hb⟩⟩
section
variable {K : Nat → W32} {w : World} {A : Option Addr} {l : List UInt8} {c : Nat}
theorem sumC (hT : Tabs K w) (h : Bs w A l c) : Calls Tryd.prog 9 #[.slice A l.length c] w fun e w' => e = .returned (.agg (arrK .u8 32 (dig K iv 0 l))) ∧ Below w.heap.size w w' :=
  hash_Sum K A l c w h.rd h.le h.mx hT.c1 hT.l1
theorem rsumC (hT : Tabs K w) (hp : l.length ≤ 1152921504606846976) : Calls Tryd.prog 10 #[strV l] w fun e w' => e = .returned (.agg (arrK .u8 32 (dig K iv 0 l))) ∧ Below w.heap.size w w' :=
  ref_Sum K l w hp hT.c2 hT.l2
theorem writeC (hT : Tabs K w) (m : List UInt8) (h : Bs w A l c) : Calls Tryd.prog 8 #[.agg (stL K m).cells, .slice A l.length c] w fun e w' => e = .returned (.agg (stL K (m ++ l)).cells) ∧ Below w.heap.size w w' :=
  (hash_write K A l c (stL K m) w (stL_ok K m) h.rd h.le h.mx hT.c1 hT.l1).mono fun _ _ ⟨h1, h2⟩ => ⟨by rw [h1]; unfold stL; rw [write_app], h2⟩
theorem stSumC (hT : Tabs K w) (m : List UInt8) : Calls Tryd.prog 13 #[.agg (stL K m).cells] w fun e w' => e = .returned (.agg (arrK .u8 32 (dig K iv 0 m))) ∧ Below w.heap.size w w' :=
  (hash_StSum K (stL K m) w (stL_ok K m) hT.c1 hT.l1).mono fun _ _ ⟨h1, h2⟩ => ⟨h1.trans (congrArg (fun h => Ending.returned (Value.agg (arrK .u8 32 (outF h)))) (write_dig (K := K) (s := st0) (l := m) rfl (by show 0 < _; omega))), h2⟩
theorem newC0 (w : World) : Calls Tryd.prog 7 #[] w fun e w' => e = .returned (.agg (stL K []).cells) ∧ Below w.heap.size w w' := hash_new w
end
theorem hashTells (K : Nat → W32) (A B : Option Addr) (p q : List UInt8) (c d n : Nat) (w : World) (hT : Tabs K w) (hp : Bs w A p c) (hq : Bs w B q d) (hpl : p.length ≤ 576460752303423488) (hql : q.length ≤ 576460752303423488) :
    Calls Tryd.prog 3 #[.slice A p.length c, .slice B q.length d, .int .u64 n] w fun e w' => e = .returned (.bool true) ∧ Below w.heap.size w w' := by
  go_enter Tryd.func3, Tryd.ntmps3
  go_wp2_with fail
  refine (newC0 (K := K) _).mono ?_
  rintro e w1 ⟨rfl, hb1⟩
  have hT1 := Lib.hid (hT.step hb1)
  have hp1 := Lib.hid (hp.step hb1)
  have hq1 := Lib.hid (hq.step hb1)
  have hL1 := hb1
  go_wp2_with fail
  refine (writeC hT1.out [] hp1.out).mono ?_
  rintro e w2 ⟨rfl, hb2⟩
  have hT2 := Lib.hid (hT1.out.step hb2)
  have hp2 := Lib.hid (hp1.out.step hb2)
  have hq2 := Lib.hid (hq1.out.step hb2)
  have hL2 := below_step hb2 hL1 (Nat.le_refl _)
  have hcs : Cells (stL K p).cells 73 := stC_cells (stL K p).h (stL K p).m (stL K p).f
  have hRz : Row (w2.alloc (Obj.cells stZ 28)) w2.heap.size 73 := (row_new rfl).2 stZ_cells.1
  clear hb1 hb2 hL1 hT1 hp1 hq1 hT hp hq
  go_wp2_with fail
  have hT3 := Lib.hid (hT2.out.step (below_alloc w2 (Obj.cells (stL K p).cells 28)))
  have hp3 := Lib.hid (hp2.out.step (below_alloc w2 (Obj.cells (stL K p).cells 28)))
  have hq3 := Lib.hid (hq2.out.step (below_alloc w2 (Obj.cells (stL K p).cells 28)))
  have hL3 : Below w.heap.size w (w2.alloc (Obj.cells (stL K p).cells 28)) := hL2.alloc hL2.size _
  have hR3 : Row (w2.alloc (Obj.cells (stL K p).cells 28)) w2.heap.size 73 := (row_new rfl).2 hcs.1
  have hr3 : rowAt (w2.alloc (Obj.cells (stL K p).cells 28)) w2.heap.size = (stL K p).cells := rowAt_new rfl
  have hg3 : w2.heap.size < (w2.alloc (Obj.cells (stL K p).cells 28)).heap.size := by simp
  have hpq := Lib.hid (show p.length + q.length ≤ 1152921504606846976 by omega)
  clear hT2 hp2 hq2 hL2 hRz
  generalize (w2.alloc (Obj.cells (stL K p).cells 28)) = W at *
  generalize w2.heap.size = g at *
  have hS := Lib.hid (show ∀ w', Below W.heap.size W w' → Row w' g 73 ∧ rowAt w' g = (stL K p).cells ∧ (convert 22 9 (.slice A p.length c)).run Tryd.prog w' = .ok (strV p) w' ∧ (convert 22 9 (.slice B q.length d)).run Tryd.prog w' = .ok (strV q) w' ∧ Below W.heap.size W w' from fun w' hb =>
    ⟨row_below hR3 hb hg3, (rowAt_below hb hg3).trans hr3, (hp3.out.step hb).conv, (hq3.out.step hb).conv, hb⟩)
  have heq : ∀ (V : World) (f : Nat → Nat), (binOp .eql 31 (.agg (arrK .u8 32 f)) (.agg (arrK .u8 32 f))).run Tryd.prog V = .ok (.bool true) V := fun V f => by
    rw [run_eql_arrK Tryd.underlying31 Tryd.underlying5 (by kernel_rfl)]; simp
  clear hR3 hr3 hcs
  refine wp_region_calm (fun i => match i with | 0 => SRel.is (.slice A p.length c) | 1 => SRel.is (.agg (arrK .u8 32 (dig K iv 0 p))) | 2 => SRel.is (.slice A p.length c) | 3 => SRel.is (strV p) | 4 => SRel.is (.agg (arrK .u8 32 (dig K iv 0 p))) | 5 => SRel.is (.bool true) | 6 => SRel.is (.bool true) | 7 => SRel.is (.int .u64 n) | 8 => SRel.bs (padL n) | 9 => SRel.is (strV (padL n)) | 10 => SRel.is (.int .u64 n) | 11 => SRel.is (strV (padL n)) | 12 => SRel.is (.bool true) | 13 => SRel.is (.bool true) | 14 => SRel.is (.bool true) | 15 => SRel.is (.agg (stL K p).cells) | 16 => SRel.is (.slice B q.length d) | 17 => SRel.is (.agg (stL K (p ++ q)).cells) | 18 => SRel.is (.agg (arrK .u8 32 (dig K iv 0 (p ++ q)))) | 19 => SRel.is (.slice A p.length c) | 20 => SRel.is (strV p) | 21 => SRel.is (.slice B q.length d) | 22 => SRel.is (strV q) | 23 => SRel.is (strV (p ++ q)) | 24 => SRel.is (.agg (arrK .u8 32 (dig K iv 0 (p ++ q)))) | 25 => SRel.is (.bool true) | 26 => SRel.is (.bool true) | 27 => SRel.is (.bool true) | 28 => SRel.is (.agg (stL K p).cells) | 29 => SRel.is (.agg (arrK .u8 32 (dig K iv 0 p))) | 30 => SRel.is (.slice A p.length c) | 31 => SRel.is (strV p) | 32 => SRel.is (.agg (arrK .u8 32 (dig K iv 0 p))) | 33 => SRel.is (.bool true) | 34 => SRel.is (.bool true) | 35 => SRel.is (.bool true) | _ => SRel.any) (by kernel_rfl) (by kernel_rfl) (by kernel_rfl) (by kernel_rfl) ⟨?_, ?_, ?_, ?_, ?_, ?_, ?_, ?_, ?_, ?_, ?_, ?_, ?_, ?_, ?_, ?_, ?_, ?_, ?_, ?_, ?_, ?_, ?_, ?_, ?_, ?_, ?_, ?_, ?_, ?_, ?_, ?_, ?_, ?_, ?_, ?_, trivial⟩ ?_
  · refine calm_step rfl fun a ω κ hb hu hc hK => ?_
    have h0 : a.tmps[0]?.getD undef = .slice A p.length c := hu 0 rfl
    have hk := Lib.hid (fun w1 (h : Below ω.heap.size ω w1) => hK (.slice A p.length c) w1 rfl h)
    clear hK hu hc
    go_simp
    exact hk.out _ (Below.refl _ _)
  · refine calm_step rfl fun a ω κ hb hu hc hK => ?_
    have h11 : a.tmps[11]?.getD undef = .slice A p.length c := hc 0 11 rfl rfl
    have hk := Lib.hid (fun w1 (h : Below ω.heap.size ω w1) => hK (.agg (arrK .u8 32 (dig K iv 0 p))) w1 rfl h)
    clear hK hu hc
    go_simp
    go_at_call 9
    refine (sumC (K := K) (hT3.out.step hb) (hp3.out.step hb)).mono ?_
    rintro e w1 ⟨rfl, hb1⟩
    exact hk.out _ hb1
  · refine calm_step rfl fun a ω κ hb hu hc hK => ?_
    have h0 : a.tmps[0]?.getD undef = .slice A p.length c := hu 0 rfl
    have hk := Lib.hid (fun w1 (h : Below ω.heap.size ω w1) => hK (.slice A p.length c) w1 rfl h)
    clear hK hu hc
    go_simp
    exact hk.out _ (Below.refl _ _)
  · refine calm_step rfl fun a ω κ hb hu hc hK => ?_
    have h13 : a.tmps[13]?.getD undef = .slice A p.length c := hc 2 13 rfl rfl
    have hk := Lib.hid (fun w1 (h : Below ω.heap.size ω w1) => hK (strV p) w1 rfl h)
    clear hK hu hc
    have hcv := (hp3.out.step hb).conv
    go_simp
    exact hk.out _ (Below.refl _ _)
  · refine calm_step rfl fun a ω κ hb hu hc hK => ?_
    have h14 : a.tmps[14]?.getD undef = strV p := hc 3 14 rfl rfl
    have hk := Lib.hid (fun w1 (h : Below ω.heap.size ω w1) => hK (.agg (arrK .u8 32 (dig K iv 0 p))) w1 rfl h)
    clear hK hu hc
    go_simp
    go_at_call 10
    refine (rsumC (K := K) (hT3.out.step hb) (by omega)).mono ?_
    rintro e w1 ⟨rfl, hb1⟩
    exact hk.out _ hb1
  · refine calm_step rfl fun a ω κ hb hu hc hK => ?_
    have h12 : a.tmps[12]?.getD undef = .agg (arrK .u8 32 (dig K iv 0 p)) := hc 1 12 rfl rfl
    have h15 : a.tmps[15]?.getD undef = .agg (arrK .u8 32 (dig K iv 0 p)) := hc 4 15 rfl rfl
    have hk := Lib.hid (fun w1 (h : Below ω.heap.size ω w1) => hK (.bool true) w1 rfl h)
    clear hK hu hc
    have hq := heq ω
    go_simp
    exact hk.out _ (Below.refl _ _)
  · refine calm_step rfl fun a ω κ hb hu hc hK => ?_
    have h16 : a.tmps[16]?.getD undef = .bool true := hc 5 16 rfl rfl
    have hk := Lib.hid (fun w1 (h : Below ω.heap.size ω w1) => hK (.bool true) w1 rfl h)
    clear hK hu hc
    go_simp
    exact hk.out _ (Below.refl _ _)
  · refine calm_step_guard (g := 6) (b := true) (d := 17) rfl rfl (fun a w hc => hc 6 17 rfl rfl) fun a ω κ hb hu hc hK => ?_
    have h2 : a.tmps[2]?.getD undef = .int .u64 n := hu 2 rfl
    have hk := Lib.hid (fun w1 (h : Below ω.heap.size ω w1) => hK (.int .u64 n) w1 rfl h)
    clear hK hu hc
    go_simp
    exact hk.out _ (Below.refl _ _)
  · refine calm_step_guard (g := 6) (b := true) (d := 17) rfl rfl (fun a w hc => hc 6 17 rfl rfl) fun a ω κ hb hu hc hK => ?_
    have h18 : a.tmps[18]?.getD undef = .int .u64 n := hc 7 18 rfl rfl
    have hk := Lib.hid (fun v w1 (hv : (SRel.bs (padL n)).p v w1) (h : Below ω.heap.size ω w1) => hK v w1 hv h)
    clear hK hu hc
    go_simp
    go_at_call 11
    refine (hash_Pad n _).mono ?_
    rintro e w1 ⟨A1, c1, rfl, hl1, hm1, hr1, hb1⟩
    exact hk.out _ _ ⟨A1, c1, rfl, ⟨hr1, hl1, hm1⟩⟩ hb1
  · refine calm_step_guard (g := 6) (b := true) (d := 17) rfl rfl (fun a w hc => hc 6 17 rfl rfl) fun a ω κ hb hu hc hK => ?_
    have h19 : (SRel.bs (padL n)).p (a.tmps[19]?.getD undef) ω := hc 8 19 rfl rfl
    have hk := Lib.hid (fun w1 (h : Below ω.heap.size ω w1) => hK (strV (padL n)) w1 rfl h)
    clear hK hu hc
    obtain ⟨A1, c1, h1, h2⟩ := h19
    have hcv := h2.conv
    go_simp
    exact hk.out _ (Below.refl _ _)
  · refine calm_step_guard (g := 6) (b := true) (d := 17) rfl rfl (fun a w hc => hc 6 17 rfl rfl) fun a ω κ hb hu hc hK => ?_
    have h2 : a.tmps[2]?.getD undef = .int .u64 n := hu 2 rfl
    have hk := Lib.hid (fun w1 (h : Below ω.heap.size ω w1) => hK (.int .u64 n) w1 rfl h)
    clear hK hu hc
    go_simp
    exact hk.out _ (Below.refl _ _)
  · refine calm_step_guard (g := 6) (b := true) (d := 17) rfl rfl (fun a w hc => hc 6 17 rfl rfl) fun a ω κ hb hu hc hK => ?_
    have h21 : a.tmps[21]?.getD undef = .int .u64 n := hc 10 21 rfl rfl
    have hk := Lib.hid (fun w1 (h : Below ω.heap.size ω w1) => hK (strV (padL n)) w1 rfl h)
    clear hK hu hc
    go_simp
    go_at_call 12
    refine (ref_PadText n _).mono ?_
    rintro e w1 ⟨rfl, hb1⟩
    exact hk.out _ hb1
  · refine calm_step_guard (g := 6) (b := true) (d := 17) rfl rfl (fun a w hc => hc 6 17 rfl rfl) fun a ω κ hb hu hc hK => ?_
    have h20 : a.tmps[20]?.getD undef = strV (padL n) := hc 9 20 rfl rfl
    have h22 : a.tmps[22]?.getD undef = strV (padL n) := hc 11 22 rfl rfl
    have hk := Lib.hid (fun w1 (h : Below ω.heap.size ω w1) => hK (.bool true) w1 rfl h)
    clear hK hu hc
    go_simp
    exact hk.out _ (Below.refl _ _)
  · refine calm_step rfl fun a ω κ hb hu hc hK => ?_
    have h17 : a.tmps[17]?.getD undef = .bool true := hc 6 17 rfl rfl
    have h23 : a.tmps[23]?.getD undef = .bool true := hc 12 23 rfl rfl
    have hk := Lib.hid (fun w1 (h : Below ω.heap.size ω w1) => hK (.bool true) w1 rfl h)
    clear hK hu hc
    go_simp
    exact hk.out _ (Below.refl _ _)
  · refine calm_step rfl fun a ω κ hb hu hc hK => ?_
    have h24 : a.tmps[24]?.getD undef = .bool true := hc 13 24 rfl rfl
    have hk := Lib.hid (fun w1 (h : Below ω.heap.size ω w1) => hK (.bool true) w1 rfl h)
    clear hK hu hc
    go_simp
    exact hk.out _ (Below.refl _ _)
  · refine calm_step_guard (g := 14) (b := true) (d := 25) rfl rfl (fun a w hc => hc 14 25 rfl rfl) fun a ω κ hb hu hc hK => ?_
    have h7 : a.tmps[7]?.getD undef = .pointer (some ⟨g, 0, none⟩) := hu 7 rfl
    have hk := Lib.hid (fun w1 (h : Below ω.heap.size ω w1) => hK (.agg (stL K p).cells) w1 rfl h)
    clear hK hu hc
    have hr := hS.out ω hb
    have hr1 := hr.1
    have hr2 := hr.2
    clear hr
    go_simp
    exact hk.out _ (Below.refl _ _)
  · refine calm_step_guard (g := 14) (b := true) (d := 25) rfl rfl (fun a w hc => hc 14 25 rfl rfl) fun a ω κ hb hu hc hK => ?_
    have h1 : a.tmps[1]?.getD undef = .slice B q.length d := hu 1 rfl
    have hk := Lib.hid (fun w1 (h : Below ω.heap.size ω w1) => hK (.slice B q.length d) w1 rfl h)
    clear hK hu hc
    go_simp
    exact hk.out _ (Below.refl _ _)
  · refine calm_step_guard (g := 14) (b := true) (d := 25) rfl rfl (fun a w hc => hc 14 25 rfl rfl) fun a ω κ hb hu hc hK => ?_
    have h26 : a.tmps[26]?.getD undef = .agg (stL K p).cells := hc 15 26 rfl rfl
    have h27 : a.tmps[27]?.getD undef = .slice B q.length d := hc 16 27 rfl rfl
    have hk := Lib.hid (fun w1 (h : Below ω.heap.size ω w1) => hK (.agg (stL K (p ++ q)).cells) w1 rfl h)
    clear hK hu hc
    go_simp
    go_at_call 8
    refine (writeC (K := K) (hT3.out.step hb) p (hq3.out.step hb)).mono ?_
    rintro e w1 ⟨rfl, hb1⟩
    exact hk.out _ hb1
  · refine calm_step_guard (g := 14) (b := true) (d := 25) rfl rfl (fun a w hc => hc 14 25 rfl rfl) fun a ω κ hb hu hc hK => ?_
    have h28 : a.tmps[28]?.getD undef = .agg (stL K (p ++ q)).cells := hc 17 28 rfl rfl
    have hk := Lib.hid (fun w1 (h : Below ω.heap.size ω w1) => hK (.agg (arrK .u8 32 (dig K iv 0 (p ++ q)))) w1 rfl h)
    clear hK hu hc
    go_simp
    go_at_call 13
    refine (stSumC (K := K) (hT3.out.step hb) (p ++ q)).mono ?_
    rintro e w1 ⟨rfl, hb1⟩
    exact hk.out _ hb1
  · refine calm_step_guard (g := 14) (b := true) (d := 25) rfl rfl (fun a w hc => hc 14 25 rfl rfl) fun a ω κ hb hu hc hK => ?_
    have h0 : a.tmps[0]?.getD undef = .slice A p.length c := hu 0 rfl
    have hk := Lib.hid (fun w1 (h : Below ω.heap.size ω w1) => hK (.slice A p.length c) w1 rfl h)
    clear hK hu hc
    go_simp
    exact hk.out _ (Below.refl _ _)
  · refine calm_step_guard (g := 14) (b := true) (d := 25) rfl rfl (fun a w hc => hc 14 25 rfl rfl) fun a ω κ hb hu hc hK => ?_
    have h30 : a.tmps[30]?.getD undef = .slice A p.length c := hc 19 30 rfl rfl
    have hk := Lib.hid (fun w1 (h : Below ω.heap.size ω w1) => hK (strV p) w1 rfl h)
    clear hK hu hc
    have hcv := (hp3.out.step hb).conv
    go_simp
    exact hk.out _ (Below.refl _ _)
  · refine calm_step_guard (g := 14) (b := true) (d := 25) rfl rfl (fun a w hc => hc 14 25 rfl rfl) fun a ω κ hb hu hc hK => ?_
    have h1 : a.tmps[1]?.getD undef = .slice B q.length d := hu 1 rfl
    have hk := Lib.hid (fun w1 (h : Below ω.heap.size ω w1) => hK (.slice B q.length d) w1 rfl h)
    clear hK hu hc
    go_simp
    exact hk.out _ (Below.refl _ _)
  · refine calm_step_guard (g := 14) (b := true) (d := 25) rfl rfl (fun a w hc => hc 14 25 rfl rfl) fun a ω κ hb hu hc hK => ?_
    have h32 : a.tmps[32]?.getD undef = .slice B q.length d := hc 21 32 rfl rfl
    have hk := Lib.hid (fun w1 (h : Below ω.heap.size ω w1) => hK (strV q) w1 rfl h)
    clear hK hu hc
    have hcv := (hq3.out.step hb).conv
    go_simp
    exact hk.out _ (Below.refl _ _)
  · refine calm_step_guard (g := 14) (b := true) (d := 25) rfl rfl (fun a w hc => hc 14 25 rfl rfl) fun a ω κ hb hu hc hK => ?_
    have h31 : a.tmps[31]?.getD undef = strV p := hc 20 31 rfl rfl
    have h33 : a.tmps[33]?.getD undef = strV q := hc 22 33 rfl rfl
    have hk := Lib.hid (fun w1 (h : Below ω.heap.size ω w1) => hK (strV (p ++ q)) w1 rfl h)
    clear hK hu hc
    have hle : (9223372036854775807 < p.length + q.length) = False := eq_false (by omega)
    go_simp
    exact hk.out _ (Below.refl _ _)
  · refine calm_step_guard (g := 14) (b := true) (d := 25) rfl rfl (fun a w hc => hc 14 25 rfl rfl) fun a ω κ hb hu hc hK => ?_
    have h34 : a.tmps[34]?.getD undef = strV (p ++ q) := hc 23 34 rfl rfl
    have hk := Lib.hid (fun w1 (h : Below ω.heap.size ω w1) => hK (.agg (arrK .u8 32 (dig K iv 0 (p ++ q)))) w1 rfl h)
    clear hK hu hc
    go_simp
    go_at_call 10
    refine (rsumC (K := K) (hT3.out.step hb) (by simpa using hpq.out)).mono ?_
    rintro e w1 ⟨rfl, hb1⟩
    exact hk.out _ hb1
  · refine calm_step_guard (g := 14) (b := true) (d := 25) rfl rfl (fun a w hc => hc 14 25 rfl rfl) fun a ω κ hb hu hc hK => ?_
    have h29 : a.tmps[29]?.getD undef = .agg (arrK .u8 32 (dig K iv 0 (p ++ q))) := hc 18 29 rfl rfl
    have h35 : a.tmps[35]?.getD undef = .agg (arrK .u8 32 (dig K iv 0 (p ++ q))) := hc 24 35 rfl rfl
    have hk := Lib.hid (fun w1 (h : Below ω.heap.size ω w1) => hK (.bool true) w1 rfl h)
    clear hK hu hc
    have hq := heq ω
    go_simp
    exact hk.out _ (Below.refl _ _)
  · refine calm_step rfl fun a ω κ hb hu hc hK => ?_
    have h25 : a.tmps[25]?.getD undef = .bool true := hc 14 25 rfl rfl
    have h36 : a.tmps[36]?.getD undef = .bool true := hc 25 36 rfl rfl
    have hk := Lib.hid (fun w1 (h : Below ω.heap.size ω w1) => hK (.bool true) w1 rfl h)
    clear hK hu hc
    go_simp
    exact hk.out _ (Below.refl _ _)
  · refine calm_step rfl fun a ω κ hb hu hc hK => ?_
    have h37 : a.tmps[37]?.getD undef = .bool true := hc 26 37 rfl rfl
    have hk := Lib.hid (fun w1 (h : Below ω.heap.size ω w1) => hK (.bool true) w1 rfl h)
    clear hK hu hc
    go_simp
    exact hk.out _ (Below.refl _ _)
  · refine calm_step_guard (g := 27) (b := true) (d := 38) rfl rfl (fun a w hc => hc 27 38 rfl rfl) fun a ω κ hb hu hc hK => ?_
    have h7 : a.tmps[7]?.getD undef = .pointer (some ⟨g, 0, none⟩) := hu 7 rfl
    have hk := Lib.hid (fun w1 (h : Below ω.heap.size ω w1) => hK (.agg (stL K p).cells) w1 rfl h)
    clear hK hu hc
    have hr := hS.out ω hb
    have hr1 := hr.1
    have hr2 := hr.2
    clear hr
    go_simp
    exact hk.out _ (Below.refl _ _)
  · refine calm_step_guard (g := 27) (b := true) (d := 38) rfl rfl (fun a w hc => hc 27 38 rfl rfl) fun a ω κ hb hu hc hK => ?_
    have h39 : a.tmps[39]?.getD undef = .agg (stL K p).cells := hc 28 39 rfl rfl
    have hk := Lib.hid (fun w1 (h : Below ω.heap.size ω w1) => hK (.agg (arrK .u8 32 (dig K iv 0 p))) w1 rfl h)
    clear hK hu hc
    go_simp
    go_at_call 13
    refine (stSumC (K := K) (hT3.out.step hb) p).mono ?_
    rintro e w1 ⟨rfl, hb1⟩
    exact hk.out _ hb1
  · refine calm_step_guard (g := 27) (b := true) (d := 38) rfl rfl (fun a w hc => hc 27 38 rfl rfl) fun a ω κ hb hu hc hK => ?_
    have h0 : a.tmps[0]?.getD undef = .slice A p.length c := hu 0 rfl
    have hk := Lib.hid (fun w1 (h : Below ω.heap.size ω w1) => hK (.slice A p.length c) w1 rfl h)
    clear hK hu hc
    go_simp
    exact hk.out _ (Below.refl _ _)
  · refine calm_step_guard (g := 27) (b := true) (d := 38) rfl rfl (fun a w hc => hc 27 38 rfl rfl) fun a ω κ hb hu hc hK => ?_
    have h41 : a.tmps[41]?.getD undef = .slice A p.length c := hc 30 41 rfl rfl
    have hk := Lib.hid (fun w1 (h : Below ω.heap.size ω w1) => hK (strV p) w1 rfl h)
    clear hK hu hc
    have hcv := (hp3.out.step hb).conv
    go_simp
    exact hk.out _ (Below.refl _ _)
  · refine calm_step_guard (g := 27) (b := true) (d := 38) rfl rfl (fun a w hc => hc 27 38 rfl rfl) fun a ω κ hb hu hc hK => ?_
    have h42 : a.tmps[42]?.getD undef = strV p := hc 31 42 rfl rfl
    have hk := Lib.hid (fun w1 (h : Below ω.heap.size ω w1) => hK (.agg (arrK .u8 32 (dig K iv 0 p))) w1 rfl h)
    clear hK hu hc
    go_simp
    go_at_call 10
    refine (rsumC (K := K) (hT3.out.step hb) (by omega)).mono ?_
    rintro e w1 ⟨rfl, hb1⟩
    exact hk.out _ hb1
  · refine calm_step_guard (g := 27) (b := true) (d := 38) rfl rfl (fun a w hc => hc 27 38 rfl rfl) fun a ω κ hb hu hc hK => ?_
    have h40 : a.tmps[40]?.getD undef = .agg (arrK .u8 32 (dig K iv 0 p)) := hc 29 40 rfl rfl
    have h43 : a.tmps[43]?.getD undef = .agg (arrK .u8 32 (dig K iv 0 p)) := hc 32 43 rfl rfl
    have hk := Lib.hid (fun w1 (h : Below ω.heap.size ω w1) => hK (.bool true) w1 rfl h)
    clear hK hu hc
    have hq := heq ω
    go_simp
    exact hk.out _ (Below.refl _ _)
  · refine calm_step rfl fun a ω κ hb hu hc hK => ?_
    have h38 : a.tmps[38]?.getD undef = .bool true := hc 27 38 rfl rfl
    have h44 : a.tmps[44]?.getD undef = .bool true := hc 33 44 rfl rfl
    have hk := Lib.hid (fun w1 (h : Below ω.heap.size ω w1) => hK (.bool true) w1 rfl h)
    clear hK hu hc
    go_simp
    exact hk.out _ (Below.refl _ _)
  · refine calm_step rfl fun a ω κ hb hu hc hK => ?_
    have h45 : a.tmps[45]?.getD undef = .bool true := hc 34 45 rfl rfl
    have hk := Lib.hid (fun w1 (h : Below ω.heap.size ω w1) => hK (.bool true) w1 rfl h)
    clear hK hu hc
    go_simp
    exact hk.out _ (Below.refl _ _)
  · intro a w' hb hu hsz hdf hc
    have h6 : a.tmps[6]?.getD undef = .bool true := hc 35 6 rfl
    go_wp2
    exact ret_tmp rfl h6 hdf ⟨rfl, below_step hb hL3 (Nat.le_refl _)⟩
end Go.Proofs.YtjfiokicnacbfaaDoor
