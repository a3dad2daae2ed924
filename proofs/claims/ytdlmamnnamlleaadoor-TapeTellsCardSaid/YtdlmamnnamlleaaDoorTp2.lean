/- A reader's mark; the document's Record. -/
import Derived.Test.YtdlmamnnamlleaaDoorTp1
import Derived.Test.YtdlmamnnamlleaaDoorMacL
import Derived.Test.YtdlmamnnamlleaaDoorTail2
import Derived.Test.YtdlmamnnamlleaaDoorRet
namespace Go.Proofs.YtdlmamnnamlleaaDoor
open Go.ChangeShapes Go.WideShapes Go.ChangeAt Go.RowKit
set_option maxHeartbeats 1000000
set_option maxRecDepth 100000
attribute [local irreducible] arrV dgA sha macA macZ b64A rdrA
attribute [local go_sem ↓] load_mac store_mac load_o32 store_o32
attribute [local go_sem] isHead_mk isPart_mk offOf_mk blkOf_mk isAgg_mk cellsV_mk row_drew rowAt_drew row_new_cells row_old rowAt_new rowAt_old setRow_new zeroD bs_app
theorem rdr_mark (K : Nat → W32) (w0 : World) (kA : Option Addr) (kc : Nat) (key last : List UInt8) (v : Value) (recs : List Rc) (p : Nat) (w : World) (h : RdrAt w0 kA kc key last v recs p w) (hT : Tabs K w) (A : Option Addr) (rec : List UInt8) (c : Nat) (hr : Bs w A rec c) :
    Calls Tryd.prog 28 #[.pointer (some ⟨w0.heap.size, 0, none⟩), .slice A rec.length c] w fun e w' => e = .returned (.agg (dgA (markL K key (last ++ rec)))) ∧ Below w.heap.size w w' := by
  have hcz := dgA_cells []
  have hL0 := below_alloc w (Obj.cells (dgA []) 57)
  have hL := Lib.hid hL0
  have hR := Lib.hid (show Row (w.alloc (Obj.cells (dgA []) 57)) w.heap.size 32 from (row_new rfl).2 hcz.1)
  have hh := Lib.hid (h.step hL0)
  have hT0 := Lib.hid (hT.step hL0)
  have hr0 := Lib.hid (hr.step hL0)
  have hll := Lib.hid h.ll
  unfold markL
  clear h hT hr hL0
  obtain ⟨W1, hW1⟩ : ∃ V, w.alloc (Obj.cells (dgA []) 57) = V := ⟨_, rfl⟩
  rw [hW1] at hL hR hh hT0 hr0
  have kN := Lib.hid (fun V (hb : Below W1.heap.size W1 V) => mac_New K kA key kc V (hT0.out.step hb) (hh.out.kB.step hb))
  obtain ⟨k, hk⟩ : ∃ k, keyL K key = k := ⟨_, rfl⟩
  rw [hk] at kN ⊢
  have kW := Lib.hid (fun V (hb : Below W1.heap.size W1 V) => by have := mac_Write K k [] _ last 32 V (hT0.out.step hb) (hh.out.mark.step hb); rwa [hll.out, List.nil_append] at this)
  have kX := Lib.hid (fun V (hb : Below W1.heap.size W1 V) => mac_Write K k last A rec c V (hT0.out.step hb) (hr0.out.step hb))
  have kS := Lib.hid (fun V (hb : Below W1.heap.size W1 V) => mac_StSum K k (last ++ rec) V (hT0.out.step hb))
  have hco := dgA_cells (sha K (padB k 92 ++ sha K (padB k 54 ++ (last ++ rec))))
  obtain ⟨d, hd⟩ : ∃ d, sha K (padB k 92 ++ sha K (padB k 54 ++ (last ++ rec))) = d := ⟨_, rfl⟩
  rw [hd] at kS hco ⊢
  clear hd hk hll
  go_enter Tryd.func28, Tryd.ntmps28
  go_upto_region 1 with (fail)
  clear hW1
  generalize ha0 : Act.mk _ _ = a0
  have e0 : a0.tmps[0]?.getD undef = .pointer (some ⟨w0.heap.size, 0, none⟩) := by rw [← ha0]; rfl
  have e1 : a0.tmps[1]?.getD undef = .slice A rec.length c := by rw [← ha0]; rfl
  have e4 : a0.tmps[4]?.getD undef = .pointer (some ⟨w.heap.size, 0, none⟩) := by rw [← ha0]; rfl
  have hz0 : a0.tmps.size = 18 := by rw [← ha0]; rfl
  have hha0 := Lib.hid ha0
  clear ha0
  refine wp_region_tailL (fun jx_ => match jx_ with | 0 => SRel.is (.pointer (some ⟨w0.heap.size, 0, none⟩)) | 1 => SRel.is (.pointer (some ⟨w0.heap.size, 0, none⟩)) | 2 => SRel.is (.pointer (some ⟨w0.heap.size, 0, none⟩)) | 3 => SRel.is (.slice kA key.length kc) | 4 => SRel.is (.agg (macA K k [])) | 5 => SRel.is (.pointer (some ⟨w0.heap.size, 0, none⟩)) | 6 => SRel.is (.pointer (some ⟨w0.heap.size, 0, none⟩)) | 7 => SRel.is (.pointer (some ⟨w0.heap.size, 1, none⟩)) | 8 => SRel.is (.slice (some ⟨w0.heap.size, 1, none⟩) 32 32) | 9 => SRel.is (.agg (macA K k last)) | 10 => SRel.is (.slice A rec.length c) | 11 => SRel.is (.agg (macA K k (last ++ rec))) | 12 => SRel.is (.agg (dgA d)) | 13 => SRel.any | _ => SRel.any) 13 (by kernel_rfl) (by kernel_rfl) (by kernel_rfl) (slotsOk_of hz0 (by kernel_rfl)) (by kernel_rfl) (of_decide_eq_true (by kernel_rfl)) ⟨?_, ?_, ?_, ?_, ?_, ?_, ?_, ?_, ?_, ?_, ?_, ?_, ?_, trivial⟩ ?_
  · refine calmL_step rfl fun a ω κ hb hu hc hK => ?_
    have h0 : a.tmps[0]?.getD undef = .pointer (some ⟨w0.heap.size, 0, none⟩) := (hu 0 rfl).trans e0
    have hk := Lib.hid (fun w1 (h : Below ω.heap.size ω w1) => hK (.pointer (some ⟨w0.heap.size, 0, none⟩)) w1 rfl h)
    clear hK hu hc
    go_simp
    exact hk.out _ (Below.refl _ _)
  · refine calmL_step rfl fun a ω κ hb hu hc hK => ?_
    have h5 : a.tmps[5]?.getD undef = .pointer (some ⟨w0.heap.size, 0, none⟩) := hc 0 5 rfl rfl
    have hk := Lib.hid (fun w1 (h : Below ω.heap.size ω w1) => hK (.pointer (some ⟨w0.heap.size, 0, none⟩)) w1 rfl h)
    clear hK hu hc
    go_simp
    exact hk.out _ (Below.refl _ _)
  · refine calmL_step rfl fun a ω κ hb hu hc hK => ?_
    have h6 : a.tmps[6]?.getD undef = .pointer (some ⟨w0.heap.size, 0, none⟩) := hc 1 6 rfl rfl
    have hk := Lib.hid (fun w1 (h : Below ω.heap.size ω w1) => hK (.pointer (some ⟨w0.heap.size, 0, none⟩)) w1 rfl h)
    clear hK hu hc
    go_simp
    exact hk.out _ (Below.refl _ _)
  · refine calmL_step rfl fun a ω κ hb hu hc hK => ?_
    have h7 : a.tmps[7]?.getD undef = .pointer (some ⟨w0.heap.size, 0, none⟩) := hc 2 7 rfl rfl
    have hk := Lib.hid (fun w1 (h : Below ω.heap.size ω w1) => hK (.slice kA key.length kc) w1 rfl h)
    clear hK hu hc
    have c0 := (hh.out.step hb).c0
    go_simp
    exact hk.out _ (Below.refl _ _)
  · refine calmL_step rfl fun a ω κ hb hu hc hK => ?_
    have h8 : a.tmps[8]?.getD undef = .slice kA key.length kc := hc 3 8 rfl rfl
    have hk := Lib.hid (fun w1 (h : Below ω.heap.size ω w1) => hK (.agg (macA K k [])) w1 rfl h)
    clear hK hu hc
    go_simp
    go_at_call 60
    refine (kN.out ω hb).mono ?_
    rintro e w1 ⟨rfl, hb1⟩
    exact hk.out _ hb1
  · refine calmL_step rfl fun a ω κ hb hu hc hK => ?_
    have h0 : a.tmps[0]?.getD undef = .pointer (some ⟨w0.heap.size, 0, none⟩) := (hu 0 rfl).trans e0
    have hk := Lib.hid (fun w1 (h : Below ω.heap.size ω w1) => hK (.pointer (some ⟨w0.heap.size, 0, none⟩)) w1 rfl h)
    clear hK hu hc
    go_simp
    exact hk.out _ (Below.refl _ _)
  · refine calmL_step rfl fun a ω κ hb hu hc hK => ?_
    have h10 : a.tmps[10]?.getD undef = .pointer (some ⟨w0.heap.size, 0, none⟩) := hc 5 10 rfl rfl
    have hk := Lib.hid (fun w1 (h : Below ω.heap.size ω w1) => hK (.pointer (some ⟨w0.heap.size, 0, none⟩)) w1 rfl h)
    clear hK hu hc
    go_simp
    exact hk.out _ (Below.refl _ _)
  · refine calmL_step rfl fun a ω κ hb hu hc hK => ?_
    have h11 : a.tmps[11]?.getD undef = .pointer (some ⟨w0.heap.size, 0, none⟩) := hc 6 11 rfl rfl
    have hk := Lib.hid (fun w1 (h : Below ω.heap.size ω w1) => hK (.pointer (some ⟨w0.heap.size, 1, none⟩)) w1 rfl h)
    clear hK hu hc
    go_simp
    exact hk.out _ (Below.refl _ _)
  · refine calmL_step rfl fun a ω κ hb hu hc hK => ?_
    have h12 : a.tmps[12]?.getD undef = .pointer (some ⟨w0.heap.size, 1, none⟩) := hc 7 12 rfl rfl
    have hk := Lib.hid (fun w1 (h : Below ω.heap.size ω w1) => hK (.slice (some ⟨w0.heap.size, 1, none⟩) 32 32) w1 rfl h)
    clear hK hu hc
    go_simp
    exact hk.out _ (Below.refl _ _)
  · refine calmL_step rfl fun a ω κ hb hu hc hK => ?_
    have h9 : a.tmps[9]?.getD undef = .agg (macA K k []) := hc 4 9 rfl rfl
    have h13 : a.tmps[13]?.getD undef = .slice (some ⟨w0.heap.size, 1, none⟩) 32 32 := hc 8 13 rfl rfl
    have hk := Lib.hid (fun w1 (h : Below ω.heap.size ω w1) => hK (.agg (macA K k last)) w1 rfl h)
    clear hK hu hc
    go_simp
    go_at_call 61
    refine (kW.out ω hb).mono ?_
    rintro e w1 ⟨rfl, hb1⟩
    exact hk.out _ hb1
  · refine calmL_step rfl fun a ω κ hb hu hc hK => ?_
    have h1 : a.tmps[1]?.getD undef = .slice A rec.length c := (hu 1 rfl).trans e1
    have hk := Lib.hid (fun w1 (h : Below ω.heap.size ω w1) => hK (.slice A rec.length c) w1 rfl h)
    clear hK hu hc
    go_simp
    exact hk.out _ (Below.refl _ _)
  · refine calmL_step rfl fun a ω κ hb hu hc hK => ?_
    have h14 : a.tmps[14]?.getD undef = .agg (macA K k last) := hc 9 14 rfl rfl
    have h15 : a.tmps[15]?.getD undef = .slice A rec.length c := hc 10 15 rfl rfl
    have hk := Lib.hid (fun w1 (h : Below ω.heap.size ω w1) => hK (.agg (macA K k (last ++ rec))) w1 rfl h)
    clear hK hu hc
    go_simp
    go_at_call 61
    refine (kX.out ω hb).mono ?_
    rintro e w1 ⟨rfl, hb1⟩
    exact hk.out _ hb1
  · refine calmL_step rfl fun a ω κ hb hu hc hK => ?_
    have h16 : a.tmps[16]?.getD undef = .agg (macA K k (last ++ rec)) := hc 11 16 rfl rfl
    have hk := Lib.hid (fun w1 (h : Below ω.heap.size ω w1) => hK (.agg (dgA d)) w1 rfl h)
    clear hK hu hc
    go_simp
    go_at_call 62
    refine (kS.out ω hb).mono ?_
    rintro e w1 ⟨rfl, hb1⟩
    exact hk.out _ hb1
  · intro aa ω hb hu hsz hdf hc
    have h5 : aa.tmps[5]?.getD undef = .pointer (some ⟨w0.heap.size, 0, none⟩) := hc 0 5 (by decide) rfl
    have h6 : aa.tmps[6]?.getD undef = .pointer (some ⟨w0.heap.size, 0, none⟩) := hc 1 6 (by decide) rfl
    have h7 : aa.tmps[7]?.getD undef = .pointer (some ⟨w0.heap.size, 0, none⟩) := hc 2 7 (by decide) rfl
    have h8 : aa.tmps[8]?.getD undef = .slice kA key.length kc := hc 3 8 (by decide) rfl
    have h9 : aa.tmps[9]?.getD undef = .agg (macA K k []) := hc 4 9 (by decide) rfl
    have h10 : aa.tmps[10]?.getD undef = .pointer (some ⟨w0.heap.size, 0, none⟩) := hc 5 10 (by decide) rfl
    have h11 : aa.tmps[11]?.getD undef = .pointer (some ⟨w0.heap.size, 0, none⟩) := hc 6 11 (by decide) rfl
    have h12 : aa.tmps[12]?.getD undef = .pointer (some ⟨w0.heap.size, 1, none⟩) := hc 7 12 (by decide) rfl
    have h13 : aa.tmps[13]?.getD undef = .slice (some ⟨w0.heap.size, 1, none⟩) 32 32 := hc 8 13 (by decide) rfl
    have h14 : aa.tmps[14]?.getD undef = .agg (macA K k last) := hc 9 14 (by decide) rfl
    have h15 : aa.tmps[15]?.getD undef = .slice A rec.length c := hc 10 15 (by decide) rfl
    have h16 : aa.tmps[16]?.getD undef = .agg (macA K k (last ++ rec)) := hc 11 16 (by decide) rfl
    have h17 : aa.tmps[17]?.getD undef = .agg (dgA d) := hc 12 17 (by decide) rfl
    have ha0 := hha0.out
    subst ha0
    have he := act_patchL (n := 18) 13 [false, false, false, false, false, true, true, true, true, true, true, true, true, true, true, true, true, true] rfl (by kernel_rfl) hu hsz hdf
    simp only [patch, cond_true, cond_false, Nat.reduceAdd] at he
    clear hu hsz hdf hc hha0 e0 e1 e4 hz0
    rw [he]
    clear he
    generalize aa.tmps[5]?.getD undef = x5 at *
    generalize aa.tmps[6]?.getD undef = x6 at *
    generalize aa.tmps[7]?.getD undef = x7 at *
    generalize aa.tmps[8]?.getD undef = x8 at *
    generalize aa.tmps[9]?.getD undef = x9 at *
    generalize aa.tmps[10]?.getD undef = x10 at *
    generalize aa.tmps[11]?.getD undef = x11 at *
    generalize aa.tmps[12]?.getD undef = x12 at *
    generalize aa.tmps[13]?.getD undef = x13 at *
    generalize aa.tmps[14]?.getD undef = x14 at *
    generalize aa.tmps[15]?.getD undef = x15 at *
    generalize aa.tmps[16]?.getD undef = x16 at *
    generalize aa.tmps[17]?.getD undef = x17 at *
    subst h5 h6 h7 h8 h9 h10 h11 h12 h13 h14 h15 h16 h17
    replace hR := Lib.hid (row_below hR.out hb hR.out.lt)
    replace hL := Lib.hid (below_step hb hL.out (Nat.le_refl _))
    clear hh hT0 hr0 kN kW kX kS hb
    have hR2 := hR.out
    go_wp2_with fail
    exact ret_stored (p := 4) (ty := 57) (g := w.heap.size) (n := 32) (c := dgA d) rfl Tryd.underlying57 rfl (by kernel_rfl) rfl hR2 hco.1 rfl ⟨rfl, below_setRow hL.out (Nat.le_refl _)⟩
def SRel.it1 (t : UInt8) (l : List UInt8) : SRel := ⟨fun v w => ∃ A c, v = .agg #[u8v t, .slice A l.length c] ∧ Rd w w.heap.size A (bytesV l) ∧ l.length ≤ c ∧ c ≤ maxLen, fun _ _ _ hb ⟨A, c, h1, h2, h3, h4⟩ => ⟨A, c, h1, (h2.below hb).more hb.size, h3, h4⟩⟩
def SRel.its1 (t : UInt8) (l : List UInt8) : SRel := ⟨fun v w => ∃ g A c, v = .slice (some ⟨g, 0, none⟩) 1 1 ∧ Its w w.heap.size (some ⟨g, 0, none⟩) [⟨t, A, c, l⟩], fun _ _ _ hb ⟨g, A, c, h1, h2⟩ => ⟨g, A, c, h1, (h2.kp (kp_of_below hb)).more hb.size⟩⟩
theorem build_it (t : UInt8) (A : Option Addr) (n c : Nat) (w : World) : (Instr.build 71 #[(0, u8v t), (1, .slice A n c)]).run Tryd.prog w = .ok (.agg #[u8v t, .slice A n c]) w := run_build w _ _ _ (by kernel_rfl)
section
variable {P : Program} {o : Oper} {a : Act} {w : World} {K : Act → World → Prop} {Q : Exit → Act → World → Prop} {t : TypeId} {i j : Nat} {x y : Operand} {u vx vy : Value}
theorem wp_bldTwo (ho : o.op = .build t #[(i, x), (j, y)]) (hx : a.eval x = vx) (hy : a.eval y = vy) (hr : (Instr.build t #[(i, vx), (j, vy)]).run P w = .ok u w) (h : K (a.put o.dst u) w) : Oper.wp P o a w K Q := by
  subst hx hy
  obtain ⟨dst, op, tt, pos, af, gd⟩ := o
  subst ho
  unfold Oper.wp execOp
  simp only [List.map_toArray, List.map_cons, List.map_nil, Sem.run_bind, hr, Result.andThen_ok]
  exact h
end
theorem ref_Record (K : Nat → W32) (key last rec : List UInt8) (w : World) (hT : Tabs K w) (hk : key.length ≤ 576460752303423488) (hl : last.length ≤ 32) (hr : rec.length ≤ 4064) :
    Calls Tryd.prog 27 #[strV key, strV last, strV rec] w fun e w' => e = .returned (.tuple #[strV (tagB 1 (markL K key (last ++ rec) ++ rec)), strV (markL K key (last ++ rec))]) ∧ Below w.heap.size w w' := by
  have hT0 := Lib.hid hT
  have hln := mark_len K key (last ++ rec)
  have kM := Lib.hid (ref_Mark K key (last ++ rec) w hT hk (by rw [List.length_append]; omega))
  obtain ⟨m, hm⟩ : ∃ m, markL K key (last ++ rec) = m := ⟨_, rfl⟩
  rw [hm] at kM hln ⊢
  have hadd : last.length + rec.length ≤ 9223372036854775807 := by omega
  have hadd2 : m.length + rec.length ≤ 9223372036854775807 := by omega
  obtain ⟨q, hq⟩ : ∃ q, m ++ rec = q := ⟨_, rfl⟩
  rw [hq]
  have hqh := Lib.hid hq
  clear hq
  have hcm := dgA_cells m
  have hcz := dgA_cells []
  clear hm hk hT
  go_enter Tryd.func27, Tryd.ntmps27
  go_upto_region 1 with (fail)
  go_wp2_with fail
  refine kM.out.mono ?_
  rintro e w1 ⟨rfl, hb⟩
  have hL := Lib.hid (Below.trans hb ((below_alloc w1 (Obj.cells (dgA m) 57)).mono hb.size))
  have hX := Lib.hid (show Bs (w1.alloc (Obj.cells (dgA m) 57)) (some ⟨w1.heap.size, 0, none⟩) m 32 from rd_of_row hln ((row_new rfl).2 hcm.1) (rowAt_new rfl))
  clear hb kM hT0
  dsimp only
  go_upto_region 2 with (fail)
  generalize w1.alloc _ = W2 at *
  generalize w1.heap.size = g8 at *
  have hml := Lib.hid (show (m ++ rec).length ≤ 4096 by rw [List.length_append]; omega)
  have hcv := Lib.hid (fun V (hb : Below W2.heap.size W2 V) => by have := (hX.out.step hb).conv; rwa [hln] at this)
  have hcs := Lib.hid (fun (V : World) => conv_sbn (P := Tryd.prog) (src := 9) (dst := 22) Tryd.underlying9 Tryd.underlying22 Tryd.underlying5 (m ++ rec) _ rfl V)
  rw [hqh.out] at hcs hml
  generalize ha0 : Act.mk _ _ = a0
  have e2 : a0.tmps[2]?.getD undef = strV rec := by rw [← ha0]; rfl
  have e8 : a0.tmps[8]?.getD undef = .pointer (some ⟨g8, 0, none⟩) := by rw [← ha0]; rfl
  have hz0 : a0.tmps.size = 24 := by rw [← ha0]; rfl
  have hha0 := Lib.hid ha0
  clear ha0
  refine wp_region_calm (fun jx_ => match jx_ with | 0 => SRel.is (.slice (some ⟨g8, 0, none⟩) 32 32) | 1 => SRel.is (strV m) | 2 => SRel.is (strV rec) | 3 => SRel.is (strV q) | 4 => SRel.bs q | 5 => SRel.it1 1 q | 6 => SRel.its1 1 q | 7 => SRel.is (strV (tagB 1 q)) | 8 => SRel.is (.slice (some ⟨g8, 0, none⟩) 32 32) | 9 => SRel.is (strV m) | 10 => SRel.is (strV (tagB 1 q)) | 11 => SRel.is (strV m) | _ => SRel.any) (by kernel_rfl) (by kernel_rfl) (by kernel_rfl) (slotsOk_of hz0 (by kernel_rfl)) ⟨?_, ?_, ?_, ?_, ?_, ?_, ?_, ?_, ?_, ?_, ?_, ?_, trivial⟩ ?_
  · refine calm_step rfl fun a ω κ hb hu hc hK => ?_
    have h8 : a.tmps[8]?.getD undef = .pointer (some ⟨g8, 0, none⟩) := (hu 8 rfl).trans e8
    have hk := Lib.hid (fun w1 (h : Below ω.heap.size ω w1) => hK (.slice (some ⟨g8, 0, none⟩) 32 32) w1 rfl h)
    clear hK hu hc
    go_simp
    exact hk.out _ (Below.refl _ _)
  · refine calm_step rfl fun a ω κ hb hu hc hK => ?_
    have h14 : a.tmps[14]?.getD undef = .slice (some ⟨g8, 0, none⟩) 32 32 := hc 0 14 rfl rfl
    have hk := Lib.hid (fun w1 (h : Below ω.heap.size ω w1) => hK (strV m) w1 rfl h)
    clear hK hu hc
    have q1 := hcv.out ω hb
    go_simp
    exact hk.out _ (Below.refl _ _)
  · refine calm_step rfl fun a ω κ hb hu hc hK => ?_
    have h2 : a.tmps[2]?.getD undef = strV rec := (hu 2 rfl).trans e2
    have hk := Lib.hid (fun w1 (h : Below ω.heap.size ω w1) => hK (strV rec) w1 rfl h)
    clear hK hu hc
    go_simp
    exact hk.out _ (Below.refl _ _)
  · refine calm_step rfl fun a ω κ hb hu hc hK => ?_
    have h15 : a.tmps[15]?.getD undef = strV m := hc 1 15 rfl rfl
    have h16 : a.tmps[16]?.getD undef = strV rec := hc 2 16 rfl rfl
    have hk := Lib.hid (fun w1 (h : Below ω.heap.size ω w1) => hK (strV q) w1 rfl h)
    clear hK hu hc
    go_simp
    rw [if_neg (by omega), hqh.out]
    exact hk.out _ (Below.refl _ _)
  · refine calm_step rfl fun a ω κ hb hu hc hK => ?_
    have h17 : a.tmps[17]?.getD undef = strV q := hc 3 17 rfl rfl
    have hk := Lib.hid (fun v w1 (hv : (SRel.bs q).p v w1) (h : Below ω.heap.size ω w1) => hK v w1 hv h)
    clear hK hu hc
    have q1 := hcs.out ω
    go_simp
    exact hk.out _ _ ⟨_, _, rfl, ⟨((rd_cv ω ω q 5).drew).more (show ω.heap.size + 1 ≤ (ω.alloc (cvObj ω q 5)).heap.size by simp), grownCap_ge _ _ _ _, grownCap_le_maxLen _ _ _ _ (by have := hml.out; unfold maxLen; omega)⟩⟩ (below_alloc ω _).drew
  · refine calm_step rfl fun a ω κ hb hu hc hK => ?_
    have h18 : (SRel.bs q).p (a.tmps[18]?.getD undef) ω := hc 4 18 rfl rfl
    have hk := Lib.hid (fun v w1 (hv : (SRel.it1 1 q).p v w1) (h : Below ω.heap.size ω w1) => hK v w1 hv h)
    clear hK hu hc
    obtain ⟨A, c, e8, hB⟩ := h18
    refine wp_bldTwo rfl (vx := u8v 1) (vy := .slice A q.length c) rfl (eval_tmp e8) (build_it 1 A q.length c ω) ?_
    exact hk.out _ _ ⟨A, c, rfl, hB.rd, hB.le, hB.mx⟩ (Below.refl _ _)
  · refine calm_step rfl fun a ω κ hb hu hc hK => ?_
    have h19 : (SRel.it1 1 q).p (a.tmps[19]?.getD undef) ω := hc 5 19 rfl rfl
    have hk := Lib.hid (fun v w1 (hv : (SRel.its1 1 q).p v w1) (h : Below ω.heap.size ω w1) => hK v w1 hv h)
    clear hK hu hc
    obtain ⟨A, c, e8, hB, h1, h2⟩ := h19
    go_simp
    exact hk.out _ _ ⟨_, A, c, rfl, Its.single (push_new _ _) (by simp) ((hB.below (below_alloc _ _)).more (by simp)) ⟨h1, h2⟩⟩ (below_alloc _ _)
  · refine calm_step rfl fun a ω κ hb hu hc hK => ?_
    have h20 : (SRel.its1 1 q).p (a.tmps[20]?.getD undef) ω := hc 6 20 rfl rfl
    have hk := Lib.hid (fun w1 (h : Below ω.heap.size ω w1) => hK (strV (tagB 1 q)) w1 rfl h)
    clear hK hu hc
    obtain ⟨g9, A, c, e8, hI⟩ := h20
    go_simp
    go_at_call 59
    refine (ref_ItemsText _ [⟨1, A, c, q⟩] 1 ω hI (by simp) (by have := hml.out; simpa [bodiesOk] using this)).mono ?_
    rintro e w1 ⟨rfl, hb1⟩
    rw [enc_one]
    exact hk.out _ hb1
  · refine calm_step rfl fun a ω κ hb hu hc hK => ?_
    have h8 : a.tmps[8]?.getD undef = .pointer (some ⟨g8, 0, none⟩) := (hu 8 rfl).trans e8
    have hk := Lib.hid (fun w1 (h : Below ω.heap.size ω w1) => hK (.slice (some ⟨g8, 0, none⟩) 32 32) w1 rfl h)
    clear hK hu hc
    go_simp
    exact hk.out _ (Below.refl _ _)
  · refine calm_step rfl fun a ω κ hb hu hc hK => ?_
    have h22 : a.tmps[22]?.getD undef = .slice (some ⟨g8, 0, none⟩) 32 32 := hc 8 22 rfl rfl
    have hk := Lib.hid (fun w1 (h : Below ω.heap.size ω w1) => hK (strV m) w1 rfl h)
    clear hK hu hc
    have q1 := hcv.out ω hb
    go_simp
    exact hk.out _ (Below.refl _ _)
  · refine calm_step rfl fun a ω κ hb hu hc hK => ?_
    have h21 : a.tmps[21]?.getD undef = strV (tagB 1 q) := hc 7 21 rfl rfl
    have hk := Lib.hid (fun w1 (h : Below ω.heap.size ω w1) => hK (strV (tagB 1 q)) w1 rfl h)
    clear hK hu hc
    go_simp
    exact hk.out _ (Below.refl _ _)
  · refine calm_step rfl fun a ω κ hb hu hc hK => ?_
    have h23 : a.tmps[23]?.getD undef = strV m := hc 9 23 rfl rfl
    have hk := Lib.hid (fun w1 (h : Below ω.heap.size ω w1) => hK (strV m) w1 rfl h)
    clear hK hu hc
    go_simp
    exact hk.out _ (Below.refl _ _)
  · intro a1 w1 hb1 hu1 hsz1 hdf1 hc1
    have ha0 := hha0.out
    subst ha0
    have he := act_patch (n := 24) [false, false, false, false, false, false, true, true, false, false, false, false, false, false, true, true, true, true, true, true, true, true, true, true] rfl (by kernel_rfl) hu1 hsz1 hdf1
    simp only [patch, cond_true, cond_false, Nat.reduceAdd] at he
    have hkn6 : a1.tmps[6]?.getD undef = strV (tagB 1 q) := hc1 10 6 rfl
    have hkn7 : a1.tmps[7]?.getD undef = strV m := hc1 11 7 rfl
    replace hL := Lib.hid (below_step hb1 hL.out (Nat.le_refl _))
    clear hb1 hu1 hsz1 hdf1 hc1 hz0 hha0 e2 e8
    rw [he]
    clear he
    rw [hkn6]
    rw [hkn7]
    clear hkn6 hkn7
    generalize a1.tmps[14]?.getD undef = x14 at *
    generalize a1.tmps[15]?.getD undef = x15 at *
    generalize a1.tmps[16]?.getD undef = x16 at *
    generalize a1.tmps[17]?.getD undef = x17 at *
    generalize a1.tmps[18]?.getD undef = x18 at *
    generalize a1.tmps[19]?.getD undef = x19 at *
    generalize a1.tmps[20]?.getD undef = x20 at *
    generalize a1.tmps[21]?.getD undef = x21 at *
    generalize a1.tmps[22]?.getD undef = x22 at *
    generalize a1.tmps[23]?.getD undef = x23 at *
    go_wp2_with fail
    go_ret2
    exact ⟨rfl, hL.out⟩
end Go.Proofs.YtdlmamnnamlleaaDoor
