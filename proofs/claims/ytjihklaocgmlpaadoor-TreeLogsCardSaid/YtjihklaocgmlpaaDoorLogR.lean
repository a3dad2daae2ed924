/- Contract of a log's Root. -/
import Derived.Test.YtjihklaocgmlpaaDoorLog
import Derived.Test.YtjihklaocgmlpaaDoorTail
namespace Go.Proofs.YtjihklaocgmlpaaDoor
open Go.ChangeShapes Go.WideShapes Go.ChangeAt Go.RowKit
set_option maxHeartbeats 1000000
set_option maxRecDepth 100000
attribute [local irreducible] arrV dgA sha
attribute [local go_sem ↓] load_o32 store_o32 execl_o32 execs_o32 load_e32 execl_e32 build_32 execb_32
attribute [local go_sem] isHead_mk isPart_mk offOf_mk blkOf_mk isAgg_mk cellsV_mk row_drew rowAt_drew row_new_cells row_old rowAt_new rowAt_old zeroD ldOk_drew ldC_drew
theorem LogAt.step {w0 w w' : World} {g n : Nat} {v : Value} {P : List (List UInt8)} (hb : Below w.heap.size w w') (h : LogAt w0 g n v P w) : LogAt w0 g n v P w' := by
  have hO : OwnD w (g + 1) v P w := ⟨h.own, h.all, Below.refl _ _, h.sz⟩
  have hO2 := hO.step hb
  exact ⟨(hb.cell (p := ⟨g, 0, none⟩) h.sz).trans h.c0, (hb.cell (p := ⟨g, 1, none⟩) h.sz).trans h.c1, hO2.own, h.all, h.bel.trans (hb.mono (Nat.le_of_lt h.sz)), Nat.lt_of_lt_of_le h.sz hb.size, fun i => (World.frozen?_of_block (a := ⟨g, i, none⟩) (hb.block g h.sz)).trans (h.fz i)⟩
theorem log_Root0 (K : Nat → W32) (w0 : World) (g : Nat) (v : Value) (P : List (List UInt8)) (w : World) (h : LogAt w0 g 0 v P w) (hT : Tabs K w) :
    Calls Tryd.prog 8 #[.pointer (some ⟨g, 0, none⟩)] w fun e w' => e = .returned (.agg (dgA (sha K []))) ∧ Below w.heap.size w w' := by
  have hcz := dgA_cells []
  have hcs := dgA_cells (sha K [])
  have hL0 := below_alloc w (Obj.cells (dgA []) 28)
  have hR0 : Row (w.alloc (Obj.cells (dgA []) 28)) w.heap.size 32 := (row_new rfl).2 hcz.1
  have hT0 := Lib.hid (hT.step hL0)
  have c0 := (h.step hL0).c0
  clear hT h
  go_enter Tryd.func8, Tryd.ntmps8
  go_wp2_with fail
  generalize w.alloc (Obj.cells (dgA []) 28) = W0 at *
  refine (sum0D (K := K) hT0.out).mono ?_
  rintro e w1 ⟨rfl, hb1⟩
  have hL1 := below_step hb1 hL0 (Nat.le_refl _)
  have hR1 := row_below hR0 hb1 hR0.lt
  clear hb1 hL0 hR0 hT0
  go_wp2
  exact ret_stored (p := 2) (ty := 28) (g := w.heap.size) (n := 32) (c := dgA (sha K [])) rfl Tryd.underlying28 rfl (by kernel_rfl) rfl hR1 hcs.1 rfl ⟨rfl, below_setRow hL1 (Nat.le_refl _)⟩
theorem foldP_snoc {α : Type} {node : α → α → α} {x d : α} {q : List α} {k : Nat} (hx : q[k]? = some x) : foldP node d (q.take (k + 1)) = foldP node (node x d) (q.take k) := by
  rw [List.take_add_one, hx]
  simp [foldP]
set_option maxHeartbeats 4000000 in
theorem log_RootS (K : Nat → W32) (w0 : World) (g n : Nat) (v : Value) (P : List (List UInt8)) (d : List UInt8) (w : World) (h : LogAt w0 g n v (P ++ [d]) w) (hT : Tabs K w) (hn : n ≠ 0) (hP : P.length ≤ 1000000) :
    Calls Tryd.prog 8 #[.pointer (some ⟨g, 0, none⟩)] w fun e w' => e = .returned (.agg (dgA (foldP (nodeL K) d P))) ∧ Below w.heap.size w w' := by
  have hdl : d.length = 32 := h.all d (by simp)
  have hcz := dgA_cells []
  have hcd := dgA_cells d
  have hL0 := below_alloc w (Obj.cells (dgA []) 28)
  have hR0 : Row (w.alloc (Obj.cells (dgA []) 28)) w.heap.size 32 := (row_new rfl).2 hcz.1
  have hT0 := Lib.hid hT
  have hlog := Lib.hid h
  obtain ⟨A, c, rfl, hPt⟩ := h.form
  obtain ⟨ad, x, rfl, hx, -⟩ := hPt.some_ (i := P.length) (by simp)
  obtain rfl : d = x := by simpa using hx
  have c0 := (h.step hL0).c0
  have c1 := (h.step hL0).c1
  have hlen : ((P ++ [d]).length : Int) = (P.length : Int) + 1 := by simp
  have hlen2 : (P ++ [d]).length = P.length + 1 := by simp
  rw [hlen2] at c1
  obtain ⟨m, hm⟩ : ∃ m, P.length = m := ⟨_, rfl⟩
  rw [hm] at c1 hx hP
  have hPA : Pt (w.alloc (Obj.cells (dgA []) 28)) (some ad) (P ++ [d]) c := hPt.step hL0
  have a1 := el_ok hPA.rd hPA.all hx
  have a2 := el_ld hPA.rd hPA.all hx
  have hHPA := Lib.hid hPA
  clear hPA
  have hHm := Lib.hid hm
  have hb0 : ((n : Int) == 0) = false := by simp; omega
  have hw1 : IntKind.i64.wrap (m : Int) = (m : Int) := by rw [IntKind.wrap_i64]; omega
  have hw2 : IntKind.i64.wrap ((m : Int) - 1) = (m : Int) - 1 := by rw [IntKind.wrap_i64]; omega
  have hz1 : (0 : Int) ≤ (m : Int) := by omega
  have hz2 : (m : Int) < (m : Int) + 1 := by omega
  have hHr := Lib.hid (show foldP (nodeL K) d (P.take m) = foldP (nodeL K) d P by rw [List.take_of_length_le (by omega)])
  obtain ⟨r, hr⟩ : ∃ r, foldP (nodeL K) d P = r := ⟨_, rfl⟩
  rw [hr] at hHr ⊢
  clear hT h hlen hlen2 hm hr
  go_enter Tryd.func8, Tryd.ntmps8
  go_wp2_with fail
  have f1 := Lib.hid (show Below w.heap.size w (((w.alloc (Obj.cells (dgA []) 28)).alloc (Obj.cells (dgA []) 28)).setRow (w.heap.size + 1) (dgA d)) from below_setRow (below_step (below_alloc _ _) hL0 (Nat.le_refl _)) (Nat.le_succ _))
  have f2 : Row (((w.alloc (Obj.cells (dgA []) 28)).alloc (Obj.cells (dgA []) 28)).setRow (w.heap.size + 1) (dgA d)) w.heap.size 32 := (row_setRow_far (by omega)).2 (row_below hR0 (below_alloc _ _) hR0.lt)
  have fz : Row ((w.alloc (Obj.cells (dgA []) 28)).alloc (Obj.cells (dgA []) 28)) (w.heap.size + 1) 32 := by go_simp
  have f3 : Row (((w.alloc (Obj.cells (dgA []) 28)).alloc (Obj.cells (dgA []) 28)).setRow (w.heap.size + 1) (dgA d)) (w.heap.size + 1) 32 := (row_setRow_same rfl fz).2 hcd.1
  have f4 : rowAt (((w.alloc (Obj.cells (dgA []) 28)).alloc (Obj.cells (dgA []) 28)).setRow (w.heap.size + 1) (dgA d)) (w.heap.size + 1) = dgA d := rowAt_setRow_same fz
  clear fz
  generalize (((w.alloc (Obj.cells (dgA []) 28)).alloc (Obj.cells (dgA []) 28)).setRow (w.heap.size + 1) (dgA d)) = W1 at *
  clear hL0 hR0 c0 c1 a1 a2 hHPA hcz hb0
  go_loopw [5] (fun vi wr => ∃ (i : Int) (k : Nat) (x : List UInt8), vi = .int .i64 i ∧ i = (k : Int) - 1 ∧ k ≤ m ∧ x.length = 32 ∧ Hid (foldP (nodeL K) x (P.take k) = r) ∧ Hid (Below w.heap.size w wr) ∧ Row wr w.heap.size 32 ∧ Row wr (w.heap.size + 1) 32 ∧ rowAt wr (w.heap.size + 1) = dgA x) (fun vi _ => (intOf vi + 1).toNat)
  case atStart => exact ⟨_, m, d, rfl, rfl, Nat.le_refl _, hdl, hHr, f1, f2, f3, f4⟩
  case round =>
    obtain ⟨i, k, x, rfl, hi, hkm, hxl, hf, hb, g2, g3, g4⟩ := hrel
    have hcx := dgA_cells x
    clear f1 f2 f3 f4 hx
    cases k with
    | zero =>
      have hi0 : i = -1 := by omega
      subst hi0
      have d1 : decide ((0 : Int) ≤ (-1 : Int)) = false := rfl
      have hfin : x = r := hf.out
      clear hf hi
      subst hfin
      go_wp2_with fail
      exact ret_stored (p := 2) (ty := 28) (g := w.heap.size) (n := 32) (c := dgA x) rfl Tryd.underlying28 rfl (by kernel_rfl) rfl g2 hcx.1 rfl ⟨rfl, below_setRow hb.out (Nat.le_refl _)⟩
    | succ k =>
      have hik : i = (k : Nat) := by omega
      subst hik
      clear hi
      have d1 : decide ((0 : Int) ≤ (k : Int)) = true := by simp
      have hz3 : (0 : Int) ≤ (k : Int) := by omega
      have hz4 : (k : Int) < (m : Int) + 1 := by omega
      have hw3 : IntKind.i64.wrap ((k : Int) - 1) = (k : Int) - 1 := by rw [IntKind.wrap_i64]; omega
      have ht : ((k : Nat) : Int).toNat = k := by simp
      obtain ⟨y, hy⟩ : ∃ y, P[k]? = some y := ⟨_, List.getElem?_eq_getElem (by have := hHm.out; omega)⟩
      have hyl := hlog.out.all y (by simp [List.mem_of_getElem? hy])
      have hy2 : (P ++ [d])[k]? = some y := by rw [List.getElem?_append_left (by have := hHm.out; omega)]; exact hy
      have hf2 := Lib.hid (foldP_snoc (node := nodeL K) (d := x) hy ▸ hf.out)
      have hcy := dgA_cells y
      have hcn := dgA_cells (nodeL K y x)
      have hnl := node_len K y x
      have hN := Lib.hid (fun V (h : Tabs K V) => tree_Node K y x V h hyl hxl)
      have hT1 := Lib.hid (hT0.out.step hb.out)
      have hS := Lib.hid (show ∀ V : World, Below wr.heap.size wr V → V.cell? ⟨g, 1, none⟩ = some (.slice (some ad) (m + 1) c) ∧ LdOk V 32 (.pointer (some (ad.add (k * 32)))) ∧ ldC V 32 (.pointer (some (ad.add (k * 32)))) = dgA y ∧ Row V (w.heap.size + 1) 32 ∧ rowAt V (w.heap.size + 1) = dgA x ∧ Row V w.heap.size 32 ∧ Below w.heap.size w V from fun V hV => by
        have hbb := below_step hV hb.out (Nat.le_refl _)
        have hl := hlog.out.step hbb
        have hc1 := hl.c1
        rw [List.length_append, hHm.out] at hc1
        have hp := hPt.step hbb
        exact ⟨hc1, el_ok hp.rd hp.all hy2, el_ld hp.rd hp.all hy2, row_below g3 hV g3.lt, (rowAt_below hV g3.lt).trans g4, row_below g2 hV g2.lt, hbb⟩)
      clear hy hy2 hf hPt hlog hHr
      generalize nodeL K y x = z at *
      go_wp2_with fail
      generalize ha0 : Act.mk _ _ = a0
      have e0 : a0.tmps[0]?.getD undef = .pointer (some ⟨g, 0, none⟩) := by rw [← ha0]; rfl
      have e4 : a0.tmps[4]?.getD undef = .pointer (some ⟨w.heap.size + 1, 0, none⟩) := by rw [← ha0]; rfl
      have e5 : a0.tmps[5]?.getD undef = .int .i64 (k : Nat) := by rw [← ha0]; rfl
      have hz0 : a0.tmps.size = 41 := by rw [← ha0]; rfl
      have hha0 := Lib.hid ha0
      clear ha0
      refine wp_region_tail (fun jx_ => match jx_ with | 0 => SRel.is (.pointer (some ⟨g, 0, none⟩)) | 1 => SRel.is (.pointer (some ⟨g, 0, none⟩)) | 2 => SRel.is (.pointer (some ⟨g, 1, none⟩)) | 3 => SRel.is (.slice (some ad) (m + 1) c) | 4 => SRel.is (.int .i64 (k : Nat)) | 5 => SRel.is (.pointer (some (ad.add (k * 32)))) | 6 => SRel.is (.agg (dgA y)) | 7 => SRel.is (.agg (dgA x)) | 8 => SRel.is (.agg (dgA z)) | 9 => SRel.any | _ => SRel.any) 9 (by kernel_rfl) (by kernel_rfl) (by kernel_rfl) (slotsOk_of hz0 (by kernel_rfl)) (by kernel_rfl) ⟨?_, ?_, ?_, ?_, ?_, ?_, ?_, ?_, ?_, ?_, trivial⟩ (of_decide_eq_true (by kernel_rfl))
      · rw [if_neg (by decide)]
        refine calmT_step rfl fun a ω κ hb hu hc hK => ?_
        have h0 : a.tmps[0]?.getD undef = .pointer (some ⟨g, 0, none⟩) := (hu 0 rfl).trans e0
        have hk := Lib.hid (fun w1 (h : Below ω.heap.size ω w1) => hK (.pointer (some ⟨g, 0, none⟩)) w1 rfl h)
        clear hK hu hc
        go_simp
        exact hk.out _ (Below.refl _ _)
      · rw [if_neg (by decide)]
        refine calmT_step rfl fun a ω κ hb hu hc hK => ?_
        have h31 : a.tmps[31]?.getD undef = .pointer (some ⟨g, 0, none⟩) := hc 0 31 rfl rfl
        have hk := Lib.hid (fun w1 (h : Below ω.heap.size ω w1) => hK (.pointer (some ⟨g, 0, none⟩)) w1 rfl h)
        clear hK hu hc
        go_simp
        exact hk.out _ (Below.refl _ _)
      · rw [if_neg (by decide)]
        refine calmT_step rfl fun a ω κ hb hu hc hK => ?_
        have h32 : a.tmps[32]?.getD undef = .pointer (some ⟨g, 0, none⟩) := hc 1 32 rfl rfl
        have hk := Lib.hid (fun w1 (h : Below ω.heap.size ω w1) => hK (.pointer (some ⟨g, 1, none⟩)) w1 rfl h)
        clear hK hu hc
        go_simp
        exact hk.out _ (Below.refl _ _)
      · rw [if_neg (by decide)]
        refine calmT_step rfl fun a ω κ hb hu hc hK => ?_
        have h33 : a.tmps[33]?.getD undef = .pointer (some ⟨g, 1, none⟩) := hc 2 33 rfl rfl
        have hk := Lib.hid (fun w1 (h : Below ω.heap.size ω w1) => hK (.slice (some ad) (m + 1) c) w1 rfl h)
        clear hK hu hc
        have c1 := (hS.out ω hb).1
        go_simp
        exact hk.out _ (Below.refl _ _)
      · rw [if_neg (by decide)]
        refine calmT_step rfl fun a ω κ hb hu hc hK => ?_
        have h5 : a.tmps[5]?.getD undef = .int .i64 (k : Nat) := (hu 5 rfl).trans e5
        have hk := Lib.hid (fun w1 (h : Below ω.heap.size ω w1) => hK (.int .i64 (k : Nat)) w1 rfl h)
        clear hK hu hc
        go_simp
        exact hk.out _ (Below.refl _ _)
      · rw [if_neg (by decide)]
        refine calmT_step rfl fun a ω κ hb hu hc hK => ?_
        have h34 : a.tmps[34]?.getD undef = .slice (some ad) (m + 1) c := hc 3 34 rfl rfl
        have h35 : a.tmps[35]?.getD undef = .int .i64 (k : Nat) := hc 4 35 rfl rfl
        have hk := Lib.hid (fun w1 (h : Below ω.heap.size ω w1) => hK (.pointer (some (ad.add (k * 32)))) w1 rfl h)
        clear hK hu hc
        go_simp
        exact hk.out _ (Below.refl _ _)
      · rw [if_neg (by decide)]
        refine calmT_step rfl fun a ω κ hb hu hc hK => ?_
        have h36 : a.tmps[36]?.getD undef = .pointer (some (ad.add (k * 32))) := hc 5 36 rfl rfl
        have hk := Lib.hid (fun w1 (h : Below ω.heap.size ω w1) => hK (.agg (dgA y)) w1 rfl h)
        clear hK hu hc
        have a1 := (hS.out ω hb).2.1
        have a2 := (hS.out ω hb).2.2.1
        go_simp
        exact hk.out _ (Below.refl _ _)
      · rw [if_neg (by decide)]
        refine calmT_step rfl fun a ω κ hb hu hc hK => ?_
        have h4 : a.tmps[4]?.getD undef = .pointer (some ⟨w.heap.size + 1, 0, none⟩) := (hu 4 rfl).trans e4
        have hk := Lib.hid (fun w1 (h : Below ω.heap.size ω w1) => hK (.agg (dgA x)) w1 rfl h)
        clear hK hu hc
        have b1 := (hS.out ω hb).2.2.2.1
        have b2 := (hS.out ω hb).2.2.2.2.1
        go_simp
        exact hk.out _ (Below.refl _ _)
      · rw [if_neg (by decide)]
        refine calmT_step rfl fun a ω κ hb hu hc hK => ?_
        have h37 : a.tmps[37]?.getD undef = .agg (dgA y) := hc 6 37 rfl rfl
        have h38 : a.tmps[38]?.getD undef = .agg (dgA x) := hc 7 38 rfl rfl
        have hk := Lib.hid (fun w1 (h : Below ω.heap.size ω w1) => hK (.agg (dgA z)) w1 rfl h)
        clear hK hu hc
        go_simp
        go_at_call 18
        refine (hN.out _ (hT1.out.step hb)).mono ?_
        rintro e w1 ⟨rfl, hb1⟩
        exact hk.out _ hb1
      · rw [if_pos rfl]
        refine last_of rfl fun aa ω hb hu hsz hdf hc => ?_
        have h4 : aa.tmps[4]?.getD undef = .pointer (some ⟨w.heap.size + 1, 0, none⟩) := (hu 4 rfl).trans e4
        have h39 : aa.tmps[39]?.getD undef = .agg (dgA z) := hc 8 39 (by decide) rfl
        have hHz := Lib.hid (And.intro hu (And.intro hsz hdf))
        clear hc hu hsz hdf hz0
        have b1 := (hS.out ω hb).2.2.2.1
        have b3 := Lib.hid (hS.out ω hb)
        go_simp
        have ha0 := hha0.out
        subst ha0
        have he := act_patchT (n := 41) 9 [false, false, false, false, false, false, false, false, false, false, false, false, false, false, false, false, false, false, false, false, false, false, false, false, false, false, false, false, false, false, false, true, true, true, true, true, true, true, true, true, false] rfl (by kernel_rfl) hHz.out.1 hHz.out.2.1 hHz.out.2.2
        simp only [patch, cond_true, cond_false, Nat.reduceAdd] at he
        clear hHz hha0 e0 e4 e5
        rw [he]
        clear he
        generalize aa.tmps[31]?.getD undef = x31 at *
        generalize aa.tmps[32]?.getD undef = x32 at *
        generalize aa.tmps[33]?.getD undef = x33 at *
        generalize aa.tmps[34]?.getD undef = x34 at *
        generalize aa.tmps[35]?.getD undef = x35 at *
        generalize aa.tmps[36]?.getD undef = x36 at *
        generalize aa.tmps[37]?.getD undef = x37 at *
        generalize aa.tmps[38]?.getD undef = x38 at *
        generalize aa.tmps[39]?.getD undef = x39 at *
        clear hS hT1 hN
        go_wp2_with fail
        go_roundw
        case rel => exact ⟨_, k, z, rfl, rfl, by omega, hnl, hf2, Lib.hid (below_setRow b3.out.2.2.2.2.2.2 (by omega)), (row_setRow_far (by omega)).2 b3.out.2.2.2.2.2.1, (row_setRow_same rfl b1).2 hcn.1, rowAt_setRow_same b1⟩
        case measure => simp [intOf]
end Go.Proofs.YtjihklaocgmlpaaDoor
