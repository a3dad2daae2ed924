/- Contract of package tree's Root. -/
import Derived.Test.YtjihklaocgmlpaaDoorLf2
import Derived.Test.YtjihklaocgmlpaaDoorTail
namespace Go.Proofs.YtjihklaocgmlpaaDoor
open Go.ChangeShapes Go.WideShapes Go.ChangeAt Go.RowKit
set_option maxHeartbeats 1000000
set_option maxRecDepth 100000
attribute [local irreducible] arrV dgA sha
attribute [local go_sem ↓] load_o32 store_o32 execl_o32 execs_o32 load_e32 execl_e32 build_32 execb_32
attribute [local go_sem] isHead_mk isPart_mk offOf_mk blkOf_mk isAgg_mk cellsV_mk row_drew rowAt_drew row_new_cells row_old rowAt_new rowAt_old zeroD ldOk_drew ldC_drew

theorem sum0D {K : Nat → W32} {w : World} (hT : Tabs K w) : Calls Tryd.prog 31 #[.slice none 0 0] w fun e w' => e = .returned (.agg (dgA (sha K []))) ∧ Below w.heap.size w w' :=
  sumD (l := []) hT ⟨Rd.nil, by simp, by omega⟩
theorem leaf0 (K : Nat → W32) {A : Option Addr} {p : List UInt8} {n c : Nat} {w : World} (hT : Tabs K w) (hp : Bs w A p c) (hn : p.length = n) :
    Calls Tryd.prog 16 #[.slice A n c] w fun e w' => e = .returned (.agg (dgA (leafL K p))) ∧ Below w.heap.size w w' := hn ▸ tree_Leaf K A p c w hT hp
set_option maxHeartbeats 4000000 in
theorem tree_Root (K : Nat → W32) : ∀ (n : Nat) (l : List Sb) (A : Option Addr) (c : Nat) (w : World), l.length = n → Tabs K w → Lf w A l c →
    Calls Tryd.prog 20 #[.slice A n c] w fun e w' => e = .returned (.agg (dgA (rootL K l))) ∧ Below w.heap.size w w' := by
  intro n
  induction n using Nat.strongRecOn with
  | _ n ih =>
  intro l A c w hl hT hI
  have hcz := dgA_cells []
  have hL0 := below_alloc w (Obj.cells (dgA []) 28)
  have hR0 : Row (w.alloc (Obj.cells (dgA []) 28)) w.heap.size 32 := (row_new rfl).2 hcz.1
  have hT0 := Lib.hid (hT.step hL0)
  have hI0 := Lib.hid (hI.step hL0)
  have hco := dgA_cells (rootL K l)
  have hmx := hI.mx
  have hle := hI.le
  clear hT hI
  go_enter Tryd.func20, Tryd.ntmps20
  by_cases h0 : n = 0
  · subst h0
    obtain rfl := List.eq_nil_of_length_eq_zero hl
    have hcs := dgA_cells (sha K [])
    go_wp2_with fail
    generalize w.alloc (Obj.cells (dgA []) 28) = W0 at *
    refine (sum0D (K := K) hT0.out).mono ?_
    rintro e w1 ⟨rfl, hb1⟩
    have hL1 := below_step hb1 hL0 (Nat.le_refl _)
    have hR1 := row_below hR0 hb1 hR0.lt
    clear hb1 hL0 hR0 hT0 hI0
    go_wp2
    exact ret_stored (p := 2) (ty := 28) (g := w.heap.size) (n := 32) (c := dgA (sha K [])) rfl Tryd.underlying28 rfl (by kernel_rfl) rfl hR1 hco.1 rfl ⟨rfl, below_setRow hL1 (Nat.le_refl _)⟩
  by_cases h1 : n = 1
  · subst h1
    match l, hl with
    | [x], _ =>
    obtain ⟨ad, rfl, hadb, hcell⟩ := hI0.out.at_ (k := 0) (by simp)
    have e0 : ad.add 0 = ad := by unfold Addr.add; simp
    rw [e0] at hcell
    obtain ⟨hb, -⟩ := hI0.out.body x (by simp)
    have hcs := dgA_cells (leafL K x.body)
    have hcell2 : (w.alloc (Obj.cells (dgA []) 28)).cell? ad = some (.slice x.A x.body.length x.cap) := hcell
    clear hcell
    obtain ⟨xn, hxn⟩ : ∃ xn, x.body.length = xn := ⟨_, rfl⟩
    rw [hxn] at hcell2
    have hHb := Lib.hid hb
    have hHxn := Lib.hid hxn
    clear hb hxn
    go_wp2_with fail
    generalize w.alloc (Obj.cells (dgA []) 28) = W0 at *
    refine (leaf0 K hT0.out hHb.out hHxn.out).mono ?_
    rintro e w1 ⟨rfl, hb1⟩
    have hL1 := below_step hb1 hL0 (Nat.le_refl _)
    have hR1 := row_below hR0 hb1 hR0.lt
    clear hb1 hL0 hR0 hT0 hI0 hcell2
    go_wp2
    exact ret_stored (p := 2) (ty := 28) (g := w.heap.size) (n := 32) (c := dgA (leafL K x.body)) rfl Tryd.underlying28 rfl (by kernel_rfl) rfl hR1 hco.1 rfl ⟨rfl, below_setRow hL1 (Nat.le_refl _)⟩
  have hk1 := halfN_lt (n := n) (by omega)
  have hk2 := halfN_le (n := n) (by omega)
  have d0 : ((n : Int) == 0) = false := by simp; omega
  have d1 : ((n : Int) == 1) = false := by simp; omega
  have hfin := Lib.hid (rootL_split K l hl (by omega))
  have hl1 : (l.take (halfN n)).length = halfN n := by rw [List.length_take]; omega
  have hl2 : (l.drop (halfN n)).length = n - halfN n := by rw [List.length_drop]; omega
  obtain ⟨A1, hs1, hs2⟩ := sl_from SLf A n c (n - halfN n) (halfN n : Nat) (by omega) (by omega) (by simp) (by omega)
  have hs0 := fun V => sl_to SLf A n c (halfN n) (halfN n : Nat) (by omega) (by omega) (by simp) V
  have hI2 : Hid (Lf (w.alloc (Obj.cells (dgA []) 28)) A1 (l.drop (halfN n)) (c - halfN n)) := Lib.hid ⟨by
      rw [List.map_drop]
      have := hs2 _ _ (l.map Sb.cell) (by simp [hl]) hI0.out.cells
      simpa using this, fun x hx => hI0.out.body x (List.mem_of_mem_drop hx), by omega, by omega⟩
  have hI1 := Lib.hid (hI0.out.take (halfN n))
  have hC1 := Lib.hid (fun V (h1 : Tabs K V) (h2 : Lf V A (l.take (halfN n)) c) => ih (halfN n) hk1 (l.take (halfN n)) A c V hl1 h1 h2)
  have hC2 := Lib.hid (fun V (h1 : Tabs K V) (h2 : Lf V A1 (l.drop (halfN n)) (c - halfN n)) => ih (n - halfN n) (by omega) (l.drop (halfN n)) A1 (c - halfN n) V hl2 h1 h2)
  have hx1 := rootL_len K (l.take (halfN n))
  have hx2 := rootL_len K (l.drop (halfN n))
  have hcx := dgA_cells (rootL K (l.take (halfN n)))
  have hcy := dgA_cells (rootL K (l.drop (halfN n)))
  have hHf := Lib.hid (fun V => tree_half n V (by omega) (by omega))
  have hN := Lib.hid (fun V (h : Tabs K V) => tree_Node K _ _ V h hx1 hx2)
  have e1 : ((halfN n : Nat) : Int).toNat = halfN n := by simp
  rw [e1] at hs1
  clear hs2 hI0 ih hl1 hl2
  go_wp2_with fail
  generalize w.alloc (Obj.cells (dgA []) 28) = W0 at *
  refine (hHf.out _).mono ?_
  rintro e w1 ⟨rfl, rfl⟩
  generalize rootL K (l.take (halfN n)) = x at *
  generalize rootL K (l.drop (halfN n)) = y at *
  generalize n - halfN n = m at *
  generalize halfN n = k at *
  generalize c - k = c2 at *
  have hS := Lib.hid (show ∀ V : World, Below W0.heap.size W0 V → Row V w.heap.size 32 from fun V hV => row_below hR0 hV hR0.lt)
  have hcn := dgA_cells (nodeL K x y)
  go_wp2_with fail
  generalize ha0 : Act.mk _ _ = a0
  have e0 : a0.tmps[0]?.getD undef = .slice A n c := by rw [← ha0]; rfl
  have e2 : a0.tmps[2]?.getD undef = .pointer (some ⟨w.heap.size, 0, none⟩) := by rw [← ha0]; rfl
  have e4 : a0.tmps[4]?.getD undef = .int .i64 (k : Nat) := by rw [← ha0]; rfl
  have hz0 : a0.tmps.size = 28 := by rw [← ha0]; rfl
  have hha0 := Lib.hid ha0
  clear ha0
  refine wp_region_tail (fun jx_ => match jx_ with | 0 => SRel.is (.slice A n c) | 1 => SRel.is (.int .i64 (k : Nat)) | 2 => SRel.is (.slice A k c) | 3 => SRel.is (.agg (dgA x)) | 4 => SRel.is (.slice A n c) | 5 => SRel.is (.int .i64 (k : Nat)) | 6 => SRel.is (.slice A1 m c2) | 7 => SRel.is (.agg (dgA y)) | 8 => SRel.is (.agg (dgA (nodeL K x y))) | 9 => SRel.any | _ => SRel.any) 9 (by kernel_rfl) (by kernel_rfl) (by kernel_rfl) (slotsOk_of hz0 (by kernel_rfl)) (by kernel_rfl) ⟨?_, ?_, ?_, ?_, ?_, ?_, ?_, ?_, ?_, ?_, trivial⟩ (of_decide_eq_true (by kernel_rfl))
  · rw [if_neg (by decide)]
    refine calmT_step rfl fun a ω κ hb hu hc hK => ?_
    have h0 : a.tmps[0]?.getD undef = .slice A n c := (hu 0 rfl).trans e0
    have hk := Lib.hid (fun w1 (h : Below ω.heap.size ω w1) => hK (.slice A n c) w1 rfl h)
    clear hK hu hc
    go_simp
    exact hk.out _ (Below.refl _ _)
  · rw [if_neg (by decide)]
    refine calmT_step rfl fun a ω κ hb hu hc hK => ?_
    have h4 : a.tmps[4]?.getD undef = .int .i64 (k : Nat) := (hu 4 rfl).trans e4
    have hk := Lib.hid (fun w1 (h : Below ω.heap.size ω w1) => hK (.int .i64 (k : Nat)) w1 rfl h)
    clear hK hu hc
    go_simp
    exact hk.out _ (Below.refl _ _)
  · rw [if_neg (by decide)]
    refine calmT_step rfl fun a ω κ hb hu hc hK => ?_
    have h10 : a.tmps[10]?.getD undef = .slice A n c := hc 0 10 rfl rfl
    have h11 : a.tmps[11]?.getD undef = .int .i64 (k : Nat) := hc 1 11 rfl rfl
    have hk := Lib.hid (fun w1 (h : Below ω.heap.size ω w1) => hK (.slice A k c) w1 rfl h)
    clear hK hu hc
    have hs := hs0 ω
    go_simp
    exact hk.out _ (Below.refl _ _)
  · rw [if_neg (by decide)]
    refine calmT_step rfl fun a ω κ hb hu hc hK => ?_
    have h12 : a.tmps[12]?.getD undef = .slice A k c := hc 2 12 rfl rfl
    have hk := Lib.hid (fun w1 (h : Below ω.heap.size ω w1) => hK (.agg (dgA x)) w1 rfl h)
    clear hK hu hc
    go_simp
    go_at_call 20
    refine (hC1.out _ (hT0.out.step hb) (hI1.out.step hb)).mono ?_
    rintro e w1 ⟨rfl, hb1⟩
    exact hk.out _ hb1
  · rw [if_neg (by decide)]
    refine calmT_step rfl fun a ω κ hb hu hc hK => ?_
    have h0 : a.tmps[0]?.getD undef = .slice A n c := (hu 0 rfl).trans e0
    have hk := Lib.hid (fun w1 (h : Below ω.heap.size ω w1) => hK (.slice A n c) w1 rfl h)
    clear hK hu hc
    go_simp
    exact hk.out _ (Below.refl _ _)
  · rw [if_neg (by decide)]
    refine calmT_step rfl fun a ω κ hb hu hc hK => ?_
    have h4 : a.tmps[4]?.getD undef = .int .i64 (k : Nat) := (hu 4 rfl).trans e4
    have hk := Lib.hid (fun w1 (h : Below ω.heap.size ω w1) => hK (.int .i64 (k : Nat)) w1 rfl h)
    clear hK hu hc
    go_simp
    exact hk.out _ (Below.refl _ _)
  · rw [if_neg (by decide)]
    refine calmT_step rfl fun a ω κ hb hu hc hK => ?_
    have h14 : a.tmps[14]?.getD undef = .slice A n c := hc 4 14 rfl rfl
    have h15 : a.tmps[15]?.getD undef = .int .i64 (k : Nat) := hc 5 15 rfl rfl
    have hk := Lib.hid (fun w1 (h : Below ω.heap.size ω w1) => hK (.slice A1 m c2) w1 rfl h)
    clear hK hu hc
    have hs := hs1 ω
    go_simp
    exact hk.out _ (Below.refl _ _)
  · rw [if_neg (by decide)]
    refine calmT_step rfl fun a ω κ hb hu hc hK => ?_
    have h16 : a.tmps[16]?.getD undef = .slice A1 m c2 := hc 6 16 rfl rfl
    have hk := Lib.hid (fun w1 (h : Below ω.heap.size ω w1) => hK (.agg (dgA y)) w1 rfl h)
    clear hK hu hc
    go_simp
    go_at_call 20
    refine (hC2.out _ (hT0.out.step hb) (hI2.out.step hb)).mono ?_
    rintro e w1 ⟨rfl, hb1⟩
    exact hk.out _ hb1
  · rw [if_neg (by decide)]
    refine calmT_step rfl fun a ω κ hb hu hc hK => ?_
    have h13 : a.tmps[13]?.getD undef = .agg (dgA x) := hc 3 13 rfl rfl
    have h17 : a.tmps[17]?.getD undef = .agg (dgA y) := hc 7 17 rfl rfl
    have hk := Lib.hid (fun w1 (h : Below ω.heap.size ω w1) => hK (.agg (dgA (nodeL K x y))) w1 rfl h)
    clear hK hu hc
    go_simp
    go_at_call 18
    refine (hN.out _ (hT0.out.step hb)).mono ?_
    rintro e w1 ⟨rfl, hb1⟩
    exact hk.out _ hb1
  · rw [if_pos rfl]
    refine last_of rfl fun aa ω hb hu hsz hdf hc => ?_
    have h2 : aa.tmps[2]?.getD undef = .pointer (some ⟨w.heap.size, 0, none⟩) := (hu 2 rfl).trans e2
    have h18 : aa.tmps[18]?.getD undef = .agg (dgA (nodeL K x y)) := hc 8 18 (by decide) rfl
    have hHz := Lib.hid (And.intro hu (And.intro hsz hdf))
    clear hc hu hsz hdf hz0
    have hRz := hS.out ω hb
    go_simp
    have ha0 := hha0.out
    subst ha0
    have he := act_patchT (n := 28) 9 [false, false, false, false, false, false, false, false, false, false, true, true, true, true, true, true, true, true, true, false, false, false, false, false, false, false, false, false] rfl (by kernel_rfl) hHz.out.1 hHz.out.2.1 hHz.out.2.2
    simp only [patch, cond_true, cond_false, Nat.reduceAdd] at he
    clear hHz hha0 e0 e2 e4
    rw [he]
    clear he
    generalize aa.tmps[10]?.getD undef = x10 at *
    generalize aa.tmps[11]?.getD undef = x11 at *
    generalize aa.tmps[12]?.getD undef = x12 at *
    generalize aa.tmps[13]?.getD undef = x13 at *
    generalize aa.tmps[14]?.getD undef = x14 at *
    generalize aa.tmps[15]?.getD undef = x15 at *
    generalize aa.tmps[16]?.getD undef = x16 at *
    generalize aa.tmps[17]?.getD undef = x17 at *
    generalize aa.tmps[18]?.getD undef = x18 at *
    clear hs0 hs1 hT0 hI1 hI2 hC1 hC2 hN hHf
    go_wp2_with fail
    exact ret_stored (p := 2) (ty := 28) (g := w.heap.size) (n := 32) (c := dgA (nodeL K x y)) rfl Tryd.underlying28 rfl (by kernel_rfl) rfl hRz hcn.1 rfl ⟨by rw [hfin.out], below_setRow (hL0.trans (hb.mono (by have := hR0.lt; omega))) (Nat.le_refl _)⟩
end Go.Proofs.YtjihklaocgmlpaaDoor
