/- Package store: List. -/
import Derived.Test.YtakooljbkjnilaaSt5
namespace Go.Proofs.Ytakooljbkjnilaa
open Go.ChangeShapes Go.WideShapes Go.ChangeAt Go.RowKit
set_option maxHeartbeats 1000000
set_option maxRecDepth 100000
attribute [local go_sem] Oper.semAt_some kp_refl kp_alloc kp_setCell kp_drew kp_drewN row_new row_old rowAt_new rowAt_old

/-- What List hands back: the same objects, in memory of the call's own. -/
def ListR (l : List Hd) (w : World) (e : Ending) (w' : World) : Prop := ∃ A c l', e = .returned (.slice A l'.length c) ∧ OwnH w.heap.size w'.heap.size w' (.slice A l'.length c) l' ∧ l'.map Hd.ob = l.map Hd.ob ∧ Below w.heap.size w w'
/-- Between the rounds of List. -/
structure LsI (n0 : Nat) (w : World) (M : Nat) (pre : List Hd) (sv : Value) (o : List Hd) (N : Nat) (A : World) : Prop where
  cell : A.cell? ⟨n0, 0, none⟩ = some sv
  fz : A.frozen? ⟨n0, 0, none⟩ = false
  own : OwnH M N A sv o
  ob : o.map Hd.ob = pre.map Hd.ob
  bel : Below n0 w A
  size : N ≤ A.heap.size
theorem LsI.grown {n0 M N b : Nat} {w A B : World} {pre o : List Hd} {sv : Value} (h : LsI n0 w M pre sv o N A) (hw : n0 = w.heap.size) (hg : A.grownBy B (some b)) (h1 : n0 < b) (h2 : b < M) : LsI n0 w M pre sv o N B :=
  ⟨cell_grown h.cell hg (by show n0 ≠ b; omega), (World.frozen?_of_block (hg.block n0 (cell_ltS h.cell) (fun e => by injection e; omega))).trans h.fz,
    h.own.kept (fun j hj hN => hg.block j (Nat.lt_of_lt_of_le hN h.size) (fun e => by injection e; omega)) hg.size, h.ob, below_grown h.bel hg (by omega) (by omega), Nat.le_trans h.size hg.size⟩
theorem own_lower {w : World} {B B' : Nat} {e : TypeId} {size n : Nat} {v : Value} {xs : List Value} (h : w.ownsRow B e size v n xs) (hB : B' ≤ B) : w.ownsRow B' e size v n xs := by
  refine ⟨h.1, ?_⟩
  rcases h.2 with h1 | ⟨g, cap, cur, h1, h2, h3⟩
  · exact .inl h1
  · exact .inr ⟨g, cap, cur, h1, Nat.le_trans hB h2, h3⟩
theorem cell_grownO {A B : World} {row : Option Nat} {a : Addr} {v : Value} (h : A.cell? a = some v) (hg : A.grownBy B row) (hne : some a.block ≠ row) : B.cell? a = some v :=
  (World.cell?_of_block (hg.block _ (cell_ltS h) hne)).trans h
theorem frozen_grownO {A B : World} {row : Option Nat} {a : Addr} {v : Value} {f : Bool} (h : A.cell? a = some v) (hf : A.frozen? a = f) (hg : A.grownBy B row) (hne : some a.block ≠ row) : B.frozen? a = f :=
  (World.frozen?_of_block (hg.block _ (cell_ltS h) hne)).trans hf
set_option maxHeartbeats 4000000 in
theorem store_List (g bm : Nat) (most next : Int) (l : List Hd) (w : World) (h : StAt w g bm most next l) (hll : l.length ≤ 100000) :
    Calls Try.prog 7 #[.pointer (some ⟨g, 0, none⟩)] w (ListR l w) := by
  refine (callsIn_wide (n := 10)).1 ?_
  have hall := store_all g bm most next l w w.heap.size h hll (Nat.le_refl _)
  refine callsIn_of_wp_marks Try.func7 rfl trivial ?_ rfl
  simp only [Try.ntmps7, List.size_toArray, List.length_cons, List.length_nil, Nat.reduceAdd, Nat.reduceSub, Array.replicate_succ, Array.replicate_zero, List.push_toArray, List.append_toArray, List.nil_append, List.cons_append]
  gi_wp2
  refine wpIn_rangeFunc_seq rfl (by omega) (gf := 12) (fs := #[.pointer (some ⟨g, 0, none⟩)]) (lb := #[]) rfl trivial (enters_of Try.func12 (by kernel_rfl) rfl) hall ((Below.refl _ w).alloc (Nat.le_refl _) _) rfl (by simp)
    (fun M pre A => ∃ sv o, LsI w.heap.size w M pre sv o A.heap.size A)
    (fun M pre x a' A => ∃ sv o b, LsI w.heap.size w M pre sv o b A ∧ M ≤ b ∧ b < A.heap.size ∧ A.cell? ⟨b, 0, none⟩ = some (.int .i64 x.h) ∧ A.cell? ⟨b, 1, none⟩ = some (.int .i64 x.o) ∧ A.cell? ⟨b, 2, none⟩ = some (.slice x.A x.l.length x.cap) ∧ (∀ i, A.frozen? ⟨b, i, none⟩ = false) ∧
      a' = { tmps := #[.pointer (some ⟨g, 0, none⟩), undef, .slice none 0 0, .pointer (some ⟨w.heap.size, 0, none⟩), .pointer (some ⟨b, 0, none⟩), .pointer (some ⟨g, 0, none⟩), .func (.func 12) #[.pointer (some ⟨g, 0, none⟩)] #[], x.val, undef, undef, undef, undef, undef, undef, undef, undef, undef], defers := [] }) ?_ ?_ ?_ ?_ ?_ ?_
  · rintro M pre A B hM ⟨sv, o, hL⟩ hg
    simp at hg hM
    have hL2 := hL.grown rfl hg (by omega) (by omega)
    exact ⟨sv, o, hL2.cell, hL2.fz, hL2.own.more hg.size, hL2.ob, hL2.bel, Nat.le_refl _⟩
  · rintro M pre x a' A B hM ⟨sv, o, b, hL, h1, h2, h3, h4, h5, h6, h7⟩ hg
    simp at hg hM
    exact ⟨sv, o, b, hL.grown rfl hg (by omega) (by omega), h1, Nat.lt_of_lt_of_le h2 hg.size, cell_grown h3 hg (by show b ≠ _; omega), cell_grown h4 hg (by show b ≠ _; omega), cell_grown h5 hg (by show b ≠ _; omega), fun i => (World.frozen?_of_block (hg.block b h2 (fun e => by injection e; omega))).trans (h6 i), h7⟩
  · intro A hA hs
    refine ⟨.slice none 0 0, [], (hA.cell (p := ⟨w.heap.size, 0, none⟩) (by simp)).trans ?_, ?_, OwnH.start _ _ _, rfl, ((Below.refl _ w).alloc (Nat.le_refl _) _).trans (hA.mono (by simp)), Nat.le_refl _⟩
    · rw [World.cell?_alloc_at _ _ _ _ rfl]; rfl
    · rw [World.frozen?_of_block (hA.block w.heap.size (by simp))]
      rw [World.frozen?_alloc_at _ _ _ _ rfl]
  · rintro M pre x W K hM hMW ⟨sv, o, hL⟩ hp hK
    obtain ⟨xh, xo, xA, xc, xl⟩ := x
    simp at hM
    have hb := below_alloc' W (.cells #[.int .i64 xh, .int .i64 xo, .slice xA xl.length xc] 45)
    have hk := Lib.hid (hK _ _ ⟨sv, o, W.heap.size, ⟨(hb.cell (p := ⟨w.heap.size, 0, none⟩) (cell_ltS hL.cell)).trans hL.cell, (World.frozen?_of_block (hb.block w.heap.size (cell_ltS hL.cell))).trans hL.fz, hL.own.below (Nat.le_refl _) hb, hL.ob, hL.bel.trans (hb.mono hL.bel.size), hb.size⟩, hMW, by simp, by rw [World.cell?_alloc_at _ _ _ _ rfl]; rfl, by rw [World.cell?_alloc_at _ _ _ _ rfl]; rfl, by rw [World.cell?_alloc_at _ _ _ _ rfl]; rfl, fun i => by rw [World.frozen?_alloc_at _ _ _ _ rfl], rfl⟩ (KeptM.of_below hMW hb))
    clear hK hL hb
    simp only [Hd.val] at *
    gi_wp2
    exact hk.out
  · rintro M pre x a' W hM hMW ⟨sv, o, b, hL, h1, h2, h3, h4, h5, h6, rfl⟩ hp
    obtain ⟨post, hp⟩ := hp
    simp at hM
    have hxl : x ∈ l := by rw [hp]; simp
    have hSW := h.step hL.bel
    have hx := hSW.at_ x hxl
    obtain ⟨xh, xo, xA, xc, xl⟩ := x
    simp only [Hd.val] at *
    have hcO : CallsIn (Fence.wide.inRound (w.heap.size + 1 + 1)) 7 Try.prog 13 #[.slice xA xl.length xc] W fun e w' => ∃ A' c' l', e = .returned (.slice A' l'.length c') ∧ OwnA (xl.map At.kv) W A' c' l' w' ∧ w'.cell? ⟨b, 0, none⟩ = some (.int .i64 xh) ∧ w'.cell? ⟨b, 1, none⟩ = some (.int .i64 xo) ∧ w'.cell? ⟨b, 2, none⟩ = some (.slice xA xl.length xc) ∧ (∀ i, w'.frozen? ⟨b, i, none⟩ = false) := by
      refine callsIn_wide.2 ((store_ownA xA xl xc W hx.ats.ats hx.lim).mono ?_)
      rintro e w' ⟨A', c', l', rfl, hO⟩
      exact ⟨A', c', l', rfl, hO, (hO.bel.cell (p := ⟨b, 0, none⟩) h2).trans h3, (hO.bel.cell (p := ⟨b, 1, none⟩) h2).trans h4, (hO.bel.cell (p := ⟨b, 2, none⟩) h2).trans h5, fun i => (World.frozen?_of_block (hO.bel.block b h2)).trans (h6 i)⟩
    have hfO : Fence.wide.fn 13 := trivial
    gi_upto_region 5 with (gi_at_call 13; refine hcO.mono ?_; rintro e w4 ⟨A', c', l', rfl, hO, f0, f1, f2, f3⟩)
    have hz4 := hO.bel.size
    have hol : o.length ≤ 100000 := by
      have e1 := congrArg List.length hL.ob
      have e2 := congrArg List.length hp
      simp at e1 e2
      omega
    have hV0 : (w4.setCell ⟨b, 2, none⟩ (.slice A' l'.length c')).cell? ⟨b, 0, none⟩ = some (.int .i64 xh) := (World.cell?_setCell_other _ _ _ _ (by intro e; injection e with e1 e2; cases e2)).trans f0
    have hV1 : (w4.setCell ⟨b, 2, none⟩ (.slice A' l'.length c')).cell? ⟨b, 1, none⟩ = some (.int .i64 xo) := (World.cell?_setCell_other _ _ _ _ (by intro e; injection e with e1 e2; cases e2)).trans f1
    have hV2 : (w4.setCell ⟨b, 2, none⟩ (.slice A' l'.length c')).cell? ⟨b, 2, none⟩ = some (.slice A' l'.length c') := World.cell?_setCell_same' _ _ _ (by rw [f2]; rfl)
    have hkV : ∀ k, k < W.heap.size → k ≠ b → (w4.setCell ⟨b, 2, none⟩ (.slice A' l'.length c')).heap[k]? = W.heap[k]? := fun k hk hne => (Below.heap_setCell _ _ _ _ hne).trans (hO.bel.block k hk)
    have hbV : Below w.heap.size w (w4.setCell ⟨b, 2, none⟩ (.slice A' l'.length c')) := (hL.bel.trans (hO.bel.mono hL.bel.size)).setCell (by show w.heap.size ≤ b; omega) _
    have hats : AtsP (fun k => W.heap.size ≤ k ∧ k < w4.heap.size) (w4.setCell ⟨b, 2, none⟩ (.slice A' l'.length c')) A' l' := hO.ats.kept (fun k _ hk => Below.heap_setCell _ _ _ _ (by have := hk.1; show k ≠ b; omega)) (by simp)
    have hzV : w4.heap.size = (w4.setCell ⟨b, 2, none⟩ (.slice A' l'.length c')).heap.size := by simp
    generalize w4.setCell ⟨b, 2, none⟩ (.slice A' l'.length c') = V at *
    have hVn : V.cell? ⟨w.heap.size, 0, none⟩ = some sv := (World.cell?_of_block (hkV _ (cell_ltS hL.cell) (by show w.heap.size ≠ b; omega))).trans hL.cell
    have hVf : V.frozen? ⟨w.heap.size, 0, none⟩ = false := (World.frozen?_of_block (hkV _ (cell_ltS hL.cell) (by show w.heap.size ≠ b; omega))).trans hL.fz
    have hOV : OwnH M b V sv o := hL.own.kept (fun j _ hj => hkV j (by omega) (by omega)) (by omega)
    have hb2 := below_alloc' V (.cells #[.int .i64 xh, .int .i64 xo, .slice A' l'.length c'] 45)
    have hO2 := Lib.hid (hOV.below (by omega) hb2)
    have hf2 : HdOk (fun k => M ≤ k ∧ k < (V.alloc (.cells #[.int .i64 xh, .int .i64 xo, .slice A' l'.length c'] 45)).heap.size ∧ some k ≠ sv.ownBlock) (V.alloc (.cells #[.int .i64 xh, .int .i64 xo, .slice A' l'.length c'] 45)) ⟨xh, xo, A', c', l'⟩ :=
      ⟨(hats.step hb2).weaken fun k hk => ⟨by omega, by simp; omega, fun e => by have := hOV.lt _ e.symm; omega⟩, hO.len, hO.cap, by have e1 := congrArg List.length hO.kv; rw [List.length_map, List.length_map] at e1; show l'.length ≤ _; rw [e1]; exact hx.lim⟩
    have hf3 := Lib.hid hf2
    have hbL := Lib.hid (hbV.trans (hb2.mono hbV.size))
    have hsz2 : (V.alloc (.cells #[.int .i64 xh, .int .i64 xo, .slice A' l'.length c'] 45)).heap.size = V.heap.size + 1 := by simp
    have hn2 : (V.alloc (.cells #[.int .i64 xh, .int .i64 xo, .slice A' l'.length c'] 45)).cell? ⟨w.heap.size, 0, none⟩ = some sv := (hb2.cell (p := ⟨w.heap.size, 0, none⟩) (cell_ltS hVn)).trans hVn
    have hn3 : (V.alloc (.cells #[.int .i64 xh, .int .i64 xo, .slice A' l'.length c'] 45)).frozen? ⟨w.heap.size, 0, none⟩ = false := (World.frozen?_of_block (hb2.block w.heap.size (cell_ltS hVn))).trans hVf
    have hk2 := Lib.hid (fun k (hk : k < W.heap.size) (hne : k ≠ b) => (hb2.block k (by omega)).trans (hkV k hk hne))
    have hown : ∀ g, sv.ownBlock = some g → M ≤ g ∧ g < b := fun g hg => ⟨(hOV.own.lt g hg).1, hOV.lt g hg⟩
    have hkv := Lib.hid hO.kv
    clear hO hats hkV hf2 hx hSW hb2 hOV hbV
    gi_wp2_with (gi_at_builtin; refine wpListIn_app rfl (.tmp 12) (.tmp 14) 27 rfl SHd rfl hO2.out.own rfl (m := 1) (news := [.int .i64 xh, .int .i64 xo, .slice A' l'.length c']) rfl (Rd.of_blk (g := V.heap.size) (blk_new _ _ rfl) (Nat.lt_succ_self _)) (by intro u hu; simp at hu; rcases hu with rfl | rfl | rfl <;> rfl) (by unfold maxLen; omega) (by omega) (by omega) ?_; intro v2 w5 hO5 hg5 hat5; obtain ⟨A9, c9, rfl⟩ := own_formS hO5; have g1 := cell_grownO hn2 hg5 (fun e => by have := hown _ e.symm; simp at this; omega); have g2 := frozen_grownO hn2 hn3 hg5 (fun e => by have := hown _ e.symm; simp at this; omega))
    have hs5 := hg5.size
    have hH5 : OwnH M w5.heap.size w5 (.slice A9 (o.length + 1) c9) (o ++ [⟨xh, xo, A', c', l'⟩]) := hO2.out.snoc (by omega) hf3.out hg5 hat5 hO5
    refine ⟨⟨by simp; omega, fun k hk hne => ?_⟩, .slice A9 (o.length + 1) c9, o ++ [⟨xh, xo, A', c', l'⟩], World.cell?_setCell_same' _ _ _ (by rw [g1]; rfl), by rw [World.frozen?_setCell]; exact g2, ?_, ?_, ?_, Nat.le_refl _⟩
    · rw [Below.heap_setCell _ _ _ _ hne, hg5.block k (by omega) (fun e => by have := hown _ e.symm; omega)]
      exact hk2.out k (by omega) (by omega)
    · exact (hH5.kept (fun j hj _ => Below.heap_setCell _ _ _ _ (by show j ≠ w.heap.size; omega)) (by simp)).more (by simp)
    · rw [List.map_append, List.map_append, hL.ob]
      simp [Hd.ob, hkv.out]
    · refine Below.setCell (p := ⟨w.heap.size, 0, none⟩) ?_ (Nat.le_refl w.heap.size) _
      exact hbL.out.grown hg5 (by omega) (fun k hk => by have := hown k hk; omega)
  · rintro M W hM ⟨sv, o, hL⟩ hd
    obtain ⟨A, c, rfl, hc1, hc2⟩ := hL.own.form
    have hcell := hL.cell
    gi_wp2
    refine ⟨by simp, .inl ⟨_, _, rfl, run_takeDeferred hd, ?_⟩⟩
    have hg := grownBy_putObj' W (w.alloc (.cells #[.slice none 0 0] 27)).heap.size (.deferred none)
    have hL2 := hL.grown rfl hg (by simp) (by omega)
    refine ⟨_, results_tmp rfl _ _ _, A, c, o, rfl, ?_, hL2.ob, hL2.bel⟩
    exact ⟨own_lower hL2.own.own (by simp at hM; omega), fun g hg => Nat.lt_of_lt_of_le (hL2.own.lt g hg) hL2.size, fun x hx => (hL2.own.body x hx).weaken fun k hk => ⟨by have := hk.1; simp at hM; omega, Nat.lt_of_lt_of_le hk.2.1 hL2.size, hk.2.2⟩⟩
end Go.Proofs.Ytakooljbkjnilaa
