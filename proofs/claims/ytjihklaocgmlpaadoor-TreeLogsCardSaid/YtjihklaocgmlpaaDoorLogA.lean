/- Contract of a log's Add. -/
import Derived.Test.YtjihklaocgmlpaaDoorLogR
namespace Go.Proofs.YtjihklaocgmlpaaDoor
open Go.ChangeShapes Go.WideShapes Go.ChangeAt Go.RowKit
set_option maxHeartbeats 1000000
set_option maxRecDepth 100000
attribute [local irreducible] arrV dgA sha
attribute [local go_sem ↓] load_o32 store_o32 execl_o32 execs_o32 load_e32 execl_e32 build_32 execb_32
attribute [local go_sem] isHead_mk isPart_mk offOf_mk blkOf_mk isAgg_mk cellsV_mk row_drew rowAt_drew row_new_cells row_old rowAt_new rowAt_old zeroD ldOk_drew ldC_drew
section
variable {w0 W w' : World} {g n m c D B : Nat} {A : Option Addr} {P Q : List (List UInt8)} {v v' : Value} {a : List UInt8}
theorem cut_own (h : W.ownsRow B 28 32 (.slice A (m + 1) c) (m + 1) (flat (Q ++ [a]))) (hQ : ∀ x ∈ Q, x.length = 32) (hm : Q.length = m) : W.ownsRow B 28 32 (.slice A m c) m (flat Q) := by
  have hf := flat_len hQ
  refine ⟨by rw [hf, hm]; omega, ?_⟩
  rcases h.2 with ⟨-, h2⟩ | ⟨b, cap, cur, h1, h2, h3, h4, h5, h6, h7⟩
  · exact absurd h2 (by omega)
  · injection h1 with e1 e2 e3
    subst e1 e3
    refine .inr ⟨b, c, cur, rfl, h2, h3, by omega, h5, h6, ?_⟩
    have : (cur.toList.take ((m + 1) * 32)).take (m * 32) = flat Q := by
      rw [h7, flat_append]
      exact List.take_left' (by rw [hf, hm]; omega)
    rw [List.take_take, Nat.min_eq_left (by omega)] at this
    exact this
theorem LogAt.cut (h : LogAt w0 g n (.slice A (m + 1) c) (Q ++ [a]) W) (hm : Q.length = m) : LogAt w0 g n (.slice A m c) Q (W.setCell ⟨g, 1, none⟩ (.slice A m c)) := by
  have hQ : ∀ x ∈ Q, x.length = 32 := fun x hx => h.all x (by simp [hx])
  have ho := h.own
  rw [List.length_append, hm] at ho
  exact ⟨(World.cell?_setCell_other _ _ _ _ (by simp)).trans h.c0, World.cell?_setCell_same _ _ _ h.c1, hm ▸ ownsRow_setCell_below (hm ▸ cut_own ho hQ hm) (by simp) _, hQ, h.bel.setCell (Nat.le_refl _) _, by simpa using h.sz, fun i => by rw [World.frozen?_setCell]; exact h.fz i⟩
theorem ownsRow_far {cs : Array Value} (h : W.ownsRow B 28 32 v m (flat P)) (hD : v.ownBlock ≠ some D) : (W.setRow D cs).ownsRow B 28 32 v m (flat P) := by
  refine ⟨h.1, ?_⟩
  rcases h.2 with h1 | ⟨b, cap, cur, h1, h2, h3, h4⟩
  · exact .inl h1
  · refine .inr ⟨b, cap, cur, h1, h2, ?_, h4⟩
    rw [setRow_other W D b cs (fun e => hD (by rw [h1, ← e]; rfl))]
    exact h3
theorem LogAt.setD {cs : Array Value} (h : LogAt w0 g n v P W) (hD : v.ownBlock ≠ some D) (hg : g < D) : LogAt w0 g n v P (W.setRow D cs) :=
  ⟨(World.cell?_of_block (setRow_other W D g cs (by omega))).trans h.c0, (World.cell?_of_block (setRow_other W D g cs (by omega))).trans h.c1, ownsRow_far h.own hD, h.all, below_setRow h.bel (Nat.le_of_lt hg), by simpa using h.sz, fun i => (World.frozen?_of_block (setRow_other W D g cs (by omega))).trans (h.fz i)⟩
theorem LogAt.setP (h : LogAt w0 g n v P W) (hO : OwnD W (g + 1) v' Q w') : LogAt w0 g n v' Q (w'.setCell ⟨g, 1, none⟩ v') := by
  have hb : w'.heap[g]? = W.heap[g]? := hO.bel.block g (Nat.lt_succ_self _)
  exact ⟨(World.cell?_setCell_other _ _ _ _ (by simp)).trans ((World.cell?_of_block hb).trans h.c0), World.cell?_setCell_same _ _ _ ((World.cell?_of_block hb).trans h.c1), ownsRow_setCell_below hO.own (by simp) _, hO.all, (h.bel.trans (hO.bel.mono (Nat.le_succ _))).setCell (Nat.le_refl _) _, by have := hO.sz; simp; omega, fun i => by rw [World.frozen?_setCell]; exact (World.frozen?_of_block hb).trans (h.fz i)⟩
theorem LogAt.setN {n' : Nat} (h : LogAt w0 g n v P W) : LogAt w0 g n' v P (W.setCell ⟨g, 0, none⟩ (.int .i64 (n' : Nat))) :=
  ⟨World.cell?_setCell_same _ _ _ h.c0, (World.cell?_setCell_other _ _ _ _ (by simp)).trans h.c1, ownsRow_setCell_below h.own (by simp) _, h.all, h.bel.setCell (Nat.le_refl _) _, by simpa using h.sz, fun i => by rw [World.frozen?_setCell]; exact h.fz i⟩
theorem LogAt.apart (h : LogAt w0 g n v P W) (hD : W.heap.size ≤ D) : v.ownBlock ≠ some D := fun e => by
  have := (h.own.lt D e).2
  omega
end
theorem odd_last {α : Type} {l : List α} {k : Nat} (hl : l.length = k) (h : k % 2 = 1) : ∃ q a, l = q ++ [a] ∧ q.length % 2 = 0 ∧ q.length + 1 = k := by
  refine ⟨l.dropLast, l.getLast (by intro e; subst e; simp at hl; omega), (List.dropLast_concat_getLast _).symm, ?_, ?_⟩ <;> rw [List.length_dropLast] <;> omega
theorem pkPF_len {α : Type} (node : α → α → α) : ∀ (f : Nat) (l : List α), (pkPF node f l).length ≤ f
  | 0, _ => Nat.le_refl _
  | f + 1, l => by
    unfold pkPF
    split
    · simp
    · split
      · exact Nat.le_succ_of_le (pkPF_len node f _)
      · rw [List.length_append]
        have h1 := pkPF_len node f (floorL node l.dropLast)
        split <;> simp <;> omega
theorem pk_len {α : Type} (node : α → α → α) (l : List α) : (pkP node l).length ≤ l.length := pkPF_len node _ l
set_option maxHeartbeats 4000000 in
theorem log_Add (K : Nat → W32) (w0 : World) (g n : Nat) (v : Value) (l : List (List UInt8)) (B : Option Addr) (p : List UInt8) (k0 cp : Nat) (w : World) (h : LogAt w0 g n v (pkP (nodeL K) l) w) (hl : l.length = n) (hn : n < 65536) (hT : Tabs K w0) (hg : w0.heap.size ≤ g) (hp : Bs w0 B p cp) (hk0 : p.length = k0) :
    Calls Tryd.prog 13 #[.pointer (some ⟨g, 0, none⟩), .slice B k0 cp] w fun e w' => ∃ v', e = .returned (.int .i64 0) ∧ LogAt w0 g (n + 1) v' (pkP (nodeL K) (l ++ [leafL K p])) w' := by
  have hcz := dgA_cells []
  have hxl := leaf_len K p
  have hcx := dgA_cells (leafL K p)
  have hlog := Lib.hid h
  have hHT := Lib.hid hT
  have hTw := Lib.hid (hT.below h.bel hg)
  have hpw := Lib.hid (show Bs w B p cp from ⟨(hp.rd.below (h.bel.mono hg)).more (Nat.le_trans hg (Nat.le_of_lt h.sz)), hp.le, hp.mx⟩)
  obtain ⟨A, c, rfl, -⟩ := h.form
  have c0 := h.c0
  have hb0 : ((n : Int) == 65536) = false := by simp; omega
  have hHl := Lib.hid hl
  have hHk := Lib.hid hk0
  have hsz := h.sz
  obtain ⟨r, hr⟩ : ∃ r, pkP (nodeL K) (l ++ [leafL K p]) = r := ⟨_, rfl⟩
  have hHr := Lib.hid hr
  rw [hr]
  clear hT hp hk0 hl h hr
  go_enter Tryd.func13, Tryd.ntmps13
  go_wp2_with fail
  refine (leaf0 K hTw.out hpw.out hHk.out).mono ?_
  rintro e w1 ⟨rfl, hb1⟩
  have hl1 := hlog.out.step hb1
  have hD : (Value.slice A (pkP (nodeL K) l).length c).ownBlock ≠ some w1.heap.size := hl1.apart (Nat.le_refl _)
  have hz : Row (w1.alloc (Obj.cells (dgA []) 28)) w1.heap.size 32 := (row_new rfl).2 hcz.1
  have hl2 := (hl1.step (below_alloc w1 (Obj.cells (dgA []) 28))).setD (cs := dgA (leafL K p)) hD hl1.sz
  have f2 : Row ((w1.alloc (Obj.cells (dgA []) 28)).setRow w1.heap.size (dgA (leafL K p))) w1.heap.size 32 := (row_setRow_same rfl hz).2 hcx.1
  have f3 : rowAt ((w1.alloc (Obj.cells (dgA []) 28)).setRow w1.heap.size (dgA (leafL K p))) w1.heap.size = dgA (leafL K p) := rowAt_setRow_same hz
  have hgD := hl1.sz
  have hlA := Lib.hid hl2
  have c2 := hl2.c0
  clear c0 hl1 hlog hTw hpw hz hl2
  go_wp2_with fail
  generalize ((w1.alloc (Obj.cells (dgA []) 28)).setRow w1.heap.size (dgA (leafL K p))) = W1 at *
  generalize leafL K p = x0 at *
  generalize w1.heap.size = D at *
  have hDA : ∀ m, (Value.slice A m c).ownBlock ≠ some D := fun m => by cases A <;> exact hD
  have hHDA := Lib.hid hDA
  clear hD hDA hcx c2 hb0
  go_loopw [6] (fun v6 wr => ∃ (k m : Nat) (x : List UInt8) (q : List (List UInt8)), v6 = .int .i64 k ∧ q.length = k ∧ k ≤ n ∧ x.length = 32 ∧ Hid ((pkP (nodeL K) q).length = m) ∧ Hid (pkP (nodeL K) (q ++ [x]) = r) ∧ Hid (LogAt w0 g n (.slice A m c) (pkP (nodeL K) q) wr) ∧ Row wr D 32 ∧ rowAt wr D = dgA x) (fun v6 _ => (intOf v6).toNat)
  case atStart => exact ⟨n, _, x0, l, rfl, hHl.out, Nat.le_refl _, hxl, Lib.hid rfl, hHr, hlA, f2, f3⟩
  case round =>
    obtain ⟨k, m, x, q, rfl, hqk, hkn, hx32, hm, hqr, hL, g2, g3⟩ := hrel
    have hcx := dgA_cells x
    clear hlA f2 f3 hHr hxl
    have hl := hL.out
    have hm6 := pk_len (nodeL K) q
    rw [hm.out] at hm6
    by_cases hev : k % 2 = 0
    · have q1 : Int.tmod (k : Int) 2 = 0 := by rw [Int.tmod_eq_emod_of_nonneg (by omega)]; omega
      have hrx := Lib.hid (show r = pkP (nodeL K) q ++ [x] by rw [← hqr.out, pkP_odd (by omega), ← pkP_even (by omega)])
      have c1 := hl.c1
      have hgs := hl.sz
      have hfz := Lib.hid (hl.fz 1)
      have hc0 := Lib.hid hl.c0
      have hO := Lib.hid (show OwnD wr (g + 1) (.slice A m c) (pkP (nodeL K) q) wr from ⟨hl.own, hl.all, Below.refl _ _, hl.sz⟩)
      clear hl hqr
      go_wp2_with fail
      go_region_law (first
          | (refine step_ownD1 (v := .slice A m c) (x := x) rfl (.tmp 52) (.tmp 54) rfl rfl hO.out.drew rfl hx32 (by have := hm.out; omega) ?_; intro v' w' hO3; obtain ⟨A2, c2, rfl, -, -⟩ := hO3.form; have hHO3 := Lib.hid hO3; have c3 := (World.cell?_of_block (a := ⟨g, 1, none⟩) (hO3.bel.block g (Nat.lt_succ_self _))).trans c1; have c4 := (World.frozen?_of_block (a := ⟨g, 1, none⟩) (hO3.bel.block g (Nat.lt_succ_self _))).trans hfz.out; clear hO3))
      all_goals rw [show (pkP (nodeL K) q ++ [x]).length = (pkP (nodeL K) q).length + 1 by simp] at hHO3
      all_goals have hl4 := hL.out.setP hHO3.out
      all_goals have c0 := hl4.c0
      all_goals have c5 := hl4.fz 0
      all_goals have hh4 := Lib.hid hl4
      all_goals have hwn : IntKind.i64.wrap ((n : Int) + 1) = (n : Int) + 1 := by rw [IntKind.wrap_i64]; omega
      all_goals clear hHO3 hl4 c1 c3 c4 hO hc0 hL g2 g3 hgs
      all_goals go_wp2_with fail
      all_goals go_ret
      all_goals exact ⟨_, rfl, hrx.out ▸ hh4.out.setN (n' := n + 1)⟩
    · obtain ⟨q2, y, rfl, hq2, hq3⟩ := odd_last hqk (by omega)
      have hpk := pkP_odd (node := nodeL K) (x := y) hq2
      rw [hpk, List.length_append] at hm
      rw [hpk] at hL hl
      obtain ⟨m, rfl⟩ : ∃ m', m = m' + 1 := ⟨m - 1, by have := hm.out; simp at this; omega⟩
      have hm1 : (pkP (nodeL K) (floorL (nodeL K) q2)).length = m := by have := hm.out; simpa using this
      have hHm1 := Lib.hid hm1
      have q1 : Int.tmod (k : Int) 2 = 1 := by rw [Int.tmod_eq_emod_of_nonneg (by omega)]; omega
      have q2' : Int.tdiv (k : Int) 2 = ((k / 2 : Nat) : Int) := by rw [Int.tdiv_eq_ediv_of_nonneg (by omega)]; omega
      have q3 : IntKind.i64.wrap ((k / 2 : Nat) : Int) = ((k / 2 : Nat) : Int) := by rw [IntKind.wrap_i64]; omega
      have hw1 : IntKind.i64.wrap (m : Int) = (m : Int) := by rw [IntKind.wrap_i64]; simp at hm6; omega
      have hfl : (floorL (nodeL K) q2).length = k / 2 := by rw [floorL_len]; omega
      have hrr : Hid (pkP (nodeL K) (floorL (nodeL K) q2 ++ [nodeL K y x]) = r) := Lib.hid (by rw [← hqr.out, pkP_even (l := q2 ++ [y] ++ [x]) (by simp; omega), floorL_two hq2])
      have hyl : y.length = 32 := hl.all y (by simp)
      have hk2 : k / 2 < k := by omega
      have hy2 : (pkP (nodeL K) (floorL (nodeL K) q2) ++ [y])[m]? = some y := by rw [List.getElem?_append_right (by omega), hm1]; simp
      obtain ⟨A', c', e1, hPt⟩ := hl.form
      have hlen3 : (pkP (nodeL K) (floorL (nodeL K) q2) ++ [y]).length = m + 1 := by simp [hm1]
      rw [hlen3] at e1
      injection e1 with e1 e2 e3
      subst e1 e3
      obtain ⟨ad, -, rfl, -, -⟩ := hPt.some_ (i := m) (by omega)
      have hcy := dgA_cells y
      have hcn := dgA_cells (nodeL K y x)
      have hnl := node_len K y x
      have hN := Lib.hid (fun V (h : Tabs K V) => tree_Node K y x V h hyl hx32)
      have hT1 := Lib.hid (hHT.out.below hl.bel hg)
      have hz1 : (0 : Int) ≤ (m : Int) := by omega
      have hz2 : (m : Int) < (m : Int) + 1 := by omega
      have ht : ((m : Nat) : Int).toNat = m := by simp
      have hs0 := fun V => sl_to S32 (some ad) (m + 1) c m (m : Nat) (by omega) (by have := hPt.le; omega) (by simp) V
      have c1 := hl.c1
      have hDAx := hHDA.out (m + 1)
      have hS := Lib.hid (show ∀ V : World, Below wr.heap.size wr V → V.cell? ⟨g, 1, none⟩ = some (.slice (some ad) (m + 1) c) ∧ LdOk V 32 (.pointer (some (ad.add (m * 32)))) ∧ ldC V 32 (.pointer (some (ad.add (m * 32)))) = dgA y ∧ Row V D 32 ∧ rowAt V D = dgA x ∧ LogAt w0 g n (.slice (some ad) (m + 1) c) (pkP (nodeL K) (floorL (nodeL K) q2) ++ [y]) V from fun V hV => by
        have hl5 := hl.step hV
        have hp := hPt.step hV
        exact ⟨hl5.c1, el_ok hp.rd hp.all hy2, el_ld hp.rd hp.all hy2, row_below g2 hV g2.lt, (rowAt_below hV g2.lt).trans g3, hl5⟩)
      clear hl hPt hy2 hL hpk hlen3 hm1 hqk hm6 hq2 hev hqr
      generalize nodeL K y x = z at *
      generalize floorL (nodeL K) q2 = q4 at *
      generalize k / 2 = k2 at *
      go_wp2_with fail
      generalize ha0 : Act.mk _ _ = a0
      have e0 : a0.tmps[0]?.getD undef = .pointer (some ⟨g, 0, none⟩) := by rw [← ha0]; rfl
      have e5 : a0.tmps[5]?.getD undef = .pointer (some ⟨D, 0, none⟩) := by rw [← ha0]; rfl
      have e7 : a0.tmps[7]?.getD undef = .int .i64 (m : Nat) := by rw [← ha0]; rfl
      have hz0 : a0.tmps.size = 65 := by rw [← ha0]; rfl
      have hha0 := Lib.hid ha0
      clear ha0
      refine wp_region_tail (fun jx_ => match jx_ with | 0 => SRel.is (.pointer (some ⟨g, 0, none⟩)) | 1 => SRel.is (.pointer (some ⟨g, 0, none⟩)) | 2 => SRel.is (.pointer (some ⟨g, 1, none⟩)) | 3 => SRel.is (.slice (some ad) (m + 1) c) | 4 => SRel.is (.int .i64 (m : Nat)) | 5 => SRel.is (.pointer (some (ad.add (m * 32)))) | 6 => SRel.is (.agg (dgA y)) | 7 => SRel.is (.agg (dgA x)) | 8 => SRel.is (.agg (dgA z)) | 9 => SRel.any | _ => SRel.any) 9 (by kernel_rfl) (by kernel_rfl) (by kernel_rfl) (slotsOk_of hz0 (by kernel_rfl)) (by kernel_rfl) ⟨?_, ?_, ?_, ?_, ?_, ?_, ?_, ?_, ?_, ?_, trivial⟩ (of_decide_eq_true (by kernel_rfl))
      · rw [if_neg (by decide)]
        refine calmT_step rfl fun a ω κ hb hu hc hK => ?_
        have h0 : a.tmps[0]?.getD undef = .pointer (some ⟨g, 0, none⟩) := (hu 0 rfl).trans e0
        have hk := Lib.hid (fun w1 (h : Below ω.heap.size ω w1) => hK (.pointer (some ⟨g, 0, none⟩)) w1 rfl h)
        clear hK hu hc
        go_simp
        exact hk.out _ (Below.refl _ _)
      · rw [if_neg (by decide)]
        refine calmT_step rfl fun a ω κ hb hu hc hK => ?_
        have h30 : a.tmps[30]?.getD undef = .pointer (some ⟨g, 0, none⟩) := hc 0 30 rfl rfl
        have hk := Lib.hid (fun w1 (h : Below ω.heap.size ω w1) => hK (.pointer (some ⟨g, 0, none⟩)) w1 rfl h)
        clear hK hu hc
        go_simp
        exact hk.out _ (Below.refl _ _)
      · rw [if_neg (by decide)]
        refine calmT_step rfl fun a ω κ hb hu hc hK => ?_
        have h31 : a.tmps[31]?.getD undef = .pointer (some ⟨g, 0, none⟩) := hc 1 31 rfl rfl
        have hk := Lib.hid (fun w1 (h : Below ω.heap.size ω w1) => hK (.pointer (some ⟨g, 1, none⟩)) w1 rfl h)
        clear hK hu hc
        go_simp
        exact hk.out _ (Below.refl _ _)
      · rw [if_neg (by decide)]
        refine calmT_step rfl fun a ω κ hb hu hc hK => ?_
        have h32 : a.tmps[32]?.getD undef = .pointer (some ⟨g, 1, none⟩) := hc 2 32 rfl rfl
        have hk := Lib.hid (fun w1 (h : Below ω.heap.size ω w1) => hK (.slice (some ad) (m + 1) c) w1 rfl h)
        clear hK hu hc
        have c1 := (hS.out ω hb).1
        go_simp
        exact hk.out _ (Below.refl _ _)
      · rw [if_neg (by decide)]
        refine calmT_step rfl fun a ω κ hb hu hc hK => ?_
        have h7 : a.tmps[7]?.getD undef = .int .i64 (m : Nat) := (hu 7 rfl).trans e7
        have hk := Lib.hid (fun w1 (h : Below ω.heap.size ω w1) => hK (.int .i64 (m : Nat)) w1 rfl h)
        clear hK hu hc
        go_simp
        exact hk.out _ (Below.refl _ _)
      · rw [if_neg (by decide)]
        refine calmT_step rfl fun a ω κ hb hu hc hK => ?_
        have h33 : a.tmps[33]?.getD undef = .slice (some ad) (m + 1) c := hc 3 33 rfl rfl
        have h34 : a.tmps[34]?.getD undef = .int .i64 (m : Nat) := hc 4 34 rfl rfl
        have hk := Lib.hid (fun w1 (h : Below ω.heap.size ω w1) => hK (.pointer (some (ad.add (m * 32)))) w1 rfl h)
        clear hK hu hc
        go_simp
        exact hk.out _ (Below.refl _ _)
      · rw [if_neg (by decide)]
        refine calmT_step rfl fun a ω κ hb hu hc hK => ?_
        have h35 : a.tmps[35]?.getD undef = .pointer (some (ad.add (m * 32))) := hc 5 35 rfl rfl
        have hk := Lib.hid (fun w1 (h : Below ω.heap.size ω w1) => hK (.agg (dgA y)) w1 rfl h)
        clear hK hu hc
        have a1 := (hS.out ω hb).2.1
        have a2 := (hS.out ω hb).2.2.1
        go_simp
        exact hk.out _ (Below.refl _ _)
      · rw [if_neg (by decide)]
        refine calmT_step rfl fun a ω κ hb hu hc hK => ?_
        have h5 : a.tmps[5]?.getD undef = .pointer (some ⟨D, 0, none⟩) := (hu 5 rfl).trans e5
        have hk := Lib.hid (fun w1 (h : Below ω.heap.size ω w1) => hK (.agg (dgA x)) w1 rfl h)
        clear hK hu hc
        have b1 := (hS.out ω hb).2.2.2.1
        have b2 := (hS.out ω hb).2.2.2.2.1
        go_simp
        exact hk.out _ (Below.refl _ _)
      · rw [if_neg (by decide)]
        refine calmT_step rfl fun a ω κ hb hu hc hK => ?_
        have h36 : a.tmps[36]?.getD undef = .agg (dgA y) := hc 6 36 rfl rfl
        have h37 : a.tmps[37]?.getD undef = .agg (dgA x) := hc 7 37 rfl rfl
        have hk := Lib.hid (fun w1 (h : Below ω.heap.size ω w1) => hK (.agg (dgA z)) w1 rfl h)
        clear hK hu hc
        go_simp
        go_at_call 18
        refine (hN.out _ (hT1.out.step hb)).mono ?_
        rintro e w1 ⟨rfl, hb1⟩
        exact hk.out _ hb1
      · rw [if_pos rfl]
        refine last_of rfl fun aa ω hb hu hsz hdf hc => ?_
        have h5 : aa.tmps[5]?.getD undef = .pointer (some ⟨D, 0, none⟩) := (hu 5 rfl).trans e5
        have h38 : aa.tmps[38]?.getD undef = .agg (dgA z) := hc 8 38 (by decide) rfl
        have hHz := Lib.hid (And.intro hu (And.intro hsz hdf))
        clear hc hu hsz hdf hz0
        have b1 := (hS.out ω hb).2.2.2.1
        have b3 := Lib.hid (hS.out ω hb)
        go_simp
        have ha0 := hha0.out
        subst ha0
        have he := act_patchT (n := 65) 9 [false, false, false, false, false, false, false, false, false, false, false, false, false, false, false, false, false, false, false, false, false, false, false, false, false, false, false, false, false, false, true, true, true, true, true, true, true, true, true, false, false, false, false, false, false, false, false, false, false, false, false, false, false, false, false, false, false, false, false, false, false, false, false, false, false] rfl (by kernel_rfl) hHz.out.1 hHz.out.2.1 hHz.out.2.2
        simp only [patch, cond_true, cond_false, Nat.reduceAdd] at he
        clear hHz hha0 e0 e5 e7
        rw [he]
        clear he
        generalize aa.tmps[30]?.getD undef = x30 at *
        generalize aa.tmps[31]?.getD undef = x31 at *
        generalize aa.tmps[32]?.getD undef = x32 at *
        generalize aa.tmps[33]?.getD undef = x33 at *
        generalize aa.tmps[34]?.getD undef = x34 at *
        generalize aa.tmps[35]?.getD undef = x35 at *
        generalize aa.tmps[36]?.getD undef = x36 at *
        generalize aa.tmps[37]?.getD undef = x37 at *
        generalize aa.tmps[38]?.getD undef = x38 at *
        have hl6 := b3.out.2.2.2.2.2.setD (cs := dgA z) (hHDA.out _) hgD
        have c6 := hl6.c1
        have c7 := hl6.fz 1
        have hHl6 := Lib.hid hl6
        clear hl6 c1 hS hT1 hN
        go_wp2_with fail
        go_roundw
        case rel => exact ⟨k2, m, z, q4, rfl, hfl, by omega, hnl, hHm1, hrr, Lib.hid (hHl6.out.cut hHm1.out), row_setCell.2 ((row_setRow_same rfl b1).2 hcn.1), (rowAt_setCell_far (by simp; omega)).trans (rowAt_setRow_same b1)⟩
        case measure => simp [intOf]; omega
end Go.Proofs.YtjihklaocgmlpaaDoor
