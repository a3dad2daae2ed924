/- Cards of attributes: Attrs, Upon, SameAttrs. -/
import Derived.Test.YtdlmamnnamlleaaRu5
namespace Go.Proofs.Ytdlmamnnamlleaa
open Go.ChangeShapes Go.WideShapes Go.ChangeAt Go.RowKit
set_option maxHeartbeats 1000000
set_option maxRecDepth 100000
attribute [local go_sem] kp_refl kp_alloc kp_setCell kp_drew kp_drewN row_new row_old rowAt_new rowAt_old
attribute [local go_sem ↓] load_Crd store_Crd execl_Crd execs_Crd
attribute [local go_sem] isHead_mk blkOf_mk isAgg_mk cellsV_mk row_drew rowAt_drew row_new_cells setRow_new

theorem SAt : SlT Try.prog 32 120 2 32 := SlT.mk' Try.underlying32 (by kernel_rfl) (by omega)
def Crd.at_ (c : Crd) (k : Nat) : Option KV := if c.has k = true then some ((k : Int), c.v k) else none
def Crd.to_ (c : Crd) (n : Nat) : List KV := (List.range n).filterMap c.at_
def Crd.attrs (c : Crd) : List KV := c.to_ 19
theorem crd_to_succ (c : Crd) (n : Nat) : c.to_ (n + 1) = c.to_ n ++ (c.at_ n).toList := by
  unfold Crd.to_
  rw [List.range_succ, List.filterMap_append]
  cases h : c.at_ n <;> simp [h]
theorem crd_to_len (c : Crd) (n : Nat) : (c.to_ n).length ≤ n := by
  induction n with
  | zero => simp [Crd.to_]
  | succ n ih =>
    rw [crd_to_succ, List.length_append]
    cases c.at_ n <;> simp <;> omega
theorem grownCap_ok {W : World} {n e : Nat} (h : n ≤ 9223372036854775807) : n ≤ grownCap W n 0 e ∧ grownCap W n 0 e ≤ 9223372036854775807 := by
  have h2 : n ≤ maxLen := by unfold maxLen; omega
  refine ⟨grownCap_ge _ _ _ _, ?_⟩
  have := grownCap_le_maxLen W n 0 e h2
  unfold maxLen at this; omega

theorem wpList_ats {ops : Array Oper} {rest : List Oper} {o : Oper} {a : Act} {Q : Exit → Act → World → Prop} {B : Nat} {W : World} {v : Value} {l : List At} (hgd : o.guard = none) (s x : Operand)
    (ho : o.op = .call { callee := .builtin .append, args := #[s, x], argTypes := #[32, 32] }) (hs : a.eval s = v) (I : AtsOwn B W v l) (hB : B ≤ W.heap.size) (y : At) {g : Nat} {te : TypeId} {fr : Nat × Nat}
    (hx : a.eval x = .slice (some ⟨g, 0, none⟩) 1 1) (hg : W.heap[g]? = some (.cells #[.int .i64 y.kind, .slice y.A y.body.length y.cap] te fr)) (hy : Rd W W.heap.size y.A (bytesV y.body)) (hc : y.body.length ≤ y.cap ∧ (y.cap ≤ 9223372036854775807 ∧ y.body.length ≤ 140737488351232))
    (hfar : ∀ a, y.A = some a → a.block < W.heap.size ∧ some a.block ≠ v.ownBlock) (hl : l.length ≤ 100000)
    (h : ∀ v' w', AtsOwn B w' v' (l ++ [y]) → Below B W w' → (∀ k, k < W.heap.size → some k ≠ v.ownBlock → w'.heap[k]? = W.heap[k]?) → W.heap.size ≤ w'.heap.size → wpList Try.prog ops Q rest (a.put o.dst v') w') : wpList Try.prog ops Q (o :: rest) a W := by
  refine wpList_app hgd s x 32 ho SAt hs I.own hx (m := 1) (news := y.cells) rfl (Rd.of_blk hg (blk_lt hg)) (by intro u hu; simp [At.cells] at hu; rcases hu with rfl | rfl <;> rfl) (by unfold maxLen; omega) (by omega) hB fun v' w' h2 h3 h4 => ?_
  exact h v' w' (AtsOwn.step I hy hc hfar (Below.refl _ _) h3 h4 h2) ((Below.refl B W).grown h3 hB (fun k hk => (I.own.lt k hk).1)) (fun k hk hk2 => h3.block k hk hk2) h3.size

theorem ref_Attrs (c : Crd) (w : World) (hv : ∀ k, k < 19 → (c.v k).length ≤ 140737488351232) :
    Calls Try.prog 24 #[.agg (crdA c)] w fun e w' => ∃ v, e = .returned v ∧ AtsR c.attrs w v w' := by
  have hc := crd_cells c
  have h0 : CrdAt (w.alloc (.cells (crdA c) 40)) w.heap.size c := Fa.new (m := 38) (f := cf c) _ rfl
  have hfin : Hid (c.attrs = c.to_ 19) := rfl
  go_enter Try.func24, Try.ntmps24
  go_wp2
  go_loopw [3, 5] (fun v x wr => ∃ (n : Nat) (l : List At), x = .int .i64 n ∧ n ≤ 19 ∧ Hid (l.map At.kv = c.to_ n) ∧ AtsOwn (w.heap.size + 1) wr v l ∧ CrdAt wr w.heap.size c ∧ Below w.heap.size w wr ∧ w.heap.size + 1 ≤ wr.heap.size) (fun _ x _ => 19 - (intOf x).toNat)
  case atStart => exact ⟨0, [], rfl, by omega, rfl, AtsOwn.nil _ _, h0, by go_grown, by simp⟩
  case round =>
    obtain ⟨n, l, rfl, hn, hl, hI, hC, hb, hz⟩ := hrel
    by_cases hn9 : n = 19
    · subst hn9
      go_wp2
      go_ret
      exact ⟨_, rfl, hI.res (hl.out.trans hfin.out.symm) hb⟩
    · have hn19 : n < 19 := by omega
      have hcH := hC.cellH hn19
      have hll : l.length ≤ n := by have := congrArg List.length hl.out; rw [List.length_map] at this; rw [this]; exact crd_to_len c n
      obtain ⟨A4, c4, hv4⟩ := own_formA hI.own
      subst hv4
      cases hh : c.has n with
      | false =>
        have hst : Hid (c.to_ (n + 1) = c.to_ n) := by show _ = _; rw [crd_to_succ]; simp [Crd.at_, hh]
        rw [hh] at hcH
        clear hh
        go_wp2
        go_roundw
        case rel => exact ⟨n + 1, l, by go_num, by omega, by rw [hst.out]; exact hl, hI, hC, hb, hz⟩
        case measure => simp [intOf]; omega
      | true =>
        have hst : Hid (c.to_ (n + 1) = c.to_ n ++ [((n : Int), c.v n)]) := by show _ = _; rw [crd_to_succ]; simp [Crd.at_, hh]
        rw [hh] at hcH
        clear hh
        have hcV := hC.cellV hn19
        have hvl := hv n hn19
        unfold strV at hcV
        generalize c.v n = b at *
        have hcs := fun W => conv_sbn (P := Try.prog) Try.underlying9 Try.underlying59 Try.underlying5 b b.length rfl W
        have hbW : Below wr.heap.size wr (((wr.alloc (cvObj wr b 5)).alloc (.cells #[.int .i64 (n : Int), .slice (some ⟨wr.heap.size, 0, none⟩) b.length (grownCap wr b.length 0 5)] 120)).drew) := ((below_alloc' wr _).alloc (by simp) _).drew
        have hIW := Lib.hid (hI.below hbW)
        have hCW := Lib.hid (Fa.step hC hbW)
        have hcap := grownCap_ok (W := wr) (e := 5) (show b.length ≤ 9223372036854775807 by omega)
        have hown : ∀ g, (Value.slice A4 l.length c4).ownBlock = some g → w.heap.size + 1 ≤ g ∧ g < wr.heap.size := hI.own.lt
        have hrd : Rd (((wr.alloc (cvObj wr b 5)).alloc (.cells #[.int .i64 (n : Int), .slice (some ⟨wr.heap.size, 0, none⟩) b.length (grownCap wr b.length 0 5)] 120)).drew) (wr.heap.size + 1) (some ⟨wr.heap.size, 0, none⟩) (bytesV b) := Rd.drew ((rd_cv2 (W := wr) (V := wr) (l := b) rfl).below ((Below.refl _ _).alloc (by simp) _))
        go_wp2_with (at_builtin; go_must (refine wpList_ats rfl (.tmp 12) (.tmp 20) rfl rfl hIW.out (by simp; omega) ⟨n, some ⟨wr.heap.size, 0, none⟩, grownCap wr b.length 0 5, b⟩ (g := wr.heap.size + 1) rfl (blk_new _ _ (by simp)) (hrd.more (by simp)) ⟨hcap.1, hcap.2, hvl⟩ (fun a ha => by injection ha with ha; subst ha; exact ⟨by simp; omega, fun e => by have := (hown _ e.symm).2; simp at this⟩) (by omega) ?_); intro v2 w2 hI2 hb2 hk2 hz2)
        go_roundw
        case rel =>
          refine ⟨n + 1, l ++ [⟨n, some ⟨wr.heap.size, 0, none⟩, grownCap wr b.length 0 5, b⟩], by go_num, by omega, by show _ = _; rw [hst.out, List.map_append, hl.out]; rfl, hI2, ?_, ?_, ?_⟩
          · refine Fa.below hCW.out hb2 (Nat.lt_succ_self _)
          · exact (hb.trans (hbW.mono (by omega))).trans (hb2.mono (by omega))
          · simp at hz2; omega
        case measure => simp [intOf]; omega
end Go.Proofs.Ytdlmamnnamlleaa
