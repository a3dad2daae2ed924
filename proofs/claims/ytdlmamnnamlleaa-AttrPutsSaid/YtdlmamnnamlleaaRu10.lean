/- The document's Valid; package rule's Kinds, classOf, sized. -/
import Derived.Test.YtdlmamnnamlleaaRu9
namespace Go.Proofs.Ytdlmamnnamlleaa
open Go.ChangeShapes Go.WideShapes Go.ChangeAt Go.RowKit
set_option maxHeartbeats 1000000
set_option maxRecDepth 100000
attribute [local go_sem] kp_refl kp_alloc kp_setCell kp_drew kp_drewN row_new row_old rowAt_new rowAt_old
attribute [local go_sem ↓] load_Crd store_Crd execl_Crd execs_Crd
attribute [local go_sem] isHead_mk blkOf_mk isAgg_mk cellsV_mk row_drew rowAt_drew row_new_cells setRow_new

theorem cardOf_v_len (l : List At) {w : World} {B : Nat} {A : Option Addr} (h : Ats w B A l) (k : Nat) : ((cardOf (l.map At.kv)).v k).length ≤ 140737488351232 := by
  unfold cardOf
  simp only
  split
  · cases hl : lookK (l.map At.kv) (k : Int) with
    | none => simp
    | some b =>
      unfold lookK at hl
      obtain ⟨x, hx, rfl⟩ := Option.map_eq_some_iff.1 hl
      have hm := List.mem_of_find?_eq_some hx
      obtain ⟨y, hy, rfl⟩ := List.mem_map.1 hm
      exact (h.body y hy).2.2.2
  · simp
def validR (l : List KV) : Bool := fault l == 0 && (decide (l = (cardOf l).attrs) && (cardOf l).object)
theorem ref_Valid (A : Option Addr) (l : List At) (c : Nat) (w : World) (h : Ats w w.heap.size A l) (hl : l.length ≤ 9223372036854775807) (hlc : l.length ≤ c) (hcm : c ≤ 9223372036854775807) :
    Calls Try.prog 20 #[.slice A l.length c] w fun e w' => e = .returned (.bool (validR (l.map At.kv))) ∧ Below w.heap.size w w' := by
  have hvl := fun k => cardOf_v_len l h k
  have hV : Hid (validR (l.map At.kv) = (fault (l.map At.kv) == 0 && (decide (l.map At.kv = (cardOf (l.map At.kv)).attrs) && (cardOf (l.map At.kv)).object))) := rfl
  have hz := crd_cells crd0
  go_enter Try.func20, Try.ntmps20
  go_wp2_with fail
  refine (ref_CardOf A l c _ h hl).mono ?_
  rintro e w1 ⟨rfl, hb1⟩
  generalize hC : cardOf (l.map At.kv) = C at hvl hV
  replace hC := Lib.hid hC
  have hcc := crd_cells C
  have h1 := h.step hb1
  have hb2 := below_alloc' w1 (.cells (crdA C) 40)
  have h2 := h1.step hb2
  have c2 : CrdAt (w1.alloc (.cells (crdA C) 40)) w1.heap.size C := Fa.new (m := 38) (f := cf C) _ rfl
  have hL2 := below_step hb2 hb1 (Nat.le_refl _)
  go_wp2_with fail
  refine (ref_AttrsFault A l c _ h2 hl hlc hcm).mono ?_
  rintro e w3 ⟨rfl, hb3⟩
  have h3 := h2.step hb3
  have c3 := c2.step hb3
  have a3 := c3.at_
  have r3 := c3.row
  have hL3 := below_step hb3 hL2 (Nat.le_refl _)
  generalize hF : fault (l.map At.kv) = F at *
  replace hF := Lib.hid hF
  clear hb1 hb2 hb3 h1 h2 c2 hL2
  cases hf : (F == 0) with
  | false =>
    have hV2 : Hid (validR (l.map At.kv) = false) := by show _ = _; rw [hV.out, hf]; rfl
    go_wp2
    go_ret
    exact ⟨ret_bool (by rw [hV2.out]), hL3⟩
  | true =>
    have hV2 : Hid (validR (l.map At.kv) = (decide (l.map At.kv = C.attrs) && C.object)) := by show _ = _; rw [hV.out, hf]; rfl
    go_wp2_with fail
    refine (ref_Attrs C _ fun k hk => hvl k).mono ?_
    rintro e w4 ⟨v, rfl, A4, l4, n4, rfl, hn4, he4, h4, hb4⟩
    have h5 := h3.step hb4
    have c5 := c3.step hb4
    have a5 := c5.at_
    have r5 := c5.row
    have hL4 := below_step hb4 hL3 (Nat.le_refl _)
    clear a3 r3 c3 h3
    go_wp2_with fail
    refine (ref_SameAttrs A A4 l l4 c n4 _ h5 h4 hl).mono ?_
    rintro e w6 ⟨rfl, hb6⟩
    have c6 := c5.step hb6
    have a6 := c6.at_
    have r6 := c6.row
    have hL6 := below_step hb6 hL4 (Nat.le_refl _)
    clear a5 r5 c5 h5
    have hsm : Hid (sameKV l l4 = decide (l.map At.kv = C.attrs)) := by show _ = _; unfold sameKV; rw [he4]
    cases hs : sameKV l l4 with
    | false =>
      have hV3 : Hid (validR (l.map At.kv) = false) := by show _ = _; rw [hV2.out, ← hsm.out, hs]; rfl
      go_wp2
      go_ret
      exact ⟨ret_bool (by rw [hV3.out]), hL6⟩
    | true =>
      have hV3 : Hid (validR (l.map At.kv) = C.object) := by show _ = _; rw [hV2.out, ← hsm.out, hs]; rfl
      go_wp2_with fail
      refine (ref_Object C _).mono ?_
      rintro e w7 ⟨rfl, hb7⟩
      have hL7 := below_step hb7 hL6 (Nat.le_refl _)
      go_wp2
      go_ret
      exact ⟨ret_bool (by rw [hV3.out]), hL7⟩
end Go.Proofs.Ytdlmamnnamlleaa
