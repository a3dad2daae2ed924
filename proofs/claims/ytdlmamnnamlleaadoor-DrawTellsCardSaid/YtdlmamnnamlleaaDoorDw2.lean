/- Package draw: At, New, fits, Place, Skip. -/
import Derived.Test.YtdlmamnnamlleaaDoorDw1
import Derived.Test.YtdlmamnnamlleaaDoorTail2
import Derived.Test.YtdlmamnnamlleaaDoorMac3
import Derived.Test.YtdlmamnnamlleaaDoorRet
namespace Go.Proofs.YtdlmamnnamlleaaDoor
open Go.ChangeShapes Go.WideShapes Go.ChangeAt Go.RowKit
set_option maxHeartbeats 1000000
set_option maxRecDepth 100000
theorem built_src (b : Array Value) (p : Nat) : Tryd.prog.built 103 [(0, .agg b), (1, .int .u64 (p : Nat))] = Instr.fill (fun i => ([(0, 146), (146, 1), (147, 32), (179, 1)] : List (Nat × Nat)).toArray[i]?) (srcB macZ 0 [] false) [(0, .agg b), (1, .int .u64 (p : Nat))] := by kernel_rfl
theorem build_src (b : Array Value) (hb : b.size = 146) (p : Nat) (w : World) : (Instr.build 103 #[(0, .agg b), (1, .int .u64 (p : Nat))]).run Tryd.prog w = .ok (.agg (srcB b p [] false)) w := by
  refine run_build w _ _ _ ?_
  rw [show (#[(0, Value.agg b), (1, Value.int .u64 (p : Nat))] : Array (Nat × Value)).toList = [(0, .agg b), (1, .int .u64 (p : Nat))] from rfl, built_src]
  have h1 : putAt (srcB macZ 0 [] false) 0 b.toList = srcB b 0 [] false := srcB_putKey hb
  rw [← foldl_arr0 hb] at h1
  have h2 := srcB_set146 (b := b) (p := 0) (p' := p) (d := []) (m := false)
  have hs := srcB_size (b := b) (p := 0) (d := []) (m := false)
  have hs0 := srcB_size (b := macZ) (p := 0) (d := []) (m := false)
  simp [Instr.fill, Value.cells, hb, hs, hs0, h1, h2]
section
variable {P : Program} {ops : Array Oper} {rest : List Oper} {o : Oper} {a : Act} {w : World} {K : Act → World → Prop} {Q : Exit → Act → World → Prop} {t : TypeId} {i j : Nat} {x y : Operand} {u vx vy : Value}
theorem wpList_opT (hw : Region.wanted o (yielded ops a.tmps) = true) (h : ∀ K : Act → World → Prop, (∀ a' w', wpList P ops Q rest a' w' → K a' w') → Oper.wp P o a w K Q) : wpList P ops Q (o :: rest) a w :=
  wpList_step fun K hK => by rw [if_pos hw]; exact h K hK
theorem wp_bldTwo (ho : o.op = .build t #[(i, x), (j, y)]) (hx : a.eval x = vx) (hy : a.eval y = vy) (hr : (Instr.build t #[(i, vx), (j, vy)]).run P w = .ok u w) (h : K (a.put o.dst u) w) : Oper.wp P o a w K Q := by
  subst hx hy
  obtain ⟨dst, op, tt, pos, af, gd⟩ := o
  subst ho
  unfold Oper.wp execOp
  simp only [List.map_toArray, List.map_cons, List.map_nil, Sem.run_bind, hr, Result.andThen_ok]
  exact h
end
attribute [local irreducible] arrV dgA sha macA macZ srcB
theorem SrcAt.made (K : Nat → W32) (seed : List UInt8) (p : Nat) (hp : p < 18446744073709551616) (w : World) : SrcAt K w seed p false [] (w.alloc (Obj.cells (srcB (macA K (keyL K seed) []) p [] false) 103)) :=
  ⟨(row_new rfl).2 srcB_size, rowAt_new rfl, hp, fun h => (by cases h), below_alloc _ _⟩
def NewR (K : Nat → W32) (seed : List UInt8) (p : Nat) (w : World) (e : Ending) (w' : World) : Prop := ∃ w0, e = .returned (.pointer (some ⟨w0.heap.size, 0, none⟩)) ∧ SrcAt K w0 seed p false [] w' ∧ Below w.heap.size w w0
theorem draw_At (K : Nat → W32) (A : Option Addr) (seed : List UInt8) (c p : Nat) (w : World) (hT : Tabs K w) (hs : Bs w A seed c) (hp : p < 18446744073709551616) :
    Calls Tryd.prog 32 #[.slice A seed.length c, .int .u64 (p : Nat)] w (NewR K seed p w) := by
  have kN := Lib.hid (mac_New K A seed c w hT hs)
  have hsz := (macA_cells K (keyL K seed) []).1
  have hcs := srcB_cells (macA_cells K (keyL K seed) []) p [] false
  have hbl := Lib.hid (fun V => build_src (macA K (keyL K seed) []) hsz p V)
  have hmd := Lib.hid (fun V => SrcAt.made K seed p hp V)
  obtain ⟨b, hb⟩ : ∃ b, macA K (keyL K seed) [] = b := ⟨_, rfl⟩
  rw [hb] at kN hsz hcs hbl hmd
  clear hT hs hb
  go_enter Tryd.func32, Tryd.ntmps32
  go_upto_region 1 with (fail)
  go_wp2_with fail
  refine kN.out.mono ?_
  rintro e w1 ⟨rfl, hb1⟩
  have hL := Lib.hid hb1
  have hm := Lib.hid (hmd.out w1)
  clear hb1 kN hmd
  go_wp2_with (refine wpList_opT (by go_simp) (fun K9 hK => wp_bldTwo rfl (vx := .agg b) (vy := .int .u64 (p : Nat)) (by go_simp) (by go_simp) (hbl.out _) (hK _ _ ?_)))
  go_ret
  exact ⟨w1, rfl, hm.out, hL.out⟩
theorem draw_New (K : Nat → W32) (A : Option Addr) (seed : List UInt8) (c : Nat) (w : World) (hT : Tabs K w) (hs : Bs w A seed c) :
    Calls Tryd.prog 12 #[.slice A seed.length c] w (NewR K seed 0 w) := by
  have kA := Lib.hid (draw_At K A seed c 0 w hT hs (by omega))
  clear hT hs
  go_enter Tryd.func12, Tryd.ntmps12
  go_upto_region 1 with (fail)
  go_wp2_with fail
  refine kA.out.mono ?_
  rintro e w1 ⟨w0, rfl, h1, h2⟩
  have hF := Lib.hid (And.intro h1 h2)
  clear h1 h2 kA
  go_wp2_with fail
  go_ret
  exact ⟨w0, rfl, hF.out.1, hF.out.2⟩
theorem draw_Place (K : Nat → W32) (w0 : World) (seed : List UInt8) (p : Nat) (m : Bool) (d : List UInt8) (w : World) (h : SrcAt K w0 seed p m d w) :
    Calls Tryd.prog 15 #[.pointer (some ⟨w0.heap.size, 0, none⟩)] w fun e w' => e = .returned (.int .u64 (p : Nat)) ∧ w = w' := by
  have c := h.cP
  clear h
  go_enter Tryd.func15, Tryd.ntmps15
  go_wp2_with fail
  go_ret
  exact ⟨rfl, rfl⟩
def fitE (n : Int) : Int := if n < 0 then 1 else if 4096 < n then 2 else 0
theorem draw_fits (n : Int) (w : World) : Calls Tryd.prog 46 #[.int .i64 n] w fun e w' => e = .returned (.int .i64 (fitE n)) ∧ w = w' := by
  unfold fitE
  by_cases h0 : n < 0
  · rw [if_pos h0]
    have d1 : decide (n < 0) = true := by simpa using h0
    go_enter Tryd.func46, Tryd.ntmps46
    go_wp2_with fail
    go_ret
    exact ⟨rfl, rfl⟩
  · rw [if_neg h0]
    have d1 : decide (n < 0) = false := by simpa using h0
    by_cases h1 : 4096 < n
    · rw [if_pos h1]
      have d2 : decide (n > 4096) = true := by simpa using h1
      go_enter Tryd.func46, Tryd.ntmps46
      go_wp2_with fail
      go_ret
      exact ⟨rfl, rfl⟩
    · rw [if_neg h1]
      have d2 : decide (n > 4096) = false := by simpa using h1
      go_enter Tryd.func46, Tryd.ntmps46
      go_wp2_with fail
      go_ret
      exact ⟨rfl, rfl⟩
end Go.Proofs.YtdlmamnnamlleaaDoor
