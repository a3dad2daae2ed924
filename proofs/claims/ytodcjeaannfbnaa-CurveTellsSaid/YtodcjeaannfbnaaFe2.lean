/- Contracts of the document's Fe: Plus, Less. -/
import Derived.Test.YtodcjeaannfbnaaFe1
namespace Go.Proofs.Ytodcjeaannfbnaa
open Go.ChangeShapes Go.WideShapes Go.ChangeAt Go.RowKit
set_option maxHeartbeats 2000000
set_option maxRecDepth 100000
attribute [local go_sem ↓] load_fe store_fe execl_fe execs_fe load_t17 store_t17 execl_t17 execs_t17
attribute [local go_sem] isHead_mk blkOf_mk isAgg_mk cellsV_mk row_drew rowAt_drew row_new_cells row_old rowAt_new rowAt_old setRow_new zeroFe zeroT
theorem dval_add (f g : Nat → Nat) (n : Nat) : dval (fun i => f i + g i) n = dval f n + dval g n := by
  induction n with
  | zero => rfl
  | succ n ih => simp only [dval]; rw [ih, Nat.mul_add]; omega
theorem plus_val {a b : Nat} (ha : a < 2 ^ 256) (hb : b < 2 ^ 256) {t : Nat → Nat} (h : ∀ i < 16, t i = dgt a i + dgt b i) : dval t 16 = a + b := by
  rw [dval_congr h, dval_add, dval_dgt, dval_dgt, p16, Nat.mod_eq_of_lt ha, Nat.mod_eq_of_lt hb]
theorem less_val {a b : Nat} (ha : a < 2 ^ 256) (hb : b < 2 ^ 256) {t : Nat → Nat} (h : ∀ i < 16, t i + dgt b i = dgt a i + 4 * pdig i) : dval t 16 = a + 4 * fP - b := by
  have h1 := dval_congr h
  rw [dval_add, dval_add, dval_dgt, dval_dgt, p16, Nat.mod_eq_of_lt ha, Nat.mod_eq_of_lt hb] at h1
  have h2 : ∀ n, dval (fun i => 4 * pdig i) n = 4 * dval pdig n := fun n => by
    induction n with
    | zero => rfl
    | succ n ih => simp only [dval]; rw [ih, Nat.mul_add, Nat.mul_left_comm]
  rw [h2, pdig_val] at h1
  omega
/-- The digits laid so far, and zeros. -/
def cut16 (f : Nat → Nat) (j : Nat) : Nat := if j < 16 then f j else 0
theorem mixD16 (f : Nat → Nat) (j : Nat) (_ : j < 17) : mixD f 16 j = cut16 f j := rfl
theorem cut_val (f : Nat → Nat) : dval (cut16 f) 16 + 2 ^ 256 * cut16 f 16 = dval f 16 := by
  rw [dval_congr (f := cut16 f) (g := f) fun i hi => by unfold cut16; rw [if_pos hi], show cut16 f 16 = 0 from rfl]; omega
theorem fe_Plus (a b : Nat) (w : World) (ha : a < 2 ^ 256) (hb : b < 2 ^ 256) : Calls Try.prog 21 #[feV a, feV b] w fun e w' => e = .returned (feV ((a + b) % fP)) ∧ Below w.heap.size w w' := by
  have hF : ∀ i, dgt a i + dgt b i < 131072 := fun i => by have := dgt_lt a i; have := dgt_lt b i; omega
  have htm : Tame (cut16 fun i => dgt a i + dgt b i) := fun i _ => by
    show (if i < 16 then dgt a i + dgt b i else 0) < _
    have := hF i
    split <;> omega
  have hle := Lib.hid (fun V => ref_least (cut16 fun i => dgt a i + dgt b i) V htm)
  rw [cut_val, plus_val ha hb (t := fun i => dgt a i + dgt b i) fun _ _ => rfl] at hle
  replace hF := Lib.hid hF
  obtain ⟨V, hV⟩ : ∃ V, (a + b) % fP = V := ⟨_, rfl⟩
  rw [hV] at hle ⊢
  clear hV htm ha hb
  unfold feV at hle ⊢
  have hFx := Lib.hid (fun i => show (fun i => dgt a i + dgt b i) i = dgt a i + dgt b i from rfl)
  generalize (fun i => dgt a i + dgt b i) = F at *
  have hc0 := arrK_cells .i64 16 fun _ => 0
  have hc1 := arrK_cells .i64 17 fun _ => 0
  have hL0 : Below w.heap.size w ((((w.alloc (Obj.cells (arrK .i64 16 (dgt a)) 26)).alloc (Obj.cells (arrK .i64 16 (dgt b)) 26)).alloc (Obj.cells (arrK .i64 16 fun _ => 0) 26)).alloc (Obj.cells (arrK .i64 17 fun _ => 0) 114)) := by go_grown
  have hA0 : At ((((w.alloc (Obj.cells (arrK .i64 16 (dgt a)) 26)).alloc (Obj.cells (arrK .i64 16 (dgt b)) 26)).alloc (Obj.cells (arrK .i64 16 fun _ => 0) 26)).alloc (Obj.cells (arrK .i64 17 fun _ => 0) 114)) w.heap.size .i64 16 (dgt a) := (((At.new _ rfl).old _).old _).old _
  have hB0 : At ((((w.alloc (Obj.cells (arrK .i64 16 (dgt a)) 26)).alloc (Obj.cells (arrK .i64 16 (dgt b)) 26)).alloc (Obj.cells (arrK .i64 16 fun _ => 0) 26)).alloc (Obj.cells (arrK .i64 17 fun _ => 0) 114)) (w.heap.size + 1) .i64 16 (dgt b) := ((At.new _ (by simp)).old _).old _
  have hR0 : Row ((((w.alloc (Obj.cells (arrK .i64 16 (dgt a)) 26)).alloc (Obj.cells (arrK .i64 16 (dgt b)) 26)).alloc (Obj.cells (arrK .i64 16 fun _ => 0) 26)).alloc (Obj.cells (arrK .i64 17 fun _ => 0) 114)) (w.heap.size + 1 + 1) 16 := ((At.new (k := .i64) (f := fun _ => 0) _ (by simp)).old _).row
  have hT0 : At ((((w.alloc (Obj.cells (arrK .i64 16 (dgt a)) 26)).alloc (Obj.cells (arrK .i64 16 (dgt b)) 26)).alloc (Obj.cells (arrK .i64 16 fun _ => 0) 26)).alloc (Obj.cells (arrK .i64 17 fun _ => 0) 114)) (w.heap.size + 1 + 1 + 1) .i64 17 (mixD F 0) := (At.new _ (by simp)).congr fun i _ => by simp [mixD]
  have hL := Lib.hid hL0
  have hR := Lib.hid hR0
  have hA := Lib.hid hA0
  have hB := Lib.hid hB0
  have hT := Lib.hid hT0
  clear hL0 hR0 hA0 hB0 hT0
  go_enter Try.func21, Try.ntmps21
  go_wp2_with fail
  generalize (((w.alloc _).alloc _).alloc _).alloc _ = W0 at *
  go_loopw [7] (fun i wr => ∃ s : Nat, i = .int .i64 s ∧ s ≤ 16 ∧ Hid (At wr w.heap.size .i64 16 (dgt a)) ∧ Hid (At wr (w.heap.size + 1) .i64 16 (dgt b)) ∧ Hid (Row wr (w.heap.size + 1 + 1) 16) ∧ Hid (At wr (w.heap.size + 1 + 1 + 1) .i64 17 (mixD F s)) ∧ Hid (Below w.heap.size w wr)) (fun i _ => 16 - (intOf i).toNat)
  case atStart => exact ⟨0, rfl, by omega, hA, hB, hR, hT, hL⟩
  case round =>
    clear hA hB hR hT hL
    obtain ⟨s, rfl, hs, hA, hB, hR, hT, hL⟩ := hrel
    by_cases h16 : s = 16
    · subst h16
      have hTc := hT.out.congr (f' := cut16 F) (mixD16 F)
      have hr1 := hTc.row
      have hr2 := hTc.eq
      rw [show ((16 : Nat) : Int) = 16 from rfl]
      clear hA hB hT
      go_wp2_with fail
      refine (hle.out _).mono ?_
      rintro e w2 ⟨rfl, hbz⟩
      have hR2 := row_below hR.out hbz hR.out.lt
      have hL2 := Lib.hid (below_step hbz hL.out (Nat.le_refl _))
      have hcv := arrK_cells .i64 16 (dgt V)
      clear hr1 hr2 hbz hTc hR hL
      dsimp only
      go_wp2_with fail
      exact ret_stored (p := 4) (ty := 26) (g := w.heap.size + 1 + 1) (n := 16) (c := arrK .i64 16 (dgt V)) rfl Try.underlying26 rfl (by kernel_rfl) rfl hR2 hcv.1 rfl ⟨rfl, below_setRow hL2.out (by omega)⟩
    · have hs16 : (s : Int) < 16 := by omega
      have hs17 : (s : Int) < 17 := by omega
      have ca := hA.out.cell (i := s) (by omega)
      have cb := hB.out.cell (i := s) (by omega)
      have ct := hT.out.cell (i := s) (by omega)
      have ft := hT.out.row.frozen s
      have hb := hF.out s
      have hx := hFx.out s
      have hA2 : Hid (At (wr.setCell ⟨w.heap.size + 1 + 1 + 1, s, none⟩ (.int .i64 (F s : Nat))) w.heap.size .i64 16 (dgt a)) := Lib.hid (hA.out.farC (by simp <;> omega))
      have hB2 : Hid (At (wr.setCell ⟨w.heap.size + 1 + 1 + 1, s, none⟩ (.int .i64 (F s : Nat))) (w.heap.size + 1) .i64 16 (dgt b)) := Lib.hid (hB.out.farC (by simp <;> omega))
      have hT2 := Lib.hid ((hT.out.set s (F s)).congr fun p _ => mixD_step F s p)
      have hR2 : Hid (Row (wr.setCell ⟨w.heap.size + 1 + 1 + 1, s, none⟩ (.int .i64 (F s : Nat))) (w.heap.size + 1 + 1) 16) := Lib.hid (row_setCell.2 hR.out)
      have hL2 := Lib.hid (show Below w.heap.size w (wr.setCell ⟨w.heap.size + 1 + 1 + 1, s, none⟩ (.int .i64 (F s : Nat))) from hL.out.setCell (by simp <;> omega) _)
      have hw : IntKind.i64.wrap ((dgt a s : Int) + (dgt b s : Int)) = (F s : Int) := by rw [IntKind.wrap_i64]; omega
      clear hx hb hA hB hR hT hL
      generalize mixD F s s = yy at *
      generalize F s = x at *
      generalize dgt a s = x1 at *
      generalize dgt b s = x2 at *
      go_wp2
      go_region
      all_goals
        go_wp2_with fail
        go_roundw
        case rel => exact ⟨s + 1, by go_num, by omega, Lib.hid hA2.out.drew, Lib.hid hB2.out.drew, Lib.hid hR2.out.drew, Lib.hid hT2.out.drew, Lib.hid hL2.out.drew⟩
        case measure => simp [intOf]; omega
theorem fe_Less (a b : Nat) (w : World) (ha : a < 2 ^ 256) (hb : b < 2 ^ 256) : Calls Try.prog 23 #[feV a, feV b] w fun e w' => e = .returned (feV ((a + 4 * fP - b) % fP)) ∧ Below w.heap.size w w' := by
  have hp : ∀ i, 65536 ≤ 4 * pdig i ∧ 4 * pdig i ≤ 262140 := fun i => by unfold pdig; split <;> (try split) <;> omega
  have hF : ∀ i, dgt a i + 4 * pdig i - dgt b i < 400000 ∧ dgt b i ≤ 4 * pdig i := fun i => by have := dgt_lt a i; have := dgt_lt b i; have := hp i; omega
  have htm : Tame (cut16 fun i => dgt a i + 4 * pdig i - dgt b i) := fun i _ => by
    show (if i < 16 then dgt a i + 4 * pdig i - dgt b i else 0) < _
    have := hF i
    split <;> omega
  have hle := Lib.hid (fun V => ref_least (cut16 fun i => dgt a i + 4 * pdig i - dgt b i) V htm)
  rw [cut_val, less_val ha hb (t := fun i => dgt a i + 4 * pdig i - dgt b i) fun i _ => by have := (hF i).2; omega] at hle
  replace hF := Lib.hid hF
  obtain ⟨V, hV⟩ : ∃ V, (a + 4 * fP - b) % fP = V := ⟨_, rfl⟩
  rw [hV] at hle ⊢
  clear hV htm ha hb hp
  unfold feV at hle ⊢
  have hFx := Lib.hid (fun i => show (fun i => dgt a i + 4 * pdig i - dgt b i) i = dgt a i + 4 * pdig i - dgt b i from rfl)
  generalize (fun i => dgt a i + 4 * pdig i - dgt b i) = F at *
  have hc0 := arrK_cells .i64 16 fun _ => 0
  have hc1 := arrK_cells .i64 17 fun _ => 0
  have hL0 : Below w.heap.size w ((((w.alloc (Obj.cells (arrK .i64 16 (dgt a)) 26)).alloc (Obj.cells (arrK .i64 16 (dgt b)) 26)).alloc (Obj.cells (arrK .i64 16 fun _ => 0) 26)).alloc (Obj.cells (arrK .i64 17 fun _ => 0) 114)) := by go_grown
  have hA0 : At ((((w.alloc (Obj.cells (arrK .i64 16 (dgt a)) 26)).alloc (Obj.cells (arrK .i64 16 (dgt b)) 26)).alloc (Obj.cells (arrK .i64 16 fun _ => 0) 26)).alloc (Obj.cells (arrK .i64 17 fun _ => 0) 114)) w.heap.size .i64 16 (dgt a) := (((At.new _ rfl).old _).old _).old _
  have hB0 : At ((((w.alloc (Obj.cells (arrK .i64 16 (dgt a)) 26)).alloc (Obj.cells (arrK .i64 16 (dgt b)) 26)).alloc (Obj.cells (arrK .i64 16 fun _ => 0) 26)).alloc (Obj.cells (arrK .i64 17 fun _ => 0) 114)) (w.heap.size + 1) .i64 16 (dgt b) := ((At.new _ (by simp)).old _).old _
  have hR0 : Row ((((w.alloc (Obj.cells (arrK .i64 16 (dgt a)) 26)).alloc (Obj.cells (arrK .i64 16 (dgt b)) 26)).alloc (Obj.cells (arrK .i64 16 fun _ => 0) 26)).alloc (Obj.cells (arrK .i64 17 fun _ => 0) 114)) (w.heap.size + 1 + 1) 16 := ((At.new (k := .i64) (f := fun _ => 0) _ (by simp)).old _).row
  have hT0 : At ((((w.alloc (Obj.cells (arrK .i64 16 (dgt a)) 26)).alloc (Obj.cells (arrK .i64 16 (dgt b)) 26)).alloc (Obj.cells (arrK .i64 16 fun _ => 0) 26)).alloc (Obj.cells (arrK .i64 17 fun _ => 0) 114)) (w.heap.size + 1 + 1 + 1) .i64 17 (mixD F 0) := (At.new _ (by simp)).congr fun i _ => by simp [mixD]
  have hL := Lib.hid hL0
  have hR := Lib.hid hR0
  have hA := Lib.hid hA0
  have hB := Lib.hid hB0
  have hT := Lib.hid hT0
  clear hL0 hR0 hA0 hB0 hT0
  go_enter Try.func23, Try.ntmps23
  go_wp2_with fail
  generalize (((w.alloc _).alloc _).alloc _).alloc _ = W0 at *
  go_loopw [8] (fun i wr => ∃ s : Nat, i = .int .i64 s ∧ s ≤ 16 ∧ Hid (At wr w.heap.size .i64 16 (dgt a)) ∧ Hid (At wr (w.heap.size + 1) .i64 16 (dgt b)) ∧ Hid (Row wr (w.heap.size + 1 + 1) 16) ∧ Hid (At wr (w.heap.size + 1 + 1 + 1) .i64 17 (mixD F s)) ∧ Hid (Below w.heap.size w wr)) (fun i _ => 16 - (intOf i).toNat)
  case atStart => exact ⟨0, rfl, by omega, hA, hB, hR, hT, hL⟩
  case round =>
    clear hA hB hR hT hL
    obtain ⟨s, rfl, hs, hA, hB, hR, hT, hL⟩ := hrel
    by_cases h16 : s = 16
    · subst h16
      have hTc := hT.out.congr (f' := cut16 F) (mixD16 F)
      have hr1 := hTc.row
      have hr2 := hTc.eq
      rw [show ((16 : Nat) : Int) = 16 from rfl]
      clear hA hB hT
      go_wp2_with fail
      refine (hle.out _).mono ?_
      rintro e w2 ⟨rfl, hbz⟩
      have hR2 := row_below hR.out hbz hR.out.lt
      have hL2 := Lib.hid (below_step hbz hL.out (Nat.le_refl _))
      have hcv := arrK_cells .i64 16 (dgt V)
      clear hr1 hr2 hbz hTc hR hL
      dsimp only
      go_wp2_with fail
      exact ret_stored (p := 4) (ty := 26) (g := w.heap.size + 1 + 1) (n := 16) (c := arrK .i64 16 (dgt V)) rfl Try.underlying26 rfl (by kernel_rfl) rfl hR2 hcv.1 rfl ⟨rfl, below_setRow hL2.out (by omega)⟩
    · have hs16 : (s : Int) < 16 := by omega
      have hs17 : (s : Int) < 17 := by omega
      have ca := hA.out.cell (i := s) (by omega)
      have cb := hB.out.cell (i := s) (by omega)
      have ct := hT.out.cell (i := s) (by omega)
      have ft := hT.out.row.frozen s
      have hb := hF.out s
      have hx := hFx.out s
      have hA2 : Hid (At (wr.setCell ⟨w.heap.size + 1 + 1 + 1, s, none⟩ (.int .i64 (F s : Nat))) w.heap.size .i64 16 (dgt a)) := Lib.hid (hA.out.farC (by simp <;> omega))
      have hB2 : Hid (At (wr.setCell ⟨w.heap.size + 1 + 1 + 1, s, none⟩ (.int .i64 (F s : Nat))) (w.heap.size + 1) .i64 16 (dgt b)) := Lib.hid (hB.out.farC (by simp <;> omega))
      have hT2 := Lib.hid ((hT.out.set s (F s)).congr fun p _ => mixD_step F s p)
      have hR2 : Hid (Row (wr.setCell ⟨w.heap.size + 1 + 1 + 1, s, none⟩ (.int .i64 (F s : Nat))) (w.heap.size + 1 + 1) 16) := Lib.hid (row_setCell.2 hR.out)
      have hL2 := Lib.hid (show Below w.heap.size w (wr.setCell ⟨w.heap.size + 1 + 1 + 1, s, none⟩ (.int .i64 (F s : Nat))) from hL.out.setCell (by simp <;> omega) _)
      have hax := dgt_lt a s
      have hbx := dgt_lt b s
      clear hA hB hR hT hL
      generalize mixD F s s = yy at *
      generalize F s = x at *
      generalize dgt a s = x1 at *
      generalize dgt b s = x2 at *
      by_cases h0 : s = 0
      · have hm : 4 * pdig s = 262068 := by rw [h0]; rfl
        have t0 : ((s : Int) == 0) = true := by rw [beq_iff_eq]; omega
        have t15 : ((s : Int) == 15) = false := by rw [beq_eq_false_iff_ne]; omega
        clear h0
        rw [hm] at hx hb
        have hw1 : IntKind.i64.wrap ((x1 : Int) + 262068) = (x1 : Int) + 262068 := by rw [IntKind.wrap_i64]; omega
        have hw2 : IntKind.i64.wrap ((x1 : Int) + 262068 - (x2 : Int)) = (x : Int) := by rw [IntKind.wrap_i64]; omega
        clear hx hb hm hax hbx
        go_wp2
        go_region
        all_goals
          go_wp2_with fail
          go_roundw
          case rel => exact ⟨s + 1, by go_num, by omega, Lib.hid hA2.out.drew, Lib.hid hB2.out.drew, Lib.hid hR2.out.drew, Lib.hid hT2.out.drew, Lib.hid hL2.out.drew⟩
          case measure => simp [intOf]; omega
      · have t0 : ((s : Int) == 0) = false := by rw [beq_eq_false_iff_ne]; omega
        by_cases h15 : s = 15
        · have hm : 4 * pdig s = 131068 := by rw [h15]; rfl
          have t15 : ((s : Int) == 15) = true := by rw [beq_iff_eq]; omega
          clear h0 h15
          rw [hm] at hx hb
          have hw1 : IntKind.i64.wrap ((x1 : Int) + 131068) = (x1 : Int) + 131068 := by rw [IntKind.wrap_i64]; omega
          have hw2 : IntKind.i64.wrap ((x1 : Int) + 131068 - (x2 : Int)) = (x : Int) := by rw [IntKind.wrap_i64]; omega
          clear hx hb hm hax hbx
          go_wp2
          go_region
          all_goals
            go_wp2_with fail
            go_roundw
            case rel => exact ⟨s + 1, by go_num, by omega, Lib.hid hA2.out.drew, Lib.hid hB2.out.drew, Lib.hid hR2.out.drew, Lib.hid hT2.out.drew, Lib.hid hL2.out.drew⟩
            case measure => simp [intOf]; omega
        · have hm : 4 * pdig s = 262140 := by unfold pdig; rw [if_neg h0, if_neg h15]
          have t15 : ((s : Int) == 15) = false := by rw [beq_eq_false_iff_ne]; omega
          rw [hm] at hx hb
          have hw1 : IntKind.i64.wrap ((x1 : Int) + 262140) = (x1 : Int) + 262140 := by rw [IntKind.wrap_i64]; omega
          have hw2 : IntKind.i64.wrap ((x1 : Int) + 262140 - (x2 : Int)) = (x : Int) := by rw [IntKind.wrap_i64]; omega
          clear hx hb hm hax hbx
          go_wp2
          go_region
          all_goals
            go_wp2_with fail
            go_roundw
            case rel => exact ⟨s + 1, by go_num, by omega, Lib.hid hA2.out.drew, Lib.hid hB2.out.drew, Lib.hid hR2.out.drew, Lib.hid hT2.out.drew, Lib.hid hL2.out.drew⟩
            case measure => simp [intOf]; omega
end Go.Proofs.Ytodcjeaannfbnaa
