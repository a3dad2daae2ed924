/- Contract of the document's Fe: By. -/
import Derived.Test.YtodcjeaannfbnaaFe2
namespace Go.Proofs.Ytodcjeaannfbnaa
open Go.ChangeShapes Go.WideShapes Go.ChangeAt Go.RowKit
set_option maxHeartbeats 2000000
set_option maxRecDepth 100000
theorem zeroT32 : #[Value.int IntKind.i64 0, Value.int IntKind.i64 0, Value.int IntKind.i64 0, Value.int IntKind.i64 0, Value.int IntKind.i64 0, Value.int IntKind.i64 0, Value.int IntKind.i64 0, Value.int IntKind.i64 0, Value.int IntKind.i64 0, Value.int IntKind.i64 0, Value.int IntKind.i64 0, Value.int IntKind.i64 0, Value.int IntKind.i64 0, Value.int IntKind.i64 0, Value.int IntKind.i64 0, Value.int IntKind.i64 0, Value.int IntKind.i64 0, Value.int IntKind.i64 0, Value.int IntKind.i64 0, Value.int IntKind.i64 0, Value.int IntKind.i64 0, Value.int IntKind.i64 0, Value.int IntKind.i64 0, Value.int IntKind.i64 0, Value.int IntKind.i64 0, Value.int IntKind.i64 0, Value.int IntKind.i64 0, Value.int IntKind.i64 0, Value.int IntKind.i64 0, Value.int IntKind.i64 0, Value.int IntKind.i64 0, Value.int IntKind.i64 0] = arrK .i64 32 fun _ => 0 := by kernel_rfl
attribute [local go_sem ↓] load_fe store_fe execl_fe execs_fe load_t17 store_t17 execl_t17 execs_t17
attribute [local go_sem] isHead_mk blkOf_mk isAgg_mk cellsV_mk row_drew rowAt_drew row_new_cells row_old rowAt_new rowAt_old setRow_new zeroFe zeroT
attribute [local go_sem] zeroT32
theorem dval_split (f : Nat → Nat) (m n : Nat) : dval f (m + n) = dval f m + 65536 ^ m * dval (fun j => f (j + m)) n := by
  induction n with
  | zero => simp [dval]
  | succ n ih => rw [← Nat.add_assoc, dval, ih, dval, Nat.mul_add, Nat.pow_add, Nat.mul_assoc, Nat.add_comm n m]; omega
theorem dval_upd (f : Nat → Nat) (j v : Nat) : ∀ n, j < n → dval (upd f j v) n + 65536 ^ j * f j = dval f n + 65536 ^ j * v
  | 0, h => by omega
  | n + 1, h => by
    by_cases e : j = n
    · subst e
      have h1 : dval (upd f j v) j = dval f j := dval_congr fun i hi => by unfold upd; rw [if_neg (by omega)]
      rw [dval, dval, h1]
      unfold upd
      rw [if_pos rfl]
      omega
    · have ih := dval_upd f j v n (by omega)
      rw [dval, dval, show upd f j v n = f n by unfold upd; rw [if_neg (by omega)]]
      omega
/-- What stands in p while the product is made: row i, up to place k. -/
structure ByI (a b i k : Nat) (p : Nat → Nat) : Prop where
  val : dval p 32 = a % 65536 ^ i * b + 65536 ^ i * dgt a i * (b % 65536 ^ k)
  le : ∀ j, p j ≤ (16 * i + k) * 4294836225
theorem ByI.start (a b : Nat) : ByI a b 0 0 fun _ => 0 := by
  have h : ∀ n, dval (fun _ => 0) n = 0 := fun n => by induction n with
    | zero => rfl
    | succ n ih => simp [dval, ih]
  exact ⟨by rw [h, Nat.pow_zero, Nat.mod_one, Nat.mod_one]; simp, fun _ => Nat.zero_le _⟩
theorem dgt_up (b k : Nat) : b % 65536 ^ (k + 1) = b % 65536 ^ k + 65536 ^ k * dgt b k := by unfold dgt; rw [Nat.pow_succ, Nat.mod_mul]
theorem ByI.step {a b i k : Nat} {p : Nat → Nat} (h : ByI a b i k p) (hi : i < 16) (hk : k < 16) : ByI a b i (k + 1) (upd p (i + k) (p (i + k) + dgt a i * dgt b k)) := by
  refine ⟨?_, fun j => ?_⟩
  · have h1 := dval_upd p (i + k) (p (i + k) + dgt a i * dgt b k) 32 (by omega)
    have h2 := h.val
    rw [Nat.mul_add (65536 ^ (i + k))] at h1
    rw [dgt_up, Nat.mul_add, show 65536 ^ i * dgt a i * (65536 ^ k * dgt b k) = 65536 ^ (i + k) * (dgt a i * dgt b k) by rw [Nat.pow_add]; simp only [Nat.mul_assoc, Nat.mul_left_comm]]
    omega
  · have h1 : dgt a i * dgt b k ≤ 4294836225 := Nat.le_trans (Nat.mul_le_mul (show dgt a i ≤ 65535 by have := dgt_lt a i; omega) (show dgt b k ≤ 65535 by have := dgt_lt b k; omega)) (by decide)
    have h2 := h.le j
    have h3 := h.le (i + k)
    rw [← Nat.add_assoc, Nat.add_mul _ 1, Nat.one_mul]
    unfold upd
    generalize (16 * i + k) * 4294836225 = M at *
    generalize dgt a i * dgt b k = q at *
    by_cases e : j = i + k
    · rw [if_pos e]; omega
    · rw [if_neg e]; omega
theorem ByI.row {a b i : Nat} {p : Nat → Nat} (h : ByI a b i 16 p) (hb : b < 2 ^ 256) : ByI a b (i + 1) 0 p := by
  refine ⟨?_, fun j => by have := h.le j; omega⟩
  rw [h.val, p16, Nat.mod_eq_of_lt hb, dgt_up, Nat.pow_zero, Nat.mod_one, Nat.mul_zero, Nat.add_zero, Nat.add_mul]
/-- The folded digits. -/
def byG (p : Nat → Nat) (i : Nat) : Nat := p i + 38 * p (i + 16)
theorem byG_val {a b : Nat} {p : Nat → Nat} (h : ByI a b 16 0 p) (ha : a < 2 ^ 256) : dval (byG p) 16 % fP = a * b % fP := by
  have h1 := h.val
  rw [p16, Nat.mod_eq_of_lt ha, Nat.pow_zero, Nat.mod_one, Nat.mul_zero, Nat.add_zero, show (32 : Nat) = 16 + 16 from rfl, dval_split, p16] at h1
  have h2 : ∀ n, dval (byG p) n = dval p n + 38 * dval (fun j => p (j + 16)) n := fun n => by
    induction n with
    | zero => rfl
    | succ n ih => simp only [dval]; rw [ih]; unfold byG; rw [Nat.mul_add, Nat.mul_left_comm (65536 ^ n)]; omega
  rw [h2, ← h1, fold_P]
theorem byG_le {a b : Nat} {p : Nat → Nat} (h : ByI a b 16 0 p) (i : Nat) : byG p i ≤ 42880364870400 := by
  have h1 := h.le i
  have h2 := h.le (i + 16)
  unfold byG
  omega
/-- The digits that least is handed. -/
def byT (G : Nat → Nat) (i : Nat) : Nat := if i < 16 then lout G 0 i else lcar G 0 16
theorem byG_car {G : Nat → Nat} (h : ∀ i, G i ≤ 42880364870400) : ∀ k, lcar G 0 k ≤ 42880364870400
  | 0 => Nat.zero_le _
  | k + 1 => by
    have h1 := byG_car h k
    have h2 := h k
    unfold lcar; omega
theorem byT_tame {G : Nat → Nat} (h : ∀ i, G i ≤ 42880364870400) : Tame (byT G) := by
  intro i _
  have h1 := byG_car h 16
  unfold byT
  split
  · exact Nat.lt_trans (lout_lt _ _ _) (by omega)
  · omega
theorem byT_val (G : Nat → Nat) : dval (byT G) 16 + 2 ^ 256 * byT G 16 = dval G 16 := by
  have h := lout_dval G 0 16
  rw [p16] at h
  rw [dval_congr (f := byT G) (g := lout G 0) fun i hi => by unfold byT; rw [if_pos hi], show byT G 16 = lcar G 0 16 from rfl]
  exact h
theorem byT_end (G : Nat → Nat) (p : Nat) (hp : p < 17) : upd (mixD (lout G 0) 16) 16 (lcar G 0 16) p = byT G p := by
  unfold upd mixD byT
  by_cases h : p = 16
  · subst h; simp
  · simp [h, show p < 16 by omega]
theorem load_t32 {w : World} {dst : Option Tmp} {x : Operand} {tt : TypeId} {pos : String} {af : Array Edge} {gd : Option (Nat × Bool)} {a : Act} {K : Act → World → Prop} {Q : Exit → Act → World → Prop}
    (hv : IsHead (a.eval x)) (h : Row w (blkOf (a.eval x)) 32) : Oper.wp Try.prog ⟨dst, .load 120 x, tt, pos, af, gd⟩ a w K Q ↔ K (a.put dst (.agg (rowAt w (blkOf (a.eval x))))) w :=
  wp_load_whole Try.underlying120 rfl (by kernel_rfl) hv h
theorem store_t32 {w : World} {dst : Option Tmp} {x y : Operand} {tt : TypeId} {pos : String} {af : Array Edge} {gd : Option (Nat × Bool)} {a : Act} {K : Act → World → Prop} {Q : Exit → Act → World → Prop}
    (hv : IsHead (a.eval x)) (h : Row w (blkOf (a.eval x)) 32) (hx : IsAgg (a.eval y) 32) : Oper.wp Try.prog ⟨dst, .store 120 x y, tt, pos, af, gd⟩ a w K Q ↔ K (a.put dst undef) (w.setRow (blkOf (a.eval x)) (cellsV (a.eval y))) :=
  wp_store_whole (by kernel_rfl) hv h hx
theorem execl_t32 {w : World} {dst : Option Tmp} {x : Operand} {tt : TypeId} {pos : String} {af : Array Edge} {gd : Option (Nat × Bool)} {ρ : Operand → Value}
    (hv : IsHead (ρ x)) (h : Row w (blkOf (ρ x)) 32) : (execOp ρ ⟨dst, .load 120 x, tt, pos, af, gd⟩).run Try.prog w = .ok (.value (.agg (rowAt w (blkOf (ρ x))))) w :=
  exec_load_whole Try.underlying120 rfl (by kernel_rfl) hv h
theorem execs_t32 {w : World} {dst : Option Tmp} {x y : Operand} {tt : TypeId} {pos : String} {af : Array Edge} {gd : Option (Nat × Bool)} {ρ : Operand → Value}
    (hv : IsHead (ρ x)) (h : Row w (blkOf (ρ x)) 32) (hx : IsAgg (ρ y) 32) : (execOp ρ ⟨dst, .store 120 x y, tt, pos, af, gd⟩).run Try.prog w = .ok .skip (w.setRow (blkOf (ρ x)) (cellsV (ρ y))) :=
  exec_store_whole (by kernel_rfl) hv h hx

attribute [local go_sem ↓] load_t32 store_t32
theorem fe_By (a b : Nat) (w : World) (ha : a < 2 ^ 256) (hb : b < 2 ^ 256) : Calls Try.prog 25 #[feV a, feV b] w fun e w' => e = .returned (feV (a * b % fP)) ∧ Below w.heap.size w w' := by
  have hle := Lib.hid (fun G (h : ∀ i, G i ≤ 42880364870400) V => ref_least (byT G) V (byT_tame h))
  have hval := Lib.hid (fun p (h : ByI a b 16 0 p) => byG_val h ha)
  have hrow := Lib.hid (fun i p (h : ByI a b i 16 p) => h.row hb)
  have hI0 := Lib.hid (ByI.start a b)
  clear ha hb
  unfold feV at hle ⊢
  have hc0 := arrK_cells .i64 16 fun _ => 0
  have hc1 := arrK_cells .i64 17 fun _ => 0
  have hc2 := arrK_cells .i64 32 fun _ => 0
  have hL0 : Below w.heap.size w ((((w.alloc (Obj.cells (arrK .i64 16 (dgt a)) 26)).alloc (Obj.cells (arrK .i64 16 (dgt b)) 26)).alloc (Obj.cells (arrK .i64 16 fun _ => 0) 26)).alloc (Obj.cells (arrK .i64 32 fun _ => 0) 120)) := by go_grown
  have hA0 : At ((((w.alloc (Obj.cells (arrK .i64 16 (dgt a)) 26)).alloc (Obj.cells (arrK .i64 16 (dgt b)) 26)).alloc (Obj.cells (arrK .i64 16 fun _ => 0) 26)).alloc (Obj.cells (arrK .i64 32 fun _ => 0) 120)) w.heap.size .i64 16 (dgt a) := (((At.new _ rfl).old _).old _).old _
  have hB0 : At ((((w.alloc (Obj.cells (arrK .i64 16 (dgt a)) 26)).alloc (Obj.cells (arrK .i64 16 (dgt b)) 26)).alloc (Obj.cells (arrK .i64 16 fun _ => 0) 26)).alloc (Obj.cells (arrK .i64 32 fun _ => 0) 120)) (w.heap.size + 1) .i64 16 (dgt b) := ((At.new _ (by simp)).old _).old _
  have hR0 : Row ((((w.alloc (Obj.cells (arrK .i64 16 (dgt a)) 26)).alloc (Obj.cells (arrK .i64 16 (dgt b)) 26)).alloc (Obj.cells (arrK .i64 16 fun _ => 0) 26)).alloc (Obj.cells (arrK .i64 32 fun _ => 0) 120)) (w.heap.size + 1 + 1) 16 := ((At.new (k := .i64) (f := fun _ => 0) _ (by simp)).old _).row
  have hP0 : At ((((w.alloc (Obj.cells (arrK .i64 16 (dgt a)) 26)).alloc (Obj.cells (arrK .i64 16 (dgt b)) 26)).alloc (Obj.cells (arrK .i64 16 fun _ => 0) 26)).alloc (Obj.cells (arrK .i64 32 fun _ => 0) 120)) (w.heap.size + 1 + 1 + 1) .i64 32 (fun _ => 0) := At.new _ (by simp)
  have hL := Lib.hid hL0
  have hR := Lib.hid hR0
  have hA := Lib.hid hA0
  have hB := Lib.hid hB0
  have hP := Lib.hid hP0
  clear hL0 hR0 hA0 hB0 hP0
  go_enter Try.func25, Try.ntmps25
  go_wp2_with fail
  generalize (((w.alloc _).alloc _).alloc _).alloc _ = W0 at *
  go_loopw [11] (fun i wr => ∃ (s : Nat) (p : Nat → Nat), i = .int .i64 s ∧ s ≤ 16 ∧ Hid (ByI a b s 0 p) ∧ Hid (At wr w.heap.size .i64 16 (dgt a)) ∧ Hid (At wr (w.heap.size + 1) .i64 16 (dgt b)) ∧ Hid (Row wr (w.heap.size + 1 + 1) 16) ∧ Hid (At wr (w.heap.size + 1 + 1 + 1) .i64 32 p) ∧ Hid (Below w.heap.size w wr)) (fun i _ => 16 - (intOf i).toNat)
  case atStart => exact ⟨0, _, rfl, by omega, hI0, hA, hB, hR, hP, hL⟩
  case round =>
    clear hI0 hA hB hR hP hL
    obtain ⟨s, p, rfl, hs, hI, hA, hB, hR, hP, hL⟩ := hrel
    by_cases h16 : s = 16
    · subst h16
      rw [show ((16 : Nat) : Int) = 16 from rfl]
      have hcG := Lib.hid (byG_le hI.out)
      have hvG := hval.out p hI.out
      have hcar := Lib.hid (byG_car hcG.out)
      have hle2 := Lib.hid (hle.out (byG p) hcG.out)
      rw [byT_val, hvG] at hle2
      obtain ⟨V, hV⟩ : ∃ V, a * b % fP = V := ⟨_, rfl⟩
      rw [hV] at hle2
      have hVV := Lib.hid hV
      have hpl := Lib.hid hI.out.le
      have hGx := Lib.hid (fun i => show byG p i = p i + 38 * p (i + 16) from rfl)
      have hbe := Lib.hid (byT_end (byG p))
      clear hV hvG hle hval hrow hI
      obtain ⟨G, hG⟩ : ∃ G, byG p = G := ⟨_, rfl⟩
      rw [hG] at hGx hcG hcar hle2 hbe
      clear hG
      have hR1 := Lib.hid ((row_old (o := Obj.cells (arrK .i64 17 fun _ => 0) 114) hR.out.lt).2 hR.out)
      have hL1 := Lib.hid (Below.trans hL.out ((below_alloc wr (Obj.cells (arrK .i64 17 fun _ => 0) 114)).mono hL.out.size))
      have hP1 := Lib.hid (hP.out.old (Obj.cells (arrK .i64 17 fun _ => 0) 114))
      have hT1 := Lib.hid ((At.new (w := wr) (k := .i64) (m := 17) (f := fun _ => 0) 114 rfl).congr (f' := mixD (lout G 0) 0) fun i _ => by simp [mixD])
      have hlt := hP.out.lt
      clear hA hB hR hL hP
      go_wp2_with fail
      obtain ⟨g, hg⟩ : ∃ g, wr.heap.size = g := ⟨_, rfl⟩
      rw [hg] at hT1 hlt ⊢
      clear hg
      generalize wr.alloc _ = W1 at *
      go_loopw [9, 33] (fun c i wr => ∃ s : Nat, i = .int .i64 s ∧ s ≤ 16 ∧ c = .int .i64 (lcar G 0 s : Nat) ∧ Hid (Row wr (w.heap.size + 1 + 1) 16) ∧ Hid (At wr (w.heap.size + 1 + 1 + 1) .i64 32 p) ∧ Hid (At wr g .i64 17 (mixD (lout G 0) s)) ∧ Hid (Below w.heap.size w wr)) (fun _ i _ => 16 - (intOf i).toNat)
      case atStart => exact ⟨0, rfl, by omega, rfl, hR1, hP1, hT1, hL1⟩
      case round =>
        clear hR1 hP1 hT1 hL1
        obtain ⟨s, rfl, hs, rfl, hR, hP, hT, hL⟩ := hrel
        by_cases h16 : s = 16
        · subst h16
          rw [show ((16 : Nat) : Int) = 16 from rfl]
          have ct := hT.out.cell (i := 16) (by omega)
          have ft := hT.out.row.frozen 16
          have hT2 := Lib.hid ((hT.out.set 16 (lcar G 0 16)).congr hbe.out)
          have hR2 : Hid (Row (wr.setCell ⟨g, 16, none⟩ (.int .i64 (lcar G 0 16 : Nat))) (w.heap.size + 1 + 1) 16) := Lib.hid (row_setCell.2 hR.out)
          have hL2 := Lib.hid (show Below w.heap.size w (wr.setCell ⟨g, 16, none⟩ (.int .i64 (lcar G 0 16 : Nat))) from hL.out.setCell (by simp <;> omega) _)
          clear hT hR hL hP hbe hcG hcar hpl hGx
          generalize lcar G 0 16 = cc at *
          generalize mixD (lout G 0) 16 16 = yy at *
          go_upto_region 21 with (fail)
          generalize wr.setCell _ _ = W2 at *
          have hr1 := hT2.out.row
          have hr2 := hT2.out.eq
          go_wp2_with fail
          refine (hle2.out _).mono ?_
          rintro e w2 ⟨rfl, hbz⟩
          have hR3 := row_below hR2.out hbz hR2.out.lt
          have hL3 := Lib.hid (below_step hbz hL2.out (Nat.le_refl _))
          have hcv := arrK_cells .i64 16 (dgt V)
          clear hr1 hr2 hbz hT2 hR2 hL2
          dsimp only
          go_wp2_with fail
          exact ret_stored (p := 4) (ty := 26) (g := w.heap.size + 1 + 1) (n := 16) (c := arrK .i64 16 (dgt V)) rfl Try.underlying26 rfl (by kernel_rfl) rfl hR3 hcv.1 rfl ⟨by rw [hVV.out], below_setRow hL3.out (by omega)⟩
        · have hs16 : (s : Int) < 16 := by omega
          have hs17 : (s : Int) < 17 := by omega
          have hs32 : (s : Int) < 32 := by omega
          have hs3 : (s : Int) + 16 < 32 := by omega
          have hs0 : (0 : Int) ≤ (s : Int) + 16 := by omega
          have hsn : ((s : Int) + 16).toNat = s + 16 := by omega
          have c1 := hP.out.cell (i := s) (by omega)
          have c2 := hP.out.cell (i := s + 16) (by omega)
          have ct := hT.out.drew.cell (i := s) (by omega)
          have ft := hT.out.drew.row.frozen s
          have hl := hcar.out s
          have hb := hcG.out s
          have hp1 := hpl.out s
          have hp2 := hpl.out (s + 16)
          have hgx := hGx.out s
          have hn1 := Lib.hid (show lcar G 0 (s + 1) = (lcar G 0 s + G s) / 65536 from rfl)
          have hn2 := Lib.hid (show lout G 0 s = (lcar G 0 s + G s) % 65536 from rfl)
          have hT2 := Lib.hid ((hT.out.drew.set s (lout G 0 s)).congr fun p _ => mixD_step (lout G 0) s p)
          have hP2 : Hid (At (wr.drew.setCell ⟨g, s, none⟩ (.int .i64 (lout G 0 s : Nat))) (w.heap.size + 1 + 1 + 1) .i64 32 p) := Lib.hid (hP.out.drew.farC (by simp <;> omega))
          have hR2 : Hid (Row (wr.drew.setCell ⟨g, s, none⟩ (.int .i64 (lout G 0 s : Nat))) (w.heap.size + 1 + 1) 16) := Lib.hid (row_setCell.2 hR.out.drew)
          have hL2 := Lib.hid (show Below w.heap.size w (wr.drew.setCell ⟨g, s, none⟩ (.int .i64 (lout G 0 s : Nat))) from hL.out.drew.setCell (by simp <;> omega) _)
          rw [hn2.out] at hT2 hP2 hR2 hL2
          obtain ⟨x, hx⟩ : ∃ x, lcar G 0 s + G s = x := ⟨_, rfl⟩
          rw [hx] at hn1 hT2 hP2 hR2 hL2
          rw [show ((x % 65536 : Nat) : Int) = (x : Int) % 65536 from by omega] at hT2 hP2 hR2 hL2
          have hw0 : IntKind.i64.wrap (38 * (p (s + 16) : Int)) = 38 * (p (s + 16) : Int) := by rw [IntKind.wrap_i64]; omega
          have hw1 : IntKind.i64.wrap ((p s : Int) + 38 * (p (s + 16) : Int)) = (G s : Int) := by rw [IntKind.wrap_i64]; omega
          have hw2 : IntKind.i64.wrap ((lcar G 0 s : Int) + (G s : Int)) = (x : Int) := by rw [IntKind.wrap_i64]; omega
          have hw3 : IntKind.i64.wrap ((s : Int) + 16) = (s : Int) + 16 := by rw [IntKind.wrap_i64]; omega
          have hand := num_andM (a := x) (by omega)
          have hxb : x < 9223372036854775808 := by omega
          clear hx hT hR hL hP hn2 hl hb hp1 hp2 hgx
          generalize lcar G 0 s = c at *
          generalize mixD (lout G 0) s s = yy at *
          obtain ⟨gs, hgs⟩ : ∃ x, G s = x := ⟨_, rfl⟩
          rw [hgs] at hw1 hw2
          clear hgs
          go_wp2
          go_region
          all_goals
            go_wp2_with fail
            go_roundw
            case rel => exact ⟨s + 1, by go_num, by omega, congrArg (Value.int .i64) (by rw [hn1.out]; omega), hR2, hP2, hT2, hL2⟩
            case measure => simp [intOf]; omega
    · have hs16 : (s : Int) < 16 := by omega
      clear hle hval
      go_wp2_with fail
      go_loopw [14] (fun i wr => ∃ (k : Nat) (p : Nat → Nat), i = .int .i64 k ∧ k ≤ 16 ∧ Hid (ByI a b s k p) ∧ Hid (At wr w.heap.size .i64 16 (dgt a)) ∧ Hid (At wr (w.heap.size + 1) .i64 16 (dgt b)) ∧ Hid (Row wr (w.heap.size + 1 + 1) 16) ∧ Hid (At wr (w.heap.size + 1 + 1 + 1) .i64 32 p) ∧ Hid (Below w.heap.size w wr)) (fun i _ => 16 - (intOf i).toNat)
      case atStart => exact ⟨0, p, rfl, by omega, hI, hA, hB, hR, hP, hL⟩
      case round =>
        clear hI hA hB hR hP hL p
        obtain ⟨k, p, rfl, hk, hI, hA, hB, hR, hP, hL⟩ := hrel
        by_cases hk16 : k = 16
        · subst hk16
          rw [show ((16 : Nat) : Int) = 16 from rfl]
          have hI2 := Lib.hid (hrow.out s p hI.out)
          clear hrow
          go_wp2_with fail
          go_roundw
          case rel => exact ⟨s + 1, p, by go_num, by omega, hI2, hA, hB, hR, hP, hL⟩
          case measure => simp [intOf]; omega
        · have hk0 : (k : Int) < 16 := by omega
          have hI2 := Lib.hid (hI.out.step (by omega) (by omega))
          have hpb := hI.out.le (s + k)
          have hpb2 := hI2.out.le (s + k)
          rw [show upd p (s + k) (p (s + k) + dgt a s * dgt b k) (s + k) = p (s + k) + dgt a s * dgt b k by unfold upd; rw [if_pos rfl]] at hpb2
          have ca := hA.out.cell (i := s) (by omega)
          have cb := hB.out.cell (i := k) (by omega)
          have cp := hP.out.cell (i := s + k) (by omega)
          have fp := hP.out.row.frozen (s + k)
          have hax := dgt_lt a s
          have hbx := dgt_lt b k
          have hm1 : dgt a s * dgt b k ≤ 65535 * 65535 := Nat.mul_le_mul (by omega) (by omega)
          obtain ⟨v, hv⟩ : ∃ v, p (s + k) + dgt a s * dgt b k = v := ⟨_, rfl⟩
          rw [hv] at hI2 hpb2
          have hA2 : Hid (At (wr.setCell ⟨w.heap.size + 1 + 1 + 1, s + k, none⟩ (.int .i64 (v : Nat))) w.heap.size .i64 16 (dgt a)) := Lib.hid (hA.out.farC (by simp <;> omega))
          have hB2 : Hid (At (wr.setCell ⟨w.heap.size + 1 + 1 + 1, s + k, none⟩ (.int .i64 (v : Nat))) (w.heap.size + 1) .i64 16 (dgt b)) := Lib.hid (hB.out.farC (by simp <;> omega))
          have hP2 := Lib.hid (hP.out.set (s + k) v)
          have hR2 : Hid (Row (wr.setCell ⟨w.heap.size + 1 + 1 + 1, s + k, none⟩ (.int .i64 (v : Nat))) (w.heap.size + 1 + 1) 16) := Lib.hid (row_setCell.2 hR.out)
          have hL2 := Lib.hid (show Below w.heap.size w (wr.setCell ⟨w.heap.size + 1 + 1 + 1, s + k, none⟩ (.int .i64 (v : Nat))) from hL.out.setCell (by simp <;> omega) _)
          obtain ⟨m, hm⟩ : ∃ m, dgt a s * dgt b k = m := ⟨_, rfl⟩
          rw [hm] at hv hm1
          have hmi : ((dgt a s : Int) * (dgt b k : Int)) = (m : Int) := by rw [← hm]; simp
          have hw0 : IntKind.i64.wrap ((dgt a s : Int) * (dgt b k : Int)) = (m : Int) := by rw [hmi, IntKind.wrap_i64]; omega
          have hw1 : IntKind.i64.wrap ((p (s + k) : Int) + (m : Int)) = (v : Int) := by rw [IntKind.wrap_i64]; omega
          have hw2 : IntKind.i64.wrap ((s : Int) + k) = (s : Int) + k := by rw [IntKind.wrap_i64]; omega
          have hw3 : (0 : Int) ≤ (s : Int) + k := by omega
          have hw4 : (s : Int) + k < 32 := by omega
          have hw5 : ((s : Int) + k).toNat = s + k := by omega
          clear hv hm hmi hm1 hpb hpb2 hax hbx hA hB hP hR hL hI hrow
          generalize p (s + k) = x0 at *
          generalize dgt a s = x1 at *
          generalize dgt b k = x2 at *
          go_wp2
          go_region
          all_goals
            go_wp2_with fail
            go_roundw
            case rel => exact ⟨k + 1, _, by go_num, by omega, hI2, Lib.hid hA2.out.drew, Lib.hid hB2.out.drew, Lib.hid hR2.out.drew, Lib.hid hP2.out.drew, Lib.hid hL2.out.drew⟩
            case measure => simp [intOf]; omega
end Go.Proofs.Ytodcjeaannfbnaa
