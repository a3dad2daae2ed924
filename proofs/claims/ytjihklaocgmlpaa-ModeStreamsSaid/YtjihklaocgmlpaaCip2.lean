/- Contract of the document's mixed. -/
import Derived.Test.YtjihklaocgmlpaaCip
import Derived.Test.YtjihklaocgmlpaaAes
import Derived.Deep.DeepCutAuto
import Derived.Deep.RegionLaw
namespace Go.Proofs.Ytjihklaocgmlpaa
open Go.ChangeShapes Go.WideShapes Go.ChangeAt Go.RowKit
set_option maxHeartbeats 4000000
set_option maxRecDepth 100000
attribute [local go_sem ↓] load_a4 store_a4 execl_a4 execs_a4 load_a16 store_a16 execl_a16 execs_a16 load_g44 store_g44 execl_g44 execs_g44
attribute [local go_sem] isHead_mk blkOf_mk isAgg_mk cellsV_mk row_drew rowAt_drew row_new_cells row_old rowAt_new rowAt_old setRow_new
/-- Columns mixed, in rows of columns. -/
def mixT (B g : Nat → Nat) : Nat → Nat := fun p => col (fun j => g (4 * j + p % 4)) B (p / 4)
theorem colk_congr {c d B : Nat → Nat} (h : ∀ j < 4, c j = d j) (i : Nat) : ∀ k, colk c B i k = colk d B i k
  | 0 => rfl
  | k + 1 => by
    show colk c B i k ^^^ gm (B k) (c ((i + k) % 4)) = colk d B i k ^^^ gm (B k) (d ((i + k) % 4))
    rw [colk_congr h i k, h _ (by omega)]
theorem mixT_tr (B s : Nat → Nat) : ∀ p < 16, mixT B (tr s) p = tr (mixs B s) p := fun p hp => by
  show colk _ B (p / 4) 4 = colk _ B ((4 * (p % 4) + p / 4) % 4) 4
  rw [show (4 * (p % 4) + p / 4) % 4 = p / 4 by omega, show (4 * (p % 4) + p / 4) / 4 = p % 4 by omega]
  refine colk_congr (fun j hj => ?_) _ _
  show s (4 * ((4 * j + p % 4) % 4) + (4 * j + p % 4) / 4) = _
  congr 1; omega
theorem mixT_lt {B : Nat → Nat} (hB : ∀ i < 4, B i < 256) (g : Nat → Nat) (p : Nat) : mixT B g p < 256 := colk_lt hB _ (Nat.le_refl _)
def mxS (B g : Nat → Nat) (k r : Nat) : Nat → Nat := fun p => if p % 4 < k ∨ (p % 4 = k ∧ p / 4 < r) then mixT B g p else g p
theorem mxS_zero (B g : Nat → Nat) : mxS B g 0 0 = g := by funext p; unfold mxS; rw [if_neg (by omega)]
theorem mxS_old (B g : Nat → Nat) {k j : Nat} (hk : k < 4) : mxS B g k 0 (4 * j + k) = g (4 * j + k) := if_neg (by omega)
theorem mxS_step (B g : Nat → Nat) {k r : Nat} (hk : k < 4) : upd (mxS B g k r) (r * 4 + k) (col (fun j => g (4 * j + k)) B r) = mxS B g k (r + 1) := by
  funext p
  unfold upd mxS
  by_cases h : p = r * 4 + k
  · subst h
    rw [if_pos rfl, if_pos (by omega)]
    unfold mixT
    rw [show (r * 4 + k) % 4 = k by omega, show (r * 4 + k) / 4 = r by omega]
  · rw [if_neg h]
    by_cases h2 : p % 4 < k ∨ (p % 4 = k ∧ p / 4 < r)
    · rw [if_pos h2, if_pos (by omega)]
    · rw [if_neg h2, if_neg (by omega)]
theorem mxS_next (B g : Nat → Nat) (k : Nat) : ∀ p < 16, mxS B g k 4 p = mxS B g (k + 1) 0 p := fun p hp => by
  unfold mxS
  by_cases h : p % 4 < k ∨ (p % 4 = k ∧ p / 4 < 4)
  · rw [if_pos h, if_pos (by omega)]
  · rw [if_neg h, if_neg (by omega)]
theorem mxS_end (B g : Nat → Nat) : ∀ p < 16, mxS B g 4 0 p = mixT B g p := fun p hp => if_pos (by omega)
theorem ref_ColumnK (c b : Nat → Nat) (w : World) (hc : ∀ i < 4, c i < 256) (hb : ∀ i < 4, b i < 256) :
    Calls Try.prog 104 #[.agg (arrK .u8 4 c), .agg (arrK .u8 4 b)] w fun e w' => e = .returned (.agg (arrK .u8 4 (col c b))) ∧ Below w.heap.size w w' := ref_Column c b w hc hb
theorem ref_mixed (g B : Nat → Nat) (w : World) (hg : ∀ p < 16, g p < 256) (hBl : ∀ i < 4, B i < 256) :
    Calls Try.prog 85 #[.agg (arrK .u8 16 g), .agg (arrK .u8 4 B)] w fun e w' => e = .returned (.agg (arrK .u8 16 (mixT B g))) ∧ Below w.heap.size w w' := by
  have T0 : At (((w.alloc (Obj.cells (arrK .u8 16 g) 120)).alloc (Obj.cells (arrK .u8 4 B) 39)).alloc (Obj.cells (arrK .u8 16 fun _ => 0) 120)) w.heap.size .u8 16 g := ((At.new _ rfl).old _).old _
  have B0 : At (((w.alloc (Obj.cells (arrK .u8 16 g) 120)).alloc (Obj.cells (arrK .u8 4 B) 39)).alloc (Obj.cells (arrK .u8 16 fun _ => 0) 120)) (w.heap.size + 1) .u8 4 B := (At.new _ (by simp)).old _
  have O0 : At (((w.alloc (Obj.cells (arrK .u8 16 g) 120)).alloc (Obj.cells (arrK .u8 4 B) 39)).alloc (Obj.cells (arrK .u8 16 fun _ => 0) 120)) (w.heap.size + 1 + 1) .u8 16 fun _ => 0 := At.new _ (by simp)
  have hL0 : Below w.heap.size w (((w.alloc (Obj.cells (arrK .u8 16 g) 120)).alloc (Obj.cells (arrK .u8 4 B) 39)).alloc (Obj.cells (arrK .u8 16 fun _ => 0) 120)) := by go_grown
  have cells4b : Cells #[Value.int IntKind.u8 0, Value.int IntKind.u8 0, Value.int IntKind.u8 0, Value.int IntKind.u8 0] 4 := by rw [zeroA4]; exact arrK_cells _ _ _
  go_enter Try.func85, Try.ntmps85
  go_wp2_with fail
  rw [zeroA16]
  generalize (((w.alloc (Obj.cells (arrK .u8 16 g) 120)).alloc (Obj.cells (arrK .u8 4 B) 39)).alloc (Obj.cells (arrK .u8 16 fun _ => 0) 120)) = W0 at *
  go_loopw [8] (fun x wr => ∃ k : Nat, x = .int .i64 k ∧ k ≤ 4 ∧ At wr w.heap.size .u8 16 (mxS B g k 0) ∧ At wr (w.heap.size + 1) .u8 4 B ∧ Row wr (w.heap.size + 1 + 1) 16 ∧ Below w.heap.size w wr) (fun x _ => 4 - (intOf x).toNat)
  case atStart => exact ⟨0, rfl, by omega, by rw [mxS_zero]; exact T0, B0, O0.row, hL0⟩
  case round =>
    clear T0 B0 O0 hL0
    obtain ⟨k, rfl, hk, T, hBa, O, hL⟩ := hrel
    by_cases h4 : k = 4
    · subst h4
      have T2 := T.congr (mxS_end _ _)
      have hRt := T2.row
      have hrt := T2.eq
      have hcs := arrK_cells .u8 16 (mixT B g)
      clear T T2 hBa
      go_wp2_with fail
      refine ret_row rfl Try.underlying120 rfl (by kernel_rfl) rfl ((row_setRow_same rfl O).2 hcs.1) rfl ?_
      rw [rowAt_setRow_same O]
      exact ⟨rfl, below_setRow hL (by omega)⟩
    · have hd : decide ((k : Int) < 4) = true := by simp; omega
      obtain ⟨f, hf⟩ : ∃ f : Nat → Nat, f = fun j => g (4 * j + k) := ⟨_, rfl⟩
      have hfl : ∀ i < 4, f i < 256 := fun i hi2 => by rw [hf]; exact hg _ (by omega)
      have hf0 := Lib.hid (show mxS B g k 0 k = f 0 by have := mxS_old B g (k := k) (j := 0) (by omega); rw [hf]; simpa using this)
      have hf1 := Lib.hid (show mxS B g k 0 (4 + k) = f 1 by have := mxS_old B g (k := k) (j := 1) (by omega); rw [hf]; simpa using this)
      have hf2 := Lib.hid (show mxS B g k 0 (8 + k) = f 2 by have := mxS_old B g (k := k) (j := 2) (by omega); rw [hf]; simpa using this)
      have hf3 := Lib.hid (show mxS B g k 0 (12 + k) = f 3 by have := mxS_old B g (k := k) (j := 3) (by omega); rw [hf]; simpa using this)
      have hi0 : (k : Int) < 4 := by omega
      have hj0 : (0 : Int) ≤ (k : Int) := by omega
      have hT := Lib.hid T
      have hB := Lib.hid hBa
      have hO := Lib.hid O
      have hHL := Lib.hid hL
      have hHf := Lib.hid hf
      have hcol := arrK_cells .u8 4 (col f B)
      have hCol := Lib.hid (fun V => ref_ColumnK f B V hfl hBl)
      clear T O hL hf hBa
      go_upto_region 4 with (fail)
      go_cut [6] from 9 to 41 (fun v6 wx => ∃ m, v6 = .pointer (some ⟨m, 0, none⟩) ∧ w.heap.size + 1 + 1 < m ∧ At wx m .u8 4 (col f B) ∧ At wx w.heap.size .u8 16 (mxS B g k 0) ∧ At wx (w.heap.size + 1) .u8 4 B ∧ Row wx (w.heap.size + 1 + 1) 16 ∧ Below w.heap.size w wx)
      case first =>
        rename_i J1 K1 hJ1 hK1
        have hHJ1 := Lib.hid hJ1
        have hHK1 := Lib.hid hK1
        clear hJ1 hK1
        generalize ha0 : Act.mk _ _ = a0
        have e2 : a0.tmps[2]?.getD undef = .pointer (some ⟨w.heap.size, 0, none⟩) := by rw [← ha0]; rfl
        have e3 : a0.tmps[3]?.getD undef = .pointer (some ⟨w.heap.size + 1, 0, none⟩) := by rw [← ha0]; rfl
        have e5 : a0.tmps[5]?.getD undef = .int .i64 (k : Nat) := by rw [← ha0]; rfl
        have hz0 : a0.tmps.size = 43 := by rw [← ha0]; rfl
        have hha0 := Lib.hid ha0
        clear ha0
        refine wp_region_fresh ⟨fun jx_ => match jx_ with | 0 => some (.int .i64 (k : Nat)) | 1 => some (.pointer (some ⟨w.heap.size, 0, none⟩)) | 2 => some (.pointer (some ⟨w.heap.size, k, none⟩)) | 3 => some (.int .u8 (f 0 : Nat)) | 4 => some (.int .i64 (k : Nat)) | 5 => some (.pointer (some ⟨w.heap.size, 4, none⟩)) | 6 => some (.pointer (some ⟨w.heap.size, 4 + k, none⟩)) | 7 => some (.int .u8 (f 1 : Nat)) | 8 => some (.int .i64 (k : Nat)) | 9 => some (.pointer (some ⟨w.heap.size, 8, none⟩)) | 10 => some (.pointer (some ⟨w.heap.size, 8 + k, none⟩)) | 11 => some (.int .u8 (f 2 : Nat)) | 12 => some (.int .i64 (k : Nat)) | 13 => some (.pointer (some ⟨w.heap.size, 12, none⟩)) | 14 => some (.pointer (some ⟨w.heap.size, 12 + k, none⟩)) | 15 => some (.int .u8 (f 3 : Nat)) | 16 => some (.agg (arrK .u8 4 f)) | 17 => some (.agg (arrK .u8 4 B)) | 18 => some (.agg (arrK .u8 4 (col f B))) | _ => none, fun jx_ => match jx_ with | 19 => some 4 | _ => none, fun jx_ => match jx_ with | 20 => some 19 | _ => none, fun jx_ => match jx_ with | 20 => arrK .u8 4 (col f B) | _ => #[]⟩ (by kernel_rfl) (by kernel_rfl) (by kernel_rfl) (slotsOk_of hz0 (by kernel_rfl)) rfl ⟨?_, ?_, ?_, ?_, ?_, ?_, ?_, ?_, ?_, ?_, ?_, ?_, ?_, ?_, ?_, ?_, ?_, ?_, ?_, ?_, ?_, trivial⟩ ?_
        · refine fstep_val rfl rfl (calm_step rfl fun aa ω κ hb hu hc hK => ?_)
          have h5 : aa.tmps[5]?.getD undef = .int .i64 (k : Nat) := (hu 5 rfl).trans e5
          have hk := Lib.hid (fun w1 (h : Below ω.heap.size ω w1) => hK (.int .i64 (k : Nat)) w1 rfl h)
          clear hK hu hc
          go_simp
          exact hk.out _ (Below.refl _ _)
        · refine fstep_val rfl rfl (calm_step rfl fun aa ω κ hb hu hc hK => ?_)
          have h2 : aa.tmps[2]?.getD undef = .pointer (some ⟨w.heap.size, 0, none⟩) := (hu 2 rfl).trans e2
          have hk := Lib.hid (fun w1 (h : Below ω.heap.size ω w1) => hK (.pointer (some ⟨w.heap.size, 0, none⟩)) w1 rfl h)
          clear hK hu hc
          go_simp
          exact hk.out _ (Below.refl _ _)
        · refine fstep_val rfl rfl (calm_step rfl fun aa ω κ hb hu hc hK => ?_)
          have h12 : aa.tmps[12]?.getD undef = .pointer (some ⟨w.heap.size, 0, none⟩) := hc 1 12 rfl rfl
          have h11 : aa.tmps[11]?.getD undef = .int .i64 (k : Nat) := hc 0 11 rfl rfl
          have hk := Lib.hid (fun w1 (h : Below ω.heap.size ω w1) => hK (.pointer (some ⟨w.heap.size, k, none⟩)) w1 rfl h)
          clear hK hu hc
          go_simp
          exact hk.out _ (Below.refl _ _)
        · refine fstep_val rfl rfl (calm_step rfl fun aa ω κ hb hu hc hK => ?_)
          have h13 : aa.tmps[13]?.getD undef = .pointer (some ⟨w.heap.size, k, none⟩) := hc 2 13 rfl rfl
          have hk := Lib.hid (fun w1 (h : Below ω.heap.size ω w1) => hK (.int .u8 (f 0 : Nat)) w1 rfl h)
          clear hK hu hc
          have hcl := (hT.out.step hb).cell (i := k) (by omega)
          rw [hf0.out] at hcl
          go_simp
          exact hk.out _ (Below.refl _ _)
        · refine fstep_val rfl rfl (calm_step rfl fun aa ω κ hb hu hc hK => ?_)
          have h5 : aa.tmps[5]?.getD undef = .int .i64 (k : Nat) := (hu 5 rfl).trans e5
          have hk := Lib.hid (fun w1 (h : Below ω.heap.size ω w1) => hK (.int .i64 (k : Nat)) w1 rfl h)
          clear hK hu hc
          go_simp
          exact hk.out _ (Below.refl _ _)
        · refine fstep_val rfl rfl (calm_step rfl fun aa ω κ hb hu hc hK => ?_)
          have h2 : aa.tmps[2]?.getD undef = .pointer (some ⟨w.heap.size, 0, none⟩) := (hu 2 rfl).trans e2
          have hk := Lib.hid (fun w1 (h : Below ω.heap.size ω w1) => hK (.pointer (some ⟨w.heap.size, 4, none⟩)) w1 rfl h)
          clear hK hu hc
          go_simp
          exact hk.out _ (Below.refl _ _)
        · refine fstep_val rfl rfl (calm_step rfl fun aa ω κ hb hu hc hK => ?_)
          have h16 : aa.tmps[16]?.getD undef = .pointer (some ⟨w.heap.size, 4, none⟩) := hc 5 16 rfl rfl
          have h15 : aa.tmps[15]?.getD undef = .int .i64 (k : Nat) := hc 4 15 rfl rfl
          have hk := Lib.hid (fun w1 (h : Below ω.heap.size ω w1) => hK (.pointer (some ⟨w.heap.size, 4 + k, none⟩)) w1 rfl h)
          clear hK hu hc
          go_simp
          exact hk.out _ (Below.refl _ _)
        · refine fstep_val rfl rfl (calm_step rfl fun aa ω κ hb hu hc hK => ?_)
          have h17 : aa.tmps[17]?.getD undef = .pointer (some ⟨w.heap.size, 4 + k, none⟩) := hc 6 17 rfl rfl
          have hk := Lib.hid (fun w1 (h : Below ω.heap.size ω w1) => hK (.int .u8 (f 1 : Nat)) w1 rfl h)
          clear hK hu hc
          have hcl := (hT.out.step hb).cell (i := 4 + k) (by omega)
          rw [hf1.out] at hcl
          go_simp
          exact hk.out _ (Below.refl _ _)
        · refine fstep_val rfl rfl (calm_step rfl fun aa ω κ hb hu hc hK => ?_)
          have h5 : aa.tmps[5]?.getD undef = .int .i64 (k : Nat) := (hu 5 rfl).trans e5
          have hk := Lib.hid (fun w1 (h : Below ω.heap.size ω w1) => hK (.int .i64 (k : Nat)) w1 rfl h)
          clear hK hu hc
          go_simp
          exact hk.out _ (Below.refl _ _)
        · refine fstep_val rfl rfl (calm_step rfl fun aa ω κ hb hu hc hK => ?_)
          have h2 : aa.tmps[2]?.getD undef = .pointer (some ⟨w.heap.size, 0, none⟩) := (hu 2 rfl).trans e2
          have hk := Lib.hid (fun w1 (h : Below ω.heap.size ω w1) => hK (.pointer (some ⟨w.heap.size, 8, none⟩)) w1 rfl h)
          clear hK hu hc
          go_simp
          exact hk.out _ (Below.refl _ _)
        · refine fstep_val rfl rfl (calm_step rfl fun aa ω κ hb hu hc hK => ?_)
          have h20 : aa.tmps[20]?.getD undef = .pointer (some ⟨w.heap.size, 8, none⟩) := hc 9 20 rfl rfl
          have h19 : aa.tmps[19]?.getD undef = .int .i64 (k : Nat) := hc 8 19 rfl rfl
          have hk := Lib.hid (fun w1 (h : Below ω.heap.size ω w1) => hK (.pointer (some ⟨w.heap.size, 8 + k, none⟩)) w1 rfl h)
          clear hK hu hc
          go_simp
          exact hk.out _ (Below.refl _ _)
        · refine fstep_val rfl rfl (calm_step rfl fun aa ω κ hb hu hc hK => ?_)
          have h21 : aa.tmps[21]?.getD undef = .pointer (some ⟨w.heap.size, 8 + k, none⟩) := hc 10 21 rfl rfl
          have hk := Lib.hid (fun w1 (h : Below ω.heap.size ω w1) => hK (.int .u8 (f 2 : Nat)) w1 rfl h)
          clear hK hu hc
          have hcl := (hT.out.step hb).cell (i := 8 + k) (by omega)
          rw [hf2.out] at hcl
          go_simp
          exact hk.out _ (Below.refl _ _)
        · refine fstep_val rfl rfl (calm_step rfl fun aa ω κ hb hu hc hK => ?_)
          have h5 : aa.tmps[5]?.getD undef = .int .i64 (k : Nat) := (hu 5 rfl).trans e5
          have hk := Lib.hid (fun w1 (h : Below ω.heap.size ω w1) => hK (.int .i64 (k : Nat)) w1 rfl h)
          clear hK hu hc
          go_simp
          exact hk.out _ (Below.refl _ _)
        · refine fstep_val rfl rfl (calm_step rfl fun aa ω κ hb hu hc hK => ?_)
          have h2 : aa.tmps[2]?.getD undef = .pointer (some ⟨w.heap.size, 0, none⟩) := (hu 2 rfl).trans e2
          have hk := Lib.hid (fun w1 (h : Below ω.heap.size ω w1) => hK (.pointer (some ⟨w.heap.size, 12, none⟩)) w1 rfl h)
          clear hK hu hc
          go_simp
          exact hk.out _ (Below.refl _ _)
        · refine fstep_val rfl rfl (calm_step rfl fun aa ω κ hb hu hc hK => ?_)
          have h24 : aa.tmps[24]?.getD undef = .pointer (some ⟨w.heap.size, 12, none⟩) := hc 13 24 rfl rfl
          have h23 : aa.tmps[23]?.getD undef = .int .i64 (k : Nat) := hc 12 23 rfl rfl
          have hk := Lib.hid (fun w1 (h : Below ω.heap.size ω w1) => hK (.pointer (some ⟨w.heap.size, 12 + k, none⟩)) w1 rfl h)
          clear hK hu hc
          go_simp
          exact hk.out _ (Below.refl _ _)
        · refine fstep_val rfl rfl (calm_step rfl fun aa ω κ hb hu hc hK => ?_)
          have h25 : aa.tmps[25]?.getD undef = .pointer (some ⟨w.heap.size, 12 + k, none⟩) := hc 14 25 rfl rfl
          have hk := Lib.hid (fun w1 (h : Below ω.heap.size ω w1) => hK (.int .u8 (f 3 : Nat)) w1 rfl h)
          clear hK hu hc
          have hcl := (hT.out.step hb).cell (i := 12 + k) (by omega)
          rw [hf3.out] at hcl
          go_simp
          exact hk.out _ (Below.refl _ _)
        · refine fstep_val rfl rfl (calm_step rfl fun aa ω κ hb hu hc hK => ?_)
          have h14 : aa.tmps[14]?.getD undef = .int .u8 (f 0 : Nat) := hc 3 14 rfl rfl
          have h18 : aa.tmps[18]?.getD undef = .int .u8 (f 1 : Nat) := hc 7 18 rfl rfl
          have h22 : aa.tmps[22]?.getD undef = .int .u8 (f 2 : Nat) := hc 11 22 rfl rfl
          have h26 : aa.tmps[26]?.getD undef = .int .u8 (f 3 : Nat) := hc 15 26 rfl rfl
          have hk := Lib.hid (fun w1 (h : Below ω.heap.size ω w1) => hK (.agg (arrK .u8 4 f)) w1 rfl h)
          clear hK hu hc
          rw [<- arrK4 .u8 f] at hk
          go_simp
          exact hk.out _ (Below.refl _ _)
        · refine fstep_val rfl rfl (calm_step rfl fun aa ω κ hb hu hc hK => ?_)
          have h3 : aa.tmps[3]?.getD undef = .pointer (some ⟨w.heap.size + 1, 0, none⟩) := (hu 3 rfl).trans e3
          have hk := Lib.hid (fun w1 (h : Below ω.heap.size ω w1) => hK (.agg (arrK .u8 4 B)) w1 rfl h)
          clear hK hu hc
          have hAt := (hB.out).step hb
          have hr1 := hAt.row
          have hr2 := hAt.eq
          clear hAt
          go_simp
          exact hk.out _ (Below.refl _ _)
        · refine fstep_val rfl rfl (calm_step rfl fun aa ω κ hb hu hc hK => ?_)
          have h27 : aa.tmps[27]?.getD undef = .agg (arrK .u8 4 f) := hc 16 27 rfl rfl
          have h28 : aa.tmps[28]?.getD undef = .agg (arrK .u8 4 B) := hc 17 28 rfl rfl
          have hk := Lib.hid (fun w1 (h : Below ω.heap.size ω w1) => hK (.agg (arrK .u8 4 (col f B))) w1 rfl h)
          clear hK hu hc
          go_simp
          go_at_call 104
          refine (hCol.out _).mono ?_
          rintro e w1 ⟨rfl, hb1⟩
          exact hk.out _ hb1
        · refine fstep_al (n := 4) rfl rfl fun aa ω κ hK => ?_
          have hk := Lib.hid hK
          clear hK
          go_simp
          exact hk.out _ _ cells4b
        · refine fstep_st (j := 19) (n := 4) (d := 6) rfl rfl rfl rfl rfl hcol.1 rfl rfl fun aa ω κ g hb hu hc hp hr hK => ?_
          have h29 : aa.tmps[29]?.getD undef = .agg (arrK .u8 4 (col f B)) := hc 18 29 rfl rfl
          have hk := Lib.hid hK
          clear hK hu hc
          have hcc := hcol
          go_simp
          exact hk.out undef
        · intro a1 w1 G I
          have hK1 := hHK1.out
          go_wp2_with fail
          refine Met.intro (hHJ1.out _ _ ?_)
          have ha0 := hha0.out
          subst ha0
          (repeat apply Exists.intro)
          refine ⟨?_, act_patch (n := 43) [false, false, false, false, false, false, true, false, false, false, false, true, true, true, true, true, true, true, true, true, true, true, true, true, true, true, true, true, true, true, false, false, false, false, false, false, false, false, false, false, false, false, false] rfl (by kernel_rfl) I.un I.sz I.df⟩
          exact ⟨G 19, I.al 19 6 4 rfl rfl rfl, by have h1 := (I.blk 19 4 rfl rfl).1; have h2 := hO.out.lt; omega, ⟨(I.blk 19 4 rfl rfl).2, (I.row 20 19 rfl rfl).2.2⟩, hT.out.step I.bel, hB.out.step I.bel, row_below hO.out I.bel hO.out.lt, below_step I.bel hHL.out (Nat.le_refl _)⟩
      case rest =>
        obtain ⟨m, rfl, hm, M, T, hBa, O, hL⟩ := hcut
        clear hT hB hO hHL hf0 hf1 hf2 hf3 hcol
        go_wp2_with fail
        go_loopw [30] (fun x wr => ∃ r : Nat, x = .int .i64 r ∧ r ≤ 4 ∧ At wr m .u8 4 (col f B) ∧ At wr w.heap.size .u8 16 (mxS B g k r) ∧ At wr (w.heap.size + 1) .u8 4 B ∧ Row wr (w.heap.size + 1 + 1) 16 ∧ Below w.heap.size w wr) (fun x _ => 4 - (intOf x).toNat)
        case atStart => exact ⟨0, rfl, by omega, M, T, hBa, O, hL⟩
        case round =>
          clear M T hBa O hL
          obtain ⟨r, rfl, hr, M, T, hBa, O, hL⟩ := hrel
          by_cases hr4 : r = 4
          · subst hr4
            go_wp2_with fail
            go_round
            case rel => exact ⟨k + 1, by go_num, by omega, T.congr (mxS_next _ _ _), hBa, O, hL⟩
            case measure => simp [intOf]; omega
          · have hdr : decide ((r : Int) < 4) = true := by simp; omega
            have c1 := M.cell (i := r) (by omega)
            have c2 := T.cell (i := r * 4 + k) (by omega)
            have c3 := T.row.frozen (r * 4 + k)
            have b1 : (0 : Int) ≤ (r : Int) := by omega
            have b2 : (r : Int) < 4 := by omega
            have hst := Lib.hid (show upd (mxS B g k r) (r * 4 + k) (col f B r) = mxS B g k (r + 1) by rw [hHf.out]; exact mxS_step B g (by omega))
            have hM := Lib.hid M
            have hT := Lib.hid T
            have hBb := Lib.hid hBa
            clear M T hBa
            go_wp2_with fail
            go_region
            all_goals
              go_wp2_with fail
              go_round
              case rel => exact ⟨r + 1, by go_num, by omega, (hM.out.farC (by simp; omega)).drew, by rw [← hst.out]; exact (hT.out.set _ _).drew, (hBb.out.farC (by simp)).drew, row_setCell.2 O, (hL.setCell (by simp) _).drew⟩
              case measure => simp [intOf]; omega
end Go.Proofs.Ytjihklaocgmlpaa
