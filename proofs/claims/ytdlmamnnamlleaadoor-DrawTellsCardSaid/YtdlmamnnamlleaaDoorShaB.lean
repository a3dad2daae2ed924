/- Contract of the document's block: a block onto words. -/
import Derived.Test.YtdlmamnnamlleaaDoorShaR
import Derived.Test.YtdlmamnnamlleaaDoorApp
import Derived.Deep.RegionHeld3
import Derived.Deep.QuietTactic
import Derived.BigQuiet
import Derived.StillTailTactics
namespace Go.Proofs.YtdlmamnnamlleaaDoor
open Go.ChangeShapes Go.WideShapes Go.ChangeAt Go.RowKit
set_option maxHeartbeats 2000000
set_option maxRecDepth 100000
theorem u32_wrapn (x : W32) : IntKind.u32.wrap (w2n x : Int) = (w2n x : Int) := by have := w2n_lt x; rw [IntKind.wrap_u32]; omega
theorem sum4 (x y s t : W32) : x + y + s + t = x + s + y + t := by rw [BitVec.add_assoc x y, BitVec.add_comm y, ← BitVec.add_assoc]
attribute [local go_sem] u32_wrapn u32_xor' u32_and' u32_or' u32_add' u32_addw' u32_shr3 u32_shr10 u32_shr' u32_shl' u32_shlw' u32_not2 u32_not'

theorem cell_al {w : World} {o : Obj} {g i : Nat} {v : Value} (h : w.cell? ⟨g, i, none⟩ = some v) (hg : g < w.heap.size) : (w.alloc o).cell? ⟨g, i, none⟩ = some v := ((below_alloc w o).cell (p := ⟨g, i, none⟩) hg).trans h
theorem ref_turn2 (x : W32) (w : World) : Calls Tryd.prog 105 #[u32v x, .int .u64 2] w fun e w' => e = .returned (u32v (rotr x 2)) ∧ w = w' := ref_turn x 2 w (by omega) (by omega)
theorem ref_turn6 (x : W32) (w : World) : Calls Tryd.prog 105 #[u32v x, .int .u64 6] w fun e w' => e = .returned (u32v (rotr x 6)) ∧ w = w' := ref_turn x 6 w (by omega) (by omega)
theorem ref_turn7 (x : W32) (w : World) : Calls Tryd.prog 105 #[u32v x, .int .u64 7] w fun e w' => e = .returned (u32v (rotr x 7)) ∧ w = w' := ref_turn x 7 w (by omega) (by omega)
theorem ref_turn11 (x : W32) (w : World) : Calls Tryd.prog 105 #[u32v x, .int .u64 11] w fun e w' => e = .returned (u32v (rotr x 11)) ∧ w = w' := ref_turn x 11 w (by omega) (by omega)
theorem ref_turn13 (x : W32) (w : World) : Calls Tryd.prog 105 #[u32v x, .int .u64 13] w fun e w' => e = .returned (u32v (rotr x 13)) ∧ w = w' := ref_turn x 13 w (by omega) (by omega)
theorem ref_turn17 (x : W32) (w : World) : Calls Tryd.prog 105 #[u32v x, .int .u64 17] w fun e w' => e = .returned (u32v (rotr x 17)) ∧ w = w' := ref_turn x 17 w (by omega) (by omega)
theorem ref_turn18 (x : W32) (w : World) : Calls Tryd.prog 105 #[u32v x, .int .u64 18] w fun e w' => e = .returned (u32v (rotr x 18)) ∧ w = w' := ref_turn x 18 w (by omega) (by omega)
theorem ref_turn19 (x : W32) (w : World) : Calls Tryd.prog 105 #[u32v x, .int .u64 19] w fun e w' => e = .returned (u32v (rotr x 19)) ∧ w = w' := ref_turn x 19 w (by omega) (by omega)
theorem ref_turn22 (x : W32) (w : World) : Calls Tryd.prog 105 #[u32v x, .int .u64 22] w fun e w' => e = .returned (u32v (rotr x 22)) ∧ w = w' := ref_turn x 22 w (by omega) (by omega)
theorem ref_turn25 (x : W32) (w : World) : Calls Tryd.prog 105 #[u32v x, .int .u64 25] w fun e w' => e = .returned (u32v (rotr x 25)) ∧ w = w' := ref_turn x 25 w (by omega) (by omega)
theorem SW4 : SlT Tryd.prog 107 95 1 4 := SlT.mk' Tryd.underlying107 (by kernel_rfl) (by omega)
/-- The first k of four bytes. -/
def pk (f : Nat → Nat) (p : Nat) : Nat → Nat
  | 0 => 0
  | k + 1 => pk f p k * 256 + f (p + k)
theorem pk_lt {f : Nat → Nat} (hf : ∀ i, f i < 256) (p : Nat) : ∀ k, pk f p k < 256 ^ k
  | 0 => by simp [pk]
  | k + 1 => by
      have h1 := pk_lt hf p k
      have h2 := hf (p + k)
      rw [pk, Nat.pow_succ]; omega
theorem pk_4 {f : Nat → Nat} (p : Nat) : BitVec.ofNat 32 (pk f p 4) = be32 f p := by
  unfold be32
  simp only [pk, Nat.zero_mul, Nat.zero_add, Nat.add_zero]
  congr 1
  omega
theorem str_ix {P : Program} {t : TypeId} (ht : P.underlying t = some .string) {l : List UInt8} {i : Nat} (hi : i < l.length) (k : IntKind) (W : World) : (Instr.index t (strV l) (.int k (i : Int))).run P W = .ok (.int .u8 (bytesF l i : Int)) W := by
  have h : (0 : Int) ≤ (i : Int) ∧ (i : Int) < ((⟨l.toArray⟩ : ByteArray).size : Int) := ⟨by omega, by simpa [ByteArray.size] using hi⟩
  rw [run_index_string W t _ k _ ht, dif_pos h, bytesF_at hi]
  rfl
theorem ref_block (K h : Nat → W32) (g c : Nat) (l : List UInt8) (w : World) (hl : l.length = 64) (hh : HsAt w g h)
    (hK : ∀ i < 64, w.cell? ⟨0, i, none⟩ = some (u32v (K i))) (hKl : 0 < w.heap.size) :
    Calls Tryd.prog 78 #[.slice (some ⟨g, 0, none⟩) 8 c, strV l] w (RetH (blk K h l) w) := by
  have hmk : ∀ W : World, (Instr.makeSlice 107 (.int .i64 0) (.int .i64 64)).run Tryd.prog W = .ok (.slice (some ⟨W.heap.size, 0, none⟩) 0 64) (W.alloc (.cells (arrK .u32 64 fun _ => 0) 95)) := fun _ => by kernel_rfl
  have hR0 : Row (w.alloc (.cells (arrK .u32 64 fun _ => 0) 95)) w.heap.size 64 := (row_new rfl).2 (arrK_size _ _ _)
  have hr0 : rowAt (w.alloc (.cells (arrK .u32 64 fun _ => 0) 95)) w.heap.size = arrK .u32 64 (wK (fun i => be32 (bytesF l) (4 * i)) 0) := (rowAt_new rfl).trans (arrK_congr fun i _ => by simp [wK])
  have hL0 : Below w.heap.size w (w.alloc (.cells (arrK .u32 64 fun _ => 0) 95)) := by go_grown
  have hfl := bytesF_lt l
  have hHf := Lib.hid hfl
  have hHK := Lib.hid hK
  have hHh := Lib.hid hh
  clear hfl hK hh
  go_enter Tryd.func78, Tryd.ntmps78
  go_wp2
  clear hmk
  generalize (w.alloc (.cells (arrK .u32 64 fun _ => 0) 95)) = W0 at *
  generalize hbe : (fun i => be32 (bytesF l) (4 * i)) = b at *
  have hHb := Lib.hid hbe
  clear hbe
  go_loopw [5, 6] (fun v i wr => ∃ j : Nat, i = .int .i64 (4 * (j : Int)) ∧ j ≤ 16 ∧ v = .slice (some ⟨w.heap.size, 0, none⟩) j 64 ∧ Row wr w.heap.size 64 ∧ rowAt wr w.heap.size = arrK .u32 64 (wK b j) ∧ Below w.heap.size w wr) (fun _ i _ => 64 - (intOf i).toNat)
  case atStart => exact ⟨0, rfl, by omega, rfl, hR0, hr0, hL0⟩
  case round =>
    clear hR0 hr0 hL0
    obtain ⟨j, rfl, hj, rfl, hR, hr, hL⟩ := hrel
    by_cases h16 : j = 16
    · subst h16
      go_wp2
      rw [show (4 * ((16 : Nat) : Int)) = (64 : Int) from rfl]
      go_loopw [5] (fun v wr => ∃ n : Nat, 16 ≤ n ∧ n ≤ 64 ∧ v = .slice (some ⟨w.heap.size, 0, none⟩) n 64 ∧ Row wr w.heap.size 64 ∧ rowAt wr w.heap.size = arrK .u32 64 (wK b n) ∧ Below w.heap.size w wr) (fun v _ => 64 - lenV v)
      case atStart => exact ⟨16, by omega, by omega, rfl, hR, hr, hL⟩
      case round =>
        clear hR hr hL
        obtain ⟨n, hn1, hn2, rfl, hR, hr, hL⟩ := hrel
        by_cases h64 : n = 64
        · subst h64
          have h64e : arrK .u32 64 (wK b 64) = arrK .u32 64 (fun i => w2n (sch b i)) := arrK_congr fun i hi => wK_at b hi
          have hcw : ∀ i, i < 64 → wr.cell? ⟨w.heap.size, i, none⟩ = some (u32v (sch b i)) := fun i hi => by rw [hR.cell, hr, arrK_at hi, wK_at b hi]
          have hH := hHh.out.below hL hHh.out.lt
          have c0 := hH.at_ 0 (by omega)
          have c1 := hH.at_ 1 (by omega)
          have c2 := hH.at_ 2 (by omega)
          have c3 := hH.at_ 3 (by omega)
          have c4 := hH.at_ 4 (by omega)
          have c5 := hH.at_ 5 (by omega)
          have c6 := hH.at_ 6 (by omega)
          have c7 := hH.at_ 7 (by omega)
          have hKw : ∀ i, i < 64 → wr.cell? ⟨0, i, none⟩ = some (u32v (K i)) := fun i hi => ((bcell hL).1 _ _ hKl).trans (hHK.out i hi)
          have hHcw := Lib.hid hcw
          have hHKw := Lib.hid hKw
          have hHH := Lib.hid hH
          clear hcw hKw hH hR hr h64e
          go_wp2
          go_quiet (fail)
          go_wp2
          have hL0 := below_drewN hL nq
          have hcw0 : Hid (∀ i, i < 64 → (wr.drewN nq).cell? ⟨w.heap.size, i, none⟩ = some (u32v (sch b i))) := Lib.hid hHcw.out
          have hKw0 : Hid (∀ i, i < 64 → (wr.drewN nq).cell? ⟨0, i, none⟩ = some (u32v (K i))) := Lib.hid hHKw.out
          have hH0 : Hid (HsAt (wr.drewN nq) g h) := Lib.hid ⟨hHH.out.lt, hHH.out.at_⟩
          clear c0 c1 c2 c3 c4 c5 c6 c7 hHcw hHKw hHH hL
          generalize wr.drewN nq = W1 at *
          go_loopw [12, 13, 14, 15, 16, 17, 18, 19, 119] (fun x0 x1 x2 x3 x4 x5 x6 x7 i wr => ∃ t : Nat, i = .int .i64 t ∧ t ≤ 64 ∧ x0 = u32v (rounds K (sch b) h t 0) ∧ x1 = u32v (rounds K (sch b) h t 1) ∧ x2 = u32v (rounds K (sch b) h t 2) ∧ x3 = u32v (rounds K (sch b) h t 3) ∧ x4 = u32v (rounds K (sch b) h t 4) ∧ x5 = u32v (rounds K (sch b) h t 5) ∧ x6 = u32v (rounds K (sch b) h t 6) ∧ x7 = u32v (rounds K (sch b) h t 7) ∧ Hid (∀ i, i < 64 → wr.cell? ⟨w.heap.size, i, none⟩ = some (u32v (sch b i))) ∧ Hid (∀ i, i < 64 → wr.cell? ⟨0, i, none⟩ = some (u32v (K i))) ∧ Hid (HsAt wr g h) ∧ Below w.heap.size w wr) (fun _ _ _ _ _ _ _ _ i _ => 64 - (intOf i).toNat)
          case atStart => exact ⟨0, rfl, by omega, rfl, rfl, rfl, rfl, rfl, rfl, rfl, rfl, hcw0, hKw0, hH0, hL0⟩
          case round =>
            clear hcw0 hKw0 hH0 hL0
            obtain ⟨t, rfl, ht, rfl, rfl, rfl, rfl, rfl, rfl, rfl, rfl, hcw, hKw, hH, hL⟩ := hrel
            by_cases h64 : t = 64
            · subst h64
              have hH := hH.out
              have c0 := hH.at_ 0 (by omega)
              have c1 := hH.at_ 1 (by omega)
              have c2 := hH.at_ 2 (by omega)
              have c3 := hH.at_ 3 (by omega)
              have c4 := hH.at_ 4 (by omega)
              have c5 := hH.at_ 5 (by omega)
              have c6 := hH.at_ 6 (by omega)
              have c7 := hH.at_ 7 (by omega)
              have hfin := Lib.hid (show blk K h l = fun i => h i + rounds K (sch b) h 64 i by unfold blk prs; rw [← hHb.out])
              have hHH := Lib.hid hH
              clear hH
              generalize rounds K (sch b) h 64 = v at *
              go_wp2
              go_still_tail 40, (by kernel_rfl)
              change wpList _ _ _ _ _ wr.drew
              have hLd := hL.drew
              generalize wr.drew = W2 at *
              go_wp2
              go_ret
              refine ⟨W2.heap.size, 8, rfl, by omega, by unfold maxLen; omega, ?_, hLd.alloc hLd.size _⟩
              rw [hfin.out]
              exact Eq.mpr (congrArg (fun cs => HsAt (W2.alloc (.cells cs 95)) W2.heap.size fun i => h i + v i) (arrK8' .u32 fun i => w2n (h i + v i))) (hsAt_new _ rfl)
            · have ht64 : t < 64 := by omega
              have hrs := Lib.hid (show rounds K (sch b) h (t + 1) = rnd (K t) (sch b t) (rounds K (sch b) h t) from rfl)
              generalize rounds K (sch b) h t = v at *
              have ck := hKw.out t ht64
              have cw := hcw.out t ht64
              have mt : (t : Int) < 64 := by omega
              have zt : (0 : Int) ≤ (t : Int) := by omega
              go_wp2
              go_region_held3 (fun w' => w'.cell? ⟨0, t, none⟩ = some (u32v (K t))) (exact ck)
                (first
                  | (go_at_call 105; (first | with_reducible refine (ref_turn6 _ _).mono ?_ | with_reducible refine (ref_turn11 _ _).mono ?_ | with_reducible refine (ref_turn25 _ _).mono ?_); rintro e w' ⟨rfl, rfl⟩)
                  | (go_at_call 106; with_reducible refine (ref_choose _ _ _ _).mono ?_; rintro e w' ⟨rfl, rfl⟩))
              go_wp2_with (first | (go_at_call 105; (first | with_reducible refine (ref_turn2 _ _).mono ?_ | with_reducible refine (ref_turn13 _ _).mono ?_ | with_reducible refine (ref_turn22 _ _).mono ?_); rintro e w' ⟨rfl, rfl⟩) | (go_at_call 107; refine (ref_most _ _ _ _).mono ?_; rintro e w' ⟨rfl, rfl⟩))
              go_round
              case rel => exact ⟨t + 1, by go_num, by omega, by rw [hrs.out]; rfl, by rw [hrs.out]; rfl, by rw [hrs.out]; rfl, by rw [hrs.out]; rfl, by rw [hrs.out]; rfl, by rw [hrs.out]; rfl, by rw [hrs.out]; rfl, by rw [hrs.out]; rfl, Lib.hid hcw.out, Lib.hid hKw.out, Lib.hid ⟨hH.out.lt, hH.out.at_⟩, hL.drew⟩
              case measure => simp [intOf]; omega
        · have hn64 : n < 64 := by omega
          have hcell : ∀ i, i < n → wr.cell? ⟨w.heap.size, i, none⟩ = some (u32v (sch b i)) := fun i hi => by rw [hR.cell, hr, arrK_at (by omega), wK_at b hi]
          obtain ⟨a1, ha1⟩ : ∃ a1, a1 = n - 16 := ⟨_, rfl⟩
          obtain ⟨a2, ha2⟩ : ∃ a2, a2 = n - 15 := ⟨_, rfl⟩
          obtain ⟨a3, ha3⟩ : ∃ a3, a3 = n - 7 := ⟨_, rfl⟩
          obtain ⟨a4, ha4⟩ : ∃ a4, a4 = n - 2 := ⟨_, rfl⟩
          have hsb := sch_hi b (t := n) (by omega)
          rw [← ha1, ← ha2, ← ha3, ← ha4] at hsb
          have hi1 : (n : Int) - 16 = a1 := by omega
          have hi2 : (n : Int) - 15 = a2 := by omega
          have hi3 : (n : Int) - 7 = a3 := by omega
          have hi4 : (n : Int) - 2 = a4 := by omega
          have l1 : a1 < n := by omega
          have l2 : a2 < n := by omega
          have l3 : a3 < n := by omega
          have l4 : a4 < n := by omega
          have c1 := hcell a1 l1
          have c2 := hcell a2 l2
          have c3 := hcell a3 l3
          have c4 := hcell a4 l4
          have hw1 : IntKind.i64.wrap (a1 : Int) = a1 := by rw [IntKind.wrap_i64]; omega
          have hw2 : IntKind.i64.wrap (a2 : Int) = a2 := by rw [IntKind.wrap_i64]; omega
          have hw3 : IntKind.i64.wrap (a3 : Int) = a3 := by rw [IntKind.wrap_i64]; omega
          have hw4 : IntKind.i64.wrap (a4 : Int) = a4 := by rw [IntKind.wrap_i64]; omega
          have m1 : (a1 : Int) < n := by omega
          have m2 : (a2 : Int) < n := by omega
          have m3 : (a3 : Int) < n := by omega
          have m4 : (a4 : Int) < n := by omega
          have z1 : (0 : Int) ≤ (a1 : Int) := by omega
          have z2 : (0 : Int) ≤ (a2 : Int) := by omega
          have z3 : (0 : Int) ≤ (a3 : Int) := by omega
          have z4 : (0 : Int) ≤ (a4 : Int) := by omega
          have hHsb := Lib.hid hsb
          have hHr := Lib.hid hr
          have hst := Lib.hid (arrK_congr (k := .u32) (n := 64) fun p _ => wK_step b n p)
          clear hsb hcell ha1 ha2 ha3 ha4 hr
          go_wp2
          go_quiet (fail)
          go_wp2
          have hne1 : a1 ≠ n := by omega
          have hglt := hR.lt
          have hR' : ∀ o, Row (wr.alloc o) w.heap.size 64 := fun o => (row_old hR.lt).2 hR
          have hne3 : a3 ≠ n := by omega
          go_region_held3 (fun w' => w'.cell? ⟨w.heap.size, a1, none⟩ = some (u32v (sch b a1)) ∧ w'.cell? ⟨w.heap.size, a3, none⟩ = some (u32v (sch b a3)))
            (first | exact ⟨c1, c3⟩ | exact ⟨cell_ne (cell_al c1 hglt) hne1, cell_ne (cell_al c3 hglt) hne3⟩ | go_keep)
            (first
              | (go_at_call 105; (first | with_reducible refine (ref_turn7 _ _).mono ?_ | with_reducible refine (ref_turn18 _ _).mono ?_ | with_reducible refine (ref_turn17 _ _).mono ?_ | with_reducible refine (ref_turn19 _ _).mono ?_); rintro e w' ⟨rfl, rfl⟩)
              | (refine step_app_row rfl (.tmp 61) (.tmp 91) 107 rfl SW4 rfl rfl (hR' _) hn64 (cell_new1 rfl) rfl ?_))
          go_wp2
          go_round
          case rel =>
            refine ⟨n + 1, by omega, by omega, rfl, row_setCell.2 (hR' _), ?_, ?_⟩
            · rw [rowAt_setCell_same, rowAt_old (w := wr.drewN _) hglt, rowAt_drewN, hHr.out, sum4, arrK_set, ← hst.out, hHsb.out]
              rfl
            · exact ((below_drewN hL _).alloc hL.size _).setCell (Nat.le_refl _) _
          case measure => simp [lenV]; omega
    · have hj16 : j < 16 := by omega
      go_wp2
      go_loop [7, 29] (fun x i => ∃ k : Nat, i = .int .i64 k ∧ k ≤ 4 ∧ x = .int .u32 (pk (bytesF l) (4 * j) k : Int)) (fun _ i => 4 - (intOf i).toNat)
      case atStart => exact ⟨0, rfl, by omega, rfl⟩
      case round =>
        obtain ⟨k, rfl, hk, rfl⟩ := hrel
        have hpl := pk_lt hHf.out (4 * j) k
        by_cases h4 : k = 4
        · subst h4
          have e : (pk (bytesF l) (4 * j) 4 : Int) = (w2n (sch b j) : Int) := by
            rw [sch_lo b hj16, ← hHb.out]
            show _ = (w2n (be32 (bytesF l) (4 * j)) : Int)
            rw [← pk_4, w2n_of (by omega)]
          rw [e]
          clear e hpl
          have hst := Lib.hid (arrK_congr (k := .u32) (n := 64) fun p _ => wK_step b j p)
          have hR' : ∀ o, Row (wr.alloc o) w.heap.size 64 := fun o => (row_old hR.lt).2 hR
          go_wp2_with (at_builtin; refine wpList_app_row (o := ⟨some 45, _, _, _, _, _⟩) rfl (.tmp 42) (.tmp 44) 107 rfl SW4 rfl rfl (hR' _) (by omega) (cell_new1 rfl) rfl ?_)
          go_roundw
          case rel =>
            refine ⟨j + 1, by go_num, by omega, rfl, row_setCell.2 (hR' _), ?_, ((hL.alloc hL.size _).setCell (Nat.le_refl _) _)⟩
            rw [rowAt_setCell_same, rowAt_old hR.lt, hr, arrK_set, hst.out]
          case measure => simp [intOf]; omega
        · have hpl3 : pk (bytesF l) (4 * j) k < 16777216 := Nat.lt_of_lt_of_le hpl (Nat.pow_le_pow_right (by omega) (show k ≤ 3 by omega))
          have hfb := hHf.out (4 * j + k)
          have hix : ∀ W : World, (Instr.index 9 (strV l) (.int .i64 (4 * (j : Int) + (k : Int)))).run Tryd.prog W = .ok (.int .u8 (bytesF l (4 * j + k) : Int)) W := fun W => by
            have := str_ix (P := Tryd.prog) Tryd.underlying9 (l := l) (i := 4 * j + k) (by omega) .i64 W
            push_cast at this
            exact this
          clear hpl
          have hst := Lib.hid (show pk (bytesF l) (4 * j) (k + 1) = pk (bytesF l) (4 * j) k * 256 + bytesF l (4 * j + k) from rfl)
          generalize bytesF l (4 * j + k) = y at *
          generalize pk (bytesF l) (4 * j) k = x at *
          go_wp2
          go_round
          case rel => exact ⟨k + 1, by go_num, by omega, by rw [hst.out]; go_num⟩
          case measure => simp [intOf]; omega
end Go.Proofs.YtdlmamnnamlleaaDoor
