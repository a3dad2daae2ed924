/- AesTells: the law's function returns true. -/
import Derived.Test.YtjihklaocgmlpaaAes3
import Derived.Test.YtjihklaocgmlpaaAes4
import Derived.Test.YtjihklaocgmlpaaAes6
import Derived.Test.YtjihklaocgmlpaaCip3
import Derived.Test.YtjihklaocgmlpaaCip4
import Derived.Test.YtjihklaocgmlpaaCip5
import Derived.Test.YtjihklaocgmlpaaCalm
namespace Go.Proofs.Ytjihklaocgmlpaa
open Go.ChangeShapes Go.WideShapes Go.ChangeAt Go.RowKit
set_option maxHeartbeats 4000000
set_option maxRecDepth 100000
attribute [local go_sem ↓] load_a16 store_a16 execl_a16 execs_a16 load_akey store_akey execl_akey execs_akey load_e4 execl_e4
attribute [local go_sem] isHead_mk blkOf_mk isAgg_mk cellsV_mk row_drew rowAt_drew row_new_cells row_old rowAt_new rowAt_old setRow_new

/-- N words stand at block g. -/
structure WdAt (w : World) (g N : Nat) (F : Nat → Nat) : Prop where
  byte : ∀ p < 4 * N, w.cell? ⟨g, p, none⟩ = some (.int .u8 (F p : Nat))
  lt : g < w.heap.size
theorem WdAt.step {w w' : World} {g N : Nat} {F : Nat → Nat} (h : WdAt w g N F) (hb : Below w.heap.size w w') : WdAt w' g N F := ⟨fun p hp => (hb.cell (p := ⟨g, p, none⟩) h.lt).trans (h.byte p hp), Nat.lt_of_lt_of_le h.lt hb.size⟩
theorem WdAt.ld {w : World} {g N : Nat} {F : Nat → Nat} (h : WdAt w g N F) {i : Nat} (hi : i < N) : LdOk w 4 (.pointer (some ⟨g, i * 4, none⟩)) ∧ ldC w 4 (.pointer (some ⟨g, i * 4, none⟩)) = arrK .u8 4 fun j => F (i * 4 + j) :=
  ld4 fun j hj => h.byte _ (by omega)
theorem CipAt.wd {w : World} {C g cap N : Nat} {F : Nat → Nat} (h : CipAt w C g cap N F) : WdAt w g N F := ⟨h.byte, h.ltg⟩
theorem own_wd {w : World} {B : Nat} {e : TypeId} {N p : Nat} {A : Option Addr} {F : Nat → Nat} (h : w.ownsRow B e 4 (.slice A N p) N (arrK .u8 (4 * N) F).toList) (hN : 0 < N) : ∃ g, A = some ⟨g, 0, none⟩ ∧ N ≤ p ∧ WdAt w g N F := by
  have hc := fun g hg => h.cells (g := g) hg
  have hl := h.lt
  rcases h.2 with ⟨-, h0⟩ | ⟨g, cap, cur, hv, hB, hg, hcap, -⟩
  · omega
  · injection hv with h1 h2 h3
    subst h1 h3
    refine ⟨g, rfl, hcap, ⟨fun q hq => ?_, (hl g rfl).2⟩⟩
    have := hc g rfl q (.int .u8 (F q : Nat)) (by rw [Array.getElem?_toList, arrK_at hq])
    rwa [show (⟨g, 0, none⟩ : Addr).add q = ⟨g, q, none⟩ by unfold Addr.add; split <;> simp_all] at this
def WordsOk (F : Nat → Nat) (N : Nat) (w : World) (e : Ending) (w' : World) : Prop := ∃ g c, e = .returned (.slice (some ⟨g, 0, none⟩) N c) ∧ (N ≤ c ∧ WdAt w' g N F) ∧ Below w.heap.size w w'
theorem aes_Words (F : Nat → Nat) (R N : Nat) (w : World) (hR : R ≤ 14) (hN : N = 4 * (R + 1)) : Calls Try.prog 41 #[.agg (keyV F R)] w (WordsOk F N w) := by
  have K0 : KeyAt (w.alloc (Obj.cells (keyV F R) 42)) w.heap.size F R := KeyAt.new _ rfl
  have hL0 : Below w.heap.size w (w.alloc (Obj.cells (keyV F R) 42)) := by go_grown
  have hc0 := K0.rounds
  have hRk := K0.row
  have hrd : Rd (w.alloc (Obj.cells (keyV F R) 42)) (w.heap.size + 1) (some ⟨w.heap.size, 0, none⟩) (arrK .u8 (4 * N) F).toList := fun j u hu => by
    rw [Array.getElem?_toList] at hu
    have hj : j < 4 * N := by have := (Array.getElem?_eq_some_iff.1 hu).1; simpa [arrK_size] using this
    rw [arrK_at hj] at hu
    refine ⟨_, rfl, by simp, ?_⟩
    rw [show (⟨w.heap.size, 0, none⟩ : Addr).add j = ⟨w.heap.size, j, none⟩ by unfold Addr.add; split <;> simp_all, K0.byte (by omega), ← hu]
  have hone : ∀ u ∈ (arrK .u8 (4 * N) F).toList, u.oneCell' = true := fun u hu => Array.all_eq_true_iff_forall_mem.1 (arrK_cells .u8 (4 * N) F).2 u (Array.mem_toList_iff.1 hu)
  have eN : 4 * ((R : Int) + 1) = (N : Int) := by omega
  have hNb : N ≤ 60 := by omega
  have hi60 : (N : Int) ≤ 60 := by omega
  have hi0 : (0 : Int) ≤ (N : Int) := by omega
  have hHN := Lib.hid hN
  have hHr := Lib.hid hrd
  clear hN hrd
  go_enter Try.func41, Try.ntmps41
  go_wp2_with (at_builtin; refine wpList_app rfl (.const (.slice none 0 0)) (.tmp 8) 72 rfl SW4e rfl (World.ownsRow_nil _ w.heap.size _ _) rfl (m := N) (news := (arrK .u8 (4 * N) F).toList) (by simp [arrK_size]; omega) hHr.out hone (by unfold maxLen; omega) (by omega) (by simp) ?_; intro v1 w1 hown1 hg1 hat1; obtain ⟨A1, p1, rfl⟩ := own_formK hown1)
  obtain ⟨g, rfl, hcg, hwd⟩ := own_wd (by simpa using hown1) (by have := hHN.out; omega)
  have hL1 : Below w.heap.size w w1 := hL0.grown hg1 (by simp) (fun g hg => by cases hg)
  refine bodyPost_ret (results_tmp (t := 2) rfl _ _ _) rfl ⟨g, p1, ?_, ⟨hcg, hwd⟩, hL1⟩
  rfl
/-- Two lists of words that are the same. -/
theorem eq_Words (F : Nat → Nat) (g h N c d : Nat) (w : World) (hG : WdAt w g N F) (hH : WdAt w h N F) (hN : N ≤ 60) (hc : N ≤ c) (hd : N ≤ d) :
    Calls Try.prog 40 #[.slice (some ⟨g, 0, none⟩) N c, .slice (some ⟨h, 0, none⟩) N d] w fun e w' => e = .returned (.bool true) ∧ Below w.heap.size w w' := by
  have hnf : ((N : Int) != N) = false := by simp
  have hneq : ∀ (V : World) (f : Nat → Nat), (binOp .neq 39 (.agg (arrK .u8 4 f)) (.agg (arrK .u8 4 f))).run Try.prog V = .ok (.bool false) V := fun V f => by
    rw [run_neq_arrK Try.underlying39 Try.underlying5 (by kernel_rfl)]; simp
  have hL0 := Below.refl w.heap.size w
  go_enter Try.func40, Try.ntmps40
  go_wp2_with fail
  go_loopw [13] (fun x wr => ∃ i : Nat, x = .int .i64 i ∧ i ≤ N ∧ Below w.heap.size w wr) (fun x _ => N - (intOf x).toNat)
  case atStart => exact ⟨0, rfl, by omega, hL0⟩
  case round =>
    obtain ⟨i, rfl, hi, hL⟩ := hrel
    clear hL0
    by_cases hiN : i = N
    · subst hiN
      go_wp2_with fail
      go_ret
      exact ⟨rfl, hL⟩
    · have hlt : (i : Int) < (N : Int) := by omega
      have hz : (0 : Int) ≤ (i : Int) := by omega
      have G2 : WdAt wr g N F := ⟨fun p hp => (hL.cell (p := ⟨g, p, none⟩) hG.lt).trans (hG.byte p hp), Nat.lt_of_lt_of_le hG.lt hL.size⟩
      have H2 : WdAt wr h N F := ⟨fun p hp => (hL.cell (p := ⟨h, p, none⟩) hH.lt).trans (hH.byte p hp), Nat.lt_of_lt_of_le hH.lt hL.size⟩
      obtain ⟨a1, a2⟩ := (G2.step (Below.refl _ _).drew).ld (i := i) (by omega)
      obtain ⟨b1, b2⟩ := (H2.step (Below.refl _ _).drew).ld (i := i) (by omega)
      clear G2 H2
      go_wp2_with fail
      go_region
      all_goals
        go_wp2_with fail
        go_round
        case rel => exact ⟨i + 1, by go_num, by omega, hL.drew⟩
        case measure => simp [intOf]; omega
/-- The law of AesTells: bad keys. -/
def SRel.wd (N : Nat) (F : Nat → Nat) : SRel := ⟨fun v w => ∃ g c, v = .slice (some ⟨g, 0, none⟩) N c ∧ N ≤ c ∧ WdAt w g N F, fun _ _ _ hb ⟨g, c, h1, h2, h3⟩ => ⟨g, c, h1, h2, h3.step hb⟩⟩
theorem convK {w : World} {B : Nat} {A : Option Addr} {l : List UInt8} {c : Nat} (h : Rd w B A (bytesV l)) : (convert 25 9 (.slice A l.length c)).run Try.prog w = .ok (.string ⟨l.toArray⟩) w :=
  conv_rd Try.underlying25 Try.underlying5 Try.underlying9 h
theorem aesTells_bad (A : Option Addr) (l : List UInt8) (c : Nat) (b : Nat → Nat) (w : World) (hA : Rd w w.heap.size A (bytesV l)) (hL : ¬ (l.length = 16 ∨ l.length = 24 ∨ l.length = 32)) (hc : l.length ≤ c ∧ c < 2 ^ 63) :
    Calls Try.prog 6 #[.slice A l.length c, .agg (arrK .u8 16 b)] w fun e w' => e = .returned (.bool true) ∧ Below w.heap.size w w' := by
  have hL0 : Below w.heap.size w (w.alloc (Obj.cells (arrK .u8 16 b) 38)) := by go_grown
  have hBd := Lib.hid (fun V => aes_ExpandBad A l.length c V hL hc)
  have hRf := Lib.hid (fun V => ref_NewCipherBad l V hL)
  have hcs := arrK_cells .u8 16 b
  clear hc
  go_enter Try.func6, Try.ntmps6
  go_wp2_with fail
  refine (hBd.out _).mono ?_
  rintro e w1 ⟨rfl, hb1⟩
  have hL1 := below_step hb1 hL0 (Nat.le_refl _)
  have hkc := keyV_cells (fun _ => 0) 0
  have hR2 : Row (w1.alloc (Obj.cells Try.zeroCells42 42)) w1.heap.size 241 := (row_new rfl).2 (by rw [zeroKey]; exact hkc.1)
  have hconv := fun V (hV : Below w.heap.size w V) => convK (c := c) (hA.below hV)
  have hLz : Below w.heap.size w (w1.alloc (Obj.cells (keyV (fun _ => 0) 0) 42)) := hL1.alloc hL1.size _
  have hcv := hconv _ hLz
  go_wp2_with fail
  refine (hRf.out _).mono ?_
  rintro e w2 ⟨rfl, hb2⟩
  have hL2 := below_step hb2 hLz (Nat.le_refl _)
  go_wp2_with fail
  go_ret
  exact ⟨rfl, hL2⟩
theorem aesTells_ok (A : Option Addr) (l : List UInt8) (n c : Nat) (b : Nat → Nat) (w : World) (hA : Rd w w.heap.size A (bytesV l)) (hl : l.length = 4 * n) (hn : n = 4 ∨ n = 6 ∨ n = 8) (hc : l.length ≤ c ∧ c < 2 ^ 63) (hb16 : ∀ i < 16, b i < 256) :
    Calls Try.prog 6 #[.slice A l.length c, .agg (arrK .u8 16 b)] w fun e w' => e = .returned (.bool true) ∧ Below w.heap.size w w' := by
  have hL0 : Below w.heap.size w (w.alloc (Obj.cells (arrK .u8 16 b) 38)) := by go_grown
  have T0 : At (w.alloc (Obj.cells (arrK .u8 16 b) 38)) w.heap.size .u8 16 b := At.new _ rfl
  have hEx := Lib.hid (fun V (hV : Below w.heap.size w V) => aes_ExpandOk A l n l.length c V ((hA.below hV).more hV.size) rfl hl hn hc)
  have hNc := Lib.hid (fun V => ref_NewCipherOk l n V hl hn)
  have hcs := arrK_cells .u8 16 b
  have hF := fun p => kw_lt (n := n) (byteAt_lt l) (4 * (n + 7)) p
  obtain ⟨R, hR⟩ : ∃ R, R = n + 6 := ⟨_, rfl⟩
  obtain ⟨N, hN⟩ : ∃ N, N = 4 * (n + 7) := ⟨_, rfl⟩
  have hR14 : R ≤ 14 := by omega
  have hN60 : N ≤ 60 := by omega
  have hHN := Lib.hid (show N = 4 * (R + 1) by omega)
  unfold ExpOk at hEx
  unfold NewCOk at hNc
  rw [← hN, ← hR] at hEx
  rw [← hN] at hNc hF
  generalize kw (byteAt l) n N = F at *
  clear hc hn hl hR hN
  go_enter Try.func6, Try.ntmps6
  go_wp2_with fail
  refine (hEx.out _ hL0).mono ?_
  rintro e w1 ⟨rfl, hb1⟩
  have hL1 := below_step hb1 hL0 (Nat.le_refl _)
  have T1 := T0.step hb1
  have hkc := keyV_cells F R
  have hkz := keyV_cells (fun _ => 0) 0
  have hR2 : Row (w1.alloc (Obj.cells Try.zeroCells42 42)) w1.heap.size 241 := (row_new rfl).2 (by rw [zeroKey]; exact hkz.1)
  have hconv := fun V (hV : Below w.heap.size w V) => convK (c := c) (hA.below hV)
  have hLz : Below w.heap.size w (w1.alloc (Obj.cells (keyV F R) 42)) := hL1.alloc hL1.size _
  have T2 := T1.old (Obj.cells (keyV F R) 42)
  have K2 : KeyAt (w1.alloc (Obj.cells (keyV F R) 42)) w1.heap.size F R := KeyAt.new _ rfl
  have hcv := hconv _ hLz
  go_wp2_with fail
  clear hcv hconv hR2
  generalize w1.alloc (Obj.cells (keyV F R) 42) = W2 at *
  generalize w1.heap.size = gk at *
  refine (hNc.out W2).mono ?_
  rintro e w3 ⟨C, g, cap, rfl, hCp, hb3⟩
  have hL3 := below_step hb3 hLz (Nat.le_refl _)
  have hKk := Lib.hid (K2.step hb3)
  have hBb := Lib.hid (T2.step hb3)
  have hCc := Lib.hid hCp
  have heq : ∀ (V : World) (f : Nat → Nat), (binOp .eql 38 (.agg (arrK .u8 16 f)) (.agg (arrK .u8 16 f))).run Try.prog V = .ok (.bool true) V := fun V f => by
    rw [run_eql_arrK Try.underlying38 Try.underlying5 (by kernel_rfl)]; simp
  clear T0 T1 T2 K2 hb1 hb3 hL0 hL1 hLz hEx hNc hCp hkc hkz hcs
  go_wp2_with fail
  refine wp_region_calm (fun jx_ => match jx_ with | 0 => SRel.is (.int .i64 0) | 1 => SRel.is (.bool true) | 2 => SRel.is (.bool true) | 3 => SRel.is (.agg (keyV F R)) | 4 => SRel.wd N F | 5 => SRel.is (.pointer (some ⟨C, 0, none⟩)) | 6 => SRel.is (.pointer (some ⟨C, 0, none⟩)) | 7 => SRel.is (.pointer (some ⟨C, 0, none⟩)) | 8 => SRel.wd N F | 9 => SRel.is (.bool true) | 10 => SRel.is (.bool true) | 11 => SRel.is (.bool true) | 12 => SRel.is (.agg (keyV F R)) | 13 => SRel.is (.agg (arrK .u8 16 b)) | 14 => SRel.is (.agg (arrK .u8 16 (encB F R b))) | 15 => SRel.is (.pointer (some ⟨C, 0, none⟩)) | 16 => SRel.is (.agg (arrK .u8 16 b)) | 17 => SRel.is (.agg (arrK .u8 16 (encB F R b))) | 18 => SRel.is (.bool true) | 19 => SRel.is (.bool true) | 20 => SRel.is (.bool true) | 21 => SRel.is (.agg (keyV F R)) | 22 => SRel.is (.agg (arrK .u8 16 b)) | 23 => SRel.is (.agg (arrK .u8 16 (decB F R b))) | 24 => SRel.is (.pointer (some ⟨C, 0, none⟩)) | 25 => SRel.is (.agg (arrK .u8 16 b)) | 26 => SRel.is (.agg (arrK .u8 16 (decB F R b))) | 27 => SRel.is (.bool true) | 28 => SRel.is (.bool true) | 29 => SRel.is (.bool true) | _ => SRel.any) (by kernel_rfl) (by kernel_rfl) (by kernel_rfl) (by kernel_rfl) ⟨?_, ?_, ?_, ?_, ?_, ?_, ?_, ?_, ?_, ?_, ?_, ?_, ?_, ?_, ?_, ?_, ?_, ?_, ?_, ?_, ?_, ?_, ?_, ?_, ?_, ?_, ?_, ?_, ?_, ?_, trivial⟩ ?_
  · refine calm_step rfl fun a ω κ hb hu hc hK => ?_
    have h6 : a.tmps[6]?.getD undef = .int .i64 0 := hu 6 rfl
    have hk := Lib.hid (fun w1 (h : Below ω.heap.size ω w1) => hK (.int .i64 0) w1 rfl h)
    clear hK hu hc
    go_simp
    exact hk.out _ (Below.refl _ _)
  · refine calm_step rfl fun a ω κ hb hu hc hK => ?_
    have h25 : a.tmps[25]?.getD undef = .int .i64 0 := hc 0 25 rfl rfl
    have hk := Lib.hid (fun w1 (h : Below ω.heap.size ω w1) => hK (.bool true) w1 rfl h)
    clear hK hu hc
    go_simp
    exact hk.out _ (Below.refl _ _)
  · refine calm_step rfl fun a ω κ hb hu hc hK => ?_
    have h26 : a.tmps[26]?.getD undef = .bool true := hc 1 26 rfl rfl
    have hk := Lib.hid (fun w1 (h : Below ω.heap.size ω w1) => hK (.bool true) w1 rfl h)
    clear hK hu hc
    go_simp
    exact hk.out _ (Below.refl _ _)
  · refine calm_step_guard (g := 2) (b := true) (d := 27) rfl rfl (fun a w hc => hc 2 27 rfl rfl) fun a ω κ hb hu hc hK => ?_
    have h5 : a.tmps[5]?.getD undef = .pointer (some ⟨gk, 0, none⟩) := hu 5 rfl
    have hk := Lib.hid (fun w1 (h : Below ω.heap.size ω w1) => hK (.agg (keyV F R)) w1 rfl h)
    clear hK hu hc
    have hr1 := (hKk.out.step hb).row
    have hr2 := (hKk.out.step hb).eq
    go_simp
    exact hk.out _ (Below.refl _ _)
  · refine calm_step_guard (g := 2) (b := true) (d := 27) rfl rfl (fun a w hc => hc 2 27 rfl rfl) fun a ω κ hb hu hc hK => ?_
    have h28 : a.tmps[28]?.getD undef = .agg (keyV F R) := hc 3 28 rfl rfl
    have hk := Lib.hid (fun v w1 (hv : (SRel.wd N F).p v w1) (h : Below ω.heap.size ω w1) => hK v w1 hv h)
    clear hK hu hc
    go_simp
    go_at_call 41
    refine (aes_Words F R N ω (by omega) hHN.out).mono ?_
    rintro e w1 ⟨g1, c1, rfl, hx1, hb1⟩
    exact hk.out _ _ ⟨g1, c1, rfl, hx1⟩ hb1
  · refine calm_step_guard (g := 2) (b := true) (d := 27) rfl rfl (fun a w hc => hc 2 27 rfl rfl) fun a ω κ hb hu hc hK => ?_
    have h7 : a.tmps[7]?.getD undef = .pointer (some ⟨C, 0, none⟩) := hu 7 rfl
    have hk := Lib.hid (fun w1 (h : Below ω.heap.size ω w1) => hK (.pointer (some ⟨C, 0, none⟩)) w1 rfl h)
    clear hK hu hc
    go_simp
    exact hk.out _ (Below.refl _ _)
  · refine calm_step_guard (g := 2) (b := true) (d := 27) rfl rfl (fun a w hc => hc 2 27 rfl rfl) fun a ω κ hb hu hc hK => ?_
    have h30 : a.tmps[30]?.getD undef = .pointer (some ⟨C, 0, none⟩) := hc 5 30 rfl rfl
    have hk := Lib.hid (fun w1 (h : Below ω.heap.size ω w1) => hK (.pointer (some ⟨C, 0, none⟩)) w1 rfl h)
    clear hK hu hc
    go_simp
    exact hk.out _ (Below.refl _ _)
  · refine calm_step_guard (g := 2) (b := true) (d := 27) rfl rfl (fun a w hc => hc 2 27 rfl rfl) fun a ω κ hb hu hc hK => ?_
    have h31 : a.tmps[31]?.getD undef = .pointer (some ⟨C, 0, none⟩) := hc 6 31 rfl rfl
    have hk := Lib.hid (fun w1 (h : Below ω.heap.size ω w1) => hK (.pointer (some ⟨C, 0, none⟩)) w1 rfl h)
    clear hK hu hc
    go_simp
    exact hk.out _ (Below.refl _ _)
  · refine calm_step_guard (g := 2) (b := true) (d := 27) rfl rfl (fun a w hc => hc 2 27 rfl rfl) fun a ω κ hb hu hc hK => ?_
    have h32 : a.tmps[32]?.getD undef = .pointer (some ⟨C, 0, none⟩) := hc 7 32 rfl rfl
    have hk := Lib.hid (fun v w1 (hv : (SRel.wd N F).p v w1) (h : Below ω.heap.size ω w1) => hK v w1 hv h)
    clear hK hu hc
    have hC := hCc.out.step hb
    have hw := hC.wsl
    go_simp
    exact hk.out _ _ ⟨g, cap, rfl, hC.ncap, hC.wd⟩ (Below.refl _ _)
  · refine calm_step_guard (g := 2) (b := true) (d := 27) rfl rfl (fun a w hc => hc 2 27 rfl rfl) fun a ω κ hb hu hc hK => ?_
    have h29 : (SRel.wd N F).p (a.tmps[29]?.getD undef) ω := hc 4 29 rfl rfl
    have h33 : (SRel.wd N F).p (a.tmps[33]?.getD undef) ω := hc 8 33 rfl rfl
    have hk := Lib.hid (fun w1 (h : Below ω.heap.size ω w1) => hK (.bool true) w1 rfl h)
    clear hK hu hc
    obtain ⟨g1, c1, hv1, hc1, hd1⟩ := h29
    obtain ⟨g2, c2, hv2, hc2, hd2⟩ := h33
    go_simp
    go_at_call 40
    refine (eq_Words F g1 g2 N c1 c2 ω hd1 hd2 hN60 hc1 hc2).mono ?_
    rintro e w1 ⟨rfl, hb1⟩
    exact hk.out _ hb1
  · refine calm_step rfl fun a ω κ hb hu hc hK => ?_
    have h27 : a.tmps[27]?.getD undef = .bool true := hc 2 27 rfl rfl
    have h34 : a.tmps[34]?.getD undef = .bool true := hc 9 34 rfl rfl
    have hk := Lib.hid (fun w1 (h : Below ω.heap.size ω w1) => hK (.bool true) w1 rfl h)
    clear hK hu hc
    go_simp
    exact hk.out _ (Below.refl _ _)
  · refine calm_step rfl fun a ω κ hb hu hc hK => ?_
    have h35 : a.tmps[35]?.getD undef = .bool true := hc 10 35 rfl rfl
    have hk := Lib.hid (fun w1 (h : Below ω.heap.size ω w1) => hK (.bool true) w1 rfl h)
    clear hK hu hc
    go_simp
    exact hk.out _ (Below.refl _ _)
  · refine calm_step_guard (g := 11) (b := true) (d := 36) rfl rfl (fun a w hc => hc 11 36 rfl rfl) fun a ω κ hb hu hc hK => ?_
    have h5 : a.tmps[5]?.getD undef = .pointer (some ⟨gk, 0, none⟩) := hu 5 rfl
    have hk := Lib.hid (fun w1 (h : Below ω.heap.size ω w1) => hK (.agg (keyV F R)) w1 rfl h)
    clear hK hu hc
    have hr1 := (hKk.out.step hb).row
    have hr2 := (hKk.out.step hb).eq
    go_simp
    exact hk.out _ (Below.refl _ _)
  · refine calm_step_guard (g := 11) (b := true) (d := 36) rfl rfl (fun a w hc => hc 11 36 rfl rfl) fun a ω κ hb hu hc hK => ?_
    have h3 : a.tmps[3]?.getD undef = .pointer (some ⟨w.heap.size, 0, none⟩) := hu 3 rfl
    have hk := Lib.hid (fun w1 (h : Below ω.heap.size ω w1) => hK (.agg (arrK .u8 16 b)) w1 rfl h)
    clear hK hu hc
    have hr1 := (hBb.out.step hb).row
    have hr2 := (hBb.out.step hb).eq
    go_simp
    exact hk.out _ (Below.refl _ _)
  · refine calm_step_guard (g := 11) (b := true) (d := 36) rfl rfl (fun a w hc => hc 11 36 rfl rfl) fun a ω κ hb hu hc hK => ?_
    have h37 : a.tmps[37]?.getD undef = .agg (keyV F R) := hc 12 37 rfl rfl
    have h38 : a.tmps[38]?.getD undef = .agg (arrK .u8 16 b) := hc 13 38 rfl rfl
    have hk := Lib.hid (fun w1 (h : Below ω.heap.size ω w1) => hK (.agg (arrK .u8 16 (encB F R b))) w1 rfl h)
    clear hK hu hc
    go_simp
    go_at_call 42
    refine (aes_Encrypt b F R _ hF hb16 (by omega)).mono ?_
    rintro e w1 ⟨rfl, hb1⟩
    exact hk.out _ hb1
  · refine calm_step_guard (g := 11) (b := true) (d := 36) rfl rfl (fun a w hc => hc 11 36 rfl rfl) fun a ω κ hb hu hc hK => ?_
    have h7 : a.tmps[7]?.getD undef = .pointer (some ⟨C, 0, none⟩) := hu 7 rfl
    have hk := Lib.hid (fun w1 (h : Below ω.heap.size ω w1) => hK (.pointer (some ⟨C, 0, none⟩)) w1 rfl h)
    clear hK hu hc
    go_simp
    exact hk.out _ (Below.refl _ _)
  · refine calm_step_guard (g := 11) (b := true) (d := 36) rfl rfl (fun a w hc => hc 11 36 rfl rfl) fun a ω κ hb hu hc hK => ?_
    have h3 : a.tmps[3]?.getD undef = .pointer (some ⟨w.heap.size, 0, none⟩) := hu 3 rfl
    have hk := Lib.hid (fun w1 (h : Below ω.heap.size ω w1) => hK (.agg (arrK .u8 16 b)) w1 rfl h)
    clear hK hu hc
    have hr1 := (hBb.out.step hb).row
    have hr2 := (hBb.out.step hb).eq
    go_simp
    exact hk.out _ (Below.refl _ _)
  · refine calm_step_guard (g := 11) (b := true) (d := 36) rfl rfl (fun a w hc => hc 11 36 rfl rfl) fun a ω κ hb hu hc hK => ?_
    have h40 : a.tmps[40]?.getD undef = .pointer (some ⟨C, 0, none⟩) := hc 15 40 rfl rfl
    have h41 : a.tmps[41]?.getD undef = .agg (arrK .u8 16 b) := hc 16 41 rfl rfl
    have hk := Lib.hid (fun w1 (h : Below ω.heap.size ω w1) => hK (.agg (arrK .u8 16 (encB F R b))) w1 rfl h)
    clear hK hu hc
    have hC := hCc.out.step hb
    go_simp
    go_at_call 43
    refine (ref_Encrypt b F C g cap N R _ hC hHN.out (by omega) hF hb16).mono ?_
    rintro e w1 ⟨rfl, hb1⟩
    exact hk.out _ hb1
  · refine calm_step_guard (g := 11) (b := true) (d := 36) rfl rfl (fun a w hc => hc 11 36 rfl rfl) fun a ω κ hb hu hc hK => ?_
    have h39 : a.tmps[39]?.getD undef = .agg (arrK .u8 16 (encB F R b)) := hc 14 39 rfl rfl
    have h42 : a.tmps[42]?.getD undef = .agg (arrK .u8 16 (encB F R b)) := hc 17 42 rfl rfl
    have hk := Lib.hid (fun w1 (h : Below ω.heap.size ω w1) => hK (.bool true) w1 rfl h)
    clear hK hu hc
    have hq := heq ω
    go_simp
    exact hk.out _ (Below.refl _ _)
  · refine calm_step rfl fun a ω κ hb hu hc hK => ?_
    have h36 : a.tmps[36]?.getD undef = .bool true := hc 11 36 rfl rfl
    have h43 : a.tmps[43]?.getD undef = .bool true := hc 18 43 rfl rfl
    have hk := Lib.hid (fun w1 (h : Below ω.heap.size ω w1) => hK (.bool true) w1 rfl h)
    clear hK hu hc
    go_simp
    exact hk.out _ (Below.refl _ _)
  · refine calm_step rfl fun a ω κ hb hu hc hK => ?_
    have h44 : a.tmps[44]?.getD undef = .bool true := hc 19 44 rfl rfl
    have hk := Lib.hid (fun w1 (h : Below ω.heap.size ω w1) => hK (.bool true) w1 rfl h)
    clear hK hu hc
    go_simp
    exact hk.out _ (Below.refl _ _)
  · refine calm_step_guard (g := 20) (b := true) (d := 45) rfl rfl (fun a w hc => hc 20 45 rfl rfl) fun a ω κ hb hu hc hK => ?_
    have h5 : a.tmps[5]?.getD undef = .pointer (some ⟨gk, 0, none⟩) := hu 5 rfl
    have hk := Lib.hid (fun w1 (h : Below ω.heap.size ω w1) => hK (.agg (keyV F R)) w1 rfl h)
    clear hK hu hc
    have hr1 := (hKk.out.step hb).row
    have hr2 := (hKk.out.step hb).eq
    go_simp
    exact hk.out _ (Below.refl _ _)
  · refine calm_step_guard (g := 20) (b := true) (d := 45) rfl rfl (fun a w hc => hc 20 45 rfl rfl) fun a ω κ hb hu hc hK => ?_
    have h3 : a.tmps[3]?.getD undef = .pointer (some ⟨w.heap.size, 0, none⟩) := hu 3 rfl
    have hk := Lib.hid (fun w1 (h : Below ω.heap.size ω w1) => hK (.agg (arrK .u8 16 b)) w1 rfl h)
    clear hK hu hc
    have hr1 := (hBb.out.step hb).row
    have hr2 := (hBb.out.step hb).eq
    go_simp
    exact hk.out _ (Below.refl _ _)
  · refine calm_step_guard (g := 20) (b := true) (d := 45) rfl rfl (fun a w hc => hc 20 45 rfl rfl) fun a ω κ hb hu hc hK => ?_
    have h46 : a.tmps[46]?.getD undef = .agg (keyV F R) := hc 21 46 rfl rfl
    have h47 : a.tmps[47]?.getD undef = .agg (arrK .u8 16 b) := hc 22 47 rfl rfl
    have hk := Lib.hid (fun w1 (h : Below ω.heap.size ω w1) => hK (.agg (arrK .u8 16 (decB F R b))) w1 rfl h)
    clear hK hu hc
    go_simp
    go_at_call 44
    refine (aes_Decrypt b F R _ hF hb16 (by omega)).mono ?_
    rintro e w1 ⟨rfl, hb1⟩
    exact hk.out _ hb1
  · refine calm_step_guard (g := 20) (b := true) (d := 45) rfl rfl (fun a w hc => hc 20 45 rfl rfl) fun a ω κ hb hu hc hK => ?_
    have h7 : a.tmps[7]?.getD undef = .pointer (some ⟨C, 0, none⟩) := hu 7 rfl
    have hk := Lib.hid (fun w1 (h : Below ω.heap.size ω w1) => hK (.pointer (some ⟨C, 0, none⟩)) w1 rfl h)
    clear hK hu hc
    go_simp
    exact hk.out _ (Below.refl _ _)
  · refine calm_step_guard (g := 20) (b := true) (d := 45) rfl rfl (fun a w hc => hc 20 45 rfl rfl) fun a ω κ hb hu hc hK => ?_
    have h3 : a.tmps[3]?.getD undef = .pointer (some ⟨w.heap.size, 0, none⟩) := hu 3 rfl
    have hk := Lib.hid (fun w1 (h : Below ω.heap.size ω w1) => hK (.agg (arrK .u8 16 b)) w1 rfl h)
    clear hK hu hc
    have hr1 := (hBb.out.step hb).row
    have hr2 := (hBb.out.step hb).eq
    go_simp
    exact hk.out _ (Below.refl _ _)
  · refine calm_step_guard (g := 20) (b := true) (d := 45) rfl rfl (fun a w hc => hc 20 45 rfl rfl) fun a ω κ hb hu hc hK => ?_
    have h49 : a.tmps[49]?.getD undef = .pointer (some ⟨C, 0, none⟩) := hc 24 49 rfl rfl
    have h50 : a.tmps[50]?.getD undef = .agg (arrK .u8 16 b) := hc 25 50 rfl rfl
    have hk := Lib.hid (fun w1 (h : Below ω.heap.size ω w1) => hK (.agg (arrK .u8 16 (decB F R b))) w1 rfl h)
    clear hK hu hc
    have hC := hCc.out.step hb
    go_simp
    go_at_call 45
    refine (ref_Decrypt b F C g cap N R _ hC hHN.out (by omega) hF hb16).mono ?_
    rintro e w1 ⟨rfl, hb1⟩
    exact hk.out _ hb1
  · refine calm_step_guard (g := 20) (b := true) (d := 45) rfl rfl (fun a w hc => hc 20 45 rfl rfl) fun a ω κ hb hu hc hK => ?_
    have h48 : a.tmps[48]?.getD undef = .agg (arrK .u8 16 (decB F R b)) := hc 23 48 rfl rfl
    have h51 : a.tmps[51]?.getD undef = .agg (arrK .u8 16 (decB F R b)) := hc 26 51 rfl rfl
    have hk := Lib.hid (fun w1 (h : Below ω.heap.size ω w1) => hK (.bool true) w1 rfl h)
    clear hK hu hc
    have hq := heq ω
    go_simp
    exact hk.out _ (Below.refl _ _)
  · refine calm_step rfl fun a ω κ hb hu hc hK => ?_
    have h45 : a.tmps[45]?.getD undef = .bool true := hc 20 45 rfl rfl
    have h52 : a.tmps[52]?.getD undef = .bool true := hc 27 52 rfl rfl
    have hk := Lib.hid (fun w1 (h : Below ω.heap.size ω w1) => hK (.bool true) w1 rfl h)
    clear hK hu hc
    go_simp
    exact hk.out _ (Below.refl _ _)
  · refine calm_step rfl fun a ω κ hb hu hc hK => ?_
    have h53 : a.tmps[53]?.getD undef = .bool true := hc 28 53 rfl rfl
    have hk := Lib.hid (fun w1 (h : Below ω.heap.size ω w1) => hK (.bool true) w1 rfl h)
    clear hK hu hc
    go_simp
    exact hk.out _ (Below.refl _ _)
  · intro a w' hb hu hsz hdf hc
    have h4 : a.tmps[4]?.getD undef = .bool true := hc 29 4 rfl
    go_wp2
    exact ret_tmp rfl h4 hdf ⟨rfl, below_step hb hL3 (Nat.le_refl _)⟩
end Go.Proofs.Ytjihklaocgmlpaa
