/- Contract of package aes: Expand. -/
import Derived.Test.YtjihklaocgmlpaaAes5
import Derived.Deep.DeepCutAuto
namespace Go.Proofs.Ytjihklaocgmlpaa
open Go.ChangeShapes Go.WideShapes Go.ChangeAt Go.RowKit
set_option maxHeartbeats 20000000
set_option maxRecDepth 100000
attribute [local go_sem ↓] load_a4 store_a4 execl_a4 execs_a4 load_a16 store_a16 execl_a16 execs_a16 load_akey store_akey execl_akey execs_akey load_e4 execl_e4
attribute [local go_sem] isHead_mk blkOf_mk isAgg_mk cellsV_mk row_drew rowAt_drew row_new_cells row_old rowAt_new rowAt_old setRow_new

theorem SBk : SlT Try.prog 25 5 1 1 := SlT.mk' Try.underlying25 (by kernel_rfl) (by omega)
/-- A result in a cell that stands, with a second result. -/
theorem ret_row2 {P : Program} {fn : Func} {R : Ending → World → Prop} {a : Act} {w : World} {p q : Tmp} {ty : TypeId} {g n : Nat} {d : TypeDesc} (h : fn.results = #[.cell p ty, .tmp q])
    (hu : P.underlying ty = some d) (hd : (match d with | .struct _ | .array _ _ => true | _ => false) = true) (hi : (P.info? ty).map (·.size) = some n)
    (hp : a.tmps.getD p undef = .pointer (some ⟨g, 0, none⟩)) (hr : Row w g n) (hf : a.defers = []) (hR : R (.returned (.tuple #[.agg (rowAt w g), a.tmps.getD q undef])) w) : bodyPost P fn R .ret a w := by
  obtain ⟨cs, t, hg, hs⟩ := hr
  have e : rowAt w g = cs := by simp [rowAt, hg]
  rw [e] at hR
  exact bodyPost_ret (results_row_tmp h _ _ g t cs (0, 0) d hp hg hu hd (by rw [hi, hs])) hf hR
def ExpOk (l : List UInt8) (n : Nat) (w : World) (e : Ending) (w' : World) : Prop :=
  e = .returned (.tuple #[.agg (keyV (kw (byteAt l) n (4 * (n + 7))) (n + 6)), .int .i64 0]) ∧ Below w.heap.size w w'
theorem aes_ExpandBad (A : Option Addr) (L c : Nat) (w : World) (hL : ¬ (L = 16 ∨ L = 24 ∨ L = 32)) (hb : L ≤ c ∧ c < 2 ^ 63) :
    Calls Try.prog 18 #[.slice A L c] w fun e w' => e = .returned (.tuple #[.agg (keyV (fun _ => 0) 0), .int .i64 1]) ∧ Below w.heap.size w w' := by
  have hkc := keyV_cells (fun _ => 0) 0
  rw [← zeroKey] at hkc
  have hR0 : Row (w.alloc (Obj.cells Try.zeroCells42 42)) w.heap.size 241 := (row_new rfl).2 hkc.1
  have hL0 : Below w.heap.size w (w.alloc (Obj.cells Try.zeroCells42 42)) := by go_grown
  have h16 : ((L : Int) != 16) = true := by rw [bne_iff_ne]; omega
  have h24 : ((L : Int) != 24) = true := by rw [bne_iff_ne]; omega
  have h32 : ((L : Int) != 32) = true := by rw [bne_iff_ne]; omega
  go_enter Try.func18, Try.ntmps18
  go_wp2_with fail
  have hr0 : rowAt (w.alloc (Obj.cells Try.zeroCells42 42)) w.heap.size = keyV (fun _ => 0) 0 := (rowAt_new rfl).trans zeroKey
  exact ret_row2 (p := 2) (q := 3) (ty := 42) (g := w.heap.size) (n := 241) rfl Try.underlying42 rfl (by kernel_rfl) rfl hR0 rfl ⟨by rw [hr0]; rfl, hL0⟩
theorem aes_ExpandOk (A : Option Addr) (l : List UInt8) (n L c : Nat) (w : World) (hA : Rd w w.heap.size A (bytesV l)) (hl : l.length = L) (hL : L = 4 * n) (hn : n = 4 ∨ n = 6 ∨ n = 8) (hb : L ≤ c ∧ c < 2 ^ 63) :
    Calls Try.prog 18 #[.slice A L c] w (ExpOk l n w) := by
  have hkc := keyV_cells (fun _ => 0) 0
  obtain ⟨R, hR⟩ : ∃ R, R = n + 6 := ⟨_, rfl⟩
  have hset := zeroKeySet R
  have hkr := keyV_cells (fun _ => 0) R
  rw [← zeroKeySet] at hkr
  rw [← zeroKey] at hkc
  have hR0 : Row ((w.alloc (Obj.cells Try.zeroCells42 42)).alloc (Obj.cells (Try.zeroCells42.setIfInBounds 240 (.int .i64 (R : Nat))) 42)) w.heap.size 241 := (row_old (by simp)).2 ((row_new rfl).2 hkc.1)
  have K0 : KeyAt ((w.alloc (Obj.cells Try.zeroCells42 42)).alloc (Obj.cells (Try.zeroCells42.setIfInBounds 240 (.int .i64 (R : Nat))) 42)) (w.heap.size + 1) (fun _ => 0) R := by rw [hset]; exact KeyAt.new _ (by simp)
  have hL0 : Below w.heap.size w ((w.alloc (Obj.cells Try.zeroCells42 42)).alloc (Obj.cells (Try.zeroCells42.setIfInBounds 240 (.int .i64 (R : Nat))) 42)) := by go_grown
  have hc0 := K0.rounds
  obtain ⟨N, hN⟩ : ∃ N, N = 4 * (n + 7) := ⟨_, rfl⟩
  have hq : (L : Int) / 4 = (n : Int) := by omega
  have eR : (R : Int) = (n : Int) + 6 := by omega
  rw [eR] at hset hkr hR0 K0 hL0 hc0
  have hn8 : n ≤ 8 := by omega
  clear eR
  have hHR := Lib.hid hR
  have hHN := Lib.hid hN
  have hHL := Lib.hid hL
  have hHset := Lib.hid hset
  have hHl := Lib.hid hl
  have hbits : (((L : Int) != 16) = false) ∨ (((L : Int) != 16) = true ∧ ((L : Int) != 24) = false) ∨ (((L : Int) != 16) = true ∧ ((L : Int) != 24) = true ∧ ((L : Int) != 32) = false) := by
    rcases hn with rfl | rfl | rfl
    · refine .inl ?_; rw [bne_eq_false_iff_eq]; omega
    · refine .inr (.inl ⟨?_, ?_⟩) <;> simp <;> omega
    · refine .inr (.inr ⟨?_, ?_, ?_⟩) <;> simp <;> omega
  have hHn := Lib.hid hn
  clear hR hN hL hset hl hn
  go_enter Try.func18, Try.ntmps18
  rcases hbits with h1 | ⟨h1, h2⟩ | ⟨h1, h2, h3⟩
  all_goals
    go_wp2_with fail
    rw [hHset.out]
    rw [hHset.out] at hR0 K0 hL0
    generalize (w.alloc (Obj.cells Try.zeroCells42 42)).alloc (Obj.cells (keyV (fun _ => 0) R) 42) = W0 at *
    rw [show 4 * ((n : Int) + 6 + 1) = (N : Int) by have := hHN.out; omega]
    clear hc0 hkr hkc
    go_loopw [33] (fun x wr => ∃ i : Nat, x = .int .i64 i ∧ i ≤ N ∧ KeyAt wr (w.heap.size + 1) (kw (byteAt l) n i) R ∧ Row wr w.heap.size 241 ∧ Below w.heap.size w wr) (fun x _ => 60 - (intOf x).toNat)
    case atStart => exact ⟨0, rfl, by omega, K0, hR0, hL0⟩
    case round =>
      clear K0 hR0 hL0
      obtain ⟨i, rfl, hi, K, O, hL⟩ := hrel
      have hNb := hHN.out
      have hnb := hHn.out
      by_cases hiN : i = N
      · subst hiN
        have hRk := K.row
        have hrk := K.eq
        have hks := keyV_cells (kw (byteAt l) n i) R
        have hHK := Lib.hid K
        clear K hNb hnb
        go_wp2_with fail
        have hRw := (row_setRow_same (c' := keyV (kw (byteAt l) n i) R) rfl O).2 hks.1
        refine ret_row2 (p := 2) (q := 3) (ty := 42) (g := w.heap.size) (n := 241) rfl Try.underlying42 rfl (by kernel_rfl) rfl hRw rfl ?_
        rw [rowAt_setRow_same O, hHN.out, hHR.out]
        exact ⟨rfl, below_setRow hL (Nat.le_refl _)⟩
      · have hd : (i : Int) < (N : Int) := by omega
        have hib : i < 60 := by omega
        by_cases hin : i < n
        · obtain ⟨A1, hs1, hs2⟩ := sl_from SBk A L c (L - 4 * i) ((4 * i : Nat) : Int) (by omega) (by have := hHL.out; omega) (by omega) hb.1
          have hA1 := hs2 wr w.heap.size (bytesV l) (by rw [bytesV_length, hHl.out]; omega) (hA.below hL)
          rw [show (((4 * i : Nat) : Int).toNat * 1) = 4 * i by omega, show (bytesV l).drop (4 * i) = bytesV (l.drop (4 * i)) by simp [bytesV]] at hA1
          have hlen : (l.drop (4 * i)).length = L - 4 * i := by rw [List.length_drop, hHl.out]
          have hcp := fun ty dc sc => run_copy_key (w := wr.drew) (o := i * 4) (dc := dc) (sc := sc) K.drew (by omega) hA1 (by rw [hlen]; have := hHL.out; omega) ty
          rw [hlen] at hcp
          rw [key_copy hin] at hcp
          obtain ⟨p, hp⟩ : ∃ p, p = 4 * i := ⟨_, rfl⟩
          rw [← hp] at hs1 hcp
          have hw6 : IntKind.i64.wrap (4 * (i : Int)) = (p : Int) := by rw [IntKind.wrap_i64]; omega
          have hHK := Lib.hid K
          have hHp := Lib.hid hp
          clear K hA1 hs2 hlen hNb hnb hp
          go_wp2_with fail
          have hi60 : (i : Int) < 60 := by omega
          have hi00 : (0 : Int) ≤ (i : Int) := by omega
          go_region
          all_goals
            go_wp2_with fail
            go_round
            case rel => exact ⟨i + 1, by go_num, by omega, KeyAt.put hHK.out.drew.row, (row_setRow_far (by omega)).2 O.drew, below_setRow hL.drew (by omega)⟩
            case measure => simp [intOf]; omega
        · obtain ⟨t, ht⟩ : ∃ t : Nat → Nat, t = fun j => kw (byteAt l) n i (4 * (i - 1) + j) := ⟨_, rfl⟩
          have hld := K.ld (o := (i - 1) * 4) (by omega)
          rw [show (fun j => kw (byteAt l) n i ((i - 1) * 4 + j)) = t by rw [ht]; funext j; rw [Nat.mul_comm]] at hld
          obtain ⟨hl1, hl2⟩ := hld
          have hkl := fun p => kw_lt (n := n) (byteAt_lt l) i p
          have htl : ∀ j < 4, t j < 256 := fun j _ => by rw [ht]; exact hkl _
          have hn0 : ¬ (n : Int) = 0 := by omega
          have hcs4 := arrK_cells .u8 4 t
          have hHt := Lib.hid ht
          have hHkl := Lib.hid hkl
          clear ht hkl hNb hnb
          have cells4z : Cells #[Value.int IntKind.u8 0, Value.int IntKind.u8 0, Value.int IntKind.u8 0, Value.int IntKind.u8 0] 4 := by rw [zeroA4]; exact arrK_cells _ _ _
          have T1 : At (wr.alloc (Obj.cells (arrK .u8 4 t) 39)) wr.heap.size .u8 4 t := At.new _ rfl
          have K1 := K.old (Obj.cells (arrK .u8 4 t) 39)
          have O1 : Row (wr.alloc (Obj.cells (arrK .u8 4 t) 39)) w.heap.size 241 := (row_old O.lt).2 O
          have hL1 : Below w.heap.size w (wr.alloc (Obj.cells (arrK .u8 4 t) 39)) := below_step (below_alloc _ _) hL (Nat.le_refl _)
          have hgl := K.lt
          have hKO := Lib.hid (And.intro K (And.intro O hL))
          clear K O hL hKO
          have c0 := T1.cell (i := 0) (by omega)
          have c1 := T1.cell (i := 1) (by omega)
          have c2 := T1.cell (i := 2) (by omega)
          have c3 := T1.cell (i := 3) (by omega)
          have hRT := T1.row
          have hrT := T1.eq
          have hf0 := hRT.frozen 0
          have hcase : (i : Int) % (n : Int) = 0 ∨ (¬ (i : Int) % (n : Int) = 0 ∧ ((n : Int) == 8) = true ∧ (i : Int) % 8 = 4) ∨ (¬ (i : Int) % (n : Int) = 0 ∧ ((n : Int) == 8) = true ∧ ((i : Int) % 8 == 4) = false) ∨ (¬ (i : Int) % (n : Int) = 0 ∧ ((n : Int) == 8) = false) := by
            by_cases x1 : (i : Int) % (n : Int) = 0
            · exact .inl x1
            · by_cases x2 : (n : Int) = 8
              · by_cases x3 : (i : Int) % 8 = 4
                · exact .inr (.inl ⟨x1, beq_iff_eq.2 x2, x3⟩)
                · exact .inr (.inr (.inl ⟨x1, beq_iff_eq.2 x2, beq_eq_false_iff_ne.2 x3⟩))
              · exact .inr (.inr (.inr ⟨x1, beq_eq_false_iff_ne.2 x2⟩))
          rcases hcase with hqn | ⟨hqn, hx8, hx4⟩ | ⟨hqn, hx8, hx4⟩ | ⟨hqn, hx8⟩
          case' inl =>
            go_wp2_with fail
            rw [show #[Value.int IntKind.u8 (t 1 : Nat), Value.int IntKind.u8 (t 2 : Nat), Value.int IntKind.u8 (t 3 : Nat), Value.int IntKind.u8 (t 0 : Nat)] = arrK .u8 4 fun j => t ((j + 1) % 4) from arrK4 .u8 fun j => t ((j + 1) % 4)]
            refine (aes_subbed (fun j => t ((j + 1) % 4)) _ fun j _ => htl _ (by omega)).mono ?_
            rintro e w3 ⟨rfl, hb3⟩
            have T3 := T1.step hb3
            have K3 := K1.step hb3
            have O3 := row_below O1 hb3 O1.lt
            have hL3 := below_step hb3 hL1 (Nat.le_refl _)
            obtain ⟨s, hs⟩ : ∃ s : Nat → Nat, s = fun j => gsub (t ((j + 1) % 4)) := ⟨_, rfl⟩
            rw [show (fun j => gsub ((fun j => t ((j + 1) % 4)) j)) = s from hs.symm]
            have hcs := arrK_cells .u8 4 s
            have hsl : s 0 < 256 := by rw [hs]; exact gsub_lt _
            have hHs := Lib.hid hs
            clear hs T1 K1 O1 hL1 c0 c1 c2 c3 hRT hrT hf0 hb3 cells4z hcs4 hl1 hl2
            generalize wr.heap.size = g at *
            have hRT := T3.row
            go_wp2_with fail
            have T4 : At (w3.setRow g (arrK .u8 4 s)) g .u8 4 s := At.put hRT
            have K4 : KeyAt (w3.setRow g (arrK .u8 4 s)) (w.heap.size + 1) (kw (byteAt l) n i) R := K3.far (by omega)
            have O4 : Row (w3.setRow g (arrK .u8 4 s)) w.heap.size 241 := (row_setRow_far (by omega)).2 O3
            have hL4 : Below w.heap.size w (w3.setRow g (arrK .u8 4 s)) := below_setRow hL3 (by omega)
            generalize w3.setRow g (arrK .u8 4 s) = w4 at *
            clear T3 K3 O3 hL3 hRT
            obtain ⟨e1, he1⟩ : ∃ e1, e1 = i / n := ⟨_, rfl⟩
            have hnn := hHn.out
            have he0 : 1 ≤ e1 := by rw [he1]; exact (Nat.le_div_iff_mul_le (by omega)).2 (by omega)
            have he60 : e1 ≤ 60 := by rw [he1]; exact Nat.le_trans (Nat.div_le_self i n) (by omega)
            have hdv : Int.tdiv (i : Int) (n : Int) = (e1 : Int) := by rw [Int.tdiv_eq_ediv_of_nonneg (by omega), he1]; rfl
            obtain ⟨e2, he2⟩ : ∃ e2, e2 = e1 - 1 := ⟨_, rfl⟩
            have hwv : IntKind.i64.wrap (e1 : Int) = (e1 : Int) := by rw [IntKind.wrap_i64]; omega
            have hwe : IntKind.i64.wrap ((e1 : Int) - 1) = (e2 : Int) := by rw [IntKind.wrap_i64]; omega
            have hwu : IntKind.u64.wrap (e2 : Int) = (e2 : Int) := by rw [IntKind.wrap_u64]; omega
            have he2l : e2 < 18446744073709551616 := by omega
            have d0 := T4.cell (i := 0) (by omega)
            have f0 := T4.row.frozen 0
            have hx := xor_8 hsl (gp_lt 2 e2)
            have hmix := Lib.hid (show ∀ j < 4, kwNew (byteAt l) n i (kw (byteAt l) n i) j = kw (byteAt l) n i (4 * (i - n) + j) ^^^ upd s 0 (s 0 ^^^ gp 2 e2) j from fun j hj => by
              unfold kwNew
              rw [if_neg hin, if_pos (by omega : i % n = 0)]
              congr 1
              have hs1 := hHs.out
              have ht1 := hHt.out
              unfold upd
              by_cases hj0 : j = 0
              · subst hj0; rw [if_pos rfl, if_pos rfl, hs1, ht1, he2, he1]
              · rw [if_neg hj0, if_neg hj0, hs1, ht1, Nat.xor_zero])
            have hgpl := gp_lt 2 e2
            have hT4 := Lib.hid T4
            have hPow := Lib.hid (show ∀ W : World, Calls Try.prog 66 #[.int .u8 2, .int .u64 (e2 : Nat)] W fun e w' => e = .returned (.int .u8 (gp 2 e2 : Nat)) ∧ W = w' from fun W => gf_Pow 2 e2 W (by omega) he2l)
            clear T4 he1 he2 hnn
            go_cut [] from 67 to 76 (fun wx => wx = (w4.setCell ⟨g, 0, none⟩ (.int .u8 ((s 0 ^^^ gp 2 e2 : Nat) : Int))).drew)
            case first =>
              go_region_with (go_at_call 66; refine (hPow.out _).mono ?_; rintro e w' ⟨rfl, rfl⟩)
              all_goals go_wp2_with fail
              all_goals go_meet
              all_goals rfl
            rename_i wx hcut
            have hcut := hcut
            subst hcut
            go_wp2_with fail
            have T6 := (hT4.out.set 0 (s 0 ^^^ gp 2 e2)).drew
            have K6 : KeyAt (w4.setCell ⟨g, 0, none⟩ (.int .u8 ((s 0 ^^^ gp 2 e2 : Nat) : Int))).drew (w.heap.size + 1) (kw (byteAt l) n i) R := (K4.farC (by simp; omega)).drew
            have O6 : Row (w4.setCell ⟨g, 0, none⟩ (.int .u8 ((s 0 ^^^ gp 2 e2 : Nat) : Int))).drew w.heap.size 241 := row_setCell.2 O4
            have hL6 : Below w.heap.size w (w4.setCell ⟨g, 0, none⟩ (.int .u8 ((s 0 ^^^ gp 2 e2 : Nat) : Int))).drew := (hL4.setCell (by simp; omega) _).drew
            have hml : ∀ j < 4, upd s 0 (s 0 ^^^ gp 2 e2) j < 256 := fun j hj => by
              unfold upd
              split
              · exact xor_lt8 hsl hgpl
              · rw [hHs.out]; exact gsub_lt _
            generalize upd s 0 (s 0 ^^^ gp 2 e2) = m at *
            generalize (w4.setCell ⟨g, 0, none⟩ (.int .u8 ((s 0 ^^^ gp 2 e2 : Nat) : Int))).drew = X at *
            clear K4 O4 hL4 hT4 d0 f0
          case' inr.inl =>
            go_wp2_with fail
            all_goals
              refine (aes_subbed t _ htl).mono ?_
              rintro e w3 ⟨rfl, hb3⟩
              have T3 := T1.step hb3
              have K3 := K1.step hb3
              have O3 := row_below O1 hb3 O1.lt
              have hL3 := below_step hb3 hL1 (Nat.le_refl _)
              have hml : ∀ j < 4, (fun j => gsub (t j)) j < 256 := fun j _ => gsub_lt _
              have hmix := Lib.hid (show ∀ j < 4, kwNew (byteAt l) n i (kw (byteAt l) n i) j = kw (byteAt l) n i (4 * (i - n) + j) ^^^ (fun j => gsub (t j)) j from fun j hj => by
                have h8 : n = 8 := by have := beq_iff_eq.1 hx8; omega
                unfold kwNew
                rw [if_neg hin, if_neg (by omega : ¬ i % n = 0), if_pos ⟨h8, by omega⟩, hHt.out])
              generalize (fun j => gsub (t j)) = m at *
              have hcs := arrK_cells .u8 4 m
              clear T1 K1 O1 hL1 c0 c1 c2 c3 hRT hrT hf0 hb3 cells4z hcs4 hl1 hl2
              generalize wr.heap.size = g at *
              have hRT := T3.row
              go_wp2_with fail
              have T6 : At (w3.setRow g (arrK .u8 4 m)) g .u8 4 m := At.put hRT
              have K6 : KeyAt (w3.setRow g (arrK .u8 4 m)) (w.heap.size + 1) (kw (byteAt l) n i) R := K3.far (by omega)
              have O6 : Row (w3.setRow g (arrK .u8 4 m)) w.heap.size 241 := (row_setRow_far (by omega)).2 O3
              have hL6 : Below w.heap.size w (w3.setRow g (arrK .u8 4 m)) := below_setRow hL3 (by omega)
              generalize w3.setRow g (arrK .u8 4 m) = X at *
              clear T3 K3 O3 hL3 hRT
          case' inr.inr.inl =>
            have hmix := Lib.hid (show ∀ j < 4, kwNew (byteAt l) n i (kw (byteAt l) n i) j = kw (byteAt l) n i (4 * (i - n) + j) ^^^ t j from fun j hj => by
              unfold kwNew
              rw [if_neg hin, if_neg (by omega : ¬ i % n = 0), if_neg (by have := beq_eq_false_iff_ne.1 hx4; omega), hHt.out])
            go_wp2_with fail
            all_goals
              have T6 := T1
              have K6 := K1
              have O6 := O1
              have hL6 := hL1
              have hml := htl
              clear T1 K1 O1 hL1 c0 c1 c2 c3 hRT hrT hf0 cells4z hcs4 hl1 hl2
              generalize wr.alloc (Obj.cells (arrK .u8 4 t) 39) = X at *
              generalize wr.heap.size = g at *
              generalize t = m at hmix T6 hml
          case' inr.inr.inr =>
            have hmix := Lib.hid (show ∀ j < 4, kwNew (byteAt l) n i (kw (byteAt l) n i) j = kw (byteAt l) n i (4 * (i - n) + j) ^^^ t j from fun j hj => by
              have := beq_eq_false_iff_ne.1 hx8
              unfold kwNew
              rw [if_neg hin, if_neg (by omega : ¬ i % n = 0), if_neg (by omega), hHt.out])
            go_wp2_with fail
            all_goals
              have T6 := T1
              have K6 := K1
              have O6 := O1
              have hL6 := hL1
              have hml := htl
              clear T1 K1 O1 hL1 c0 c1 c2 c3 hRT hrT hf0 cells4z hcs4 hl1 hl2
              generalize wr.alloc (Obj.cells (arrK .u8 4 t) 39) = X at *
              generalize wr.heap.size = g at *
              generalize t = m at hmix T6 hml
          all_goals
            go_loopw [86] (fun x wk => ∃ j : Nat, x = .int .i64 j ∧ j ≤ 4 ∧ KeyAt wk (w.heap.size + 1) (kwJ (byteAt l) n i j) R ∧ At wk g .u8 4 m ∧ Row wk w.heap.size 241 ∧ Below w.heap.size w wk) (fun x _ => 4 - (intOf x).toNat)
            case atStart => exact ⟨0, rfl, by omega, by rw [kwJ_zero]; exact K6, T6, O6, hL6⟩
            case round =>
              clear K6 T6 O6 hL6
              obtain ⟨j, rfl, hj, K, T, O, hL⟩ := hrel
              by_cases hj4 : j = 4
              · subst hj4
                have hHK := Lib.hid K
                clear K T
                go_wp2_with fail
                go_round
                case rel => exact ⟨i + 1, by go_num, by omega, by rw [← kwJ_end]; exact hHK.out, O, hL⟩
                case measure => simp [intOf]; omega
              · have hdj : decide ((j : Int) < 4) = true := by simp; omega
                obtain ⟨d, hdd⟩ : ∃ d, d = i - n := ⟨_, rfl⟩
                have hwd : IntKind.i64.wrap ((i : Int) - (n : Int)) = (d : Int) := by rw [IntKind.wrap_i64]; omega
                have k1 := K.byte (i := d * 4 + j) (by omega)
                rw [kwJ_old _ _ _ _ _ (by omega)] at k1
                have k2 := K.byte (i := i * 4 + j) (by omega)
                have k3 := K.row.frozen (i * 4 + j)
                have k4 := T.cell (i := j) (by omega)
                obtain ⟨v, hv⟩ : ∃ v, v = kw (byteAt l) n i (d * 4 + j) := ⟨_, rfl⟩
                rw [← hv] at k1
                have hvl : v < 256 := by rw [hv]; exact hHkl.out _
                have hx := xor_8 hvl (hml j (by omega))
                have hnew := Lib.hid (show v ^^^ m j = kwNew (byteAt l) n i (kw (byteAt l) n i) j by rw [hmix.out j (by omega), hv, hdd, Nat.mul_comm])
                have b1 : (0 : Int) ≤ (d : Int) := by omega
                have b2 : (d : Int) < 60 := by omega
                have b3 : (0 : Int) ≤ (j : Int) := by omega
                have b4 : (j : Int) < 4 := by omega
                have b5 : (0 : Int) ≤ (i : Int) := by omega
                have b6 : (i : Int) < 60 := by omega
                have hHK := Lib.hid K
                have hHT := Lib.hid T
                clear K T hv hdd
                go_wp2_with fail
                go_region
                all_goals
                  go_wp2_with fail
                  go_round
                  case rel =>
                    refine ⟨j + 1, by go_num, by omega, ?_, (hHT.out.farC (by simp; omega)).drew, row_setCell.2 O, (hL.setCell (by simp) _).drew⟩
                    have hk := (hHK.out.set (p := i * 4 + j) (by omega) (v ^^^ m j)).drew
                    rw [hnew.out, Nat.mul_comm i 4, kwJ_step _ _ _ _ (by omega), ← hnew.out] at hk
                    rw [Nat.mul_comm i 4]
                    exact hk
                  case measure => simp [intOf]; omega
end Go.Proofs.Ytjihklaocgmlpaa
