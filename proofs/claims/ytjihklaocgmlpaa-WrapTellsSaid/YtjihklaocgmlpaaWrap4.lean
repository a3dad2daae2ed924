/- Contract of the document's Wrapped. -/
import Derived.Test.YtjihklaocgmlpaaWrap2
import Derived.Test.YtjihklaocgmlpaaMode5
namespace Go.Proofs.Ytjihklaocgmlpaa
open Go.ChangeShapes Go.WideShapes Go.ChangeAt Go.RowKit
set_option maxHeartbeats 4000000
set_option maxRecDepth 100000
attribute [local go_sem ↓] load_a16 store_a16 execl_a16 execs_a16 load_b8 store_b8
attribute [local go_sem] isHead_mk blkOf_mk isAgg_mk cellsV_mk row_drew rowAt_drew row_new_cells row_old rowAt_new rowAt_old setRow_new bs_join bs_size

/-- A row of strings. -/
structure SAt (w : World) (g m : Nat) (f : Nat → List UInt8) : Prop where
  row : Row w g m
  cell : ∀ i < m, w.cell? ⟨g, i, none⟩ = some (.string ⟨(f i).toArray⟩)
def updS (f : Nat → List UInt8) (i : Nat) (x : List UInt8) : Nat → List UInt8 := fun q => if q = i then x else f q
section
variable {w w' : World} {g m : Nat} {f f' : Nat → List UInt8}
theorem SAt.lt (h : SAt w g m f) : g < w.heap.size := h.row.lt
theorem SAt.step (h : SAt w g m f) (hb : Below w.heap.size w w') : SAt w' g m f := ⟨row_below h.row hb h.row.lt, fun i hi => (hb.cell (p := ⟨g, i, none⟩) h.row.lt).trans (h.cell i hi)⟩
theorem SAt.old (h : SAt w g m f) (o : Obj) : SAt (w.alloc o) g m f := h.step (below_alloc _ _)
theorem SAt.drew (h : SAt w g m f) : SAt w.drew g m f := ⟨h.row, h.cell⟩
theorem SAt.far (h : SAt w g m f) {g' : Nat} {c : Array Value} (hg : g ≠ g') : SAt (w.setRow g' c) g m f := ⟨(row_setRow_far hg).2 h.row, fun i hi => (cell_setRow_other w g' c ⟨g, i, none⟩ hg).trans (h.cell i hi)⟩
theorem SAt.farC (h : SAt w g m f) {a : Addr} {v : Value} (hg : g ≠ a.block) : SAt (w.setCell a v) g m f := ⟨row_setCell.2 h.row, fun i hi => (World.cell?_setCell_other w a ⟨g, i, none⟩ v (fun e => hg (by rw [e]))).trans (h.cell i hi)⟩
theorem SAt.congr (h : SAt w g m f) (e : ∀ i < m, f i = f' i) : SAt w g m f' := ⟨h.row, fun i hi => by rw [h.cell i hi, e i hi]⟩
theorem SAt.set (h : SAt w g m f) {i : Nat} (hi : i < m) (x : List UInt8) : SAt (w.setCell ⟨g, i, none⟩ (.string ⟨x.toArray⟩)) g m (updS f i x) := by
  have hR := row_setCell (a := ⟨g, i, none⟩) (v := .string ⟨x.toArray⟩) |>.2 h.row
  refine ⟨hR, fun q hq => ?_⟩
  rw [hR.cell, rowAt_setCell_same]
  unfold updS
  by_cases e : q = i
  · subst e
    rw [if_pos rfl, Array.getElem?_setIfInBounds_self_of_lt (by rw [h.row.size]; exact hq)]
  · rw [if_neg e, Array.getElem?_setIfInBounds_ne (Ne.symm e), ← h.row.cell, h.cell q hq]
end
theorem takeB (l : List UInt8) (a n : Nat) (h : a + n ≤ l.length) : (l.drop a).take n = bLs (fun i => byteAt l (a + i)) n := by
  apply List.ext_getElem?
  intro p
  by_cases hp : p < n
  · rw [List.getElem?_take_of_lt hp, List.getElem?_drop, List.getElem?_eq_getElem (by omega)]
    simp [bLs, hp, byteAt, List.getElem?_eq_getElem (show a + p < l.length by omega)]
  · rw [List.getElem?_eq_none (by simp; omega), List.getElem?_eq_none (by rw [bLs_len]; omega)]
/-- Block q of a row, as a text. -/
def rowS (f : Nat → Nat) (q : Nat) : List UInt8 := bLs (fun i => f (8 * q + i)) 8
theorem rowS_len (f : Nat → Nat) (q : Nat) : (rowS f q).length = 8 := bLs_len _ _
def rowsS (f : Nat → Nat) (j : Nat) : Nat → List UInt8 := fun q => if 1 ≤ q ∧ q ≤ j then rowS f q else []
theorem byteAt_bLs {f : Nat → Nat} {n p : Nat} (hp : p < n) (hf : f p < 256) : byteAt (bLs f n) p = f p := by
  unfold byteAt bLs
  rw [List.getElem?_map, List.getElem?_range hp]
  simp
  omega
theorem byteAt_app (a b : List UInt8) (p : Nat) : byteAt (a ++ b) p = if p < a.length then byteAt a p else byteAt b (p - a.length) := by
  unfold byteAt
  by_cases h : p < a.length
  · rw [List.getElem?_append_left h, if_pos h]
  · rw [List.getElem?_append_right (by omega), if_neg h]
theorem lit166 : #[Value.int IntKind.u8 166, Value.int IntKind.u8 166, Value.int IntKind.u8 166, Value.int IntKind.u8 166, Value.int IntKind.u8 166, Value.int IntKind.u8 166, Value.int IntKind.u8 166, Value.int IntKind.u8 166] = arrK .u8 8 fun _ => 166 := by kernel_rfl
/-- Part of a row of bytes, made a string. -/
theorem conv_part {w : World} {g N o n c : Nat} {f : Nat → Nat} (T : At w g .u8 N f) (ho : o + n ≤ N) (hf : ∀ i < N, f i < 256) : (convert 25 9 (.slice (some ⟨g, o, none⟩) n c)).run Try.prog w = .ok (.string ⟨(bLs (fun i => f (o + i)) n).toArray⟩) w := by
  have h : Rd w (g + 1) (some ⟨g, o, none⟩) (bytesV (bLs (fun i => f (o + i)) n)) := fun j u hu => by
    rw [bytesV_bLs (fun i hi => hf _ (by omega)), Array.getElem?_toList] at hu
    have hj : j < n := by have := (Array.getElem?_eq_some_iff.1 hu).1; simpa [arrK_size] using this
    rw [arrK_at hj] at hu
    refine ⟨_, rfl, by simp, ?_⟩
    rw [add0, T.cell (by omega), ← hu]
  have h2 := conv_rd Try.underlying25 Try.underlying5 Try.underlying9 (c := c) h
  rw [bLs_len] at h2
  exact h2
theorem madeS {g m : Nat} {w : World} {t : TypeId} (hg : g = w.heap.size) : SAt (w.alloc (.cells (madeCells #[.string ⟨#[]⟩] m) t)) g m fun _ => [] := by
  have hR : Row (w.alloc (.cells (madeCells #[.string ⟨#[]⟩] m) t)) g m := (row_new hg).2 (by rw [size_madeCells])
  refine ⟨hR, fun i hi => ?_⟩
  rw [hR.cell, rowAt_new hg]
  simp [madeCells, hi, Nat.mod_one]
/-- One step, seen by the parts. -/
theorem wst_parts (F : Nat → Nat) (R t : Nat) (f : Nat → Nat) {i n : Nat} (hi1 : 1 ≤ i) (hin : i ≤ n) :
    ∀ q < n + 1, updS (rowsS f n) i (bLs (fun k => encB F R (wblk f (8 * i)) (8 + k)) 8) q = rowsS (wst F R t (8 * i) f) n q := fun q hq => by
  unfold updS rowsS
  by_cases h : q = i
  · subst h
    rw [if_pos rfl, if_pos ⟨hi1, hin⟩]
    refine bLs_congr fun k hk => ?_
    unfold wst wput cntF
    rw [if_neg (by omega), if_pos (by omega), if_neg (by omega), show 8 + (8 * q + k - 8 * q) = 8 + k by omega]
  · rw [if_neg h]
    by_cases h1 : 1 ≤ q ∧ q ≤ n
    · rw [if_pos h1, if_pos h1]
      refine bLs_congr fun k hk => ?_
      unfold wst wput
      rw [if_neg (by omega), if_neg (by omega)]
    · rw [if_neg h1, if_neg h1]
theorem wst_head (F : Nat → Nat) (R t p : Nat) (f : Nat → Nat) : ∀ q < 8, cntF (encB F R (wblk f p)) t q = wst F R t p f q := fun q hq => by
  unfold wst wput
  rw [if_pos hq]

theorem ref_WrappedBad (l : List UInt8) (C R : Nat) (F : Nat → Nat) (w : World) (hbad : badW l) (hlb : l.length ≤ 140737488351232) :
    Calls Try.prog 54 #[.pointer (some ⟨C, 0, none⟩), .string ⟨l.toArray⟩] w (RetOpenS (wrapR F R l) w) := by
  have hr0 : wrapR F R l = ([], 1) := if_pos hbad
  rw [hr0]
  obtain ⟨L, hl⟩ : ∃ L, L = l.length := ⟨_, rfl⟩
  obtain ⟨r, hr⟩ : ∃ r, r = L % 8 := ⟨_, rfl⟩
  obtain ⟨n, hn⟩ : ∃ n, n = L / 8 := ⟨_, rfl⟩
  unfold badW at hbad
  rw [← hl, ← hr] at hbad
  have hrem : (L : Int) % 8 = (r : Int) := by omega
  have hrt : Int.tmod (L : Int) 8 = (r : Int) := by rw [Int.tmod_eq_emod_of_nonneg (by omega)]; omega
  have hdv : (L : Int) / 8 = (n : Int) := by omega
  have hdt : Int.tdiv (L : Int) 8 = (n : Int) := by rw [Int.tdiv_eq_ediv_of_nonneg (by omega)]; omega
  have hll : l.length = L := hl.symm
  have hnb : n ≤ 140737488351232 := by omega
  have hlb : L ≤ 140737488351232 := by omega
  have hfin : RetOpenS ([], 1) w (.returned (.tuple #[.string ⟨#[]⟩, .int .i64 1])) w := ⟨rfl, Below.refl _ _⟩
  have hF := Lib.hid hfin
  have hcases : 0 < r ∨ (r = 0 ∧ n < 2) ∨ (r = 0 ∧ 8 < n) := by omega
  clear hfin hr hl hn hr0 hbad
  go_enter Try.func54, Try.ntmps54
  rcases hcases with h | ⟨h, h1⟩ | ⟨h, h1⟩
  · have h2 : (0 : Int) < (r : Int) := by omega
    go_wp2_with fail
    exact bodyPost_ret (results_tmp2 (t := 4) (u := 5) rfl _ _ _) rfl hF.out
  · subst h
    rw [show ((0 : Nat) : Int) = 0 from rfl] at hrem hrt
    have h3 : (n : Int) < 2 := by omega
    go_wp2_with fail
    exact bodyPost_ret (results_tmp2 (t := 4) (u := 5) rfl _ _ _) rfl hF.out
  · subst h
    rw [show ((0 : Nat) : Int) = 0 from rfl] at hrem hrt
    have h3 : decide ((n : Int) < 2) = false := by simp; omega
    have h4 : (8 : Int) < (n : Int) := by omega
    go_wp2_with fail
    exact bodyPost_ret (results_tmp2 (t := 4) (u := 5) rfl _ _ _) rfl hF.out
theorem ref_WrappedOk (l : List UInt8) (L n C gw cap N R : Nat) (F : Nat → Nat) (w : World) (hC : CipAt w C gw cap N F) (hN : N = 4 * (R + 1)) (hR : R ≤ 14) (hF : ∀ p, F p < 256) (hl : l.length = L) (hL8 : L = 8 * n) (hn2 : 2 ≤ n) (hn8 : n ≤ 8) :
    Calls Try.prog 54 #[.pointer (some ⟨C, 0, none⟩), .string ⟨l.toArray⟩] w (RetOpenS (wrapR F R l) w) := by
  obtain ⟨m, hm⟩ : ∃ m, m = n + 1 := ⟨_, rfl⟩
  have hr0 : wrapR F R l = (bLs (wrapS F R n (wr0 l) (n * 6)) (8 + 8 * n), 0) := by
    have hnb : ¬ badW l := by unfold badW; rw [hl]; omega
    unfold wrapR
    rw [if_neg hnb, hl, hL8, show 8 * n / 8 = n by omega, show 6 * n = n * 6 by omega]
  obtain ⟨r0, hr0e⟩ : ∃ r, r = wrapR F R l := ⟨_, rfl⟩
  rw [← hr0e] at hr0 ⊢
  have hHr := Lib.hid hr0
  clear hr0e hr0
  have hfl := fun t ht q => wrapS_lt (n := n) (R := R) hF (wr0_lt l) t ht q
  have hA0 : At (w.alloc (Obj.cells (arrK .u8 8 fun _ => 166) 132)) w.heap.size .u8 8 fun _ => 166 := At.new _ rfl
  have hA1 := hA0.old (Obj.cells (madeCells #[.string ⟨#[]⟩] m) 9)
  have hS1 : SAt ((w.alloc (Obj.cells (arrK .u8 8 fun _ => 166) 132)).alloc (Obj.cells (madeCells #[.string ⟨#[]⟩] m) 9)) (w.heap.size + 1) m fun _ => [] := madeS (by simp)
  have hC1 : CipAt ((w.alloc (Obj.cells (arrK .u8 8 fun _ => 166) 132)).alloc (Obj.cells (madeCells #[.string ⟨#[]⟩] m) 9)) C gw cap N F := (hC.step (below_alloc _ _)).step (below_alloc _ _)
  have hL1 : Below w.heap.size w ((w.alloc (Obj.cells (arrK .u8 8 fun _ => 166) 132)).alloc (Obj.cells (madeCells #[.string ⟨#[]⟩] m) 9)) := by go_grown
  have hc8 := arrK_cells .u8 8 fun _ => 166
  rw [← lit166] at hA0 hA1 hS1 hC1 hL1 hc8
  have hz8 : Cells #[Value.int IntKind.u8 0, Value.int IntKind.u8 0, Value.int IntKind.u8 0, Value.int IntKind.u8 0, Value.int IntKind.u8 0, Value.int IntKind.u8 0, Value.int IntKind.u8 0, Value.int IntKind.u8 0] 8 := by rw [zeroB8]; exact arrK_cells _ _ _
  have hrem : (L : Int) % 8 = 0 := by omega
  have hrt : Int.tmod (L : Int) 8 = 0 := by rw [Int.tmod_eq_emod_of_nonneg (by omega)]; omega
  have hdv : (L : Int) / 8 = (n : Int) := by omega
  have hdt : Int.tdiv (L : Int) 8 = (n : Int) := by rw [Int.tdiv_eq_ediv_of_nonneg (by omega)]; omega
  have h3 : decide ((n : Int) < 2) = false := by simp; omega
  have h4 : decide ((8 : Int) < (n : Int)) = false := by simp; omega
  have hmn : (n : Int) + 1 = (m : Int) := by omega
  have hmk : ∀ W : World, (Instr.makeSlice 133 (.int .i64 (m : Nat)) (.int .i64 (m : Nat))).run Try.prog W = .ok (.slice (some ⟨W.heap.size, 0, none⟩) m m) (W.alloc (.cells (madeCells #[.string ⟨#[]⟩] m) 9)) := fun W =>
    run_make_row' (P := Try.prog) 133 9 (.string ⟨#[]⟩) 16 Try.underlying133 (by kernel_rfl) rfl .i64 .i64 m (by omega) (by omega) W
  have hCw : C < w.heap.size := hC.ltC
  have hGw : gw < w.heap.size := hC.ltg
  have hHL := Lib.hid hL8
  have hHm := Lib.hid hm
  have hL64 : L ≤ 64 := by omega
  have hm9 : m ≤ 9 := by omega
  clear hL8 hm hA0
  go_enter Try.func54, Try.ntmps54
  go_wp2_with fail
  rw [lit166]
  rw [lit166] at hA1 hS1 hC1 hL1
  generalize (w.alloc (Obj.cells (arrK .u8 8 fun _ => 166) 132)).alloc (Obj.cells (madeCells #[.string ⟨#[]⟩] m) 9) = W1 at *
  obtain ⟨ga, hga⟩ : ∃ g, g = w.heap.size := ⟨_, rfl⟩
  obtain ⟨gr, hgr⟩ : ∃ g, g = w.heap.size + 1 := ⟨_, rfl⟩
  rw [← hgr, ← hga]
  rw [← hga] at hA1
  rw [← hgr] at hS1
  have hk0 : w.heap.size ≤ ga := by omega
  have hk1 : ga < gr := by omega
  clear hgr hga hmk hrem hrt hmn h3 h4 hc8 hdv hdt
  go_loopw [9] (fun x wr => ∃ j i : Nat, x = .int .i64 i ∧ i = j + 1 ∧ j ≤ n ∧ SAt wr gr m (rowsS (wr0 l) j) ∧ At wr ga .u8 8 (fun _ => 166) ∧ CipAt wr C gw cap N F ∧ Below w.heap.size w wr) (fun x _ => 10 - (intOf x).toNat)
  case atStart => exact ⟨0, 1, rfl, rfl, by omega, hS1.congr (fun q _ => by unfold rowsS; rw [if_neg (by omega)]), hA1, hC1, hL1⟩
  case round =>
    clear hS1 hA1 hC1 hL1
    obtain ⟨j, i, rfl, hij, hj, S, T, Cp, hL⟩ := hrel
    by_cases hjn : j = n
    · have hd : ¬ (i : Int) ≤ (n : Int) := by omega
      have T0 : At wr ga .u8 8 (wrapS F R n (wr0 l) 0) := T.congr (fun p hp => by
        show 166 = wr0 l p
        unfold wr0
        rw [if_pos hp])
      subst hjn
      clear T hij
      go_wp2_with fail
      go_loopw [50] (fun x wr => ∃ b : Nat, x = .int .i64 b ∧ b ≤ 6 ∧ At wr ga .u8 8 (wrapS F R j (wr0 l) (j * b)) ∧ SAt wr gr m (rowsS (wrapS F R j (wr0 l) (j * b)) j) ∧ CipAt wr C gw cap N F ∧ Below w.heap.size w wr) (fun x _ => 6 - (intOf x).toNat)
      case atStart => exact ⟨0, rfl, by omega, T0, S, Cp, hL⟩
      case round =>
        clear T0 S Cp hL
        obtain ⟨b, rfl, hb6, T, S, Cp, hL⟩ := hrel
        by_cases hb : b = 6
        · have hw : ¬ (b : Int) < 6 := by omega
          rw [hb] at T S
          have hfl6 := fun q => hfl (j * 6) (by omega) q
          have hHr2 := hHr.out
          obtain ⟨f, hf⟩ : ∃ f, f = wrapS F R j (wr0 l) (j * 6) := ⟨_, rfl⟩
          rw [← hf] at T S hfl6 hHr2
          have hHr3 := Lib.hid hHr2
          have hcv := conv_part (o := 0) (n := 8) (c := 8) T (by omega) (fun i _ => hfl6 i)
          simp only [Nat.zero_add] at hcv
          have h1m : (1 : Int) ≤ (m : Int) := by have := hHm.out; omega
          have hm1 : m - 1 = j := by have := hHm.out; omega
          have hm1n : ¬ m = 1 := by omega
          clear hHr2 hf T Cp hfl hb
          go_wp2_with fail
          clear hcv
          go_loopw [13, 88] (fun o x wx => ∃ (k : Nat) (ou : List UInt8), o = .string ⟨ou.toArray⟩ ∧ x = .int .i64 k ∧ ou = bLs f (8 + 8 * k) ∧ k ≤ j ∧ SAt wx gr m (rowsS f j) ∧ Below w.heap.size w wx) (fun _ x _ => 10 - (intOf x).toNat)
          case atStart => exact ⟨0, _, rfl, rfl, rfl, by omega, S, hL⟩
          case round =>
            clear S hL
            obtain ⟨k, ou, rfl, rfl, hou, hkj, S, hL⟩ := hrel
            by_cases hk : k = j
            · have hw1 : ¬ (k : Int) < (j : Int) := by omega
              have hF : RetOpenS r0 w (.returned (.tuple #[.string ⟨ou.toArray⟩, .int .i64 0])) wr := by
                rw [hHr3.out, hou, hk]
                exact ⟨rfl, hL⟩
              have hHF := Lib.hid hF
              clear hF hou S hk
              go_wp2_with fail
              exact bodyPost_ret (results_tmp2 (t := 4) (u := 5) rfl _ _ _) rfl hHF.out
            · have hd : (k : Int) < (j : Int) := by omega
              have hk0 : (0 : Int) ≤ (k : Int) := by omega
              have hc1 := S.cell (1 + k) (by have := hHm.out; omega)
              rw [show rowsS f j (1 + k) = rowS f (1 + k) from if_pos ⟨by omega, by omega⟩] at hc1
              obtain ⟨x, hx⟩ : ∃ x, x = rowS f (1 + k) := ⟨_, rfl⟩
              rw [← hx] at hc1
              have hxl : x.length = 8 := by rw [hx, rowS_len]
              obtain ⟨q, hq⟩ : ∃ q, q = 8 + 8 * k := ⟨_, rfl⟩
              have houl : ou.length = q := by rw [hou, bLs_len, hq]
              have hle : (9223372036854775807 < q + 8) = False := eq_false (by omega)
              have hcat : ou ++ x = bLs f (8 + 8 * (k + 1)) := by
                rw [show 8 + 8 * (k + 1) = 8 + 8 * k + 8 by omega, bLs_add, hou, hx]
                congr 1
                unfold rowS
                refine bLs_congr fun i _ => ?_
                congr 1
                omega
              have hHc := Lib.hid hcat
              have hS := Lib.hid S
              clear hx hq hou hcat S hk
              go_wp2_with fail
              go_round
              case rel => exact ⟨k + 1, ou ++ x, rfl, by go_num, hHc.out, by omega, hS.out, hL⟩
              case measure => simp [intOf]; omega
        · have hw : (b : Int) < 6 := by omega
          go_wp2_with fail
          go_loopw [11] (fun x wx => ∃ s i : Nat, x = .int .i64 i ∧ i = s + 1 ∧ s ≤ j ∧ At wx ga .u8 8 (wrapS F R j (wr0 l) (j * b + s)) ∧ SAt wx gr m (rowsS (wrapS F R j (wr0 l) (j * b + s)) j) ∧ CipAt wx C gw cap N F ∧ Below w.heap.size w wx) (fun x _ => 10 - (intOf x).toNat)
          case atStart => exact ⟨0, 1, rfl, rfl, by omega, T, S, Cp, hL⟩
          case round =>
            clear T S Cp hL
            obtain ⟨s, i, rfl, his, hsj, T, S, Cp, hL⟩ := hrel
            by_cases hs : s = j
            · have hd : ¬ (i : Int) ≤ (j : Int) := by omega
              rw [hs, show j * b + j = j * (b + 1) by rw [Nat.mul_add, Nat.mul_one]] at T S
              clear his
              go_wp2_with fail
              go_round
              case rel => exact ⟨b + 1, by go_num, by omega, T, S, Cp, hL⟩
              case measure => simp [intOf]; omega
            · have hd : (i : Int) ≤ (j : Int) := by omega
              have hi0 : (0 : Int) ≤ (i : Int) := by omega
              have him : (i : Int) < (m : Int) := by have := hHm.out; omega
              have hin : i < m := by have := hHm.out; omega
              have hjb : j * b ≤ 40 := by
                have := Nat.mul_le_mul hn8 (show b ≤ 5 by omega)
                omega
              obtain ⟨x, hx⟩ : ∃ x, x = j * b := ⟨_, rfl⟩
              obtain ⟨t, ht⟩ : ∃ t, t = x + i := ⟨_, rfl⟩
              rw [← hx] at hjb
              have hjbI : (j : Int) * (b : Int) = (x : Int) := by rw [hx]; exact (Int.natCast_mul j b).symm
              have hti : (x : Int) + (i : Int) = (t : Int) := by omega
              have ht48 : t ≤ 48 := by omega
              obtain ⟨f, hf⟩ : ∃ f, f = wrapS F R j (wr0 l) (j * b + s) := ⟨_, rfl⟩
              have hfl8 : ∀ q, f q < 256 := fun q => by rw [hf]; exact hfl _ (by omega) q
              have hnx : wrapS F R j (wr0 l) (j * b + (s + 1)) = wst F R t (8 * i) f := by
                show wst F R (j * b + s + 1) (8 * ((j * b + s) % j + 1)) (wrapS F R j (wr0 l) (j * b + s)) = _
                rw [← hf, Nat.mul_add_mod, Nat.mod_eq_of_lt (by omega), ht, hx, his]
                rfl
              rw [← hf] at T S
              obtain ⟨bk, hbk⟩ : ∃ f', f' = wblk f (8 * i) := ⟨_, rfl⟩
              have hbl : ∀ q, bk q < 256 := fun q => by rw [hbk]; exact wblk_lt hfl8 _ q
              obtain ⟨en, hen⟩ : ∃ f', f' = encB F R bk := ⟨_, rfl⟩
              have hel : ∀ q < 16, en q < 256 := fun q hq => by rw [hen]; exact encB_lt hF (fun q _ => hbl q) q hq
              obtain ⟨a8, ha8⟩ : ∃ x, x = bLs f 8 := ⟨_, rfl⟩
              obtain ⟨ri, hri⟩ : ∃ x, x = rowS f i := ⟨_, rfl⟩
              have ha8l : a8.length = 8 := by rw [ha8, bLs_len]
              have hril : ri.length = 8 := by rw [hri, rowS_len]
              have hcat : ∀ q < 16, byteAt (a8 ++ ri) q = bk q := fun q hq => by
                rw [byteAt_app, ha8l, hbk]
                unfold wblk
                by_cases h : q < 8
                · rw [if_pos h, if_pos h, ha8, byteAt_bLs h (hfl8 _)]
                · rw [if_neg h, if_neg h, hri]
                  unfold rowS
                  exact byteAt_bLs (by omega) (hfl8 _)
              have hSx := Lib.hid (fun W => ref_SixteenOf (a8 ++ ri) bk W (by rw [List.length_append, ha8l, hril]; omega) hcat)
              have hEn := Lib.hid (fun W (hW : CipAt W C gw cap N F) => ref_Encrypt bk F C gw cap N R W hW hN hR hF (fun q _ => hbl q))
              rw [← hen] at hEn
              have hcvA := Lib.hid (fun (V : World) (hV : At V ga .u8 8 f) => show (convert 25 9 (.slice (some ⟨ga, 0, none⟩) 8 8)).run Try.prog V = .ok (.string ⟨a8.toArray⟩) V from by
                have h := conv_part (o := 0) (n := 8) (c := 8) hV (by omega) (fun i _ => hfl8 i)
                simp only [Nat.zero_add] at h
                rw [ha8]
                exact h)
              have hSi := Lib.hid (fun (V : World) (hV : SAt V gr m (rowsS f j)) => show V.cell? ⟨gr, i, none⟩ = some (.string ⟨ri.toArray⟩) from by
                rw [hV.cell i hin, hri]
                unfold rowsS
                rw [if_pos ⟨by omega, by omega⟩])
              have hhead : ∀ q < 8, cntF en t q = wst F R t (8 * i) f q := fun q hq => by rw [hen, hbk]; exact wst_head F R t (8 * i) f q hq
              have hparts : ∀ q < m, updS (rowsS f j) i (bLs (fun k => en (8 + k)) 8) q = rowsS (wst F R t (8 * i) f) j q := fun q hq => by
                rw [hen, hbk]
                exact wst_parts F R t f (by omega) (by omega) q (by have := hHm.out; omega)
              rw [← hnx] at hhead hparts
              have hHead := Lib.hid hhead
              have hParts := Lib.hid hparts
              have hHis := Lib.hid his
              have hz16 : Cells #[Value.int IntKind.u8 0, Value.int IntKind.u8 0, Value.int IntKind.u8 0, Value.int IntKind.u8 0, Value.int IntKind.u8 0, Value.int IntKind.u8 0, Value.int IntKind.u8 0, Value.int IntKind.u8 0, Value.int IntKind.u8 0, Value.int IntKind.u8 0, Value.int IntKind.u8 0, Value.int IntKind.u8 0, Value.int IntKind.u8 0, Value.int IntKind.u8 0, Value.int IntKind.u8 0, Value.int IntKind.u8 0] 16 := by rw [zeroA16]; exact arrK_cells _ _ _
              have hce := arrK_cells .u8 16 en
              have hle : (9223372036854775807 < 8 + 8) = False := eq_false (by omega)
              clear hx ht hf hnx hbk hen ha8 hri hcat hhead hparts his hfl8
              go_upto_region 16 with (fail)
              have hTt := Lib.hid T
              have hSs := Lib.hid S
              have hCc := Lib.hid Cp
              clear T S Cp hz8
              generalize ha0 : Act.mk _ _ = a0
              have e0 : a0.tmps[0]?.getD undef = .pointer (some ⟨C, 0, none⟩) := by rw [← ha0]; rfl
              have e7 : a0.tmps[7]?.getD undef = .pointer (some ⟨ga, 0, none⟩) := by rw [← ha0]; rfl
              have e8 : a0.tmps[8]?.getD undef = .slice (some ⟨gr, 0, none⟩) m m := by rw [← ha0]; rfl
              have e11 : a0.tmps[11]?.getD undef = .int .i64 (i : Nat) := by rw [← ha0]; rfl
              have hz0 : a0.tmps.size = 97 := by rw [← ha0]; rfl
              have hha0 := Lib.hid ha0
              clear ha0
              refine wp_region_fresh ⟨fun jx_ => match jx_ with | 0 => some (.pointer (some ⟨C, 0, none⟩)) | 1 => some (.slice (some ⟨ga, 0, none⟩) 8 8) | 2 => some (.string ⟨a8.toArray⟩) | 3 => some (.slice (some ⟨gr, 0, none⟩) m m) | 4 => some (.int .i64 (i : Nat)) | 5 => some (.pointer (some ⟨gr, i, none⟩)) | 6 => some (.string ⟨ri.toArray⟩) | 7 => some (.string ⟨(a8 ++ ri).toArray⟩) | 8 => some (.agg (arrK .u8 16 bk)) | 9 => some (.agg (arrK .u8 16 en)) | _ => none, fun jx_ => match jx_ with | 10 => some 16 | _ => none, fun jx_ => match jx_ with | 11 => some 10 | _ => none, fun jx_ => match jx_ with | 11 => arrK .u8 16 en | _ => #[]⟩ (by kernel_rfl) (by kernel_rfl) (by kernel_rfl) (slotsOk_of hz0 (by kernel_rfl)) rfl ⟨?_, ?_, ?_, ?_, ?_, ?_, ?_, ?_, ?_, ?_, ?_, ?_, trivial⟩ ?_
              · refine fstep_val rfl rfl (calm_step rfl fun aa ω κ hb hu hc hK => ?_)
                have h0 : aa.tmps[0]?.getD undef = .pointer (some ⟨C, 0, none⟩) := (hu 0 rfl).trans e0
                have hk := Lib.hid (fun w1 (h : Below ω.heap.size ω w1) => hK (.pointer (some ⟨C, 0, none⟩)) w1 rfl h)
                clear hK hu hc
                go_simp
                exact hk.out _ (Below.refl _ _)
              · refine fstep_val rfl rfl (calm_step rfl fun aa ω κ hb hu hc hK => ?_)
                have h7 : aa.tmps[7]?.getD undef = .pointer (some ⟨ga, 0, none⟩) := (hu 7 rfl).trans e7
                have hk := Lib.hid (fun w1 (h : Below ω.heap.size ω w1) => hK (.slice (some ⟨ga, 0, none⟩) 8 8) w1 rfl h)
                clear hK hu hc
                go_simp
                exact hk.out _ (Below.refl _ _)
              · refine fstep_val rfl rfl (calm_step rfl fun aa ω κ hb hu hc hK => ?_)
                have h59 : aa.tmps[59]?.getD undef = .slice (some ⟨ga, 0, none⟩) 8 8 := hc 1 59 rfl rfl
                have hk := Lib.hid (fun w1 (h : Below ω.heap.size ω w1) => hK (.string ⟨a8.toArray⟩) w1 rfl h)
                clear hK hu hc
                have hcv := hcvA.out ω (hTt.out.step hb)
                go_simp
                exact hk.out _ (Below.refl _ _)
              · refine fstep_val rfl rfl (calm_step rfl fun aa ω κ hb hu hc hK => ?_)
                have h8 : aa.tmps[8]?.getD undef = .slice (some ⟨gr, 0, none⟩) m m := (hu 8 rfl).trans e8
                have hk := Lib.hid (fun w1 (h : Below ω.heap.size ω w1) => hK (.slice (some ⟨gr, 0, none⟩) m m) w1 rfl h)
                clear hK hu hc
                go_simp
                exact hk.out _ (Below.refl _ _)
              · refine fstep_val rfl rfl (calm_step rfl fun aa ω κ hb hu hc hK => ?_)
                have h11 : aa.tmps[11]?.getD undef = .int .i64 (i : Nat) := (hu 11 rfl).trans e11
                have hk := Lib.hid (fun w1 (h : Below ω.heap.size ω w1) => hK (.int .i64 (i : Nat)) w1 rfl h)
                clear hK hu hc
                go_simp
                exact hk.out _ (Below.refl _ _)
              · refine fstep_val rfl rfl (calm_step rfl fun aa ω κ hb hu hc hK => ?_)
                have h61 : aa.tmps[61]?.getD undef = .slice (some ⟨gr, 0, none⟩) m m := hc 3 61 rfl rfl
                have h62 : aa.tmps[62]?.getD undef = .int .i64 (i : Nat) := hc 4 62 rfl rfl
                have hk := Lib.hid (fun w1 (h : Below ω.heap.size ω w1) => hK (.pointer (some ⟨gr, i, none⟩)) w1 rfl h)
                clear hK hu hc
                go_simp
                exact hk.out _ (Below.refl _ _)
              · refine fstep_val rfl rfl (calm_step rfl fun aa ω κ hb hu hc hK => ?_)
                have h63 : aa.tmps[63]?.getD undef = .pointer (some ⟨gr, i, none⟩) := hc 5 63 rfl rfl
                have hk := Lib.hid (fun w1 (h : Below ω.heap.size ω w1) => hK (.string ⟨ri.toArray⟩) w1 rfl h)
                clear hK hu hc
                have hc1 := hSi.out ω (hSs.out.step hb)
                go_simp
                exact hk.out _ (Below.refl _ _)
              · refine fstep_val rfl rfl (calm_step rfl fun aa ω κ hb hu hc hK => ?_)
                have h60 : aa.tmps[60]?.getD undef = .string ⟨a8.toArray⟩ := hc 2 60 rfl rfl
                have h64 : aa.tmps[64]?.getD undef = .string ⟨ri.toArray⟩ := hc 6 64 rfl rfl
                have hk := Lib.hid (fun w1 (h : Below ω.heap.size ω w1) => hK (.string ⟨(a8 ++ ri).toArray⟩) w1 rfl h)
                clear hK hu hc
                go_simp
                exact hk.out _ (Below.refl _ _)
              · refine fstep_val rfl rfl (calm_step rfl fun aa ω κ hb hu hc hK => ?_)
                have h65 : aa.tmps[65]?.getD undef = .string ⟨(a8 ++ ri).toArray⟩ := hc 7 65 rfl rfl
                have hk := Lib.hid (fun w1 (h : Below ω.heap.size ω w1) => hK (.agg (arrK .u8 16 bk)) w1 rfl h)
                clear hK hu hc
                go_simp
                go_at_call 93
                refine (hSx.out _).mono ?_
                rintro e w1 ⟨rfl, hb1⟩
                exact hk.out _ hb1
              · refine fstep_val rfl rfl (calm_step rfl fun aa ω κ hb hu hc hK => ?_)
                have h58 : aa.tmps[58]?.getD undef = .pointer (some ⟨C, 0, none⟩) := hc 0 58 rfl rfl
                have h66 : aa.tmps[66]?.getD undef = .agg (arrK .u8 16 bk) := hc 8 66 rfl rfl
                have hk := Lib.hid (fun w1 (h : Below ω.heap.size ω w1) => hK (.agg (arrK .u8 16 en)) w1 rfl h)
                clear hK hu hc
                go_simp
                go_at_call 43
                refine (hEn.out _ (hCc.out.step hb)).mono ?_
                rintro e w1 ⟨rfl, hb1⟩
                exact hk.out _ hb1
              · refine fstep_al (n := 16) rfl rfl fun aa ω κ hK => ?_
                have hk := Lib.hid hK
                clear hK
                go_simp
                exact hk.out _ _ hz16
              · refine fstep_st (j := 10) (n := 16) (d := 12) rfl rfl rfl rfl rfl hce.1 rfl rfl fun aa ω κ g hb hu hc hp hr hK => ?_
                have h67 : aa.tmps[67]?.getD undef = .agg (arrK .u8 16 en) := hc 9 67 rfl rfl
                have hk := Lib.hid hK
                clear hK hu hc
                have hcc := hce
                go_simp
                exact hk.out undef
              · intro a1 w1 G I
                have ha0 := hha0.out
                subst ha0
                have he := act_patch (n := 97) [false, false, false, false, false, false, false, false, false, false, false, false, true, false, false, false, false, false, false, false, false, false, false, false, false, false, false, false, false, false, false, false, false, false, false, false, false, false, false, false, false, false, false, false, false, false, false, false, false, false, false, false, false, false, false, false, false, false, true, true, true, true, true, true, true, true, true, true, false, false, false, false, false, false, false, false, false, false, false, false, false, false, false, false, false, false, false, false, false, false, false, false, false, false, false, false, false] rfl (by kernel_rfl) I.un I.sz I.df
                simp only [patch, cond_true, cond_false, Nat.reduceAdd] at he
                have hal12 := I.al 10 12 16 rfl rfl rfl
                have hT2 := Lib.hid (hTt.out.step I.bel)
                have hS2 := Lib.hid (hSs.out.step I.bel)
                have hC2 := Lib.hid (hCc.out.step I.bel)
                have hL2 := below_step I.bel hL (Nat.le_refl _)
                have X2 : At w1 (G 10) .u8 16 en := ⟨(I.blk 10 16 rfl rfl).2, (I.row 11 10 rfl rfl).2.2⟩
                have hgG : gr < G 10 := Nat.lt_of_lt_of_le hSs.out.lt (I.blk 10 16 rfl rfl).1
                clear hTt hSs hCc hL
                clear I hz0 hha0 e0 e7 e8 e11
                rw [he]
                clear he
                rw [hal12]
                clear hal12
                generalize a1.tmps[58]?.getD undef = x58 at *
                generalize a1.tmps[59]?.getD undef = x59 at *
                generalize a1.tmps[60]?.getD undef = x60 at *
                generalize a1.tmps[61]?.getD undef = x61 at *
                generalize a1.tmps[62]?.getD undef = x62 at *
                generalize a1.tmps[63]?.getD undef = x63 at *
                generalize a1.tmps[64]?.getD undef = x64 at *
                generalize a1.tmps[65]?.getD undef = x65 at *
                generalize a1.tmps[66]?.getD undef = x66 at *
                generalize a1.tmps[67]?.getD undef = x67 at *
                clear hSx hEn hcvA hSi hle hce
                have hcv := conv_part (o := 0) (n := 8) (c := 16) X2 (by omega) hel
                simp only [Nat.zero_add] at hcv
                obtain ⟨e8, he8⟩ : ∃ e, e = bLs en 8 := ⟨_, rfl⟩
                rw [show (fun i => en i) = en from rfl, ← he8] at hcv
                have hEi := Lib.hid (fun W => ref_eight e8 en W (by rw [he8, bLs_len]; omega) (fun q hq => by rw [he8, byteAt_bLs hq (hel q (by omega))]))
                have hCo := Lib.hid (fun W => ref_counted en t W (fun q hq => hel q (by omega)) (by omega))
                have hX := Lib.hid X2
                clear he8 X2
                go_wp2_with fail
                refine (hEi.out _).mono ?_
                rintro e w2 ⟨rfl, hb2⟩
                have hX3 := Lib.hid (hX.out.step hb2)
                have hT3 := Lib.hid (hT2.out.step hb2)
                have hS3 := Lib.hid (hS2.out.step hb2)
                have hC3 := Lib.hid (hC2.out.step hb2)
                have hL3 := below_step hb2 hL2 (Nat.le_refl _)
                clear hX hT2 hS2 hC2 hL2 hcv hEi hb2
                go_wp2_with fail
                refine (hCo.out _).mono ?_
                rintro e w4 ⟨rfl, hb4⟩
                have hX4 := Lib.hid (hX3.out.step hb4)
                have hRA := (hT3.out.step hb4).row
                have hS4 := Lib.hid (hS3.out.step hb4)
                have hC4 := Lib.hid (hC3.out.step hb4)
                have hL4 := below_step hb4 hL3 (Nat.le_refl _)
                have hc8 := arrK_cells .u8 8 (cntF en t)
                clear hX3 hT3 hS3 hC3 hL3 hb4 hCo
                go_upto_region 18 with (fail)
                have X5 := hX4.out.far (g' := ga) (c := arrK .u8 8 (cntF en t)) (by omega)
                have A5 : At (w4.setRow ga (arrK .u8 8 (cntF en t))) ga .u8 8 (cntF en t) := At.put hRA
                have S5 := hS4.out.far (g' := ga) (c := arrK .u8 8 (cntF en t)) (by omega)
                have C5 : CipAt (w4.setRow ga (arrK .u8 8 (cntF en t))) C gw cap N F := hC4.out.below (below_setRow (Below.refl w.heap.size _) hk0) hCw hGw
                have hL5 := below_setRow (g := ga) (c := arrK .u8 8 (cntF en t)) hL4 hk0
                clear hX4 hRA hS4 hC4 hL4 hc8
                generalize w4.setRow ga (arrK .u8 8 (cntF en t)) = W5 at *
                have hcv := conv_part (o := 8) (n := 8) (c := 8) X5 (by omega) hel
                obtain ⟨x8, hx8⟩ : ∃ e, e = bLs (fun i => en (8 + i)) 8 := ⟨_, rfl⟩
                rw [← hx8] at hcv
                have hPp := hParts.out
                rw [← hx8] at hPp
                have hHp := Lib.hid hPp
                have hc1 := S5.cell i hin
                have hfr := S5.row.frozen i
                have hS := Lib.hid S5
                clear hx8 hPp hParts S5 X5
                go_wp2_with fail
                go_round
                case rel =>
                  exact ⟨s + 1, i + 1, by go_num, by rw [hHis.out], by omega, (A5.farC (by simp; omega)).congr hHead.out, (hS.out.set hin x8).congr hHp.out, C5.below ((Below.refl w.heap.size _).setCell (by simp; omega) _) hCw hGw, hL5.setCell (by simp; omega) _⟩
                case measure => simp [intOf]; omega
    · have hd : (i : Int) ≤ (n : Int) := by omega
      have him : (i : Int) < (m : Int) := by have := hHm.out; omega
      have hi0 : (0 : Int) ≤ (i : Int) := by omega
      obtain ⟨a, ha⟩ : ∃ a, a = 8 * j := ⟨_, rfl⟩
      obtain ⟨e, he⟩ : ∃ e, e = 8 * i := ⟨_, rfl⟩
      have he1 : 8 * (i : Int) = (e : Int) := by omega
      have ha1 : (e : Int) - 8 = (a : Int) := by omega
      have heL : e ≤ L := by have := hHL.out; omega
      have hea : e = a + 8 := by omega
      obtain ⟨x, hx⟩ : ∃ x, x = rowS (wr0 l) i := ⟨_, rfl⟩
      have hsl := str_sl (P := Try.prog) Try.underlying9 l x (a : Int) (e : Int) (by omega) (by omega) (by omega) (by
        rw [Int.toNat_natCast, Int.toNat_natCast, hea, show a + 8 - a = 8 by omega, takeB l a 8 (by omega), hx]
        unfold rowS
        refine bLs_congr fun k hk => ?_
        unfold wr0
        rw [if_neg (by omega)]
        congr 1
        omega)
      have hc1 := S.cell i (by omega)
      have hfr := S.row.frozen i
      have hS := Lib.hid S
      have hHij := Lib.hid hij
      have hHx := Lib.hid hx
      clear S hx hea ha he hij
      go_wp2_with fail
      go_round
      case rel =>
        refine ⟨j + 1, i + 1, by go_num, by rw [hHij.out], by omega, (hS.out.set (by omega) x).congr (fun q hq => ?_), T.farC (by simp; omega), Cp.below ((Below.refl w.heap.size _).setCell (by simp; omega) _) hCw hGw, hL.setCell (by simp; omega) _⟩
        have h1 := hHij.out
        unfold updS rowsS
        by_cases h : q = i
        · rw [if_pos h, if_pos (by omega), hHx.out, h]
        · rw [if_neg h]
          by_cases h2 : 1 ≤ q ∧ q ≤ j
          · rw [if_pos h2, if_pos (by omega)]
          · rw [if_neg h2, if_neg (by omega)]
      case measure => simp [intOf]; omega
end Go.Proofs.Ytjihklaocgmlpaa
