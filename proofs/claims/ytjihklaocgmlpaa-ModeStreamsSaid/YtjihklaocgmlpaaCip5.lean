/- Contract of the document's NewCipher. -/
import Derived.Test.YtjihklaocgmlpaaCip
import Derived.Test.YtjihklaocgmlpaaGrow
import Derived.Test.YtjihklaocgmlpaaAes5
import Derived.Deep.DeepCutAuto
import Derived.Deep.RegionLaw
import Derived.StillTailTactics
namespace Go.Proofs.Ytjihklaocgmlpaa
open Go.ChangeShapes Go.WideShapes Go.ChangeAt Go.RowKit
set_option maxHeartbeats 4000000
set_option maxRecDepth 100000
theorem load_box {w : World} {dst : Option Tmp} {x : Operand} {tt : TypeId} {pos : String} {af : Array Edge} {gd : Option (Nat × Bool)} {a : Act} {K : Act → World → Prop} {Q : Exit → Act → World → Prop}
    (hv : IsPart (a.eval x)) (h : Row w (blkOf (a.eval x)) 513) (ho : offOf (a.eval x) + 256 ≤ 513) : Oper.wp Try.prog ⟨dst, .load 74 x, tt, pos, af, gd⟩ a w K Q ↔ K (a.put dst (.agg ((rowAt w (blkOf (a.eval x))).extract (offOf (a.eval x)) (offOf (a.eval x) + 256)))) w :=
  wp_load_part Try.underlying74 rfl (by kernel_rfl) hv h ho
theorem store_box {w : World} {dst : Option Tmp} {x y : Operand} {tt : TypeId} {pos : String} {af : Array Edge} {gd : Option (Nat × Bool)} {a : Act} {K : Act → World → Prop} {Q : Exit → Act → World → Prop}
    (hv : IsPart (a.eval x)) (h : Row w (blkOf (a.eval x)) 513) (ho : offOf (a.eval x) + 256 ≤ 513) (hx : IsAgg (a.eval y) 256) : Oper.wp Try.prog ⟨dst, .store 74 x y, tt, pos, af, gd⟩ a w K Q ↔ K (a.put dst undef) (w.setRow (blkOf (a.eval x)) (putAt (rowAt w (blkOf (a.eval x))) (offOf (a.eval x)) (cellsV (a.eval y)).toList)) :=
  wp_store_part (by kernel_rfl) hv h ho hx
attribute [local go_sem ↓] load_a4 store_a4 execl_a4 execs_a4 load_e4 execl_e4 load_box store_box
attribute [local go_sem] isHead_mk isPart_mk offOf_mk blkOf_mk isAgg_mk cellsV_mk row_drew rowAt_drew row_new_cells row_old rowAt_new rowAt_old setRow_new
/-- The document's cipher by value. -/
def cipV (v : Value) (f1 f2 : Nat → Nat) : Array Value := arrV 513 fun i => if i = 0 then v else if i < 257 then .int .u8 (f1 (i - 1) : Nat) else .int .u8 (f2 (i - 257) : Nat)
theorem zeroCip : Try.zeroCells76 = cipV (.slice none 0 0) (fun _ => 0) (fun _ => 0) := by kernel_rfl
theorem fold_put (o : Nat) : ∀ (l : List Value) (k : Nat) (c : Array Value), (l.zipIdx k).foldl (fun cs x => cs.setIfInBounds (o + x.2) x.1) c = putAt c (o + k) l
  | [], _, _ => rfl
  | v :: r, k, c => by
    rw [List.zipIdx_cons, List.foldl_cons, fold_put o r (k + 1), putAt]
    rfl
theorem fold_putA (o : Nat) (c a : Array Value) : Array.foldl (fun cs x => cs.setIfInBounds (o + x.2) x.1) c a.zipIdx 0 a.size = putAt c o a.toList := by
  have h : a.size = a.zipIdx.size := by simp
  rw [h, ← Array.foldl_toList, Array.toList_zipIdx, fold_put]
  rfl
theorem cipV_box (v : Value) (f1 f2 : Nat → Nat) : putAt (cipV v (fun _ => 0) f2) 1 (arr8 256 f1).toList = cipV v f1 f2 := by
  unfold cipV
  rw [putAt_arrV]
  refine arrV_congr fun i hi => ?_
  by_cases h0 : i = 0
  · subst h0; rfl
  · rw [if_pos (by omega), if_neg h0, if_neg h0, Array.getElem?_toList]
    by_cases h1 : i < 257
    · rw [arr8_at (by omega), if_pos h1, if_pos h1]; rfl
    · rw [Array.getElem?_eq_none (by rw [arr8_size]; omega), if_neg h1, if_neg h1]; rfl
theorem cipV_unbox (v : Value) (f1 f2 : Nat → Nat) : putAt (cipV v f1 (fun _ => 0)) 257 (arr8 256 f2).toList = cipV v f1 f2 := by
  unfold cipV
  rw [putAt_arrV]
  refine arrV_congr fun i hi => ?_
  by_cases h1 : 257 ≤ i
  · rw [if_pos h1, Array.getElem?_toList, arr8_at (by omega), if_neg (by omega : ¬ i = 0), if_neg (by omega : ¬ i < 257), if_neg (by omega : ¬ i = 0), if_neg (by omega : ¬ i < 257)]; rfl
  · rw [if_neg h1]
    by_cases h0 : i = 0
    · rw [if_pos h0, if_pos h0]
    · rw [if_neg h0, if_neg h0, if_pos (by omega), if_pos (by omega)]
theorem cipV_ext (v : Value) (f1 f2 : Nat → Nat) : (cipV v f1 f2).extract 1 (1 + 256) = arr8 256 f1 := by
  unfold cipV
  rw [arrV_extract (by omega)]
  show _ = arrV 256 fun i => Value.int .u8 (f1 i : Nat)
  refine arrV_congr fun i hi => ?_
  rw [if_neg (by omega), if_pos (by omega), Nat.add_sub_cancel_left]
theorem cipV_size (v : Value) (f1 f2 : Nat → Nat) : (cipV v f1 f2).size = 513 := arrV_size _ _
theorem cipV_set (v u : Value) (f1 f2 : Nat → Nat) : (cipV v f1 f2).setIfInBounds 0 u = cipV u f1 f2 := by
  unfold cipV
  rw [arrV_set]
  exact arrV_congr fun i _ => by by_cases h : i = 0 <;> simp [h]
/-- The cipher's own block. -/
structure CBox (w : World) (C : Nat) (v : Value) : Prop where
  row : Row w C 513
  eq : rowAt w C = cipV v gsub gunsub
theorem CBox.step {w w' : World} {C : Nat} {v : Value} (h : CBox w C v) (hb : Below w.heap.size w w') : CBox w' C v := ⟨row_below h.row hb h.row.lt, (rowAt_below hb h.row.lt).trans h.eq⟩
theorem CBox.head {w : World} {C : Nat} {v : Value} (h : CBox w C v) : w.cell? ⟨C, 0, none⟩ = some v := by
  rw [h.row.cell, h.eq, cipV, arrV_at (by omega), if_pos rfl]
theorem CBox.box {w : World} {C : Nat} {v : Value} (h : CBox w C v) (x : Nat) (hx : x < 256) : w.cell? ⟨C, 1 + x, none⟩ = some (.int .u8 (gsub x : Nat)) := by
  rw [h.row.cell, h.eq, cipV, arrV_at (by omega), if_neg (by omega), if_pos (by omega), Nat.add_sub_cancel_left]
theorem CBox.unb {w : World} {C : Nat} {v : Value} (h : CBox w C v) (x : Nat) (hx : x < 256) : w.cell? ⟨C, 257 + x, none⟩ = some (.int .u8 (gunsub x : Nat)) := by
  rw [h.row.cell, h.eq, cipV, arrV_at (by omega), if_neg (by omega), if_neg (by omega), Nat.add_sub_cancel_left]
theorem CBox.put {w : World} {C : Nat} {v : Value} (h : CBox w C v) (u : Value) : CBox (w.setCell ⟨C, 0, none⟩ u) C u := ⟨row_setCell.2 h.row, by rw [rowAt_setCell_same, h.eq, cipV_set]⟩
theorem CBox.drew {w : World} {C : Nat} {v : Value} (h : CBox w C v) : CBox w.drew C v := ⟨h.row, h.eq⟩
theorem SW4e : SlT Try.prog 72 39 4 4 := SlT.mk' Try.underlying72 (by kernel_rfl) (by omega)
theorem str_index (l : List UInt8) (p : Nat) (z : Int) (hz : z = (p : Int)) (hp : p < l.length) (W : World) :
    (Instr.index 9 (.string ⟨l.toArray⟩) (.int .i64 z)).run Try.prog W = .ok (.int .u8 (byteAt l p : Nat)) W := by
  subst hz
  have h0 : (0 : Int) ≤ (p : Int) := by omega
  have h1 : (⟨l.toArray⟩ : ByteArray)[p]? = some l[p] := by
    show (if h : p < (⟨l.toArray⟩ : ByteArray).size then some _ else none) = _
    rw [dif_pos (by simpa [ByteArray.size] using hp)]
    rfl
  have h2 : byteAt l p = l[p].toNat := by simp [byteAt, List.getElem?_eq_getElem hp]
  unfold Instr.index
  simp only [Sem.run_bind, asIntOf, Sem.run_pure, Result.andThen_ok, run_underlying Try.underlying9 W, h0, if_true, Int.toNat_natCast, h1, h2]
theorem own_formK {wr : World} {B : Nat} {e : TypeId} {size n : Nat} {v : Value} {xs : List Value} (h : wr.ownsRow B e size v n xs) : ∃ A c, v = .slice A n c := by
  rcases h.2 with ⟨rfl, rfl⟩ | ⟨g, cap, cur, rfl, -⟩
  · exact ⟨_, _, rfl⟩
  · exact ⟨_, _, rfl⟩
theorem own_belowK {w w1 : World} {B : Nat} {e : TypeId} {size n : Nat} {v : Value} {xs : List Value} (h : w.ownsRow B e size v n xs) (hb : Below w.heap.size w w1) : w1.ownsRow B e size v n xs := by
  refine ⟨h.1, ?_⟩
  rcases h.2 with hn | ⟨g, cap, cur, hv, hB, hg, rest⟩
  · exact .inl hn
  · refine .inr ⟨g, cap, cur, hv, hB, ?_, rest⟩
    rw [hb.block g]
    · exact hg
    · rcases Nat.lt_or_ge g w.heap.size with hlt | hge
      · exact hlt
      · rw [Array.getElem?_eq_none hge] at hg; cases hg
theorem own_farK {w : World} {C : Nat} {e : TypeId} {size n i : Nat} {v u : Value} {xs : List Value} (h : w.ownsRow (C + 1) e size v n xs) : (w.setCell ⟨C, i, none⟩ u).ownsRow (C + 1) e size v n xs := by
  refine ⟨h.1, ?_⟩
  rcases h.2 with hn | ⟨g, cap, cur, hv, hB, hg, rest⟩
  · exact .inl hn
  · refine .inr ⟨g, cap, cur, hv, hB, ?_, rest⟩
    rw [Below.heap_setCell w _ u g (by simp; omega)]
    exact hg
/-- The words, one behind the other. -/
def wordsV (key : Nat → Nat) (n i : Nat) : List Value := (arrK .u8 (4 * i) (kw key n i)).toList
theorem wordsV_zero (key : Nat → Nat) (n : Nat) : wordsV key n 0 = [] := by simp [wordsV, arrK]
theorem wordsV_step (key : Nat → Nat) (n i : Nat) (f : Nat → Nat) (h : ∀ j < 4, f j = kwNew key n i (kw key n i) j) : wordsV key n i ++ (arrK .u8 4 f).toList = wordsV key n (i + 1) := by
  unfold wordsV
  apply List.ext_getElem?
  intro p
  have hl : (arrK .u8 (4 * i) (kw key n i)).toList.length = 4 * i := by simp [arrK_size]
  by_cases h1 : p < 4 * i
  · rw [List.getElem?_append_left (by omega), Array.getElem?_toList, Array.getElem?_toList, arrK_at h1, arrK_at (by omega), kw_old _ _ _ _ h1]
  · rw [List.getElem?_append_right (by omega), hl, Array.getElem?_toList, Array.getElem?_toList]
    by_cases h2 : p < 4 * (i + 1)
    · obtain ⟨j, rfl⟩ : ∃ j, p = 4 * i + j := ⟨p - 4 * i, by omega⟩
      rw [show 4 * i + j - 4 * i = j by omega, arrK_at (by omega), arrK_at (by omega), kw_new _ _ _ _ (by omega), h j (by omega)]
    · rw [Array.getElem?_eq_none (by rw [arrK_size]; omega), Array.getElem?_eq_none (by rw [arrK_size]; omega)]
theorem CBox.below {w w' : World} {C B : Nat} {v : Value} (h : CBox w C v) (hb : Below B w w') (hB : C < B) : CBox w' C v := ⟨row_below h.row hb hB, (rowAt_below hb hB).trans h.eq⟩
/-- Where the words stand: the cipher's block, its words. -/
structure NcAt (w0 w : World) (C : Nat) (v : Value) (key : Nat → Nat) (n i : Nat) : Prop where
  box : CBox w C v
  own : w.ownsRow (C + 1) 39 4 v i (wordsV key n i)
  bel : Below w0.heap.size w0 w
theorem nc_words {w0 w : World} {C n i : Nat} {v : Value} {key : Nat → Nat} (I : NcAt w0 w C v key n i) (h : 0 < i) :
    ∃ g cap, v = .slice (some ⟨g, 0, none⟩) i cap ∧ C + 1 ≤ g ∧ g < w.heap.size ∧ i ≤ cap ∧ ∀ p < 4 * i, w.cell? ⟨g, p, none⟩ = some (.int .u8 (kw key n i p : Nat)) := by
  have hc := fun g hg => I.own.cells (g := g) hg
  have hl := I.own.lt
  rcases I.own.2 with ⟨-, h0⟩ | ⟨g, cap, cur, rfl, hB, hg, hcap, -⟩
  · omega
  · refine ⟨g, cap, rfl, hB, (hl g rfl).2, hcap, fun p hp => ?_⟩
    have := hc g rfl p (.int .u8 (kw key n i p : Nat)) (by unfold wordsV; rw [Array.getElem?_toList, arrK_at hp])
    rwa [show (⟨g, 0, none⟩ : Addr).add p = ⟨g, p, none⟩ by unfold Addr.add; split <;> simp_all] at this
/-- How many words stand behind a cipher. -/
def lenAt (w : World) (C : Nat) : Nat := match w.cell? ⟨C, 0, none⟩ with | some (.slice _ n _) => n | _ => 0
theorem nc_len {w0 w : World} {C n i : Nat} {v : Value} {key : Nat → Nat} (I : NcAt w0 w C v key n i) (h : 0 < i) : lenAt w C = i := by
  obtain ⟨g, cap, rfl, -⟩ := nc_words I h
  unfold lenAt
  rw [I.box.head]
theorem ld4 {w : World} {g o : Nat} {f : Nat → Nat} (h : ∀ j < 4, w.cell? ⟨g, o + j, none⟩ = some (.int .u8 (f j : Nat))) : LdOk w 4 (.pointer (some ⟨g, o, none⟩)) ∧ ldC w 4 (.pointer (some ⟨g, o, none⟩)) = arrK .u8 4 f := by
  have ha : ∀ j, (⟨g, o, none⟩ : Addr).add j = ⟨g, o + j, none⟩ := fun j => by unfold Addr.add; split <;> simp_all
  have hc : ∀ j u, (arrK .u8 4 f).toList[j]? = some u → w.cell? ((⟨g, o, none⟩ : Addr).add j) = some u := fun j u hu => by
    rw [Array.getElem?_toList] at hu
    have hj : j < 4 := by have := (Array.getElem?_eq_some_iff.1 hu).1; simpa [arrK_size] using this
    rw [arrK_at hj] at hu
    rw [ha, h j hj, ← hu]
  have hl : (arrK .u8 4 f).toList.length = 4 := by simp [arrK_size]
  exact ⟨ldOk_of hl hc, by rw [ldC_of hl hc]⟩
theorem NcAt.step {w0 w w' : World} {C n i : Nat} {v : Value} {key : Nat → Nat} (I : NcAt w0 w C v key n i) (hb : Below w.heap.size w w') : NcAt w0 w' C v key n i := ⟨I.box.step hb, own_belowK I.own hb, below_step hb I.bel (Nat.le_refl _)⟩
theorem ref_GfC (a b : Nat) (w : World) (ha : a < 256) (hb : b < 256) : Calls Try.prog 69 #[.int .u8 a, .int .u8 b] w fun e w' => e = .returned (.int .u8 (gm a b : Nat)) ∧ w = w' := ref_Gf a b w ha hb
theorem NcAt.far {w0 w : World} {C n i g cap : Nat} {key : Nat → Nat} (I : NcAt w0 w C (.slice (some ⟨g, 0, none⟩) i cap) key n i) {a : Addr} {u : Value} (h1 : C ≠ a.block) (h2 : g ≠ a.block) (h3 : w0.heap.size ≤ a.block) : NcAt w0 (w.setCell a u) C (.slice (some ⟨g, 0, none⟩) i cap) key n i := by
  refine ⟨⟨row_setCell.2 I.box.row, (rowAt_setCell_far h1).trans I.box.eq⟩, ⟨I.own.1, ?_⟩, I.bel.setCell h3 _⟩
  rcases I.own.2 with ⟨h0, -⟩ | ⟨g', cap', cur, hv, hB, hg, rest⟩
  · cases h0
  · refine .inr ⟨g', cap', cur, hv, hB, ?_, rest⟩
    have e : g = g' := by
      injection hv with h5
      injection h5 with h6
      injection h6
    subst e
    rw [Below.heap_setCell w a u g h2]
    exact hg
theorem NcAt.farR {w0 w : World} {C n i g cap g' : Nat} {c : Array Value} {key : Nat → Nat} (I : NcAt w0 w C (.slice (some ⟨g, 0, none⟩) i cap) key n i) (h1 : C ≠ g') (h2 : g ≠ g') (h3 : w0.heap.size ≤ g') : NcAt w0 (w.setRow g' c) C (.slice (some ⟨g, 0, none⟩) i cap) key n i := by
  refine ⟨⟨(row_setRow_far h1).2 I.box.row, (rowAt_setRow_far h1).trans I.box.eq⟩, ⟨I.own.1, ?_⟩, below_setRow I.bel h3⟩
  rcases I.own.2 with ⟨h0, -⟩ | ⟨g₂, cap', cur, hv, hB, hg, rest⟩
  · cases h0
  · refine .inr ⟨g₂, cap', cur, hv, hB, ?_, rest⟩
    have e : g = g₂ := by
      injection hv with h5
      injection h5 with h6
      injection h6
    subst e
    rw [setRow_other w g' g c h2]
    exact hg
def NewCOk (l : List UInt8) (n : Nat) (w : World) (e : Ending) (w' : World) : Prop :=
  ∃ C g cap, e = .returned (.tuple #[.pointer (some ⟨C, 0, none⟩), .int .i64 0]) ∧ CipAt w' C g cap (4 * (n + 7)) (kw (byteAt l) n (4 * (n + 7))) ∧ Below w.heap.size w w'
theorem ref_NewCipherBad (l : List UInt8) (w : World) (hL : ¬ (l.length = 16 ∨ l.length = 24 ∨ l.length = 32)) :
    Calls Try.prog 19 #[.string ⟨l.toArray⟩] w fun e w' => e = .returned (.tuple #[.pointer none, .int .i64 1]) ∧ Below w.heap.size w w' := by
  have hs : (⟨l.toArray⟩ : ByteArray).size = l.length := by simp [ByteArray.size]
  have h16 : ((l.length : Int) != 16) = true := by rw [bne_iff_ne]; omega
  have h24 : ((l.length : Int) != 24) = true := by rw [bne_iff_ne]; omega
  have h32 : ((l.length : Int) != 32) = true := by rw [bne_iff_ne]; omega
  have hL := Below.refl w.heap.size w
  go_enter Try.func19, Try.ntmps19
  go_wp2_with fail
  exact bodyPost_ret (results_tmp2 (t := 2) (u := 3) rfl _ _ _) rfl ⟨rfl, hL⟩
theorem ref_NewCipherOk (l : List UInt8) (n : Nat) (w : World) (hl : l.length = 4 * n) (hn : n = 4 ∨ n = 6 ∨ n = 8) :
    Calls Try.prog 19 #[.string ⟨l.toArray⟩] w (NewCOk l n w) := by
  have hs : (⟨l.toArray⟩ : ByteArray).size = l.length := by simp [ByteArray.size]
  have hbits : (((l.length : Int) != 16) = false) ∨ (((l.length : Int) != 16) = true ∧ ((l.length : Int) != 24) = false) ∨ (((l.length : Int) != 16) = true ∧ ((l.length : Int) != 24) = true ∧ ((l.length : Int) != 32) = false) := by
    rcases hn with rfl | rfl | rfl
    · refine .inl ?_; rw [bne_eq_false_iff_eq]; omega
    · refine .inr (.inl ⟨?_, ?_⟩) <;> simp <;> omega
    · refine .inr (.inr ⟨?_, ?_, ?_⟩) <;> simp <;> omega
  have hHl := Lib.hid hl
  have hHn := Lib.hid hn
  clear hn hl
  go_enter Try.func19, Try.ntmps19
  go_upto_region 1 with (fail)
  go_cut [23] from 11 to 22 (fun v23 wx => v23 = .bool false ∧ wx = w)
  case first =>
    rcases hbits with h1 | ⟨h1, h2⟩ | ⟨h1, h2, h3⟩
    all_goals go_wp2_with fail
    all_goals go_meet
    all_goals exact ⟨rfl, rfl⟩
  case rest =>
    obtain ⟨rfl, hw⟩ := hcut
    have hw := hw.symm
    subst hw
    clear hbits
    go_wp2_with fail
    refine (ref_Box w).mono ?_
    rintro e w1 ⟨rfl, hb1⟩
    have hbx := arr8_size 256 gsub
    have hB : Array.foldl (fun cs x => cs.setIfInBounds (1 + x.snd) x.fst) Try.zeroCells76 (arr8 256 gsub).zipIdx 0 256 = cipV (.slice none 0 0) gsub (fun _ => 0) := by
      have h := fold_putA 1 Try.zeroCells76 (arr8 256 gsub)
      rw [arr8_size] at h
      rw [h, zeroCip, cipV_box]
    have hR1 : Row (w1.alloc (Obj.cells (cipV (.slice none 0 0) gsub fun _ => 0) 76)) w1.heap.size 513 := (row_new rfl).2 (cipV_size _ _ _)
    have hr1 : rowAt (w1.alloc (Obj.cells (cipV (.slice none 0 0) gsub fun _ => 0) 76)) w1.heap.size = cipV (.slice none 0 0) gsub fun _ => 0 := rowAt_new rfl
    have hL1 : Below w.heap.size w (w1.alloc (Obj.cells (cipV (.slice none 0 0) gsub fun _ => 0) 76)) := below_step (below_alloc _ _) hb1 (Nat.le_refl _)
    have hCl : w.heap.size ≤ w1.heap.size := hb1.size
    have hex := cipV_ext (.slice none 0 0) gsub fun _ => 0
    clear hb1
    go_wp2_with fail
    clear hB
    generalize w1.alloc (Obj.cells (cipV (.slice none 0 0) gsub fun _ => 0) 76) = W1 at *
    generalize w1.heap.size = C at *
    refine (ref_Unbox W1).mono ?_
    rintro e w2 ⟨rfl, hb2⟩
    have hR2 := row_below hR1 hb2 hR1.lt
    have hr2 := (rowAt_below hb2 hR1.lt).trans hr1
    have hL2 := below_step hb2 hL1 (Nat.le_refl _)
    have hub := arr8_cells 256 gunsub
    have hput := cipV_unbox (.slice none 0 0) gsub gunsub
    have hq : (l.length : Int) / 4 = (n : Int) := by have := hHl.out; omega
    have hn8 : n ≤ 8 := by have := hHn.out; omega
    clear hR1 hr1 hL1 hb2
    go_wp2_with fail
    have B3 : CBox (w2.setRow C (cipV (.slice none 0 0) gsub gunsub)) C (.slice none 0 0) := ⟨(row_setRow_same rfl hR2).2 (cipV_size _ _ _), rowAt_setRow_same hR2⟩
    have hL3 : Below w.heap.size w (w2.setRow C (cipV (.slice none 0 0) gsub gunsub)) := below_setRow hL2 hCl
    generalize w2.setRow C (cipV (.slice none 0 0) gsub gunsub) = W3 at *
    clear hR2 hr2 hL2 hput hub hex hbx
    go_loopw [39] (fun x wr => ∃ i v, x = .int .i64 (i : Nat) ∧ i ≤ n ∧ NcAt w wr C v (byteAt l) n i) (fun x _ => 8 - (intOf x).toNat)
    case atStart => exact ⟨0, _, rfl, by omega, B3, by rw [wordsV_zero]; exact World.ownsRow_nil _ _ _ _, hL3⟩
    case round =>
      clear B3 hL3
      obtain ⟨i, v, rfl, hi, I⟩ := hrel
      by_cases hin : i = n
      · have I2 : NcAt w wr C v (byteAt l) n n := hin ▸ I
        have hdn : ¬ (i : Int) < (n : Int) := by omega
        clear I
        go_wp2_with fail
        go_loopw [7] (fun x wx => ∃ i v, x = .int .u8 (gp 2 ((i - 1) / n) : Nat) ∧ n ≤ i ∧ i ≤ 4 * (n + 7) ∧ NcAt w wx C v (byteAt l) n i) (fun _ wx => 60 - lenAt wx C)
        case atStart =>
          have hnn := hHn.out
          exact ⟨n, v, by rw [Nat.div_eq_of_lt (by omega), gp_zero]; rfl, Nat.le_refl _, by omega, I2⟩
        case round =>
          clear I2 hdn hin hi
          obtain ⟨i, v, rfl, hni, hi, I⟩ := hrel
          have hnn := hHn.out
          have hi0 : 0 < i := by omega
          have hlen0 := Lib.hid (nc_len I hi0)
          obtain ⟨g, cap, rfl, hCg, hgl, hcap, hwd⟩ := nc_words I hi0
          have c0 := I.box.head
          by_cases hiN : i = 4 * (n + 7)
          · have hnl : ¬ (i : Int) < 4 * ((n : Int) + 7) := by omega
            have hfin : NewCOk l n w (.returned (.tuple #[.pointer (some ⟨C, 0, none⟩), .int .i64 0])) wr := by
              have hw := hwd
              rw [hiN] at hw
              have hc := c0
              rw [hiN] at hc
              exact ⟨C, g, cap, rfl, ⟨hc, hw, I.box.box, I.box.unb, I.box.row.lt, hgl, by omega⟩, I.bel⟩
            have hF := Lib.hid hfin
            clear hfin hwd I hnn hlen0
            go_wp2_with fail
            exact bodyPost_ret (results_tmp2 (t := 2) (u := 3) rfl _ _ _) rfl hF.out
          · have hlt : (i : Int) < 4 * ((n : Int) + 7) := by omega
            have hi60 : i < 60 := by omega
            obtain ⟨m, hm⟩ : ∃ m, m = gp 2 ((i - 1) / n) := ⟨_, rfl⟩
            have hml : m < 256 := by rw [hm]; exact gp_lt _ _
            rw [← hm]
            obtain ⟨fa, hfa⟩ : ∃ fa : Nat → Nat, fa = fun j => kw (byteAt l) n i (4 * (i - n) + j) := ⟨_, rfl⟩
            obtain ⟨ft, hft⟩ : ∃ ft : Nat → Nat, ft = fun j => kw (byteAt l) n i (4 * (i - 1) + j) := ⟨_, rfl⟩
            obtain ⟨da, hda⟩ : ∃ da, da = i - n := ⟨_, rfl⟩
            obtain ⟨dt, hdt⟩ : ∃ dt, dt = i - 1 := ⟨_, rfl⟩
            have hldA := Lib.hid (fun j (hj : j < 4) => show wr.cell? ⟨g, da * 4 + j, none⟩ = some (.int .u8 (fa j : Nat)) by rw [hwd _ (by omega), hfa, hda, Nat.mul_comm])
            have hldT := Lib.hid (fun j (hj : j < 4) => show wr.cell? ⟨g, dt * 4 + j, none⟩ = some (.int .u8 (ft j : Nat)) by rw [hwd _ (by omega), hft, hdt, Nat.mul_comm])
            have hkl := fun p => kw_lt (n := n) (byteAt_lt l) i p
            have hfal : ∀ j < 4, fa j < 256 := fun j _ => by rw [hfa]; exact hkl _
            have hftl : ∀ j < 4, ft j < 256 := fun j _ => by rw [hft]; exact hkl _
            have hwa : IntKind.i64.wrap ((i : Int) - (n : Int)) = (da : Int) := by rw [IntKind.wrap_i64]; omega
            have hwt : IntKind.i64.wrap ((i : Int) - 1) = (dt : Int) := by rw [IntKind.wrap_i64]; omega
            have b1 : (0 : Int) ≤ (da : Int) := by omega
            have b2 : (da : Int) < (i : Int) := by omega
            have b3 : (0 : Int) ≤ (dt : Int) := by omega
            have b4 : (dt : Int) < (i : Int) := by omega
            have cells4z : Cells #[Value.int IntKind.u8 0, Value.int IntKind.u8 0, Value.int IntKind.u8 0, Value.int IntKind.u8 0] 4 := by rw [zeroA4]; exact arrK_cells _ _ _
            have hcA := arrK_cells .u8 4 fa
            have hcT := arrK_cells .u8 4 ft
            have hCl2 := I.box.row.lt
            have hI := Lib.hid I
            have hHm := Lib.hid hm
            have hHfa := Lib.hid hfa
            have hHft := Lib.hid hft
            clear I hwd hm hfa hft hkl hda hdt hnn
            go_upto_region 14 with (fail)
            go_cut [9, 10] from 72 to 205 (fun v9 v10 wx => ∃ ga gt, (v9 = .pointer (some ⟨ga, 0, none⟩) ∧ v10 = .pointer (some ⟨gt, 0, none⟩)) ∧ (ga ≠ gt ∧ wr.heap.size ≤ ga ∧ wr.heap.size ≤ gt) ∧ At wx ga .u8 4 fa ∧ At wx gt .u8 4 ft ∧ NcAt w wx C (.slice (some ⟨g, 0, none⟩) i cap) (byteAt l) n i)
            case first =>
              rename_i J1 K1 hJ1 hK1
              have hHJ1 := Lib.hid hJ1
              have hHK1 := Lib.hid hK1
              clear hJ1 hK1
              generalize ha0 : Act.mk _ _ = a0
              have e4 : a0.tmps[4]?.getD undef = .pointer (some ⟨C, 0, none⟩) := by rw [← ha0]; rfl
              have e5 : a0.tmps[5]?.getD undef = .int .i64 (n : Nat) := by rw [← ha0]; rfl
              have e8 : a0.tmps[8]?.getD undef = .int .i64 (i : Nat) := by rw [← ha0]; rfl
              have hz0 : a0.tmps.size = 207 := by rw [← ha0]; rfl
              have hha0 := Lib.hid ha0
              clear ha0
              refine wp_region_fresh ⟨fun jx_ => match jx_ with | 0 => some (.pointer (some ⟨C, 0, none⟩)) | 1 => some (.pointer (some ⟨C, 0, none⟩)) | 2 => some (.pointer (some ⟨C, 0, none⟩)) | 3 => some (.slice (some ⟨g, 0, none⟩) i cap) | 4 => some (.int .i64 (i : Nat)) | 5 => some (.int .i64 (n : Nat)) | 6 => some (.int .i64 (da : Nat)) | 7 => some (.pointer (some ⟨g, da * 4, none⟩)) | 8 => some (.agg (arrK .u8 4 fa)) | 9 => some (.pointer (some ⟨C, 0, none⟩)) | 10 => some (.pointer (some ⟨C, 0, none⟩)) | 11 => some (.pointer (some ⟨C, 0, none⟩)) | 12 => some (.slice (some ⟨g, 0, none⟩) i cap) | 13 => some (.int .i64 (i : Nat)) | 14 => some (.int .i64 (dt : Nat)) | 15 => some (.pointer (some ⟨g, dt * 4, none⟩)) | 16 => some (.agg (arrK .u8 4 ft)) | _ => none, fun jx_ => match jx_ with | 17 => some 4 | 18 => some 4 | _ => none, fun jx_ => match jx_ with | 19 => some 17 | 20 => some 18 | _ => none, fun jx_ => match jx_ with | 19 => arrK .u8 4 fa | 20 => arrK .u8 4 ft | _ => #[]⟩ (by kernel_rfl) (by kernel_rfl) (by kernel_rfl) (slotsOk_of hz0 (by kernel_rfl)) rfl ⟨?_, ?_, ?_, ?_, ?_, ?_, ?_, ?_, ?_, ?_, ?_, ?_, ?_, ?_, ?_, ?_, ?_, ?_, ?_, ?_, ?_, trivial⟩ ?_
              · refine fstep_val rfl rfl (calm_step rfl fun aa ω κ hb hu hc hK => ?_)
                have h4 : aa.tmps[4]?.getD undef = .pointer (some ⟨C, 0, none⟩) := (hu 4 rfl).trans e4
                have hk := Lib.hid (fun w1 (h : Below ω.heap.size ω w1) => hK (.pointer (some ⟨C, 0, none⟩)) w1 rfl h)
                clear hK hu hc
                go_simp
                exact hk.out _ (Below.refl _ _)
              · refine fstep_val rfl rfl (calm_step rfl fun aa ω κ hb hu hc hK => ?_)
                have h86 : aa.tmps[86]?.getD undef = .pointer (some ⟨C, 0, none⟩) := hc 0 86 rfl rfl
                have hk := Lib.hid (fun w1 (h : Below ω.heap.size ω w1) => hK (.pointer (some ⟨C, 0, none⟩)) w1 rfl h)
                clear hK hu hc
                go_simp
                exact hk.out _ (Below.refl _ _)
              · refine fstep_val rfl rfl (calm_step rfl fun aa ω κ hb hu hc hK => ?_)
                have h87 : aa.tmps[87]?.getD undef = .pointer (some ⟨C, 0, none⟩) := hc 1 87 rfl rfl
                have hk := Lib.hid (fun w1 (h : Below ω.heap.size ω w1) => hK (.pointer (some ⟨C, 0, none⟩)) w1 rfl h)
                clear hK hu hc
                go_simp
                exact hk.out _ (Below.refl _ _)
              · refine fstep_val rfl rfl (calm_step rfl fun aa ω κ hb hu hc hK => ?_)
                have h88 : aa.tmps[88]?.getD undef = .pointer (some ⟨C, 0, none⟩) := hc 2 88 rfl rfl
                have hk := Lib.hid (fun w1 (h : Below ω.heap.size ω w1) => hK (.slice (some ⟨g, 0, none⟩) i cap) w1 rfl h)
                clear hK hu hc
                have y0 := (hb.cell (p := ⟨C, 0, none⟩) hCl2).trans c0
                go_simp
                exact hk.out _ (Below.refl _ _)
              · refine fstep_val rfl rfl (calm_step rfl fun aa ω κ hb hu hc hK => ?_)
                have h8 : aa.tmps[8]?.getD undef = .int .i64 (i : Nat) := (hu 8 rfl).trans e8
                have hk := Lib.hid (fun w1 (h : Below ω.heap.size ω w1) => hK (.int .i64 (i : Nat)) w1 rfl h)
                clear hK hu hc
                go_simp
                exact hk.out _ (Below.refl _ _)
              · refine fstep_val rfl rfl (calm_step rfl fun aa ω κ hb hu hc hK => ?_)
                have h5 : aa.tmps[5]?.getD undef = .int .i64 (n : Nat) := (hu 5 rfl).trans e5
                have hk := Lib.hid (fun w1 (h : Below ω.heap.size ω w1) => hK (.int .i64 (n : Nat)) w1 rfl h)
                clear hK hu hc
                go_simp
                exact hk.out _ (Below.refl _ _)
              · refine fstep_val rfl rfl (calm_step rfl fun aa ω κ hb hu hc hK => ?_)
                have h90 : aa.tmps[90]?.getD undef = .int .i64 (i : Nat) := hc 4 90 rfl rfl
                have h91 : aa.tmps[91]?.getD undef = .int .i64 (n : Nat) := hc 5 91 rfl rfl
                have hk := Lib.hid (fun w1 (h : Below ω.heap.size ω w1) => hK (.int .i64 (da : Nat)) w1 rfl h)
                clear hK hu hc
                go_simp
                exact hk.out _ (Below.refl _ _)
              · refine fstep_val rfl rfl (calm_step rfl fun aa ω κ hb hu hc hK => ?_)
                have h89 : aa.tmps[89]?.getD undef = .slice (some ⟨g, 0, none⟩) i cap := hc 3 89 rfl rfl
                have h92 : aa.tmps[92]?.getD undef = .int .i64 (da : Nat) := hc 6 92 rfl rfl
                have hk := Lib.hid (fun w1 (h : Below ω.heap.size ω w1) => hK (.pointer (some ⟨g, da * 4, none⟩)) w1 rfl h)
                clear hK hu hc
                go_simp
                exact hk.out _ (Below.refl _ _)
              · refine fstep_val rfl rfl (calm_step rfl fun aa ω κ hb hu hc hK => ?_)
                have h93 : aa.tmps[93]?.getD undef = .pointer (some ⟨g, da * 4, none⟩) := hc 7 93 rfl rfl
                have hk := Lib.hid (fun w1 (h : Below ω.heap.size ω w1) => hK (.agg (arrK .u8 4 fa)) w1 rfl h)
                clear hK hu hc
                have hq4 := ld4 (fun j hj => (hb.cell (p := ⟨g, _, none⟩) hgl).trans (hldA.out j hj))
                have hl1 := hq4.1
                have hl2 := hq4.2
                clear hq4
                go_simp
                exact hk.out _ (Below.refl _ _)
              · refine fstep_val rfl rfl (calm_step rfl fun aa ω κ hb hu hc hK => ?_)
                have h4 : aa.tmps[4]?.getD undef = .pointer (some ⟨C, 0, none⟩) := (hu 4 rfl).trans e4
                have hk := Lib.hid (fun w1 (h : Below ω.heap.size ω w1) => hK (.pointer (some ⟨C, 0, none⟩)) w1 rfl h)
                clear hK hu hc
                go_simp
                exact hk.out _ (Below.refl _ _)
              · refine fstep_val rfl rfl (calm_step rfl fun aa ω κ hb hu hc hK => ?_)
                have h95 : aa.tmps[95]?.getD undef = .pointer (some ⟨C, 0, none⟩) := hc 9 95 rfl rfl
                have hk := Lib.hid (fun w1 (h : Below ω.heap.size ω w1) => hK (.pointer (some ⟨C, 0, none⟩)) w1 rfl h)
                clear hK hu hc
                go_simp
                exact hk.out _ (Below.refl _ _)
              · refine fstep_val rfl rfl (calm_step rfl fun aa ω κ hb hu hc hK => ?_)
                have h96 : aa.tmps[96]?.getD undef = .pointer (some ⟨C, 0, none⟩) := hc 10 96 rfl rfl
                have hk := Lib.hid (fun w1 (h : Below ω.heap.size ω w1) => hK (.pointer (some ⟨C, 0, none⟩)) w1 rfl h)
                clear hK hu hc
                go_simp
                exact hk.out _ (Below.refl _ _)
              · refine fstep_val rfl rfl (calm_step rfl fun aa ω κ hb hu hc hK => ?_)
                have h97 : aa.tmps[97]?.getD undef = .pointer (some ⟨C, 0, none⟩) := hc 11 97 rfl rfl
                have hk := Lib.hid (fun w1 (h : Below ω.heap.size ω w1) => hK (.slice (some ⟨g, 0, none⟩) i cap) w1 rfl h)
                clear hK hu hc
                have y0 := (hb.cell (p := ⟨C, 0, none⟩) hCl2).trans c0
                go_simp
                exact hk.out _ (Below.refl _ _)
              · refine fstep_val rfl rfl (calm_step rfl fun aa ω κ hb hu hc hK => ?_)
                have h8 : aa.tmps[8]?.getD undef = .int .i64 (i : Nat) := (hu 8 rfl).trans e8
                have hk := Lib.hid (fun w1 (h : Below ω.heap.size ω w1) => hK (.int .i64 (i : Nat)) w1 rfl h)
                clear hK hu hc
                go_simp
                exact hk.out _ (Below.refl _ _)
              · refine fstep_val rfl rfl (calm_step rfl fun aa ω κ hb hu hc hK => ?_)
                have h99 : aa.tmps[99]?.getD undef = .int .i64 (i : Nat) := hc 13 99 rfl rfl
                have hk := Lib.hid (fun w1 (h : Below ω.heap.size ω w1) => hK (.int .i64 (dt : Nat)) w1 rfl h)
                clear hK hu hc
                go_simp
                exact hk.out _ (Below.refl _ _)
              · refine fstep_val rfl rfl (calm_step rfl fun aa ω κ hb hu hc hK => ?_)
                have h98 : aa.tmps[98]?.getD undef = .slice (some ⟨g, 0, none⟩) i cap := hc 12 98 rfl rfl
                have h100 : aa.tmps[100]?.getD undef = .int .i64 (dt : Nat) := hc 14 100 rfl rfl
                have hk := Lib.hid (fun w1 (h : Below ω.heap.size ω w1) => hK (.pointer (some ⟨g, dt * 4, none⟩)) w1 rfl h)
                clear hK hu hc
                go_simp
                exact hk.out _ (Below.refl _ _)
              · refine fstep_val rfl rfl (calm_step rfl fun aa ω κ hb hu hc hK => ?_)
                have h101 : aa.tmps[101]?.getD undef = .pointer (some ⟨g, dt * 4, none⟩) := hc 15 101 rfl rfl
                have hk := Lib.hid (fun w1 (h : Below ω.heap.size ω w1) => hK (.agg (arrK .u8 4 ft)) w1 rfl h)
                clear hK hu hc
                have hq4 := ld4 (fun j hj => (hb.cell (p := ⟨g, _, none⟩) hgl).trans (hldT.out j hj))
                have hl1 := hq4.1
                have hl2 := hq4.2
                clear hq4
                go_simp
                exact hk.out _ (Below.refl _ _)
              · refine fstep_al (n := 4) rfl rfl fun aa ω κ hK => ?_
                have hk := Lib.hid hK
                clear hK
                go_simp
                exact hk.out _ _ cells4z
              · refine fstep_al (n := 4) rfl rfl fun aa ω κ hK => ?_
                have hk := Lib.hid hK
                clear hK
                go_simp
                exact hk.out _ _ cells4z
              · refine fstep_st (j := 17) (n := 4) (d := 9) rfl rfl rfl rfl rfl hcA.1 rfl rfl fun aa ω κ g hb hu hc hp hr hK => ?_
                have h94 : aa.tmps[94]?.getD undef = .agg (arrK .u8 4 fa) := hc 8 94 rfl rfl
                have hk := Lib.hid hK
                clear hK hu hc
                have hcc := hcA
                go_simp
                exact hk.out undef
              · refine fstep_st (j := 18) (n := 4) (d := 10) rfl rfl rfl rfl rfl hcT.1 rfl rfl fun aa ω κ g hb hu hc hp hr hK => ?_
                have h102 : aa.tmps[102]?.getD undef = .agg (arrK .u8 4 ft) := hc 16 102 rfl rfl
                have hk := Lib.hid hK
                clear hK hu hc
                have hcc := hcT
                go_simp
                exact hk.out undef
              · intro a1 w1 G I
                have hK1 := hHK1.out
                go_wp2_with fail
                refine Met.intro (hHJ1.out _ _ ?_)
                have ha0 := hha0.out
                subst ha0
                (repeat apply Exists.intro)
                refine ⟨?_, act_patch (n := 207) [false, false, false, false, false, false, false, false, false, true, true, false, false, false, false, false, false, false, false, false, false, false, false, false, false, false, false, false, false, false, false, false, false, false, false, false, false, false, false, false, false, false, false, false, false, false, false, false, false, false, false, false, false, false, false, false, false, false, false, false, false, false, false, false, false, false, false, false, false, false, false, false, false, false, false, false, false, false, false, false, false, false, false, false, false, false, true, true, true, true, true, true, true, true, true, true, true, true, true, true, true, true, true, false, false, false, false, false, false, false, false, false, false, false, false, false, false, false, false, false, false, false, false, false, false, false, false, false, false, false, false, false, false, false, false, false, false, false, false, false, false, false, false, false, false, false, false, false, false, false, false, false, false, false, false, false, false, false, false, false, false, false, false, false, false, false, false, false, false, false, false, false, false, false, false, false, false, false, false, false, false, false, false, false, false, false, false, false, false, false, false, false, false, false, false, false, false, false, false, false, false, false, false, false, false, false, false] rfl (by kernel_rfl) I.un I.sz I.df⟩
                exact ⟨G 17, G 18, ⟨I.al 17 9 4 rfl rfl rfl, I.al 18 10 4 rfl rfl rfl⟩, ⟨I.ne 17 18 4 4 rfl rfl rfl rfl (by decide), (I.blk 17 4 rfl rfl).1, (I.blk 18 4 rfl rfl).1⟩, ⟨(I.blk 17 4 rfl rfl).2, (I.row 19 17 rfl rfl).2.2⟩, ⟨(I.blk 18 4 rfl rfl).2, (I.row 20 18 rfl rfl).2.2⟩, hI.out.step I.bel⟩
            case rest =>
              obtain ⟨ga, gt, ⟨rfl, rfl⟩, ⟨hgne, hga, hgt⟩, A, T, I⟩ := hcut
              clear hldA hldT hwa hwt b1 b2 b3 b4 hI c0
              generalize wr.heap.size = H at *
              have c0 := I.box.head
              have t0 := T.cell (i := 0) (by omega)
              have t1 := T.cell (i := 1) (by omega)
              have t2 := T.cell (i := 2) (by omega)
              have t3 := T.cell (i := 3) (by omega)
              have hn0 : ¬ (n : Int) = 0 := by have := hHn.out; omega
              have z0 := T.row.frozen 0
              have z1 := T.row.frozen 1
              have z2 := T.row.frozen 2
              have z3 := T.row.frozen 3
              have hcase : (i : Int) % (n : Int) = 0 ∨ (¬ (i : Int) % (n : Int) = 0 ∧ ((n : Int) == 8) = true ∧ (i : Int) % 8 = 4) ∨ (¬ (i : Int) % (n : Int) = 0 ∧ ((n : Int) == 8) = true ∧ ((i : Int) % 8 == 4) = false) ∨ (¬ (i : Int) % (n : Int) = 0 ∧ ((n : Int) == 8) = false) := by
                by_cases x1 : (i : Int) % (n : Int) = 0
                · exact .inl x1
                · by_cases x2 : (n : Int) = 8
                  · by_cases x3 : (i : Int) % 8 = 4
                    · exact .inr (.inl ⟨x1, beq_iff_eq.2 x2, x3⟩)
                    · exact .inr (.inr (.inl ⟨x1, beq_iff_eq.2 x2, beq_eq_false_iff_ne.2 x3⟩))
                  · exact .inr (.inr (.inr ⟨x1, beq_eq_false_iff_ne.2 x2⟩))
              have hRT := T.row
              have hbx := fun j (hj : j < 4) => I.box.box (ft j) (hftl j hj)
              have x0 := hbx 0 (by omega)
              have x1 := hbx 1 (by omega)
              have x2 := hbx 2 (by omega)
              have x3 := hbx 3 (by omega)
              have y0 := hftl 0 (by omega)
              have y1 := hftl 1 (by omega)
              have y2 := hftl 2 (by omega)
              have y3 := hftl 3 (by omega)
              have hA := Lib.hid A
              have hT := Lib.hid T
              have hI := Lib.hid I
              clear A T I hbx
              have hGf := Lib.hid (show ∀ V : World, Calls Try.prog 69 #[.int .u8 m, .int .u8 2] V fun e w' => e = .returned (.int .u8 (gm m 2 : Nat)) ∧ V = w' from fun V => ref_GfC m 2 V hml (by omega))
              rcases hcase with hqn | ⟨hqn, hx8, hx4⟩ | ⟨hqn, hx8, hx4⟩ | ⟨hqn, hx8⟩
              case' inl =>
                obtain ⟨mm, hmm⟩ : ∃ mm : Nat → Nat, mm = fun j => if j = 0 then gsub (ft 1) ^^^ m else if j = 1 then gsub (ft 2) else if j = 2 then gsub (ft 3) else gsub (ft 0) := ⟨_, rfl⟩
                have e0 : gsub (ft 1) ^^^ m = mm 0 := by rw [hmm]; rfl
                have e1 : gsub (ft 2) = mm 1 := by rw [hmm]; rfl
                have e2 : gsub (ft 3) = mm 2 := by rw [hmm]; rfl
                have e3 : gsub (ft 0) = mm 3 := by rw [hmm]; rfl
                have hx := xor_8 (gsub_lt (ft 1)) hml
                rw [e0] at hx
                rw [e1] at x2
                rw [e2] at x3
                rw [e3] at x0
                go_upto_region 16 with (fail)
                have hcM : Cells #[Value.int IntKind.u8 (mm 0 : Nat), Value.int IntKind.u8 (mm 1 : Nat), Value.int IntKind.u8 (mm 2 : Nat), Value.int IntKind.u8 (mm 3 : Nat)] 4 := by rw [arrK4 .u8 mm]; exact arrK_cells .u8 4 mm
                have w0 : ((ft 0 : Nat) : Int) < 256 := by omega
                have v0 : (0 : Int) ≤ ((ft 0 : Nat) : Int) := by omega
                have w1 : ((ft 1 : Nat) : Int) < 256 := by omega
                have v1 : (0 : Int) ≤ ((ft 1 : Nat) : Int) := by omega
                have w2 : ((ft 2 : Nat) : Int) < 256 := by omega
                have v2 : (0 : Int) ≤ ((ft 2 : Nat) : Int) := by omega
                have w3 : ((ft 3 : Nat) : Int) < 256 := by omega
                have v3 : (0 : Int) ≤ ((ft 3 : Nat) : Int) := by omega
                have hHmm := Lib.hid hmm
                clear hmm e0 e1 e2 e3
                go_still_tail 31, (by kernel_rfl)
                change wpList _ _ _ _ _ wc.drew
                have hRT2 : Row wc.drew gt 4 := hRT
                have hA2 := hA.out.drew
                have hI2 := hI.out.step ((Below.refl _ _).drew)
                clear hRT hA hT hI x0 x1 x2 x3 t0 t1 t2 t3 z0 z1 z2 z3 c0 w0 w1 w2 w3 v0 v1 v2 v3
                generalize wc.drew = W2 at *
                go_wp2_with fail
                rw [arrK4 .u8 mm]
                have T6 : At (W2.setRow gt (arrK .u8 4 mm)) gt .u8 4 mm := At.put hRT2
                have A6 : At (W2.setRow gt (arrK .u8 4 mm)) ga .u8 4 fa := hA2.far hgne
                have I6 : NcAt w (W2.setRow gt (arrK .u8 4 mm)) C (.slice (some ⟨g, 0, none⟩) i cap) (byteAt l) n i := hI2.farR (by omega) (by omega) (by omega)
                clear hRT2 hA2 hI2
                generalize W2.setRow gt (arrK .u8 4 mm) = X at *
                refine (hGf.out X).mono ?_
                rintro e w3 ⟨rfl, rfl⟩
                have hmix : ∀ j < 4, kwNew (byteAt l) n i (kw (byteAt l) n i) j = fa j ^^^ mm j := fun j hj => by
                  unfold kwNew
                  rw [if_neg (by omega), if_pos (by omega : i % n = 0)]
                  have e1 : i / n - 1 = (i - 1) / n := by have := hHn.out; rcases this with rfl | rfl | rfl <;> omega
                  rw [e1, ← hHm.out, hHfa.out, hHmm.out, hHft.out]
                  congr 1
                  have h4 : j = 0 ∨ j = 1 ∨ j = 2 ∨ j = 3 := by omega
                  rcases h4 with rfl | rfl | rfl | rfl <;> simp
                have hml6 : ∀ j < 4, mm j < 256 := fun j hj => by
                  have h4 : j = 0 ∨ j = 1 ∨ j = 2 ∨ j = 3 := by omega
                  rw [hHmm.out]
                  rcases h4 with rfl | rfl | rfl | rfl <;> simp <;> first | exact gsub_lt _ | exact xor_lt8 (gsub_lt _) hml
                have hHmix := Lib.hid hmix
                have hHml6 := Lib.hid hml6
                clear hmix hml6 hHmm
                have hm6 := Lib.hid (show gm m 2 = gp 2 (i / n) by
                  rw [hHm.out, ← gp_succ' (by omega)]
                  congr 1
                  have := hHn.out; rcases this with rfl | rfl | rfl <;> omega)
                generalize gm m 2 = m6 at *
                clear hx hcM
              case' inr.inl =>
                go_upto_region 19 with (fail)
                all_goals
                  obtain ⟨mm, hmm⟩ : ∃ mm : Nat → Nat, mm = fun j => if j = 0 then gsub (ft 0) else if j = 1 then gsub (ft 1) else if j = 2 then gsub (ft 2) else gsub (ft 3) := ⟨_, rfl⟩
                  have e0 : gsub (ft 0) = mm 0 := by rw [hmm]; rfl
                  have e1 : gsub (ft 1) = mm 1 := by rw [hmm]; rfl
                  have e2 : gsub (ft 2) = mm 2 := by rw [hmm]; rfl
                  have e3 : gsub (ft 3) = mm 3 := by rw [hmm]; rfl
                  rw [e0] at x0
                  rw [e1] at x1
                  rw [e2] at x2
                  rw [e3] at x3
                  have hcM : Cells #[Value.int IntKind.u8 (mm 0 : Nat), Value.int IntKind.u8 (mm 1 : Nat), Value.int IntKind.u8 (mm 2 : Nat), Value.int IntKind.u8 (mm 3 : Nat)] 4 := by rw [arrK4 .u8 mm]; exact arrK_cells .u8 4 mm
                  have w0 : ((ft 0 : Nat) : Int) < 256 := by omega
                  have v0 : (0 : Int) ≤ ((ft 0 : Nat) : Int) := by omega
                  have w1 : ((ft 1 : Nat) : Int) < 256 := by omega
                  have v1 : (0 : Int) ≤ ((ft 1 : Nat) : Int) := by omega
                  have w2 : ((ft 2 : Nat) : Int) < 256 := by omega
                  have v2 : (0 : Int) ≤ ((ft 2 : Nat) : Int) := by omega
                  have w3 : ((ft 3 : Nat) : Int) < 256 := by omega
                  have v3 : (0 : Int) ≤ ((ft 3 : Nat) : Int) := by omega
                  have hHmm := Lib.hid hmm
                  clear hmm e0 e1 e2 e3
                  go_still_tail 29, (by kernel_rfl)
                  change wpList _ _ _ _ _ wc.drew
                  have hRT2 : Row wc.drew gt 4 := hRT
                  have hA2 := hA.out.drew
                  have hI2 := hI.out.step ((Below.refl _ _).drew)
                  clear hRT hA hT hI x0 x1 x2 x3 t0 t1 t2 t3 z0 z1 z2 z3 c0 w0 w1 w2 w3 v0 v1 v2 v3
                  generalize wc.drew = W2 at *
                  go_wp2_with fail
                  rw [arrK4 .u8 mm]
                  have T6 : At (W2.setRow gt (arrK .u8 4 mm)) gt .u8 4 mm := At.put hRT2
                  have A6 : At (W2.setRow gt (arrK .u8 4 mm)) ga .u8 4 fa := hA2.far hgne
                  have I6 : NcAt w (W2.setRow gt (arrK .u8 4 mm)) C (.slice (some ⟨g, 0, none⟩) i cap) (byteAt l) n i := hI2.farR (by omega) (by omega) (by omega)
                  clear hRT2 hA2 hI2
                  generalize W2.setRow gt (arrK .u8 4 mm) = X at *
                  have hmix : ∀ j < 4, kwNew (byteAt l) n i (kw (byteAt l) n i) j = fa j ^^^ mm j := fun j hj => by
                    have h8 : n = 8 := by have := beq_iff_eq.1 hx8; omega
                    unfold kwNew
                    rw [if_neg (by omega), if_neg (by omega : ¬ i % n = 0), if_pos ⟨h8, by omega⟩, hHfa.out, hHmm.out, hHft.out]
                    congr 1
                    have h4 : j = 0 ∨ j = 1 ∨ j = 2 ∨ j = 3 := by omega
                    rcases h4 with rfl | rfl | rfl | rfl <;> simp
                  have hml6 : ∀ j < 4, mm j < 256 := fun j hj => by
                    have h4 : j = 0 ∨ j = 1 ∨ j = 2 ∨ j = 3 := by omega
                    rw [hHmm.out]
                    rcases h4 with rfl | rfl | rfl | rfl <;> simp <;> exact gsub_lt _
                  have hHmix := Lib.hid hmix
                  have hHml6 := Lib.hid hml6
                  clear hmix hml6 hHmm
                  have hm6 := Lib.hid (show m = gp 2 (i / n) by
                    rw [hHm.out]
                    congr 1
                    have := hHn.out; rcases this with rfl | rfl | rfl <;> omega)
                  clear hcM
                  generalize m = m6 at *
              case' inr.inr.inl =>
                have hmix := Lib.hid (show ∀ j < 4, kwNew (byteAt l) n i (kw (byteAt l) n i) j = fa j ^^^ ft j from fun j hj => by
                  have h3 := beq_eq_false_iff_ne.1 hx4
                  unfold kwNew
                  rw [if_neg (by omega), if_neg (by omega : ¬ i % n = 0), if_neg (by omega), hHfa.out, hHft.out])
                have hm6 := Lib.hid (show m = gp 2 (i / n) by
                    rw [hHm.out]
                    congr 1
                    have := hHn.out; rcases this with rfl | rfl | rfl <;> omega)
                go_upto_region 20 with (fail)
                all_goals
                  have T6 := hT.out
                  have A6 := hA.out
                  have I6 := hI.out
                  have hHmix := hmix
                  have hHml6 := Lib.hid hftl
                  clear hA hT hI x0 x1 x2 x3 t0 t1 t2 t3 z0 z1 z2 z3 c0 hRT hmix
                  generalize wc = X at *
                  generalize ft = mm at *
                  generalize m = m6 at *
              case' inr.inr.inr =>
                have hmix := Lib.hid (show ∀ j < 4, kwNew (byteAt l) n i (kw (byteAt l) n i) j = fa j ^^^ ft j from fun j hj => by
                  have h3 := beq_eq_false_iff_ne.1 hx8
                  unfold kwNew
                  rw [if_neg (by omega), if_neg (by omega : ¬ i % n = 0), if_neg (by omega), hHfa.out, hHft.out])
                have hm6 := Lib.hid (show m = gp 2 (i / n) by
                    rw [hHm.out]
                    congr 1
                    have := hHn.out; rcases this with rfl | rfl | rfl <;> omega)
                go_upto_region 20 with (fail)
                all_goals
                  have T6 := hT.out
                  have A6 := hA.out
                  have I6 := hI.out
                  have hHmix := hmix
                  have hHml6 := Lib.hid hftl
                  clear hA hT hI x0 x1 x2 x3 t0 t1 t2 t3 z0 z1 z2 z3 c0 hRT hmix
                  generalize wc = X at *
                  generalize ft = mm at *
                  generalize m = m6 at *
              all_goals
                clear hGf y0 y1 y2 y3
                try go_upto_region 20 with (fail)
                obtain ⟨f, hff⟩ : ∃ f : Nat → Nat, f = fun j => fa j ^^^ mm j := ⟨_, rfl⟩
                have hf := Lib.hid (show ∀ j < 4, f j = kwNew (byteAt l) n i (kw (byteAt l) n i) j from fun j hj => by rw [hHmix.out j hj, hff])
                have hx0 : bits .xor .u8 (fa 0 : Nat) (mm 0 : Nat) = ((f 0 : Nat) : Int) := by rw [hff]; exact xor_8 (hfal 0 (by omega)) (hHml6.out 0 (by omega))
                have hx1 : bits .xor .u8 (fa 1 : Nat) (mm 1 : Nat) = ((f 1 : Nat) : Int) := by rw [hff]; exact xor_8 (hfal 1 (by omega)) (hHml6.out 1 (by omega))
                have hx2 : bits .xor .u8 (fa 2 : Nat) (mm 2 : Nat) = ((f 2 : Nat) : Int) := by rw [hff]; exact xor_8 (hfal 2 (by omega)) (hHml6.out 2 (by omega))
                have hx3 : bits .xor .u8 (fa 3 : Nat) (mm 3 : Nat) = ((f 3 : Nat) : Int) := by rw [hff]; exact xor_8 (hfal 3 (by omega)) (hHml6.out 3 (by omega))
                have hone := Lib.hid (show ∀ u ∈ (arrK .u8 4 f).toList, u.oneCell' = true from fun u hu => Array.all_eq_true_iff_forall_mem.1 (arrK_cells .u8 4 f).2 u (Array.mem_toList_iff.1 hu))
                generalize X = wc at *
                have c0 := I6.box.head
                have f0 := I6.box.row.frozen 0
                have hCw := I6.box.row.lt
                have hgal := A6.lt
                have hgtl := T6.lt
                have hI := Lib.hid I6
                have hA := Lib.hid A6
                have hT := Lib.hid T6
                have hw6 : w.heap.size ≤ C := hCl
                clear hff I6 A6 T6 hHmix hHml6
                generalize ha0 : Act.mk _ _ = a0
                have e4 : a0.tmps[4]?.getD undef = .pointer (some ⟨C, 0, none⟩) := by rw [← ha0]; rfl
                have e9 : a0.tmps[9]?.getD undef = .pointer (some ⟨ga, 0, none⟩) := by rw [← ha0]; rfl
                have e10 : a0.tmps[10]?.getD undef = .pointer (some ⟨gt, 0, none⟩) := by rw [← ha0]; rfl
                have hz0 : a0.tmps.size = 207 := by rw [← ha0]; rfl
                have hha0 := Lib.hid ha0
                clear ha0
                refine wp_region_grow (fun jx_ => match jx_ with | 0 => some (.pointer (some ⟨C, 0, none⟩)) | 1 => some (.pointer (some ⟨C, 0, none⟩)) | 2 => some (.pointer (some ⟨C, 0, none⟩)) | 3 => some (.pointer (some ⟨C, 0, none⟩)) | 4 => some (.slice (some ⟨g, 0, none⟩) i cap) | 5 => some (.pointer (some ⟨ga, 0, none⟩)) | 6 => some (.int .u8 (fa 0 : Nat)) | 7 => some (.pointer (some ⟨gt, 0, none⟩)) | 8 => some (.int .u8 (mm 0 : Nat)) | 9 => some (.int .u8 (f 0 : Nat)) | 10 => some (.pointer (some ⟨ga, 1, none⟩)) | 11 => some (.int .u8 (fa 1 : Nat)) | 12 => some (.pointer (some ⟨gt, 1, none⟩)) | 13 => some (.int .u8 (mm 1 : Nat)) | 14 => some (.int .u8 (f 1 : Nat)) | 15 => some (.pointer (some ⟨ga, 2, none⟩)) | 16 => some (.int .u8 (fa 2 : Nat)) | 17 => some (.pointer (some ⟨gt, 2, none⟩)) | 18 => some (.int .u8 (mm 2 : Nat)) | 19 => some (.int .u8 (f 2 : Nat)) | 20 => some (.pointer (some ⟨ga, 3, none⟩)) | 21 => some (.int .u8 (fa 3 : Nat)) | 22 => some (.pointer (some ⟨gt, 3, none⟩)) | 23 => some (.int .u8 (mm 3 : Nat)) | 24 => some (.int .u8 (f 3 : Nat)) | 25 => some (.agg #[.int .u8 (f 0 : Nat), .int .u8 (f 1 : Nat), .int .u8 (f 2 : Nat), .int .u8 (f 3 : Nat)]) | 28 => some (.pointer (some ⟨C, 0, none⟩)) | 29 => some (.pointer (some ⟨C, 0, none⟩)) | _ => none) (GWorld.mk (fun ww => Below (C + 1) wc ww ∧ (∀ j, ww.cell? ⟨ga, j, none⟩ = wc.cell? ⟨ga, j, none⟩) ∧ (∀ j, ww.cell? ⟨gt, j, none⟩ = wc.cell? ⟨gt, j, none⟩)) 26 27 30 202 203 (fun vv ww => ∃ g, vv = .slice (some ⟨g, 0, none⟩) 1 1 ∧ Rd ww (g + 1) (some ⟨g, 0, none⟩) (arrK .u8 4 f).toList) (fun vv ww => ∃ A2 c2, vv = .slice A2 (i + 1) c2 ∧ ww.ownsRow (C + 1) 39 4 vv (i + 1) (wordsV (byteAt l) n i ++ (arrK .u8 4 f).toList) ∧ C + 1 ≤ ww.heap.size) (fun ww => ∃ v2, NcAt w ww C v2 (byteAt l) n (i + 1))) (by kernel_rfl) (by kernel_rfl) (by kernel_rfl) (slotsOk_of hz0 (by kernel_rfl)) (by kernel_rfl) rfl ⟨of_decide_eq_true (by kernel_rfl), of_decide_eq_true (by kernel_rfl), of_decide_eq_true (by kernel_rfl)⟩ rfl rfl ⟨rfl, rfl, rfl⟩ ?_ ⟨?_, ?_, ?_, ?_, ?_, ?_, ?_, ?_, ?_, ?_, ?_, ?_, ?_, ?_, ?_, ?_, ?_, ?_, ?_, ?_, ?_, ?_, ?_, ?_, ?_, ?_, ?_, ?_, ?_, ?_, ?_, trivial⟩ ?_
                · exact ⟨(Below.refl _ _).drew, fun _ => rfl, fun _ => rfl⟩
                · refine gstep_val rfl rfl fun aa ω κ hzz hu hc hK => ?_
                  have h4 : aa.tmps[4]?.getD undef = .pointer (some ⟨C, 0, none⟩) := (hu 4 rfl).trans e4
                  have hk := Lib.hid (hK (.pointer (some ⟨C, 0, none⟩)) rfl)
                  clear hK hu hc
                  go_simp
                  exact hk.out
                · refine gstep_val rfl rfl fun aa ω κ hzz hu hc hK => ?_
                  have h4 : aa.tmps[4]?.getD undef = .pointer (some ⟨C, 0, none⟩) := (hu 4 rfl).trans e4
                  have hk := Lib.hid (hK (.pointer (some ⟨C, 0, none⟩)) rfl)
                  clear hK hu hc
                  go_simp
                  exact hk.out
                · refine gstep_val rfl rfl fun aa ω κ hzz hu hc hK => ?_
                  have h177 : aa.tmps[177]?.getD undef = .pointer (some ⟨C, 0, none⟩) := hc 1 177 rfl rfl
                  have hk := Lib.hid (hK (.pointer (some ⟨C, 0, none⟩)) rfl)
                  clear hK hu hc
                  go_simp
                  exact hk.out
                · refine gstep_val rfl rfl fun aa ω κ hzz hu hc hK => ?_
                  have h178 : aa.tmps[178]?.getD undef = .pointer (some ⟨C, 0, none⟩) := hc 2 178 rfl rfl
                  have hk := Lib.hid (hK (.pointer (some ⟨C, 0, none⟩)) rfl)
                  clear hK hu hc
                  go_simp
                  exact hk.out
                · refine gstep_val rfl rfl fun aa ω κ hzz hu hc hK => ?_
                  have h179 : aa.tmps[179]?.getD undef = .pointer (some ⟨C, 0, none⟩) := hc 3 179 rfl rfl
                  have hk := Lib.hid (hK (.slice (some ⟨g, 0, none⟩) i cap) rfl)
                  clear hK hu hc
                  have y0 := (hzz.1.cell (p := ⟨C, 0, none⟩) (by simp)).trans c0
                  go_simp
                  exact hk.out
                · refine gstep_val rfl rfl fun aa ω κ hzz hu hc hK => ?_
                  have h9 : aa.tmps[9]?.getD undef = .pointer (some ⟨ga, 0, none⟩) := (hu 9 rfl).trans e9
                  have hk := Lib.hid (hK (.pointer (some ⟨ga, 0, none⟩)) rfl)
                  clear hK hu hc
                  go_simp
                  exact hk.out
                · refine gstep_val rfl rfl fun aa ω κ hzz hu hc hK => ?_
                  have h181 : aa.tmps[181]?.getD undef = .pointer (some ⟨ga, 0, none⟩) := hc 5 181 rfl rfl
                  have hk := Lib.hid (hK (.int .u8 (fa 0 : Nat)) rfl)
                  clear hK hu hc
                  have y0 := (hzz.2.1 0).trans (hA.out.cell (i := 0) (by omega))
                  go_simp
                  exact hk.out
                · refine gstep_val rfl rfl fun aa ω κ hzz hu hc hK => ?_
                  have h10 : aa.tmps[10]?.getD undef = .pointer (some ⟨gt, 0, none⟩) := (hu 10 rfl).trans e10
                  have hk := Lib.hid (hK (.pointer (some ⟨gt, 0, none⟩)) rfl)
                  clear hK hu hc
                  go_simp
                  exact hk.out
                · refine gstep_val rfl rfl fun aa ω κ hzz hu hc hK => ?_
                  have h183 : aa.tmps[183]?.getD undef = .pointer (some ⟨gt, 0, none⟩) := hc 7 183 rfl rfl
                  have hk := Lib.hid (hK (.int .u8 (mm 0 : Nat)) rfl)
                  clear hK hu hc
                  have y0 := (hzz.2.2 0).trans (hT.out.cell (i := 0) (by omega))
                  go_simp
                  exact hk.out
                · refine gstep_val rfl rfl fun aa ω κ hzz hu hc hK => ?_
                  have h182 : aa.tmps[182]?.getD undef = .int .u8 (fa 0 : Nat) := hc 6 182 rfl rfl
                  have h184 : aa.tmps[184]?.getD undef = .int .u8 (mm 0 : Nat) := hc 8 184 rfl rfl
                  have hk := Lib.hid (hK (.int .u8 (f 0 : Nat)) rfl)
                  clear hK hu hc
                  go_simp
                  exact hk.out
                · refine gstep_val rfl rfl fun aa ω κ hzz hu hc hK => ?_
                  have h9 : aa.tmps[9]?.getD undef = .pointer (some ⟨ga, 0, none⟩) := (hu 9 rfl).trans e9
                  have hk := Lib.hid (hK (.pointer (some ⟨ga, 1, none⟩)) rfl)
                  clear hK hu hc
                  go_simp
                  exact hk.out
                · refine gstep_val rfl rfl fun aa ω κ hzz hu hc hK => ?_
                  have h186 : aa.tmps[186]?.getD undef = .pointer (some ⟨ga, 1, none⟩) := hc 10 186 rfl rfl
                  have hk := Lib.hid (hK (.int .u8 (fa 1 : Nat)) rfl)
                  clear hK hu hc
                  have y0 := (hzz.2.1 1).trans (hA.out.cell (i := 1) (by omega))
                  go_simp
                  exact hk.out
                · refine gstep_val rfl rfl fun aa ω κ hzz hu hc hK => ?_
                  have h10 : aa.tmps[10]?.getD undef = .pointer (some ⟨gt, 0, none⟩) := (hu 10 rfl).trans e10
                  have hk := Lib.hid (hK (.pointer (some ⟨gt, 1, none⟩)) rfl)
                  clear hK hu hc
                  go_simp
                  exact hk.out
                · refine gstep_val rfl rfl fun aa ω κ hzz hu hc hK => ?_
                  have h188 : aa.tmps[188]?.getD undef = .pointer (some ⟨gt, 1, none⟩) := hc 12 188 rfl rfl
                  have hk := Lib.hid (hK (.int .u8 (mm 1 : Nat)) rfl)
                  clear hK hu hc
                  have y0 := (hzz.2.2 1).trans (hT.out.cell (i := 1) (by omega))
                  go_simp
                  exact hk.out
                · refine gstep_val rfl rfl fun aa ω κ hzz hu hc hK => ?_
                  have h187 : aa.tmps[187]?.getD undef = .int .u8 (fa 1 : Nat) := hc 11 187 rfl rfl
                  have h189 : aa.tmps[189]?.getD undef = .int .u8 (mm 1 : Nat) := hc 13 189 rfl rfl
                  have hk := Lib.hid (hK (.int .u8 (f 1 : Nat)) rfl)
                  clear hK hu hc
                  go_simp
                  exact hk.out
                · refine gstep_val rfl rfl fun aa ω κ hzz hu hc hK => ?_
                  have h9 : aa.tmps[9]?.getD undef = .pointer (some ⟨ga, 0, none⟩) := (hu 9 rfl).trans e9
                  have hk := Lib.hid (hK (.pointer (some ⟨ga, 2, none⟩)) rfl)
                  clear hK hu hc
                  go_simp
                  exact hk.out
                · refine gstep_val rfl rfl fun aa ω κ hzz hu hc hK => ?_
                  have h191 : aa.tmps[191]?.getD undef = .pointer (some ⟨ga, 2, none⟩) := hc 15 191 rfl rfl
                  have hk := Lib.hid (hK (.int .u8 (fa 2 : Nat)) rfl)
                  clear hK hu hc
                  have y0 := (hzz.2.1 2).trans (hA.out.cell (i := 2) (by omega))
                  go_simp
                  exact hk.out
                · refine gstep_val rfl rfl fun aa ω κ hzz hu hc hK => ?_
                  have h10 : aa.tmps[10]?.getD undef = .pointer (some ⟨gt, 0, none⟩) := (hu 10 rfl).trans e10
                  have hk := Lib.hid (hK (.pointer (some ⟨gt, 2, none⟩)) rfl)
                  clear hK hu hc
                  go_simp
                  exact hk.out
                · refine gstep_val rfl rfl fun aa ω κ hzz hu hc hK => ?_
                  have h193 : aa.tmps[193]?.getD undef = .pointer (some ⟨gt, 2, none⟩) := hc 17 193 rfl rfl
                  have hk := Lib.hid (hK (.int .u8 (mm 2 : Nat)) rfl)
                  clear hK hu hc
                  have y0 := (hzz.2.2 2).trans (hT.out.cell (i := 2) (by omega))
                  go_simp
                  exact hk.out
                · refine gstep_val rfl rfl fun aa ω κ hzz hu hc hK => ?_
                  have h192 : aa.tmps[192]?.getD undef = .int .u8 (fa 2 : Nat) := hc 16 192 rfl rfl
                  have h194 : aa.tmps[194]?.getD undef = .int .u8 (mm 2 : Nat) := hc 18 194 rfl rfl
                  have hk := Lib.hid (hK (.int .u8 (f 2 : Nat)) rfl)
                  clear hK hu hc
                  go_simp
                  exact hk.out
                · refine gstep_val rfl rfl fun aa ω κ hzz hu hc hK => ?_
                  have h9 : aa.tmps[9]?.getD undef = .pointer (some ⟨ga, 0, none⟩) := (hu 9 rfl).trans e9
                  have hk := Lib.hid (hK (.pointer (some ⟨ga, 3, none⟩)) rfl)
                  clear hK hu hc
                  go_simp
                  exact hk.out
                · refine gstep_val rfl rfl fun aa ω κ hzz hu hc hK => ?_
                  have h196 : aa.tmps[196]?.getD undef = .pointer (some ⟨ga, 3, none⟩) := hc 20 196 rfl rfl
                  have hk := Lib.hid (hK (.int .u8 (fa 3 : Nat)) rfl)
                  clear hK hu hc
                  have y0 := (hzz.2.1 3).trans (hA.out.cell (i := 3) (by omega))
                  go_simp
                  exact hk.out
                · refine gstep_val rfl rfl fun aa ω κ hzz hu hc hK => ?_
                  have h10 : aa.tmps[10]?.getD undef = .pointer (some ⟨gt, 0, none⟩) := (hu 10 rfl).trans e10
                  have hk := Lib.hid (hK (.pointer (some ⟨gt, 3, none⟩)) rfl)
                  clear hK hu hc
                  go_simp
                  exact hk.out
                · refine gstep_val rfl rfl fun aa ω κ hzz hu hc hK => ?_
                  have h198 : aa.tmps[198]?.getD undef = .pointer (some ⟨gt, 3, none⟩) := hc 22 198 rfl rfl
                  have hk := Lib.hid (hK (.int .u8 (mm 3 : Nat)) rfl)
                  clear hK hu hc
                  have y0 := (hzz.2.2 3).trans (hT.out.cell (i := 3) (by omega))
                  go_simp
                  exact hk.out
                · refine gstep_val rfl rfl fun aa ω κ hzz hu hc hK => ?_
                  have h197 : aa.tmps[197]?.getD undef = .int .u8 (fa 3 : Nat) := hc 21 197 rfl rfl
                  have h199 : aa.tmps[199]?.getD undef = .int .u8 (mm 3 : Nat) := hc 23 199 rfl rfl
                  have hk := Lib.hid (hK (.int .u8 (f 3 : Nat)) rfl)
                  clear hK hu hc
                  go_simp
                  exact hk.out
                · refine gstep_val rfl rfl fun aa ω κ hzz hu hc hK => ?_
                  have h185 : aa.tmps[185]?.getD undef = .int .u8 (f 0 : Nat) := hc 9 185 rfl rfl
                  have h190 : aa.tmps[190]?.getD undef = .int .u8 (f 1 : Nat) := hc 14 190 rfl rfl
                  have h195 : aa.tmps[195]?.getD undef = .int .u8 (f 2 : Nat) := hc 19 195 rfl rfl
                  have h200 : aa.tmps[200]?.getD undef = .int .u8 (f 3 : Nat) := hc 24 200 rfl rfl
                  have hk := Lib.hid (hK (.agg #[.int .u8 (f 0 : Nat), .int .u8 (f 1 : Nat), .int .u8 (f 2 : Nat), .int .u8 (f 3 : Nat)]) rfl)
                  clear hK hu hc
                  go_simp
                  exact hk.out
                · refine gstep_s rfl rfl rfl fun aa ω κ hb hzz hu hc hK => ?_
                  have h201 : aa.tmps[201]?.getD undef = .agg #[.int .u8 (f 0 : Nat), .int .u8 (f 1 : Nat), .int .u8 (f 2 : Nat), .int .u8 (f 3 : Nat)] := hc 25 201 rfl rfl
                  have hzz : (fun ww => Below (C + 1) wc ww ∧ (∀ j, ww.cell? ⟨ga, j, none⟩ = wc.cell? ⟨ga, j, none⟩) ∧ (∀ j, ww.cell? ⟨gt, j, none⟩ = wc.cell? ⟨gt, j, none⟩)) ω := hzz
                  go_simp
                  have hbs := hb.size
                  refine hK _ _ ⟨_, rfl, ?_⟩ (hb.alloc hb.size _) ⟨(hzz.1.alloc (Nat.le_trans hCw hb.size) _), fun j => (World.cell?_of_block (Below.heap_alloc _ _ ga (by have := hgal; omega))).trans (hzz.2.1 j), fun j => (World.cell?_of_block (Below.heap_alloc _ _ gt (by have := hgtl; omega))).trans (hzz.2.2 j)⟩
                  rw [arrK4 .u8 f]
                  exact Rd.of_blk (push_new _ _) (by omega)
                · refine gstep_p rfl rfl rfl fun aa ω κ hb hzz hu hc hS hK => ?_
                  have h180 : aa.tmps[180]?.getD undef = .slice (some ⟨g, 0, none⟩) i cap := hc 4 180 rfl rfl
                  have hzz : (fun ww => Below (C + 1) wc ww ∧ (∀ j, ww.cell? ⟨ga, j, none⟩ = wc.cell? ⟨ga, j, none⟩) ∧ (∀ j, ww.cell? ⟨gt, j, none⟩ = wc.cell? ⟨gt, j, none⟩)) ω := hzz
                  obtain ⟨gg, hgg, hrr⟩ := hS
                  have hb : Below wc.heap.size wc ω := hb
                  have hown := own_belowK hI.out.own hb
                  have hbs := hb.size
                  refine wp_app (.tmp 180) (.tmp 202) 72 rfl SW4e (by go_simp) hown ((show aa.eval (.tmp 202) = _ from by simpa [Act.eval] using hgg)) (m := 1) (by simp [arrK_size]) hrr hone.out (by unfold maxLen; omega) (by omega) (by omega) ?_
                  intro v2 w2 hown2 hg2 hat2
                  obtain ⟨A1, p1, rfl⟩ := own_formK hown2
                  exact hK _ _ ⟨_, _, rfl, hown2, Nat.le_trans (by omega) hg2.size⟩ ⟨(hzz.1.grown hg2 (by omega) (fun g hg => (hown.lt g hg).1)), fun j => (World.cell?_of_block (hg2.block ga (by have := hgal; omega) (by simp [Value.ownBlock]; omega))).trans (hzz.2.1 j), fun j => (World.cell?_of_block (hg2.block gt (by have := hgtl; omega) (by simp [Value.ownBlock]; omega))).trans (hzz.2.2 j)⟩
                · refine gstep_val rfl rfl fun aa ω κ hzz hu hc hK => ?_
                  have h176 : aa.tmps[176]?.getD undef = .pointer (some ⟨C, 0, none⟩) := hc 0 176 rfl rfl
                  have hk := Lib.hid (hK (.pointer (some ⟨C, 0, none⟩)) rfl)
                  clear hK hu hc
                  go_simp
                  exact hk.out
                · refine gstep_val rfl rfl fun aa ω κ hzz hu hc hK => ?_
                  have h204 : aa.tmps[204]?.getD undef = .pointer (some ⟨C, 0, none⟩) := hc 28 204 rfl rfl
                  have hk := Lib.hid (hK (.pointer (some ⟨C, 0, none⟩)) rfl)
                  clear hK hu hc
                  go_simp
                  exact hk.out
                · refine gstep_q rfl rfl rfl fun aa ω κ hzz hu hc hS hK => ?_
                  have h205 : aa.tmps[205]?.getD undef = .pointer (some ⟨C, 0, none⟩) := hc 29 205 rfl rfl
                  have hzz : (fun ww => Below (C + 1) wc ww ∧ (∀ j, ww.cell? ⟨ga, j, none⟩ = wc.cell? ⟨ga, j, none⟩) ∧ (∀ j, ww.cell? ⟨gt, j, none⟩ = wc.cell? ⟨gt, j, none⟩)) ω := hzz
                  obtain ⟨A2, p2, hv2, hown2, hsz2⟩ := hS
                  have hb : Below (C + 1) wc ω := hzz.1
                  have hvv : aa.tmps[203]?.getD undef = .slice A2 (i + 1) p2 := hv2
                  rw [hv2] at hown2
                  have y0 := (hb.cell (p := ⟨C, 0, none⟩) (by simp)).trans c0
                  have y1 := (hb.frozen (p := ⟨C, 0, none⟩) (by simp)).trans f0
                  have hk := Lib.hid hK
                  clear hK hu hc
                  go_simp
                  exact hk.out undef _ ⟨_, ⟨(hI.out.box.below hb (by omega)).put _, by rw [← wordsV_step _ _ _ f hf.out]; exact own_farK hown2, (hI.out.bel.trans (hb.mono (by have := hCl; omega))).setCell hCl _⟩⟩
                · intro a1 w1 hS hun hsz hdf
                  have ha0 := hha0.out
                  subst ha0
                  obtain ⟨v2, I2⟩ := hS
                  have he := act_patch (n := 207) [false, false, false, false, false, false, false, false, false, false, false, false, false, false, false, false, false, false, false, false, false, false, false, false, false, false, false, false, false, false, false, false, false, false, false, false, false, false, false, false, false, false, false, false, false, false, false, false, false, false, false, false, false, false, false, false, false, false, false, false, false, false, false, false, false, false, false, false, false, false, false, false, false, false, false, false, false, false, false, false, false, false, false, false, false, false, false, false, false, false, false, false, false, false, false, false, false, false, false, false, false, false, false, false, false, false, false, false, false, false, false, false, false, false, false, false, false, false, false, false, false, false, false, false, false, false, false, false, false, false, false, false, false, false, false, false, false, false, false, false, false, false, false, false, false, false, false, false, false, false, false, false, false, false, false, false, false, false, false, false, false, false, false, false, false, false, false, false, false, false, false, false, false, false, false, false, true, true, true, true, true, true, true, true, true, true, true, true, true, true, true, true, true, true, true, true, true, true, true, true, true, true, true, true, true, true, false] rfl (by kernel_rfl) hun hsz hdf
                  simp only [patch, cond_true, cond_false] at he
                  clear hun hsz hdf e4 e9 e10 hz0 hha0
                  rw [he]
                  clear he
                  go_wp2_with fail
                  go_round
                  case rel => exact ⟨i + 1, v2, by rw [hm6.out]; rfl, by omega, by omega, I2⟩
                  case measure =>
                    rw [nc_len I2 (by omega), hlen0.out]
                    omega
      · have hd : (i : Int) < (n : Int) := by omega
        have hlen := hHl.out
        obtain ⟨f, hff⟩ : ∃ f : Nat → Nat, f = fun j => byteAt l (4 * i + j) := ⟨_, rfl⟩
        have hf := Lib.hid (show ∀ j < 4, f j = kwNew (byteAt l) n i (kw (byteAt l) n i) j from fun j _ => by unfold kwNew; rw [if_pos (by omega), hff])
        have hx0 := fun W => str_index l (4 * i) (4 * (i : Int)) (by omega) (by omega) W
        have hx1 := fun W => str_index l (4 * i + 1) (4 * (i : Int) + 1) (by omega) (by omega) W
        have hx2 := fun W => str_index l (4 * i + 2) (4 * (i : Int) + 2) (by omega) (by omega) W
        have hx3 := fun W => str_index l (4 * i + 3) (4 * (i : Int) + 3) (by omega) (by omega) W
        rw [show byteAt l (4 * i) = f 0 by simp [hff]] at hx0
        have hw0 : IntKind.i64.wrap (4 * (i : Int)) = 4 * (i : Int) := by rw [IntKind.wrap_i64]; omega
        rw [show byteAt l (4 * i + 1) = f 1 by simp [hff]] at hx1
        have hw1 : IntKind.i64.wrap (4 * (i : Int) + 1) = 4 * (i : Int) + 1 := by rw [IntKind.wrap_i64]; omega
        rw [show byteAt l (4 * i + 2) = f 2 by simp [hff]] at hx2
        have hw2 : IntKind.i64.wrap (4 * (i : Int) + 2) = 4 * (i : Int) + 2 := by rw [IntKind.wrap_i64]; omega
        rw [show byteAt l (4 * i + 3) = f 3 by simp [hff]] at hx3
        have hw3 : IntKind.i64.wrap (4 * (i : Int) + 3) = 4 * (i : Int) + 3 := by rw [IntKind.wrap_i64]; omega
        have c0 := I.box.head
        have hCw := I.box.row.lt
        have f0 := I.box.row.frozen 0
        have hI := Lib.hid I
        clear I hlen hff
        go_wp2_with fail
        have hone := Lib.hid (show ∀ u ∈ (arrK .u8 4 f).toList, u.oneCell' = true from fun u hu => Array.all_eq_true_iff_forall_mem.1 (arrK_cells .u8 4 f).2 u (Array.mem_toList_iff.1 hu))
        generalize wr = wc at *
        generalize ha0 : Act.mk _ _ = a0
        have e0 : a0.tmps[0]?.getD undef = .string ⟨l.toArray⟩ := by rw [← ha0]; rfl
        have e4 : a0.tmps[4]?.getD undef = .pointer (some ⟨C, 0, none⟩) := by rw [← ha0]; rfl
        have e6 : a0.tmps[6]?.getD undef = .int .i64 (i : Nat) := by rw [← ha0]; rfl
        have hz0 : a0.tmps.size = 207 := by rw [← ha0]; rfl
        have hha0 := Lib.hid ha0
        clear ha0
        refine wp_region_grow (fun jx_ => match jx_ with | 0 => some (.pointer (some ⟨C, 0, none⟩)) | 1 => some (.pointer (some ⟨C, 0, none⟩)) | 2 => some (.pointer (some ⟨C, 0, none⟩)) | 3 => some (.pointer (some ⟨C, 0, none⟩)) | 4 => some (v) | 5 => some (.string ⟨l.toArray⟩) | 6 => some (.int .i64 (i : Nat)) | 7 => some (.int .i64 (4 * (i : Int))) | 8 => some (.int .u8 (f 0 : Nat)) | 9 => some (.string ⟨l.toArray⟩) | 10 => some (.int .i64 (i : Nat)) | 11 => some (.int .i64 (4 * (i : Int))) | 12 => some (.int .i64 (4 * (i : Int) + 1)) | 13 => some (.int .u8 (f 1 : Nat)) | 14 => some (.string ⟨l.toArray⟩) | 15 => some (.int .i64 (i : Nat)) | 16 => some (.int .i64 (4 * (i : Int))) | 17 => some (.int .i64 (4 * (i : Int) + 2)) | 18 => some (.int .u8 (f 2 : Nat)) | 19 => some (.string ⟨l.toArray⟩) | 20 => some (.int .i64 (i : Nat)) | 21 => some (.int .i64 (4 * (i : Int))) | 22 => some (.int .i64 (4 * (i : Int) + 3)) | 23 => some (.int .u8 (f 3 : Nat)) | 24 => some (.agg #[.int .u8 (f 0 : Nat), .int .u8 (f 1 : Nat), .int .u8 (f 2 : Nat), .int .u8 (f 3 : Nat)]) | 27 => some (.pointer (some ⟨C, 0, none⟩)) | 28 => some (.pointer (some ⟨C, 0, none⟩)) | _ => none) (GWorld.mk (fun ww => Below (C + 1) wc ww) 25 26 29 67 68 (fun vv ww => ∃ g, vv = .slice (some ⟨g, 0, none⟩) 1 1 ∧ Rd ww (g + 1) (some ⟨g, 0, none⟩) (arrK .u8 4 f).toList) (fun vv ww => ∃ A2 c2, vv = .slice A2 (i + 1) c2 ∧ ww.ownsRow (C + 1) 39 4 vv (i + 1) (wordsV (byteAt l) n i ++ (arrK .u8 4 f).toList) ∧ C + 1 ≤ ww.heap.size) (fun ww => ∃ v2, NcAt w ww C v2 (byteAt l) n (i + 1))) (by kernel_rfl) (by kernel_rfl) (by kernel_rfl) (slotsOk_of hz0 (by kernel_rfl)) (by kernel_rfl) rfl ⟨of_decide_eq_true (by kernel_rfl), of_decide_eq_true (by kernel_rfl), of_decide_eq_true (by kernel_rfl)⟩ rfl rfl ⟨rfl, rfl, rfl⟩ ?_ ⟨?_, ?_, ?_, ?_, ?_, ?_, ?_, ?_, ?_, ?_, ?_, ?_, ?_, ?_, ?_, ?_, ?_, ?_, ?_, ?_, ?_, ?_, ?_, ?_, ?_, ?_, ?_, ?_, ?_, ?_, trivial⟩ ?_
        · exact (Below.refl _ _).drew
        · refine gstep_val rfl rfl fun aa ω κ hzz hu hc hK => ?_
          have h4 : aa.tmps[4]?.getD undef = .pointer (some ⟨C, 0, none⟩) := (hu 4 rfl).trans e4
          have hk := Lib.hid (hK (.pointer (some ⟨C, 0, none⟩)) rfl)
          clear hK hu hc
          go_simp
          exact hk.out
        · refine gstep_val rfl rfl fun aa ω κ hzz hu hc hK => ?_
          have h4 : aa.tmps[4]?.getD undef = .pointer (some ⟨C, 0, none⟩) := (hu 4 rfl).trans e4
          have hk := Lib.hid (hK (.pointer (some ⟨C, 0, none⟩)) rfl)
          clear hK hu hc
          go_simp
          exact hk.out
        · refine gstep_val rfl rfl fun aa ω κ hzz hu hc hK => ?_
          have h43 : aa.tmps[43]?.getD undef = .pointer (some ⟨C, 0, none⟩) := hc 1 43 rfl rfl
          have hk := Lib.hid (hK (.pointer (some ⟨C, 0, none⟩)) rfl)
          clear hK hu hc
          go_simp
          exact hk.out
        · refine gstep_val rfl rfl fun aa ω κ hzz hu hc hK => ?_
          have h44 : aa.tmps[44]?.getD undef = .pointer (some ⟨C, 0, none⟩) := hc 2 44 rfl rfl
          have hk := Lib.hid (hK (.pointer (some ⟨C, 0, none⟩)) rfl)
          clear hK hu hc
          go_simp
          exact hk.out
        · refine gstep_val rfl rfl fun aa ω κ hzz hu hc hK => ?_
          have h45 : aa.tmps[45]?.getD undef = .pointer (some ⟨C, 0, none⟩) := hc 3 45 rfl rfl
          have hk := Lib.hid (hK (v) rfl)
          clear hK hu hc
          have hb : Below (C + 1) wc ω := hzz
          have y0 := (hb.cell (p := ⟨C, 0, none⟩) (by simp)).trans c0
          go_simp
          exact hk.out
        · refine gstep_val rfl rfl fun aa ω κ hzz hu hc hK => ?_
          have h0 : aa.tmps[0]?.getD undef = .string ⟨l.toArray⟩ := (hu 0 rfl).trans e0
          have hk := Lib.hid (hK (.string ⟨l.toArray⟩) rfl)
          clear hK hu hc
          go_simp
          exact hk.out
        · refine gstep_val rfl rfl fun aa ω κ hzz hu hc hK => ?_
          have h6 : aa.tmps[6]?.getD undef = .int .i64 (i : Nat) := (hu 6 rfl).trans e6
          have hk := Lib.hid (hK (.int .i64 (i : Nat)) rfl)
          clear hK hu hc
          go_simp
          exact hk.out
        · refine gstep_val rfl rfl fun aa ω κ hzz hu hc hK => ?_
          have h48 : aa.tmps[48]?.getD undef = .int .i64 (i : Nat) := hc 6 48 rfl rfl
          have hk := Lib.hid (hK (.int .i64 (4 * (i : Int))) rfl)
          clear hK hu hc
          go_simp
          exact hk.out
        · refine gstep_val rfl rfl fun aa ω κ hzz hu hc hK => ?_
          have h47 : aa.tmps[47]?.getD undef = .string ⟨l.toArray⟩ := hc 5 47 rfl rfl
          have h49 : aa.tmps[49]?.getD undef = .int .i64 (4 * (i : Int)) := hc 7 49 rfl rfl
          have hk := Lib.hid (hK (.int .u8 (f 0 : Nat)) rfl)
          clear hK hu hc
          go_simp
          exact hk.out
        · refine gstep_val rfl rfl fun aa ω κ hzz hu hc hK => ?_
          have h0 : aa.tmps[0]?.getD undef = .string ⟨l.toArray⟩ := (hu 0 rfl).trans e0
          have hk := Lib.hid (hK (.string ⟨l.toArray⟩) rfl)
          clear hK hu hc
          go_simp
          exact hk.out
        · refine gstep_val rfl rfl fun aa ω κ hzz hu hc hK => ?_
          have h6 : aa.tmps[6]?.getD undef = .int .i64 (i : Nat) := (hu 6 rfl).trans e6
          have hk := Lib.hid (hK (.int .i64 (i : Nat)) rfl)
          clear hK hu hc
          go_simp
          exact hk.out
        · refine gstep_val rfl rfl fun aa ω κ hzz hu hc hK => ?_
          have h52 : aa.tmps[52]?.getD undef = .int .i64 (i : Nat) := hc 10 52 rfl rfl
          have hk := Lib.hid (hK (.int .i64 (4 * (i : Int))) rfl)
          clear hK hu hc
          go_simp
          exact hk.out
        · refine gstep_val rfl rfl fun aa ω κ hzz hu hc hK => ?_
          have h53 : aa.tmps[53]?.getD undef = .int .i64 (4 * (i : Int)) := hc 11 53 rfl rfl
          have hk := Lib.hid (hK (.int .i64 (4 * (i : Int) + 1)) rfl)
          clear hK hu hc
          go_simp
          exact hk.out
        · refine gstep_val rfl rfl fun aa ω κ hzz hu hc hK => ?_
          have h51 : aa.tmps[51]?.getD undef = .string ⟨l.toArray⟩ := hc 9 51 rfl rfl
          have h54 : aa.tmps[54]?.getD undef = .int .i64 (4 * (i : Int) + 1) := hc 12 54 rfl rfl
          have hk := Lib.hid (hK (.int .u8 (f 1 : Nat)) rfl)
          clear hK hu hc
          go_simp
          exact hk.out
        · refine gstep_val rfl rfl fun aa ω κ hzz hu hc hK => ?_
          have h0 : aa.tmps[0]?.getD undef = .string ⟨l.toArray⟩ := (hu 0 rfl).trans e0
          have hk := Lib.hid (hK (.string ⟨l.toArray⟩) rfl)
          clear hK hu hc
          go_simp
          exact hk.out
        · refine gstep_val rfl rfl fun aa ω κ hzz hu hc hK => ?_
          have h6 : aa.tmps[6]?.getD undef = .int .i64 (i : Nat) := (hu 6 rfl).trans e6
          have hk := Lib.hid (hK (.int .i64 (i : Nat)) rfl)
          clear hK hu hc
          go_simp
          exact hk.out
        · refine gstep_val rfl rfl fun aa ω κ hzz hu hc hK => ?_
          have h57 : aa.tmps[57]?.getD undef = .int .i64 (i : Nat) := hc 15 57 rfl rfl
          have hk := Lib.hid (hK (.int .i64 (4 * (i : Int))) rfl)
          clear hK hu hc
          go_simp
          exact hk.out
        · refine gstep_val rfl rfl fun aa ω κ hzz hu hc hK => ?_
          have h58 : aa.tmps[58]?.getD undef = .int .i64 (4 * (i : Int)) := hc 16 58 rfl rfl
          have hk := Lib.hid (hK (.int .i64 (4 * (i : Int) + 2)) rfl)
          clear hK hu hc
          go_simp
          exact hk.out
        · refine gstep_val rfl rfl fun aa ω κ hzz hu hc hK => ?_
          have h56 : aa.tmps[56]?.getD undef = .string ⟨l.toArray⟩ := hc 14 56 rfl rfl
          have h59 : aa.tmps[59]?.getD undef = .int .i64 (4 * (i : Int) + 2) := hc 17 59 rfl rfl
          have hk := Lib.hid (hK (.int .u8 (f 2 : Nat)) rfl)
          clear hK hu hc
          go_simp
          exact hk.out
        · refine gstep_val rfl rfl fun aa ω κ hzz hu hc hK => ?_
          have h0 : aa.tmps[0]?.getD undef = .string ⟨l.toArray⟩ := (hu 0 rfl).trans e0
          have hk := Lib.hid (hK (.string ⟨l.toArray⟩) rfl)
          clear hK hu hc
          go_simp
          exact hk.out
        · refine gstep_val rfl rfl fun aa ω κ hzz hu hc hK => ?_
          have h6 : aa.tmps[6]?.getD undef = .int .i64 (i : Nat) := (hu 6 rfl).trans e6
          have hk := Lib.hid (hK (.int .i64 (i : Nat)) rfl)
          clear hK hu hc
          go_simp
          exact hk.out
        · refine gstep_val rfl rfl fun aa ω κ hzz hu hc hK => ?_
          have h62 : aa.tmps[62]?.getD undef = .int .i64 (i : Nat) := hc 20 62 rfl rfl
          have hk := Lib.hid (hK (.int .i64 (4 * (i : Int))) rfl)
          clear hK hu hc
          go_simp
          exact hk.out
        · refine gstep_val rfl rfl fun aa ω κ hzz hu hc hK => ?_
          have h63 : aa.tmps[63]?.getD undef = .int .i64 (4 * (i : Int)) := hc 21 63 rfl rfl
          have hk := Lib.hid (hK (.int .i64 (4 * (i : Int) + 3)) rfl)
          clear hK hu hc
          go_simp
          exact hk.out
        · refine gstep_val rfl rfl fun aa ω κ hzz hu hc hK => ?_
          have h61 : aa.tmps[61]?.getD undef = .string ⟨l.toArray⟩ := hc 19 61 rfl rfl
          have h64 : aa.tmps[64]?.getD undef = .int .i64 (4 * (i : Int) + 3) := hc 22 64 rfl rfl
          have hk := Lib.hid (hK (.int .u8 (f 3 : Nat)) rfl)
          clear hK hu hc
          go_simp
          exact hk.out
        · refine gstep_val rfl rfl fun aa ω κ hzz hu hc hK => ?_
          have h50 : aa.tmps[50]?.getD undef = .int .u8 (f 0 : Nat) := hc 8 50 rfl rfl
          have h55 : aa.tmps[55]?.getD undef = .int .u8 (f 1 : Nat) := hc 13 55 rfl rfl
          have h60 : aa.tmps[60]?.getD undef = .int .u8 (f 2 : Nat) := hc 18 60 rfl rfl
          have h65 : aa.tmps[65]?.getD undef = .int .u8 (f 3 : Nat) := hc 23 65 rfl rfl
          have hk := Lib.hid (hK (.agg #[.int .u8 (f 0 : Nat), .int .u8 (f 1 : Nat), .int .u8 (f 2 : Nat), .int .u8 (f 3 : Nat)]) rfl)
          clear hK hu hc
          go_simp
          exact hk.out
        · refine gstep_s rfl rfl rfl fun aa ω κ hb hzz hu hc hK => ?_
          have h66 : aa.tmps[66]?.getD undef = .agg #[.int .u8 (f 0 : Nat), .int .u8 (f 1 : Nat), .int .u8 (f 2 : Nat), .int .u8 (f 3 : Nat)] := hc 24 66 rfl rfl
          have hzz : Below (C + 1) wc ω := hzz
          go_simp
          have hbs := hb.size
          refine hK _ _ ⟨_, rfl, ?_⟩ (hb.alloc hb.size _) (hzz.alloc (Nat.le_trans hCw hb.size) _)
          rw [arrK4 .u8 f]
          exact Rd.of_blk (push_new _ _) (by omega)
        · refine gstep_p rfl rfl rfl fun aa ω κ hb hzz hu hc hS hK => ?_
          have h46 : aa.tmps[46]?.getD undef = v := hc 4 46 rfl rfl
          have hzz : Below (C + 1) wc ω := hzz
          obtain ⟨gg, hgg, hrr⟩ := hS
          have hb : Below wc.heap.size wc ω := hb
          have hown := own_belowK hI.out.own hb
          have hbs := hb.size
          refine wp_app (.tmp 46) (.tmp 67) 72 rfl SW4e (by go_simp) hown ((show aa.eval (.tmp 67) = _ from by simpa [Act.eval] using hgg)) (m := 1) (by simp [arrK_size]) hrr hone.out (by unfold maxLen; omega) (by omega) (by omega) ?_
          intro v2 w2 hown2 hg2 hat2
          obtain ⟨A1, p1, rfl⟩ := own_formK hown2
          exact hK _ _ ⟨_, _, rfl, hown2, Nat.le_trans (by omega) hg2.size⟩ (hzz.grown hg2 (by omega) (fun g hg => (hown.lt g hg).1))
        · refine gstep_val rfl rfl fun aa ω κ hzz hu hc hK => ?_
          have h42 : aa.tmps[42]?.getD undef = .pointer (some ⟨C, 0, none⟩) := hc 0 42 rfl rfl
          have hk := Lib.hid (hK (.pointer (some ⟨C, 0, none⟩)) rfl)
          clear hK hu hc
          go_simp
          exact hk.out
        · refine gstep_val rfl rfl fun aa ω κ hzz hu hc hK => ?_
          have h69 : aa.tmps[69]?.getD undef = .pointer (some ⟨C, 0, none⟩) := hc 27 69 rfl rfl
          have hk := Lib.hid (hK (.pointer (some ⟨C, 0, none⟩)) rfl)
          clear hK hu hc
          go_simp
          exact hk.out
        · refine gstep_q rfl rfl rfl fun aa ω κ hzz hu hc hS hK => ?_
          have h70 : aa.tmps[70]?.getD undef = .pointer (some ⟨C, 0, none⟩) := hc 28 70 rfl rfl
          have hzz : Below (C + 1) wc ω := hzz
          obtain ⟨A2, p2, hv2, hown2, hsz2⟩ := hS
          have hb : Below (C + 1) wc ω := hzz
          have hvv : aa.tmps[68]?.getD undef = .slice A2 (i + 1) p2 := hv2
          rw [hv2] at hown2
          have y0 := (hb.cell (p := ⟨C, 0, none⟩) (by simp)).trans c0
          have y1 := (hb.frozen (p := ⟨C, 0, none⟩) (by simp)).trans f0
          have hk := Lib.hid hK
          clear hK hu hc
          go_simp
          exact hk.out undef _ ⟨_, ⟨(hI.out.box.below hb (by omega)).put _, by rw [← wordsV_step _ _ _ f hf.out]; exact own_farK hown2, (hI.out.bel.trans (hb.mono (by have := hCl; omega))).setCell hCl _⟩⟩
        · intro a1 w1 hS hun hsz hdf
          have ha0 := hha0.out
          subst ha0
          obtain ⟨v2, I2⟩ := hS
          have he := act_patch (n := 207) [false, false, false, false, false, false, false, false, false, false, false, false, false, false, false, false, false, false, false, false, false, false, false, false, false, false, false, false, false, false, false, false, false, false, false, false, false, false, false, false, false, false, true, true, true, true, true, true, true, true, true, true, true, true, true, true, true, true, true, true, true, true, true, true, true, true, true, true, true, true, true, false, false, false, false, false, false, false, false, false, false, false, false, false, false, false, false, false, false, false, false, false, false, false, false, false, false, false, false, false, false, false, false, false, false, false, false, false, false, false, false, false, false, false, false, false, false, false, false, false, false, false, false, false, false, false, false, false, false, false, false, false, false, false, false, false, false, false, false, false, false, false, false, false, false, false, false, false, false, false, false, false, false, false, false, false, false, false, false, false, false, false, false, false, false, false, false, false, false, false, false, false, false, false, false, false, false, false, false, false, false, false, false, false, false, false, false, false, false, false, false, false, false, false, false, false, false, false, false, false, false, false, false, false, false, false, false] rfl (by kernel_rfl) hun hsz hdf
          simp only [patch, cond_true, cond_false] at he
          clear hun hsz hdf e0 e4 e6 hz0 hha0
          rw [he]
          clear he
          go_wp2_with fail
          go_round
          case rel => exact ⟨i + 1, v2, by go_num, by omega, I2⟩
          case measure => simp [intOf]; omega
end Go.Proofs.Ytjihklaocgmlpaa
