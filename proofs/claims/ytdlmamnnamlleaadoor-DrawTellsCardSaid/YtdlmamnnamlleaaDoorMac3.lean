/- Contract of package mac's New. -/
import Derived.Test.YtdlmamnnamlleaaDoorMac2
namespace Go.Proofs.YtdlmamnnamlleaaDoor
open Go.ChangeShapes Go.WideShapes Go.ChangeAt Go.RowKit
set_option maxHeartbeats 1000000
set_option maxRecDepth 100000
def b64A (f : Nat → Nat) : Array Value := arrK .u8 64 f
theorem b64A_cells (f : Nat → Nat) : Cells (b64A f) 64 := arrK_cells .u8 64 f
theorem zeroQ : #[Value.int IntKind.u8 0, Value.int IntKind.u8 0, Value.int IntKind.u8 0, Value.int IntKind.u8 0, Value.int IntKind.u8 0, Value.int IntKind.u8 0, Value.int IntKind.u8 0, Value.int IntKind.u8 0, Value.int IntKind.u8 0, Value.int IntKind.u8 0, Value.int IntKind.u8 0, Value.int IntKind.u8 0, Value.int IntKind.u8 0, Value.int IntKind.u8 0, Value.int IntKind.u8 0, Value.int IntKind.u8 0, Value.int IntKind.u8 0, Value.int IntKind.u8 0, Value.int IntKind.u8 0, Value.int IntKind.u8 0, Value.int IntKind.u8 0, Value.int IntKind.u8 0, Value.int IntKind.u8 0, Value.int IntKind.u8 0, Value.int IntKind.u8 0, Value.int IntKind.u8 0, Value.int IntKind.u8 0, Value.int IntKind.u8 0, Value.int IntKind.u8 0, Value.int IntKind.u8 0, Value.int IntKind.u8 0, Value.int IntKind.u8 0, Value.int IntKind.u8 0, Value.int IntKind.u8 0, Value.int IntKind.u8 0, Value.int IntKind.u8 0, Value.int IntKind.u8 0, Value.int IntKind.u8 0, Value.int IntKind.u8 0, Value.int IntKind.u8 0, Value.int IntKind.u8 0, Value.int IntKind.u8 0, Value.int IntKind.u8 0, Value.int IntKind.u8 0, Value.int IntKind.u8 0, Value.int IntKind.u8 0, Value.int IntKind.u8 0, Value.int IntKind.u8 0, Value.int IntKind.u8 0, Value.int IntKind.u8 0, Value.int IntKind.u8 0, Value.int IntKind.u8 0, Value.int IntKind.u8 0, Value.int IntKind.u8 0, Value.int IntKind.u8 0, Value.int IntKind.u8 0, Value.int IntKind.u8 0, Value.int IntKind.u8 0, Value.int IntKind.u8 0, Value.int IntKind.u8 0, Value.int IntKind.u8 0, Value.int IntKind.u8 0, Value.int IntKind.u8 0, Value.int IntKind.u8 0] = b64A fun _ => 0 := by kernel_rfl
section
variable {w : World} {dst : Option Tmp} {x y : Operand} {tt : TypeId} {pos : String} {af : Array Edge} {gd : Option (Nat × Bool)} {a : Act} {K : Act → World → Prop} {Q : Exit → Act → World → Prop}
theorem load_b64 (hv : IsHead (a.eval x)) (h : Row w (blkOf (a.eval x)) 64) : Oper.wp Tryd.prog ⟨dst, .load 97 x, tt, pos, af, gd⟩ a w K Q ↔ K (a.put dst (.agg (rowAt w (blkOf (a.eval x))))) w :=
  wp_load_whole Tryd.underlying97 rfl (by kernel_rfl) hv h
theorem store_b64 (hv : IsHead (a.eval x)) (h : Row w (blkOf (a.eval x)) 64) (hx : IsAgg (a.eval y) 64) : Oper.wp Tryd.prog ⟨dst, .store 97 x y, tt, pos, af, gd⟩ a w K Q ↔ K (a.put dst undef) (w.setRow (blkOf (a.eval x)) (cellsV (a.eval y))) :=
  wp_store_whole (by kernel_rfl) hv h hx
end
theorem b64A_at {f : Nat → Nat} {i : Nat} (h : i < 64) : (b64A f)[i]? = some (.int .u8 (f i : Int)) := arrK_at h
theorem b64A_set {f : Nat → Nat} {i v : Nat} : (b64A f).setIfInBounds i (.int .u8 (v : Int)) = b64A (upd f i v) := arrK_set
theorem foldl_zipIdx (o : Nat) : ∀ (l : List Value) (n : Nat) (c : Array Value), (l.zipIdx n).foldl (fun cs x => cs.setIfInBounds (o + x.2) x.1) c = putAt c (o + n) l
  | [], n, c => rfl
  | v :: r, n, c => by
      rw [List.zipIdx_cons, List.foldl_cons, foldl_zipIdx o r (n + 1)]
      rfl
theorem foldl_arr {b c : Array Value} {n : Nat} (o : Nat) (hb : b.size = n) : Array.foldl (fun (cs : Array Value) (x : Value × Nat) => cs.setIfInBounds (o + x.snd) x.fst) c b.zipIdx 0 n = putAt c o b.toList := by
  subst hb
  have := foldl_zipIdx o b.toList 0 c
  rw [Nat.add_zero] at this
  rw [← this, ← Array.toList_zipIdx]
  have e : b.size = b.zipIdx.size := by simp
  rw [e, Array.foldl_toList]
theorem foldl_arr0 {b c : Array Value} {n : Nat} (hb : b.size = n) : Array.foldl (fun (cs : Array Value) (x : Value × Nat) => cs.setIfInBounds x.snd x.fst) c b.zipIdx 0 n = putAt c 0 b.toList := by
  rw [← foldl_arr 0 hb]
  congr 1
  funext cs x
  rw [Nat.zero_add]
theorem pairA_put2 {a b b' : Array Value} (ha : a.size = 73) (hb : b.size = 73) (hb' : b'.size = 73) : putAt (pairA a b) 73 b'.toList = pairA a b' := by
  have e : pairA a b = arrV 146 fun i => if i < 73 then (a[i]?).getD undef else (b[i - 73]?).getD undef := arrV_of (by simp [pairA, ha, hb]) fun i hi => pairA_at ha hb hi
  have e2 : pairA a b' = arrV 146 fun i => if i < 73 then (a[i]?).getD undef else (b'[i - 73]?).getD undef := arrV_of (by simp [pairA, ha, hb']) fun i hi => pairA_at ha hb' hi
  rw [e, e2, putAt_arrV]
  refine arrV_congr fun i hi => ?_
  by_cases h : i < 73
  · rw [if_neg (by omega)]
    simp [h]
  · rw [if_pos (by omega), Array.getElem?_toList, if_neg h, if_neg h, Array.getElem?_eq_getElem (by omega)]; rfl
/-- The bytes of a key, laid over zeros. -/
def keyF (k : List UInt8) (i : Nat) : Nat := if i < k.length then bytesF k i else 0
theorem bytesV_at {l : List UInt8} {i : Nat} (h : i < l.length) : (bytesV l)[i]? = some (.int .u8 (bytesF l i : Int)) := by
  rw [bytesF_at h]
  simp [bytesV, List.getElem?_eq_getElem h]
/-- copy of bytes into a row. -/
theorem wpList_copyB {ops : Array Oper} {rest : List Oper} {o : Oper} {a : Act} {w : World} {Q : Exit → Act → World → Prop} (hgd : o.guard = none) (d s : Operand)
    (ho : o.op = .call { callee := .builtin .copy, args := #[d, s], argTypes := #[22, 22] }) {g : Nat} {A : Option Addr} {k : List UInt8} {c : Nat}
    (hd : a.eval d = .slice (some ⟨g, 0, none⟩) 64 64) (hs : a.eval s = .slice A k.length c) (hR : Row w g 64) (hr : rowAt w g = b64A fun _ => 0) (hb : Bs w A k c) (hk : k.length ≤ 64)
    (h : wpList Tryd.prog ops Q rest (a.put o.dst (goInt k.length)) (w.setRow g (b64A (keyF k)))) : wpList Tryd.prog ops Q (o :: rest) a w := by
  have hrun : (Builtin.copy_ #[22, 22] o.type #[.slice (some ⟨g, 0, none⟩) 64 64, .slice A k.length c]).run Tryd.prog w = .ok (goInt k.length) (w.setRow g (b64A (keyF k))) := by
    cases k with
    | nil =>
      have e : w.setRow g (b64A (keyF [])) = w := by
        have : b64A (keyF []) = rowAt w g := by rw [hr]; exact arrK_congr fun i _ => by simp [keyF]
        rw [this, setRow_id hR]
      rw [e]
      exact run_copy_none w _ _ _ 5 _ _ _ _ _ _ Tryd.underlying22 (by kernel_rfl) (by simp)
    | cons b k =>
      obtain ⟨ad, rfl, -, -⟩ := hb.rd 0 (.int .u8 (b.toNat : Int)) (by simp [bytesV])
      obtain ⟨cs, t, hg, hl⟩ := id hR
      have ecs : cs = b64A fun _ => 0 := by rw [← hr]; simp [rowAt, hg]
      have h1 := run_copy_row (P := Tryd.prog) w 22 22 o.type 5 g 0 64 64 ad (b :: k).length c cs t (bytesV (b :: k)) Tryd.underlying22 (by kernel_rfl) hg (by rw [bytesV_length]; exact (Nat.min_eq_left hk).symm)
        (fun j v hv => hb.rd.all hv) (by rw [bytesV_length, hl]; omega) (bytesV_oneCell _)
      have e : (cs.toList.take 0 ++ bytesV (b :: k) ++ cs.toList.drop (0 + (bytesV (b :: k)).length)).toArray = b64A (keyF (b :: k)) := by
        apply Array.ext_getElem?
        intro i
        have hlen : (bytesV (b :: k)).length = (b :: k).length := bytesV_length _
        simp only [List.take_zero, List.nil_append, Nat.zero_add, List.getElem?_toArray]
        by_cases hi : i < 64
        · rw [show (b64A (keyF (b :: k)))[i]? = some (.int .u8 (keyF (b :: k) i : Int)) from arrK_at hi]
          unfold keyF
          by_cases hik : i < (b :: k).length
          · rw [List.getElem?_append_left (by rw [hlen]; exact hik), if_pos hik, bytesV_at hik]
          · rw [List.getElem?_append_right (by rw [hlen]; omega), if_neg hik, hlen, List.getElem?_drop, ecs, Array.getElem?_toList, show (b :: k).length + (i - (b :: k).length) = i by omega]
            exact arrK_at hi
        · rw [List.getElem?_eq_none (by simp [hlen, hl]; simp at hk; omega), Array.getElem?_eq_none (by rw [(b64A_cells _).1]; omega)]
      rw [e, bytesV_length] at h1
      exact h1
  exact wpList_plain hgd fun K hK => by
    unfold Oper.wp execOp
    simp only [ho, resolve, invoke, builtin, Sem.run_bind, Sem.run_pure, Result.andThen_ok, List.map_toArray, List.map_cons, List.map_nil, hd, hs, hrun]
    exact hK _ _ h
/-- The first k bytes laid over by c. -/
def xorF (f : Nat → Nat) (c k : Nat) : Nat → Nat := fun i => if i < k then f i ^^^ c else f i
theorem keyF_lt (l : List UInt8) (i : Nat) : keyF l i < 256 := by
  unfold keyF
  split
  · exact bytesF_lt l i
  · omega
theorem xorF_step (f : Nat → Nat) (c k : Nat) : upd (xorF f c k) k (f k ^^^ c) = xorF f c (k + 1) := by
  funext i
  unfold upd xorF
  by_cases e : i = k
  · subst e; rw [if_pos rfl, if_pos (by omega)]
  · rw [if_neg e]
    by_cases e2 : i < k
    · rw [if_pos e2, if_pos (by omega)]
    · rw [if_neg e2, if_neg (by omega)]
theorem xorF_pad (l : List UInt8) (c : UInt8) : b64A (xorF (keyF l) c.toNat 64) = (bytesV (padB l c)).toArray := by
  apply Array.toList_inj.1
  apply List.ext_getElem?
  intro i
  rw [Array.getElem?_toList]
  show _ = (bytesV (padB l c))[i]?
  by_cases hi : i < 64
  · rw [bytesV_at (by rw [padB_len]; exact hi), bytesF_at (by rw [padB_len]; exact hi)]
    rw [show (b64A (xorF (keyF l) c.toNat 64))[i]? = some (.int .u8 (xorF (keyF l) c.toNat 64 i : Int)) from b64A_at hi]
    unfold xorF keyF
    rw [if_pos hi]
    simp only [padB, List.getElem_map, List.getElem_range, UInt8.toNat_xor]
    by_cases h : i < l.length
    · rw [if_pos h, bytesF_at h, List.getElem?_eq_getElem h]; rfl
    · rw [if_neg h, List.getElem?_eq_none (by omega)]; rfl
  · rw [Array.getElem?_eq_none (by rw [(b64A_cells _).1]; omega), List.getElem?_eq_none (by rw [bytesV_length, padB_len]; omega)]
theorem bs_pad {w : World} {g : Nat} {l : List UInt8} (c : UInt8) (hR : Row w g 64) (hr : rowAt w g = b64A (xorF (keyF l) c.toNat 64)) : Bs w (some ⟨g, 0, none⟩) (padB l c) 64 := by
  rw [xorF_pad l c] at hr
  have := rd_row hR hr
  exact ⟨by simpa using this, by rw [padB_len]; omega, by omega⟩
theorem macZ_put {a : Array Value} (ha : a.size = 73) : putAt macZ 0 a.toList = pairA a stZ := pairA_put stZ_cells.1 stZ_cells.1 ha
theorem macA_nil {K : Nat → W32} {k : List UInt8} (h1 : (stL K (padB k 54)).cells.size = 73) (h2 : (stL K (padB k 92)).cells.size = 73) : putAt (pairA (stL K (padB k 54)).cells stZ) 73 (stL K (padB k 92)).cells.toList = macA K k [] := by
  unfold macA
  rw [List.append_nil]
  exact pairA_put2 h1 stZ_cells.1 h2
attribute [local irreducible] arrV dgA sha macA macZ b64A
attribute [local go_sem ↓] load_mac store_mac load_b64 store_b64 load_o32 store_o32
attribute [local go_sem] isHead_mk isPart_mk offOf_mk blkOf_mk isAgg_mk cellsV_mk row_drew rowAt_drew row_new_cells row_old rowAt_new rowAt_old zero_mac zero_cellsM zeroQ zeroD
theorem padW {K : Nat → W32} {w : World} {A : Option Addr} {l : List UInt8} {c : Nat} (hl : l.length = 64) (hT : Tabs K w) (h : Bs w A l c) : Calls Tryd.prog 75 #[.agg (stL K []).cells, .slice A 64 c] w fun e w' => e = .returned (.agg (stL K l).cells) ∧ Below w.heap.size w w' := by
  have := writeC (K := K) hT [] h
  rw [hl] at this
  exact this
set_option maxHeartbeats 2000000 in
theorem mac_New (K : Nat → W32) (A : Option Addr) (key : List UInt8) (c : Nat) (w : World) (hT : Tabs K w) (hp : Bs w A key c) :
    Calls Tryd.prog 60 #[.slice A key.length c] w fun e w' => e = .returned (.agg (macA K (keyL K key) [])) ∧ Below w.heap.size w w' := by
  have hcz := macZ_cells
  have hL0 := below_alloc w (Obj.cells macZ 101)
  have hR0 : Row (w.alloc (Obj.cells macZ 101)) w.heap.size 146 := (row_new rfl).2 hcz.1
  have hT0 := Lib.hid (hT.step hL0)
  have hp0 := Lib.hid (hp.step hL0)
  have hkl := keyL_len K key
  have hHT := Lib.hid hT
  clear hT hp
  go_enter Tryd.func60, Tryd.ntmps60
  go_upto_if 9 with (fail)
  generalize w.alloc (Obj.cells macZ 101) = W0 at *
  go_cut [0] (fun v0 wx => ∃ (A' : Option Addr) (c' : Nat), v0 = .slice A' (keyL K key).length c' ∧ Bs wx A' (keyL K key) c' ∧ Tabs K wx ∧ Row wx w.heap.size 146 ∧ Below w.heap.size w wx)
  case first =>
    have hcd := dgA_cells []
    have hcs := dgA_cells (sha K key)
    have hsl := sha_len K key
    by_cases h64 : 64 < key.length
    · have hd : decide ((64 : Int) < (key.length : Int)) = true := by simp; omega
      have hk : keyL K key = sha K key := by unfold keyL; rw [if_pos h64]
      have hHk := Lib.hid hk
      clear hk
      go_wp2_with fail
      refine (sumD (K := K) hT0.out hp0.out).mono ?_
      rintro e w1 ⟨rfl, hb1⟩
      have hzz : Row (w1.alloc (Obj.cells (dgA []) 57)) w1.heap.size 32 := (row_new rfl).2 hcd.1
      have hst : (w1.alloc (Obj.cells (dgA []) 57)).setRow w1.heap.size (dgA (sha K key)) = w1.alloc (Obj.cells (dgA (sha K key)) 57) := setRow_new rfl
      have ha := below_alloc w1 (Obj.cells (dgA (sha K key)) 57)
      have hB := Lib.hid (rd_of_row hsl (show Row (w1.alloc (Obj.cells (dgA (sha K key)) 57)) w1.heap.size 32 from (row_new rfl).2 hcs.1) (rowAt_new rfl))
      go_wp2_with fail
      go_meet
      refine ⟨some ⟨w1.heap.size, 0, none⟩, 32, by rw [hHk.out, hsl], by rw [hHk.out]; exact hB.out, (hT0.out.step hb1).step ha, row_below (row_below hR0 hb1 hR0.lt) ha (row_below hR0 hb1 hR0.lt).lt, below_step ha (below_step hb1 hL0 (Nat.le_refl _)) (Nat.le_refl _)⟩
    · have hd : decide ((64 : Int) < (key.length : Int)) = false := by simp; omega
      have hk : keyL K key = key := by unfold keyL; rw [if_neg h64]
      have hHk := Lib.hid hk
      clear hk
      go_wp2_with fail
      go_meet
      exact ⟨A, c, by rw [hHk.out], by rw [hHk.out]; exact hp0.out, hT0.out, hR0, hL0⟩
  case rest =>
    obtain ⟨A', c', rfl, hBk, hTx, hRx, hLx⟩ := hcut
    clear hT0 hp0 hL0 hR0
    generalize hke : keyL K key = k at *
    have hHke := Lib.hid hke
    clear hke
    have hca := b64A_cells fun _ => 0
    have hck := b64A_cells (keyF k)
    have hW1 : Below wc.heap.size wc ((wc.alloc (Obj.cells (b64A fun _ => 0) 97)).alloc (Obj.cells (b64A fun _ => 0) 97)) := by go_grown
    have hI1 : Row ((wc.alloc (Obj.cells (b64A fun _ => 0) 97)).alloc (Obj.cells (b64A fun _ => 0) 97)) wc.heap.size 64 := by go_simp
    have hi1 : rowAt ((wc.alloc (Obj.cells (b64A fun _ => 0) 97)).alloc (Obj.cells (b64A fun _ => 0) 97)) wc.heap.size = b64A fun _ => 0 := by go_simp
    have hO1 : Row ((wc.alloc (Obj.cells (b64A fun _ => 0) 97)).alloc (Obj.cells (b64A fun _ => 0) 97)) (wc.heap.size + 1) 64 := by go_simp
    have hB1 := Lib.hid (hBk.step hW1)
    have hR1 := row_below hRx hW1 hRx.lt
    have hL1 := below_step hW1 hLx (Nat.le_refl _)
    have hlt := hRx.lt
    clear hBk hTx hW1 hRx hLx
    go_upto_region 5 with (fail)
    generalize ((wc.alloc (Obj.cells (b64A fun _ => 0) 97)).alloc (Obj.cells (b64A fun _ => 0) 97)) = W1 at *
    generalize wc.heap.size = g at *
    have hI2 : Row (W1.setRow g (b64A (keyF k))) g 64 := (row_setRow_same rfl hI1).2 hck.1
    have hi2 : rowAt (W1.setRow g (b64A (keyF k))) g = b64A (keyF k) := rowAt_setRow_same hI1
    have hO2 : Row (W1.setRow g (b64A (keyF k))) (g + 1) 64 := (row_setRow_far (by omega)).2 hO1
    have hI3 : Row ((W1.setRow g (b64A (keyF k))).setRow (g + 1) (b64A (keyF k))) g 64 := (row_setRow_far (by omega)).2 hI2
    have hi3 : rowAt ((W1.setRow g (b64A (keyF k))).setRow (g + 1) (b64A (keyF k))) g = b64A (xorF (keyF k) 54 0) := (rowAt_setRow_far (by omega)).trans (hi2.trans (by congr 1))
    have hO3 : Row ((W1.setRow g (b64A (keyF k))).setRow (g + 1) (b64A (keyF k))) (g + 1) 64 := (row_setRow_same rfl hO2).2 hck.1
    have ho3 : rowAt ((W1.setRow g (b64A (keyF k))).setRow (g + 1) (b64A (keyF k))) (g + 1) = b64A (xorF (keyF k) 92 0) := (rowAt_setRow_same hO2).trans (by congr 1)
    have hR3 : Row ((W1.setRow g (b64A (keyF k))).setRow (g + 1) (b64A (keyF k))) w.heap.size 146 := (row_setRow_far (by omega)).2 ((row_setRow_far (by omega)).2 hR1)
    have hL3 : Below w.heap.size w ((W1.setRow g (b64A (keyF k))).setRow (g + 1) (b64A (keyF k))) := below_setRow (below_setRow hL1 (by omega)) (by omega)
    go_wp2_with (refine wpList_copyB (o := ⟨some 15, _, _, _, _, _⟩) rfl (.tmp 13) (.tmp 14) rfl rfl rfl hI1 hi1 hB1.out hkl ?_)
    clear hI1 hi1 hO1 hB1 hL1 hR1 hI2 hi2 hO2
    generalize ((W1.setRow g (b64A (keyF k))).setRow (g + 1) (b64A (keyF k))) = W3 at *
    clear hca hck
    go_loopw [6, 17] (fun _ i wr => ∃ j : Nat, i = .int .i64 j ∧ j ≤ 64 ∧ Row wr g 64 ∧ rowAt wr g = b64A (xorF (keyF k) 54 j) ∧ Row wr (g + 1) 64 ∧ rowAt wr (g + 1) = b64A (xorF (keyF k) 92 j) ∧ Row wr w.heap.size 146 ∧ Below w.heap.size w wr) (fun _ i _ => 64 - (intOf i).toNat)
    case atStart => exact ⟨0, rfl, by omega, hI3, hi3, hO3, ho3, hR3, hL3⟩
    case round =>
      clear hI3 hi3 hO3 ho3 hR3 hL3
      obtain ⟨j, rfl, hj, hI, hi, hO, ho, hR, hL⟩ := hrel
      by_cases h64 : j = 64
      · subst h64
        have hbi := Lib.hid (bs_pad 54 hI hi)
        have hbo := Lib.hid (bs_pad 92 hO ho)
        have hTr := Lib.hid (hHT.out.step hL)
        have hcp : Cells (macA K k []) 146 := macA_cells K k []
        have hS := Lib.hid (show ∀ V, Below wr.heap.size wr V → Tabs K V ∧ Bs V (some ⟨g, 0, none⟩) (padB k 54) 64 ∧ Bs V (some ⟨g + 1, 0, none⟩) (padB k 92) 64 ∧ Row V w.heap.size 146 ∧ Below w.heap.size w V from fun V hV =>
          ⟨hTr.out.step hV, hbi.out.step hV, hbo.out.step hV, row_below hR hV hR.lt, below_step hV hL (Nat.le_refl _)⟩)
        have z1 := (stL_cells K (padB k 54)).1
        have z2 := (stL_cells K (padB k 92)).1
        have z3 := hcz.1
        have q1 : Array.foldl (fun (cs : Array Value) (x : Value × Nat) => cs.setIfInBounds x.snd x.fst) macZ (stL K (padB k 54)).cells.zipIdx 0 73 = pairA (stL K (padB k 54)).cells stZ := (foldl_arr0 z1).trans (macZ_put z1)
        have z4 := (pairA_cells (stL_cells K (padB k 54)) stZ_cells).1
        have q2 : Array.foldl (fun (cs : Array Value) (x : Value × Nat) => cs.setIfInBounds (73 + x.snd) x.fst) (pairA (stL K (padB k 54)).cells stZ) (stL K (padB k 92)).cells.zipIdx 0 73 = macA K k [] := (foldl_arr 73 z2).trans (macA_nil z1 z2)
        clear hi ho hbi hbo hI hO hTr
        go_wp2
        go_region_law (first
          | (go_simp; go_at_call 74; (with_reducible refine (newC0 (K := K) _).mono ?_); rintro e w1 ⟨rfl, hb1⟩)
          | (go_simp; go_at_call 75; (with_reducible refine Calls.mono (padW (K := K) (padB_len k 54) ?_ ?_) ?_); (focus (refine (hS.out _ ?_).1; repeat (first | assumption | exact Below.refl _ _ | refine Below.drew ?_ | refine below_step (by assumption) ?_ (Nat.le_refl _)))); (focus (refine (hS.out _ ?_).2.1; repeat (first | assumption | exact Below.refl _ _ | refine Below.drew ?_ | refine below_step (by assumption) ?_ (Nat.le_refl _)))); rintro e w2 ⟨rfl, hb2⟩)
          | (go_simp; go_at_call 75; (with_reducible refine Calls.mono (padW (K := K) (padB_len k 92) ?_ ?_) ?_); (focus (refine (hS.out _ ?_).1; repeat (first | assumption | exact Below.refl _ _ | refine Below.drew ?_ | refine below_step (by assumption) ?_ (Nat.le_refl _)))); (focus (refine (hS.out _ ?_).2.2.1; repeat (first | assumption | exact Below.refl _ _ | refine Below.drew ?_ | refine below_step (by assumption) ?_ (Nat.le_refl _)))); rintro e w4 ⟨rfl, hb4⟩; have hW4 : Below wr.heap.size wr w4 := (by repeat (first | assumption | exact Below.refl _ _ | refine Below.drew ?_ | refine below_step (by assumption) ?_ (Nat.le_refl _))); have hR4 := (hS.out _ hW4).2.2.2.1; have hL4 := (hS.out _ hW4).2.2.2.2))
        all_goals go_wp2
        all_goals exact ret_stored (p := 2) (ty := 101) (g := w.heap.size) (n := 146) (c := macA K k []) rfl Tryd.underlying101 rfl (by kernel_rfl) rfl hR4 hcp.1 rfl ⟨by rw [hHke.out], below_setRow hL4 (Nat.le_refl _)⟩
      · have c1 := hI.cell j
        rw [hi, show (b64A (xorF (keyF k) 54 j))[j]? = some (.int .u8 (xorF (keyF k) 54 j j : Int)) from b64A_at (by omega)] at c1
        have c2 := hO.cell j
        rw [ho, show (b64A (xorF (keyF k) 92 j))[j]? = some (.int .u8 (xorF (keyF k) 92 j j : Int)) from b64A_at (by omega)] at c2
        have e1 : ∀ c, xorF (keyF k) c j j = keyF k j := fun c => by unfold xorF; rw [if_neg (by omega)]
        rw [e1] at c1 c2
        have f1 := hI.frozen j
        have f2 := hO.frozen j
        have x1 : bits .xor .u8 (keyF k j : Int) 54 = ((keyF k j ^^^ 54 : Nat) : Int) := u8_xor_nat (keyF k j) 54 (keyF_lt k j) (by omega)
        have x2 : bits .xor .u8 (keyF k j : Int) 92 = ((keyF k j ^^^ 92 : Nat) : Int) := u8_xor_nat (keyF k j) 92 (keyF_lt k j) (by omega)
        have s1 := Lib.hid (xorF_step (keyF k) 54 j)
        have s2 := Lib.hid (xorF_step (keyF k) 92 j)
        have hHi := Lib.hid hi
        have hHo := Lib.hid ho
        clear hi ho e1
        generalize keyF k j = x at *
        go_wp2
        go_round
        case rel =>
          refine ⟨j + 1, by go_num, by omega, row_setCell.2 (row_setCell.2 hI), ?_, row_setCell.2 (row_setCell.2 hO), ?_, row_setCell.2 (row_setCell.2 hR), (hL.setCell (p := ⟨g, _, none⟩) (show w.heap.size ≤ g by omega) _).setCell (p := ⟨g + 1, _, none⟩) (show w.heap.size ≤ g + 1 by omega) _⟩
          · rw [rowAt_setCell_far (show g ≠ g + 1 by omega), rowAt_setCell_same, hHi.out]
            rw [b64A_set, s1.out]
          · rw [rowAt_setCell_same, rowAt_setCell_far (show g + 1 ≠ g by omega), hHo.out]
            rw [b64A_set, s2.out]
        case measure => simp [intOf]; omega
end Go.Proofs.YtdlmamnnamlleaaDoor
