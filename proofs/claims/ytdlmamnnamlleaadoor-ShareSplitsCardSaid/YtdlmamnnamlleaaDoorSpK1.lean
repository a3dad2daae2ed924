/- Several texts one behind the other: Fe2 Fe3 Num4 Num5 Fe4 Fe5 Fd2 Fd3 Fd4 Fd5 CvB Cv1 Cv2 Cv3 Cv4 RpB Rp1 CvP Rp2 CvE Sh2 Sc2 ShaP Sha Sha2 ShaW ShaX ShaN ShaD ShaQ ShaR App ShaB ShaS ShaF ShaL ShaZ Dig BitsI Mac Mac2 Mac3 Mac4 Tree Tree2 Mac5. -/
import Derived.Test.YtdlmamnnamlleaaDoorFe1
import Derived.Test.YtdlmamnnamlleaaDoorNumN
import Derived.Deep.RegionLaw
import Derived.Deep.DeepCutAuto
import Derived.Laws.OwnMore
import Derived.Test.YtdlmamnnamlleaaDoorTail
import Derived.Test.YtdlmamnnamlleaaDoorBld
import Derived.Test.YtdlmamnnamlleaaDoorFd1
import Derived.Test.YtdlmamnnamlleaaDoorFresh
import Derived.Test.YtdlmamnnamlleaaDoorOneW
import Derived.Test.YtdlmamnnamlleaaDoorLimb4
import Derived.Test.YtdlmamnnamlleaaDoorLimb5
import Derived.Test.YtdlmamnnamlleaaDoorEl
import Derived.Test.YtdlmamnnamlleaaDoorPart
import Derived.Test.YtdlmamnnamlleaaDoorCalmS
import Derived.Test.YtdlmamnnamlleaaDoorRet2
import Derived.Test.YtdlmamnnamlleaaDoorSh1
import Derived.Test.YtdlmamnnamlleaaDoorSc1
import Derived.Test.YtdlmamnnamlleaaDoorAt
import Derived.Test.YtdlmamnnamlleaaDoorPrm
import Derived.WalkKit
import Derived.Laws.BitsAllLaws
import Derived.Test.YtdlmamnnamlleaaDoorFrame
import Derived.Test.YtdlmamnnamlleaaDoorOwn
import Derived.Test.YtdlmamnnamlleaaDoorArrK
import Derived.Test.YtdlmamnnamlleaaDoorMem2
import Derived.Outline
import Derived.Handy
import Derived.Lib.Hide
import Derived.RegionTactic
import Derived.BigRegion
import Derived.Deep.QuietTactic
import Derived.BigQuiet
import Derived.Deep.RegionHeld3
import Derived.Deep.RegionWith
import Derived.Deep.DrawnRows
import Derived.Deep.WholeRow
import Derived.Test.YtdlmamnnamlleaaDoorRet
import Derived.ArgAppend
import Derived.Deep.Draws
import Derived.StillTailTactics
import Derived.Test.YtdlmamnnamlleaaDoorCalm
import Derived.Laws.CopyRow
import Derived.Laws.IdiomCopy
namespace Go.Proofs.YtdlmamnnamlleaaDoor
open Go.ChangeShapes Go.WideShapes Go.ChangeAt Go.RowKit
set_option maxHeartbeats 2000000
set_option maxRecDepth 100000

attribute [local go_sem] isHead_mk blkOf_mk isAgg_mk cellsV_mk row_drew rowAt_drew row_new_cells row_old rowAt_new rowAt_old setRow_new zeroFe zeroT
theorem dval_add (f g : Nat → Nat) (n : Nat) : dval (fun i => f i + g i) n = dval f n + dval g n := by
  induction n with
  | zero => rfl
  | succ n ih => simp only [dval]; rw [ih, Nat.mul_add]; omega
theorem plus_val {a b : Nat} (ha : a < 2 ^ 256) (hb : b < 2 ^ 256) {t : Nat → Nat} (h : ∀ i < 16, t i = dgt a i + dgt b i) : dval t 16 = a + b := by
  rw [dval_congr h, dval_add, dval_dgt, dval_dgt, p16, Nat.mod_eq_of_lt ha, Nat.mod_eq_of_lt hb]
theorem less_val {a b : Nat} (ha : a < 2 ^ 256) (hb : b < 2 ^ 256) {t : Nat → Nat} (h : ∀ i < 16, t i + dgt b i = dgt a i + 4 * pdig i) : dval t 16 = a + 4 * fP - b := by
  have h1 := dval_congr h
  rw [dval_add, dval_add, dval_dgt, dval_dgt, p16, Nat.mod_eq_of_lt ha, Nat.mod_eq_of_lt hb] at h1
  have h2 : ∀ n, dval (fun i => 4 * pdig i) n = 4 * dval pdig n := fun n => by
    induction n with
    | zero => rfl
    | succ n ih => simp only [dval]; rw [ih, Nat.mul_add, Nat.mul_left_comm]
  rw [h2, pdig_val] at h1
  omega
/-- The digits laid so far, and zeros. -/
def cut16 (f : Nat → Nat) (j : Nat) : Nat := if j < 16 then f j else 0
theorem mixD16 (f : Nat → Nat) (j : Nat) (_ : j < 17) : mixD f 16 j = cut16 f j := rfl
theorem cut_val (f : Nat → Nat) : dval (cut16 f) 16 + 2 ^ 256 * cut16 f 16 = dval f 16 := by
  rw [dval_congr (f := cut16 f) (g := f) fun i hi => by unfold cut16; rw [if_pos hi], show cut16 f 16 = 0 from rfl]; omega
end Go.Proofs.YtdlmamnnamlleaaDoor
namespace Go.Proofs.YtdlmamnnamlleaaDoor
open Go.ChangeShapes Go.WideShapes Go.ChangeAt Go.RowKit
set_option maxHeartbeats 2000000
set_option maxRecDepth 100000
theorem zeroT32 : #[Value.int IntKind.i64 0, Value.int IntKind.i64 0, Value.int IntKind.i64 0, Value.int IntKind.i64 0, Value.int IntKind.i64 0, Value.int IntKind.i64 0, Value.int IntKind.i64 0, Value.int IntKind.i64 0, Value.int IntKind.i64 0, Value.int IntKind.i64 0, Value.int IntKind.i64 0, Value.int IntKind.i64 0, Value.int IntKind.i64 0, Value.int IntKind.i64 0, Value.int IntKind.i64 0, Value.int IntKind.i64 0, Value.int IntKind.i64 0, Value.int IntKind.i64 0, Value.int IntKind.i64 0, Value.int IntKind.i64 0, Value.int IntKind.i64 0, Value.int IntKind.i64 0, Value.int IntKind.i64 0, Value.int IntKind.i64 0, Value.int IntKind.i64 0, Value.int IntKind.i64 0, Value.int IntKind.i64 0, Value.int IntKind.i64 0, Value.int IntKind.i64 0, Value.int IntKind.i64 0, Value.int IntKind.i64 0, Value.int IntKind.i64 0] = arrK .i64 32 fun _ => 0 := by kernel_rfl

attribute [local go_sem] isHead_mk blkOf_mk isAgg_mk cellsV_mk row_drew rowAt_drew row_new_cells row_old rowAt_new rowAt_old setRow_new zeroFe zeroT
attribute [local go_sem] zeroT32
theorem dval_split (f : Nat → Nat) (m n : Nat) : dval f (m + n) = dval f m + 65536 ^ m * dval (fun j => f (j + m)) n := by
  induction n with
  | zero => simp [dval]
  | succ n ih => rw [← Nat.add_assoc, dval, ih, dval, Nat.mul_add, Nat.pow_add, Nat.mul_assoc, Nat.add_comm n m]; omega
theorem dval_upd (f : Nat → Nat) (j v : Nat) : ∀ n, j < n → dval (upd f j v) n + 65536 ^ j * f j = dval f n + 65536 ^ j * v
  | 0, h => by omega
  | n + 1, h => by
    by_cases e : j = n
    · subst e
      have h1 : dval (upd f j v) j = dval f j := dval_congr fun i hi => by unfold upd; rw [if_neg (by omega)]
      rw [dval, dval, h1]
      unfold upd
      rw [if_pos rfl]
      omega
    · have ih := dval_upd f j v n (by omega)
      rw [dval, dval, show upd f j v n = f n by unfold upd; rw [if_neg (by omega)]]
      omega
/-- What stands in p while the product is made: row i, up to place k. -/
structure ByI (a b i k : Nat) (p : Nat → Nat) : Prop where
  val : dval p 32 = a % 65536 ^ i * b + 65536 ^ i * dgt a i * (b % 65536 ^ k)
  le : ∀ j, p j ≤ (16 * i + k) * 4294836225
theorem ByI.start (a b : Nat) : ByI a b 0 0 fun _ => 0 := by
  have h : ∀ n, dval (fun _ => 0) n = 0 := fun n => by induction n with
    | zero => rfl
    | succ n ih => simp [dval, ih]
  exact ⟨by rw [h, Nat.pow_zero, Nat.mod_one, Nat.mod_one]; simp, fun _ => Nat.zero_le _⟩
theorem dgt_up (b k : Nat) : b % 65536 ^ (k + 1) = b % 65536 ^ k + 65536 ^ k * dgt b k := by unfold dgt; rw [Nat.pow_succ, Nat.mod_mul]
theorem ByI.step {a b i k : Nat} {p : Nat → Nat} (h : ByI a b i k p) (hi : i < 16) (hk : k < 16) : ByI a b i (k + 1) (upd p (i + k) (p (i + k) + dgt a i * dgt b k)) := by
  refine ⟨?_, fun j => ?_⟩
  · have h1 := dval_upd p (i + k) (p (i + k) + dgt a i * dgt b k) 32 (by omega)
    have h2 := h.val
    rw [Nat.mul_add (65536 ^ (i + k))] at h1
    rw [dgt_up, Nat.mul_add, show 65536 ^ i * dgt a i * (65536 ^ k * dgt b k) = 65536 ^ (i + k) * (dgt a i * dgt b k) by rw [Nat.pow_add]; simp only [Nat.mul_assoc, Nat.mul_left_comm]]
    omega
  · have h1 : dgt a i * dgt b k ≤ 4294836225 := Nat.le_trans (Nat.mul_le_mul (show dgt a i ≤ 65535 by have := dgt_lt a i; omega) (show dgt b k ≤ 65535 by have := dgt_lt b k; omega)) (by decide)
    have h2 := h.le j
    have h3 := h.le (i + k)
    rw [← Nat.add_assoc, Nat.add_mul _ 1, Nat.one_mul]
    unfold upd
    generalize (16 * i + k) * 4294836225 = M at *
    generalize dgt a i * dgt b k = q at *
    by_cases e : j = i + k
    · rw [if_pos e]; omega
    · rw [if_neg e]; omega
theorem ByI.row {a b i : Nat} {p : Nat → Nat} (h : ByI a b i 16 p) (hb : b < 2 ^ 256) : ByI a b (i + 1) 0 p := by
  refine ⟨?_, fun j => by have := h.le j; omega⟩
  rw [h.val, p16, Nat.mod_eq_of_lt hb, dgt_up, Nat.pow_zero, Nat.mod_one, Nat.mul_zero, Nat.add_zero, Nat.add_mul]
/-- The folded digits. -/
def byG (p : Nat → Nat) (i : Nat) : Nat := p i + 38 * p (i + 16)
theorem byG_val {a b : Nat} {p : Nat → Nat} (h : ByI a b 16 0 p) (ha : a < 2 ^ 256) : dval (byG p) 16 % fP = a * b % fP := by
  have h1 := h.val
  rw [p16, Nat.mod_eq_of_lt ha, Nat.pow_zero, Nat.mod_one, Nat.mul_zero, Nat.add_zero, show (32 : Nat) = 16 + 16 from rfl, dval_split, p16] at h1
  have h2 : ∀ n, dval (byG p) n = dval p n + 38 * dval (fun j => p (j + 16)) n := fun n => by
    induction n with
    | zero => rfl
    | succ n ih => simp only [dval]; rw [ih]; unfold byG; rw [Nat.mul_add, Nat.mul_left_comm (65536 ^ n)]; omega
  rw [h2, ← h1, fold_P]
theorem byG_le {a b : Nat} {p : Nat → Nat} (h : ByI a b 16 0 p) (i : Nat) : byG p i ≤ 42880364870400 := by
  have h1 := h.le i
  have h2 := h.le (i + 16)
  unfold byG
  omega
/-- The digits that least is handed. -/
def byT (G : Nat → Nat) (i : Nat) : Nat := if i < 16 then lout G 0 i else lcar G 0 16
theorem byG_car {G : Nat → Nat} (h : ∀ i, G i ≤ 42880364870400) : ∀ k, lcar G 0 k ≤ 42880364870400
  | 0 => Nat.zero_le _
  | k + 1 => by
    have h1 := byG_car h k
    have h2 := h k
    unfold lcar; omega
theorem byT_tame {G : Nat → Nat} (h : ∀ i, G i ≤ 42880364870400) : Tame (byT G) := by
  intro i _
  have h1 := byG_car h 16
  unfold byT
  split
  · exact Nat.lt_trans (lout_lt _ _ _) (by omega)
  · omega
theorem byT_val (G : Nat → Nat) : dval (byT G) 16 + 2 ^ 256 * byT G 16 = dval G 16 := by
  have h := lout_dval G 0 16
  rw [p16] at h
  rw [dval_congr (f := byT G) (g := lout G 0) fun i hi => by unfold byT; rw [if_pos hi], show byT G 16 = lcar G 0 16 from rfl]
  exact h
theorem byT_end (G : Nat → Nat) (p : Nat) (hp : p < 17) : upd (mixD (lout G 0) 16) 16 (lcar G 0 16) p = byT G p := by
  unfold upd mixD byT
  by_cases h : p = 16
  · subst h; simp
  · simp [h, show p < 16 by omega]

end Go.Proofs.YtdlmamnnamlleaaDoor
namespace Go.Proofs.YtdlmamnnamlleaaDoor
open Go.ChangeShapes Go.WideShapes Go.ChangeAt Go.RowKit
set_option maxHeartbeats 1000000
set_option maxRecDepth 100000

/-- A number whose digits lie at block B or behind. -/
def IsNF (w : World) (B : Nat) (v : Value) (n : Nat) : Prop := ∃ A l c, v = .slice A l.length c ∧ Ds w A l c ∧ Dg l n ∧ ∀ ad, A = some ad → B ≤ ad.block
def RetNF (n : Nat) (w : World) (e : Ending) (w' : World) : Prop := ∃ v, e = .returned v ∧ IsNF w' w.heap.size v n ∧ Below w.heap.size w w'
theorem IsNF.toN {w : World} {B : Nat} {v : Value} {n : Nat} (h : IsNF w B v n) : IsN w v n := by
  obtain ⟨A, l, c, e, h1, h2, -⟩ := h
  exact ⟨A, l, c, e, h1, h2⟩
theorem IsNF.mono {w : World} {B B' : Nat} {v : Value} {n : Nat} (h : IsNF w B v n) (hB : B' ≤ B) : IsNF w B' v n := by
  obtain ⟨A, l, c, e, h1, h2, h3⟩ := h
  exact ⟨A, l, c, e, h1, h2, fun ad ha => Nat.le_trans hB (h3 ad ha)⟩
theorem IsNF.step {w w' : World} {B : Nat} {v : Value} {n : Nat} (hb : Below w.heap.size w w') (h : IsNF w B v n) : IsNF w' B v n := by
  obtain ⟨A, l, c, e, h1, h2, h3⟩ := h
  exact ⟨A, l, c, e, h1.below hb (Nat.le_refl _), h2, h3⟩
theorem IsNF.setCell {w : World} {B : Nat} {v : Value} {n : Nat} (h : IsNF w B v n) {a : Addr} (ha : a.block < B) (u : Value) : IsNF (w.setCell a u) B v n := by
  obtain ⟨A, l, c, e, h1, h2, h3⟩ := h
  refine ⟨A, l, c, e, ⟨fun j x hx => ?_, h1.sm, h1.le, h1.mx⟩, h2, h3⟩
  obtain ⟨ad, e1, hl, hc⟩ := h1.rd j x hx
  refine ⟨ad, e1, by simpa using hl, ?_⟩
  have hne : (ad.add j).block ≠ a.block := by rw [addr_block]; have := h3 ad e1; omega
  rw [← hc]
  exact World.cell?_of_block (w := w) (Below.heap_setCell w a u _ hne)
theorem isNF_trim {w0 W : World} {B : Nat} {e : TypeId} {A : Option Addr} {n c k : Nat} {l : List Nat} (h : Own w0 B e (.slice A n c) (digV l) W) (hs : Sm l) (hk : k ≤ l.length) (hg : Dg (l.take k) (val l)) : IsNF W B (.slice A k c) (val l) := by
  obtain ⟨hn, hD⟩ := ds_own h hs
  obtain ⟨A', l', c', e1, h1, h2⟩ := isN_trim hD hk hg
  refine ⟨A', l', c', e1, h1, h2, fun ad ha => ?_⟩
  injection e1 with e1
  subst e1
  exact (h.lt (g := ad.block) (by rw [ha]; rfl)).1

theorem minus_step {l k L : List Nat} {i bo x bo' : Nat} (hL : L.length = i) (hx : bo + x + k[i]?.getD 0 = l[i]?.getD 0 + 65536 * bo') (hv : val L + val (k.take i) = val (l.take i) + 65536 ^ i * bo) :
    val (L ++ [x]) + val (k.take (i + 1)) = val (l.take (i + 1)) + 65536 ^ (i + 1) * bo' := by
  rw [val_snoc, hL, val_take_succ', val_take_succ', Nat.pow_succ, Nat.mul_assoc]
  have h : 65536 ^ i * (bo + x + k[i]?.getD 0) = 65536 ^ i * (l[i]?.getD 0 + 65536 * bo') := by rw [hx]
  rw [Nat.mul_add, Nat.mul_add, Nat.mul_add] at h
  omega
theorem minus_end {l k L : List Nat} {bo : Nat} (hl : Sm l) (hk : Sm k) (hle : val k ≤ val l) (hv : val L + val (k.take l.length) = val l + 65536 ^ l.length * bo) (hL : val L < 65536 ^ l.length) : val L = val l - val k := by
  have h1 := val_lt hl
  have h2 := val_take hk l.length
  rw [Nat.mod_eq_of_lt (by omega)] at h2
  rw [h2] at hv
  rcases Nat.eq_zero_or_pos bo with rfl | h
  · omega
  · have : 65536 ^ l.length * 1 ≤ 65536 ^ l.length * bo := Nat.mul_le_mul_left _ h
    omega

theorem ref_Minus (A : Option Addr) (l : List Nat) (c : Nat) (B : Option Addr) (k : List Nat) (d : Nat) (w : World) (ha : Ds w A l c) (hb : Ds w B k d) (hl : l.length ≤ 1000000) (hle : val k ≤ val l) :
    Calls Tryd.prog 84 #[.slice A l.length c, .slice B k.length d] w (RetNF (val l - val k) w) := by
  go_enter Tryd.func84, Tryd.ntmps84
  go_wp2
  go_loopw [5, 6, 11] (fun v y i wr => ∃ (i' : Nat) (L : List Nat) (bo : Nat), i = .int .i64 i' ∧ y = .int .i64 bo ∧ bo ≤ 1 ∧ Own w w.heap.size 3 v (digV L) wr ∧ L.length ≤ i' ∧ i' ≤ L.length ∧ i' ≤ l.length ∧
    Hid (Sm L ∧ val L + val (k.take i') = val (l.take i') + 65536 ^ i' * bo)) (fun _ _ i _ => l.length - (intOf i).toNat)
  case atStart => exact ⟨0, [], 0, rfl, rfl, by omega, Own.start _ _, by simp, by simp, by omega, Sm.nil, by simp [val]⟩
  case round =>
    obtain ⟨i, L, bo, rfl, rfl, hbo, hO, hl1, hl2, him, hH⟩ := hrel
    rename_i u5
    have hDa := ha.below hO.bel (Nat.le_refl _)
    have hDb := hb.below hO.bel (Nat.le_refl _)
    by_cases hlt : i < l.length
    · have hdb := digZ_lt hb.sm (i : Int)
      obtain ⟨ad, rfl, hbl, hc⟩ := digV_at hDa.rd hlt
      have hla := ha.sm l[i] (List.getElem_mem _)
      have hdz := digZ_nat k i
      have hst := fun x bo' hx => minus_step (x := x) (bo' := bo') (l := l) (k := k) (by omega) hx hH.out.2
      rw [← hdz, List.getElem?_eq_getElem hlt] at hst
      have hHst := Lib.hid hst
      have hcon := Lib.hid (fun W (h : Ds W B k d) => ref_digit B k d (i : Int) W h)
      have hHD := Lib.hid hDb
      clear hst hdz hDb
      generalize digZ k i = y at *
      generalize l[i] = x at *
      have hw1 : IntKind.i64.wrap ((x : Int) - y) = (x : Int) - y := by rw [IntKind.wrap_i64]; omega
      obtain ⟨o, ho⟩ : ∃ o : Int, (x : Int) - y - bo = o := ⟨_, rfl⟩
      have hw2 : IntKind.i64.wrap ((x : Int) - y - bo) = o := by rw [IntKind.wrap_i64]; omega
      have ho1 : -65536 ≤ o := by omega
      have ho2 : o < 65536 := by omega
      have hlL : L.length < 1000000 := by omega
      have hOd := hO.drew
      obtain ⟨X, bo', hX, hX2, hXl, hcase⟩ : ∃ X bo' : Nat, (bo + X + y = x + 65536 * bo') ∧ bo' ≤ 1 ∧ X < 65536 ∧ ((o < 0 ∧ o + 65536 = X ∧ bo' = 1) ∨ (¬ o < 0 ∧ o = X ∧ bo' = 0)) := by
        by_cases h : o < 0
        · exact ⟨(o + 65536).toNat, 1, by omega, by omega, by omega, .inl ⟨h, by omega, rfl⟩⟩
        · exact ⟨o.toNat, 0, by omega, by omega, by omega, .inr ⟨h, by omega, rfl⟩⟩
      have hfin := Lib.hid (hHst.out X bo' hX)
      have hHo := Lib.hid ho
      clear ho hHst hX
      go_wp2
      go_upto_region 6 with (fail)
      go_cut [8] (fun v8 wx => v8 = .int .i64 o ∧ Own w w.heap.size 3 u5 (digV L) wx)
      case first =>
        have hHD := Lib.hid (hHD.out.below (Below.refl wr.heap.size wr).drew (Nat.le_refl _))
        go_region_law (first
          | (go_simp; go_at_call 66; (refine Calls.mono (hcon.out _ hHD.out) ?_); rintro e w' ⟨rfl, rfl⟩))
        all_goals go_wp2_with fail
        all_goals go_meet
        all_goals exact ⟨rfl, hOd⟩
      case rest =>
        clear hOd
        obtain ⟨rfl, hOd⟩ := hcut
        clear hw1 hw2 hc
        rcases hcase with ⟨h0, h1, rfl⟩ | ⟨h0, h1, rfl⟩
        · have hw3 : IntKind.i64.wrap (o + 65536) = (X : Int) := by rw [IntKind.wrap_i64]; omega
          go_wp2_with (at_builtin; refine wpList_own1 (o := ⟨some 31, _, _, _, _, _⟩) rfl (.tmp 28) (.tmp 30) 89 rfl SI rfl hOd (.int .i64 (X : Int)) rfl rfl (by rw [digV_len]; unfold maxLen; omega) (by rw [digV_len]; omega) ?_; intro v1 w1 hO1 hg1 hat1; clear hg1 hat1)
          go_roundw
          case rel => exact ⟨i + 1, L ++ [X], 1, by go_num, rfl, by omega, by rw [digV_snoc]; exact hO1, by simp; omega, by simp; omega, by omega, hH.out.1.append (Sm.one hXl), hfin.out⟩
          case measure => simp [intOf]; omega
        · subst h1
          clear h0 ho1 ho2
          go_wp2_with (at_builtin; refine wpList_own1 (o := ⟨some 31, _, _, _, _, _⟩) rfl (.tmp 28) (.tmp 30) 89 rfl SI rfl hOd (.int .i64 (X : Int)) rfl rfl (by rw [digV_len]; unfold maxLen; omega) (by rw [digV_len]; omega) ?_; intro v1 w1 hO1 hg1 hat1; clear hg1 hat1)
          go_roundw
          case rel => exact ⟨i + 1, L ++ [X], 0, by go_num, rfl, by omega, by rw [digV_snoc]; exact hO1, by simp; omega, by simp; omega, by omega, hH.out.1.append (Sm.one hXl), hfin.out⟩
          case measure => simp [intOf]; omega
    · obtain rfl : i = l.length := by omega
      obtain ⟨A', c', rfl, -, -⟩ := hO.form
      obtain ⟨hn, hD⟩ := ds_own hO hH.out.1
      have hbl := hO.bel
      rw [hn]
      rw [hn] at hO
      have hHO := Lib.hid hO
      have hll := Lib.hid (show L.length = l.length by omega)
      clear hO
      go_wp2_with (go_at_call 67; refine (ref_trim A' L c' _ hD).mono ?_; rintro e w' ⟨q, hq, rfl, hg, rfl⟩)
      go_ret
      have hv := hH.out.2
      rw [List.take_length] at hv
      have hLt := val_lt hH.out.1
      rw [hll.out] at hLt
      have hr := minus_end ha.sm hb.sm hle hv hLt
      exact ⟨_, rfl, hr ▸ isNF_trim hHO.out hH.out.1 hq hg, hbl⟩

theorem order_digit {a b i : Nat} (hlt : a / 65536 ^ (i + 1) = b / 65536 ^ (i + 1)) {x y : Nat} (hx : x = a / 65536 ^ i % 65536) (hy : y = b / 65536 ^ i % 65536) :
    (x < y → order a b = -1) ∧ (y < x → order a b = 1) ∧ (x = y → a / 65536 ^ i = b / 65536 ^ i) := by
  have h := order_step hlt
  rw [← hx, ← hy] at h
  exact ⟨fun e => if_pos (h.1 e), fun e => by unfold order; rw [if_neg (by have := h.2.1 e; omega), if_pos (h.2.1 e)], h.2.2⟩
theorem ref_Order (A : Option Addr) (l : List Nat) (c : Nat) (B : Option Addr) (k : List Nat) (d : Nat) (w : World) (ha : Ds w A l c) (hb : Ds w B k d) (hl : l.length ≤ 1000000) (hk : k.length ≤ 1000000) :
    Calls Tryd.prog 40 #[.slice A l.length c, .slice B k.length d] w fun e w' => e = .returned (.int .i64 (order (val l) (val k))) ∧ w = w' := by
  go_enter Tryd.func40, Tryd.ntmps40
  go_wp2
  all_goals
    go_loop [5] (fun i => ∃ s : Nat, i = .int .i64 ((s : Int) - 1) ∧ s ≤ 1000000 ∧ Hid (val l / 65536 ^ s = val k / 65536 ^ s)) (fun i => (intOf i + 1).toNat)
    case atStart =>
      have h1 := val_lt ha.sm
      have h2 := val_lt hb.sm
      first
      | exact ⟨k.length, rfl, hk, Lib.hid (by rw [Nat.div_eq_of_lt (Nat.lt_of_lt_of_le h1 (Nat.pow_le_pow_right (by omega) (by omega))), Nat.div_eq_of_lt h2])⟩
      | exact ⟨l.length, rfl, hl, Lib.hid (by rw [Nat.div_eq_of_lt h1, Nat.div_eq_of_lt (Nat.lt_of_lt_of_le h2 (Nat.pow_le_pow_right (by omega) (by omega)))])⟩
    case round =>
      obtain ⟨s, rfl, hs, hH⟩ := hrel
      rcases Nat.eq_zero_or_pos s with rfl | hs0
      · have e : val l = val k := by have := hH.out; simpa using this
        have hq := Lib.hid (show order (val l) (val k) = 0 by rw [e]; unfold order; rw [if_neg (by omega), if_neg (by omega)])
        clear e hH
        go_wp2
        go_ret
        exact ⟨by rw [hq.out]; rfl, rfl⟩
      · obtain ⟨i, rfl⟩ : ∃ i, s = i + 1 := ⟨s - 1, by omega⟩
        rw [show (((i + 1 : Nat) : Int) - 1) = (i : Int) by omega]
        have ho := order_digit hH.out (x := digZ l i) (y := digZ k i) (by rw [digZ_nat, Dv.at_ (Dv.mk' ha.sm)]) (by rw [digZ_nat, Dv.at_ (Dv.mk' hb.sm)])
        have hHo := Lib.hid ho
        have hc1 := Lib.hid (ref_digit A l c (i : Int) w ha)
        have hc2 := Lib.hid (ref_digit B k d (i : Int) w hb)
        clear ho hH
        generalize digZ l i = x at *
        generalize digZ k i = y at *
        rcases Nat.lt_trichotomy x y with h | h | h
        · have hq := Lib.hid (hHo.out.1 h)
          go_wp2_with (go_at_call 66; (first | with_reducible refine hc1.out.mono ?_ | with_reducible refine hc2.out.mono ?_); rintro e w' ⟨rfl, rfl⟩)
          go_ret
          exact ⟨by rw [hq.out]; rfl, rfl⟩
        · subst h
          have hq := Lib.hid (hHo.out.2.2 rfl)
          go_wp2_with (go_at_call 66; (first | with_reducible refine hc1.out.mono ?_ | with_reducible refine hc2.out.mono ?_); rintro e w' ⟨rfl, rfl⟩)
          go_round
          case rel => exact ⟨i, rfl, by omega, hq⟩
          case measure => simp [intOf]
        · have hq := Lib.hid (hHo.out.2.1 h)
          have hn : ¬ x < y := by omega
          go_wp2_with (go_at_call 66; (first | with_reducible refine hc1.out.mono ?_ | with_reducible refine hc2.out.mono ?_); rintro e w' ⟨rfl, rfl⟩)
          go_ret
          exact ⟨by rw [hq.out]; rfl, rfl⟩
/-- In numbers alone. -/
theorem minusN {u v : Value} {m n : Nat} (w : World) (hu : IsV w u m) (hv : IsV w v n) (hle : n ≤ m) : Calls Tryd.prog 84 #[u, v] w (RetNF (m - n) w) := by
  obtain ⟨A, l, c, rfl, hD, rfl, hl⟩ := hu
  obtain ⟨B, k, d, rfl, hE, rfl, hk⟩ := hv
  exact ref_Minus A l c B k d w hD hE hl hle
theorem orderN {u v : Value} {m n : Nat} (w : World) (hu : IsV w u m) (hv : IsV w v n) : Calls Tryd.prog 40 #[u, v] w fun e w' => e = .returned (.int .i64 (order m n)) ∧ w = w' := by
  obtain ⟨A, l, c, rfl, hD, rfl, hl⟩ := hu
  obtain ⟨B, k, d, rfl, hE, rfl, hk⟩ := hv
  exact ref_Order A l c B k d w hD hE hl hk
end Go.Proofs.YtdlmamnnamlleaaDoor
namespace Go.Proofs.YtdlmamnnamlleaaDoor
open Go.ChangeShapes Go.WideShapes Go.ChangeAt Go.RowKit
set_option maxHeartbeats 1000000
set_option maxRecDepth 100000

/-- A literal of one element is the call's own. -/
theorem Own.lit {w0 W : World} {B : Nat} (e : TypeId) (u : Value) (hb : Below B w0 W) (hB : B ≤ W.heap.size) : Own w0 B e (.slice (some ⟨W.heap.size, 0, none⟩) 1 1) [u] (W.alloc (.cells #[u] e)) :=
  ⟨World.ownsRow_lit W #[u] 1 hB (by unfold maxLen; omega) rfl, hb.alloc hB _, by simp; omega⟩
/-- What Parts has ahead of digit i - 1. -/
def ptQ (a m i : Nat) : Nat := a / 65536 ^ i / m * 65536 ^ i
def ptR (a m i : Nat) : Nat := a / 65536 ^ i % m
theorem pt_up {l : List Nat} (h : Sm l) (i : Nat) : val l / 65536 ^ i = l[i]?.getD 0 + 65536 * (val l / 65536 ^ (i + 1)) := by
  rw [val_at h, Nat.pow_succ, ← Nat.div_div_eq_div_mul, Nat.mod_add_div]
theorem pt_round {a m i d : Nat} (hm : 0 < m) (h : a / 65536 ^ i = d + 65536 * (a / 65536 ^ (i + 1))) :
    ptR a m i = (d + 65536 * ptR a m (i + 1)) % m ∧ ptQ a m i = ptQ a m (i + 1) + 65536 ^ i * ((d + 65536 * ptR a m (i + 1)) / m) := by
  unfold ptR ptQ
  rw [h]
  generalize a / 65536 ^ (i + 1) = A
  have hA := Nat.mod_add_div A m
  have e : d + 65536 * A = (d + 65536 * (A % m)) + m * (65536 * (A / m)) := by
    conv => lhs; rw [← hA]
    rw [Nat.mul_add, Nat.mul_left_comm 65536 m]; omega
  rw [e, Nat.add_mul_mod_self_left, Nat.add_mul_div_left _ _ hm]
  refine ⟨rfl, ?_⟩
  rw [Nat.add_mul, Nat.pow_succ, Nat.add_comm, Nat.mul_comm ((d + 65536 * (A % m)) / m)]
  congr 1
  rw [Nat.mul_comm 65536 (A / m), Nat.mul_assoc, Nat.mul_comm 65536]
theorem pt_start {l : List Nat} (h : Sm l) (m : Nat) : ptR (val l) m l.length = 0 ∧ ptQ (val l) m l.length = 0 := by
  have : val l / 65536 ^ l.length = 0 := Nat.div_eq_of_lt (val_lt h)
  unfold ptR ptQ
  rw [this]; simp
theorem pt_end (a m : Nat) : ptR a m 0 = a % m ∧ ptQ a m 0 = a / m := by simp [ptR, ptQ]
theorem pt_lt {a m i : Nat} (hm : 0 < m) : ptR a m i < m := Nat.mod_lt _ hm

def RetQR (q r : Nat) (w : World) (e : Ending) (w' : World) : Prop := ∃ u v, e = .returned (.tuple #[u, v]) ∧ IsN w' u q ∧ IsN w' v r ∧ Below w.heap.size w w'

theorem own_digs {w0 W : World} {B : Nat} {e : TypeId} {v : Value} {l : List Nat} (h : Own w0 B e v (digV l) W) (hs : Sm l) : ∃ A c, v = .slice A l.length c ∧ Ds W A l c ∧ Own w0 B e (.slice A l.length c) (digV l) W := by
  obtain ⟨A, c, e1, -, -⟩ := h.form
  rw [digV_len] at e1
  subst e1
  exact ⟨A, c, rfl, (ds_own h hs).2, h⟩
theorem lt_len {l : List Nat} {n : Nat} (h : Dg l n) (hn : n < big) : l.length ≤ 10000 := by
  have := h.len hn
  unfold bigK at this
  exact this
theorem order_le {a b : Nat} (h : a ≤ b) : order a b ≤ 0 := by
  by_cases e : a < b
  · rw [show order a b = -1 from if_pos e]; omega
  · unfold order; rw [if_neg e, if_neg (by omega)]; omega
theorem order_nle {a b : Nat} (h : ¬ a ≤ b) : ¬ order a b ≤ 0 := by unfold order; rw [if_neg (by omega), if_pos (by omega)]; omega

theorem ref_Parts (A : Option Addr) (l : List Nat) (c : Nat) {v : Value} {m : Nat} (w : World) (ha : Ds w A l c) (hl : l.length ≤ 500000) (hv : IsV w v m) (hm : 0 < m) (hmb : 65536 * m < big) :
    Calls Tryd.prog 68 #[.slice A l.length c, v] w (RetQR (val l / m) (val l % m) w) := by
  have hmk := run_make_dig l.length (by omega)
  have hR := DRow.new w (List.replicate l.length 0) 3
  have hL : Below w.heap.size w (w.alloc (.cells (digA (List.replicate l.length 0)) 3)) := by go_grown
  obtain ⟨n, hn⟩ : ∃ n, n = l.length := ⟨_, rfl⟩
  go_enter Tryd.func68, Tryd.ntmps68
  go_wp2
  generalize w.alloc (.cells (digA (List.replicate l.length 0)) 3) = W0 at *
  go_loopw [7, 8] (fun r i wr => ∃ (s : Nat) (L : List Nat), i = .int .i64 ((s : Int) - 1) ∧ s ≤ l.length ∧ L.length ≤ l.length ∧ l.length ≤ L.length ∧ DRow wr w.heap.size L ∧ IsNF wr (w.heap.size + 1) r (ptR (val l) m s) ∧ Below w.heap.size w wr ∧
    Hid (Sm L ∧ val L = ptQ (val l) m s ∧ ∀ j, j < s → L[j]?.getD 0 = 0)) (fun _ i _ => (intOf i + 1).toNat)
  case atStart =>
    refine ⟨l.length, _, rfl, Nat.le_refl _, by simp, by simp, hR, ?_, hL, sm_zeros _, by rw [val_zeros, (pt_start ha.sm m).2], fun j _ => by simp [List.getElem?_replicate]; split <;> rfl⟩
    rw [(pt_start ha.sm m).1]
    exact ⟨none, [], 0, rfl, ⟨Rd.nil, Sm.nil, by simp, by omega⟩, Dg.nil, fun ad h => by cases h⟩
  case round =>
    clear hR hL hmk
    obtain ⟨s, L, rfl, hs, hL1, hL2, hR, hN, hL, hH⟩ := hrel
    rcases Nat.eq_zero_or_pos s with rfl | hs0
    · rw [(pt_end (val l) m).1] at hN
      have hvL := hH.out.2.1
      rw [(pt_end (val l) m).2] at hvL
      have hHvL := Lib.hid hvL
      have hDs := hR.ds hH.out.1 (by omega)
      have hlen := Lib.hid (show L.length = l.length by omega)
      have hcon := Lib.hid (ref_trim _ L _ wr hDs)
      rw [hlen.out] at hcon
      rw [hlen.out] at hDs
      have hHDs := Lib.hid hDs
      clear hvL hDs
      go_wp2_with (go_at_call 67; refine hcon.out.mono ?_; rintro e w' ⟨q, hq, rfl, hg, rfl⟩)
      go_ret2
      exact ⟨_, _, rfl, hHvL.out ▸ isN_trim hHDs.out hq hg, hN.toN, hL⟩
    · obtain ⟨i, rfl⟩ : ∃ i, s = i + 1 := ⟨s - 1, by omega⟩
      rw [show (((i + 1 : Nat) : Int) - 1) = (i : Int) by omega]
      have hlt : i < l.length := by omega
      obtain ⟨ad, rfl, hbl, hc⟩ := digV_at (ha.below hL (Nat.le_refl _)).rd hlt
      have hpr := Lib.hid (pt_round (m := m) hm (pt_up ha.sm i))
      rw [List.getElem?_eq_getElem hlt, Option.getD_some] at hpr
      have hrm := pt_lt (a := val l) (i := i + 1) hm
      have hd := ha.sm l[i] (List.getElem_mem _)
      generalize l[i] = d at *
      generalize hr : ptR (val l) m (i + 1) = r at *
      have hHr := Lib.hid hr
      clear hr
      obtain ⟨A2, k, c2, rfl, hD, hG, hB⟩ := hN
      have hkb : k.length ≤ 10000 := lt_len hG (by omega)
      have hO := Own.lit (w0 := wr) (W := wr) (e := 3) (u := .int .i64 (d : Int)) (Below.refl _ _) (Nat.le_refl _)
      obtain ⟨L1, hL1e⟩ : ∃ L1, L1 = d :: k := ⟨_, rfl⟩
      have hs1 : Sm L1 := by rw [hL1e]; exact fun x hx => by rcases List.mem_cons.1 hx with h | h; exact h ▸ hd; exact hD.sm x h
      have hv1 : val L1 = d + 65536 * r := by rw [hL1e, ← hG.val]; rfl
      have hdg : [Value.int IntKind.i64 (d : Int)] ++ digV k = digV L1 := by rw [hL1e]; rfl
      have hrd := (hD.below (below_alloc wr (Obj.cells #[Value.int IntKind.i64 (d : Int)] 3)) (Nat.le_refl _)).rd
      have hHdg := Lib.hid hdg
      have hHv1 := Lib.hid hv1
      clear hL1e hv1 hdg hG hD
      go_wp2_with (first
        | (at_builtin; refine wpList_own (o := ⟨some 28, _, _, _, _, _⟩) rfl (.tmp 26) (.tmp 27) 89 rfl SI rfl hO (news := digV k) (c := c2) (by rw [digV_len]; rfl) hrd (digV_one k) (by rw [digV_len]; unfold maxLen; simp; omega) (by rw [digV_len]; simp; omega) ?_; intro v1 w1 hO1 hg1 hat1; clear hg1 hat1; rw [hHdg.out] at hO1; obtain ⟨A1, c1, rfl, hD1, hO2⟩ := own_digs hO1 hs1; clear hO1)
        | (go_at_call 67; refine (ref_trim A1 L1 c1 _ hD1).mono ?_; rintro e w' ⟨q, hq, rfl, hg, rfl⟩; have hN1 := isNF_trim hO2 hs1 hq hg))
      have hgl := hR.row.lt
      have hbw := hO2.bel
      rw [hHv1.out] at hN1
      have hN1 := hN1.mono (show w.heap.size + 1 ≤ wr.heap.size by omega)
      generalize Value.slice A1 q c1 = r1 at *
      have hR1 := hR.below hbw hgl
      have hL1' := below_step hbw hL (Nat.le_refl _)
      obtain ⟨R1, hR1e⟩ : ∃ R1, R1 = d + 65536 * r := ⟨_, rfl⟩
      rw [← hR1e] at hN1 hpr
      have hR1m : R1 < 65536 * m := by rw [hR1e]; have : 65536 * r + 65536 ≤ 65536 * m := by omega
                                       omega
      clear hR1e hO hO2 hD1 hg hq hrd hHdg hHv1 hR hL hbw hc hs1
      go_loopw [9, 10] (fun a b wr => ∃ lo hi : Nat, a = .int .i64 lo ∧ b = .int .i64 hi ∧ lo < hi ∧ hi ≤ 65536 ∧ DRow wr w.heap.size L ∧ IsNF wr (w.heap.size + 1) r1 R1 ∧ Below w.heap.size w wr ∧ Hid (m * lo ≤ R1 ∧ R1 < m * hi)) (fun a b _ => (intOf b).toNat - (intOf a).toNat)
      case atStart => exact ⟨0, 65536, rfl, rfl, by omega, by omega, hR1, hN1, hL1', Lib.hid ⟨by omega, by omega⟩⟩
      case round =>
        clear hR1 hN1 hL1'
        obtain ⟨lo, hi, rfl, rfl, hlh, hh, hR, hN, hL, hI⟩ := hrel
        have hRb : R1 < big := by omega
        by_cases hgo : lo + 1 < hi
        · obtain ⟨mid, hmid⟩ : ∃ mid, mid = (lo + hi) / 2 := ⟨_, rfl⟩
          have hmi : ((lo : Int) + hi) / 2 = mid := by omega
          have hm1 : lo < mid := by omega
          have hm2 : mid < hi := by omega
          have hgi : (1 : Int) < (hi : Int) - lo := by omega
          have hmb2 : m * mid < big := Nat.lt_of_le_of_lt (Nat.mul_le_mul_left m (show mid ≤ 65536 by omega)) (by rw [Nat.mul_comm]; exact hmb)
          have hnf := Lib.hid hN
          have hvw := Lib.hid (hv.step hL)
          clear hmid hgo
          by_cases hle : m * mid ≤ R1
          · obtain ⟨o, ho, ho2⟩ : ∃ o : Int, order (m * mid) R1 = o ∧ o ≤ 0 := ⟨_, rfl, order_le hle⟩
            have hHo := Lib.hid ho
            clear ho
            go_wp2_with (first
              | (go_at_call 43; refine (timesN (m := m) (n := mid) _ (hvw.out.step (below_alloc _ _)) (IsV.lit _ _ (by omega))).mono ?_; rintro e w' ⟨t, rfl, ht, hbt⟩; have hbt := (below_alloc _ _).trans (hbt.mono (by simp)))
              | (go_at_call 40; refine (orderN (m := m * mid) (n := R1) _ (ht.toV hmb2) ((hnf.out.step hbt).toN.toV hRb)).mono ?_; rintro e w' ⟨rfl, rfl⟩; rw [hHo.out]))
            go_roundw
            case rel => exact ⟨mid, hi, rfl, rfl, hm2, hh, hR.below hbt hR.row.lt, hN.step hbt, below_step hbt hL (Nat.le_refl _), Lib.hid ⟨hle, hI.out.2⟩⟩
            case measure => simp [intOf]; omega
          · obtain ⟨o, ho, ho2⟩ : ∃ o : Int, order (m * mid) R1 = o ∧ ¬ o ≤ 0 := ⟨_, rfl, order_nle hle⟩
            have hHo := Lib.hid ho
            clear ho
            go_wp2_with (first
              | (go_at_call 43; refine (timesN (m := m) (n := mid) _ (hvw.out.step (below_alloc _ _)) (IsV.lit _ _ (by omega))).mono ?_; rintro e w' ⟨t, rfl, ht, hbt⟩; have hbt := (below_alloc _ _).trans (hbt.mono (by simp)))
              | (go_at_call 40; refine (orderN (m := m * mid) (n := R1) _ (ht.toV hmb2) ((hnf.out.step hbt).toN.toV hRb)).mono ?_; rintro e w' ⟨rfl, rfl⟩; rw [hHo.out]))
            go_roundw
            case rel => exact ⟨lo, mid, rfl, rfl, hm1, by omega, hR.below hbt hR.row.lt, hN.step hbt, below_step hbt hL (Nat.le_refl _), Lib.hid ⟨hI.out.1, by omega⟩⟩
            case measure => simp [intOf]; omega
        · have hgi : ¬ (1 : Int) < (hi : Int) - lo := by omega
          have hq : R1 / m = lo := by
            have h1 := hI.out.1
            have h2 := hI.out.2
            rw [show hi = lo + 1 by omega] at h2
            exact Nat.div_eq_of_lt_le (by rw [Nat.mul_comm]; exact h1) (by rw [Nat.mul_comm]; exact h2)
          rw [hq] at hpr
          have hRm : R1 % m = R1 - m * lo := by
            have := Nat.mod_add_div R1 m
            rw [hq] at this; omega
          rw [hRm] at hpr
          have hlo : lo < 65536 := by omega
          have hle := hI.out.1
          have hmb2 : m * lo < big := by omega
          have hnf := Lib.hid hN
          have hvw := Lib.hid (hv.step hL)
          have hQ0 := hH.out.2.2 i (by omega)
          have hvs := val_set L i lo (by omega)
          rw [hQ0, Nat.mul_zero, Nat.add_zero, hH.out.2.1, ← hpr.out.2] at hvs
          have hfin : Hid (Sm (L.set i lo) ∧ val (L.set i lo) = ptQ (val l) m i ∧ ∀ j, j < i → (L.set i lo)[j]?.getD 0 = 0) :=
            Lib.hid ⟨hH.out.1.set _ hlo, hvs, fun j hj => by rw [List.getElem?_set_ne (by omega)]; exact hH.out.2.2 j (by omega)⟩
          have hsl1 : (L.set i lo).length ≤ l.length := by simp; omega
          have hsl2 : l.length ≤ (L.set i lo).length := by simp; omega
          have hpr1 := Lib.hid hpr.out.1
          clear hq hRm hQ0 hvs hpr hI
          have hget : DRow (wr.setCell ⟨w.heap.size, i, none⟩ (.int .i64 (lo : Int))) w.heap.size (L.set i lo) := hR.set i lo
          by_cases h0 : lo = 0
          · have h0' : ¬ (0 : Int) < lo := by omega
            have hRr : ptR (val l) m i = R1 := by rw [hpr1.out, h0]; simp
            have hHRr := Lib.hid hRr
            have c1 := hR.cell (i := i) (by omega)
            have f1 := hR.row.frozen i
            have hHg := Lib.hid hget
            clear h0 hRr hpr1 hget
            go_wp2
            go_roundw
            case rel => exact ⟨i, L.set i lo, rfl, by omega, hsl1, hsl2, hHg.out, hHRr.out ▸ hN.setCell (by simp) _, hL.setCell (Nat.le_refl _) _, hfin⟩
            case measure => simp [intOf]
          · have h0' : (0 : Int) < lo := by omega
            clear h0 hget
            go_wp2_with (first
              | (go_at_call 43; refine (timesN (m := m) (n := lo) _ (hvw.out.step (below_alloc _ _)) (IsV.lit _ _ hlo)).mono ?_; rintro e w' ⟨t, rfl, ht, hbt⟩; have hbt := (below_alloc _ _).trans (hbt.mono (by simp)))
              | (go_at_call 84; refine (minusN (m := R1) (n := m * lo) _ ((hnf.out.step hbt).toN.toV hRb) (ht.toV hmb2) hle).mono ?_; rintro e w2 ⟨r2, rfl, hN2, hb2⟩; have hb3 := below_step hb2 hbt (Nat.le_refl _); have hR3 := hR.below hb3 hR.row.lt; have c1 := hR3.cell (i := i) (by omega); have f1 := hR3.row.frozen i; have hL3 := below_step hb3 hL (Nat.le_refl _); have hN3 := hN2.mono (show w.heap.size + 1 ≤ w'.heap.size from Nat.le_trans hR.row.lt hbt.size)))
            go_roundw
            case rel => exact ⟨i, L.set i lo, rfl, by omega, hsl1, hsl2, hR3.set i lo, hpr1.out ▸ hN3.setCell (by simp) _, hL3.setCell (Nat.le_refl _) _, hfin⟩
            case measure => simp [intOf]
/-- In numbers alone. -/
theorem partsN {u v : Value} {a m k : Nat} (w : World) (hu : IsN w u a) (ha : a < 2 ^ k) (hk : k ≤ 160000) (hv : IsV w v m) (hm : 0 < m) (hmb : 65536 * m < big) :
    Calls Tryd.prog 68 #[u, v] w (RetQR (a / m) (a % m) w) := by
  obtain ⟨A, l, c, rfl, hD, hG⟩ := hu
  have hl := lt_len hG (lt_big ha hk)
  have h := ref_Parts A l c w hD (by omega) hv hm hmb
  rw [hG.val] at h
  exact h
theorem restN {u v : Value} {a m k : Nat} (w : World) (hu : IsN w u a) (ha : a < 2 ^ k) (hk : k ≤ 160000) (hv : IsV w v m) (hm : 0 < m) (hmb : 65536 * m < big) :
    Calls Tryd.prog 44 #[u, v] w (RetN (a % m) w) := by
  have hc := Lib.hid (partsN w hu ha hk hv hm hmb)
  obtain ⟨A, l, c, rfl, -⟩ := hu
  obtain ⟨B, l2, c2, rfl, -⟩ := hv
  go_enter Tryd.func44, Tryd.ntmps44
  go_wp2_with fail
  refine hc.out.mono ?_
  rintro e w' ⟨u, v, rfl, -, hN, hb⟩
  go_wp2
  go_ret
  exact ⟨v, rfl, hN, hb⟩
/-- The number that a slice's digits are. -/
def digOf (w : World) : Value → Nat
  | .slice (some ad) n _ => val ((List.range n).map fun j => (intOf ((w.cell? (ad.add j)).getD undef)).toNat)
  | _ => 0
theorem digOf_is {w : World} {v : Value} {n : Nat} (h : IsN w v n) : digOf w v = n := by
  obtain ⟨A, l, c, rfl, hD, hG⟩ := h
  cases A with
  | none =>
    have : l = [] := by
      cases l with
      | nil => rfl
      | cons d r => obtain ⟨ad, e, -⟩ := hD.rd 0 _ rfl; cases e
    subst this
    exact hG.val
  | some ad =>
    show val _ = n
    rw [← hG.val]
    congr 1
    apply List.ext_getElem (by simp)
    intro j h1 h2
    have := hD.rd.all (j := j) (u := .int .i64 (l[j] : Nat)) (by simp [digV, h2])
    simp [this, intOf]
end Go.Proofs.YtdlmamnnamlleaaDoor
namespace Go.Proofs.YtdlmamnnamlleaaDoor
open Go.ChangeShapes Go.WideShapes Go.ChangeAt Go.RowKit
set_option maxHeartbeats 2000000
set_option maxRecDepth 100000
attribute [local go_sem ↓]     load_num store_num execl_num execs_num
attribute [local go_sem] isHead_mk blkOf_mk isAgg_mk cellsV_mk row_drew rowAt_drew row_new_cells row_old rowAt_new rowAt_old setRow_new zeroFe zeroNum
theorem dgt_zero (i : Nat) : dgt 0 i = 0 := by unfold dgt; rw [Nat.zero_div]
theorem fe1 {n : Nat} (hn : n < 65536) : #[Value.int IntKind.i64 (n : Int), Value.int IntKind.i64 0, Value.int IntKind.i64 0, Value.int IntKind.i64 0, Value.int IntKind.i64 0, Value.int IntKind.i64 0, Value.int IntKind.i64 0, Value.int IntKind.i64 0, Value.int IntKind.i64 0, Value.int IntKind.i64 0, Value.int IntKind.i64 0, Value.int IntKind.i64 0, Value.int IntKind.i64 0, Value.int IntKind.i64 0, Value.int IntKind.i64 0, Value.int IntKind.i64 0] = arrK .i64 16 (dgt n) := by
  have h : #[Value.int IntKind.i64 (n : Int), Value.int IntKind.i64 0, Value.int IntKind.i64 0, Value.int IntKind.i64 0, Value.int IntKind.i64 0, Value.int IntKind.i64 0, Value.int IntKind.i64 0, Value.int IntKind.i64 0, Value.int IntKind.i64 0, Value.int IntKind.i64 0, Value.int IntKind.i64 0, Value.int IntKind.i64 0, Value.int IntKind.i64 0, Value.int IntKind.i64 0, Value.int IntKind.i64 0, Value.int IntKind.i64 0] = arrK .i64 16 fun i => if i = 0 then n else 0 := by kernel_rfl
  rw [h]
  refine arrK_congr fun i hi => ?_
  unfold dgt
  by_cases e : i = 0
  · subst e; rw [if_pos rfl]; omega
  · rw [if_neg e, Nat.div_eq_of_lt]
    obtain ⟨j, rfl⟩ : ∃ j, i = j + 1 := ⟨i - 1, by omega⟩
    rw [Nat.pow_succ]
    have : 0 < 65536 ^ j := Nat.pow_pos (by omega)
    exact Nat.lt_of_lt_of_le hn (Nat.le_mul_of_pos_left _ this)
theorem digN {u : Value} {m : Nat} (i : Nat) (w : World) (hu : IsV w u m) : Calls Tryd.prog 66 #[u, .int .i64 (i : Int)] w fun e w' => e = .returned (.int .i64 (dgt m i : Nat)) ∧ w = w' := by
  obtain ⟨A, l, c, rfl, hD, rfl, hl⟩ := hu
  refine (ref_digit A l c i w hD).mono ?_
  rintro e w' ⟨rfl, rfl⟩
  rw [digZ_nat, Dv.at_ (Dv.mk' hD.sm)]
  exact ⟨rfl, rfl⟩
end Go.Proofs.YtdlmamnnamlleaaDoor
namespace Go.Proofs.YtdlmamnnamlleaaDoor
open Go.ChangeShapes Go.WideShapes Go.ChangeAt Go.RowKit
set_option maxHeartbeats 2000000
set_option maxRecDepth 100000
attribute [local go_sem ↓]     load_num store_num execl_num execs_num
attribute [local go_sem] isHead_mk blkOf_mk isAgg_mk cellsV_mk row_drew rowAt_drew row_new_cells row_old rowAt_new rowAt_old setRow_new zeroFe zeroNum
theorem val_range (f : Nat → Nat) (k : Nat) : val ((List.range k).map f) = dval f k := by
  induction k with
  | zero => rfl
  | succ k ih => rw [List.range_succ, List.map_append, List.map_cons, List.map_nil, val_snoc, ih, List.length_map, List.length_range]; rfl
theorem IsV.fe {W : World} {g n : Nat} (h : At W g .i64 16 (dgt n)) (hn : n < 2 ^ 256) : IsV W (.slice (some ⟨g, 0, none⟩) 16 16) n := by
  have hl : ((List.range 16).map (dgt n)).length = 16 := by simp
  refine ⟨some ⟨g, 0, none⟩, (List.range 16).map (dgt n), 16, by rw [hl], ⟨fun j u hu => ?_, fun d hd => ?_, by omega, by omega⟩, ?_, by omega⟩
  · refine ⟨⟨g, 0, none⟩, rfl, h.lt, ?_⟩
    have hj : j < 16 := by
      rcases Nat.lt_or_ge j 16 with h1 | h1
      · exact h1
      · rw [List.getElem?_eq_none (by simp [digV]; omega)] at hu; cases hu
    have h1 := h.cell hj
    have h2 : (⟨g, 0, none⟩ : Addr).add j = ⟨g, j, none⟩ := by
      by_cases e : j = 0
      · subst e; simp [Addr.add]
      · simp [Addr.add, e]
    rw [h2, h1, ← hu]
    simp [digV, List.getElem?_range hj]
  · obtain ⟨i, -, rfl⟩ := List.mem_map.1 hd
    exact dgt_lt _ _
  · rw [val_range, dval_dgt, p16, Nat.mod_eq_of_lt hn]
theorem P_mul_big : 65536 * fP < big := mul_big (m := 17) (n := 256) (by omega) P_lt (by omega)
theorem P_big : fP < big := lt_big P_lt (by omega)
/-- What To holds behind s bits. -/
def toS (a n s : Nat) : Nat := a ^ (n % 2 ^ s) % fP
theorem toS_start (a n : Nat) : toS a n 0 = 1 := by
  unfold toS
  rw [Nat.pow_zero, Nat.mod_one, Nat.pow_zero]
  decide +kernel
theorem toS_end {a n : Nat} (hn : n < 2 ^ 256) : toS a n 256 = a ^ n % fP := by unfold toS; rw [Nat.mod_eq_of_lt hn]
theorem toS_lt (a n s : Nat) : toS a n s < 2 ^ 256 := Nat.lt_trans lt_P P_lt
theorem toS_zero {a n s : Nat} (h : n / 2 ^ s % 2 = 0) : toS a n (s + 1) = toS a n s := by
  unfold toS
  rw [Nat.pow_succ, Nat.mod_mul, h, Nat.mul_zero, Nat.add_zero]
theorem toS_one {a n s v : Nat} (h : n / 2 ^ s % 2 = 1) (hv : v % fP = a ^ 2 ^ s % fP) : toS a n s * v % fP = toS a n (s + 1) := by
  unfold toS
  rw [Nat.pow_succ, Nat.mod_mul, h, Nat.mul_one, Nat.mul_mod, hv, ← Nat.mul_mod, Nat.mod_mul_mod, ← Nat.pow_add]
theorem sq_step {a s v : Nat} (hv : v % fP = a ^ 2 ^ s % fP) : v * v % fP % fP = a ^ 2 ^ (s + 1) % fP := by
  rw [Nat.mod_mod, Nat.mul_mod, hv, ← Nat.mul_mod, ← Nat.pow_add, Nat.pow_succ, Nat.mul_two]
def SRel.fN (m : Nat) : SRel := ⟨fun v w => IsN w v m, fun _ _ _ hb h => h.step hb⟩
def SRel.fV (m : Nat) : SRel := ⟨fun v w => IsV w v m, fun _ _ _ hb h => h.step hb⟩
end Go.Proofs.YtdlmamnnamlleaaDoor
namespace Go.Proofs.YtdlmamnnamlleaaDoor
open Go.ChangeShapes Go.WideShapes Go.ChangeAt Go.RowKit
set_option maxHeartbeats 2000000
set_option maxRecDepth 100000
attribute [local go_sem ↓] load_num store_num execl_num execs_num
attribute [local go_sem] isHead_mk blkOf_mk isAgg_mk cellsV_mk row_drew rowAt_drew row_new_cells row_old rowAt_new rowAt_old setRow_new zeroNum
def lowI : Nat → Nat → Nat
  | 0, c => c
  | k + 1, c => lowI k (lowA c)
theorem sub_at {c : Nat} (h : c < 2 ^ 256) (h2 : lessN c fP = 0) : subN c fP = lowA c ∧ lowA c < 2 ^ 256 := by
  unfold lessN at h2
  unfold subN lowA
  have h3 := P_lt
  generalize (2 : Nat) ^ 256 = Q at *
  generalize fP = P at *
  by_cases h4 : c < P
  · rw [if_pos h4] at h2; cases h2
  · rw [if_pos (by omega), show c + Q - P = Q + (c - P) by omega, Nat.add_mod_left, Nat.mod_eq_of_lt (by omega)]
    exact ⟨rfl, by omega⟩
theorem sub_no {c : Nat} (h2 : lessN c fP ≠ 0) : lowA c = c := by
  unfold lessN at h2
  unfold lowA
  by_cases h4 : c < fP
  · rw [if_neg (by omega)]
  · rw [if_neg h4] at h2; exact absurd rfl h2
end Go.Proofs.YtdlmamnnamlleaaDoor
namespace Go.Proofs.YtdlmamnnamlleaaDoor
open Go.ChangeShapes Go.WideShapes Go.ChangeAt Go.RowKit
set_option maxHeartbeats 2000000
set_option maxRecDepth 100000
attribute [local go_sem ↓] load_num store_num execl_num execs_num
attribute [local go_sem] isHead_mk blkOf_mk isAgg_mk cellsV_mk row_drew rowAt_drew row_new_cells row_old rowAt_new rowAt_old setRow_new zeroNum
theorem sub_facts (x y : Nat) (hx : x < fP) (hy : y < fP) : (x < y → addN (subN x y) fP = (x + (fP - y)) % fP) ∧ (¬ x < y → subN x y = (x + (fP - y)) % fP) := by
  have h3 := P_lt
  unfold addN subN
  generalize (2 : Nat) ^ 256 = Q at *
  generalize fP = P at *
  constructor
  · intro h
    rw [Nat.mod_eq_of_lt (a := x + (P - y)) (by omega), Nat.mod_eq_of_lt (a := x + Q - y) (by omega), show x + Q - y + P = Q + (x + (P - y)) by omega, Nat.add_mod_left, Nat.mod_eq_of_lt (by omega)]
  · intro h
    rw [show x + (P - y) = P + (x - y) by omega, Nat.add_mod_left, Nat.mod_eq_of_lt (a := x - y) (by omega), show x + Q - y = Q + (x - y) by omega, Nat.add_mod_left, Nat.mod_eq_of_lt (by omega)]
/-- The difference. -/
def difP (a b : Nat) : Nat := (a % fP + (fP - b % fP)) % fP
end Go.Proofs.YtdlmamnnamlleaaDoor
namespace Go.Proofs.YtdlmamnnamlleaaDoor
/-- The carry ahead of word k of the folded product; word k. -/
def mcar (f : Nat → Nat) : Nat → Nat
  | 0 => 0
  | k + 1 => (f (k + 4) * 38 + f k + mcar f k) / 18446744073709551616
def mout (f : Nat → Nat) (k : Nat) : Nat := (f (k + 4) * 38 + f k + mcar f k) % 18446744073709551616
theorem mcar_le {f : Nat → Nat} (hf : ∀ i, f i < 18446744073709551616) (k : Nat) : mcar f k ≤ 38 := by
  induction k with
  | zero => simp [mcar]
  | succ k ih => have h1 := hf k; have h2 := hf (k + 4); unfold mcar; omega
theorem mout_lt (f : Nat → Nat) (k : Nat) : mout f k < 18446744073709551616 := Nat.mod_lt _ (by omega)
theorem mout_wval (f : Nat → Nat) (n : Nat) : wval (mout f) n + 2 ^ (64 * n) * mcar f n = wval f n + 38 * wval (fun j => f (j + 4)) n := by
  induction n with
  | zero => simp [wval, mcar]
  | succ n ih =>
    have h5 : mout f n + 18446744073709551616 * mcar f (n + 1) = f (n + 4) * 38 + f n + mcar f n := by unfold mout; rw [show mcar f (n + 1) = (f (n + 4) * 38 + f n + mcar f n) / 18446744073709551616 from rfl]; omega
    simp only [wval]
    rw [show 64 * (n + 1) = 64 * n + 64 by omega, Nat.pow_add]
    generalize 2 ^ (64 * n) = P at *
    have h6 : P * (mout f n + 18446744073709551616 * mcar f (n + 1)) = P * (f (n + 4) * 38 + f n + mcar f n) := by rw [h5]
    rw [Nat.mul_add, Nat.mul_add, Nat.mul_add, ← Nat.mul_assoc P _ 38, Nat.mul_comm _ 38] at h6
    rw [Nat.mul_assoc, show (2 : Nat) ^ 64 = 18446744073709551616 from rfl, Nat.mul_add]
    omega
/-- The product, folded once: what is left, and what runs over. -/
theorem mul_fold {a b : Nat} (ha : a < 2 ^ 256) (hb : b < 2 ^ 256) (V C : Nat) (hV : wval (mout (wd (a * b))) 4 = V) (hC : mcar (wd (a * b)) 4 = C) : V < 2 ^ 256 ∧ C ≤ 38 ∧ (V + 2 ^ 256 * C) % fP = a * b % fP := by
  have h := mout_wval (wd (a * b)) 4
  have h2 : wval (fun j => wd (a * b) (j + 4)) 4 = a * b / 2 ^ 256 := by
    have e : (fun j => wd (a * b) (j + 4)) = fun j => wd (a * b / 2 ^ 256) j := funext fun j => by rw [Nat.add_comm, wd_div]
    rw [e, show (fun j => wd (a * b / 2 ^ 256) j) = wd (a * b / 2 ^ 256) from rfl, wval_wd, Nat.mod_eq_of_lt]
    rw [show 64 * 4 = 256 from rfl]
    have h3 : a * b < 2 ^ 256 * 2 ^ 256 := Nat.mul_lt_mul'' ha hb
    exact Nat.div_lt_of_lt_mul h3
  rw [h2, wval_wd, hV, hC, show 64 * 4 = 256 from rfl] at h
  refine ⟨hV ▸ wval_lt (k := 4) fun i _ => mout_lt _ _, hC ▸ mcar_le (wd_lt _) 4, ?_⟩
  rw [h, ← fold_P, Nat.mod_add_div]
theorem fold_add {V C : Nat} (hV : V < 2 ^ 256) (hC : C ≤ 38) : foldA V C = (if overN V (38 * C) = 1 then addN (addN V (38 * C)) 38 else addN V (38 * C)) := by
  unfold foldA overN addN
  have h3 : 10000 < 2 ^ 256 := by decide +kernel
  generalize (2 : Nat) ^ 256 = Q at *
  by_cases h : V + 38 * C < Q
  · rw [if_neg (by omega), if_pos h, if_neg (by omega), Nat.mod_eq_of_lt h]
  · rw [if_pos (by omega), if_neg h, if_pos rfl, show (V + 38 * C) % Q = V + 38 * C - Q by rw [Nat.mod_eq_sub_mod (by omega), Nat.mod_eq_of_lt (by omega)], Nat.mod_eq_of_lt (a := V + 38 * C - Q + 38) (by omega)]
theorem num1 {x : Nat} (hx : x < 18446744073709551616) : #[Value.int IntKind.u64 (x : Int), Value.int IntKind.u64 0, Value.int IntKind.u64 0, Value.int IntKind.u64 0] = arrK .u64 4 (wd x) := by
  refine Eq.trans ?_ (arrK4 .u64 (wd x))
  rw [wd_ge (n := x) (i := 1) (by omega), wd_ge (n := x) (i := 2) (by omega), wd_ge (n := x) (i := 3) (by omega), show wd x 0 = x by unfold wd; omega]
  rfl
open Go.ChangeShapes Go.WideShapes Go.ChangeAt Go.RowKit
set_option maxHeartbeats 2000000
set_option maxRecDepth 100000
attribute [local go_sem ↓] load_num store_num execl_num execs_num load_wide store_wide execl_wide execs_wide
attribute [local go_sem] isHead_mk blkOf_mk isAgg_mk cellsV_mk row_drew rowAt_drew row_new_cells row_old rowAt_new rowAt_old setRow_new zeroNum zeroWide
end Go.Proofs.YtdlmamnnamlleaaDoor
namespace Go.Proofs.YtdlmamnnamlleaaDoor
open Go.ChangeShapes Go.WideShapes Go.ChangeAt Go.RowKit
set_option maxHeartbeats 2000000
set_option maxRecDepth 100000
attribute [local go_sem ↓] load_num store_num execl_num execs_num
attribute [local go_sem] isHead_mk blkOf_mk isAgg_mk cellsV_mk row_drew rowAt_drew row_new_cells row_old rowAt_new rowAt_old setRow_new zeroNum
/-- What pow holds while s bits are still to come. -/
def powS (a n s : Nat) : Nat := a ^ (n / 2 ^ s) % fP
theorem powS_start {a n s : Nat} (h : n < 2 ^ s) : powS a n s = 1 := by
  unfold powS
  rw [Nat.div_eq_of_lt h, Nat.pow_zero]
  decide +kernel
theorem powS_end (a n : Nat) : powS a n 0 = a ^ n % fP := by unfold powS; rw [Nat.pow_zero, Nat.div_one]
theorem powS_lt (a n s : Nat) : powS a n s < 2 ^ 256 := Nat.lt_trans lt_P P_lt
theorem powS_zero {a n s : Nat} (h : abit n s = 0) : powS a n (s + 1) * powS a n (s + 1) % fP = powS a n s := by
  unfold powS
  unfold abit at h
  rw [← Nat.mul_mod, ← Nat.pow_add]
  have e : n / 2 ^ (s + 1) + n / 2 ^ (s + 1) = n / 2 ^ s := by
    rw [Nat.pow_succ, ← Nat.div_div_eq_div_mul]; omega
  rw [e]
theorem powS_one {a n s : Nat} (h : abit n s = 1) : (powS a n (s + 1) * powS a n (s + 1) % fP) * a % fP = powS a n s := by
  unfold powS
  unfold abit at h
  rw [← Nat.mul_mod, ← Nat.pow_add, Nat.mod_mul_mod, ← Nat.pow_succ, Nat.succ_eq_add_one]
  have e : n / 2 ^ (s + 1) + n / 2 ^ (s + 1) + 1 = n / 2 ^ s := by
    rw [Nat.pow_succ, ← Nat.div_div_eq_div_mul]; omega
  rw [e]
theorem len_le {n r : Nat} (hn : n < 2 ^ 256) (h : IsLen n r) : r ≤ 256 := by
  rcases h.2 with h | h
  · omega
  · have := Nat.lt_of_le_of_lt h hn
    have := (Nat.pow_lt_pow_iff_right (by omega : 1 < 2)).1 this
    omega
theorem abit_or (n i : Nat) : abit n i = 0 ∨ abit n i = 1 := by unfold abit; omega
theorem two_less : subN fP 2 = fP - 2 := by
  have h1 := P_lt
  have h2 := fP_pos
  unfold subN
  generalize (2 : Nat) ^ 256 = Q at *
  generalize fP = P at *
  rw [show P + Q - 2 = P - 2 + Q by omega, Nat.add_mod_right, Nat.mod_eq_of_lt (by omega)]
end Go.Proofs.YtdlmamnnamlleaaDoor
namespace Go.Proofs.YtdlmamnnamlleaaDoor
open Go.ChangeShapes Go.WideShapes Go.ChangeAt Go.RowKit
set_option maxHeartbeats 2000000
set_option maxRecDepth 100000
theorem load_fld {w : World} {dst : Option Tmp} {x : Operand} {tt : TypeId} {pos : String} {af : Array Edge} {gd : Option (Nat × Bool)} {a : Act} {K : Act → World → Prop} {Q : Exit → Act → World → Prop} (h : LdOk w 4 (a.eval x)) : Oper.wp Tryd.prog ⟨dst, .load 41 x, tt, pos, af, gd⟩ a w K Q ↔ K (a.put dst (.agg (ldC w 4 (a.eval x)))) w := wp_load_el Tryd.underlying41 rfl (by kernel_rfl) h
def cat2 (f0 f1 : Nat → Nat) (i : Nat) : Nat := if i < 4 then f0 i else f1 (i - 4)
def cat4 (f0 f1 f2 f3 : Nat → Nat) (i : Nat) : Nat := if i < 4 then f0 i else if i < 8 then f1 (i - 4) else if i < 12 then f2 (i - 8) else f3 (i - 12)
theorem At.fld {w : World} {g m o n : Nat} {k : IntKind} {f : Nat → Nat} (h : At w g k m f) (ho : o + n ≤ m) : LdOk w n (.pointer (some ⟨g, o, none⟩)) ∧ ldC w n (.pointer (some ⟨g, o, none⟩)) = arrK k n fun i => f (o + i) := by
  have hc : ∀ j, j < n → w.cell? ((⟨g, o, none⟩ : Addr).add j) = some (.int k (f (o + j) : Nat)) := fun j hj => by
    have h1 := h.cell (i := o + j) (by omega)
    by_cases e : j = 0
    · subst e; simpa [Addr.add] using h1
    · simpa [Addr.add, e] using h1
  refine ⟨fun j hj => by rw [hc j hj]; rfl, ?_⟩
  show arrV n (fun j => (w.cell? ((⟨g, o, none⟩ : Addr).add j)).getD undef) = arrV n fun i => .int k (f (o + i) : Nat)
  refine arrV_congr fun i hi => ?_
  rw [hc i hi]; rfl
section
variable {w : World} {g : Nat} {f0 f1 f2 f3 : Nat → Nat}
theorem pt_0 (h : At w g .u64 8 (cat2 f0 f1)) : LdOk w 4 (.pointer (some ⟨g, 0, none⟩)) ∧ ldC w 4 (.pointer (some ⟨g, 0, none⟩)) = arrK .u64 4 f0 := by
  refine ⟨(h.fld (by omega)).1, (h.fld (by omega)).2.trans (arrK_congr fun i hi => ?_)⟩
  unfold cat2; rw [if_pos (by omega), Nat.zero_add]
theorem pt_1 (h : At w g .u64 8 (cat2 f0 f1)) : LdOk w 4 (.pointer (some ⟨g, 4, none⟩)) ∧ ldC w 4 (.pointer (some ⟨g, 4, none⟩)) = arrK .u64 4 f1 := by
  refine ⟨(h.fld (by omega)).1, (h.fld (by omega)).2.trans (arrK_congr fun i hi => ?_)⟩
  unfold cat2; rw [if_neg (by omega), Nat.add_sub_cancel_left]
theorem qd_0 (h : At w g .u64 16 (cat4 f0 f1 f2 f3)) : LdOk w 4 (.pointer (some ⟨g, 0, none⟩)) ∧ ldC w 4 (.pointer (some ⟨g, 0, none⟩)) = arrK .u64 4 f0 := by
  refine ⟨(h.fld (by omega)).1, (h.fld (by omega)).2.trans (arrK_congr fun i hi => ?_)⟩
  unfold cat4; rw [if_pos (by omega), Nat.zero_add]
theorem qd_1 (h : At w g .u64 16 (cat4 f0 f1 f2 f3)) : LdOk w 4 (.pointer (some ⟨g, 4, none⟩)) ∧ ldC w 4 (.pointer (some ⟨g, 4, none⟩)) = arrK .u64 4 f1 := by
  refine ⟨(h.fld (by omega)).1, (h.fld (by omega)).2.trans (arrK_congr fun i hi => ?_)⟩
  unfold cat4; rw [if_neg (by omega), if_pos (by omega), Nat.add_sub_cancel_left]
theorem qd_2 (h : At w g .u64 16 (cat4 f0 f1 f2 f3)) : LdOk w 4 (.pointer (some ⟨g, 8, none⟩)) ∧ ldC w 4 (.pointer (some ⟨g, 8, none⟩)) = arrK .u64 4 f2 := by
  refine ⟨(h.fld (by omega)).1, (h.fld (by omega)).2.trans (arrK_congr fun i hi => ?_)⟩
  unfold cat4; rw [if_neg (by omega), if_neg (by omega), if_pos (by omega), Nat.add_sub_cancel_left]
theorem qd_3 (h : At w g .u64 16 (cat4 f0 f1 f2 f3)) : LdOk w 4 (.pointer (some ⟨g, 12, none⟩)) ∧ ldC w 4 (.pointer (some ⟨g, 12, none⟩)) = arrK .u64 4 f3 := by
  refine ⟨(h.fld (by omega)).1, (h.fld (by omega)).2.trans (arrK_congr fun i hi => ?_)⟩
  unfold cat4; rw [if_neg (by omega), if_neg (by omega), if_neg (by omega), Nat.add_sub_cancel_left]
end
def ptV (x y : Nat) : Value := .agg (arrK .u64 8 (cat2 (wd x) (wd y)))
def quadV (x y z t : Nat) : Value := .agg (arrK .u64 16 (cat4 (wd x) (wd y) (wd z) (wd t)))
theorem build_one (w : World) : (Instr.build 41 #[(0, Value.int IntKind.u64 (1 : Int))]).run Tryd.prog w = .ok (.agg (arrK .u64 4 (wd 1))) w := (run_build w _ _ _ (by kernel_rfl)).trans (by rw [← num1 (show 1 < 18446744073709551616 by omega)])
theorem zeroPt : #[Value.int IntKind.u64 0, Value.int IntKind.u64 0, Value.int IntKind.u64 0, Value.int IntKind.u64 0, Value.int IntKind.u64 0, Value.int IntKind.u64 0, Value.int IntKind.u64 0, Value.int IntKind.u64 0] = arrK .u64 8 (cat2 (wd 0) (wd 0)) := by kernel_rfl
theorem zeroQd : #[Value.int IntKind.u64 0, Value.int IntKind.u64 0, Value.int IntKind.u64 0, Value.int IntKind.u64 0, Value.int IntKind.u64 0, Value.int IntKind.u64 0, Value.int IntKind.u64 0, Value.int IntKind.u64 0, Value.int IntKind.u64 0, Value.int IntKind.u64 0, Value.int IntKind.u64 0, Value.int IntKind.u64 0, Value.int IntKind.u64 0, Value.int IntKind.u64 0, Value.int IntKind.u64 0, Value.int IntKind.u64 0] = arrK .u64 16 (cat4 (wd 0) (wd 0) (wd 0) (wd 0)) := by kernel_rfl
section
variable {P : Program} {ops : Array Oper} {rest : List Oper} {o : Oper} {a : Act} {w : World} {K : Act → World → Prop} {Q : Exit → Act → World → Prop} {t : TypeId} {i0 i1 i2 i3 : Nat} {x0 x1 x2 x3 : Operand} {u v0 v1 v2 v3 : Value}
theorem wp_bldB (ho : o.op = .build t #[(i0, x0), (i1, x1)]) (h0 : a.eval x0 = v0) (h1 : a.eval x1 = v1) (hr : (Instr.build t #[(i0, v0), (i1, v1)]).run P w = .ok u w) (h : K (a.put o.dst u) w) : Oper.wp P o a w K Q := by
  subst h0 h1
  obtain ⟨dst, op, tt, pos, af, gd⟩ := o
  subst ho
  unfold Oper.wp execOp
  simp only [List.map_toArray, List.map_cons, List.map_nil, Sem.run_bind, hr, Result.andThen_ok]
  exact h
theorem wp_bldD (ho : o.op = .build t #[(i0, x0), (i1, x1), (i2, x2), (i3, x3)]) (h0 : a.eval x0 = v0) (h1 : a.eval x1 = v1) (h2 : a.eval x2 = v2) (h3 : a.eval x3 = v3) (hr : (Instr.build t #[(i0, v0), (i1, v1), (i2, v2), (i3, v3)]).run P w = .ok u w) (h : K (a.put o.dst u) w) : Oper.wp P o a w K Q := by
  subst h0 h1 h2 h3
  obtain ⟨dst, op, tt, pos, af, gd⟩ := o
  subst ho
  unfold Oper.wp execOp
  simp only [List.map_toArray, List.map_cons, List.map_nil, Sem.run_bind, hr, Result.andThen_ok]
  exact h
theorem wpList_bldB (hgd : o.guard = none) (ho : o.op = .build t #[(i0, x0), (i1, x1)]) (h0 : a.eval x0 = v0) (h1 : a.eval x1 = v1) (hr : (Instr.build t #[(i0, v0), (i1, v1)]).run P w = .ok u w) (h : wpList P ops Q rest (a.put o.dst u) w) : wpList P ops Q (o :: rest) a w :=
  wpList_step fun K hK => by
    have hw : Region.wanted o (yielded ops a.tmps) = true := by simp [Region.wanted, hgd]
    rw [if_pos hw]
    exact wp_bldB ho h0 h1 hr (hK _ _ h)
end
end Go.Proofs.YtdlmamnnamlleaaDoor
namespace Go.Proofs.YtdlmamnnamlleaaDoor
open Go.ChangeShapes Go.WideShapes Go.ChangeAt Go.RowKit
set_option maxHeartbeats 2000000
set_option maxRecDepth 100000
attribute [local go_sem ↓] load_fld load_num store_num execl_num execs_num        
attribute [local go_sem] isHead_mk blkOf_mk isAgg_mk cellsV_mk row_drew rowAt_drew row_new_cells row_old rowAt_new rowAt_old setRow_new zeroNum zeroPt zeroQd
end Go.Proofs.YtdlmamnnamlleaaDoor
namespace Go.Proofs.YtdlmamnnamlleaaDoor
open Go.ChangeShapes Go.WideShapes Go.ChangeAt Go.RowKit
set_option maxHeartbeats 2000000
set_option maxRecDepth 100000
attribute [local go_sem ↓] load_fld load_num store_num execl_num execs_num        
attribute [local go_sem] isHead_mk blkOf_mk isAgg_mk cellsV_mk row_drew rowAt_drew row_new_cells row_old rowAt_new rowAt_old setRow_new zeroNum zeroPt zeroQd
/-- The curve's number d. -/
def dN : Nat := 0x52036cee2b6ffe738cc740797779e89800700a4d4141d8ab75eb4dca135978a3
theorem dN_lt : dN < 2 ^ 256 := by decide +kernel
theorem buildD (w : World) : (Instr.build 41 #[(0, Value.int IntKind.u64 8496970652267935907), (1, Value.int IntKind.u64 31536524315187371), (2, Value.int IntKind.u64 10144147576115030168), (3, Value.int IntKind.u64 5909686906226998899)]).run Tryd.prog w = .ok (.agg (arrK .u64 4 (wd dN))) w :=
  run_build w _ _ _ (by kernel_rfl)
theorem low_lt {a : Nat} : a % fP < 2 ^ 256 := Nat.lt_trans lt_P P_lt
theorem dif_low {a b : Nat} : difP a b < 2 ^ 256 := low_lt
end Go.Proofs.YtdlmamnnamlleaaDoor
namespace Go.Proofs.YtdlmamnnamlleaaDoor
open Go.ChangeShapes Go.WideShapes Go.ChangeAt Go.RowKit
set_option maxHeartbeats 2000000
set_option maxRecDepth 100000
attribute [local go_sem ↓] load_fld load_num store_num execl_num execs_num        
attribute [local go_sem] isHead_mk blkOf_mk isAgg_mk cellsV_mk row_drew rowAt_drew row_new_cells row_old rowAt_new rowAt_old setRow_new zeroNum zeroPt zeroQd
/-- The base point. -/
def bX : Nat := 0x216936d3cd6e53fec0a4e231fdd6dc5c692cc7609525a7b2c9562d608f25d51a
def bY : Nat := 0x6666666666666666666666666666666666666666666666666666666666666658
theorem build_bX (w : World) : (Instr.build 41 #[(0, Value.int IntKind.u64 14507833142362363162), (1, Value.int IntKind.u64 7578651490590762930), (2, Value.int IntKind.u64 13881468655802702940), (3, Value.int IntKind.u64 2407515759118799870)]).run Tryd.prog w = .ok (.agg (arrK .u64 4 (wd bX))) w := run_build w _ _ _ (by kernel_rfl)
theorem build_bY (w : World) : (Instr.build 41 #[(0, Value.int IntKind.u64 7378697629483820632), (1, Value.int IntKind.u64 7378697629483820646), (2, Value.int IntKind.u64 7378697629483820646), (3, Value.int IntKind.u64 7378697629483820646)]).run Tryd.prog w = .ok (.agg (arrK .u64 4 (wd bY))) w := run_build w _ _ _ (by kernel_rfl)
/-- Is it a point of the curve? -/
def onB (x y : Nat) : Bool := decide (x = x % fP) && decide (y = y % fP) && decide (difP (y * y % fP) (x * x % fP) = (1 + dN * ((x * x % fP) * (y * y % fP) % fP) % fP) % fP)
end Go.Proofs.YtdlmamnnamlleaaDoor
namespace Go.Proofs.YtdlmamnnamlleaaDoor
open Go.ChangeShapes Go.WideShapes Go.ChangeAt Go.RowKit
set_option maxHeartbeats 2000000
set_option maxRecDepth 100000
attribute [local go_sem ↓] load_fld load_num store_num execl_num execs_num        
attribute [local go_sem] isHead_mk blkOf_mk isAgg_mk cellsV_mk row_drew rowAt_drew row_new_cells row_old rowAt_new rowAt_old setRow_new zeroNum zeroPt zeroQd
theorem ret_row2c {P : Program} {fn : Func} {R : Ending → World → Prop} {a : Act} {w : World} {p q : Tmp} {ty : TypeId} {g n : Nat} {d : TypeDesc} (h : fn.results = #[.cell p ty, .tmp q])
    (hu : P.underlying ty = some d) (hd : (match d with | .struct _ | .array _ _ => true | _ => false) = true) (hi : (P.info? ty).map (·.size) = some n)
    (hp : a.tmps.getD p undef = .pointer (some ⟨g, 0, none⟩)) (hr : Row w g n) (hf : a.defers = []) (hR : R (.returned (.tuple #[.agg (rowAt w g), a.tmps.getD q undef])) w) : bodyPost P fn R .ret a w := by
  obtain ⟨cs, t, hg, hs⟩ := hr
  have e : rowAt w g = cs := by simp [rowAt, hg]
  rw [e] at hR
  exact bodyPost_ret (results_row_tmp h _ _ g t cs (0, 0) d hp hg hu hd (by rw [hi, hs])) hf hR
theorem store_fldP {w : World} {dst : Option Tmp} {x y : Operand} {tt : TypeId} {pos : String} {af : Array Edge} {gd : Option (Nat × Bool)} {a : Act} {K : Act → World → Prop} {Q : Exit → Act → World → Prop} (hv : IsPart (a.eval x)) (h : Row w (blkOf (a.eval x)) 8) (ho : offOf (a.eval x) + 4 ≤ 8) (hx : IsAgg (a.eval y) 4) :
    Oper.wp Tryd.prog ⟨dst, .store 41 x y, tt, pos, af, gd⟩ a w K Q ↔ K (a.put dst undef) (w.setRow (blkOf (a.eval x)) (putAt (rowAt w (blkOf (a.eval x))) (offOf (a.eval x)) (cellsV (a.eval y)).toList)) := wp_store_part (by kernel_rfl) hv h ho hx
attribute [local go_sem ↓] store_fldP
attribute [local go_sem] isPart_mk offOf_mk
theorem put_x (f0 f1 f : Nat → Nat) : putAt (arrK .u64 8 (cat2 f0 f1)) 0 (arrK .u64 4 f).toList = arrK .u64 8 (cat2 f f1) := by
  rw [arrK_V .u64 8, putAt_arrV, arrK_V .u64 8]
  refine arrV_congr fun i hi => ?_
  rw [if_pos (Nat.zero_le _), Nat.sub_zero, Array.getElem?_toList]
  unfold cat2
  by_cases h : i < 4
  · rw [arrK_at h, if_pos h, if_pos h]; rfl
  · rw [Array.getElem?_eq_none (by rw [arrK_size]; omega), if_neg h, if_neg h]; rfl
/-- What plus makes of two quads. -/
def qplus (x1 y1 z1 t1 x2 y2 z2 t2 : Nat) : Nat × Nat × Nat × Nat :=
  let a := difP y1 x1 * difP y2 x2 % fP
  let b := ((y1 + x1) % fP) * ((y2 + x2) % fP) % fP
  let c0 := (t1 * t2 % fP) * dN % fP
  let c := (c0 + c0) % fP
  let z0 := z1 * z2 % fP
  let z := (z0 + z0) % fP
  let e := difP b a
  let f := difP z c
  let g := (z + c) % fP
  let h := (b + a) % fP
  (e * f % fP, g * h % fP, f * g % fP, e * h % fP)
/-- The sum of two points, as the program makes it. -/
def addPt (x1 y1 x2 y2 : Nat) : Nat × Nat :=
  let r := qplus x1 y1 1 (x1 * y1 % fP) x2 y2 1 (x2 * y2 % fP)
  (r.1 * invP r.2.2.1 % fP, r.2.1 * invP r.2.2.1 % fP)
theorem qplus_lt (x1 y1 z1 t1 x2 y2 z2 t2 : Nat) (r : Nat × Nat × Nat × Nat) (hr : qplus x1 y1 z1 t1 x2 y2 z2 t2 = r) : r.1 < 2 ^ 256 ∧ r.2.1 < 2 ^ 256 ∧ r.2.2.1 < 2 ^ 256 := by
  subst hr
  exact ⟨low_lt, low_lt, low_lt⟩
end Go.Proofs.YtdlmamnnamlleaaDoor
namespace Go.Proofs.YtdlmamnnamlleaaDoor
open Go.ChangeShapes Go.WideShapes Go.ChangeAt Go.RowKit
set_option maxHeartbeats 2000000
set_option maxRecDepth 100000
def cat3 (f0 f1 f2 : Nat → Nat) (i : Nat) : Nat := if i < 16 then f0 i else if i < 32 then f1 (i - 16) else f2 (i - 32)
section
variable {w : World} {g : Nat} {f0 f1 f2 : Nat → Nat}
theorem rp_0 (h : At w g .i64 48 (cat3 f0 f1 f2)) : LdOk w 16 (.pointer (some ⟨g, 0, none⟩)) ∧ ldC w 16 (.pointer (some ⟨g, 0, none⟩)) = arrK .i64 16 f0 := by
  refine ⟨(h.fld (by omega)).1, (h.fld (by omega)).2.trans (arrK_congr fun i hi => ?_)⟩
  unfold cat3; rw [if_pos (by omega), Nat.zero_add]
theorem rp_1 (h : At w g .i64 48 (cat3 f0 f1 f2)) : LdOk w 16 (.pointer (some ⟨g, 16, none⟩)) ∧ ldC w 16 (.pointer (some ⟨g, 16, none⟩)) = arrK .i64 16 f1 := by
  refine ⟨(h.fld (by omega)).1, (h.fld (by omega)).2.trans (arrK_congr fun i hi => ?_)⟩
  unfold cat3; rw [if_neg (by omega), if_pos (by omega), Nat.add_sub_cancel_left]
theorem rp_2 (h : At w g .i64 48 (cat3 f0 f1 f2)) : LdOk w 16 (.pointer (some ⟨g, 32, none⟩)) ∧ ldC w 16 (.pointer (some ⟨g, 32, none⟩)) = arrK .i64 16 f2 := by
  refine ⟨(h.fld (by omega)).1, (h.fld (by omega)).2.trans (arrK_congr fun i hi => ?_)⟩
  unfold cat3; rw [if_neg (by omega), if_neg (by omega), Nat.add_sub_cancel_left]
end
def rpV (x y z : Nat) : Value := .agg (arrK .i64 48 (cat3 (dgt x) (dgt y) (dgt z)))
theorem zeroRp : #[Value.int IntKind.i64 0, Value.int IntKind.i64 0, Value.int IntKind.i64 0, Value.int IntKind.i64 0, Value.int IntKind.i64 0, Value.int IntKind.i64 0, Value.int IntKind.i64 0, Value.int IntKind.i64 0, Value.int IntKind.i64 0, Value.int IntKind.i64 0, Value.int IntKind.i64 0, Value.int IntKind.i64 0, Value.int IntKind.i64 0, Value.int IntKind.i64 0, Value.int IntKind.i64 0, Value.int IntKind.i64 0, Value.int IntKind.i64 0, Value.int IntKind.i64 0, Value.int IntKind.i64 0, Value.int IntKind.i64 0, Value.int IntKind.i64 0, Value.int IntKind.i64 0, Value.int IntKind.i64 0, Value.int IntKind.i64 0, Value.int IntKind.i64 0, Value.int IntKind.i64 0, Value.int IntKind.i64 0, Value.int IntKind.i64 0, Value.int IntKind.i64 0, Value.int IntKind.i64 0, Value.int IntKind.i64 0, Value.int IntKind.i64 0, Value.int IntKind.i64 0, Value.int IntKind.i64 0, Value.int IntKind.i64 0, Value.int IntKind.i64 0, Value.int IntKind.i64 0, Value.int IntKind.i64 0, Value.int IntKind.i64 0, Value.int IntKind.i64 0, Value.int IntKind.i64 0, Value.int IntKind.i64 0, Value.int IntKind.i64 0, Value.int IntKind.i64 0, Value.int IntKind.i64 0, Value.int IntKind.i64 0, Value.int IntKind.i64 0, Value.int IntKind.i64 0] = arrK .i64 48 (cat3 (fun _ => 0) (fun _ => 0) (fun _ => 0)) := by kernel_rfl
section
variable {P : Program} {ops : Array Oper} {rest : List Oper} {o : Oper} {a : Act} {w : World} {K : Act → World → Prop} {Q : Exit → Act → World → Prop} {t : TypeId} {i0 i1 i2 : Nat} {x0 x1 x2 : Operand} {u v0 v1 v2 : Value}
theorem wp_bldC (ho : o.op = .build t #[(i0, x0), (i1, x1), (i2, x2)]) (h0 : a.eval x0 = v0) (h1 : a.eval x1 = v1) (h2 : a.eval x2 = v2) (hr : (Instr.build t #[(i0, v0), (i1, v1), (i2, v2)]).run P w = .ok u w) (h : K (a.put o.dst u) w) : Oper.wp P o a w K Q := by
  subst h0 h1 h2
  obtain ⟨dst, op, tt, pos, af, gd⟩ := o
  subst ho
  unfold Oper.wp execOp
  simp only [List.map_toArray, List.map_cons, List.map_nil, Sem.run_bind, hr, Result.andThen_ok]
  exact h
theorem wpList_bldC (hgd : o.guard = none) (ho : o.op = .build t #[(i0, x0), (i1, x1), (i2, x2)]) (h0 : a.eval x0 = v0) (h1 : a.eval x1 = v1) (h2 : a.eval x2 = v2) (hr : (Instr.build t #[(i0, v0), (i1, v1), (i2, v2)]).run P w = .ok u w) (h : wpList P ops Q rest (a.put o.dst u) w) : wpList P ops Q (o :: rest) a w :=
  wpList_step fun K hK => by
    have hw : Region.wanted o (yielded ops a.tmps) = true := by simp [Region.wanted, hgd]
    rw [if_pos hw]
    exact wp_bldC ho h0 h1 h2 hr (hK _ _ h)
end
section
variable {P : Program} {ops : Array Oper} {rest : List Oper} {o : Oper} {a : Act} {w : World} {Q : Exit → Act → World → Prop} {t : TypeId} {parts : Array (Nat × Operand)} {vs : Array (Nat × Value)} {u : Value}
theorem wpList_bldN (hgd : o.guard = none) (ho : o.op = .build t parts) (hv : (parts.map fun p => (p.1, a.eval p.2)) = vs) (hr : (Instr.build t vs).run P w = .ok u w) (h : wpList P ops Q rest (a.put o.dst u) w) : wpList P ops Q (o :: rest) a w :=
  wpList_step fun K hK => by
    have hw : Region.wanted o (yielded ops a.tmps) = true := by simp [Region.wanted, hgd]
    rw [if_pos hw]
    subst hv
    obtain ⟨dst, op, tt, pos, af, gd⟩ := o
    subst ho
    unfold Oper.wp execOp
    simp only [Sem.run_bind, hr, Result.andThen_ok]
    exact hK _ _ h
end

attribute [local go_sem] isHead_mk blkOf_mk isAgg_mk cellsV_mk row_drew rowAt_drew row_new_cells row_old rowAt_new rowAt_old setRow_new zeroFe
end Go.Proofs.YtdlmamnnamlleaaDoor
namespace Go.Proofs.YtdlmamnnamlleaaDoor
open Go.ChangeShapes Go.WideShapes Go.ChangeAt Go.RowKit
set_option maxHeartbeats 2000000
set_option maxRecDepth 100000
attribute [local go_sem ↓] load_fld  load_num store_num      
attribute [local go_sem] isHead_mk blkOf_mk isAgg_mk cellsV_mk row_drew rowAt_drew row_new_cells row_old rowAt_new rowAt_old setRow_new zeroNum zeroPt zeroFe zeroRp
end Go.Proofs.YtdlmamnnamlleaaDoor
namespace Go.Proofs.YtdlmamnnamlleaaDoor
/-- Congruence modulo 2^255 - 19. -/
def Cg (a b : Int) : Prop := ∃ k, a = b + (fP : Int) * k
section
variable {a b c d : Int} {m n : Nat}
theorem Cg.refl (a : Int) : Cg a a := ⟨0, by rw [Int.mul_zero, Int.add_zero]⟩
theorem Cg.symm (h : Cg a b) : Cg b a := by obtain ⟨k, hk⟩ := h; exact ⟨-k, by grind⟩
theorem Cg.trans (h : Cg a b) (h2 : Cg b c) : Cg a c := by obtain ⟨k, hk⟩ := h; obtain ⟨l, hl⟩ := h2; exact ⟨k + l, by grind⟩
theorem Cg.add (h : Cg a b) (h2 : Cg c d) : Cg (a + c) (b + d) := by obtain ⟨k, hk⟩ := h; obtain ⟨l, hl⟩ := h2; exact ⟨k + l, by grind⟩
theorem Cg.sub (h : Cg a b) (h2 : Cg c d) : Cg (a - c) (b - d) := by obtain ⟨k, hk⟩ := h; obtain ⟨l, hl⟩ := h2; exact ⟨k - l, by grind⟩
theorem Cg.mul (h : Cg a b) (h2 : Cg c d) : Cg (a * c) (b * d) := by obtain ⟨k, hk⟩ := h; obtain ⟨l, hl⟩ := h2; exact ⟨b * l + k * d + (fP : Int) * k * l, by grind⟩
theorem Cg.mod (n : Nat) : Cg ((n % fP : Nat) : Int) n := by
  have h := Nat.mod_add_div n fP
  refine ⟨-((n / fP : Nat) : Int), ?_⟩
  have h2 : ((n % fP : Nat) : Int) + (fP : Int) * ((n / fP : Nat) : Int) = (n : Int) := by rw [← Int.natCast_mul, ← Int.natCast_add, h]
  grind
theorem Cg.mulM (h : Cg m a) (h2 : Cg n b) : Cg ((m * n % fP : Nat) : Int) (a * b) := (Cg.mod _).trans (by rw [Int.natCast_mul]; exact h.mul h2)
theorem Cg.addM (h : Cg m a) (h2 : Cg n b) : Cg (((m + n) % fP : Nat) : Int) (a + b) := (Cg.mod _).trans (by rw [Int.natCast_add]; exact h.add h2)
theorem Cg.difM (h : Cg m a) (h2 : Cg n b) : Cg ((difP m n : Nat) : Int) (a - b) := by
  unfold difP
  refine (Cg.mod _).trans ?_
  have h3 := lt_P (a := n)
  rw [Int.natCast_add, Int.natCast_sub (Nat.le_of_lt h3)]
  have h4 := ((Cg.mod m).trans h).sub ((Cg.mod n).trans h2)
  obtain ⟨k, hk⟩ := h4
  exact ⟨k + 1, by grind⟩
/-- The document's difference. -/
def lessM (a b : Nat) : Nat := (a + 4 * fP - b) % fP
theorem Cg.lessM (h : Cg m a) (h2 : Cg n b) (hn : n < fP) : Cg ((lessM m n : Nat) : Int) (a - b) := by
  unfold Proofs.YtdlmamnnamlleaaDoor.lessM
  refine (Cg.mod _).trans ?_
  rw [Int.natCast_sub (by omega), Int.natCast_add, Int.natCast_mul]
  obtain ⟨k, hk⟩ := h.sub h2
  exact ⟨k + 4, by grind⟩
theorem Cg.eq (h : Cg m n) (hm : m < fP) (hn : n < fP) : m = n := by
  obtain ⟨k, hk⟩ := h
  generalize fP = P at *
  have h1 : k < 1 := by
    rcases Int.lt_or_le k 1 with h | h
    · exact h
    · have := Int.mul_le_mul_of_nonneg_left h (show (0 : Int) ≤ (P : Int) by omega)
      omega
  have h2 : -1 < k := by
    rcases Int.lt_or_le (-1) k with h | h
    · exact h
    · have := Int.mul_le_mul_of_nonneg_left h (show (0 : Int) ≤ (P : Int) by omega)
      omega
  have h3 : k = 0 := by omega
  subst h3
  omega
theorem Cg.of_eq (h : m % fP = n % fP) : Cg m n := (Cg.mod m).symm.trans (h ▸ Cg.mod n)
end

/-! Powers, by squaring. -/
def pwf (a : Nat) : Nat → Nat → Nat
  | 0, _ => 1
  | f + 1, n => if n % 2 = 0 then (pwf a f (n / 2)) ^ 2 % fP else ((pwf a f (n / 2)) ^ 2 % fP) * a % fP
theorem pwf_is (a : Nat) : ∀ f n, n < 2 ^ f → pwf a f n % fP = a ^ n % fP
  | 0, n, h => by
    have : n = 0 := by rw [Nat.pow_zero] at h; omega
    subst this; rfl
  | f + 1, n, h => by
    have ih := pwf_is a f (n / 2) (by rw [Nat.pow_succ] at h; omega)
    unfold pwf
    split
    · rename_i h0
      rw [Nat.mod_mod, Nat.pow_mod, ih, ← Nat.pow_mod, ← Nat.pow_mul, show n / 2 * 2 = n by omega]
    · rename_i h0
      rw [Nat.mod_mod, Nat.mod_mul_mod, Nat.mul_mod, Nat.pow_mod, ih, ← Nat.pow_mod, ← Nat.mul_mod, ← Nat.pow_mul, ← Nat.pow_succ, show (n / 2 * 2).succ = n by omega]
theorem four_pow : 4 ^ (fP - 1) % fP = 1 := by
  have h : fP - 1 < 2 ^ 256 := Nat.lt_of_le_of_lt (Nat.sub_le _ _) P_lt
  rw [← pwf_is 4 256 _ h]
  decide +kernel
/-- Four times as much above and below is the same. -/
theorem over_four {X X4 Z Z4 : Nat} (hX : Cg X4 (4 * (X : Int))) (hZ : Cg Z4 (4 * (Z : Int))) : X4 * invP Z4 % fP = X * invP Z % fP := by
  refine Cg.eq ?_ lt_P lt_P
  refine (Cg.mod _).trans (Cg.trans ?_ (Cg.mod _).symm)
  have hi : ∀ n m : Nat, Cg m n → ∀ k : Nat, Cg ((m ^ k : Nat) : Int) ((n ^ k : Nat) : Int) := fun n m h k => by
    induction k with
    | zero => exact Cg.refl _
    | succ k ih => rw [Nat.pow_succ, Nat.pow_succ, Int.natCast_mul, Int.natCast_mul]; exact ih.mul h
  have hZ' : Cg Z4 ((4 * Z : Nat) : Int) := by rw [Int.natCast_mul]; exact hZ
  have h1 : Cg (invP Z4) (((4 ^ (fP - 2) : Nat) : Int) * (invP Z : Int)) := by
    unfold invP
    refine (Cg.mod _).trans ((hi _ _ hZ' (fP - 2)).trans ?_)
    rw [Nat.mul_pow, Int.natCast_mul]
    exact (Cg.refl _).mul (Cg.mod _).symm
  have h2 : Cg (4 * ((4 ^ (fP - 2) : Nat) : Int)) 1 := by
    have h3 : 4 * 4 ^ (fP - 2) = 4 ^ (fP - 1) := by
      rw [Nat.mul_comm, ← Nat.pow_succ]
      congr 1
    rw [show (4 : Int) * ((4 ^ (fP - 2) : Nat) : Int) = ((4 * 4 ^ (fP - 2) : Nat) : Int) by rw [Int.natCast_mul]; rfl, h3]
    refine (Cg.mod _).symm.trans ?_
    rw [four_pow]
    exact Cg.refl _
  rw [Int.natCast_mul, Int.natCast_mul]
  refine (hX.mul h1).trans ?_
  generalize ((4 ^ (fP - 2) : Nat) : Int) = q at *
  have h4 := h2.mul (Cg.refl ((X : Int) * (invP Z : Int)))
  rw [Int.one_mul] at h4
  refine Cg.trans ?_ h4
  rw [show 4 * (X : Int) * (q * (invP Z : Int)) = 4 * q * ((X : Int) * (invP Z : Int)) by grind]
  exact Cg.refl _

/-! The document's side. -/
/-- Is it a point of the curve? -/
def onR (x y : Nat) : Bool := decide (x % fP = x) && decide (y % fP = y) && decide ((y % fP) * (y % fP) % fP = ((1 + (x % fP) * (x % fP) % fP) % fP + (dN * ((x % fP) * (x % fP) % fP) % fP) * ((y % fP) * (y % fP) % fP) % fP) % fP)
theorem on_same (x y : Nat) : onR x y = onB x y := by
  unfold onR onB
  by_cases hx : x % fP = x
  · by_cases hy : y % fP = y
    · rw [hx, hy]
      simp only [decide_true, Bool.true_and]
      refine decide_eq_decide.2 ?_
      have e1 := Cg.mulM (Cg.refl x) (Cg.refl x)
      have e2 := Cg.mulM (Cg.refl y) (Cg.refl y)
      have l1 : x * x % fP < fP := lt_P
      have l2 : y * y % fP < fP := lt_P
      generalize x * x % fP = xx at *
      generalize y * y % fP = yy at *
      generalize dN = dd at *
      have p1 := Cg.difM (Cg.refl yy) (Cg.refl xx)
      have p2 := Cg.addM (m := 1) (Cg.refl 1) (Cg.mulM (Cg.refl dd) (Cg.mulM (Cg.refl xx) (Cg.refl yy)))
      have p3 := Cg.addM (Cg.addM (m := 1) (Cg.refl 1) (Cg.refl xx)) (Cg.mulM (Cg.mulM (Cg.refl dd) (Cg.refl xx)) (Cg.refl yy))
      constructor
      · intro h
        refine Cg.eq (p1.trans (Cg.trans ?_ p2.symm)) lt_P lt_P
        rw [← h] at p3
        obtain ⟨k, hk⟩ := p3
        exact ⟨k, by grind⟩
      · intro h
        refine Cg.eq (Cg.trans ?_ p3.symm) l2 lt_P
        rw [h] at p1
        obtain ⟨k, hk⟩ := p1.symm.trans p2
        exact ⟨k, by grind⟩
    · rw [decide_eq_false hy, decide_eq_false (p := y = y % fP) (fun h => hy h.symm), Bool.and_false, Bool.false_and, Bool.and_false, Bool.false_and]
  · rw [decide_eq_false hx, decide_eq_false (p := x = x % fP) (fun h => hx h.symm), Bool.false_and, Bool.false_and, Bool.false_and, Bool.false_and]
theorem on_lt {x y : Nat} (h : onB x y = true) : x < fP ∧ y < fP := by
  unfold onB at h
  rw [Bool.and_eq_true, Bool.and_eq_true, decide_eq_true_eq, decide_eq_true_eq] at h
  exact ⟨by rw [h.1.1]; exact lt_P, by rw [h.1.2]; exact lt_P⟩
/-- What the document makes of two fractions. -/
def rplus (X1 Y1 Z1 X2 Y2 Z2 : Nat) : Nat × Nat × Nat :=
  let a := Z1 * Z2 % fP
  let c := X1 * X2 % fP
  let d := Y1 * Y2 % fP
  let b := a * a % fP
  let e := (dN * c % fP) * d % fP
  let f := lessM b e
  let g := (b + e) % fP
  let s := (X1 * Y2 % fP + Y1 * X2 % fP) % fP
  ((a * f % fP) * s % fP, (a * g % fP) * ((c + d) % fP) % fP, f * g % fP)
def rpoint (X Y Z : Nat) : Nat × Nat := (X * invP Z % fP, Y * invP Z % fP)
theorem add_same {x1 y1 x2 y2 : Nat} (hx1 : x1 < fP) (hy1 : y1 < fP) (hx2 : x2 < fP) (hy2 : y2 < fP) :
    addPt x1 y1 x2 y2 = rpoint (rplus (x1 % fP) (y1 % fP) 1 (x2 % fP) (y2 % fP) 1).1 (rplus (x1 % fP) (y1 % fP) 1 (x2 % fP) (y2 % fP) 1).2.1 (rplus (x1 % fP) (y1 % fP) 1 (x2 % fP) (y2 % fP) 1).2.2 := by
  rw [Nat.mod_eq_of_lt hx1, Nat.mod_eq_of_lt hy1, Nat.mod_eq_of_lt hx2, Nat.mod_eq_of_lt hy2]
  -- the program's
  have pa := Cg.mulM (Cg.difM (Cg.refl y1) (Cg.refl x1)) (Cg.difM (Cg.refl y2) (Cg.refl x2))
  have pb := Cg.mulM (Cg.addM (Cg.refl y1) (Cg.refl x1)) (Cg.addM (Cg.refl y2) (Cg.refl x2))
  have pc0 := Cg.mulM (Cg.mulM (Cg.mulM (Cg.refl x1) (Cg.refl y1)) (Cg.mulM (Cg.refl x2) (Cg.refl y2))) (Cg.refl dN)
  have pc := Cg.addM pc0 pc0
  have pz0 := Cg.mulM (m := 1) (n := 1) (Cg.refl 1) (Cg.refl 1)
  have pz := Cg.addM pz0 pz0
  have pe := Cg.difM pb pa
  have pf := Cg.difM pz pc
  have pg := Cg.addM pz pc
  have ph := Cg.addM pb pa
  have p1 := Cg.mulM pe pf
  have p2 := Cg.mulM pg ph
  have p3 := Cg.mulM pf pg
  -- the document's
  have ra := Cg.mulM (m := 1) (n := 1) (Cg.refl 1) (Cg.refl 1)
  have rc := Cg.mulM (Cg.refl x1) (Cg.refl x2)
  have rd := Cg.mulM (Cg.refl y1) (Cg.refl y2)
  have rb := Cg.mulM ra ra
  have re := Cg.mulM (Cg.mulM (Cg.refl dN) rc) rd
  have rf := Cg.lessM rb re lt_P
  have rg := Cg.addM rb re
  have rs := Cg.addM (Cg.mulM (Cg.refl x1) (Cg.refl y2)) (Cg.mulM (Cg.refl y1) (Cg.refl x2))
  have r1 := Cg.mulM (Cg.mulM ra rf) rs
  have r2 := Cg.mulM (Cg.mulM ra rg) (Cg.addM rc rd)
  have r3 := Cg.mulM rf rg
  unfold addPt rpoint
  refine Prod.ext ?_ ?_
  · refine over_four (p1.trans (Cg.trans ?_ ((Cg.refl 4).mul r1).symm)) (p3.trans (Cg.trans ?_ ((Cg.refl 4).mul r3).symm))
    · exact ⟨0, by grind⟩
    · exact ⟨0, by grind⟩
  · refine over_four (p2.trans (Cg.trans ?_ ((Cg.refl 4).mul r2).symm)) (p3.trans (Cg.trans ?_ ((Cg.refl 4).mul r3).symm))
    · exact ⟨0, by grind⟩
    · exact ⟨0, by grind⟩
theorem neg_same (x : Nat) : difP 0 x = lessM 0 (x % fP) := by
  refine Cg.eq ((Cg.difM (m := 0) (Cg.refl 0) (Cg.refl x)).trans (Cg.lessM (m := 0) (Cg.refl 0) (Cg.mod x) lt_P).symm) lt_P lt_P
end Go.Proofs.YtdlmamnnamlleaaDoor
namespace Go.Proofs.YtdlmamnnamlleaaDoor
open Go.ChangeShapes Go.WideShapes Go.ChangeAt Go.RowKit
set_option maxHeartbeats 2000000
set_option maxRecDepth 100000
attribute [local go_sem ↓] load_fld  load_num store_num      
attribute [local go_sem] isHead_mk blkOf_mk isAgg_mk cellsV_mk row_drew rowAt_drew row_new_cells row_old rowAt_new rowAt_old setRow_new zeroNum zeroPt zeroFe zeroRp
theorem less_low {a b : Nat} : lessM a b < 2 ^ 256 := low_lt
theorem rplus_lt (X1 Y1 Z1 X2 Y2 Z2 : Nat) (r : Nat × Nat × Nat) (hr : rplus X1 Y1 Z1 X2 Y2 Z2 = r) : r.1 < 2 ^ 256 ∧ r.2.1 < 2 ^ 256 ∧ r.2.2 < 2 ^ 256 := by
  subst hr
  exact ⟨low_lt, low_lt, low_lt⟩
theorem dgt_inj {a b : Nat} (ha : a < 2 ^ 256) (hb : b < 2 ^ 256) : (∀ i < 16, dgt a i = dgt b i) ↔ a = b := by
  refine ⟨fun h => ?_, fun h _ _ => by rw [h]⟩
  have := dval_congr h
  rwa [dval_dgt, dval_dgt, p16, Nat.mod_eq_of_lt ha, Nat.mod_eq_of_lt hb] at this
end Go.Proofs.YtdlmamnnamlleaaDoor
namespace Go.Proofs.YtdlmamnnamlleaaDoor
open Go Go.ChangeShapes Go.WideShapes Go.ChangeAt Go.RowKit
set_option maxRecDepth 100000
theorem part_4 (F f : Nat → Nat) (o : Nat) (ho : o + 4 ≤ 8) (h : ∀ i < 4, F (o + i) = f i) (w : World) : (part 41 (arrK .u64 8 F) o).run Tryd.prog w = .ok (.agg (arrK .u64 4 f)) w := by
  obtain ⟨i, hi, hs⟩ : ∃ i, Tryd.prog.info? 41 = some i ∧ i.size = 4 := by
    have h : (Tryd.prog.info? 41).map (·.size) = some 4 := by kernel_rfl
    cases hi : Tryd.prog.info? 41 with
    | none => rw [hi] at h; cases h
    | some i => rw [hi] at h; exact ⟨i, rfl, by simpa using h⟩
  have h2 : (arrK .u64 8 F).extract o (o + 4) = arrK .u64 4 f := by
    rw [arrK_V .u64 8, arrV_extract ho, arrK_V .u64 4]
    exact arrV_congr fun i hi => by rw [h i hi]
  simp [part, isAgg, run_underlying Tryd.underlying41, sizeOf, typeInfo, hi, hs, h2]
theorem equalIn_4 (f : Nat → Nat) (k : Nat) (w : World) : (Op.equalIn (k + 2) 41 (.agg (arrK .u64 4 f)) (.agg (arrK .u64 4 f))).run Tryd.prog w = .ok true w := by
  rw [run_equalIn_arrK Tryd.underlying41 Tryd.underlying39 (by kernel_rfl)]; simp
section
variable {P : Program} {ops : Array Oper} {Q : Exit → Act → World → Prop}
theorem wpList_opW {rest : List Oper} {o : Oper} {a : Act} {w : World} (hw : Region.wanted o (yielded ops a.tmps) = true) (h : ∀ K : Act → World → Prop, (∀ a' w', wpList P ops Q rest a' w' → K a' w') → Oper.wp P o a w K Q) : wpList P ops Q (o :: rest) a w :=
  wpList_step fun K hK => by rw [if_pos hw]; exact h K hK
theorem calm_step_skipN {R : Nat → SRel} {a0 : Act} {w0 : World} {i g : Nat} {b : Bool} {d : Tmp} {o : Oper} (hg : o.guard = some (g, b)) (hd : dstAt ops g = some d)
    (hv : ∀ (a : Act) (w : World), Came ops R o a w → a.tmps[d]?.getD undef ≠ .bool b) (hR : ∀ w, (R i).p undef w) : StepOk P ops Q R a0 w0 i o := by
  intro a w K hb hu hc hK
  have hy : yielded ops a.tmps g ≠ some b := by
    intro hy
    have h1 := hv a w hc
    unfold dstAt at hd
    unfold yielded at hy
    rw [hd, Option.bind_some] at hy
    cases h2 : a.tmps[d]? with
    | none => rw [h2] at hy; cases hy
    | some v =>
      rw [h2] at hy h1
      cases v with
      | bool x =>
        have h3 : x = b := by simpa using hy
        subst h3
        exact h1 rfl
      | _ => cases hy
  rw [if_neg (by simp [Region.wanted, hg, hy])]
  exact hK undef w (hR w) (Below.refl _ _)
end
end Go.Proofs.YtdlmamnnamlleaaDoor
namespace Go.Proofs.YtdlmamnnamlleaaDoor
open Go.ChangeShapes Go.WideShapes Go.ChangeAt Go.RowKit
set_option maxHeartbeats 2000000
set_option maxRecDepth 100000
attribute [local go_sem ↓] load_num store_num execl_num execs_num
attribute [local go_sem] isHead_mk blkOf_mk isAgg_mk cellsV_mk row_drew rowAt_drew row_new_cells row_old rowAt_new rowAt_old setRow_new zeroNum
theorem build_num (x : Nat) (hx : x < 18446744073709551616) (w : World) : (Instr.build 41 #[(0, Value.int IntKind.u64 (x : Int))]).run Tryd.prog w = .ok (.agg (arrK .u64 4 (wd x))) w := (run_build w _ _ _ (by kernel_rfl)).trans (by rw [← num1 hx])
theorem share_num (x : Nat) (w : World) (hx : x < 9223372036854775808) : Calls Tryd.prog 55 #[.int .i64 (x : Nat)] w fun e w' => e = .returned (numV x) ∧ Below w.heap.size w w' := by
  unfold numV
  have hbl := Lib.hid (fun W => build_num x (by omega) W)
  have hc0 := arrK_cells .u64 4 (wd 0)
  have hcx := arrK_cells .u64 4 (wd x)
  have hL := Lib.hid (below_alloc w (Obj.cells (arrK .u64 4 (wd 0)) 41))
  have hR : Row (w.alloc (Obj.cells (arrK .u64 4 (wd 0)) 41)) w.heap.size 4 := (row_new rfl).2 hc0.1
  have hw : IntKind.u64.wrap (x : Int) = (x : Int) := by rw [IntKind.wrap_u64]; omega
  go_enter Tryd.func55, Tryd.ntmps55
  go_upto_region 1 with (fail)
  generalize w.alloc _ = W0 at *
  go_wp2_with (refine wpList_opW (by go_simp) (fun K hK => wp_bldA rfl (vx := Value.int IntKind.u64 (x : Int)) rfl (hbl.out _) (hK _ _ ?_)))
  exact ret_stored (p := 2) (ty := 41) (g := w.heap.size) (n := 4) (c := arrK .u64 4 (wd x)) rfl Tryd.underlying41 rfl (by kernel_rfl) rfl hR hcx.1 rfl ⟨rfl, below_setRow hL.out (by omega)⟩
/-- A share that is right, behind those ahead of it. -/
structure ShOk (X : Nat → Int) (Y : Nat → Nat) (i : Nat) : Prop where
  lo : 1 ≤ X i
  hi : X i ≤ 255
  y : Y i < fL
  one : ∀ j < i, X j ≠ X i
/-- What is wrong with n shares, asked at x. -/
def FaultIs (n : Nat) (X : Nat → Int) (Y : Nat → Nat) (x f : Int) : Prop :=
  (20 < n ∧ f = 2) ∨ (n ≤ 20 ∧ (n = 0 ∨ x < 0 ∨ 255 < x) ∧ f = 1) ∨ (n ≤ 20 ∧ ¬ (n = 0 ∨ x < 0 ∨ 255 < x) ∧ (((∃ i < n, ¬ ShOk X Y i) ∧ f = 1) ∨ ((∀ i < n, ShOk X Y i) ∧ f = 0)))
theorem FaultIs.only {n : Nat} {X : Nat → Int} {Y : Nat → Nat} {x f g : Int} (h : FaultIs n X Y x f) (k : FaultIs n X Y x g) : f = g := by
  rcases h with ⟨h1, rfl⟩ | ⟨h1, h2, rfl⟩ | ⟨h1, h2, h3⟩
  · rcases k with ⟨k1, rfl⟩ | ⟨k1, k2, rfl⟩ | ⟨k1, k2, k3⟩
    · rfl
    · omega
    · omega
  · rcases k with ⟨k1, rfl⟩ | ⟨k1, k2, rfl⟩ | ⟨k1, k2, k3⟩
    · omega
    · rfl
    · exact absurd h2 k2
  · rcases k with ⟨k1, rfl⟩ | ⟨k1, k2, rfl⟩ | ⟨k1, k2, k3⟩
    · omega
    · exact absurd k2 h2
    · rcases h3 with ⟨⟨i, hi, hn⟩, rfl⟩ | ⟨ha, rfl⟩
      · rcases k3 with ⟨-, rfl⟩ | ⟨ka, -⟩
        · rfl
        · exact absurd (ka i hi) hn
      · rcases k3 with ⟨⟨i, hi, hn⟩, -⟩ | ⟨-, rfl⟩
        · exact absurd (ha i hi) hn
        · rfl
end Go.Proofs.YtdlmamnnamlleaaDoor
namespace Go.Proofs.YtdlmamnnamlleaaDoor
open Go.ChangeShapes Go.WideShapes Go.ChangeAt Go.RowKit
set_option maxHeartbeats 2000000
set_option maxRecDepth 100000
def twoW : Nat → Nat := fun i => if i = 0 then 6346243789798364141 else 1503914060200516822
theorem twoW_val : wval twoW 2 = 27742317777372353535851937790883648493 := by decide +kernel
theorem fL_sum : 2 ^ 252 + 27742317777372353535851937790883648493 = fL := rfl
theorem two_lit : #[Value.int IntKind.u64 6346243789798364141, Value.int IntKind.u64 1503914060200516822] = arrK .u64 2 twoW := by kernel_rfl
theorem ref_Prime (w : World) : Calls Tryd.prog 56 #[] w (RetN fL w) := by
  have kT := Lib.hid (fun V => ref_TwoTo 252 V (by omega))
  have kD := Lib.hid (fun (V : World) g (h : At V g .u64 2 twoW) => by
    obtain ⟨cs, t, hg, hs⟩ := h.row
    have hcs : cs = arrK .u64 2 twoW := by rw [← h.eq]; simp [rowAt, hg]
    have k := ref_Digits (some ⟨g, 0, none⟩) 2 2 twoW V (by rw [← hcs]; exact Rd.of_blk hg h.lt) (by omega) (by omega) (by omega) (fun i _ => by unfold twoW; split <;> omega)
    rw [twoW_val] at k
    exact k)
  have hsm : (2 : Nat) ^ 252 < 2 ^ 253 := Nat.pow_lt_pow_right (by omega) (by omega)
  have hs2 : 27742317777372353535851937790883648493 < 2 ^ 253 := by decide +kernel
  rw [← fL_sum]
  obtain ⟨P, hP⟩ : ∃ P, (2 : Nat) ^ 252 = P := ⟨_, rfl⟩
  obtain ⟨D, hD⟩ : ∃ P, 27742317777372353535851937790883648493 = P := ⟨_, rfl⟩
  rw [hP] at kT hsm ⊢
  rw [hD] at kD hs2 ⊢
  have kS := Lib.hid (fun V v u (hv : IsN V v P) (hu : IsN V u D) => plusN V (hv.toV (lt_big hsm (by omega))) (hu.toV (lt_big hs2 (by omega))))
  clear hD hP hsm hs2
  go_enter Tryd.func56, Tryd.ntmps56
  go_wp2_with fail
  refine (show Calls _ _ #[Value.int IntKind.i64 252] w _ from kT.out _).mono ?_
  rintro e w2 ⟨v, rfl, hv, hb⟩
  have hV := Lib.hid hv
  have hL := Lib.hid hb
  clear hv hb kT
  dsimp only
  go_wp2_with fail
  rw [two_lit]
  refine (kD.out _ _ (At.new (w := w2) (k := .u64) (m := 2) (f := twoW) 39 rfl)).mono ?_
  rintro e w3 ⟨u, rfl, hu, hb⟩
  have hb2 := (below_alloc w2 (Obj.cells (arrK .u64 2 twoW) 39)).trans (hb.mono (by simp))
  have hV2 := Lib.hid (hV.out.step hb2)
  have hU := Lib.hid hu
  have hL2 := Lib.hid (below_step hb2 hL.out (Nat.le_refl _))
  clear hu hb hb2 hV hL kD
  dsimp only
  go_wp2_with fail
  refine (kS.out _ _ _ hV2.out hU.out).mono ?_
  rintro e w4 ⟨x, rfl, hx, hb⟩
  have hX := Lib.hid hx
  have hL3 := Lib.hid (below_step hb hL2.out (Nat.le_refl _))
  clear hx hb hL2 hU hV2 kS
  dsimp only
  go_wp2_with fail
  go_ret
  exact ⟨x, rfl, hX.out, hL3.out⟩
theorem IsN.one1 (w : World) (t : TypeId) : IsN (w.alloc (.cells #[.int .i64 ((1 : Nat) : Int)] t)) (.slice (some ⟨w.heap.size, 0, none⟩) 1 1) 1 :=
  ⟨some ⟨w.heap.size, 0, none⟩, [1], 1, rfl, ⟨Rd.of_blk (cs := #[.int .i64 ((1 : Nat) : Int)]) (push_new _ _) (by simp), Sm.one (by omega), by simp, by omega⟩, ⟨⟨Sm.one (by omega), val_one 1⟩, by simp⟩⟩
theorem pw_bit (a n m s x y : Nat) (hx : x = a ^ (n % 2 ^ s) % m) (hy : y = a ^ 2 ^ s % m) : (n / 2 ^ s % 2 = 0 → x = a ^ (n % 2 ^ (s + 1)) % m) ∧ (n / 2 ^ s % 2 = 1 → x * y % m = a ^ (n % 2 ^ (s + 1)) % m) ∧ y * y % m = a ^ 2 ^ (s + 1) % m := by
  have h : n % 2 ^ (s + 1) = n % 2 ^ s + n / 2 ^ s % 2 * 2 ^ s := by rw [Nat.pow_succ, Nat.mod_mul, Nat.mul_comm (2 ^ s) (n / 2 ^ s % 2)]
  refine ⟨fun hb => ?_, fun hb => ?_, ?_⟩
  · rw [h, hb, Nat.zero_mul, Nat.add_zero]; exact hx
  · rw [h, hb, Nat.one_mul, Nat.pow_add, hx, hy, ← Nat.mul_mod]
  · rw [hy, ← Nat.mul_mod, Nat.pow_succ, Nat.mul_two, Nat.pow_add]
end Go.Proofs.YtdlmamnnamlleaaDoor
namespace Go.Proofs.YtdlmamnnamlleaaDoor
open Go

abbrev W32 := BitVec 32
def rotr (x : W32) (n : Nat) : W32 := x >>> n ||| x <<< (32 - n)
def sg0 (x : W32) : W32 := rotr x 7 ^^^ rotr x 18 ^^^ x >>> 3
def sg1 (x : W32) : W32 := rotr x 17 ^^^ rotr x 19 ^^^ x >>> 10
def sG1 (x : W32) : W32 := rotr x 6 ^^^ rotr x 11 ^^^ rotr x 25
def sG0 (x : W32) : W32 := rotr x 2 ^^^ rotr x 13 ^^^ rotr x 22
def chs (x y z : W32) : W32 := (x &&& y) ^^^ (~~~x &&& z)
def maj (x y z : W32) : W32 := (x &&& y) ^^^ (x &&& z) ^^^ (y &&& z)
theorem chs_eq (x y z : W32) : z ^^^ (x &&& (y ^^^ z)) = chs x y z := by
  unfold chs
  ext i
  simp
  cases x[i] <;> cases y[i] <;> cases z[i] <;> rfl
theorem maj_eq (x y z : W32) : (x &&& y) ||| (z &&& (x ||| y)) = maj x y z := by
  unfold maj
  ext i
  simp
  cases x[i] <;> cases y[i] <;> cases z[i] <;> rfl

/-- The words of a block, the first 16 + n. -/
def schl (b : Nat → W32) : Nat → List W32
  | 0 => (List.range 16).map b
  | n + 1 => schl b n ++ [(schl b n)[n]?.getD 0 + sg0 ((schl b n)[n + 1]?.getD 0) + (schl b n)[n + 9]?.getD 0 + sg1 ((schl b n)[n + 14]?.getD 0)]
theorem schl_len (b : Nat → W32) : ∀ n, (schl b n).length = 16 + n
  | 0 => by simp [schl]
  | n + 1 => by simp [schl, schl_len b n]; omega
theorem schl_pre (b : Nat → W32) (n : Nat) : ∀ m t, t < 16 + n → (schl b (n + m))[t]? = (schl b n)[t]?
  | 0, _, _ => rfl
  | m + 1, t, h => by
      show (schl b (n + m) ++ _)[t]? = _
      rw [List.getElem?_append_left (by rw [schl_len]; omega), schl_pre b n m t h]
def sch (b : Nat → W32) (t : Nat) : W32 := (schl b t)[t]?.getD 0
theorem sch_at (b : Nat → W32) {n t : Nat} (h : t < 16 + n) : (schl b n)[t]?.getD 0 = sch b t := by
  unfold sch
  rcases Nat.le_total n t with hle | hle
  · obtain ⟨m, rfl⟩ : ∃ m, t = n + m := ⟨t - n, by omega⟩
    rw [schl_pre b n m _ (by omega)]
  · obtain ⟨m, rfl⟩ : ∃ m, n = t + m := ⟨n - t, by omega⟩
    rw [schl_pre b t m _ (by omega)]
theorem sch_lo (b : Nat → W32) {t : Nat} (h : t < 16) : sch b t = b t := by
  rw [← sch_at b (n := 0) (by omega)]
  simp [schl, h]
theorem sch_hi (b : Nat → W32) {t : Nat} (h : 16 ≤ t) : sch b t = sch b (t - 16) + sg0 (sch b (t - 15)) + sch b (t - 7) + sg1 (sch b (t - 2)) := by
  obtain ⟨n, rfl⟩ : ∃ n, t = n + 16 := ⟨t - 16, by omega⟩
  rw [← sch_at b (n := n + 1) (by omega)]
  show (schl b n ++ _)[n + 16]?.getD 0 = _
  rw [List.getElem?_append_right (by rw [schl_len]; omega), schl_len, show n + 16 - (16 + n) = 0 by omega]
  show (schl b n)[n]?.getD 0 + sg0 ((schl b n)[n + 1]?.getD 0) + (schl b n)[n + 9]?.getD 0 + sg1 ((schl b n)[n + 14]?.getD 0) = _
  rw [sch_at b (by omega), sch_at b (by omega), sch_at b (by omega), sch_at b (by omega), show n + 16 - 16 = n by omega, show n + 16 - 15 = n + 1 by omega, show n + 16 - 7 = n + 9 by omega, show n + 16 - 2 = n + 14 by omega]

def one (k w : W32) (v : Nat → W32) : W32 := v 7 + sG1 (v 4) + chs (v 4) (v 5) (v 6) + k + w
def two (v : Nat → W32) : W32 := sG0 (v 0) + maj (v 0) (v 1) (v 2)
def rnd (k w : W32) (v : Nat → W32) : Nat → W32
  | 0 => one k w v + two v
  | 1 => v 0
  | 2 => v 1
  | 3 => v 2
  | 4 => v 3 + one k w v
  | 5 => v 4
  | 6 => v 5
  | _ => v 6
def rounds (K w v : Nat → W32) : Nat → Nat → W32
  | 0 => v
  | t + 1 => rnd (K t) (w t) (rounds K w v t)
def prs (K h b : Nat → W32) : Nat → W32 := fun i => h i + rounds K (sch b) h 64 i

/-! As the walk has them: the number of a word, under a name of its own (the walk's simp would take 'toNat' apart). -/
def w2n (x : W32) : Nat := x.toNat
theorem w2n_lt (x : W32) : w2n x < 4294967296 := x.isLt
theorem w2n_of {n : Nat} (h : n < 4294967296) : w2n (BitVec.ofNat 32 n) = n := by unfold w2n; rw [BitVec.toNat_ofNat]; exact Nat.mod_eq_of_lt h
theorem w2n_inj {x y : W32} (h : w2n x = w2n y) : x = y := BitVec.eq_of_toNat_eq h
section
variable (x y : W32)
theorem u32_xor' : bits .xor .u32 (w2n x : Int) (w2n y : Int) = (w2n (x ^^^ y) : Int) := by unfold w2n; rw [u32_xor_nat _ _ x.isLt y.isLt, BitVec.toNat_xor]
theorem u32_and' : bits .and .u32 (w2n x : Int) (w2n y : Int) = (w2n (x &&& y) : Int) := by unfold w2n; rw [u32_and_nat _ _ x.isLt y.isLt, BitVec.toNat_and]
theorem u32_or' : bits .or .u32 (w2n x : Int) (w2n y : Int) = (w2n (x ||| y) : Int) := by unfold w2n; rw [u32_or_nat _ _ x.isLt y.isLt, BitVec.toNat_or]
theorem u32_add' : ((w2n x : Int) + (w2n y : Int)) % (4294967296 : Int) = (w2n (x + y) : Int) := by unfold w2n; rw [BitVec.toNat_add]; simp
theorem u32_addw' : IntKind.u32.wrap ((w2n x : Int) + (w2n y : Int)) = (w2n (x + y) : Int) := by rw [IntKind.wrap_u32]; exact u32_add' x y
theorem u32_shr' (n : Nat) : (w2n x : Int) / (2 : Int) ^ n = (w2n (x >>> n) : Int) := by unfold w2n; rw [BitVec.toNat_ushiftRight, Nat.shiftRight_eq_div_pow]; simp
theorem u32_shr3 : (w2n x : Int) / (8 : Int) = (w2n (x >>> 3) : Int) := u32_shr' x 3
theorem u32_shr10 : (w2n x : Int) / (1024 : Int) = (w2n (x >>> 10) : Int) := u32_shr' x 10
theorem u32_shl' (n : Nat) : (w2n x : Int) * (2 : Int) ^ n % (4294967296 : Int) = (w2n (x <<< n) : Int) := by unfold w2n; rw [BitVec.toNat_shiftLeft, Nat.shiftLeft_eq]; simp
theorem u32_shlw' (n : Nat) : IntKind.u32.wrap ((w2n x : Int) * (2 : Int) ^ n) = (w2n (x <<< n) : Int) := by rw [IntKind.wrap_u32]; exact u32_shl' x n
theorem u32_not2 : bits .xor .u32 IntKind.u32.max (w2n x : Int) = (w2n (~~~x) : Int) := by
  unfold w2n
  rw [show IntKind.u32.max = (((BitVec.allOnes 32).toNat : Nat) : Int) from rfl, u32_xor_nat _ _ (by decide) x.isLt, ← BitVec.toNat_xor, BitVec.allOnes_xor]
theorem u32_not' : ((4294967295 : Int) - (w2n x : Int)) = (w2n (~~~x) : Int) := by unfold w2n; have := x.isLt; rw [BitVec.toNat_not]; omega
end
end Go.Proofs.YtdlmamnnamlleaaDoor
namespace Go.Proofs.YtdlmamnnamlleaaDoor
open Go.ChangeShapes Go.WideShapes Go.ChangeAt Go.RowKit
set_option maxHeartbeats 1000000
set_option maxRecDepth 100000
attribute [local go_sem] u32_xor' u32_and' u32_or' u32_add' u32_addw' u32_shr' u32_shl' u32_shlw' u32_not'

abbrev u32v (x : W32) : Value := .int .u32 (w2n x : Int)

theorem rot32 (x : W32) (n : Nat) (w : World) (hn : 0 < n) (hn2 : n < 32) :
    Calls Tryd.prog 121 #[u32v x, .int .i64 (-(n : Int))] w fun e w' => e = .returned (u32v (rotr x n)) ∧ w = w' := by
  obtain ⟨m, hm⟩ : ∃ m, m = 32 - n := ⟨_, rfl⟩
  have hb : bits .and .u64 (IntKind.u64.wrap (-(n : Int))) 31 = (m : Int) := by
    rw [show IntKind.u64.wrap (-(n : Int)) = ((18446744073709551616 - n : Nat) : Int) by rw [IntKind.wrap_u64]; omega, show (31 : Int) = ((31 : Nat) : Int) from rfl, u64_and_nat _ _ (by omega) (by omega), show (31 : Nat) = 2 ^ 5 - 1 from rfl, Nat.and_two_pow_sub_one_eq_mod]
    omega
  have h1 : (0 : Int) ≤ m := by omega
  have h2 : (m : Int) < 32 := by omega
  have h3 : (32 : Int) - m = n := by omega
  have hHm := Lib.hid hm
  clear hm
  go_enter Tryd.func121, Tryd.ntmps121
  go_wp2
  go_ret
  refine ⟨?_, rfl⟩
  unfold rotr
  rw [BitVec.or_comm, ← hHm.out]; rfl
def be32 (f : Nat → Nat) (at_ : Nat) : W32 := BitVec.ofNat 32 (f at_ * 16777216 + f (at_ + 1) * 65536 + f (at_ + 2) * 256 + f (at_ + 3))
theorem or_lo {x y i : Nat} (h : x < 2 ^ i) : 2 ^ i * y ||| x = 2 ^ i * y + x := (Nat.two_pow_add_eq_or_of_lt h y).symm
theorem be_or {a b c d : Nat} (ha : a < 256) (hb : b < 256) (hc : c < 256) (hd : d < 256) :
    bits .or .u32 (bits .or .u32 (bits .or .u32 ((a : Int) * 16777216) ((b : Int) * 65536)) ((c : Int) * 256)) (d : Int) = (w2n (BitVec.ofNat 32 (a * 16777216 + b * 65536 + c * 256 + d)) : Int) := by
  have e1 : a * 16777216 ||| b * 65536 = a * 16777216 + b * 65536 := by
    have := or_lo (x := b * 65536) (y := a) (i := 24) (by omega)
    rw [Nat.mul_comm a]; simpa using this
  have e2 : (a * 16777216 + b * 65536) ||| c * 256 = a * 16777216 + b * 65536 + c * 256 := by
    have := or_lo (x := c * 256) (y := a * 256 + b) (i := 16) (by omega)
    rw [show a * 16777216 + b * 65536 = 2 ^ 16 * (a * 256 + b) by omega]; exact this
  have e3 : (a * 16777216 + b * 65536 + c * 256) ||| d = a * 16777216 + b * 65536 + c * 256 + d := by
    have := or_lo (x := d) (y := a * 65536 + b * 256 + c) (i := 8) (by omega)
    rw [show a * 16777216 + b * 65536 + c * 256 = 2 ^ 8 * (a * 65536 + b * 256 + c) by omega]; exact this
  rw [show (a : Int) * 16777216 = ((a * 16777216 : Nat) : Int) by simp, show (b : Int) * 65536 = ((b * 65536 : Nat) : Int) by simp, show (c : Int) * 256 = ((c * 256 : Nat) : Int) by simp,
    u32_or_nat _ _ (by omega) (by omega), e1, u32_or_nat _ _ (by omega) (by omega), e2, u32_or_nat _ _ (by omega) (by omega), e3, w2n_of (by omega)]
theorem hash_word (A : Option Addr) (n c : Nat) (f : Nat → Nat) (p : Nat) (w : World) (h : Rd w w.heap.size A (arrK .u8 n f).toList) (hf : ∀ i < n, f i < 256) (hp : p + 3 < n) (hn : n ≤ 1000000) :
    Calls Tryd.prog 117 #[.slice A n c, .int .i64 p] w fun e w' => e = .returned (u32v (be32 f p)) ∧ w.drew = w' := by
  obtain ⟨ad, rfl, hb, c0⟩ := h p (.int .u8 (f p)) (by rw [Array.getElem?_toList, arrK_at (by omega)])
  have c1 := h.all (j := p + 1) (u := .int .u8 (f (p + 1))) (by rw [Array.getElem?_toList, arrK_at (by omega)])
  have c2 := h.all (j := p + 2) (u := .int .u8 (f (p + 2))) (by rw [Array.getElem?_toList, arrK_at (by omega)])
  have c3 := h.all (j := p + 3) (u := .int .u8 (f (p + 3))) (by rw [Array.getElem?_toList, arrK_at (by omega)])
  have e1 : ad.add (p + 1) = ⟨ad.block, ad.off + (p + 1), none⟩ := by unfold Addr.add; rw [if_neg (by omega)]
  have e2 : ad.add (p + 2) = ⟨ad.block, ad.off + (p + 1 + 1), none⟩ := by unfold Addr.add; rw [if_neg (by omega)]
  have e3 : ad.add (p + 3) = ⟨ad.block, ad.off + (p + 2 + 1), none⟩ := by unfold Addr.add; rw [if_neg (by omega)]
  rw [e1] at c1
  rw [e2] at c2
  rw [e3] at c3
  clear e1 e2 e3
  have b0 := hf p (by omega)
  have b1 := hf (p + 1) (by omega)
  have b2 := hf (p + 2) (by omega)
  have b3 := hf (p + 3) (by omega)
  have w1 : IntKind.i64.wrap ((p : Int) + 1) = (p : Int) + 1 := by rw [IntKind.wrap_i64]; omega
  have w2 : IntKind.i64.wrap ((p : Int) + 2) = (p : Int) + 2 := by rw [IntKind.wrap_i64]; omega
  have w3 : IntKind.i64.wrap ((p : Int) + 3) = (p : Int) + 3 := by rw [IntKind.wrap_i64]; omega
  have t1 : ((p : Int) + 1).toNat = p + 1 := by omega
  have t2 : ((p : Int) + 2).toNat = p + 2 := by omega
  have t3 : ((p : Int) + 3).toNat = p + 3 := by omega
  have l1 : (p : Int) + 1 < n := by omega
  have l2 : (p : Int) + 2 < n := by omega
  have l3 : (p : Int) + 3 < n := by omega
  have l0 : (p : Int) < n := by omega
  have z1 : (0 : Int) ≤ (p : Int) + 1 := by omega
  have z2 : (0 : Int) ≤ (p : Int) + 2 := by omega
  have z3 : (0 : Int) ≤ (p : Int) + 3 := by omega
  go_enter Tryd.func117, Tryd.ntmps117
  go_wp2
  go_region
  go_wp2
  go_ret
  exact ⟨congrArg (fun z => Ending.returned (.int .u32 z)) (be_or b0 b1 b2 b3), rfl⟩
theorem hash_right (x : W32) (n : Nat) (w : World) (hn : 0 < n) (hn2 : n < 32) :
    Calls Tryd.prog 118 #[u32v x, .int .i64 n] w fun e w' => e = .returned (u32v (rotr x n)) ∧ w = w' := by
  go_enter Tryd.func118, Tryd.ntmps118
  go_wp2_with (go_at_call 121; refine (rot32 x n _ hn hn2).mono ?_; rintro e w' ⟨rfl, rfl⟩)
  go_ret
  exact ⟨rfl, rfl⟩

/-! press -/
def h8 (h : Nat → W32) : Array Value := arrK .u32 8 fun i => w2n (h i)
def wK (b : Nat → W32) (t : Nat) : Nat → Nat := fun i => if i < t then w2n (sch b i) else 0
theorem wK_step (b : Nat → W32) (t p : Nat) : upd (wK b t) t (w2n (sch b t)) p = wK b (t + 1) p := by
  unfold upd wK
  by_cases h : p = t
  · subst h; rw [if_pos rfl, if_pos (by omega)]
  · rw [if_neg h]
    by_cases h2 : p < t
    · rw [if_pos h2, if_pos (by omega)]
    · rw [if_neg h2, if_neg (by omega)]
theorem wK_at (b : Nat → W32) {t i : Nat} (h : i < t) : wK b t i = w2n (sch b i) := if_pos h
end Go.Proofs.YtdlmamnnamlleaaDoor
namespace Go.Proofs.YtdlmamnnamlleaaDoor
open Go.ChangeShapes Go.WideShapes Go.ChangeAt Go.RowKit
set_option maxHeartbeats 2000000
set_option maxRecDepth 100000
theorem load_h8 {w : World} {dst : Option Tmp} {x : Operand} {tt : TypeId} {pos : String} {af : Array Edge} {gd : Option (Nat × Bool)} {a : Act} {K : Act → World → Prop} {Q : Exit → Act → World → Prop}
    (hv : IsHead (a.eval x)) (h : Row w (blkOf (a.eval x)) 8) : Oper.wp Tryd.prog ⟨dst, .load 96 x, tt, pos, af, gd⟩ a w K Q ↔ K (a.put dst (.agg (rowAt w (blkOf (a.eval x))))) w :=
  wp_load_whole Tryd.underlying96 rfl (by kernel_rfl) hv h
theorem store_h8 {w : World} {dst : Option Tmp} {x y : Operand} {tt : TypeId} {pos : String} {af : Array Edge} {gd : Option (Nat × Bool)} {a : Act} {K : Act → World → Prop} {Q : Exit → Act → World → Prop}
    (hv : IsHead (a.eval x)) (h : Row w (blkOf (a.eval x)) 8) (hx : IsAgg (a.eval y) 8) : Oper.wp Tryd.prog ⟨dst, .store 96 x y, tt, pos, af, gd⟩ a w K Q ↔ K (a.put dst undef) (w.setRow (blkOf (a.eval x)) (cellsV (a.eval y))) :=
  wp_store_whole (by kernel_rfl) hv h hx
theorem execl_h8 {w : World} {dst : Option Tmp} {x : Operand} {tt : TypeId} {pos : String} {af : Array Edge} {gd : Option (Nat × Bool)} {ρ : Operand → Value}
    (hv : IsHead (ρ x)) (h : Row w (blkOf (ρ x)) 8) : (execOp ρ ⟨dst, .load 96 x, tt, pos, af, gd⟩).run Tryd.prog w = .ok (.value (.agg (rowAt w (blkOf (ρ x))))) w :=
  exec_load_whole Tryd.underlying96 rfl (by kernel_rfl) hv h
theorem execs_h8 {w : World} {dst : Option Tmp} {x y : Operand} {tt : TypeId} {pos : String} {af : Array Edge} {gd : Option (Nat × Bool)} {ρ : Operand → Value}
    (hv : IsHead (ρ x)) (h : Row w (blkOf (ρ x)) 8) (hx : IsAgg (ρ y) 8) : (execOp ρ ⟨dst, .store 96 x y, tt, pos, af, gd⟩).run Tryd.prog w = .ok .skip (w.setRow (blkOf (ρ x)) (cellsV (ρ y))) :=
  exec_store_whole (by kernel_rfl) hv h hx

attribute [local go_sem] u32_xor' u32_and' u32_or' u32_add' u32_addw' u32_shr3 u32_shr10 u32_shr' u32_shl' u32_shlw' u32_not2 u32_not'
attribute [local go_sem ↓] load_h8 store_h8 execl_h8 execs_h8
attribute [local go_sem] isHead_mk blkOf_mk isAgg_mk cellsV_mk row_drew rowAt_drew row_new_cells row_old rowAt_new rowAt_old setRow_new
attribute [local go_sem ↓] Go.wp_at_zero Go.wp_at_succ

theorem zero8u : #[Value.int IntKind.u32 0, Value.int IntKind.u32 0, Value.int IntKind.u32 0, Value.int IntKind.u32 0, Value.int IntKind.u32 0, Value.int IntKind.u32 0, Value.int IntKind.u32 0, Value.int IntKind.u32 0] = arrK .u32 8 fun _ => 0 := by kernel_rfl
theorem zero64u : #[Value.int IntKind.u32 0, Value.int IntKind.u32 0, Value.int IntKind.u32 0, Value.int IntKind.u32 0, Value.int IntKind.u32 0, Value.int IntKind.u32 0, Value.int IntKind.u32 0, Value.int IntKind.u32 0, Value.int IntKind.u32 0, Value.int IntKind.u32 0, Value.int IntKind.u32 0, Value.int IntKind.u32 0, Value.int IntKind.u32 0, Value.int IntKind.u32 0, Value.int IntKind.u32 0, Value.int IntKind.u32 0, Value.int IntKind.u32 0, Value.int IntKind.u32 0, Value.int IntKind.u32 0, Value.int IntKind.u32 0, Value.int IntKind.u32 0, Value.int IntKind.u32 0, Value.int IntKind.u32 0, Value.int IntKind.u32 0, Value.int IntKind.u32 0, Value.int IntKind.u32 0, Value.int IntKind.u32 0, Value.int IntKind.u32 0, Value.int IntKind.u32 0, Value.int IntKind.u32 0, Value.int IntKind.u32 0, Value.int IntKind.u32 0, Value.int IntKind.u32 0, Value.int IntKind.u32 0, Value.int IntKind.u32 0, Value.int IntKind.u32 0, Value.int IntKind.u32 0, Value.int IntKind.u32 0, Value.int IntKind.u32 0, Value.int IntKind.u32 0, Value.int IntKind.u32 0, Value.int IntKind.u32 0, Value.int IntKind.u32 0, Value.int IntKind.u32 0, Value.int IntKind.u32 0, Value.int IntKind.u32 0, Value.int IntKind.u32 0, Value.int IntKind.u32 0, Value.int IntKind.u32 0, Value.int IntKind.u32 0, Value.int IntKind.u32 0, Value.int IntKind.u32 0, Value.int IntKind.u32 0, Value.int IntKind.u32 0, Value.int IntKind.u32 0, Value.int IntKind.u32 0, Value.int IntKind.u32 0, Value.int IntKind.u32 0, Value.int IntKind.u32 0, Value.int IntKind.u32 0, Value.int IntKind.u32 0, Value.int IntKind.u32 0, Value.int IntKind.u32 0, Value.int IntKind.u32 0] = arrK .u32 64 fun _ => 0 := by kernel_rfl
theorem h8_size (h : Nat → W32) : (h8 h).size = 8 := arrK_size _ _ _
theorem h8_cells (h : Nat → W32) : Cells (h8 h) 8 := arrK_cells _ _ _

theorem cell_ne {w : World} {g i j : Nat} {v : Value} {x : Option Value} (h : w.cell? ⟨g, i, none⟩ = x) (hne : i ≠ j) : (w.setCell ⟨g, j, none⟩ v).cell? ⟨g, i, none⟩ = x :=
  (World.cell?_setCell_other w ⟨g, j, none⟩ ⟨g, i, none⟩ v (fun e => by injection e with _ e2; exact hne e2.symm)).trans h
theorem arrK8' (k : IntKind) (f : Nat → Nat) : #[Value.int k (f 0), Value.int k (f 1), Value.int k (f 2), Value.int k (f 3), Value.int k (f 4), Value.int k (f 5), Value.int k (f 6), Value.int k (f 7)] = arrK k 8 f :=
  arrK_of rfl fun i hi => by rcases (by omega : i = 0 ∨ i = 1 ∨ i = 2 ∨ i = 3 ∨ i = 4 ∨ i = 5 ∨ i = 6 ∨ i = 7) with rfl | rfl | rfl | rfl | rfl | rfl | rfl | rfl <;> rfl
def addK (h v : Nat → W32) (j : Nat) : Nat → Nat := fun i => if i < j then w2n (h i + v i) else w2n (h i)
theorem addK_at (h v : Nat → W32) (j : Nat) : addK h v j j = w2n (h j) := if_neg (by omega)
theorem addK_step (h v : Nat → W32) (j p : Nat) : upd (addK h v j) j (w2n (h j + v j)) p = addK h v (j + 1) p := by
  unfold upd addK
  by_cases e : p = j
  · subst e; rw [if_pos rfl, if_pos (by omega)]
  · rw [if_neg e]
    by_cases e2 : p < j
    · rw [if_pos e2, if_pos (by omega)]
    · rw [if_neg e2, if_neg (by omega)]
/-- The blocks that press reads. -/
structure PrAt (W : World) (g : Nat) (h : Nat → W32) (f : Nat → Nat) (K : Nat → W32) : Prop where
  R0 : Row W g 8
  r0 : rowAt W g = h8 h
  R1 : Row W (g + 1) 64
  r1 : rowAt W (g + 1) = arrK .u8 64 f
  R2 : Row W (g + 1 + 1) 8
  k : ∀ i < 64, W.cell? ⟨1, i, none⟩ = some (u32v (K i))
  kl : 1 < g
theorem PrAt.below {W W' : World} {g B : Nat} {h : Nat → W32} {f : Nat → Nat} {K : Nat → W32} (p : PrAt W g h f K) (hb : Below B W W') (hB : g + 3 ≤ B) : PrAt W' g h f K :=
  ⟨row_below p.R0 hb (by omega), (rowAt_below hb (by omega)).trans p.r0, row_below p.R1 hb (by omega), (rowAt_below hb (by omega)).trans p.r1, row_below p.R2 hb (by omega),
    fun i hi => ((bcell hb).1 _ _ (by have := p.kl; omega)).trans (p.k i hi), p.kl⟩
theorem hash_right2 (x : W32) (w : World) : Calls Tryd.prog 118 #[.int .u32 (w2n x : Int), .int .i64 2] w fun e w' => e = .returned (u32v (rotr x 2)) ∧ w = w' := hash_right x 2 w (by omega) (by omega)
theorem hash_right6 (x : W32) (w : World) : Calls Tryd.prog 118 #[.int .u32 (w2n x : Int), .int .i64 6] w fun e w' => e = .returned (u32v (rotr x 6)) ∧ w = w' := hash_right x 6 w (by omega) (by omega)
theorem hash_right7 (x : W32) (w : World) : Calls Tryd.prog 118 #[.int .u32 (w2n x : Int), .int .i64 7] w fun e w' => e = .returned (u32v (rotr x 7)) ∧ w = w' := hash_right x 7 w (by omega) (by omega)
theorem hash_right11 (x : W32) (w : World) : Calls Tryd.prog 118 #[.int .u32 (w2n x : Int), .int .i64 11] w fun e w' => e = .returned (u32v (rotr x 11)) ∧ w = w' := hash_right x 11 w (by omega) (by omega)
theorem hash_right13 (x : W32) (w : World) : Calls Tryd.prog 118 #[.int .u32 (w2n x : Int), .int .i64 13] w fun e w' => e = .returned (u32v (rotr x 13)) ∧ w = w' := hash_right x 13 w (by omega) (by omega)
theorem hash_right17 (x : W32) (w : World) : Calls Tryd.prog 118 #[.int .u32 (w2n x : Int), .int .i64 17] w fun e w' => e = .returned (u32v (rotr x 17)) ∧ w = w' := hash_right x 17 w (by omega) (by omega)
theorem hash_right18 (x : W32) (w : World) : Calls Tryd.prog 118 #[.int .u32 (w2n x : Int), .int .i64 18] w fun e w' => e = .returned (u32v (rotr x 18)) ∧ w = w' := hash_right x 18 w (by omega) (by omega)
theorem hash_right19 (x : W32) (w : World) : Calls Tryd.prog 118 #[.int .u32 (w2n x : Int), .int .i64 19] w fun e w' => e = .returned (u32v (rotr x 19)) ∧ w = w' := hash_right x 19 w (by omega) (by omega)
theorem hash_right22 (x : W32) (w : World) : Calls Tryd.prog 118 #[.int .u32 (w2n x : Int), .int .i64 22] w fun e w' => e = .returned (u32v (rotr x 22)) ∧ w = w' := hash_right x 22 w (by omega) (by omega)
theorem hash_right25 (x : W32) (w : World) : Calls Tryd.prog 118 #[.int .u32 (w2n x : Int), .int .i64 25] w fun e w' => e = .returned (u32v (rotr x 25)) ∧ w = w' := hash_right x 25 w (by omega) (by omega)

theorem hash_press (h : Nat → W32) (f : Nat → Nat) (K : Nat → W32) (w : World) (hf : ∀ i < 64, f i < 256) (hK : ∀ i < 64, w.cell? ⟨1, i, none⟩ = some (u32v (K i))) (hKl : 1 < w.heap.size) :
    Calls Tryd.prog 103 #[.agg (h8 h), .agg (arrK .u8 64 f)] w fun e w' => e = .returned (.agg (h8 (prs K h fun i => be32 f (4 * i)))) ∧ Below w.heap.size w w' := by
  have hch := h8_cells h
  have hcf := arrK_cells .u8 64 f
  have hcz := arrK_cells .u32 8 fun _ => 0
  have hcz2 := arrK_cells .u32 64 fun _ => 0
  go_enter Tryd.func103, Tryd.ntmps103
  go_wp2
  rw [zero8u, zero64u]
  have hL0 : Below w.heap.size w ((((w.alloc (Obj.cells (h8 h) 96)).alloc (Obj.cells (arrK .u8 64 f) 97)).alloc (Obj.cells (arrK .u32 8 fun _ => 0) 96)).alloc (Obj.cells (arrK .u32 64 fun _ => 0) 177)) := by go_grown
  have hP0 : PrAt ((((w.alloc (Obj.cells (h8 h) 96)).alloc (Obj.cells (arrK .u8 64 f) 97)).alloc (Obj.cells (arrK .u32 8 fun _ => 0) 96)).alloc (Obj.cells (arrK .u32 64 fun _ => 0) 177)) w.heap.size h f K :=
    ⟨(row_old (by simp <;> omega)).2 ((row_old (by simp <;> omega)).2 ((row_old (by simp <;> omega)).2 ((row_new rfl).2 hch.1))), (rowAt_old (by simp <;> omega)).trans ((rowAt_old (by simp <;> omega)).trans ((rowAt_old (by simp <;> omega)).trans (rowAt_new rfl))),
      (row_old (by simp <;> omega)).2 ((row_old (by simp <;> omega)).2 ((row_new (by simp)).2 hcf.1)), (rowAt_old (by simp <;> omega)).trans ((rowAt_old (by simp <;> omega)).trans (rowAt_new (by simp))),
      (row_old (by simp <;> omega)).2 ((row_new (by simp)).2 hcz.1), fun i hi => ((bcell hL0).1 _ _ hKl).trans (hK i hi), hKl⟩
  have hR0 : Row ((((w.alloc (Obj.cells (h8 h) 96)).alloc (Obj.cells (arrK .u8 64 f) 97)).alloc (Obj.cells (arrK .u32 8 fun _ => 0) 96)).alloc (Obj.cells (arrK .u32 64 fun _ => 0) 177)) (w.heap.size + 1 + 1 + 1) 64 := (row_new (by simp)).2 hcz2.1
  have hr0 : rowAt ((((w.alloc (Obj.cells (h8 h) 96)).alloc (Obj.cells (arrK .u8 64 f) 97)).alloc (Obj.cells (arrK .u32 8 fun _ => 0) 96)).alloc (Obj.cells (arrK .u32 64 fun _ => 0) 177)) (w.heap.size + 1 + 1 + 1) = arrK .u32 64 (wK (fun i => be32 f (4 * i)) 0) := by rw [rowAt_new (by simp)]; exact arrK_congr fun i _ => by simp [wK]
  have hz0 : w.heap.size + 4 ≤ ((((w.alloc (Obj.cells (h8 h) 96)).alloc (Obj.cells (arrK .u8 64 f) 97)).alloc (Obj.cells (arrK .u32 8 fun _ => 0) 96)).alloc (Obj.cells (arrK .u32 64 fun _ => 0) 177)).heap.size := by simp
  generalize ((((w.alloc (Obj.cells (h8 h) 96)).alloc (Obj.cells (arrK .u8 64 f) 97)).alloc (Obj.cells (arrK .u32 8 fun _ => 0) 96)).alloc (Obj.cells (arrK .u32 64 fun _ => 0) 177)) = W0 at *
  generalize hb : (fun i => be32 f (4 * i)) = b at *
  go_loopw [20] (fun i wr => ∃ t : Nat, i = .int .i64 t ∧ t ≤ 64 ∧ PrAt wr w.heap.size h f K ∧ Row wr (w.heap.size + 1 + 1 + 1) 64 ∧ rowAt wr (w.heap.size + 1 + 1 + 1) = arrK .u32 64 (wK b t) ∧ Below w.heap.size w wr ∧ w.heap.size + 4 ≤ wr.heap.size) (fun i _ => 64 - (intOf i).toNat)
  case atStart => exact ⟨0, rfl, by omega, hP0, hR0, hr0, hL0, hz0⟩
  case round =>
    clear hP0 hR0 hr0 hL0 hz0
    obtain ⟨t, rfl, ht, hP, hR, hr, hL, hz⟩ := hrel
    by_cases h64 : t = 64
    · subst h64
      have hcw : arrK .u32 64 (wK b 64) = arrK .u32 64 (fun i => w2n (sch b i)) := arrK_congr fun i hi => wK_at b hi
      rw [hcw] at hr
      have hR2 := hP.R0
      have hr2 := hP.r0
      have hPa := hP.below ((Below.refl wr.heap.size wr).alloc (Nat.le_refl _) (.cells (h8 h) 96)) (by omega)
      have hRa := (row_old (o := .cells (h8 h) 96) (show w.heap.size + 1 + 1 + 1 < wr.heap.size by omega)).2 hR
      have hra := (rowAt_old (o := .cells (h8 h) 96) (show w.heap.size + 1 + 1 + 1 < wr.heap.size by omega)).trans hr
      have hLa := hL.alloc (by omega) (.cells (h8 h) 96)
      have hRz : Row (wr.alloc (.cells (arrK .u32 8 fun _ => 0) 96)) wr.heap.size 8 := (row_new rfl).2 (arrK_size _ _ _)
      rw [← zero8u] at hRz
      have hRv : Row (wr.alloc (.cells (h8 h) 96)) wr.heap.size 8 := (row_new rfl).2 (h8_size _)
      have hrv : rowAt (wr.alloc (.cells (h8 h) 96)) wr.heap.size = h8 (rounds K (sch b) h 0) := rowAt_new rfl
      have hza : wr.heap.size < (wr.alloc (.cells (h8 h) 96)).heap.size := by simp
      clear hcw
      go_wp2
      clear hR2 hr2 hRz hP hR hr hL
      generalize (wr.alloc (.cells (h8 h) 96)) = W1 at *
      generalize wr.heap.size = g4 at *
      rw [show ((64 : Nat) : Int) = (64 : Int) from rfl]
      go_loopw [70] (fun i wr => ∃ t : Nat, i = .int .i64 t ∧ t ≤ 64 ∧ PrAt wr w.heap.size h f K ∧ Row wr (w.heap.size + 1 + 1 + 1) 64 ∧ rowAt wr (w.heap.size + 1 + 1 + 1) = arrK .u32 64 (fun i => w2n (sch b i)) ∧ Row wr g4 8 ∧ rowAt wr g4 = h8 (rounds K (sch b) h t) ∧ Below w.heap.size w wr) (fun i _ => 64 - (intOf i).toNat)
      case atStart => exact ⟨0, rfl, by omega, hPa, hRa, hra, hRv, hrv, hLa⟩
      case round =>
        clear hPa hRa hra hRv hrv hLa hza
        obtain ⟨t, rfl, ht, hP, hR, hr, hRv, hrv, hL⟩ := hrel
        by_cases h64 : t = 64
        · subst h64
          generalize hvv : rounds K (sch b) h 64 = v at *
          have hRo := hP.R2
          have hR0 := hP.R0
          have hr0 : rowAt wr w.heap.size = arrK .u32 8 (addK h v 0) := hP.r0.trans (arrK_congr fun i _ => by simp [addK])
          have hg4 : w.heap.size + 4 ≤ g4 := hz
          clear hP hR hr hcz hcz2 hch hcf hK hz
          go_wp2
          rw [show ((64 : Nat) : Int) = (64 : Int) from rfl]
          go_loopw [148] (fun i wr => ∃ j : Nat, i = .int .i64 j ∧ j ≤ 8 ∧ Row wr w.heap.size 8 ∧ rowAt wr w.heap.size = arrK .u32 8 (addK h v j) ∧ Row wr (w.heap.size + 1 + 1) 8 ∧ Row wr g4 8 ∧ rowAt wr g4 = h8 v ∧ Below w.heap.size w wr) (fun i _ => 8 - (intOf i).toNat)
          case atStart => exact ⟨0, rfl, by omega, hR0, hr0, hRo, hRv, hrv, hL⟩
          case round =>
            clear hR0 hr0 hRo hRv hrv hL
            obtain ⟨j, rfl, hj, hR0, hr0, hRo, hRv, hrv, hL⟩ := hrel
            by_cases h8' : j = 8
            · subst h8'
              have e : arrK .u32 8 (addK h v 8) = h8 (prs K h b) := arrK_congr fun i hi => by simp only [addK, if_pos hi, prs, hvv]
              rw [e] at hr0
              have hcs := h8_cells (prs K h b)
              generalize hpr : prs K h b = pr at *
              have hfin := Lib.hid (show prs K h (fun i => be32 f (4 * i)) = pr by rw [hb, hpr])
              clear e hvv hrv hb hpr
              go_wp2
              refine ret_row rfl Tryd.underlying96 rfl (by kernel_rfl) rfl ((row_setRow_same rfl hRo).2 hcs.1) rfl ?_
              rw [rowAt_setRow_same hRo, hfin.out]
              exact ⟨rfl, below_setRow hL (by omega)⟩
            · have hst := arrK_congr (k := .u32) (n := 8) fun p _ => addK_step h v j p
              have c1 := hR0.cell j
              rw [hr0, arrK_at (by omega), addK_at] at c1
              have c2 : wr.cell? ⟨g4, j, none⟩ = some (u32v (v j)) := by rw [hRv.cell, hrv]; unfold h8; rw [arrK_at (by omega)]
              have hf1 := hR0.frozen j
              have mj : (j : Int) < 8 := by omega
              have zj : (0 : Int) ≤ (j : Int) := by omega
              have hHst := Lib.hid hst
              have hHr0 := Lib.hid hr0
              have hHrv := Lib.hid hrv
              clear hst hr0 hrv hvv
              go_wp2
              go_region
              go_wp2
              go_round
              case rel =>
                refine ⟨j + 1, by go_num, by omega, row_setCell.2 hR0, ?_, row_setCell.2 hRo, row_setCell.2 hRv, ?_, (hL.setCell (Nat.le_refl _) _).drew⟩
                · rw [rowAt_drew, rowAt_setCell_same, hHr0.out, arrK_set, hHst.out]
                · rw [rowAt_drew, rowAt_setCell_far (by simp; omega)]; exact hHrv.out
              case measure => simp [intOf]; omega
        · generalize hvv : rounds K (sch b) h t = v at *
          have hcv : ∀ i, i < 8 → wr.cell? ⟨g4, i, none⟩ = some (u32v (v i)) := fun i hi => by rw [hRv.cell, hrv]; unfold h8; rw [arrK_at hi]
          have c0 := hcv 0 (by omega)
          have c1 := hcv 1 (by omega)
          have c2 := hcv 2 (by omega)
          have c3 := hcv 3 (by omega)
          have c4 := hcv 4 (by omega)
          have c5 := hcv 5 (by omega)
          have c6 := hcv 6 (by omega)
          have c7 := hcv 7 (by omega)
          have ck := hP.k t (by omega)
          have cw : wr.cell? ⟨w.heap.size + 1 + 1 + 1, t, none⟩ = some (u32v (sch b t)) := by rw [hR.cell, hr, arrK_at (by omega)]
          have mt : (t : Int) < 64 := by omega
          have zt : (0 : Int) ≤ (t : Int) := by omega
          have hHvv := Lib.hid hvv
          have hHrv := Lib.hid hrv
          have hHr := Lib.hid hr
          have hHP := Lib.hid hP
          have hcs : Cells #[u32v (one (K t) (sch b t) v + two v), u32v (v 0), u32v (v 1), u32v (v 2), u32v (v 3 + one (K t) (sch b t) v), u32v (v 4), u32v (v 5), u32v (v 6)] 8 := ⟨rfl, by simp [Value.oneCell']⟩
          have ho := (show v 7 + (rotr (v 4) 6 ^^^ rotr (v 4) 11 ^^^ rotr (v 4) 25) + ((v 4 &&& v 5) ^^^ (~~~(v 4) &&& v 6)) + K t + sch b t = one (K t) (sch b t) v from rfl)
          have htw := (show (rotr (v 0) 2 ^^^ rotr (v 0) 13 ^^^ rotr (v 0) 22) + ((v 0 &&& v 1) ^^^ (v 0 &&& v 2) ^^^ (v 1 &&& v 2)) = two v from rfl)
          clear hcv hvv hrv hr hP hcz hcz2 hch hcf hK
          go_wp2
          go_region_held3 (fun w' => w'.cell? ⟨g4, 0, none⟩ = some (u32v (v 0)) ∧ w'.cell? ⟨g4, 1, none⟩ = some (u32v (v 1)) ∧ w'.cell? ⟨g4, 2, none⟩ = some (u32v (v 2)) ∧ w'.cell? ⟨g4, 4, none⟩ = some (u32v (v 4)) ∧ w'.cell? ⟨g4, 5, none⟩ = some (u32v (v 5)) ∧ w'.cell? ⟨g4, 6, none⟩ = some (u32v (v 6)))
            (exact ⟨c0, c1, c2, c4, c5, c6⟩) (fail)
          go_wp2
          go_region_held3 (fun w' => w'.cell? ⟨g4, 7, none⟩ = some (u32v (v 7)) ∧ w'.cell? ⟨1, t, none⟩ = some (u32v (K t)) ∧ w'.cell? ⟨w.heap.size + 1 + 1 + 1, t, none⟩ = some (u32v (sch b t)))
            (exact ⟨c7, ck, cw⟩)
            (first
              | (go_at_call 118; (first | with_reducible refine (hash_right6 _ _).mono ?_ | with_reducible refine (hash_right11 _ _).mono ?_ | with_reducible refine (hash_right25 _ _).mono ?_); rintro e w' ⟨rfl, rfl⟩))
          go_wp2_with (go_at_call 118; (first | with_reducible refine (hash_right2 _ _).mono ?_ | with_reducible refine (hash_right13 _ _).mono ?_ | with_reducible refine (hash_right22 _ _).mono ?_); rintro e w' ⟨rfl, rfl⟩)
          go_round
          case rel =>
            have hX : Below g4 wr (wr.drew.drew.setRow g4 #[u32v (one (K t) (sch b t) v + two v), u32v (v 0), u32v (v 1), u32v (v 2), u32v (v 3 + one (K t) (sch b t) v), u32v (v 4), u32v (v 5), u32v (v 6)]) := below_setRow (Below.refl _ _).drew.drew (Nat.le_refl _)
            refine ⟨t + 1, by go_num, by omega, hHP.out.below hX (by omega), row_below hR hX (by omega), (rowAt_below hX (by omega)).trans hHr.out, (row_setRow_same (w := wr.drew.drew) rfl hRv).2 hcs.1, ?_, hL.trans (hX.mono (by omega))⟩
            refine (rowAt_setRow_same (w := wr.drew.drew) hRv).trans ?_
            show _ = h8 (rnd (K t) (sch b t) (rounds K (sch b) _ t))
            rw [hHvv.out]
            exact arrK8' .u32 fun i => w2n (rnd (K t) (sch b t) v i)
          case measure => simp [intOf]; omega
    · have hst := arrK_congr (k := .u32) (n := 64) fun p _ => wK_step b t p
      have hHst := Lib.hid hst
      have hfr := hR.frozen t
      have hct := hR.cell t
      rw [hr, arrK_at (by omega)] at hct
      have hHr := Lib.hid hr
      by_cases h16 : t < 16
      · have hsb : sch b t = be32 f (4 * t) := by rw [sch_lo b h16, ← hb]
        have hrd : Rd wr wr.heap.size (some ⟨w.heap.size + 1, 0, none⟩) (arrK .u8 64 f).toList := by
          obtain ⟨cs, tt, hh, hl⟩ := hP.R1
          have e : cs = arrK .u8 64 f := by have := hP.r1; simpa [rowAt, hh] using this
          have := Rd.of_blk (B := wr.heap.size) hh hP.R1.lt
          rw [e] at this; exact this
        have hHsb := Lib.hid hsb
        have hHP := Lib.hid hP
        clear hst hr hsb
        have hcon := hash_word (some ⟨w.heap.size + 1, 0, none⟩) 64 64 f (4 * t) wr hrd hf (by omega) (by omega)
        push_cast at hcon
        have hHcon := Lib.hid hcon
        clear hcon hrd
        go_wp2_with (go_at_call 117; refine hHcon.out.mono ?_; rintro e w' ⟨rfl, rfl⟩)
        go_round
        case rel =>
          have hbs : Below (w.heap.size + 1 + 1 + 1) wr (wr.setCell ⟨w.heap.size + 1 + 1 + 1, t, none⟩ (.int .u32 (w2n (be32 f (4 * t)) : Int))).drew := ((Below.refl (w.heap.size + 1 + 1 + 1) wr).setCell (p := ⟨w.heap.size + 1 + 1 + 1, t, none⟩) (Nat.le_refl _) _).drew
          exact ⟨t + 1, by go_num, by omega, hHP.out.below hbs (by omega), row_setCell.2 hR, by rw [rowAt_drew, rowAt_setCell_same, hHr.out, arrK_set, ← hHsb.out, hHst.out], hL.trans (hbs.mono (by omega)), Nat.le_trans hz hbs.size⟩
        case measure => simp [intOf]; omega
      · obtain ⟨a1, ha1⟩ : ∃ a1, a1 = t - 16 := ⟨_, rfl⟩
        obtain ⟨a2, ha2⟩ : ∃ a2, a2 = t - 15 := ⟨_, rfl⟩
        obtain ⟨a3, ha3⟩ : ∃ a3, a3 = t - 7 := ⟨_, rfl⟩
        obtain ⟨a4, ha4⟩ : ∃ a4, a4 = t - 2 := ⟨_, rfl⟩
        have hsb := sch_hi b (t := t) (by omega)
        rw [← ha1, ← ha2, ← ha3, ← ha4] at hsb
        have hi1 : (t : Int) - 16 = a1 := by omega
        have hi2 : (t : Int) - 15 = a2 := by omega
        have hi3 : (t : Int) - 7 = a3 := by omega
        have hi4 : (t : Int) - 2 = a4 := by omega
        have l1 : a1 < t := by omega
        have l2 : a2 < t := by omega
        have l3 : a3 < t := by omega
        have l4 : a4 < t := by omega
        have hc : ∀ i, i < t → wr.cell? ⟨w.heap.size + 1 + 1 + 1, i, none⟩ = some (u32v (sch b i)) := fun i hi => by rw [hR.cell, hr, arrK_at (by omega), wK_at b hi]
        have c1 := hc a1 l1
        have c2 := hc a2 l2
        have c3 := hc a3 l3
        have c4 := hc a4 l4
        have hw1 : IntKind.i64.wrap (a1 : Int) = a1 := by rw [IntKind.wrap_i64]; omega
        have hw2 : IntKind.i64.wrap (a2 : Int) = a2 := by rw [IntKind.wrap_i64]; omega
        have hw3 : IntKind.i64.wrap (a3 : Int) = a3 := by rw [IntKind.wrap_i64]; omega
        have hw4 : IntKind.i64.wrap (a4 : Int) = a4 := by rw [IntKind.wrap_i64]; omega
        have m1 : (a1 : Int) < 64 := by omega
        have m2 : (a2 : Int) < 64 := by omega
        have m3 : (a3 : Int) < 64 := by omega
        have m4 : (a4 : Int) < 64 := by omega
        have mt : (t : Int) < 64 := by omega
        have z1 : (0 : Int) ≤ (a1 : Int) := by omega
        have z2 : (0 : Int) ≤ (a2 : Int) := by omega
        have z3 : (0 : Int) ≤ (a3 : Int) := by omega
        have z4 : (0 : Int) ≤ (a4 : Int) := by omega
        have hHsb := Lib.hid hsb
        have hHP := Lib.hid hP
        clear hst hr hsb hc ha1 ha2 ha3 ha4 hP hcz hcz2 hch hcf hK
        go_wp2
        go_region
        go_wp2
        have hne1 : a1 ≠ t := by omega
        have hne3 : a3 ≠ t := by omega
        go_region_held3 (fun w' => w'.cell? ⟨w.heap.size + 1 + 1 + 1, a1, none⟩ = some (u32v (sch b a1)) ∧ w'.cell? ⟨w.heap.size + 1 + 1 + 1, a3, none⟩ = some (u32v (sch b a3)))
          (first | exact ⟨c1, c3⟩ | exact ⟨cell_ne c1 hne1, cell_ne c3 hne3⟩)
          (first
            | (go_at_call 118; (first | with_reducible refine (hash_right7 _ _).mono ?_ | with_reducible refine (hash_right18 _ _).mono ?_ | with_reducible refine (hash_right17 _ _).mono ?_ | with_reducible refine (hash_right19 _ _).mono ?_); rintro e w' ⟨rfl, rfl⟩))
        go_wp2
        go_round
        case rel =>
          have hbs : Below (w.heap.size + 1 + 1 + 1) wr (wr.setCell ⟨w.heap.size + 1 + 1 + 1, t, none⟩ (.int .u32 (w2n (sch b a1 + (rotr (sch b a2) 7 ^^^ rotr (sch b a2) 18 ^^^ sch b a2 >>> 3) + sch b a3 + (rotr (sch b a4) 17 ^^^ rotr (sch b a4) 19 ^^^ sch b a4 >>> 10)) : Int))).drew.drew := ((Below.refl (w.heap.size + 1 + 1 + 1) wr).setCell (p := ⟨w.heap.size + 1 + 1 + 1, t, none⟩) (Nat.le_refl _) _).drew.drew
          exact ⟨t + 1, by go_num, by omega, hHP.out.below hbs (by omega), row_setCell.2 hR, by rw [rowAt_drew, rowAt_drew, rowAt_setCell_same, hHr.out, arrK_set, ← hHst.out, hHsb.out]; rfl, hL.trans (hbs.mono (by omega)), Nat.le_trans hz hbs.size⟩
        case measure => simp [intOf]; omega
end Go.Proofs.YtdlmamnnamlleaaDoor
namespace Go.Proofs.YtdlmamnnamlleaaDoor
open Go.ChangeShapes Go.WideShapes Go.ChangeAt Go.RowKit
set_option maxHeartbeats 2000000
set_option maxRecDepth 100000

/-- A state's cells. -/
def stV (h : Nat → W32) (m : Nat) (f : Nat → Nat) : Nat → Value := fun i => if i < 8 then u32v (h i) else if i = 8 then .int .u64 (m : Int) else .int .u8 (f (i - 9) : Int)
def stC (h : Nat → W32) (m : Nat) (f : Nat → Nat) : Array Value := arrV 73 (stV h m f)
attribute [local irreducible] arrV
section
variable (h h' : Nat → W32) (m m' : Nat) (f : Nat → Nat)
theorem stC_size : (stC h m f).size = 73 := arrV_size _ _
theorem stV_one (i : Nat) : (stV h m f i).oneCell' = true := by
  unfold stV
  split
  · rfl
  · split <;> rfl
theorem stC_cells : Cells (stC h m f) 73 := arrV_cells fun i _ => stV_one h m f i
theorem stC_words : (stC h m f).extract 0 8 = h8 h := by
  have e := arrV_extract (n := 73) (o := 0) (m := 8) (f := stV h m f) (by omega)
  rw [Nat.zero_add] at e
  unfold stC
  rw [e]
  unfold h8
  rw [arrK_V]
  refine arrV_congr fun i hi => ?_
  unfold stV
  rw [Nat.zero_add, if_pos hi]
theorem stC_left : (stC h m f).extract 9 73 = arrK .u8 64 f := by
  have e := arrV_extract (n := 73) (o := 9) (m := 64) (f := stV h m f) (by omega)
  unfold stC
  rw [show (73 : Nat) = 9 + 64 from rfl] at e ⊢
  rw [e, arrK_V]
  refine arrV_congr fun i hi => ?_
  unfold stV
  rw [if_neg (by omega), if_neg (by omega), Nat.add_sub_cancel_left]
theorem stC_m : (stC h m f)[8]? = some (.int .u64 (m : Int)) := by
  unfold stC
  rw [arrV_at (by omega)]
  unfold stV
  rw [if_neg (by omega), if_pos rfl]
theorem stC_at_left {j : Nat} (hj : j < 64) : (stC h m f)[9 + j]? = some (.int .u8 (f j : Int)) := by
  unfold stC
  rw [arrV_at (by omega)]
  unfold stV
  rw [if_neg (by omega), if_neg (by omega), Nat.add_sub_cancel_left]
theorem stC_set_m : (stC h m f).setIfInBounds 8 (.int .u64 (m' : Int)) = stC h m' f := by
  unfold stC
  rw [arrV_set]
  refine arrV_congr fun i hi => ?_
  unfold stV
  by_cases e : i = 8
  · subst e; rw [if_pos rfl, if_neg (by omega), if_pos rfl]
  · rw [if_neg e, if_neg e, if_neg e]
theorem stC_set_left {j b : Nat} (hj : j < 64) : (stC h m f).setIfInBounds (9 + j) (.int .u8 (b : Int)) = stC h m (upd f j b) := by
  unfold stC
  rw [arrV_set]
  refine arrV_congr fun i hi => ?_
  unfold stV upd
  by_cases e : i = 9 + j
  · subst e; rw [if_pos rfl, if_neg (by omega), if_neg (by omega), if_pos (by omega)]
  · rw [if_neg e]
    by_cases e1 : i < 8
    · rw [if_pos e1, if_pos e1]
    · rw [if_neg e1, if_neg e1]
      by_cases e2 : i = 8
      · rw [if_pos e2, if_pos e2]
      · rw [if_neg e2, if_neg e2, if_neg (by omega)]
theorem stC_put : putAt (stC h m f) 0 (h8 h').toList = stC h' m f := by
  unfold stC
  rw [putAt_arrV]
  refine arrV_congr fun i hi => ?_
  rw [if_pos (by omega), Array.getElem?_toList]
  unfold h8 stV
  by_cases e : i < 8
  · rw [Nat.sub_zero, arrK_at e, if_pos e, if_pos e]; rfl
  · rw [Array.getElem?_eq_none (by rw [arrK_size]; omega), if_neg e, if_neg e]; rfl
end
/-- A state. -/
structure St where
  h : Nat → W32
  m : Nat
  f : Nat → Nat
def St.ok (s : St) : Prop := s.m < 18446744073709551616 ∧ ∀ i < 64, s.f i < 256
abbrev St.cells (s : St) : Array Value := stC s.h s.m s.f
def nextM (m : Nat) : Nat := (m + 1) % 18446744073709551616
def St.put (K : Nat → W32) (s : St) (b : UInt8) : St :=
  if nextM s.m % 64 = 0 then ⟨prs K s.h fun i => be32 (upd s.f (s.m % 64) b.toNat) (4 * i), nextM s.m, upd s.f (s.m % 64) b.toNat⟩ else ⟨s.h, nextM s.m, upd s.f (s.m % 64) b.toNat⟩
def St.write (K : Nat → W32) (s : St) (l : List UInt8) : St := l.foldl (St.put K) s
theorem upd_lt {f : Nat → Nat} {j : Nat} {b : UInt8} (h : ∀ i < 64, f i < 256) : ∀ i < 64, upd f j b.toNat i < 256 := fun i hi => by
  unfold upd
  split
  · exact UInt8.toNat_lt b
  · exact h i hi
theorem St.put_ok {K : Nat → W32} {s : St} (b : UInt8) (h : s.ok) : (s.put K b).ok := by
  have hm : nextM s.m < 18446744073709551616 := Nat.mod_lt _ (by omega)
  unfold St.put
  split
  · exact ⟨hm, upd_lt h.2⟩
  · exact ⟨hm, upd_lt h.2⟩
theorem St.write_ok {K : Nat → W32} : ∀ (l : List UInt8) {s : St}, s.ok → (s.write K l).ok
  | [], _, h => h
  | b :: l, _, h => St.write_ok l (St.put_ok b h)
theorem St.write_take {K : Nat → W32} {s : St} {l : List UInt8} {i : Nat} (hi : i < l.length) : s.write K (l.take (i + 1)) = (s.write K (l.take i)).put K l[i] := by
  unfold St.write
  rw [List.take_succ_eq_append_getElem hi, List.foldl_append]
  rfl
theorem load_state {w : World} {dst : Option Tmp} {x : Operand} {tt : TypeId} {pos : String} {af : Array Edge} {gd : Option (Nat × Bool)} {a : Act} {K : Act → World → Prop} {Q : Exit → Act → World → Prop}
    (hv : IsHead (a.eval x)) (h : Row w (blkOf (a.eval x)) 73) : Oper.wp Tryd.prog ⟨dst, .load 99 x, tt, pos, af, gd⟩ a w K Q ↔ K (a.put dst (.agg (rowAt w (blkOf (a.eval x))))) w :=
  wp_load_whole Tryd.underlying99 rfl (by kernel_rfl) hv h
theorem store_state {w : World} {dst : Option Tmp} {x y : Operand} {tt : TypeId} {pos : String} {af : Array Edge} {gd : Option (Nat × Bool)} {a : Act} {K : Act → World → Prop} {Q : Exit → Act → World → Prop}
    (hv : IsHead (a.eval x)) (h : Row w (blkOf (a.eval x)) 73) (hx : IsAgg (a.eval y) 73) : Oper.wp Tryd.prog ⟨dst, .store 99 x y, tt, pos, af, gd⟩ a w K Q ↔ K (a.put dst undef) (w.setRow (blkOf (a.eval x)) (cellsV (a.eval y))) :=
  wp_store_whole (by kernel_rfl) hv h hx
theorem execl_state {w : World} {dst : Option Tmp} {x : Operand} {tt : TypeId} {pos : String} {af : Array Edge} {gd : Option (Nat × Bool)} {ρ : Operand → Value}
    (hv : IsHead (ρ x)) (h : Row w (blkOf (ρ x)) 73) : (execOp ρ ⟨dst, .load 99 x, tt, pos, af, gd⟩).run Tryd.prog w = .ok (.value (.agg (rowAt w (blkOf (ρ x))))) w :=
  exec_load_whole Tryd.underlying99 rfl (by kernel_rfl) hv h
theorem execs_state {w : World} {dst : Option Tmp} {x y : Operand} {tt : TypeId} {pos : String} {af : Array Edge} {gd : Option (Nat × Bool)} {ρ : Operand → Value}
    (hv : IsHead (ρ x)) (h : Row w (blkOf (ρ x)) 73) (hx : IsAgg (ρ y) 73) : (execOp ρ ⟨dst, .store 99 x y, tt, pos, af, gd⟩).run Tryd.prog w = .ok .skip (w.setRow (blkOf (ρ x)) (cellsV (ρ y))) :=
  exec_store_whole (by kernel_rfl) hv h hx
section
variable {w : World} {dst : Option Tmp} {x y : Operand} {tt : TypeId} {pos : String} {af : Array Edge} {gd : Option (Nat × Bool)} {a : Act} {K : Act → World → Prop} {Q : Exit → Act → World → Prop}
theorem load_words (hv : IsPart (a.eval x)) (h : Row w (blkOf (a.eval x)) 73) (ho : offOf (a.eval x) + 8 ≤ 73) :
    Oper.wp Tryd.prog ⟨dst, .load 96 x, tt, pos, af, gd⟩ a w K Q ↔ K (a.put dst (.agg ((rowAt w (blkOf (a.eval x))).extract (offOf (a.eval x)) (offOf (a.eval x) + 8)))) w :=
  wp_load_part Tryd.underlying96 rfl (by kernel_rfl) hv h ho
theorem load_left (hv : IsPart (a.eval x)) (h : Row w (blkOf (a.eval x)) 73) (ho : offOf (a.eval x) + 64 ≤ 73) :
    Oper.wp Tryd.prog ⟨dst, .load 97 x, tt, pos, af, gd⟩ a w K Q ↔ K (a.put dst (.agg ((rowAt w (blkOf (a.eval x))).extract (offOf (a.eval x)) (offOf (a.eval x) + 64)))) w :=
  wp_load_part Tryd.underlying97 rfl (by kernel_rfl) hv h ho
theorem store_words (hv : IsPart (a.eval x)) (h : Row w (blkOf (a.eval x)) 73) (ho : offOf (a.eval x) + 8 ≤ 73) (hx : IsAgg (a.eval y) 8) :
    Oper.wp Tryd.prog ⟨dst, .store 96 x y, tt, pos, af, gd⟩ a w K Q ↔ K (a.put dst undef) (w.setRow (blkOf (a.eval x)) (putAt (rowAt w (blkOf (a.eval x))) (offOf (a.eval x)) (cellsV (a.eval y)).toList)) :=
  wp_store_part (by kernel_rfl) hv h ho hx
end
attribute [local go_sem ↓] load_state store_state load_words load_left store_words
attribute [local go_sem] isHead_mk isPart_mk offOf_mk blkOf_mk isAgg_mk cellsV_mk row_drew rowAt_drew row_new_cells row_old rowAt_new rowAt_old setRow_new stC_words stC_left

/-- The zero state's cells, by numbers. -/
def stNV (hn : Nat → Nat) (m : Nat) (f : Nat → Nat) : Nat → Value := fun i => if i < 8 then .int .u32 (hn i : Int) else if i = 8 then .int .u64 (m : Int) else .int .u8 (f (i - 9) : Int)
def stZ : Array Value := arrV 73 (stNV (fun _ => 0) 0 (fun _ => 0))
theorem stZ_cells : Cells stZ 73 := arrV_cells fun i _ => by
  unfold stNV
  split
  · rfl
  · split <;> rfl
end Go.Proofs.YtdlmamnnamlleaaDoor
namespace Go.Proofs.YtdlmamnnamlleaaDoor
open Go.ChangeShapes Go.WideShapes Go.ChangeAt Go.RowKit
set_option maxHeartbeats 2000000
set_option maxRecDepth 100000
attribute [local irreducible] arrV
attribute [local go_sem ↓] load_state store_state load_words load_left store_words
attribute [local go_sem] isHead_mk isPart_mk offOf_mk blkOf_mk isAgg_mk cellsV_mk row_drew rowAt_drew row_new_cells row_old rowAt_new rowAt_old setRow_new stC_words stC_left
attribute [local go_sem ↓] Go.wp_at_zero Go.wp_at_succ

theorem zero_state (w : World) : (zeroValue 99).run Tryd.prog w = .ok (.agg stZ) w := (zero_of_info (n := 73) (by kernel_rfl)).1 w
theorem zero_cellsS : Tryd.zeroCells99 = stZ := by kernel_rfl
attribute [local go_sem] zero_state zero_cellsS

theorem hash_write (K : Nat → W32) (A : Option Addr) (l : List UInt8) (c : Nat) (s : St) (w : World) (hs : s.ok) (hrd : Rd w w.heap.size A (bytesV l)) (hlc : l.length ≤ c) (hcm : c ≤ maxLen)
    (hK : ∀ i < 64, w.cell? ⟨1, i, none⟩ = some (u32v (K i))) (hKl : 1 < w.heap.size) :
    Calls Tryd.prog 75 #[.agg s.cells, .slice A l.length c] w fun e w' => e = .returned (.agg (s.write K l).cells) ∧ Below w.heap.size w w' := by
  have hlm : l.length ≤ 9223372036854775807 := by unfold maxLen at hcm; omega
  have hch := stC_cells s.h s.m s.f
  have hcz := stZ_cells
  go_enter Tryd.func75, Tryd.ntmps75
  go_wp2
  have hL0 : Below w.heap.size w ((w.alloc (Obj.cells s.cells 99)).alloc (Obj.cells stZ 99)) := by go_grown
  have hR0 : Row ((w.alloc (Obj.cells s.cells 99)).alloc (Obj.cells stZ 99)) w.heap.size 73 := (row_old (by simp)).2 ((row_new rfl).2 hch.1)
  have hr0 : rowAt ((w.alloc (Obj.cells s.cells 99)).alloc (Obj.cells stZ 99)) w.heap.size = (s.write K (l.take 0)).cells := (rowAt_old (by simp)).trans (rowAt_new rfl)
  have hR1 : Row ((w.alloc (Obj.cells s.cells 99)).alloc (Obj.cells stZ 99)) (w.heap.size + 1) 73 := (row_new (by simp)).2 hcz.1
  generalize ((w.alloc (Obj.cells s.cells 99)).alloc (Obj.cells stZ 99)) = W0 at *
  go_loopw [9] (fun i wr => ∃ k : Nat, i = .int .i64 k ∧ k ≤ l.length ∧ Row wr w.heap.size 73 ∧ rowAt wr w.heap.size = (s.write K (l.take k)).cells ∧ Row wr (w.heap.size + 1) 73 ∧ Below w.heap.size w wr) (fun i _ => l.length - (intOf i).toNat)
  case atStart => exact ⟨0, rfl, by omega, hR0, hr0, hR1, hL0⟩
  case round =>
    clear hR0 hr0 hR1 hL0
    obtain ⟨k, rfl, hk, hR, hr, hRo, hL⟩ := hrel
    by_cases hkl : k = l.length
    · subst hkl
      rw [List.take_length] at hr
      have hcs := stC_cells (s.write K l).h (s.write K l).m (s.write K l).f
      obtain ⟨s1, hs1⟩ : ∃ s1, s1 = s.write K l := ⟨_, rfl⟩
      rw [← hs1] at hr hcs
      have hHs1 := Lib.hid hs1
      clear hs1
      go_wp2
      refine ret_row rfl Tryd.underlying99 rfl (by kernel_rfl) rfl ((row_setRow_same rfl hRo).2 hcs.1) rfl ?_
      rw [rowAt_setRow_same hRo]
      rw [← hHs1.out]
      exact ⟨rfl, below_setRow hL (by omega)⟩
    · have hkl2 : k < l.length := by omega
      obtain ⟨ad, rfl, hlt, hc⟩ := hrd k (u8v l[k]) (by simp [bytesV, hkl2])
      have hc' := (hL.cell (p := ad.add k) (by rw [addr_block]; exact hlt)).trans hc
      have hok := St.write_ok (K := K) (l.take k) hs
      have hst := St.write_take (K := K) (s := s) hkl2
      generalize s.write K (l.take k) = s1 at *
      have hc8 : wr.cell? ⟨w.heap.size, 8, none⟩ = some (.int .u64 (s1.m : Int)) := by rw [hR.cell, hr, stC_m]
      have hf8 := hR.frozen 8
      have hj : s1.m % 64 < 64 := by omega
      obtain ⟨j, hjj⟩ : ∃ j, j = s1.m % 64 := ⟨_, rfl⟩
      have hjm : (s1.m : Int) % 64 = j := by omega
      rw [← hjj] at hj
      have hfj := hR.frozen (9 + j)
      have hcj : wr.cell? ⟨w.heap.size, 9 + j, none⟩ = some (.int .u8 (s1.f j : Int)) := by rw [hR.cell, hr, stC_at_left _ _ _ hj]
      have hnm : IntKind.u64.wrap ((s1.m : Int) + 1) = (nextM s1.m : Int) := by rw [IntKind.wrap_u64]; unfold nextM; omega
      have hne : (8 = 9 + j) = False := by simp; omega
      have hj0 : (0 : Int) ≤ (j : Int) := by omega
      have hj64 : (j : Int) < 64 := by omega
      have hHr := Lib.hid hr
      have hHst := Lib.hid hst
      have hHj := Lib.hid hjj
      obtain ⟨W1, hW1⟩ : ∃ W1, W1 = (wr.setCell ⟨w.heap.size, 9 + j, none⟩ (.int .u8 (l[k].toNat : Int))).setCell ⟨w.heap.size, 8, none⟩ (.int .u64 (nextM s1.m : Int)) := ⟨_, rfl⟩
      have hR1 : Row W1 w.heap.size 73 := by rw [hW1]; exact row_setCell.2 (row_setCell.2 hR)
      have hRo1 : Row W1 (w.heap.size + 1) 73 := by rw [hW1]; exact row_setCell.2 (row_setCell.2 hRo)
      have hr1 : rowAt W1 w.heap.size = stC s1.h (nextM s1.m) (upd s1.f j l[k].toNat) := by rw [hW1, rowAt_setCell_same, rowAt_setCell_same, hr, stC_set_left _ _ _ hj, stC_set_m]
      have hL1 : Below w.heap.size w W1 := by rw [hW1]; exact (hL.setCell (Nat.le_refl _) _).setCell (Nat.le_refl _) _
      have hb1 := upd_lt (j := j) (b := l[k]) hok.2
      have hK1 : ∀ i < 64, W1.cell? ⟨1, i, none⟩ = some (u32v (K i)) := fun i hi => ((bcell hL1).1 _ _ hKl).trans (hK i hi)
      have hlt1 : w.heap.size + 1 < W1.heap.size := hRo1.lt
      by_cases hz : nextM s1.m % 64 = 0
      · have hzb : ((nextM s1.m : Int) % 64 == 0) = true := by simp; omega
        have hstep : s.write K (l.take (k + 1)) = ⟨prs K s1.h fun i => be32 (upd s1.f j l[k].toNat) (4 * i), nextM s1.m, upd s1.f j l[k].toNat⟩ := by rw [hst, hjj]; unfold St.put; rw [if_pos hz]
        have hcon := hash_press s1.h (upd s1.f j l[k].toNat) K W1 hb1 hK1 (by omega)
        generalize (upd s1.f j l[k].toNat) = f1 at *
        generalize (prs K s1.h fun i => be32 f1 (4 * i)) = h1 at *
        rw [hW1] at hcon hR1 hr1 hRo1 hL1 hlt1
        have hHcon := Lib.hid hcon
        have hHstep := Lib.hid hstep
        clear hr hst hjj hrd hcon hstep hch hcz
        have hHW1 := Lib.hid hW1
        clear hW1
        go_wp2_with (go_at_call 103; refine hHcon.out.mono ?_; rintro e w2 ⟨rfl, hB2⟩; have hR2 := row_below hR1 hB2 hR1.lt; have hr2 := (rowAt_below hB2 hR1.lt).trans hr1; have hc8' := h8_cells h1)
        go_round
        case rel =>
          rw [stC_put]
          have hR3 := (row_setRow_same (c' := stC h1 (nextM s1.m) f1) rfl hR2).2 (stC_size _ _ _)
          exact ⟨k + 1, by go_num, by omega, hR3, (rowAt_setRow_same hR2).trans (by rw [hHstep.out]), (row_setRow_far (by omega)).2 (row_below hRo1 hB2 hlt1), below_setRow (hL1.trans (hB2.mono (by omega))) (by omega)⟩
        case measure => simp [intOf]; omega
      · have hzb : ((nextM s1.m : Int) % 64 == 0) = false := by simp; omega
        have hstep : s.write K (l.take (k + 1)) = ⟨s1.h, nextM s1.m, upd s1.f j l[k].toNat⟩ := by rw [hst, hjj]; unfold St.put; rw [if_neg hz]
        have hHr1 := Lib.hid hr1
        have hHstep := Lib.hid hstep
        have hHW1 := Lib.hid hW1
        clear hr hst hjj hrd hstep hch hcz hr1 hW1
        go_wp2
        go_round
        case rel =>
          rw [← hHW1.out]
          exact ⟨k + 1, by go_num, by omega, hR1, hHr1.out.trans (by rw [hHstep.out]), hRo1, hL1⟩
        case measure => simp [intOf]; omega
end Go.Proofs.YtdlmamnnamlleaaDoor
namespace Go.Proofs.YtdlmamnnamlleaaDoor
open Go.ChangeShapes Go.WideShapes Go.ChangeAt Go.RowKit
set_option maxHeartbeats 2000000
set_option maxRecDepth 100000
attribute [local go_sem ↓] load_state store_state
attribute [local go_sem] isHead_mk isPart_mk offOf_mk blkOf_mk isAgg_mk cellsV_mk row_drew rowAt_drew row_new_cells row_old rowAt_new rowAt_old setRow_new zero_state zero_cellsS

def ivN : Nat → Nat
  | 0 => 0x6a09e667
  | 1 => 0xbb67ae85
  | 2 => 0x3c6ef372
  | 3 => 0xa54ff53a
  | 4 => 0x510e527f
  | 5 => 0x9b05688c
  | 6 => 0x1f83d9ab
  | _ => 0x5be0cd19
def iv (i : Nat) : W32 := BitVec.ofNat 32 (ivN i)
theorem iv_w (i : Nat) : w2n (iv i) = ivN i := w2n_of (by unfold ivN; split <;> omega)
def newC : Array Value := arrV 73 (stNV ivN 0 fun _ => 0)
theorem newC_st : newC = stC iv 0 fun _ => 0 := by
  unfold newC stC
  refine arrV_congr fun i _ => ?_
  unfold stNV stV
  by_cases e : i < 8
  · rw [if_pos e, if_pos e]
    show Value.int .u32 _ = Value.int .u32 _
    rw [iv_w]
  · rw [if_neg e, if_neg e]
theorem hash_new (w : World) : Calls Tryd.prog 74 #[] w fun e w' => e = .returned (.agg (stC iv 0 fun _ => 0)) ∧ Below w.heap.size w w' := by
  have hcz := stZ_cells
  go_enter Tryd.func74, Tryd.ntmps74
  have hset : ((((((((stZ.setIfInBounds 0 (Value.int IntKind.u32 1779033703)).setIfInBounds 1 (Value.int IntKind.u32 3144134277)).setIfInBounds 2 (Value.int IntKind.u32 1013904242)).setIfInBounds 3 (Value.int IntKind.u32 2773480762)).setIfInBounds 4 (Value.int IntKind.u32 1359893119)).setIfInBounds 5 (Value.int IntKind.u32 2600822924)).setIfInBounds 6 (Value.int IntKind.u32 528734635)).setIfInBounds 7 (Value.int IntKind.u32 1541459225)) = newC := by kernel_rfl
  have hcn : Cells newC 73 := by rw [newC_st]; exact stC_cells _ _ _
  have hRz : Row (w.alloc (Obj.cells stZ 99)) w.heap.size 73 := (row_new rfl).2 hcz.1
  go_wp2
  refine ret_row rfl Tryd.underlying99 rfl (by kernel_rfl) rfl ((row_new (n := 73) rfl).2 hcn.1) rfl ?_
  rw [rowAt_new rfl, newC_st]
  exact ⟨rfl, below_alloc _ _⟩
end Go.Proofs.YtdlmamnnamlleaaDoor
namespace Go.Proofs.YtdlmamnnamlleaaDoor
open Go.ChangeShapes Go.WideShapes Go.ChangeAt Go.RowKit
set_option maxHeartbeats 2000000
set_option maxRecDepth 100000

theorem SB1 : SlT Tryd.prog 22 5 1 1 := SlT.mk' Tryd.underlying22 (by kernel_rfl) (by omega)
/-- What stands behind n bytes. -/
def padZ (n : Nat) : Nat := (119 - n % 64) % 64
def lenB (m k : Nat) : List UInt8 := (List.range k).map fun i => UInt8.ofNat (m / 2 ^ (56 - 8 * i))
def padL (n : Nat) : List UInt8 := 128 :: (List.replicate (padZ n) 0 ++ lenB (8 * n % 18446744073709551616) 8)
theorem padZ_lt (n : Nat) : padZ n < 64 := Nat.mod_lt _ (by omega)
theorem lenB_succ (m k : Nat) : lenB m (k + 1) = lenB m k ++ [UInt8.ofNat (m / 2 ^ (56 - 8 * k))] := by
  unfold lenB; rw [List.range_succ, List.map_append]; rfl
theorem lenB_length (m k : Nat) : (lenB m k).length = k := by simp [lenB]
theorem padL_length (n : Nat) : (padL n).length = padZ n + 9 := by simp [padL, lenB_length]
def lenV : Value → Nat
  | .slice _ n _ => n
  | _ => 0
/-- What is handed back: a slice that reads as l; what was there is as it was. -/
def RetB (l : List UInt8) (w : World) (e : Ending) (w' : World) : Prop := ∃ A c, e = .returned (.slice A l.length c) ∧ l.length ≤ c ∧ c ≤ 9223372036854775807 ∧ Rd w' w'.heap.size A (bytesV l) ∧ Below w.heap.size w w'
theorem shr_u8 (m s : Nat) : (m : Int) / 2 ^ s % 256 = ((UInt8.ofNat (m / 2 ^ s)).toNat : Int) := by
  rw [UInt8.toNat_ofNat']
  simp
theorem hash_Pad (n : Nat) (w : World) : Calls Tryd.prog 104 #[.int .u64 n] w (RetB (padL n) w) := by
  go_enter Tryd.func104, Tryd.ntmps104
  go_wp2
  have hO0 : Own w w.heap.size 5 (.slice (some ⟨w.heap.size, 0, none⟩) 1 1) (bytesV (128 :: List.replicate 0 0)) (w.alloc (Obj.cells #[Value.int .u8 128] 5)) :=
    ⟨World.ownsRow_lit w #[Value.int .u8 128] 1 (Nat.le_refl _) (by unfold maxLen; omega) rfl, (Below.refl _ _).alloc (Nat.le_refl _) _, by simp⟩
  generalize (w.alloc (Obj.cells #[Value.int .u8 128] 5)) = W0 at *
  go_loopw [3] (fun v wr => ∃ j : Nat, j ≤ padZ n ∧ Own w w.heap.size 5 v (bytesV (128 :: List.replicate j 0)) wr) (fun v _ => 64 - lenV v)
  case atStart => exact ⟨0, by omega, hO0⟩
  case round =>
    clear hO0
    obtain ⟨j, hj, hO⟩ := hrel
    have hz := padZ_lt n
    obtain ⟨A, c, rfl, hl, hm⟩ := hO.form
    have hlen : (bytesV (128 :: List.replicate j 0)).length = 1 + j := by simp [bytesV]; omega
    rw [hlen] at hO hl ⊢
    have hx : IntKind.u64.wrap ((n : Int) + (1 + (j : Int))) = ((n + (1 + j)) % 18446744073709551616 : Nat) := by rw [IntKind.wrap_u64]; omega
    obtain ⟨x, hxe⟩ : ∃ x, x = (n + (1 + j)) % 18446744073709551616 := ⟨_, rfl⟩
    rw [← hxe] at hx
    by_cases hjp : j < padZ n
    · have hb : (((x : Int) % 64) != 56) = true := by rw [bne_iff_ne]; unfold padZ at hjp hz; omega
      have hHx := Lib.hid hxe
      have hHl := Lib.hid hlen
      clear hxe hlen
      go_wp2_with (at_builtin; refine wpList_own1 (o := ⟨some 15, _, _, _, _, _⟩) rfl (.tmp 13) (.tmp 14) 22 rfl SB1 rfl hO (.int .u8 0) rfl rfl (by rw [hHl.out]; unfold maxLen; omega) (by rw [hHl.out]; omega) ?_; intro v1 w1 hO1 hg1 hat1; clear hg1 hat1)
      go_roundw
      case rel =>
        refine ⟨j + 1, by omega, ?_⟩
        rw [List.replicate_succ', ← List.cons_append, bytesV_append]
        exact hO1
      case measure =>
        obtain ⟨A2, c2, rfl, -, -⟩ := hO1.form
        simp only [lenV, List.length_append, hHl.out, List.length_singleton]
        omega
    · have hb : (((x : Int) % 64) != 56) = false := by rw [bne_eq_false_iff_eq]; unfold padZ at hjp hj hz; omega
      obtain rfl : j = padZ n := by omega
      have hHx := Lib.hid hxe
      have hHl := Lib.hid hlen
      clear hxe hlen
      obtain ⟨m, hm8⟩ : ∃ m, m = 8 * n % 18446744073709551616 := ⟨_, rfl⟩
      have hmw : IntKind.u64.wrap (8 * (n : Int)) = (m : Int) := by rw [IntKind.wrap_u64]; omega
      have hmL : m < 18446744073709551616 := by omega
      have hHm := Lib.hid hm8
      clear hm8
      have hO2 : Own w w.heap.size 5 (.slice A (1 + padZ n) c) (bytesV (128 :: List.replicate (padZ n) 0 ++ lenB m 0)) wr := by simpa [lenB] using hO
      clear hO
      go_wp2
      go_loopw [3, 4, 16] (fun v _ i wr => ∃ k : Nat, i = .int .i64 k ∧ k ≤ 8 ∧ Own w w.heap.size 5 v (bytesV (128 :: List.replicate (padZ n) 0 ++ lenB m k)) wr) (fun _ _ i _ => 8 - (intOf i).toNat)
      case atStart => exact ⟨0, rfl, by omega, hO2⟩
      case round =>
        clear hO2 hj hl hm
        obtain ⟨k, rfl, hk, hO⟩ := hrel
        have hHlk : Hid ((bytesV (128 :: List.replicate (padZ n) 0 ++ lenB m k)).length = 1 + padZ n + k) := Lib.hid (by simp [bytesV, lenB_length]; omega)
        obtain ⟨A, c, rfl, hl, hm⟩ := hO.form
        rw [hHlk.out] at hO hl ⊢
        by_cases h8 : k = 8
        · subst h8
          go_wp2
          go_ret
          have e : (128 :: List.replicate (padZ n) 0 ++ lenB m 8) = padL n := by unfold padL; rw [hHm.out]; rfl
          rw [e] at hO
          have e2 := hHlk.out
          rw [e] at e2
          have e3 : (padL n).length = 1 + padZ n + 8 := by rw [padL_length]; omega
          exact ⟨A, c, by rw [e3]; rfl, by rw [e3]; exact hl, hm, hO.rd, hO.bel⟩
        · go_wp2_with (at_builtin; refine wpList_own1 (o := ⟨some 29, _, _, _, _, _⟩) rfl (.tmp 19) (.tmp 28) 22 rfl SB1 rfl hO _ rfl rfl (by rw [hHlk.out]; unfold maxLen; omega) (by rw [hHlk.out]; omega) ?_; intro v1 w1 hO1 hg1 hat1; clear hg1 hat1)
          go_roundw
          case rel =>
            refine ⟨k + 1, by go_num, by omega, ?_⟩
            rw [lenB_succ, ← List.append_assoc, bytesV_append]
            rw [shr_u8] at hO1
            exact hO1
          case measure => simp [intOf]; omega
end Go.Proofs.YtdlmamnnamlleaaDoor
namespace Go.Proofs.YtdlmamnnamlleaaDoor
open Go

theorem schl_congr {b b' : Nat → W32} (h : ∀ i < 16, b i = b' i) : ∀ n, schl b n = schl b' n
  | 0 => by
      unfold schl
      exact List.map_congr_left fun i hi => h i (by simpa using hi)
  | n + 1 => by
      unfold schl
      rw [schl_congr h n]
theorem prs_congr {K h b b' : Nat → W32} (hb : ∀ i < 16, b i = b' i) : prs K h b = prs K h b' := by
  have e : sch b = sch b' := by
    funext t
    unfold sch
    rw [schl_congr hb]
  unfold prs
  rw [e]
theorem be32_congr {f g : Nat → Nat} {p : Nat} (h : ∀ i < 64, f i = g i) (hp : p + 3 < 64) : be32 f p = be32 g p := by
  unfold be32
  rw [h p (by omega), h (p + 1) (by omega), h (p + 2) (by omega), h (p + 3) (by omega)]
theorem press_congr {K h : Nat → W32} {f g : Nat → Nat} (hf : ∀ i < 64, f i = g i) : (prs K h fun i => be32 f (4 * i)) = prs K h fun i => be32 g (4 * i) :=
  prs_congr fun i hi => be32_congr hf (by omega)

def bytesF (l : List UInt8) : Nat → Nat := fun i => (l[i]?.getD 0).toNat
theorem bytesF_lt (l : List UInt8) (i : Nat) : bytesF l i < 256 := UInt8.toNat_lt _
theorem bytesF_at {l : List UInt8} {i : Nat} (h : i < l.length) : bytesF l i = l[i].toNat := by unfold bytesF; rw [List.getElem?_eq_getElem h]; rfl
def blk (K h : Nat → W32) (l : List UInt8) : Nat → W32 := prs K h fun i => be32 (bytesF l) (4 * i)
def blks (K : Nat → W32) : Nat → (Nat → W32) → List UInt8 → Nat → W32
  | 0, h, _ => h
  | n + 1, h, l => blks K n (blk K h (l.take 64)) (l.drop 64)
theorem blks_snoc (K : Nat → W32) : ∀ (n : Nat) (h : Nat → W32) (l : List UInt8), blks K (n + 1) h l = blk K (blks K n h l) ((l.drop (64 * n)).take 64)
  | 0, h, l => by simp [blks]
  | n + 1, h, l => by
      rw [blks, blks_snoc K n, List.drop_drop]
      show _ = blk K (blks K n (blk K h (l.take 64)) (l.drop 64)) _
      rw [show 64 + 64 * n = 64 * (n + 1) by omega]
/-- The digest's bytes. -/
def outF (h : Nat → W32) : Nat → Nat := fun i => w2n (h (i / 4)) / 2 ^ (24 - 8 * (i % 4)) % 256
def m64 (n : Nat) : Nat := n % 18446744073709551616
/-- The digest of l, from words that have n bytes. -/
def digW (K h : Nat → W32) (n : Nat) (l : List UInt8) : Nat → W32 := blks K ((l.length + (padL (m64 (n + l.length))).length) / 64) h (l ++ padL (m64 (n + l.length)))
def dig (K h : Nat → W32) (n : Nat) (l : List UInt8) : Nat → Nat := outF (digW K h n l)
theorem pad_whole {n k : Nat} (h : n % 64 = 0) : (k + (padL (m64 (n + k))).length) % 64 = 0 := by
  rw [padL_length]
  unfold padZ m64
  omega

section
variable {K : Nat → W32}
theorem nextM_m64 (n : Nat) : nextM (m64 n) = m64 (n + 1) := by unfold nextM m64; omega
def mix (l : List UInt8) (k : Nat) (f : Nat → Nat) : Nat → Nat := fun i => if i < k then bytesF l i else f i
theorem mix_upd {l : List UInt8} {k : Nat} {f : Nat → Nat} (h : k < l.length) : upd (mix l k f) k l[k].toNat = mix l (k + 1) f := by
  funext i
  unfold upd mix
  by_cases e : i = k
  · subst e; rw [if_pos rfl, if_pos (by omega), bytesF_at h]
  · rw [if_neg e]
    by_cases e2 : i < k
    · rw [if_pos e2, if_pos (by omega)]
    · rw [if_neg e2, if_neg (by omega)]
theorem write_part {s : St} {l : List UInt8} (hm : s.m % 64 = 0) (hs : s.m < 18446744073709551616) : ∀ k, k ≤ 63 → k ≤ l.length → s.write K (l.take k) = ⟨s.h, m64 (s.m + k), mix l k s.f⟩
  | 0, _, _ => by
      have e : m64 (s.m + 0) = s.m := by unfold m64; omega
      rw [e]
      rfl
  | k + 1, h1, h2 => by
      rw [St.write_take (by omega), write_part hm hs k (by omega) (by omega)]
      unfold St.put
      have e : m64 (s.m + k) % 64 = k := by unfold m64; omega
      simp only [nextM_m64]
      rw [if_neg (by unfold m64; omega), e, mix_upd (by omega)]
      rfl
theorem write_64 {s : St} {l : List UInt8} (hm : s.m % 64 = 0) (hs : s.m < 18446744073709551616) (hl : 64 ≤ l.length) : s.write K (l.take 64) = ⟨blk K s.h (l.take 64), m64 (s.m + 64), mix l 64 s.f⟩ := by
  rw [show (64 : Nat) = 63 + 1 from rfl, St.write_take (by omega), write_part hm hs 63 (by omega) (by omega)]
  unfold St.put
  have e : m64 (s.m + 63) % 64 = 63 := by unfold m64; omega
  simp only [nextM_m64]
  rw [if_pos (by unfold m64; omega), e, mix_upd (by omega)]
  have e2 : (prs K s.h fun i => be32 (mix l (63 + 1) s.f) (4 * i)) = blk K s.h (l.take (63 + 1)) := by
    unfold blk
    refine press_congr fun i hi => ?_
    unfold mix bytesF
    rw [if_pos (by omega), List.getElem?_take, if_pos (by omega)]
  rw [e2]
theorem write_app {s : St} (a b : List UInt8) : s.write K (a ++ b) = (s.write K a).write K b := by unfold St.write; rw [List.foldl_append]
theorem write_blks : ∀ (n : Nat) {s : St} {l : List UInt8}, s.m % 64 = 0 → s.m < 18446744073709551616 → l.length = 64 * n → (s.write K l).h = blks K n s.h l
  | 0, s, l, _, _, h => by
      have : l = [] := List.eq_nil_of_length_eq_zero (by omega)
      subst this
      rfl
  | n + 1, s, l, hm, hs, h => by
      have e : l = l.take 64 ++ l.drop 64 := (List.take_append_drop 64 l).symm
      conv => lhs; rw [e]
      rw [write_app, write_64 hm hs (by omega), write_blks n (by show m64 _ % 64 = 0; unfold m64; omega) (Nat.mod_lt _ (by omega)) (by rw [List.length_drop]; omega)]
      rfl
theorem put_m (s : St) (b : UInt8) : (s.put K b).m = nextM s.m := by unfold St.put; split <;> rfl
theorem write_m : ∀ (l : List UInt8) {s : St}, s.m < 18446744073709551616 → (s.write K l).m = m64 (s.m + l.length)
  | [], s, h => by
      show s.m = _
      unfold m64; simp; omega
  | b :: l, s, h => by
      show ((s.put K b).write K l).m = _
      rw [write_m l (by rw [put_m]; exact Nat.mod_lt _ (by omega)), put_m, List.length_cons]
      unfold nextM m64
      omega
/-- A state's digest. -/
theorem write_dig {s : St} {l : List UInt8} (hm : s.m % 64 = 0) (hs : s.m < 18446744073709551616) : ((s.write K l).write K (padL (s.write K l).m)).h = digW K s.h s.m l := by
  rw [write_m l hs, ← write_app]
  unfold digW
  have h1 := pad_whole (k := l.length) hm
  refine write_blks _ hm hs ?_
  rw [List.length_append]
  omega
end
end Go.Proofs.YtdlmamnnamlleaaDoor
namespace Go.Proofs.YtdlmamnnamlleaaDoor
open Go.ChangeShapes Go.WideShapes Go.ChangeAt Go.RowKit
set_option maxHeartbeats 2000000
set_option maxRecDepth 100000
section
attribute [local go_sem] u32_xor' u32_and' u32_or' u32_add' u32_addw' u32_shr' u32_shl' u32_shlw' u32_not'
theorem ref_turn (x : W32) (n : Nat) (w : World) (hn : 0 < n) (hn2 : n < 32) :
    Calls Tryd.prog 105 #[u32v x, .int .u64 n] w fun e w' => e = .returned (u32v (rotr x n)) ∧ w = w' := by
  obtain ⟨m, hm⟩ : ∃ m, m = 32 - n := ⟨_, rfl⟩
  have h3 : IntKind.u64.wrap (32 - (n : Int)) = (m : Int) := by rw [IntKind.wrap_u64]; omega
  have h4 : (32 : Int) - n = (m : Int) := by omega
  have h1 : (0 : Int) ≤ m := by omega
  have h2 : (m : Int) < 32 := by omega
  have hHm := Lib.hid hm
  clear hm
  go_enter Tryd.func105, Tryd.ntmps105
  go_wp2
  go_ret
  refine ⟨?_, rfl⟩
  unfold rotr
  rw [← hHm.out]; rfl
theorem ref_choose (x y z : W32) (w : World) : Calls Tryd.prog 106 #[u32v x, u32v y, u32v z] w fun e w' => e = .returned (u32v (chs x y z)) ∧ w = w' := by
  rw [← chs_eq]
  go_enter Tryd.func106, Tryd.ntmps106
  go_wp2
  go_ret
  exact ⟨rfl, rfl⟩
theorem ref_most (x y z : W32) (w : World) : Calls Tryd.prog 107 #[u32v x, u32v y, u32v z] w fun e w' => e = .returned (u32v (maj x y z)) ∧ w = w' := by
  rw [← maj_eq]
  go_enter Tryd.func107, Tryd.ntmps107
  go_wp2
  go_ret
  exact ⟨rfl, rfl⟩
end
/-- Eight words at the head of a block. -/
structure HsAt (w : World) (g : Nat) (h : Nat → W32) : Prop where
  lt : g < w.heap.size
  at_ : ∀ i < 8, w.cell? ⟨g, i, none⟩ = some (u32v (h i))
theorem HsAt.below {w w' : World} {g B : Nat} {h : Nat → W32} (k : HsAt w g h) (hb : Below B w w') (hg : g < B) : HsAt w' g h :=
  ⟨Nat.lt_of_lt_of_le k.lt hb.size, fun i hi => ((bcell hb).1 _ _ hg).trans (k.at_ i hi)⟩
/-- What is handed back: eight words. -/
def RetH (h : Nat → W32) (w : World) (e : Ending) (w' : World) : Prop := ∃ g c, e = .returned (.slice (some ⟨g, 0, none⟩) 8 c) ∧ 8 ≤ c ∧ c ≤ maxLen ∧ HsAt w' g h ∧ Below w.heap.size w w'
theorem hsAt_new {w : World} {t : TypeId} {g : Nat} (h : Nat → W32) (hg : g = w.heap.size) : HsAt (w.alloc (.cells (h8 h) t)) g h := by
  subst hg
  refine ⟨by simp, fun i hi => ?_⟩
  have hR : Row (w.alloc (.cells (h8 h) t)) w.heap.size 8 := (row_new rfl).2 (h8_size h)
  rw [hR.cell, rowAt_new rfl]
  exact arrK_at hi
theorem h8_iv : h8 iv = arrK .u32 8 ivN := arrK_congr fun i _ => iv_w i
theorem ref_Begin (w : World) : Calls Tryd.prog 51 #[] w (RetH iv w) := by
  go_enter Tryd.func51, Tryd.ntmps51
  go_wp2
  go_ret
  refine ⟨_, 8, rfl, by omega, by unfold maxLen; omega, ?_, by go_grown⟩
  have := hsAt_new (w := w) (t := 95) iv rfl
  rw [h8_iv] at this
  exact this

/-! PadText -/
def tailB (m k : Nat) : List UInt8 := (List.range k).map fun i => UInt8.ofNat (m / 256 ^ (k - 1 - i))
theorem tailB_succ (m k : Nat) : tailB m (k + 1) = UInt8.ofNat (m / 256 ^ k) :: tailB m k := by
  unfold tailB
  rw [List.range_succ_eq_map, List.map_cons, List.map_map]
  congr 1
  refine List.map_congr_left fun i hi => ?_
  simp only [Function.comp]
  rw [show k + 1 - 1 - (i + 1) = k - 1 - i by omega]
theorem tailB_len (m k : Nat) : (tailB m k).length = k := by simp [tailB]
theorem tailB_8 (m : Nat) : tailB m 8 = lenB m 8 := by
  unfold tailB lenB
  refine List.map_congr_left fun i hi => ?_
  have hi : i < 8 := by simpa using hi
  rw [show (256 : Nat) = 2 ^ 8 from rfl, ← Nat.pow_mul, show 8 * (8 - 1 - i) = 56 - 8 * i by omega]
abbrev strV (l : List UInt8) : Value := .string ⟨l.toArray⟩
theorem bs_app (a b : List UInt8) : (⟨a.toArray⟩ : ByteArray) ++ ⟨b.toArray⟩ = ⟨(a ++ b).toArray⟩ := by
  apply ByteArray.ext
  simp
def lenS : Value → Nat
  | .string s => s.size
  | _ => 0
theorem lenS_mk (l : List UInt8) : lenS (strV l) = l.length := by simp [lenS, ByteArray.size]
/-- One byte made a string. -/
theorem conv_one (b : UInt8) (t : TypeId) (W : World) : (convert 22 9 (.slice (some ⟨W.heap.size, 0, none⟩) 1 1)).run Tryd.prog (W.alloc (.cells #[.int .u8 (b.toNat : Int)] t)) = .ok (strV [b]) (W.alloc (.cells #[.int .u8 (b.toNat : Int)] t)) :=
  conv_rd (l := [b]) Tryd.underlying22 Tryd.underlying5 Tryd.underlying9 (Rd.of_blk (cs := #[.int .u8 (b.toNat : Int)]) (push_new _ _) (B := W.heap.size + 1) (by omega))
theorem mod_u8 (x : Nat) : (x : Int) % 256 = ((UInt8.ofNat x).toNat : Int) := by
  rw [UInt8.toNat_ofNat']
  simp
theorem ref_PadText (n : Nat) (w : World) : Calls Tryd.prog 77 #[.int .u64 n] w fun e w' => e = .returned (strV (padL n)) ∧ Below w.heap.size w w' := by
  go_enter Tryd.func77, Tryd.ntmps77
  go_wp2
  go_loop [3] (fun v => ∃ j : Nat, j ≤ padZ n ∧ v = strV (128 :: List.replicate j 0)) (fun v => 65 - lenS v)
  case atStart => exact ⟨0, by omega, rfl⟩
  case round =>
    obtain ⟨j, hj, rfl⟩ := hrel
    have hz := padZ_lt n
    by_cases hjp : j < padZ n
    · have hb : (((n : Int) % 64 + ((j : Int) + 1) + 8) % 64 != 0) = true := by rw [bne_iff_ne]; unfold padZ at hjp hz; omega
      go_wp2
      go_round
      case rel =>
        refine ⟨j + 1, by omega, ?_⟩
        rw [List.replicate_succ', ← List.cons_append]
        exact congrArg Value.string (bs_app (128 :: List.replicate j 0) [0])
      case measure =>
        show 65 - lenS (.string ((⟨(128 :: List.replicate j 0).toArray⟩ : ByteArray) ++ ⟨#[0]⟩)) < _
        rw [show ((⟨(128 :: List.replicate j 0).toArray⟩ : ByteArray) ++ ⟨#[0]⟩) = ⟨((128 : UInt8) :: List.replicate j 0 ++ [0]).toArray⟩ from bs_app (128 :: List.replicate j 0) [0], lenS_mk, lenS_mk]
        simp
        omega
    · obtain rfl : j = padZ n := by omega
      have hb : (((n : Int) % 64 + ((padZ n : Int) + 1) + 8) % 64 != 0) = false := by rw [bne_eq_false_iff_eq]; unfold padZ; omega
      obtain ⟨m, hm8⟩ : ∃ m, m = 8 * n % 18446744073709551616 := ⟨_, rfl⟩
      have hmw : IntKind.u64.wrap ((n : Int) * 8) = (m : Int) := by rw [IntKind.wrap_u64]; omega
      have hmL : m < 18446744073709551616 := by omega
      have hHm := Lib.hid hm8
      clear hm8
      have hb0 : Below w.heap.size w w := Below.refl _ _
      go_wp2
      go_loopw [5, 6, 21] (fun x v i wr => ∃ (k y : Nat), i = .int .i64 k ∧ k ≤ 8 ∧ x = .int .u64 y ∧ y < 18446744073709551616 ∧ Hid (y = m / 256 ^ k) ∧ v = strV (tailB m k) ∧ Below w.heap.size w wr) (fun _ _ i _ => 8 - (intOf i).toNat)
      case atStart => exact ⟨0, m, rfl, by omega, rfl, hmL, Lib.hid (by simp), rfl, hb0⟩
      case round =>
        clear hb0 hb
        obtain ⟨k, y, rfl, hk, rfl, hyL, hHy, rfl, hL⟩ := hrel
        by_cases h8 : k = 8
        · subst h8
          have hq : padZ n + 1 + (tailB m 8).length ≤ 9223372036854775807 := by rw [tailB_len]; omega
          go_wp2
          go_ret
          refine ⟨?_, hL⟩
          have e : (128 :: List.replicate (padZ n) 0 ++ tailB m 8) = padL n := by rw [tailB_8]; unfold padL; rw [hHm.out]; rfl
          rw [← e]
          exact congrArg (fun s => Ending.returned (Value.string s)) (bs_app _ _)
        · have hcv := fun W => conv_one (UInt8.ofNat y) 5 W
          rw [← mod_u8] at hcv
          have hq : 1 + (tailB m k).length ≤ 9223372036854775807 := by rw [tailB_len]; omega
          go_wp2
          go_round
          case rel =>
            refine ⟨k + 1, y / 256, by go_num, by omega, by go_num, by omega, Lib.hid (by rw [hHy.out, Nat.div_div_eq_div_mul, Nat.pow_succ]), ?_, hL.alloc hL.size _⟩
            rw [tailB_succ, ← hHy.out]
            exact congrArg Value.string (bs_app [UInt8.ofNat y] (tailB m k))
          case measure => simp [intOf]; omega
end Go.Proofs.YtdlmamnnamlleaaDoor
namespace Go.Proofs.YtdlmamnnamlleaaDoor
open Go Go.RowKit

section
variable {P : Program} {W : World}
theorem run_app_row {t ty e : TypeId} {bytes : Nat} (S : SlT P t e 1 bytes) {g N n c : Nat} {ad : Addr} {u : Value} (hR : Row W g N) (hn : n < N) (hu : W.cell? ad = some u) (h1 : u.oneCell' = true) :
    (Builtin.append_ #[t, t] ty #[.slice (some ⟨g, 0, none⟩) n N, .slice (some ad) 1 c]).run P W = .ok (.slice (some ⟨g, 0, none⟩) (n + 1) N) (W.setCell ⟨g, n, none⟩ u) := by
  obtain ⟨i, z, hi, -, hs, -⟩ := S.info
  have hcell : W.cell? ⟨g, n, none⟩ = (rowAt W g)[n]? := hR.cell n
  have hsz := hR.size
  have h := run_append_room_cells (P := P) W t ty e i S.under hi g 0 n N ad 1 c [u] (by simp [hs]) (fun j v hj => by
      cases j with
      | zero =>
        simp at hj
        subst hj
        have : ad.add 0 = ad := by unfold Addr.add; simp
        rw [this]; exact hu
      | succ j => simp at hj) (by simpa using h1) (by omega)
    (fun j hj => by
      have : j = 0 := by simpa using hj
      subst this
      simp only [hs, Nat.zero_add, Nat.mul_one, Nat.add_zero]
      rw [hcell, Array.getElem?_eq_getElem (by omega)]; rfl)
    (fun j hj => by
      have : j = 0 := by simpa using hj
      subst this
      exact hR.frozen _)
  rw [h]
  simp [World.setCells, hs]
theorem wp_app_row {o : Oper} {a : Act} {K : Act → World → Prop} {Q : Exit → Act → World → Prop} (s x : Operand) (t : TypeId)
    (ho : o.op = .call { callee := .builtin .append, args := #[s, x], argTypes := #[t, t] }) {e : TypeId} {bytes : Nat} (S : SlT P t e 1 bytes) {g N n c : Nat} {ad : Addr} {u : Value}
    (hs : a.eval s = .slice (some ⟨g, 0, none⟩) n N) (hx : a.eval x = .slice (some ad) 1 c) (hR : Row W g N) (hn : n < N) (hu : W.cell? ad = some u) (h1 : u.oneCell' = true)
    (h : K (a.put o.dst (.slice (some ⟨g, 0, none⟩) (n + 1) N)) (W.setCell ⟨g, n, none⟩ u)) : o.wp P a W K Q := by
  have hrun := run_app_row (P := P) (ty := o.type) (c := c) S hR hn hu h1
  unfold Oper.wp execOp
  simp only [ho, resolve, invoke, builtin, Sem.run_bind, Sem.run_pure, Result.andThen_ok, List.map_toArray, List.map_cons, List.map_nil, hs, hx, hrun]
  exact h
theorem step_app_row {ops : Array Oper} {o : Oper} {a : Act} {K : Act → World → Prop} {Q : Exit → Act → World → Prop} {E : Prop} (hgd : o.guard = none) (s x : Operand) (t : TypeId)
    (ho : o.op = .call { callee := .builtin .append, args := #[s, x], argTypes := #[t, t] }) {e : TypeId} {bytes : Nat} (S : SlT P t e 1 bytes) {g N n c : Nat} {ad : Addr} {u : Value}
    (hs : a.eval s = .slice (some ⟨g, 0, none⟩) n N) (hx : a.eval x = .slice (some ad) 1 c) (hR : Row W g N) (hn : n < N) (hu : W.cell? ad = some u) (h1 : u.oneCell' = true)
    (h : K (a.put o.dst (.slice (some ⟨g, 0, none⟩) (n + 1) N)) (W.setCell ⟨g, n, none⟩ u)) : if Region.wanted o (yielded ops a.tmps) = true then Oper.wp P o a W K Q else E := by
  have hw : Region.wanted o (yielded ops a.tmps) = true := by simp [Region.wanted, hgd]
  rw [if_pos hw]
  exact wp_app_row s x t ho S hs hx hR hn hu h1 h
theorem wpList_app_row {ops : Array Oper} {rest : List Oper} {o : Oper} {a : Act} {Q : Exit → Act → World → Prop} (hgd : o.guard = none) (s x : Operand) (t : TypeId)
    (ho : o.op = .call { callee := .builtin .append, args := #[s, x], argTypes := #[t, t] }) {e : TypeId} {bytes : Nat} (S : SlT P t e 1 bytes) {g N n c : Nat} {ad : Addr} {u : Value}
    (hs : a.eval s = .slice (some ⟨g, 0, none⟩) n N) (hx : a.eval x = .slice (some ad) 1 c) (hR : Row W g N) (hn : n < N) (hu : W.cell? ad = some u) (h1 : u.oneCell' = true)
    (h : wpList P ops Q rest (a.put o.dst (.slice (some ⟨g, 0, none⟩) (n + 1) N)) (W.setCell ⟨g, n, none⟩ u)) : wpList P ops Q (o :: rest) a W :=
  wpList_plain hgd fun _ hK => wp_app_row s x t ho S hs hx hR hn hu h1 (hK _ _ h)
theorem below_drewN {B : Nat} {w w' : World} (h : Below B w w') (n : Nat) : Below B w (w'.drewN n) := ⟨h.os, h.tape, h.output, h.size, h.block⟩
/-- A contract that leaves the world as it was, in a region that only reads. -/
theorem qsame {f : FuncId} {args : Array Value} {w : World} {n : Nat} {v : Value} (h : Calls P f args (w.drewN n) fun e w' => e = .returned v ∧ w.drewN n = w') : Calls P f args (w.drewN n) fun e w'' => e = .returned v ∧ ∃ m, w'' = w.drewN m :=
  h.mono fun _ _ ⟨he, hm⟩ => ⟨he, n, hm.symm⟩
/-- The cell of a block that was just made. -/
theorem cell_new1 {w : World} {u : Value} {te : TypeId} {g : Nat} (hg : g = w.heap.size) : (w.alloc (.cells #[u] te)).cell? ⟨g, 0, none⟩ = some u := by
  subst hg
  unfold World.cell?
  rw [push_new]
  rfl
end

section
variable {P : Program} {w0 W : World} {B : Nat} {e : TypeId} {v : Value} {xs : List Value}
theorem step_own {ops : Array Oper} {o : Oper} {a : Act} {K : Act → World → Prop} {Q : Exit → Act → World → Prop} {E : Prop} (hgd : o.guard = none) (s x : Operand) (t : TypeId)
    (ho : o.op = .call { callee := .builtin .append, args := #[s, x], argTypes := #[t, t] }) {bytes : Nat} (S : SlT P t e 1 bytes) (hs : a.eval s = v) (hO : Own w0 B e v xs W)
    {B' : Nat} {A : Option Addr} {c : Nat} {news : List Value} (hx : a.eval x = .slice A news.length c) (hr : Rd W B' A news) (h1 : ∀ u ∈ news, u.oneCell' = true)
    (h63 : xs.length + news.length ≤ maxLen) (hbytes : (xs.length + news.length) * bytes ≤ 140737488355328)
    (h : ∀ v' w', Own w0 B e v' (xs ++ news) w' → K (a.put o.dst v') w') :
    if Region.wanted o (yielded ops a.tmps) = true then Oper.wp P o a W K Q else E :=
  step_app hgd s x t ho S hs hO.own hx (by simp) hr h1 h63 hbytes hO.sz fun v' w' h2 h3 _ =>
    h v' w' ⟨by rw [List.length_append]; exact h2, hO.bel.grown h3 hO.sz (fun k hk => (hO.own.lt k hk).1), Nat.le_trans hO.sz h3.size⟩
end
end Go.Proofs.YtdlmamnnamlleaaDoor
namespace Go.Proofs.YtdlmamnnamlleaaDoor
open Go.ChangeShapes Go.WideShapes Go.ChangeAt Go.RowKit
set_option maxHeartbeats 2000000
set_option maxRecDepth 100000
theorem u32_wrapn (x : W32) : IntKind.u32.wrap (w2n x : Int) = (w2n x : Int) := by have := w2n_lt x; rw [IntKind.wrap_u32]; omega
theorem sum4 (x y s t : W32) : x + y + s + t = x + s + y + t := by rw [BitVec.add_assoc x y, BitVec.add_comm y, ← BitVec.add_assoc]
attribute [local go_sem] u32_wrapn u32_xor' u32_and' u32_or' u32_add' u32_addw' u32_shr3 u32_shr10 u32_shr' u32_shl' u32_shlw' u32_not2 u32_not'

theorem cell_al {w : World} {o : Obj} {g i : Nat} {v : Value} (h : w.cell? ⟨g, i, none⟩ = some v) (hg : g < w.heap.size) : (w.alloc o).cell? ⟨g, i, none⟩ = some v := ((below_alloc w o).cell (p := ⟨g, i, none⟩) hg).trans h
theorem ref_turn2 (x : W32) (w : World) : Calls Tryd.prog 105 #[u32v x, .int .u64 2] w fun e w' => e = .returned (u32v (rotr x 2)) ∧ w = w' := ref_turn x 2 w (by omega) (by omega)
theorem ref_turn6 (x : W32) (w : World) : Calls Tryd.prog 105 #[u32v x, .int .u64 6] w fun e w' => e = .returned (u32v (rotr x 6)) ∧ w = w' := ref_turn x 6 w (by omega) (by omega)
theorem ref_turn7 (x : W32) (w : World) : Calls Tryd.prog 105 #[u32v x, .int .u64 7] w fun e w' => e = .returned (u32v (rotr x 7)) ∧ w = w' := ref_turn x 7 w (by omega) (by omega)
theorem ref_turn11 (x : W32) (w : World) : Calls Tryd.prog 105 #[u32v x, .int .u64 11] w fun e w' => e = .returned (u32v (rotr x 11)) ∧ w = w' := ref_turn x 11 w (by omega) (by omega)
theorem ref_turn13 (x : W32) (w : World) : Calls Tryd.prog 105 #[u32v x, .int .u64 13] w fun e w' => e = .returned (u32v (rotr x 13)) ∧ w = w' := ref_turn x 13 w (by omega) (by omega)
theorem ref_turn17 (x : W32) (w : World) : Calls Tryd.prog 105 #[u32v x, .int .u64 17] w fun e w' => e = .returned (u32v (rotr x 17)) ∧ w = w' := ref_turn x 17 w (by omega) (by omega)
theorem ref_turn18 (x : W32) (w : World) : Calls Tryd.prog 105 #[u32v x, .int .u64 18] w fun e w' => e = .returned (u32v (rotr x 18)) ∧ w = w' := ref_turn x 18 w (by omega) (by omega)
theorem ref_turn19 (x : W32) (w : World) : Calls Tryd.prog 105 #[u32v x, .int .u64 19] w fun e w' => e = .returned (u32v (rotr x 19)) ∧ w = w' := ref_turn x 19 w (by omega) (by omega)
theorem ref_turn22 (x : W32) (w : World) : Calls Tryd.prog 105 #[u32v x, .int .u64 22] w fun e w' => e = .returned (u32v (rotr x 22)) ∧ w = w' := ref_turn x 22 w (by omega) (by omega)
theorem ref_turn25 (x : W32) (w : World) : Calls Tryd.prog 105 #[u32v x, .int .u64 25] w fun e w' => e = .returned (u32v (rotr x 25)) ∧ w = w' := ref_turn x 25 w (by omega) (by omega)
theorem SW4 : SlT Tryd.prog 107 95 1 4 := SlT.mk' Tryd.underlying107 (by kernel_rfl) (by omega)
/-- The first k of four bytes. -/
def pk (f : Nat → Nat) (p : Nat) : Nat → Nat
  | 0 => 0
  | k + 1 => pk f p k * 256 + f (p + k)
theorem pk_lt {f : Nat → Nat} (hf : ∀ i, f i < 256) (p : Nat) : ∀ k, pk f p k < 256 ^ k
  | 0 => by simp [pk]
  | k + 1 => by
      have h1 := pk_lt hf p k
      have h2 := hf (p + k)
      rw [pk, Nat.pow_succ]; omega
theorem pk_4 {f : Nat → Nat} (p : Nat) : BitVec.ofNat 32 (pk f p 4) = be32 f p := by
  unfold be32
  simp only [pk, Nat.zero_mul, Nat.zero_add, Nat.add_zero]
  congr 1
  omega
theorem str_ix {P : Program} {t : TypeId} (ht : P.underlying t = some .string) {l : List UInt8} {i : Nat} (hi : i < l.length) (k : IntKind) (W : World) : (Instr.index t (strV l) (.int k (i : Int))).run P W = .ok (.int .u8 (bytesF l i : Int)) W := by
  have h : (0 : Int) ≤ (i : Int) ∧ (i : Int) < ((⟨l.toArray⟩ : ByteArray).size : Int) := ⟨by omega, by simpa [ByteArray.size] using hi⟩
  rw [run_index_string W t _ k _ ht, dif_pos h, bytesF_at hi]
  rfl
theorem ref_block (K h : Nat → W32) (g c : Nat) (l : List UInt8) (w : World) (hl : l.length = 64) (hh : HsAt w g h)
    (hK : ∀ i < 64, w.cell? ⟨0, i, none⟩ = some (u32v (K i))) (hKl : 0 < w.heap.size) :
    Calls Tryd.prog 78 #[.slice (some ⟨g, 0, none⟩) 8 c, strV l] w (RetH (blk K h l) w) := by
  have hmk : ∀ W : World, (Instr.makeSlice 107 (.int .i64 0) (.int .i64 64)).run Tryd.prog W = .ok (.slice (some ⟨W.heap.size, 0, none⟩) 0 64) (W.alloc (.cells (arrK .u32 64 fun _ => 0) 95)) := fun _ => by kernel_rfl
  have hR0 : Row (w.alloc (.cells (arrK .u32 64 fun _ => 0) 95)) w.heap.size 64 := (row_new rfl).2 (arrK_size _ _ _)
  have hr0 : rowAt (w.alloc (.cells (arrK .u32 64 fun _ => 0) 95)) w.heap.size = arrK .u32 64 (wK (fun i => be32 (bytesF l) (4 * i)) 0) := (rowAt_new rfl).trans (arrK_congr fun i _ => by simp [wK])
  have hL0 : Below w.heap.size w (w.alloc (.cells (arrK .u32 64 fun _ => 0) 95)) := by go_grown
  have hfl := bytesF_lt l
  have hHf := Lib.hid hfl
  have hHK := Lib.hid hK
  have hHh := Lib.hid hh
  clear hfl hK hh
  go_enter Tryd.func78, Tryd.ntmps78
  go_wp2
  clear hmk
  generalize (w.alloc (.cells (arrK .u32 64 fun _ => 0) 95)) = W0 at *
  generalize hbe : (fun i => be32 (bytesF l) (4 * i)) = b at *
  have hHb := Lib.hid hbe
  clear hbe
  go_loopw [5, 6] (fun v i wr => ∃ j : Nat, i = .int .i64 (4 * (j : Int)) ∧ j ≤ 16 ∧ v = .slice (some ⟨w.heap.size, 0, none⟩) j 64 ∧ Row wr w.heap.size 64 ∧ rowAt wr w.heap.size = arrK .u32 64 (wK b j) ∧ Below w.heap.size w wr) (fun _ i _ => 64 - (intOf i).toNat)
  case atStart => exact ⟨0, rfl, by omega, rfl, hR0, hr0, hL0⟩
  case round =>
    clear hR0 hr0 hL0
    obtain ⟨j, rfl, hj, rfl, hR, hr, hL⟩ := hrel
    by_cases h16 : j = 16
    · subst h16
      go_wp2
      rw [show (4 * ((16 : Nat) : Int)) = (64 : Int) from rfl]
      go_loopw [5] (fun v wr => ∃ n : Nat, 16 ≤ n ∧ n ≤ 64 ∧ v = .slice (some ⟨w.heap.size, 0, none⟩) n 64 ∧ Row wr w.heap.size 64 ∧ rowAt wr w.heap.size = arrK .u32 64 (wK b n) ∧ Below w.heap.size w wr) (fun v _ => 64 - lenV v)
      case atStart => exact ⟨16, by omega, by omega, rfl, hR, hr, hL⟩
      case round =>
        clear hR hr hL
        obtain ⟨n, hn1, hn2, rfl, hR, hr, hL⟩ := hrel
        by_cases h64 : n = 64
        · subst h64
          have h64e : arrK .u32 64 (wK b 64) = arrK .u32 64 (fun i => w2n (sch b i)) := arrK_congr fun i hi => wK_at b hi
          have hcw : ∀ i, i < 64 → wr.cell? ⟨w.heap.size, i, none⟩ = some (u32v (sch b i)) := fun i hi => by rw [hR.cell, hr, arrK_at hi, wK_at b hi]
          have hH := hHh.out.below hL hHh.out.lt
          have c0 := hH.at_ 0 (by omega)
          have c1 := hH.at_ 1 (by omega)
          have c2 := hH.at_ 2 (by omega)
          have c3 := hH.at_ 3 (by omega)
          have c4 := hH.at_ 4 (by omega)
          have c5 := hH.at_ 5 (by omega)
          have c6 := hH.at_ 6 (by omega)
          have c7 := hH.at_ 7 (by omega)
          have hKw : ∀ i, i < 64 → wr.cell? ⟨0, i, none⟩ = some (u32v (K i)) := fun i hi => ((bcell hL).1 _ _ hKl).trans (hHK.out i hi)
          have hHcw := Lib.hid hcw
          have hHKw := Lib.hid hKw
          have hHH := Lib.hid hH
          clear hcw hKw hH hR hr h64e
          go_wp2
          go_quiet (fail)
          go_wp2
          have hL0 := below_drewN hL nq
          have hcw0 : Hid (∀ i, i < 64 → (wr.drewN nq).cell? ⟨w.heap.size, i, none⟩ = some (u32v (sch b i))) := Lib.hid hHcw.out
          have hKw0 : Hid (∀ i, i < 64 → (wr.drewN nq).cell? ⟨0, i, none⟩ = some (u32v (K i))) := Lib.hid hHKw.out
          have hH0 : Hid (HsAt (wr.drewN nq) g h) := Lib.hid ⟨hHH.out.lt, hHH.out.at_⟩
          clear c0 c1 c2 c3 c4 c5 c6 c7 hHcw hHKw hHH hL
          generalize wr.drewN nq = W1 at *
          go_loopw [12, 13, 14, 15, 16, 17, 18, 19, 119] (fun x0 x1 x2 x3 x4 x5 x6 x7 i wr => ∃ t : Nat, i = .int .i64 t ∧ t ≤ 64 ∧ x0 = u32v (rounds K (sch b) h t 0) ∧ x1 = u32v (rounds K (sch b) h t 1) ∧ x2 = u32v (rounds K (sch b) h t 2) ∧ x3 = u32v (rounds K (sch b) h t 3) ∧ x4 = u32v (rounds K (sch b) h t 4) ∧ x5 = u32v (rounds K (sch b) h t 5) ∧ x6 = u32v (rounds K (sch b) h t 6) ∧ x7 = u32v (rounds K (sch b) h t 7) ∧ Hid (∀ i, i < 64 → wr.cell? ⟨w.heap.size, i, none⟩ = some (u32v (sch b i))) ∧ Hid (∀ i, i < 64 → wr.cell? ⟨0, i, none⟩ = some (u32v (K i))) ∧ Hid (HsAt wr g h) ∧ Below w.heap.size w wr) (fun _ _ _ _ _ _ _ _ i _ => 64 - (intOf i).toNat)
          case atStart => exact ⟨0, rfl, by omega, rfl, rfl, rfl, rfl, rfl, rfl, rfl, rfl, hcw0, hKw0, hH0, hL0⟩
          case round =>
            clear hcw0 hKw0 hH0 hL0
            obtain ⟨t, rfl, ht, rfl, rfl, rfl, rfl, rfl, rfl, rfl, rfl, hcw, hKw, hH, hL⟩ := hrel
            by_cases h64 : t = 64
            · subst h64
              have hH := hH.out
              have c0 := hH.at_ 0 (by omega)
              have c1 := hH.at_ 1 (by omega)
              have c2 := hH.at_ 2 (by omega)
              have c3 := hH.at_ 3 (by omega)
              have c4 := hH.at_ 4 (by omega)
              have c5 := hH.at_ 5 (by omega)
              have c6 := hH.at_ 6 (by omega)
              have c7 := hH.at_ 7 (by omega)
              have hfin := Lib.hid (show blk K h l = fun i => h i + rounds K (sch b) h 64 i by unfold blk prs; rw [← hHb.out])
              have hHH := Lib.hid hH
              clear hH
              generalize rounds K (sch b) h 64 = v at *
              go_wp2
              go_still_tail 40, (by kernel_rfl)
              change wpList _ _ _ _ _ wr.drew
              have hLd := hL.drew
              generalize wr.drew = W2 at *
              go_wp2
              go_ret
              refine ⟨W2.heap.size, 8, rfl, by omega, by unfold maxLen; omega, ?_, hLd.alloc hLd.size _⟩
              rw [hfin.out]
              exact Eq.mpr (congrArg (fun cs => HsAt (W2.alloc (.cells cs 95)) W2.heap.size fun i => h i + v i) (arrK8' .u32 fun i => w2n (h i + v i))) (hsAt_new _ rfl)
            · have ht64 : t < 64 := by omega
              have hrs := Lib.hid (show rounds K (sch b) h (t + 1) = rnd (K t) (sch b t) (rounds K (sch b) h t) from rfl)
              generalize rounds K (sch b) h t = v at *
              have ck := hKw.out t ht64
              have cw := hcw.out t ht64
              have mt : (t : Int) < 64 := by omega
              have zt : (0 : Int) ≤ (t : Int) := by omega
              go_wp2
              go_region_held3 (fun w' => w'.cell? ⟨0, t, none⟩ = some (u32v (K t))) (exact ck)
                (first
                  | (go_at_call 105; (first | with_reducible refine (ref_turn6 _ _).mono ?_ | with_reducible refine (ref_turn11 _ _).mono ?_ | with_reducible refine (ref_turn25 _ _).mono ?_); rintro e w' ⟨rfl, rfl⟩)
                  | (go_at_call 106; with_reducible refine (ref_choose _ _ _ _).mono ?_; rintro e w' ⟨rfl, rfl⟩))
              go_wp2_with (first | (go_at_call 105; (first | with_reducible refine (ref_turn2 _ _).mono ?_ | with_reducible refine (ref_turn13 _ _).mono ?_ | with_reducible refine (ref_turn22 _ _).mono ?_); rintro e w' ⟨rfl, rfl⟩) | (go_at_call 107; refine (ref_most _ _ _ _).mono ?_; rintro e w' ⟨rfl, rfl⟩))
              go_round
              case rel => exact ⟨t + 1, by go_num, by omega, by rw [hrs.out]; rfl, by rw [hrs.out]; rfl, by rw [hrs.out]; rfl, by rw [hrs.out]; rfl, by rw [hrs.out]; rfl, by rw [hrs.out]; rfl, by rw [hrs.out]; rfl, by rw [hrs.out]; rfl, Lib.hid hcw.out, Lib.hid hKw.out, Lib.hid ⟨hH.out.lt, hH.out.at_⟩, hL.drew⟩
              case measure => simp [intOf]; omega
        · have hn64 : n < 64 := by omega
          have hcell : ∀ i, i < n → wr.cell? ⟨w.heap.size, i, none⟩ = some (u32v (sch b i)) := fun i hi => by rw [hR.cell, hr, arrK_at (by omega), wK_at b hi]
          obtain ⟨a1, ha1⟩ : ∃ a1, a1 = n - 16 := ⟨_, rfl⟩
          obtain ⟨a2, ha2⟩ : ∃ a2, a2 = n - 15 := ⟨_, rfl⟩
          obtain ⟨a3, ha3⟩ : ∃ a3, a3 = n - 7 := ⟨_, rfl⟩
          obtain ⟨a4, ha4⟩ : ∃ a4, a4 = n - 2 := ⟨_, rfl⟩
          have hsb := sch_hi b (t := n) (by omega)
          rw [← ha1, ← ha2, ← ha3, ← ha4] at hsb
          have hi1 : (n : Int) - 16 = a1 := by omega
          have hi2 : (n : Int) - 15 = a2 := by omega
          have hi3 : (n : Int) - 7 = a3 := by omega
          have hi4 : (n : Int) - 2 = a4 := by omega
          have l1 : a1 < n := by omega
          have l2 : a2 < n := by omega
          have l3 : a3 < n := by omega
          have l4 : a4 < n := by omega
          have c1 := hcell a1 l1
          have c2 := hcell a2 l2
          have c3 := hcell a3 l3
          have c4 := hcell a4 l4
          have hw1 : IntKind.i64.wrap (a1 : Int) = a1 := by rw [IntKind.wrap_i64]; omega
          have hw2 : IntKind.i64.wrap (a2 : Int) = a2 := by rw [IntKind.wrap_i64]; omega
          have hw3 : IntKind.i64.wrap (a3 : Int) = a3 := by rw [IntKind.wrap_i64]; omega
          have hw4 : IntKind.i64.wrap (a4 : Int) = a4 := by rw [IntKind.wrap_i64]; omega
          have m1 : (a1 : Int) < n := by omega
          have m2 : (a2 : Int) < n := by omega
          have m3 : (a3 : Int) < n := by omega
          have m4 : (a4 : Int) < n := by omega
          have z1 : (0 : Int) ≤ (a1 : Int) := by omega
          have z2 : (0 : Int) ≤ (a2 : Int) := by omega
          have z3 : (0 : Int) ≤ (a3 : Int) := by omega
          have z4 : (0 : Int) ≤ (a4 : Int) := by omega
          have hHsb := Lib.hid hsb
          have hHr := Lib.hid hr
          have hst := Lib.hid (arrK_congr (k := .u32) (n := 64) fun p _ => wK_step b n p)
          clear hsb hcell ha1 ha2 ha3 ha4 hr
          go_wp2
          go_quiet (fail)
          go_wp2
          have hne1 : a1 ≠ n := by omega
          have hglt := hR.lt
          have hR' : ∀ o, Row (wr.alloc o) w.heap.size 64 := fun o => (row_old hR.lt).2 hR
          have hne3 : a3 ≠ n := by omega
          go_region_held3 (fun w' => w'.cell? ⟨w.heap.size, a1, none⟩ = some (u32v (sch b a1)) ∧ w'.cell? ⟨w.heap.size, a3, none⟩ = some (u32v (sch b a3)))
            (first | exact ⟨c1, c3⟩ | exact ⟨cell_ne (cell_al c1 hglt) hne1, cell_ne (cell_al c3 hglt) hne3⟩ | go_keep)
            (first
              | (go_at_call 105; (first | with_reducible refine (ref_turn7 _ _).mono ?_ | with_reducible refine (ref_turn18 _ _).mono ?_ | with_reducible refine (ref_turn17 _ _).mono ?_ | with_reducible refine (ref_turn19 _ _).mono ?_); rintro e w' ⟨rfl, rfl⟩)
              | (refine step_app_row rfl (.tmp 61) (.tmp 91) 107 rfl SW4 rfl rfl (hR' _) hn64 (cell_new1 rfl) rfl ?_))
          go_wp2
          go_round
          case rel =>
            refine ⟨n + 1, by omega, by omega, rfl, row_setCell.2 (hR' _), ?_, ?_⟩
            · rw [rowAt_setCell_same, rowAt_old (w := wr.drewN _) hglt, rowAt_drewN, hHr.out, sum4, arrK_set, ← hst.out, hHsb.out]
              rfl
            · exact ((below_drewN hL _).alloc hL.size _).setCell (Nat.le_refl _) _
          case measure => simp [lenV]; omega
    · have hj16 : j < 16 := by omega
      go_wp2
      go_loop [7, 29] (fun x i => ∃ k : Nat, i = .int .i64 k ∧ k ≤ 4 ∧ x = .int .u32 (pk (bytesF l) (4 * j) k : Int)) (fun _ i => 4 - (intOf i).toNat)
      case atStart => exact ⟨0, rfl, by omega, rfl⟩
      case round =>
        obtain ⟨k, rfl, hk, rfl⟩ := hrel
        have hpl := pk_lt hHf.out (4 * j) k
        by_cases h4 : k = 4
        · subst h4
          have e : (pk (bytesF l) (4 * j) 4 : Int) = (w2n (sch b j) : Int) := by
            rw [sch_lo b hj16, ← hHb.out]
            show _ = (w2n (be32 (bytesF l) (4 * j)) : Int)
            rw [← pk_4, w2n_of (by omega)]
          rw [e]
          clear e hpl
          have hst := Lib.hid (arrK_congr (k := .u32) (n := 64) fun p _ => wK_step b j p)
          have hR' : ∀ o, Row (wr.alloc o) w.heap.size 64 := fun o => (row_old hR.lt).2 hR
          go_wp2_with (at_builtin; refine wpList_app_row (o := ⟨some 45, _, _, _, _, _⟩) rfl (.tmp 42) (.tmp 44) 107 rfl SW4 rfl rfl (hR' _) (by omega) (cell_new1 rfl) rfl ?_)
          go_roundw
          case rel =>
            refine ⟨j + 1, by go_num, by omega, rfl, row_setCell.2 (hR' _), ?_, ((hL.alloc hL.size _).setCell (Nat.le_refl _) _)⟩
            rw [rowAt_setCell_same, rowAt_old hR.lt, hr, arrK_set, hst.out]
          case measure => simp [intOf]; omega
        · have hpl3 : pk (bytesF l) (4 * j) k < 16777216 := Nat.lt_of_lt_of_le hpl (Nat.pow_le_pow_right (by omega) (show k ≤ 3 by omega))
          have hfb := hHf.out (4 * j + k)
          have hix : ∀ W : World, (Instr.index 9 (strV l) (.int .i64 (4 * (j : Int) + (k : Int)))).run Tryd.prog W = .ok (.int .u8 (bytesF l (4 * j + k) : Int)) W := fun W => by
            have := str_ix (P := Tryd.prog) Tryd.underlying9 (l := l) (i := 4 * j + k) (by omega) .i64 W
            push_cast at this
            exact this
          clear hpl
          have hst := Lib.hid (show pk (bytesF l) (4 * j) (k + 1) = pk (bytesF l) (4 * j) k * 256 + bytesF l (4 * j + k) from rfl)
          generalize bytesF l (4 * j + k) = y at *
          generalize pk (bytesF l) (4 * j) k = x at *
          go_wp2
          go_round
          case rel => exact ⟨k + 1, by go_num, by omega, by rw [hst.out]; go_num⟩
          case measure => simp [intOf]; omega
end Go.Proofs.YtdlmamnnamlleaaDoor
namespace Go.Proofs.YtdlmamnnamlleaaDoor
open Go.ChangeShapes Go.WideShapes Go.ChangeAt Go.RowKit
set_option maxHeartbeats 2000000
set_option maxRecDepth 100000
attribute [local irreducible] arrV
attribute [local go_sem ↓] load_state store_state execl_state execs_state load_words
attribute [local go_sem] isHead_mk isPart_mk offOf_mk blkOf_mk isAgg_mk cellsV_mk row_drew rowAt_drew row_new_cells row_old rowAt_new rowAt_old setRow_new stC_words

theorem load_o32 {w : World} {dst : Option Tmp} {x : Operand} {tt : TypeId} {pos : String} {af : Array Edge} {gd : Option (Nat × Bool)} {a : Act} {K : Act → World → Prop} {Q : Exit → Act → World → Prop}
    (hv : IsHead (a.eval x)) (h : Row w (blkOf (a.eval x)) 32) : Oper.wp Tryd.prog ⟨dst, .load 57 x, tt, pos, af, gd⟩ a w K Q ↔ K (a.put dst (.agg (rowAt w (blkOf (a.eval x))))) w :=
  wp_load_whole Tryd.underlying57 rfl (by kernel_rfl) hv h
theorem store_o32 {w : World} {dst : Option Tmp} {x y : Operand} {tt : TypeId} {pos : String} {af : Array Edge} {gd : Option (Nat × Bool)} {a : Act} {K : Act → World → Prop} {Q : Exit → Act → World → Prop}
    (hv : IsHead (a.eval x)) (h : Row w (blkOf (a.eval x)) 32) (hx : IsAgg (a.eval y) 32) : Oper.wp Tryd.prog ⟨dst, .store 57 x y, tt, pos, af, gd⟩ a w K Q ↔ K (a.put dst undef) (w.setRow (blkOf (a.eval x)) (cellsV (a.eval y))) :=
  wp_store_whole (by kernel_rfl) hv h hx
theorem execl_o32 {w : World} {dst : Option Tmp} {x : Operand} {tt : TypeId} {pos : String} {af : Array Edge} {gd : Option (Nat × Bool)} {ρ : Operand → Value}
    (hv : IsHead (ρ x)) (h : Row w (blkOf (ρ x)) 32) : (execOp ρ ⟨dst, .load 57 x, tt, pos, af, gd⟩).run Tryd.prog w = .ok (.value (.agg (rowAt w (blkOf (ρ x))))) w :=
  exec_load_whole Tryd.underlying57 rfl (by kernel_rfl) hv h
theorem execs_o32 {w : World} {dst : Option Tmp} {x y : Operand} {tt : TypeId} {pos : String} {af : Array Edge} {gd : Option (Nat × Bool)} {ρ : Operand → Value}
    (hv : IsHead (ρ x)) (h : Row w (blkOf (ρ x)) 32) (hx : IsAgg (ρ y) 32) : (execOp ρ ⟨dst, .store 57 x y, tt, pos, af, gd⟩).run Tryd.prog w = .ok .skip (w.setRow (blkOf (ρ x)) (cellsV (ρ y))) :=
  exec_store_whole (by kernel_rfl) hv h hx
attribute [local go_sem ↓] load_o32 store_o32
theorem zeroB32 : #[Value.int IntKind.u8 0, Value.int IntKind.u8 0, Value.int IntKind.u8 0, Value.int IntKind.u8 0, Value.int IntKind.u8 0, Value.int IntKind.u8 0, Value.int IntKind.u8 0, Value.int IntKind.u8 0, Value.int IntKind.u8 0, Value.int IntKind.u8 0, Value.int IntKind.u8 0, Value.int IntKind.u8 0, Value.int IntKind.u8 0, Value.int IntKind.u8 0, Value.int IntKind.u8 0, Value.int IntKind.u8 0, Value.int IntKind.u8 0, Value.int IntKind.u8 0, Value.int IntKind.u8 0, Value.int IntKind.u8 0, Value.int IntKind.u8 0, Value.int IntKind.u8 0, Value.int IntKind.u8 0, Value.int IntKind.u8 0, Value.int IntKind.u8 0, Value.int IntKind.u8 0, Value.int IntKind.u8 0, Value.int IntKind.u8 0, Value.int IntKind.u8 0, Value.int IntKind.u8 0, Value.int IntKind.u8 0, Value.int IntKind.u8 0] = arrK .u8 32 fun _ => 0 := by kernel_rfl

def outK (h : Nat → W32) (k : Nat) : Nat → Nat := fun i => if i / 4 < k then outF h i else 0
theorem outK_step (h : Nat → W32) {k q : Nat} (hq : q = 4 * k) : arrK .u8 32 (upd (upd (upd (upd (outK h k) q (w2n (h k) / 16777216 % 256)) (q + 1) (w2n (h k) / 65536 % 256)) (q + 2) (w2n (h k) / 256 % 256)) (q + 3) (w2n (h k) % 256)) = arrK .u8 32 (outK h (k + 1)) := by
  refine arrK_congr fun i hi => ?_
  unfold upd outK outF
  subst hq
  by_cases e3 : i = 4 * k + 3
  · subst e3
    rw [if_pos rfl, if_pos (by omega), show (4 * k + 3) / 4 = k by omega, show (4 * k + 3) % 4 = 3 by omega]
    simp
  · rw [if_neg e3]
    by_cases e2 : i = 4 * k + 2
    · subst e2
      rw [if_pos rfl, if_pos (by omega), show (4 * k + 2) / 4 = k by omega, show (4 * k + 2) % 4 = 2 by omega]
    · rw [if_neg e2]
      by_cases e1 : i = 4 * k + 1
      · subst e1
        rw [if_pos rfl, if_pos (by omega), show (4 * k + 1) / 4 = k by omega, show (4 * k + 1) % 4 = 1 by omega]
      · rw [if_neg e1]
        by_cases e0 : i = 4 * k
        · subst e0
          rw [if_pos rfl, if_pos (by omega), show 4 * k / 4 = k by omega, show 4 * k % 4 = 0 by omega]
        · rw [if_neg e0]
          by_cases h1 : i / 4 < k
          · rw [if_pos h1, if_pos (by omega)]
          · rw [if_neg h1, if_neg (by omega)]
theorem hash_StSum (K : Nat → W32) (s : St) (w : World) (hs : s.ok)
    (hK : ∀ i < 64, w.cell? ⟨1, i, none⟩ = some (u32v (K i))) (hKl : 1 < w.heap.size) :
    Calls Tryd.prog 76 #[.agg s.cells] w fun e w' => e = .returned (.agg (arrK .u8 32 (outF (s.write K (padL s.m)).h))) ∧ Below w.heap.size w w' := by
  have hch := stC_cells s.h s.m s.f
  have hcz := arrK_cells .u8 32 fun _ => 0
  have hL0 : Below w.heap.size w ((w.alloc (Obj.cells s.cells 99)).alloc (Obj.cells (arrK .u8 32 fun _ => 0) 57)) := by go_grown
  have hR0 : Row ((w.alloc (Obj.cells s.cells 99)).alloc (Obj.cells (arrK .u8 32 fun _ => 0) 57)) w.heap.size 73 := (row_old (by simp)).2 ((row_new rfl).2 hch.1)
  have hr0 : rowAt ((w.alloc (Obj.cells s.cells 99)).alloc (Obj.cells (arrK .u8 32 fun _ => 0) 57)) w.heap.size = s.cells := (rowAt_old (by simp)).trans (rowAt_new rfl)
  have hR1 : Row ((w.alloc (Obj.cells s.cells 99)).alloc (Obj.cells (arrK .u8 32 fun _ => 0) 57)) (w.heap.size + 1) 32 := (row_new (by simp)).2 hcz.1
  have hK0 : ∀ i < 64, ((w.alloc (Obj.cells s.cells 99)).alloc (Obj.cells (arrK .u8 32 fun _ => 0) 57)).cell? ⟨1, i, none⟩ = some (u32v (K i)) := fun i hi => ((bcell hL0).1 _ _ hKl).trans (hK i hi)
  have hsz : w.heap.size + 2 ≤ ((w.alloc (Obj.cells s.cells 99)).alloc (Obj.cells (arrK .u8 32 fun _ => 0) 57)).heap.size := by simp
  have hHK := Lib.hid hK0
  clear hK hK0
  go_enter Tryd.func76, Tryd.ntmps76
  go_wp2
  rw [zeroB32]
  generalize ((w.alloc (Obj.cells s.cells 99)).alloc (Obj.cells (arrK .u8 32 fun _ => 0) 57)) = W0 at *
  have hHr := Lib.hid hr0
  have hc8 : W0.cell? ⟨w.heap.size, 8, none⟩ = some (.int .u64 (s.m : Int)) := by rw [hR0.cell, hr0, stC_m]
  have hcw := stC_cells (s.write K (padL s.m)).h (s.write K (padL s.m)).m (s.write K (padL s.m)).f
  go_region_law (first
      | (go_simp; go_at_call 104; (with_reducible refine (hash_Pad s.m _).mono ?_); rintro e w2 ⟨A, c, rfl, hlc, hcm, hrd, hb2⟩; have hL2 := below_step hb2 (Below.refl _ _).drew (Nat.le_refl W0.heap.size); have hR2 := row_below hR0 hL2 (by omega); have hr2 := (rowAt_below hL2 (by omega)).trans hr0)
      | (go_simp; go_at_call 75; refine (hash_write K A (padL s.m) c s _ hs hrd hlc hcm (fun i hi => ((bcell hL2).1 _ _ (by omega)).trans (hHK.out i hi)) (Nat.lt_of_lt_of_le (show 1 < W0.heap.size by omega) hL2.size)).mono ?_; rintro e w3 ⟨rfl, hb3⟩; have hL3 := below_step hb3 hL2 (Nat.le_refl W0.heap.size); have hR3 := row_below hR0 hL3 (by omega)))
  all_goals
    clear hr0 hr2 hc8 hrd hb2 hlc hcm hb3
    have hW : Row (w3.setRow w.heap.size (s.write K (padL s.m)).cells) w.heap.size 73 := (row_setRow_same rfl hR3).2 hcw.1
    have hWr : rowAt (w3.setRow w.heap.size (s.write K (padL s.m)).cells) w.heap.size = (s.write K (padL s.m)).cells := rowAt_setRow_same hR3
    have hWo : Row (w3.setRow w.heap.size (s.write K (padL s.m)).cells) (w.heap.size + 1) 32 := (row_setRow_far (by omega)).2 (row_below hR1 hL3 (by omega))
    have hWL : Below w.heap.size w (w3.setRow w.heap.size (s.write K (padL s.m)).cells) := below_setRow (hL0.trans (hL3.mono (by omega))) (Nat.le_refl _)
    have hWz : w.heap.size + 2 ≤ (w3.setRow w.heap.size (s.write K (padL s.m)).cells).heap.size := Nat.le_trans hsz (by have := hL3.size; simpa using this)
    generalize hs1 : s.write K (padL s.m) = s1 at *
    have hHs1 := Lib.hid hs1
    clear hs1
    generalize w3.setRow w.heap.size s1.cells = W1 at *
    have hlt : w.heap.size < W1.heap.size := by omega
    have hz1 : Row (W1.alloc (Obj.cells (arrK .u8 32 fun _ => 0) 57)) W1.heap.size 32 := (row_new rfl).2 hcz.1
    have hL2 : Below w.heap.size w (W1.alloc (Obj.cells (arrK .u8 32 fun _ => 0) 57)) := hWL.alloc (by omega) _
    have hz2 : W1.heap.size < (W1.alloc (Obj.cells (arrK .u8 32 fun _ => 0) 57)).heap.size := by simp
    have hWo2 : Row (W1.alloc (Obj.cells (arrK .u8 32 fun _ => 0) 57)) (w.heap.size + 1) 32 := (row_old (by omega)).2 hWo
    have hrz : rowAt (W1.alloc (Obj.cells (arrK .u8 32 fun _ => 0) 57)) W1.heap.size = arrK .u8 32 (outK s1.h 0) := (rowAt_new rfl).trans (arrK_congr fun i _ => by simp [outK])
    go_wp2
    rw [zeroB32]
    generalize (W1.alloc (Obj.cells (arrK .u8 32 fun _ => 0) 57)) = W2 at *
    generalize W1.heap.size = g at *
    go_loopw [4, 5, 13] (fun _ _ i wr => ∃ k : Nat, i = .int .i64 k ∧ k ≤ 8 ∧ Row wr g 32 ∧ rowAt wr g = arrK .u8 32 (outK s1.h k) ∧ Row wr (w.heap.size + 1) 32 ∧ Below w.heap.size w wr) (fun _ _ i _ => 8 - (intOf i).toNat)
    case atStart => exact ⟨0, rfl, by omega, hz1, hrz, hWo2, hL2⟩
    case round =>
      clear hz1 hrz hWo2 hL2 hW hWr hWo hWL
      obtain ⟨k, rfl, hk, hR, hr, hRo, hL⟩ := hrel
      by_cases h8k : k = 8
      · subst h8k
        have e : arrK .u8 32 (outK s1.h 8) = arrK .u8 32 (outF s1.h) := arrK_congr fun i hi => by unfold outK; rw [if_pos (by omega)]
        rw [e] at hr
        have hco := arrK_cells .u8 32 (outF s1.h)
        clear e
        go_wp2
        exact ret_stored (p := 2) (ty := 57) (g := w.heap.size + 1) (n := 32) (c := arrK .u8 32 (outF s1.h)) rfl Tryd.underlying57 rfl (by kernel_rfl) rfl hRo hco.1 rfl ⟨by rw [hHs1.out], below_setRow hL (by omega)⟩
      · have hix : ∀ W : World, (Instr.index 96 (.agg (h8 s1.h)) (.int .i64 (k : Int))).run Tryd.prog W = .ok (u32v (s1.h k)) W := fun W =>
          index_arrK Tryd.underlying96 Tryd.underlying95 (by kernel_rfl) (by omega) .i64 W
        obtain ⟨q, hq⟩ : ∃ q, q = 4 * k := ⟨_, rfl⟩
        have hqi : 4 * (k : Int) = (q : Int) := by omega
        have hq32 : q + 3 < 32 := by omega
        have hcell : ∀ i, i < 32 → wr.cell? ⟨g, i, none⟩ = some (.int .u8 (outK s1.h k i : Int)) := fun i hi => by rw [hR.cell, hr, arrK_at hi]
        have c0 := hcell q (by omega)
        have c1 := hcell (q + 1) (by omega)
        have c2 := hcell (q + 2) (by omega)
        have c3 := hcell (q + 3) (by omega)
        have f0 := hR.frozen q
        have f1 := hR.frozen (q + 1)
        have f2 := hR.frozen (q + 2)
        have f3 := hR.frozen (q + 3)
        have z0 : (0 : Int) ≤ (q : Int) := by omega
        have z1 : (0 : Int) ≤ (q : Int) + 1 := by omega
        have z2 : (0 : Int) ≤ (q : Int) + 2 := by omega
        have z3 : (0 : Int) ≤ (q : Int) + 3 := by omega
        have l0 : (q : Int) < 32 := by omega
        have l1 : (q : Int) + 1 < 32 := by omega
        have l2 : (q : Int) + 2 < 32 := by omega
        have l3 : (q : Int) + 3 < 32 := by omega
        clear hcell
        have hHq := Lib.hid hq
        have hkk : (k : Int) < 8 := by omega
        clear hq
        have hHr2 := Lib.hid hr
        clear hr
        go_wp2
        go_round
        case rel =>
          have hgw : w.heap.size ≤ g := by omega
          have e1 : ((w2n (s1.h k) : Int) / 16777216 % 256) = ((w2n (s1.h k) / 16777216 % 256 : Nat) : Int) := by omega
          have e2 : ((w2n (s1.h k) : Int) / 65536 % 256) = ((w2n (s1.h k) / 65536 % 256 : Nat) : Int) := by omega
          have e3 : ((w2n (s1.h k) : Int) / 256 % 256) = ((w2n (s1.h k) / 256 % 256 : Nat) : Int) := by omega
          have e4 : ((w2n (s1.h k) : Int) % 256) = ((w2n (s1.h k) % 256 : Nat) : Int) := by omega
          refine ⟨k + 1, by go_num, by omega, row_setCell.2 (row_setCell.2 (row_setCell.2 (row_setCell.2 hR))), ?_, row_setCell.2 (row_setCell.2 (row_setCell.2 (row_setCell.2 hRo))), (((hL.setCell (p := ⟨g, _, none⟩) hgw _).setCell (p := ⟨g, _, none⟩) hgw _).setCell (p := ⟨g, _, none⟩) hgw _).setCell (p := ⟨g, _, none⟩) hgw _⟩
          rw [rowAt_setCell_same, rowAt_setCell_same, rowAt_setCell_same, rowAt_setCell_same, hHr2.out, e1, e2, e3, e4, arrK_set, arrK_set, arrK_set, arrK_set, outK_step _ hHq.out]
        case measure => simp [intOf]; omega
theorem stF_ok (h : Nat → W32) : St.ok ⟨h, 0, fun _ => 0⟩ := ⟨by show 0 < _; omega, fun _ _ => by show 0 < _; omega⟩
theorem hash_Sum (K : Nat → W32) (A : Option Addr) (l : List UInt8) (c : Nat) (w : World) (hrd : Rd w w.heap.size A (bytesV l)) (hlc : l.length ≤ c) (hcm : c ≤ maxLen)
    (hK : ∀ i < 64, w.cell? ⟨1, i, none⟩ = some (u32v (K i))) (hKl : 1 < w.heap.size) :
    Calls Tryd.prog 49 #[.slice A l.length c] w fun e w' => e = .returned (.agg (arrK .u8 32 (dig K iv 0 l))) ∧ Below w.heap.size w w' := by
  have hcz := arrK_cells .u8 32 fun _ => 0
  have hL0 : Below w.heap.size w (w.alloc (Obj.cells (arrK .u8 32 fun _ => 0) 57)) := by go_grown
  have hR0 : Row (w.alloc (Obj.cells (arrK .u8 32 fun _ => 0) 57)) w.heap.size 32 := (row_new rfl).2 hcz.1
  have hsz : w.heap.size < (w.alloc (Obj.cells (arrK .u8 32 fun _ => 0) 57)).heap.size := by simp
  go_enter Tryd.func49, Tryd.ntmps49
  go_wp2_with fail
  rw [zeroB32]
  generalize w.alloc (Obj.cells (arrK .u8 32 fun _ => 0) 57) = W0 at *
  refine (hash_new _).mono ?_
  rintro e w1 ⟨rfl, hb1⟩
  have hL1 := below_step hb1 hL0 (Nat.le_refl _)
  have hrd1 : Rd w1 w1.heap.size A (bytesV l) := (hrd.below hL1).more hL1.size
  have hK1 := Lib.hid (show ∀ i < 64, w1.cell? ⟨1, i, none⟩ = some (u32v (K i)) from fun i hi => ((bcell hL1).1 _ _ hKl).trans (hK i hi))
  go_wp2_with fail
  refine (hash_write K A l c ⟨iv, 0, fun _ => 0⟩ _ (stF_ok _) hrd1 hlc hcm hK1.out (Nat.lt_of_lt_of_le hKl hL1.size)).mono ?_
  rintro e w2 ⟨rfl, hb2⟩
  have hL2 := below_step hb2 hL1 (Nat.le_refl _)
  have hK2 := Lib.hid (show ∀ i < 64, w2.cell? ⟨1, i, none⟩ = some (u32v (K i)) from fun i hi => ((bcell hL2).1 _ _ hKl).trans (hK i hi))
  have hd := Lib.hid (write_dig (K := K) (s := ⟨iv, 0, fun _ => 0⟩) (l := l) rfl (by show 0 < _; omega))
  go_wp2_with fail
  refine (hash_StSum K _ _ (St.write_ok l (stF_ok iv)) hK2.out (Nat.lt_of_lt_of_le hKl hL2.size)).mono ?_
  rintro e w3 ⟨rfl, hb3⟩
  have hL3 := below_step hb3 hL2 (Nat.le_refl _)
  have hR3 := row_below hR0 (below_step hb3 (below_step hb2 (below_step hb1 (Below.refl _ _) (Nat.le_refl W0.heap.size)) (Nat.le_refl _)) (Nat.le_refl _)) hR0.lt
  have hco := arrK_cells .u8 32 (outF (St.write K (St.write K ⟨iv, 0, fun _ => 0⟩ l) (padL (St.write K ⟨iv, 0, fun _ => 0⟩ l).m)).h)
  generalize hx : outF (St.write K (St.write K ⟨iv, 0, fun _ => 0⟩ l) (padL (St.write K ⟨iv, 0, fun _ => 0⟩ l).m)).h = x at *
  have hHx := Lib.hid hx
  clear hx
  go_wp2
  refine ret_stored (p := 2) (ty := 57) (g := w.heap.size) (n := 32) (c := arrK .u8 32 x) rfl Tryd.underlying57 rfl (by kernel_rfl) rfl hR3 hco.1 rfl ⟨?_, below_setRow hL3 (Nat.le_refl _)⟩
  rw [← hHx.out, hd.out]
  rfl
end Go.Proofs.YtdlmamnnamlleaaDoor
namespace Go.Proofs.YtdlmamnnamlleaaDoor
open Go.ChangeShapes Go.WideShapes Go.ChangeAt Go.RowKit
set_option maxHeartbeats 2000000
set_option maxRecDepth 100000
attribute [local go_sem ↓] load_o32 store_o32
attribute [local go_sem] isHead_mk isPart_mk offOf_mk blkOf_mk isAgg_mk cellsV_mk row_drew rowAt_drew row_new_cells row_old rowAt_new rowAt_old setRow_new bs_app
def outT (h : Nat → W32) (t : Nat) : Nat → Nat := fun i => if i < t then outF h i else 0
theorem outT_step (h : Nat → W32) (t : Nat) : arrK .u8 32 (upd (outT h t) t (outF h t)) = arrK .u8 32 (outT h (t + 1)) := by
  refine arrK_congr fun i _ => ?_
  unfold upd outT
  by_cases e : i = t
  · subst e; rw [if_pos rfl, if_pos (by omega)]
  · rw [if_neg e]
    by_cases e2 : i < t
    · rw [if_pos e2, if_pos (by omega)]
    · rw [if_neg e2, if_neg (by omega)]
theorem ref_From (K h : Nat → W32) (g c n : Nat) (p : List UInt8) (w : World) (hn64 : n % 64 = 0) (hh : HsAt w g h) (hc8 : 8 ≤ c) (hcm : c ≤ maxLen) (hp : p.length ≤ 1152921504606846976)
    (hK : ∀ i < 64, w.cell? ⟨0, i, none⟩ = some (u32v (K i))) (hKl : 0 < w.heap.size) :
    Calls Tryd.prog 50 #[.slice (some ⟨g, 0, none⟩) 8 c, .int .u64 n, strV p] w fun e w' => e = .returned (.agg (arrK .u8 32 (dig K h n p))) ∧ Below w.heap.size w w' := by
  have hcz := arrK_cells .u8 32 fun _ => 0
  have hmw : IntKind.u64.wrap ((n : Int) + (p.length : Int)) = (m64 (n + p.length) : Int) := by rw [IntKind.wrap_u64]; unfold m64; omega
  have hpl := padL_length (m64 (n + p.length))
  have hpz := padZ_lt (m64 (n + p.length))
  have hw := pad_whole (k := p.length) hn64
  obtain ⟨N, hN⟩ : ∃ N, N = (p.length + (padL (m64 (n + p.length))).length) / 64 := ⟨_, rfl⟩
  have hdig := Lib.hid (show dig K h n p = outF (blks K N h (p ++ padL (m64 (n + p.length)))) by unfold dig digW; rw [hN])
  have hLl : (p ++ padL (m64 (n + p.length))).length = 64 * N := by rw [List.length_append]; omega
  have hsum : p.length + (padL (m64 (n + p.length))).length ≤ 9223372036854775807 := by omega
  have hNb : 64 * N ≤ 1152921504606847976 := by omega
  have hHLl := Lib.hid hLl
  have hHh := Lib.hid hh
  have hHK := Lib.hid hK
  clear hpl hpz hw hLl hh hK hN
  have hL0 : Below w.heap.size w (w.alloc (Obj.cells (arrK .u8 32 fun _ => 0) 57)) := by go_grown
  have hR0 : Row (w.alloc (Obj.cells (arrK .u8 32 fun _ => 0) 57)) w.heap.size 32 := (row_new rfl).2 hcz.1
  go_enter Tryd.func50, Tryd.ntmps50
  go_wp2_with fail
  rw [zeroB32]
  generalize w.alloc (Obj.cells (arrK .u8 32 fun _ => 0) 57) = W0 at *
  refine (ref_PadText (m64 (n + p.length)) _).mono ?_
  rintro e w1 ⟨rfl, hb1⟩
  have hL1 := below_step hb1 hL0 (Nat.le_refl _)
  have hR1 := row_below hR0 hb1 hR0.lt
  clear hb1 hL0 hR0
  go_wp2_with fail
  generalize p ++ padL (m64 (n + p.length)) = L at *
  clear hmw
  have hHs0 := Lib.hid (hHh.out.below hL1 hHh.out.lt)
  have hLL := hHLl.out
  go_loopw [0, 7] (fun v i wr => ∃ (j gj cj : Nat), i = .int .i64 (64 * (j : Int)) ∧ j ≤ N ∧ v = .slice (some ⟨gj, 0, none⟩) 8 cj ∧ 8 ≤ cj ∧ cj ≤ maxLen ∧ Hid (HsAt wr gj (blks K j h L)) ∧ Row wr w.heap.size 32 ∧ Below w.heap.size w wr) (fun _ i _ => 64 * N - (intOf i).toNat)
  case atStart => exact ⟨0, g, c, rfl, by omega, rfl, hc8, hcm, hHs0, hR1, hL1⟩
  case round =>
    clear hHs0 hR1 hL1 hcm hc8
    obtain ⟨j, gj, cj, rfl, hj, rfl, hc8, hcm, hHs, hR, hL⟩ := hrel
    by_cases hN : j = N
    · subst hN
      have hd : decide (64 * (j : Int) < (L.length : Int)) = false := by simp; omega
      have hco := arrK_cells .u8 32 fun _ => 0
      have hRz : Row (wr.alloc (Obj.cells (arrK .u8 32 fun _ => 0) 57)) wr.heap.size 32 := (row_new rfl).2 hcz.1
      have hRr : rowAt (wr.alloc (Obj.cells (arrK .u8 32 fun _ => 0) 57)) wr.heap.size = arrK .u8 32 (outT (blks K j h L) 0) := (rowAt_new rfl).trans (arrK_congr fun i _ => by simp [outT])
      have hRo : Row (wr.alloc (Obj.cells (arrK .u8 32 fun _ => 0) 57)) w.heap.size 32 := (row_old hR.lt).2 hR
      have hL2 : Below w.heap.size w (wr.alloc (Obj.cells (arrK .u8 32 fun _ => 0) 57)) := hL.alloc hL.size _
      have hH2 := Lib.hid (hHs.out.below (below_alloc wr (Obj.cells (arrK .u8 32 fun _ => 0) 57)) hHs.out.lt)
      have hgj := hHs.out.lt
      have hzs : wr.heap.size < (wr.alloc (Obj.cells (arrK .u8 32 fun _ => 0) 57)).heap.size := by simp
      have hRlt := hR.lt
      go_wp2
      rw [zeroB32]
      clear hHs
      generalize (wr.alloc (Obj.cells (arrK .u8 32 fun _ => 0) 57)) = W2 at *
      generalize wr.heap.size = o at *
      go_loopw [9, 31] (fun _ i wr => ∃ k : Nat, i = .int .i64 k ∧ k ≤ 32 ∧ Row wr o 32 ∧ rowAt wr o = arrK .u8 32 (outT (blks K j h L) k) ∧ Row wr w.heap.size 32 ∧ Hid (HsAt wr gj (blks K j h L)) ∧ Below w.heap.size w wr) (fun _ i _ => 32 - (intOf i).toNat)
      case atStart => exact ⟨0, rfl, by omega, hRz, hRr, hRo, hH2, hL2⟩
      case round =>
        clear hRz hRr hRo hH2 hL2 hR hL
        obtain ⟨k, rfl, hk, hRz, hRr, hRo, hHs, hL⟩ := hrel
        by_cases h32 : k = 32
        · subst h32
          have e : arrK .u8 32 (outT (blks K j h L) 32) = arrK .u8 32 (outF (blks K j h L)) := arrK_congr fun i hi => by unfold outT; rw [if_pos hi]
          have hRr2 := hRr.trans e
          have hcs := arrK_cells .u8 32 (outF (blks K j h L))
          clear e hRr
          go_wp2
          exact ret_stored (p := 6) (ty := 57) (g := w.heap.size) (n := 32) (c := arrK .u8 32 (outF (blks K j h L))) rfl Tryd.underlying57 rfl (by kernel_rfl) rfl hRo hcs.1 rfl ⟨by rw [hdig.out], below_setRow hL (Nat.le_refl _)⟩
        · obtain ⟨q, hq⟩ : ∃ q, q = k / 4 := ⟨_, rfl⟩
          obtain ⟨r, hr⟩ : ∃ r, r = 24 - 8 * (k % 4) := ⟨_, rfl⟩
          have hqi : (k : Int) / 4 = q := by omega
          have hri : 24 - 8 * ((k : Int) % 4) = (r : Int) := by omega
          have hrn : r < 32 := by omega
          have hst := Lib.hid (outT_step (blks K j h L) k)
          have hof : outF (blks K j h L) k = w2n (blks K j h L q) / 2 ^ r % 256 := by unfold outF; rw [← hq, ← hr]
          rw [hof] at hst
          have cq := hHs.out.at_ q (by omega)
          have ck := hRz.cell k
          rw [hRr, arrK_at (by omega)] at ck
          have fk := hRz.frozen k
          have hHr := Lib.hid hRr
          have hq8 : q < 8 := by omega
          have hzr : (0 : Int) ≤ (r : Int) := by omega
          have hne : gj ≠ o := by omega
          have hHq := Lib.hid hq
          have hHrr := Lib.hid hr
          clear hq hr hRr hof
          generalize blks K j h L q = x at *
          go_wp2
          go_round
          case rel =>
            refine ⟨k + 1, by go_num, by omega, row_setCell.2 hRz, ?_, row_setCell.2 hRo, Lib.hid ⟨by simpa using hHs.out.lt, fun i hi => ?_⟩, hL.setCell (p := ⟨o, _, none⟩) (show w.heap.size ≤ o by omega) _⟩
            · rw [rowAt_setCell_same, hHr.out, show ((w2n x : Int) / 2 ^ r % 256) = ((w2n x / 2 ^ r % 256 : Nat) : Int) by simp, arrK_set, hst.out]
            · rw [← hHs.out.at_ i hi]
              exact World.cell?_of_block (w := wr) (Below.heap_setCell wr _ _ gj hne)
          case measure => simp [intOf]; omega
    · have hjN : j < N := by omega
      have hd : decide (64 * (j : Int) < (L.length : Int)) = true := by simp; omega
      have hsl : ∀ W : World, (Instr.slice 9 (strV L) (some (.int .i64 (64 * (j : Int)))) (some (.int .i64 (64 * (j : Int) + 64))) none).run Tryd.prog W = .ok (strV ((L.drop (64 * j)).take 64)) W :=
        str_sl Tryd.underlying9 L _ _ _ (by omega) (by omega) (by omega) (by congr 1; omega)
      have hml : ((L.drop (64 * j)).take 64).length = 64 := by simp; omega
      have hKr := Lib.hid (show ∀ i < 64, wr.cell? ⟨0, i, none⟩ = some (u32v (K i)) from fun i hi => ((bcell hL).1 _ _ hKl).trans (hHK.out i hi))
      have hKlr := Nat.lt_of_lt_of_le hKl hL.size
      have hsn := Lib.hid (blks_snoc K j h L)
      have hcon := Lib.hid (ref_block K (blks K j h L) gj cj ((L.drop (64 * j)).take 64) wr hml hHs.out hKr.out hKlr)
      clear hml hKr hKlr
      generalize (L.drop (64 * j)).take 64 = m at *
      go_wp2_with (go_at_call 78; refine hcon.out.mono ?_; rintro e w' ⟨g2, c2, rfl, hc82, hcm2, hH2, hb2⟩; have hHH := Lib.hid hH2; clear hH2)
      go_round
      case rel => exact ⟨j + 1, g2, c2, by go_num, by omega, rfl, hc82, hcm2, Lib.hid (hsn.out ▸ hHH.out), row_below hR hb2 hR.lt, below_step hb2 hL (Nat.le_refl _)⟩
      case measure => simp [intOf]; omega
theorem ref_Sum (K : Nat → W32) (p : List UInt8) (w : World) (hp : p.length ≤ 1152921504606846976)
    (hK : ∀ i < 64, w.cell? ⟨0, i, none⟩ = some (u32v (K i))) (hKl : 0 < w.heap.size) :
    Calls Tryd.prog 21 #[strV p] w fun e w' => e = .returned (.agg (arrK .u8 32 (dig K iv 0 p))) ∧ Below w.heap.size w w' := by
  have hcz := arrK_cells .u8 32 fun _ => 0
  have hL0 : Below w.heap.size w (w.alloc (Obj.cells (arrK .u8 32 fun _ => 0) 57)) := by go_grown
  have hR0 : Row (w.alloc (Obj.cells (arrK .u8 32 fun _ => 0) 57)) w.heap.size 32 := (row_new rfl).2 hcz.1
  go_enter Tryd.func21, Tryd.ntmps21
  go_wp2_with fail
  rw [zeroB32]
  generalize w.alloc (Obj.cells (arrK .u8 32 fun _ => 0) 57) = W0 at *
  refine (ref_Begin _).mono ?_
  rintro e w1 ⟨g, c, rfl, hc8, hcm, hH, hb1⟩
  have hL1 := below_step hb1 hL0 (Nat.le_refl _)
  have hR1 := row_below hR0 hb1 hR0.lt
  have hHH := Lib.hid hH
  have hK1 := Lib.hid (show ∀ i < 64, w1.cell? ⟨0, i, none⟩ = some (u32v (K i)) from fun i hi => ((bcell hL1).1 _ _ hKl).trans (hK i hi))
  clear hH hb1 hL0 hR0 hK
  go_wp2_with fail
  refine (ref_From K iv g c 0 p _ (by omega) hHH.out hc8 hcm hp hK1.out (Nat.lt_of_lt_of_le hKl hL1.size)).mono ?_
  rintro e w2 ⟨rfl, hb2⟩
  have hL2 := below_step hb2 hL1 (Nat.le_refl _)
  have hR2 := row_below hR1 hb2 hR1.lt
  have hco := arrK_cells .u8 32 (dig K iv 0 p)
  clear hb2 hL1 hR1
  go_wp2
  exact ret_stored (p := 2) (ty := 57) (g := w.heap.size) (n := 32) (c := arrK .u8 32 (dig K iv 0 p)) rfl Tryd.underlying57 rfl (by kernel_rfl) rfl hR2 hco.1 rfl ⟨rfl, below_setRow hL2 (Nat.le_refl _)⟩
end Go.Proofs.YtdlmamnnamlleaaDoor
namespace Go.Proofs.YtdlmamnnamlleaaDoor
open Go.ChangeShapes Go.WideShapes Go.ChangeAt Go.RowKit
set_option maxHeartbeats 2000000
set_option maxRecDepth 100000
attribute [local irreducible] arrV
attribute [local go_sem ↓] load_state store_state execl_state execs_state load_words
attribute [local go_sem] isHead_mk isPart_mk offOf_mk blkOf_mk isAgg_mk cellsV_mk row_drew rowAt_drew row_new_cells row_old rowAt_new rowAt_old setRow_new zero_state zero_cellsS bs_app

/-- The state behind l. -/
def st0 : St := ⟨iv, 0, fun _ => 0⟩
def stL (K : Nat → W32) (l : List UInt8) : St := st0.write K l
theorem stL_ok (K : Nat → W32) (l : List UInt8) : (stL K l).ok := St.write_ok l (stF_ok iv)
/-- Both tables hold K, from a world on. -/
structure Tabs (K : Nat → W32) (w : World) : Prop where
  c1 : ∀ i < 64, w.cell? ⟨1, i, none⟩ = some (u32v (K i))
  l1 : 1 < w.heap.size
  c2 : ∀ i < 64, w.cell? ⟨0, i, none⟩ = some (u32v (K i))
  l2 : 0 < w.heap.size
theorem Tabs.below {K : Nat → W32} {w w' : World} {B : Nat} (h : Tabs K w) (hb : Below B w w') (hB : w.heap.size ≤ B) : Tabs K w' :=
  ⟨fun i hi => ((bcell hb).1 _ _ (Nat.lt_of_lt_of_le h.l1 hB)).trans (h.c1 i hi), Nat.lt_of_lt_of_le h.l1 hb.size, fun i hi => ((bcell hb).1 _ _ (Nat.lt_of_lt_of_le h.l2 hB)).trans (h.c2 i hi), Nat.lt_of_lt_of_le h.l2 hb.size⟩
theorem Tabs.step {K : Nat → W32} {w w' : World} (hb : Below w.heap.size w w') (h : Tabs K w) : Tabs K w' := h.below hb (Nat.le_refl _)
/-- A slice of bytes. -/
structure Bs (w : World) (A : Option Addr) (l : List UInt8) (c : Nat) : Prop where
  rd : Rd w w.heap.size A (bytesV l)
  le : l.length ≤ c
  mx : c ≤ 9223372036854775807
theorem Bs.step {w w' : World} {A : Option Addr} {l : List UInt8} {c : Nat} (hb : Below w.heap.size w w') (h : Bs w A l c) : Bs w' A l c := ⟨(h.rd.below hb).more hb.size, h.le, h.mx⟩
theorem Bs.conv {w : World} {A : Option Addr} {l : List UInt8} {c : Nat} (h : Bs w A l c) : (convert 22 9 (.slice A l.length c)).run Tryd.prog w = .ok (strV l) w :=
  conv_rd Tryd.underlying22 Tryd.underlying5 Tryd.underlying9 h.rd
def SRel.bs (l : List UInt8) : SRel := ⟨fun v w => ∃ A c, v = .slice A l.length c ∧ Bs w A l c, fun _ _ _ hb ⟨A, c, h1, h2⟩ => ⟨A, c, h1, h2.step hb⟩⟩
section
variable {K : Nat → W32} {w : World} {A : Option Addr} {l : List UInt8} {c : Nat}
theorem sumC (hT : Tabs K w) (h : Bs w A l c) : Calls Tryd.prog 49 #[.slice A l.length c] w fun e w' => e = .returned (.agg (arrK .u8 32 (dig K iv 0 l))) ∧ Below w.heap.size w w' :=
  hash_Sum K A l c w h.rd h.le h.mx hT.c1 hT.l1
theorem rsumC (hT : Tabs K w) (hp : l.length ≤ 1152921504606846976) : Calls Tryd.prog 21 #[strV l] w fun e w' => e = .returned (.agg (arrK .u8 32 (dig K iv 0 l))) ∧ Below w.heap.size w w' :=
  ref_Sum K l w hp hT.c2 hT.l2
theorem writeC (hT : Tabs K w) (m : List UInt8) (h : Bs w A l c) : Calls Tryd.prog 75 #[.agg (stL K m).cells, .slice A l.length c] w fun e w' => e = .returned (.agg (stL K (m ++ l)).cells) ∧ Below w.heap.size w w' :=
  (hash_write K A l c (stL K m) w (stL_ok K m) h.rd h.le h.mx hT.c1 hT.l1).mono fun _ _ ⟨h1, h2⟩ => ⟨by rw [h1]; unfold stL; rw [write_app], h2⟩
theorem stSumC (hT : Tabs K w) (m : List UInt8) : Calls Tryd.prog 76 #[.agg (stL K m).cells] w fun e w' => e = .returned (.agg (arrK .u8 32 (dig K iv 0 m))) ∧ Below w.heap.size w w' :=
  (hash_StSum K (stL K m) w (stL_ok K m) hT.c1 hT.l1).mono fun _ _ ⟨h1, h2⟩ => ⟨h1.trans (congrArg (fun h => Ending.returned (Value.agg (arrK .u8 32 (outF h)))) (write_dig (K := K) (s := st0) (l := m) rfl (by show 0 < _; omega))), h2⟩
theorem newC0 (w : World) : Calls Tryd.prog 74 #[] w fun e w' => e = .returned (.agg (stL K []).cells) ∧ Below w.heap.size w w' := hash_new w
end
end Go.Proofs.YtdlmamnnamlleaaDoor
namespace Go.Proofs.YtdlmamnnamlleaaDoor
open Go.ChangeShapes Go.WideShapes Go.ChangeAt Go.RowKit
set_option maxHeartbeats 2000000
set_option maxRecDepth 100000
attribute [local irreducible] arrV
attribute [local go_sem ↓] load_state store_state
attribute [local go_sem] isHead_mk isPart_mk offOf_mk blkOf_mk isAgg_mk cellsV_mk row_drew rowAt_drew row_new_cells row_old rowAt_new rowAt_old setRow_new zero_state zero_cellsS

def rsH (f : Nat → Nat) (k : Nat) : Nat → W32 := fun i => if i < k then be32 f (4 * i) else iv i
theorem stC_set_h (h h' : Nat → W32) (m : Nat) (f : Nat → Nat) {j : Nat} (hj : j < 8) (he : ∀ i < 8, (if i = j then h' j else h i) = h' i) : (stC h m f).setIfInBounds j (u32v (h' j)) = stC h' m f := by
  unfold stC
  rw [arrV_set]
  refine arrV_congr fun i _ => ?_
  unfold stV
  by_cases e : i < 8
  · rw [if_pos e, if_pos e]
    have := he i e
    by_cases e2 : i = j
    · subst e2; rw [if_pos rfl]
    · rw [if_neg e2] at this ⊢
      rw [this]
  · rw [if_neg (show ¬i = j by omega), if_neg e, if_neg e]
theorem stC_congr {h h' : Nat → W32} {m : Nat} {f : Nat → Nat} (he : ∀ i < 8, h i = h' i) : stC h m f = stC h' m f := by
  unfold stC
  refine arrV_congr fun i _ => ?_
  unfold stV
  by_cases e : i < 8
  · rw [if_pos e, if_pos e, he i e]
  · rw [if_neg e, if_neg e]
theorem stC_at_h {h : Nat → W32} {m : Nat} {f : Nat → Nat} {j : Nat} (hj : j < 8) : (stC h m f)[j]? = some (u32v (h j)) := by
  unfold stC
  rw [arrV_at (by omega)]
  unfold stV
  rw [if_pos hj]
theorem rd_row {w : World} {g n : Nat} {c : Array Value} (hR : Row w g n) (hr : rowAt w g = c) : Rd w w.heap.size (some ⟨g, 0, none⟩) c.toList := by
  obtain ⟨cs, t, hh, hl⟩ := id hR
  have e : cs = c := by rw [← hr]; simp [rowAt, hh]
  have := Rd.of_blk (B := w.heap.size) hh hR.lt
  rw [e] at this
  exact this
end Go.Proofs.YtdlmamnnamlleaaDoor
namespace Go.Proofs.YtdlmamnnamlleaaDoor
open Go.ChangeShapes Go.WideShapes Go.ChangeAt Go.RowKit

/-- The first n bytes. -/
def bL (f : Nat → Nat) (n : Nat) : List UInt8 := (List.range n).map fun i => UInt8.ofNat (f i)
theorem bL_len (f : Nat → Nat) (n : Nat) : (bL f n).length = n := by simp [bL]
theorem bytesF_bL {f : Nat → Nat} {n i : Nat} (hi : i < n) (hf : f i < 256) : bytesF (bL f n) i = f i := by
  rw [bytesF_at (by rw [bL_len]; exact hi)]
  simp [bL, UInt8.toNat_ofNat']
  omega
/-- A digest's cells. -/
def dgA (l : List UInt8) : Array Value := arrK .u8 32 (bytesF l)
theorem dgA_cells (l : List UInt8) : Cells (dgA l) 32 := arrK_cells .u8 32 _
theorem dgA_of {f : Nat → Nat} (hf : ∀ i < 32, f i < 256) : arrK .u8 32 f = dgA (bL f 32) := arrK_congr fun i hi => (bytesF_bL hi (hf i hi)).symm
theorem dgA_bytes {l : List UInt8} (h : l.length = 32) : (dgA l).toList = bytesV l := by
  apply List.ext_getElem?
  intro i
  rw [Array.getElem?_toList]
  by_cases hi : i < 32
  · unfold dgA
    rw [arrK_at hi, bytesF_at (by omega)]
    simp [bytesV, List.getElem?_eq_getElem (show i < l.length by omega)]
  · rw [Array.getElem?_eq_none (by rw [(dgA_cells l).1]; omega), List.getElem?_eq_none (by rw [bytesV_length]; omega)]
theorem dgA_inj {a b : List UInt8} (ha : a.length = 32) (hb : b.length = 32) (h : ∀ i < 32, bytesF a i = bytesF b i) : a = b := by
  apply List.ext_getElem (by omega)
  intro i h1 h2
  have := h i (by omega)
  rw [bytesF_at h1, bytesF_at h2] at this
  exact UInt8.toNat_inj.1 this
theorem eqlD {a b : List UInt8} (ha : a.length = 32) (hb : b.length = 32) (W : World) : (binOp .eql 57 (.agg (dgA a)) (.agg (dgA b))).run Tryd.prog W = .ok (.bool (decide (a = b))) W := by
  unfold dgA
  rw [run_eql_arrK Tryd.underlying57 Tryd.underlying5 (by kernel_rfl)]
  congr 2
  by_cases h : a = b
  · subst h; simp
  · rw [decide_eq_false h]
    exact decide_eq_false fun h' => h (dgA_inj ha hb h')
/-- The digest of a text. -/
def sha (K : Nat → W32) (l : List UInt8) : List UInt8 := bL (dig K iv 0 l) 32
theorem sha_len (K : Nat → W32) (l : List UInt8) : (sha K l).length = 32 := bL_len _ _
theorem outF_lt (h : Nat → W32) (i : Nat) : outF h i < 256 := Nat.mod_lt _ (by omega)
theorem sha_dig (K : Nat → W32) (l : List UInt8) : arrK .u8 32 (dig K iv 0 l) = dgA (sha K l) := dgA_of fun i _ => outF_lt _ i
theorem rd_of_row {w : World} {g : Nat} {l : List UInt8} (hl : l.length = 32) (hR : Row w g 32) (hr : rowAt w g = dgA l) : Bs w (some ⟨g, 0, none⟩) l 32 :=
  ⟨dgA_bytes hl ▸ rd_row hR hr, by omega, by omega⟩
section
variable {K : Nat → W32} {w : World} {A : Option Addr} {l : List UInt8} {c : Nat}
theorem sumD (hT : Tabs K w) (h : Bs w A l c) : Calls Tryd.prog 49 #[.slice A l.length c] w fun e w' => e = .returned (.agg (dgA (sha K l))) ∧ Below w.heap.size w w' := by rw [← sha_dig]; exact sumC hT h
theorem rsumD (hT : Tabs K w) (hp : l.length ≤ 1152921504606846976) : Calls Tryd.prog 21 #[strV l] w fun e w' => e = .returned (.agg (dgA (sha K l))) ∧ Below w.heap.size w w' := by rw [← sha_dig]; exact rsumC hT hp
theorem stSumD (hT : Tabs K w) (m : List UInt8) : Calls Tryd.prog 76 #[.agg (stL K m).cells] w fun e w' => e = .returned (.agg (dgA (sha K m))) ∧ Below w.heap.size w w' := by rw [← sha_dig]; exact stSumC hT m
end
theorem zeroD : #[Value.int IntKind.u8 0, Value.int IntKind.u8 0, Value.int IntKind.u8 0, Value.int IntKind.u8 0, Value.int IntKind.u8 0, Value.int IntKind.u8 0, Value.int IntKind.u8 0, Value.int IntKind.u8 0, Value.int IntKind.u8 0, Value.int IntKind.u8 0, Value.int IntKind.u8 0, Value.int IntKind.u8 0, Value.int IntKind.u8 0, Value.int IntKind.u8 0, Value.int IntKind.u8 0, Value.int IntKind.u8 0, Value.int IntKind.u8 0, Value.int IntKind.u8 0, Value.int IntKind.u8 0, Value.int IntKind.u8 0, Value.int IntKind.u8 0, Value.int IntKind.u8 0, Value.int IntKind.u8 0, Value.int IntKind.u8 0, Value.int IntKind.u8 0, Value.int IntKind.u8 0, Value.int IntKind.u8 0, Value.int IntKind.u8 0, Value.int IntKind.u8 0, Value.int IntKind.u8 0, Value.int IntKind.u8 0, Value.int IntKind.u8 0] = dgA [] := zeroB32.trans (arrK_congr fun _ _ => rfl)
end Go.Proofs.YtdlmamnnamlleaaDoor
namespace Go.Proofs.YtdlmamnnamlleaaDoor
open Go
theorem i64_xor_nat (a b : Nat) (ha : a < 9223372036854775808) (hb : b < 9223372036854775808) : bits .xor .i64 (a : Int) (b : Int) = ((a ^^^ b : Nat) : Int) := by
  have hx : a ^^^ b < 2 ^ 63 := Nat.xor_lt_two_pow (by omega) (by omega)
  show IntKind.i64.wrap ((BitVec.ofInt 64 (a : Int) ^^^ BitVec.ofInt 64 (b : Int)).toNat : Int) = _
  rw [BitVec.toNat_xor, ofInt_u64 a (by omega), ofInt_u64 b (by omega), IntKind.wrap_i64]
  omega
theorem i64_or_nat (a b : Nat) (ha : a < 9223372036854775808) (hb : b < 9223372036854775808) : bits .or .i64 (a : Int) (b : Int) = ((a ||| b : Nat) : Int) := by
  have hx : a ||| b < 2 ^ 63 := Nat.or_lt_two_pow (by omega) (by omega)
  show IntKind.i64.wrap ((BitVec.ofInt 64 (a : Int) ||| BitVec.ofInt 64 (b : Int)).toNat : Int) = _
  rw [BitVec.toNat_or, ofInt_u64 a (by omega), ofInt_u64 b (by omega), IntKind.wrap_i64]
  omega
theorem i64_and_nat (a b : Nat) (ha : a < 9223372036854775808) (hb : b < 9223372036854775808) : bits .and .i64 (a : Int) (b : Int) = ((a &&& b : Nat) : Int) := by
  have hx : a &&& b < 2 ^ 63 := Nat.and_lt_two_pow _ (by omega)
  show IntKind.i64.wrap ((BitVec.ofInt 64 (a : Int) &&& BitVec.ofInt 64 (b : Int)).toNat : Int) = _
  rw [BitVec.toNat_and, ofInt_u64 a (by omega), ofInt_u64 b (by omega), IntKind.wrap_i64]
  omega
theorem or_zero_iff {a b : Nat} : a ||| b = 0 ↔ a = 0 ∧ b = 0 := by
  constructor
  · intro h
    have h1 : a ≤ a ||| b := Nat.left_le_or
    have h2 : b ≤ a ||| b := Nat.right_le_or
    omega
  · rintro ⟨rfl, rfl⟩; rfl
theorem xor_zero_iff {a b : Nat} : a ^^^ b = 0 ↔ a = b := by
  constructor
  · intro h
    have := congrArg (· ^^^ b) h
    simpa [Nat.xor_assoc] using this
  · rintro rfl; exact Nat.xor_self a
end Go.Proofs.YtdlmamnnamlleaaDoor
namespace Go.Proofs.YtdlmamnnamlleaaDoor
open Go.ChangeShapes Go.WideShapes Go.ChangeAt Go.RowKit
set_option maxHeartbeats 1000000
set_option maxRecDepth 100000

/-! The plain words. -/
def keyL (K : Nat → W32) (key : List UInt8) : List UInt8 := if 64 < key.length then sha K key else key
def padB (k : List UInt8) (c : UInt8) : List UInt8 := (List.range 64).map fun i => (k[i]?.getD 0) ^^^ c
theorem padB_len (k : List UInt8) (c : UInt8) : (padB k c).length = 64 := by simp [padB]
theorem keyL_len (K : Nat → W32) (key : List UInt8) : (keyL K key).length ≤ 64 := by
  unfold keyL
  split
  · rw [sha_len]; omega
  · omega
def markL (K : Nat → W32) (key p : List UInt8) : List UInt8 := sha K (padB (keyL K key) 92 ++ sha K (padB (keyL K key) 54 ++ p))
theorem mark_len (K : Nat → W32) (key p : List UInt8) : (markL K key p).length = 32 := sha_len _ _

/-! Two states in a row. -/
def pairA (a b : Array Value) : Array Value := (a.toList ++ b.toList).toArray
section
variable {a b a' : Array Value}
theorem pairA_cells (ha : Cells a 73) (hb : Cells b 73) : Cells (pairA a b) 146 := by
  refine ⟨by simp [pairA, ha.1, hb.1], ?_⟩
  have h1 := ha.2
  have h2 := hb.2
  rw [Array.all_eq_true_iff_forall_mem] at h1 h2 ⊢
  intro x hx
  simp [pairA] at hx
  rcases hx with hx | hx
  · exact h1 x hx
  · exact h2 x hx
theorem pairA_fst (ha : a.size = 73) : (pairA a b).extract 0 (0 + 73) = a := by
  apply Array.toList_inj.1
  simp [pairA, ← ha]
theorem pairA_snd (ha : a.size = 73) (hb : b.size = 73) : (pairA a b).extract 73 (73 + 73) = b := by
  apply Array.toList_inj.1
  simp [pairA]
  rw [List.drop_append_of_le_length (by simp [ha]), List.drop_eq_nil_of_le (by simp [ha]), List.nil_append, List.take_of_length_le (by simp [hb])]
theorem pairA_at (ha : a.size = 73) (hb : b.size = 73) {i : Nat} (hi : i < 146) : (pairA a b)[i]? = some (if i < 73 then (a[i]?).getD undef else (b[i - 73]?).getD undef) := by
  unfold pairA
  rw [List.getElem?_toArray]
  by_cases h : i < 73
  · rw [List.getElem?_append_left (by simpa using by omega), if_pos h, Array.getElem?_toList, Array.getElem?_eq_getElem (by omega)]; rfl
  · rw [List.getElem?_append_right (by simpa using by omega), if_neg h]
    simp only [Array.length_toList, ha, Array.getElem?_toList]
    rw [Array.getElem?_eq_getElem (by omega)]; rfl
theorem pairA_put (ha : a.size = 73) (hb : b.size = 73) (ha' : a'.size = 73) : putAt (pairA a b) 0 a'.toList = pairA a' b := by
  have e : pairA a b = arrV 146 fun i => if i < 73 then (a[i]?).getD undef else (b[i - 73]?).getD undef := arrV_of (by simp [pairA, ha, hb]) fun i hi => pairA_at ha hb hi
  have e2 : pairA a' b = arrV 146 fun i => if i < 73 then (a'[i]?).getD undef else (b[i - 73]?).getD undef := arrV_of (by simp [pairA, ha', hb]) fun i hi => pairA_at ha' hb hi
  rw [e, e2, putAt_arrV]
  refine arrV_congr fun i hi => ?_
  rw [if_pos (Nat.zero_le _), Nat.sub_zero, Array.getElem?_toList]
  by_cases h : i < 73
  · rw [if_pos h, if_pos h, Array.getElem?_eq_getElem (by omega)]; rfl
  · rw [if_neg h, if_neg h, Array.getElem?_eq_none (by omega)]; rfl
end
end Go.Proofs.YtdlmamnnamlleaaDoor
namespace Go.Proofs.YtdlmamnnamlleaaDoor
open Go.ChangeShapes Go.WideShapes Go.ChangeAt Go.RowKit
set_option maxHeartbeats 1000000
set_option maxRecDepth 100000
def macA (K : Nat → W32) (k m : List UInt8) : Array Value := pairA (stL K (padB k 54 ++ m)).cells (stL K (padB k 92)).cells
theorem stL_cells (K : Nat → W32) (l : List UInt8) : Cells (stL K l).cells 73 := stC_cells _ _ _
theorem macA_cells (K : Nat → W32) (k m : List UInt8) : Cells (macA K k m) 146 := pairA_cells (stL_cells K _) (stL_cells K _)
def macZ : Array Value := pairA stZ stZ
theorem macZ_cells : Cells macZ 146 := pairA_cells stZ_cells stZ_cells
theorem zero_cellsM : Tryd.zeroCells101 = macZ := by kernel_rfl
theorem zero_mac (w : World) : (zeroValue 101).run Tryd.prog w = .ok (.agg macZ) w := (zero_of_info (n := 146) (by kernel_rfl)).1 w
section
variable {w : World} {dst : Option Tmp} {x y : Operand} {tt : TypeId} {pos : String} {af : Array Edge} {gd : Option (Nat × Bool)} {a : Act} {K : Act → World → Prop} {Q : Exit → Act → World → Prop}
theorem load_mac (hv : IsHead (a.eval x)) (h : Row w (blkOf (a.eval x)) 146) : Oper.wp Tryd.prog ⟨dst, .load 101 x, tt, pos, af, gd⟩ a w K Q ↔ K (a.put dst (.agg (rowAt w (blkOf (a.eval x))))) w :=
  wp_load_whole Tryd.underlying101 rfl (by kernel_rfl) hv h
theorem store_mac (hv : IsHead (a.eval x)) (h : Row w (blkOf (a.eval x)) 146) (hx : IsAgg (a.eval y) 146) : Oper.wp Tryd.prog ⟨dst, .store 101 x y, tt, pos, af, gd⟩ a w K Q ↔ K (a.put dst undef) (w.setRow (blkOf (a.eval x)) (cellsV (a.eval y))) :=
  wp_store_whole (by kernel_rfl) hv h hx
theorem load_half (hv : IsPart (a.eval x)) (h : Row w (blkOf (a.eval x)) 146) (ho : offOf (a.eval x) + 73 ≤ 146) :
    Oper.wp Tryd.prog ⟨dst, .load 99 x, tt, pos, af, gd⟩ a w K Q ↔ K (a.put dst (.agg ((rowAt w (blkOf (a.eval x))).extract (offOf (a.eval x)) (offOf (a.eval x) + 73)))) w :=
  wp_load_part Tryd.underlying99 rfl (by kernel_rfl) hv h ho
theorem store_half (hv : IsPart (a.eval x)) (h : Row w (blkOf (a.eval x)) 146) (ho : offOf (a.eval x) + 73 ≤ 146) (hx : IsAgg (a.eval y) 73) :
    Oper.wp Tryd.prog ⟨dst, .store 99 x y, tt, pos, af, gd⟩ a w K Q ↔ K (a.put dst undef) (w.setRow (blkOf (a.eval x)) (putAt (rowAt w (blkOf (a.eval x))) (offOf (a.eval x)) (cellsV (a.eval y)).toList)) :=
  wp_store_part (by kernel_rfl) hv h ho hx
end
attribute [local irreducible] arrV dgA sha macA macZ
attribute [local go_sem ↓] load_mac store_mac load_half store_half load_o32 store_o32
attribute [local go_sem] isHead_mk isPart_mk offOf_mk blkOf_mk isAgg_mk cellsV_mk row_drew rowAt_drew row_new_cells row_old rowAt_new rowAt_old zero_mac zero_cellsM zeroD
theorem mac_Write (K : Nat → W32) (k m : List UInt8) (A : Option Addr) (p : List UInt8) (c : Nat) (w : World) (hT : Tabs K w) (hp : Bs w A p c) :
    Calls Tryd.prog 61 #[.agg (macA K k m), .slice A p.length c] w fun e w' => e = .returned (.agg (macA K k (m ++ p))) ∧ Below w.heap.size w w' := by
  have hcm := macA_cells K k m
  have hcz := macZ_cells
  have hL0 : Below w.heap.size w ((w.alloc (Obj.cells (macA K k m) 101)).alloc (Obj.cells macZ 101)) := by go_grown
  have hS0 : Row ((w.alloc (Obj.cells (macA K k m) 101)).alloc (Obj.cells macZ 101)) w.heap.size 146 := by go_simp
  have hs0 : rowAt ((w.alloc (Obj.cells (macA K k m) 101)).alloc (Obj.cells macZ 101)) w.heap.size = macA K k m := by go_simp
  have hR0 : Row ((w.alloc (Obj.cells (macA K k m) 101)).alloc (Obj.cells macZ 101)) (w.heap.size + 1) 146 := by go_simp
  have hT0 := Lib.hid (hT.below hL0 (Nat.le_refl _))
  have hp0 := Lib.hid (show Bs ((w.alloc (Obj.cells (macA K k m) 101)).alloc (Obj.cells macZ 101)) A p c from hp.step hL0)
  have he1 : (macA K k m).extract 0 73 = (stL K (padB k 54 ++ m)).cells := by unfold macA; exact pairA_fst (stL_cells K _).1
  have he2 : putAt (macA K k m) 0 (stL K (padB k 54 ++ (m ++ p))).cells.toList = macA K k (m ++ p) := by unfold macA; exact pairA_put (stL_cells K _).1 (stL_cells K _).1 (stL_cells K _).1
  have hcn := stL_cells K (padB k 54 ++ (m ++ p))
  have hco := macA_cells K k (m ++ p)
  have hcon := Lib.hid (fun V (h : Tabs K V) (h' : Bs V A p c) => writeC (K := K) h (padB k 54 ++ m) h')
  simp only [List.append_assoc] at hcon
  clear hT hp
  go_enter Tryd.func61, Tryd.ntmps61
  go_wp2_with fail
  generalize ((w.alloc (Obj.cells (macA K k m) 101)).alloc (Obj.cells macZ 101)) = W0 at *
  refine (hcon.out _ hT0.out hp0.out).mono ?_
  rintro e w1 ⟨rfl, hb1⟩
  have hL1 := below_step hb1 hL0 (Nat.le_refl _)
  have hS1 := row_below hS0 hb1 hS0.lt
  have hs1 := (rowAt_below hb1 hS0.lt).trans hs0
  have hR1 := row_below hR0 hb1 hR0.lt
  have hS2 : Row (w1.setRow w.heap.size (macA K k (m ++ p))) w.heap.size 146 := (row_setRow_same rfl hS1).2 hco.1
  have hs2 : rowAt (w1.setRow w.heap.size (macA K k (m ++ p))) w.heap.size = macA K k (m ++ p) := rowAt_setRow_same hS1
  have hR2 : Row (w1.setRow w.heap.size (macA K k (m ++ p))) (w.heap.size + 1) 146 := (row_setRow_far (by omega)).2 hR1
  have hL2 : Below w.heap.size w (w1.setRow w.heap.size (macA K k (m ++ p))) := below_setRow hL1 (Nat.le_refl _)
  clear hb1 hL0 hS0 hs0 hR0 hT0 hp0 hcon hL1 hR1
  go_wp2
  exact ret_stored (p := 4) (ty := 101) (g := w.heap.size + 1) (n := 146) (c := macA K k (m ++ p)) rfl Tryd.underlying101 rfl (by kernel_rfl) rfl hR2 hco.1 rfl ⟨rfl, below_setRow hL2 (by omega)⟩
theorem mac_StSum (K : Nat → W32) (k m : List UInt8) (w : World) (hT : Tabs K w) :
    Calls Tryd.prog 62 #[.agg (macA K k m)] w fun e w' => e = .returned (.agg (dgA (sha K (padB k 92 ++ sha K (padB k 54 ++ m))))) ∧ Below w.heap.size w w' := by
  have hcm := macA_cells K k m
  have hcz := dgA_cells []
  have hL0 : Below w.heap.size w ((w.alloc (Obj.cells (macA K k m) 101)).alloc (Obj.cells (dgA []) 57)) := by go_grown
  have hS0 : Row ((w.alloc (Obj.cells (macA K k m) 101)).alloc (Obj.cells (dgA []) 57)) w.heap.size 146 := by go_simp
  have hs0 : rowAt ((w.alloc (Obj.cells (macA K k m) 101)).alloc (Obj.cells (dgA []) 57)) w.heap.size = macA K k m := by go_simp
  have hR0 : Row ((w.alloc (Obj.cells (macA K k m) 101)).alloc (Obj.cells (dgA []) 57)) (w.heap.size + 1) 32 := by go_simp
  have hT0 := Lib.hid (hT.below hL0 (Nat.le_refl _))
  have he1 : (macA K k m).extract 0 73 = (stL K (padB k 54 ++ m)).cells := by unfold macA; exact pairA_fst (stL_cells K _).1
  have he2 : (macA K k m).extract 73 146 = (stL K (padB k 92)).cells := by unfold macA; exact pairA_snd (stL_cells K _).1 (stL_cells K _).1
  have hxl := sha_len K (padB k 54 ++ m)
  have hcx := dgA_cells (sha K (padB k 54 ++ m))
  have hc1 := Lib.hid (fun V (h : Tabs K V) => stSumD (K := K) h (padB k 54 ++ m))
  generalize sha K (padB k 54 ++ m) = x at *
  have hc2 := Lib.hid (fun V (B : Option Addr) (c : Nat) (h : Tabs K V) (h' : Bs V B x c) => writeC (K := K) h (padB k 92) h')
  rw [hxl] at hc2
  have hc3 := Lib.hid (fun V (h : Tabs K V) => stSumD (K := K) h (padB k 92 ++ x))
  have hco := dgA_cells (sha K (padB k 92 ++ x))
  clear hT
  go_enter Tryd.func62, Tryd.ntmps62
  go_wp2_with fail
  generalize ((w.alloc (Obj.cells (macA K k m) 101)).alloc (Obj.cells (dgA []) 57)) = W0 at *
  refine (hc1.out _ hT0.out).mono ?_
  rintro e w1 ⟨rfl, hb1⟩
  have hL1 := below_step hb1 hL0 (Nat.le_refl _)
  have hS1 := row_below hS0 hb1 hS0.lt
  have hs1 := (rowAt_below hb1 hS0.lt).trans hs0
  have hR1 := row_below hR0 hb1 hR0.lt
  have hT1 := Lib.hid (hT0.out.step hb1)
  have hzz : Row (w1.alloc (Obj.cells (dgA []) 57)) w1.heap.size 32 := (row_new rfl).2 hcz.1
  have hst : (w1.alloc (Obj.cells (dgA []) 57)).setRow w1.heap.size (dgA x) = w1.alloc (Obj.cells (dgA x) 57) := setRow_new rfl
  have ha := below_alloc w1 (Obj.cells (dgA x) 57)
  have hX2 : Row (w1.alloc (Obj.cells (dgA x) 57)) w1.heap.size 32 := (row_new rfl).2 hcx.1
  have hx2 : rowAt (w1.alloc (Obj.cells (dgA x) 57)) w1.heap.size = dgA x := rowAt_new rfl
  have hS2 := row_below hS1 ha hS1.lt
  have hs2 := (rowAt_below ha hS1.lt).trans hs1
  have hR2 := row_below hR1 ha hR1.lt
  have hT2 := Lib.hid (hT1.out.step ha)
  have hL2 := below_step ha hL1 (Nat.le_refl _)
  have hB2 := Lib.hid (rd_of_row hxl hX2 hx2)
  clear hb1 hL0 hS0 hs0 hR0 hT0 hc1 hL1 hR1 hT1 ha hX2 hx2 hS1 hs1
  go_wp2
  clear hst hzz
  generalize (w1.alloc (Obj.cells (dgA x) 57)) = W2 at *
  generalize w1.heap.size = g at *
  go_outline
  go_region_law (first
    | (go_simp; go_at_call 75; (refine Calls.mono (hc2.out _ _ _ (hT2.out.step (Below.refl _ _).drew) (hB2.out.step (Below.refl _ _).drew)) ?_); rintro e w3 ⟨rfl, hb3⟩; have hT3 := Lib.hid ((hT2.out.step (Below.refl _ _).drew).step hb3))
    | (go_simp; go_at_call 76; (refine Calls.mono (hc3.out _ hT3.out) ?_); rintro e w4 ⟨rfl, hb4⟩; have hb43 := below_step hb4 hb3 (Nat.le_refl _); have hR4 := row_below (row_drew.2 hR2) hb43 hR2.lt; have hL4 := below_step hb43 hL2.drew (Nat.le_refl _)))
  all_goals go_wp2
  all_goals exact ret_stored (p := 2) (ty := 57) (g := w.heap.size + 1) (n := 32) (c := dgA (sha K (padB k 92 ++ x))) rfl Tryd.underlying57 rfl (by kernel_rfl) rfl hR4 hco.1 rfl ⟨rfl, below_setRow hL4 (by omega)⟩
end Go.Proofs.YtdlmamnnamlleaaDoor
namespace Go.Proofs.YtdlmamnnamlleaaDoor
open Go.ChangeShapes Go.WideShapes Go.ChangeAt Go.RowKit
set_option maxHeartbeats 1000000
set_option maxRecDepth 100000
def b64A (f : Nat → Nat) : Array Value := arrK .u8 64 f
theorem b64A_cells (f : Nat → Nat) : Cells (b64A f) 64 := arrK_cells .u8 64 f
theorem zeroQ : #[Value.int IntKind.u8 0, Value.int IntKind.u8 0, Value.int IntKind.u8 0, Value.int IntKind.u8 0, Value.int IntKind.u8 0, Value.int IntKind.u8 0, Value.int IntKind.u8 0, Value.int IntKind.u8 0, Value.int IntKind.u8 0, Value.int IntKind.u8 0, Value.int IntKind.u8 0, Value.int IntKind.u8 0, Value.int IntKind.u8 0, Value.int IntKind.u8 0, Value.int IntKind.u8 0, Value.int IntKind.u8 0, Value.int IntKind.u8 0, Value.int IntKind.u8 0, Value.int IntKind.u8 0, Value.int IntKind.u8 0, Value.int IntKind.u8 0, Value.int IntKind.u8 0, Value.int IntKind.u8 0, Value.int IntKind.u8 0, Value.int IntKind.u8 0, Value.int IntKind.u8 0, Value.int IntKind.u8 0, Value.int IntKind.u8 0, Value.int IntKind.u8 0, Value.int IntKind.u8 0, Value.int IntKind.u8 0, Value.int IntKind.u8 0, Value.int IntKind.u8 0, Value.int IntKind.u8 0, Value.int IntKind.u8 0, Value.int IntKind.u8 0, Value.int IntKind.u8 0, Value.int IntKind.u8 0, Value.int IntKind.u8 0, Value.int IntKind.u8 0, Value.int IntKind.u8 0, Value.int IntKind.u8 0, Value.int IntKind.u8 0, Value.int IntKind.u8 0, Value.int IntKind.u8 0, Value.int IntKind.u8 0, Value.int IntKind.u8 0, Value.int IntKind.u8 0, Value.int IntKind.u8 0, Value.int IntKind.u8 0, Value.int IntKind.u8 0, Value.int IntKind.u8 0, Value.int IntKind.u8 0, Value.int IntKind.u8 0, Value.int IntKind.u8 0, Value.int IntKind.u8 0, Value.int IntKind.u8 0, Value.int IntKind.u8 0, Value.int IntKind.u8 0, Value.int IntKind.u8 0, Value.int IntKind.u8 0, Value.int IntKind.u8 0, Value.int IntKind.u8 0, Value.int IntKind.u8 0] = b64A fun _ => 0 := by kernel_rfl
section
variable {w : World} {dst : Option Tmp} {x y : Operand} {tt : TypeId} {pos : String} {af : Array Edge} {gd : Option (Nat × Bool)} {a : Act} {K : Act → World → Prop} {Q : Exit → Act → World → Prop}
theorem load_b64 (hv : IsHead (a.eval x)) (h : Row w (blkOf (a.eval x)) 64) : Oper.wp Tryd.prog ⟨dst, .load 97 x, tt, pos, af, gd⟩ a w K Q ↔ K (a.put dst (.agg (rowAt w (blkOf (a.eval x))))) w :=
  wp_load_whole Tryd.underlying97 rfl (by kernel_rfl) hv h
theorem store_b64 (hv : IsHead (a.eval x)) (h : Row w (blkOf (a.eval x)) 64) (hx : IsAgg (a.eval y) 64) : Oper.wp Tryd.prog ⟨dst, .store 97 x y, tt, pos, af, gd⟩ a w K Q ↔ K (a.put dst undef) (w.setRow (blkOf (a.eval x)) (cellsV (a.eval y))) :=
  wp_store_whole (by kernel_rfl) hv h hx
end
theorem b64A_at {f : Nat → Nat} {i : Nat} (h : i < 64) : (b64A f)[i]? = some (.int .u8 (f i : Int)) := arrK_at h
theorem b64A_set {f : Nat → Nat} {i v : Nat} : (b64A f).setIfInBounds i (.int .u8 (v : Int)) = b64A (upd f i v) := arrK_set
theorem foldl_zipIdx (o : Nat) : ∀ (l : List Value) (n : Nat) (c : Array Value), (l.zipIdx n).foldl (fun cs x => cs.setIfInBounds (o + x.2) x.1) c = putAt c (o + n) l
  | [], n, c => rfl
  | v :: r, n, c => by
      rw [List.zipIdx_cons, List.foldl_cons, foldl_zipIdx o r (n + 1)]
      rfl
theorem foldl_arr {b c : Array Value} {n : Nat} (o : Nat) (hb : b.size = n) : Array.foldl (fun (cs : Array Value) (x : Value × Nat) => cs.setIfInBounds (o + x.snd) x.fst) c b.zipIdx 0 n = putAt c o b.toList := by
  subst hb
  have := foldl_zipIdx o b.toList 0 c
  rw [Nat.add_zero] at this
  rw [← this, ← Array.toList_zipIdx]
  have e : b.size = b.zipIdx.size := by simp
  rw [e, Array.foldl_toList]
theorem foldl_arr0 {b c : Array Value} {n : Nat} (hb : b.size = n) : Array.foldl (fun (cs : Array Value) (x : Value × Nat) => cs.setIfInBounds x.snd x.fst) c b.zipIdx 0 n = putAt c 0 b.toList := by
  rw [← foldl_arr 0 hb]
  congr 1
  funext cs x
  rw [Nat.zero_add]
theorem pairA_put2 {a b b' : Array Value} (ha : a.size = 73) (hb : b.size = 73) (hb' : b'.size = 73) : putAt (pairA a b) 73 b'.toList = pairA a b' := by
  have e : pairA a b = arrV 146 fun i => if i < 73 then (a[i]?).getD undef else (b[i - 73]?).getD undef := arrV_of (by simp [pairA, ha, hb]) fun i hi => pairA_at ha hb hi
  have e2 : pairA a b' = arrV 146 fun i => if i < 73 then (a[i]?).getD undef else (b'[i - 73]?).getD undef := arrV_of (by simp [pairA, ha, hb']) fun i hi => pairA_at ha hb' hi
  rw [e, e2, putAt_arrV]
  refine arrV_congr fun i hi => ?_
  by_cases h : i < 73
  · rw [if_neg (by omega)]
    simp [h]
  · rw [if_pos (by omega), Array.getElem?_toList, if_neg h, if_neg h, Array.getElem?_eq_getElem (by omega)]; rfl
/-- The bytes of a key, laid over zeros. -/
def keyF (k : List UInt8) (i : Nat) : Nat := if i < k.length then bytesF k i else 0
theorem bytesV_at {l : List UInt8} {i : Nat} (h : i < l.length) : (bytesV l)[i]? = some (.int .u8 (bytesF l i : Int)) := by
  rw [bytesF_at h]
  simp [bytesV, List.getElem?_eq_getElem h]
/-- copy of bytes into a row. -/
theorem wpList_copyB {ops : Array Oper} {rest : List Oper} {o : Oper} {a : Act} {w : World} {Q : Exit → Act → World → Prop} (hgd : o.guard = none) (d s : Operand)
    (ho : o.op = .call { callee := .builtin .copy, args := #[d, s], argTypes := #[22, 22] }) {g : Nat} {A : Option Addr} {k : List UInt8} {c : Nat}
    (hd : a.eval d = .slice (some ⟨g, 0, none⟩) 64 64) (hs : a.eval s = .slice A k.length c) (hR : Row w g 64) (hr : rowAt w g = b64A fun _ => 0) (hb : Bs w A k c) (hk : k.length ≤ 64)
    (h : wpList Tryd.prog ops Q rest (a.put o.dst (goInt k.length)) (w.setRow g (b64A (keyF k)))) : wpList Tryd.prog ops Q (o :: rest) a w := by
  have hrun : (Builtin.copy_ #[22, 22] o.type #[.slice (some ⟨g, 0, none⟩) 64 64, .slice A k.length c]).run Tryd.prog w = .ok (goInt k.length) (w.setRow g (b64A (keyF k))) := by
    cases k with
    | nil =>
      have e : w.setRow g (b64A (keyF [])) = w := by
        have : b64A (keyF []) = rowAt w g := by rw [hr]; exact arrK_congr fun i _ => by simp [keyF]
        rw [this, setRow_id hR]
      rw [e]
      exact run_copy_none w _ _ _ 5 _ _ _ _ _ _ Tryd.underlying22 (by kernel_rfl) (by simp)
    | cons b k =>
      obtain ⟨ad, rfl, -, -⟩ := hb.rd 0 (.int .u8 (b.toNat : Int)) (by simp [bytesV])
      obtain ⟨cs, t, hg, hl⟩ := id hR
      have ecs : cs = b64A fun _ => 0 := by rw [← hr]; simp [rowAt, hg]
      have h1 := run_copy_row (P := Tryd.prog) w 22 22 o.type 5 g 0 64 64 ad (b :: k).length c cs t (bytesV (b :: k)) Tryd.underlying22 (by kernel_rfl) hg (by rw [bytesV_length]; exact (Nat.min_eq_left hk).symm)
        (fun j v hv => hb.rd.all hv) (by rw [bytesV_length, hl]; omega) (bytesV_oneCell _)
      have e : (cs.toList.take 0 ++ bytesV (b :: k) ++ cs.toList.drop (0 + (bytesV (b :: k)).length)).toArray = b64A (keyF (b :: k)) := by
        apply Array.ext_getElem?
        intro i
        have hlen : (bytesV (b :: k)).length = (b :: k).length := bytesV_length _
        simp only [List.take_zero, List.nil_append, Nat.zero_add, List.getElem?_toArray]
        by_cases hi : i < 64
        · rw [show (b64A (keyF (b :: k)))[i]? = some (.int .u8 (keyF (b :: k) i : Int)) from arrK_at hi]
          unfold keyF
          by_cases hik : i < (b :: k).length
          · rw [List.getElem?_append_left (by rw [hlen]; exact hik), if_pos hik, bytesV_at hik]
          · rw [List.getElem?_append_right (by rw [hlen]; omega), if_neg hik, hlen, List.getElem?_drop, ecs, Array.getElem?_toList, show (b :: k).length + (i - (b :: k).length) = i by omega]
            exact arrK_at hi
        · rw [List.getElem?_eq_none (by simp [hlen, hl]; simp at hk; omega), Array.getElem?_eq_none (by rw [(b64A_cells _).1]; omega)]
      rw [e, bytesV_length] at h1
      exact h1
  exact wpList_plain hgd fun K hK => by
    unfold Oper.wp execOp
    simp only [ho, resolve, invoke, builtin, Sem.run_bind, Sem.run_pure, Result.andThen_ok, List.map_toArray, List.map_cons, List.map_nil, hd, hs, hrun]
    exact hK _ _ h
/-- The first k bytes laid over by c. -/
def xorF (f : Nat → Nat) (c k : Nat) : Nat → Nat := fun i => if i < k then f i ^^^ c else f i
theorem keyF_lt (l : List UInt8) (i : Nat) : keyF l i < 256 := by
  unfold keyF
  split
  · exact bytesF_lt l i
  · omega
theorem xorF_step (f : Nat → Nat) (c k : Nat) : upd (xorF f c k) k (f k ^^^ c) = xorF f c (k + 1) := by
  funext i
  unfold upd xorF
  by_cases e : i = k
  · subst e; rw [if_pos rfl, if_pos (by omega)]
  · rw [if_neg e]
    by_cases e2 : i < k
    · rw [if_pos e2, if_pos (by omega)]
    · rw [if_neg e2, if_neg (by omega)]
theorem xorF_pad (l : List UInt8) (c : UInt8) : b64A (xorF (keyF l) c.toNat 64) = (bytesV (padB l c)).toArray := by
  apply Array.toList_inj.1
  apply List.ext_getElem?
  intro i
  rw [Array.getElem?_toList]
  show _ = (bytesV (padB l c))[i]?
  by_cases hi : i < 64
  · rw [bytesV_at (by rw [padB_len]; exact hi), bytesF_at (by rw [padB_len]; exact hi)]
    rw [show (b64A (xorF (keyF l) c.toNat 64))[i]? = some (.int .u8 (xorF (keyF l) c.toNat 64 i : Int)) from b64A_at hi]
    unfold xorF keyF
    rw [if_pos hi]
    simp only [padB, List.getElem_map, List.getElem_range, UInt8.toNat_xor]
    by_cases h : i < l.length
    · rw [if_pos h, bytesF_at h, List.getElem?_eq_getElem h]; rfl
    · rw [if_neg h, List.getElem?_eq_none (by omega)]; rfl
  · rw [Array.getElem?_eq_none (by rw [(b64A_cells _).1]; omega), List.getElem?_eq_none (by rw [bytesV_length, padB_len]; omega)]
theorem bs_pad {w : World} {g : Nat} {l : List UInt8} (c : UInt8) (hR : Row w g 64) (hr : rowAt w g = b64A (xorF (keyF l) c.toNat 64)) : Bs w (some ⟨g, 0, none⟩) (padB l c) 64 := by
  rw [xorF_pad l c] at hr
  have := rd_row hR hr
  exact ⟨by simpa using this, by rw [padB_len]; omega, by omega⟩
theorem macZ_put {a : Array Value} (ha : a.size = 73) : putAt macZ 0 a.toList = pairA a stZ := pairA_put stZ_cells.1 stZ_cells.1 ha
theorem macA_nil {K : Nat → W32} {k : List UInt8} (h1 : (stL K (padB k 54)).cells.size = 73) (h2 : (stL K (padB k 92)).cells.size = 73) : putAt (pairA (stL K (padB k 54)).cells stZ) 73 (stL K (padB k 92)).cells.toList = macA K k [] := by
  unfold macA
  rw [List.append_nil]
  exact pairA_put2 h1 stZ_cells.1 h2
attribute [local irreducible] arrV dgA sha macA macZ b64A
attribute [local go_sem ↓] load_mac store_mac load_b64 store_b64 load_o32 store_o32
attribute [local go_sem] isHead_mk isPart_mk offOf_mk blkOf_mk isAgg_mk cellsV_mk row_drew rowAt_drew row_new_cells row_old rowAt_new rowAt_old zero_mac zero_cellsM zeroQ zeroD
theorem padW {K : Nat → W32} {w : World} {A : Option Addr} {l : List UInt8} {c : Nat} (hl : l.length = 64) (hT : Tabs K w) (h : Bs w A l c) : Calls Tryd.prog 75 #[.agg (stL K []).cells, .slice A 64 c] w fun e w' => e = .returned (.agg (stL K l).cells) ∧ Below w.heap.size w w' := by
  have := writeC (K := K) hT [] h
  rw [hl] at this
  exact this
set_option maxHeartbeats 2000000 in
theorem mac_New (K : Nat → W32) (A : Option Addr) (key : List UInt8) (c : Nat) (w : World) (hT : Tabs K w) (hp : Bs w A key c) :
    Calls Tryd.prog 60 #[.slice A key.length c] w fun e w' => e = .returned (.agg (macA K (keyL K key) [])) ∧ Below w.heap.size w w' := by
  have hcz := macZ_cells
  have hL0 := below_alloc w (Obj.cells macZ 101)
  have hR0 : Row (w.alloc (Obj.cells macZ 101)) w.heap.size 146 := (row_new rfl).2 hcz.1
  have hT0 := Lib.hid (hT.step hL0)
  have hp0 := Lib.hid (hp.step hL0)
  have hkl := keyL_len K key
  have hHT := Lib.hid hT
  clear hT hp
  go_enter Tryd.func60, Tryd.ntmps60
  go_upto_if 9 with (fail)
  generalize w.alloc (Obj.cells macZ 101) = W0 at *
  go_cut [0] (fun v0 wx => ∃ (A' : Option Addr) (c' : Nat), v0 = .slice A' (keyL K key).length c' ∧ Bs wx A' (keyL K key) c' ∧ Tabs K wx ∧ Row wx w.heap.size 146 ∧ Below w.heap.size w wx)
  case first =>
    have hcd := dgA_cells []
    have hcs := dgA_cells (sha K key)
    have hsl := sha_len K key
    by_cases h64 : 64 < key.length
    · have hd : decide ((64 : Int) < (key.length : Int)) = true := by simp; omega
      have hk : keyL K key = sha K key := by unfold keyL; rw [if_pos h64]
      have hHk := Lib.hid hk
      clear hk
      go_wp2_with fail
      refine (sumD (K := K) hT0.out hp0.out).mono ?_
      rintro e w1 ⟨rfl, hb1⟩
      have hzz : Row (w1.alloc (Obj.cells (dgA []) 57)) w1.heap.size 32 := (row_new rfl).2 hcd.1
      have hst : (w1.alloc (Obj.cells (dgA []) 57)).setRow w1.heap.size (dgA (sha K key)) = w1.alloc (Obj.cells (dgA (sha K key)) 57) := setRow_new rfl
      have ha := below_alloc w1 (Obj.cells (dgA (sha K key)) 57)
      have hB := Lib.hid (rd_of_row hsl (show Row (w1.alloc (Obj.cells (dgA (sha K key)) 57)) w1.heap.size 32 from (row_new rfl).2 hcs.1) (rowAt_new rfl))
      go_wp2_with fail
      go_meet
      refine ⟨some ⟨w1.heap.size, 0, none⟩, 32, by rw [hHk.out, hsl], by rw [hHk.out]; exact hB.out, (hT0.out.step hb1).step ha, row_below (row_below hR0 hb1 hR0.lt) ha (row_below hR0 hb1 hR0.lt).lt, below_step ha (below_step hb1 hL0 (Nat.le_refl _)) (Nat.le_refl _)⟩
    · have hd : decide ((64 : Int) < (key.length : Int)) = false := by simp; omega
      have hk : keyL K key = key := by unfold keyL; rw [if_neg h64]
      have hHk := Lib.hid hk
      clear hk
      go_wp2_with fail
      go_meet
      exact ⟨A, c, by rw [hHk.out], by rw [hHk.out]; exact hp0.out, hT0.out, hR0, hL0⟩
  case rest =>
    obtain ⟨A', c', rfl, hBk, hTx, hRx, hLx⟩ := hcut
    clear hT0 hp0 hL0 hR0
    generalize hke : keyL K key = k at *
    have hHke := Lib.hid hke
    clear hke
    have hca := b64A_cells fun _ => 0
    have hck := b64A_cells (keyF k)
    have hW1 : Below wc.heap.size wc ((wc.alloc (Obj.cells (b64A fun _ => 0) 97)).alloc (Obj.cells (b64A fun _ => 0) 97)) := by go_grown
    have hI1 : Row ((wc.alloc (Obj.cells (b64A fun _ => 0) 97)).alloc (Obj.cells (b64A fun _ => 0) 97)) wc.heap.size 64 := by go_simp
    have hi1 : rowAt ((wc.alloc (Obj.cells (b64A fun _ => 0) 97)).alloc (Obj.cells (b64A fun _ => 0) 97)) wc.heap.size = b64A fun _ => 0 := by go_simp
    have hO1 : Row ((wc.alloc (Obj.cells (b64A fun _ => 0) 97)).alloc (Obj.cells (b64A fun _ => 0) 97)) (wc.heap.size + 1) 64 := by go_simp
    have hB1 := Lib.hid (hBk.step hW1)
    have hR1 := row_below hRx hW1 hRx.lt
    have hL1 := below_step hW1 hLx (Nat.le_refl _)
    have hlt := hRx.lt
    clear hBk hTx hW1 hRx hLx
    go_upto_region 5 with (fail)
    generalize ((wc.alloc (Obj.cells (b64A fun _ => 0) 97)).alloc (Obj.cells (b64A fun _ => 0) 97)) = W1 at *
    generalize wc.heap.size = g at *
    have hI2 : Row (W1.setRow g (b64A (keyF k))) g 64 := (row_setRow_same rfl hI1).2 hck.1
    have hi2 : rowAt (W1.setRow g (b64A (keyF k))) g = b64A (keyF k) := rowAt_setRow_same hI1
    have hO2 : Row (W1.setRow g (b64A (keyF k))) (g + 1) 64 := (row_setRow_far (by omega)).2 hO1
    have hI3 : Row ((W1.setRow g (b64A (keyF k))).setRow (g + 1) (b64A (keyF k))) g 64 := (row_setRow_far (by omega)).2 hI2
    have hi3 : rowAt ((W1.setRow g (b64A (keyF k))).setRow (g + 1) (b64A (keyF k))) g = b64A (xorF (keyF k) 54 0) := (rowAt_setRow_far (by omega)).trans (hi2.trans (by congr 1))
    have hO3 : Row ((W1.setRow g (b64A (keyF k))).setRow (g + 1) (b64A (keyF k))) (g + 1) 64 := (row_setRow_same rfl hO2).2 hck.1
    have ho3 : rowAt ((W1.setRow g (b64A (keyF k))).setRow (g + 1) (b64A (keyF k))) (g + 1) = b64A (xorF (keyF k) 92 0) := (rowAt_setRow_same hO2).trans (by congr 1)
    have hR3 : Row ((W1.setRow g (b64A (keyF k))).setRow (g + 1) (b64A (keyF k))) w.heap.size 146 := (row_setRow_far (by omega)).2 ((row_setRow_far (by omega)).2 hR1)
    have hL3 : Below w.heap.size w ((W1.setRow g (b64A (keyF k))).setRow (g + 1) (b64A (keyF k))) := below_setRow (below_setRow hL1 (by omega)) (by omega)
    go_wp2_with (refine wpList_copyB (o := ⟨some 15, _, _, _, _, _⟩) rfl (.tmp 13) (.tmp 14) rfl rfl rfl hI1 hi1 hB1.out hkl ?_)
    clear hI1 hi1 hO1 hB1 hL1 hR1 hI2 hi2 hO2
    generalize ((W1.setRow g (b64A (keyF k))).setRow (g + 1) (b64A (keyF k))) = W3 at *
    clear hca hck
    go_loopw [6, 17] (fun _ i wr => ∃ j : Nat, i = .int .i64 j ∧ j ≤ 64 ∧ Row wr g 64 ∧ rowAt wr g = b64A (xorF (keyF k) 54 j) ∧ Row wr (g + 1) 64 ∧ rowAt wr (g + 1) = b64A (xorF (keyF k) 92 j) ∧ Row wr w.heap.size 146 ∧ Below w.heap.size w wr) (fun _ i _ => 64 - (intOf i).toNat)
    case atStart => exact ⟨0, rfl, by omega, hI3, hi3, hO3, ho3, hR3, hL3⟩
    case round =>
      clear hI3 hi3 hO3 ho3 hR3 hL3
      obtain ⟨j, rfl, hj, hI, hi, hO, ho, hR, hL⟩ := hrel
      by_cases h64 : j = 64
      · subst h64
        have hbi := Lib.hid (bs_pad 54 hI hi)
        have hbo := Lib.hid (bs_pad 92 hO ho)
        have hTr := Lib.hid (hHT.out.step hL)
        have hcp : Cells (macA K k []) 146 := macA_cells K k []
        have hS := Lib.hid (show ∀ V, Below wr.heap.size wr V → Tabs K V ∧ Bs V (some ⟨g, 0, none⟩) (padB k 54) 64 ∧ Bs V (some ⟨g + 1, 0, none⟩) (padB k 92) 64 ∧ Row V w.heap.size 146 ∧ Below w.heap.size w V from fun V hV =>
          ⟨hTr.out.step hV, hbi.out.step hV, hbo.out.step hV, row_below hR hV hR.lt, below_step hV hL (Nat.le_refl _)⟩)
        have z1 := (stL_cells K (padB k 54)).1
        have z2 := (stL_cells K (padB k 92)).1
        have z3 := hcz.1
        have q1 : Array.foldl (fun (cs : Array Value) (x : Value × Nat) => cs.setIfInBounds x.snd x.fst) macZ (stL K (padB k 54)).cells.zipIdx 0 73 = pairA (stL K (padB k 54)).cells stZ := (foldl_arr0 z1).trans (macZ_put z1)
        have z4 := (pairA_cells (stL_cells K (padB k 54)) stZ_cells).1
        have q2 : Array.foldl (fun (cs : Array Value) (x : Value × Nat) => cs.setIfInBounds (73 + x.snd) x.fst) (pairA (stL K (padB k 54)).cells stZ) (stL K (padB k 92)).cells.zipIdx 0 73 = macA K k [] := (foldl_arr 73 z2).trans (macA_nil z1 z2)
        clear hi ho hbi hbo hI hO hTr
        go_wp2
        go_region_law (first
          | (go_simp; go_at_call 74; (with_reducible refine (newC0 (K := K) _).mono ?_); rintro e w1 ⟨rfl, hb1⟩)
          | (go_simp; go_at_call 75; (with_reducible refine Calls.mono (padW (K := K) (padB_len k 54) ?_ ?_) ?_); (focus (refine (hS.out _ ?_).1; repeat (first | assumption | exact Below.refl _ _ | refine Below.drew ?_ | refine below_step (by assumption) ?_ (Nat.le_refl _)))); (focus (refine (hS.out _ ?_).2.1; repeat (first | assumption | exact Below.refl _ _ | refine Below.drew ?_ | refine below_step (by assumption) ?_ (Nat.le_refl _)))); rintro e w2 ⟨rfl, hb2⟩)
          | (go_simp; go_at_call 75; (with_reducible refine Calls.mono (padW (K := K) (padB_len k 92) ?_ ?_) ?_); (focus (refine (hS.out _ ?_).1; repeat (first | assumption | exact Below.refl _ _ | refine Below.drew ?_ | refine below_step (by assumption) ?_ (Nat.le_refl _)))); (focus (refine (hS.out _ ?_).2.2.1; repeat (first | assumption | exact Below.refl _ _ | refine Below.drew ?_ | refine below_step (by assumption) ?_ (Nat.le_refl _)))); rintro e w4 ⟨rfl, hb4⟩; have hW4 : Below wr.heap.size wr w4 := (by repeat (first | assumption | exact Below.refl _ _ | refine Below.drew ?_ | refine below_step (by assumption) ?_ (Nat.le_refl _))); have hR4 := (hS.out _ hW4).2.2.2.1; have hL4 := (hS.out _ hW4).2.2.2.2))
        all_goals go_wp2
        all_goals exact ret_stored (p := 2) (ty := 101) (g := w.heap.size) (n := 146) (c := macA K k []) rfl Tryd.underlying101 rfl (by kernel_rfl) rfl hR4 hcp.1 rfl ⟨by rw [hHke.out], below_setRow hL4 (Nat.le_refl _)⟩
      · have c1 := hI.cell j
        rw [hi, show (b64A (xorF (keyF k) 54 j))[j]? = some (.int .u8 (xorF (keyF k) 54 j j : Int)) from b64A_at (by omega)] at c1
        have c2 := hO.cell j
        rw [ho, show (b64A (xorF (keyF k) 92 j))[j]? = some (.int .u8 (xorF (keyF k) 92 j j : Int)) from b64A_at (by omega)] at c2
        have e1 : ∀ c, xorF (keyF k) c j j = keyF k j := fun c => by unfold xorF; rw [if_neg (by omega)]
        rw [e1] at c1 c2
        have f1 := hI.frozen j
        have f2 := hO.frozen j
        have x1 : bits .xor .u8 (keyF k j : Int) 54 = ((keyF k j ^^^ 54 : Nat) : Int) := u8_xor_nat (keyF k j) 54 (keyF_lt k j) (by omega)
        have x2 : bits .xor .u8 (keyF k j : Int) 92 = ((keyF k j ^^^ 92 : Nat) : Int) := u8_xor_nat (keyF k j) 92 (keyF_lt k j) (by omega)
        have s1 := Lib.hid (xorF_step (keyF k) 54 j)
        have s2 := Lib.hid (xorF_step (keyF k) 92 j)
        have hHi := Lib.hid hi
        have hHo := Lib.hid ho
        clear hi ho e1
        generalize keyF k j = x at *
        go_wp2
        go_round
        case rel =>
          refine ⟨j + 1, by go_num, by omega, row_setCell.2 (row_setCell.2 hI), ?_, row_setCell.2 (row_setCell.2 hO), ?_, row_setCell.2 (row_setCell.2 hR), (hL.setCell (p := ⟨g, _, none⟩) (show w.heap.size ≤ g by omega) _).setCell (p := ⟨g + 1, _, none⟩) (show w.heap.size ≤ g + 1 by omega) _⟩
          · rw [rowAt_setCell_far (show g ≠ g + 1 by omega), rowAt_setCell_same, hHi.out]
            rw [b64A_set, s1.out]
          · rw [rowAt_setCell_same, rowAt_setCell_far (show g + 1 ≠ g by omega), hHo.out]
            rw [b64A_set, s2.out]
        case measure => simp [intOf]; omega
end Go.Proofs.YtdlmamnnamlleaaDoor
namespace Go.Proofs.YtdlmamnnamlleaaDoor
open Go.ChangeShapes Go.WideShapes Go.ChangeAt Go.RowKit
set_option maxHeartbeats 1000000
set_option maxRecDepth 100000
attribute [local irreducible] arrV dgA sha macA macZ b64A
attribute [local go_sem ↓] load_mac store_mac load_b64 store_b64 load_o32 store_o32
attribute [local go_sem] isHead_mk isPart_mk offOf_mk blkOf_mk isAgg_mk cellsV_mk row_drew rowAt_drew row_new_cells row_old rowAt_new rowAt_old zero_mac zero_cellsM zeroQ zeroD bs_app
theorem mac_Same (A : Option Addr) (p : List UInt8) (c : Nat) (B : Option Addr) (q : List UInt8) (d : Nat) (w : World) (hp : Bs w A p c) (hq : Bs w B q d) :
    Calls Tryd.prog 58 #[.slice A p.length c, .slice B q.length d] w fun e w' => e = .returned (.bool (decide (p = q))) ∧ Below w.heap.size w w' := by
  have hpm := hp.le
  have hqm := hq.le
  have hpx := hp.mx
  have hqx := hq.mx
  have x0 := i64_xor_nat p.length q.length (by omega) (by omega)
  have hDl : p.length ^^^ q.length < 9223372036854775808 := Nat.xor_lt_two_pow (n := 63) (by omega) (by omega)
  have hD0 := Lib.hid (show p.length ^^^ q.length = 0 ↔ p.length = q.length from xor_zero_iff)
  have hb0 : Below w.heap.size w w := Below.refl _ _
  have hHp := Lib.hid hp
  have hHq := Lib.hid hq
  clear hp hq
  generalize p.length ^^^ q.length = D0 at *
  go_enter Tryd.func58, Tryd.ntmps58
  go_wp2
  · have hm1 : q.length ≤ p.length := by omega
    have hm2 : q.length ≤ q.length := by omega
    have hmm : q.length = p.length ∨ q.length = q.length := by omega
    obtain ⟨m, hme⟩ : ∃ m, m = q.length := ⟨_, rfl⟩
    have hn1 : m ≤ p.length := by omega
    have hn2 : m ≤ q.length := by omega
    have hnn : m = p.length ∨ m = q.length := by omega
    rw [← hme]
    clear hme hm1 hm2 hmm
    go_loopw [5, 6, 17] (fun v5 _ i wr => ∃ k D : Nat, i = .int .i64 k ∧ k ≤ m ∧ v5 = .int .i64 D ∧ D < 9223372036854775808 ∧ Hid (D = 0 ↔ (p.length = q.length ∧ p.take k = q.take k)) ∧ Below w.heap.size w wr) (fun _ _ i _ => m - (intOf i).toNat)
    case atStart => exact ⟨0, D0, rfl, by omega, rfl, hDl, Lib.hid (by rw [hD0.out]; simp), hb0⟩
    case round =>
      clear hb0 hDl hD0
      obtain ⟨k, D, rfl, hk, rfl, hD, hHD, hL⟩ := hrel
      by_cases hkm : k = m
      · subst hkm
        have hfin := Lib.hid (show ((D : Int) == 0) = decide (p = q) by
          have h1 := hHD.out
          by_cases h : p = q
          · subst h
            rw [decide_eq_true rfl, beq_iff_eq]
            have := h1.2 ⟨rfl, rfl⟩
            omega
          · rw [decide_eq_false h, beq_eq_false_iff_ne]
            intro h0
            obtain ⟨h2, h3⟩ := h1.1 (by omega)
            rw [List.take_of_length_le (by omega), List.take_of_length_le (by omega)] at h3
            exact h h3)
        go_wp2
        go_ret
        exact ⟨ret_bool hfin.out, hL⟩
      · have hkp : k < p.length := by omega
        have hkq : k < q.length := by omega
        obtain ⟨ad, rfl, -, c1⟩ := ((hHp.out.step hL).rd).at_ (k := k) (by rw [bytesV_length]; exact hkp)
        obtain ⟨bd, rfl, -, c2⟩ := ((hHq.out.step hL).rd).at_ (k := k) (by rw [bytesV_length]; exact hkq)
        have e1 : (bytesV p)[k]'(by rw [bytesV_length]; exact hkp) = .int .u8 (p[k].toNat : Int) := by simp [bytesV]
        have e2 : (bytesV q)[k]'(by rw [bytesV_length]; exact hkq) = .int .u8 (q[k].toNat : Int) := by simp [bytesV]
        rw [e1] at c1
        rw [e2] at c2
        have hx := UInt8.toNat_lt p[k]
        have hy := UInt8.toNat_lt q[k]
        have hst := Lib.hid (show D ||| (p[k].toNat ^^^ q[k].toNat) = 0 ↔ (p.length = q.length ∧ p.take (k + 1) = q.take (k + 1)) by
          rw [or_zero_iff, xor_zero_iff, hHD.out, List.take_succ_eq_append_getElem hkp, List.take_succ_eq_append_getElem hkq]
          constructor
          · rintro ⟨⟨h1, h2⟩, h3⟩
            exact ⟨h1, by rw [h2, UInt8.toNat_inj.1 h3]⟩
          · rintro ⟨h1, h2⟩
            have := List.append_inj' h2 rfl
            exact ⟨⟨h1, this.1⟩, congrArg UInt8.toNat (by simpa using this.2)⟩)
        clear e1 e2 hHD
        generalize p[k].toNat = x at *
        generalize q[k].toNat = y at *
        have hxy : x ^^^ y < 256 := Nat.xor_lt_two_pow (n := 8) hx hy
        have y1 := u8_xor_nat x y hx hy
        have y2 := i64_or_nat D (x ^^^ y) hD (by omega)
        have hor : D ||| (x ^^^ y) < 9223372036854775808 := Nat.or_lt_two_pow (n := 63) hD (by omega)
        generalize x ^^^ y = z at *
        have y3 : IntKind.i64.wrap (z : Int) = (z : Int) := by rw [IntKind.wrap_i64]; omega
        generalize D ||| z = D2 at *
        have z1 : (0 : Int) ≤ (k : Int) := by omega
        have z2 : (k : Int) < (p.length : Int) := by omega
        have z3 : (k : Int) < (q.length : Int) := by omega
        have z4 : (k : Int) < (m : Int) := by omega
        go_wp2
        go_quiet (fail)
        go_wp2
        go_round
        case rel => exact ⟨k + 1, D2, by go_num, by omega, rfl, hor, hst, below_drewN hL nq⟩
        case measure => simp [intOf]; omega
  · have hm1 : p.length ≤ p.length := by omega
    have hm2 : p.length ≤ q.length := by omega
    have hmm : p.length = p.length ∨ p.length = q.length := by omega
    obtain ⟨m, hme⟩ : ∃ m, m = p.length := ⟨_, rfl⟩
    have hn1 : m ≤ p.length := by omega
    have hn2 : m ≤ q.length := by omega
    have hnn : m = p.length ∨ m = q.length := by omega
    rw [← hme]
    clear hme hm1 hm2 hmm
    go_loopw [5, 6, 17] (fun v5 _ i wr => ∃ k D : Nat, i = .int .i64 k ∧ k ≤ m ∧ v5 = .int .i64 D ∧ D < 9223372036854775808 ∧ Hid (D = 0 ↔ (p.length = q.length ∧ p.take k = q.take k)) ∧ Below w.heap.size w wr) (fun _ _ i _ => m - (intOf i).toNat)
    case atStart => exact ⟨0, D0, rfl, by omega, rfl, hDl, Lib.hid (by rw [hD0.out]; simp), hb0⟩
    case round =>
      clear hb0 hDl hD0
      obtain ⟨k, D, rfl, hk, rfl, hD, hHD, hL⟩ := hrel
      by_cases hkm : k = m
      · subst hkm
        have hfin := Lib.hid (show ((D : Int) == 0) = decide (p = q) by
          have h1 := hHD.out
          by_cases h : p = q
          · subst h
            rw [decide_eq_true rfl, beq_iff_eq]
            have := h1.2 ⟨rfl, rfl⟩
            omega
          · rw [decide_eq_false h, beq_eq_false_iff_ne]
            intro h0
            obtain ⟨h2, h3⟩ := h1.1 (by omega)
            rw [List.take_of_length_le (by omega), List.take_of_length_le (by omega)] at h3
            exact h h3)
        go_wp2
        go_ret
        exact ⟨ret_bool hfin.out, hL⟩
      · have hkp : k < p.length := by omega
        have hkq : k < q.length := by omega
        obtain ⟨ad, rfl, -, c1⟩ := ((hHp.out.step hL).rd).at_ (k := k) (by rw [bytesV_length]; exact hkp)
        obtain ⟨bd, rfl, -, c2⟩ := ((hHq.out.step hL).rd).at_ (k := k) (by rw [bytesV_length]; exact hkq)
        have e1 : (bytesV p)[k]'(by rw [bytesV_length]; exact hkp) = .int .u8 (p[k].toNat : Int) := by simp [bytesV]
        have e2 : (bytesV q)[k]'(by rw [bytesV_length]; exact hkq) = .int .u8 (q[k].toNat : Int) := by simp [bytesV]
        rw [e1] at c1
        rw [e2] at c2
        have hx := UInt8.toNat_lt p[k]
        have hy := UInt8.toNat_lt q[k]
        have hst := Lib.hid (show D ||| (p[k].toNat ^^^ q[k].toNat) = 0 ↔ (p.length = q.length ∧ p.take (k + 1) = q.take (k + 1)) by
          rw [or_zero_iff, xor_zero_iff, hHD.out, List.take_succ_eq_append_getElem hkp, List.take_succ_eq_append_getElem hkq]
          constructor
          · rintro ⟨⟨h1, h2⟩, h3⟩
            exact ⟨h1, by rw [h2, UInt8.toNat_inj.1 h3]⟩
          · rintro ⟨h1, h2⟩
            have := List.append_inj' h2 rfl
            exact ⟨⟨h1, this.1⟩, congrArg UInt8.toNat (by simpa using this.2)⟩)
        clear e1 e2 hHD
        generalize p[k].toNat = x at *
        generalize q[k].toNat = y at *
        have hxy : x ^^^ y < 256 := Nat.xor_lt_two_pow (n := 8) hx hy
        have y1 := u8_xor_nat x y hx hy
        have y2 := i64_or_nat D (x ^^^ y) hD (by omega)
        have hor : D ||| (x ^^^ y) < 9223372036854775808 := Nat.or_lt_two_pow (n := 63) hD (by omega)
        generalize x ^^^ y = z at *
        have y3 : IntKind.i64.wrap (z : Int) = (z : Int) := by rw [IntKind.wrap_i64]; omega
        generalize D ||| z = D2 at *
        have z1 : (0 : Int) ≤ (k : Int) := by omega
        have z2 : (k : Int) < (p.length : Int) := by omega
        have z3 : (k : Int) < (q.length : Int) := by omega
        have z4 : (k : Int) < (m : Int) := by omega
        go_wp2
        go_quiet (fail)
        go_wp2
        go_round
        case rel => exact ⟨k + 1, D2, by go_num, by omega, rfl, hor, hst, below_drewN hL nq⟩
        case measure => simp [intOf]; omega
end Go.Proofs.YtdlmamnnamlleaaDoor
namespace Go.Proofs.YtdlmamnnamlleaaDoor
open Go.ChangeShapes Go.WideShapes Go.ChangeAt Go.RowKit
set_option maxHeartbeats 400000
set_option maxRecDepth 100000
attribute [local irreducible] arrV dgA sha
attribute [local go_sem ↓] load_o32 store_o32 execl_o32 execs_o32
attribute [local go_sem] isHead_mk isPart_mk offOf_mk blkOf_mk isAgg_mk cellsV_mk row_drew rowAt_drew row_new_cells row_old rowAt_new rowAt_old setRow_new bs_app

def leafL (K : Nat → W32) (p : List UInt8) : List UInt8 := sha K (0 :: p)
def nodeL (K : Nat → W32) (a b : List UInt8) : List UInt8 := sha K (1 :: (a ++ b))
theorem leaf_len (K : Nat → W32) (p : List UInt8) : (leafL K p).length = 32 := sha_len _ _
theorem node_len (K : Nat → W32) (a b : List UInt8) : (nodeL K a b).length = 32 := sha_len _ _
/-- A literal of one byte. -/
theorem bs_lit (w : World) (b : UInt8) (t : TypeId) : Bs (w.alloc (.cells #[.int .u8 (b.toNat : Int)] t)) (some ⟨w.heap.size, 0, none⟩) [b] 1 :=
  ⟨Rd.of_blk (cs := #[.int .u8 (b.toNat : Int)]) (push_new _ _) (B := (w.alloc (.cells #[.int .u8 (b.toNat : Int)] t)).heap.size) (by simp), by simp, by omega⟩
theorem bs_lit0 (w : World) (t : TypeId) : Bs (w.alloc (.cells #[.int .u8 0] t)) (some ⟨w.heap.size, 0, none⟩) [0] 1 := bs_lit w 0 t
theorem bs_lit1 (w : World) (t : TypeId) : Bs (w.alloc (.cells #[.int .u8 1] t)) (some ⟨w.heap.size, 0, none⟩) [1] 1 := bs_lit w 1 t
theorem bs_lit1d (w : World) (t : TypeId) : Bs ((w.alloc (.cells #[.int .u8 1] t)).drew) (some ⟨w.heap.size, 0, none⟩) [1] 1 := Bs.step (Below.refl _ _).drew (bs_lit1 w t)
theorem writeN {K : Nat → W32} {w : World} {A : Option Addr} {l : List UInt8} {n c : Nat} (hT : Tabs K w) (m m' : List UInt8) (h : Bs w A l c) (hn : l.length = n) (hm : m ++ l = m') : Calls Tryd.prog 75 #[.agg (stL K m).cells, .slice A n c] w fun e w' => e = .returned (.agg (stL K m').cells) ∧ Below w.heap.size w w' := by
  subst hn hm
  exact writeC hT m h
theorem below_al {a w : World} (h : Below a.heap.size a w) (o : Obj) : Below a.heap.size a (w.alloc o) := h.alloc h.size o
section
variable {K : Nat → W32} {w : World} {A : Option Addr} {a b : List UInt8} {c : Nat}
theorem nodeW1 (hT : Tabs K w) (h : Bs w A [1] c) : Calls Tryd.prog 75 #[.agg (stL K []).cells, .slice A 1 c] w fun e w' => e = .returned (.agg (stL K [1]).cells) ∧ Below w.heap.size w w' := writeN hT [] [1] h rfl rfl
theorem nodeW2 (hl : a.length = 32) (hT : Tabs K w) (h : Bs w A a c) : Calls Tryd.prog 75 #[.agg (stL K [1]).cells, .slice A 32 c] w fun e w' => e = .returned (.agg (stL K (1 :: a)).cells) ∧ Below w.heap.size w w' := writeN hT [1] (1 :: a) h hl rfl
theorem nodeW3 (hl : b.length = 32) (hT : Tabs K w) (h : Bs w A b c) : Calls Tryd.prog 75 #[.agg (stL K (1 :: a)).cells, .slice A 32 c] w fun e w' => e = .returned (.agg (stL K (1 :: (a ++ b))).cells) ∧ Below w.heap.size w w' := writeN hT (1 :: a) (1 :: (a ++ b)) h hl rfl
end
end Go.Proofs.YtdlmamnnamlleaaDoor
namespace Go.Proofs.YtdlmamnnamlleaaDoor
open Go.ChangeShapes Go.WideShapes Go.ChangeAt Go.RowKit
set_option maxHeartbeats 400000
set_option maxRecDepth 100000
attribute [local irreducible] arrV dgA sha
attribute [local go_sem ↓] load_o32 store_o32 execl_o32 execs_o32
attribute [local go_sem] isHead_mk isPart_mk offOf_mk blkOf_mk isAgg_mk cellsV_mk row_drew rowAt_drew row_new_cells row_old rowAt_new rowAt_old setRow_new bs_app

theorem conv32 {w : World} {A : Option Addr} {l : List UInt8} {c : Nat} (h : Bs w A l c) (hl : l.length = 32) : (convert 22 9 (.slice A 32 c)).run Tryd.prog w = .ok (strV l) w := by rw [← hl]; exact h.conv
/-! half -/
def halfN (n : Nat) : Nat := 2 ^ Nat.log2 (n - 1)
theorem halfN_lt {n : Nat} (h : 2 ≤ n) : halfN n < n := by
  have := Nat.log2_self_le (n := n - 1) (by omega)
  unfold halfN; omega
theorem halfN_le {n : Nat} (h : 2 ≤ n) : n ≤ 2 * halfN n := by
  have := Nat.lt_log2_self (n := n - 1)
  unfold halfN
  rw [Nat.pow_succ] at this
  omega
theorem halfN_of {n j : Nat} (h1 : 2 ^ j < n) (h2 : n ≤ 2 * 2 ^ j) : halfN n = 2 ^ j := by
  unfold halfN
  congr 1
  have h3 := Nat.log2_self_le (n := n - 1) (by have := Nat.pow_pos (n := j) (show 0 < 2 by omega); omega)
  have h4 := Nat.lt_log2_self (n := n - 1)
  rcases Nat.lt_trichotomy (n - 1).log2 j with h | h | h
  · have := Nat.pow_le_pow_right (show 0 < 2 by omega) (show (n - 1).log2 + 1 ≤ j by omega)
    omega
  · exact h
  · have := Nat.pow_le_pow_right (show 0 < 2 by omega) (show j + 1 ≤ (n - 1).log2 by omega)
    rw [Nat.pow_succ] at this
    omega
end Go.Proofs.YtdlmamnnamlleaaDoor
namespace Go.Proofs.YtdlmamnnamlleaaDoor
open Go.ChangeShapes Go.WideShapes Go.ChangeAt Go.RowKit
set_option maxHeartbeats 1000000
set_option maxRecDepth 100000
attribute [local irreducible] arrV dgA sha
attribute [local go_sem ↓] load_o32 store_o32
attribute [local go_sem] isHead_mk isPart_mk offOf_mk blkOf_mk isAgg_mk cellsV_mk row_drew rowAt_drew row_new_cells row_old rowAt_new rowAt_old zeroD bs_app
/-- The first j of padB. -/
def padP (k : List UInt8) (c : UInt8) (j : Nat) : List UInt8 := (List.range j).map fun i => (k[i]?.getD 0) ^^^ c
theorem padP_64 (k : List UInt8) (c : UInt8) : padP k c 64 = padB k c := rfl
theorem padP_len (k : List UInt8) (c : UInt8) (j : Nat) : (padP k c j).length = j := by simp [padP]
theorem padP_succ (k : List UInt8) (c : UInt8) (j : Nat) : padP k c (j + 1) = padP k c j ++ [(k[j]?.getD 0) ^^^ c] := by
  unfold padP; rw [List.range_succ, List.map_append]; rfl
theorem u8_xor_b (b : UInt8) (c : Nat) (hc : c < 256) : bits .xor .u8 (b.toNat : Int) (c : Int) = ((b ^^^ UInt8.ofNat c).toNat : Int) := by
  rw [u8_xor_nat _ _ (UInt8.toNat_lt b) hc, UInt8.toNat_xor, UInt8.toNat_ofNat', Nat.mod_eq_of_lt hc]
theorem conv_one2 (b1 b2 : UInt8) (W : World) : (convert 22 9 (.slice (some ⟨W.heap.size + 1, 0, none⟩) 1 1)).run Tryd.prog ((W.alloc (.cells #[.int .u8 (b1.toNat : Int)] 5)).alloc (.cells #[.int .u8 (b2.toNat : Int)] 5)) =
    .ok (strV [b2]) ((W.alloc (.cells #[.int .u8 (b1.toNat : Int)] 5)).alloc (.cells #[.int .u8 (b2.toNat : Int)] 5)) := by
  have := conv_one b2 5 (W.alloc (.cells #[.int .u8 (b1.toNat : Int)] 5))
  rw [show (W.alloc (.cells #[.int .u8 (b1.toNat : Int)] 5)).heap.size = W.heap.size + 1 by simp] at this
  exact this
set_option maxHeartbeats 2000000 in
theorem ref_Mark (K : Nat → W32) (key p : List UInt8) (w : World) (hT : Tabs K w) (hk : key.length ≤ 576460752303423488) (hp : p.length ≤ 576460752303423488) :
    Calls Tryd.prog 47 #[strV key, strV p] w fun e w' => e = .returned (.agg (dgA (markL K key p))) ∧ Below w.heap.size w w' := by
  unfold markL
  have hcz := dgA_cells []
  have hL0 := below_alloc w (Obj.cells (dgA []) 57)
  have hR0 : Row (w.alloc (Obj.cells (dgA []) 57)) w.heap.size 32 := (row_new rfl).2 hcz.1
  have hT0 := Lib.hid (hT.step hL0)
  have hkl := keyL_len K key
  have hHT := Lib.hid hT
  clear hT
  go_enter Tryd.func47, Tryd.ntmps47
  go_upto_if 13 with (fail)
  generalize w.alloc (Obj.cells (dgA []) 57) = W0 at *
  go_cut [0] (fun v0 wx => v0 = strV (keyL K key) ∧ Row wx w.heap.size 32 ∧ Below w.heap.size w wx)
  case first =>
    have hcs := dgA_cells (sha K key)
    have hsl := sha_len K key
    by_cases h64 : 64 < key.length
    · have hd : decide ((64 : Int) < (key.length : Int)) = true := by simp; omega
      have hkk : keyL K key = sha K key := by unfold keyL; rw [if_pos h64]
      have hHk := Lib.hid hkk
      clear hkk
      go_wp2_with fail
      refine (rsumD (K := K) (l := key) hT0.out (by omega)).mono ?_
      rintro e w1 ⟨rfl, hb1⟩
      have hzz : Row (w1.alloc (Obj.cells (dgA []) 57)) w1.heap.size 32 := (row_new rfl).2 hcz.1
      have hst : (w1.alloc (Obj.cells (dgA []) 57)).setRow w1.heap.size (dgA (sha K key)) = w1.alloc (Obj.cells (dgA (sha K key)) 57) := setRow_new rfl
      have ha := below_alloc w1 (Obj.cells (dgA (sha K key)) 57)
      have hcv := conv32 (rd_of_row hsl (show Row (w1.alloc (Obj.cells (dgA (sha K key)) 57)) w1.heap.size 32 from (row_new rfl).2 hcs.1) (rowAt_new rfl)) hsl
      go_wp2_with fail
      go_meet
      exact ⟨by rw [hHk.out], row_below (row_below hR0 hb1 hR0.lt) ha (row_below hR0 hb1 hR0.lt).lt, below_step ha (below_step hb1 hL0 (Nat.le_refl _)) (Nat.le_refl _)⟩
    · have hd : decide ((64 : Int) < (key.length : Int)) = false := by simp; omega
      have hkk : keyL K key = key := by unfold keyL; rw [if_neg h64]
      have hHk := Lib.hid hkk
      clear hkk
      go_wp2_with fail
      go_meet
      exact ⟨by rw [hHk.out], hR0, hL0⟩
  case rest =>
    obtain ⟨rfl, hRx, hLx⟩ := hcut
    clear hT0 hL0 hR0
    generalize hke : keyL K key = k at *
    have hHke := Lib.hid hke
    clear hke
    go_wp2
    go_loopw [6, 7, 8, 9, 18] (fun v6 v7 _ _ i wr => ∃ j : Nat, i = .int .i64 j ∧ j ≤ 64 ∧ v6 = strV (padP k 54 j) ∧ v7 = strV (padP k 92 j) ∧ Row wr w.heap.size 32 ∧ Below w.heap.size w wr) (fun _ _ _ _ i _ => 64 - (intOf i).toNat)
    case atStart => exact ⟨0, rfl, by omega, rfl, rfl, hRx, hLx⟩
    case round =>
      clear hRx hLx
      obtain ⟨j, rfl, hj, rfl, rfl, hR, hL⟩ := hrel
      have hl1 := padP_len k 54 j
      have hl2 := padP_len k 92 j
      by_cases h64 : j = 64
      · subst h64
        rw [padP_64] at hl1 ⊢
        rw [padP_64] at hl2 ⊢
        have hb1 : ((padB k 54).length : Int) + (p.length : Int) ≤ 9223372036854775807 := by omega
        have hTr := Lib.hid (hHT.out.step hL)
        have hq1 : (padB k 54).length + p.length ≤ 9223372036854775807 := by omega
        have hsl := sha_len K (padB k 54 ++ p)
        have hcs := dgA_cells (sha K (padB k 54 ++ p))
        have hc1 := Lib.hid (fun V (h : Tabs K V) => rsumD (K := K) (l := padB k 54 ++ p) h (by rw [List.length_append]; omega))
        have hq2 : (padB k 92).length + (sha K (padB k 54 ++ p)).length ≤ 9223372036854775807 := by omega
        have hc2 := Lib.hid (fun V (h : Tabs K V) => rsumD (K := K) (l := padB k 92 ++ sha K (padB k 54 ++ p)) h (by rw [List.length_append]; omega))
        go_wp2_with fail
        refine (hc1.out _ hTr.out).mono ?_
        rintro e w5 ⟨rfl, hb5⟩
        generalize hxe : sha K (padB k 54 ++ p) = x at *
        have hHxe := Lib.hid hxe
        clear hxe
        have hzz : Row (w5.alloc (Obj.cells (dgA []) 57)) w5.heap.size 32 := (row_new rfl).2 hcz.1
        have hst : (w5.alloc (Obj.cells (dgA []) 57)).setRow w5.heap.size (dgA x) = w5.alloc (Obj.cells (dgA x) 57) := setRow_new rfl
        have ha := below_alloc w5 (Obj.cells (dgA x) 57)
        have hcv := conv32 (rd_of_row hsl (show Row (w5.alloc (Obj.cells (dgA x) 57)) w5.heap.size 32 from (row_new rfl).2 hcs.1) (rowAt_new rfl)) hsl
        have hT6 := Lib.hid ((hTr.out.step hb5).step ha)
        have hR6 := row_below (row_below hR hb5 hR.lt) ha (row_below hR hb5 hR.lt).lt
        have hL6 := below_step ha (below_step hb5 hL (Nat.le_refl _)) (Nat.le_refl _)
        clear hb5 ha hTr hR hL
        go_wp2_with fail
        refine (hc2.out _ hT6.out).mono ?_
        rintro e w7 ⟨rfl, hb7⟩
        have hR7 := row_below hR6 hb7 hR6.lt
        have hL7 := below_step hb7 hL6 (Nat.le_refl _)
        have hco := dgA_cells (sha K (padB k 92 ++ x))
        clear hb7 hR6 hL6
        go_wp2
        exact ret_stored (p := 4) (ty := 57) (g := w.heap.size) (n := 32) (c := dgA (sha K (padB k 92 ++ x))) rfl Tryd.underlying57 rfl (by kernel_rfl) rfl hR7 hco.1 rfl ⟨by rw [hHke.out, hHxe.out], below_setRow hL7 (Nat.le_refl _)⟩
      · have hq1 : (padP k 54 j).length + 1 ≤ 9223372036854775807 := by omega
        have hq2 : (padP k 92 j).length + 1 ≤ 9223372036854775807 := by omega
        have hs1 := Lib.hid (padP_succ k 54 j)
        have hs2 := Lib.hid (padP_succ k 92 j)
        have x1 : bits .xor .u8 ((k[j]?.getD 0).toNat : Int) 54 = ((k[j]?.getD 0 ^^^ 54 : UInt8).toNat : Int) := u8_xor_b _ 54 (by omega)
        have x2 : bits .xor .u8 ((k[j]?.getD 0).toNat : Int) 92 = ((k[j]?.getD 0 ^^^ 92 : UInt8).toNat : Int) := u8_xor_b _ 92 (by omega)
        have hcv1 := fun W => conv_one (k[j]?.getD 0 ^^^ 54) 5 W
        have hcv2 := conv_one2 (k[j]?.getD 0 ^^^ 54) (k[j]?.getD 0 ^^^ 92) wr
        by_cases hjk : j < k.length
        · have hd : decide ((j : Int) < (k.length : Int)) = true := by simp; exact hjk
          have hix : ∀ W : World, (Instr.index 9 (strV k) (.int .i64 (j : Int))).run Tryd.prog W = .ok (.int .u8 ((k[j]?.getD 0).toNat : Int)) W := fun W => by
            have := str_ix (P := Tryd.prog) Tryd.underlying9 (l := k) (i := j) hjk .i64 W
            exact this
          generalize k[j]?.getD 0 ^^^ 54 = b1 at *
          generalize k[j]?.getD 0 ^^^ 92 = b2 at *
          generalize k[j]?.getD 0 = b at *
          go_wp2
          go_round
          case rel => exact ⟨j + 1, by go_num, by omega, by rw [hs1.out], by rw [hs2.out], (row_old (by simp; have := hR.lt; omega)).2 ((row_old hR.lt).2 hR), (hL.alloc hL.size _).alloc (hL.alloc hL.size _).size _⟩
          case measure => simp [intOf]; omega
        · have hd : decide ((j : Int) < (k.length : Int)) = false := by simp; omega
          have hz : k[j]?.getD 0 = 0 := by rw [List.getElem?_eq_none (by omega)]; rfl
          rw [hz] at hs1 hs2 hcv1 hcv2 x1 x2
          have x3 : bits .xor .u8 0 54 = ((0 ^^^ 54 : UInt8).toNat : Int) := x1
          have x4 : bits .xor .u8 0 92 = ((0 ^^^ 92 : UInt8).toNat : Int) := x2
          clear x1 x2 hz
          generalize (0 ^^^ 54 : UInt8) = b1 at *
          generalize (0 ^^^ 92 : UInt8) = b2 at *
          go_wp2
          go_round
          case rel => exact ⟨j + 1, by go_num, by omega, by rw [hs1.out], by rw [hs2.out], (row_old (by simp; have := hR.lt; omega)).2 ((row_old hR.lt).2 hR), (hL.alloc hL.size _).alloc (hL.alloc hL.size _).size _⟩
          case measure => simp [intOf]; omega
end Go.Proofs.YtdlmamnnamlleaaDoor
