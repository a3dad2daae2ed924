/- Several texts one behind the other: Fe2 Fe3 Num4 Num5 Fe4 Fe5 Cv1 Cv2 Cv3 Cv4 RpB Rp1 CvP Rp2 CvE Rg9 Rg2 Rg3 Tail2 Nb Low Prm Sc2 RgL Open Args Five. -/
import Derived.Test.YtgdiokklfihfoaaFe1
import Derived.Test.YtgdiokklfihfoaaNumN
import Derived.Deep.RegionLaw
import Derived.Deep.DeepCutAuto
import Derived.Laws.OwnMore
import Derived.Test.YtgdiokklfihfoaaTail
import Derived.Test.YtgdiokklfihfoaaBld
import Derived.Test.YtgdiokklfihfoaaCvB
import Derived.Test.YtgdiokklfihfoaaOneW
import Derived.Test.YtgdiokklfihfoaaCalmS
import Derived.Test.YtgdiokklfihfoaaRet2
import Derived.Test.YtgdiokklfihfoaaRg8
import Derived.Test.YtgdiokklfihfoaaRg1
import Derived.Test.YtgdiokklfihfoaaFresh
import Derived.Test.YtgdiokklfihfoaaLimb4
import Derived.Test.YtgdiokklfihfoaaLimb
import Derived.Test.YtgdiokklfihfoaaFdP
import Derived.Test.YtgdiokklfihfoaaAt
import Derived.Test.YtgdiokklfihfoaaMem
import Derived.ProofKit
import Derived.Test.YtgdiokklfihfoaaSl
import Derived.Deep.Slices
import Derived.Deep.Fields
import Derived.ChangeSame
import Derived.Test.YtgdiokklfihfoaaArrK
namespace Go.Proofs.Ytgdiokklfihfoaa
open Go.ChangeShapes Go.WideShapes Go.ChangeAt Go.RowKit
set_option maxHeartbeats 2000000
set_option maxRecDepth 100000

attribute [local go_sem] isHead_mk blkOf_mk isAgg_mk cellsV_mk row_drew rowAt_drew row_new_cells row_old rowAt_new rowAt_old setRow_new zeroFe zeroT
theorem dval_add (f g : Nat → Nat) (n : Nat) : dval (fun i => f i + g i) n = dval f n + dval g n := by
  induction n with
  | zero => rfl
  | succ n ih => simp only [dval]; rw [ih, Nat.mul_add]; omega
theorem plus_val {a b : Nat} (ha : a < 2 ^ 256) (hb : b < 2 ^ 256) {t : Nat → Nat} (h : ∀ i < 16, t i = dgt a i + dgt b i) : dval t 16 = a + b := by
  rw [dval_congr h, dval_add, dval_dgt, dval_dgt, p16, Nat.mod_eq_of_lt ha, Nat.mod_eq_of_lt hb]
theorem less_val {a b : Nat} (ha : a < 2 ^ 256) (hb : b < 2 ^ 256) {t : Nat → Nat} (h : ∀ i < 16, t i + dgt b i = dgt a i + 4 * pdig i) : dval t 16 = a + 4 * fP - b := by
  have h1 := dval_congr h
  rw [dval_add, dval_add, dval_dgt, dval_dgt, p16, Nat.mod_eq_of_lt ha, Nat.mod_eq_of_lt hb] at h1
  have h2 : ∀ n, dval (fun i => 4 * pdig i) n = 4 * dval pdig n := fun n => by
    induction n with
    | zero => rfl
    | succ n ih => simp only [dval]; rw [ih, Nat.mul_add, Nat.mul_left_comm]
  rw [h2, pdig_val] at h1
  omega
/-- The digits laid so far, and zeros. -/
def cut16 (f : Nat → Nat) (j : Nat) : Nat := if j < 16 then f j else 0
theorem mixD16 (f : Nat → Nat) (j : Nat) (_ : j < 17) : mixD f 16 j = cut16 f j := rfl
theorem cut_val (f : Nat → Nat) : dval (cut16 f) 16 + 2 ^ 256 * cut16 f 16 = dval f 16 := by
  rw [dval_congr (f := cut16 f) (g := f) fun i hi => by unfold cut16; rw [if_pos hi], show cut16 f 16 = 0 from rfl]; omega
end Go.Proofs.Ytgdiokklfihfoaa
namespace Go.Proofs.Ytgdiokklfihfoaa
open Go.ChangeShapes Go.WideShapes Go.ChangeAt Go.RowKit
set_option maxHeartbeats 2000000
set_option maxRecDepth 100000
theorem zeroT32 : #[Value.int IntKind.i64 0, Value.int IntKind.i64 0, Value.int IntKind.i64 0, Value.int IntKind.i64 0, Value.int IntKind.i64 0, Value.int IntKind.i64 0, Value.int IntKind.i64 0, Value.int IntKind.i64 0, Value.int IntKind.i64 0, Value.int IntKind.i64 0, Value.int IntKind.i64 0, Value.int IntKind.i64 0, Value.int IntKind.i64 0, Value.int IntKind.i64 0, Value.int IntKind.i64 0, Value.int IntKind.i64 0, Value.int IntKind.i64 0, Value.int IntKind.i64 0, Value.int IntKind.i64 0, Value.int IntKind.i64 0, Value.int IntKind.i64 0, Value.int IntKind.i64 0, Value.int IntKind.i64 0, Value.int IntKind.i64 0, Value.int IntKind.i64 0, Value.int IntKind.i64 0, Value.int IntKind.i64 0, Value.int IntKind.i64 0, Value.int IntKind.i64 0, Value.int IntKind.i64 0, Value.int IntKind.i64 0, Value.int IntKind.i64 0] = arrK .i64 32 fun _ => 0 := by kernel_rfl

attribute [local go_sem] isHead_mk blkOf_mk isAgg_mk cellsV_mk row_drew rowAt_drew row_new_cells row_old rowAt_new rowAt_old setRow_new zeroFe zeroT
attribute [local go_sem] zeroT32
theorem dval_split (f : Nat → Nat) (m n : Nat) : dval f (m + n) = dval f m + 65536 ^ m * dval (fun j => f (j + m)) n := by
  induction n with
  | zero => simp [dval]
  | succ n ih => rw [← Nat.add_assoc, dval, ih, dval, Nat.mul_add, Nat.pow_add, Nat.mul_assoc, Nat.add_comm n m]; omega
theorem dval_upd (f : Nat → Nat) (j v : Nat) : ∀ n, j < n → dval (upd f j v) n + 65536 ^ j * f j = dval f n + 65536 ^ j * v
  | 0, h => by omega
  | n + 1, h => by
    by_cases e : j = n
    · subst e
      have h1 : dval (upd f j v) j = dval f j := dval_congr fun i hi => by unfold upd; rw [if_neg (by omega)]
      rw [dval, dval, h1]
      unfold upd
      rw [if_pos rfl]
      omega
    · have ih := dval_upd f j v n (by omega)
      rw [dval, dval, show upd f j v n = f n by unfold upd; rw [if_neg (by omega)]]
      omega
/-- What stands in p while the product is made: row i, up to place k. -/
structure ByI (a b i k : Nat) (p : Nat → Nat) : Prop where
  val : dval p 32 = a % 65536 ^ i * b + 65536 ^ i * dgt a i * (b % 65536 ^ k)
  le : ∀ j, p j ≤ (16 * i + k) * 4294836225
theorem ByI.start (a b : Nat) : ByI a b 0 0 fun _ => 0 := by
  have h : ∀ n, dval (fun _ => 0) n = 0 := fun n => by induction n with
    | zero => rfl
    | succ n ih => simp [dval, ih]
  exact ⟨by rw [h, Nat.pow_zero, Nat.mod_one, Nat.mod_one]; simp, fun _ => Nat.zero_le _⟩
theorem dgt_up (b k : Nat) : b % 65536 ^ (k + 1) = b % 65536 ^ k + 65536 ^ k * dgt b k := by unfold dgt; rw [Nat.pow_succ, Nat.mod_mul]
theorem ByI.step {a b i k : Nat} {p : Nat → Nat} (h : ByI a b i k p) (hi : i < 16) (hk : k < 16) : ByI a b i (k + 1) (upd p (i + k) (p (i + k) + dgt a i * dgt b k)) := by
  refine ⟨?_, fun j => ?_⟩
  · have h1 := dval_upd p (i + k) (p (i + k) + dgt a i * dgt b k) 32 (by omega)
    have h2 := h.val
    rw [Nat.mul_add (65536 ^ (i + k))] at h1
    rw [dgt_up, Nat.mul_add, show 65536 ^ i * dgt a i * (65536 ^ k * dgt b k) = 65536 ^ (i + k) * (dgt a i * dgt b k) by rw [Nat.pow_add]; simp only [Nat.mul_assoc, Nat.mul_left_comm]]
    omega
  · have h1 : dgt a i * dgt b k ≤ 4294836225 := Nat.le_trans (Nat.mul_le_mul (show dgt a i ≤ 65535 by have := dgt_lt a i; omega) (show dgt b k ≤ 65535 by have := dgt_lt b k; omega)) (by decide)
    have h2 := h.le j
    have h3 := h.le (i + k)
    rw [← Nat.add_assoc, Nat.add_mul _ 1, Nat.one_mul]
    unfold upd
    generalize (16 * i + k) * 4294836225 = M at *
    generalize dgt a i * dgt b k = q at *
    by_cases e : j = i + k
    · rw [if_pos e]; omega
    · rw [if_neg e]; omega
theorem ByI.row {a b i : Nat} {p : Nat → Nat} (h : ByI a b i 16 p) (hb : b < 2 ^ 256) : ByI a b (i + 1) 0 p := by
  refine ⟨?_, fun j => by have := h.le j; omega⟩
  rw [h.val, p16, Nat.mod_eq_of_lt hb, dgt_up, Nat.pow_zero, Nat.mod_one, Nat.mul_zero, Nat.add_zero, Nat.add_mul]
/-- The folded digits. -/
def byG (p : Nat → Nat) (i : Nat) : Nat := p i + 38 * p (i + 16)
theorem byG_val {a b : Nat} {p : Nat → Nat} (h : ByI a b 16 0 p) (ha : a < 2 ^ 256) : dval (byG p) 16 % fP = a * b % fP := by
  have h1 := h.val
  rw [p16, Nat.mod_eq_of_lt ha, Nat.pow_zero, Nat.mod_one, Nat.mul_zero, Nat.add_zero, show (32 : Nat) = 16 + 16 from rfl, dval_split, p16] at h1
  have h2 : ∀ n, dval (byG p) n = dval p n + 38 * dval (fun j => p (j + 16)) n := fun n => by
    induction n with
    | zero => rfl
    | succ n ih => simp only [dval]; rw [ih]; unfold byG; rw [Nat.mul_add, Nat.mul_left_comm (65536 ^ n)]; omega
  rw [h2, ← h1, fold_P]
theorem byG_le {a b : Nat} {p : Nat → Nat} (h : ByI a b 16 0 p) (i : Nat) : byG p i ≤ 42880364870400 := by
  have h1 := h.le i
  have h2 := h.le (i + 16)
  unfold byG
  omega
/-- The digits that least is handed. -/
def byT (G : Nat → Nat) (i : Nat) : Nat := if i < 16 then lout G 0 i else lcar G 0 16
theorem byG_car {G : Nat → Nat} (h : ∀ i, G i ≤ 42880364870400) : ∀ k, lcar G 0 k ≤ 42880364870400
  | 0 => Nat.zero_le _
  | k + 1 => by
    have h1 := byG_car h k
    have h2 := h k
    unfold lcar; omega
theorem byT_tame {G : Nat → Nat} (h : ∀ i, G i ≤ 42880364870400) : Tame (byT G) := by
  intro i _
  have h1 := byG_car h 16
  unfold byT
  split
  · exact Nat.lt_trans (lout_lt _ _ _) (by omega)
  · omega
theorem byT_val (G : Nat → Nat) : dval (byT G) 16 + 2 ^ 256 * byT G 16 = dval G 16 := by
  have h := lout_dval G 0 16
  rw [p16] at h
  rw [dval_congr (f := byT G) (g := lout G 0) fun i hi => by unfold byT; rw [if_pos hi], show byT G 16 = lcar G 0 16 from rfl]
  exact h
theorem byT_end (G : Nat → Nat) (p : Nat) (hp : p < 17) : upd (mixD (lout G 0) 16) 16 (lcar G 0 16) p = byT G p := by
  unfold upd mixD byT
  by_cases h : p = 16
  · subst h; simp
  · simp [h, show p < 16 by omega]

end Go.Proofs.Ytgdiokklfihfoaa
namespace Go.Proofs.Ytgdiokklfihfoaa
open Go.ChangeShapes Go.WideShapes Go.ChangeAt Go.RowKit
set_option maxHeartbeats 1000000
set_option maxRecDepth 100000

/-- A number whose digits lie at block B or behind. -/
def IsNF (w : World) (B : Nat) (v : Value) (n : Nat) : Prop := ∃ A l c, v = .slice A l.length c ∧ Ds w A l c ∧ Dg l n ∧ ∀ ad, A = some ad → B ≤ ad.block
def RetNF (n : Nat) (w : World) (e : Ending) (w' : World) : Prop := ∃ v, e = .returned v ∧ IsNF w' w.heap.size v n ∧ Below w.heap.size w w'
theorem IsNF.toN {w : World} {B : Nat} {v : Value} {n : Nat} (h : IsNF w B v n) : IsN w v n := by
  obtain ⟨A, l, c, e, h1, h2, -⟩ := h
  exact ⟨A, l, c, e, h1, h2⟩
theorem IsNF.mono {w : World} {B B' : Nat} {v : Value} {n : Nat} (h : IsNF w B v n) (hB : B' ≤ B) : IsNF w B' v n := by
  obtain ⟨A, l, c, e, h1, h2, h3⟩ := h
  exact ⟨A, l, c, e, h1, h2, fun ad ha => Nat.le_trans hB (h3 ad ha)⟩
theorem IsNF.step {w w' : World} {B : Nat} {v : Value} {n : Nat} (hb : Below w.heap.size w w') (h : IsNF w B v n) : IsNF w' B v n := by
  obtain ⟨A, l, c, e, h1, h2, h3⟩ := h
  exact ⟨A, l, c, e, h1.below hb (Nat.le_refl _), h2, h3⟩
theorem IsNF.setCell {w : World} {B : Nat} {v : Value} {n : Nat} (h : IsNF w B v n) {a : Addr} (ha : a.block < B) (u : Value) : IsNF (w.setCell a u) B v n := by
  obtain ⟨A, l, c, e, h1, h2, h3⟩ := h
  refine ⟨A, l, c, e, ⟨fun j x hx => ?_, h1.sm, h1.le, h1.mx⟩, h2, h3⟩
  obtain ⟨ad, e1, hl, hc⟩ := h1.rd j x hx
  refine ⟨ad, e1, by simpa using hl, ?_⟩
  have hne : (ad.add j).block ≠ a.block := by rw [addr_block]; have := h3 ad e1; omega
  rw [← hc]
  exact World.cell?_of_block (w := w) (Below.heap_setCell w a u _ hne)
theorem isNF_trim {w0 W : World} {B : Nat} {e : TypeId} {A : Option Addr} {n c k : Nat} {l : List Nat} (h : Own w0 B e (.slice A n c) (digV l) W) (hs : Sm l) (hk : k ≤ l.length) (hg : Dg (l.take k) (val l)) : IsNF W B (.slice A k c) (val l) := by
  obtain ⟨hn, hD⟩ := ds_own h hs
  obtain ⟨A', l', c', e1, h1, h2⟩ := isN_trim hD hk hg
  refine ⟨A', l', c', e1, h1, h2, fun ad ha => ?_⟩
  injection e1 with e1
  subst e1
  exact (h.lt (g := ad.block) (by rw [ha]; rfl)).1

theorem minus_step {l k L : List Nat} {i bo x bo' : Nat} (hL : L.length = i) (hx : bo + x + k[i]?.getD 0 = l[i]?.getD 0 + 65536 * bo') (hv : val L + val (k.take i) = val (l.take i) + 65536 ^ i * bo) :
    val (L ++ [x]) + val (k.take (i + 1)) = val (l.take (i + 1)) + 65536 ^ (i + 1) * bo' := by
  rw [val_snoc, hL, val_take_succ', val_take_succ', Nat.pow_succ, Nat.mul_assoc]
  have h : 65536 ^ i * (bo + x + k[i]?.getD 0) = 65536 ^ i * (l[i]?.getD 0 + 65536 * bo') := by rw [hx]
  rw [Nat.mul_add, Nat.mul_add, Nat.mul_add] at h
  omega
theorem minus_end {l k L : List Nat} {bo : Nat} (hl : Sm l) (hk : Sm k) (hle : val k ≤ val l) (hv : val L + val (k.take l.length) = val l + 65536 ^ l.length * bo) (hL : val L < 65536 ^ l.length) : val L = val l - val k := by
  have h1 := val_lt hl
  have h2 := val_take hk l.length
  rw [Nat.mod_eq_of_lt (by omega)] at h2
  rw [h2] at hv
  rcases Nat.eq_zero_or_pos bo with rfl | h
  · omega
  · have : 65536 ^ l.length * 1 ≤ 65536 ^ l.length * bo := Nat.mul_le_mul_left _ h
    omega

theorem ref_Minus (A : Option Addr) (l : List Nat) (c : Nat) (B : Option Addr) (k : List Nat) (d : Nat) (w : World) (ha : Ds w A l c) (hb : Ds w B k d) (hl : l.length ≤ 1000000) (hle : val k ≤ val l) :
    Calls Try.prog 33 #[.slice A l.length c, .slice B k.length d] w (RetNF (val l - val k) w) := by
  go_enter Try.func33, Try.ntmps33
  go_wp2
  go_loopw [5, 6, 11] (fun v y i wr => ∃ (i' : Nat) (L : List Nat) (bo : Nat), i = .int .i64 i' ∧ y = .int .i64 bo ∧ bo ≤ 1 ∧ Own w w.heap.size 3 v (digV L) wr ∧ L.length ≤ i' ∧ i' ≤ L.length ∧ i' ≤ l.length ∧
    Hid (Sm L ∧ val L + val (k.take i') = val (l.take i') + 65536 ^ i' * bo)) (fun _ _ i _ => l.length - (intOf i).toNat)
  case atStart => exact ⟨0, [], 0, rfl, rfl, by omega, Own.start _ _, by simp, by simp, by omega, Sm.nil, by simp [val]⟩
  case round =>
    obtain ⟨i, L, bo, rfl, rfl, hbo, hO, hl1, hl2, him, hH⟩ := hrel
    rename_i u5
    have hDa := ha.below hO.bel (Nat.le_refl _)
    have hDb := hb.below hO.bel (Nat.le_refl _)
    by_cases hlt : i < l.length
    · have hdb := digZ_lt hb.sm (i : Int)
      obtain ⟨ad, rfl, hbl, hc⟩ := digV_at hDa.rd hlt
      have hla := ha.sm l[i] (List.getElem_mem _)
      have hdz := digZ_nat k i
      have hst := fun x bo' hx => minus_step (x := x) (bo' := bo') (l := l) (k := k) (by omega) hx hH.out.2
      rw [← hdz, List.getElem?_eq_getElem hlt] at hst
      have hHst := Lib.hid hst
      have hcon := Lib.hid (fun W (h : Ds W B k d) => ref_digit B k d (i : Int) W h)
      have hHD := Lib.hid hDb
      clear hst hdz hDb
      generalize digZ k i = y at *
      generalize l[i] = x at *
      have hw1 : IntKind.i64.wrap ((x : Int) - y) = (x : Int) - y := by rw [IntKind.wrap_i64]; omega
      obtain ⟨o, ho⟩ : ∃ o : Int, (x : Int) - y - bo = o := ⟨_, rfl⟩
      have hw2 : IntKind.i64.wrap ((x : Int) - y - bo) = o := by rw [IntKind.wrap_i64]; omega
      have ho1 : -65536 ≤ o := by omega
      have ho2 : o < 65536 := by omega
      have hlL : L.length < 1000000 := by omega
      have hOd := hO.drew
      obtain ⟨X, bo', hX, hX2, hXl, hcase⟩ : ∃ X bo' : Nat, (bo + X + y = x + 65536 * bo') ∧ bo' ≤ 1 ∧ X < 65536 ∧ ((o < 0 ∧ o + 65536 = X ∧ bo' = 1) ∨ (¬ o < 0 ∧ o = X ∧ bo' = 0)) := by
        by_cases h : o < 0
        · exact ⟨(o + 65536).toNat, 1, by omega, by omega, by omega, .inl ⟨h, by omega, rfl⟩⟩
        · exact ⟨o.toNat, 0, by omega, by omega, by omega, .inr ⟨h, by omega, rfl⟩⟩
      have hfin := Lib.hid (hHst.out X bo' hX)
      have hHo := Lib.hid ho
      clear ho hHst hX
      go_wp2
      go_upto_region 6 with (fail)
      go_cut [8] (fun v8 wx => v8 = .int .i64 o ∧ Own w w.heap.size 3 u5 (digV L) wx)
      case first =>
        have hHD := Lib.hid (hHD.out.below (Below.refl wr.heap.size wr).drew (Nat.le_refl _))
        go_region_law (first
          | (go_simp; go_at_call 90; (refine Calls.mono (hcon.out _ hHD.out) ?_); rintro e w' ⟨rfl, rfl⟩))
        all_goals go_wp2_with fail
        all_goals go_meet
        all_goals exact ⟨rfl, hOd⟩
      case rest =>
        clear hOd
        obtain ⟨rfl, hOd⟩ := hcut
        clear hw1 hw2 hc
        rcases hcase with ⟨h0, h1, rfl⟩ | ⟨h0, h1, rfl⟩
        · have hw3 : IntKind.i64.wrap (o + 65536) = (X : Int) := by rw [IntKind.wrap_i64]; omega
          go_wp2_with (at_builtin; refine wpList_own1 (o := ⟨some 31, _, _, _, _, _⟩) rfl (.tmp 28) (.tmp 30) 33 rfl SI rfl hOd (.int .i64 (X : Int)) rfl rfl (by rw [digV_len]; unfold maxLen; omega) (by rw [digV_len]; omega) ?_; intro v1 w1 hO1 hg1 hat1; clear hg1 hat1)
          go_roundw
          case rel => exact ⟨i + 1, L ++ [X], 1, by go_num, rfl, by omega, by rw [digV_snoc]; exact hO1, by simp; omega, by simp; omega, by omega, hH.out.1.append (Sm.one hXl), hfin.out⟩
          case measure => simp [intOf]; omega
        · subst h1
          clear h0 ho1 ho2
          go_wp2_with (at_builtin; refine wpList_own1 (o := ⟨some 31, _, _, _, _, _⟩) rfl (.tmp 28) (.tmp 30) 33 rfl SI rfl hOd (.int .i64 (X : Int)) rfl rfl (by rw [digV_len]; unfold maxLen; omega) (by rw [digV_len]; omega) ?_; intro v1 w1 hO1 hg1 hat1; clear hg1 hat1)
          go_roundw
          case rel => exact ⟨i + 1, L ++ [X], 0, by go_num, rfl, by omega, by rw [digV_snoc]; exact hO1, by simp; omega, by simp; omega, by omega, hH.out.1.append (Sm.one hXl), hfin.out⟩
          case measure => simp [intOf]; omega
    · obtain rfl : i = l.length := by omega
      obtain ⟨A', c', rfl, -, -⟩ := hO.form
      obtain ⟨hn, hD⟩ := ds_own hO hH.out.1
      have hbl := hO.bel
      rw [hn]
      rw [hn] at hO
      have hHO := Lib.hid hO
      have hll := Lib.hid (show L.length = l.length by omega)
      clear hO
      go_wp2_with (go_at_call 91; refine (ref_trim A' L c' _ hD).mono ?_; rintro e w' ⟨q, hq, rfl, hg, rfl⟩)
      go_ret
      have hv := hH.out.2
      rw [List.take_length] at hv
      have hLt := val_lt hH.out.1
      rw [hll.out] at hLt
      have hr := minus_end ha.sm hb.sm hle hv hLt
      exact ⟨_, rfl, hr ▸ isNF_trim hHO.out hH.out.1 hq hg, hbl⟩

theorem order_digit {a b i : Nat} (hlt : a / 65536 ^ (i + 1) = b / 65536 ^ (i + 1)) {x y : Nat} (hx : x = a / 65536 ^ i % 65536) (hy : y = b / 65536 ^ i % 65536) :
    (x < y → order a b = -1) ∧ (y < x → order a b = 1) ∧ (x = y → a / 65536 ^ i = b / 65536 ^ i) := by
  have h := order_step hlt
  rw [← hx, ← hy] at h
  exact ⟨fun e => if_pos (h.1 e), fun e => by unfold order; rw [if_neg (by have := h.2.1 e; omega), if_pos (h.2.1 e)], h.2.2⟩
theorem ref_Order (A : Option Addr) (l : List Nat) (c : Nat) (B : Option Addr) (k : List Nat) (d : Nat) (w : World) (ha : Ds w A l c) (hb : Ds w B k d) (hl : l.length ≤ 1000000) (hk : k.length ≤ 1000000) :
    Calls Try.prog 41 #[.slice A l.length c, .slice B k.length d] w fun e w' => e = .returned (.int .i64 (order (val l) (val k))) ∧ w = w' := by
  go_enter Try.func41, Try.ntmps41
  go_wp2
  all_goals
    go_loop [5] (fun i => ∃ s : Nat, i = .int .i64 ((s : Int) - 1) ∧ s ≤ 1000000 ∧ Hid (val l / 65536 ^ s = val k / 65536 ^ s)) (fun i => (intOf i + 1).toNat)
    case atStart =>
      have h1 := val_lt ha.sm
      have h2 := val_lt hb.sm
      first
      | exact ⟨k.length, rfl, hk, Lib.hid (by rw [Nat.div_eq_of_lt (Nat.lt_of_lt_of_le h1 (Nat.pow_le_pow_right (by omega) (by omega))), Nat.div_eq_of_lt h2])⟩
      | exact ⟨l.length, rfl, hl, Lib.hid (by rw [Nat.div_eq_of_lt h1, Nat.div_eq_of_lt (Nat.lt_of_lt_of_le h2 (Nat.pow_le_pow_right (by omega) (by omega)))])⟩
    case round =>
      obtain ⟨s, rfl, hs, hH⟩ := hrel
      rcases Nat.eq_zero_or_pos s with rfl | hs0
      · have e : val l = val k := by have := hH.out; simpa using this
        have hq := Lib.hid (show order (val l) (val k) = 0 by rw [e]; unfold order; rw [if_neg (by omega), if_neg (by omega)])
        clear e hH
        go_wp2
        go_ret
        exact ⟨by rw [hq.out]; rfl, rfl⟩
      · obtain ⟨i, rfl⟩ : ∃ i, s = i + 1 := ⟨s - 1, by omega⟩
        rw [show (((i + 1 : Nat) : Int) - 1) = (i : Int) by omega]
        have ho := order_digit hH.out (x := digZ l i) (y := digZ k i) (by rw [digZ_nat, Dv.at_ (Dv.mk' ha.sm)]) (by rw [digZ_nat, Dv.at_ (Dv.mk' hb.sm)])
        have hHo := Lib.hid ho
        have hc1 := Lib.hid (ref_digit A l c (i : Int) w ha)
        have hc2 := Lib.hid (ref_digit B k d (i : Int) w hb)
        clear ho hH
        generalize digZ l i = x at *
        generalize digZ k i = y at *
        rcases Nat.lt_trichotomy x y with h | h | h
        · have hq := Lib.hid (hHo.out.1 h)
          go_wp2_with (go_at_call 90; (first | with_reducible refine hc1.out.mono ?_ | with_reducible refine hc2.out.mono ?_); rintro e w' ⟨rfl, rfl⟩)
          go_ret
          exact ⟨by rw [hq.out]; rfl, rfl⟩
        · subst h
          have hq := Lib.hid (hHo.out.2.2 rfl)
          go_wp2_with (go_at_call 90; (first | with_reducible refine hc1.out.mono ?_ | with_reducible refine hc2.out.mono ?_); rintro e w' ⟨rfl, rfl⟩)
          go_round
          case rel => exact ⟨i, rfl, by omega, hq⟩
          case measure => simp [intOf]
        · have hq := Lib.hid (hHo.out.2.1 h)
          have hn : ¬ x < y := by omega
          go_wp2_with (go_at_call 90; (first | with_reducible refine hc1.out.mono ?_ | with_reducible refine hc2.out.mono ?_); rintro e w' ⟨rfl, rfl⟩)
          go_ret
          exact ⟨by rw [hq.out]; rfl, rfl⟩
/-- In numbers alone. -/
theorem minusN {u v : Value} {m n : Nat} (w : World) (hu : IsV w u m) (hv : IsV w v n) (hle : n ≤ m) : Calls Try.prog 33 #[u, v] w (RetNF (m - n) w) := by
  obtain ⟨A, l, c, rfl, hD, rfl, hl⟩ := hu
  obtain ⟨B, k, d, rfl, hE, rfl, hk⟩ := hv
  exact ref_Minus A l c B k d w hD hE hl hle
theorem orderN {u v : Value} {m n : Nat} (w : World) (hu : IsV w u m) (hv : IsV w v n) : Calls Try.prog 41 #[u, v] w fun e w' => e = .returned (.int .i64 (order m n)) ∧ w = w' := by
  obtain ⟨A, l, c, rfl, hD, rfl, hl⟩ := hu
  obtain ⟨B, k, d, rfl, hE, rfl, hk⟩ := hv
  exact ref_Order A l c B k d w hD hE hl hk
end Go.Proofs.Ytgdiokklfihfoaa
namespace Go.Proofs.Ytgdiokklfihfoaa
open Go.ChangeShapes Go.WideShapes Go.ChangeAt Go.RowKit
set_option maxHeartbeats 1000000
set_option maxRecDepth 100000

/-- A literal of one element is the call's own. -/
theorem Own.lit {w0 W : World} {B : Nat} (e : TypeId) (u : Value) (hb : Below B w0 W) (hB : B ≤ W.heap.size) : Own w0 B e (.slice (some ⟨W.heap.size, 0, none⟩) 1 1) [u] (W.alloc (.cells #[u] e)) :=
  ⟨World.ownsRow_lit W #[u] 1 hB (by unfold maxLen; omega) rfl, hb.alloc hB _, by simp; omega⟩
/-- What Parts has ahead of digit i - 1. -/
def ptQ (a m i : Nat) : Nat := a / 65536 ^ i / m * 65536 ^ i
def ptR (a m i : Nat) : Nat := a / 65536 ^ i % m
theorem pt_up {l : List Nat} (h : Sm l) (i : Nat) : val l / 65536 ^ i = l[i]?.getD 0 + 65536 * (val l / 65536 ^ (i + 1)) := by
  rw [val_at h, Nat.pow_succ, ← Nat.div_div_eq_div_mul, Nat.mod_add_div]
theorem pt_round {a m i d : Nat} (hm : 0 < m) (h : a / 65536 ^ i = d + 65536 * (a / 65536 ^ (i + 1))) :
    ptR a m i = (d + 65536 * ptR a m (i + 1)) % m ∧ ptQ a m i = ptQ a m (i + 1) + 65536 ^ i * ((d + 65536 * ptR a m (i + 1)) / m) := by
  unfold ptR ptQ
  rw [h]
  generalize a / 65536 ^ (i + 1) = A
  have hA := Nat.mod_add_div A m
  have e : d + 65536 * A = (d + 65536 * (A % m)) + m * (65536 * (A / m)) := by
    conv => lhs; rw [← hA]
    rw [Nat.mul_add, Nat.mul_left_comm 65536 m]; omega
  rw [e, Nat.add_mul_mod_self_left, Nat.add_mul_div_left _ _ hm]
  refine ⟨rfl, ?_⟩
  rw [Nat.add_mul, Nat.pow_succ, Nat.add_comm, Nat.mul_comm ((d + 65536 * (A % m)) / m)]
  congr 1
  rw [Nat.mul_comm 65536 (A / m), Nat.mul_assoc, Nat.mul_comm 65536]
theorem pt_start {l : List Nat} (h : Sm l) (m : Nat) : ptR (val l) m l.length = 0 ∧ ptQ (val l) m l.length = 0 := by
  have : val l / 65536 ^ l.length = 0 := Nat.div_eq_of_lt (val_lt h)
  unfold ptR ptQ
  rw [this]; simp
theorem pt_end (a m : Nat) : ptR a m 0 = a % m ∧ ptQ a m 0 = a / m := by simp [ptR, ptQ]
theorem pt_lt {a m i : Nat} (hm : 0 < m) : ptR a m i < m := Nat.mod_lt _ hm

def RetQR (q r : Nat) (w : World) (e : Ending) (w' : World) : Prop := ∃ u v, e = .returned (.tuple #[u, v]) ∧ IsN w' u q ∧ IsN w' v r ∧ Below w.heap.size w w'

theorem own_digs {w0 W : World} {B : Nat} {e : TypeId} {v : Value} {l : List Nat} (h : Own w0 B e v (digV l) W) (hs : Sm l) : ∃ A c, v = .slice A l.length c ∧ Ds W A l c ∧ Own w0 B e (.slice A l.length c) (digV l) W := by
  obtain ⟨A, c, e1, -, -⟩ := h.form
  rw [digV_len] at e1
  subst e1
  exact ⟨A, c, rfl, (ds_own h hs).2, h⟩
theorem lt_len {l : List Nat} {n : Nat} (h : Dg l n) (hn : n < big) : l.length ≤ 10000 := by
  have := h.len hn
  unfold bigK at this
  exact this
theorem order_le {a b : Nat} (h : a ≤ b) : order a b ≤ 0 := by
  by_cases e : a < b
  · rw [show order a b = -1 from if_pos e]; omega
  · unfold order; rw [if_neg e, if_neg (by omega)]; omega
theorem order_nle {a b : Nat} (h : ¬ a ≤ b) : ¬ order a b ≤ 0 := by unfold order; rw [if_neg (by omega), if_pos (by omega)]; omega

theorem ref_Parts (A : Option Addr) (l : List Nat) (c : Nat) {v : Value} {m : Nat} (w : World) (ha : Ds w A l c) (hl : l.length ≤ 500000) (hv : IsV w v m) (hm : 0 < m) (hmb : 65536 * m < big) :
    Calls Try.prog 86 #[.slice A l.length c, v] w (RetQR (val l / m) (val l % m) w) := by
  have hmk := run_make_dig l.length (by omega)
  have hR := DRow.new w (List.replicate l.length 0) 3
  have hL : Below w.heap.size w (w.alloc (.cells (digA (List.replicate l.length 0)) 3)) := by go_grown
  obtain ⟨n, hn⟩ : ∃ n, n = l.length := ⟨_, rfl⟩
  go_enter Try.func86, Try.ntmps86
  go_wp2
  generalize w.alloc (.cells (digA (List.replicate l.length 0)) 3) = W0 at *
  go_loopw [7, 8] (fun r i wr => ∃ (s : Nat) (L : List Nat), i = .int .i64 ((s : Int) - 1) ∧ s ≤ l.length ∧ L.length ≤ l.length ∧ l.length ≤ L.length ∧ DRow wr w.heap.size L ∧ IsNF wr (w.heap.size + 1) r (ptR (val l) m s) ∧ Below w.heap.size w wr ∧
    Hid (Sm L ∧ val L = ptQ (val l) m s ∧ ∀ j, j < s → L[j]?.getD 0 = 0)) (fun _ i _ => (intOf i + 1).toNat)
  case atStart =>
    refine ⟨l.length, _, rfl, Nat.le_refl _, by simp, by simp, hR, ?_, hL, sm_zeros _, by rw [val_zeros, (pt_start ha.sm m).2], fun j _ => by simp [List.getElem?_replicate]; split <;> rfl⟩
    rw [(pt_start ha.sm m).1]
    exact ⟨none, [], 0, rfl, ⟨Rd.nil, Sm.nil, by simp, by omega⟩, Dg.nil, fun ad h => by cases h⟩
  case round =>
    clear hR hL hmk
    obtain ⟨s, L, rfl, hs, hL1, hL2, hR, hN, hL, hH⟩ := hrel
    rcases Nat.eq_zero_or_pos s with rfl | hs0
    · rw [(pt_end (val l) m).1] at hN
      have hvL := hH.out.2.1
      rw [(pt_end (val l) m).2] at hvL
      have hHvL := Lib.hid hvL
      have hDs := hR.ds hH.out.1 (by omega)
      have hlen := Lib.hid (show L.length = l.length by omega)
      have hcon := Lib.hid (ref_trim _ L _ wr hDs)
      rw [hlen.out] at hcon
      rw [hlen.out] at hDs
      have hHDs := Lib.hid hDs
      clear hvL hDs
      go_wp2_with (go_at_call 91; refine hcon.out.mono ?_; rintro e w' ⟨q, hq, rfl, hg, rfl⟩)
      go_ret2
      exact ⟨_, _, rfl, hHvL.out ▸ isN_trim hHDs.out hq hg, hN.toN, hL⟩
    · obtain ⟨i, rfl⟩ : ∃ i, s = i + 1 := ⟨s - 1, by omega⟩
      rw [show (((i + 1 : Nat) : Int) - 1) = (i : Int) by omega]
      have hlt : i < l.length := by omega
      obtain ⟨ad, rfl, hbl, hc⟩ := digV_at (ha.below hL (Nat.le_refl _)).rd hlt
      have hpr := Lib.hid (pt_round (m := m) hm (pt_up ha.sm i))
      rw [List.getElem?_eq_getElem hlt, Option.getD_some] at hpr
      have hrm := pt_lt (a := val l) (i := i + 1) hm
      have hd := ha.sm l[i] (List.getElem_mem _)
      generalize l[i] = d at *
      generalize hr : ptR (val l) m (i + 1) = r at *
      have hHr := Lib.hid hr
      clear hr
      obtain ⟨A2, k, c2, rfl, hD, hG, hB⟩ := hN
      have hkb : k.length ≤ 10000 := lt_len hG (by omega)
      have hO := Own.lit (w0 := wr) (W := wr) (e := 3) (u := .int .i64 (d : Int)) (Below.refl _ _) (Nat.le_refl _)
      obtain ⟨L1, hL1e⟩ : ∃ L1, L1 = d :: k := ⟨_, rfl⟩
      have hs1 : Sm L1 := by rw [hL1e]; exact fun x hx => by rcases List.mem_cons.1 hx with h | h; exact h ▸ hd; exact hD.sm x h
      have hv1 : val L1 = d + 65536 * r := by rw [hL1e, ← hG.val]; rfl
      have hdg : [Value.int IntKind.i64 (d : Int)] ++ digV k = digV L1 := by rw [hL1e]; rfl
      have hrd := (hD.below (below_alloc wr (Obj.cells #[Value.int IntKind.i64 (d : Int)] 3)) (Nat.le_refl _)).rd
      have hHdg := Lib.hid hdg
      have hHv1 := Lib.hid hv1
      clear hL1e hv1 hdg hG hD
      go_wp2_with (first
        | (at_builtin; refine wpList_own (o := ⟨some 28, _, _, _, _, _⟩) rfl (.tmp 26) (.tmp 27) 33 rfl SI rfl hO (news := digV k) (c := c2) (by rw [digV_len]; rfl) hrd (digV_one k) (by rw [digV_len]; unfold maxLen; simp; omega) (by rw [digV_len]; simp; omega) ?_; intro v1 w1 hO1 hg1 hat1; clear hg1 hat1; rw [hHdg.out] at hO1; obtain ⟨A1, c1, rfl, hD1, hO2⟩ := own_digs hO1 hs1; clear hO1)
        | (go_at_call 91; refine (ref_trim A1 L1 c1 _ hD1).mono ?_; rintro e w' ⟨q, hq, rfl, hg, rfl⟩; have hN1 := isNF_trim hO2 hs1 hq hg))
      have hgl := hR.row.lt
      have hbw := hO2.bel
      rw [hHv1.out] at hN1
      have hN1 := hN1.mono (show w.heap.size + 1 ≤ wr.heap.size by omega)
      generalize Value.slice A1 q c1 = r1 at *
      have hR1 := hR.below hbw hgl
      have hL1' := below_step hbw hL (Nat.le_refl _)
      obtain ⟨R1, hR1e⟩ : ∃ R1, R1 = d + 65536 * r := ⟨_, rfl⟩
      rw [← hR1e] at hN1 hpr
      have hR1m : R1 < 65536 * m := by rw [hR1e]; have : 65536 * r + 65536 ≤ 65536 * m := by omega
                                       omega
      clear hR1e hO hO2 hD1 hg hq hrd hHdg hHv1 hR hL hbw hc hs1
      go_loopw [9, 10] (fun a b wr => ∃ lo hi : Nat, a = .int .i64 lo ∧ b = .int .i64 hi ∧ lo < hi ∧ hi ≤ 65536 ∧ DRow wr w.heap.size L ∧ IsNF wr (w.heap.size + 1) r1 R1 ∧ Below w.heap.size w wr ∧ Hid (m * lo ≤ R1 ∧ R1 < m * hi)) (fun a b _ => (intOf b).toNat - (intOf a).toNat)
      case atStart => exact ⟨0, 65536, rfl, rfl, by omega, by omega, hR1, hN1, hL1', Lib.hid ⟨by omega, by omega⟩⟩
      case round =>
        clear hR1 hN1 hL1'
        obtain ⟨lo, hi, rfl, rfl, hlh, hh, hR, hN, hL, hI⟩ := hrel
        have hRb : R1 < big := by omega
        by_cases hgo : lo + 1 < hi
        · obtain ⟨mid, hmid⟩ : ∃ mid, mid = (lo + hi) / 2 := ⟨_, rfl⟩
          have hmi : ((lo : Int) + hi) / 2 = mid := by omega
          have hm1 : lo < mid := by omega
          have hm2 : mid < hi := by omega
          have hgi : (1 : Int) < (hi : Int) - lo := by omega
          have hmb2 : m * mid < big := Nat.lt_of_le_of_lt (Nat.mul_le_mul_left m (show mid ≤ 65536 by omega)) (by rw [Nat.mul_comm]; exact hmb)
          have hnf := Lib.hid hN
          have hvw := Lib.hid (hv.step hL)
          clear hmid hgo
          by_cases hle : m * mid ≤ R1
          · obtain ⟨o, ho, ho2⟩ : ∃ o : Int, order (m * mid) R1 = o ∧ o ≤ 0 := ⟨_, rfl, order_le hle⟩
            have hHo := Lib.hid ho
            clear ho
            go_wp2_with (first
              | (go_at_call 35; refine (timesN (m := m) (n := mid) _ (hvw.out.step (below_alloc _ _)) (IsV.lit _ _ (by omega))).mono ?_; rintro e w' ⟨t, rfl, ht, hbt⟩; have hbt := (below_alloc _ _).trans (hbt.mono (by simp)))
              | (go_at_call 41; refine (orderN (m := m * mid) (n := R1) _ (ht.toV hmb2) ((hnf.out.step hbt).toN.toV hRb)).mono ?_; rintro e w' ⟨rfl, rfl⟩; rw [hHo.out]))
            go_roundw
            case rel => exact ⟨mid, hi, rfl, rfl, hm2, hh, hR.below hbt hR.row.lt, hN.step hbt, below_step hbt hL (Nat.le_refl _), Lib.hid ⟨hle, hI.out.2⟩⟩
            case measure => simp [intOf]; omega
          · obtain ⟨o, ho, ho2⟩ : ∃ o : Int, order (m * mid) R1 = o ∧ ¬ o ≤ 0 := ⟨_, rfl, order_nle hle⟩
            have hHo := Lib.hid ho
            clear ho
            go_wp2_with (first
              | (go_at_call 35; refine (timesN (m := m) (n := mid) _ (hvw.out.step (below_alloc _ _)) (IsV.lit _ _ (by omega))).mono ?_; rintro e w' ⟨t, rfl, ht, hbt⟩; have hbt := (below_alloc _ _).trans (hbt.mono (by simp)))
              | (go_at_call 41; refine (orderN (m := m * mid) (n := R1) _ (ht.toV hmb2) ((hnf.out.step hbt).toN.toV hRb)).mono ?_; rintro e w' ⟨rfl, rfl⟩; rw [hHo.out]))
            go_roundw
            case rel => exact ⟨lo, mid, rfl, rfl, hm1, by omega, hR.below hbt hR.row.lt, hN.step hbt, below_step hbt hL (Nat.le_refl _), Lib.hid ⟨hI.out.1, by omega⟩⟩
            case measure => simp [intOf]; omega
        · have hgi : ¬ (1 : Int) < (hi : Int) - lo := by omega
          have hq : R1 / m = lo := by
            have h1 := hI.out.1
            have h2 := hI.out.2
            rw [show hi = lo + 1 by omega] at h2
            exact Nat.div_eq_of_lt_le (by rw [Nat.mul_comm]; exact h1) (by rw [Nat.mul_comm]; exact h2)
          rw [hq] at hpr
          have hRm : R1 % m = R1 - m * lo := by
            have := Nat.mod_add_div R1 m
            rw [hq] at this; omega
          rw [hRm] at hpr
          have hlo : lo < 65536 := by omega
          have hle := hI.out.1
          have hmb2 : m * lo < big := by omega
          have hnf := Lib.hid hN
          have hvw := Lib.hid (hv.step hL)
          have hQ0 := hH.out.2.2 i (by omega)
          have hvs := val_set L i lo (by omega)
          rw [hQ0, Nat.mul_zero, Nat.add_zero, hH.out.2.1, ← hpr.out.2] at hvs
          have hfin : Hid (Sm (L.set i lo) ∧ val (L.set i lo) = ptQ (val l) m i ∧ ∀ j, j < i → (L.set i lo)[j]?.getD 0 = 0) :=
            Lib.hid ⟨hH.out.1.set _ hlo, hvs, fun j hj => by rw [List.getElem?_set_ne (by omega)]; exact hH.out.2.2 j (by omega)⟩
          have hsl1 : (L.set i lo).length ≤ l.length := by simp; omega
          have hsl2 : l.length ≤ (L.set i lo).length := by simp; omega
          have hpr1 := Lib.hid hpr.out.1
          clear hq hRm hQ0 hvs hpr hI
          have hget : DRow (wr.setCell ⟨w.heap.size, i, none⟩ (.int .i64 (lo : Int))) w.heap.size (L.set i lo) := hR.set i lo
          by_cases h0 : lo = 0
          · have h0' : ¬ (0 : Int) < lo := by omega
            have hRr : ptR (val l) m i = R1 := by rw [hpr1.out, h0]; simp
            have hHRr := Lib.hid hRr
            have c1 := hR.cell (i := i) (by omega)
            have f1 := hR.row.frozen i
            have hHg := Lib.hid hget
            clear h0 hRr hpr1 hget
            go_wp2
            go_roundw
            case rel => exact ⟨i, L.set i lo, rfl, by omega, hsl1, hsl2, hHg.out, hHRr.out ▸ hN.setCell (by simp) _, hL.setCell (Nat.le_refl _) _, hfin⟩
            case measure => simp [intOf]
          · have h0' : (0 : Int) < lo := by omega
            clear h0 hget
            go_wp2_with (first
              | (go_at_call 35; refine (timesN (m := m) (n := lo) _ (hvw.out.step (below_alloc _ _)) (IsV.lit _ _ hlo)).mono ?_; rintro e w' ⟨t, rfl, ht, hbt⟩; have hbt := (below_alloc _ _).trans (hbt.mono (by simp)))
              | (go_at_call 33; refine (minusN (m := R1) (n := m * lo) _ ((hnf.out.step hbt).toN.toV hRb) (ht.toV hmb2) hle).mono ?_; rintro e w2 ⟨r2, rfl, hN2, hb2⟩; have hb3 := below_step hb2 hbt (Nat.le_refl _); have hR3 := hR.below hb3 hR.row.lt; have c1 := hR3.cell (i := i) (by omega); have f1 := hR3.row.frozen i; have hL3 := below_step hb3 hL (Nat.le_refl _); have hN3 := hN2.mono (show w.heap.size + 1 ≤ w'.heap.size from Nat.le_trans hR.row.lt hbt.size)))
            go_roundw
            case rel => exact ⟨i, L.set i lo, rfl, by omega, hsl1, hsl2, hR3.set i lo, hpr1.out ▸ hN3.setCell (by simp) _, hL3.setCell (Nat.le_refl _) _, hfin⟩
            case measure => simp [intOf]
/-- In numbers alone. -/
theorem partsN {u v : Value} {a m k : Nat} (w : World) (hu : IsN w u a) (ha : a < 2 ^ k) (hk : k ≤ 160000) (hv : IsV w v m) (hm : 0 < m) (hmb : 65536 * m < big) :
    Calls Try.prog 86 #[u, v] w (RetQR (a / m) (a % m) w) := by
  obtain ⟨A, l, c, rfl, hD, hG⟩ := hu
  have hl := lt_len hG (lt_big ha hk)
  have h := ref_Parts A l c w hD (by omega) hv hm hmb
  rw [hG.val] at h
  exact h
theorem restN {u v : Value} {a m k : Nat} (w : World) (hu : IsN w u a) (ha : a < 2 ^ k) (hk : k ≤ 160000) (hv : IsV w v m) (hm : 0 < m) (hmb : 65536 * m < big) :
    Calls Try.prog 28 #[u, v] w (RetN (a % m) w) := by
  have hc := Lib.hid (partsN w hu ha hk hv hm hmb)
  obtain ⟨A, l, c, rfl, -⟩ := hu
  obtain ⟨B, l2, c2, rfl, -⟩ := hv
  go_enter Try.func28, Try.ntmps28
  go_wp2_with fail
  refine hc.out.mono ?_
  rintro e w' ⟨u, v, rfl, -, hN, hb⟩
  go_wp2
  go_ret
  exact ⟨v, rfl, hN, hb⟩
/-- The number that a slice's digits are. -/
def digOf (w : World) : Value → Nat
  | .slice (some ad) n _ => val ((List.range n).map fun j => (intOf ((w.cell? (ad.add j)).getD undef)).toNat)
  | _ => 0
theorem digOf_is {w : World} {v : Value} {n : Nat} (h : IsN w v n) : digOf w v = n := by
  obtain ⟨A, l, c, rfl, hD, hG⟩ := h
  cases A with
  | none =>
    have : l = [] := by
      cases l with
      | nil => rfl
      | cons d r => obtain ⟨ad, e, -⟩ := hD.rd 0 _ rfl; cases e
    subst this
    exact hG.val
  | some ad =>
    show val _ = n
    rw [← hG.val]
    congr 1
    apply List.ext_getElem (by simp)
    intro j h1 h2
    have := hD.rd.all (j := j) (u := .int .i64 (l[j] : Nat)) (by simp [digV, h2])
    simp [this, intOf]
end Go.Proofs.Ytgdiokklfihfoaa
namespace Go.Proofs.Ytgdiokklfihfoaa
open Go.ChangeShapes Go.WideShapes Go.ChangeAt Go.RowKit
set_option maxHeartbeats 2000000
set_option maxRecDepth 100000
attribute [local go_sem ↓]     load_num store_num execl_num execs_num
attribute [local go_sem] isHead_mk blkOf_mk isAgg_mk cellsV_mk row_drew rowAt_drew row_new_cells row_old rowAt_new rowAt_old setRow_new zeroFe zeroNum
theorem dgt_zero (i : Nat) : dgt 0 i = 0 := by unfold dgt; rw [Nat.zero_div]
theorem fe1 {n : Nat} (hn : n < 65536) : #[Value.int IntKind.i64 (n : Int), Value.int IntKind.i64 0, Value.int IntKind.i64 0, Value.int IntKind.i64 0, Value.int IntKind.i64 0, Value.int IntKind.i64 0, Value.int IntKind.i64 0, Value.int IntKind.i64 0, Value.int IntKind.i64 0, Value.int IntKind.i64 0, Value.int IntKind.i64 0, Value.int IntKind.i64 0, Value.int IntKind.i64 0, Value.int IntKind.i64 0, Value.int IntKind.i64 0, Value.int IntKind.i64 0] = arrK .i64 16 (dgt n) := by
  have h : #[Value.int IntKind.i64 (n : Int), Value.int IntKind.i64 0, Value.int IntKind.i64 0, Value.int IntKind.i64 0, Value.int IntKind.i64 0, Value.int IntKind.i64 0, Value.int IntKind.i64 0, Value.int IntKind.i64 0, Value.int IntKind.i64 0, Value.int IntKind.i64 0, Value.int IntKind.i64 0, Value.int IntKind.i64 0, Value.int IntKind.i64 0, Value.int IntKind.i64 0, Value.int IntKind.i64 0, Value.int IntKind.i64 0] = arrK .i64 16 fun i => if i = 0 then n else 0 := by kernel_rfl
  rw [h]
  refine arrK_congr fun i hi => ?_
  unfold dgt
  by_cases e : i = 0
  · subst e; rw [if_pos rfl]; omega
  · rw [if_neg e, Nat.div_eq_of_lt]
    obtain ⟨j, rfl⟩ : ∃ j, i = j + 1 := ⟨i - 1, by omega⟩
    rw [Nat.pow_succ]
    have : 0 < 65536 ^ j := Nat.pow_pos (by omega)
    exact Nat.lt_of_lt_of_le hn (Nat.le_mul_of_pos_left _ this)
theorem digN {u : Value} {m : Nat} (i : Nat) (w : World) (hu : IsV w u m) : Calls Try.prog 90 #[u, .int .i64 (i : Int)] w fun e w' => e = .returned (.int .i64 (dgt m i : Nat)) ∧ w = w' := by
  obtain ⟨A, l, c, rfl, hD, rfl, hl⟩ := hu
  refine (ref_digit A l c i w hD).mono ?_
  rintro e w' ⟨rfl, rfl⟩
  rw [digZ_nat, Dv.at_ (Dv.mk' hD.sm)]
  exact ⟨rfl, rfl⟩
end Go.Proofs.Ytgdiokklfihfoaa
namespace Go.Proofs.Ytgdiokklfihfoaa
open Go.ChangeShapes Go.WideShapes Go.ChangeAt Go.RowKit
set_option maxHeartbeats 2000000
set_option maxRecDepth 100000
attribute [local go_sem ↓]     load_num store_num execl_num execs_num
attribute [local go_sem] isHead_mk blkOf_mk isAgg_mk cellsV_mk row_drew rowAt_drew row_new_cells row_old rowAt_new rowAt_old setRow_new zeroFe zeroNum
theorem val_range (f : Nat → Nat) (k : Nat) : val ((List.range k).map f) = dval f k := by
  induction k with
  | zero => rfl
  | succ k ih => rw [List.range_succ, List.map_append, List.map_cons, List.map_nil, val_snoc, ih, List.length_map, List.length_range]; rfl
theorem IsV.fe {W : World} {g n : Nat} (h : At W g .i64 16 (dgt n)) (hn : n < 2 ^ 256) : IsV W (.slice (some ⟨g, 0, none⟩) 16 16) n := by
  have hl : ((List.range 16).map (dgt n)).length = 16 := by simp
  refine ⟨some ⟨g, 0, none⟩, (List.range 16).map (dgt n), 16, by rw [hl], ⟨fun j u hu => ?_, fun d hd => ?_, by omega, by omega⟩, ?_, by omega⟩
  · refine ⟨⟨g, 0, none⟩, rfl, h.lt, ?_⟩
    have hj : j < 16 := by
      rcases Nat.lt_or_ge j 16 with h1 | h1
      · exact h1
      · rw [List.getElem?_eq_none (by simp [digV]; omega)] at hu; cases hu
    have h1 := h.cell hj
    have h2 : (⟨g, 0, none⟩ : Addr).add j = ⟨g, j, none⟩ := by
      by_cases e : j = 0
      · subst e; simp [Addr.add]
      · simp [Addr.add, e]
    rw [h2, h1, ← hu]
    simp [digV, List.getElem?_range hj]
  · obtain ⟨i, -, rfl⟩ := List.mem_map.1 hd
    exact dgt_lt _ _
  · rw [val_range, dval_dgt, p16, Nat.mod_eq_of_lt hn]
theorem P_mul_big : 65536 * fP < big := mul_big (m := 17) (n := 256) (by omega) P_lt (by omega)
theorem P_big : fP < big := lt_big P_lt (by omega)
/-- What To holds behind s bits. -/
def toS (a n s : Nat) : Nat := a ^ (n % 2 ^ s) % fP
theorem toS_start (a n : Nat) : toS a n 0 = 1 := by
  unfold toS
  rw [Nat.pow_zero, Nat.mod_one, Nat.pow_zero]
  decide +kernel
theorem toS_end {a n : Nat} (hn : n < 2 ^ 256) : toS a n 256 = a ^ n % fP := by unfold toS; rw [Nat.mod_eq_of_lt hn]
theorem toS_lt (a n s : Nat) : toS a n s < 2 ^ 256 := Nat.lt_trans lt_P P_lt
theorem toS_zero {a n s : Nat} (h : n / 2 ^ s % 2 = 0) : toS a n (s + 1) = toS a n s := by
  unfold toS
  rw [Nat.pow_succ, Nat.mod_mul, h, Nat.mul_zero, Nat.add_zero]
theorem toS_one {a n s v : Nat} (h : n / 2 ^ s % 2 = 1) (hv : v % fP = a ^ 2 ^ s % fP) : toS a n s * v % fP = toS a n (s + 1) := by
  unfold toS
  rw [Nat.pow_succ, Nat.mod_mul, h, Nat.mul_one, Nat.mul_mod, hv, ← Nat.mul_mod, Nat.mod_mul_mod, ← Nat.pow_add]
theorem sq_step {a s v : Nat} (hv : v % fP = a ^ 2 ^ s % fP) : v * v % fP % fP = a ^ 2 ^ (s + 1) % fP := by
  rw [Nat.mod_mod, Nat.mul_mod, hv, ← Nat.mul_mod, ← Nat.pow_add, Nat.pow_succ, Nat.mul_two]
def SRel.fN (m : Nat) : SRel := ⟨fun v w => IsN w v m, fun _ _ _ hb h => h.step hb⟩
def SRel.fV (m : Nat) : SRel := ⟨fun v w => IsV w v m, fun _ _ _ hb h => h.step hb⟩
end Go.Proofs.Ytgdiokklfihfoaa
namespace Go.Proofs.Ytgdiokklfihfoaa
open Go.ChangeShapes Go.WideShapes Go.ChangeAt Go.RowKit
set_option maxHeartbeats 2000000
set_option maxRecDepth 100000
attribute [local go_sem ↓] load_fld load_num store_num execl_num execs_num        
attribute [local go_sem] isHead_mk blkOf_mk isAgg_mk cellsV_mk row_drew rowAt_drew row_new_cells row_old rowAt_new rowAt_old setRow_new zeroNum zeroPt zeroQd
end Go.Proofs.Ytgdiokklfihfoaa
namespace Go.Proofs.Ytgdiokklfihfoaa
open Go.ChangeShapes Go.WideShapes Go.ChangeAt Go.RowKit
set_option maxHeartbeats 2000000
set_option maxRecDepth 100000
attribute [local go_sem ↓] load_fld load_num store_num execl_num execs_num        
attribute [local go_sem] isHead_mk blkOf_mk isAgg_mk cellsV_mk row_drew rowAt_drew row_new_cells row_old rowAt_new rowAt_old setRow_new zeroNum zeroPt zeroQd
/-- The curve's number d. -/
def dN : Nat := 0x52036cee2b6ffe738cc740797779e89800700a4d4141d8ab75eb4dca135978a3
theorem dN_lt : dN < 2 ^ 256 := by decide +kernel
theorem buildD (w : World) : (Instr.build 27 #[(0, Value.int IntKind.u64 8496970652267935907), (1, Value.int IntKind.u64 31536524315187371), (2, Value.int IntKind.u64 10144147576115030168), (3, Value.int IntKind.u64 5909686906226998899)]).run Try.prog w = .ok (.agg (arrK .u64 4 (wd dN))) w :=
  run_build w _ _ _ (by kernel_rfl)
theorem low_lt {a : Nat} : a % fP < 2 ^ 256 := Nat.lt_trans lt_P P_lt
theorem dif_low {a b : Nat} : difP a b < 2 ^ 256 := low_lt
end Go.Proofs.Ytgdiokklfihfoaa
namespace Go.Proofs.Ytgdiokklfihfoaa
open Go.ChangeShapes Go.WideShapes Go.ChangeAt Go.RowKit
set_option maxHeartbeats 2000000
set_option maxRecDepth 100000
attribute [local go_sem ↓] load_fld load_num store_num execl_num execs_num        
attribute [local go_sem] isHead_mk blkOf_mk isAgg_mk cellsV_mk row_drew rowAt_drew row_new_cells row_old rowAt_new rowAt_old setRow_new zeroNum zeroPt zeroQd
/-- The base point. -/
def bX : Nat := 0x216936d3cd6e53fec0a4e231fdd6dc5c692cc7609525a7b2c9562d608f25d51a
def bY : Nat := 0x6666666666666666666666666666666666666666666666666666666666666658
theorem build_bX (w : World) : (Instr.build 27 #[(0, Value.int IntKind.u64 14507833142362363162), (1, Value.int IntKind.u64 7578651490590762930), (2, Value.int IntKind.u64 13881468655802702940), (3, Value.int IntKind.u64 2407515759118799870)]).run Try.prog w = .ok (.agg (arrK .u64 4 (wd bX))) w := run_build w _ _ _ (by kernel_rfl)
theorem build_bY (w : World) : (Instr.build 27 #[(0, Value.int IntKind.u64 7378697629483820632), (1, Value.int IntKind.u64 7378697629483820646), (2, Value.int IntKind.u64 7378697629483820646), (3, Value.int IntKind.u64 7378697629483820646)]).run Try.prog w = .ok (.agg (arrK .u64 4 (wd bY))) w := run_build w _ _ _ (by kernel_rfl)
/-- Is it a point of the curve? -/
def onB (x y : Nat) : Bool := decide (x = x % fP) && decide (y = y % fP) && decide (difP (y * y % fP) (x * x % fP) = (1 + dN * ((x * x % fP) * (y * y % fP) % fP) % fP) % fP)
end Go.Proofs.Ytgdiokklfihfoaa
namespace Go.Proofs.Ytgdiokklfihfoaa
open Go.ChangeShapes Go.WideShapes Go.ChangeAt Go.RowKit
set_option maxHeartbeats 2000000
set_option maxRecDepth 100000
attribute [local go_sem ↓] load_fld load_num store_num execl_num execs_num        
attribute [local go_sem] isHead_mk blkOf_mk isAgg_mk cellsV_mk row_drew rowAt_drew row_new_cells row_old rowAt_new rowAt_old setRow_new zeroNum zeroPt zeroQd
theorem ret_row2c {P : Program} {fn : Func} {R : Ending → World → Prop} {a : Act} {w : World} {p q : Tmp} {ty : TypeId} {g n : Nat} {d : TypeDesc} (h : fn.results = #[.cell p ty, .tmp q])
    (hu : P.underlying ty = some d) (hd : (match d with | .struct _ | .array _ _ => true | _ => false) = true) (hi : (P.info? ty).map (·.size) = some n)
    (hp : a.tmps.getD p undef = .pointer (some ⟨g, 0, none⟩)) (hr : Row w g n) (hf : a.defers = []) (hR : R (.returned (.tuple #[.agg (rowAt w g), a.tmps.getD q undef])) w) : bodyPost P fn R .ret a w := by
  obtain ⟨cs, t, hg, hs⟩ := hr
  have e : rowAt w g = cs := by simp [rowAt, hg]
  rw [e] at hR
  exact bodyPost_ret (results_row_tmp h _ _ g t cs (0, 0) d hp hg hu hd (by rw [hi, hs])) hf hR
theorem store_fldP {w : World} {dst : Option Tmp} {x y : Operand} {tt : TypeId} {pos : String} {af : Array Edge} {gd : Option (Nat × Bool)} {a : Act} {K : Act → World → Prop} {Q : Exit → Act → World → Prop} (hv : IsPart (a.eval x)) (h : Row w (blkOf (a.eval x)) 8) (ho : offOf (a.eval x) + 4 ≤ 8) (hx : IsAgg (a.eval y) 4) :
    Oper.wp Try.prog ⟨dst, .store 27 x y, tt, pos, af, gd⟩ a w K Q ↔ K (a.put dst undef) (w.setRow (blkOf (a.eval x)) (putAt (rowAt w (blkOf (a.eval x))) (offOf (a.eval x)) (cellsV (a.eval y)).toList)) := wp_store_part (by kernel_rfl) hv h ho hx
attribute [local go_sem ↓] store_fldP
attribute [local go_sem] isPart_mk offOf_mk
theorem put_x (f0 f1 f : Nat → Nat) : putAt (arrK .u64 8 (cat2 f0 f1)) 0 (arrK .u64 4 f).toList = arrK .u64 8 (cat2 f f1) := by
  rw [arrK_V .u64 8, putAt_arrV, arrK_V .u64 8]
  refine arrV_congr fun i hi => ?_
  rw [if_pos (Nat.zero_le _), Nat.sub_zero, Array.getElem?_toList]
  unfold cat2
  by_cases h : i < 4
  · rw [arrK_at h, if_pos h, if_pos h]; rfl
  · rw [Array.getElem?_eq_none (by rw [arrK_size]; omega), if_neg h, if_neg h]; rfl
/-- What plus makes of two quads. -/
def qplus (x1 y1 z1 t1 x2 y2 z2 t2 : Nat) : Nat × Nat × Nat × Nat :=
  let a := difP y1 x1 * difP y2 x2 % fP
  let b := ((y1 + x1) % fP) * ((y2 + x2) % fP) % fP
  let c0 := (t1 * t2 % fP) * dN % fP
  let c := (c0 + c0) % fP
  let z0 := z1 * z2 % fP
  let z := (z0 + z0) % fP
  let e := difP b a
  let f := difP z c
  let g := (z + c) % fP
  let h := (b + a) % fP
  (e * f % fP, g * h % fP, f * g % fP, e * h % fP)
/-- The sum of two points, as the program makes it. -/
def addPt (x1 y1 x2 y2 : Nat) : Nat × Nat :=
  let r := qplus x1 y1 1 (x1 * y1 % fP) x2 y2 1 (x2 * y2 % fP)
  (r.1 * invP r.2.2.1 % fP, r.2.1 * invP r.2.2.1 % fP)
theorem qplus_lt (x1 y1 z1 t1 x2 y2 z2 t2 : Nat) (r : Nat × Nat × Nat × Nat) (hr : qplus x1 y1 z1 t1 x2 y2 z2 t2 = r) : r.1 < 2 ^ 256 ∧ r.2.1 < 2 ^ 256 ∧ r.2.2.1 < 2 ^ 256 := by
  subst hr
  exact ⟨low_lt, low_lt, low_lt⟩
end Go.Proofs.Ytgdiokklfihfoaa
namespace Go.Proofs.Ytgdiokklfihfoaa
open Go.ChangeShapes Go.WideShapes Go.ChangeAt Go.RowKit
set_option maxHeartbeats 2000000
set_option maxRecDepth 100000
def cat3 (f0 f1 f2 : Nat → Nat) (i : Nat) : Nat := if i < 16 then f0 i else if i < 32 then f1 (i - 16) else f2 (i - 32)
section
variable {w : World} {g : Nat} {f0 f1 f2 : Nat → Nat}
theorem rp_0 (h : At w g .i64 48 (cat3 f0 f1 f2)) : LdOk w 16 (.pointer (some ⟨g, 0, none⟩)) ∧ ldC w 16 (.pointer (some ⟨g, 0, none⟩)) = arrK .i64 16 f0 := by
  refine ⟨(h.fld (by omega)).1, (h.fld (by omega)).2.trans (arrK_congr fun i hi => ?_)⟩
  unfold cat3; rw [if_pos (by omega), Nat.zero_add]
theorem rp_1 (h : At w g .i64 48 (cat3 f0 f1 f2)) : LdOk w 16 (.pointer (some ⟨g, 16, none⟩)) ∧ ldC w 16 (.pointer (some ⟨g, 16, none⟩)) = arrK .i64 16 f1 := by
  refine ⟨(h.fld (by omega)).1, (h.fld (by omega)).2.trans (arrK_congr fun i hi => ?_)⟩
  unfold cat3; rw [if_neg (by omega), if_pos (by omega), Nat.add_sub_cancel_left]
theorem rp_2 (h : At w g .i64 48 (cat3 f0 f1 f2)) : LdOk w 16 (.pointer (some ⟨g, 32, none⟩)) ∧ ldC w 16 (.pointer (some ⟨g, 32, none⟩)) = arrK .i64 16 f2 := by
  refine ⟨(h.fld (by omega)).1, (h.fld (by omega)).2.trans (arrK_congr fun i hi => ?_)⟩
  unfold cat3; rw [if_neg (by omega), if_neg (by omega), Nat.add_sub_cancel_left]
end
def rpV (x y z : Nat) : Value := .agg (arrK .i64 48 (cat3 (dgt x) (dgt y) (dgt z)))
theorem zeroRp : #[Value.int IntKind.i64 0, Value.int IntKind.i64 0, Value.int IntKind.i64 0, Value.int IntKind.i64 0, Value.int IntKind.i64 0, Value.int IntKind.i64 0, Value.int IntKind.i64 0, Value.int IntKind.i64 0, Value.int IntKind.i64 0, Value.int IntKind.i64 0, Value.int IntKind.i64 0, Value.int IntKind.i64 0, Value.int IntKind.i64 0, Value.int IntKind.i64 0, Value.int IntKind.i64 0, Value.int IntKind.i64 0, Value.int IntKind.i64 0, Value.int IntKind.i64 0, Value.int IntKind.i64 0, Value.int IntKind.i64 0, Value.int IntKind.i64 0, Value.int IntKind.i64 0, Value.int IntKind.i64 0, Value.int IntKind.i64 0, Value.int IntKind.i64 0, Value.int IntKind.i64 0, Value.int IntKind.i64 0, Value.int IntKind.i64 0, Value.int IntKind.i64 0, Value.int IntKind.i64 0, Value.int IntKind.i64 0, Value.int IntKind.i64 0, Value.int IntKind.i64 0, Value.int IntKind.i64 0, Value.int IntKind.i64 0, Value.int IntKind.i64 0, Value.int IntKind.i64 0, Value.int IntKind.i64 0, Value.int IntKind.i64 0, Value.int IntKind.i64 0, Value.int IntKind.i64 0, Value.int IntKind.i64 0, Value.int IntKind.i64 0, Value.int IntKind.i64 0, Value.int IntKind.i64 0, Value.int IntKind.i64 0, Value.int IntKind.i64 0, Value.int IntKind.i64 0] = arrK .i64 48 (cat3 (fun _ => 0) (fun _ => 0) (fun _ => 0)) := by kernel_rfl
section
variable {P : Program} {ops : Array Oper} {rest : List Oper} {o : Oper} {a : Act} {w : World} {K : Act → World → Prop} {Q : Exit → Act → World → Prop} {t : TypeId} {i0 i1 i2 : Nat} {x0 x1 x2 : Operand} {u v0 v1 v2 : Value}
theorem wp_bldC (ho : o.op = .build t #[(i0, x0), (i1, x1), (i2, x2)]) (h0 : a.eval x0 = v0) (h1 : a.eval x1 = v1) (h2 : a.eval x2 = v2) (hr : (Instr.build t #[(i0, v0), (i1, v1), (i2, v2)]).run P w = .ok u w) (h : K (a.put o.dst u) w) : Oper.wp P o a w K Q := by
  subst h0 h1 h2
  obtain ⟨dst, op, tt, pos, af, gd⟩ := o
  subst ho
  unfold Oper.wp execOp
  simp only [List.map_toArray, List.map_cons, List.map_nil, Sem.run_bind, hr, Result.andThen_ok]
  exact h
theorem wpList_bldC (hgd : o.guard = none) (ho : o.op = .build t #[(i0, x0), (i1, x1), (i2, x2)]) (h0 : a.eval x0 = v0) (h1 : a.eval x1 = v1) (h2 : a.eval x2 = v2) (hr : (Instr.build t #[(i0, v0), (i1, v1), (i2, v2)]).run P w = .ok u w) (h : wpList P ops Q rest (a.put o.dst u) w) : wpList P ops Q (o :: rest) a w :=
  wpList_step fun K hK => by
    have hw : Region.wanted o (yielded ops a.tmps) = true := by simp [Region.wanted, hgd]
    rw [if_pos hw]
    exact wp_bldC ho h0 h1 h2 hr (hK _ _ h)
end
section
variable {P : Program} {ops : Array Oper} {rest : List Oper} {o : Oper} {a : Act} {w : World} {Q : Exit → Act → World → Prop} {t : TypeId} {parts : Array (Nat × Operand)} {vs : Array (Nat × Value)} {u : Value}
theorem wpList_bldN (hgd : o.guard = none) (ho : o.op = .build t parts) (hv : (parts.map fun p => (p.1, a.eval p.2)) = vs) (hr : (Instr.build t vs).run P w = .ok u w) (h : wpList P ops Q rest (a.put o.dst u) w) : wpList P ops Q (o :: rest) a w :=
  wpList_step fun K hK => by
    have hw : Region.wanted o (yielded ops a.tmps) = true := by simp [Region.wanted, hgd]
    rw [if_pos hw]
    subst hv
    obtain ⟨dst, op, tt, pos, af, gd⟩ := o
    subst ho
    unfold Oper.wp execOp
    simp only [Sem.run_bind, hr, Result.andThen_ok]
    exact hK _ _ h
end

attribute [local go_sem] isHead_mk blkOf_mk isAgg_mk cellsV_mk row_drew rowAt_drew row_new_cells row_old rowAt_new rowAt_old setRow_new zeroFe
end Go.Proofs.Ytgdiokklfihfoaa
namespace Go.Proofs.Ytgdiokklfihfoaa
open Go.ChangeShapes Go.WideShapes Go.ChangeAt Go.RowKit
set_option maxHeartbeats 2000000
set_option maxRecDepth 100000
attribute [local go_sem ↓] load_fld  load_num store_num      
attribute [local go_sem] isHead_mk blkOf_mk isAgg_mk cellsV_mk row_drew rowAt_drew row_new_cells row_old rowAt_new rowAt_old setRow_new zeroNum zeroPt zeroFe zeroRp
end Go.Proofs.Ytgdiokklfihfoaa
namespace Go.Proofs.Ytgdiokklfihfoaa
/-- Congruence modulo 2^255 - 19. -/
def Cg (a b : Int) : Prop := ∃ k, a = b + (fP : Int) * k
section
variable {a b c d : Int} {m n : Nat}
theorem Cg.refl (a : Int) : Cg a a := ⟨0, by rw [Int.mul_zero, Int.add_zero]⟩
theorem Cg.symm (h : Cg a b) : Cg b a := by obtain ⟨k, hk⟩ := h; exact ⟨-k, by grind⟩
theorem Cg.trans (h : Cg a b) (h2 : Cg b c) : Cg a c := by obtain ⟨k, hk⟩ := h; obtain ⟨l, hl⟩ := h2; exact ⟨k + l, by grind⟩
theorem Cg.add (h : Cg a b) (h2 : Cg c d) : Cg (a + c) (b + d) := by obtain ⟨k, hk⟩ := h; obtain ⟨l, hl⟩ := h2; exact ⟨k + l, by grind⟩
theorem Cg.sub (h : Cg a b) (h2 : Cg c d) : Cg (a - c) (b - d) := by obtain ⟨k, hk⟩ := h; obtain ⟨l, hl⟩ := h2; exact ⟨k - l, by grind⟩
theorem Cg.mul (h : Cg a b) (h2 : Cg c d) : Cg (a * c) (b * d) := by obtain ⟨k, hk⟩ := h; obtain ⟨l, hl⟩ := h2; exact ⟨b * l + k * d + (fP : Int) * k * l, by grind⟩
theorem Cg.mod (n : Nat) : Cg ((n % fP : Nat) : Int) n := by
  have h := Nat.mod_add_div n fP
  refine ⟨-((n / fP : Nat) : Int), ?_⟩
  have h2 : ((n % fP : Nat) : Int) + (fP : Int) * ((n / fP : Nat) : Int) = (n : Int) := by rw [← Int.natCast_mul, ← Int.natCast_add, h]
  grind
theorem Cg.mulM (h : Cg m a) (h2 : Cg n b) : Cg ((m * n % fP : Nat) : Int) (a * b) := (Cg.mod _).trans (by rw [Int.natCast_mul]; exact h.mul h2)
theorem Cg.addM (h : Cg m a) (h2 : Cg n b) : Cg (((m + n) % fP : Nat) : Int) (a + b) := (Cg.mod _).trans (by rw [Int.natCast_add]; exact h.add h2)
theorem Cg.difM (h : Cg m a) (h2 : Cg n b) : Cg ((difP m n : Nat) : Int) (a - b) := by
  unfold difP
  refine (Cg.mod _).trans ?_
  have h3 := lt_P (a := n)
  rw [Int.natCast_add, Int.natCast_sub (Nat.le_of_lt h3)]
  have h4 := ((Cg.mod m).trans h).sub ((Cg.mod n).trans h2)
  obtain ⟨k, hk⟩ := h4
  exact ⟨k + 1, by grind⟩
/-- The document's difference. -/
def lessM (a b : Nat) : Nat := (a + 4 * fP - b) % fP
theorem Cg.lessM (h : Cg m a) (h2 : Cg n b) (hn : n < fP) : Cg ((lessM m n : Nat) : Int) (a - b) := by
  unfold Proofs.Ytgdiokklfihfoaa.lessM
  refine (Cg.mod _).trans ?_
  rw [Int.natCast_sub (by omega), Int.natCast_add, Int.natCast_mul]
  obtain ⟨k, hk⟩ := h.sub h2
  exact ⟨k + 4, by grind⟩
theorem Cg.eq (h : Cg m n) (hm : m < fP) (hn : n < fP) : m = n := by
  obtain ⟨k, hk⟩ := h
  generalize fP = P at *
  have h1 : k < 1 := by
    rcases Int.lt_or_le k 1 with h | h
    · exact h
    · have := Int.mul_le_mul_of_nonneg_left h (show (0 : Int) ≤ (P : Int) by omega)
      omega
  have h2 : -1 < k := by
    rcases Int.lt_or_le (-1) k with h | h
    · exact h
    · have := Int.mul_le_mul_of_nonneg_left h (show (0 : Int) ≤ (P : Int) by omega)
      omega
  have h3 : k = 0 := by omega
  subst h3
  omega
theorem Cg.of_eq (h : m % fP = n % fP) : Cg m n := (Cg.mod m).symm.trans (h ▸ Cg.mod n)
end

/-! Powers, by squaring. -/
def pwf (a : Nat) : Nat → Nat → Nat
  | 0, _ => 1
  | f + 1, n => if n % 2 = 0 then (pwf a f (n / 2)) ^ 2 % fP else ((pwf a f (n / 2)) ^ 2 % fP) * a % fP
theorem pwf_is (a : Nat) : ∀ f n, n < 2 ^ f → pwf a f n % fP = a ^ n % fP
  | 0, n, h => by
    have : n = 0 := by rw [Nat.pow_zero] at h; omega
    subst this; rfl
  | f + 1, n, h => by
    have ih := pwf_is a f (n / 2) (by rw [Nat.pow_succ] at h; omega)
    unfold pwf
    split
    · rename_i h0
      rw [Nat.mod_mod, Nat.pow_mod, ih, ← Nat.pow_mod, ← Nat.pow_mul, show n / 2 * 2 = n by omega]
    · rename_i h0
      rw [Nat.mod_mod, Nat.mod_mul_mod, Nat.mul_mod, Nat.pow_mod, ih, ← Nat.pow_mod, ← Nat.mul_mod, ← Nat.pow_mul, ← Nat.pow_succ, show (n / 2 * 2).succ = n by omega]
theorem four_pow : 4 ^ (fP - 1) % fP = 1 := by
  have h : fP - 1 < 2 ^ 256 := Nat.lt_of_le_of_lt (Nat.sub_le _ _) P_lt
  rw [← pwf_is 4 256 _ h]
  decide +kernel
/-- Four times as much above and below is the same. -/
theorem over_four {X X4 Z Z4 : Nat} (hX : Cg X4 (4 * (X : Int))) (hZ : Cg Z4 (4 * (Z : Int))) : X4 * invP Z4 % fP = X * invP Z % fP := by
  refine Cg.eq ?_ lt_P lt_P
  refine (Cg.mod _).trans (Cg.trans ?_ (Cg.mod _).symm)
  have hi : ∀ n m : Nat, Cg m n → ∀ k : Nat, Cg ((m ^ k : Nat) : Int) ((n ^ k : Nat) : Int) := fun n m h k => by
    induction k with
    | zero => exact Cg.refl _
    | succ k ih => rw [Nat.pow_succ, Nat.pow_succ, Int.natCast_mul, Int.natCast_mul]; exact ih.mul h
  have hZ' : Cg Z4 ((4 * Z : Nat) : Int) := by rw [Int.natCast_mul]; exact hZ
  have h1 : Cg (invP Z4) (((4 ^ (fP - 2) : Nat) : Int) * (invP Z : Int)) := by
    unfold invP
    refine (Cg.mod _).trans ((hi _ _ hZ' (fP - 2)).trans ?_)
    rw [Nat.mul_pow, Int.natCast_mul]
    exact (Cg.refl _).mul (Cg.mod _).symm
  have h2 : Cg (4 * ((4 ^ (fP - 2) : Nat) : Int)) 1 := by
    have h3 : 4 * 4 ^ (fP - 2) = 4 ^ (fP - 1) := by
      rw [Nat.mul_comm, ← Nat.pow_succ]
      congr 1
    rw [show (4 : Int) * ((4 ^ (fP - 2) : Nat) : Int) = ((4 * 4 ^ (fP - 2) : Nat) : Int) by rw [Int.natCast_mul]; rfl, h3]
    refine (Cg.mod _).symm.trans ?_
    rw [four_pow]
    exact Cg.refl _
  rw [Int.natCast_mul, Int.natCast_mul]
  refine (hX.mul h1).trans ?_
  generalize ((4 ^ (fP - 2) : Nat) : Int) = q at *
  have h4 := h2.mul (Cg.refl ((X : Int) * (invP Z : Int)))
  rw [Int.one_mul] at h4
  refine Cg.trans ?_ h4
  rw [show 4 * (X : Int) * (q * (invP Z : Int)) = 4 * q * ((X : Int) * (invP Z : Int)) by grind]
  exact Cg.refl _

/-! The document's side. -/
/-- Is it a point of the curve? -/
def onR (x y : Nat) : Bool := decide (x % fP = x) && decide (y % fP = y) && decide ((y % fP) * (y % fP) % fP = ((1 + (x % fP) * (x % fP) % fP) % fP + (dN * ((x % fP) * (x % fP) % fP) % fP) * ((y % fP) * (y % fP) % fP) % fP) % fP)
theorem on_same (x y : Nat) : onR x y = onB x y := by
  unfold onR onB
  by_cases hx : x % fP = x
  · by_cases hy : y % fP = y
    · rw [hx, hy]
      simp only [decide_true, Bool.true_and]
      refine decide_eq_decide.2 ?_
      have e1 := Cg.mulM (Cg.refl x) (Cg.refl x)
      have e2 := Cg.mulM (Cg.refl y) (Cg.refl y)
      have l1 : x * x % fP < fP := lt_P
      have l2 : y * y % fP < fP := lt_P
      generalize x * x % fP = xx at *
      generalize y * y % fP = yy at *
      generalize dN = dd at *
      have p1 := Cg.difM (Cg.refl yy) (Cg.refl xx)
      have p2 := Cg.addM (m := 1) (Cg.refl 1) (Cg.mulM (Cg.refl dd) (Cg.mulM (Cg.refl xx) (Cg.refl yy)))
      have p3 := Cg.addM (Cg.addM (m := 1) (Cg.refl 1) (Cg.refl xx)) (Cg.mulM (Cg.mulM (Cg.refl dd) (Cg.refl xx)) (Cg.refl yy))
      constructor
      · intro h
        refine Cg.eq (p1.trans (Cg.trans ?_ p2.symm)) lt_P lt_P
        rw [← h] at p3
        obtain ⟨k, hk⟩ := p3
        exact ⟨k, by grind⟩
      · intro h
        refine Cg.eq (Cg.trans ?_ p3.symm) l2 lt_P
        rw [h] at p1
        obtain ⟨k, hk⟩ := p1.symm.trans p2
        exact ⟨k, by grind⟩
    · rw [decide_eq_false hy, decide_eq_false (p := y = y % fP) (fun h => hy h.symm), Bool.and_false, Bool.false_and, Bool.and_false, Bool.false_and]
  · rw [decide_eq_false hx, decide_eq_false (p := x = x % fP) (fun h => hx h.symm), Bool.false_and, Bool.false_and, Bool.false_and, Bool.false_and]
theorem on_lt {x y : Nat} (h : onB x y = true) : x < fP ∧ y < fP := by
  unfold onB at h
  rw [Bool.and_eq_true, Bool.and_eq_true, decide_eq_true_eq, decide_eq_true_eq] at h
  exact ⟨by rw [h.1.1]; exact lt_P, by rw [h.1.2]; exact lt_P⟩
/-- What the document makes of two fractions. -/
def rplus (X1 Y1 Z1 X2 Y2 Z2 : Nat) : Nat × Nat × Nat :=
  let a := Z1 * Z2 % fP
  let c := X1 * X2 % fP
  let d := Y1 * Y2 % fP
  let b := a * a % fP
  let e := (dN * c % fP) * d % fP
  let f := lessM b e
  let g := (b + e) % fP
  let s := (X1 * Y2 % fP + Y1 * X2 % fP) % fP
  ((a * f % fP) * s % fP, (a * g % fP) * ((c + d) % fP) % fP, f * g % fP)
def rpoint (X Y Z : Nat) : Nat × Nat := (X * invP Z % fP, Y * invP Z % fP)
theorem add_same {x1 y1 x2 y2 : Nat} (hx1 : x1 < fP) (hy1 : y1 < fP) (hx2 : x2 < fP) (hy2 : y2 < fP) :
    addPt x1 y1 x2 y2 = rpoint (rplus (x1 % fP) (y1 % fP) 1 (x2 % fP) (y2 % fP) 1).1 (rplus (x1 % fP) (y1 % fP) 1 (x2 % fP) (y2 % fP) 1).2.1 (rplus (x1 % fP) (y1 % fP) 1 (x2 % fP) (y2 % fP) 1).2.2 := by
  rw [Nat.mod_eq_of_lt hx1, Nat.mod_eq_of_lt hy1, Nat.mod_eq_of_lt hx2, Nat.mod_eq_of_lt hy2]
  -- the program's
  have pa := Cg.mulM (Cg.difM (Cg.refl y1) (Cg.refl x1)) (Cg.difM (Cg.refl y2) (Cg.refl x2))
  have pb := Cg.mulM (Cg.addM (Cg.refl y1) (Cg.refl x1)) (Cg.addM (Cg.refl y2) (Cg.refl x2))
  have pc0 := Cg.mulM (Cg.mulM (Cg.mulM (Cg.refl x1) (Cg.refl y1)) (Cg.mulM (Cg.refl x2) (Cg.refl y2))) (Cg.refl dN)
  have pc := Cg.addM pc0 pc0
  have pz0 := Cg.mulM (m := 1) (n := 1) (Cg.refl 1) (Cg.refl 1)
  have pz := Cg.addM pz0 pz0
  have pe := Cg.difM pb pa
  have pf := Cg.difM pz pc
  have pg := Cg.addM pz pc
  have ph := Cg.addM pb pa
  have p1 := Cg.mulM pe pf
  have p2 := Cg.mulM pg ph
  have p3 := Cg.mulM pf pg
  -- the document's
  have ra := Cg.mulM (m := 1) (n := 1) (Cg.refl 1) (Cg.refl 1)
  have rc := Cg.mulM (Cg.refl x1) (Cg.refl x2)
  have rd := Cg.mulM (Cg.refl y1) (Cg.refl y2)
  have rb := Cg.mulM ra ra
  have re := Cg.mulM (Cg.mulM (Cg.refl dN) rc) rd
  have rf := Cg.lessM rb re lt_P
  have rg := Cg.addM rb re
  have rs := Cg.addM (Cg.mulM (Cg.refl x1) (Cg.refl y2)) (Cg.mulM (Cg.refl y1) (Cg.refl x2))
  have r1 := Cg.mulM (Cg.mulM ra rf) rs
  have r2 := Cg.mulM (Cg.mulM ra rg) (Cg.addM rc rd)
  have r3 := Cg.mulM rf rg
  unfold addPt rpoint
  refine Prod.ext ?_ ?_
  · refine over_four (p1.trans (Cg.trans ?_ ((Cg.refl 4).mul r1).symm)) (p3.trans (Cg.trans ?_ ((Cg.refl 4).mul r3).symm))
    · exact ⟨0, by grind⟩
    · exact ⟨0, by grind⟩
  · refine over_four (p2.trans (Cg.trans ?_ ((Cg.refl 4).mul r2).symm)) (p3.trans (Cg.trans ?_ ((Cg.refl 4).mul r3).symm))
    · exact ⟨0, by grind⟩
    · exact ⟨0, by grind⟩
theorem neg_same (x : Nat) : difP 0 x = lessM 0 (x % fP) := by
  refine Cg.eq ((Cg.difM (m := 0) (Cg.refl 0) (Cg.refl x)).trans (Cg.lessM (m := 0) (Cg.refl 0) (Cg.mod x) lt_P).symm) lt_P lt_P
end Go.Proofs.Ytgdiokklfihfoaa
namespace Go.Proofs.Ytgdiokklfihfoaa
open Go.ChangeShapes Go.WideShapes Go.ChangeAt Go.RowKit
set_option maxHeartbeats 2000000
set_option maxRecDepth 100000
attribute [local go_sem ↓] load_fld  load_num store_num      
attribute [local go_sem] isHead_mk blkOf_mk isAgg_mk cellsV_mk row_drew rowAt_drew row_new_cells row_old rowAt_new rowAt_old setRow_new zeroNum zeroPt zeroFe zeroRp
theorem less_low {a b : Nat} : lessM a b < 2 ^ 256 := low_lt
theorem rplus_lt (X1 Y1 Z1 X2 Y2 Z2 : Nat) (r : Nat × Nat × Nat) (hr : rplus X1 Y1 Z1 X2 Y2 Z2 = r) : r.1 < 2 ^ 256 ∧ r.2.1 < 2 ^ 256 ∧ r.2.2 < 2 ^ 256 := by
  subst hr
  exact ⟨low_lt, low_lt, low_lt⟩
theorem dgt_inj {a b : Nat} (ha : a < 2 ^ 256) (hb : b < 2 ^ 256) : (∀ i < 16, dgt a i = dgt b i) ↔ a = b := by
  refine ⟨fun h => ?_, fun h _ _ => by rw [h]⟩
  have := dval_congr h
  rwa [dval_dgt, dval_dgt, p16, Nat.mod_eq_of_lt ha, Nat.mod_eq_of_lt hb] at this
end Go.Proofs.Ytgdiokklfihfoaa
namespace Go.Proofs.Ytgdiokklfihfoaa
open Go Go.ChangeShapes Go.WideShapes Go.ChangeAt Go.RowKit
set_option maxRecDepth 100000
theorem part_4 (F f : Nat → Nat) (o : Nat) (ho : o + 4 ≤ 8) (h : ∀ i < 4, F (o + i) = f i) (w : World) : (part 27 (arrK .u64 8 F) o).run Try.prog w = .ok (.agg (arrK .u64 4 f)) w := by
  obtain ⟨i, hi, hs⟩ : ∃ i, Try.prog.info? 27 = some i ∧ i.size = 4 := by
    have h : (Try.prog.info? 27).map (·.size) = some 4 := by kernel_rfl
    cases hi : Try.prog.info? 27 with
    | none => rw [hi] at h; cases h
    | some i => rw [hi] at h; exact ⟨i, rfl, by simpa using h⟩
  have h2 : (arrK .u64 8 F).extract o (o + 4) = arrK .u64 4 f := by
    rw [arrK_V .u64 8, arrV_extract ho, arrK_V .u64 4]
    exact arrV_congr fun i hi => by rw [h i hi]
  simp [part, isAgg, run_underlying Try.underlying27, sizeOf, typeInfo, hi, hs, h2]
theorem equalIn_4 (f : Nat → Nat) (k : Nat) (w : World) : (Op.equalIn (k + 2) 27 (.agg (arrK .u64 4 f)) (.agg (arrK .u64 4 f))).run Try.prog w = .ok true w := by
  rw [run_equalIn_arrK Try.underlying27 Try.underlying25 (by kernel_rfl)]; simp
section
variable {P : Program} {ops : Array Oper} {Q : Exit → Act → World → Prop}
theorem wpList_opW {rest : List Oper} {o : Oper} {a : Act} {w : World} (hw : Region.wanted o (yielded ops a.tmps) = true) (h : ∀ K : Act → World → Prop, (∀ a' w', wpList P ops Q rest a' w' → K a' w') → Oper.wp P o a w K Q) : wpList P ops Q (o :: rest) a w :=
  wpList_step fun K hK => by rw [if_pos hw]; exact h K hK
theorem calm_step_skipN {R : Nat → SRel} {a0 : Act} {w0 : World} {i g : Nat} {b : Bool} {d : Tmp} {o : Oper} (hg : o.guard = some (g, b)) (hd : dstAt ops g = some d)
    (hv : ∀ (a : Act) (w : World), Came ops R o a w → a.tmps[d]?.getD undef ≠ .bool b) (hR : ∀ w, (R i).p undef w) : StepOk P ops Q R a0 w0 i o := by
  intro a w K hb hu hc hK
  have hy : yielded ops a.tmps g ≠ some b := by
    intro hy
    have h1 := hv a w hc
    unfold dstAt at hd
    unfold yielded at hy
    rw [hd, Option.bind_some] at hy
    cases h2 : a.tmps[d]? with
    | none => rw [h2] at hy; cases hy
    | some v =>
      rw [h2] at hy h1
      cases v with
      | bool x =>
        have h3 : x = b := by simpa using hy
        subst h3
        exact h1 rfl
      | _ => cases hy
  rw [if_neg (by simp [Region.wanted, hg, hy])]
  exact hK undef w (hR w) (Below.refl _ _)
end
end Go.Proofs.Ytgdiokklfihfoaa
namespace Go.Proofs.Ytgdiokklfihfoaa
open Go.ChangeShapes Go.WideShapes Go.ChangeAt Go.RowKit
set_option maxHeartbeats 2000000
set_option maxRecDepth 100000
attribute [local go_sem ↓] load_fld load_num store_num execl_num execs_num load_wide store_wide execl_wide execs_wide
attribute [local go_sem] isHead_mk blkOf_mk isAgg_mk cellsV_mk row_drew rowAt_drew row_new_cells row_old rowAt_new rowAt_old setRow_new zeroNum zeroWide
def dK : Nat → Nat
  | 0 => 8
  | 1 => 64
  | 2 => 4096
  | 3 => 16777216
  | 4 => 281474976710656
  | _ => 18446744073709551616
theorem Nwt.up {m k x : Nat} (hk : k < 5) (h : Nwt m (dK k) x) : Nwt m (dK (k + 1)) (nwt m x) := by
  match k, hk with
  | 0, _ => exact h.step 64 288230376151711744 rfl (c := 1) rfl
  | 1, _ => exact h.step 4096 4503599627370496 rfl (c := 1) rfl
  | 2, _ => exact h.step 16777216 1099511627776 rfl (c := 1) rfl
  | 3, _ => exact h.step 281474976710656 65536 rfl (c := 1) rfl
  | 4, _ => exact h.step 18446744073709551616 1 rfl (c := 4294967296) rfl
theorem nwt_wrap (m x : Nat) : ∃ y z : Nat, IntKind.u64.wrap ((m : Int) * (x : Int)) = (y : Int) ∧ IntKind.u64.wrap (2 - (y : Int)) = (z : Int) ∧ IntKind.u64.wrap ((x : Int) * (z : Int)) = (nwt m x : Int) := by
  refine ⟨((m : Int) * x % 18446744073709551616).toNat, ((2 - (m : Int) * x) % 18446744073709551616).toNat, ?_, ?_, ?_⟩
  · rw [IntKind.wrap_u64, Int.toNat_of_nonneg (Int.emod_nonneg _ (by omega))]
  · rw [IntKind.wrap_u64, Int.toNat_of_nonneg (Int.emod_nonneg _ (by omega)), Int.toNat_of_nonneg (Int.emod_nonneg _ (by omega)), Int.sub_emod, Int.emod_emod, ← Int.sub_emod]
  · rw [IntKind.wrap_u64, Int.toNat_of_nonneg (Int.emod_nonneg _ (by omega)), nwt_int, Int.mul_emod, Int.emod_emod, ← Int.mul_emod]
theorem neg_wrap {x : Nat} (hx : x < 18446744073709551616) : IntKind.u64.wrap (-(x : Int)) = (negW x : Int) := by
  rw [IntKind.wrap_u64]; unfold negW; omega
theorem and_1 (x : Nat) (hx : x < 18446744073709551616) : bits .and .u64 (x : Int) 1 = ((x % 2 : Nat) : Int) := by
  rw [show (1 : Int) = ((1 : Nat) : Int) from rfl, u64_and_nat x 1 hx (by omega), Nat.and_one_is_mod]
theorem build_ring (f0 f1 f2 : Nat → Nat) (v : Nat) (w : World) : (Instr.build 131 #[(0, .agg (arrK .u64 4 f0)), (1, .agg (arrK .u64 4 f1)), (2, .agg (arrK .u64 4 f2)), (3, .int .u64 (v : Int))]).run Try.prog w = .ok (.agg (arrK .u64 13 fun i => if i < 4 then f0 i else if i < 8 then f1 (i - 4) else if i < 12 then f2 (i - 8) else v)) w := run_build w _ _ _ (by kernel_rfl)
theorem wide1 : #[Value.int IntKind.u64 0, Value.int IntKind.u64 0, Value.int IntKind.u64 0, Value.int IntKind.u64 0, Value.int IntKind.u64 1, Value.int IntKind.u64 0, Value.int IntKind.u64 0, Value.int IntKind.u64 0] = arrK .u64 8 (wd (2 ^ 256)) := by
  refine Eq.trans ?_ (arrK8 .u64 (wd (2 ^ 256)))
  rw [show wd (2 ^ 256) 0 = 0 by decide +kernel, show wd (2 ^ 256) 1 = 0 by decide +kernel, show wd (2 ^ 256) 2 = 0 by decide +kernel, show wd (2 ^ 256) 3 = 0 by decide +kernel, show wd (2 ^ 256) 4 = 1 by decide +kernel, show wd (2 ^ 256) 5 = 0 by decide +kernel, show wd (2 ^ 256) 6 = 0 by decide +kernel, show wd (2 ^ 256) 7 = 0 by decide +kernel]
  rfl
theorem build_w1 (w : World) : (Instr.build 50 #[(4, Value.int IntKind.u64 (1 : Int))]).run Try.prog w = .ok (.agg (arrK .u64 8 (wd (2 ^ 256)))) w := (run_build w _ _ _ (by kernel_rfl)).trans (by rw [← wide1])
def RetRing (m : Nat) (w : World) (e : Ending) (w' : World) : Prop := Below w.heap.size w w' ∧ ((¬ (m % 2 = 1 ∧ m ≠ 1) ∧ e = .returned (.tuple #[.pointer none, .int .i64 1])) ∨ ((m % 2 = 1 ∧ m ≠ 1) ∧ ∃ g o s v, e = .returned (.tuple #[.pointer (some ⟨g, 0, none⟩), .int .i64 0]) ∧ RgAt w' g m o s v ∧ RgOk m o s v))
theorem q_wide : 2 ^ 256 < 2 ^ (64 * 8) := by
  rw [two_pow 256 256 (64 * 8) rfl]
  have h : 1 < 2 ^ 256 := by decide +kernel
  generalize (2 : Nat) ^ 256 = P at *
  have := Nat.mul_lt_mul_of_pos_left h (show 0 < P by omega)
  omega
theorem wd0 (m : Nat) : wd m 0 = m % 18446744073709551616 := by unfold wd; rw [Nat.mul_zero, Nat.pow_zero, Nat.div_one]
theorem ring_New (m : Nat) (w : World) (hm : m < 2 ^ 256) : Calls Try.prog 24 #[numV m] w (RetRing m w) := by
  obtain ⟨m0, hm0⟩ : ∃ x, wd m 0 = x := ⟨_, rfl⟩
  have hml : m0 < 18446744073709551616 := hm0 ▸ wd_lt m 0
  have hmm : m % 18446744073709551616 = m0 := by rw [← hm0, wd0]
  have hand := and_1 m0 hml
  have hpar : m0 % 2 = m % 2 := by omega
  rw [hpar] at hand
  unfold numV
  have hc0 := arrK_cells .u64 4 (wd 0)
  have hL0 : Below w.heap.size w (w.alloc (Obj.cells (arrK .u64 4 (wd m)) 27)) := by go_grown
  have hA0 : At (w.alloc (Obj.cells (arrK .u64 4 (wd m)) 27)) w.heap.size .u64 4 (wd m) := At.new _ rfl
  have cw := hA0.cell (i := 0) (by omega)
  rw [hm0] at cw
  have hA := Lib.hid hA0
  have hL := Lib.hid hL0
  clear hA0 hL0
  have hR1 : ∀ e w', RetRing m w e w' ↔ Below w.heap.size w w' ∧ ((¬ (m % 2 = 1 ∧ m ≠ 1) ∧ e = .returned (.tuple #[.pointer none, .int .i64 1])) ∨ ((m % 2 = 1 ∧ m ≠ 1) ∧ ∃ g o s v, e = .returned (.tuple #[.pointer (some ⟨g, 0, none⟩), .int .i64 0]) ∧ RgAt w' g m o s v ∧ RgOk m o s v)) := fun _ _ => Iff.rfl
  obtain ⟨RR, hRR⟩ : ∃ R, RetRing m w = R := ⟨_, rfl⟩
  rw [hRR] at hR1 ⊢
  clear hRR
  have hRi := Lib.hid hR1
  clear hR1
  go_enter Try.func24, Try.ntmps24
  rcases Nat.mod_two_eq_zero_or_one m with hev | hod
  · rw [hev] at hand
    have hand2 : bits .and .u64 (m0 : Int) 1 = 0 := hand
    clear hand
    go_wp2_with fail
    exact (hRi.out _ _).2 ⟨hL.out, .inl ⟨by omega, rfl⟩⟩
  · rw [hod] at hand
    have hand2 : bits .and .u64 (m0 : Int) 1 = 1 := hand
    clear hand
    have hr1 := hA.out.row
    have hr2 := hA.out.eq
    have kE0 := fun W => eqlNum (a := m) (b := 1) hm (show 1 < 2 ^ 256 by decide +kernel) W
    by_cases h1 : m = 1
    · rw [decide_eq_true h1] at kE0
      have kE := Lib.hid kE0
      have h1h := Lib.hid h1
      clear kE0 h1
      go_wp2_with (first
        | refine wpList_opW (by go_simp) (fun K hK => wp_bldA rfl (vx := Value.int IntKind.u64 (1 : Int)) rfl (build_one _) (hK _ _ ?_))
        | refine wpList_opW (by go_simp) (fun K hK => wp_eqlA (.inr rfl) (by kernel_rfl) (v := arrK .u64 4 (wd m)) (u := arrK .u64 4 (wd 1)) (by go_simp) (by go_simp) (kE.out _) (hK _ _ ?_)))
      exact (hRi.out _ _).2 ⟨hL.out, .inl ⟨fun h => h.2 h1h.out, rfl⟩⟩
    · rw [decide_eq_false h1] at kE0
      have kE := Lib.hid kE0
      clear kE0
      go_upto_region 4 with (first
        | refine wpList_opW (by go_simp) (fun K hK => wp_bldA rfl (vx := Value.int IntKind.u64 (1 : Int)) rfl (build_one _) (hK _ _ ?_))
        | refine wpList_opW (by go_simp) (fun K hK => wp_eqlA (.inr rfl) (by kernel_rfl) (v := arrK .u64 4 (wd m)) (u := arrK .u64 4 (wd 1)) (by go_simp) (by go_simp) (kE.out _) (hK _ _ ?_)))
      have h1h := Lib.hid h1
      have hodh := Lib.hid hod
      have hx0 : Nwt m0 (dK 0) m0 := nwt_start (by omega)
      clear hr1 hr2 kE h1 hod hand2
      have hmh := Lib.hid hml
      have hmmh := Lib.hid hmm
      have hm0h := Lib.hid hm0
      have hmlt := Lib.hid hm
      clear hml hmm hm0 hpar hm
      generalize w.alloc _ = W0 at *
      go_upto_region 5 with (fail)
      go_loopw [4, 20] (fun xv iv wr => ∃ k x : Nat, iv = .int .i64 k ∧ k ≤ 5 ∧ xv = .int .u64 (x : Nat) ∧ Hid (x < 18446744073709551616) ∧ Hid (Nwt m0 (dK k) x) ∧ wr = W0) (fun _ i _ => 5 - (intOf i).toNat)
      case atStart => exact ⟨0, m0, rfl, by omega, rfl, hmh, Lib.hid hx0, rfl⟩
      case round =>
        clear hx0
        obtain ⟨k, x, rfl, hk, rfl, hxl, hN, rfl⟩ := hrel
        by_cases h5 : k = 5
        · subst h5
          clear hk
          have hinv := neg_inv hxl.out hN.out hmmh.out
          have hneg := neg_wrap hxl.out
          have hm0 : m ≠ 0 := by have := hodh.out; omega
          have hb8 : Hid (∀ W, (Instr.build 50 #[(4, Value.int IntKind.u64 (1 : Int))]).run Try.prog W = .ok (.agg (arrK .u64 8 (wd (2 ^ 256)))) W) := Lib.hid build_w1
          have hq8 := q_wide
          have kM1 := Lib.hid (fun V => quot_Mod (2 ^ 256) m V hq8 hmlt.out hm0)
          obtain ⟨o, ho⟩ : ∃ t, t = 2 ^ 256 % m := ⟨_, rfl⟩
          have hol : o < 2 ^ 256 := by rw [ho]; exact Nat.lt_trans (Nat.mod_lt _ (by omega)) hmlt.out
          rw [← ho] at kM1
          have kM := Lib.hid (fun V => limb_Mul o o V hol hol)
          have hoo : o * o < 2 ^ (64 * 8) := by rw [two_pow 256 256 (64 * 8) rfl]; exact Nat.mul_lt_mul'' hol hol
          have kM2 := Lib.hid (fun V => quot_Mod (o * o) m V hoo hmlt.out hm0)
          obtain ⟨s, hs⟩ : ∃ t, t = o * o % m := ⟨_, rfl⟩
          rw [← hs] at kM2
          obtain ⟨v, hv⟩ : ∃ t, t = negW x := ⟨_, rfl⟩
          rw [← hv] at hneg hinv
          have hOk := Lib.hid (⟨hmlt.out, hodh.out, ho, hs, hinv⟩ : RgOk m o s v)
          obtain ⟨t, ht⟩ : ∃ t, o * o = t := ⟨_, rfl⟩
          rw [ht] at kM kM2
          obtain ⟨Q, hQ⟩ : ∃ t, 2 ^ 256 = t := ⟨_, rfl⟩
          rw [hQ] at hb8 kM1
          clear ht hv hs ho hoo hol hq8 hinv hN hxl hm0 hQ
          unfold wideV numV at kM1 kM2
          unfold wideV numV at kM
          have hco := arrK_cells .u64 4 (wd o)
          have hcs := arrK_cells .u64 4 (wd s)
          have hr1 := hA.out.row
          have hr2 := hA.out.eq
          go_wp2_with (refine wpList_opW (by go_simp) (fun K hK => wp_bldA rfl (vx := Value.int IntKind.u64 (1 : Int)) rfl (hb8.out _) (hK _ _ ?_)))
          refine (kM1.out _).mono ?_
          rintro e w1 ⟨rfl, hb1⟩
          replace hA := Lib.hid (hA.out.step hb1)
          replace hL := Lib.hid (below_step hb1 hL.out (Nat.le_refl _))
          clear hr1 hr2 hb1 kM1 hb8 cw
          dsimp only
          go_upto_region 9 with (fail)
          have hX := Lib.hid (show At (w1.alloc (Obj.cells (arrK .u64 4 (wd o)) 27)) w1.heap.size .u64 4 (wd o) from At.new _ rfl)
          replace hA := Lib.hid (hA.out.old (Obj.cells (arrK .u64 4 (wd o)) 27))
          replace hL := Lib.hid (below_step (below_alloc w1 (Obj.cells (arrK .u64 4 (wd o)) 27)) hL.out (Nat.le_refl _))
          generalize w1.alloc _ = W2 at *
          generalize w1.heap.size = g5 at *
          generalize ha0 : Act.mk _ _ = a0
          have e1 : a0.tmps[1]?.getD undef = .pointer (some ⟨w.heap.size, 0, none⟩) := by rw [← ha0]; rfl
          have e5 : a0.tmps[5]?.getD undef = .pointer (some ⟨g5, 0, none⟩) := by rw [← ha0]; rfl
          have hz0 : a0.tmps.size = 51 := by rw [← ha0]; rfl
          have hha0 := Lib.hid ha0
          clear ha0
          refine wp_region_fresh ⟨fun jx_ => match jx_ with | 0 => some (.agg (arrK .u64 4 (wd o))) | 1 => some (.agg (arrK .u64 4 (wd o))) | 2 => some (.agg (arrK .u64 8 (wd t))) | 3 => some (.agg (arrK .u64 4 (wd m))) | 4 => some (.tuple #[.agg (arrK .u64 4 (wd s)), .int .i64 0]) | 5 => some (.tuple #[.agg (arrK .u64 4 (wd s)), .int .i64 0]) | 6 => some (.agg (arrK .u64 4 (wd s))) | 7 => some (.int .i64 0) | 10 => some (.int .i64 0) | _ => none, fun jx_ => match jx_ with | 8 => some 4 | _ => none, fun jx_ => match jx_ with | 9 => some 8 | _ => none, fun jx_ => match jx_ with | 9 => arrK .u64 4 (wd s) | _ => #[]⟩ (by kernel_rfl) (by kernel_rfl) (by kernel_rfl) (slotsOk_of hz0 (by kernel_rfl)) rfl ⟨?_, ?_, ?_, ?_, ?_, ?_, ?_, ?_, ?_, ?_, ?_, trivial⟩ ?_
          · refine fstep_val rfl rfl (calm_step rfl fun aa ω κ hb hu hc hK => ?_)
            have h5 : aa.tmps[5]?.getD undef = .pointer (some ⟨g5, 0, none⟩) := (hu 5 rfl).trans e5
            have hk := Lib.hid (fun w1 (h : Below ω.heap.size ω w1) => hK (.agg (arrK .u64 4 (wd o))) w1 rfl h)
            clear hK hu hc
            have hr1 := (hX.out.step hb).row
            have hr2 := (hX.out.step hb).eq
            go_simp
            exact hk.out _ (Below.refl _ _)
          · refine fstep_val rfl rfl (calm_step rfl fun aa ω κ hb hu hc hK => ?_)
            have h5 : aa.tmps[5]?.getD undef = .pointer (some ⟨g5, 0, none⟩) := (hu 5 rfl).trans e5
            have hk := Lib.hid (fun w1 (h : Below ω.heap.size ω w1) => hK (.agg (arrK .u64 4 (wd o))) w1 rfl h)
            clear hK hu hc
            have hr1 := (hX.out.step hb).row
            have hr2 := (hX.out.step hb).eq
            go_simp
            exact hk.out _ (Below.refl _ _)
          · refine fstep_val rfl rfl (calm_step rfl fun aa ω κ hb hu hc hK => ?_)
            have h37 : aa.tmps[37]?.getD undef = .agg (arrK .u64 4 (wd o)) := hc 0 37 rfl rfl
            have h38 : aa.tmps[38]?.getD undef = .agg (arrK .u64 4 (wd o)) := hc 1 38 rfl rfl
            have hk := Lib.hid (fun w1 (h : Below ω.heap.size ω w1) => hK (.agg (arrK .u64 8 (wd t))) w1 rfl h)
            clear hK hu hc
            go_simp
            go_at_call 84
            refine (kM.out _).mono ?_
            rintro e w1 ⟨rfl, hb1⟩
            exact hk.out _ hb1
          · refine fstep_val rfl rfl (calm_step rfl fun aa ω κ hb hu hc hK => ?_)
            have h1 : aa.tmps[1]?.getD undef = .pointer (some ⟨w.heap.size, 0, none⟩) := (hu 1 rfl).trans e1
            have hk := Lib.hid (fun w1 (h : Below ω.heap.size ω w1) => hK (.agg (arrK .u64 4 (wd m))) w1 rfl h)
            clear hK hu hc
            have hr1 := (hA.out.step hb).row
            have hr2 := (hA.out.step hb).eq
            go_simp
            exact hk.out _ (Below.refl _ _)
          · refine fstep_val rfl rfl (calm_step rfl fun aa ω κ hb hu hc hK => ?_)
            have h39 : aa.tmps[39]?.getD undef = .agg (arrK .u64 8 (wd t)) := hc 2 39 rfl rfl
            have h40 : aa.tmps[40]?.getD undef = .agg (arrK .u64 4 (wd m)) := hc 3 40 rfl rfl
            have hk := Lib.hid (fun w1 (h : Below ω.heap.size ω w1) => hK (.tuple #[.agg (arrK .u64 4 (wd s)), .int .i64 0]) w1 rfl h)
            clear hK hu hc
            go_simp
            go_at_call 83
            refine (kM2.out _).mono ?_
            rintro e w1 ⟨rfl, hb1⟩
            exact hk.out _ hb1
          · refine fstep_val rfl rfl (calm_step rfl fun aa ω κ hb hu hc hK => ?_)
            have h41 : aa.tmps[41]?.getD undef = .tuple #[.agg (arrK .u64 4 (wd s)), .int .i64 0] := hc 4 41 rfl rfl
            have hk := Lib.hid (fun w1 (h : Below ω.heap.size ω w1) => hK (.tuple #[.agg (arrK .u64 4 (wd s)), .int .i64 0]) w1 rfl h)
            clear hK hu hc
            go_simp
            exact hk.out _ (Below.refl _ _)
          · refine fstep_val rfl rfl (calm_step rfl fun aa ω κ hb hu hc hK => ?_)
            have h36 : aa.tmps[36]?.getD undef = .tuple #[.agg (arrK .u64 4 (wd s)), .int .i64 0] := hc 5 36 rfl rfl
            have hk := Lib.hid (fun w1 (h : Below ω.heap.size ω w1) => hK (.agg (arrK .u64 4 (wd s))) w1 rfl h)
            clear hK hu hc
            go_simp
            exact hk.out _ (Below.refl _ _)
          · refine fstep_val rfl rfl (calm_step rfl fun aa ω κ hb hu hc hK => ?_)
            have h36 : aa.tmps[36]?.getD undef = .tuple #[.agg (arrK .u64 4 (wd s)), .int .i64 0] := hc 5 36 rfl rfl
            have hk := Lib.hid (fun w1 (h : Below ω.heap.size ω w1) => hK (.int .i64 0) w1 rfl h)
            clear hK hu hc
            go_simp
            exact hk.out _ (Below.refl _ _)
          · refine fstep_al (n := 4) rfl rfl fun aa ω κ hK => ?_
            have hk := Lib.hid hK
            clear hK
            go_simp
            exact hk.out _ _ hc0
          · refine fstep_st (j := 8) (n := 4) (d := 7) rfl rfl rfl rfl rfl hcs.1 rfl rfl fun aa ω κ g hb hu hc hp hr hK => ?_
            have h42 : aa.tmps[42]?.getD undef = .agg (arrK .u64 4 (wd s)) := hc 6 42 rfl rfl
            have hk := Lib.hid hK
            clear hK hu hc
            have hcc := hcs
            go_simp
            exact hk.out undef
          · refine fstep_val rfl rfl (calm_step rfl fun aa ω κ hb hu hc hK => ?_)
            have h43 : aa.tmps[43]?.getD undef = .int .i64 0 := hc 7 43 rfl rfl
            have hk := Lib.hid (fun w1 (h : Below ω.heap.size ω w1) => hK (.int .i64 0) w1 rfl h)
            clear hK hu hc
            go_simp
            exact hk.out _ (Below.refl _ _)
          · intro a1 w1 G I
            have ha0 := hha0.out
            subst ha0
            have he := act_patch (n := 51) [false, false, false, false, false, false, false, true, true, false, false, false, false, false, false, false, false, false, false, false, false, false, false, false, false, false, false, false, false, false, false, false, false, false, false, false, true, true, true, true, true, true, true, true, false, false, false, false, false, false, false] rfl (by kernel_rfl) I.un I.sz I.df
            simp only [patch, cond_true, cond_false, Nat.reduceAdd] at he
            have hal7 := I.al 8 7 4 rfl rfl rfl
            replace hX := Lib.hid (hX.out.step I.bel)
            replace hA := Lib.hid (hA.out.step I.bel)
            replace hL := Lib.hid (below_step I.bel hL.out (Nat.le_refl _))
            have hY := Lib.hid (show At w1 (G 8) .u64 4 (wd s) from ⟨(I.blk 8 4 rfl rfl).2, (I.row 9 8 rfl rfl).2.2⟩)
            clear kM kM2
            clear I hz0 hha0 e1 e5
            rw [he]
            clear he
            rw [hal7]
            clear hal7
            generalize a1.tmps[8]?.getD undef = x8 at *
            generalize a1.tmps[36]?.getD undef = x36 at *
            generalize a1.tmps[37]?.getD undef = x37 at *
            generalize a1.tmps[38]?.getD undef = x38 at *
            generalize a1.tmps[39]?.getD undef = x39 at *
            generalize a1.tmps[40]?.getD undef = x40 at *
            generalize a1.tmps[41]?.getD undef = x41 at *
            generalize a1.tmps[42]?.getD undef = x42 at *
            generalize a1.tmps[43]?.getD undef = x43 at *
            obtain ⟨g7, hg⟩ : ∃ g, G 8 = g := ⟨_, rfl⟩
            rw [hg] at hY ⊢
            clear hg
            generalize w1 = W3 at *
            have hr1 := hA.out.row
            have hr2 := hA.out.eq
            have hr3 := hX.out.row
            have hr4 := hX.out.eq
            have hr5 := hY.out.row
            have hr6 := hY.out.eq
            have hbr := Lib.hid (fun W => build_ring (wd m) (wd o) (wd s) v W)
            obtain ⟨RF, hRF⟩ : ∃ f, (fun i => if i < 4 then wd m i else if i < 8 then wd o (i - 4) else if i < 12 then wd s (i - 8) else v) = f := ⟨_, rfl⟩
            have hrg := Lib.hid (show RF = rgF m o s v from hRF.symm)
            rw [hRF] at hbr
            clear hRF
            go_wp2_with (refine wpList_opW (by go_simp) (fun K hK => wp_bldD rfl (v0 := .agg (arrK .u64 4 (wd m))) (v1 := .agg (arrK .u64 4 (wd o))) (v2 := .agg (arrK .u64 4 (wd s))) (v3 := .int .u64 (v : Int)) rfl rfl rfl rfl (hbr.out _) (hK _ _ ?_)))
            refine (hRi.out _ _).2 ⟨below_step (below_alloc W3 _) hL.out (Nat.le_refl _), .inr ⟨⟨hodh.out, h1h.out⟩, W3.heap.size, o, s, v, rfl, ?_, hOk.out⟩⟩
            rw [hrg.out]
            exact At.new _ rfl
        · have hk5 : k < 5 := by omega
          have hki : (k : Int) < 5 := by omega
          obtain ⟨y, z, hy, hz, hw⟩ := nwt_wrap m0 x
          have hN2 := Lib.hid (hN.out.up hk5)
          have hxl2 := Lib.hid (nwt_lt m0 x)
          have hwk : IntKind.i64.wrap ((k : Int) + 1) = (k : Int) + 1 := by rw [IntKind.wrap_i64]; omega
          obtain ⟨x2, hx2⟩ : ∃ t, nwt m0 x = t := ⟨_, rfl⟩
          rw [hx2] at hN2 hxl2 hw
          clear hx2 hN hxl
          go_wp2_with fail
          refine ⟨⟨k + 1, x2, by go_num, by omega, rfl, hxl2, hN2, trivial⟩, ?_⟩
          simp [intOf]; omega
end Go.Proofs.Ytgdiokklfihfoaa
namespace Go.Proofs.Ytgdiokklfihfoaa
open Go.ChangeShapes Go.WideShapes Go.ChangeAt Go.RowKit
set_option maxHeartbeats 2000000
set_option maxRecDepth 100000
attribute [local go_sem ↓] load_fld load_num store_num execl_num execs_num load_wide store_wide execl_wide execs_wide
attribute [local go_sem] isHead_mk blkOf_mk isAgg_mk cellsV_mk row_drew rowAt_drew row_new_cells row_old rowAt_new rowAt_old setRow_new zeroNum zeroWide
theorem add_sum {x y m : Nat} (hx : x < m) (hy : y < m) (hm : m < 2 ^ 256) : (overN x y = 1 → subN (addN x y) m = (x + y) % m) ∧ (overN x y = 0 → lessN (addN x y) m = 0 → subN (addN x y) m = (x + y) % m) ∧ (overN x y = 0 → lessN (addN x y) m = 1 → addN x y = (x + y) % m) := by
  unfold overN subN lessN addN
  generalize (2 : Nat) ^ 256 = P at *
  have h2 : (x + y) % m = if x + y < m then x + y else x + y - m := by
    split
    · rename_i h; exact Nat.mod_eq_of_lt h
    · rename_i h
      rw [Nat.mod_eq_sub_mod (by omega)]
      exact Nat.mod_eq_of_lt (by omega)
  rw [h2]
  by_cases hp : x + y < P
  · rw [if_pos hp, Nat.mod_eq_of_lt hp]
    refine ⟨fun h => (by cases h), fun _ h => ?_, fun _ h => ?_⟩
    · by_cases hl : x + y < m
      · rw [if_pos hl] at h; cases h
      · rw [if_neg hl, show x + y + P - m = x + y - m + P by omega, Nat.add_mod_right]
        exact Nat.mod_eq_of_lt (by omega)
    · by_cases hl : x + y < m
      · rw [if_pos hl]
      · rw [if_neg hl] at h; cases h
  · rw [if_neg hp]
    have h3 : (x + y) % P = x + y - P := by
      rw [Nat.mod_eq_sub_mod (by omega)]
      exact Nat.mod_eq_of_lt (by omega)
    refine ⟨fun _ => ?_, fun h => (by cases h), fun h => (by cases h)⟩
    rw [h3, if_neg (by omega), show x + y - P + P - m = x + y - m by omega]
    exact Nat.mod_eq_of_lt (by omega)
theorem ring_Add (g m o s v xa xb : Nat) (w : World) (h : RgAt w g m o s v) (ha : xa < 2 ^ 256) (hb : xb < 2 ^ 256) (hm : m < 2 ^ 256) (hm0 : m ≠ 0) : Calls Try.prog 30 #[.pointer (some ⟨g, 0, none⟩), numV xa, numV xb] w fun e w' => e = .returned (numV ((xa + xb) % m)) ∧ Below w.heap.size w w' := by
  have hpm : 0 < m := Nat.pos_of_ne_zero hm0
  have hx := Nat.mod_lt xa hpm
  have hy := Nat.mod_lt xb hpm
  have hgl := Lib.hid h.lt
  have kA := Lib.hid (fun V (hV : RgAt V g m o s v) => ring_low g m o s v xa V hV ha hm hm0)
  have kB := Lib.hid (fun V (hV : RgAt V g m o s v) => ring_low g m o s v xb V hV hb hm hm0)
  have hsum := add_sum hx hy hm
  rw [← Nat.add_mod] at hsum
  have kS := Lib.hid (fun V => limb_Add (xa % m) (xb % m) V (Nat.lt_trans hx hm) (Nat.lt_trans hy hm))
  have hal : addN (xa % m) (xb % m) < 2 ^ 256 := Nat.mod_lt _ (Nat.pow_pos (by omega))
  have kD := Lib.hid (fun V => limb_Sub (addN (xa % m) (xb % m)) m V hal hm)
  have hov : overN (xa % m) (xb % m) = 0 ∨ overN (xa % m) (xb % m) = 1 := by unfold overN; split <;> simp
  have hle : lessN (addN (xa % m) (xb % m)) m = 0 ∨ lessN (addN (xa % m) (xb % m)) m = 1 := by unfold lessN; split <;> simp
  clear hx hy hpm hm0 hm ha hb hal
  generalize addN (xa % m) (xb % m) = sm at *
  generalize overN (xa % m) (xb % m) = ov at *
  generalize subN sm m = df at *
  generalize lessN sm m = le at *
  generalize xa % m = xl at *
  generalize xb % m = yl at *
  obtain ⟨r, hr⟩ : ∃ r, (xa + xb) % m = r := ⟨_, rfl⟩
  rw [hr] at hsum ⊢
  have hSm := Lib.hid hsum
  clear hr hsum
  unfold numV at kA kB kS kD ⊢
  have hc0 := arrK_cells .u64 4 (wd 0)
  have hcsm := arrK_cells .u64 4 (wd sm)
  have hcdf := arrK_cells .u64 4 (wd df)
  have hcr := arrK_cells .u64 4 (wd r)
  have hG0 : RgAt (((w.alloc (Obj.cells (arrK .u64 4 (wd xa)) 27)).alloc (Obj.cells (arrK .u64 4 (wd xb)) 27)).alloc (Obj.cells (arrK .u64 4 (wd 0)) 27)) g m o s v := ((h.old _).old _).old _
  have hG := Lib.hid hG0
  clear h hG0 hgl
  have hL0 : Below w.heap.size w (((w.alloc (Obj.cells (arrK .u64 4 (wd xa)) 27)).alloc (Obj.cells (arrK .u64 4 (wd xb)) 27)).alloc (Obj.cells (arrK .u64 4 (wd 0)) 27)) := by go_grown
  have hA0 : At (((w.alloc (Obj.cells (arrK .u64 4 (wd xa)) 27)).alloc (Obj.cells (arrK .u64 4 (wd xb)) 27)).alloc (Obj.cells (arrK .u64 4 (wd 0)) 27)) w.heap.size .u64 4 (wd xa) := ((At.new _ rfl).old _).old _
  have hB0 : At (((w.alloc (Obj.cells (arrK .u64 4 (wd xa)) 27)).alloc (Obj.cells (arrK .u64 4 (wd xb)) 27)).alloc (Obj.cells (arrK .u64 4 (wd 0)) 27)) (w.heap.size + 1) .u64 4 (wd xb) := (At.new _ (by simp)).old _
  have hR0 : Row (((w.alloc (Obj.cells (arrK .u64 4 (wd xa)) 27)).alloc (Obj.cells (arrK .u64 4 (wd xb)) 27)).alloc (Obj.cells (arrK .u64 4 (wd 0)) 27)) (w.heap.size + 1 + 1) 4 := (At.new (k := .u64) (f := wd 0) _ (by simp)).row
  have hL := Lib.hid hL0
  have hA := Lib.hid hA0
  have hB := Lib.hid hB0
  have hR := Lib.hid hR0
  clear hL0 hA0 hB0 hR0
  go_enter Try.func30, Try.ntmps30
  go_upto_region 1 with (fail)
  generalize ((w.alloc _).alloc _).alloc _ = W0 at *
  generalize ha0 : Act.mk _ _ = a0
  have e0 : a0.tmps[0]?.getD undef = .pointer (some ⟨g, 0, none⟩) := by rw [← ha0]; rfl
  have e4 : a0.tmps[4]?.getD undef = .pointer (some ⟨w.heap.size, 0, none⟩) := by rw [← ha0]; rfl
  have e5 : a0.tmps[5]?.getD undef = .pointer (some ⟨w.heap.size + 1, 0, none⟩) := by rw [← ha0]; rfl
  have hz0 : a0.tmps.size = 38 := by rw [← ha0]; rfl
  have hha0 := Lib.hid ha0
  clear ha0
  refine wp_region_fresh ⟨fun jx_ => match jx_ with | 0 => some (.pointer (some ⟨g, 0, none⟩)) | 1 => some (.agg (arrK .u64 4 (wd xa))) | 2 => some (.agg (arrK .u64 4 (wd xl))) | 3 => some (.pointer (some ⟨g, 0, none⟩)) | 4 => some (.agg (arrK .u64 4 (wd xb))) | 5 => some (.agg (arrK .u64 4 (wd yl))) | 6 => some (.tuple #[.agg (arrK .u64 4 (wd sm)), .int .u64 (ov : Nat)]) | 7 => some (.tuple #[.agg (arrK .u64 4 (wd sm)), .int .u64 (ov : Nat)]) | 8 => some (.agg (arrK .u64 4 (wd sm))) | 9 => some (.int .u64 (ov : Nat)) | 12 => some (.int .u64 (ov : Nat)) | _ => none, fun jx_ => match jx_ with | 10 => some 4 | _ => none, fun jx_ => match jx_ with | 11 => some 10 | _ => none, fun jx_ => match jx_ with | 11 => arrK .u64 4 (wd sm) | _ => #[]⟩ (by kernel_rfl) (by kernel_rfl) (by kernel_rfl) (slotsOk_of hz0 (by kernel_rfl)) rfl ⟨?_, ?_, ?_, ?_, ?_, ?_, ?_, ?_, ?_, ?_, ?_, ?_, ?_, trivial⟩ ?_
  · refine fstep_val rfl rfl (calm_step rfl fun aa ω κ hb hu hc hK => ?_)
    have h0 : aa.tmps[0]?.getD undef = .pointer (some ⟨g, 0, none⟩) := (hu 0 rfl).trans e0
    have hk := Lib.hid (fun w1 (h : Below ω.heap.size ω w1) => hK (.pointer (some ⟨g, 0, none⟩)) w1 rfl h)
    clear hK hu hc
    go_simp
    exact hk.out _ (Below.refl _ _)
  · refine fstep_val rfl rfl (calm_step rfl fun aa ω κ hb hu hc hK => ?_)
    have h4 : aa.tmps[4]?.getD undef = .pointer (some ⟨w.heap.size, 0, none⟩) := (hu 4 rfl).trans e4
    have hk := Lib.hid (fun w1 (h : Below ω.heap.size ω w1) => hK (.agg (arrK .u64 4 (wd xa))) w1 rfl h)
    clear hK hu hc
    have hr1 := (hA.out.step hb).row
    have hr2 := (hA.out.step hb).eq
    go_simp
    exact hk.out _ (Below.refl _ _)
  · refine fstep_val rfl rfl (calm_step rfl fun aa ω κ hb hu hc hK => ?_)
    have h12 : aa.tmps[12]?.getD undef = .pointer (some ⟨g, 0, none⟩) := hc 0 12 rfl rfl
    have h13 : aa.tmps[13]?.getD undef = .agg (arrK .u64 4 (wd xa)) := hc 1 13 rfl rfl
    have hk := Lib.hid (fun w1 (h : Below ω.heap.size ω w1) => hK (.agg (arrK .u64 4 (wd xl))) w1 rfl h)
    clear hK hu hc
    go_simp
    go_at_call 88
    refine (kA.out _ (hG.out.step hb)).mono ?_
    rintro e w1 ⟨rfl, hb1⟩
    exact hk.out _ hb1
  · refine fstep_val rfl rfl (calm_step rfl fun aa ω κ hb hu hc hK => ?_)
    have h0 : aa.tmps[0]?.getD undef = .pointer (some ⟨g, 0, none⟩) := (hu 0 rfl).trans e0
    have hk := Lib.hid (fun w1 (h : Below ω.heap.size ω w1) => hK (.pointer (some ⟨g, 0, none⟩)) w1 rfl h)
    clear hK hu hc
    go_simp
    exact hk.out _ (Below.refl _ _)
  · refine fstep_val rfl rfl (calm_step rfl fun aa ω κ hb hu hc hK => ?_)
    have h5 : aa.tmps[5]?.getD undef = .pointer (some ⟨w.heap.size + 1, 0, none⟩) := (hu 5 rfl).trans e5
    have hk := Lib.hid (fun w1 (h : Below ω.heap.size ω w1) => hK (.agg (arrK .u64 4 (wd xb))) w1 rfl h)
    clear hK hu hc
    have hr1 := (hB.out.step hb).row
    have hr2 := (hB.out.step hb).eq
    go_simp
    exact hk.out _ (Below.refl _ _)
  · refine fstep_val rfl rfl (calm_step rfl fun aa ω κ hb hu hc hK => ?_)
    have h15 : aa.tmps[15]?.getD undef = .pointer (some ⟨g, 0, none⟩) := hc 3 15 rfl rfl
    have h16 : aa.tmps[16]?.getD undef = .agg (arrK .u64 4 (wd xb)) := hc 4 16 rfl rfl
    have hk := Lib.hid (fun w1 (h : Below ω.heap.size ω w1) => hK (.agg (arrK .u64 4 (wd yl))) w1 rfl h)
    clear hK hu hc
    go_simp
    go_at_call 88
    refine (kB.out _ (hG.out.step hb)).mono ?_
    rintro e w1 ⟨rfl, hb1⟩
    exact hk.out _ hb1
  · refine fstep_val rfl rfl (calm_step rfl fun aa ω κ hb hu hc hK => ?_)
    have h14 : aa.tmps[14]?.getD undef = .agg (arrK .u64 4 (wd xl)) := hc 2 14 rfl rfl
    have h17 : aa.tmps[17]?.getD undef = .agg (arrK .u64 4 (wd yl)) := hc 5 17 rfl rfl
    have hk := Lib.hid (fun w1 (h : Below ω.heap.size ω w1) => hK (.tuple #[.agg (arrK .u64 4 (wd sm)), .int .u64 (ov : Nat)]) w1 rfl h)
    clear hK hu hc
    go_simp
    go_at_call 87
    refine (kS.out _).mono ?_
    rintro e w1 ⟨rfl, hb1⟩
    exact hk.out _ hb1
  · refine fstep_val rfl rfl (calm_step rfl fun aa ω κ hb hu hc hK => ?_)
    have h18 : aa.tmps[18]?.getD undef = .tuple #[.agg (arrK .u64 4 (wd sm)), .int .u64 (ov : Nat)] := hc 6 18 rfl rfl
    have hk := Lib.hid (fun w1 (h : Below ω.heap.size ω w1) => hK (.tuple #[.agg (arrK .u64 4 (wd sm)), .int .u64 (ov : Nat)]) w1 rfl h)
    clear hK hu hc
    go_simp
    exact hk.out _ (Below.refl _ _)
  · refine fstep_val rfl rfl (calm_step rfl fun aa ω κ hb hu hc hK => ?_)
    have h11 : aa.tmps[11]?.getD undef = .tuple #[.agg (arrK .u64 4 (wd sm)), .int .u64 (ov : Nat)] := hc 7 11 rfl rfl
    have hk := Lib.hid (fun w1 (h : Below ω.heap.size ω w1) => hK (.agg (arrK .u64 4 (wd sm))) w1 rfl h)
    clear hK hu hc
    go_simp
    exact hk.out _ (Below.refl _ _)
  · refine fstep_val rfl rfl (calm_step rfl fun aa ω κ hb hu hc hK => ?_)
    have h11 : aa.tmps[11]?.getD undef = .tuple #[.agg (arrK .u64 4 (wd sm)), .int .u64 (ov : Nat)] := hc 7 11 rfl rfl
    have hk := Lib.hid (fun w1 (h : Below ω.heap.size ω w1) => hK (.int .u64 (ov : Nat)) w1 rfl h)
    clear hK hu hc
    go_simp
    exact hk.out _ (Below.refl _ _)
  · refine fstep_al (n := 4) rfl rfl fun aa ω κ hK => ?_
    have hk := Lib.hid hK
    clear hK
    go_simp
    exact hk.out _ _ hc0
  · refine fstep_st (j := 10) (n := 4) (d := 7) rfl rfl rfl rfl rfl hcsm.1 rfl rfl fun aa ω κ g hb hu hc hp hr hK => ?_
    have h19 : aa.tmps[19]?.getD undef = .agg (arrK .u64 4 (wd sm)) := hc 8 19 rfl rfl
    have hk := Lib.hid hK
    clear hK hu hc
    have hcc := hcsm
    go_simp
    exact hk.out undef
  · refine fstep_val rfl rfl (calm_step rfl fun aa ω κ hb hu hc hK => ?_)
    have h20 : aa.tmps[20]?.getD undef = .int .u64 (ov : Nat) := hc 9 20 rfl rfl
    have hk := Lib.hid (fun w1 (h : Below ω.heap.size ω w1) => hK (.int .u64 (ov : Nat)) w1 rfl h)
    clear hK hu hc
    go_simp
    exact hk.out _ (Below.refl _ _)
  · intro a1 w1 G I
    have ha0 := hha0.out
    subst ha0
    have he := act_patch (n := 38) [false, false, false, false, false, false, false, true, true, false, false, true, true, true, true, true, true, true, true, true, true, false, false, false, false, false, false, false, false, false, false, false, false, false, false, false, false, false] rfl (by kernel_rfl) I.un I.sz I.df
    simp only [patch, cond_true, cond_false, Nat.reduceAdd] at he
    have hal7 := I.al 10 7 4 rfl rfl rfl
    have hal8 : a1.tmps[8]?.getD undef = .int .u64 (ov : Nat) := I.val 12 8 rfl rfl
    replace hR := Lib.hid (row_below hR.out I.bel hR.out.lt)
    replace hG := Lib.hid (hG.out.step I.bel)
    replace hL := Lib.hid (below_step I.bel hL.out (Nat.le_refl _))
    have hX7 := Lib.hid (show At w1 (G 10) .u64 4 (wd sm) from ⟨(I.blk 10 4 rfl rfl).2, (I.row 11 10 rfl rfl).2.2⟩)
    clear kA kB kS hA hB
    clear I hz0 hha0 e0 e4 e5
    rw [he]
    clear he
    rw [hal7]
    rw [hal8]
    clear hal7 hal8
    generalize a1.tmps[11]?.getD undef = x11 at *
    generalize a1.tmps[12]?.getD undef = x12 at *
    generalize a1.tmps[13]?.getD undef = x13 at *
    generalize a1.tmps[14]?.getD undef = x14 at *
    generalize a1.tmps[15]?.getD undef = x15 at *
    generalize a1.tmps[16]?.getD undef = x16 at *
    generalize a1.tmps[17]?.getD undef = x17 at *
    generalize a1.tmps[18]?.getD undef = x18 at *
    generalize a1.tmps[19]?.getD undef = x19 at *
    generalize a1.tmps[20]?.getD undef = x20 at *
    obtain ⟨g7, hg⟩ : ∃ g, G 10 = g := ⟨_, rfl⟩
    rw [hg] at hX7 ⊢
    clear hg
    generalize w1 = W1 at *
    go_upto_region 2 with (fail)
    generalize ha0 : Act.mk _ _ = a0
    have e0 : a0.tmps[0]?.getD undef = .pointer (some ⟨g, 0, none⟩) := by rw [← ha0]; rfl
    have e7 : a0.tmps[7]?.getD undef = .pointer (some ⟨g7, 0, none⟩) := by rw [← ha0]; rfl
    have hz0 : a0.tmps.size = 38 := by rw [← ha0]; rfl
    have hha0 := Lib.hid ha0
    clear ha0
    refine wp_region_fresh ⟨fun jx_ => match jx_ with | 0 => some (.agg (arrK .u64 4 (wd sm))) | 1 => some (.pointer (some ⟨g, 0, none⟩)) | 2 => some (.pointer (some ⟨g, 0, none⟩)) | 3 => some (.pointer (some ⟨g, 0, none⟩)) | 4 => some (.agg (arrK .u64 4 (wd m))) | 5 => some (.tuple #[.agg (arrK .u64 4 (wd df)), .int .u64 (le : Nat)]) | 6 => some (.tuple #[.agg (arrK .u64 4 (wd df)), .int .u64 (le : Nat)]) | 7 => some (.agg (arrK .u64 4 (wd df))) | 8 => some (.int .u64 (le : Nat)) | 11 => some (.int .u64 (le : Nat)) | _ => none, fun jx_ => match jx_ with | 9 => some 4 | _ => none, fun jx_ => match jx_ with | 10 => some 9 | _ => none, fun jx_ => match jx_ with | 10 => arrK .u64 4 (wd df) | _ => #[]⟩ (by kernel_rfl) (by kernel_rfl) (by kernel_rfl) (slotsOk_of hz0 (by kernel_rfl)) rfl ⟨?_, ?_, ?_, ?_, ?_, ?_, ?_, ?_, ?_, ?_, ?_, ?_, trivial⟩ ?_
    · refine fstep_val rfl rfl (calm_step rfl fun aa ω κ hb hu hc hK => ?_)
      have h7 : aa.tmps[7]?.getD undef = .pointer (some ⟨g7, 0, none⟩) := (hu 7 rfl).trans e7
      have hk := Lib.hid (fun w1 (h : Below ω.heap.size ω w1) => hK (.agg (arrK .u64 4 (wd sm))) w1 rfl h)
      clear hK hu hc
      have hr1 := (hX7.out.step hb).row
      have hr2 := (hX7.out.step hb).eq
      go_simp
      exact hk.out _ (Below.refl _ _)
    · refine fstep_val rfl rfl (calm_step rfl fun aa ω κ hb hu hc hK => ?_)
      have h0 : aa.tmps[0]?.getD undef = .pointer (some ⟨g, 0, none⟩) := (hu 0 rfl).trans e0
      have hk := Lib.hid (fun w1 (h : Below ω.heap.size ω w1) => hK (.pointer (some ⟨g, 0, none⟩)) w1 rfl h)
      clear hK hu hc
      go_simp
      exact hk.out _ (Below.refl _ _)
    · refine fstep_val rfl rfl (calm_step rfl fun aa ω κ hb hu hc hK => ?_)
      have h23 : aa.tmps[23]?.getD undef = .pointer (some ⟨g, 0, none⟩) := hc 1 23 rfl rfl
      have hk := Lib.hid (fun w1 (h : Below ω.heap.size ω w1) => hK (.pointer (some ⟨g, 0, none⟩)) w1 rfl h)
      clear hK hu hc
      go_simp
      exact hk.out _ (Below.refl _ _)
    · refine fstep_val rfl rfl (calm_step rfl fun aa ω κ hb hu hc hK => ?_)
      have h24 : aa.tmps[24]?.getD undef = .pointer (some ⟨g, 0, none⟩) := hc 2 24 rfl rfl
      have hk := Lib.hid (fun w1 (h : Below ω.heap.size ω w1) => hK (.pointer (some ⟨g, 0, none⟩)) w1 rfl h)
      clear hK hu hc
      go_simp
      exact hk.out _ (Below.refl _ _)
    · refine fstep_val rfl rfl (calm_step rfl fun aa ω κ hb hu hc hK => ?_)
      have h25 : aa.tmps[25]?.getD undef = .pointer (some ⟨g, 0, none⟩) := hc 3 25 rfl rfl
      have hk := Lib.hid (fun w1 (h : Below ω.heap.size ω w1) => hK (.agg (arrK .u64 4 (wd m))) w1 rfl h)
      clear hK hu hc
      have hl := rg_0 (hG.out.step hb)
      have hl1 := hl.1
      have hl2 := hl.2
      go_simp
      exact hk.out _ (Below.refl _ _)
    · refine fstep_val rfl rfl (calm_step rfl fun aa ω κ hb hu hc hK => ?_)
      have h22 : aa.tmps[22]?.getD undef = .agg (arrK .u64 4 (wd sm)) := hc 0 22 rfl rfl
      have h26 : aa.tmps[26]?.getD undef = .agg (arrK .u64 4 (wd m)) := hc 4 26 rfl rfl
      have hk := Lib.hid (fun w1 (h : Below ω.heap.size ω w1) => hK (.tuple #[.agg (arrK .u64 4 (wd df)), .int .u64 (le : Nat)]) w1 rfl h)
      clear hK hu hc
      go_simp
      go_at_call 89
      refine (kD.out _).mono ?_
      rintro e w1 ⟨rfl, hb1⟩
      exact hk.out _ hb1
    · refine fstep_val rfl rfl (calm_step rfl fun aa ω κ hb hu hc hK => ?_)
      have h27 : aa.tmps[27]?.getD undef = .tuple #[.agg (arrK .u64 4 (wd df)), .int .u64 (le : Nat)] := hc 5 27 rfl rfl
      have hk := Lib.hid (fun w1 (h : Below ω.heap.size ω w1) => hK (.tuple #[.agg (arrK .u64 4 (wd df)), .int .u64 (le : Nat)]) w1 rfl h)
      clear hK hu hc
      go_simp
      exact hk.out _ (Below.refl _ _)
    · refine fstep_val rfl rfl (calm_step rfl fun aa ω κ hb hu hc hK => ?_)
      have h21 : aa.tmps[21]?.getD undef = .tuple #[.agg (arrK .u64 4 (wd df)), .int .u64 (le : Nat)] := hc 6 21 rfl rfl
      have hk := Lib.hid (fun w1 (h : Below ω.heap.size ω w1) => hK (.agg (arrK .u64 4 (wd df))) w1 rfl h)
      clear hK hu hc
      go_simp
      exact hk.out _ (Below.refl _ _)
    · refine fstep_val rfl rfl (calm_step rfl fun aa ω κ hb hu hc hK => ?_)
      have h21 : aa.tmps[21]?.getD undef = .tuple #[.agg (arrK .u64 4 (wd df)), .int .u64 (le : Nat)] := hc 6 21 rfl rfl
      have hk := Lib.hid (fun w1 (h : Below ω.heap.size ω w1) => hK (.int .u64 (le : Nat)) w1 rfl h)
      clear hK hu hc
      go_simp
      exact hk.out _ (Below.refl _ _)
    · refine fstep_al (n := 4) rfl rfl fun aa ω κ hK => ?_
      have hk := Lib.hid hK
      clear hK
      go_simp
      exact hk.out _ _ hc0
    · refine fstep_st (j := 9) (n := 4) (d := 9) rfl rfl rfl rfl rfl hcdf.1 rfl rfl fun aa ω κ g hb hu hc hp hr hK => ?_
      have h28 : aa.tmps[28]?.getD undef = .agg (arrK .u64 4 (wd df)) := hc 7 28 rfl rfl
      have hk := Lib.hid hK
      clear hK hu hc
      have hcc := hcdf
      go_simp
      exact hk.out undef
    · refine fstep_val rfl rfl (calm_step rfl fun aa ω κ hb hu hc hK => ?_)
      have h29 : aa.tmps[29]?.getD undef = .int .u64 (le : Nat) := hc 8 29 rfl rfl
      have hk := Lib.hid (fun w1 (h : Below ω.heap.size ω w1) => hK (.int .u64 (le : Nat)) w1 rfl h)
      clear hK hu hc
      go_simp
      exact hk.out _ (Below.refl _ _)
    · intro a1 w1 G I
      have ha0 := hha0.out
      subst ha0
      have he := act_patch (n := 38) [false, false, false, false, false, false, false, false, false, true, true, false, false, false, false, false, false, false, false, false, false, true, true, true, true, true, true, true, true, true, false, false, false, false, false, false, false, false] rfl (by kernel_rfl) I.un I.sz I.df
      simp only [patch, cond_true, cond_false, Nat.reduceAdd] at he
      have hal9 := I.al 9 9 4 rfl rfl rfl
      have hal10 : a1.tmps[10]?.getD undef = .int .u64 (le : Nat) := I.val 11 10 rfl rfl
      replace hR := Lib.hid (row_below hR.out I.bel hR.out.lt)
      replace hX7 := Lib.hid (hX7.out.step I.bel)
      replace hL := Lib.hid (below_step I.bel hL.out (Nat.le_refl _))
      have hX9 := Lib.hid (show At w1 (G 9) .u64 4 (wd df) from ⟨(I.blk 9 4 rfl rfl).2, (I.row 10 9 rfl rfl).2.2⟩)
      clear kD hG
      clear I hz0 hha0 e0 e7
      rw [he]
      clear he
      rw [hal9]
      rw [hal10]
      clear hal9 hal10
      generalize a1.tmps[21]?.getD undef = x21 at *
      generalize a1.tmps[22]?.getD undef = x22 at *
      generalize a1.tmps[23]?.getD undef = x23 at *
      generalize a1.tmps[24]?.getD undef = x24 at *
      generalize a1.tmps[25]?.getD undef = x25 at *
      generalize a1.tmps[26]?.getD undef = x26 at *
      generalize a1.tmps[27]?.getD undef = x27 at *
      generalize a1.tmps[28]?.getD undef = x28 at *
      generalize a1.tmps[29]?.getD undef = x29 at *
      obtain ⟨g9, hg⟩ : ∃ g, G 9 = g := ⟨_, rfl⟩
      rw [hg] at hX9 ⊢
      clear hg
      generalize w1 = W2 at *
      have hr3 := hR.out
      have hr1 := hX9.out.row
      have hr2 := hX9.out.eq
      have hr4 := hX7.out.row
      have hr5 := hX7.out.eq
      rcases hov with rfl | rfl
      · rcases hle with rfl | rfl
        · have hre := Lib.hid (hSm.out.2.1 rfl rfl)
          clear hSm
          go_wp2_with fail
          refine ret_row (p := 6) (ty := 27) (g := w.heap.size + 1 + 1) rfl Try.underlying27 rfl (by kernel_rfl) rfl ((row_setRow_same rfl hR.out).2 hcdf.1) rfl ?_
          rw [rowAt_setRow_same hR.out]
          exact ⟨by rw [hre.out], below_setRow hL.out (by omega)⟩
        · have hre := Lib.hid (hSm.out.2.2 rfl rfl)
          clear hSm
          go_wp2_with fail
          refine ret_row (p := 6) (ty := 27) (g := w.heap.size + 1 + 1) rfl Try.underlying27 rfl (by kernel_rfl) rfl ((row_setRow_same rfl hR.out).2 hcsm.1) rfl ?_
          rw [rowAt_setRow_same hR.out]
          exact ⟨by rw [hre.out], below_setRow hL.out (by omega)⟩
      · have hre := Lib.hid (hSm.out.1 rfl)
        clear hSm
        go_wp2_with fail
        refine ret_row (p := 6) (ty := 27) (g := w.heap.size + 1 + 1) rfl Try.underlying27 rfl (by kernel_rfl) rfl ((row_setRow_same rfl hR.out).2 hcdf.1) rfl ?_
        rw [rowAt_setRow_same hR.out]
        exact ⟨by rw [hre.out], below_setRow hL.out (by omega)⟩
end Go.Proofs.Ytgdiokklfihfoaa
namespace Go.Proofs.Ytgdiokklfihfoaa
open Go.ChangeShapes Go.WideShapes Go.ChangeAt Go.RowKit
set_option maxHeartbeats 2000000
set_option maxRecDepth 100000
attribute [local go_sem ↓] load_fld load_num store_num execl_num execs_num load_wide store_wide execl_wide execs_wide
attribute [local go_sem] isHead_mk blkOf_mk isAgg_mk cellsV_mk row_drew rowAt_drew row_new_cells row_old rowAt_new rowAt_old setRow_new zeroNum zeroWide
theorem sub_dif {x y m : Nat} (hx : x < m) (hy : y < m) (hm : m < 2 ^ 256) : (lessN x y = 0 → subN x y = (x + (m - y)) % m) ∧ (lessN x y = 1 → addN (subN x y) m = (x + (m - y)) % m) := by
  unfold lessN subN addN
  generalize (2 : Nat) ^ 256 = P at *
  by_cases hl : x < y
  · rw [if_pos hl]
    refine ⟨fun h => (by cases h), fun _ => ?_⟩
    rw [Nat.mod_eq_of_lt (show x + P - y < P by omega), show x + P - y + m = x + (m - y) + P by omega, Nat.add_mod_right, Nat.mod_eq_of_lt (show x + (m - y) < P by omega), Nat.mod_eq_of_lt (show x + (m - y) < m by omega)]
  · rw [if_neg hl]
    refine ⟨fun _ => ?_, fun h => (by cases h)⟩
    rw [show x + P - y = x - y + P by omega, Nat.add_mod_right, Nat.mod_eq_of_lt (show x - y < P by omega), show x + (m - y) = x - y + m by omega, Nat.add_mod_right, Nat.mod_eq_of_lt (show x - y < m by omega)]
theorem ring_Sub (g m o s v xa xb : Nat) (w : World) (h : RgAt w g m o s v) (ha : xa < 2 ^ 256) (hb : xb < 2 ^ 256) (hm : m < 2 ^ 256) (hm0 : m ≠ 0) : Calls Try.prog 32 #[.pointer (some ⟨g, 0, none⟩), numV xa, numV xb] w fun e w' => e = .returned (numV ((xa + (m - xb % m)) % m)) ∧ Below w.heap.size w w' := by
  have hpm : 0 < m := Nat.pos_of_ne_zero hm0
  have hx := Nat.mod_lt xa hpm
  have hy := Nat.mod_lt xb hpm
  have hgl := Lib.hid h.lt
  have kA := Lib.hid (fun V (hV : RgAt V g m o s v) => ring_low g m o s v xa V hV ha hm hm0)
  have kB := Lib.hid (fun V (hV : RgAt V g m o s v) => ring_low g m o s v xb V hV hb hm hm0)
  have hsum := sub_dif hx hy hm
  have hmm : (xa % m + (m - xb % m)) % m = (xa + (m - xb % m)) % m := by rw [Nat.add_mod, Nat.mod_mod, ← Nat.add_mod]
  rw [hmm] at hsum
  have kS := Lib.hid (fun V => limb_Sub (xa % m) (xb % m) V (Nat.lt_trans hx hm) (Nat.lt_trans hy hm))
  have hal : subN (xa % m) (xb % m) < 2 ^ 256 := Nat.mod_lt _ (Nat.pow_pos (by omega))
  have kD := Lib.hid (fun V => limb_Add (subN (xa % m) (xb % m)) m V hal hm)
  have hle : lessN (xa % m) (xb % m) = 0 ∨ lessN (xa % m) (xb % m) = 1 := by unfold lessN; split <;> simp
  obtain ⟨r, hr⟩ : ∃ r, (xa + (m - xb % m)) % m = r := ⟨_, rfl⟩
  rw [hr] at hsum ⊢
  clear hx hy hpm hm0 hm ha hb hal hr hmm
  generalize overN (subN (xa % m) (xb % m)) m = ov at *
  generalize addN (subN (xa % m) (xb % m)) m = df at *
  generalize subN (xa % m) (xb % m) = sm at *
  generalize lessN (xa % m) (xb % m) = le at *
  generalize xa % m = xl at *
  generalize xb % m = yl at *
  have hSm := Lib.hid hsum
  clear hsum
  unfold numV at kA kB kS kD ⊢
  have hc0 := arrK_cells .u64 4 (wd 0)
  have hcsm := arrK_cells .u64 4 (wd sm)
  have hcdf := arrK_cells .u64 4 (wd df)
  have hcr := arrK_cells .u64 4 (wd r)
  have hG0 : RgAt (((w.alloc (Obj.cells (arrK .u64 4 (wd xa)) 27)).alloc (Obj.cells (arrK .u64 4 (wd xb)) 27)).alloc (Obj.cells (arrK .u64 4 (wd 0)) 27)) g m o s v := ((h.old _).old _).old _
  have hG := Lib.hid hG0
  clear h hG0 hgl
  have hL0 : Below w.heap.size w (((w.alloc (Obj.cells (arrK .u64 4 (wd xa)) 27)).alloc (Obj.cells (arrK .u64 4 (wd xb)) 27)).alloc (Obj.cells (arrK .u64 4 (wd 0)) 27)) := by go_grown
  have hA0 : At (((w.alloc (Obj.cells (arrK .u64 4 (wd xa)) 27)).alloc (Obj.cells (arrK .u64 4 (wd xb)) 27)).alloc (Obj.cells (arrK .u64 4 (wd 0)) 27)) w.heap.size .u64 4 (wd xa) := ((At.new _ rfl).old _).old _
  have hB0 : At (((w.alloc (Obj.cells (arrK .u64 4 (wd xa)) 27)).alloc (Obj.cells (arrK .u64 4 (wd xb)) 27)).alloc (Obj.cells (arrK .u64 4 (wd 0)) 27)) (w.heap.size + 1) .u64 4 (wd xb) := (At.new _ (by simp)).old _
  have hR0 : Row (((w.alloc (Obj.cells (arrK .u64 4 (wd xa)) 27)).alloc (Obj.cells (arrK .u64 4 (wd xb)) 27)).alloc (Obj.cells (arrK .u64 4 (wd 0)) 27)) (w.heap.size + 1 + 1) 4 := (At.new (k := .u64) (f := wd 0) _ (by simp)).row
  have hL := Lib.hid hL0
  have hA := Lib.hid hA0
  have hB := Lib.hid hB0
  have hR := Lib.hid hR0
  clear hL0 hA0 hB0 hR0
  go_enter Try.func32, Try.ntmps32
  go_upto_region 1 with (fail)
  generalize ((w.alloc _).alloc _).alloc _ = W0 at *
  generalize ha0 : Act.mk _ _ = a0
  have e0 : a0.tmps[0]?.getD undef = .pointer (some ⟨g, 0, none⟩) := by rw [← ha0]; rfl
  have e4 : a0.tmps[4]?.getD undef = .pointer (some ⟨w.heap.size, 0, none⟩) := by rw [← ha0]; rfl
  have e5 : a0.tmps[5]?.getD undef = .pointer (some ⟨w.heap.size + 1, 0, none⟩) := by rw [← ha0]; rfl
  have hz0 : a0.tmps.size = 31 := by rw [← ha0]; rfl
  have hha0 := Lib.hid ha0
  clear ha0
  refine wp_region_fresh ⟨fun jx_ => match jx_ with | 0 => some (.pointer (some ⟨g, 0, none⟩)) | 1 => some (.agg (arrK .u64 4 (wd xa))) | 2 => some (.agg (arrK .u64 4 (wd xl))) | 3 => some (.pointer (some ⟨g, 0, none⟩)) | 4 => some (.agg (arrK .u64 4 (wd xb))) | 5 => some (.agg (arrK .u64 4 (wd yl))) | 6 => some (.tuple #[.agg (arrK .u64 4 (wd sm)), .int .u64 (le : Nat)]) | 7 => some (.tuple #[.agg (arrK .u64 4 (wd sm)), .int .u64 (le : Nat)]) | 8 => some (.agg (arrK .u64 4 (wd sm))) | 9 => some (.int .u64 (le : Nat)) | 12 => some (.int .u64 (le : Nat)) | _ => none, fun jx_ => match jx_ with | 10 => some 4 | _ => none, fun jx_ => match jx_ with | 11 => some 10 | _ => none, fun jx_ => match jx_ with | 11 => arrK .u64 4 (wd sm) | _ => #[]⟩ (by kernel_rfl) (by kernel_rfl) (by kernel_rfl) (slotsOk_of hz0 (by kernel_rfl)) rfl ⟨?_, ?_, ?_, ?_, ?_, ?_, ?_, ?_, ?_, ?_, ?_, ?_, ?_, trivial⟩ ?_
  · refine fstep_val rfl rfl (calm_step rfl fun aa ω κ hb hu hc hK => ?_)
    have h0 : aa.tmps[0]?.getD undef = .pointer (some ⟨g, 0, none⟩) := (hu 0 rfl).trans e0
    have hk := Lib.hid (fun w1 (h : Below ω.heap.size ω w1) => hK (.pointer (some ⟨g, 0, none⟩)) w1 rfl h)
    clear hK hu hc
    go_simp
    exact hk.out _ (Below.refl _ _)
  · refine fstep_val rfl rfl (calm_step rfl fun aa ω κ hb hu hc hK => ?_)
    have h4 : aa.tmps[4]?.getD undef = .pointer (some ⟨w.heap.size, 0, none⟩) := (hu 4 rfl).trans e4
    have hk := Lib.hid (fun w1 (h : Below ω.heap.size ω w1) => hK (.agg (arrK .u64 4 (wd xa))) w1 rfl h)
    clear hK hu hc
    have hr1 := (hA.out.step hb).row
    have hr2 := (hA.out.step hb).eq
    go_simp
    exact hk.out _ (Below.refl _ _)
  · refine fstep_val rfl rfl (calm_step rfl fun aa ω κ hb hu hc hK => ?_)
    have h10 : aa.tmps[10]?.getD undef = .pointer (some ⟨g, 0, none⟩) := hc 0 10 rfl rfl
    have h11 : aa.tmps[11]?.getD undef = .agg (arrK .u64 4 (wd xa)) := hc 1 11 rfl rfl
    have hk := Lib.hid (fun w1 (h : Below ω.heap.size ω w1) => hK (.agg (arrK .u64 4 (wd xl))) w1 rfl h)
    clear hK hu hc
    go_simp
    go_at_call 88
    refine (kA.out _ (hG.out.step hb)).mono ?_
    rintro e w1 ⟨rfl, hb1⟩
    exact hk.out _ hb1
  · refine fstep_val rfl rfl (calm_step rfl fun aa ω κ hb hu hc hK => ?_)
    have h0 : aa.tmps[0]?.getD undef = .pointer (some ⟨g, 0, none⟩) := (hu 0 rfl).trans e0
    have hk := Lib.hid (fun w1 (h : Below ω.heap.size ω w1) => hK (.pointer (some ⟨g, 0, none⟩)) w1 rfl h)
    clear hK hu hc
    go_simp
    exact hk.out _ (Below.refl _ _)
  · refine fstep_val rfl rfl (calm_step rfl fun aa ω κ hb hu hc hK => ?_)
    have h5 : aa.tmps[5]?.getD undef = .pointer (some ⟨w.heap.size + 1, 0, none⟩) := (hu 5 rfl).trans e5
    have hk := Lib.hid (fun w1 (h : Below ω.heap.size ω w1) => hK (.agg (arrK .u64 4 (wd xb))) w1 rfl h)
    clear hK hu hc
    have hr1 := (hB.out.step hb).row
    have hr2 := (hB.out.step hb).eq
    go_simp
    exact hk.out _ (Below.refl _ _)
  · refine fstep_val rfl rfl (calm_step rfl fun aa ω κ hb hu hc hK => ?_)
    have h13 : aa.tmps[13]?.getD undef = .pointer (some ⟨g, 0, none⟩) := hc 3 13 rfl rfl
    have h14 : aa.tmps[14]?.getD undef = .agg (arrK .u64 4 (wd xb)) := hc 4 14 rfl rfl
    have hk := Lib.hid (fun w1 (h : Below ω.heap.size ω w1) => hK (.agg (arrK .u64 4 (wd yl))) w1 rfl h)
    clear hK hu hc
    go_simp
    go_at_call 88
    refine (kB.out _ (hG.out.step hb)).mono ?_
    rintro e w1 ⟨rfl, hb1⟩
    exact hk.out _ hb1
  · refine fstep_val rfl rfl (calm_step rfl fun aa ω κ hb hu hc hK => ?_)
    have h12 : aa.tmps[12]?.getD undef = .agg (arrK .u64 4 (wd xl)) := hc 2 12 rfl rfl
    have h15 : aa.tmps[15]?.getD undef = .agg (arrK .u64 4 (wd yl)) := hc 5 15 rfl rfl
    have hk := Lib.hid (fun w1 (h : Below ω.heap.size ω w1) => hK (.tuple #[.agg (arrK .u64 4 (wd sm)), .int .u64 (le : Nat)]) w1 rfl h)
    clear hK hu hc
    go_simp
    go_at_call 89
    refine (kS.out _).mono ?_
    rintro e w1 ⟨rfl, hb1⟩
    exact hk.out _ hb1
  · refine fstep_val rfl rfl (calm_step rfl fun aa ω κ hb hu hc hK => ?_)
    have h16 : aa.tmps[16]?.getD undef = .tuple #[.agg (arrK .u64 4 (wd sm)), .int .u64 (le : Nat)] := hc 6 16 rfl rfl
    have hk := Lib.hid (fun w1 (h : Below ω.heap.size ω w1) => hK (.tuple #[.agg (arrK .u64 4 (wd sm)), .int .u64 (le : Nat)]) w1 rfl h)
    clear hK hu hc
    go_simp
    exact hk.out _ (Below.refl _ _)
  · refine fstep_val rfl rfl (calm_step rfl fun aa ω κ hb hu hc hK => ?_)
    have h9 : aa.tmps[9]?.getD undef = .tuple #[.agg (arrK .u64 4 (wd sm)), .int .u64 (le : Nat)] := hc 7 9 rfl rfl
    have hk := Lib.hid (fun w1 (h : Below ω.heap.size ω w1) => hK (.agg (arrK .u64 4 (wd sm))) w1 rfl h)
    clear hK hu hc
    go_simp
    exact hk.out _ (Below.refl _ _)
  · refine fstep_val rfl rfl (calm_step rfl fun aa ω κ hb hu hc hK => ?_)
    have h9 : aa.tmps[9]?.getD undef = .tuple #[.agg (arrK .u64 4 (wd sm)), .int .u64 (le : Nat)] := hc 7 9 rfl rfl
    have hk := Lib.hid (fun w1 (h : Below ω.heap.size ω w1) => hK (.int .u64 (le : Nat)) w1 rfl h)
    clear hK hu hc
    go_simp
    exact hk.out _ (Below.refl _ _)
  · refine fstep_al (n := 4) rfl rfl fun aa ω κ hK => ?_
    have hk := Lib.hid hK
    clear hK
    go_simp
    exact hk.out _ _ hc0
  · refine fstep_st (j := 10) (n := 4) (d := 7) rfl rfl rfl rfl rfl hcsm.1 rfl rfl fun aa ω κ g hb hu hc hp hr hK => ?_
    have h17 : aa.tmps[17]?.getD undef = .agg (arrK .u64 4 (wd sm)) := hc 8 17 rfl rfl
    have hk := Lib.hid hK
    clear hK hu hc
    have hcc := hcsm
    go_simp
    exact hk.out undef
  · refine fstep_val rfl rfl (calm_step rfl fun aa ω κ hb hu hc hK => ?_)
    have h18 : aa.tmps[18]?.getD undef = .int .u64 (le : Nat) := hc 9 18 rfl rfl
    have hk := Lib.hid (fun w1 (h : Below ω.heap.size ω w1) => hK (.int .u64 (le : Nat)) w1 rfl h)
    clear hK hu hc
    go_simp
    exact hk.out _ (Below.refl _ _)
  · intro a1 w1 G I
    have ha0 := hha0.out
    subst ha0
    have he := act_patch (n := 31) [false, false, false, false, false, false, false, true, true, true, true, true, true, true, true, true, true, true, true, false, false, false, false, false, false, false, false, false, false, false, false] rfl (by kernel_rfl) I.un I.sz I.df
    simp only [patch, cond_true, cond_false, Nat.reduceAdd] at he
    have hal7 := I.al 10 7 4 rfl rfl rfl
    have hal8 : a1.tmps[8]?.getD undef = .int .u64 (le : Nat) := I.val 12 8 rfl rfl
    have hn7 := Lib.hid (Nat.lt_of_lt_of_le hR.out.lt (I.blk 10 4 rfl rfl).1)
    replace hR := Lib.hid (row_below hR.out I.bel hR.out.lt)
    replace hG := Lib.hid (hG.out.step I.bel)
    replace hL := Lib.hid (below_step I.bel hL.out (Nat.le_refl _))
    have hX7 := Lib.hid (show At w1 (G 10) .u64 4 (wd sm) from ⟨(I.blk 10 4 rfl rfl).2, (I.row 11 10 rfl rfl).2.2⟩)
    clear kA kB kS hA hB
    clear I hz0 hha0 e0 e4 e5
    rw [he]
    clear he
    rw [hal7]
    rw [hal8]
    clear hal7 hal8
    generalize a1.tmps[9]?.getD undef = x9 at *
    generalize a1.tmps[10]?.getD undef = x10 at *
    generalize a1.tmps[11]?.getD undef = x11 at *
    generalize a1.tmps[12]?.getD undef = x12 at *
    generalize a1.tmps[13]?.getD undef = x13 at *
    generalize a1.tmps[14]?.getD undef = x14 at *
    generalize a1.tmps[15]?.getD undef = x15 at *
    generalize a1.tmps[16]?.getD undef = x16 at *
    generalize a1.tmps[17]?.getD undef = x17 at *
    generalize a1.tmps[18]?.getD undef = x18 at *
    obtain ⟨g7, hg⟩ : ∃ g, G 10 = g := ⟨_, rfl⟩
    rw [hg] at hX7 hn7 ⊢
    clear hg
    generalize w1 = W1 at *
    rcases hle with rfl | rfl
    · have hre := Lib.hid (hSm.out.1 rfl)
      clear hSm
      have hr3 := hR.out
      have hr4 := hX7.out.row
      have hr5 := hX7.out.eq
      go_wp2_with fail
      refine ret_row (p := 6) (ty := 27) (g := w.heap.size + 1 + 1) rfl Try.underlying27 rfl (by kernel_rfl) rfl ((row_setRow_same rfl hR.out).2 hcsm.1) rfl ?_
      rw [rowAt_setRow_same hR.out]
      exact ⟨by rw [hre.out], below_setRow hL.out (by omega)⟩
    · have hre := Lib.hid (hSm.out.2 rfl)
      clear hSm
      go_upto_region 3 with (fail)
      generalize ha0 : Act.mk _ _ = a0
      have e0 : a0.tmps[0]?.getD undef = .pointer (some ⟨g, 0, none⟩) := by rw [← ha0]; rfl
      have e7 : a0.tmps[7]?.getD undef = .pointer (some ⟨g7, 0, none⟩) := by rw [← ha0]; rfl
      have hz0 : a0.tmps.size = 31 := by rw [← ha0]; rfl
      have hha0 := Lib.hid ha0
      clear ha0
      refine wp_region_one (fun jx_ => match jx_ with | 0 => some (.agg (arrK .u64 4 (wd sm))) | 1 => some (.pointer (some ⟨g, 0, none⟩)) | 2 => some (.pointer (some ⟨g, 0, none⟩)) | 3 => some (.pointer (some ⟨g, 0, none⟩)) | 4 => some (.agg (arrK .u64 4 (wd m))) | 5 => some (.tuple #[.agg (arrK .u64 4 (wd df)), .int .u64 (ov : Nat)]) | 6 => some (.tuple #[.agg (arrK .u64 4 (wd df)), .int .u64 (ov : Nat)]) | 7 => some (.agg (arrK .u64 4 (wd df))) | 8 => some (.int .u64 (ov : Nat)) | _ => none) 9 (g7) 4 (arrK .u64 4 (wd df)) (by kernel_rfl) (by kernel_rfl) (by kernel_rfl) (slotsOk_of hz0 (by kernel_rfl)) (of_decide_eq_true (by kernel_rfl)) (Lib.hid hX7.out.row).out ⟨?_, ?_, ?_, ?_, ?_, ?_, ?_, ?_, ?_, ?_, trivial⟩ ?_
      · refine one_before (by decide) (by kernel_rfl) (calm_step rfl fun aa ω κ hb hu hc hK => ?_)
        have h7 : aa.tmps[7]?.getD undef = .pointer (some ⟨g7, 0, none⟩) := (hu 7 rfl).trans e7
        have hk := Lib.hid (fun w1 (h : Below ω.heap.size ω w1) => hK (.agg (arrK .u64 4 (wd sm))) w1 rfl h)
        clear hK hu hc
        have hr1 := (hX7.out.step hb).row
        have hr2 := (hX7.out.step hb).eq
        go_simp
        exact hk.out _ (Below.refl _ _)
      · refine one_before (by decide) (by kernel_rfl) (calm_step rfl fun aa ω κ hb hu hc hK => ?_)
        have h0 : aa.tmps[0]?.getD undef = .pointer (some ⟨g, 0, none⟩) := (hu 0 rfl).trans e0
        have hk := Lib.hid (fun w1 (h : Below ω.heap.size ω w1) => hK (.pointer (some ⟨g, 0, none⟩)) w1 rfl h)
        clear hK hu hc
        go_simp
        exact hk.out _ (Below.refl _ _)
      · refine one_before (by decide) (by kernel_rfl) (calm_step rfl fun aa ω κ hb hu hc hK => ?_)
        have h23 : aa.tmps[23]?.getD undef = .pointer (some ⟨g, 0, none⟩) := hc 1 23 rfl rfl
        have hk := Lib.hid (fun w1 (h : Below ω.heap.size ω w1) => hK (.pointer (some ⟨g, 0, none⟩)) w1 rfl h)
        clear hK hu hc
        go_simp
        exact hk.out _ (Below.refl _ _)
      · refine one_before (by decide) (by kernel_rfl) (calm_step rfl fun aa ω κ hb hu hc hK => ?_)
        have h24 : aa.tmps[24]?.getD undef = .pointer (some ⟨g, 0, none⟩) := hc 2 24 rfl rfl
        have hk := Lib.hid (fun w1 (h : Below ω.heap.size ω w1) => hK (.pointer (some ⟨g, 0, none⟩)) w1 rfl h)
        clear hK hu hc
        go_simp
        exact hk.out _ (Below.refl _ _)
      · refine one_before (by decide) (by kernel_rfl) (calm_step rfl fun aa ω κ hb hu hc hK => ?_)
        have h25 : aa.tmps[25]?.getD undef = .pointer (some ⟨g, 0, none⟩) := hc 3 25 rfl rfl
        have hk := Lib.hid (fun w1 (h : Below ω.heap.size ω w1) => hK (.agg (arrK .u64 4 (wd m))) w1 rfl h)
        clear hK hu hc
        have hl := rg_0 (hG.out.step hb)
        have hl1 := hl.1
        have hl2 := hl.2
        go_simp
        exact hk.out _ (Below.refl _ _)
      · refine one_before (by decide) (by kernel_rfl) (calm_step rfl fun aa ω κ hb hu hc hK => ?_)
        have h22 : aa.tmps[22]?.getD undef = .agg (arrK .u64 4 (wd sm)) := hc 0 22 rfl rfl
        have h26 : aa.tmps[26]?.getD undef = .agg (arrK .u64 4 (wd m)) := hc 4 26 rfl rfl
        have hk := Lib.hid (fun w1 (h : Below ω.heap.size ω w1) => hK (.tuple #[.agg (arrK .u64 4 (wd df)), .int .u64 (ov : Nat)]) w1 rfl h)
        clear hK hu hc
        go_simp
        go_at_call 87
        refine (kD.out _).mono ?_
        rintro e w1 ⟨rfl, hb1⟩
        exact hk.out _ hb1
      · refine one_before (by decide) (by kernel_rfl) (calm_step rfl fun aa ω κ hb hu hc hK => ?_)
        have h27 : aa.tmps[27]?.getD undef = .tuple #[.agg (arrK .u64 4 (wd df)), .int .u64 (ov : Nat)] := hc 5 27 rfl rfl
        have hk := Lib.hid (fun w1 (h : Below ω.heap.size ω w1) => hK (.tuple #[.agg (arrK .u64 4 (wd df)), .int .u64 (ov : Nat)]) w1 rfl h)
        clear hK hu hc
        go_simp
        exact hk.out _ (Below.refl _ _)
      · refine one_before (by decide) (by kernel_rfl) (calm_step rfl fun aa ω κ hb hu hc hK => ?_)
        have h21 : aa.tmps[21]?.getD undef = .tuple #[.agg (arrK .u64 4 (wd df)), .int .u64 (ov : Nat)] := hc 6 21 rfl rfl
        have hk := Lib.hid (fun w1 (h : Below ω.heap.size ω w1) => hK (.agg (arrK .u64 4 (wd df))) w1 rfl h)
        clear hK hu hc
        go_simp
        exact hk.out _ (Below.refl _ _)
      · refine one_free (by decide) fun W_ => calm_step rfl fun aa ω κ hb hu hc hK => ?_
        have h21 : aa.tmps[21]?.getD undef = .tuple #[.agg (arrK .u64 4 (wd df)), .int .u64 (ov : Nat)] := hc 6 21 rfl rfl
        have hk := Lib.hid (fun w1 (h : Below ω.heap.size ω w1) => hK (.int .u64 (ov : Nat)) w1 rfl h)
        clear hK hu hc
        go_simp
        exact hk.out _ (Below.refl _ _)
      · refine one_q (one_write rfl rfl fun aa ω κ hb hu hc hr hK => ?_)
        have h7 : aa.tmps[7]?.getD undef = .pointer (some ⟨g7, 0, none⟩) := (hu 7 rfl).trans e7
        have h28 : aa.tmps[28]?.getD undef = .agg (arrK .u64 4 (wd df)) := hc 7 28 rfl rfl
        have hk := Lib.hid hK
        clear hK hu hc
        have hcc := hcdf
        go_simp
        exact hk.out undef
      · intro a1 w1 hb1 hu1 hsz1 hdf1 hv1
        have ha0 := hha0.out
        subst ha0
        have he := act_patch (n := 31) [false, false, false, false, false, false, false, false, false, false, false, false, false, false, false, false, false, false, false, false, false, true, true, true, true, true, true, true, true, true, false] rfl (by kernel_rfl) hu1 hsz1 hdf1
        simp only [patch, cond_true, cond_false, Nat.reduceAdd] at he
        have hXz := Lib.hid ((At.put (k := .u64) (f := wd df) hX7.out.row).below hb1 (by simpa using hX7.out.row.lt))
        have hRz := Lib.hid (row_below ((row_setRow_far (show w.heap.size + 1 + 1 ≠ g7 from Nat.ne_of_lt hn7.out)).2 hR.out) hb1 (by simpa using hR.out.lt))
        have hLz := Lib.hid (Below.trans (below_setRow (c := arrK .u64 4 (wd df)) hL.out (show w.heap.size ≤ g7 by have := hn7.out; omega)) (hb1.mono (by simpa using hL.out.size)))
        clear hX7 hR hG hL kD
        clear hb1 hu1 hsz1 hdf1 hv1 hz0 hha0 e0 e7
        rw [he]
        clear he
        generalize a1.tmps[21]?.getD undef = x21 at *
        generalize a1.tmps[22]?.getD undef = x22 at *
        generalize a1.tmps[23]?.getD undef = x23 at *
        generalize a1.tmps[24]?.getD undef = x24 at *
        generalize a1.tmps[25]?.getD undef = x25 at *
        generalize a1.tmps[26]?.getD undef = x26 at *
        generalize a1.tmps[27]?.getD undef = x27 at *
        generalize a1.tmps[28]?.getD undef = x28 at *
        generalize a1.tmps[29]?.getD undef = x29 at *
        generalize w1 = W2 at *
        have hr1 := hXz.out.row
        have hr2 := hXz.out.eq
        have hr3 := hRz.out
        go_wp2_with fail
        refine ret_row (p := 6) (ty := 27) (g := w.heap.size + 1 + 1) rfl Try.underlying27 rfl (by kernel_rfl) rfl ((row_setRow_same rfl hRz.out).2 hcdf.1) rfl ?_
        rw [rowAt_setRow_same hRz.out]
        exact ⟨by rw [hre.out], below_setRow hLz.out (by omega)⟩
end Go.Proofs.Ytgdiokklfihfoaa
namespace Go.Proofs.Ytgdiokklfihfoaa
open Go Go.RowKit

section
variable {P : Program} {ops : Array Oper} {Q : Exit → Act → World → Prop}
def tEdgesL (ops : Array Oper) (q : Nat) : Bool := ((List.range q).all fun j => pathB ops ops.size q j) && (List.range ops.size).all fun i => decide (i ≤ q) || pathB ops ops.size i (i - 1)
/-- The slots that no operation before q writes read as at first. -/
def UntouchedL (ops : Array Oper) (q : Nat) (a0 a : Act) : Prop := ∀ s, ((List.range ops.size).all fun i => decide (q ≤ i) || dstAt ops i != some s) = true → a.tmps[s]?.getD undef = a0.tmps[s]?.getD undef
def StepOkL (P : Program) (ops : Array Oper) (Q : Exit → Act → World → Prop) (R : Nat → SRel) (a0 : Act) (w0 : World) (q i : Nat) (o : Oper) : Prop :=
  ∀ (a : Act) (w : World) (K : Act → World → Prop), Below w0.heap.size w0 w → UntouchedL ops q a0 a → Came ops R o a w →
    (∀ v w', (R i).p v w' → Below w.heap.size w w' → K (a.put o.dst v) w') → if Region.wanted o (yielded ops a.tmps) = true then Oper.wp P o a w K Q else K (a.put o.dst undef) w
theorem calmL_step {R : Nat → SRel} {a0 : Act} {w0 : World} {q i : Nat} {o : Oper} (hg : o.guard = none)
    (h : ∀ (a : Act) (w : World) (K : Act → World → Prop), Below w0.heap.size w0 w → UntouchedL ops q a0 a → Came ops R o a w → (∀ v w', (R i).p v w' → Below w.heap.size w w' → K (a.put o.dst v) w') → Oper.wp P o a w K Q) : StepOkL P ops Q R a0 w0 q i o := by
  intro a w K hb hu hc hK
  rw [if_pos (by simp [Region.wanted, hg])]
  exact h a w K hb hu hc hK
theorem calmL_step_guard {R : Nat → SRel} {a0 : Act} {w0 : World} {q i g : Nat} {b : Bool} {d : Tmp} {o : Oper} (hg : o.guard = some (g, b)) (hd : dstAt ops g = some d)
    (hv : ∀ (a : Act) (w : World), Came ops R o a w → a.tmps[d]?.getD undef = .bool b)
    (h : ∀ (a : Act) (w : World) (K : Act → World → Prop), Below w0.heap.size w0 w → UntouchedL ops q a0 a → Came ops R o a w → (∀ v w', (R i).p v w' → Below w.heap.size w w' → K (a.put o.dst v) w') → Oper.wp P o a w K Q) : StepOkL P ops Q R a0 w0 q i o := by
  intro a w K hb hu hc hK
  have hy : yielded ops a.tmps g = some b := by
    have h1 := hv a w hc
    unfold dstAt at hd
    unfold yielded
    rw [hd, Option.bind_some]
    cases h2 : a.tmps[d]? with
    | none => rw [h2] at h1; cases h1
    | some v => rw [h2] at h1; have : v = .bool b := h1; rw [this]
  rw [if_pos (by simp [Region.wanted, hg, hy])]
  exact h a w K hb hu hc hK
/-- The frame before the q-th operation, written out. -/
def dstL (ops : Array Oper) (q s : Nat) : Bool := (List.range ops.size).any fun i => !decide (q ≤ i) && dstAt ops i == some s
theorem act_patchL {a0 a : Act} {n : Nat} (q : Nat) (bs : List Bool) (hn : a0.tmps.size = n) (hbs : bs = (List.range n).map (fun j => dstL ops q (0 + j))) (hu : UntouchedL ops q a0 a) (hsz : a.tmps.size = a0.tmps.size) (hdf : a.defers = a0.defers) :
    a = ⟨(patch a 0 a0.tmps.toList bs).toArray, a0.defers⟩ := by
  rw [patch_eq a (dstL ops q) a0.tmps.toList 0 bs (by rw [hbs, Array.length_toList, hn])]
  obtain ⟨t, d⟩ := a
  simp only at hsz hdf hu ⊢
  subst hdf
  congr 1
  apply Array.ext
  · simp [hsz]
  · intro i h1 h2
    simp only [List.getElem_toArray, List.getElem_map, List.getElem_range, Nat.zero_add]
    cases hD : dstL ops q i with
    | true => simp [h1]
    | false =>
      have h3 := hu i (by
        rw [List.all_eq_true]
        intro j hj
        unfold dstL at hD
        have h4 := List.any_eq_false.1 hD j hj
        cases hjq : decide (q ≤ j) with
        | true => rfl
        | false =>
          rw [hjq] at h4
          simp at h4 ⊢
          exact h4)
      simp [h1] at h3
      rw [cond_false, h3]
      have h5 : i < a0.tmps.size := by omega
      simp [h5]
/-- What is asked of the operations from q on. -/
def LastOkL (P : Program) (ops : Array Oper) (Q : Exit → Act → World → Prop) (R : Nat → SRel) (a0 : Act) (w0 : World) (q : Nat) : Prop :=
  ∀ (a : Act) (w : World), Below w0.heap.size w0 w → UntouchedL ops q a0 a → a.tmps.size = a0.tmps.size → a.defers = a0.defers → (∀ j d, j < q → dstAt ops j = some d → (R j).p (a.tmps[d]?.getD undef) w) →
    wpList P ops Q (ops.toList.drop q) a w
def StepsL (P : Program) (ops : Array Oper) (Q : Exit → Act → World → Prop) (R : Nat → SRel) (a0 : Act) (w0 : World) (q : Nat) : Nat → List Oper → Prop
  | _, [] => True
  | i, o :: l => StepOkL P ops Q R a0 w0 q i o ∧ StepsL P ops Q R a0 w0 q (i + 1) l
theorem stepsL_at {R : Nat → SRel} {a0 : Act} {w0 : World} {q : Nat} : ∀ (l : List Oper) (n i : Nat) (o : Oper), StepsL P ops Q R a0 w0 q n l → l[i]? = some o → StepOkL P ops Q R a0 w0 q (n + i) o
  | [], n, i, o, _, h => by simp at h
  | x :: l, n, 0, o, h1, h => by
      have : x = o := by simpa using h
      subst this
      exact h1.1
  | x :: l, n, i + 1, o, h1, h => by
      have := stepsL_at l (n + 1) i o h1.2 (by simpa using h)
      rw [show n + (i + 1) = n + 1 + i by omega]
      exact this
theorem wp_region_tailL {id : Nat} {a0 : Act} {w0 : World} (R : Nat → SRel) (q : Nat) (hm : P.follows .mixedOrders = true) (he : edgesOk ops = true) (hd : dstsOk ops = true) (hz : slotsOk ops a0.tmps.size = true) (hX : tEdgesL ops q = true)
    (hqn : q < ops.size) (hstep : StepsL P ops Q R a0 w0 q 0 (ops.toList.take q)) (hlast : LastOkL P ops Q R a0 w0 q) : (Code.region id ops true).wp P Q a0 w0 := by
  refine wp_region_any hm ?_
  have hlt : ∀ i d, dstAt ops i = some d → i < ops.size := fun i d h => by
    unfold dstAt at h
    rcases Nat.lt_or_ge i ops.size with h1 | h1
    · exact h1
    · rw [Array.getElem?_eq_none h1] at h; cases h
  have hdst : ∀ i j d e, i ≠ j → dstAt ops i = some d → dstAt ops j = some e → d ≠ e := by
    intro i j d e hij h1 h2
    have := List.all_eq_true.1 (List.all_eq_true.1 hd i (by simpa using hlt i d h1)) j (by simpa using hlt j e h2)
    rw [h1, h2] at this
    simpa [hij] using this
  have hslot : ∀ i d, dstAt ops i = some d → d < a0.tmps.size := by
    intro i d h1
    have := List.all_eq_true.1 hz i (by simpa using hlt i d h1)
    rw [h1] at this
    simpa using this
  unfold tEdgesL at hX
  rw [Bool.and_eq_true] at hX
  have hsz0 : ∃ f, ops.size = f + 1 := ⟨ops.size - 1, by omega⟩
  -- an operation that may run now waits for none that is not listed
  have hpath : ∀ (listed : Array Bool) (i j : Nat) (o : Oper), (∀ k o, listed.getD k false = true → ops[k]? = some o → ∀ e ∈ o.after, Region.binds .any e = true → listed.getD e.on false = true) →
      ops[i]? = some o → (∀ e ∈ o.after, Region.binds .any e = true → listed.getD e.on false = true) → pathB ops ops.size i j = true → listed.getD j false = true := by
    intro listed i j o hcl ho h2 hp
    obtain ⟨f, hf⟩ := hsz0
    rw [hf] at hp
    obtain ⟨o', ho', e, he, hb', h6⟩ := path_on hp
    rw [ho] at ho'
    cases ho'
    have hl := h2 e he hb'
    rcases h6 with h6 | h6
    · rw [← h6]; exact hl
    · exact path_listed hcl f e.on j hl h6
  have hcl' : ∀ (listed : Array Bool) (i : Nat) (o : Oper), listed.size = ops.size → i < ops.size → (∀ k o, listed.getD k false = true → ops[k]? = some o → ∀ e ∈ o.after, Region.binds .any e = true → listed.getD e.on false = true) →
      ops[i]? = some o → (∀ e ∈ o.after, Region.binds .any e = true → listed.getD e.on false = true) →
      (∀ k o, (listed.setIfInBounds i true).getD k false = true → ops[k]? = some o → ∀ e ∈ o.after, Region.binds .any e = true → (listed.setIfInBounds i true).getD e.on false = true) := by
    intro listed i o hs hi hcl ho h2 k o' hk ho' e he1 he2
    have hil : i < listed.size := by omega
    have hle : listed.getD e.on false = true := by
      by_cases hki : k = i
      · subst hki
        rw [ho] at ho'
        cases ho'
        exact h2 e he1 he2
      · have hk' : listed.getD k false = true := by simpa [Array.getElem?_setIfInBounds_ne (Ne.symm hki)] using hk
        exact hcl k o' hk' ho' e he1 he2
    by_cases hei : e.on = i
    · rw [hei]; simp [hil]
    · simpa [Array.getElem?_setIfInBounds_ne (Ne.symm hei)] using hle
  -- the r-th of those from q on
  have hrun : ∀ (listed : Array Bool) (r : Nat) (a : Act) (w : World) (K : Act → World → Prop), r < ops.size → wpList P ops Q (ops.toList.drop r) a w → (∀ a' w', wpList P ops Q (ops.toList.drop (r + 1)) a' w' → K a' w') → wpOp P ops Q r K a w := by
    intro listed r a w K hr h hK
    rw [List.drop_eq_getElem_cons (by simpa using hr)] at h
    refine wpOp_mono hK ?_
    unfold wpOp
    rw [Array.getElem?_eq_getElem hr]
    simp only [Array.getElem_toList] at h
    exact h
  refine wpAny_inv he (fun listed a w => (∀ k o, listed.getD k false = true → ops[k]? = some o → ∀ e ∈ o.after, Region.binds .any e = true → listed.getD e.on false = true) ∧ (((∀ k, q ≤ k → listed.getD k false = false) ∧ Below w0.drew.heap.size w0.drew w ∧ UntouchedL ops q a0 a ∧ a.tmps.size = a0.tmps.size ∧ a.defers = a0.defers ∧ ∀ j d, listed.getD j false = true → dstAt ops j = some d → (R j).p (a.tmps[d]?.getD undef) w) ∨ (∃ r, q ≤ r ∧ r ≤ ops.size ∧ (∀ k, r ≤ k → listed.getD k false = false) ∧ (∀ k, k < r → listed.getD k false = true) ∧ wpList P ops Q (ops.toList.drop r) a w))) ?_ ?_ _ _ _ _ (by simp) ?_ ?_
  · rintro listed a w i o hs ⟨hcl, hI⟩ hi h1 ho h2
    have hil : i < listed.size := by omega
    have hc2 := hcl' listed i o hs hi hcl ho h2
    have hafter : ∀ r, q ≤ r → r ≤ i → (∀ k, r ≤ k → listed.getD k false = false) → i = r := by
      intro r hqr hri hun
      rcases Nat.eq_or_lt_of_le hri with h3 | h3
      · exact h3.symm
      · have h4 := List.all_eq_true.1 hX.2 i (by simpa using hi)
        rw [Bool.or_eq_true, decide_eq_true_eq] at h4
        rcases h4 with h4 | h4
        · omega
        · have := hpath listed i (i - 1) o hcl ho h2 h4
          rw [hun (i - 1) (by omega)] at this
          cases this
    have hset : ∀ r, i = r → (∀ k, r ≤ k → listed.getD k false = false) → ∀ k, r + 1 ≤ k → (listed.setIfInBounds i true).getD k false = false := by
      intro r hir hun k hk
      have := hun k (by omega)
      simpa [Array.getElem?_setIfInBounds_ne (show i ≠ k by omega)] using this
    have hset2 : ∀ _ : Nat, (∀ k, k < i → listed.getD k false = true) → ∀ k, k < i + 1 → (listed.setIfInBounds i true).getD k false = true := by
      intro r hli k hk
      by_cases hki : k = i
      · rw [hki]; simp [hil]
      · have := hli k (by omega)
        simpa [Array.getElem?_setIfInBounds_ne (Ne.symm hki)] using this
    rcases hI with ⟨hun, hb, hu, hsz, hdf, hR⟩ | ⟨r, hqr, hrn, hun, hli, hW⟩
    · rcases Nat.lt_or_ge i q with hiq | hiq
      · have hst := stepsL_at (ops.toList.take q) 0 i o hstep (by rw [List.getElem?_take_of_lt hiq, Array.getElem?_toList]; exact ho)
        rw [Nat.zero_add] at hst
        refine wpOp_step ho fun K hK => hst a w K (below_step hb (Below.refl _ _).drew (Nat.le_refl _)) hu (fun j d hj hjd => ?_) fun v w' hv hb' => hK _ _ ⟨hc2, .inl ⟨?_, below_step hb' hb (Nat.le_refl _), ?_, ?_, ?_, ?_⟩⟩
        · obtain ⟨e, he1, he2⟩ := List.any_eq_true.1 hj
          have he1 : e ∈ o.after := Array.mem_toList_iff.1 he1
          simp only [Bool.and_eq_true, beq_iff_eq] at he2
          refine hR j d ?_ hjd
          rw [← he2.1]
          exact h2 e he1 he2.2
        · intro k hk
          have := hun k hk
          simpa [Array.getElem?_setIfInBounds_ne (show i ≠ k by omega)] using this
        · intro s hs'
          have hns : o.dst ≠ some s := by
            have h6 := List.all_eq_true.1 hs' i (by simpa using hi)
            rw [Bool.or_eq_true, decide_eq_true_eq] at h6
            rcases h6 with h6 | h6
            · omega
            · unfold dstAt at h6
              rw [ho] at h6
              simpa using h6
          rw [← hu s hs']
          cases hd' : o.dst with
          | none => rfl
          | some d =>
            have hne : d ≠ s := fun e => hns (by rw [hd', e])
            simp [Act.put, Array.getElem?_setIfInBounds_ne hne]
        · cases hd' : o.dst <;> simp [Act.put, hsz]
        · cases hd' : o.dst <;> simp [Act.put, hdf]
        · intro j d hj hjd
          by_cases hij : i = j
          · subst hij
            have hd1 := hslot i d hjd
            have hod : o.dst = some d := by unfold dstAt at hjd; rw [ho] at hjd; exact hjd
            rw [hod]
            rw [← hsz] at hd1
            simp [Act.put, hd1]
            exact hv
          · have hlj : listed.getD j false = true := by
              simpa [Array.getElem?_setIfInBounds_ne hij] using hj
            have h3 := (R j).st _ _ _ hb' (hR j d hlj hjd)
            cases hd' : o.dst with
            | none => simpa [Act.put] using h3
            | some d' =>
              have hne : d' ≠ d := hdst i j d' d hij (by unfold dstAt; rw [ho]; exact hd') hjd
              simpa [Act.put, Array.getElem?_setIfInBounds_ne hne] using h3
      · have hiq' := hafter q (Nat.le_refl _) hiq hun
        have hallj : ∀ j, j < q → listed.getD j false = true := fun j hj => hpath listed i j o hcl ho h2 (by rw [hiq']; exact List.all_eq_true.1 hX.1 j (by simpa using hj))
        refine hrun listed i a w _ hi ?_ fun a' w' hK => ⟨hc2, .inr ⟨i + 1, by omega, by omega, hset i rfl (hiq' ▸ hun), hset2 i (fun k hk => hallj k (by omega)), hK⟩⟩
        rw [hiq']
        exact hlast a w (below_step hb (Below.refl _ _).drew (Nat.le_refl _)) hu hsz hdf fun j d hj hjd => hR j d (hallj j hj) hjd
    · have hir : r ≤ i := by
        rcases Nat.lt_or_ge i r with h3 | h3
        · exfalso
          have h4 := hli i h3
          rw [Array.getD_eq_getD_getElem?] at h4
          simp [hil] at h1 h4
          rw [h1] at h4
          cases h4
        · exact h3
      have hiq' := hafter r hqr hir hun
      exact hrun listed i a w _ hi (hiq' ▸ hW) fun a' w' hK => ⟨hc2, .inr ⟨i + 1, by omega, by omega, hset i rfl (hiq' ▸ hun), hset2 i (fun k hk => hli k (by omega)), hK⟩⟩
  · rintro listed a w ⟨-, ⟨hun, -⟩ | ⟨r, hqr, hrn, hun, hli, hW⟩⟩ hall
    · have := hall q hqn
      rw [hun q (Nat.le_refl _)] at this
      cases this
    · have hr : r = ops.size := by
        rcases Nat.eq_or_lt_of_le hrn with h | h
        · exact h
        · have := hall r h
          rw [hun r (Nat.le_refl _)] at this
          cases this
      rw [hr, ← Array.length_toList, List.drop_length] at hW
      exact hW
  · unfold left
    rw [Array.toList_replicate]
    exact Nat.le_trans (List.length_filter_le _ _) (by simp)
  · have h0 : ∀ j, (Array.replicate ops.size false).getD j false = false := fun j => by
      rw [Array.getD_eq_getD_getElem?, Array.getElem?_replicate]
      split <;> simp
    exact ⟨fun k o hk => absurd hk (by rw [h0]; simp), .inl ⟨fun k _ => h0 k, Below.refl _ _, fun _ _ => rfl, rfl, rfl, fun j d hj => absurd hj (by rw [h0]; simp)⟩⟩
end
end Go.Proofs.Ytgdiokklfihfoaa
namespace Go.Proofs.Ytgdiokklfihfoaa
open Go.ChangeShapes Go.WideShapes Go.ChangeAt Go.RowKit
set_option maxHeartbeats 2000000
set_option maxRecDepth 100000
def SRel.bV (m : Nat) : SRel := ⟨fun v w => IsV w v m, fun _ _ _ hb h => h.step hb⟩
def SRel.bN (m : Nat) : SRel := ⟨fun v w => IsN w v m, fun _ _ _ hb h => h.step hb⟩
/-- Bytes from i on, the least first. -/
def hvB (f : Nat → Nat) (i : Nat) : Nat → Nat
  | 0 => 0
  | k + 1 => f i + 256 * hvB f (i + 1) k
theorem hvB_bval (f : Nat → Nat) : ∀ k i, bval f i + 256 ^ i * hvB f i k = bval f (i + k)
  | 0, i => by simp [hvB]
  | k + 1, i => by
    have ih := hvB_bval f k (i + 1)
    rw [show i + (k + 1) = i + 1 + k by omega, ← ih]
    show bval f i + 256 ^ i * (f i + 256 * hvB f (i + 1) k) = bval f i + 256 ^ i * f i + 256 ^ (i + 1) * hvB f (i + 1) k
    rw [Nat.pow_succ]
    generalize hvB f (i + 1) k = x
    grind
theorem hvB_zero (f : Nat → Nat) (n : Nat) : hvB f 0 n = bval f n := by
  have h := hvB_bval f n 0
  rw [Nat.zero_add, Nat.pow_zero, Nat.one_mul] at h
  rw [← h]
  simp [bval]
theorem hvB_lt {f : Nat → Nat} : ∀ k i, (∀ j < i + k, f j < 256) → hvB f i k < 2 ^ (8 * k)
  | 0, i, _ => by simp [hvB]
  | k + 1, i, h => by
    have h1 := hvB_lt k (i + 1) (fun j hj => h j (by omega))
    have h2 := h i (by omega)
    show f i + 256 * hvB f (i + 1) k < 2 ^ (8 * (k + 1))
    rw [show 8 * (k + 1) = 8 * k + 8 by omega, Nat.pow_add]
    omega
end Go.Proofs.Ytgdiokklfihfoaa
namespace Go.Proofs.Ytgdiokklfihfoaa
open Go.ChangeShapes Go.WideShapes Go.ChangeAt Go.RowKit
/-- A block that holds nothing yet but room for a slice. -/
structure Nul (w : World) (g : Nat) : Prop where
  row : Row w g 1
  eq : rowAt w g = #[.slice none 0 0]
theorem Nul.step {w w' : World} {g : Nat} (h : Nul w g) (hb : Below w.heap.size w w') : Nul w' g := ⟨row_below h.row hb h.row.lt, (rowAt_below hb h.row.lt).trans h.eq⟩
theorem Nul.cell {w : World} {g : Nat} (h : Nul w g) : w.cell? ⟨g, 0, none⟩ = some (.slice none 0 0) := by rw [h.row.cell, h.eq]; rfl
theorem Nul.only {w : World} {g j : Nat} {v : Value} (h : Nul w g) (hc : w.cell? ⟨g, j, none⟩ = some v) : v = .slice none 0 0 := by
  rw [h.row.cell, h.eq] at hc
  cases j with
  | zero => exact (Option.some.inj hc).symm
  | succ j => cases hc
def SRel.nl (B : Nat) : SRel := ⟨fun v w => ∃ g, v = .pointer (some ⟨g, 0, none⟩) ∧ B ≤ g ∧ Nul w g, fun _ _ _ hb ⟨g, h1, h2, h3⟩ => ⟨g, h1, h2, h3.step hb⟩⟩
/-- A number's digits lie elsewhere. -/
theorem IsN.away {w : World} {v : Value} {n g : Nat} (h : IsN w v n) (hg : Nul w g) (u : Value) : IsN (w.setCell ⟨g, 0, none⟩ u) v n := by
  obtain ⟨A, l, c, e, hD, hG⟩ := h
  refine ⟨A, l, c, e, ⟨fun j x hx => ?_, hD.sm, hD.le, hD.mx⟩, hG⟩
  obtain ⟨ad, e1, hl, hc⟩ := hD.rd j x hx
  refine ⟨ad, e1, by simpa using hl, ?_⟩
  rw [← hc]
  refine World.cell?_setCell_other w ⟨g, 0, none⟩ (ad.add j) u fun e2 => ?_
  have hx2 : ∃ d : Nat, x = .int .i64 (d : Nat) := by
    unfold digV at hx
    rw [List.getElem?_map] at hx
    cases h3 : l[j]? with
    | none => rw [h3] at hx; cases hx
    | some d =>
      rw [h3] at hx
      exact ⟨d, by simpa using hx.symm⟩
  obtain ⟨d, rfl⟩ := hx2
  rw [← e2, hg.cell] at hc
  cases hc
theorem sum_wide {a b j m : Nat} (ha : a < 2 ^ j) (hb : b < 2 ^ j) (h : j + 1 ≤ m) : a + b < 2 ^ m := by
  have := Nat.pow_le_pow_right (show 0 < 2 by omega) h
  rw [Nat.pow_succ] at this
  omega
theorem neqS (f : Nat → Nat) (w : World) : (binOp .neq 27 (.agg (arrK .u64 4 f)) (.agg (arrK .u64 4 f))).run Try.prog w = .ok (.bool false) w := by
  rw [run_neq_arrK Try.underlying27 Try.underlying25 (by kernel_rfl)]
  simp
theorem eqlS (f : Nat → Nat) (w : World) : (binOp .eql 27 (.agg (arrK .u64 4 f)) (.agg (arrK .u64 4 f))).run Try.prog w = .ok (.bool true) w := by
  rw [run_eql_arrK Try.underlying27 Try.underlying25 (by kernel_rfl)]
  simp
end Go.Proofs.Ytgdiokklfihfoaa
namespace Go.Proofs.Ytgdiokklfihfoaa
/-- A prime number. -/
def Pr (p : Nat) : Prop := 1 < p ∧ ∀ d, d ∣ p → d = 1 ∨ d = p
theorem Pr.cop {p n : Nat} (h : Pr p) (hn : ¬ p ∣ n) : Nat.Coprime p n := by
  rcases h.2 _ (Nat.gcd_dvd_left p n) with h1 | h1
  · exact h1
  · exact absurd (h1 ▸ Nat.gcd_dvd_right p n) hn
theorem Pr.dvd {p m n : Nat} (h : Pr p) (hd : p ∣ m * n) : p ∣ m ∨ p ∣ n := by
  by_cases hm : p ∣ m
  · exact .inl hm
  · exact .inr ((h.cop hm).dvd_of_dvd_mul_left hd)
/-! Binomials. -/
def ch : Nat → Nat → Nat
  | _, 0 => 1
  | 0, _ + 1 => 0
  | n + 1, k + 1 => ch n k + ch n (k + 1)
theorem ch_zero (n : Nat) : ch n 0 = 1 := by cases n <;> rfl
theorem ch_over : ∀ n k, n < k → ch n k = 0
  | 0, k + 1, _ => rfl
  | n + 1, k + 1, h => by rw [ch, ch_over n k (by omega), ch_over n (k + 1) (by omega)]
theorem ch_self : ∀ n, ch n n = 1
  | 0 => rfl
  | n + 1 => by rw [ch, ch_self n, ch_over n (n + 1) (by omega)]
theorem ch_mul : ∀ n k, (k + 1) * ch (n + 1) (k + 1) = (n + 1) * ch n k
  | 0, 0 => rfl
  | 0, k + 1 => by simp [ch]
  | n + 1, 0 => by
    have h := ch_mul n 0
    have e : ch (n + 1 + 1) (0 + 1) = ch (n + 1) 0 + ch (n + 1) (0 + 1) := rfl
    rw [e, ch_zero]
    rw [ch_zero] at h
    omega
  | n + 1, j + 1 => by
    have h1 := ch_mul n j
    have h2 := ch_mul n (j + 1)
    have e1 : ch (n + 1) (j + 1) = ch n j + ch n (j + 1) := rfl
    have e2 : ch (n + 1 + 1) (j + 1 + 1) = ch (n + 1) (j + 1) + ch (n + 1) (j + 1 + 1) := rfl
    rw [e2]
    generalize ch (n + 1) (j + 1 + 1) = x at *
    generalize ch (n + 1) (j + 1) = y at *
    generalize ch n j = z at *
    generalize ch n (j + 1) = t at *
    grind
def bs (n a : Nat) : Nat → Nat
  | 0 => 0
  | k + 1 => bs n a k + ch n k * a ^ k
theorem bs_succ (n a : Nat) : ∀ k, bs (n + 1) a (k + 1) = a * bs n a k + bs n a (k + 1)
  | 0 => by simp [bs, ch_zero]
  | k + 1 => by
    have ih := bs_succ n a k
    have e1 : bs (n + 1) a (k + 1 + 1) = bs (n + 1) a (k + 1) + ch (n + 1) (k + 1) * a ^ (k + 1) := rfl
    have e2 : bs n a (k + 1 + 1) = bs n a (k + 1) + ch n (k + 1) * a ^ (k + 1) := rfl
    have e3 : bs n a (k + 1) = bs n a k + ch n k * a ^ k := rfl
    have e4 : ch (n + 1) (k + 1) = ch n k + ch n (k + 1) := rfl
    rw [e1, ih, e2, e4, Nat.pow_succ]
    generalize ch n k = x at *
    generalize ch n (k + 1) = y at *
    generalize a ^ k = z at *
    generalize bs n a (k + 1) = s at *
    generalize bs n a k = t at *
    grind
theorem binom (a : Nat) : ∀ n, (a + 1) ^ n = bs n a (n + 1)
  | 0 => by simp [bs, ch]
  | n + 1 => by
    rw [Nat.pow_succ, binom a n, bs_succ]
    have e : bs n a (n + 1 + 1) = bs n a (n + 1) + ch n (n + 1) * a ^ (n + 1) := rfl
    rw [e, ch_over n (n + 1) (by omega), Nat.zero_mul, Nat.mul_add, Nat.mul_one, Nat.mul_comm]
    rfl
theorem ch_dvd {p k : Nat} (h : Pr p) (h0 : 0 < k) (hk : k < p) : p ∣ ch p k := by
  obtain ⟨n, rfl⟩ : ∃ n, p = n + 1 := ⟨p - 1, by omega⟩
  obtain ⟨j, rfl⟩ : ∃ j, k = j + 1 := ⟨k - 1, by omega⟩
  have h1 := ch_mul n j
  have h2 : n + 1 ∣ (j + 1) * ch (n + 1) (j + 1) := ⟨_, h1⟩
  rcases h.dvd h2 with h3 | h3
  · exact absurd (Nat.le_of_dvd (by omega) h3) (by omega)
  · exact h3
theorem bs_mod {p : Nat} (h : Pr p) (a : Nat) : ∀ k, k < p → ∃ m, bs p a (k + 1) = 1 + p * m
  | 0, _ => ⟨0, by simp [bs, ch_zero]⟩
  | k + 1, hk => by
    obtain ⟨m, hm⟩ := bs_mod h a k (by omega)
    obtain ⟨c, hc⟩ := ch_dvd h (k := k + 1) (by omega) hk
    refine ⟨m + c * a ^ (k + 1), ?_⟩
    have e : bs p a (k + 1 + 1) = bs p a (k + 1) + ch p (k + 1) * a ^ (k + 1) := rfl
    rw [e, hm, hc, Nat.mul_add, Nat.mul_assoc, Nat.add_assoc]
/-- Fermat's law. -/
theorem fermat {p : Nat} (h : Pr p) : ∀ a, a ^ p % p = a % p
  | 0 => by rw [Nat.zero_pow (by have := h.1; omega)]
  | a + 1 => by
    have hp := h.1
    obtain ⟨m, hm⟩ := bs_mod h a (p - 1) (by omega)
    have e : bs p a (p + 1) = bs p a p + ch p p * a ^ p := rfl
    rw [show p - 1 + 1 = p by omega] at hm
    rw [binom, e, hm, ch_self, Nat.one_mul, Nat.add_right_comm, Nat.add_mul_mod_self_left, Nat.add_mod, fermat h a, ← Nat.add_mod, Nat.add_comm]
theorem fermat1 {p a : Nat} (h : Pr p) (ha : ¬ p ∣ a) : a ^ (p - 1) % p = 1 := by
  have hp := h.1
  have h1 := fermat h a
  have hpos : 0 < a := by
    rcases Nat.eq_zero_or_pos a with h0 | h0
    · exact absurd (h0 ▸ Nat.dvd_zero p) ha
    · exact h0
  have h2 : a ^ p = a * a ^ (p - 1) := by
    conv => lhs; rw [show p = p - 1 + 1 by omega, Nat.pow_succ]
    exact Nat.mul_comm _ _
  have h3 : 0 < a ^ (p - 1) := Nat.pow_pos hpos
  have h4 : p ∣ a * (a ^ (p - 1) - 1) := by
    rw [Nat.mul_sub, Nat.mul_one, ← h2]
    exact Nat.dvd_of_mod_eq_zero (Nat.sub_mod_eq_zero_of_mod_eq h1)
  have h5 : p ∣ a ^ (p - 1) - 1 := (h.cop ha).dvd_of_dvd_mul_left h4
  obtain ⟨k, hk⟩ := h5
  rw [show a ^ (p - 1) = 1 + p * k by omega, Nat.add_mul_mod_self_left, Nat.mod_eq_of_lt hp]
/-! Pocklington's law. -/
theorem pow_gcd (p c m n : Nat) : c ^ m % p = 1 % p → c ^ n % p = 1 % p → c ^ Nat.gcd m n % p = 1 % p := by
  induction m, n using Nat.gcd.induction with
  | H0 n => intro _ h; rwa [Nat.gcd_zero_left]
  | H1 m n hm ih =>
    intro h1 h2
    rw [Nat.gcd_rec]
    refine ih ?_ h1
    have h3 : c ^ (m * (n / m)) % p = 1 % p := by rw [Nat.pow_mul, Nat.pow_mod, h1, ← Nat.pow_mod, Nat.one_pow]
    have h4 : c ^ n = c ^ (m * (n / m)) * c ^ (n % m) := by rw [← Nat.pow_add, Nat.div_add_mod]
    rw [h4, Nat.mul_mod, h3, ← Nat.mul_mod, Nat.one_mul] at h2
    exact h2
theorem pock1 {N s m a p : Nat} (hs : Pr s) (hN : N - 1 = s * m) (hN1 : 1 < N) (h1 : a ^ (N - 1) % N = 1) (h2 : Nat.gcd (a ^ m % N + N - 1) N = 1) (hp : Pr p) (hd : p ∣ N) : s ∣ p - 1 := by
  have hp1 := hp.1
  refine Classical.byContradiction fun hn => ?_
  have hg := hs.cop hn
  have e1 : (a ^ m) ^ s % p = 1 % p := by
    rw [← Nat.pow_mul, Nat.mul_comm, ← hN, ← Nat.mod_mod_of_dvd _ hd, h1]
  have hc : ¬ p ∣ a ^ m := fun hc => by
    have h3 : p ∣ (a ^ m) ^ s := Nat.dvd_trans hc ⟨(a ^ m) ^ (s - 1), by rw [Nat.mul_comm, ← Nat.pow_succ]; congr 1; have := hs.1; omega⟩
    rw [Nat.mod_eq_zero_of_dvd h3, Nat.mod_eq_of_lt hp1] at e1
    omega
  have e2 : (a ^ m) ^ (p - 1) % p = 1 % p := by rw [fermat1 hp hc, Nat.mod_eq_of_lt hp1]
  have e3 := pow_gcd p (a ^ m) s (p - 1) e1 e2
  rw [hg, Nat.pow_one] at e3
  have h3 : p ∣ a ^ m % N + N - 1 := by
    obtain ⟨k, hk⟩ := hd
    have h4 : (a ^ m % N) % p = 1 % p := by rw [Nat.mod_mod_of_dvd _ ⟨k, hk⟩, e3]
    rw [Nat.mod_eq_of_lt hp1] at h4
    refine Nat.dvd_of_mod_eq_zero ?_
    have h5 := Nat.mod_add_div (a ^ m % N) p
    rw [h4] at h5
    rw [show a ^ m % N + N - 1 = p * (a ^ m % N / p) + p * k by omega, ← Nat.mul_add, Nat.mul_mod_right]
  have h4 := Nat.dvd_gcd h3 hd
  rw [h2] at h4
  have := Nat.le_of_dvd (by omega) h4
  omega
theorem exists_pr : ∀ n, 1 < n → ∃ p, Pr p ∧ p ∣ n := fun n => by
  induction n using Nat.strongRecOn with
  | ind n ih =>
    intro hn
    by_cases h : ∃ d, d ∣ n ∧ d ≠ 1 ∧ d ≠ n
    · obtain ⟨d, hd, h1, h2⟩ := h
      have hle := Nat.le_of_dvd (by omega) hd
      have h0 : d ≠ 0 := fun h0 => by subst h0; have := Nat.eq_zero_of_zero_dvd hd; omega
      obtain ⟨p, hp, hpd⟩ := ih d (by omega) (by omega)
      exact ⟨p, hp, Nat.dvd_trans hpd hd⟩
    · refine ⟨n, ⟨hn, fun d hd => ?_⟩, Nat.dvd_refl n⟩
      refine Classical.byContradiction fun hc => h ⟨d, hd, fun h => hc (.inl h), fun h => hc (.inr h)⟩
theorem pr_of {N F : Nat} (hN : 1 < N) (hF : N < (F + 1) * (F + 1)) (h : ∀ p, Pr p → p ∣ N → F < p) : Pr N := by
  refine ⟨hN, fun d hd => ?_⟩
  refine Classical.byContradiction fun hc => ?_
  have hd1 : d ≠ 1 := fun h => hc (.inl h)
  have hdN : d ≠ N := fun h => hc (.inr h)
  obtain ⟨e, he⟩ := hd
  have hd0 : d ≠ 0 := fun h0 => by subst h0; rw [Nat.zero_mul] at he; omega
  have he1 : e ≠ 1 := fun h1 => by subst h1; rw [Nat.mul_one] at he; exact hdN he.symm
  have he0 : e ≠ 0 := fun h0 => by subst h0; rw [Nat.mul_zero] at he; omega
  obtain ⟨p, hp, hpd⟩ := exists_pr d (by omega)
  obtain ⟨q, hq, hqe⟩ := exists_pr e (by omega)
  have l1 := h p hp (he ▸ Nat.dvd_trans hpd (Nat.dvd_mul_right d e))
  have l2 := h q hq (he ▸ Nat.dvd_trans hqe (Nat.dvd_mul_left e d))
  have l3 := Nat.le_of_dvd (by omega) hpd
  have l4 := Nat.le_of_dvd (by omega) hqe
  have l5 : (F + 1) * (F + 1) ≤ d * e := Nat.mul_le_mul (by omega) (by omega)
  omega
theorem pr_small {N k : Nat} (hN : 1 < N) (hk : N < (k + 1) * (k + 1)) (h : (List.range (k + 1)).all (fun d => decide (d ≤ 1) || N % d != 0) = true) : Pr N := by
  refine pr_of hN hk fun p hp hd => ?_
  refine Classical.byContradiction fun hc => ?_
  have h1 := List.all_eq_true.1 h p (List.mem_range.2 (by omega))
  have hp1 := hp.1
  rw [decide_eq_false (by omega), Bool.false_or, bne_iff_ne] at h1
  exact h1 (Nat.mod_eq_zero_of_dvd hd)
/-! Powers, by squaring. -/
def pwm (N a : Nat) : Nat → Nat → Nat
  | 0, _ => 1
  | f + 1, n => if n % 2 = 0 then (pwm N a f (n / 2)) ^ 2 % N else ((pwm N a f (n / 2)) ^ 2 % N) * a % N
theorem pwm_is (N a : Nat) : ∀ f n, n < 2 ^ f → pwm N a f n % N = a ^ n % N
  | 0, n, h => by
    have : n = 0 := by rw [Nat.pow_zero] at h; omega
    subst this; rfl
  | f + 1, n, h => by
    have ih := pwm_is N a f (n / 2) (by rw [Nat.pow_succ] at h; omega)
    unfold pwm
    split
    · rename_i h0
      rw [Nat.mod_mod, Nat.pow_mod, ih, ← Nat.pow_mod, ← Nat.pow_mul, show n / 2 * 2 = n by omega]
    · rename_i h0
      rw [Nat.mod_mod, Nat.mod_mul_mod, Nat.mul_mod, Nat.pow_mod, ih, ← Nat.pow_mod, ← Nat.mul_mod, ← Nat.pow_mul, ← Nat.pow_succ, show (n / 2 * 2).succ = n by omega]
theorem pock_of {N s m p : Nat} (a : Nat) (hs : Pr s) (hN : (N - 1 == s * m && decide (1 < N) && decide (N < 2 ^ 256) && pwm N a 256 (N - 1) % N == 1 && Nat.gcd (pwm N a 256 m % N + N - 1) N == 1 && decide (m < 2 ^ 256)) = true) (hp : Pr p) (hd : p ∣ N) : s ∣ p - 1 := by
  simp only [Bool.and_eq_true, beq_iff_eq, decide_eq_true_eq] at hN
  obtain ⟨⟨⟨⟨⟨h1, h2⟩, h3⟩, h4⟩, h5⟩, h6⟩ := hN
  rw [pwm_is N a 256 (N - 1) (by omega)] at h4
  rw [pwm_is N a 256 m h6] at h5
  exact pock1 hs h1 h2 h4 h5 hp hd
theorem pr_one {N s : Nat} (hN : 1 < N) (hF : N < (s + 1) * (s + 1)) (h : ∀ p, Pr p → p ∣ N → s ∣ p - 1) : Pr N := pr_of hN hF fun p hp hd => by
  have := hp.1
  have := Nat.le_of_dvd (by omega) (h p hp hd)
  omega
theorem pr_two {N s t : Nat} (hN : 1 < N) (hc : Nat.gcd s t = 1) (hF : N < (s * t + 1) * (s * t + 1)) (h1 : ∀ p, Pr p → p ∣ N → s ∣ p - 1) (h2 : ∀ p, Pr p → p ∣ N → t ∣ p - 1) : Pr N := pr_of hN hF fun p hp hd => by
  have := hp.1
  have := Nat.le_of_dvd (by omega) (Nat.Coprime.mul_dvd_of_dvd_of_dvd hc (h1 p hp hd) (h2 p hp hd))
  omega
theorem pr_991 : Pr 991 := pr_small (k := 31) (by decide) (by decide) (by decide +kernel)
theorem pr_103 : Pr 103 := pr_small (k := 10) (by decide) (by decide) (by decide +kernel)
theorem pr_8574133 : Pr 8574133 := pr_two (s := 991) (t := 103) (by decide +kernel) (by decide +kernel) (by decide +kernel) (fun _ hp hd => pock_of (s := 991) (m := 8652) 2 pr_991 (by decide +kernel) hp hd) (fun _ hp hd => pock_of (s := 103) (m := 83244) 2 pr_103 (by decide +kernel) hp hd)
theorem pr_127 : Pr 127 := pr_small (k := 11) (by decide) (by decide) (by decide +kernel)
theorem pr_1919519569386763 : Pr 1919519569386763 := pr_two (s := 8574133) (t := 127) (by decide +kernel) (by decide +kernel) (by decide +kernel) (fun _ hp hd => pock_of (s := 8574133) (m := 223873314) 2 pr_8574133 (by decide +kernel) hp hd) (fun _ hp hd => pock_of (s := 127) (m := 15114327318006) 2 pr_127 (by decide +kernel) hp hd)
theorem pr_569003 : Pr 569003 := pr_small (k := 754) (by decide) (by decide) (by decide +kernel)
theorem pr_2773320623 : Pr 2773320623 := pr_one (s := 569003) (by decide +kernel) (by decide +kernel) (fun _ hp hd => pock_of (s := 569003) (m := 4874) 2 pr_569003 (by decide +kernel) hp hd)
theorem pr_72106336199 : Pr 72106336199 := pr_one (s := 2773320623) (by decide +kernel) (by decide +kernel) (fun _ hp hd => pock_of (s := 2773320623) (m := 26) 2 pr_2773320623 (by decide +kernel) hp hd)
theorem prb_543864801 : Pr 75445702479781427272750846543864801 := pr_two (s := 1919519569386763) (t := 72106336199) (by decide +kernel) (by decide +kernel) (by decide +kernel) (fun _ hp hd => pock_of (s := 1919519569386763) (m := 39304471641247389600) 2 pr_1919519569386763 (by decide +kernel) hp hd) (fun _ hp hd => pock_of (s := 72106336199) (m := 1046311689884858398375200) 2 pr_72106336199 (by decide +kernel) hp hd)
theorem pr_430751 : Pr 430751 := pr_small (k := 656) (by decide) (by decide) (by decide +kernel)
theorem pr_4153 : Pr 4153 := pr_small (k := 64) (by decide) (by decide) (by decide +kernel)
theorem pr_31757755568855353 : Pr 31757755568855353 := pr_two (s := 430751) (t := 4153) (by decide +kernel) (by decide +kernel) (by decide +kernel) (fun _ hp hd => pock_of (s := 430751) (m := 73726481352) 2 pr_430751 (by decide +kernel) hp hd) (fun _ hp hd => pock_of (s := 4153) (m := 7646943310584) 2 pr_4153 (by decide +kernel) hp hd)
theorem prb_754340907 : Pr 74058212732561358302231226437062788676166966415465897661863160754340907 := pr_two (s := 75445702479781427272750846543864801) (t := 31757755568855353) (by decide +kernel) (by decide +kernel) (by decide +kernel) (fun _ hp hd => pock_of (s := 75445702479781427272750846543864801) (m := 981609426360740691344999861639072106) 2 prb_543864801 (by decide +kernel) hp hd) (fun _ hp hd => pock_of (s := 31757755568855353) (m := 2331972502653487852620185443007392165117953542933313402) 2 pr_31757755568855353 (by decide +kernel) hp hd)
theorem prb_564819949 : Pr 57896044618658097711785492504343953926634992332820282019728792003956564819949 := pr_one (s := 74058212732561358302231226437062788676166966415465897661863160754340907) (by decide +kernel) (by decide +kernel) (fun _ hp hd => pock_of (s := 74058212732561358302231226437062788676166966415465897661863160754340907) (m := 781764) 2 prb_754340907 (by decide +kernel) hp hd)
theorem fP_pr : Pr fP := (show fP = 57896044618658097711785492504343953926634992332820282019728792003956564819949 by decide +kernel) ▸ prb_564819949
/-- The order of the group. -/
def fL : Nat := 2 ^ 252 + 27742317777372353535851937790883648493
theorem pr_2551 : Pr 2551 := pr_small (k := 50) (by decide) (by decide) (by decide +kernel)
theorem pr_1224481 : Pr 1224481 := pr_one (s := 2551) (by decide +kernel) (by decide +kernel) (fun _ hp hd => pock_of (s := 2551) (m := 480) 2 pr_2551 (by decide +kernel) hp hd)
theorem pr_531581 : Pr 531581 := pr_small (k := 729) (by decide) (by decide) (by decide +kernel)
theorem pr_1257559732178653 : Pr 1257559732178653 := pr_two (s := 1224481) (t := 531581) (by decide +kernel) (by decide +kernel) (by decide +kernel) (fun _ hp hd => pock_of (s := 1224481) (m := 1027014492) 2 pr_1224481 (by decide +kernel) hp hd) (fun _ hp hd => pock_of (s := 531581) (m := 2365697292) 2 pr_531581 (by decide +kernel) hp hd)
theorem pr_4434155615661930479 : Pr 4434155615661930479 := pr_one (s := 1257559732178653) (by decide +kernel) (by decide +kernel) (fun _ hp hd => pock_of (s := 1257559732178653) (m := 3526) 2 pr_1257559732178653 (by decide +kernel) hp hd)
theorem prb_258510691 : Pr 172054593956031949258510691 := pr_one (s := 4434155615661930479) (by decide +kernel) (by decide +kernel) (fun _ hp hd => pock_of (s := 4434155615661930479) (m := 38802110) 2 pr_4434155615661930479 (by decide +kernel) hp hd)
theorem prb_130476339 : Pr 19757330305831588566944191468367130476339 := pr_one (s := 172054593956031949258510691) (by decide +kernel) (by decide +kernel) (fun _ hp hd => pock_of (s := 172054593956031949258510691) (m := 114831751082918) 2 prb_258510691 (by decide +kernel) hp hd)
theorem prb_826668747 : Pr 276602624281642239937218680557139826668747 := pr_one (s := 19757330305831588566944191468367130476339) (by decide +kernel) (by decide +kernel) (fun _ hp hd => pock_of (s := 19757330305831588566944191468367130476339) (m := 14) 2 prb_130476339 (by decide +kernel) hp hd)
theorem prb_454250989 : Pr 7237005577332262213973186563042994240857116359379907606001950938285454250989 := pr_one (s := 276602624281642239937218680557139826668747) (by decide +kernel) (by decide +kernel) (fun _ hp hd => pock_of (s := 276602624281642239937218680557139826668747) (m := 26163907866482859529727157400808004) 2 prb_826668747 (by decide +kernel) hp hd)
theorem fL_pr : Pr fL := (show fL = 7237005577332262213973186563042994240857116359379907606001950938285454250989 by decide +kernel) ▸ prb_454250989
theorem pow_P {u : Nat} (h : u % fP ≠ 0) : u ^ (fP - 1) % fP = 1 := fermat1 fP_pr fun hd => h (Nat.mod_eq_zero_of_dvd hd)
end Go.Proofs.Ytgdiokklfihfoaa
namespace Go.Proofs.Ytgdiokklfihfoaa
open Go.ChangeShapes Go.WideShapes Go.ChangeAt Go.RowKit
set_option maxHeartbeats 2000000
set_option maxRecDepth 100000
def twoW : Nat → Nat := fun i => if i = 0 then 6346243789798364141 else 1503914060200516822
theorem twoW_val : wval twoW 2 = 27742317777372353535851937790883648493 := by decide +kernel
theorem fL_sum : 2 ^ 252 + 27742317777372353535851937790883648493 = fL := rfl
theorem two_lit : #[Value.int IntKind.u64 6346243789798364141, Value.int IntKind.u64 1503914060200516822] = arrK .u64 2 twoW := by kernel_rfl
theorem ref_Prime (w : World) : Calls Try.prog 63 #[] w (RetN fL w) := by
  have kT := Lib.hid (fun V => ref_TwoTo 252 V (by omega))
  have kD := Lib.hid (fun (V : World) g (h : At V g .u64 2 twoW) => by
    obtain ⟨cs, t, hg, hs⟩ := h.row
    have hcs : cs = arrK .u64 2 twoW := by rw [← h.eq]; simp [rowAt, hg]
    have k := ref_Digits (some ⟨g, 0, none⟩) 2 2 twoW V (by rw [← hcs]; exact Rd.of_blk hg h.lt) (by omega) (by omega) (by omega) (fun i _ => by unfold twoW; split <;> omega)
    rw [twoW_val] at k
    exact k)
  have hsm : (2 : Nat) ^ 252 < 2 ^ 253 := Nat.pow_lt_pow_right (by omega) (by omega)
  have hs2 : 27742317777372353535851937790883648493 < 2 ^ 253 := by decide +kernel
  rw [← fL_sum]
  obtain ⟨P, hP⟩ : ∃ P, (2 : Nat) ^ 252 = P := ⟨_, rfl⟩
  obtain ⟨D, hD⟩ : ∃ P, 27742317777372353535851937790883648493 = P := ⟨_, rfl⟩
  rw [hP] at kT hsm ⊢
  rw [hD] at kD hs2 ⊢
  have kS := Lib.hid (fun V v u (hv : IsN V v P) (hu : IsN V u D) => plusN V (hv.toV (lt_big hsm (by omega))) (hu.toV (lt_big hs2 (by omega))))
  clear hD hP hsm hs2
  go_enter Try.func63, Try.ntmps63
  go_wp2_with fail
  refine (show Calls _ _ #[Value.int IntKind.i64 252] w _ from kT.out _).mono ?_
  rintro e w2 ⟨v, rfl, hv, hb⟩
  have hV := Lib.hid hv
  have hL := Lib.hid hb
  clear hv hb kT
  dsimp only
  go_wp2_with fail
  rw [two_lit]
  refine (kD.out _ _ (At.new (w := w2) (k := .u64) (m := 2) (f := twoW) 25 rfl)).mono ?_
  rintro e w3 ⟨u, rfl, hu, hb⟩
  have hb2 := (below_alloc w2 (Obj.cells (arrK .u64 2 twoW) 25)).trans (hb.mono (by simp))
  have hV2 := Lib.hid (hV.out.step hb2)
  have hU := Lib.hid hu
  have hL2 := Lib.hid (below_step hb2 hL.out (Nat.le_refl _))
  clear hu hb hb2 hV hL kD
  dsimp only
  go_wp2_with fail
  refine (kS.out _ _ _ hV2.out hU.out).mono ?_
  rintro e w4 ⟨x, rfl, hx, hb⟩
  have hX := Lib.hid hx
  have hL3 := Lib.hid (below_step hb hL2.out (Nat.le_refl _))
  clear hx hb hL2 hU hV2 kS
  dsimp only
  go_wp2_with fail
  go_ret
  exact ⟨x, rfl, hX.out, hL3.out⟩
theorem IsN.one1 (w : World) (t : TypeId) : IsN (w.alloc (.cells #[.int .i64 ((1 : Nat) : Int)] t)) (.slice (some ⟨w.heap.size, 0, none⟩) 1 1) 1 :=
  ⟨some ⟨w.heap.size, 0, none⟩, [1], 1, rfl, ⟨Rd.of_blk (cs := #[.int .i64 ((1 : Nat) : Int)]) (push_new _ _) (by simp), Sm.one (by omega), by simp, by omega⟩, ⟨⟨Sm.one (by omega), val_one 1⟩, by simp⟩⟩
theorem pw_bit (a n m s x y : Nat) (hx : x = a ^ (n % 2 ^ s) % m) (hy : y = a ^ 2 ^ s % m) : (n / 2 ^ s % 2 = 0 → x = a ^ (n % 2 ^ (s + 1)) % m) ∧ (n / 2 ^ s % 2 = 1 → x * y % m = a ^ (n % 2 ^ (s + 1)) % m) ∧ y * y % m = a ^ 2 ^ (s + 1) % m := by
  have h : n % 2 ^ (s + 1) = n % 2 ^ s + n / 2 ^ s % 2 * 2 ^ s := by rw [Nat.pow_succ, Nat.mod_mul, Nat.mul_comm (2 ^ s) (n / 2 ^ s % 2)]
  refine ⟨fun hb => ?_, fun hb => ?_, ?_⟩
  · rw [h, hb, Nat.zero_mul, Nat.add_zero]; exact hx
  · rw [h, hb, Nat.one_mul, Nat.pow_add, hx, hy, ← Nat.mul_mod]
  · rw [hy, ← Nat.mul_mod, Nat.pow_succ, Nat.mul_two, Nat.pow_add]
theorem powerN {u v x : Value} {a n m k j : Nat} (w : World) (hu : IsN w u a) (ha : a < 2 ^ k) (hk : k ≤ 160000) (hv : IsN w v n) (hn : n < big) (hx : IsV w x m) (hm1 : 0 < m) (hmj : m < 2 ^ j) (hj : j ≤ 1000) :
    Calls Try.prog 38 #[u, v, x] w (RetN (a ^ n % m) w) := by
  obtain ⟨A, l, c, rfl, hD, hG⟩ := hv
  have hll : l.length ≤ 10000 := lt_len hG hn
  have hval : val l = n := hG.val
  have hnl : n < 2 ^ (16 * l.length) := by
    have h := val_lt hG.sm
    rw [hval, show (65536 : Nat) = 2 ^ 16 from rfl, ← Nat.pow_mul] at h
    exact h
  obtain ⟨uA, um, uc, rfl, -, -, -⟩ := hu.form
  obtain ⟨xA, xl, xc, rfl, hxD, hxv, hxl⟩ := hx
  have hmb : 65536 * m < big := mul_big (m := 17) (n := j) (by omega) hmj (by omega)
  have hXV := Lib.hid (fun V (h : Below w.heap.size w V) => show IsV V (.slice xA xl.length xc) m from ⟨xA, xl, xc, rfl, hxD.below h (Nat.le_refl _), hxv, hxl⟩)
  have kR1 := Lib.hid (fun V v (hv : IsN V v 1) (h : Below w.heap.size w V) => restN (k := 1) V hv (by omega) (by omega) (hXV.out V h) hm1 hmb)
  have kRa := Lib.hid (fun V v (hv : IsN V v a) (h : Below w.heap.size w V) => restN V hv ha hk (hXV.out V h) hm1 hmb)
  have kRm := Lib.hid (fun V v p q (hp : p < m) (hq : q < m) (hv : IsN V v (p * q)) (h : Below w.heap.size w V) => restN (k := j + j) V hv (by rw [Nat.pow_add]; exact Nat.mul_lt_mul'' (by omega) (by omega)) (by omega) (hXV.out V h) hm1 hmb)
  have kT := Lib.hid (fun V v1 v2 p q (hp : p < m) (hq : q < m) (h1 : IsN V v1 p) (h2 : IsN V v2 q) => timesN V (h1.toV (lt_big (k := j) (by omega) (by omega))) (h2.toV (lt_big (k := j) (by omega) (by omega))))
  obtain ⟨M, hM⟩ : ∃ m, 16 * l.length = m := ⟨_, rfl⟩
  have hm2 : M ≤ 160000 := by omega
  have kB := Lib.hid (fun V (h : Below w.heap.size w V) => ref_Bits A l c M V (hD.below h (Nat.le_refl _)) (by omega))
  rw [hval] at kB
  have hmi : (16 : Int) * (l.length : Int) = (M : Int) := by omega
  have hln : (l.length : Int) ≤ 10000 := by omega
  have hnm : n % 2 ^ M = n := by rw [← hM]; exact Nat.mod_eq_of_lt hnl
  have hend := Lib.hid (show a ^ (n % 2 ^ M) % m = a ^ n % m by rw [hnm])
  have hrd := Lib.hid (fun s x y hx hy => pw_bit a n m s x y hx hy)
  have hlm := Lib.hid (fun t => Nat.mod_lt t hm1)
  have hs0 := Lib.hid (show 1 % m = a ^ (n % 2 ^ 0) % m by rw [Nat.pow_zero, Nat.mod_one, Nat.pow_zero])
  have hs1 := Lib.hid (show a % m = a ^ 2 ^ 0 % m by rw [Nat.pow_zero, Nat.pow_one])
  have hab := Lib.hid (fun i => show n / 2 ^ i % 2 = 0 ∨ n / 2 ^ i % 2 = 1 by omega)
  have hUa := Lib.hid hu
  obtain ⟨bf, hbf⟩ : ∃ b, (fun i => n / 2 ^ i % 2) = b := ⟨_, rfl⟩
  have hbi : ∀ i, n / 2 ^ i % 2 = bf i := fun i => by rw [← hbf]
  unfold BitsR at kB
  rw [hbf] at kB
  simp only [hbi] at hrd hab
  obtain ⟨R, hR⟩ : ∃ R, a ^ n % m = R := ⟨_, rfl⟩
  rw [hR] at hend ⊢
  generalize l.length = ll at *
  generalize xl.length = xll at *
  clear hR hbf hbi hnm hxD hxv hxl hG hD hval hnl hM hll hn hu ha hk hmj hj hmb hXV
  have hw1 : Below w.heap.size w (w.alloc (.cells #[.int .i64 1] 3)) := below_alloc _ _
  go_enter Try.func38, Try.ntmps38
  go_wp2_with fail
  refine (kR1.out _ _ (IsN.one1 w 3) hw1).mono ?_
  rintro e w2 ⟨o1, rfl, ho1, hb⟩
  have hO := Lib.hid ho1
  have hL := Lib.hid (below_step hb hw1 (Nat.le_refl _))
  clear ho1 hb hw1 kR1
  dsimp only
  go_wp2_with fail
  refine (kRa.out _ _ (hUa.out.step hL.out) hL.out).mono ?_
  rintro e w3 ⟨a1, rfl, ha1, hb⟩
  have hA := Lib.hid ha1
  replace hO := Lib.hid (hO.out.step hb)
  replace hL := Lib.hid (below_step hb hL.out (Nat.le_refl _))
  clear ha1 hb kRa hUa
  dsimp only
  have ws : IntKind.i64.wrap ((M : Nat) : Int) = ((M : Nat) : Int) := by rw [IntKind.wrap_i64]; omega
  have kB2 := Lib.hid (kB.out _ hL.out)
  clear kB
  go_wp2_with fail
  refine (show Calls _ _ #[_, Value.int IntKind.i64 (M : Int)] w3 _ from kB2.out).mono ?_
  rintro e w4 ⟨g, rfl, hgR, hgE, hgs, hb⟩
  have hG := Lib.hid (show At w4 g .i64 M bf from ⟨hgR, hgE⟩)
  replace hO := Lib.hid (hO.out.step hb)
  replace hA := Lib.hid (hA.out.step hb)
  replace hL := Lib.hid (below_step hb hL.out (Nat.le_refl _))
  clear hgR hgE hgs hb kB2 ws
  dsimp only
  go_upto_region 4 with (fail)
  go_loopw [0, 7, 9, 22] (fun va vo vb vi wr => ∃ s p q : Nat, vi = .int .i64 (s : Nat) ∧ s ≤ M ∧ p < m ∧ q < m ∧ p = a ^ (n % 2 ^ s) % m ∧ q = a ^ 2 ^ s % m ∧ IsN wr vo p ∧ IsN wr va q ∧ At wr g .i64 M bf ∧ Below w.heap.size w wr) (fun _ _ _ vi _ => M - (intOf vi).toNat)
  case atStart => exact ⟨0, 1 % m, a % m, rfl, Nat.zero_le _, hlm.out _, hlm.out _, hs0.out, hs1.out, hO.out, hA.out, hG.out, hL.out⟩
  case round =>
    clear hO hA hG hL hs0 hs1
    obtain ⟨s, p, q, rfl, hs, hp, hq, hpe, hqe, hO0, hA0, hG0, hL0⟩ := hrel
    have hO := Lib.hid hO0
    have hA := Lib.hid hA0
    have hG := Lib.hid hG0
    have hL := Lib.hid hL0
    clear hO0 hA0 hG0 hL0
    obtain ⟨oA, om, oc, rfl, -, -, -⟩ := hO.out.form
    obtain ⟨aA, am, ac, rfl, -, -, -⟩ := hA.out.form
    by_cases hsm : s = M
    · subst hsm
      have hfin := Lib.hid (hpe.trans hend.out)
      clear hend hrd hab hpe hqe hp hq hG hA
      have d1 : decide ((s : Int) < (s : Int)) = false := by simp
      go_wp2_with fail
      go_ret
      exact ⟨_, rfl, hfin.out ▸ hO.out, hL.out⟩
    · have hslt : s < M := by omega
      have hr := hrd.out s p q hpe hqe
      have hr0 := Lib.hid hr.1
      have hr1 := Lib.hid hr.2.1
      have hr2 := Lib.hid hr.2.2
      have hab2 := hab.out s
      have c := hG.out.cell hslt
      have d1 : decide ((s : Int) < (M : Int)) = true := by simp; omega
      have d2 : (0 : Int) ≤ (s : Int) := by omega
      have d3 : (s : Int) < (M : Int) := by omega
      have w3 : IntKind.i64.wrap ((s : Int) + 1) = (s : Int) + 1 := by rw [IntKind.wrap_i64]; omega
      have hPe := Lib.hid hpe
      clear hr hpe hqe hsm
      rcases hab2 with hz | hz
      · have hfin := Lib.hid (hr0.out hz)
        rw [hz] at c
        clear hr0 hr1 hz
        go_wp2_with fail
        refine (kT.out _ _ _ q q hq hq hA.out hA.out).mono ?_
        rintro e w5 ⟨t, rfl, ht, hb⟩
        replace hO := Lib.hid (hO.out.step hb)
        replace hG := Lib.hid (hG.out.step hb)
        replace hL := Lib.hid (below_step hb hL.out (Nat.le_refl _))
        have hT := Lib.hid ht
        clear ht hb hA c
        dsimp only
        go_wp2_with fail
        refine (kRm.out _ _ q q hq hq hT.out hL.out).mono ?_
        rintro e w6 ⟨t2, rfl, ht, hb⟩
        replace hO := Lib.hid (hO.out.step hb)
        replace hG := Lib.hid (hG.out.step hb)
        replace hL := Lib.hid (below_step hb hL.out (Nat.le_refl _))
        have hT2 := Lib.hid ht
        clear ht hb hT
        dsimp only
        go_wp2_with fail
        go_roundw
        case rel => exact ⟨s + 1, p, q * q % m, by go_num, by omega, hp, hlm.out _, hfin.out, hr2.out, hO.out, hT2.out, hG.out, hL.out⟩
        case measure => simp [intOf]; omega
      · have hfin := Lib.hid (hr1.out hz)
        rw [hz] at c
        clear hr0 hr1 hz
        go_wp2_with fail
        refine (kT.out _ _ _ p q hp hq hO.out hA.out).mono ?_
        rintro e w5 ⟨t, rfl, ht, hb⟩
        replace hA := Lib.hid (hA.out.step hb)
        replace hG := Lib.hid (hG.out.step hb)
        replace hL := Lib.hid (below_step hb hL.out (Nat.le_refl _))
        have hT := Lib.hid ht
        clear ht hb hO c
        dsimp only
        go_wp2_with fail
        refine (kRm.out _ _ p q hp hq hT.out hL.out).mono ?_
        rintro e w6 ⟨t2, rfl, ht, hb⟩
        replace hA := Lib.hid (hA.out.step hb)
        replace hG := Lib.hid (hG.out.step hb)
        replace hL := Lib.hid (below_step hb hL.out (Nat.le_refl _))
        have hO := Lib.hid ht
        clear ht hb hT
        dsimp only
        go_wp2_with fail
        refine (kT.out _ _ _ q q hq hq hA.out hA.out).mono ?_
        rintro e w7 ⟨t3, rfl, ht, hb⟩
        replace hO := Lib.hid (hO.out.step hb)
        replace hG := Lib.hid (hG.out.step hb)
        replace hL := Lib.hid (below_step hb hL.out (Nat.le_refl _))
        have hT := Lib.hid ht
        clear ht hb hA
        dsimp only
        go_wp2_with fail
        refine (kRm.out _ _ q q hq hq hT.out hL.out).mono ?_
        rintro e w8 ⟨t4, rfl, ht, hb⟩
        replace hO := Lib.hid (hO.out.step hb)
        replace hG := Lib.hid (hG.out.step hb)
        replace hL := Lib.hid (below_step hb hL.out (Nat.le_refl _))
        have hT2 := Lib.hid ht
        clear ht hb hT
        dsimp only
        go_wp2_with fail
        go_roundw
        case rel => exact ⟨s + 1, p * q % m, q * q % m, by go_num, by omega, hlm.out _, hlm.out _, hfin.out, hr2.out, hO.out, hT2.out, hG.out, hL.out⟩
        case measure => simp [intOf]; omega
end Go.Proofs.Ytgdiokklfihfoaa
namespace Go.Proofs.Ytgdiokklfihfoaa
open Go.ChangeShapes Go.WideShapes Go.ChangeAt Go.RowKit
set_option maxHeartbeats 4000000
set_option maxRecDepth 100000
attribute [local go_sem ↓] load_fld load_num store_num execl_num execs_num load_wide store_wide execl_wide execs_wide
attribute [local go_sem] isHead_mk blkOf_mk isAgg_mk cellsV_mk row_drew rowAt_drew row_new_cells row_old rowAt_new rowAt_old setRow_new zeroNum zeroWide
/-- 'low' of the law. -/
theorem lowR_is (v m : Value) (M k j g : Nat) (w : World) (hM0 : 0 < M) (hM256 : M < 2 ^ 256) (hv : IsN w v k) (hk : k < 2 ^ j) (hj : j ≤ 1000) (hg : g < w.heap.size) (hc : w.cell? ⟨g, 0, none⟩ = some m) (hm : IsN w m M) :
    Calls Try.prog 26 #[v, .pointer (some ⟨g, 0, none⟩)] w fun e w' => e = .returned (numV (k % M)) ∧ Below w.heap.size w w' := by
  have kR := Lib.hid (fun V (h1 : IsN V v k) (h2 : IsN V m M) => restN V h1 hk (by omega) (h2.toV (lt_big hM256 (by omega))) hM0 (mul_big (m := 17) (n := 256) (by omega) hM256 (by omega)))
  have kT := Lib.hid (fun V u (h1 : IsN V u (k % M)) => toNumN V (h1.toV (lt_big (Nat.lt_trans (Nat.mod_lt _ hM0) hM256) (by omega))))
  have hcz := arrK_cells .u64 4 (wd 0)
  have hcr := arrK_cells .u64 4 (wd (k % M))
  obtain ⟨r, hr⟩ : ∃ r, k % M = r := ⟨_, rfl⟩
  rw [hr] at kR kT hcr ⊢
  unfold numV at kT ⊢
  have hL0 := below_alloc w (Obj.cells (arrK .u64 4 (wd 0)) 27)
  have hR := Lib.hid (show Row (w.alloc (Obj.cells (arrK .u64 4 (wd 0)) 27)) w.heap.size 4 from (row_new rfl).2 hcz.1)
  have hV := Lib.hid (hv.step hL0)
  have hM := Lib.hid (hm.step hL0)
  have hc2 := ((bcell hL0).1 g 0 hg).trans hc
  have hL := Lib.hid hL0
  obtain ⟨mA, mm, mc, rfl, -, -, -⟩ := hm.form
  obtain ⟨vA, vm, vc, rfl, -, -, -⟩ := hv.form
  clear hL0 hv hm hc hr hk hg hM0 hM256
  go_enter Try.func26, Try.ntmps26
  go_upto_region 1 with (fail)
  generalize w.alloc _ = W0 at *
  go_wp2_with fail
  refine (kR.out _ hV.out hM.out).mono ?_
  rintro e w2 ⟨u, rfl, hu, hb⟩
  replace hR := Lib.hid (row_below hR.out hb hR.out.lt)
  replace hL := Lib.hid (below_step hb hL.out (Nat.le_refl _))
  have hU := Lib.hid hu
  clear hb hu kR hV hM hc2
  dsimp only
  go_wp2_with fail
  refine (kT.out _ _ hU.out).mono ?_
  rintro e w3 ⟨rfl, hb⟩
  replace hR := Lib.hid (row_below hR.out hb hR.out.lt)
  replace hL := Lib.hid (below_step hb hL.out (Nat.le_refl _))
  clear hb kT hU
  dsimp only
  have hr3 := hR.out
  go_wp2_with fail
  refine ret_row (p := 3) (ty := 27) (g := w.heap.size) rfl Try.underlying27 rfl (by kernel_rfl) rfl ((row_setRow_same rfl hR.out).2 hcr.1) rfl ?_
  rw [rowAt_setRow_same hR.out]
  exact ⟨rfl, below_setRow hL.out (by omega)⟩
theorem mul_wideR {a b j k m : Nat} (ha : a < 2 ^ j) (hb : b < 2 ^ k) (h : j + k = m) : a * b < 2 ^ m := by rw [← h, Nat.pow_add]; exact Nat.mul_lt_mul'' ha hb
theorem rem_2 (x : Nat) : Int.tmod (x : Int) 2 = ((x % 2 : Nat) : Int) := by rw [Int.tmod_eq_emod_of_nonneg (by omega)]; omega
theorem ringTells (xm xa xb xn T kk : Nat) (w : World) (hm : xm < 2 ^ 256) (ha : xa < 2 ^ 256) (hb : xb < 2 ^ 256) (hn : xn < 2 ^ 256) (hkk : kk = 64 * 8) (hT : T < 2 ^ kk) :
    Calls Try.prog 5 #[numV xm, numV xa, numV xb, numV xn, wideV T] w fun e w' => e = .returned (.bool true) ∧ Below w.heap.size w w' := by
  have kNew := Lib.hid (fun V => ring_New xm V hm)
  obtain ⟨m0, hm0⟩ : ∃ x, wd xm 0 = x := ⟨_, rfl⟩
  have hml : m0 < 18446744073709551616 := hm0 ▸ wd_lt xm 0
  have hpar : m0 % 2 = xm % 2 := by rw [← hm0, wd0]; omega
  have hrem := rem_2 m0
  rw [hpar] at hrem
  have hBd := Lib.hid (And.intro hm (And.intro ha (And.intro hb (And.intro hn (And.intro hkk hT)))))
  unfold numV at kNew
  unfold numV wideV
  have hc0 := arrK_cells .u64 4 (wd 0)
  clear ha hb hn hkk hT
  have hL0 : Below w.heap.size w (((((w.alloc (Obj.cells (arrK .u64 4 (wd xm)) 27)).alloc (Obj.cells (arrK .u64 4 (wd xa)) 27)).alloc (Obj.cells (arrK .u64 4 (wd xb)) 27)).alloc (Obj.cells (arrK .u64 4 (wd xn)) 27)).alloc (Obj.cells (arrK .u64 8 (wd T)) 50)) := by go_grown
  have hZ0 : At (((((w.alloc (Obj.cells (arrK .u64 4 (wd xm)) 27)).alloc (Obj.cells (arrK .u64 4 (wd xa)) 27)).alloc (Obj.cells (arrK .u64 4 (wd xb)) 27)).alloc (Obj.cells (arrK .u64 4 (wd xn)) 27)).alloc (Obj.cells (arrK .u64 8 (wd T)) 50)) (w.heap.size) .u64 4 (wd xm) := ((((At.new _ (by simp)).old _).old _).old _).old _
  have hA0 : At (((((w.alloc (Obj.cells (arrK .u64 4 (wd xm)) 27)).alloc (Obj.cells (arrK .u64 4 (wd xa)) 27)).alloc (Obj.cells (arrK .u64 4 (wd xb)) 27)).alloc (Obj.cells (arrK .u64 4 (wd xn)) 27)).alloc (Obj.cells (arrK .u64 8 (wd T)) 50)) (w.heap.size + 1) .u64 4 (wd xa) := (((At.new _ (by simp)).old _).old _).old _
  have hB0 : At (((((w.alloc (Obj.cells (arrK .u64 4 (wd xm)) 27)).alloc (Obj.cells (arrK .u64 4 (wd xa)) 27)).alloc (Obj.cells (arrK .u64 4 (wd xb)) 27)).alloc (Obj.cells (arrK .u64 4 (wd xn)) 27)).alloc (Obj.cells (arrK .u64 8 (wd T)) 50)) (w.heap.size + 1 + 1) .u64 4 (wd xb) := ((At.new _ (by simp)).old _).old _
  have hN0 : At (((((w.alloc (Obj.cells (arrK .u64 4 (wd xm)) 27)).alloc (Obj.cells (arrK .u64 4 (wd xa)) 27)).alloc (Obj.cells (arrK .u64 4 (wd xb)) 27)).alloc (Obj.cells (arrK .u64 4 (wd xn)) 27)).alloc (Obj.cells (arrK .u64 8 (wd T)) 50)) (w.heap.size + 1 + 1 + 1) .u64 4 (wd xn) := (At.new _ (by simp)).old _
  have hW0 : At (((((w.alloc (Obj.cells (arrK .u64 4 (wd xm)) 27)).alloc (Obj.cells (arrK .u64 4 (wd xa)) 27)).alloc (Obj.cells (arrK .u64 4 (wd xb)) 27)).alloc (Obj.cells (arrK .u64 4 (wd xn)) 27)).alloc (Obj.cells (arrK .u64 8 (wd T)) 50)) (w.heap.size + 1 + 1 + 1 + 1) .u64 8 (wd T) := At.new _ (by simp)
  have hL := Lib.hid hL0
  have hZ := Lib.hid hZ0
  have hA := Lib.hid hA0
  have hB := Lib.hid hB0
  have hN := Lib.hid hN0
  have hW := Lib.hid hW0
  clear hL0 hZ0 hA0 hB0 hN0 hW0
  go_enter Try.func5, Try.ntmps5
  go_upto_region 1 with (fail)
  generalize ((((w.alloc _).alloc _).alloc _).alloc _).alloc _ = W0 at *
  have hr1 := hZ.out.row
  have hr2 := hZ.out.eq
  go_wp2_with fail
  refine (kNew.out _).mono ?_
  rintro e W1 ⟨hb1, hR⟩
  clear hr1 hr2 kNew
  replace hZ := Lib.hid (hZ.out.step hb1)
  replace hA := Lib.hid (hA.out.step hb1)
  replace hB := Lib.hid (hB.out.step hb1)
  replace hN := Lib.hid (hN.out.step hb1)
  replace hW := Lib.hid (hW.out.step hb1)
  replace hL := Lib.hid (below_step hb1 hL.out (Nat.le_refl _))
  clear hb1
  have cw := hZ.out.cell (i := 0) (by omega)
  rw [hm0] at cw
  have hr1 := hZ.out.row
  have hr2 := hZ.out.eq
  have kE0 := fun W => eqlNum (a := xm) (b := 1) hm (show 1 < 2 ^ 256 by decide +kernel) W
  rcases hR with ⟨hno, rfl⟩ | ⟨⟨ho, hn1⟩, g, o, s, v, rfl, hG, hOk⟩
  · dsimp only
    rcases Nat.mod_two_eq_zero_or_one xm with hev | hod
    · rw [hev] at hrem
      have hrem2 : Int.tmod (m0 : Int) 2 = 0 := hrem
      clear hrem kE0
      go_wp2_with fail
      exact ret_tmp (p := 10) (v := .bool true) rfl (by simp) rfl ⟨rfl, hL.out⟩
    · have h1 : xm = 1 := by
        rcases Nat.eq_or_lt_of_le (Nat.succ_le_of_lt (show 0 < xm by omega)) with h | h
        · omega
        · exact absurd ⟨hod, by omega⟩ hno
      rw [hod] at hrem
      have hrem2 : Int.tmod (m0 : Int) 2 = 1 := hrem
      rw [decide_eq_true h1] at kE0
      have kE := Lib.hid kE0
      clear hrem kE0 h1 hno
      go_wp2_with (first
        | refine wpList_opW (by go_simp) (fun K hK => wp_bldA rfl (vx := Value.int IntKind.u64 (1 : Int)) rfl (build_one _) (hK _ _ ?_))
        | refine wpList_opW (by go_simp) (fun K hK => wp_eqlA (.inr rfl) (by kernel_rfl) (v := arrK .u64 4 (wd xm)) (u := arrK .u64 4 (wd 1)) (by go_simp) (by go_simp) (kE.out _) (hK _ _ ?_)))
      exact ret_tmp (p := 10) (v := .bool true) rfl (by simp) rfl ⟨rfl, hL.out⟩
  · dsimp only
    rw [ho] at hrem
    have hrem2 : Int.tmod (m0 : Int) 2 = 1 := hrem
    rw [decide_eq_false hn1] at kE0
    have kE := Lib.hid kE0
    have hHG := Lib.hid hG
    have hHO := Lib.hid hOk
    clear hrem kE0 ho hn1 hG hOk
    go_upto_region 6 with (first
      | refine wpList_opW (by go_simp) (fun K hK => wp_bldA rfl (vx := Value.int IntKind.u64 (1 : Int)) rfl (build_one _) (hK _ _ ?_))
      | refine wpList_opW (by go_simp) (fun K hK => wp_eqlA (.inr rfl) (by kernel_rfl) (v := arrK .u64 4 (wd xm)) (u := arrK .u64 4 (wd 1)) (by go_simp) (by go_simp) (kE.out _) (hK _ _ ?_)))
    clear kE hm0 hml hpar hrem2 cw hr1 hr2
    obtain ⟨hm, ha, hb, hn, hkk, hT⟩ := hBd.out
    have kDm := Lib.hid (fun V => ref_OfNum xm V hm)
    have kDa := Lib.hid (fun V => ref_OfNum xa V ha)
    have kDb := Lib.hid (fun V => ref_OfNum xb V hb)
    unfold numV at kDm kDa kDb
    clear hm ha hb hn hkk hT
    generalize ha0 : Act.mk _ _ = a0
    have e5 : a0.tmps[5]?.getD undef = .pointer (some ⟨w.heap.size, 0, none⟩) := by rw [← ha0]; rfl
    have e6 : a0.tmps[6]?.getD undef = .pointer (some ⟨w.heap.size + 1, 0, none⟩) := by rw [← ha0]; rfl
    have e7 : a0.tmps[7]?.getD undef = .pointer (some ⟨w.heap.size + 1 + 1, 0, none⟩) := by rw [← ha0]; rfl
    have hz0 : a0.tmps.size = 140 := by rw [← ha0]; rfl
    have hha0 := Lib.hid ha0
    clear ha0
    refine wp_region_tailL (fun jx_ => match jx_ with | 0 => SRel.is (.agg (arrK .u64 4 (wd xm))) | 1 => SRel.bN xm | 2 => SRel.is (.agg (arrK .u64 4 (wd xa))) | 3 => SRel.bN xa | 4 => SRel.is (.agg (arrK .u64 4 (wd xb))) | 5 => SRel.bN xb | 6 => SRel.nl W1.heap.size | 7 => SRel.any | 8 => SRel.any | 9 => SRel.any | _ => SRel.any) 7 (by kernel_rfl) (by kernel_rfl) (by kernel_rfl) (slotsOk_of hz0 (by kernel_rfl)) (by kernel_rfl) (of_decide_eq_true (by kernel_rfl)) ⟨?_, ?_, ?_, ?_, ?_, ?_, ?_, trivial⟩ ?_
    · refine calmL_step rfl fun a ω κ hb hu hc hK => ?_
      have h5 : a.tmps[5]?.getD undef = .pointer (some ⟨w.heap.size, 0, none⟩) := (hu 5 rfl).trans e5
      have hk := Lib.hid (fun w1 (h : Below ω.heap.size ω w1) => hK (.agg (arrK .u64 4 (wd xm))) w1 rfl h)
      clear hK hu hc
      have hr1 := (hZ.out.step hb).row
      have hr2 := (hZ.out.step hb).eq
      go_simp
      exact hk.out _ (Below.refl _ _)
    · refine calmL_step rfl fun a ω κ hb hu hc hK => ?_
      have h44 : a.tmps[44]?.getD undef = .agg (arrK .u64 4 (wd xm)) := hc 0 44 rfl rfl
      have hk := Lib.hid (fun v w1 (hv : (SRel.bN xm).p v w1) (h : Below ω.heap.size ω w1) => hK v w1 hv h)
      clear hK hu hc
      go_simp
      go_at_call 25
      refine (kDm.out _).mono ?_
      rintro e w1 ⟨u, rfl, hu, hb1⟩
      exact hk.out _ _ hu hb1
    · refine calmL_step rfl fun a ω κ hb hu hc hK => ?_
      have h6 : a.tmps[6]?.getD undef = .pointer (some ⟨w.heap.size + 1, 0, none⟩) := (hu 6 rfl).trans e6
      have hk := Lib.hid (fun w1 (h : Below ω.heap.size ω w1) => hK (.agg (arrK .u64 4 (wd xa))) w1 rfl h)
      clear hK hu hc
      have hr1 := (hA.out.step hb).row
      have hr2 := (hA.out.step hb).eq
      go_simp
      exact hk.out _ (Below.refl _ _)
    · refine calmL_step rfl fun a ω κ hb hu hc hK => ?_
      have h46 : a.tmps[46]?.getD undef = .agg (arrK .u64 4 (wd xa)) := hc 2 46 rfl rfl
      have hk := Lib.hid (fun v w1 (hv : (SRel.bN xa).p v w1) (h : Below ω.heap.size ω w1) => hK v w1 hv h)
      clear hK hu hc
      go_simp
      go_at_call 25
      refine (kDa.out _).mono ?_
      rintro e w1 ⟨u, rfl, hu, hb1⟩
      exact hk.out _ _ hu hb1
    · refine calmL_step rfl fun a ω κ hb hu hc hK => ?_
      have h7 : a.tmps[7]?.getD undef = .pointer (some ⟨w.heap.size + 1 + 1, 0, none⟩) := (hu 7 rfl).trans e7
      have hk := Lib.hid (fun w1 (h : Below ω.heap.size ω w1) => hK (.agg (arrK .u64 4 (wd xb))) w1 rfl h)
      clear hK hu hc
      have hr1 := (hB.out.step hb).row
      have hr2 := (hB.out.step hb).eq
      go_simp
      exact hk.out _ (Below.refl _ _)
    · refine calmL_step rfl fun a ω κ hb hu hc hK => ?_
      have h48 : a.tmps[48]?.getD undef = .agg (arrK .u64 4 (wd xb)) := hc 4 48 rfl rfl
      have hk := Lib.hid (fun v w1 (hv : (SRel.bN xb).p v w1) (h : Below ω.heap.size ω w1) => hK v w1 hv h)
      clear hK hu hc
      go_simp
      go_at_call 25
      refine (kDb.out _).mono ?_
      rintro e w1 ⟨u, rfl, hu, hb1⟩
      exact hk.out _ _ hu hb1
    · refine calmL_step rfl fun a ω κ hb hu hc hK => ?_
      have hk := Lib.hid (fun v w1 (hv : (SRel.nl W1.heap.size).p v w1) (h : Below ω.heap.size ω w1) => hK v w1 hv h)
      clear hK hu hc
      go_simp
      exact hk.out _ _ ⟨_, rfl, hb.size, (row_new rfl).2 rfl, rowAt_new rfl⟩ (below_alloc _ _)
    · intro aa ω hb hu hsz hdf hc
      have h13 : (SRel.nl W1.heap.size).p (aa.tmps[13]?.getD undef) ω := hc 6 13 (by decide) rfl
      have h44 : aa.tmps[44]?.getD undef = .agg (arrK .u64 4 (wd xm)) := hc 0 44 (by decide) rfl
      have h45 : (SRel.bN xm).p (aa.tmps[45]?.getD undef) ω := hc 1 45 (by decide) rfl
      have h46 : aa.tmps[46]?.getD undef = .agg (arrK .u64 4 (wd xa)) := hc 2 46 (by decide) rfl
      have h47 : (SRel.bN xa).p (aa.tmps[47]?.getD undef) ω := hc 3 47 (by decide) rfl
      have h48 : aa.tmps[48]?.getD undef = .agg (arrK .u64 4 (wd xb)) := hc 4 48 (by decide) rfl
      have h49 : (SRel.bN xb).p (aa.tmps[49]?.getD undef) ω := hc 5 49 (by decide) rfl
      have ha0 := hha0.out
      subst ha0
      have he := act_patchL (n := 140) 7 [false, false, false, false, false, false, false, false, false, false, false, false, false, true, false, false, false, false, false, false, false, false, false, false, false, false, false, false, false, false, false, false, false, false, false, false, false, false, false, false, false, false, false, false, true, true, true, true, true, true, false, false, false, false, false, false, false, false, false, false, false, false, false, false, false, false, false, false, false, false, false, false, false, false, false, false, false, false, false, false, false, false, false, false, false, false, false, false, false, false, false, false, false, false, false, false, false, false, false, false, false, false, false, false, false, false, false, false, false, false, false, false, false, false, false, false, false, false, false, false, false, false, false, false, false, false, false, false, false, false, false, false, false, false, false, false, false, false, false, false] rfl (by kernel_rfl) hu hsz hdf
      simp only [patch, cond_true, cond_false, Nat.reduceAdd] at he
      clear hu hsz hdf hc hha0 e5 e6 e7 hz0
      rw [he]
      clear he
      generalize aa.tmps[13]?.getD undef = x13 at *
      generalize aa.tmps[44]?.getD undef = x44 at *
      generalize aa.tmps[45]?.getD undef = x45 at *
      generalize aa.tmps[46]?.getD undef = x46 at *
      generalize aa.tmps[47]?.getD undef = x47 at *
      generalize aa.tmps[48]?.getD undef = x48 at *
      generalize aa.tmps[49]?.getD undef = x49 at *
      subst h44 h46 h48
      obtain ⟨q, h13e, hgB, hNul⟩ := h13
      have h13e : x13 = .pointer (some ⟨q, 0, none⟩) := h13e
      have hM0 : IsN ω x45 xm := h45
      have hX0 : IsN ω x47 xa := h47
      have hY0 : IsN ω x49 xb := h49
      subst h13e
      obtain ⟨mA, mm, mc, rfl, -, -, -⟩ := hM0.form
      obtain ⟨xA, xl, xc, rfl, -, -, -⟩ := hX0.form
      obtain ⟨yA, yl, yc, rfl, -, -, -⟩ := hY0.form
      have hM := Lib.hid (hM0.away hNul (.slice mA mm mc))
      have hX := Lib.hid (hX0.away hNul (.slice mA mm mc))
      have hY := Lib.hid (hY0.away hNul (.slice mA mm mc))
      have hg3 : w.heap.size + 1 + 1 + 1 + 1 < q := Nat.lt_of_lt_of_le hW.out.lt hgB
      have hgg : g ≠ q := Nat.ne_of_lt (Nat.lt_of_lt_of_le hHG.out.lt hgB)
      have hZ2 := Lib.hid ((hZ.out.step hb).farC (a := ⟨q, 0, none⟩) (v := .slice mA mm mc) (by simp; omega))
      have hA2 := Lib.hid ((hA.out.step hb).farC (a := ⟨q, 0, none⟩) (v := .slice mA mm mc) (by simp; omega))
      have hB2 := Lib.hid ((hB.out.step hb).farC (a := ⟨q, 0, none⟩) (v := .slice mA mm mc) (by simp; omega))
      have hN2 := Lib.hid ((hN.out.step hb).farC (a := ⟨q, 0, none⟩) (v := .slice mA mm mc) (by simp; omega))
      have hW2 := Lib.hid ((hW.out.step hb).farC (a := ⟨q, 0, none⟩) (v := .slice mA mm mc) (by simp; omega))
      have hG2 := Lib.hid ((hHG.out.step hb).farC (a := ⟨q, 0, none⟩) (v := .slice mA mm mc) (by simpa using hgg))
      have hL2 := Lib.hid ((below_step hb hL.out (Nat.le_refl _)).setCell (p := ⟨q, 0, none⟩) (by simp; omega) (.slice mA mm mc))
      have hgl := Lib.hid (show q < (ω.setCell ⟨q, 0, none⟩ (.slice mA mm mc)).heap.size by have := hNul.row.lt; simpa using this)
      have hC := Lib.hid (show (ω.setCell ⟨q, 0, none⟩ (.slice mA mm mc)).cell? ⟨q, 0, none⟩ = some (.slice mA mm mc) by rw [(row_setCell.2 hNul.row).cell, rowAt_setCell_same, hNul.eq]; rfl)
      have cN := hNul.cell
      have fN := hNul.row.frozen 0
      clear hM0 hX0 hY0 h45 h47 h49 hZ hA hB hN hW hL hHG hgB hNul hg3 hgg hb kDm kDa kDb
      dsimp only [List.drop]
      go_upto_region 8 with (fail)
      generalize ω.setCell _ _ = W2 at *
      obtain ⟨hm, ha, hb, hn, hkk, hT⟩ := hBd.out
      have hm0 : xm ≠ 0 := Nat.ne_of_gt hHO.out.pos
      have hMs := Lib.hid (fun V (h : Below W2.heap.size W2 V) => hM.out.step h)
      have hXs := Lib.hid (fun V (h : Below W2.heap.size W2 V) => hX.out.step h)
      have hGs := Lib.hid (fun V (h : Below W2.heap.size W2 V) => show RgAt V g xm o s v from hG2.out.step h)
      have hMV := Lib.hid (fun V (h : Below W2.heap.size W2 V) => (hM.out.step h).toV (lt_big hm (by omega)))
      have hXV := Lib.hid (fun V (h : Below W2.heap.size W2 V) => (hX.out.step h).toV (lt_big ha (by omega)))
      have hcc := Lib.hid (fun V (h : Below W2.heap.size W2 V) => And.intro (Nat.lt_of_lt_of_le hgl.out h.size) (((bcell h).1 q 0 hgl.out).trans hC.out))
      have hCc := Lib.hid (fun V (h : Below W2.heap.size W2 V) => (hcc.out V h).2)
      have kL := Lib.hid (fun V (h : Below W2.heap.size W2 V) v2 k j (hv : IsN V v2 k) (hk : k < 2 ^ j) (hj : j ≤ 1000) => lowR_is v2 (.slice mA mm mc) xm k j q V hHO.out.pos hm hv hk hj (hcc.out V h).1 (hcc.out V h).2 (hMs.out V h))
      have hYs := Lib.hid (fun V (h : Below W2.heap.size W2 V) => hY.out.step h)
      have hYV := Lib.hid (fun V (h : Below W2.heap.size W2 V) => (hY.out.step h).toV (lt_big hb (by omega)))
      have hd1 : xm - xb % xm < 2 ^ 256 := Nat.lt_of_le_of_lt (Nat.sub_le _ _) hm
      have hb1 : xb % xm < 2 ^ 256 := Nat.lt_trans (Nat.mod_lt _ hHO.out.pos) hm
      have hs1 : xa + xb < 2 ^ kk := sum_wide ha hb (by omega)
      have hs2 : xa + (xm - xb % xm) < 2 ^ kk := sum_wide ha hd1 (by omega)
      have hp1 : xa * xb < 2 ^ kk := mul_wideR ha hb (by omega)
      have hkj : kk ≤ 1000 := by omega
      have kMo := Lib.hid (fun V h => ring_Mod g xm o s v V (hGs.out V h))
      have kAd := Lib.hid (fun V h => ring_Add g xm o s v xa xb V (hGs.out V h) ha hb hm hm0)
      have kSu := Lib.hid (fun V h => ring_Sub g xm o s v xa xb V (hGs.out V h) ha hb hm hm0)
      have kMu := Lib.hid (fun V h => ring_Mul hHO.out xa xb V (hGs.out V h) ha hb)
      have kPl := Lib.hid (fun V h => plusN V (hXV.out V h) (hYV.out V h))
      have kLp := Lib.hid (fun V h v2 hv => kL.out V h v2 (xa + xb) kk hv hs1 hkj)
      have kRs := Lib.hid (fun V h => restN V (hYs.out V h) hb (by omega) (hMV.out V h) hHO.out.pos (mul_big (m := 17) (n := 256) (by omega) hm (by omega)))
      have kMi := Lib.hid (fun V h v2 (hv : IsN V v2 (xb % xm)) => minusN V (hMV.out V h) (hv.toV (lt_big hb1 (by omega))) (Nat.le_of_lt (Nat.mod_lt _ hHO.out.pos)))
      have kP2 := Lib.hid (fun V h v2 (hv : IsN V v2 (xm - xb % xm)) => plusN V (hXV.out V h) (hv.toV (lt_big hd1 (by omega))))
      have kLs := Lib.hid (fun V h v2 hv => kL.out V h v2 (xa + (xm - xb % xm)) kk hv hs2 hkj)
      have kTi := Lib.hid (fun V h => timesN V (hXV.out V h) (hYV.out V h))
      have kLt := Lib.hid (fun V h v2 hv => kL.out V h v2 (xa * xb) kk hv hp1 hkj)
      have hZZ := Lib.hid hZ2.out
      have hAA := Lib.hid hA2.out
      have hBB := Lib.hid hB2.out
      have hM' := hM
      have hX' := hX
      have hA' := hA2
      have hN' := hN2
      have hW' := hW2
      have hG' := hG2
      have hC' := hC
      have hgl' := hgl
      have hL' := hL2
      clear hM hX hY hZ2 hA2 hB2 hN2 hW2 hG2 hC hgl hL2 hm ha hb hn hkk hT hm0 hd1 hb1 hs1 hs2 hp1 hkj hMs hXs hYs hGs hMV hXV hYV hcc kL cN fN
      unfold numV at kMo kAd kSu kMu kLp kLs kLt
      generalize (xa + (xm - xb % xm)) % xm = vD at *
      generalize xa + (xm - xb % xm) = sAD at *
      generalize xm - xb % xm = dB at *
      generalize xb % xm = vB at *
      generalize (xa + xb) % xm = vS at *
      generalize xa * xb % xm = vM at *
      generalize xa + xb = sAB at *
      generalize xa * xb = pAB at *
      generalize ha0 : Act.mk _ _ = a0
      have e5 : a0.tmps[5]?.getD undef = .pointer (some ⟨w.heap.size, 0, none⟩) := by rw [← ha0]; rfl
      have e6 : a0.tmps[6]?.getD undef = .pointer (some ⟨w.heap.size + 1, 0, none⟩) := by rw [← ha0]; rfl
      have e7 : a0.tmps[7]?.getD undef = .pointer (some ⟨w.heap.size + 1 + 1, 0, none⟩) := by rw [← ha0]; rfl
      have e11 : a0.tmps[11]?.getD undef = .pointer (some ⟨g, 0, none⟩) := by rw [← ha0]; rfl
      have e13 : a0.tmps[13]?.getD undef = .pointer (some ⟨q, 0, none⟩) := by rw [← ha0]; rfl
      have e14 : a0.tmps[14]?.getD undef = .slice xA xl xc := by rw [← ha0]; rfl
      have e15 : a0.tmps[15]?.getD undef = .slice yA yl yc := by rw [← ha0]; rfl
      have e16 : a0.tmps[16]?.getD undef = .func (Fn.func 26) #[] #[.pointer (some ⟨q, 0, none⟩)] := by rw [← ha0]; rfl
      have hz0 : a0.tmps.size = 140 := by rw [← ha0]; rfl
      have hha0 := Lib.hid ha0
      clear ha0
      refine wp_region_calm (fun jx_ => match jx_ with | 0 => SRel.is (.pointer (some ⟨g, 0, none⟩)) | 1 => SRel.is (.agg (arrK .u64 4 (wd xm))) | 2 => SRel.is (.agg (arrK .u64 4 (wd xm))) | 3 => SRel.is (.bool false) | 4 => SRel.is (.bool false) | 5 => SRel.is (.pointer (some ⟨g, 0, none⟩)) | 6 => SRel.is (.agg (arrK .u64 4 (wd xa))) | 7 => SRel.is (.agg (arrK .u64 4 (wd xb))) | 8 => SRel.is (.agg (arrK .u64 4 (wd vS))) | 9 => SRel.is (.func (Fn.func 26) #[] #[.pointer (some ⟨q, 0, none⟩)]) | 10 => SRel.is (.slice xA xl xc) | 11 => SRel.is (.slice yA yl yc) | 12 => SRel.bN sAB | 13 => SRel.is (.agg (arrK .u64 4 (wd vS))) | 14 => SRel.is (.bool false) | 15 => SRel.is (.bool false) | 16 => SRel.is (.bool false) | 17 => SRel.is (.pointer (some ⟨g, 0, none⟩)) | 18 => SRel.is (.agg (arrK .u64 4 (wd xa))) | 19 => SRel.is (.agg (arrK .u64 4 (wd xb))) | 20 => SRel.is (.agg (arrK .u64 4 (wd vD))) | 21 => SRel.is (.func (Fn.func 26) #[] #[.pointer (some ⟨q, 0, none⟩)]) | 22 => SRel.is (.slice xA xl xc) | 23 => SRel.is (.slice mA mm mc) | 24 => SRel.is (.slice yA yl yc) | 25 => SRel.is (.slice mA mm mc) | 26 => SRel.bN vB | 27 => SRel.bN dB | 28 => SRel.bN sAD | 29 => SRel.is (.agg (arrK .u64 4 (wd vD))) | 30 => SRel.is (.bool false) | 31 => SRel.is (.bool false) | 32 => SRel.is (.bool false) | 33 => SRel.is (.pointer (some ⟨g, 0, none⟩)) | 34 => SRel.is (.agg (arrK .u64 4 (wd xa))) | 35 => SRel.is (.agg (arrK .u64 4 (wd xb))) | 36 => SRel.is (.agg (arrK .u64 4 (wd vM))) | 37 => SRel.is (.func (Fn.func 26) #[] #[.pointer (some ⟨q, 0, none⟩)]) | 38 => SRel.is (.slice xA xl xc) | 39 => SRel.is (.slice yA yl yc) | 40 => SRel.bN pAB | 41 => SRel.is (.agg (arrK .u64 4 (wd vM))) | 42 => SRel.is (.bool false) | 43 => SRel.is (.bool false) | _ => SRel.any) (by kernel_rfl) (by kernel_rfl) (by kernel_rfl) (slotsOk_of hz0 (by kernel_rfl)) ⟨?_, ?_, ?_, ?_, ?_, ?_, ?_, ?_, ?_, ?_, ?_, ?_, ?_, ?_, ?_, ?_, ?_, ?_, ?_, ?_, ?_, ?_, ?_, ?_, ?_, ?_, ?_, ?_, ?_, ?_, ?_, ?_, ?_, ?_, ?_, ?_, ?_, ?_, ?_, ?_, ?_, ?_, ?_, ?_, trivial⟩ ?_
      · refine calm_step rfl fun a ω κ hb hu hc hK => ?_
        have h11 : a.tmps[11]?.getD undef = .pointer (some ⟨g, 0, none⟩) := (hu 11 rfl).trans e11
        have hk := Lib.hid (fun w1 (h : Below ω.heap.size ω w1) => hK (.pointer (some ⟨g, 0, none⟩)) w1 rfl h)
        clear hK hu hc
        go_simp
        exact hk.out _ (Below.refl _ _)
      · refine calm_step rfl fun a ω κ hb hu hc hK => ?_
        have h51 : a.tmps[51]?.getD undef = .pointer (some ⟨g, 0, none⟩) := hc 0 51 rfl rfl
        have hk := Lib.hid (fun w1 (h : Below ω.heap.size ω w1) => hK (.agg (arrK .u64 4 (wd xm))) w1 rfl h)
        clear hK hu hc
        go_simp
        go_at_call 29
        refine (kMo.out _ hb).mono ?_
        rintro e w1 ⟨rfl, hb1⟩
        exact hk.out _ hb1
      · refine calm_step rfl fun a ω κ hb hu hc hK => ?_
        have h5 : a.tmps[5]?.getD undef = .pointer (some ⟨w.heap.size, 0, none⟩) := (hu 5 rfl).trans e5
        have hk := Lib.hid (fun w1 (h : Below ω.heap.size ω w1) => hK (.agg (arrK .u64 4 (wd xm))) w1 rfl h)
        clear hK hu hc
        have hr1 := (hZZ.out.step hb).row
        have hr2 := (hZZ.out.step hb).eq
        go_simp
        exact hk.out _ (Below.refl _ _)
      · refine calm_step rfl fun a ω κ hb hu hc hK => ?_
        have h52 : a.tmps[52]?.getD undef = .agg (arrK .u64 4 (wd xm)) := hc 1 52 rfl rfl
        have h53 : a.tmps[53]?.getD undef = .agg (arrK .u64 4 (wd xm)) := hc 2 53 rfl rfl
        have hk := Lib.hid (fun w1 (h : Below ω.heap.size ω w1) => hK (.bool false) w1 rfl h)
        clear hK hu hc
        exact wp_eqlA (v := arrK .u64 4 (wd xm)) (u := arrK .u64 4 (wd xm)) (.inl rfl) (by kernel_rfl) (by go_simp) (by go_simp) (neqS _ _) (hk.out _ (Below.refl _ _))
      · refine calm_step rfl fun a ω κ hb hu hc hK => ?_
        have h54 : a.tmps[54]?.getD undef = .bool false := hc 3 54 rfl rfl
        have hk := Lib.hid (fun w1 (h : Below ω.heap.size ω w1) => hK (.bool false) w1 rfl h)
        clear hK hu hc
        go_simp
        exact hk.out _ (Below.refl _ _)
      · refine calm_step_guard (g := 4) (b := false) (d := 55) rfl rfl (fun a w hc => hc 4 55 rfl rfl) fun a ω κ hb hu hc hK => ?_
        have h11 : a.tmps[11]?.getD undef = .pointer (some ⟨g, 0, none⟩) := (hu 11 rfl).trans e11
        have hk := Lib.hid (fun w1 (h : Below ω.heap.size ω w1) => hK (.pointer (some ⟨g, 0, none⟩)) w1 rfl h)
        clear hK hu hc
        go_simp
        exact hk.out _ (Below.refl _ _)
      · refine calm_step_guard (g := 4) (b := false) (d := 55) rfl rfl (fun a w hc => hc 4 55 rfl rfl) fun a ω κ hb hu hc hK => ?_
        have h6 : a.tmps[6]?.getD undef = .pointer (some ⟨w.heap.size + 1, 0, none⟩) := (hu 6 rfl).trans e6
        have hk := Lib.hid (fun w1 (h : Below ω.heap.size ω w1) => hK (.agg (arrK .u64 4 (wd xa))) w1 rfl h)
        clear hK hu hc
        have hr1 := (hAA.out.step hb).row
        have hr2 := (hAA.out.step hb).eq
        go_simp
        exact hk.out _ (Below.refl _ _)
      · refine calm_step_guard (g := 4) (b := false) (d := 55) rfl rfl (fun a w hc => hc 4 55 rfl rfl) fun a ω κ hb hu hc hK => ?_
        have h7 : a.tmps[7]?.getD undef = .pointer (some ⟨w.heap.size + 1 + 1, 0, none⟩) := (hu 7 rfl).trans e7
        have hk := Lib.hid (fun w1 (h : Below ω.heap.size ω w1) => hK (.agg (arrK .u64 4 (wd xb))) w1 rfl h)
        clear hK hu hc
        have hr1 := (hBB.out.step hb).row
        have hr2 := (hBB.out.step hb).eq
        go_simp
        exact hk.out _ (Below.refl _ _)
      · refine calm_step_guard (g := 4) (b := false) (d := 55) rfl rfl (fun a w hc => hc 4 55 rfl rfl) fun a ω κ hb hu hc hK => ?_
        have h56 : a.tmps[56]?.getD undef = .pointer (some ⟨g, 0, none⟩) := hc 5 56 rfl rfl
        have h57 : a.tmps[57]?.getD undef = .agg (arrK .u64 4 (wd xa)) := hc 6 57 rfl rfl
        have h58 : a.tmps[58]?.getD undef = .agg (arrK .u64 4 (wd xb)) := hc 7 58 rfl rfl
        have hk := Lib.hid (fun w1 (h : Below ω.heap.size ω w1) => hK (.agg (arrK .u64 4 (wd vS))) w1 rfl h)
        clear hK hu hc
        go_simp
        go_at_call 30
        refine (kAd.out _ hb).mono ?_
        rintro e w1 ⟨rfl, hb1⟩
        exact hk.out _ hb1
      · refine calm_step_guard (g := 4) (b := false) (d := 55) rfl rfl (fun a w hc => hc 4 55 rfl rfl) fun a ω κ hb hu hc hK => ?_
        have h16 : a.tmps[16]?.getD undef = .func (Fn.func 26) #[] #[.pointer (some ⟨q, 0, none⟩)] := (hu 16 rfl).trans e16
        have hk := Lib.hid (fun w1 (h : Below ω.heap.size ω w1) => hK (.func (Fn.func 26) #[] #[.pointer (some ⟨q, 0, none⟩)]) w1 rfl h)
        clear hK hu hc
        go_simp
        exact hk.out _ (Below.refl _ _)
      · refine calm_step_guard (g := 4) (b := false) (d := 55) rfl rfl (fun a w hc => hc 4 55 rfl rfl) fun a ω κ hb hu hc hK => ?_
        have h14 : a.tmps[14]?.getD undef = .slice xA xl xc := (hu 14 rfl).trans e14
        have hk := Lib.hid (fun w1 (h : Below ω.heap.size ω w1) => hK (.slice xA xl xc) w1 rfl h)
        clear hK hu hc
        go_simp
        exact hk.out _ (Below.refl _ _)
      · refine calm_step_guard (g := 4) (b := false) (d := 55) rfl rfl (fun a w hc => hc 4 55 rfl rfl) fun a ω κ hb hu hc hK => ?_
        have h15 : a.tmps[15]?.getD undef = .slice yA yl yc := (hu 15 rfl).trans e15
        have hk := Lib.hid (fun w1 (h : Below ω.heap.size ω w1) => hK (.slice yA yl yc) w1 rfl h)
        clear hK hu hc
        go_simp
        exact hk.out _ (Below.refl _ _)
      · refine calm_step_guard (g := 4) (b := false) (d := 55) rfl rfl (fun a w hc => hc 4 55 rfl rfl) fun a ω κ hb hu hc hK => ?_
        have h61 : a.tmps[61]?.getD undef = .slice xA xl xc := hc 10 61 rfl rfl
        have h62 : a.tmps[62]?.getD undef = .slice yA yl yc := hc 11 62 rfl rfl
        have hk := Lib.hid (fun v w1 (hv : (SRel.bN sAB).p v w1) (h : Below ω.heap.size ω w1) => hK v w1 hv h)
        clear hK hu hc
        go_simp
        go_at_call 31
        refine (kPl.out _ hb).mono ?_
        rintro e w1 ⟨u, rfl, hu, hb1⟩
        exact hk.out _ _ hu hb1
      · refine calm_step_guard (g := 4) (b := false) (d := 55) rfl rfl (fun a w hc => hc 4 55 rfl rfl) fun a ω κ hb hu hc hK => ?_
        have h60 : a.tmps[60]?.getD undef = .func (Fn.func 26) #[] #[.pointer (some ⟨q, 0, none⟩)] := hc 9 60 rfl rfl
        have h63 : (SRel.bN sAB).p (a.tmps[63]?.getD undef) ω := hc 12 63 rfl rfl
        have hk := Lib.hid (fun w1 (h : Below ω.heap.size ω w1) => hK (.agg (arrK .u64 4 (wd vS))) w1 rfl h)
        clear hK hu hc
        go_simp
        refine (kLp.out _ hb _ h63).mono ?_
        rintro e w1 ⟨rfl, hb1⟩
        exact hk.out _ hb1
      · refine calm_step_guard (g := 4) (b := false) (d := 55) rfl rfl (fun a w hc => hc 4 55 rfl rfl) fun a ω κ hb hu hc hK => ?_
        have h59 : a.tmps[59]?.getD undef = .agg (arrK .u64 4 (wd vS)) := hc 8 59 rfl rfl
        have h64 : a.tmps[64]?.getD undef = .agg (arrK .u64 4 (wd vS)) := hc 13 64 rfl rfl
        have hk := Lib.hid (fun w1 (h : Below ω.heap.size ω w1) => hK (.bool false) w1 rfl h)
        clear hK hu hc
        exact wp_eqlA (v := arrK .u64 4 (wd vS)) (u := arrK .u64 4 (wd vS)) (.inl rfl) (by kernel_rfl) (by go_simp) (by go_simp) (neqS _ _) (hk.out _ (Below.refl _ _))
      · refine calm_step rfl fun a ω κ hb hu hc hK => ?_
        have h55 : a.tmps[55]?.getD undef = .bool false := hc 4 55 rfl rfl
        have h65 : a.tmps[65]?.getD undef = .bool false := hc 14 65 rfl rfl
        have hk := Lib.hid (fun w1 (h : Below ω.heap.size ω w1) => hK (.bool false) w1 rfl h)
        clear hK hu hc
        go_simp
        exact hk.out _ (Below.refl _ _)
      · refine calm_step rfl fun a ω κ hb hu hc hK => ?_
        have h66 : a.tmps[66]?.getD undef = .bool false := hc 15 66 rfl rfl
        have hk := Lib.hid (fun w1 (h : Below ω.heap.size ω w1) => hK (.bool false) w1 rfl h)
        clear hK hu hc
        go_simp
        exact hk.out _ (Below.refl _ _)
      · refine calm_step_guard (g := 16) (b := false) (d := 67) rfl rfl (fun a w hc => hc 16 67 rfl rfl) fun a ω κ hb hu hc hK => ?_
        have h11 : a.tmps[11]?.getD undef = .pointer (some ⟨g, 0, none⟩) := (hu 11 rfl).trans e11
        have hk := Lib.hid (fun w1 (h : Below ω.heap.size ω w1) => hK (.pointer (some ⟨g, 0, none⟩)) w1 rfl h)
        clear hK hu hc
        go_simp
        exact hk.out _ (Below.refl _ _)
      · refine calm_step_guard (g := 16) (b := false) (d := 67) rfl rfl (fun a w hc => hc 16 67 rfl rfl) fun a ω κ hb hu hc hK => ?_
        have h6 : a.tmps[6]?.getD undef = .pointer (some ⟨w.heap.size + 1, 0, none⟩) := (hu 6 rfl).trans e6
        have hk := Lib.hid (fun w1 (h : Below ω.heap.size ω w1) => hK (.agg (arrK .u64 4 (wd xa))) w1 rfl h)
        clear hK hu hc
        have hr1 := (hAA.out.step hb).row
        have hr2 := (hAA.out.step hb).eq
        go_simp
        exact hk.out _ (Below.refl _ _)
      · refine calm_step_guard (g := 16) (b := false) (d := 67) rfl rfl (fun a w hc => hc 16 67 rfl rfl) fun a ω κ hb hu hc hK => ?_
        have h7 : a.tmps[7]?.getD undef = .pointer (some ⟨w.heap.size + 1 + 1, 0, none⟩) := (hu 7 rfl).trans e7
        have hk := Lib.hid (fun w1 (h : Below ω.heap.size ω w1) => hK (.agg (arrK .u64 4 (wd xb))) w1 rfl h)
        clear hK hu hc
        have hr1 := (hBB.out.step hb).row
        have hr2 := (hBB.out.step hb).eq
        go_simp
        exact hk.out _ (Below.refl _ _)
      · refine calm_step_guard (g := 16) (b := false) (d := 67) rfl rfl (fun a w hc => hc 16 67 rfl rfl) fun a ω κ hb hu hc hK => ?_
        have h68 : a.tmps[68]?.getD undef = .pointer (some ⟨g, 0, none⟩) := hc 17 68 rfl rfl
        have h69 : a.tmps[69]?.getD undef = .agg (arrK .u64 4 (wd xa)) := hc 18 69 rfl rfl
        have h70 : a.tmps[70]?.getD undef = .agg (arrK .u64 4 (wd xb)) := hc 19 70 rfl rfl
        have hk := Lib.hid (fun w1 (h : Below ω.heap.size ω w1) => hK (.agg (arrK .u64 4 (wd vD))) w1 rfl h)
        clear hK hu hc
        go_simp
        go_at_call 32
        refine (kSu.out _ hb).mono ?_
        rintro e w1 ⟨rfl, hb1⟩
        exact hk.out _ hb1
      · refine calm_step_guard (g := 16) (b := false) (d := 67) rfl rfl (fun a w hc => hc 16 67 rfl rfl) fun a ω κ hb hu hc hK => ?_
        have h16 : a.tmps[16]?.getD undef = .func (Fn.func 26) #[] #[.pointer (some ⟨q, 0, none⟩)] := (hu 16 rfl).trans e16
        have hk := Lib.hid (fun w1 (h : Below ω.heap.size ω w1) => hK (.func (Fn.func 26) #[] #[.pointer (some ⟨q, 0, none⟩)]) w1 rfl h)
        clear hK hu hc
        go_simp
        exact hk.out _ (Below.refl _ _)
      · refine calm_step_guard (g := 16) (b := false) (d := 67) rfl rfl (fun a w hc => hc 16 67 rfl rfl) fun a ω κ hb hu hc hK => ?_
        have h14 : a.tmps[14]?.getD undef = .slice xA xl xc := (hu 14 rfl).trans e14
        have hk := Lib.hid (fun w1 (h : Below ω.heap.size ω w1) => hK (.slice xA xl xc) w1 rfl h)
        clear hK hu hc
        go_simp
        exact hk.out _ (Below.refl _ _)
      · refine calm_step_guard (g := 16) (b := false) (d := 67) rfl rfl (fun a w hc => hc 16 67 rfl rfl) fun a ω κ hb hu hc hK => ?_
        have h13 : a.tmps[13]?.getD undef = .pointer (some ⟨q, 0, none⟩) := (hu 13 rfl).trans e13
        have hk := Lib.hid (fun w1 (h : Below ω.heap.size ω w1) => hK (.slice mA mm mc) w1 rfl h)
        clear hK hu hc
        have cq := hCc.out _ hb
        go_simp
        exact hk.out _ (Below.refl _ _)
      · refine calm_step_guard (g := 16) (b := false) (d := 67) rfl rfl (fun a w hc => hc 16 67 rfl rfl) fun a ω κ hb hu hc hK => ?_
        have h15 : a.tmps[15]?.getD undef = .slice yA yl yc := (hu 15 rfl).trans e15
        have hk := Lib.hid (fun w1 (h : Below ω.heap.size ω w1) => hK (.slice yA yl yc) w1 rfl h)
        clear hK hu hc
        go_simp
        exact hk.out _ (Below.refl _ _)
      · refine calm_step_guard (g := 16) (b := false) (d := 67) rfl rfl (fun a w hc => hc 16 67 rfl rfl) fun a ω κ hb hu hc hK => ?_
        have h13 : a.tmps[13]?.getD undef = .pointer (some ⟨q, 0, none⟩) := (hu 13 rfl).trans e13
        have hk := Lib.hid (fun w1 (h : Below ω.heap.size ω w1) => hK (.slice mA mm mc) w1 rfl h)
        clear hK hu hc
        have cq := hCc.out _ hb
        go_simp
        exact hk.out _ (Below.refl _ _)
      · refine calm_step_guard (g := 16) (b := false) (d := 67) rfl rfl (fun a w hc => hc 16 67 rfl rfl) fun a ω κ hb hu hc hK => ?_
        have h75 : a.tmps[75]?.getD undef = .slice yA yl yc := hc 24 75 rfl rfl
        have h76 : a.tmps[76]?.getD undef = .slice mA mm mc := hc 25 76 rfl rfl
        have hk := Lib.hid (fun v w1 (hv : (SRel.bN vB).p v w1) (h : Below ω.heap.size ω w1) => hK v w1 hv h)
        clear hK hu hc
        go_simp
        go_at_call 28
        refine (kRs.out _ hb).mono ?_
        rintro e w1 ⟨u, rfl, hu, hb1⟩
        exact hk.out _ _ hu hb1
      · refine calm_step_guard (g := 16) (b := false) (d := 67) rfl rfl (fun a w hc => hc 16 67 rfl rfl) fun a ω κ hb hu hc hK => ?_
        have h74 : a.tmps[74]?.getD undef = .slice mA mm mc := hc 23 74 rfl rfl
        have h77 : (SRel.bN vB).p (a.tmps[77]?.getD undef) ω := hc 26 77 rfl rfl
        have hk := Lib.hid (fun v w1 (hv : (SRel.bN dB).p v w1) (h : Below ω.heap.size ω w1) => hK v w1 hv h)
        clear hK hu hc
        go_simp
        go_at_call 33
        refine (kMi.out _ hb _ h77).mono ?_
        rintro e w1 ⟨u, rfl, hu, hb1⟩
        exact hk.out _ _ hu.toN hb1
      · refine calm_step_guard (g := 16) (b := false) (d := 67) rfl rfl (fun a w hc => hc 16 67 rfl rfl) fun a ω κ hb hu hc hK => ?_
        have h73 : a.tmps[73]?.getD undef = .slice xA xl xc := hc 22 73 rfl rfl
        have h78 : (SRel.bN dB).p (a.tmps[78]?.getD undef) ω := hc 27 78 rfl rfl
        have hk := Lib.hid (fun v w1 (hv : (SRel.bN sAD).p v w1) (h : Below ω.heap.size ω w1) => hK v w1 hv h)
        clear hK hu hc
        go_simp
        go_at_call 31
        refine (kP2.out _ hb _ h78).mono ?_
        rintro e w1 ⟨u, rfl, hu, hb1⟩
        exact hk.out _ _ hu hb1
      · refine calm_step_guard (g := 16) (b := false) (d := 67) rfl rfl (fun a w hc => hc 16 67 rfl rfl) fun a ω κ hb hu hc hK => ?_
        have h72 : a.tmps[72]?.getD undef = .func (Fn.func 26) #[] #[.pointer (some ⟨q, 0, none⟩)] := hc 21 72 rfl rfl
        have h79 : (SRel.bN sAD).p (a.tmps[79]?.getD undef) ω := hc 28 79 rfl rfl
        have hk := Lib.hid (fun w1 (h : Below ω.heap.size ω w1) => hK (.agg (arrK .u64 4 (wd vD))) w1 rfl h)
        clear hK hu hc
        go_simp
        refine (kLs.out _ hb _ h79).mono ?_
        rintro e w1 ⟨rfl, hb1⟩
        exact hk.out _ hb1
      · refine calm_step_guard (g := 16) (b := false) (d := 67) rfl rfl (fun a w hc => hc 16 67 rfl rfl) fun a ω κ hb hu hc hK => ?_
        have h71 : a.tmps[71]?.getD undef = .agg (arrK .u64 4 (wd vD)) := hc 20 71 rfl rfl
        have h80 : a.tmps[80]?.getD undef = .agg (arrK .u64 4 (wd vD)) := hc 29 80 rfl rfl
        have hk := Lib.hid (fun w1 (h : Below ω.heap.size ω w1) => hK (.bool false) w1 rfl h)
        clear hK hu hc
        exact wp_eqlA (v := arrK .u64 4 (wd vD)) (u := arrK .u64 4 (wd vD)) (.inl rfl) (by kernel_rfl) (by go_simp) (by go_simp) (neqS _ _) (hk.out _ (Below.refl _ _))
      · refine calm_step rfl fun a ω κ hb hu hc hK => ?_
        have h67 : a.tmps[67]?.getD undef = .bool false := hc 16 67 rfl rfl
        have h81 : a.tmps[81]?.getD undef = .bool false := hc 30 81 rfl rfl
        have hk := Lib.hid (fun w1 (h : Below ω.heap.size ω w1) => hK (.bool false) w1 rfl h)
        clear hK hu hc
        go_simp
        exact hk.out _ (Below.refl _ _)
      · refine calm_step rfl fun a ω κ hb hu hc hK => ?_
        have h82 : a.tmps[82]?.getD undef = .bool false := hc 31 82 rfl rfl
        have hk := Lib.hid (fun w1 (h : Below ω.heap.size ω w1) => hK (.bool false) w1 rfl h)
        clear hK hu hc
        go_simp
        exact hk.out _ (Below.refl _ _)
      · refine calm_step_guard (g := 32) (b := false) (d := 83) rfl rfl (fun a w hc => hc 32 83 rfl rfl) fun a ω κ hb hu hc hK => ?_
        have h11 : a.tmps[11]?.getD undef = .pointer (some ⟨g, 0, none⟩) := (hu 11 rfl).trans e11
        have hk := Lib.hid (fun w1 (h : Below ω.heap.size ω w1) => hK (.pointer (some ⟨g, 0, none⟩)) w1 rfl h)
        clear hK hu hc
        go_simp
        exact hk.out _ (Below.refl _ _)
      · refine calm_step_guard (g := 32) (b := false) (d := 83) rfl rfl (fun a w hc => hc 32 83 rfl rfl) fun a ω κ hb hu hc hK => ?_
        have h6 : a.tmps[6]?.getD undef = .pointer (some ⟨w.heap.size + 1, 0, none⟩) := (hu 6 rfl).trans e6
        have hk := Lib.hid (fun w1 (h : Below ω.heap.size ω w1) => hK (.agg (arrK .u64 4 (wd xa))) w1 rfl h)
        clear hK hu hc
        have hr1 := (hAA.out.step hb).row
        have hr2 := (hAA.out.step hb).eq
        go_simp
        exact hk.out _ (Below.refl _ _)
      · refine calm_step_guard (g := 32) (b := false) (d := 83) rfl rfl (fun a w hc => hc 32 83 rfl rfl) fun a ω κ hb hu hc hK => ?_
        have h7 : a.tmps[7]?.getD undef = .pointer (some ⟨w.heap.size + 1 + 1, 0, none⟩) := (hu 7 rfl).trans e7
        have hk := Lib.hid (fun w1 (h : Below ω.heap.size ω w1) => hK (.agg (arrK .u64 4 (wd xb))) w1 rfl h)
        clear hK hu hc
        have hr1 := (hBB.out.step hb).row
        have hr2 := (hBB.out.step hb).eq
        go_simp
        exact hk.out _ (Below.refl _ _)
      · refine calm_step_guard (g := 32) (b := false) (d := 83) rfl rfl (fun a w hc => hc 32 83 rfl rfl) fun a ω κ hb hu hc hK => ?_
        have h84 : a.tmps[84]?.getD undef = .pointer (some ⟨g, 0, none⟩) := hc 33 84 rfl rfl
        have h85 : a.tmps[85]?.getD undef = .agg (arrK .u64 4 (wd xa)) := hc 34 85 rfl rfl
        have h86 : a.tmps[86]?.getD undef = .agg (arrK .u64 4 (wd xb)) := hc 35 86 rfl rfl
        have hk := Lib.hid (fun w1 (h : Below ω.heap.size ω w1) => hK (.agg (arrK .u64 4 (wd vM))) w1 rfl h)
        clear hK hu hc
        go_simp
        go_at_call 34
        refine (kMu.out _ hb).mono ?_
        rintro e w1 ⟨rfl, hb1⟩
        exact hk.out _ hb1
      · refine calm_step_guard (g := 32) (b := false) (d := 83) rfl rfl (fun a w hc => hc 32 83 rfl rfl) fun a ω κ hb hu hc hK => ?_
        have h16 : a.tmps[16]?.getD undef = .func (Fn.func 26) #[] #[.pointer (some ⟨q, 0, none⟩)] := (hu 16 rfl).trans e16
        have hk := Lib.hid (fun w1 (h : Below ω.heap.size ω w1) => hK (.func (Fn.func 26) #[] #[.pointer (some ⟨q, 0, none⟩)]) w1 rfl h)
        clear hK hu hc
        go_simp
        exact hk.out _ (Below.refl _ _)
      · refine calm_step_guard (g := 32) (b := false) (d := 83) rfl rfl (fun a w hc => hc 32 83 rfl rfl) fun a ω κ hb hu hc hK => ?_
        have h14 : a.tmps[14]?.getD undef = .slice xA xl xc := (hu 14 rfl).trans e14
        have hk := Lib.hid (fun w1 (h : Below ω.heap.size ω w1) => hK (.slice xA xl xc) w1 rfl h)
        clear hK hu hc
        go_simp
        exact hk.out _ (Below.refl _ _)
      · refine calm_step_guard (g := 32) (b := false) (d := 83) rfl rfl (fun a w hc => hc 32 83 rfl rfl) fun a ω κ hb hu hc hK => ?_
        have h15 : a.tmps[15]?.getD undef = .slice yA yl yc := (hu 15 rfl).trans e15
        have hk := Lib.hid (fun w1 (h : Below ω.heap.size ω w1) => hK (.slice yA yl yc) w1 rfl h)
        clear hK hu hc
        go_simp
        exact hk.out _ (Below.refl _ _)
      · refine calm_step_guard (g := 32) (b := false) (d := 83) rfl rfl (fun a w hc => hc 32 83 rfl rfl) fun a ω κ hb hu hc hK => ?_
        have h89 : a.tmps[89]?.getD undef = .slice xA xl xc := hc 38 89 rfl rfl
        have h90 : a.tmps[90]?.getD undef = .slice yA yl yc := hc 39 90 rfl rfl
        have hk := Lib.hid (fun v w1 (hv : (SRel.bN pAB).p v w1) (h : Below ω.heap.size ω w1) => hK v w1 hv h)
        clear hK hu hc
        go_simp
        go_at_call 35
        refine (kTi.out _ hb).mono ?_
        rintro e w1 ⟨u, rfl, hu, hb1⟩
        exact hk.out _ _ hu hb1
      · refine calm_step_guard (g := 32) (b := false) (d := 83) rfl rfl (fun a w hc => hc 32 83 rfl rfl) fun a ω κ hb hu hc hK => ?_
        have h88 : a.tmps[88]?.getD undef = .func (Fn.func 26) #[] #[.pointer (some ⟨q, 0, none⟩)] := hc 37 88 rfl rfl
        have h91 : (SRel.bN pAB).p (a.tmps[91]?.getD undef) ω := hc 40 91 rfl rfl
        have hk := Lib.hid (fun w1 (h : Below ω.heap.size ω w1) => hK (.agg (arrK .u64 4 (wd vM))) w1 rfl h)
        clear hK hu hc
        go_simp
        refine (kLt.out _ hb _ h91).mono ?_
        rintro e w1 ⟨rfl, hb1⟩
        exact hk.out _ hb1
      · refine calm_step_guard (g := 32) (b := false) (d := 83) rfl rfl (fun a w hc => hc 32 83 rfl rfl) fun a ω κ hb hu hc hK => ?_
        have h87 : a.tmps[87]?.getD undef = .agg (arrK .u64 4 (wd vM)) := hc 36 87 rfl rfl
        have h92 : a.tmps[92]?.getD undef = .agg (arrK .u64 4 (wd vM)) := hc 41 92 rfl rfl
        have hk := Lib.hid (fun w1 (h : Below ω.heap.size ω w1) => hK (.bool false) w1 rfl h)
        clear hK hu hc
        exact wp_eqlA (v := arrK .u64 4 (wd vM)) (u := arrK .u64 4 (wd vM)) (.inl rfl) (by kernel_rfl) (by go_simp) (by go_simp) (neqS _ _) (hk.out _ (Below.refl _ _))
      · refine calm_step rfl fun a ω κ hb hu hc hK => ?_
        have h83 : a.tmps[83]?.getD undef = .bool false := hc 32 83 rfl rfl
        have h93 : a.tmps[93]?.getD undef = .bool false := hc 42 93 rfl rfl
        have hk := Lib.hid (fun w1 (h : Below ω.heap.size ω w1) => hK (.bool false) w1 rfl h)
        clear hK hu hc
        go_simp
        exact hk.out _ (Below.refl _ _)
      · intro a1 w1 hb1 hu1 hsz1 hdf1 hc1
        have ha0 := hha0.out
        subst ha0
        have he := act_patch (n := 140) [false, false, false, false, false, false, false, false, false, false, false, false, false, false, false, false, false, false, false, false, false, false, false, false, false, false, false, false, false, false, false, false, false, false, false, false, false, false, false, false, false, false, false, false, false, false, false, false, false, false, false, true, true, true, true, true, true, true, true, true, true, true, true, true, true, true, true, true, true, true, true, true, true, true, true, true, true, true, true, true, true, true, true, true, true, true, true, true, true, true, true, true, true, true, true, false, false, false, false, false, false, false, false, false, false, false, false, false, false, false, false, false, false, false, false, false, false, false, false, false, false, false, false, false, false, false, false, false, false, false, false, false, false, false, false, false, false, false, false, false] rfl (by kernel_rfl) hu1 hsz1 hdf1
        simp only [patch, cond_true, cond_false, Nat.reduceAdd] at he
        have hkn94 : a1.tmps[94]?.getD undef = .bool false := hc1 43 94 rfl
        replace hM' := Lib.hid (hM'.out.step hb1)
        replace hX' := Lib.hid (hX'.out.step hb1)
        replace hA' := Lib.hid (hA'.out.step hb1)
        replace hN' := Lib.hid (hN'.out.step hb1)
        replace hW' := Lib.hid (hW'.out.step hb1)
        replace hG' := Lib.hid (hG'.out.step hb1)
        replace hC' := Lib.hid (((bcell hb1).1 q 0 hgl'.out).trans hC'.out)
        replace hgl' := Lib.hid (Nat.lt_of_lt_of_le hgl'.out hb1.size)
        replace hL' := Lib.hid (below_step hb1 hL'.out (Nat.le_refl _))
        clear kMo kAd kSu kMu kPl kLp kRs kMi kP2 kLs kTi kLt hZZ hAA hBB hCc
        clear hb1 hu1 hsz1 hdf1 hc1 hz0 hha0 e5 e6 e7 e11 e13 e14 e15 e16
        rw [he]
        clear he
        rw [hkn94]
        clear hkn94
        generalize a1.tmps[51]?.getD undef = x51 at *
        generalize a1.tmps[52]?.getD undef = x52 at *
        generalize a1.tmps[53]?.getD undef = x53 at *
        generalize a1.tmps[54]?.getD undef = x54 at *
        generalize a1.tmps[55]?.getD undef = x55 at *
        generalize a1.tmps[56]?.getD undef = x56 at *
        generalize a1.tmps[57]?.getD undef = x57 at *
        generalize a1.tmps[58]?.getD undef = x58 at *
        generalize a1.tmps[59]?.getD undef = x59 at *
        generalize a1.tmps[60]?.getD undef = x60 at *
        generalize a1.tmps[61]?.getD undef = x61 at *
        generalize a1.tmps[62]?.getD undef = x62 at *
        generalize a1.tmps[63]?.getD undef = x63 at *
        generalize a1.tmps[64]?.getD undef = x64 at *
        generalize a1.tmps[65]?.getD undef = x65 at *
        generalize a1.tmps[66]?.getD undef = x66 at *
        generalize a1.tmps[67]?.getD undef = x67 at *
        generalize a1.tmps[68]?.getD undef = x68 at *
        generalize a1.tmps[69]?.getD undef = x69 at *
        generalize a1.tmps[70]?.getD undef = x70 at *
        generalize a1.tmps[71]?.getD undef = x71 at *
        generalize a1.tmps[72]?.getD undef = x72 at *
        generalize a1.tmps[73]?.getD undef = x73 at *
        generalize a1.tmps[74]?.getD undef = x74 at *
        generalize a1.tmps[75]?.getD undef = x75 at *
        generalize a1.tmps[76]?.getD undef = x76 at *
        generalize a1.tmps[77]?.getD undef = x77 at *
        generalize a1.tmps[78]?.getD undef = x78 at *
        generalize a1.tmps[79]?.getD undef = x79 at *
        generalize a1.tmps[80]?.getD undef = x80 at *
        generalize a1.tmps[81]?.getD undef = x81 at *
        generalize a1.tmps[82]?.getD undef = x82 at *
        generalize a1.tmps[83]?.getD undef = x83 at *
        generalize a1.tmps[84]?.getD undef = x84 at *
        generalize a1.tmps[85]?.getD undef = x85 at *
        generalize a1.tmps[86]?.getD undef = x86 at *
        generalize a1.tmps[87]?.getD undef = x87 at *
        generalize a1.tmps[88]?.getD undef = x88 at *
        generalize a1.tmps[89]?.getD undef = x89 at *
        generalize a1.tmps[90]?.getD undef = x90 at *
        generalize a1.tmps[91]?.getD undef = x91 at *
        generalize a1.tmps[92]?.getD undef = x92 at *
        generalize a1.tmps[93]?.getD undef = x93 at *
        generalize w1 = W3 at *
        obtain ⟨hm, ha, hb, hn, hkk, hT⟩ := hBd.out
        have hT2 : T < 2 ^ 256 * 2 ^ 256 := by rw [← two_pow 256 256 (64 * 8) rfl, ← hkk]; exact hT
        have kOut := Lib.hid (fun V (hV : RgAt V g xm o s v) => ring_OutC hHO.out T V hV hT2)
        have hol : outN xm T < 2 ^ 256 := hHO.out.ltN
        have hom : outN xm T < xm := out_lt hHO.out.odd
        have hob := out_back (T := T) hHO.out.odd
        obtain ⟨u, hu⟩ : ∃ t, outN xm T = t := ⟨_, rfl⟩
        rw [hu] at kOut hol hom hob
        have hBo := Lib.hid (And.intro hol (And.intro hom hob))
        unfold numV wideV at kOut
        clear hm ha hb hn hkk hT hT2 hol hom hob hu
        have hr1 := hW'.out.row
        have hr2 := hW'.out.eq
        have hcu := arrK_cells .u64 4 (wd u)
        have hGG := hG'.out
        go_wp2_with fail
        refine (kOut.out _ hGG).mono ?_
        rintro e w4 ⟨rfl, hb4⟩
        replace hM' := Lib.hid (hM'.out.step hb4)
        replace hX' := Lib.hid (hX'.out.step hb4)
        replace hA' := Lib.hid (hA'.out.step hb4)
        replace hN' := Lib.hid (hN'.out.step hb4)
        replace hW' := Lib.hid (hW'.out.step hb4)
        replace hG' := Lib.hid (hG'.out.step hb4)
        replace hC' := Lib.hid (((bcell hb4).1 q 0 hgl'.out).trans hC'.out)
        replace hgl' := Lib.hid (Nat.lt_of_lt_of_le hgl'.out hb4.size)
        replace hL' := Lib.hid (below_step hb4 hL'.out (Nat.le_refl _))
        clear hr1 hr2 kOut hb4 hGG
        dsimp only
        go_upto_region 11 with (fail)
        have hb5 := below_alloc w4 (Obj.cells (arrK .u64 4 (wd u)) 27)
        have hU := Lib.hid (At.new (w := w4) (k := .u64) (m := 4) (f := wd u) 27 rfl)
        replace hM' := Lib.hid (hM'.out.step hb5)
        replace hX' := Lib.hid (hX'.out.step hb5)
        replace hA' := Lib.hid (hA'.out.step hb5)
        replace hN' := Lib.hid (hN'.out.step hb5)
        replace hW' := Lib.hid (hW'.out.step hb5)
        replace hG' := Lib.hid (hG'.out.step hb5)
        replace hC' := Lib.hid (((bcell hb5).1 q 0 hgl'.out).trans hC'.out)
        replace hgl' := Lib.hid (Nat.lt_of_lt_of_le hgl'.out hb5.size)
        replace hL' := Lib.hid (below_step hb5 hL'.out (Nat.le_refl _))
        clear hb5 hcu
        generalize w4.heap.size = g17 at *
        generalize w4.alloc _ = W4 at *
        obtain ⟨hm, ha, hb, hn, hkk, hT⟩ := hBd.out
        obtain ⟨hol, hom, hob⟩ := hBo.out
        have hMs := Lib.hid (fun V (h : Below W4.heap.size W4 V) => hM'.out.step h)
        have hXs := Lib.hid (fun V (h : Below W4.heap.size W4 V) => hX'.out.step h)
        have hGs := Lib.hid (fun V (h : Below W4.heap.size W4 V) => show RgAt V g xm o s v from hG'.out.step h)
        have hMV := Lib.hid (fun V (h : Below W4.heap.size W4 V) => (hM'.out.step h).toV (lt_big hm (by omega)))
        have hXV := Lib.hid (fun V (h : Below W4.heap.size W4 V) => (hX'.out.step h).toV (lt_big ha (by omega)))
        have hcc := Lib.hid (fun V (h : Below W4.heap.size W4 V) => And.intro (Nat.lt_of_lt_of_le hgl'.out h.size) (((bcell h).1 q 0 hgl'.out).trans hC'.out))
        have hCc := Lib.hid (fun V (h : Below W4.heap.size W4 V) => (hcc.out V h).2)
        have kL := Lib.hid (fun V (h : Below W4.heap.size W4 V) v2 k j (hv : IsN V v2 k) (hk : k < 2 ^ j) (hj : j ≤ 1000) => lowR_is v2 (.slice mA mm mc) xm k j q V hHO.out.pos hm hv hk hj (hcc.out V h).1 (hcc.out V h).2 (hMs.out V h))
        obtain ⟨j7, hj7⟩ : ∃ j, 256 + 1 = j := ⟨_, rfl⟩
        have hQ : 2 ^ 256 < 2 ^ j7 := Nat.pow_lt_pow_right (by omega) (by omega)
        obtain ⟨jj, hjj⟩ : ∃ j, 256 + j7 = j := ⟨_, rfl⟩
        have hv1 : xa ^ xn % xm < 2 ^ 256 := Nat.lt_trans (Nat.mod_lt _ hHO.out.pos) hm
        have kPw := Lib.hid (fun V h => ring_Pow hHO.out xa xn V (hGs.out V h) ha hn)
        have kOn := Lib.hid (fun V => ref_OfNum xn V hn)
        have kPo := Lib.hid (fun V h v2 (hv : IsN V v2 xn) => powerN V (hXs.out V h) ha (by omega) hv (lt_big hn (by omega)) (hMV.out V h) hHO.out.pos hm (by omega))
        have kTn := Lib.hid (fun V v2 (hv : IsN V v2 (xa ^ xn % xm)) => toNumN V (hv.toV (lt_big hv1 (by omega))))
        have kIn := Lib.hid (fun V h => ring_In hHO.out xa V (hGs.out V h) ha)
        rw [in_is hHO.out.odd hHO.out.one hHO.out.sq] at kIn
        have kTw := Lib.hid (fun V => show Calls Try.prog 40 #[.int .i64 256] V (RetN (2 ^ 256) V) from ref_TwoTo 256 V (by omega))
        have kTq := Lib.hid (fun V h v2 (hv : IsN V v2 (2 ^ 256)) => timesN V (hXV.out V h) (hv.toV (lt_big hQ (by omega))))
        have kLi := Lib.hid (fun V h v2 hv => kL.out V h v2 (xa * 2 ^ 256) jj hv (mul_wideR ha hQ hjj) (by omega))
        have kOu := Lib.hid (fun V => ref_OfNum u V hol)
        have kOr := Lib.hid (fun V h v2 (hv : IsN V v2 u) => orderN V (hv.toV (lt_big hol (by omega))) (hMV.out V h))
        rw [order_lt hom] at kOr
        have kTo := Lib.hid (fun V v1 v2 (h1 : IsN V v1 u) (h2 : IsN V v2 (2 ^ 256)) => timesN V (h1.toV (lt_big hol (by omega))) (h2.toV (lt_big hQ (by omega))))
        have kLo := Lib.hid (fun V h v2 hv => kL.out V h v2 (u * 2 ^ 256) jj hv (mul_wideR hol hQ hjj) (by omega))
        rw [hob] at kLo
        have kOw := Lib.hid (fun V => ref_OfWide T V (hkk ▸ hT))
        have kLw := Lib.hid (fun V h v2 hv => kL.out V h v2 T kk hv hT (by omega))
        have hAA := Lib.hid hA'.out
        have hNN := Lib.hid hN'.out
        have hWW := Lib.hid hW'.out
        have hUU := Lib.hid hU.out
        have hLL := Lib.hid hL'.out
        clear hM' hX' hA' hN' hW' hG' hC' hgl' hL' hU hm ha hb hn hkk hT hol hom hob hQ hjj hj7 hv1 hMs hXs hGs hMV hXV hcc kL
        unfold numV at kPw kOn kTn kIn kLi kOu kLo kLw
        unfold wideV at kOw
        obtain ⟨Q, hQe⟩ : ∃ t, 2 ^ 256 = t := ⟨_, rfl⟩
        rw [hQe] at kIn kTw kTq kLi kTo kLo
        clear hQe
        generalize xa ^ xn % xm = vP at *
        generalize xa * Q % xm = vI at *
        generalize T % xm = vT at *
        generalize xa * Q = pQ at *
        generalize u * Q = pU at *
        generalize ha0 : Act.mk _ _ = a0
        have e6 : a0.tmps[6]?.getD undef = .pointer (some ⟨w.heap.size + 1, 0, none⟩) := by rw [← ha0]; rfl
        have e8 : a0.tmps[8]?.getD undef = .pointer (some ⟨w.heap.size + 1 + 1 + 1, 0, none⟩) := by rw [← ha0]; rfl
        have e9 : a0.tmps[9]?.getD undef = .pointer (some ⟨w.heap.size + 1 + 1 + 1 + 1, 0, none⟩) := by rw [← ha0]; rfl
        have e11 : a0.tmps[11]?.getD undef = .pointer (some ⟨g, 0, none⟩) := by rw [← ha0]; rfl
        have e13 : a0.tmps[13]?.getD undef = .pointer (some ⟨q, 0, none⟩) := by rw [← ha0]; rfl
        have e14 : a0.tmps[14]?.getD undef = .slice xA xl xc := by rw [← ha0]; rfl
        have e16 : a0.tmps[16]?.getD undef = .func (Fn.func 26) #[] #[.pointer (some ⟨q, 0, none⟩)] := by rw [← ha0]; rfl
        have e17 : a0.tmps[17]?.getD undef = .pointer (some ⟨g17, 0, none⟩) := by rw [← ha0]; rfl
        have hz0 : a0.tmps.size = 140 := by rw [← ha0]; rfl
        have hha0 := Lib.hid ha0
        clear ha0
        refine wp_region_calm (fun jx_ => match jx_ with | 0 => SRel.is (.pointer (some ⟨g, 0, none⟩)) | 1 => SRel.is (.agg (arrK .u64 4 (wd xa))) | 2 => SRel.is (.agg (arrK .u64 4 (wd xn))) | 3 => SRel.is (.agg (arrK .u64 4 (wd vP))) | 4 => SRel.is (.slice xA xl xc) | 5 => SRel.is (.agg (arrK .u64 4 (wd xn))) | 6 => SRel.bN xn | 7 => SRel.is (.slice mA mm mc) | 8 => SRel.bN vP | 9 => SRel.is (.agg (arrK .u64 4 (wd vP))) | 10 => SRel.is (.bool true) | 11 => SRel.is (.bool true) | 12 => SRel.is (.pointer (some ⟨g, 0, none⟩)) | 13 => SRel.is (.agg (arrK .u64 4 (wd xa))) | 14 => SRel.is (.agg (arrK .u64 4 (wd vI))) | 15 => SRel.is (.func (Fn.func 26) #[] #[.pointer (some ⟨q, 0, none⟩)]) | 16 => SRel.is (.slice xA xl xc) | 17 => SRel.bN Q | 18 => SRel.bN pQ | 19 => SRel.is (.agg (arrK .u64 4 (wd vI))) | 20 => SRel.is (.bool true) | 21 => SRel.is (.bool true) | 22 => SRel.is (.bool true) | 23 => SRel.is (.agg (arrK .u64 4 (wd u))) | 24 => SRel.bN u | 25 => SRel.is (.slice mA mm mc) | 26 => SRel.is (.int .i64 (-1)) | 27 => SRel.is (.bool true) | 28 => SRel.is (.bool true) | 29 => SRel.is (.bool true) | 30 => SRel.is (.func (Fn.func 26) #[] #[.pointer (some ⟨q, 0, none⟩)]) | 31 => SRel.is (.agg (arrK .u64 4 (wd u))) | 32 => SRel.bN u | 33 => SRel.bN Q | 34 => SRel.bN pU | 35 => SRel.is (.agg (arrK .u64 4 (wd vT))) | 36 => SRel.is (.func (Fn.func 26) #[] #[.pointer (some ⟨q, 0, none⟩)]) | 37 => SRel.is (.agg (arrK .u64 8 (wd T))) | 38 => SRel.bN T | 39 => SRel.is (.agg (arrK .u64 4 (wd vT))) | 40 => SRel.is (.bool true) | 41 => SRel.is (.bool true) | 42 => SRel.is (.bool true) | _ => SRel.any) (by kernel_rfl) (by kernel_rfl) (by kernel_rfl) (slotsOk_of hz0 (by kernel_rfl)) ⟨?_, ?_, ?_, ?_, ?_, ?_, ?_, ?_, ?_, ?_, ?_, ?_, ?_, ?_, ?_, ?_, ?_, ?_, ?_, ?_, ?_, ?_, ?_, ?_, ?_, ?_, ?_, ?_, ?_, ?_, ?_, ?_, ?_, ?_, ?_, ?_, ?_, ?_, ?_, ?_, ?_, ?_, ?_, trivial⟩ ?_
        · refine calm_step rfl fun a ω κ hb hu hc hK => ?_
          have h11 : a.tmps[11]?.getD undef = .pointer (some ⟨g, 0, none⟩) := (hu 11 rfl).trans e11
          have hk := Lib.hid (fun w1 (h : Below ω.heap.size ω w1) => hK (.pointer (some ⟨g, 0, none⟩)) w1 rfl h)
          clear hK hu hc
          go_simp
          exact hk.out _ (Below.refl _ _)
        · refine calm_step rfl fun a ω κ hb hu hc hK => ?_
          have h6 : a.tmps[6]?.getD undef = .pointer (some ⟨w.heap.size + 1, 0, none⟩) := (hu 6 rfl).trans e6
          have hk := Lib.hid (fun w1 (h : Below ω.heap.size ω w1) => hK (.agg (arrK .u64 4 (wd xa))) w1 rfl h)
          clear hK hu hc
          have hr1 := (hAA.out.step hb).row
          have hr2 := (hAA.out.step hb).eq
          go_simp
          exact hk.out _ (Below.refl _ _)
        · refine calm_step rfl fun a ω κ hb hu hc hK => ?_
          have h8 : a.tmps[8]?.getD undef = .pointer (some ⟨w.heap.size + 1 + 1 + 1, 0, none⟩) := (hu 8 rfl).trans e8
          have hk := Lib.hid (fun w1 (h : Below ω.heap.size ω w1) => hK (.agg (arrK .u64 4 (wd xn))) w1 rfl h)
          clear hK hu hc
          have hr1 := (hNN.out.step hb).row
          have hr2 := (hNN.out.step hb).eq
          go_simp
          exact hk.out _ (Below.refl _ _)
        · refine calm_step rfl fun a ω κ hb hu hc hK => ?_
          have h98 : a.tmps[98]?.getD undef = .pointer (some ⟨g, 0, none⟩) := hc 0 98 rfl rfl
          have h99 : a.tmps[99]?.getD undef = .agg (arrK .u64 4 (wd xa)) := hc 1 99 rfl rfl
          have h100 : a.tmps[100]?.getD undef = .agg (arrK .u64 4 (wd xn)) := hc 2 100 rfl rfl
          have hk := Lib.hid (fun w1 (h : Below ω.heap.size ω w1) => hK (.agg (arrK .u64 4 (wd vP))) w1 rfl h)
          clear hK hu hc
          go_simp
          go_at_call 37
          refine (kPw.out _ hb).mono ?_
          rintro e w1 ⟨rfl, hb1⟩
          exact hk.out _ hb1
        · refine calm_step rfl fun a ω κ hb hu hc hK => ?_
          have h14 : a.tmps[14]?.getD undef = .slice xA xl xc := (hu 14 rfl).trans e14
          have hk := Lib.hid (fun w1 (h : Below ω.heap.size ω w1) => hK (.slice xA xl xc) w1 rfl h)
          clear hK hu hc
          go_simp
          exact hk.out _ (Below.refl _ _)
        · refine calm_step rfl fun a ω κ hb hu hc hK => ?_
          have h8 : a.tmps[8]?.getD undef = .pointer (some ⟨w.heap.size + 1 + 1 + 1, 0, none⟩) := (hu 8 rfl).trans e8
          have hk := Lib.hid (fun w1 (h : Below ω.heap.size ω w1) => hK (.agg (arrK .u64 4 (wd xn))) w1 rfl h)
          clear hK hu hc
          have hr1 := (hNN.out.step hb).row
          have hr2 := (hNN.out.step hb).eq
          go_simp
          exact hk.out _ (Below.refl _ _)
        · refine calm_step rfl fun a ω κ hb hu hc hK => ?_
          have h103 : a.tmps[103]?.getD undef = .agg (arrK .u64 4 (wd xn)) := hc 5 103 rfl rfl
          have hk := Lib.hid (fun v w1 (hv : (SRel.bN xn).p v w1) (h : Below ω.heap.size ω w1) => hK v w1 hv h)
          clear hK hu hc
          go_simp
          go_at_call 25
          refine (kOn.out _).mono ?_
          rintro e w1 ⟨u, rfl, hu, hb1⟩
          exact hk.out _ _ hu hb1
        · refine calm_step rfl fun a ω κ hb hu hc hK => ?_
          have h13 : a.tmps[13]?.getD undef = .pointer (some ⟨q, 0, none⟩) := (hu 13 rfl).trans e13
          have hk := Lib.hid (fun w1 (h : Below ω.heap.size ω w1) => hK (.slice mA mm mc) w1 rfl h)
          clear hK hu hc
          have cq := hCc.out _ hb
          go_simp
          exact hk.out _ (Below.refl _ _)
        · refine calm_step rfl fun a ω κ hb hu hc hK => ?_
          have h102 : a.tmps[102]?.getD undef = .slice xA xl xc := hc 4 102 rfl rfl
          have h104 : (SRel.bN xn).p (a.tmps[104]?.getD undef) ω := hc 6 104 rfl rfl
          have h105 : a.tmps[105]?.getD undef = .slice mA mm mc := hc 7 105 rfl rfl
          have hk := Lib.hid (fun v w1 (hv : (SRel.bN vP).p v w1) (h : Below ω.heap.size ω w1) => hK v w1 hv h)
          clear hK hu hc
          go_simp
          go_at_call 38
          refine (kPo.out _ hb _ h104).mono ?_
          rintro e w1 ⟨u, rfl, hu, hb1⟩
          exact hk.out _ _ hu hb1
        · refine calm_step rfl fun a ω κ hb hu hc hK => ?_
          have h106 : (SRel.bN vP).p (a.tmps[106]?.getD undef) ω := hc 8 106 rfl rfl
          have hk := Lib.hid (fun w1 (h : Below ω.heap.size ω w1) => hK (.agg (arrK .u64 4 (wd vP))) w1 rfl h)
          clear hK hu hc
          go_simp
          go_at_call 27
          refine (kTn.out _ _ h106).mono ?_
          rintro e w1 ⟨rfl, hb1⟩
          exact hk.out _ hb1
        · refine calm_step rfl fun a ω κ hb hu hc hK => ?_
          have h101 : a.tmps[101]?.getD undef = .agg (arrK .u64 4 (wd vP)) := hc 3 101 rfl rfl
          have h107 : a.tmps[107]?.getD undef = .agg (arrK .u64 4 (wd vP)) := hc 9 107 rfl rfl
          have hk := Lib.hid (fun w1 (h : Below ω.heap.size ω w1) => hK (.bool true) w1 rfl h)
          clear hK hu hc
          exact wp_eqlA (v := arrK .u64 4 (wd vP)) (u := arrK .u64 4 (wd vP)) (.inr rfl) (by kernel_rfl) (by go_simp) (by go_simp) (eqlS _ _) (hk.out _ (Below.refl _ _))
        · refine calm_step rfl fun a ω κ hb hu hc hK => ?_
          have h108 : a.tmps[108]?.getD undef = .bool true := hc 10 108 rfl rfl
          have hk := Lib.hid (fun w1 (h : Below ω.heap.size ω w1) => hK (.bool true) w1 rfl h)
          clear hK hu hc
          go_simp
          exact hk.out _ (Below.refl _ _)
        · refine calm_step_guard (g := 11) (b := true) (d := 109) rfl rfl (fun a w hc => hc 11 109 rfl rfl) fun a ω κ hb hu hc hK => ?_
          have h11 : a.tmps[11]?.getD undef = .pointer (some ⟨g, 0, none⟩) := (hu 11 rfl).trans e11
          have hk := Lib.hid (fun w1 (h : Below ω.heap.size ω w1) => hK (.pointer (some ⟨g, 0, none⟩)) w1 rfl h)
          clear hK hu hc
          go_simp
          exact hk.out _ (Below.refl _ _)
        · refine calm_step_guard (g := 11) (b := true) (d := 109) rfl rfl (fun a w hc => hc 11 109 rfl rfl) fun a ω κ hb hu hc hK => ?_
          have h6 : a.tmps[6]?.getD undef = .pointer (some ⟨w.heap.size + 1, 0, none⟩) := (hu 6 rfl).trans e6
          have hk := Lib.hid (fun w1 (h : Below ω.heap.size ω w1) => hK (.agg (arrK .u64 4 (wd xa))) w1 rfl h)
          clear hK hu hc
          have hr1 := (hAA.out.step hb).row
          have hr2 := (hAA.out.step hb).eq
          go_simp
          exact hk.out _ (Below.refl _ _)
        · refine calm_step_guard (g := 11) (b := true) (d := 109) rfl rfl (fun a w hc => hc 11 109 rfl rfl) fun a ω κ hb hu hc hK => ?_
          have h110 : a.tmps[110]?.getD undef = .pointer (some ⟨g, 0, none⟩) := hc 12 110 rfl rfl
          have h111 : a.tmps[111]?.getD undef = .agg (arrK .u64 4 (wd xa)) := hc 13 111 rfl rfl
          have hk := Lib.hid (fun w1 (h : Below ω.heap.size ω w1) => hK (.agg (arrK .u64 4 (wd vI))) w1 rfl h)
          clear hK hu hc
          go_simp
          go_at_call 39
          refine (kIn.out _ hb).mono ?_
          rintro e w1 ⟨rfl, hb1⟩
          exact hk.out _ hb1
        · refine calm_step_guard (g := 11) (b := true) (d := 109) rfl rfl (fun a w hc => hc 11 109 rfl rfl) fun a ω κ hb hu hc hK => ?_
          have h16 : a.tmps[16]?.getD undef = .func (Fn.func 26) #[] #[.pointer (some ⟨q, 0, none⟩)] := (hu 16 rfl).trans e16
          have hk := Lib.hid (fun w1 (h : Below ω.heap.size ω w1) => hK (.func (Fn.func 26) #[] #[.pointer (some ⟨q, 0, none⟩)]) w1 rfl h)
          clear hK hu hc
          go_simp
          exact hk.out _ (Below.refl _ _)
        · refine calm_step_guard (g := 11) (b := true) (d := 109) rfl rfl (fun a w hc => hc 11 109 rfl rfl) fun a ω κ hb hu hc hK => ?_
          have h14 : a.tmps[14]?.getD undef = .slice xA xl xc := (hu 14 rfl).trans e14
          have hk := Lib.hid (fun w1 (h : Below ω.heap.size ω w1) => hK (.slice xA xl xc) w1 rfl h)
          clear hK hu hc
          go_simp
          exact hk.out _ (Below.refl _ _)
        · refine calm_step_guard (g := 11) (b := true) (d := 109) rfl rfl (fun a w hc => hc 11 109 rfl rfl) fun a ω κ hb hu hc hK => ?_
          have hk := Lib.hid (fun v w1 (hv : (SRel.bN Q).p v w1) (h : Below ω.heap.size ω w1) => hK v w1 hv h)
          clear hK hu hc
          go_simp
          go_at_call 40
          refine (kTw.out _).mono ?_
          rintro e w1 ⟨u, rfl, hu, hb1⟩
          exact hk.out _ _ hu hb1
        · refine calm_step_guard (g := 11) (b := true) (d := 109) rfl rfl (fun a w hc => hc 11 109 rfl rfl) fun a ω κ hb hu hc hK => ?_
          have h114 : a.tmps[114]?.getD undef = .slice xA xl xc := hc 16 114 rfl rfl
          have h115 : (SRel.bN Q).p (a.tmps[115]?.getD undef) ω := hc 17 115 rfl rfl
          have hk := Lib.hid (fun v w1 (hv : (SRel.bN pQ).p v w1) (h : Below ω.heap.size ω w1) => hK v w1 hv h)
          clear hK hu hc
          go_simp
          go_at_call 35
          refine (kTq.out _ hb _ h115).mono ?_
          rintro e w1 ⟨u, rfl, hu, hb1⟩
          exact hk.out _ _ hu hb1
        · refine calm_step_guard (g := 11) (b := true) (d := 109) rfl rfl (fun a w hc => hc 11 109 rfl rfl) fun a ω κ hb hu hc hK => ?_
          have h113 : a.tmps[113]?.getD undef = .func (Fn.func 26) #[] #[.pointer (some ⟨q, 0, none⟩)] := hc 15 113 rfl rfl
          have h116 : (SRel.bN pQ).p (a.tmps[116]?.getD undef) ω := hc 18 116 rfl rfl
          have hk := Lib.hid (fun w1 (h : Below ω.heap.size ω w1) => hK (.agg (arrK .u64 4 (wd vI))) w1 rfl h)
          clear hK hu hc
          go_simp
          refine (kLi.out _ hb _ h116).mono ?_
          rintro e w1 ⟨rfl, hb1⟩
          exact hk.out _ hb1
        · refine calm_step_guard (g := 11) (b := true) (d := 109) rfl rfl (fun a w hc => hc 11 109 rfl rfl) fun a ω κ hb hu hc hK => ?_
          have h112 : a.tmps[112]?.getD undef = .agg (arrK .u64 4 (wd vI)) := hc 14 112 rfl rfl
          have h117 : a.tmps[117]?.getD undef = .agg (arrK .u64 4 (wd vI)) := hc 19 117 rfl rfl
          have hk := Lib.hid (fun w1 (h : Below ω.heap.size ω w1) => hK (.bool true) w1 rfl h)
          clear hK hu hc
          exact wp_eqlA (v := arrK .u64 4 (wd vI)) (u := arrK .u64 4 (wd vI)) (.inr rfl) (by kernel_rfl) (by go_simp) (by go_simp) (eqlS _ _) (hk.out _ (Below.refl _ _))
        · refine calm_step rfl fun a ω κ hb hu hc hK => ?_
          have h109 : a.tmps[109]?.getD undef = .bool true := hc 11 109 rfl rfl
          have h118 : a.tmps[118]?.getD undef = .bool true := hc 20 118 rfl rfl
          have hk := Lib.hid (fun w1 (h : Below ω.heap.size ω w1) => hK (.bool true) w1 rfl h)
          clear hK hu hc
          go_simp
          exact hk.out _ (Below.refl _ _)
        · refine calm_step rfl fun a ω κ hb hu hc hK => ?_
          have h119 : a.tmps[119]?.getD undef = .bool true := hc 21 119 rfl rfl
          have hk := Lib.hid (fun w1 (h : Below ω.heap.size ω w1) => hK (.bool true) w1 rfl h)
          clear hK hu hc
          go_simp
          exact hk.out _ (Below.refl _ _)
        · refine calm_step_guard (g := 22) (b := true) (d := 120) rfl rfl (fun a w hc => hc 22 120 rfl rfl) fun a ω κ hb hu hc hK => ?_
          have h17 : a.tmps[17]?.getD undef = .pointer (some ⟨g17, 0, none⟩) := (hu 17 rfl).trans e17
          have hk := Lib.hid (fun w1 (h : Below ω.heap.size ω w1) => hK (.agg (arrK .u64 4 (wd u))) w1 rfl h)
          clear hK hu hc
          have hr1 := (hUU.out.step hb).row
          have hr2 := (hUU.out.step hb).eq
          go_simp
          exact hk.out _ (Below.refl _ _)
        · refine calm_step_guard (g := 22) (b := true) (d := 120) rfl rfl (fun a w hc => hc 22 120 rfl rfl) fun a ω κ hb hu hc hK => ?_
          have h121 : a.tmps[121]?.getD undef = .agg (arrK .u64 4 (wd u)) := hc 23 121 rfl rfl
          have hk := Lib.hid (fun v w1 (hv : (SRel.bN u).p v w1) (h : Below ω.heap.size ω w1) => hK v w1 hv h)
          clear hK hu hc
          go_simp
          go_at_call 25
          refine (kOu.out _).mono ?_
          rintro e w1 ⟨u, rfl, hu, hb1⟩
          exact hk.out _ _ hu hb1
        · refine calm_step_guard (g := 22) (b := true) (d := 120) rfl rfl (fun a w hc => hc 22 120 rfl rfl) fun a ω κ hb hu hc hK => ?_
          have h13 : a.tmps[13]?.getD undef = .pointer (some ⟨q, 0, none⟩) := (hu 13 rfl).trans e13
          have hk := Lib.hid (fun w1 (h : Below ω.heap.size ω w1) => hK (.slice mA mm mc) w1 rfl h)
          clear hK hu hc
          have cq := hCc.out _ hb
          go_simp
          exact hk.out _ (Below.refl _ _)
        · refine calm_step_guard (g := 22) (b := true) (d := 120) rfl rfl (fun a w hc => hc 22 120 rfl rfl) fun a ω κ hb hu hc hK => ?_
          have h122 : (SRel.bN u).p (a.tmps[122]?.getD undef) ω := hc 24 122 rfl rfl
          have h123 : a.tmps[123]?.getD undef = .slice mA mm mc := hc 25 123 rfl rfl
          have hk := Lib.hid (fun w1 (h : Below ω.heap.size ω w1) => hK (.int .i64 (-1)) w1 rfl h)
          clear hK hu hc
          go_simp
          go_at_call 41
          refine (kOr.out _ hb _ h122).mono ?_
          rintro e w1 ⟨rfl, rfl⟩
          exact hk.out _ (Below.refl _ _)
        · refine calm_step_guard (g := 22) (b := true) (d := 120) rfl rfl (fun a w hc => hc 22 120 rfl rfl) fun a ω κ hb hu hc hK => ?_
          have h124 : a.tmps[124]?.getD undef = .int .i64 (-1) := hc 26 124 rfl rfl
          have hk := Lib.hid (fun w1 (h : Below ω.heap.size ω w1) => hK (.bool true) w1 rfl h)
          clear hK hu hc
          go_simp
          exact hk.out _ (Below.refl _ _)
        · refine calm_step rfl fun a ω κ hb hu hc hK => ?_
          have h120 : a.tmps[120]?.getD undef = .bool true := hc 22 120 rfl rfl
          have h125 : a.tmps[125]?.getD undef = .bool true := hc 27 125 rfl rfl
          have hk := Lib.hid (fun w1 (h : Below ω.heap.size ω w1) => hK (.bool true) w1 rfl h)
          clear hK hu hc
          go_simp
          exact hk.out _ (Below.refl _ _)
        · refine calm_step rfl fun a ω κ hb hu hc hK => ?_
          have h126 : a.tmps[126]?.getD undef = .bool true := hc 28 126 rfl rfl
          have hk := Lib.hid (fun w1 (h : Below ω.heap.size ω w1) => hK (.bool true) w1 rfl h)
          clear hK hu hc
          go_simp
          exact hk.out _ (Below.refl _ _)
        · refine calm_step_guard (g := 29) (b := true) (d := 127) rfl rfl (fun a w hc => hc 29 127 rfl rfl) fun a ω κ hb hu hc hK => ?_
          have h16 : a.tmps[16]?.getD undef = .func (Fn.func 26) #[] #[.pointer (some ⟨q, 0, none⟩)] := (hu 16 rfl).trans e16
          have hk := Lib.hid (fun w1 (h : Below ω.heap.size ω w1) => hK (.func (Fn.func 26) #[] #[.pointer (some ⟨q, 0, none⟩)]) w1 rfl h)
          clear hK hu hc
          go_simp
          exact hk.out _ (Below.refl _ _)
        · refine calm_step_guard (g := 29) (b := true) (d := 127) rfl rfl (fun a w hc => hc 29 127 rfl rfl) fun a ω κ hb hu hc hK => ?_
          have h17 : a.tmps[17]?.getD undef = .pointer (some ⟨g17, 0, none⟩) := (hu 17 rfl).trans e17
          have hk := Lib.hid (fun w1 (h : Below ω.heap.size ω w1) => hK (.agg (arrK .u64 4 (wd u))) w1 rfl h)
          clear hK hu hc
          have hr1 := (hUU.out.step hb).row
          have hr2 := (hUU.out.step hb).eq
          go_simp
          exact hk.out _ (Below.refl _ _)
        · refine calm_step_guard (g := 29) (b := true) (d := 127) rfl rfl (fun a w hc => hc 29 127 rfl rfl) fun a ω κ hb hu hc hK => ?_
          have h129 : a.tmps[129]?.getD undef = .agg (arrK .u64 4 (wd u)) := hc 31 129 rfl rfl
          have hk := Lib.hid (fun v w1 (hv : (SRel.bN u).p v w1) (h : Below ω.heap.size ω w1) => hK v w1 hv h)
          clear hK hu hc
          go_simp
          go_at_call 25
          refine (kOu.out _).mono ?_
          rintro e w1 ⟨u, rfl, hu, hb1⟩
          exact hk.out _ _ hu hb1
        · refine calm_step_guard (g := 29) (b := true) (d := 127) rfl rfl (fun a w hc => hc 29 127 rfl rfl) fun a ω κ hb hu hc hK => ?_
          have hk := Lib.hid (fun v w1 (hv : (SRel.bN Q).p v w1) (h : Below ω.heap.size ω w1) => hK v w1 hv h)
          clear hK hu hc
          go_simp
          go_at_call 40
          refine (kTw.out _).mono ?_
          rintro e w1 ⟨u, rfl, hu, hb1⟩
          exact hk.out _ _ hu hb1
        · refine calm_step_guard (g := 29) (b := true) (d := 127) rfl rfl (fun a w hc => hc 29 127 rfl rfl) fun a ω κ hb hu hc hK => ?_
          have h130 : (SRel.bN u).p (a.tmps[130]?.getD undef) ω := hc 32 130 rfl rfl
          have h131 : (SRel.bN Q).p (a.tmps[131]?.getD undef) ω := hc 33 131 rfl rfl
          have hk := Lib.hid (fun v w1 (hv : (SRel.bN pU).p v w1) (h : Below ω.heap.size ω w1) => hK v w1 hv h)
          clear hK hu hc
          go_simp
          go_at_call 35
          refine (kTo.out _ _ _ h130 h131).mono ?_
          rintro e w1 ⟨u, rfl, hu, hb1⟩
          exact hk.out _ _ hu hb1
        · refine calm_step_guard (g := 29) (b := true) (d := 127) rfl rfl (fun a w hc => hc 29 127 rfl rfl) fun a ω κ hb hu hc hK => ?_
          have h128 : a.tmps[128]?.getD undef = .func (Fn.func 26) #[] #[.pointer (some ⟨q, 0, none⟩)] := hc 30 128 rfl rfl
          have h132 : (SRel.bN pU).p (a.tmps[132]?.getD undef) ω := hc 34 132 rfl rfl
          have hk := Lib.hid (fun w1 (h : Below ω.heap.size ω w1) => hK (.agg (arrK .u64 4 (wd vT))) w1 rfl h)
          clear hK hu hc
          go_simp
          refine (kLo.out _ hb _ h132).mono ?_
          rintro e w1 ⟨rfl, hb1⟩
          exact hk.out _ hb1
        · refine calm_step_guard (g := 29) (b := true) (d := 127) rfl rfl (fun a w hc => hc 29 127 rfl rfl) fun a ω κ hb hu hc hK => ?_
          have h16 : a.tmps[16]?.getD undef = .func (Fn.func 26) #[] #[.pointer (some ⟨q, 0, none⟩)] := (hu 16 rfl).trans e16
          have hk := Lib.hid (fun w1 (h : Below ω.heap.size ω w1) => hK (.func (Fn.func 26) #[] #[.pointer (some ⟨q, 0, none⟩)]) w1 rfl h)
          clear hK hu hc
          go_simp
          exact hk.out _ (Below.refl _ _)
        · refine calm_step_guard (g := 29) (b := true) (d := 127) rfl rfl (fun a w hc => hc 29 127 rfl rfl) fun a ω κ hb hu hc hK => ?_
          have h9 : a.tmps[9]?.getD undef = .pointer (some ⟨w.heap.size + 1 + 1 + 1 + 1, 0, none⟩) := (hu 9 rfl).trans e9
          have hk := Lib.hid (fun w1 (h : Below ω.heap.size ω w1) => hK (.agg (arrK .u64 8 (wd T))) w1 rfl h)
          clear hK hu hc
          have hr1 := (hWW.out.step hb).row
          have hr2 := (hWW.out.step hb).eq
          go_simp
          exact hk.out _ (Below.refl _ _)
        · refine calm_step_guard (g := 29) (b := true) (d := 127) rfl rfl (fun a w hc => hc 29 127 rfl rfl) fun a ω κ hb hu hc hK => ?_
          have h135 : a.tmps[135]?.getD undef = .agg (arrK .u64 8 (wd T)) := hc 37 135 rfl rfl
          have hk := Lib.hid (fun v w1 (hv : (SRel.bN T).p v w1) (h : Below ω.heap.size ω w1) => hK v w1 hv h)
          clear hK hu hc
          go_simp
          go_at_call 42
          refine (kOw.out _).mono ?_
          rintro e w1 ⟨u, rfl, hu, hb1⟩
          exact hk.out _ _ hu hb1
        · refine calm_step_guard (g := 29) (b := true) (d := 127) rfl rfl (fun a w hc => hc 29 127 rfl rfl) fun a ω κ hb hu hc hK => ?_
          have h134 : a.tmps[134]?.getD undef = .func (Fn.func 26) #[] #[.pointer (some ⟨q, 0, none⟩)] := hc 36 134 rfl rfl
          have h136 : (SRel.bN T).p (a.tmps[136]?.getD undef) ω := hc 38 136 rfl rfl
          have hk := Lib.hid (fun w1 (h : Below ω.heap.size ω w1) => hK (.agg (arrK .u64 4 (wd vT))) w1 rfl h)
          clear hK hu hc
          go_simp
          refine (kLw.out _ hb _ h136).mono ?_
          rintro e w1 ⟨rfl, hb1⟩
          exact hk.out _ hb1
        · refine calm_step_guard (g := 29) (b := true) (d := 127) rfl rfl (fun a w hc => hc 29 127 rfl rfl) fun a ω κ hb hu hc hK => ?_
          have h133 : a.tmps[133]?.getD undef = .agg (arrK .u64 4 (wd vT)) := hc 35 133 rfl rfl
          have h137 : a.tmps[137]?.getD undef = .agg (arrK .u64 4 (wd vT)) := hc 39 137 rfl rfl
          have hk := Lib.hid (fun w1 (h : Below ω.heap.size ω w1) => hK (.bool true) w1 rfl h)
          clear hK hu hc
          exact wp_eqlA (v := arrK .u64 4 (wd vT)) (u := arrK .u64 4 (wd vT)) (.inr rfl) (by kernel_rfl) (by go_simp) (by go_simp) (eqlS _ _) (hk.out _ (Below.refl _ _))
        · refine calm_step rfl fun a ω κ hb hu hc hK => ?_
          have h127 : a.tmps[127]?.getD undef = .bool true := hc 29 127 rfl rfl
          have h138 : a.tmps[138]?.getD undef = .bool true := hc 40 138 rfl rfl
          have hk := Lib.hid (fun w1 (h : Below ω.heap.size ω w1) => hK (.bool true) w1 rfl h)
          clear hK hu hc
          go_simp
          exact hk.out _ (Below.refl _ _)
        · refine calm_step rfl fun a ω κ hb hu hc hK => ?_
          have h139 : a.tmps[139]?.getD undef = .bool true := hc 41 139 rfl rfl
          have hk := Lib.hid (fun w1 (h : Below ω.heap.size ω w1) => hK (.bool true) w1 rfl h)
          clear hK hu hc
          go_simp
          exact hk.out _ (Below.refl _ _)
        · intro a1 w1 hb1 hu1 hsz1 hdf1 hc1
          have ha0 := hha0.out
          subst ha0
          have he := act_patch (n := 140) [false, false, false, false, false, false, false, false, false, false, true, false, false, false, false, false, false, false, false, false, false, false, false, false, false, false, false, false, false, false, false, false, false, false, false, false, false, false, false, false, false, false, false, false, false, false, false, false, false, false, false, false, false, false, false, false, false, false, false, false, false, false, false, false, false, false, false, false, false, false, false, false, false, false, false, false, false, false, false, false, false, false, false, false, false, false, false, false, false, false, false, false, false, false, false, false, false, false, true, true, true, true, true, true, true, true, true, true, true, true, true, true, true, true, true, true, true, true, true, true, true, true, true, true, true, true, true, true, true, true, true, true, true, true, true, true, true, true, true, true] rfl (by kernel_rfl) hu1 hsz1 hdf1
          simp only [patch, cond_true, cond_false, Nat.reduceAdd] at he
          have hkn10 : a1.tmps[10]?.getD undef = .bool true := hc1 42 10 rfl
          replace hLL := Lib.hid (below_step hb1 hLL.out (Nat.le_refl _))
          clear hb1 hu1 hsz1 hdf1 hc1 hz0 hha0 e6 e8 e9 e11 e13 e14 e16 e17
          rw [he]
          clear he
          rw [hkn10]
          clear hkn10
          generalize a1.tmps[98]?.getD undef = x98 at *
          generalize a1.tmps[99]?.getD undef = x99 at *
          generalize a1.tmps[100]?.getD undef = x100 at *
          generalize a1.tmps[101]?.getD undef = x101 at *
          generalize a1.tmps[102]?.getD undef = x102 at *
          generalize a1.tmps[103]?.getD undef = x103 at *
          generalize a1.tmps[104]?.getD undef = x104 at *
          generalize a1.tmps[105]?.getD undef = x105 at *
          generalize a1.tmps[106]?.getD undef = x106 at *
          generalize a1.tmps[107]?.getD undef = x107 at *
          generalize a1.tmps[108]?.getD undef = x108 at *
          generalize a1.tmps[109]?.getD undef = x109 at *
          generalize a1.tmps[110]?.getD undef = x110 at *
          generalize a1.tmps[111]?.getD undef = x111 at *
          generalize a1.tmps[112]?.getD undef = x112 at *
          generalize a1.tmps[113]?.getD undef = x113 at *
          generalize a1.tmps[114]?.getD undef = x114 at *
          generalize a1.tmps[115]?.getD undef = x115 at *
          generalize a1.tmps[116]?.getD undef = x116 at *
          generalize a1.tmps[117]?.getD undef = x117 at *
          generalize a1.tmps[118]?.getD undef = x118 at *
          generalize a1.tmps[119]?.getD undef = x119 at *
          generalize a1.tmps[120]?.getD undef = x120 at *
          generalize a1.tmps[121]?.getD undef = x121 at *
          generalize a1.tmps[122]?.getD undef = x122 at *
          generalize a1.tmps[123]?.getD undef = x123 at *
          generalize a1.tmps[124]?.getD undef = x124 at *
          generalize a1.tmps[125]?.getD undef = x125 at *
          generalize a1.tmps[126]?.getD undef = x126 at *
          generalize a1.tmps[127]?.getD undef = x127 at *
          generalize a1.tmps[128]?.getD undef = x128 at *
          generalize a1.tmps[129]?.getD undef = x129 at *
          generalize a1.tmps[130]?.getD undef = x130 at *
          generalize a1.tmps[131]?.getD undef = x131 at *
          generalize a1.tmps[132]?.getD undef = x132 at *
          generalize a1.tmps[133]?.getD undef = x133 at *
          generalize a1.tmps[134]?.getD undef = x134 at *
          generalize a1.tmps[135]?.getD undef = x135 at *
          generalize a1.tmps[136]?.getD undef = x136 at *
          generalize a1.tmps[137]?.getD undef = x137 at *
          generalize a1.tmps[138]?.getD undef = x138 at *
          generalize a1.tmps[139]?.getD undef = x139 at *
          go_wp2_with fail
          exact ret_tmp (p := 10) (v := .bool true) rfl (by simp) rfl ⟨rfl, hLL.out⟩
end Go.Proofs.Ytgdiokklfihfoaa
namespace Go.Proofs.Ytgdiokklfihfoaa
open Go Go.RowKit Go.ChangeShapes Go.WideShapes Go.ChangeAt Go.Deep

section
variable {P : Program} {w : World} {r : Reach} {b0 : Nat} {t : TypeId} {v : Value}

theorem oneCell_of_okWide {u : TypeId} {x : Value} (h : Cell.okWide P w r b0 u x) : x.oneCell' = true := by
  cases x <;> first | rfl | (exfalso; unfold Cell.okWide Cell.ok at h; revert h; split <;> (try split) <;> simp_all)

/-- A struct or an array by value: its cells, each of its own type. -/
theorem open_cells {n : Nat} {ts : List TypeId} (hu : (match P.underlying t with | some (.struct _) | some (.array _ _) => true | _ => false) = true) (hts : P.cellTypes P.depth t = some ts) (hn : ts.length = n)
    (hC : P.cellsOf t = n) (h : Value.okWide P w r b0 t v) : ∃ c : Array Value, v = .agg c ∧ Cells c n ∧ ∀ (i : Nat) u, ts[i]? = some u → ∃ x, c[i]? = some x ∧ Cell.okWide P w r b0 u x := by
  have h' : ∃ cs, v = .agg cs ∧ cs.size = P.cellsOf t ∧ Row.okWide P w r b0 t cs := by
    unfold Value.okWide at h
    cases hd : P.underlying t with
    | none => simp [hd] at hu
    | some d => cases d <;> first | (simp [hd] at hu; done) | (simpa [hd] using h)
  obtain ⟨c, rfl, hs, ts', hts', -, hc⟩ := h'
  obtain rfl : ts = ts' := Option.some.inj (hts.symm.trans hts')
  rw [hC] at hs
  refine ⟨c, rfl, ⟨hs, ?_⟩, fun i u hi => ?_⟩
  · rw [Array.all_eq_true_iff_forall_mem]
    intro x hx
    obtain ⟨i, hi⟩ := Array.getElem?_of_mem hx
    obtain ⟨u, -, hk⟩ := hc i x hi
    exact oneCell_of_okWide hk
  · have hil : i < ts.length := (List.getElem?_eq_some_iff.1 hi).1
    have hi2 : i < c.size := by omega
    obtain ⟨u', h1, h2⟩ := hc i c[i] (Array.getElem?_eq_getElem hi2)
    rw [Nat.mod_eq_of_lt hil] at h1
    obtain rfl : u = u' := Option.some.inj (hi.symm.trans h1)
    exact ⟨_, Array.getElem?_eq_getElem hi2, h2⟩

theorem cell_int {u : TypeId} {k : IntKind} {x : Value} (hu : P.underlying u = some (.int k)) (h : Cell.okWide P w r b0 u x) : ∃ n, x = .int k n ∧ k.has n := by
  cases x <;> simp [Cell.okWide, Cell.ok, hu] at h
  obtain ⟨rfl, h⟩ := h
  exact ⟨_, rfl, h⟩
theorem cell_slice {u e : TypeId} {x : Value} (hu : P.underlying u = some (.slice e)) (h : Cell.okWide P w r b0 u x) : ∃ a n c, x = .slice a n c ∧ n ≤ c ∧ c ≤ 9223372036854775807 := by
  cases x with
  | slice a n c =>
    cases a with
    | none =>
      cases n <;> cases c <;> simp [Cell.okWide, Cell.ok, hu] at h
      exact ⟨_, _, _, rfl, by omega, by omega⟩
    | some a =>
      simp [Cell.okWide, Cell.ok, hu] at h
      exact ⟨_, _, _, rfl, h.1, by have h2 : (c : Int) ≤ 9223372036854775807 := h.2.1; omega⟩
  | _ => simp [Cell.okWide, Cell.ok, hu] at h
theorem has_u8 {n : Int} (h : IntKind.u8.has n) : 0 ≤ n ∧ n < 256 := by simp [IntKind.has, IntKind.min, IntKind.max, IntKind.bits, IntKind.signed] at h; omega
theorem has_u32 {n : Int} (h : IntKind.u32.has n) : 0 ≤ n ∧ n < 4294967296 := by simp [IntKind.has, IntKind.min, IntKind.max, IntKind.bits, IntKind.signed] at h; omega
theorem has_u64 {n : Int} (h : IntKind.u64.has n) : 0 ≤ n ∧ n < 18446744073709551616 := by simp [IntKind.has, IntKind.min, IntKind.max, IntKind.bits, IntKind.signed] at h; omega
theorem has_i64 {n : Int} (h : IntKind.i64.has n) : -9223372036854775808 ≤ n ∧ n < 9223372036854775808 := by simp [IntKind.has, IntKind.min, IntKind.max, IntKind.bits, IntKind.signed] at h; omega
end

theorem cell_lt {w : World} {a : Addr} {v : Value} (h : w.cell? a = some v) : a.block < w.heap.size := by
  rcases Nat.lt_or_ge a.block w.heap.size with hlt | hge
  · exact hlt
  · simp only [World.cell?, Array.getElem?_eq_none hge] at h; cases h

/-- One choice for each index, as a list. -/
theorem list_of {α : Type} (n : Nat) (p : Nat → α → Prop) (h : ∀ i, i < n → ∃ x, p i x) : ∃ l : List α, l.length = n ∧ ∀ i (hi : i < l.length), p i l[i] := by
  induction n with
  | zero => exact ⟨[], rfl, fun i hi => absurd hi (by simp)⟩
  | succ n ih =>
    obtain ⟨l, hl, hp⟩ := ih fun i hi => h i (by omega)
    obtain ⟨x, hx⟩ := h n (by omega)
    refine ⟨l ++ [x], by simp [hl], fun i hi => ?_⟩
    by_cases hlt : i < l.length
    · rw [List.getElem_append_left hlt]; exact hp i hlt
    · have : i = l.length := by simp at hi; omega
      subst this
      rw [List.getElem_append_right (Nat.le_refl _)]
      simpa [hl] using hx

section
variable {H : Type} {enc : TypeId × Value → H} {P : Program} {w : World} {base : Nat} {spare : Nat → Bool} {held : Bool}

theorem wf_u8 {z : Int} (h : (Lit.int .u8 z).wf = true) : 0 ≤ z ∧ z < 256 := by
  simp only [Lit.wf, Bool.and_eq_true, decide_eq_true_eq] at h
  exact has_u8 h

/-- A slice of bytes that came in, by its reading. -/
theorem open_bytes {t e : TypeId} {fuel : Nat} {v : Value} {x : DataW H × List MemPlace} (ht : P.underlying t = some (.slice e)) (he : P.underlying e = some (.int .u8)) (hc : P.cellsOf e = 1)
    (h : DataW.trod enc P w base spare held fuel t [v] = some x) : ∃ (A : Option Addr) (l : List UInt8) (c : Nat), v = .slice A l.length c ∧ Rd w w.heap.size A (bytesV l) ∧ l.length ≤ c ∧ c ≤ maxLen := by
  rcases open_ints ht he hc h with ⟨hcs, -⟩ | ⟨a, len, cap, zs, hcs, -, hl, hm, hz, -, hcell, hwz⟩
  · injection hcs with hv
    exact ⟨none, [], 0, hv, Rd.nil, by simp, by simp [maxLen]⟩
  · injection hcs with hv
    have hlz : len ≤ zs.length := by rw [hz]; split <;> omega
    have hmap : ((zs.take len).map fun z => UInt8.ofNat z.toNat).length = len := by simp; omega
    refine ⟨some a, (zs.take len).map fun z => UInt8.ofNat z.toNat, cap, by rw [hmap]; exact hv, fun j u hu => ?_, by rw [hmap]; exact hl, hm⟩
    have hj : j < len := by
      have := (List.getElem?_eq_some_iff.1 hu).1
      simp [bytesV] at this; omega
    have hjz : j < zs.length := by omega
    have hcj := hcell j hjz
    have hlt := cell_lt hcj
    rw [addr_block] at hlt
    refine ⟨a, rfl, hlt, ?_⟩
    rw [hcj, ← hu]
    have hw := wf_u8 (hwz zs[j] (List.getElem_mem hjz))
    simp [bytesV, hj, List.getElem?_eq_getElem hjz, UInt8.toNat_ofNat']
    omega

/-- A slice of structs of one-cell fields that came in: each field's cell, and its own reading. -/
theorem open_rows {t e : TypeId} {fs : Array Field} {fuel : Nat} {v : Value} {x : DataW H × List MemPlace} (ht : P.underlying t = some (.slice e)) (he : P.underlying e = some (.struct fs))
    (hone : oneCellFields P fs = true) (hC : P.cellsOf e = fs.size) (h : DataW.trod enc P w base spare held fuel t [v] = some x) :
    ∃ (A : Option Addr) (n c : Nat), v = .slice A n c ∧ n ≤ c ∧ c ≤ maxLen ∧ ∀ i, i < n → ∃ a, A = some a ∧
      ∀ (j : Nat) (f : Field), fs[j]? = some f → ∃ (u : Value) (y : DataW H × List MemPlace) (m : Nat), w.cell? (a.add (i * fs.size + j)) = some u ∧ DataW.trod enc P w base spare held m f.type [u] = some y := by
  rcases open_slice ht h with ⟨hcs, -⟩ | ⟨a, len, cap, m, n, D, Pl, hcs, -, hl, hm, hmm, -, hi⟩
  · injection hcs with hv
    exact ⟨none, 0, 0, hv, Nat.le_refl _, by simp [maxLen], fun i hi => absurd hi (by omega)⟩
  · injection hcs with hv
    refine ⟨some a, len, cap, hv, hl, hm, fun i hil => ⟨a, rfl, fun j f hj => ?_⟩⟩
    have him : i < m := by rw [hmm]; split <;> omega
    obtain ⟨cs', hc, ht'⟩ := hi i him
    rw [hC] at hc
    obtain ⟨ys, n', -, -, -, hyl, hf⟩ := DataW.trod_struct he ht'
    obtain ⟨_, hcl, hat⟩ := World.cells?_some hc
    obtain ⟨ho, hk⟩ := hone_of hone j f hj
    have hjl : j < fs.size := (Array.getElem?_eq_some_iff.1 hj).1
    have hcell := hat j hjl
    have hv : cs'[j]? = some (cs'[j]'(by omega)) := List.getElem?_eq_getElem (by omega)
    have h1 := hf j f hj
    rw [ho, hk] at h1
    have hone' : (cs'.drop j).take 1 = [cs'[j]'(by omega)] := by
      rw [List.drop_eq_getElem_cons (by omega)]
      rfl
    rw [hone'] at h1
    have hys : ys[j]? = some (ys[j]'(by omega)) := List.getElem?_eq_getElem (by omega)
    refine ⟨_, _, n', ?_, h1.trans hys⟩
    rw [← addr_add, hcell, hv]
end
end Go.Proofs.Ytgdiokklfihfoaa
namespace Go.Proofs.Ytgdiokklfihfoaa
open Go Go.RowKit Go.ChangeShapes Go.WideShapes Go.ChangeAt Go.Deep

section
variable {P : Program} {w : World} {r : Reach} {b0 : Nat} {t : TypeId} {v : Value}

theorem val_int {k : IntKind} (hu : P.underlying t = some (.int k)) (h : Value.okWide P w r b0 t v) : ∃ n, v = .int k n ∧ k.has n := by
  have h' : Cell.okWide P w r b0 t v := by
    unfold Value.okWide at h
    simpa [hu] using h
  exact cell_int hu h'
theorem val_u8 (hu : P.underlying t = some (.int .u8)) (h : Value.okWide P w r b0 t v) : ∃ n : Nat, v = .int .u8 n ∧ n < 256 := by
  obtain ⟨n, rfl, hn⟩ := val_int hu h
  have := has_u8 hn
  exact ⟨n.toNat, by rw [Int.toNat_of_nonneg this.1], by omega⟩
theorem val_u64 (hu : P.underlying t = some (.int .u64)) (h : Value.okWide P w r b0 t v) : ∃ n : Nat, v = .int .u64 n ∧ n < 18446744073709551616 := by
  obtain ⟨n, rfl, hn⟩ := val_int hu h
  have := has_u64 hn
  exact ⟨n.toNat, by rw [Int.toNat_of_nonneg this.1], by omega⟩
theorem val_i64 (hu : P.underlying t = some (.int .i64)) (h : Value.okWide P w r b0 t v) : ∃ n : Int, v = .int .i64 n ∧ -9223372036854775808 ≤ n ∧ n < 9223372036854775808 := by
  obtain ⟨n, rfl, hn⟩ := val_int hu h
  exact ⟨n, rfl, has_i64 hn⟩

/-- An array of unsigned integers by value. -/
theorem val_arr {k : IntKind} {e : TypeId} {n m : Nat} (hk : ∀ z, k.has z → 0 ≤ z ∧ z < m) (hu : P.underlying t = some (.array n e)) (he : P.underlying e = some (.int k)) (hts : P.cellTypes P.depth t = some (List.replicate n e))
    (hC : P.cellsOf t = n) (h : Value.okWide P w r b0 t v) : ∃ f : Nat → Nat, v = .agg (arrK k n f) ∧ ∀ i < n, f i < m := by
  obtain ⟨c, rfl, hc, hx⟩ := open_cells (by simp [hu]) hts (by simp) hC h
  have h1 : ∀ i, ∃ z : Nat, i < n → c[i]? = some (.int k z) ∧ z < m := fun i => by
    by_cases hi : i < n
    · obtain ⟨x, hx1, hx2⟩ := hx i e (by simp [hi])
      obtain ⟨z, rfl, hz⟩ := cell_int he hx2
      have := hk z hz
      exact ⟨z.toNat, fun _ => ⟨by rw [Int.toNat_of_nonneg this.1]; exact hx1, by omega⟩⟩
    · exact ⟨0, fun h => absurd h hi⟩
  refine ⟨fun i => (h1 i).choose, ?_, fun i hi => ((h1 i).choose_spec hi).2⟩
  exact congrArg Value.agg (arrK_of hc.1 fun i hi => ((h1 i).choose_spec hi).1)
end
end Go.Proofs.Ytgdiokklfihfoaa
namespace Go.Proofs.Ytgdiokklfihfoaa
open Go Go.RowKit Go.ChangeShapes Go.WideShapes Go.ChangeAt Go.Deep
section
variable {H : Type} {enc : TypeId × Value → H} {P : Program} {w : World} {base : Nat} {spare : Nat → Bool} {held : Bool}
theorem trodAll_five {t0 t1 t2 t3 t4 : TypeId} {args : Array Value} {ds : List (DataW H)} {ps : List MemPlace} (h : DataW.TrodAll enc P w base spare held [t0, t1, t2, t3, t4] args.toList ds ps) :
    ∃ v0 v1 v2 v3 v4 d0 d1 d2 d3 d4 p0 p1 p2 p3 p4, args = #[v0, v1, v2, v3, v4] ∧ ds = [d0, d1, d2, d3, d4] ∧ ps = p0 ++ p1 ++ p2 ++ p3 ++ p4 ∧ DataW.Trod enc P w base spare held t0 v0 d0 p0 ∧ DataW.Trod enc P w base spare held t1 v1 d1 p1 ∧ DataW.Trod enc P w base spare held t2 v2 d2 p2 ∧ DataW.Trod enc P w base spare held t3 v3 d3 p3 ∧ DataW.Trod enc P w base spare held t4 v4 d4 p4 := by
  obtain ⟨v0, vs0, d0, ds0, p0, q0, hargs, rfl, rfl, h0, r0⟩ := trodAll_cons h
  obtain ⟨v1, vs1, d1, ds1, p1, q1, rfl, rfl, rfl, h1, r1⟩ := trodAll_cons r0
  obtain ⟨v2, vs2, d2, ds2, p2, q2, rfl, rfl, rfl, h2, r2⟩ := trodAll_cons r1
  obtain ⟨v3, vs3, d3, ds3, p3, q3, rfl, rfl, rfl, h3, r3⟩ := trodAll_cons r2
  obtain ⟨v4, vs4, d4, ds4, p4, q4, rfl, rfl, rfl, h4, r4⟩ := trodAll_cons r3
  obtain ⟨rfl, rfl, rfl⟩ := trodAll_nil r4
  exact ⟨v0, v1, v2, v3, v4, d0, d1, d2, d3, d4, p0, p1, p2, p3, p4, by cases args; simp_all, rfl, by simp, h0, h1, h2, h3, h4⟩
end
end Go.Proofs.Ytgdiokklfihfoaa
