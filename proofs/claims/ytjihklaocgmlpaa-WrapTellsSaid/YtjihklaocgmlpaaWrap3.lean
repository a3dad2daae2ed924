/- Contract of package wrap: Unwrap. -/
import Derived.Test.YtjihklaocgmlpaaWrap1
import Derived.Test.YtjihklaocgmlpaaMode4
import Derived.Test.YtjihklaocgmlpaaAes4
namespace Go.Proofs.Ytjihklaocgmlpaa
open Go.ChangeShapes Go.WideShapes Go.ChangeAt Go.RowKit
set_option maxHeartbeats 4000000
set_option maxRecDepth 100000

/-- The first L cells of a row of N are bytes. -/
structure Pre (w : World) (g N L : Nat) (f : Nat → Nat) : Prop where
  row : Row w g N
  le : L ≤ N
  eq : ∀ p < L, (rowAt w g)[p]? = some (.int .u8 (f p : Nat))
theorem putAt_out {p : Nat} : ∀ (l : List Value) (c : Array Value) (o : Nat), p < o ∨ o + l.length ≤ p → (putAt c o l)[p]? = c[p]?
  | [], _, _, _ => rfl
  | v :: r, c, o, h => by
    rw [putAt, putAt_out r _ (o + 1) (by simp at h; omega), Array.getElem?_setIfInBounds_ne (by simp at h; omega)]
theorem putAt_in {n : Nat} {b : Nat → Nat} {p : Nat} : ∀ (m s : Nat) (c : Array Value) (o : Nat), o ≤ p → p < o + m → p < c.size → (putAt c o ((List.range' s m).map fun j => Value.int .u8 (b j : Nat)))[p]? = some (.int .u8 (b (p - o + s) : Nat))
  | 0, s, c, o, h1, h2, h3 => by omega
  | m + 1, s, c, o, h1, h2, h3 => by
    rw [List.range'_succ, List.map_cons, putAt]
    by_cases h : p = o
    · subst h
      rw [putAt_out _ _ _ (by omega), Array.getElem?_setIfInBounds_self_of_lt h3, Nat.sub_self, Nat.zero_add]
    · rw [putAt_in (n := n) m (s + 1) _ (o + 1) (by omega) (by omega) (by simpa using h3)]
      congr 3
      congr 1
      omega
section
variable {w w' : World} {g N L : Nat} {f : Nat → Nat}
theorem Pre.lt (h : Pre w g N L f) : g < w.heap.size := h.row.lt
theorem Pre.cell (h : Pre w g N L f) {p : Nat} (hp : p < L) : w.cell? ⟨g, p, none⟩ = some (.int .u8 (f p : Nat)) := by rw [h.row.cell, h.eq p hp]
theorem Pre.below {B : Nat} (h : Pre w g N L f) (hb : Below B w w') (hg : g < B) : Pre w' g N L f := ⟨row_below h.row hb hg, h.le, fun p hp => by rw [rowAt_below hb hg]; exact h.eq p hp⟩
theorem Pre.step (h : Pre w g N L f) (hb : Below w.heap.size w w') : Pre w' g N L f := h.below hb h.row.lt
theorem Pre.old (h : Pre w g N L f) (o : Obj) : Pre (w.alloc o) g N L f := h.step (below_alloc _ _)
theorem Pre.drew (h : Pre w g N L f) : Pre w.drew g N L f := ⟨h.row, h.le, h.eq⟩
theorem Pre.far (h : Pre w g N L f) {g' : Nat} {c : Array Value} (hg : g ≠ g') : Pre (w.setRow g' c) g N L f := ⟨(row_setRow_far hg).2 h.row, h.le, fun p hp => by rw [rowAt_setRow_far hg]; exact h.eq p hp⟩
theorem Pre.farC (h : Pre w g N L f) {a : Addr} {v : Value} (hg : g ≠ a.block) : Pre (w.setCell a v) g N L f := ⟨row_setCell.2 h.row, h.le, fun p hp => by rw [rowAt_setCell_far hg]; exact h.eq p hp⟩
theorem Pre.cp (h : Pre w g N L f) (o n : Nat) (b : Nat → Nat) : Pre (w.setRow g (putAt (rowAt w g) o ((List.range' 0 n).map fun j => Value.int .u8 (b j : Nat)))) g N L (cpF f o n b) := by
  have hsz := h.row.size
  refine ⟨(row_setRow_same rfl h.row).2 (by rw [putAt_size, hsz]), h.le, fun p hp => ?_⟩
  rw [rowAt_setRow_same h.row]
  unfold cpF
  by_cases hq : o ≤ p ∧ p < o + n
  · rw [if_pos hq, putAt_in (n := n) n 0 _ o hq.1 hq.2 (by have := h.le; omega)]
    rfl
  · rw [if_neg hq, putAt_out _ _ _ (by simp; omega), h.eq p hp]
theorem run_copy_pre {P : Program} {e dT sT ty : TypeId} {b : Nat → Nat} (hu : P.underlying dT = some (.slice e)) (hs : (P.info? e).map (·.size) = some 1) (T : Pre w g N L f) {o n dl dc sl sc : Nat} {ad : Addr}
    (hb : ∀ j < n, w.cell? (ad.add j) = some (.int .u8 (b j : Nat))) (hn : n = Nat.min sl dl) (ho : o + n ≤ L) :
    (Builtin.copy_ #[dT, sT] ty #[.slice (some ⟨g, o, none⟩) dl dc, .slice (some ad) sl sc]).run P w = .ok (.int .i64 (n : Nat)) (w.setRow g (putAt (rowAt w g) o ((List.range' 0 n).map fun j => Value.int .u8 (b j : Nat)))) := by
  have h := run_copy_cells (P := P) w dT sT ty e g o dl dc ad sl sc ((List.range' 0 n).map fun j => Value.int .u8 (b j : Nat)) hu hs (by simpa using hn)
    (fun j v hj => by obtain ⟨h1, h2⟩ := rng_at hj; rw [h2]; exact hb j h1) (fun j hj => by rw [T.cell (by simp at hj; omega)]; rfl) (fun j hj => T.row.frozen _)
    (fun v hv => by obtain ⟨j, -, rfl⟩ := List.mem_map.1 hv; rfl)
  rw [h, setCells_row _ _ T.row]
  simp [goInt]
theorem Pre.of_own {B : Nat} {e : TypeId} {A : Option Addr} {p : Nat} {l : List UInt8} (h : w.ownsRow B e 1 (.slice A L p) L (bytesV l)) (hl : l.length = L) (hL : 0 < L) : ∃ g, A = some ⟨g, 0, none⟩ ∧ B ≤ g ∧ Pre w g p L (byteAt l) := by
  rcases h.2 with ⟨-, h0⟩ | ⟨g, cap, cur, hv, hB, hg, hcap, hsz, hcs, htk⟩
  · omega
  · injection hv with h1 h2 h3
    subst h1 h3
    have hr : rowAt w g = cur := by simp [rowAt, hg]
    refine ⟨g, rfl, hB, ⟨⟨cur, _, hg, by simpa using hcs⟩, hcap, fun q hq => ?_⟩⟩
    rw [hr, ← Array.getElem?_toList, ← bytesV_byte (l := l) (by omega), ← htk, List.getElem?_take_of_lt (by omega)]
theorem Pre.rd (h : Pre w g N L f) {o n : Nat} (ho : o + n ≤ L) (hf : ∀ i, f i < 256) : Rd w (g + 1) (some ⟨g, o, none⟩) (bytesV (bLs (fun i => f (o + i)) n)) := fun j u hu => by
  rw [bytesV_bLs (fun i _ => hf _), Array.getElem?_toList] at hu
  have hj : j < n := by have := (Array.getElem?_eq_some_iff.1 hu).1; simpa [arrK_size] using this
  rw [arrK_at hj] at hu
  refine ⟨_, rfl, by simp, ?_⟩
  rw [add0, h.cell (by omega), ← hu]
end
attribute [local go_sem ↓] load_a16 store_a16 execl_a16 execs_a16 load_akey store_akey execl_akey execs_akey
attribute [local go_sem] isHead_mk blkOf_mk isAgg_mk cellsV_mk row_drew rowAt_drew row_new_cells row_old rowAt_new rowAt_old setRow_new

def badU (l : List UInt8) : Prop := l.length % 8 ≠ 0 ∨ l.length < 24 ∨ 72 < l.length
instance (l : List UInt8) : Decidable (badU l) := by unfold badU; infer_instance
def good8 (f : Nat → Nat) : Prop := ∀ p, p < 8 → f p = 166
instance (f : Nat → Nat) : Decidable (good8 f) := by unfold good8; infer_instance
def unwrapF (F : Nat → Nat) (R : Nat) (l : List UInt8) : Nat → Nat := unwrapS F R (l.length / 8 - 1) (byteAt l) (6 * (l.length / 8 - 1))
def unwrapR (F : Nat → Nat) (R : Nat) (l : List UInt8) : List UInt8 × Nat :=
  if badU l then ([], 1) else if good8 (unwrapF F R l) then (bLs (fun i => unwrapF F R l (8 + i)) (l.length - 8), 0) else ([], 5)
theorem wrap_UnwrapBad (A : Option Addr) (l : List UInt8) (L c R : Nat) (F : Nat → Nat) (w : World) (hl : l.length = L) (hbad : badU l) :
    Calls Try.prog 55 #[.agg (keyV F R), .slice A L c] w (RetOpen (unwrapR F R l) w) := by
  have hr0 : unwrapR F R l = ([], 1) := if_pos hbad
  rw [hr0]
  have hL0 : Below w.heap.size w (w.alloc (Obj.cells (keyV F R) 42)) := by go_grown
  obtain ⟨r, hr⟩ : ∃ r, r = L % 8 := ⟨_, rfl⟩
  unfold badU at hbad
  rw [hl, ← hr] at hbad
  have hrem : (L : Int) % 8 = (r : Int) := by omega
  have hrt : Int.tmod (L : Int) 8 = (r : Int) := by rw [Int.tmod_eq_emod_of_nonneg (by omega)]; omega
  have hfin : RetOpen ([], 1) w (.returned (.tuple #[.slice none 0 0, .int .i64 1])) (w.alloc (Obj.cells (keyV F R) 42)) := RetOpen.nil hL0
  have hF := Lib.hid hfin
  clear hfin hr hl hr0
  go_enter Try.func55, Try.ntmps55
  by_cases h1 : r = 0
  · have h2 : ((r : Int) != 0) = false := by rw [bne_eq_false_iff_eq]; omega
    by_cases h3 : L < 24
    · have h4 : (L : Int) < 24 := by omega
      clear hbad h1
      go_wp2_with fail
      exact bodyPost_ret (results_tmp2 (t := 4) (u := 5) rfl _ _ _) rfl hF.out
    · have h4 : decide ((L : Int) < 24) = false := by simp; omega
      have h5 : (72 : Int) < (L : Int) := by omega
      clear hbad h1
      go_wp2_with fail
      exact bodyPost_ret (results_tmp2 (t := 4) (u := 5) rfl _ _ _) rfl hF.out
  · have h2 : ((r : Int) != 0) = true := by rw [bne_iff_ne]; omega
    clear hbad h1
    go_wp2_with fail
    exact bodyPost_ret (results_tmp2 (t := 4) (u := 5) rfl _ _ _) rfl hF.out
theorem wrap_UnwrapOk (A : Option Addr) (l : List UInt8) (L n c R : Nat) (F : Nat → Nat) (w : World) (hA : Rd w w.heap.size A (bytesV l)) (hl : l.length = L) (hL8 : L = 8 * n + 8) (hn2 : 2 ≤ n) (hn8 : n ≤ 8) (hR : R ≤ 14) (hF : ∀ p, F p < 256) :
    Calls Try.prog 55 #[.agg (keyV F R), .slice A L c] w (RetOpen (unwrapR F R l) w) := by
  obtain ⟨x6, hx6⟩ : ∃ x, x = 6 * n := ⟨_, rfl⟩
  obtain ⟨fu, hfu⟩ : ∃ f, f = unwrapS F R n (byteAt l) x6 := ⟨_, rfl⟩
  have hr0 : unwrapR F R l = if good8 fu then (bLs (fun i => fu (8 + i)) (L - 8), 0) else ([], 5) := by
    have hnb : ¬ badU l := by unfold badU; rw [hl]; omega
    unfold unwrapR
    have e : unwrapF F R l = fu := by
      unfold unwrapF
      rw [hl, hfu, hx6, show L / 8 - 1 = n by omega]
    rw [if_neg hnb, e, hl]
  obtain ⟨r0, hr0e⟩ : ∃ r, r = unwrapR F R l := ⟨_, rfl⟩
  rw [← hr0e] at hr0 ⊢
  have hHr := Lib.hid hr0
  clear hr0e hr0
  have hfl := fun c q => unwrapS_lt (n := n) (R := R) (f := byteAt l) hF (byteAt_lt l) (by omega) c q
  have hful : ∀ q, fu q < 256 := fun q => by rw [hfu]; exact hfl _ _
  have hHfu := Lib.hid hfu
  clear hfu
  have K0 : KeyAt (w.alloc (Obj.cells (keyV F R) 42)) w.heap.size F R := KeyAt.new _ rfl
  have hL0 : Below w.heap.size w (w.alloc (Obj.cells (keyV F R) 42)) := by go_grown
  have hrem : (L : Int) % 8 = 0 := by omega
  have hrt : Int.tmod (L : Int) 8 = 0 := by rw [Int.tmod_eq_emod_of_nonneg (by omega)]; omega
  have hdv : (L : Int) / 8 = (n : Int) + 1 := by omega
  have hdt : Int.tdiv (L : Int) 8 = (n : Int) + 1 := by rw [Int.tdiv_eq_ediv_of_nonneg (by omega)]; omega
  have h1 : decide ((L : Int) < 24) = false := by simp; omega
  have h2 : decide ((72 : Int) < (L : Int)) = false := by simp; omega
  have hx : 6 * (n : Int) = (x6 : Int) := by omega
  have hL72 : L ≤ 72 := by omega
  have hL24 : 24 ≤ L := by omega
  have hHL := Lib.hid hL8
  have hH6 := Lib.hid hx6
  have hHl := Lib.hid hl
  have hlb : (bytesV l).length = L * 1 := by rw [bytesV_length, hl, Nat.mul_one]
  have hAr := hA.below hL0
  clear hL8 hx6 hl
  go_enter Try.func55, Try.ntmps55
  go_wp2_with (at_builtin; refine wpList_app rfl (.const (.slice none 0 0)) (.tmp 27) 25 rfl SBk rfl (World.ownsRow_nil _ (w.heap.size + 1) _ _) rfl (m := L) (news := bytesV l) hlb hAr (bytesV_oneCell _) (by unfold maxLen; omega) (by omega) (by simp) ?_; intro v1 w1 hown1 hg1 hat1; obtain ⟨A1, p1, rfl⟩ := own_formK hown1)
  obtain ⟨g, rfl, hgB, T1⟩ := Pre.of_own (by simpa using hown1) hHl.out (by omega)
  have K1 : KeyAt w1 w.heap.size F R := K0.below ((Below.refl (w.heap.size + 1) _).grown hg1 (by simp) (fun g hg => by cases hg)) (by omega)
  have hL1 : Below w.heap.size w w1 := hL0.grown hg1 (by simp) (fun g hg => by cases hg)
  clear K0 hL0 hown1 hg1 hat1 hAr hlb hrem hrt hdv hdt h1 h2
  obtain ⟨gk, hgk⟩ : ∃ g, g = w.heap.size := ⟨_, rfl⟩
  rw [← hgk]
  rw [← hgk] at K1 hgB
  have hk0 : w.heap.size ≤ gk := by omega
  clear hgk
  go_loopw [8] (fun x wr => ∃ cc t : Nat, x = .int .i64 t ∧ t + cc = x6 ∧ Pre wr g p1 L (unwrapS F R n (byteAt l) cc) ∧ KeyAt wr gk F R ∧ Below w.heap.size w wr) (fun x _ => (intOf x).toNat)
  case atStart => exact ⟨0, x6, rfl, rfl, T1, K1, hL1⟩
  case round =>
    clear T1 K1 hL1
    obtain ⟨cc, t, rfl, htc, T, K, hL⟩ := hrel
    have hx48 : x6 ≤ 48 := by have := hH6.out; omega
    by_cases hse : t = 0
    · have hle : ¬ (1 : Int) ≤ (t : Int) := by omega
      rw [show cc = x6 by omega, ← hHfu.out] at T
      have hp18 : (8 : Int) ≤ (p1 : Int) := by have := T.le; omega
      have hpne : ¬ p1 = 8 := by have := T.le; omega
      clear K htc
      go_wp2_with fail
      go_loopw [73] (fun x wx => ∃ i : Nat, x = .int .i64 i ∧ i ≤ 8 ∧ (∀ q, q < i → fu q = 166) ∧ Pre wx g p1 L fu ∧ Below w.heap.size w wx) (fun x _ => 8 - (intOf x).toNat)
      case atStart => exact ⟨0, rfl, by omega, fun q hq => absurd hq (by omega), T, hL⟩
      case round =>
        clear T hL
        obtain ⟨i, rfl, hi, hall, T, hL⟩ := hrel
        by_cases hi8 : i = 8
        · have hgd : r0 = (bLs (fun i => fu (8 + i)) (L - 8), 0) := by rw [hHr.out, if_pos (show good8 fu from fun q hq => hall q (by omega))]
          have hHg := Lib.hid hgd
          have hw1 : ¬ (i : Int) < 8 := by omega
          have hrd := T.rd (o := 8) (n := L - 8) (by omega) hful
          have hbl : (bytesV (bLs (fun i => fu (8 + i)) (L - 8))).length = (L - 8) * 1 := by rw [bytesV_length, bLs_len, Nat.mul_one]
          have hL8i : (8 : Int) ≤ (L : Int) := by omega
          clear hgd hall hful T
          go_wp2_with (at_builtin; refine wpList_app rfl (.const (.slice none 0 0)) (.tmp 81) 25 rfl SBk rfl (World.ownsRow_nil _ wr.heap.size _ _) rfl (m := L - 8) (news := bytesV (bLs (fun i => fu (8 + i)) (L - 8))) hbl hrd (bytesV_oneCell _) (by unfold maxLen; omega) (by omega) (by simp) ?_; intro v2 w2 hown2 hg2 hat2; obtain ⟨A2, p2, rfl⟩ := own_formK hown2)
          have hL2 : Below w.heap.size w w2 := hL.grown hg2 hL.size (fun g hg => by cases hg)
          refine bodyPost_ret (results_tmp2 (t := 4) (u := 5) rfl _ _ _) rfl ?_
          rw [hHg.out]
          refine ⟨A2, p2, ?_, Rd.of_own (by simpa using hown2), hL2⟩
          rw [bLs_len]
          simp
        · have hd : (i : Int) < 8 := by omega
          have hi0 : (0 : Int) ≤ (i : Int) := by omega
          have hc1 := T.cell (p := i) (by omega)
          obtain ⟨y, hy⟩ : ∃ y, y = fu i := ⟨_, rfl⟩
          rw [← hy] at hc1
          by_cases hyn : y = 166
          · have hHa := Lib.hid hall
            have hT := Lib.hid T
            have hbn : ((y : Int) != 166) = false := by rw [bne_eq_false_iff_eq]; omega
            have hHy := Lib.hid (show fu i = 166 by rw [← hy]; exact hyn)
            clear hall hy hyn T hful
            go_wp2_with fail
            go_round
            case rel => exact ⟨i + 1, by go_num, by omega, fun q hq => by
              by_cases hpi : q = i
              · rw [hpi]; exact hHy.out
              · exact hHa.out q (by omega), hT.out, hL⟩
            case measure => simp [intOf]; omega
          · have hbn : ((y : Int) != 166) = true := by rw [bne_iff_ne]; omega
            have hfin := Lib.hid (show RetOpen r0 w (.returned (.tuple #[.slice none 0 0, .int .i64 5])) wr by
              rw [hHr.out, if_neg (fun h : good8 fu => hyn (by rw [hy]; exact h i (by omega)))]
              exact RetOpen.nil hL)
            clear hall hy hyn T hful
            go_wp2_with fail
            exact bodyPost_ret (results_tmp2 (t := 4) (u := 5) rfl _ _ _) rfl hfin.out
    · have hle : (1 : Int) ≤ (t : Int) := by omega
      obtain ⟨s, hs⟩ : ∃ s, s = t - 1 := ⟨_, rfl⟩
      have hts : (t : Int) - 1 = (s : Int) := by omega
      have hs48 : s ≤ 48 := by omega
      have ht48 : t ≤ 48 := by omega
      have hn0 : ¬ (n : Int) = 0 := by omega
      obtain ⟨u, hu⟩ : ∃ u, u = s % n := ⟨_, rfl⟩
      have hun : u < n := by rw [hu]; exact Nat.mod_lt _ (by omega)
      have hm1 : (s : Int) % (n : Int) = (u : Int) := by rw [hu]; rfl
      have hm2 : Int.tmod (s : Int) (n : Int) = (u : Int) := by rw [Int.tmod_eq_emod_of_nonneg (by omega), hu]; rfl
      obtain ⟨p, hp⟩ : ∃ p, p = (u + 1) * 8 := ⟨_, rfl⟩
      have hpw : ((u : Int) + 1) * 8 = (p : Int) := by omega
      have hpM : p + 8 ≤ L := by have := hHL.out; omega
      have hp8 : 8 ≤ p := by omega
      have hLp := T.le
      obtain ⟨f, hf⟩ : ∃ f, f = unwrapS F R n (byteAt l) cc := ⟨_, rfl⟩
      have hfl8 : ∀ q, f q < 256 := fun q => by rw [hf]; exact hfl cc q
      have hnext := Lib.hid (show unwrapS F R n (byteAt l) (cc + 1) = wput f (decB F R (cntF (wblk f p) t)) p by
        have h6 := hH6.out
        show ust F R (6 * n - cc) (8 * ((6 * n - cc - 1) % n + 1)) (unwrapS F R n (byteAt l) cc) = _
        rw [show 6 * n - cc = t by omega, ← hf, ← hs, ← hu, show 8 * (u + 1) = p by omega]
        rfl)
      rw [← hf] at T
      have hHtc := Lib.hid htc
      clear hf hu hp hs htc
      go_upto_region 10 with (fail)
      rw [zeroA16]
      have hgw := T.lt
      have T1 := T.old (Obj.cells (arrK .u8 16 fun _ => 0) 38)
      have K1 := K.old (Obj.cells (arrK .u8 16 fun _ => 0) 38)
      have B1 : At (wr.alloc (Obj.cells (arrK .u8 16 fun _ => 0) 38)) wr.heap.size .u8 16 fun _ => 0 := At.new _ rfl
      have hLa := hL.alloc hL.size (Obj.cells (arrK .u8 16 fun _ => 0) 38)
      have hgbk : gk < wr.heap.size := K.lt
      clear T K hL
      generalize wr.alloc (Obj.cells (arrK .u8 16 fun _ => 0) 38) = W2 at *
      generalize wr.heap.size = gb at *
      have hcp := fun ty => run_copy_buf (P := Try.prog) (dT := 25) (sT := 25) (ty := ty) (e := 5) Try.underlying25 (by kernel_rfl) B1 (o := 0) (n := 8) (dl := 8) (dc := 16) (sl := L) (sc := p1) (ad := ⟨g, 0, none⟩) (b := f)
        (fun j hj => by rw [add0, Nat.zero_add]; exact T1.cell (by omega)) (by show 8 = min L 8; omega) (by omega)
      have hT := Lib.hid T1
      have hK := Lib.hid K1
      clear K1
      go_upto_region 11 with (fail)
      have B3 := (B1.cp 0 8 f).congr (f' := fun i => if i < 8 then f i else 0) (fun p hp => by
        unfold cpF
        by_cases h : p < 8
        · rw [if_pos (by omega), if_pos h, Nat.sub_zero]
        · rw [if_neg (by omega), if_neg h])
      have T3 := hT.out.far (g' := gb) (c := arrK .u8 16 (cpF (fun _ => 0) 0 8 f)) (by omega)
      have K3 := hK.out.far (g' := gb) (c := arrK .u8 16 (cpF (fun _ => 0) 0 8 f)) (by omega)
      have hL3 := below_setRow (g := gb) (c := arrK .u8 16 (cpF (fun _ => 0) 0 8 f)) hLa (by omega)
      clear hcp hT hK hLa B1 T1
      generalize W2.setRow gb (arrK .u8 16 (cpF (fun _ => 0) 0 8 f)) = W3 at *
      have hcp := fun ty dc sc => run_copy_buf (P := Try.prog) (dT := 25) (sT := 25) (ty := ty) (e := 5) Try.underlying25 (by kernel_rfl) B3.drew (o := 8) (n := 8) (dl := 8) (dc := dc) (sl := L - p) (sc := sc) (ad := ⟨g, p, none⟩) (b := fun i => f (p + i))
        (fun j hj => by rw [add0]; exact T3.drew.cell (by omega)) (by show 8 = min (L - p) 8; omega) (by omega)
      have hp0 : (0 : Int) ≤ (p : Int) := by omega
      have hpm : (p : Int) ≤ (L : Int) := by omega
      have hT := Lib.hid T3
      have hK := Lib.hid K3
      have hB := Lib.hid B3
      clear T3 K3 B3
      go_region
      all_goals
        have B4 := (hB.out.drew.cp 8 8 (fun i => f (p + i))).congr (f' := wblk f p) (fun q hq => by
          unfold cpF wblk
          by_cases h : q < 8
          · rw [if_neg (by omega), if_pos h]
            exact if_pos h
          · rw [if_pos (by omega), if_neg h])
        have T4 := hT.out.drew.far (g' := gb) (c := arrK .u8 16 (cpF (fun i => if i < 8 then f i else 0) 8 8 fun i => f (p + i))) (by omega)
        have K4 := hK.out.drew.far (g' := gb) (c := arrK .u8 16 (cpF (fun i => if i < 8 then f i else 0) 8 8 fun i => f (p + i))) (by omega)
        have hL4 := below_setRow (g := gb) (c := arrK .u8 16 (cpF (fun i => if i < 8 then f i else 0) 8 8 fun i => f (p + i))) hL3.drew (by omega)
        clear hcp hT hK hB hL3
        generalize W3.drew.setRow gb (arrK .u8 16 (cpF (fun i => if i < 8 then f i else 0) 8 8 fun i => f (p + i))) = W4 at *
        have hbl := wblk_lt hfl8 p
        generalize wblk f p = bk at *
        have hc7 := B4.cell (i := 7) (by omega)
        have hf7 := B4.row.frozen 7
        have hx7 := xor_8 (hbl 7) (show t < 256 by omega)
        have hcy : IntKind.u8.wrap (t : Int) = (t : Int) := by rw [IntKind.wrap_u8]; omega
        have hB := Lib.hid B4
        have hT := Lib.hid T4
        have hK := Lib.hid K4
        clear T4 K4 B4
        go_upto_region 13 with (fail)
        have B5 := (hB.out.set 7 (bk 7 ^^^ t)).congr (f' := cntF bk t) (fun _ _ => rfl)
        have T5 := hT.out.farC (a := ⟨gb, 7, none⟩) (v := .int .u8 ((bk 7 ^^^ t : Nat) : Int)) (by simp; omega)
        have K5 := hK.out.farC (a := ⟨gb, 7, none⟩) (v := .int .u8 ((bk 7 ^^^ t : Nat) : Int)) (by simp; omega)
        have hL5 := hL4.setCell (p := ⟨gb, 7, none⟩) (by simp; omega) (.int .u8 ((bk 7 ^^^ t : Nat) : Int))
        have hkl : ∀ i < 16, cntF bk t i < 256 := cntF_lt (fun i _ => hbl i) (by omega)
        clear hc7 hf7 hx7 hcy hB hT hK hL4 hbl
        generalize W4.setCell ⟨gb, 7, none⟩ (.int .u8 ((bk 7 ^^^ t : Nat) : Int)) = W5 at *
        generalize cntF bk t = ck at *
        have hDe := Lib.hid (fun W => aes_Decrypt ck F R W hF hkl hR)
        have hRB := B5.row
        have hrB := B5.eq
        have hRK := K5.row
        have hrK := K5.eq
        have hT := Lib.hid T5
        have hK := Lib.hid K5
        clear T5 K5 B5
        go_wp2_with fail
        refine (hDe.out _).mono ?_
        rintro e w6 ⟨rfl, hb6⟩
        generalize decB F R ck = e7 at *
        have hcs := arrK_cells .u8 16 e7
        have T6 := Lib.hid (hT.out.step hb6)
        have K6 := Lib.hid (hK.out.step hb6)
        have hL6 := below_step hb6 hL5 (Nat.le_refl _)
        have hRB6 := row_below hRB hb6 hRB.lt
        clear hT hK hRB hrB hRK hrK hb6 hL5 hDe
        go_upto_region 14 with (fail)
        have T7 := T6.out.far (g' := gb) (c := arrK .u8 16 e7) (by omega)
        have K7 := K6.out.far (g' := gb) (c := arrK .u8 16 e7) (by omega)
        have B7 : At (w6.setRow gb (arrK .u8 16 e7)) gb .u8 16 e7 := At.put hRB6
        have hL7 := below_setRow (g := gb) (c := arrK .u8 16 e7) hL6 (by omega)
        clear T6 K6 hL6 hRB6 hcs
        generalize w6.setRow gb (arrK .u8 16 e7) = W7 at *
        have hcp := fun ty => run_copy_pre (P := Try.prog) (dT := 25) (sT := 25) (ty := ty) (e := 5) Try.underlying25 (by kernel_rfl) T7 (o := 0) (n := 8) (dl := L) (dc := p1) (sl := 8) (sc := 16) (ad := ⟨gb, 0, none⟩) (b := e7)
          (fun j hj => by rw [add0, Nat.zero_add]; exact B7.cell (by omega)) (by show 8 = min 8 L; omega) (by omega)
        have T8 := T7.cp 0 8 e7
        obtain ⟨c8, hc8⟩ : ∃ c, c = putAt (rowAt W7 g) 0 ((List.range' 0 8).map fun j => Value.int .u8 (e7 j : Nat)) := ⟨_, rfl⟩
        rw [← hc8] at hcp T8
        have hK := Lib.hid K7
        clear K7 hc8
        go_upto_region 15 with (fail)
        have B8 := B7.far (g' := g) (c := c8) (by omega)
        have K8 := hK.out.far (g' := g) (c := c8) (by omega)
        have hL8 := below_setRow (g := g) (c := c8) hL7 (by omega)
        clear hcp T7 B7 hK hL7
        generalize W7.setRow g c8 = W8 at *
        have hcp := fun ty dc sc => run_copy_pre (P := Try.prog) (dT := 25) (sT := 25) (ty := ty) (e := 5) Try.underlying25 (by kernel_rfl) T8.drew (o := p) (n := 8) (dl := L - p) (dc := dc) (sl := 8) (sc := sc) (ad := ⟨gb, 8, none⟩) (b := fun i => e7 (8 + i))
          (fun j hj => by rw [add0]; exact B8.drew.cell (by omega)) (by show 8 = min 8 (L - p); omega) (by omega)
        have T9 := T8.drew.cp p 8 (fun i => e7 (8 + i))
        obtain ⟨c9, hc9⟩ : ∃ c, c = putAt (rowAt W8.drew g) p ((List.range' 0 8).map fun j => Value.int .u8 (e7 (8 + j) : Nat)) := ⟨_, rfl⟩
        rw [← hc9] at hcp T9
        have hT := Lib.hid T9
        clear T8 B8 T9 hc9
        go_region
        all_goals
          go_wp2_with fail
          go_round
          case rel =>
            refine ⟨cc + 1, s, by go_num, by have := hHtc.out; omega, ?_, K8.drew.far (by omega), below_setRow hL8.drew (by omega)⟩
            refine ⟨hT.out.row, hT.out.le, fun q hq => (hT.out.eq q hq).trans ?_⟩
            rw [hnext.out]
            congr 3
            unfold cpF wput
            by_cases h1 : q < 8
            · rw [if_neg (by omega), if_pos (by omega), if_pos h1, Nat.sub_zero]
            · rw [if_neg h1]
              by_cases h2 : p ≤ q ∧ q < p + 8
              · rw [if_pos h2, if_pos h2]
              · rw [if_neg h2, if_neg h2, if_neg (by omega)]
          case measure => simp [intOf]; omega
end Go.Proofs.Ytjihklaocgmlpaa
