/- Words for slices: what a slice reads as; a slice of the call's own that is appended to. No program is named here. -/
import Derived.Test.YtakooljbkjnilaaMem
import Derived.Deep.AppendLies
import Derived.Maps.AppendAt
import Derived.OwnWalk
import Derived.Lib.Strings
namespace Go.Proofs.Ytakooljbkjnilaa
open Go Go.RowKit

abbrev u8v (b : UInt8) : Value := .int .u8 (b.toNat : Int)
def bytesV (l : List UInt8) : List Value := l.map u8v

/-- The cells of a slice at A, one behind the other, are xs; they lie below block B. -/
def Rd (w : World) (B : Nat) (A : Option Addr) (xs : List Value) : Prop :=
  ∀ j u, xs[j]? = some u → ∃ ad, A = some ad ∧ ad.block < B ∧ w.cell? (ad.add j) = some u

theorem addr_block (a : Addr) (n : Nat) : (a.add n).block = a.block := by unfold Addr.add; split <;> rfl
theorem addr_add (a : Addr) (i j : Nat) : (a.add i).add j = a.add (i + j) := by
  unfold Addr.add
  by_cases hi : i = 0 <;> by_cases hj : j = 0 <;> simp [hi, hj, Nat.add_assoc]

section
variable {w w' : World} {B B' : Nat} {A : Option Addr} {xs : List Value}
theorem Rd.nil : Rd w B A [] := fun j u h => by simp at h
theorem Rd.below (h : Rd w B A xs) (hb : Below B w w') : Rd w' B A xs := fun j u hu => by
  obtain ⟨ad, e, hl, hc⟩ := h j u hu
  exact ⟨ad, e, hl, (hb.cell (p := ad.add j) (by rw [addr_block]; exact hl)).trans hc⟩
theorem Rd.more (h : Rd w B A xs) (hB : B ≤ B') : Rd w B' A xs := fun j u hu => by
  obtain ⟨ad, e, hl, hc⟩ := h j u hu
  exact ⟨ad, e, by omega, hc⟩
theorem Rd.at_ {k : Nat} (h : Rd w B A xs) (hk : k < xs.length) : ∃ ad, A = some ad ∧ ad.block < B ∧ w.cell? (ad.add k) = some xs[k] :=
  h k _ (List.getElem?_eq_getElem hk)
theorem Rd.all {ad : Addr} (h : Rd w B (some ad) xs) {j : Nat} {u : Value} (hu : xs[j]? = some u) : w.cell? (ad.add j) = some u := by
  obtain ⟨ad', e, -, hc⟩ := h j u hu
  injection e with e
  subst e
  exact hc
theorem Rd.drop {ad : Addr} {k : Nat} (h : Rd w B (some ad) xs) : Rd w B (some (ad.add k)) (xs.drop k) := fun j u hu => by
  rw [List.getElem?_drop] at hu
  obtain ⟨ad', e, hl, hc⟩ := h _ u hu
  injection e with e
  subst e
  exact ⟨_, rfl, by rw [addr_block]; exact hl, by rw [addr_add]; exact hc⟩
theorem Rd.take {k : Nat} (h : Rd w B A xs) : Rd w B A (xs.take k) := fun j u hu => by
  rw [List.getElem?_take] at hu
  split at hu
  · exact h j u hu
  · cases hu
/-- A block that is known whole. -/
theorem Rd.of_blk {g : Nat} {cs : Array Value} {t : TypeId} {fr : Nat × Nat} (h : w.heap[g]? = some (.cells cs t fr)) (hg : g < B) : Rd w B (some ⟨g, 0, none⟩) cs.toList := fun j u hu => by
  refine ⟨_, rfl, hg, ?_⟩
  have : (⟨g, 0, none⟩ : Addr).add j = ⟨g, j, none⟩ := by unfold Addr.add; split <;> simp_all
  rw [this]
  simp only [World.cell?, h]
  simpa using hu
theorem Rd.of_own {base : Nat} {e : TypeId} {size n c : Nat} (h : w.ownsRow base e size (.slice A n c) n xs) : Rd w w.heap.size A xs := fun j u hu => by
  obtain ⟨hl, h2⟩ := h
  rcases h2 with ⟨hv, rfl⟩ | ⟨g, cap, cur, hv, _, hh, _, _, hcs, htk⟩
  · have : xs = [] := List.eq_nil_of_length_eq_zero (by simpa using hl)
    subst this; simp at hu
  · injection hv with hA
    subst hA
    have hlt : g < w.heap.size := by
      rcases Nat.lt_or_ge g w.heap.size with hlt | hge
      · exact hlt
      · rw [Array.getElem?_eq_none hge] at hh; cases hh
    exact ((Rd.of_blk (B := w.heap.size) hh hlt).take (k := n * size)) j u (by rw [htk]; exact hu)
end

theorem bytesV_oneCell (l : List UInt8) : ∀ u ∈ bytesV l, u.oneCell' = true := by
  intro u hu
  obtain ⟨b, -, rfl⟩ := List.mem_map.1 hu
  rfl
theorem bytesV_length (l : List UInt8) : (bytesV l).length = l.length := by simp [bytesV]
theorem bytesV_append (l k : List UInt8) : bytesV (l ++ k) = bytesV l ++ bytesV k := by simp [bytesV]

/-- What the model says of a slice type, once for a type. -/
structure SlT (P : Program) (t e : TypeId) (size bytes : Nat) : Prop where
  under : P.underlying t = some (.slice e)
  info : ∃ i z, P.info? e = some i ∧ i.zero = some z ∧ i.size = size ∧ i.bytes = bytes ∧ z.cells.size = size
  pos : 0 < size
theorem SlT.mk' {P : Program} {t e : TypeId} {size bytes : Nat} (hu : P.underlying t = some (.slice e)) (h : (P.info? e).bind (fun i => i.zero.map fun z => (i.size, i.bytes, z.cells.size)) = some (size, bytes, size)) (hp : 0 < size) : SlT P t e size bytes := by
  refine ⟨hu, ?_, hp⟩
  cases hi : P.info? e with
  | none => simp [hi] at h
  | some i =>
    cases hz : i.zero with
    | none => simp [hi, hz] at h
    | some z =>
      simp [hi, hz] at h
      exact ⟨i, z, rfl, hz, h.1, h.2.1, h.2.2⟩

section
variable {P : Program} {w : World}
theorem run_app_nil {base : Nat} {t ty e : TypeId} {size bytes : Nat} (S : SlT P t e size bytes) {v : Value} {n : Nat} {xs : List Value} (hown : w.ownsRow base e size v n xs) (c : Nat) :
    (Builtin.append_ #[t, t] ty #[v, .slice none 0 c]).run P w = .ok v w := by
  obtain ⟨i, z, hi, -⟩ := S.info
  rcases hown.2 with ⟨rfl, rfl⟩ | ⟨g, cap, cur, rfl, _, _, hnc, _⟩
  · simp [Builtin.append_, run_underlying S.under, sizeOf, typeInfo, hi, Builtin.lenOf, Builtin.firstCells]
  · simp [Builtin.append_, run_underlying S.under, sizeOf, typeInfo, hi, Builtin.lenOf, Builtin.firstCells, hnc, storeCells]

/-- append onto a slice of the call's own, the source nil, empty or not. -/
theorem run_app {base : Nat} {t ty e : TypeId} {size bytes : Nat} (S : SlT P t e size bytes) {v : Value} {n : Nat} {xs : List Value} (hown : w.ownsRow base e size v n xs)
    {B : Nat} {A : Option Addr} {m c : Nat} {news : List Value} (hl : news.length = m * size) (hr : Rd w B A news) (h1 : ∀ u ∈ news, u.oneCell' = true)
    (h63 : n + m ≤ maxLen) (hbytes : (n + m) * bytes ≤ 140737488355328) (hbase : base ≤ w.heap.size) :
    ∃ v' w', (Builtin.append_ #[t, t] ty #[v, .slice A m c]).run P w = .ok v' w' ∧ w'.ownsRow base e size v' (n + m) (xs ++ news) ∧ w.grownBy w' v.ownBlock ∧
      (v'.ownBlock = v.ownBlock ∨ v'.ownBlock = some w.heap.size) := by
  obtain ⟨i, z, hi, hz, hs, hb, hzs⟩ := S.info
  cases A with
  | none =>
    have hn : news = [] := by
      cases news with
      | nil => rfl
      | cons u r => obtain ⟨ad, h, -⟩ := hr 0 u rfl; cases h
    subst hn
    have hm : m = 0 := by
      have := S.pos
      rcases Nat.eq_zero_or_pos m with h | h
      · exact h
      · have : 0 < m * size := Nat.mul_pos h this
        simp at hl; omega
    subst hm
    exact ⟨v, w, run_app_nil S hown c, by simpa using hown, World.grownBy.refl w _, .inl rfl⟩
  | some ad =>
    obtain ⟨v', w', hrun, h2, h3, -, h5⟩ := run_append_own_at (P := P) w base t ty e i z size bytes S.under hi hz hs hb hzs S.pos v n xs hown ad m c news hl
      (fun j u hu => by obtain ⟨ad', h, -, hc⟩ := hr j u hu; injection h with h; subst h; exact hc) h1 h63 hbytes hbase
    exact ⟨v', w', hrun, h2, h3, h5⟩

theorem wp_app {o : Oper} {a : Act} {K : Act → World → Prop} {Q : Exit → Act → World → Prop} (s x : Operand) (t : TypeId)
    (ho : o.op = .call { callee := .builtin .append, args := #[s, x], argTypes := #[t, t] })
    {base : Nat} {e : TypeId} {size bytes : Nat} (S : SlT P t e size bytes) {v : Value} {n : Nat} {xs : List Value} (hs : a.eval s = v) (hown : w.ownsRow base e size v n xs)
    {B : Nat} {A : Option Addr} {m c : Nat} {news : List Value} (hx : a.eval x = .slice A m c) (hl : news.length = m * size) (hr : Rd w B A news) (h1 : ∀ u ∈ news, u.oneCell' = true)
    (h63 : n + m ≤ maxLen) (hbytes : (n + m) * bytes ≤ 140737488355328) (hbase : base ≤ w.heap.size)
    (h : ∀ v' w', w'.ownsRow base e size v' (n + m) (xs ++ news) → w.grownBy w' v.ownBlock → (v'.ownBlock = v.ownBlock ∨ v'.ownBlock = some w.heap.size) → K (a.put o.dst v') w') : o.wp P a w K Q := by
  obtain ⟨v', w', hrun, h2, h3, h4⟩ := run_app (P := P) (ty := o.type) (c := c) S hown hl hr h1 h63 hbytes hbase
  unfold Oper.wp execOp
  simp only [ho, resolve, invoke, builtin, Sem.run_bind, Sem.run_pure, Result.andThen_ok, List.map_toArray, List.map_cons, List.map_nil, hs, hx, hrun]
  exact h v' w' h2 h3 h4

theorem step_app {ops : Array Oper} {o : Oper} {a : Act} {K : Act → World → Prop} {Q : Exit → Act → World → Prop} {E : Prop} (hgd : o.guard = none) (s x : Operand) (t : TypeId)
    (ho : o.op = .call { callee := .builtin .append, args := #[s, x], argTypes := #[t, t] })
    {base : Nat} {e : TypeId} {size bytes : Nat} (S : SlT P t e size bytes) {v : Value} {n : Nat} {xs : List Value} (hs : a.eval s = v) (hown : w.ownsRow base e size v n xs)
    {B : Nat} {A : Option Addr} {m c : Nat} {news : List Value} (hx : a.eval x = .slice A m c) (hl : news.length = m * size) (hr : Rd w B A news) (h1 : ∀ u ∈ news, u.oneCell' = true)
    (h63 : n + m ≤ maxLen) (hbytes : (n + m) * bytes ≤ 140737488355328) (hbase : base ≤ w.heap.size)
    (h : ∀ v' w', w'.ownsRow base e size v' (n + m) (xs ++ news) → w.grownBy w' v.ownBlock → (v'.ownBlock = v.ownBlock ∨ v'.ownBlock = some w.heap.size) → K (a.put o.dst v') w') :
    if Region.wanted o (yielded ops a.tmps) = true then Oper.wp P o a w K Q else E := by
  have hw : Region.wanted o (yielded ops a.tmps) = true := by simp [Region.wanted, hgd]
  rw [if_pos hw]
  exact wp_app s x t ho S hs hown hx hl hr h1 h63 hbytes hbase h

theorem wpList_app {ops : Array Oper} {rest : List Oper} {o : Oper} {a : Act} {Q : Exit → Act → World → Prop} (hgd : o.guard = none) (s x : Operand) (t : TypeId)
    (ho : o.op = .call { callee := .builtin .append, args := #[s, x], argTypes := #[t, t] })
    {base : Nat} {e : TypeId} {size bytes : Nat} (S : SlT P t e size bytes) {v : Value} {n : Nat} {xs : List Value} (hs : a.eval s = v) (hown : w.ownsRow base e size v n xs)
    {B : Nat} {A : Option Addr} {m c : Nat} {news : List Value} (hx : a.eval x = .slice A m c) (hl : news.length = m * size) (hr : Rd w B A news) (h1 : ∀ u ∈ news, u.oneCell' = true)
    (h63 : n + m ≤ maxLen) (hbytes : (n + m) * bytes ≤ 140737488355328) (hbase : base ≤ w.heap.size)
    (h : ∀ v' w', w'.ownsRow base e size v' (n + m) (xs ++ news) → w.grownBy w' v.ownBlock → (v'.ownBlock = v.ownBlock ∨ v'.ownBlock = some w.heap.size) → wpList P ops Q rest (a.put o.dst v') w') : wpList P ops Q (o :: rest) a w :=
  wpList_plain hgd fun _ hK => wp_app s x t ho S hs hown hx hl hr h1 h63 hbytes hbase fun v' w' h2 h3 h4 => hK _ _ (h v' w' h2 h3 h4)
end

/-- A slice of bytes made a string. -/
theorem conv_rd {P : Program} {w : World} {src dst e : TypeId} (hs : P.underlying src = some (.slice e)) (he : P.underlying e = some (.int .u8)) (hd : P.underlying dst = some .string)
    {B : Nat} {A : Option Addr} {l : List UInt8} {c : Nat} (h : Rd w B A (bytesV l)) : (convert src dst (.slice A l.length c)).run P w = .ok (.string ⟨l.toArray⟩) w := by
  cases A with
  | none =>
    have hl : l = [] := by
      cases l with
      | nil => rfl
      | cons b r => obtain ⟨ad, h1, -⟩ := h 0 _ rfl; cases h1
    subst hl
    simp [convert, run_underlying hs, run_underlying hd, run_underlying he, Conv.bytesToString]
    rfl
  | some ad => exact run_convert_bytes_back w src dst e ad c l hs he hd (fun j hj => h.all (by simp [bytesV, List.getElem?_eq_getElem hj]))

/-- A string made bytes: a new block. -/
def cvObj (W : World) (l : List UInt8) (e : TypeId) : Obj :=
  .cells (bytesRow ⟨l.toArray⟩ (grownCap W l.length 0 e)) e ((bytesRow ⟨l.toArray⟩ (grownCap W l.length 0 e)).size, (bytesRow ⟨l.toArray⟩ (grownCap W l.length 0 e)).size + 1)
theorem conv_sb {P : Program} {src dst e : TypeId} (hs : P.underlying src = some .string) (hd : P.underlying dst = some (.slice e)) (he : P.underlying e = some (.int .u8)) (l : List UInt8) (W : World) :
    (convert src dst (.string ⟨l.toArray⟩)).run P W = .ok (.slice (some ⟨W.heap.size, 0, none⟩) l.length (grownCap W l.length 0 e)) (W.drew.alloc (cvObj W l e)) :=
  run_bytes_of_string W src dst e ⟨l.toArray⟩ hs hd he
theorem rd_cv (W V : World) (l : List UInt8) (e : TypeId) : Rd (W.alloc (cvObj V l e)) (W.heap.size + 1) (some ⟨W.heap.size, 0, none⟩) (bytesV l) := fun j u hu => by
  have h := Rd.of_blk (B := W.heap.size + 1) (push_new W (cvObj V l e)) (by omega)
  have hj : j < l.length := by
    have := (List.getElem?_eq_some_iff.1 hu).1
    simpa [bytesV] using this
  refine h j u ?_
  rw [Array.getElem?_toList, bytesRow_at ⟨l.toArray⟩ _ j (by simpa using hj), ← hu]
  simp [bytesV, List.getElem?_eq_getElem hj]
theorem conv_sbn {P : Program} {src dst e : TypeId} (hs : P.underlying src = some .string) (hd : P.underlying dst = some (.slice e)) (he : P.underlying e = some (.int .u8)) (l : List UInt8) (n : Nat) (hn : l.length = n) (W : World) :
    (convert src dst (.string ⟨l.toArray⟩)).run P W = .ok (.slice (some ⟨W.heap.size, 0, none⟩) n (grownCap W n 0 e)) (W.drew.alloc (cvObj W l e)) := by
  subst hn; exact conv_sb hs hd he l W
theorem Rd.drew {w : World} {B : Nat} {A : Option Addr} {xs : List Value} (h : Rd w B A xs) : Rd w.drew B A xs := h
theorem rd_cv2 {W V : World} {l : List UInt8} {e g : Nat} (hg : g = W.heap.size) : Rd (W.alloc (cvObj V l e)) (g + 1) (some ⟨g, 0, none⟩) (bytesV l) := by subst hg; exact rd_cv W V l e
theorem bs_ext (l : List UInt8) (a b : Nat) : (⟨l.toArray⟩ : ByteArray).extract a b = ⟨((l.drop a).take (b - a)).toArray⟩ := by
  apply ByteArray.ext
  apply Array.toList_inj.1
  rw [Lib.extract_data]
theorem str_sl {P : Program} {t : TypeId} (ht : P.underlying t = some .string) (l m : List UInt8) (z1 z2 : Int) (h1 : 0 ≤ z1) (h2 : z1 ≤ z2) (h3 : z2 ≤ l.length) (hm : (l.drop z1.toNat).take (z2.toNat - z1.toNat) = m) (W : World) :
    (Instr.slice t (.string ⟨l.toArray⟩) (some (.int .i64 z1)) (some (.int .i64 z2)) none).run P W = .ok (.string ⟨m.toArray⟩) W := by
  subst hm
  have h0 : 0 ≤ z2 := by omega
  have hs : (⟨l.toArray⟩ : ByteArray).size = l.length := by simp [ByteArray.size]
  simp [Instr.slice, Instr.sliceBounds, run_underlying ht, run_sliceBound, h0, h1, h3, hs, go_sem, bs_ext]
  intro hx
  omega
theorem str_from {P : Program} {t : TypeId} (ht : P.underlying t = some .string) (l m : List UInt8) (z1 : Int) (h1 : 0 ≤ z1) (h3 : z1 ≤ l.length) (hm : l.drop z1.toNat = m) (W : World) :
    (Instr.slice t (.string ⟨l.toArray⟩) (some (.int .i64 z1)) none none).run P W = .ok (.string ⟨m.toArray⟩) W := by
  subst hm
  have hs : (⟨l.toArray⟩ : ByteArray).size = l.length := by simp [ByteArray.size]
  have ht2 : (l.drop z1.toNat).take (l.length - z1.toNat) = l.drop z1.toNat := List.take_of_length_le (by simp)
  simp [Instr.slice, Instr.sliceBounds, run_underlying ht, run_sliceBound, h1, h3, hs, go_sem, bs_ext, ht2]

/-- 'x[lo:]' and 'x[:hi]' of a slice: one equation for the walk, the new address under a name of its own. -/
theorem sl_from {P : Program} {T e : TypeId} {size bytes : Nat} (S : SlT P T e size bytes) (A : Option Addr) (n c m : Nat) (z : Int) (h0 : 0 ≤ z) (h1 : z ≤ n) (hm : n - z.toNat = m) (hc : n ≤ c) :
    ∃ A1, (∀ W : World, (Instr.slice T (.slice A n c) (some (.int .i64 z)) none none).run P W = .ok (.slice A1 m (c - z.toNat)) W) ∧
      ∀ (W : World) (B : Nat) (xs : List Value), xs.length = n * size → Rd W B A xs → Rd W B A1 (xs.drop (z.toNat * size)) := by
  obtain ⟨i, -, hi, -, hs, -⟩ := S.info
  refine ⟨if c = z.toNat then A else A.map (·.add (z.toNat * size)), fun W => ?_, fun W B xs hl h => ?_⟩
  · subst hm
    simp [Instr.slice, Instr.sliceBounds, run_underlying S.under, run_sliceBound, h0, h1, sizeOf, typeInfo, hi, hs, go_sem]
  · split
    · rename_i hcz
      have hn : n = z.toNat := by omega
      have : xs.drop (z.toNat * size) = [] := List.drop_eq_nil_of_le (by rw [hl, hn]; exact Nat.le_refl _)
      rw [this]; exact Rd.nil
    · cases A with
      | none =>
        cases xs with
        | nil => simpa using Rd.nil
        | cons u r => obtain ⟨ad, he, -⟩ := h 0 u rfl; cases he
      | some ad => exact h.drop

theorem sl_to {P : Program} {T e : TypeId} {size bytes : Nat} (S : SlT P T e size bytes) (A : Option Addr) (n c m : Nat) (z : Int) (h0 : 0 ≤ z) (h1 : z ≤ c) (hm : z.toNat = m) (W : World) :
    (Instr.slice T (.slice A n c) none (some (.int .i64 z)) none).run P W = .ok (.slice A m c) W := by
  obtain ⟨i, -, hi, -, hs, -⟩ := S.info
  subst hm
  simp [Instr.slice, Instr.sliceBounds, run_underlying S.under, run_sliceBound, h0, h1, sizeOf, typeInfo, hi, go_sem]

/-! What is said of all worlds that keep what lay below B is met in each of the walk's worlds: as rules for the walk's simp. -/
def Kp (B : Nat) (w W : World) : Prop := ∀ k, k < B → W.heap[k]? = w.heap[k]?
section
variable {w W : World} {B : Nat} {o : Obj} {a : Addr} {v : Value}
theorem kp_of_below (h : Below B w W) : Kp B w W := h.block
theorem kp_refl : Kp B w w ↔ True := iff_true_intro fun _ _ => rfl
theorem kp_alloc (h : B ≤ W.heap.size) : Kp B w (W.alloc o) ↔ Kp B w W :=
  ⟨fun hb k hk => (Below.heap_alloc W o k (by omega)).symm.trans (hb k hk), fun hb k hk => (Below.heap_alloc W o k (by omega)).trans (hb k hk)⟩
theorem kp_setCell (h : B ≤ a.block) : Kp B w (W.setCell a v) ↔ Kp B w W :=
  ⟨fun hb k hk => (Below.heap_setCell W a v k (by omega)).symm.trans (hb k hk), fun hb k hk => (Below.heap_setCell W a v k (by omega)).trans (hb k hk)⟩
theorem kp_setRow {g : Nat} {c : Array Value} (h : B ≤ g) : Kp B w (W.setRow g c) ↔ Kp B w W :=
  ⟨fun hb k hk => (setRow_other W g k c (by omega)).symm.trans (hb k hk), fun hb k hk => (setRow_other W g k c (by omega)).trans (hb k hk)⟩
theorem kp_drew : Kp B w W.drew ↔ Kp B w W := Iff.rfl
theorem kp_drewN (n : Nat) : Kp B w (W.drewN n) ↔ Kp B w W := Iff.rfl
theorem Kp.trans {W' : World} (h : Kp B w W) (h' : Kp B W W') : Kp B w W' := fun k hk => (h' k hk).trans (h k hk)
theorem Kp.cell (h : Kp B w W) {p : Addr} (hp : p.block < B) : W.cell? p = w.cell? p := World.cell?_of_block (w := w) (h p.block hp)
theorem Rd.kp {A : Option Addr} {xs : List Value} (h : Rd w B A xs) (hb : Kp B w W) : Rd W B A xs := fun j u hu => by
  obtain ⟨ad, e, hl, hc⟩ := h j u hu
  exact ⟨ad, e, hl, (hb.cell (p := ad.add j) (by rw [addr_block]; exact hl)).trans hc⟩
end

/-! All that a contract's 'Below' gives of its world, in one go. -/
theorem after {W w1 : World} {B : Nat} (hb : Below B W w1) : (∀ b o, b < B → w1.cell? ⟨b, o, none⟩ = W.cell? ⟨b, o, none⟩) ∧ (∀ b o, b < B → w1.frozen? ⟨b, o, none⟩ = W.frozen? ⟨b, o, none⟩) ∧
    (∀ b, b < B → rowAt w1 b = rowAt W b) ∧ (∀ b n, b < B → (Row w1 b n ↔ Row W b n)) :=
  ⟨fun b o h => hb.cell (p := ⟨b, o, none⟩) h, fun b o h => hb.frozen (p := ⟨b, o, none⟩) h, fun _ h => rowAt_below hb h, fun b _ h => Row.of_heap (hb.block b h)⟩
end Go.Proofs.Ytakooljbkjnilaa
