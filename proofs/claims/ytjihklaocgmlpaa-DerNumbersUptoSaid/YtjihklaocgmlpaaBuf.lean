/- Rows of bytes: copy and append into them, as rows again. No program is named here. -/
import Derived.Test.YtjihklaocgmlpaaAt
import Derived.Test.YtjihklaocgmlpaaPart
import Derived.Test.YtjihklaocgmlpaaApp
namespace Go.Proofs.Ytjihklaocgmlpaa
open Go Go.RowKit

/-- b over f, from o on, n places. -/
def cpF (f : Nat → Nat) (o n : Nat) (b : Nat → Nat) : Nat → Nat := fun p => if o ≤ p ∧ p < o + n then b (p - o) else f p
theorem putAt_arrK {k : IntKind} {N n : Nat} {b : Nat → Nat} : ∀ (m : Nat) (o s : Nat) (f : Nat → Nat), putAt (arrK k N f) o ((List.range' s m).map fun j => Value.int k (b j : Nat)) = arrK k N fun p => if o ≤ p ∧ p < o + m then b (p - o + s) else f p
  | 0, o, s, f => by
    show arrK k N f = _
    refine arrK_congr fun p _ => ?_
    rw [if_neg (by omega)]
  | m + 1, o, s, f => by
    rw [List.range'_succ, List.map_cons, putAt, arrK_set, putAt_arrK (n := n) m (o + 1) (s + 1)]
    refine arrK_congr fun p _ => ?_
    unfold upd
    by_cases h : o + 1 ≤ p ∧ p < o + 1 + m
    · rw [if_pos h, if_pos (by omega), show p - (o + 1) + (s + 1) = p - o + s by omega]
    · rw [if_neg h]
      by_cases h2 : p = o
      · subst h2
        rw [if_pos rfl, if_pos (by omega)]
        congr 1; omega
      · rw [if_neg h2, if_neg (by omega)]
theorem putAt_cpF {N n o : Nat} {f b : Nat → Nat} {k : IntKind} : putAt (arrK k N f) o ((List.range' 0 n).map fun j => Value.int k (b j : Nat)) = arrK k N (cpF f o n b) := by
  rw [putAt_arrK (n := 0)]
  rfl
theorem rng_at {n : Nat} {k : IntKind} {b : Nat → Nat} {j : Nat} {v : Value} (h : ((List.range' 0 n).map fun j => Value.int k (b j : Nat))[j]? = some v) : j < n ∧ v = .int k (b j : Nat) := by
  by_cases hj : j < n
  · rw [List.getElem?_map, List.getElem?_range' hj] at h
    simp only [Option.map_some, Option.some.injEq] at h
    exact ⟨hj, by rw [← h]; simp⟩
  · rw [List.getElem?_eq_none (by simp; omega)] at h
    cases h
section
variable {P : Program} {w : World} {g N : Nat} {f b : Nat → Nat} {k : IntKind} {e : TypeId}
theorem At.setCells (T : At w g k N f) (o n : Nat) : w.setCells g o ((List.range' 0 n).map fun j => Value.int k (b j : Nat)) = w.setRow g (arrK k N (cpF f o n b)) := by
  rw [setCells_row _ _ T.row, T.eq, putAt_cpF]
theorem At.has (T : At w g k N f) {i : Nat} (hi : i < N) : (w.cell? ⟨g, i, none⟩).isSome = true := by rw [T.cell hi]; rfl
theorem At.cp (T : At w g k N f) (o n : Nat) (b : Nat → Nat) : At (w.setRow g (arrK k N (cpF f o n b))) g k N (cpF f o n b) := At.put T.row
theorem run_copy_buf {dT sT ty : TypeId} (hu : P.underlying dT = some (.slice e)) (hs : (P.info? e).map (·.size) = some 1) (T : At w g k N f) {o n dl dc sl sc : Nat} {ad : Addr}
    (hb : ∀ j < n, w.cell? (ad.add j) = some (.int k (b j : Nat))) (hn : n = Nat.min sl dl) (ho : o + n ≤ N) :
    (Builtin.copy_ #[dT, sT] ty #[.slice (some ⟨g, o, none⟩) dl dc, .slice (some ad) sl sc]).run P w = .ok (.int .i64 (n : Nat)) (w.setRow g (arrK k N (cpF f o n b))) := by
  have h := run_copy_cells (P := P) w dT sT ty e g o dl dc ad sl sc ((List.range' 0 n).map fun j => Value.int k (b j : Nat)) hu hs (by simpa using hn)
    (fun j v hj => by obtain ⟨h1, h2⟩ := rng_at hj; rw [h2]; exact hb j h1) (fun j hj => T.has (by simp at hj; omega)) (fun j hj => T.row.frozen _)
    (fun v hv => by obtain ⟨j, -, rfl⟩ := List.mem_map.1 hv; rfl)
  rw [h, T.setCells]
  simp [goInt]
theorem run_app_buf {t ty : TypeId} {bytes : Nat} (S : SlT P t e 1 bytes) (T : At w g k N f) {n m c : Nat} {ad : Addr} (hb : ∀ j < m, w.cell? (ad.add j) = some (.int k (b j : Nat))) (hroom : n + m ≤ N) :
    (Builtin.append_ #[t, t] ty #[.slice (some ⟨g, 0, none⟩) n N, .slice (some ad) m c]).run P w = .ok (.slice (some ⟨g, 0, none⟩) (n + m) N) (w.setRow g (arrK k N (cpF f n m b))) := by
  obtain ⟨i, z, hi, -, hs, -⟩ := S.info
  have h := run_append_room_cells (P := P) w t ty e i S.under hi g 0 n N ad m c ((List.range' 0 m).map fun j => Value.int k (b j : Nat)) (by simp [hs])
    (fun j v hj => by obtain ⟨h1, h2⟩ := rng_at hj; rw [h2]; exact hb j h1) (fun v hv => by obtain ⟨j, -, rfl⟩ := List.mem_map.1 hv; rfl) hroom
    (fun j hj => by simp only [hs, Nat.zero_add, Nat.mul_one]; exact T.has (by simp at hj; omega)) (fun j hj => by simp only [hs, Nat.zero_add, Nat.mul_one]; exact T.row.frozen _)
  rw [h]
  simp only [hs, Nat.zero_add, Nat.mul_one]
  rw [T.setCells]
theorem run_app_none {t ty : TypeId} {bytes : Nat} (S : SlT P t e 1 bytes) {n c : Nat} (hA : n ≤ N) :
    (Builtin.append_ #[t, t] ty #[.slice (some ⟨g, 0, none⟩) n N, .slice none 0 c]).run P w = .ok (.slice (some ⟨g, 0, none⟩) n N) w := by
  obtain ⟨i, z, hi, -⟩ := S.info
  simp [Builtin.append_, run_underlying S.under, sizeOf, typeInfo, hi, Builtin.lenOf, Builtin.firstCells, hA, storeCells]
theorem wpList_appR {ops : Array Oper} {rest : List Oper} {o : Oper} {a : Act} {Q : Exit → Act → World → Prop} (hgd : o.guard = none) (s x : Operand) (t u : TypeId)
    (ho : o.op = .call { callee := .builtin .append, args := #[s, x], argTypes := #[t, u] }) {v1 v2 v : Value} {w' : World} (h1 : a.eval s = v1) (h2 : a.eval x = v2) (hrun : (Builtin.append_ #[t, u] o.type #[v1, v2]).run P w = .ok v w')
    (h : wpList P ops Q rest (a.put o.dst v) w') : wpList P ops Q (o :: rest) a w :=
  wpList_plain hgd fun _ hK => by
    unfold Oper.wp execOp
    simp only [ho, resolve, invoke, builtin, Sem.run_bind, Sem.run_pure, Result.andThen_ok, List.map_toArray, List.map_cons, List.map_nil, h1, h2, hrun]
    exact hK _ _ h
theorem wpList_copyR {ops : Array Oper} {rest : List Oper} {o : Oper} {a : Act} {Q : Exit → Act → World → Prop} (hgd : o.guard = none) (s x : Operand) (t u : TypeId)
    (ho : o.op = .call { callee := .builtin .copy, args := #[s, x], argTypes := #[t, u] }) {v1 v2 v : Value} {w' : World} (h1 : a.eval s = v1) (h2 : a.eval x = v2) (hrun : (Builtin.copy_ #[t, u] o.type #[v1, v2]).run P w = .ok v w')
    (h : wpList P ops Q rest (a.put o.dst v) w') : wpList P ops Q (o :: rest) a w :=
  wpList_plain hgd fun _ hK => by
    unfold Oper.wp execOp
    simp only [ho, resolve, invoke, builtin, Sem.run_bind, Sem.run_pure, Result.andThen_ok, List.map_toArray, List.map_cons, List.map_nil, h1, h2, hrun]
    exact hK _ _ h
end
/-- A slice of M bytes, those of f. -/
def BytesOk (f : Nat → Nat) (M : Nat) (w : World) (e : Ending) (w' : World) : Prop := ∃ g, e = .returned (.slice (some ⟨g, 0, none⟩) M M) ∧ At w' g .u8 M f ∧ Below w.heap.size w w'
def bLs (f : Nat → Nat) (n : Nat) : List UInt8 := (List.range n).map fun i => UInt8.ofNat (f i)
theorem bLs_len (f : Nat → Nat) (n : Nat) : (bLs f n).length = n := by simp [bLs]
theorem bLs_congr {f g : Nat → Nat} {n : Nat} (h : ∀ i < n, f i = g i) : bLs f n = bLs g n := by
  unfold bLs
  refine List.map_congr_left fun i hi => ?_
  rw [h i (by simpa using hi)]
theorem bLs_succ (f : Nat → Nat) (n : Nat) : bLs f (n + 1) = bLs f n ++ [UInt8.ofNat (f n)] := by simp [bLs, List.range_succ]
theorem bLs_add (f : Nat → Nat) (n m : Nat) : bLs f (n + m) = bLs f n ++ bLs (fun i => f (n + i)) m := by
  induction m with
  | zero => simp [bLs]
  | succ m ih => rw [← Nat.add_assoc, bLs_succ, ih, bLs_succ, List.append_assoc]
theorem bytesV_bLs {f : Nat → Nat} {n : Nat} (hf : ∀ i < n, f i < 256) : bytesV (bLs f n) = (arrK .u8 n f).toList := by
  refine List.ext_getElem? fun p => ?_
  by_cases hp : p < n
  · rw [Array.getElem?_toList (xs := arrK .u8 n f), arrK_at hp]
    have := hf p hp
    simp [bytesV, bLs, u8v, hp]
    omega
  · rw [Array.getElem?_toList (xs := arrK .u8 n f), Array.getElem?_eq_none (by rw [arrK_size]; omega), List.getElem?_eq_none (by rw [bytesV_length, bLs_len]; omega)]
theorem At.rdB {w : World} {g N n : Nat} {f : Nat → Nat} (T : At w g .u8 N f) (hn : n ≤ N) (hf : ∀ i < n, f i < 256) : Rd w (g + 1) (some ⟨g, 0, none⟩) (bytesV (bLs f n)) := fun j u hu => by
  rw [bytesV_bLs hf, Array.getElem?_toList] at hu
  have hj : j < n := by have := (Array.getElem?_eq_some_iff.1 hu).1; simpa [arrK_size] using this
  rw [arrK_at hj] at hu
  refine ⟨_, rfl, by simp, ?_⟩
  rw [show (Addr.mk g 0 none).add j = ⟨g, j, none⟩ by unfold Addr.add; split <;> simp_all, T.cell (by omega), ← hu]
theorem run_make_buf {P : Program} {t e : TypeId} (ht : P.underlying t = some (.slice e)) (hinfo : (P.info? e).map (fun i => (i.zero, i.size, i.bytes)) = some (some (.int .u8 0), 1, 1)) (kl kc : IntKind) {n M : Nat} (hn : n ≤ M) (hM : M ≤ 281474976710656) (w : World) :
    (Instr.makeSlice t (.int kl (n : Int)) (.int kc (M : Int))).run P w = .ok (.slice (some ⟨w.heap.size, 0, none⟩) n M) (w.alloc (.cells (arrK .u8 M fun _ => 0) e)) := by
  obtain ⟨i, hi, hzz⟩ := Option.map_eq_some_iff.1 hinfo
  simp only [Prod.mk.injEq] at hzz
  obtain ⟨hz, hs, hb⟩ := hzz
  have hr := run_make (P := P) w t e i (.int .u8 0) ht hi hz kl kc n M (by omega) (by omega) (by rw [hb]; omega) (by omega)
  simp only [Int.toNat_natCast, hs, Nat.mul_one] at hr
  rw [hr, ← made_arrK]
  rfl
theorem run_app_bytes {P : Program} {w : World} {g N : Nat} {f : Nat → Nat} {t ty e : TypeId} {bytes : Nat} (S : SlT P t e 1 bytes) (T : At w g .u8 N f) {B n c : Nat} {A : Option Addr} {l : List UInt8} (hA : Rd w B A (bytesV l)) (hroom : n + l.length ≤ N) :
    (Builtin.append_ #[t, t] ty #[.slice (some ⟨g, 0, none⟩) n N, .slice A l.length c]).run P w = .ok (.slice (some ⟨g, 0, none⟩) (n + l.length) N) (w.setRow g (arrK .u8 N (cpF f n l.length fun p => (l[p]?.getD 0).toNat))) := by
  cases A with
  | none =>
    have hl : l = [] := by
      cases l with
      | nil => rfl
      | cons x r => obtain ⟨ad, h, -⟩ := hA 0 (u8v x) rfl; cases h
    subst hl
    obtain ⟨cs, t', hg, -⟩ := T.row
    have e : cs = arrK .u8 N f := by rw [← T.eq]; simp [rowAt, hg]
    rw [show cpF f n ([] : List UInt8).length (fun p => (([] : List UInt8)[p]?.getD 0).toNat) = f by funext p; unfold cpF; rw [if_neg (by intro h; simp at h; omega)], ← e, setRow_self w g cs t' (0, 0) hg]
    exact run_app_none S (by simpa using hroom)
  | some ad =>
    refine run_app_buf S T (fun j hj => ?_) hroom
    exact hA.all (by simp [bytesV, u8v, hj])
theorem run_copy_bytes {P : Program} {w : World} {g N : Nat} {f : Nat → Nat} {e dT sT ty : TypeId} (hu : P.underlying dT = some (.slice e)) (hs : (P.info? e).map (·.size) = some 1) (T : At w g .u8 N f) {B n o dl dc sc : Nat} {A : Option Addr} {l : List UInt8} (hA : Rd w B A (bytesV l))
    (hn : n = Nat.min l.length dl) (hn0 : 0 < n) (ho : o + n ≤ N) :
    (Builtin.copy_ #[dT, sT] ty #[.slice (some ⟨g, o, none⟩) dl dc, .slice A l.length sc]).run P w = .ok (.int .i64 (n : Nat)) (w.setRow g (arrK .u8 N (cpF f o n fun p => (l[p]?.getD 0).toNat))) := by
  have hnl : n ≤ l.length := by rw [hn]; exact Nat.min_le_left _ _
  obtain ⟨ad, rfl, -, -⟩ := hA.at_ (k := 0) (by rw [bytesV_length]; omega)
  refine run_copy_buf hu hs T (fun j hj => ?_) hn ho
  exact hA.all (by rw [bytesV, List.getElem?_map, List.getElem?_eq_getElem (by omega)]; simp [u8v])
theorem bLs_byteAt (l : List UInt8) : bLs (fun p => (l[p]?.getD 0).toNat) l.length = l := by
  apply List.ext_getElem
  · exact bLs_len _ _
  · intro i h1 h2
    simp [bLs, h2]
theorem add0 (g j : Nat) (o : Nat) : (Addr.mk g o none).add j = ⟨g, o + j, none⟩ := by unfold Addr.add; split <;> simp_all
end Go.Proofs.Ytjihklaocgmlpaa
