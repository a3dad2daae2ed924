/- Contracts of package aes: Expand, Words. -/
import Derived.Test.YtjihklaocgmlpaaAes2
import Derived.Test.YtjihklaocgmlpaaRet2
import Derived.Test.YtjihklaocgmlpaaEl
namespace Go.Proofs.Ytjihklaocgmlpaa
open Go.ChangeShapes Go.WideShapes Go.ChangeAt Go.RowKit
set_option maxHeartbeats 4000000
set_option maxRecDepth 100000
theorem load_e4 {w : World} {dst : Option Tmp} {x : Operand} {tt : TypeId} {pos : String} {af : Array Edge} {gd : Option (Nat × Bool)} {a : Act} {K : Act → World → Prop} {Q : Exit → Act → World → Prop}
    (h : LdOk w 4 (a.eval x)) : Oper.wp Try.prog ⟨dst, .load 39 x, tt, pos, af, gd⟩ a w K Q ↔ K (a.put dst (.agg (ldC w 4 (a.eval x)))) w :=
  wp_load_el Try.underlying39 rfl (by kernel_rfl) h
theorem execl_e4 {w : World} {dst : Option Tmp} {x : Operand} {tt : TypeId} {pos : String} {af : Array Edge} {gd : Option (Nat × Bool)} {ρ : Operand → Value}
    (h : LdOk w 4 (ρ x)) : (execOp ρ ⟨dst, .load 39 x, tt, pos, af, gd⟩).run Try.prog w = .ok (.value (.agg (ldC w 4 (ρ x)))) w :=
  exec_load_el Try.underlying39 rfl (by kernel_rfl) h
attribute [local go_sem ↓] load_a4 store_a4 execl_a4 execs_a4 load_a16 store_a16 execl_a16 execs_a16 load_akey store_akey execl_akey execs_akey load_e4 execl_e4
attribute [local go_sem] isHead_mk blkOf_mk isAgg_mk cellsV_mk row_drew rowAt_drew row_new_cells row_old rowAt_new rowAt_old setRow_new

/-- Byte p of a text. -/
def byteAt (l : List UInt8) (p : Nat) : Nat := (l[p]?.getD 0).toNat
theorem byteAt_lt (l : List UInt8) (p : Nat) : byteAt l p < 256 := UInt8.toNat_lt _
theorem byteAt_drop (l : List UInt8) (k p : Nat) : byteAt (l.drop k) p = byteAt l (k + p) := by unfold byteAt; rw [List.getElem?_drop]
theorem bytesV_byte {l : List UInt8} {i : Nat} (h : i < l.length) : (bytesV l)[i]? = some (.int .u8 (byteAt l i : Nat)) := by
  simp [bytesV, byteAt, List.getElem?_eq_getElem h, u8v]
theorem keyV_at {F : Nat → Nat} {R p : Nat} (h : p < 240) : (keyV F R)[p]? = some (.int .u8 (F p : Nat)) := by
  rw [keyV, Array.getElem?_push, if_neg (by rw [arrK_size]; omega), arrK_at h]
theorem keyV_240 (F : Nat → Nat) (R : Nat) : (keyV F R)[240]? = some (.int .i64 (R : Nat)) := by
  rw [keyV, Array.getElem?_push, if_pos (by rw [arrK_size])]
theorem keyV_out {F : Nat → Nat} {R p : Nat} (h : 241 ≤ p) : (keyV F R)[p]? = none := Array.getElem?_eq_none (by rw [(keyV_cells F R).1]; exact h)
theorem keyV_congr {F G : Nat → Nat} {R : Nat} (h : ∀ p < 240, F p = G p) : keyV F R = keyV G R := by unfold keyV; rw [arrK_congr h]
theorem keyV_of {c : Array Value} {F : Nat → Nat} {R : Nat} (hs : c.size = 241) (h : ∀ p < 240, c[p]? = some (.int .u8 (F p : Nat))) (h2 : c[240]? = some (.int .i64 (R : Nat))) : c = keyV F R := by
  apply Array.ext_getElem?
  intro p
  by_cases h3 : p < 240
  · rw [h p h3, keyV_at h3]
  · by_cases h4 : p = 240
    · subst h4; rw [h2, keyV_240]
    · rw [keyV_out (by omega), Array.getElem?_eq_none (by omega)]
theorem KeyAt.set {w : World} {g R : Nat} {F : Nat → Nat} (h : KeyAt w g F R) {p : Nat} (hp : p < 240) (v : Nat) : KeyAt (w.setCell ⟨g, p, none⟩ (.int .u8 (v : Int))) g (upd F p v) R := by
  refine ⟨row_setCell.2 h.row, ?_⟩
  rw [rowAt_setCell_same, h.eq]
  refine keyV_of (by rw [Array.size_setIfInBounds]; exact (keyV_cells F R).1) (fun q hq => ?_) ?_
  · rw [Array.getElem?_setIfInBounds]
    by_cases e : p = q
    · subst e
      rw [if_pos rfl, if_pos (by rw [(keyV_cells F R).1]; omega)]
      simp [upd]
    · rw [if_neg e, keyV_at hq]
      simp [upd, show ¬ q = p from fun h => e h.symm]
  · rw [Array.getElem?_setIfInBounds, if_neg (by omega), keyV_240]
theorem KeyAt.put {w : World} {g R : Nat} {F : Nat → Nat} (h : Row w g 241) : KeyAt (w.setRow g (keyV F R)) g F R := ⟨(row_setRow_same rfl h).2 (keyV_cells F R).1, rowAt_setRow_same h⟩
/-- copy of four bytes into a key. -/
theorem run_copy_key {w : World} {B g o R dc sc : Nat} {A : Option Addr} {F : Nat → Nat} {xs : List UInt8} (K : KeyAt w g F R) (ho : o + 4 ≤ 240) (hA : Rd w B A (bytesV xs)) (hm : 4 ≤ xs.length) (ty : TypeId) :
    (Builtin.copy_ #[25, 25] ty #[.slice (some ⟨g, o, none⟩) 4 dc, .slice A xs.length sc]).run Try.prog w = .ok (.int .i64 4) (w.setRow g (keyV (fun p => if o ≤ p ∧ p < o + 4 then byteAt xs (p - o) else F p) R)) := by
  obtain ⟨ad, rfl, -, -⟩ := hA 0 (.int .u8 (byteAt xs 0 : Nat)) (bytesV_byte (by omega))
  obtain ⟨cs, t, hg, hl⟩ := K.row
  have e : cs = keyV F R := by rw [← K.eq]; simp [rowAt, hg]
  have h1 := run_copy_row (P := Try.prog) w 25 25 ty 5 g o 4 dc ad xs.length sc cs t ((bytesV xs).take 4) Try.underlying25 (by kernel_rfl) hg (by rw [List.length_take, bytesV_length]; simp only [Nat.min_def]; split <;> split <;> omega)
    (fun j v hv => hA.take.all hv) (by rw [List.length_take, bytesV_length, hl]; omega) (fun u hu => bytesV_oneCell _ u (List.mem_of_mem_take hu))
  have hlen : ((bytesV xs).take 4).length = 4 := by rw [List.length_take, bytesV_length]; omega
  have hcl : cs.toList.length = 241 := by simpa using hl
  rw [h1, hlen]
  refine congrArg (fun z => Result.ok (goInt (4 : Nat)) (w.setRow g z)) (keyV_of ?_ (fun p hp => ?_) ?_)
  · simp [hl, bytesV_length]; omega
  · rw [List.getElem?_toArray, List.append_assoc]
    have hk := keyV_at (F := F) (R := R) hp
    rw [← e, ← Array.getElem?_toList] at hk
    by_cases h3 : p < o
    · rw [List.getElem?_append_left (by rw [List.length_take]; omega), List.getElem?_take_of_lt h3, hk, if_neg (by omega)]
    · have hlo : (cs.toList.take o).length = o := by rw [List.length_take]; omega
      rw [List.getElem?_append_right (by omega), hlo]
      by_cases h4 : p < o + 4
      · rw [List.getElem?_append_left (by omega), List.getElem?_take_of_lt (by omega), bytesV_byte (by omega), if_pos ⟨by omega, h4⟩]
      · rw [List.getElem?_append_right (by omega), hlen, List.getElem?_drop, show o + 4 + (p - o - 4) = p by omega, hk, if_neg (by omega)]
  · rw [List.getElem?_toArray, List.append_assoc]
    have hk := keyV_240 F R
    rw [← e, ← Array.getElem?_toList] at hk
    have hlo : (cs.toList.take o).length = o := by rw [List.length_take]; omega
    rw [List.getElem?_append_right (by omega), hlo, List.getElem?_append_right (by omega), hlen, List.getElem?_drop, show o + 4 + (240 - o - 4) = 240 by omega, hk]
/-- A word of a key, as it is loaded. -/
theorem KeyAt.ld {w : World} {g R : Nat} {F : Nat → Nat} (K : KeyAt w g F R) {o : Nat} (ho : o + 4 ≤ 240) : LdOk w 4 (.pointer (some ⟨g, o, none⟩)) ∧ ldC w 4 (.pointer (some ⟨g, o, none⟩)) = arrK .u8 4 fun j => F (o + j) := by
  have ha : ∀ j, (⟨g, o, none⟩ : Addr).add j = ⟨g, o + j, none⟩ := fun j => by unfold Addr.add; split <;> simp_all
  have hc : ∀ j u, (arrK .u8 4 fun j => F (o + j)).toList[j]? = some u → w.cell? ((⟨g, o, none⟩ : Addr).add j) = some u := fun j u hu => by
    rw [Array.getElem?_toList] at hu
    have hj : j < 4 := by have := (Array.getElem?_eq_some_iff.1 hu).1; simpa [arrK_size] using this
    rw [arrK_at hj] at hu
    rw [ha, K.byte (by omega), ← hu]
  have hl : (arrK .u8 4 fun j => F (o + j)).toList.length = 4 := by simp [arrK_size]
  exact ⟨ldOk_of hl hc, by rw [ldC_of hl hc]⟩
theorem zeroKey : Try.zeroCells42 = keyV (fun _ => 0) 0 := by kernel_rfl
theorem zeroKeySet (R : Nat) : Try.zeroCells42.setIfInBounds 240 (.int .i64 (R : Nat)) = keyV (fun _ => 0) R := by
  rw [zeroKey]
  refine keyV_of (by rw [Array.size_setIfInBounds]; exact (keyV_cells _ _).1) (fun q hq => ?_) ?_
  · rw [Array.getElem?_setIfInBounds, if_neg (by omega), keyV_at hq]
  · rw [Array.getElem?_setIfInBounds, if_pos rfl, if_pos (by rw [(keyV_cells _ _).1]; omega)]
theorem key_copy {key : List UInt8} {n i R : Nat} (hi : i < n) : keyV (fun p => if i * 4 ≤ p ∧ p < i * 4 + 4 then byteAt (key.drop (4 * i)) (p - i * 4) else kw (byteAt key) n i p) R = keyV (kw (byteAt key) n (i + 1)) R := by
  refine keyV_congr fun p hp => ?_
  by_cases h : i * 4 ≤ p ∧ p < i * 4 + 4
  · rw [if_pos h]
    obtain ⟨j, rfl⟩ : ∃ j, p = 4 * i + j := ⟨p - 4 * i, by omega⟩
    rw [kw_new _ _ _ _ (by omega), kwNew, if_pos hi, byteAt_drop]
    congr 1; omega
  · rw [if_neg h]
    by_cases h2 : p < 4 * i
    · rw [kw_old _ _ _ _ h2]
    · rw [kw_out _ _ _ _ (by omega), kw_out _ _ _ _ (by omega)]
end Go.Proofs.Ytjihklaocgmlpaa
