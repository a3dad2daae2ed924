/- Package store: the iterator all. -/
import Derived.Test.YtakooljbkjnilaaSt1
import Derived.Test.YtakooljbkjnilaaShC
import Derived.LoopIn
namespace Go.Proofs.Ytakooljbkjnilaa
open Go.ChangeShapes Go.WideShapes Go.ChangeAt Go.RowKit Go.Maps Go.Sort Go.Shelf
set_option maxHeartbeats 1000000
set_option maxRecDepth 100000

theorem own_formS {wr : World} {B : Nat} {e : TypeId} {size n : Nat} {v : Value} {xs : List Value} (h : wr.ownsRow B e size v n xs) : ∃ A c, v = .slice A n c := by
  rcases h.2 with ⟨h1, h2⟩ | ⟨g, cap, cur, h1, _⟩
  · exact ⟨none, 0, by rw [h1, h2]⟩
  · exact ⟨_, _, h1⟩
theorem own_addrS {w : World} {B : Nat} {e : TypeId} {size n m c : Nat} {xs : List Value} {a : Addr} (h : w.ownsRow B e size (.slice (some a) n c) m xs) : B ≤ a.block ∧ a.block < w.heap.size := by
  rcases h.2 with ⟨h1, _⟩ | ⟨g, cap, cur, h1, h2, h3, _⟩
  · cases h1
  · injection h1 with h1 _ _
    injection h1 with h1
    subst h1
    exact ⟨h2, blk_lt h3⟩
/-- slices.Sort's two contracts, at the fence that asks nothing. -/
theorem sortsS (m : Nat) : AnyZI.SortsIn Try.prog Try.sortedI_ren Fence.wide m :=
  ⟨fun blk off cap ss W hH hblk hsz => callsIn_wide.2 (AnyM.slices_Sort_int Try.sortI blk off cap ss W hH hblk hsz),
   fun p cap W => callsIn_wide.2 (AnyM.slices_Sort_int_none Try.sortI p cap W)⟩
theorem intKeys_DMS (es : List (Int × Value)) : intKeys (DM es) = es.map (·.1) := by
  unfold DM intKeys
  simp only [List.map_map]
  rfl
theorem sorted_keysS {es : List (Int × Value)} (ha : es.Pairwise fun p q => p.1 < q.1) {ss : List Int} (hp : ss.Perm (intKeys (DM es))) : ss.mergeSort (fun x y => decide (x ≤ y)) = es.map (·.1) := by
  rw [intKeys_DMS] at hp
  have h1 : (ss.mergeSort (fun x y => decide (x ≤ y))).Perm (es.map (·.1)) := (List.mergeSort_perm _ _).trans hp
  have h2 : (ss.mergeSort (fun x y => decide (x ≤ y))).Pairwise fun x y => x ≤ y := by
    have := List.pairwise_mergeSort (le := fun x y : Int => decide (x ≤ y)) (fun a b c h1 h2 => by simp at *; omega) (fun a b => by simp; omega) ss
    exact this.imp fun h => by simpa using h
  have h3 : (es.map (·.1)).Pairwise fun x y => x ≤ y := by
    rw [List.pairwise_map]
    exact ha.imp fun h => by omega
  exact List.Perm.eq_of_pairwise (le := fun x y : Int => x ≤ y) (fun a b _ _ h1 h2 => by omega) h2 h3 h1
/-- A lookup without the second answer. -/
theorem run_look1 {w : World} {b : Nat} {es : List (Int × Value)} (h : MpAt w b es) {k : Int} (hk : (Lit.int .i64 k).wf = true) {t e : TypeId} (ht : Try.prog.underlying t = some (.map 3 e)) {z : Value} (hz : (zeroValue e).run Try.prog w = .ok z w) :
    (Instr.lookup t (.map (some b)) (.int .i64 k) false).run Try.prog w = .ok ((lookM es k).getD z) w := by
  obtain ⟨v, ps, hr, hv⟩ := h.own.lookup (Maps.int_keyed Try.underlying3) ht hz (zd := .held z) (zp := []) rfl (Maps.keyOf_int_mk Try.underlying3 hk)
  rw [hr]
  rw [lookM_at] at hv
  have hv2 : v = (lookM es k).getD z := by
    cases hl : lookM es k with
    | none => rw [hl] at hv; simp [RV] at hv; exact hv.1
    | some u => rw [hl] at hv; simp [RV] at hv; exact hv.1
  rw [hv2]
theorem look_nth {es : List (Int × Value)} (ha : es.Pairwise fun p q => p.1 < q.1) {j : Nat} (hj : j < es.length) : lookM es es[j].1 = some es[j].2 := by
  unfold lookM
  have : es.find? (fun p => p.1 == es[j].1) = some es[j] := by
    rw [List.find?_eq_some_iff_getElem]
    refine ⟨by simp, j, hj, rfl, fun i hi => ?_⟩
    have := List.pairwise_iff_getElem.1 ha i j (by omega) hj hi
    simp; omega
  rw [this]; rfl
def hdZ : Value := .agg #[.int .i64 0, .int .i64 0, .slice none 0 0]
theorem zero_hd (w : World) : (zeroValue 45).run Try.prog w = .ok hdZ w := by
  kernel_rfl
theorem StAt.keptL {w0 w1 wr : World} {g bm M v lp : Nat} {most next : Int} {l : List Hd} (h : StAt w0 g bm most next l) (hb : Below w0.heap.size w0 w1) (hk : KeptL M v lp w1 wr) (hM : w0.heap.size ≤ M) (hv : w0.heap.size ≤ v) (hl : w0.heap.size ≤ lp) : StAt wr g bm most next l :=
  h.kept (fun k hlt => (hk.same k (by omega) (by omega) (by omega)).trans (hb.block k hlt)) (Nat.le_trans hb.size hk.size)
set_option maxHeartbeats 4000000 in
theorem store_all (g bm : Nat) (most next : Int) (l : List Hd) (w : World) (v : Nat) (h : StAt w g bm most next l) (hll : l.length ≤ 100000) (hv : w.heap.size ≤ v) :
    SeqAt Fence.wide 9 Try.prog 12 #[.pointer (some ⟨g, 0, none⟩)] #[] Hd.val l v w := by
  intro lp J W hW hl1 hl2 hvW hJ hY h0
  have hS := h.step hW
  obtain ⟨c0, c1, c2, cf⟩ := hS.c
  have hown := hS.mp.own
  have hbl := hown.lt
  have hlen2 : (hdM l).length = l.length := by unfold hdM; rw [List.length_map]
  have hsz : Maps.size (DM (hdM l)) = l.length := by rw [size_DM, hlen2]
  have hmax : Maps.size (DM (hdM l)) ≤ maxLen := by rw [hsz]; unfold maxLen; omega
  have hbytes : Maps.size (DM (hdM l)) * 8 ≤ 140737488355328 := by rw [hsz]; omega
  have hseq : SeqGives Fence.wide 5 Try.prog 34 #[.pointer (some ⟨W.heap.size, 0, none⟩)] encZ (fun ss => ss.Perm (intKeys (DM (hdM l)))) (Maps.size (DM (hdM l))) (W.alloc (.cells #[.map (some bm)] 40)) :=
    AnyZI.keys_gives (ρ := Try.keysH_ren) { Try.keysH with } Fence.wide _ trivial rfl (by omega) W.heap.size bm _ (DM (hdM l)) _ (by simp) (by simp) (by
      obtain ⟨es, clock, hb, Ft, hs, hD⟩ := hown
      exact ⟨es, clock, (Below.heap_alloc _ _ bm hbl).trans hb, Ft, hs, hD⟩)
  have cK : ∀ mb V, CallsIn Fence.wide 8 Try.prog 26 #[.map mb] V fun e w' => e = .returned (.func (.func 34) #[] #[.pointer (some ⟨V.heap.size, 0, none⟩)]) ∧ w' = V.alloc (.cells #[.map mb] 40) := fun mb V => AnyZI.keys_in Try.keysH Fence.wide 8 trivial rfl mb V
  have cS := AnyZI.sorted_in Try.sortedI Fence.wide 8 trivial trivial trivial trivial rfl (by omega) (sortsS _) (enters_of Try.func33 (by kernel_rfl) rfl) 34 #[.pointer (some ⟨W.heap.size, 0, none⟩)] trivial (enters_of Try.func34 (by kernel_rfl) rfl) _ _ hmax hbytes _ hseq
  change CallsIn _ _ Try.prog 25 _ _ _ at cS
  have hfK : Fence.wide.fn 26 := trivial
  have hfS : Fence.wide.fn 25 := trivial
  have hsk := Lib.hid (fun (ss : List Int) (hp : ss.Perm (intKeys (DM (hdM l)))) => sorted_keysS h.mp.asc hp)
  clear hown hseq hmax hbytes hsz
  refine callsIn_of_wp Try.func12 rfl trivial ?_ rfl
  simp only [Try.ntmps12, List.size_toArray, List.length_cons, List.length_nil, Nat.reduceAdd, Nat.reduceSub, Array.replicate_succ, Array.replicate_zero, List.push_toArray, List.append_toArray, List.nil_append, List.cons_append]
  gi_wp2_with (first
    | (gi_at_call 26; refine (cK _ _).mono ?_; rintro e w' ⟨rfl, rfl⟩)
    | (gi_at_call 25; refine cS.mono ?_; rintro e w1 ⟨sv, ss, rfl, hS1, hrow, hnil, hb1⟩
       have hks := hsk.out ss hS1
       rw [hks] at hrow
       have hlen : ss.length = l.length := by
         have := congrArg List.length hks
         rw [List.length_mergeSort, List.length_map, hlen2] at this
         exact this
       rw [hlen] at hrow
       obtain ⟨A, c, rfl⟩ := own_formS hrow
       have hrd := Rd.of_own hrow
       have hAb : ∀ a, A = some a → W.heap.size + 1 ≤ a.block := fun a ha => by
         subst ha
         have := (own_addrS hrow).1
         simpa using this
       have hbW : Below W.heap.size W w1 := ((Below.refl _ W).alloc (Nat.le_refl _) _).trans (hb1.mono (by simp))))
  clear cK cS hsk c0 c1 c2 cf hfK hfS
  gi_loopw [13] (fun x wr => ∃ j : Nat, x = .int .i64 j ∧ j ≤ l.length ∧ J w1.heap.size (l.take j) wr ∧ KeptL w1.heap.size v lp w1 wr) (fun x _ => l.length - (intOf x).toNat)
  case atStart => exact ⟨0, rfl, Nat.zero_le _, by simpa using h0 w1 hbW, Nat.le_refl _, fun _ _ _ _ => rfl⟩
  case round =>
    obtain ⟨j, rfl, hj, hjJ, hk⟩ := hrel
    have hwW := hb1.size
    by_cases hjl : j = l.length
    · subst hjl
      gi_wp2
      go_end0
      exact ⟨⟨_, rfl⟩, w1.heap.size, hbW.size, by simpa using hjJ⟩
    · have hjl : j < l.length := by omega
      have hSr : StAt wr g bm most next l := h.keptL (hW.trans (hbW.mono hW.size)) hk (Nat.le_trans hW.size hbW.size) hv (by omega)
      obtain ⟨-, -, c2, cf⟩ := hSr.c
      have hj2 : j < (hdM l).length := by rw [hlen2]; exact hjl
      have hxj : (hdM l)[j] = (l[j].h, l[j].val) := List.getElem_map (fun x : Hd => (x.h, x.val))
      obtain ⟨ad, rfl, hadl, q1⟩ := hrd.at_ (k := j) (by rw [List.length_map, List.length_map, hlen2]; exact hjl)
      have q2 : wr.cell? (ad.add j) = some (.int .i64 l[j].h) := by
        have := hAb ad rfl
        rw [World.cell?_of_block (w := w1) (by rw [addr_block]; exact hk.same _ hadl (by omega) (by omega)), q1]
        simp [encZ, hxj]
      have hwf := h.mp.wf _ (List.getElem_mem hj2)
      have hlk := look_nth h.mp.asc hj2
      rw [hxj] at hwf hlk
      have hlr := run_look1 hSr.mp hwf (t := 40) Try.underlying40 (zero_hd wr)
      rw [hlk] at hlr
      simp only [Option.getD_some] at hlr
      have htk : l.take (j + 1) = l.take j ++ [l[j]] := by rw [List.take_add_one, List.getElem?_eq_getElem hjl]; rfl
      obtain ⟨fn, tm, as_, bo, hy, hR⟩ := hY w1.heap.size (l.take j) l[j] wr hbW.size hk.size hjJ ⟨l.drop (j + 1), by rw [← List.drop_eq_getElem_cons hjl, List.take_append_drop]⟩
      rw [← htk] at hR
      have htk := Lib.hid htk
      have hR := Lib.hid hR
      generalize l[j] = x at *
      have hgg := Lib.hid hk
      clear hks hlk hrd hxj q1 hk
      clear htk
      gi_wp2
      refine hR.out.mono ?_
      rintro e B ⟨rfl, hJB, hkB⟩
      gi_wp2
      refine ⟨⟨j + 1, by simp, hjl, hJB, hgg.out.trans hkB⟩, ?_⟩
      show l.length - (intOf (.int .i64 _)).toNat < l.length - (intOf (.int .i64 _)).toNat
      simp only [intOf]
      omega
end Go.Proofs.Ytakooljbkjnilaa
