/- slices.Sorted(maps.Keys(m)) at sessions; Desk.List. -/
import Derived.Test.YtdlmamnnamlleaaLg3
import Derived.Test.YtdlmamnnamlleaaShB
namespace Go.Proofs.Ytdlmamnnamlleaa
open Go.ChangeShapes Go.WideShapes Go.ChangeAt Go.RowKit Go.Maps Go.Sort Go.Shelf
set_option maxHeartbeats 1000000
set_option maxRecDepth 100000

theorem own_formI {wr : World} {B : Nat} {e : TypeId} {size n : Nat} {v : Value} {xs : List Value} (h : wr.ownsRow B e size v n xs) : ∃ A c, v = .slice A n c := by
  rcases h.2 with ⟨h1, h2⟩ | ⟨g, cap, cur, h1, _⟩
  · exact ⟨none, 0, by rw [h1, h2]⟩
  · exact ⟨_, _, h1⟩
/-- slices.Sort's two contracts, at the fence that asks nothing. -/
theorem sortsI (m : Nat) : AnyZI.SortsIn Try.prog Try.sortedI_ren Fence.wide m :=
  ⟨fun blk off cap ss W hH hblk hsz => callsIn_wide.2 (AnyM.slices_Sort_int Try.sortI blk off cap ss W hH hblk hsz),
   fun p cap W => callsIn_wide.2 (AnyM.slices_Sort_int_none Try.sortI p cap W)⟩
theorem intKeys_DM (es : List (Int × Value)) : intKeys (DM es) = es.map (·.1) := by
  unfold DM intKeys
  simp only [List.map_map]
  rfl
theorem sorted_keys {es : List (Int × Value)} (ha : es.Pairwise fun p q => p.1 < q.1) {ss : List Int} (hp : ss.Perm (intKeys (DM es))) : ss.mergeSort (fun x y => decide (x ≤ y)) = es.map (·.1) := by
  rw [intKeys_DM] at hp
  have h1 : (ss.mergeSort (fun x y => decide (x ≤ y))).Perm (es.map (·.1)) := (List.mergeSort_perm _ _).trans hp
  have h2 : (ss.mergeSort (fun x y => decide (x ≤ y))).Pairwise fun x y => x ≤ y := by
    have := List.pairwise_mergeSort (le := fun x y : Int => decide (x ≤ y)) (fun a b c h1 h2 => by simp at *; omega) (fun a b => by simp; omega) ss
    exact this.imp fun h => by simpa using h
  have h3 : (es.map (·.1)).Pairwise fun x y => x ≤ y := by
    rw [List.pairwise_map]
    exact ha.imp fun h => by omega
  exact List.Perm.eq_of_pairwise (le := fun x y : Int => x ≤ y) (fun a b _ _ h1 h2 => by omega) h2 h3 h1
/-- What List hands back: the ids, rising, in memory of the call's own. -/
def KeysR (ks : List Int) (w : World) (e : Ending) (w' : World) : Prop := ∃ A c, e = .returned (.slice A ks.length c) ∧ Rd w' w'.heap.size A (ks.map (Value.int .i64)) ∧ Below w.heap.size w w'
set_option maxHeartbeats 4000000 in
theorem desk_List (g bm : Nat) (most last who : Int) (l : List (Int × Bool)) (w : World) (h : DeskAt w g bm most last who l) (hll : l.length ≤ 100000) :
    Calls Try.prog 40 #[.pointer (some ⟨g, 0, none⟩)] w (KeysR (l.map (·.1)) w) := by
  obtain ⟨c0, c1, c2, c3, cf⟩ := h.c
  refine (callsIn_wide (n := 6)).1 ?_
  have hown := h.mp.own
  have hbl := hown.lt
  have hsz : Maps.size (DM (sesM l)) = l.length := by rw [size_DM]; unfold sesM; rw [List.length_map]
  have hmax : Maps.size (DM (sesM l)) ≤ maxLen := by rw [hsz]; unfold maxLen; omega
  have hbytes : Maps.size (DM (sesM l)) * 8 ≤ 140737488355328 := by rw [hsz]; omega
  have hseq : SeqGives Fence.wide 2 Try.prog 137 #[.pointer (some ⟨w.heap.size, 0, none⟩)] encZ (fun ss => ss.Perm (intKeys (DM (sesM l)))) (Maps.size (DM (sesM l))) (w.alloc (.cells #[.map (some bm)] 140)) :=
    AnyZI.keys_gives (ρ := Try.keysD_ren) { Try.keysD with } Fence.wide _ trivial rfl (by omega) w.heap.size bm _ (DM (sesM l)) _ (by simp) (by simp) (by
      obtain ⟨es, clock, hb, Ft, hs, hD⟩ := hown
      exact ⟨es, clock, (Below.heap_alloc _ _ bm hbl).trans hb, Ft, hs, hD⟩)
  have cK : ∀ mb W, CallsIn Fence.wide 5 Try.prog 97 #[.map mb] W fun e w' => e = .returned (.func (.func 137) #[] #[.pointer (some ⟨W.heap.size, 0, none⟩)]) ∧ w' = W.alloc (.cells #[.map mb] 140) := fun mb W => AnyZI.keys_in Try.keysD Fence.wide 5 trivial rfl mb W
  have cS := AnyZI.sorted_in Try.sortedI Fence.wide 5 trivial trivial trivial trivial rfl (by omega) (sortsI _) (enters_of Try.func136 (by kernel_rfl) rfl) 137 #[.pointer (some ⟨w.heap.size, 0, none⟩)] trivial (enters_of Try.func137 (by kernel_rfl) rfl) _ _ hmax hbytes _ hseq
  change CallsIn _ _ Try.prog 96 _ _ _ at cS
  have hfK : Fence.wide.fn 97 := trivial
  have hfS : Fence.wide.fn 96 := trivial
  have hasc := Lib.hid h.mp.asc
  have hsk := Lib.hid (fun (ss : List Int) (hp : ss.Perm (intKeys (DM (sesM l)))) => sorted_keys h.mp.asc hp)
  have hkl : Hid ((sesM l).map (·.1) = l.map (·.1)) := by show _ = _; unfold sesM; rw [List.map_map]; rfl
  clear h hown hseq hmax hbytes hsz
  refine callsIn_of_wp Try.func40 rfl trivial ?_ rfl
  simp only [Try.ntmps40, List.size_toArray, List.length_cons, List.length_nil, Nat.reduceAdd, Nat.reduceSub, Array.replicate_succ, Array.replicate_zero, List.push_toArray, List.append_toArray, List.nil_append, List.cons_append]
  gi_wp2_with (first
    | (gi_at_call 97; refine (cK _ _).mono ?_; rintro e w' ⟨rfl, rfl⟩)
    | (gi_at_call 96; refine cS.mono ?_; rintro e w' ⟨v, ss, rfl, hS, hrow, hnil, hb⟩))
  go_ret
  have hks := hsk.out ss hS
  rw [hkl.out] at hks
  rw [hks] at hrow
  have hlen : ss.length = (l.map (·.1)).length := by
    have := congrArg List.length hks
    rwa [List.length_mergeSort] at this
  rw [hlen] at hrow
  obtain ⟨A, c, rfl⟩ := own_formI hrow
  have hrd := Rd.of_own hrow
  exact ⟨A, c, rfl, hrd, ((Below.refl _ w).alloc (Nat.le_refl _) _).trans (hb.mono (by simp))⟩
end Go.Proofs.Ytdlmamnnamlleaa
