/- slices.SortFunc at attributes of the call's own, by attr.Norm's comparison. -/
import Derived.Test.YtdlmamnnamlleaaNo3
import Derived.Test.YtdlmamnnamlleaaShA
import Derived.Shelf.SlSortCmp.NoneTotal
namespace Go.Proofs.Ytdlmamnnamlleaa
open Go.ChangeShapes Go.WideShapes Go.ChangeAt Go.RowKit Go.Sort
set_option maxHeartbeats 1000000
set_option maxRecDepth 100000
attribute [local go_sem] kp_refl kp_alloc kp_setCell kp_drew kp_drewN row_new row_old rowAt_new rowAt_old

instance : Inhabited At := ⟨⟨0, none, 0, []⟩⟩
def cmpA (x y : At) : Int := cmpZ x.kind y.kind
theorem ltA (x y : At) : ltOf cmpA x y = decide (x.kind < y.kind) := by
  unfold ltOf cmpA cmpZ
  by_cases h1 : x.kind < y.kind
  · simp [h1]
  · by_cases h2 : y.kind < x.kind <;> simp [h1, h2]
theorem swoA : SWO (ltOf cmpA) where
  irrefl x := by rw [ltA]; simp
  trans x y z h1 h2 := by rw [ltA] at *; simp at *; omega
  ntrans x y z h1 h2 := by rw [ltA] at *; simp at *; omega
theorem norm_closure (x y : At) (W : World) : Calls Try.prog 85 #[.agg x.cells.toArray, .agg y.cells.toArray] W fun e w' => e = .returned (.int .i64 (cmpA x y)) ∧ ∃ q os', w' = grow (W.drewN q) os' := by
  obtain ⟨xk, xA, xc, xb⟩ := x
  obtain ⟨yk, yA, yc, yb⟩ := y
  unfold cmpA At.cells
  have hcon := fun V => cmp_Compare xk yk V
  generalize cmpZ xk yk = r at hcon ⊢
  go_enter Try.func85, Try.ntmps85
  go_wp2_with (go_at_call 86; refine (hcon _).mono ?_; rintro e w' ⟨rfl, rfl⟩)
  go_ret
  exact ⟨rfl, 0, _, by rw [alloc_eq_grow, alloc_eq_grow, grow_grow]; rfl⟩
theorem norm_cmpLays (blk off size : Nat) (w : World) : CmpLays Try.prog 85 #[] At.cells 2 cmpA blk off size w :=
  fun _ _ _ _ x y => norm_closure x y _

theorem flat_get (l : List At) {t : Nat} (h : t < l.length * 2) : (l.flatMap At.cells)[t]? = ((l[t / 2]?.getD default).cells)[t % 2]? := by
  obtain ⟨h1, h2⟩ := at_cells l (t / 2)
  have hlt : t / 2 < l.length := by omega
  rw [List.getElem?_eq_getElem hlt] at h1 h2
  rcases Nat.mod_two_eq_zero_or_one t with hm | hm
  · have e : t = t / 2 * 2 := by omega
    rw [hm, List.getElem?_eq_getElem hlt]
    rw [← e] at h1
    rw [h1]; rfl
  · have e : t = t / 2 * 2 + 1 := by omega
    rw [hm, List.getElem?_eq_getElem hlt]
    rw [← e] at h2
    rw [h2]; rfl
theorem flatK_get (d : Array At) {t : Nat} (h : t < d.size * 2) : (flatK At.cells 2 d)[t]! = (d.toList.flatMap At.cells)[t]?.getD undef := by
  rw [get_flatK _ _ _ _ h, flat_get _ (by simpa using h)]
  have hlt : t / 2 < d.size := by omega
  rw [getElem!_pos d _ hlt]
  rw [show d.toList[t / 2]?.getD default = d[t / 2] by simp [hlt]]
  have h2 : t % 2 < (d[t / 2].cells).length := by simp [At.cells]; omega
  rw [getElem!_pos (d[t / 2].cells) _ h2, List.getElem?_eq_getElem h2]
  rfl
theorem flat_len (l : List At) : (l.flatMap At.cells).length = l.length * 2 := by
  induction l with
  | nil => rfl
  | cons x r ih => rw [List.flatMap_cons, List.length_append, ih]; simp [At.cells]; omega
theorem own_holds {B : Nat} {w : World} {g c : Nat} {l : List At} (h : w.ownsRow B 120 2 (.slice (some ⟨g, 0, none⟩) l.length c) l.length (l.flatMap At.cells)) : HoldsK At.cells 2 w g 0 l.toArray := by
  intro j hj
  have hr := Rd.of_own h
  have hj2 : j < l.length * 2 := by simpa using hj
  have hx : (l.flatMap At.cells)[j]? = some ((flatK At.cells 2 l.toArray)[j]!) := by
    rw [flatK_get _ (by simpa using hj2)]
    have hl : j < (l.flatMap At.cells).length := by rw [h.1]; exact hj2
    rw [List.getElem?_eq_getElem hl]; rfl
  have hc := hr.all hx
  rcases h.2 with ⟨e, -⟩ | ⟨g', cap, cur, e, -, hg, -, -, -, -⟩
  · cases e
  · injection e with e1 e2 e3
    injection e1 with e1
    injection e1 with e1
    subst e1
    refine ⟨?_, by simp [World.frozen?, hg]⟩
    rw [Nat.zero_add]
    have e : (⟨g, 0, none⟩ : Addr).add j = ⟨g, j, none⟩ := by unfold Addr.add; by_cases h0 : j = 0 <;> simp [h0]
    rw [e] at hc
    exact hc
theorem sort_grown (w : World) (g n : Nat) (d : Array At) (os : Array Obj) : w.grownBy (sortWorldK At.cells 2 w g 0 n d os) (some g) := by
  refine ⟨rfl, rfl, rfl, ?_, fun i hi hne => ?_⟩
  · simp [sortWorldK, putRowK, Sort.ahead]
  · have hs : i < (putRowK At.cells 2 (Sort.ahead w n) g 0 d).heap.size := by simp [putRowK, Sort.ahead]; exact hi
    have hne2 : g ≠ i := fun e => hne (by rw [e])
    show (grow (putRowK At.cells 2 (Sort.ahead w n) g 0 d) os).heap[i]? = _
    rw [heap_grow_old _ _ hs]
    simp [putRowK, putRow, mapBlock, Sort.ahead, Array.getElem?_modify, hne2]
theorem sort_rd {w : World} {g n : Nat} {d0 d : Array At} {os : Array Obj} (h : HoldsK At.cells 2 w g 0 d0) (hs : d.size = d0.size) (hg : g < w.heap.size) :
    Rd (sortWorldK At.cells 2 w g 0 n d os) (g + 1) (some ⟨g, 0, none⟩) (d.toList.flatMap At.cells) := fun j u hu => by
  have hh : HoldsK At.cells 2 (sortWorldK At.cells 2 w g 0 n d os) g 0 d := holdsK_grow At.cells 2 _ os g 0 d (by simp [putRowK, Sort.ahead]; exact hg) (holdsK_putRowK At.cells 2 _ g 0 d0 d h hs)
  have hl : (d.toList.flatMap At.cells).length = d.size * 2 := by rw [flat_len]; simp
  have hj : j < d.size * 2 := by
    rw [← hl]
    exact (List.getElem?_eq_some_iff.1 hu).1
  have h1 := (hh j (by simpa using hj)).1
  rw [flatK_get d hj, hu, Nat.zero_add] at h1
  have e : (⟨g, 0, none⟩ : Addr).add j = ⟨g, j, none⟩ := by unfold Addr.add; by_cases h0 : j = 0 <;> simp [h0]
  exact ⟨_, rfl, Nat.lt_succ_self _, by rw [e]; exact h1⟩
/-- What the sort leaves: the attributes in rising order, in the same memory. -/
theorem sort_ats {B : Nat} {w : World} {g c : Nat} {l : List At} (I : AtsOwn B w (.slice (some ⟨g, 0, none⟩) l.length c) l) (hl : l.length ≤ 100000) :
    Calls Try.prog 84 #[.slice (some ⟨g, 0, none⟩) l.length c, .func (.func 85) #[] #[]] w fun e w' =>
      e = .returned (.tuple #[]) ∧ ∃ l' : List At, l'.length = l.length ∧ l'.Perm l ∧ (l'.Pairwise fun a b => a.kind ≤ b.kind) ∧ Ats w' w'.heap.size (some ⟨g, 0, none⟩) l' ∧ Below B w w' := by
  have eg : ∀ args w, (callFunc 85 args).run Try.prog w = .ok (.enter 85 args) w := enters_of Try.func85 (by kernel_rfl) rfl
  have hH := own_holds I.own
  have hgl := (I.own.lt g rfl).2
  have hBg := (I.own.lt g rfl).1
  have hcon := AnyQ.slices_SortFunc Try.attrSort 2 Try.isAgg120 Try.sizeOf120 At.cells (fun _ => rfl) (fun x v hv => by simp [At.cells] at hv; rcases hv with rfl | rfl <;> rfl) cmpA swoA 85 #[] g 0 c l.toArray w eg (norm_cmpLays g 0 l.toArray.size w) hH hgl (by simp; omega)
  change Calls Try.prog 84 _ _ _ at hcon
  refine hcon.mono ?_
  rintro e w' ⟨rfl, d', n, os, hp, hs, rfl⟩
  have hsz : d'.size = l.length := by have := hp.1; simpa using this
  have hgr := sort_grown w g n d' os
  have hpl : d'.toList.Perm l := by
    have h3 := hp.2.2
    rw [show (d'.extract 0 l.toArray.size) = d' by rw [Array.extract_eq_self_of_le (by simp [hsz])], show (l.toArray.extract 0 l.toArray.size) = l.toArray by simp] at h3
    simpa using h3
  refine ⟨rfl, d'.toList, by simpa using hsz, hpl, ?_, ⟨?_, fun x hx => ?_⟩, (Below.refl B w).grown hgr (by omega) (fun k hk => by injection hk with hk; omega)⟩
  · rw [List.pairwise_iff_getElem]
    intro i j hi hj hij
    have h3 := hs i j (Nat.zero_le _) hij (by simp at hj ⊢; omega)
    rw [ltA] at h3
    simp at hi hj h3 ⊢
    rw [getElem!_pos d' _ hi, getElem!_pos d' _ hj] at h3
    exact h3
  · exact (sort_rd hH (by simpa using hsz) hgl).more (by have := hgr.size; omega)
  · obtain ⟨r1, r2, r3, r4⟩ := I.body x (hpl.mem_iff.1 hx)
    exact ⟨(rd_grownA r1 hgr (Nat.le_refl _) (fun a ha => (r4 a ha).2)).more hgr.size, r2, r3⟩
/-- The same, nil too. -/
theorem sort_any {B : Nat} {w : World} {A : Option Addr} {c : Nat} {l : List At} (I : AtsOwn B w (.slice A l.length c) l) (hl : l.length ≤ 100000) (hB : B ≤ w.heap.size) :
    Calls Try.prog 84 #[.slice A l.length c, .func (.func 85) #[] #[]] w fun e w' =>
      e = .returned (.tuple #[]) ∧ ∃ l' : List At, l'.length = l.length ∧ l'.Perm l ∧ (l'.Pairwise fun a b => a.kind ≤ b.kind) ∧ Ats w' w'.heap.size A l' ∧ Below B w w' := by
  cases A with
  | some a =>
    rcases I.own.2 with ⟨e, -⟩ | ⟨g', cap, cur, e, -, hg, -, -, -, -⟩
    · cases e
    · injection e with e1 e2 e3
      injection e1 with e1
      subst e1
      exact sort_ats I hl
  | none =>
    have hn : l = [] := by
      rcases I.own.2 with ⟨-, e⟩ | ⟨g', cap, cur, e, -⟩
      · exact List.length_eq_zero_iff.1 e
      · cases e
    subst hn
    have hcon := AnyF.slices_SortFunc_none Try.attrSort none c (.func (.func 85) #[] #[]) w
    change Calls Try.prog 84 _ _ _ at hcon
    refine hcon.mono ?_
    rintro e w' ⟨rfl, rfl⟩
    exact ⟨rfl, [], rfl, List.Perm.refl _, List.Pairwise.nil, ⟨Rd.nil, fun x hx => by simp at hx⟩, Below.refl _ _⟩
end Go.Proofs.Ytdlmamnnamlleaa
