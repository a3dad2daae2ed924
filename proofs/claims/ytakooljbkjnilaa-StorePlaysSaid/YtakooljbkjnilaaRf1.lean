/- A range over an iterator that hands its yield given elements, one by one, and reads its own memory between the rounds: a law of one's own. No program is named here. -/
import Derived.RangeFuncOwn
namespace Go.Proofs.Ytakooljbkjnilaa
open Go Go.RowKit

/-- What lies below M stays, but for block v. -/
structure KeptM (M v : Nat) (A B : World) : Prop where
  size : A.heap.size ≤ B.heap.size
  same : ∀ k, k < M → k ≠ v → B.heap[k]? = A.heap[k]?
/-- What lies below M stays, but for blocks v and l. -/
structure KeptL (M v l : Nat) (A B : World) : Prop where
  size : A.heap.size ≤ B.heap.size
  same : ∀ k, k < M → k ≠ v → k ≠ l → B.heap[k]? = A.heap[k]?
theorem KeptM.refl (M v : Nat) (A : World) : KeptM M v A A := ⟨Nat.le_refl _, fun _ _ _ => rfl⟩
theorem KeptM.trans {M v : Nat} {A B C : World} (h : KeptM M v A B) (k : KeptM M v B C) : KeptM M v A C :=
  ⟨Nat.le_trans h.size k.size, fun i h1 h2 => (k.same i h1 h2).trans (h.same i h1 h2)⟩
theorem KeptM.of_below {M v : Nat} {A B : World} (hM : M ≤ A.heap.size) (h : Below A.heap.size A B) : KeptM M v A B :=
  ⟨h.size, fun k h1 _ => h.block k (Nat.lt_of_lt_of_le h1 hM)⟩
theorem KeptL.trans {M v l : Nat} {A B C : World} (h : KeptL M v l A B) (k : KeptL M v l B C) : KeptL M v l A C :=
  ⟨Nat.le_trans h.size k.size, fun i h1 h2 h3 => (k.same i h1 h2 h3).trans (h.same i h1 h2 h3)⟩
theorem KeptM.toL {M v : Nat} {A B : World} (h : KeptM M v A B) (l : Nat) : KeptL M v l A B := ⟨h.size, fun k h1 h2 _ => h.same k h1 h2⟩
theorem KeptL.putObj (M v l : Nat) (A : World) (o : Obj) : KeptL M v l A (A.putObj l o) :=
  ⟨by simp [World.putObj], fun _ _ _ h3 => World.putObj_heap_other h3⟩
theorem KeptL.old {M v l : Nat} {A B : World} (h : KeptL M v l A B) {n : Nat} (hn : n ≤ M) (hv : n ≤ v) (hl : n ≤ l) : ∀ k, k < n → B.heap[k]? = A.heap[k]? :=
  fun k hk => h.same k (by omega) (by omega) (by omega)

/-- The iterator hands its yield the elements of xs, one by one: between the rounds the caller keeps all that lies below M, but for its own block v. -/
def SeqAt {α : Type} (F : Fence) (n : Nat) (P : Program) (gf : Nat) (fs lb : Array Value) (enc : α → Value) (xs : List α) (v : Nat) (w0 : World) : Prop :=
  ∀ (l : Nat) (J : Nat → List α → World → Prop) (W : World), Below w0.heap.size w0 W → w0.heap.size < l → l < W.heap.size → v < W.heap.size →
    (∀ M pre A B, J M pre A → Below A.heap.size A B → J M pre B) →
    (∀ M pre x A, W.heap.size ≤ M → M ≤ A.heap.size → J M pre A → (∃ post, xs = pre ++ x :: post) →
      YieldAt F (n - 1) P l #[enc x] A fun e B => e = .returned (.bool true) ∧ J M (pre ++ [x]) B ∧ KeptL M v l A B) →
    (∀ A, Below W.heap.size W A → J A.heap.size [] A) →
    CallsIn F n P gf (fs ++ #[.func (.yield l) #[] #[]] ++ lb) W fun e B => (∃ u, e = .returned u) ∧ ∃ M, W.heap.size ≤ M ∧ J M xs B

theorem SeqAt.later {α : Type} {F : Fence} {n : Nat} {P : Program} {gf : Nat} {fs lb : Array Value} {enc : α → Value} {xs : List α} {v : Nat} {w w' : World}
    (h : SeqAt F n P gf fs lb enc xs v w) (hb : Below w.heap.size w w') : SeqAt F n P gf fs lb enc xs v w' :=
  fun l J W hW hl hl2 hv => h l J W (hb.trans (hW.mono hb.size)) (Nat.lt_of_le_of_lt hb.size hl) hl2 hv

/-- How the body of a round may be left. -/
def seqPost {α : Type} (I : Nat → List α → World → Prop) (M v : Nat) (xs : List α) (W : World) : Exit → Act → World → Prop
  | .normal, _, W' => KeptM M v W W' ∧ I M xs W'
  | .ret, _, _ => False
  | .exit _, _, _ => False
  | .goto _, _, _ => False
  | .panic _, _, _ => False
  | .outgrown, _, _ => False

section
variable {F : Fence} {n : Nat} {P : Program}
theorem wpIn_rangeFunc_seq {α : Type} {g : Operand} {ps : Array Tmp} {assign body : Code} {Q : Exit → Act → World → Prop} {a : Act} {w : World}
    (hro : F.round = none) (h1 : 1 ≤ n) {gf : Nat} {fs lb : Array Value} (hg : a.eval g = .func (.func gf) fs lb) (hFg : F.fn gf) (eg : ∀ args w, (callFunc gf args).run P w = .ok (.enter gf args) w)
    {enc : α → Value} {xs : List α} {v : Nat} {w0 : World} (hseq : SeqAt F (n - 1) P gf fs lb enc xs v w0) (hb0 : Below w0.heap.size w0 w) (hps : ps.size = 1) (hv : v < w.heap.size)
    (I : Nat → List α → World → Prop) (Ax : Nat → List α → α → Act → World → Prop)
    (hI : ∀ M pre A B, w.heap.size + 2 ≤ M → I M pre A → A.grownBy B (some (w.heap.size + 1)) → I M pre B)
    (hAx : ∀ M pre x a' A B, w.heap.size + 2 ≤ M → Ax M pre x a' A → A.grownBy B (some (w.heap.size + 1)) → Ax M pre x a' B)
    (h0 : ∀ A, Below w.heap.size w A → w.heap.size + 2 ≤ A.heap.size → I A.heap.size [] A)
    (hassign : ∀ M pre x W (K : Act → World → Prop), w.heap.size + 2 ≤ M → M ≤ W.heap.size → I M pre W → (∃ post, xs = pre ++ x :: post) → (∀ a' W', Ax M pre x a' W' → KeptM M v W W' → K a' W') →
      assign.wpIn (F.inRound (w.heap.size + 1)) (n - 1 - 1) P (Exit.then K (fun _ _ _ => False)) { tmps := (ps.zip #[enc x]).foldl (fun t (p, v) => t.setIfInBounds p v) a.tmps, defers := [] } W)
    (hbody : ∀ M pre x a' W, w.heap.size + 2 ≤ M → M ≤ W.heap.size → Ax M pre x a' W → (∃ post, xs = pre ++ x :: post) → body.wpIn (F.inRound (w.heap.size + 1)) (n - 1 - 1) P (seqPost I M v (pre ++ [x]) W) a' W)
    (hdone : ∀ M W, w.heap.size + 2 ≤ M → I M xs W → W.heap[w.heap.size]? = some (.deferred (some [])) → Q .normal { a with defers := { target := .collected w.heap.size, args := #[] } :: a.defers } W) :
    (Code.rangeFunc g ps assign body).wpIn F n P Q a w := by
  refine wpIn_rangeFunc ?_
  intro fn hfn
  rw [hro]
  obtain ⟨rec, hrec⟩ : ∃ rec : LoopState → Option Code → Loop, rec = fun st pe => { state := st, pending := pe, fn, tmps := a.tmps, params := ps, assign, body, defers := w.heap.size } := ⟨_, rfl⟩
  obtain ⟨W1, hW1⟩ : ∃ W1, (w.alloc (.deferred (some []))).alloc (.loop (rec .ready none)) = W1 := ⟨_, rfl⟩
  have hL1 : W1.heap[w.heap.size + 1]? = some (.loop (rec .ready none)) := by
    rw [← hW1]; have := World.alloc_heap_new (w.alloc (.deferred (some []))) (.loop (rec .ready none)); rwa [World.size_alloc] at this
  have hK1 : W1.heap[w.heap.size]? = some (.deferred (some [])) := by
    rw [← hW1]; exact (Below.heap_alloc _ _ _ (by simp)).trans (World.alloc_heap_new w _)
  have hs1 : W1.heap.size = w.heap.size + 2 := by rw [← hW1]; simp
  have hb1 : Below w.heap.size w W1 := by
    rw [← hW1]; exact ((Below.refl _ w).alloc (Nat.le_refl _) _).alloc (by simp) _
  refine ⟨w.heap.size + 1, [{ target := .collected w.heap.size, args := #[] }], W1, { target := .fn (.func gf) lb, args := fs ++ #[.func (.yield (w.heap.size + 1)) #[] #[]] }, W1, gf,
    fs ++ #[.func (.yield (w.heap.size + 1)) #[] #[]] ++ lb, W1, ?_, ?_, ?_, ?_, fun _ => h1, ?_⟩
  · rw [← hW1, hrec]; exact run_enterLoop_outer _ _ _ _ _
  · simp only [resolve, hg]
    simp [go_sem]
  · intro f' hf'; simp [Target.leads] at hf'; subst hf'; exact hFg
  · simp [invoke, go_sem, eg]
  · refine (hseq (w.heap.size + 1)
      (fun M pre W => I M pre W ∧ w.heap.size + 2 ≤ M ∧ W.heap[w.heap.size + 1]? = some (.loop (rec .ready none)) ∧ W.heap[w.heap.size]? = some (.deferred (some [])))
      W1 (hb0.trans (hb1.mono hb0.size)) (by have := hb0.size; omega) (by omega) (by omega) ?_ ?_ ?_).mono ?_
    · rintro M pre A B ⟨hi, hM, hl, hk⟩ hb
      have h1 : w.heap.size + 1 < A.heap.size := (Array.getElem?_eq_some_iff.1 hl).1
      exact ⟨hI M pre A B hM hi ⟨hb.os, hb.tape, hb.output, hb.size, fun k hk _ => hb.block k hk⟩, hM, (hb.block _ h1).trans hl, (hb.block _ (by omega)).trans hk⟩
    · -- ONE ROUND
      rintro M pre x A hM hMA ⟨hi, hM2, hl, hk⟩ hpost
      have hy := run_yield (P := P) (args := #[enc x]) hl (by rw [hrec]; simp [hps])
      rw [hrec] at hy
      refine ⟨fn, _, assign, body, hy, roundIn_of_wpIn hfn (hassign M pre x A _ hM2 hMA hi hpost ?_)⟩
      intro a' W' hax hkA
      have hl' : W'.heap[w.heap.size + 1]? = some (.loop (rec .ready none)) := (hkA.same _ (by omega) (by omega)).trans hl
      have hk' : W'.heap[w.heap.size]? = some (.deferred (some [])) := (hkA.same _ (by omega) (by omega)).trans hk
      have hlt : w.heap.size + 1 < W'.heap.size := (Array.getElem?_eq_some_iff.1 hl').1
      refine ⟨_, run_beginRound hl' (by rw [hrec]), ?_⟩
      have hl2 : (W'.putObj (w.heap.size + 1) (.loop { rec .ready none with state := .busy })).heap[w.heap.size + 1]? = some (.loop { rec .ready none with state := .busy }) := World.putObj_heap_same hlt
      have hk2 : (W'.putObj (w.heap.size + 1) (.loop { rec .ready none with state := .busy })).heap[w.heap.size]? = some (.deferred (some [])) := (World.putObj_heap_other (by omega)).trans hk'
      have hg2 := grownBy_putObj' W' (w.heap.size + 1) (.loop { rec .ready none with state := .busy })
      have hm2 : M ≤ (W'.putObj (w.heap.size + 1) (.loop { rec .ready none with state := .busy })).heap.size := by
        have := hkA.size; simp [World.putObj]; omega
      refine wpIn_mono (hbody M pre x a' _ hM2 hm2 (hAx _ _ _ _ _ _ hM2 hax hg2) hpost) ?_
      rintro e a3 W3 hp
      cases e with
      | normal =>
        obtain ⟨hk3, hi3⟩ := hp
        have hl3 : W3.heap[w.heap.size + 1]? = some (.loop { rec .ready none with state := .busy }) := (hk3.same _ (by omega) (by omega)).trans hl2
        have hk4 : W3.heap[w.heap.size]? = some (.deferred (some [])) := (hk3.same _ (by omega) (by omega)).trans hk2
        have hr := run_endRound (P := P) none hl3
        have hg3 := grownBy_putObj' W3 (w.heap.size + 1) (.loop (rec .ready none))
        refine ⟨_, _, hr, rfl, ?_, ?_⟩
        · rw [hrec] at hg3 ⊢
          exact ⟨hI _ _ _ _ hM2 hi3 hg3, hM2, World.putObj_heap_same (Array.getElem?_eq_some_iff.1 hl3).1, (World.putObj_heap_other (by omega)).trans hk4⟩
        · exact (((hkA.toL _).trans (KeptL.putObj _ _ _ _ _)).trans (hk3.toL _)).trans (KeptL.putObj _ _ _ _ _)
      | ret => exact hp.elim
      | exit id => exact hp.elim
      | goto t => exact hp.elim
      | panic ch => exact hp.elim
      | outgrown => exact hp.elim
    · intro A hA
      have hbA : Below w.heap.size w A := hb1.trans (hA.mono hb1.size)
      exact ⟨h0 A hbA (by have := hA.size; omega), by have := hA.size; omega, (hA.block _ (by omega)).trans hL1, (hA.block _ (by omega)).trans hK1⟩
    · rintro e W2 ⟨⟨u, rfl⟩, M, hM, hi, hM2, hl, hk⟩
      refine ⟨none, _, by have := run_endLoop (P := P) hl (by rw [hrec]; simp); rw [hrec] at this; exact this, hdone M _ hM2 (hI _ _ _ _ hM2 hi (grownBy_putObj' _ _ _)) ((World.putObj_heap_other (by omega)).trans hk)⟩
end
end Go.Proofs.Ytakooljbkjnilaa
