/- A loop over kind.all, for every body that leaves the loop's two records alone. -/
import Derived.Test.YthjfigaalknoiaaKIter
set_option linter.unusedVariables false
set_option linter.unusedSimpArgs false
namespace Go.Proofs.Ythjfigaalknoiaa
open Go.RowKit Go.Proofs.YthjfigaalknoiaaW.PrintWords

/-- How a round may be left. -/
def allPost (I : Nat → World → Prop) (Ix : World → Prop) (N k : Nat) (W : World) : Exit → Act → World → Prop
  | .normal, _, W' => W'.heap[N]? = W.heap[N]? ∧ W'.heap[N + 1]? = W.heap[N + 1]? ∧ I k W'
  | .ret, _, W' => W'.heap[N]? = W.heap[N]? ∧ W'.heap[N + 1]? = W.heap[N + 1]? ∧ Ix W'
  | .exit _, _, _ => False
  | .goto _, _, _ => False
  | .panic _, _, _ => False
  | .outgrown, _, _ => False

theorem wpIn_all {g : Operand} {t0 t1 : Tmp} {assign body : Code} {Q : Exit → Act → World → Prop} {a : Act} {w : World} {n : Nat}
    (hg : a.eval g = .func (.func 101) #[] #[])
    (I : Nat → World → Prop) (Ix : World → Prop) (Ia : Nat → Act → World → Prop)
    (hI1 : ∀ k W W', I k W → Below W.heap.size W W' → I k W')
    (hI2 : ∀ k W b o, b = w.heap.size ∨ b = w.heap.size + 1 → I k W → I k (W.putObj b o)) (hIx2 : ∀ W b o, b = w.heap.size ∨ b = w.heap.size + 1 → Ix W → Ix (W.putObj b o))
    (hIa2 : ∀ k a1 W b o, b = w.heap.size ∨ b = w.heap.size + 1 → Ia k a1 W → Ia k a1 (W.putObj b o))
    (h0 : ∀ o o', I 0 ((w.alloc o).alloc o'))
    (hassign : ∀ (l k : Nat) (W : World) (K : Act → World → Prop), I k W → w.heap.size + 1 < W.heap.size → k < 10 → (∀ a1 W1, Below W.heap.size W W1 → Ia k a1 W1 → K a1 W1) →
      assign.wpIn (Fence.wide.inRound l) (n - 1 - 1) Try.prog (Exit.then K (fun _ _ _ => False)) { tmps := (a.tmps.setIfInBounds t0 (.int .i64 ((k : Int) + 1))).setIfInBounds t1 (.agg (krow k)), defers := [] } W)
    (hbody : ∀ (l k : Nat) (a1 : Act) (W : World), k < 10 → Ia k a1 W → (∃ ds, W.heap[w.heap.size]? = some (.deferred ds)) → (∃ rec, W.heap[w.heap.size + 1]? = some (.loop rec)) → body.wpIn (Fence.wide.inRound l) (n - 1 - 1) Try.prog (allPost I Ix w.heap.size (k + 1) W) a1 W)
    (hdone : ∀ (W : World), I 10 W → W.heap[w.heap.size]? = some (.deferred (some [])) → Q .normal { a with defers := { target := .collected w.heap.size, args := #[] } :: a.defers } W)
    (hstop : ∀ (W : World), Ix W → W.heap[w.heap.size]? = some (.deferred (some [])) → Code.ret.wpIn Fence.wide n Try.prog Q { a with defers := { target := .collected w.heap.size, args := #[] } :: a.defers } W) :
    (Code.rangeFunc g #[t0, t1] assign body).wpIn Fence.wide n Try.prog Q a w := by
  refine wpIn_rangeFunc ?_
  intro fn hfn
  show ∃ (l : Nat) (mark : List Deferred) (w₁ : World) (d : Deferred) (w₁' : World) (f : FuncId) (args : Array Value) (w₂ : World), (Instr.enterLoop fn a.tmps #[t0, t1] assign body none).run Try.prog w = .ok (l, mark) w₁ ∧ _
  obtain ⟨rec, hrec⟩ : ∃ rec : LoopState → Option Code → Loop, rec = fun st pe => { state := st, pending := pe, fn, tmps := a.tmps, params := #[t0, t1], assign, body, defers := w.heap.size } := ⟨_, rfl⟩
  obtain ⟨W1, hW1⟩ : ∃ W1, (w.alloc (.deferred (some []))).alloc (.loop (rec .ready none)) = W1 := ⟨_, rfl⟩
  have hL1 : W1.heap[w.heap.size + 1]? = some (.loop (rec .ready none)) := by
    rw [← hW1]; have := World.alloc_heap_new (w.alloc (.deferred (some []))) (.loop (rec .ready none)); rwa [World.size_alloc] at this
  have hK1 : W1.heap[w.heap.size]? = some (.deferred (some [])) := by
    rw [← hW1]; exact (Below.heap_alloc _ _ _ (by simp)).trans (World.alloc_heap_new w _)
  have hI1' : I 0 W1 := by rw [← hW1]; exact h0 _ _
  refine ⟨w.heap.size + 1, [{ target := .collected w.heap.size, args := #[] }], W1, { target := .fn (.func 101) #[], args := #[.func (.yield (w.heap.size + 1)) #[] #[]] }, W1, 101,
    #[.func (.yield (w.heap.size + 1)) #[] #[]], W1, ?_, ?_, ?_, ?_, fun h => by simp [Fence.wide] at h, ?_⟩
  · rw [← hW1, hrec]; exact run_enterLoop_outer _ _ _ _ _
  · simp only [resolve, hg]
    simp [go_sem]
  · intro f' hf'; trivial
  · simp [invoke, go_sem]
  · refine (all1_in (n - 1) (w.heap.size + 1)
      (fun k W => I k W ∧ W.heap[w.heap.size + 1]? = some (.loop (rec .ready none)) ∧ W.heap[w.heap.size]? = some (.deferred (some [])))
      (fun W => Ix W ∧ W.heap[w.heap.size + 1]? = some (.loop (rec .done (some .ret))) ∧ W.heap[w.heap.size]? = some (.deferred (some [])))
      ?_ ?_ W1 ⟨hI1', hL1, hK1⟩).mono ?_
    · rintro k W W' ⟨hi, hl, hk⟩ hb
      exact ⟨hI1 k W W' hi hb, (hb.block _ (Array.getElem?_eq_some_iff.1 hl).1).trans hl, (hb.block _ (Array.getElem?_eq_some_iff.1 hk).1).trans hk⟩
    · -- ONE ROUND
      rintro k W ⟨hi, hl, hk⟩ hlt
      have hltl : w.heap.size + 1 < W.heap.size := (Array.getElem?_eq_some_iff.1 hl).1
      have hy := run_yield (P := Try.prog) (args := #[.int .i64 ((k : Int) + 1), .agg (krow k)]) hl (by rw [hrec]; rfl)
      rw [hrec] at hy
      refine ⟨fn, (a.tmps.setIfInBounds t0 (.int .i64 ((k : Int) + 1))).setIfInBounds t1 (.agg (krow k)), assign, body, by simpa using hy, ?_⟩
      refine roundIn_of_wpIn hfn ?_
      refine hassign _ k W _ hi hltl hlt ?_
      intro a1 W1' hb1 hia
      have hl' := (hb1.block _ hltl).trans hl
      have hk' := (hb1.block _ (by omega)).trans hk
      have hlt' : w.heap.size + 1 < W1'.heap.size := (Array.getElem?_eq_some_iff.1 hl').1
      refine ⟨_, run_beginRound hl' (by rw [hrec]), ?_⟩
      have hl2 : (W1'.putObj (w.heap.size + 1) (.loop { rec .ready none with state := .busy })).heap[w.heap.size + 1]? = some (.loop { rec .ready none with state := .busy }) := World.putObj_heap_same hlt'
      have hk2 : (W1'.putObj (w.heap.size + 1) (.loop { rec .ready none with state := .busy })).heap[w.heap.size]? = some (.deferred (some [])) := (World.putObj_heap_other (by omega)).trans hk'
      have hsz2 : (W1'.putObj (w.heap.size + 1) (.loop { rec .ready none with state := .busy })).heap.size = W1'.heap.size := World.putObj_size
      refine wpIn_mono (hbody _ k a1 _ hlt (hIa2 k a1 W1' _ _ (.inr rfl) hia) ⟨_, hk2⟩ ⟨_, hl2⟩) ?_
      rintro e a3 W3 hp
      cases e with
      | normal =>
        obtain ⟨hs0, hs1, hi3⟩ := hp
        have hl3 := hs1.trans hl2
        have hk3 := hs0.trans hk2
        have hr := run_endRound (P := Try.prog) none hl3
        refine ⟨_, _, hr, .inl ⟨rfl, ⟨hI2 _ _ _ _ (.inr rfl) hi3, ?_, (World.putObj_heap_other (by omega)).trans hk3⟩⟩⟩
        rw [World.putObj_heap_same (Array.getElem?_eq_some_iff.1 hl3).1, hrec]; rfl
      | ret =>
        obtain ⟨hs0, hs1, hi3⟩ := hp
        have hl3 := hs1.trans hl2
        have hk3 := hs0.trans hk2
        have hr := run_endRound (P := Try.prog) (some .ret) hl3
        refine ⟨_, _, hr, .inr ⟨rfl, hIx2 _ _ _ (.inr rfl) hi3, ?_, (World.putObj_heap_other (by omega)).trans hk3⟩⟩
        rw [World.putObj_heap_same (Array.getElem?_eq_some_iff.1 hl3).1, hrec]; rfl
      | exit id => exact hp.elim
      | goto t => exact hp.elim
      | panic ch => exact hp.elim
      | outgrown => exact hp.elim
    · -- BEHIND THE ITERATOR
      rintro e W2 ⟨⟨v, rfl⟩, (⟨hi, hl, hk⟩ | ⟨hi, hl, hk⟩)⟩
      · refine ⟨none, _, run_endLoop (P := Try.prog) hl (by rw [hrec]; simp) |>.trans (by rw [hrec]), ?_⟩
        exact hdone _ (hI2 _ _ _ _ (.inr rfl) hi) ((World.putObj_heap_other (by omega)).trans hk)
      · refine ⟨some .ret, _, run_endLoop (P := Try.prog) hl (by rw [hrec]; simp) |>.trans (by rw [hrec]), ?_⟩
        exact hstop _ (hIx2 _ _ _ (.inr rfl) hi) ((World.putObj_heap_other (by omega)).trans hk)
end Go.Proofs.Ythjfigaalknoiaa
