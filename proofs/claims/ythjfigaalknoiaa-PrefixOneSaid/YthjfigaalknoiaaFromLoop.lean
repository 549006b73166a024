/- A loop over prefix.from, for every body that leaves the iterator's place and the loop's record alone. -/
import Derived.Test.YthjfigaalknoiaaFrom
set_option linter.unusedVariables false
set_option linter.unusedSimpArgs false
namespace Go.Proofs.Ythjfigaalknoiaa
open Go.RowKit Go.Proofs.YthjfigaalknoiaaW.PrintWords

/-- How a round may be left. -/
def fromPost (I : Nat → World → Prop) (Ix : Code → World → Prop) (ba N k : Nat) (W : World) : Exit → Act → World → Prop
  | .normal, _, W' => (∀ b, b < W.heap.size → b = ba ∨ N ≤ b → W'.heap[b]? = W.heap[b]?) ∧ I k W'
  | .ret, _, W' => (∀ b, b < W.heap.size → b = ba ∨ N ≤ b → W'.heap[b]? = W.heap[b]?) ∧ Ix .ret W'
  | .exit _, _, _ => False
  | .goto _, _, _ => False
  | .panic _, _, _ => False
  | .outgrown, _, _ => False

theorem wpIn_from {g : Operand} {t0 : Tmp} {assign body : Code} {Q : Exit → Act → World → Prop} {a : Act} {w : World} {n bb ba nn cc at0 : Nat} {A : Option Addr} {bs : List Int}
    (hg : a.eval g = .func (.func 98) #[] #[.pointer (some ⟨bb, 0, none⟩), .pointer (some ⟨ba, 0, none⟩)])
    (hba : ba < w.heap.size) (hat : at0 < 9223372036854775808) (hc : w.cell? ⟨ba, 0, none⟩ = some (.int .i64 (at0 : Int)))
    (I : Nat → World → Prop) (Ix : Code → World → Prop)
    (hI1 : ∀ k W v, I k W → I k (W.setCell ⟨ba, 0, none⟩ v)) (hI2 : ∀ k W b o, w.heap.size ≤ b → I k W → I k (W.putObj b o)) (hIx2 : ∀ c W b o, w.heap.size ≤ b → Ix c W → Ix c (W.putObj b o))
    (hIf : ∀ k W, I k W → Bytes W A nn bs ∧ W.cell? ⟨bb, 0, none⟩ = some (.slice A nn cc) ∧ W.frozen? ⟨ba, 0, none⟩ = false)
    (h0 : ∀ o o', I 0 ((w.alloc o).alloc o')) (a₁ : Int → Act)
    (hassign : ∀ (l : Nat) (x : Int) (W : World) (K : Act → World → Prop), K (a₁ x) W →
      assign.wpIn (Fence.wide.inRound l) (n - 1 - 1) Try.prog (Exit.then K (fun _ _ _ => False)) { tmps := a.tmps.setIfInBounds t0 (.int .i64 x), defers := [] } W)
    (hbody : ∀ (l k : Nat) (W : World), I k W → at0 + k < 8 * nn → body.wpIn (Fence.wide.inRound l) (n - 1 - 1) Try.prog (fromPost I Ix ba w.heap.size (k + 1) W) (a₁ (bitInt bs (at0 + k))) W)
    (hdone : ∀ (k : Nat) (W : World), 8 * nn ≤ at0 + k → k ≤ 8 * nn - at0 → I k W → W.heap[w.heap.size]? = some (.deferred (some [])) → Q .normal { a with defers := { target := .collected w.heap.size, args := #[] } :: a.defers } W)
    (hstop : ∀ (c : Code) (W : World), Ix c W → W.heap[w.heap.size]? = some (.deferred (some [])) → c.wpIn Fence.wide n Try.prog Q { a with defers := { target := .collected w.heap.size, args := #[] } :: a.defers } W) :
    (Code.rangeFunc g #[t0] assign body).wpIn Fence.wide n Try.prog Q a w := by
  refine wpIn_rangeFunc ?_
  intro fn hfn
  show ∃ (l : Nat) (mark : List Deferred) (w₁ : World) (d : Deferred) (w₁' : World) (f : FuncId) (args : Array Value) (w₂ : World), (Instr.enterLoop fn a.tmps #[t0] assign body none).run Try.prog w = .ok (l, mark) w₁ ∧ _
  obtain ⟨rec, hrec⟩ : ∃ rec : LoopState → Option Code → Loop, rec = fun st pe => { state := st, pending := pe, fn, tmps := a.tmps, params := #[t0], assign, body, defers := w.heap.size } := ⟨_, rfl⟩
  obtain ⟨W1, hW1⟩ : ∃ W1, (w.alloc (.deferred (some []))).alloc (.loop (rec .ready none)) = W1 := ⟨_, rfl⟩
  have hL1 : W1.heap[w.heap.size + 1]? = some (.loop (rec .ready none)) := by
    rw [← hW1]; have := World.alloc_heap_new (w.alloc (.deferred (some []))) (.loop (rec .ready none)); rwa [World.size_alloc] at this
  have hK1 : W1.heap[w.heap.size]? = some (.deferred (some [])) := by
    rw [← hW1]; exact (Below.heap_alloc _ _ _ (by simp)).trans (World.alloc_heap_new w _)
  have hI1' : I 0 W1 := by rw [← hW1]; exact h0 _ _
  have hc1 : W1.cell? ⟨ba, 0, none⟩ = some (.int .i64 (at0 : Int)) := by
    rw [← hW1]
    exact (World.cell?_of_block ((Below.heap_alloc _ _ _ (by simp; omega)).trans (Below.heap_alloc _ _ _ hba))).trans hc
  refine ⟨w.heap.size + 1, [{ target := .collected w.heap.size, args := #[] }], W1, { target := .fn (.func 98) #[.pointer (some ⟨bb, 0, none⟩), .pointer (some ⟨ba, 0, none⟩)], args := #[.func (.yield (w.heap.size + 1)) #[] #[]] }, W1, 98,
    #[.func (.yield (w.heap.size + 1)) #[] #[], .pointer (some ⟨bb, 0, none⟩), .pointer (some ⟨ba, 0, none⟩)], W1, ?_, ?_, ?_, ?_, fun h => by simp [Fence.wide] at h, ?_⟩
  · rw [← hW1, hrec]; exact run_enterLoop_outer _ _ _ _ _
  · simp only [resolve, hg]
    simp [go_sem]
  · intro f' hf'; trivial
  · simp [invoke, go_sem]
  · refine (from1_in (n - 1) (w.heap.size + 1) bb ba nn cc at0 A bs
      (fun k W => I k W ∧ W.heap[w.heap.size + 1]? = some (.loop (rec .ready none)) ∧ W.heap[w.heap.size]? = some (.deferred (some [])))
      (fun W => Ix .ret W ∧ W.heap[w.heap.size + 1]? = some (.loop (rec .done (some .ret))) ∧ W.heap[w.heap.size]? = some (.deferred (some [])))
      hat ?_ ?_ ?_ W1 ⟨hI1', hL1, hK1⟩ hc1).mono ?_
    · rintro k W v ⟨hi, hl, hk⟩
      exact ⟨hI1 k W v hi, (Below.heap_setCell W ⟨ba, 0, none⟩ v _ (by show w.heap.size + 1 ≠ ba; omega)).trans hl, (Below.heap_setCell W ⟨ba, 0, none⟩ v _ (by show w.heap.size ≠ ba; omega)).trans hk⟩
    · rintro k W ⟨hi, _, _⟩
      exact hIf k W hi
    · -- ONE ROUND
      rintro k W ⟨hi, hl, hk⟩ hca hlt
      have hltl : w.heap.size + 1 < W.heap.size := (Array.getElem?_eq_some_iff.1 hl).1
      have hy := run_yield (P := Try.prog) (args := #[.int .i64 (bitInt bs (at0 + k))]) hl (by rw [hrec]; rfl)
      rw [hrec] at hy
      refine ⟨fn, a.tmps.setIfInBounds t0 (.int .i64 (bitInt bs (at0 + k))), assign, body, by simpa using hy, ?_⟩
      refine roundIn_of_wpIn hfn ?_
      refine hassign _ (bitInt bs (at0 + k)) W _ ?_
      refine ⟨_, run_beginRound hl (by rw [hrec]), ?_⟩
      have hl2 : (W.putObj (w.heap.size + 1) (.loop { rec .ready none with state := .busy })).heap[w.heap.size + 1]? = some (.loop { rec .ready none with state := .busy }) := World.putObj_heap_same hltl
      have hk2 : (W.putObj (w.heap.size + 1) (.loop { rec .ready none with state := .busy })).heap[w.heap.size]? = some (.deferred (some [])) := (World.putObj_heap_other (by omega)).trans hk
      have hsz2 : (W.putObj (w.heap.size + 1) (.loop { rec .ready none with state := .busy })).heap.size = W.heap.size := World.putObj_size
      refine wpIn_mono (hbody _ k _ (hI2 k W _ _ (by omega) hi) hlt) ?_
      rintro e a3 W3 hp
      cases e with
      | normal =>
        obtain ⟨hs, hi3⟩ := hp
        have hl3 := (hs (w.heap.size + 1) (by rw [hsz2]; exact hltl) (.inr (by omega))).trans hl2
        have hk3 := (hs w.heap.size (by rw [hsz2]; omega) (.inr (Nat.le_refl _))).trans hk2
        have hr := run_endRound (P := Try.prog) none hl3
        have hb3 : W3.heap[ba]? = W.heap[ba]? := (hs ba (by rw [hsz2]; omega) (.inl rfl)).trans (World.putObj_heap_other (by omega))
        refine ⟨_, _, hr, .inl ⟨rfl, ⟨hI2 _ _ _ _ (by omega) hi3, ?_, (World.putObj_heap_other (by omega)).trans hk3⟩, ?_⟩⟩
        · rw [World.putObj_heap_same (Array.getElem?_eq_some_iff.1 hl3).1, hrec]; rfl
        · exact (World.cell?_of_block (World.putObj_heap_other (k := ba) (by omega))).trans ((World.cell?_of_block hb3).trans hca)
      | ret =>
        obtain ⟨hs, hi3⟩ := hp
        have hl3 := (hs (w.heap.size + 1) (by rw [hsz2]; exact hltl) (.inr (by omega))).trans hl2
        have hk3 := (hs w.heap.size (by rw [hsz2]; omega) (.inr (Nat.le_refl _))).trans hk2
        have hr := run_endRound (P := Try.prog) (some .ret) hl3
        refine ⟨_, _, hr, .inr ⟨rfl, hIx2 _ _ _ _ (by omega) hi3, ?_, (World.putObj_heap_other (by omega)).trans hk3⟩⟩
        rw [World.putObj_heap_same (Array.getElem?_eq_some_iff.1 hl3).1, hrec]; rfl
      | exit id => exact hp.elim
      | goto t => exact hp.elim
      | panic ch => exact hp.elim
      | outgrown => exact hp.elim
    · -- BEHIND THE ITERATOR
      rintro e W2 ⟨⟨v, rfl⟩, (⟨k, hk1, hk2, hi, hl, hk⟩ | ⟨hi, hl, hk⟩)⟩
      · refine ⟨none, _, run_endLoop (P := Try.prog) hl (by rw [hrec]; simp) |>.trans (by rw [hrec]), ?_⟩
        exact hdone k _ hk1 hk2 (hI2 _ _ _ _ (by omega) hi) ((World.putObj_heap_other (by omega)).trans hk)
      · refine ⟨some .ret, _, run_endLoop (P := Try.prog) hl (by rw [hrec]; simp) |>.trans (by rw [hrec]), ?_⟩
        exact hstop .ret _ (hIx2 _ _ _ _ (by omega) hi) ((World.putObj_heap_other (by omega)).trans hk)
end Go.Proofs.Ythjfigaalknoiaa
