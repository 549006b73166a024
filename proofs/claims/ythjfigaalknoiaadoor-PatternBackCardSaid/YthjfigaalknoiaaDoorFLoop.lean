/- A loop over strings.FieldsSeq, for every body that leaves the loop's two records and the text's box alone. -/
import Derived.Test.YthjfigaalknoiaaDoorFields
set_option linter.unusedVariables false
set_option linter.unusedSimpArgs false
namespace Go.Proofs.YthjfigaalknoiaaDoor
open Go.RowKit Go.Proofs.YthjfigaalknoiaaDoorW.PrintWords

/-- How a round may be left. -/
def fldPost (I : Nat → World → Prop) (Ix : World → Prop) (N k : Nat) (W : World) : Exit → Act → World → Prop
  | .normal, _, W' => W'.heap[N]? = W.heap[N]? ∧ W'.heap[N + 1]? = W.heap[N + 1]? ∧ I k W'
  | .ret, _, W' => W'.heap[N]? = W.heap[N]? ∧ W'.heap[N + 1]? = W.heap[N + 1]? ∧ Ix W'
  | .exit _, _, _ => False
  | .goto _, _, _ => False
  | .panic _, _, _ => False
  | .outgrown, _, _ => False

theorem wpIn_fields {g : Operand} {t0 : Tmp} {assign body : Code} {Q : Exit → Act → World → Prop} {a : Act} {w : World} {n bx : Nat} {s : ByteArray} {fs : List (List UInt8)}
    (hg : a.eval g = .func (.func 46) #[] #[.pointer (some ⟨bx, 0, none⟩)]) (hfs : fieldsFrom [] s.data.toList = fs) (hs : s.size ≤ 100000) (hasc : ∀ b ∈ s.data.toList, b.toNat < 128)
    (I : Nat → World → Prop) (Ix : World → Prop) (Ia : Nat → Act → World → Prop)
    (hIf : ∀ k W, I k W → W.cell? ⟨bx, 0, none⟩ = some (.string s) ∧ Spaces W)
    (hI2 : ∀ k W b o, b = w.heap.size ∨ b = w.heap.size + 1 → I k W → I k (W.putObj b o)) (hIx2 : ∀ W b o, b = w.heap.size ∨ b = w.heap.size + 1 → Ix W → Ix (W.putObj b o))
    (hIa2 : ∀ k a1 W b o, b = w.heap.size ∨ b = w.heap.size + 1 → Ia k a1 W → Ia k a1 (W.putObj b o))
    (h0 : ∀ o o', I 0 ((w.alloc o).alloc o'))
    (hassign : ∀ (l k : Nat) (f : List UInt8) (W : World) (K : Act → World → Prop), I k W → fs[k]? = some f → (∀ a1, Ia k a1 W → K a1 W) →
      assign.wpIn (Fence.wide.inRound l) (n - 1 - 1) Tryd.prog (Exit.then K (fun _ _ _ => False)) { tmps := a.tmps.setIfInBounds t0 (.string ⟨f.toArray⟩), defers := [] } W)
    (hbody : ∀ (l k : Nat) (a1 : Act) (W : World), k < fs.length → Ia k a1 W → (∃ ds, W.heap[w.heap.size]? = some (.deferred ds)) → (∃ rec, W.heap[w.heap.size + 1]? = some (.loop rec)) → body.wpIn (Fence.wide.inRound l) (n - 1 - 1) Tryd.prog (fldPost I Ix w.heap.size (k + 1) W) a1 W)
    (hdone : ∀ (W : World), I fs.length W → W.heap[w.heap.size]? = some (.deferred (some [])) → Q .normal { a with defers := { target := .collected w.heap.size, args := #[] } :: a.defers } W)
    (hstop : ∀ (W : World), Ix W → W.heap[w.heap.size]? = some (.deferred (some [])) → Code.ret.wpIn Fence.wide n Tryd.prog Q { a with defers := { target := .collected w.heap.size, args := #[] } :: a.defers } W) :
    (Code.rangeFunc g #[t0] assign body).wpIn Fence.wide n Tryd.prog Q a w := by
  refine wpIn_rangeFunc ?_
  intro fn hfn
  show ∃ (l : Nat) (mark : List Deferred) (w₁ : World) (d : Deferred) (w₁' : World) (f : FuncId) (args : Array Value) (w₂ : World), (Instr.enterLoop fn a.tmps #[t0] assign body none).run Tryd.prog w = .ok (l, mark) w₁ ∧ _
  obtain ⟨rec, hrec⟩ : ∃ rec : LoopState → Option Code → Loop, rec = fun st pe => { state := st, pending := pe, fn, tmps := a.tmps, params := #[t0], assign, body, defers := w.heap.size } := ⟨_, rfl⟩
  obtain ⟨W1, hW1⟩ : ∃ W1, (w.alloc (.deferred (some []))).alloc (.loop (rec .ready none)) = W1 := ⟨_, rfl⟩
  have hL1 : W1.heap[w.heap.size + 1]? = some (.loop (rec .ready none)) := by
    rw [← hW1]; have := World.alloc_heap_new (w.alloc (.deferred (some []))) (.loop (rec .ready none)); rwa [World.size_alloc] at this
  have hK1 : W1.heap[w.heap.size]? = some (.deferred (some [])) := by
    rw [← hW1]; exact (Below.heap_alloc _ _ _ (by simp)).trans (World.alloc_heap_new w _)
  have hI1' : I 0 W1 := by rw [← hW1]; exact h0 _ _
  refine ⟨w.heap.size + 1, [{ target := .collected w.heap.size, args := #[] }], W1, { target := .fn (.func 46) #[.pointer (some ⟨bx, 0, none⟩)], args := #[.func (.yield (w.heap.size + 1)) #[] #[]] }, W1, 46,
    #[.func (.yield (w.heap.size + 1)) #[] #[], .pointer (some ⟨bx, 0, none⟩)], W1, ?_, ?_, ?_, ?_, fun h => by simp [Fence.wide] at h, ?_⟩
  · rw [← hW1, hrec]; exact run_enterLoop_outer _ _ _ _ _
  · simp only [resolve, hg]
    simp [go_sem]
  · intro f' hf'; trivial
  · simp [invoke, go_sem]
  · refine (fields_in (n - 1) (w.heap.size + 1) bx s
      (fun k W => I k W ∧ W.heap[w.heap.size + 1]? = some (.loop (rec .ready none)) ∧ W.heap[w.heap.size]? = some (.deferred (some [])))
      (fun W => Ix W ∧ W.heap[w.heap.size + 1]? = some (.loop (rec .done (some .ret))) ∧ W.heap[w.heap.size]? = some (.deferred (some [])))
      fs hfs hs hasc ?_ ?_ W1 ⟨hI1', hL1, hK1⟩).mono ?_
    · rintro k W ⟨hi, _, _⟩
      exact hIf k W hi
    · -- ONE ROUND
      rintro k W f ⟨hi, hl, hk⟩ hf
      have hltl : w.heap.size + 1 < W.heap.size := (Array.getElem?_eq_some_iff.1 hl).1
      have hy := run_yield (P := Tryd.prog) (args := #[.string ⟨f.toArray⟩]) hl (by rw [hrec]; rfl)
      rw [hrec] at hy
      refine ⟨fn, a.tmps.setIfInBounds t0 (.string ⟨f.toArray⟩), assign, body, by simpa using hy, ?_⟩
      refine roundIn_of_wpIn hfn ?_
      refine hassign _ k f W _ hi hf ?_
      intro a1 hia
      refine ⟨_, run_beginRound hl (by rw [hrec]), ?_⟩
      have hl2 : (W.putObj (w.heap.size + 1) (.loop { rec .ready none with state := .busy })).heap[w.heap.size + 1]? = some (.loop { rec .ready none with state := .busy }) := World.putObj_heap_same hltl
      have hk2 : (W.putObj (w.heap.size + 1) (.loop { rec .ready none with state := .busy })).heap[w.heap.size]? = some (.deferred (some [])) := (World.putObj_heap_other (by omega)).trans hk
      refine wpIn_mono (hbody _ k a1 _ (List.getElem?_eq_some_iff.1 hf).1 (hIa2 k a1 W _ _ (.inr rfl) hia) ⟨_, hk2⟩ ⟨_, hl2⟩) ?_
      rintro e a3 W3 hp
      cases e with
      | normal =>
        obtain ⟨hs0, hs1, hi3⟩ := hp
        have hl3 := hs1.trans hl2
        have hk3 := hs0.trans hk2
        have hr := run_endRound (P := Tryd.prog) none hl3
        refine ⟨_, _, hr, .inl ⟨rfl, ⟨hI2 _ _ _ _ (.inr rfl) hi3, ?_, (World.putObj_heap_other (by omega)).trans hk3⟩⟩⟩
        rw [World.putObj_heap_same (Array.getElem?_eq_some_iff.1 hl3).1, hrec]; rfl
      | ret =>
        obtain ⟨hs0, hs1, hi3⟩ := hp
        have hl3 := hs1.trans hl2
        have hk3 := hs0.trans hk2
        have hr := run_endRound (P := Tryd.prog) (some .ret) hl3
        refine ⟨_, _, hr, .inr ⟨rfl, hIx2 _ _ _ (.inr rfl) hi3, ?_, (World.putObj_heap_other (by omega)).trans hk3⟩⟩
        rw [World.putObj_heap_same (Array.getElem?_eq_some_iff.1 hl3).1, hrec]; rfl
      | exit id => exact hp.elim
      | goto t => exact hp.elim
      | panic ch => exact hp.elim
      | outgrown => exact hp.elim
    · -- BEHIND THE ITERATOR
      rintro e W2 ⟨⟨v, rfl⟩, (⟨hi, hl, hk⟩ | ⟨hi, hl, hk⟩)⟩
      · refine ⟨none, _, run_endLoop (P := Tryd.prog) hl (by rw [hrec]; simp) |>.trans (by rw [hrec]), ?_⟩
        exact hdone _ (hI2 _ _ _ _ (.inr rfl) hi) ((World.putObj_heap_other (by omega)).trans hk)
      · refine ⟨some .ret, _, run_endLoop (P := Tryd.prog) hl (by rw [hrec]; simp) |>.trans (by rw [hrec]), ?_⟩
        exact hstop _ (hIx2 _ _ _ (.inr rfl) hi) ((World.putObj_heap_other (by omega)).trans hk)
end Go.Proofs.YthjfigaalknoiaaDoor
