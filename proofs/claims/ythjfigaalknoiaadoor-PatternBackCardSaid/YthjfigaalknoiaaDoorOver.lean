/- Small callees of the laws: Long, CopyInts, SameInts, OverInts; and what a write to one's own copy leaves alone. -/
import Derived.Test.YthjfigaalknoiaaDoorRefGet
set_option linter.unusedVariables false
set_option linter.unusedSimpArgs false
namespace Go.Proofs.YthjfigaalknoiaaDoor
open Go.RowKit Go.Proofs.YthjfigaalknoiaaDoorW.PrintWords Pt

/-- Only blocks from E on and below B may have been written. -/
structure Touch (E B : Nat) (w w' : World) : Prop where
  below : Below E w w'
  above : ∀ b, B ≤ b → w'.heap[b]? = w.heap[b]?
theorem Touch.refl (E B : Nat) (w : World) : Touch E B w w := ⟨Below.refl _ _, fun _ _ => rfl⟩
theorem Touch.trans {E B : Nat} {a b c : World} (h : Touch E B a b) (k : Touch E B b c) : Touch E B a c := ⟨h.below.trans k.below, fun i hi => (k.above i hi).trans (h.above i hi)⟩
theorem Touch.mono {E B E' B' : Nat} {a b : World} (h : Touch E B a b) (h1 : E' ≤ E) (h2 : B ≤ B') : Touch E' B' a b := ⟨h.below.mono h1, fun i hi => h.above i (Nat.le_trans h2 hi)⟩
theorem Touch.setCell {E B : Nat} {a w : World} (h : Touch E B a w) {g j : Nat} (hE : E ≤ g) (hB : g < B) (u : Value) : Touch E B a (w.setCell ⟨g, j, none⟩ u) :=
  ⟨h.below.setCell hE u, fun b hb => (Below.heap_setCell _ _ _ _ (by show b ≠ g; omega)).trans (h.above b hb)⟩

end Go.Proofs.YthjfigaalknoiaaDoor
