/- kind.table and kind.all: the ten rows, handed on one by one. -/
import Derived.Test.YthjfigaalknoiaaKRef
import Derived.Deep.MidRow
set_option linter.unusedVariables false
set_option linter.unusedSimpArgs false
namespace Go.Proofs.Ythjfigaalknoiaa
open Go.RowKit Go.Proofs.YthjfigaalknoiaaW.PrintWords Pt

def ktab : Array Value := #[.string ⟨#[48, 48, 48, 49]⟩, .bool true, .bool false, .bool false, .bool false, .bool false, .string ⟨#[48, 48, 48, 48, 48, 48, 49]⟩, .bool true, .bool true, .bool false, .bool false, .bool false, .string ⟨#[49]⟩, .bool false, .bool false, .bool false, .bool false, .bool true, .string ⟨#[48, 48, 48, 48, 49]⟩, .bool false, .bool true, .bool false, .bool false, .bool true, .string ⟨#[48, 48, 48, 48, 48, 48, 48, 48, 49]⟩, .bool false, .bool false, .bool true, .bool false, .bool false, .string ⟨#[48, 48, 48, 48, 48, 48, 48, 49]⟩, .bool false, .bool false, .bool true, .bool false, .bool true, .string ⟨#[48, 48, 48, 48, 48, 48, 48, 48, 48, 49]⟩, .bool false, .bool true, .bool true, .bool false, .bool true, .string ⟨#[48, 48, 49]⟩, .bool false, .bool false, .bool true, .bool true, .bool false, .string ⟨#[48, 49]⟩, .bool false, .bool false, .bool true, .bool true, .bool true, .string ⟨#[48, 48, 48, 48, 48, 49]⟩, .bool false, .bool true, .bool true, .bool true, .bool true]
/-- The rows' cells. -/
def krows : List (Array Value) := [#[.string ⟨#[48, 48, 48, 49]⟩, .bool true, .bool false, .bool false, .bool false, .bool false],
  #[.string ⟨#[48, 48, 48, 48, 48, 48, 49]⟩, .bool true, .bool true, .bool false, .bool false, .bool false],
  #[.string ⟨#[49]⟩, .bool false, .bool false, .bool false, .bool false, .bool true],
  #[.string ⟨#[48, 48, 48, 48, 49]⟩, .bool false, .bool true, .bool false, .bool false, .bool true],
  #[.string ⟨#[48, 48, 48, 48, 48, 48, 48, 48, 49]⟩, .bool false, .bool false, .bool true, .bool false, .bool false],
  #[.string ⟨#[48, 48, 48, 48, 48, 48, 48, 49]⟩, .bool false, .bool false, .bool true, .bool false, .bool true],
  #[.string ⟨#[48, 48, 48, 48, 48, 48, 48, 48, 48, 49]⟩, .bool false, .bool true, .bool true, .bool false, .bool true],
  #[.string ⟨#[48, 48, 49]⟩, .bool false, .bool false, .bool true, .bool true, .bool false],
  #[.string ⟨#[48, 49]⟩, .bool false, .bool false, .bool true, .bool true, .bool true],
  #[.string ⟨#[48, 48, 48, 48, 48, 49]⟩, .bool false, .bool true, .bool true, .bool true, .bool true]]
def krow (k : Nat) : Array Value := krows.getD k #[]


theorem below_cells {B g : Nat} (h : B ≤ g) : ∀ (vs : List Value) (o : Nat) (a w : World), Below B a w → Below B a (w.setCells g o vs)
  | [], _, _, _, hb => hb
  | v :: vs, o, a, w, hb => below_cells h vs (o + 1) a _ (hb.setCell (p := ⟨g, o, none⟩) h v)
theorem build121 (w : World) : (Instr.build 121 #[(0, .agg #[.string ⟨#[48, 48, 48, 49]⟩, .bool true, .bool false, .bool false, .bool false, .bool false]), (1, .agg #[.string ⟨#[48, 48, 48, 48, 48, 48, 49]⟩, .bool true, .bool true, .bool false, .bool false, .bool false]), (2, .agg #[.string ⟨#[49]⟩, .bool false, .bool false, .bool false, .bool false, .bool true]), (3, .agg #[.string ⟨#[48, 48, 48, 48, 49]⟩, .bool false, .bool true, .bool false, .bool false, .bool true]), (4, .agg #[.string ⟨#[48, 48, 48, 48, 48, 48, 48, 48, 49]⟩, .bool false, .bool false, .bool true, .bool false, .bool false]), (5, .agg #[.string ⟨#[48, 48, 48, 48, 48, 48, 48, 49]⟩, .bool false, .bool false, .bool true, .bool false, .bool true]), (6, .agg #[.string ⟨#[48, 48, 48, 48, 48, 48, 48, 48, 48, 49]⟩, .bool false, .bool true, .bool true, .bool false, .bool true]), (7, .agg #[.string ⟨#[48, 48, 49]⟩, .bool false, .bool false, .bool true, .bool true, .bool false]), (8, .agg #[.string ⟨#[48, 49]⟩, .bool false, .bool false, .bool true, .bool true, .bool true]), (9, .agg #[.string ⟨#[48, 48, 48, 48, 48, 49]⟩, .bool false, .bool true, .bool true, .bool true, .bool true])]).run Try.prog w = .ok (.agg #[.string ⟨#[48, 48, 48, 49]⟩, .bool true, .bool false, .bool false, .bool false, .bool false, .string ⟨#[48, 48, 48, 48, 48, 48, 49]⟩, .bool true, .bool true, .bool false, .bool false, .bool false, .string ⟨#[49]⟩, .bool false, .bool false, .bool false, .bool false, .bool true, .string ⟨#[48, 48, 48, 48, 49]⟩, .bool false, .bool true, .bool false, .bool false, .bool true, .string ⟨#[48, 48, 48, 48, 48, 48, 48, 48, 49]⟩, .bool false, .bool false, .bool true, .bool false, .bool false, .string ⟨#[48, 48, 48, 48, 48, 48, 48, 49]⟩, .bool false, .bool false, .bool true, .bool false, .bool true, .string ⟨#[48, 48, 48, 48, 48, 48, 48, 48, 48, 49]⟩, .bool false, .bool true, .bool true, .bool false, .bool true, .string ⟨#[48, 48, 49]⟩, .bool false, .bool false, .bool true, .bool true, .bool false, .string ⟨#[48, 49]⟩, .bool false, .bool false, .bool true, .bool true, .bool true, .string ⟨#[48, 48, 48, 48, 48, 49]⟩, .bool false, .bool true, .bool true, .bool true, .bool true]) w := by kernel_rfl
set_option maxRecDepth 100000 in
set_option maxHeartbeats 800000 in
theorem table102 (w : World) : Calls Try.prog 102 #[] w fun e w' => e = .returned (.agg ktab) ∧ Below w.heap.size w w' := by
  have hb := build121 w
  go_enter Try.func102, Try.ntmps102
  iterate 74 go_step
  refine wpList_store_mid rfl 121 _ _ rfl w.heap.size 0 ktab rfl rfl ?_ ?_ ?_ ?_
  · intro j hj
    rw [Nat.zero_add]
    have hj' : j < 60 := hj
    refine ⟨?_, free_of_heap (at_alloc _ _ rfl) _⟩
    rw [cell_of_heap (at_alloc _ _ rfl), Array.getElem?_eq_getElem (by simp; omega)]
    rfl
  · kernel_rfl
  · kernel_rfl
  · have hr : ∀ (T : Array Value) (W : World), T.getD 0 undef = .pointer (some ⟨w.heap.size, 0, none⟩) → W.there w.heap.size 0 ktab.toList.length → (results Try.f102 T).run Try.prog (W.setCells w.heap.size 0 ktab.toList) = .ok (.agg ktab) (W.setCells w.heap.size 0 ktab.toList) := by
      intro T W hT h
      have := run_loadVar_mid (P := Try.prog) _ w.heap.size 0 121 ktab.toList _ (World.rangeAt_setCells_same W _ _ _ h) Try.underlying121 rfl (by kernel_rfl)
      have ha : (asAddr (.pointer (some ⟨w.heap.size, 0, none⟩))).run Try.prog (W.setCells w.heap.size 0 ktab.toList) = .ok ⟨w.heap.size, 0, none⟩ (W.setCells w.heap.size 0 ktab.toList) := by simp [asAddr]
      have hT' : T[0]?.getD undef = .pointer (some ⟨w.heap.size, 0, none⟩) := by simpa using hT
      simp [results, Try.results102, hT', ha, this]
    iterate 4 go_step
    refine bodyPost_ret (hr _ _ rfl ?_) rfl ⟨rfl, below_cells (Nat.le_refl _) _ _ _ _ (below_alloc (Below.refl _ _) _)⟩
    intro j hj
    rw [Nat.zero_add]
    have hj' : j < 60 := hj
    refine ⟨?_, free_of_heap (at_alloc _ _ rfl) _⟩
    rw [cell_of_heap (at_alloc _ _ rfl), Array.getElem?_eq_getElem (by simp; omega)]
    rfl
end Go.Proofs.Ythjfigaalknoiaa
