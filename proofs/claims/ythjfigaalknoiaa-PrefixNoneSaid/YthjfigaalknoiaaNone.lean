/- praxinoscopelaw03.PrefixNone returns true: a tree that is nil, or that nobody made, has no codes; at all bytes, any numbers. -/
import Derived.Test.YthjfigaalknoiaaLaws3
set_option linter.unusedVariables false
set_option linter.unusedSimpArgs false
namespace Go.Proofs.Ythjfigaalknoiaa
open Go.RowKit Go.Proofs.YthjfigaalknoiaaW.PrintWords Pt

set_option maxRecDepth 100000 in
theorem nones_any (A : Option Addr) (n c : Nat) (i num : Int) (w : World) :
    Calls Try.prog 4 #[.slice A n c, .int .i64 i, .int .i64 num] w fun e w' => e = .returned (.bool true) ∧ Below w.heap.size w w' := by
  by_cases hn : 100 < n
  · have hn2 : (100 : Int) < (n : Int) := by omega
    go_enter Try.func4, Try.ntmps4
    go_wp2_with (go_at_call 19; refine (awake_any _).mono ?_; rintro e w' ⟨rfl, hb⟩; have HB := Lib.hid hb; clear hb)
    go_ret
    exact ⟨rfl, HB.out⟩
  · have hn2 : ¬ (100 : Int) < (n : Int) := by omega
    go_enter Try.func4, Try.ntmps4
    go_wp2
    obtain ⟨W1, hW1⟩ : ∃ W1, (w.alloc (.cells #[.slice none 0 0, .map none, .int .i64 0] 46)).alloc (.cells #[.pointer none, .pointer (some ⟨w.heap.size, 0, none⟩)] 28) = W1 := ⟨_, rfl⟩
    have hb1 : Below w.heap.size w W1 := by rw [← hW1]; exact below_alloc (below_alloc (Below.refl _ _) _) _
    have hz : W1.heap[w.heap.size]? = some (.cells #[.slice none 0 0, .map none, .int .i64 0] 46 (0, 0)) := by rw [← hW1]; exact at_old (at_alloc _ _ rfl)
    have hr : W1.heap[w.heap.size + 1]? = some (.cells #[.pointer none, .pointer (some ⟨w.heap.size, 0, none⟩)] 28 (0, 0)) := by rw [← hW1]; exact at_alloc _ _ (by simp)
    rw [hW1]
    have HB1 := Lib.hid hb1
    have Hz := Lib.hid (fun (W : World) (h : Below W1.heap.size W1 W) => (show W.cell? ⟨w.heap.size, 2, none⟩ = some (.int .i64 0) by rw [cell_of_heap ((h.block _ (Array.getElem?_eq_some_iff.1 hz).1).trans hz)]; rfl))
    have Hr0 := Lib.hid (fun (W : World) (h : Below W1.heap.size W1 W) => (show W.cell? ⟨w.heap.size + 1, 0, none⟩ = some (.pointer none) by rw [cell_of_heap ((h.block _ (Array.getElem?_eq_some_iff.1 hr).1).trans hr)]; rfl))
    have Hr1 := Lib.hid (fun (W : World) (h : Below W1.heap.size W1 W) => (show W.cell? ⟨w.heap.size + 1, 1, none⟩ = some (.pointer (some ⟨w.heap.size, 0, none⟩)) by rw [cell_of_heap ((h.block _ (Array.getElem?_eq_some_iff.1 hr).1).trans hr)]; rfl))
    clear hW1 hb1 hz hr
    go_loopw [8] (fun i wr => ∃ k : Nat, k ≤ 2 ∧ i = .int .i64 k ∧ Hid (Below W1.heap.size W1 wr)) (fun i _ => 2 - (intOf i).toNat)
    case atStart => exact ⟨0, by omega, rfl, Lib.hid (Below.refl _ _)⟩
    case round =>
      obtain ⟨k, hk, rfl, HB⟩ := hrel
      have h3 : k = 0 ∨ k = 1 ∨ k = 2 := by omega
      rcases h3 with rfl | rfl | rfl
      · have f0 := Hr0.out _ HB.out
        go_wp2_with fail
        refine (get_nil _ _ _ _ _).mono ?_
        rintro e w2 ⟨rfl, hb⟩
        have HB2 := Lib.hid (below_step HB.out hb)
        clear hb f0
        have f0 := Hr0.out _ HB2.out
        go_wp2_with fail
        refine (put_nil _ _).mono ?_
        rintro e w3 ⟨rfl, rfl⟩
        go_wp2_with fail
        refine (codes_nil _).mono ?_
        rintro e w3 ⟨rfl, rfl⟩
        go_wp2
        go_roundw
        case rel => exact ⟨1, by omega, rfl, HB2⟩
        case measure => simp [intOf]
      · have f1 := Hr1.out _ HB.out
        go_wp2_with fail
        refine (get_zero _ _ _ _ _ _ (Hz.out _ HB.out)).mono ?_
        rintro e w2 ⟨rfl, hb⟩
        have HB2 := Lib.hid (below_step HB.out hb)
        clear hb f1
        have f1 := Hr1.out _ HB2.out
        go_wp2_with fail
        refine (put_zero _ _ _ (Hz.out _ HB2.out)).mono ?_
        rintro e w3 ⟨rfl, rfl⟩
        go_wp2_with fail
        refine (codes_zero _ _ (Hz.out _ HB2.out)).mono ?_
        rintro e w3 ⟨rfl, rfl⟩
        go_wp2
        go_roundw
        case rel => exact ⟨2, by omega, rfl, HB2⟩
        case measure => simp [intOf]
      · go_wp2_with fail
        refine (awake_any _).mono ?_
        rintro e w2 ⟨rfl, hb⟩
        have HB2 := Lib.hid (below_step HB.out hb)
        clear hb
        go_wp2
        go_ret
        exact ⟨rfl, below_step HB1.out HB2.out⟩
end Go.Proofs.Ythjfigaalknoiaa
