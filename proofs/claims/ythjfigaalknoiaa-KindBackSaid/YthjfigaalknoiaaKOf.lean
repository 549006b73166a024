/- kind.Of tells the parts of a kind. -/
import Derived.Test.YthjfigaalknoiaaKTree
set_option linter.unusedVariables false
set_option linter.unusedSimpArgs false
namespace Go.Proofs.Ythjfigaalknoiaa
open Go.RowKit Go.Proofs.YthjfigaalknoiaaW.PrintWords Pt
attribute [local go_sem] Oper.semAt_some

/-- Where the loop of kind.Of stands: none of the kinds so far is the one. -/
structure OI (w : World) (n : Int) (k : Nat) (W : World) : Prop where
  bl : Below w.heap.size w W
  b0 : W.heap[w.heap.size]? = some (.cells #[.int .i64 n] 3 (0, 0))
  b1 : W.heap[w.heap.size + 1]? = some (.cells #[.bool false, .bool false, .bool false, .bool false, .bool false] 63 (0, 0))
  b2 : W.heap[w.heap.size + 1 + 1]? = some (.cells #[.int .i64 0] 29 (0, 0))
  no : ∀ j : Nat, j < k → n ≠ (j : Int) + 1
/-- Where it is left: the results. -/
structure OX (w : World) (n : Int) (W : World) : Prop where
  bl : Below w.heap.size w W
  b1 : ∃ p1 p2 p3 p4 p5, W.heap[w.heap.size + 1]? = some (.cells #[.bool p1, .bool p2, .bool p3, .bool p4, .bool p5] 63 (0, 0)) ∧ kof n = (.agg #[.bool p1, .bool p2, .bool p3, .bool p4, .bool p5], 0)
  b2 : W.heap[w.heap.size + 1 + 1]? = some (.cells #[.int .i64 0] 29 (0, 0))
theorem OI.below {w W W' : World} {n : Int} {k : Nat} (h : OI w n k W) (hb : Below W.heap.size W W') : OI w n k W' :=
  ⟨h.bl.trans (hb.mono h.bl.size), (hb.block _ (Array.getElem?_eq_some_iff.1 h.b0).1).trans h.b0, (hb.block _ (Array.getElem?_eq_some_iff.1 h.b1).1).trans h.b1, (hb.block _ (Array.getElem?_eq_some_iff.1 h.b2).1).trans h.b2, h.no⟩
theorem OI.putObj {w W : World} {n : Int} {k b : Nat} (h : OI w n k W) (hb : w.heap.size + 3 ≤ b) (o : Obj) : OI w n k (W.putObj b o) := by
  have far : ∀ g, g ≠ b → (W.putObj b o).heap[g]? = W.heap[g]? := fun g hg => World.putObj_heap_other hg
  exact ⟨below_putObj h.bl (by omega) o, (far _ (by omega)).trans h.b0, (far _ (by omega)).trans h.b1, (far _ (by omega)).trans h.b2, h.no⟩
theorem OX.putObj {w W : World} {n : Int} {b : Nat} (h : OX w n W) (hb : w.heap.size + 3 ≤ b) (o : Obj) : OX w n (W.putObj b o) := by
  have far : ∀ g, g ≠ b → (W.putObj b o).heap[g]? = W.heap[g]? := fun g hg => World.putObj_heap_other hg
  obtain ⟨p1, p2, p3, p4, p5, h1, h2⟩ := h.b1
  exact ⟨below_putObj h.bl (by omega) o, ⟨p1, p2, p3, p4, p5, (far _ (by omega)).trans h1, h2⟩, (far _ (by omega)).trans h.b2⟩

theorem krow_parts : ∀ k : Nat, k < 10 → ∃ (c : ByteArray) (p1 p2 p3 p4 p5 : Bool), krow k = #[.string c, .bool p1, .bool p2, .bool p3, .bool p4, .bool p5] ∧ kof ((k : Int) + 1) = (.agg #[.bool p1, .bool p2, .bool p3, .bool p4, .bool p5], 0)
  | 0, _ => ⟨_, _, _, _, _, _, rfl, rfl⟩
  | 1, _ => ⟨_, _, _, _, _, _, rfl, rfl⟩
  | 2, _ => ⟨_, _, _, _, _, _, rfl, rfl⟩
  | 3, _ => ⟨_, _, _, _, _, _, rfl, rfl⟩
  | 4, _ => ⟨_, _, _, _, _, _, rfl, rfl⟩
  | 5, _ => ⟨_, _, _, _, _, _, rfl, rfl⟩
  | 6, _ => ⟨_, _, _, _, _, _, rfl, rfl⟩
  | 7, _ => ⟨_, _, _, _, _, _, rfl, rfl⟩
  | 8, _ => ⟨_, _, _, _, _, _, rfl, rfl⟩
  | 9, _ => ⟨_, _, _, _, _, _, rfl, rfl⟩
  | n + 10, h => by omega

theorem of_cells {w W : World} {n : Int} {k : Nat} (h : OI w n k W) (p1 p2 p3 p4 p5 : Bool) {z : Int} :
    Below w.heap.size w ((((((W.setCell ⟨w.heap.size + 1, 0, none⟩ (.bool p1)).setCell ⟨w.heap.size + 1, 1, none⟩ (.bool p2)).setCell ⟨w.heap.size + 1, 2, none⟩ (.bool p3)).setCell ⟨w.heap.size + 1, 3, none⟩ (.bool p4)).setCell ⟨w.heap.size + 1, 4, none⟩ (.bool p5)).setCell ⟨w.heap.size + 1 + 1, 0, none⟩ (.int .i64 z)) ∧
    ((((((W.setCell ⟨w.heap.size + 1, 0, none⟩ (.bool p1)).setCell ⟨w.heap.size + 1, 1, none⟩ (.bool p2)).setCell ⟨w.heap.size + 1, 2, none⟩ (.bool p3)).setCell ⟨w.heap.size + 1, 3, none⟩ (.bool p4)).setCell ⟨w.heap.size + 1, 4, none⟩ (.bool p5)).setCell ⟨w.heap.size + 1 + 1, 0, none⟩ (.int .i64 z)).heap[w.heap.size + 1]? = some (.cells #[.bool p1, .bool p2, .bool p3, .bool p4, .bool p5] 63 (0, 0)) ∧
    ((((((W.setCell ⟨w.heap.size + 1, 0, none⟩ (.bool p1)).setCell ⟨w.heap.size + 1, 1, none⟩ (.bool p2)).setCell ⟨w.heap.size + 1, 2, none⟩ (.bool p3)).setCell ⟨w.heap.size + 1, 3, none⟩ (.bool p4)).setCell ⟨w.heap.size + 1, 4, none⟩ (.bool p5)).setCell ⟨w.heap.size + 1 + 1, 0, none⟩ (.int .i64 z)).heap[w.heap.size + 1 + 1]? = some (.cells #[.int .i64 z] 29 (0, 0)) ∧
    ∀ g, w.heap.size + 2 < g → ((((((W.setCell ⟨w.heap.size + 1, 0, none⟩ (.bool p1)).setCell ⟨w.heap.size + 1, 1, none⟩ (.bool p2)).setCell ⟨w.heap.size + 1, 2, none⟩ (.bool p3)).setCell ⟨w.heap.size + 1, 3, none⟩ (.bool p4)).setCell ⟨w.heap.size + 1, 4, none⟩ (.bool p5)).setCell ⟨w.heap.size + 1 + 1, 0, none⟩ (.int .i64 z)).heap[g]? = W.heap[g]? := by
  have far : ∀ (X : World) (a b j : Nat) (v : Value), b ≠ a → (X.setCell ⟨a, j, none⟩ v).heap[b]? = X.heap[b]? := fun X a b j v hb => Below.heap_setCell X ⟨a, j, none⟩ v b hb
  have hle : w.heap.size ≤ w.heap.size + 1 := by omega
  have t0 := heap_setCell_same (a := ⟨w.heap.size + 1, 0, none⟩) (v := .bool p1) h.b1 rfl
  have t1 := heap_setCell_same (a := ⟨w.heap.size + 1, 1, none⟩) (v := .bool p2) t0 rfl
  have t2 := heap_setCell_same (a := ⟨w.heap.size + 1, 2, none⟩) (v := .bool p3) t1 rfl
  have t3 := heap_setCell_same (a := ⟨w.heap.size + 1, 3, none⟩) (v := .bool p4) t2 rfl
  have t4 := heap_setCell_same (a := ⟨w.heap.size + 1, 4, none⟩) (v := .bool p5) t3 rfl
  refine ⟨?_, (far _ _ _ _ _ (by omega)).trans t4, ?_, fun g hg => ?_⟩
  · exact (((((h.bl.setCell (p := ⟨_, 0, none⟩) hle _).setCell (p := ⟨_, 1, none⟩) hle _).setCell (p := ⟨_, 2, none⟩) hle _).setCell (p := ⟨_, 3, none⟩) hle _).setCell (p := ⟨_, 4, none⟩) hle _).setCell (p := ⟨_, 0, none⟩) (by show w.heap.size ≤ w.heap.size + 1 + 1; omega) _
  · refine heap_setCell_same (a := ⟨w.heap.size + 1 + 1, 0, none⟩) (v := .int .i64 z) (cs := #[.int .i64 0]) ?_ rfl
    have f2 : ∀ (X : World) (j : Nat) (v : Value), (X.setCell ⟨w.heap.size + 1, j, none⟩ v).heap[w.heap.size + 1 + 1]? = X.heap[w.heap.size + 1 + 1]? := fun X j v => far X _ _ j v (by omega)
    exact (f2 _ _ _).trans ((f2 _ _ _).trans ((f2 _ _ _).trans ((f2 _ _ _).trans ((f2 _ _ _).trans h.b2))))
  · exact (far _ _ _ _ _ (by omega)).trans ((far _ _ _ _ _ (by omega)).trans ((far _ _ _ _ _ (by omega)).trans ((far _ _ _ _ _ (by omega)).trans ((far _ _ _ _ _ (by omega)).trans (far _ _ _ _ _ (by omega))))))

/-- What a round of kind.Of finds. -/
def OA (w : World) (n : Int) (k : Nat) (a : Act) (W : World) : Prop :=
  OI w n k W ∧ ∃ X, w.heap.size + 4 < X ∧ W.heap[X]? = some (.cells (krow k) 110 (0, 0)) ∧
    a = { tmps := #[.int .i64 n, .pointer (some ⟨w.heap.size, 0, none⟩), .pointer (some ⟨w.heap.size + 1, 0, none⟩), .pointer (some ⟨w.heap.size + 1 + 1, 0, none⟩), .int .i64 ((k : Int) + 1), .pointer (some ⟨X, 0, none⟩), .func (.func 101) #[] #[], .int .i64 ((k : Int) + 1), .agg (krow k), undef, undef, undef, undef, undef, undef], defers := [] }
theorem OA.putObj {w W : World} {n : Int} {k b : Nat} {a : Act} (h : OA w n k a W) (hb : b = w.heap.size + 3 ∨ b = w.heap.size + 4) (o : Obj) : OA w n k a (W.putObj b o) := by
  obtain ⟨h1, X, h2, h3, h4⟩ := h
  exact ⟨h1.putObj (by omega) o, X, h2, (World.putObj_heap_other (by omega)).trans h3, h4⟩

set_option maxRecDepth 100000 in
set_option maxHeartbeats 1000000 in
theorem kof_in (n : Int) (w : World) : CallsIn Fence.wide 3 Try.prog 44 #[.int .i64 n] w fun e w' => e = .returned (.tuple #[(kof n).1, .int .i64 (kof n).2]) ∧ Below w.heap.size w w' := by
  refine callsIn_of_wp_marks Try.func44 rfl trivial ?_ rfl
  simp only [Try.ntmps44, List.size_toArray, List.length_cons, List.length_nil, Nat.reduceAdd, Nat.reduceSub, Array.replicate_succ, Array.replicate_zero, List.push_toArray, List.append_toArray, List.nil_append, List.cons_append]
  gi_wp2_with (first | (refine ⟨trivial, ?_⟩; gi_at_call 85; refine (callsIn_wide.2 (all_any _)).mono ?_; rintro e w' ⟨rfl, rfl⟩))
  obtain ⟨W0, hW0⟩ : ∃ W0, ((w.alloc (.cells #[.int .i64 n] 3)).alloc (.cells #[.bool false, .bool false, .bool false, .bool false, .bool false] 63)).alloc (.cells #[.int .i64 0] 29) = W0 := ⟨_, rfl⟩
  have hs0 : W0.heap.size = w.heap.size + 3 := by rw [← hW0]; simp
  have hI0 : OI w n 0 W0 := by
    rw [← hW0]
    exact ⟨below_alloc (below_alloc (below_alloc (Below.refl _ _) _) _) _, at_old (at_old (at_alloc _ _ rfl)), at_old (at_alloc _ _ (by simp)), at_alloc _ _ (by simp), fun j hj => absurd hj (by omega)⟩
  rw [hW0]
  clear hW0
  refine wpIn_all (w := W0) rfl (OI w n) (OX w n) (OA w n) ?below ?putI ?putX ?putA ?start ?assign ?body ?done ?stop
  case below => exact fun k W W' h hb => h.below hb
  case putI => exact fun k W b o hb h => h.putObj (by omega) o
  case putX => exact fun W b o hb h => h.putObj (by omega) o
  case putA => exact fun k a1 W b o hb h => h.putObj (by omega) o
  case start => exact fun o o' => (hI0.below (below_alloc (Below.refl _ _) _)).below (below_alloc (Below.refl _ _) _)
  case assign =>
    intro l k W K hI hb hk hK
    rw [hs0] at hb
    obtain ⟨c, p1, p2, p3, p4, p5, hr⟩ := krow_form k hk
    have HI := Lib.hid hI
    have HK := Lib.hid hK
    have HR := Lib.hid hr
    rw [hr]
    clear hI hK hr
    gi_wp2
    refine HK.out _ _ (below_alloc (Below.refl _ _) _) ⟨HI.out.below (below_alloc (Below.refl _ _) _), W.heap.size, by omega, ?_, ?_⟩
    · rw [HR.out]; exact at_alloc _ _ rfl
    · rw [HR.out]
  case body =>
    rintro l k a1 W hk ⟨hI, X, hX, hXc, rfl⟩ hd hl
    rw [hs0] at hd hl ⊢
    obtain ⟨c, p1, p2, p3, p4, p5, hr, hkf⟩ := krow_parts k hk
    rw [hr] at hXc ⊢
    have hk63 : (k : Int) + 1 < 9223372036854775808 := by omega
    have c0 : W.cell? ⟨w.heap.size, 0, none⟩ = some (.int .i64 n) := by rw [cell_of_heap hI.b0]; rfl
    have x1 : W.cell? ⟨X, 1, none⟩ = some (.bool p1) := by rw [cell_of_heap hXc]; rfl
    have x2 : W.cell? ⟨X, 2, none⟩ = some (.bool p2) := by rw [cell_of_heap hXc]; rfl
    have x3 : W.cell? ⟨X, 3, none⟩ = some (.bool p3) := by rw [cell_of_heap hXc]; rfl
    have x4 : W.cell? ⟨X, 4, none⟩ = some (.bool p4) := by rw [cell_of_heap hXc]; rfl
    have x5 : W.cell? ⟨X, 5, none⟩ = some (.bool p5) := by rw [cell_of_heap hXc]; rfl
    have r0 : W.cell? ⟨w.heap.size + 1, 0, none⟩ = some (.bool false) := by rw [cell_of_heap hI.b1]; rfl
    have r1 : W.cell? ⟨w.heap.size + 1, 1, none⟩ = some (.bool false) := by rw [cell_of_heap hI.b1]; rfl
    have r2 : W.cell? ⟨w.heap.size + 1, 2, none⟩ = some (.bool false) := by rw [cell_of_heap hI.b1]; rfl
    have r3 : W.cell? ⟨w.heap.size + 1, 3, none⟩ = some (.bool false) := by rw [cell_of_heap hI.b1]; rfl
    have r4 : W.cell? ⟨w.heap.size + 1, 4, none⟩ = some (.bool false) := by rw [cell_of_heap hI.b1]; rfl
    have s0 : W.cell? ⟨w.heap.size + 1 + 1, 0, none⟩ = some (.int .i64 0) := by rw [cell_of_heap hI.b2]; rfl
    have g0 : W.frozen? ⟨w.heap.size + 1, 0, none⟩ = false := free_of_heap hI.b1 0
    have g1 : W.frozen? ⟨w.heap.size + 1, 1, none⟩ = false := free_of_heap hI.b1 1
    have g2 : W.frozen? ⟨w.heap.size + 1, 2, none⟩ = false := free_of_heap hI.b1 2
    have g3 : W.frozen? ⟨w.heap.size + 1, 3, none⟩ = false := free_of_heap hI.b1 3
    have g4 : W.frozen? ⟨w.heap.size + 1, 4, none⟩ = false := free_of_heap hI.b1 4
    have g5 : W.frozen? ⟨w.heap.size + 1 + 1, 0, none⟩ = false := free_of_heap hI.b2 0
    have HI := Lib.hid hI
    have HF := Lib.hid hkf
    clear hI hd hl hXc hr hkf
    by_cases he : (k : Int) + 1 = n
    · have b0 : ((k : Int) + 1 == n) = true := by simpa using he
      have HE := Lib.hid he
      clear he
      obtain ⟨Q, hQ⟩ : ∃ Q, allPost (OI w n) (OX w n) (w.heap.size + 3) (k + 1) W = Q := ⟨_, rfl⟩
      have HQ := Lib.hid hQ
      rw [hQ]
      clear hQ
      iterate 34 gi_step
      show Q .ret _ _
      rw [← HQ.out]
      obtain ⟨u1, u2, u3, u4⟩ := of_cells HI.out p1 p2 p3 p4 p5
      refine ⟨u4 _ (by omega), u4 _ (by omega), u1, ⟨p1, p2, p3, p4, p5, u2, ?_⟩, u3⟩
      rw [← HE.out]
      exact HF.out
    · have b0 : ((k : Int) + 1 == n) = false := by simpa using he
      have HE := Lib.hid he
      clear he
      gi_wp2
      refine ⟨rfl, rfl, HI.out.bl, HI.out.b0, HI.out.b1, HI.out.b2, fun j hj => ?_⟩
      by_cases hjk : j = k
      · subst hjk; exact fun e => HE.out e.symm
      · exact HI.out.no j (by omega)
  case done =>
    intro W hI hK
    rw [hs0] at hK ⊢
    have hno : kof n = (knone, 18) := by
      unfold kof
      rw [if_pos]
      by_cases h : n < 1 ∨ 10 < n
      · exact h
      · exact absurd (by omega) (hI.no (n - 1).toNat (by omega))
    have HNO := Lib.hid hno
    have HI := Lib.hid hI
    have HK := Lib.hid hK
    have r0 : W.cell? ⟨w.heap.size + 1, 0, none⟩ = some (.bool false) := by rw [cell_of_heap hI.b1]; rfl
    have r1 : W.cell? ⟨w.heap.size + 1, 1, none⟩ = some (.bool false) := by rw [cell_of_heap hI.b1]; rfl
    have r2 : W.cell? ⟨w.heap.size + 1, 2, none⟩ = some (.bool false) := by rw [cell_of_heap hI.b1]; rfl
    have r3 : W.cell? ⟨w.heap.size + 1, 3, none⟩ = some (.bool false) := by rw [cell_of_heap hI.b1]; rfl
    have r4 : W.cell? ⟨w.heap.size + 1, 4, none⟩ = some (.bool false) := by rw [cell_of_heap hI.b1]; rfl
    have s0 : W.cell? ⟨w.heap.size + 1 + 1, 0, none⟩ = some (.int .i64 0) := by rw [cell_of_heap hI.b2]; rfl
    have g0 : W.frozen? ⟨w.heap.size + 1, 0, none⟩ = false := free_of_heap hI.b1 0
    have g1 : W.frozen? ⟨w.heap.size + 1, 1, none⟩ = false := free_of_heap hI.b1 1
    have g2 : W.frozen? ⟨w.heap.size + 1, 2, none⟩ = false := free_of_heap hI.b1 2
    have g3 : W.frozen? ⟨w.heap.size + 1, 3, none⟩ = false := free_of_heap hI.b1 3
    have g4 : W.frozen? ⟨w.heap.size + 1, 4, none⟩ = false := free_of_heap hI.b1 4
    have g5 : W.frozen? ⟨w.heap.size + 1 + 1, 0, none⟩ = false := free_of_heap hI.b2 0
    clear hI hK hno hI0
    gi_wp2
    obtain ⟨u1, u2, u3, u4⟩ := of_cells (z := 18) HI.out false false false false false
    have hK2 := (u4 (w.heap.size + 3) (by omega)).trans HK.out
    obtain ⟨W4, hW4⟩ : ∃ W4, (((((W.setCell ⟨w.heap.size + 1, 0, none⟩ (.bool false)).setCell ⟨w.heap.size + 1, 1, none⟩ (.bool false)).setCell ⟨w.heap.size + 1, 2, none⟩ (.bool false)).setCell ⟨w.heap.size + 1, 3, none⟩ (.bool false)).setCell ⟨w.heap.size + 1, 4, none⟩ (.bool false)).setCell ⟨w.heap.size + 1 + 1, 0, none⟩ (.int .i64 18) = W4 := ⟨_, rfl⟩
    rw [hW4] at u1 u2 u3 hK2 ⊢
    refine ⟨by simp, .inl ⟨_, _, rfl, run_takeDeferred hK2, ?_⟩⟩
    have far : ∀ b, b ≠ w.heap.size + 3 → (W4.putObj (w.heap.size + 3) (.deferred none)).heap[b]? = W4.heap[b]? := fun b hb => World.putObj_heap_other hb
    have hB1 := (far (w.heap.size + 1) (by omega)).trans u2
    have hB2 := (far (w.heap.size + 1 + 1) (by omega)).trans u3
    have d0 : (W4.putObj (w.heap.size + 3) (.deferred none)).cell? ⟨w.heap.size + 1, 0, none⟩ = some (.bool false) := by rw [cell_of_heap hB1]; rfl
    have d1 : (W4.putObj (w.heap.size + 3) (.deferred none)).cell? ⟨w.heap.size + 1, 1, none⟩ = some (.bool false) := by rw [cell_of_heap hB1]; rfl
    have d2 : (W4.putObj (w.heap.size + 3) (.deferred none)).cell? ⟨w.heap.size + 1, 2, none⟩ = some (.bool false) := by rw [cell_of_heap hB1]; rfl
    have d3 : (W4.putObj (w.heap.size + 3) (.deferred none)).cell? ⟨w.heap.size + 1, 3, none⟩ = some (.bool false) := by rw [cell_of_heap hB1]; rfl
    have d4 : (W4.putObj (w.heap.size + 3) (.deferred none)).cell? ⟨w.heap.size + 1, 4, none⟩ = some (.bool false) := by rw [cell_of_heap hB1]; rfl
    have d5 : (W4.putObj (w.heap.size + 3) (.deferred none)).cell? ⟨w.heap.size + 1 + 1, 0, none⟩ = some (.int .i64 18) := by rw [cell_of_heap hB2]; rfl
    refine ⟨.tuple #[knone, .int .i64 18], ?_, by rw [HNO.out], below_putObj u1 (by omega) _⟩
    simp [results, Try.f44, go_sem, d0, d1, d2, d3, d4, d5, knone]
  case stop =>
    intro W hX hK
    rw [hs0] at hK ⊢
    obtain ⟨p1, p2, p3, p4, p5, hb1, hkf⟩ := hX.b1
    gi_wp2
    refine ⟨by simp, .inl ⟨_, _, rfl, run_takeDeferred hK, ?_⟩⟩
    have far : ∀ b, b ≠ w.heap.size + 3 → (W.putObj (w.heap.size + 3) (.deferred none)).heap[b]? = W.heap[b]? := fun b hb => World.putObj_heap_other hb
    have hB1 := (far (w.heap.size + 1) (by omega)).trans hb1
    have hB2 := (far (w.heap.size + 1 + 1) (by omega)).trans hX.b2
    have d0 : (W.putObj (w.heap.size + 3) (.deferred none)).cell? ⟨w.heap.size + 1, 0, none⟩ = some (.bool p1) := by rw [cell_of_heap hB1]; rfl
    have d1 : (W.putObj (w.heap.size + 3) (.deferred none)).cell? ⟨w.heap.size + 1, 1, none⟩ = some (.bool p2) := by rw [cell_of_heap hB1]; rfl
    have d2 : (W.putObj (w.heap.size + 3) (.deferred none)).cell? ⟨w.heap.size + 1, 2, none⟩ = some (.bool p3) := by rw [cell_of_heap hB1]; rfl
    have d3 : (W.putObj (w.heap.size + 3) (.deferred none)).cell? ⟨w.heap.size + 1, 3, none⟩ = some (.bool p4) := by rw [cell_of_heap hB1]; rfl
    have d4 : (W.putObj (w.heap.size + 3) (.deferred none)).cell? ⟨w.heap.size + 1, 4, none⟩ = some (.bool p5) := by rw [cell_of_heap hB1]; rfl
    have d5 : (W.putObj (w.heap.size + 3) (.deferred none)).cell? ⟨w.heap.size + 1 + 1, 0, none⟩ = some (.int .i64 0) := by rw [cell_of_heap hB2]; rfl
    refine ⟨.tuple #[.agg #[.bool p1, .bool p2, .bool p3, .bool p4, .bool p5], .int .i64 0], ?_, by rw [hkf], below_putObj hX.bl (by omega) _⟩
    simp [results, Try.f44, go_sem, d0, d1, d2, d3, d4, d5]
theorem kof_any (n : Int) (w : World) : Calls Try.prog 44 #[.int .i64 n] w fun e w' => e = .returned (.tuple #[(kof n).1, .int .i64 (kof n).2]) ∧ Below w.heap.size w w' := callsIn_wide.1 (kof_in n w)
end Go.Proofs.Ythjfigaalknoiaa
