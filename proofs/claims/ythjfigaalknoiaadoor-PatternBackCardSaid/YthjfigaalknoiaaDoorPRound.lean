/- One round of pattern.tree: the region, walked by its invariant. -/
import Derived.Test.YthjfigaalknoiaaDoorPStep
set_option linter.unusedVariables false
set_option linter.unusedSimpArgs false
namespace Go.Proofs.YthjfigaalknoiaaDoor
open Go.RowKit Go.Proofs.YthjfigaalknoiaaDoorW.PrintWords Pt

/-- The operations of a region of a function's body, by the region's number. -/
def opsAt (id : Nat) : Code → Option (Array Oper)
  | .region i ops _ => if i = id then some ops else none
  | .seq a b => match opsAt id a with | some x => some x | none => opsAt id b
  | .cond _ a b => match opsAt id a with | some x => some x | none => opsAt id b
  | .block _ c => opsAt id c
  | .loop c => opsAt id c
  | .scope c => opsAt id c
  | .rangeFunc _ _ a b => match opsAt id a with | some x => some x | none => opsAt id b
  | _ => none
noncomputable def pops : Array Oper := (Tryd.f27.body.bind (opsAt 5)).getD #[]

set_option maxRecDepth 100000 in
set_option maxHeartbeats 4000000 in
theorem pround {w0 : World} {N0 k : Nat} {c : ByteArray} {kn : Int} {v1 v2 : Value} {r m : Nat} {Q : Exit → Act → World → Prop} {a : Act} {W : World}
    (hc : pcs[k]? = some c) (hn : pns[k]? = some kn) (hkn : kn = (k : Int) + 1) (hk63 : k < 63)
    (hv1s : ∃ A cc, v1 = .slice A k cc) (h0 : TS w0 N0 k c kn v1 v2 W.drew false false false false false false false false false false false false a W.drew)
    (hQ : ∀ a' W', TS w0 N0 k c kn v1 v2 W.drew true true true true true true true true true true true true a' W' → Q .normal a' W') :
    (Code.region 5 pops true).wpIn (Fence.wide.inRound r) m Tryd.prog Q a W := by
  have hs1 : k + 1 ≤ 9223372036854775807 := by omega
  simp only [pops, Tryd.f27, opsAt, Option.bind_some, Option.getD_some, Nat.reduceEqDiff, if_true, if_false, reduceIte]
  refine wpIn_region_inv (by kernel_rfl) (TI w0 N0 k c kn v1 v2 W.drew) ?_ ?_ ?_
  · exact ⟨_, _, _, _, _, _, _, _, _, _, _, _, rfl, h0⟩
  · rintro l a w i ⟨b0, b1, b2, b3, b4, b5, b6, b7, b8, b9, b10, b11, rfl, T⟩ hi
    have hlt := (ready_mem hi).1
    have h11 : i = 0 ∨ i = 1 ∨ i = 2 ∨ i = 3 ∨ i = 4 ∨ i = 5 ∨ i = 6 ∨ i = 7 ∨ i = 8 ∨ i = 9 ∨ i = 10 ∨ i = 11 := by simp at hlt; omega
    have s25 : ∀ d, d < 25 → d < a.tmps.size := fun d hd => by rw [T.sz]; exact hd
    have e1 := T.t1
    have e2 := T.t2
    have e3 := T.t3
    rcases h11 with rfl | rfl | rfl | rfl | rfl | rfl | rfl | rfl | rfl | rfl | rfl | rfl
    all_goals simp [Region.ready, Region.binds, List.mem_filter] at hi
    · subst hi
      have hcell : w.cell? ⟨N0, 0, none⟩ = some v1 := by
        have hbx : b10 = false := by cases h : b10 with | false => rfl | true => exact absurd ((T.c3 (T.c7 (T.c8 h)).1).1) (by decide)
        have := T.x1
        rw [hbx] at this
        rw [cell_of_heap this]; rfl
      refine opIn_ok (v := v1) (w' := w) rfl rfl (by simp) (by simp [execOp, go_sem, e1, hcell]) ?_
      show TI _ _ _ _ _ _ _ _ _ (a.put (some 8) _) _
      refine ⟨true, b1, b2, b3, b4, b5, b6, b7, b8, b9, b10, b11, rfl, ?_⟩
      exact {
        sz := put_size.trans T.sz,
        t1 := (put_other (by decide)).trans T.t1,
        t2 := (put_other (by decide)).trans T.t2,
        t3 := (put_other (by decide)).trans T.t3,
        r2 := by rw [put_other (by decide), put_other (by decide)]; exact T.r2,
        x1 := by rw [put_other (by decide)]; exact T.x1,
        x2 := by rw [put_other (by decide)]; exact T.x2,
        sw := T.sw,
        kx := T.kx,
        f0 := fun _ => put_same (s25 _ (by decide)),
        f1 := fun h => (put_other (by decide)).trans (T.f1 h),
        f2 := fun h h2 => by obtain ⟨g, q1, q2⟩ := T.f2 h h2; exact ⟨g, (put_other (by decide)).trans q1, q2⟩,
        f4 := fun h => (put_other (by decide)).trans (T.f4 h),
        f5 := fun h => (put_other (by decide)).trans (T.f5 h),
        f6 := fun h => (put_other (by decide)).trans (T.f6 h),
        f7 := fun h => (put_other (by decide)).trans (T.f7 h),
        f8 := fun h h2 => by obtain ⟨g, q1, q2⟩ := T.f8 h h2; exact ⟨g, (put_other (by decide)).trans q1, q2⟩,
        c1 := T.c1,
        c3 := fun h => ⟨rfl, (T.c3 h).2⟩,
        c4 := T.c4,
        c5 := T.c5,
        c6 := T.c6,
        c7 := T.c7,
        c8 := T.c8,
        c9 := T.c9 }
    · subst hi
      refine opIn_ok (v := .string c) (w' := w) rfl rfl (by simp) (by simp [execOp, go_sem, e3]) ?_
      show TI _ _ _ _ _ _ _ _ _ (a.put (some 9) _) _
      refine ⟨b0, true, b2, b3, b4, b5, b6, b7, b8, b9, b10, b11, rfl, ?_⟩
      exact {
        sz := put_size.trans T.sz,
        t1 := (put_other (by decide)).trans T.t1,
        t2 := (put_other (by decide)).trans T.t2,
        t3 := (put_other (by decide)).trans T.t3,
        r2 := by rw [put_other (by decide), put_other (by decide)]; exact T.r2,
        x1 := by rw [put_other (by decide)]; exact T.x1,
        x2 := by rw [put_other (by decide)]; exact T.x2,
        sw := T.sw,
        kx := T.kx,
        f0 := fun h => (put_other (by decide)).trans (T.f0 h),
        f1 := fun _ => put_same (s25 _ (by decide)),
        f2 := fun h h2 => by obtain ⟨g, q1, q2⟩ := T.f2 h h2; exact ⟨g, (put_other (by decide)).trans q1, q2⟩,
        f4 := fun h => (put_other (by decide)).trans (T.f4 h),
        f5 := fun h => (put_other (by decide)).trans (T.f5 h),
        f6 := fun h => (put_other (by decide)).trans (T.f6 h),
        f7 := fun h => (put_other (by decide)).trans (T.f7 h),
        f8 := fun h h2 => by obtain ⟨g, q1, q2⟩ := T.f8 h h2; exact ⟨g, (put_other (by decide)).trans q1, q2⟩,
        c1 := fun _ => rfl,
        c3 := T.c3,
        c4 := T.c4,
        c5 := T.c5,
        c6 := T.c6,
        c7 := T.c7,
        c8 := T.c8,
        c9 := T.c9 }
    · obtain ⟨rfl, rfl⟩ := hi
      have e9 := T.f1 rfl
      refine opIn_ok (v := .slice (some ⟨w.heap.size, 0, none⟩) 1 1) (w' := w.alloc (.cells #[.string c] 9)) rfl rfl (by simp) (by simp [execOp, go_sem, e9]) ?_
      show TI _ _ _ _ _ _ _ _ _ (a.put (some 10) _) _
      refine ⟨b0, true, true, b3, b4, b5, b6, b7, b8, b9, b10, b11, rfl, ?_⟩
      exact {
        sz := put_size.trans T.sz,
        t1 := (put_other (by decide)).trans T.t1,
        t2 := (put_other (by decide)).trans T.t2,
        t3 := (put_other (by decide)).trans T.t3,
        r2 := by rw [put_other (by decide), put_other (by decide)]; exact T.r2.alloc _,
        x1 := by rw [put_other (by decide)]; exact at_old T.x1,
        x2 := by rw [put_other (by decide)]; exact at_old T.x2,
        sw := Nat.le_trans T.sw (by simp),
        kx := fun g h0 h1 h2 h3 h4 => (heap_alloc_old w _ g (Nat.lt_of_lt_of_le h2 T.sw)).trans (T.kx g h0 h1 h2 h3 h4),
        f0 := fun h => (put_other (by decide)).trans (T.f0 h),
        f1 := fun h => (put_other (by decide)).trans (T.f1 h),
        f2 := fun _ _ => ⟨_, put_same (s25 _ (by decide)), at_alloc _ _ rfl⟩,
        f4 := fun h => (put_other (by decide)).trans (T.f4 h),
        f5 := fun h => (put_other (by decide)).trans (T.f5 h),
        f6 := fun h => (put_other (by decide)).trans (T.f6 h),
        f7 := fun h => (put_other (by decide)).trans (T.f7 h),
        f8 := fun h h2 => by obtain ⟨g, q1, q2⟩ := T.f8 h h2; exact ⟨g, (put_other (by decide)).trans q1, at_old q2⟩,
        c1 := fun _ => rfl,
        c3 := fun h => ⟨(T.c3 h).1, rfl⟩,
        c4 := T.c4,
        c5 := T.c5,
        c6 := T.c6,
        c7 := T.c7,
        c8 := T.c8,
        c9 := T.c9 }
    · obtain ⟨rfl, rfl, rfl⟩ := hi
      have hb9 : b9 = false := by cases h : b9 with | false => rfl | true => exact absurd (T.c7 h).1 (by decide)
      subst hb9
      have hb10 : b10 = false := by cases h : b10 with | false => rfl | true => exact absurd (T.c8 h) (by decide)
      subst hb10
      have hb11 : b11 = false := by cases h : b11 with | false => rfl | true => exact absurd (T.c9 h) (by decide)
      subst hb11
      obtain ⟨g, e10, hg10⟩ := T.f2 rfl rfl
      have hr2 : R2 N0 w0 w pcs pns v1 k v2 k := T.r2
      refine opIn_append w rfl rfl _ _ 33 rfl N0 9 _ 16 Tryd.underlying33 info9 rfl v1 k _ (by simpa [Act.eval] using T.f0 rfl) hr2.o1 g 1 (.string c) (by simpa [Act.eval] using e10) hg10 rfl hs1 (by omega) hr2.sz ?_
      intro v' w' hown hgr
      have hx1 : w'.heap[N0]? = some (.cells #[v1] 33 (0, 0)) := (hgr.block N0 (Array.getElem?_eq_some_iff.1 T.x1).1 (own_ne hr2.o1 T.x1 (by intro cur fz h; injection h with _ h2 _; exact absurd h2 (by decide)))).trans T.x1
      have hx2 : w'.heap[N0 + 1]? = some (.cells #[v2] 30 (0, 0)) := (hgr.block (N0 + 1) (Array.getElem?_eq_some_iff.1 T.x2).1 (own_ne hr2.o1 T.x2 (by intro cur fz h; injection h with _ h2 _; exact absurd h2 (by decide)))).trans T.x2
      have hnn := hr2.fst hc hgr hown
      show TI _ _ _ _ _ _ _ _ _ (a.put (some 11) _) _
      refine ⟨true, b1, true, true, b4, b5, b6, b7, b8, false, false, false, rfl, ?_⟩
      exact {
        sz := put_size.trans T.sz,
        t1 := (put_other (by decide)).trans T.t1,
        t2 := (put_other (by decide)).trans T.t2,
        t3 := (put_other (by decide)).trans T.t3,
        r2 := by rw [put_same (s25 _ (by decide))]; exact hnn,
        x1 := hx1,
        x2 := hx2,
        sw := Nat.le_trans T.sw hgr.size,
        kx := fun g h0 h1 h2 h3 h4 => (hgr.block g (Nat.lt_of_lt_of_le h2 T.sw) h3).trans (T.kx g h0 h1 h2 h3 h4),
        f0 := fun h => (put_other (by decide)).trans (T.f0 h),
        f1 := fun h => (put_other (by decide)).trans (T.f1 h),
        f2 := fun _ h => (by cases h),
        f4 := fun h => (put_other (by decide)).trans (T.f4 h),
        f5 := fun h => (put_other (by decide)).trans (T.f5 h),
        f6 := fun h => (put_other (by decide)).trans (T.f6 h),
        f7 := fun h => (put_other (by decide)).trans (T.f7 h),
        f8 := fun h h2 => by obtain ⟨g, q1, q2⟩ := T.f8 h h2; exact ⟨g, (put_other (by decide)).trans q1, (hgr.block g (Array.getElem?_eq_some_iff.1 q2).1 (own_ne hr2.o1 q2 (by intro cur fz h; injection h with _ h2 _; exact absurd h2 (by decide)))).trans q2⟩,
        c1 := T.c1,
        c3 := fun _ => ⟨rfl, rfl⟩,
        c4 := T.c4,
        c5 := T.c5,
        c6 := T.c6,
        c7 := fun h => (by cases h),
        c8 := T.c8,
        c9 := T.c9 }
    · subst hi
      have hcell : w.cell? ⟨N0 + 1, 0, none⟩ = some v2 := by
        have hbx : b11 = false := by cases h : b11 with | false => rfl | true => exact absurd ((T.c7 (T.c8 (T.c9 h))).2.1) (by decide)
        have := T.x2
        rw [hbx] at this
        rw [cell_of_heap this]; rfl
      refine opIn_ok (v := v2) (w' := w) rfl rfl (by simp) (by simp [execOp, go_sem, e2, hcell]) ?_
      show TI _ _ _ _ _ _ _ _ _ (a.put (some 12) _) _
      refine ⟨b0, b1, b2, b3, true, b5, b6, b7, b8, b9, b10, b11, rfl, ?_⟩
      exact {
        sz := put_size.trans T.sz,
        t1 := (put_other (by decide)).trans T.t1,
        t2 := (put_other (by decide)).trans T.t2,
        t3 := (put_other (by decide)).trans T.t3,
        r2 := by rw [put_other (by decide), put_other (by decide)]; exact T.r2,
        x1 := by rw [put_other (by decide)]; exact T.x1,
        x2 := by rw [put_other (by decide)]; exact T.x2,
        sw := T.sw,
        kx := T.kx,
        f0 := fun h => (put_other (by decide)).trans (T.f0 h),
        f1 := fun h => (put_other (by decide)).trans (T.f1 h),
        f2 := fun h h2 => by obtain ⟨g, q1, q2⟩ := T.f2 h h2; exact ⟨g, (put_other (by decide)).trans q1, q2⟩,
        f4 := fun _ => put_same (s25 _ (by decide)),
        f5 := fun h => (put_other (by decide)).trans (T.f5 h),
        f6 := fun h => (put_other (by decide)).trans (T.f6 h),
        f7 := fun h => (put_other (by decide)).trans (T.f7 h),
        f8 := fun h h2 => by obtain ⟨g, q1, q2⟩ := T.f8 h h2; exact ⟨g, (put_other (by decide)).trans q1, q2⟩,
        c1 := T.c1,
        c3 := T.c3,
        c4 := T.c4,
        c5 := T.c5,
        c6 := T.c6,
        c7 := fun h => ⟨(T.c7 h).1, rfl, (T.c7 h).2.2⟩,
        c8 := T.c8,
        c9 := T.c9 }
    · subst hi
      have hcell : w.cell? ⟨N0, 0, none⟩ = some v1 := by
        have hbx : b10 = false := by cases h : b10 with | false => rfl | true => exact absurd (T.c4 (T.c5 (T.c6 (T.c7 (T.c8 h)).2.2))) (by decide)
        have := T.x1
        rw [hbx] at this
        rw [cell_of_heap this]; rfl
      refine opIn_ok (v := v1) (w' := w) rfl rfl (by simp) (by simp [execOp, go_sem, e1, hcell]) ?_
      show TI _ _ _ _ _ _ _ _ _ (a.put (some 13) _) _
      refine ⟨b0, b1, b2, b3, b4, true, b6, b7, b8, b9, b10, b11, rfl, ?_⟩
      exact {
        sz := put_size.trans T.sz,
        t1 := (put_other (by decide)).trans T.t1,
        t2 := (put_other (by decide)).trans T.t2,
        t3 := (put_other (by decide)).trans T.t3,
        r2 := by rw [put_other (by decide), put_other (by decide)]; exact T.r2,
        x1 := by rw [put_other (by decide)]; exact T.x1,
        x2 := by rw [put_other (by decide)]; exact T.x2,
        sw := T.sw,
        kx := T.kx,
        f0 := fun h => (put_other (by decide)).trans (T.f0 h),
        f1 := fun h => (put_other (by decide)).trans (T.f1 h),
        f2 := fun h h2 => by obtain ⟨g, q1, q2⟩ := T.f2 h h2; exact ⟨g, (put_other (by decide)).trans q1, q2⟩,
        f4 := fun h => (put_other (by decide)).trans (T.f4 h),
        f5 := fun _ => put_same (s25 _ (by decide)),
        f6 := fun h => (put_other (by decide)).trans (T.f6 h),
        f7 := fun h => (put_other (by decide)).trans (T.f7 h),
        f8 := fun h h2 => by obtain ⟨g, q1, q2⟩ := T.f8 h h2; exact ⟨g, (put_other (by decide)).trans q1, q2⟩,
        c1 := T.c1,
        c3 := T.c3,
        c4 := fun _ => rfl,
        c5 := T.c5,
        c6 := T.c6,
        c7 := T.c7,
        c8 := T.c8,
        c9 := T.c9 }
    · obtain ⟨rfl, rfl⟩ := hi
      have e13 := T.f5 rfl
      have hb7 : b7 = false := by cases h : b7 with | false => rfl | true => exact absurd (T.c5 h) (by decide)
      subst hb7
      have hb8 : b8 = false := by cases h : b8 with | false => rfl | true => exact absurd (T.c6 h) (by decide)
      subst hb8
      have hb9 : b9 = false := by cases h : b9 with | false => rfl | true => exact absurd (T.c7 h).2.2 (by decide)
      subst hb9
      have hv1 : ∃ A cc, v1 = .slice A k cc := hv1s
      obtain ⟨A, cc, hv⟩ := hv1
      rw [hv] at e13
      refine opIn_ok (v := .int .i64 (k : Int)) (w' := w) rfl rfl (by simp) (by simp [execOp, go_sem, e13]) ?_
      show TI _ _ _ _ _ _ _ _ _ (a.put (some 14) _) _
      refine ⟨b0, b1, b2, b3, b4, true, true, false, false, false, b10, b11, rfl, ?_⟩
      exact {
        sz := put_size.trans T.sz,
        t1 := (put_other (by decide)).trans T.t1,
        t2 := (put_other (by decide)).trans T.t2,
        t3 := (put_other (by decide)).trans T.t3,
        r2 := by rw [put_other (by decide), put_other (by decide)]; exact T.r2,
        x1 := by rw [put_other (by decide)]; exact T.x1,
        x2 := by rw [put_other (by decide)]; exact T.x2,
        sw := T.sw,
        kx := T.kx,
        f0 := fun h => (put_other (by decide)).trans (T.f0 h),
        f1 := fun h => (put_other (by decide)).trans (T.f1 h),
        f2 := fun h h2 => by obtain ⟨g, q1, q2⟩ := T.f2 h h2; exact ⟨g, (put_other (by decide)).trans q1, q2⟩,
        f4 := fun h => (put_other (by decide)).trans (T.f4 h),
        f5 := fun h => (put_other (by decide)).trans (T.f5 h),
        f6 := fun _ => put_same (s25 _ (by decide)),
        f7 := fun h => (put_other (by decide)).trans (T.f7 h),
        f8 := fun h h2 => by obtain ⟨g, q1, q2⟩ := T.f8 h h2; exact ⟨g, (put_other (by decide)).trans q1, q2⟩,
        c1 := T.c1,
        c3 := T.c3,
        c4 := fun _ => rfl,
        c5 := fun h => (by cases h),
        c6 := T.c6,
        c7 := T.c7,
        c8 := T.c8,
        c9 := T.c9 }
    · obtain ⟨rfl, rfl⟩ := hi
      have e14 := T.f6 rfl
      have hwr : IntKind.i64.wrap ((k : Int) + 1) = (k : Int) + 1 := IntWalk.i64_in _ (by omega)
      refine opIn_ok (v := .int .i64 kn) (w' := w) rfl rfl (by simp) (by simp [execOp, go_sem, e14, hwr, hkn]) ?_
      show TI _ _ _ _ _ _ _ _ _ (a.put (some 15) _) _
      refine ⟨b0, b1, b2, b3, b4, b5, true, true, b8, b9, b10, b11, rfl, ?_⟩
      exact {
        sz := put_size.trans T.sz,
        t1 := (put_other (by decide)).trans T.t1,
        t2 := (put_other (by decide)).trans T.t2,
        t3 := (put_other (by decide)).trans T.t3,
        r2 := by rw [put_other (by decide), put_other (by decide)]; exact T.r2,
        x1 := by rw [put_other (by decide)]; exact T.x1,
        x2 := by rw [put_other (by decide)]; exact T.x2,
        sw := T.sw,
        kx := T.kx,
        f0 := fun h => (put_other (by decide)).trans (T.f0 h),
        f1 := fun h => (put_other (by decide)).trans (T.f1 h),
        f2 := fun h h2 => by obtain ⟨g, q1, q2⟩ := T.f2 h h2; exact ⟨g, (put_other (by decide)).trans q1, q2⟩,
        f4 := fun h => (put_other (by decide)).trans (T.f4 h),
        f5 := fun h => (put_other (by decide)).trans (T.f5 h),
        f6 := fun h => (put_other (by decide)).trans (T.f6 h),
        f7 := fun _ => put_same (s25 _ (by decide)),
        f8 := fun h h2 => by obtain ⟨g, q1, q2⟩ := T.f8 h h2; exact ⟨g, (put_other (by decide)).trans q1, q2⟩,
        c1 := T.c1,
        c3 := T.c3,
        c4 := T.c4,
        c5 := fun _ => rfl,
        c6 := fun _ => rfl,
        c7 := T.c7,
        c8 := T.c8,
        c9 := T.c9 }
    · obtain ⟨rfl, rfl⟩ := hi
      have e15 := T.f7 rfl
      refine opIn_ok (v := .slice (some ⟨w.heap.size, 0, none⟩) 1 1) (w' := w.alloc (.cells #[.int .i64 kn] 3)) rfl rfl (by simp) (by simp [execOp, go_sem, e15]) ?_
      show TI _ _ _ _ _ _ _ _ _ (a.put (some 16) _) _
      refine ⟨b0, b1, b2, b3, b4, b5, b6, true, true, b9, b10, b11, rfl, ?_⟩
      exact {
        sz := put_size.trans T.sz,
        t1 := (put_other (by decide)).trans T.t1,
        t2 := (put_other (by decide)).trans T.t2,
        t3 := (put_other (by decide)).trans T.t3,
        r2 := by rw [put_other (by decide), put_other (by decide)]; exact T.r2.alloc _,
        x1 := by rw [put_other (by decide)]; exact at_old T.x1,
        x2 := by rw [put_other (by decide)]; exact at_old T.x2,
        sw := Nat.le_trans T.sw (by simp),
        kx := fun g h0 h1 h2 h3 h4 => (heap_alloc_old w _ g (Nat.lt_of_lt_of_le h2 T.sw)).trans (T.kx g h0 h1 h2 h3 h4),
        f0 := fun h => (put_other (by decide)).trans (T.f0 h),
        f1 := fun h => (put_other (by decide)).trans (T.f1 h),
        f2 := fun h h2 => by obtain ⟨g, q1, q2⟩ := T.f2 h h2; exact ⟨g, (put_other (by decide)).trans q1, at_old q2⟩,
        f4 := fun h => (put_other (by decide)).trans (T.f4 h),
        f5 := fun h => (put_other (by decide)).trans (T.f5 h),
        f6 := fun h => (put_other (by decide)).trans (T.f6 h),
        f7 := fun h => (put_other (by decide)).trans (T.f7 h),
        f8 := fun _ _ => ⟨_, put_same (s25 _ (by decide)), at_alloc _ _ rfl⟩,
        c1 := T.c1,
        c3 := T.c3,
        c4 := T.c4,
        c5 := T.c5,
        c6 := fun _ => rfl,
        c7 := fun h => ⟨(T.c7 h).1, (T.c7 h).2.1, rfl⟩,
        c8 := T.c8,
        c9 := T.c9 }
    · obtain ⟨rfl, rfl, rfl, rfl⟩ := hi
      have hb10 : b10 = false := by cases h : b10 with | false => rfl | true => exact absurd (T.c8 h) (by decide)
      subst hb10
      have hb11 : b11 = false := by cases h : b11 with | false => rfl | true => exact absurd (T.c9 h) (by decide)
      subst hb11
      obtain ⟨g, e16, hg16⟩ := T.f8 rfl rfl
      have hr2 : R2 N0 w0 w pcs pns (a.tmps[11]?.getD undef) (k + 1) v2 k := T.r2
      refine opIn_append w rfl rfl _ _ 30 rfl N0 3 _ 8 Tryd.underlying30 info3 rfl v2 k _ (by simpa [Act.eval] using T.f4 rfl) hr2.o2 g 1 (.int .i64 kn) (by simpa [Act.eval] using e16) hg16 rfl hs1 (by omega) hr2.sz ?_
      intro v' w' hown hgr
      have hx1 : w'.heap[N0]? = some (.cells #[v1] 33 (0, 0)) := (hgr.block N0 (Array.getElem?_eq_some_iff.1 T.x1).1 (own_ne hr2.o2 T.x1 (by intro cur fz h; injection h with _ h2 _; exact absurd h2 (by decide)))).trans T.x1
      have hx2 : w'.heap[N0 + 1]? = some (.cells #[v2] 30 (0, 0)) := (hgr.block (N0 + 1) (Array.getElem?_eq_some_iff.1 T.x2).1 (own_ne hr2.o2 T.x2 (by intro cur fz h; injection h with _ h2 _; exact absurd h2 (by decide)))).trans T.x2
      have hnn := hr2.snd hn hgr hown
      show TI _ _ _ _ _ _ _ _ _ (a.put (some 17) _) _
      refine ⟨b0, b1, b2, true, true, b5, b6, b7, true, true, false, false, rfl, ?_⟩
      exact {
        sz := put_size.trans T.sz,
        t1 := (put_other (by decide)).trans T.t1,
        t2 := (put_other (by decide)).trans T.t2,
        t3 := (put_other (by decide)).trans T.t3,
        r2 := by rw [put_same (s25 _ (by decide)), put_other (by decide)]; exact hnn,
        x1 := hx1,
        x2 := hx2,
        sw := Nat.le_trans T.sw hgr.size,
        kx := fun g h0 h1 h2 h3 h4 => (hgr.block g (Nat.lt_of_lt_of_le h2 T.sw) h4).trans (T.kx g h0 h1 h2 h3 h4),
        f0 := fun h => (put_other (by decide)).trans (T.f0 h),
        f1 := fun h => (put_other (by decide)).trans (T.f1 h),
        f2 := fun _ h => (by cases h),
        f4 := fun h => (put_other (by decide)).trans (T.f4 h),
        f5 := fun h => (put_other (by decide)).trans (T.f5 h),
        f6 := fun h => (put_other (by decide)).trans (T.f6 h),
        f7 := fun h => (put_other (by decide)).trans (T.f7 h),
        f8 := fun _ h => (by cases h),
        c1 := T.c1,
        c3 := fun _ => T.c3 rfl,
        c4 := T.c4,
        c5 := T.c5,
        c6 := T.c6,
        c7 := fun _ => ⟨rfl, rfl, rfl⟩,
        c8 := fun h => (by cases h),
        c9 := T.c9 }
    · obtain ⟨rfl, rfl, rfl, rfl, rfl, rfl, -, rfl⟩ := hi
      have hb11 : b11 = false := by cases h : b11 with | false => rfl | true => exact absurd (T.c9 h) (by decide)
      subst hb11
      have hr2 : R2 N0 w0 w pcs pns (a.tmps[11]?.getD undef) (k + 1) (a.tmps[17]?.getD undef) (k + 1) := T.r2
      obtain ⟨A, cc, hv⟩ := own_slice hr2.o1
      have hx : w.heap[N0]? = some (.cells #[v1] 33 (0, 0)) := T.x1
      have hcell : w.cell? ⟨N0, 0, none⟩ = some v1 := by rw [cell_of_heap hx]; rfl
      have hfree : w.frozen? ⟨N0, 0, none⟩ = false := free_of_heap hx 0
      refine opIn_skip (w' := w.setCell ⟨N0, 0, none⟩ (.slice A (k + 1) cc)) rfl rfl (by simp) (by simp [execOp, go_sem, e1, hv, hcell, hfree]) ?_
      have far : ∀ g, g ≠ N0 → (w.setCell ⟨N0, 0, none⟩ (.slice A (k + 1) cc)).heap[g]? = w.heap[g]? := fun g hg => Below.heap_setCell w ⟨N0, 0, none⟩ _ g hg
      show TI _ _ _ _ _ _ _ _ _ a _
      refine ⟨true, true, true, true, b4, true, b6, b7, b8, true, true, false, rfl, ?_⟩
      exact { T with
        r2 := hr2.other (g := N0) ((Below.refl _ _).setCell (p := ⟨N0, 0, none⟩) (by show N0 ≤ N0; omega) _) far (fun h => own_ne hr2.o1 T.x1 (by intro cur fz h; injection h with _ h2 _; exact absurd h2 (by decide)) h.symm) (fun h => own_ne hr2.o2 T.x1 (by intro cur fz h; injection h with _ h2 _; exact absurd h2 (by decide)) h.symm),
        x1 := by
          have := heap_setCell_same (a := ⟨N0, 0, none⟩) (v := .slice A (k + 1) cc) hx rfl
          simp only [if_true]
          show _ = some (Obj.cells #[a.tmps[11]?.getD undef] 33 (0, 0))
          rw [hv]
          exact this,
        x2 := (far _ (by omega)).trans T.x2,
        sw := by simpa using T.sw,
        kx := fun g h0 h1 h2 h3 h4 => (far g (by omega)).trans (T.kx g h0 h1 h2 h3 h4),
        f2 := fun _ h => (by cases h),
        f8 := fun _ h => (by cases h),
        c8 := fun _ => rfl, c9 := fun h => (by cases h) }
    · obtain ⟨rfl, rfl, rfl, rfl, rfl, rfl, rfl, rfl, rfl, rfl, rfl, rfl, -⟩ := hi
      have hr2 : R2 N0 w0 w pcs pns (a.tmps[11]?.getD undef) (k + 1) (a.tmps[17]?.getD undef) (k + 1) := T.r2
      obtain ⟨A, cc, hv⟩ := own_slice hr2.o2
      have hx : w.heap[N0 + 1]? = some (.cells #[v2] 30 (0, 0)) := T.x2
      have hcell : w.cell? ⟨N0 + 1, 0, none⟩ = some v2 := by rw [cell_of_heap hx]; rfl
      have hfree : w.frozen? ⟨N0 + 1, 0, none⟩ = false := free_of_heap hx 0
      refine opIn_skip (w' := w.setCell ⟨N0 + 1, 0, none⟩ (.slice A (k + 1) cc)) rfl rfl (by simp) (by simp [execOp, go_sem, e2, hv, hcell, hfree]) ?_
      have far : ∀ g, g ≠ N0 + 1 → (w.setCell ⟨N0 + 1, 0, none⟩ (.slice A (k + 1) cc)).heap[g]? = w.heap[g]? := fun g hg => Below.heap_setCell w ⟨N0 + 1, 0, none⟩ _ g hg
      show TI _ _ _ _ _ _ _ _ _ a _
      refine ⟨true, true, true, true, true, true, true, true, true, true, true, true, rfl, ?_⟩
      exact { T with
        r2 := hr2.other (g := N0 + 1) ((Below.refl _ _).setCell (p := ⟨N0 + 1, 0, none⟩) (by show N0 ≤ N0 + 1; omega) _) far (fun h => own_ne hr2.o1 T.x2 (by intro cur fz h; injection h with _ h2 _; exact absurd h2 (by decide)) h.symm) (fun h => own_ne hr2.o2 T.x2 (by intro cur fz h; injection h with _ h2 _; exact absurd h2 (by decide)) h.symm),
        x2 := by
          have := heap_setCell_same (a := ⟨N0 + 1, 0, none⟩) (v := .slice A (k + 1) cc) hx rfl
          simp only [if_true]
          show _ = some (Obj.cells #[a.tmps[17]?.getD undef] 30 (0, 0))
          rw [hv]
          exact this,
        x1 := (far _ (by omega)).trans T.x1,
        sw := by simpa using T.sw,
        kx := fun g h0 h1 h2 h3 h4 => (far g (by omega)).trans (T.kx g h0 h1 h2 h3 h4),
        f2 := fun _ h => (by cases h),
        f8 := fun _ h => (by cases h),
        c9 := fun _ => rfl }
  · rintro l a w ⟨b0, b1, b2, b3, b4, b5, b6, b7, b8, b9, b10, b11, rfl, T⟩ hr
    have nr : ∀ i, i ∉ Region.ready .any _ _ := fun i => by rw [hr]; exact List.not_mem_nil
    have n0 := nr 0
    simp [Region.ready, Region.binds, List.mem_filter] at n0
    subst n0
    have n1 := nr 1
    simp [Region.ready, Region.binds, List.mem_filter] at n1
    subst n1
    have n2 := nr 2
    simp [Region.ready, Region.binds, List.mem_filter] at n2
    subst n2
    have n3 := nr 3
    simp [Region.ready, Region.binds, List.mem_filter] at n3
    subst n3
    have n4 := nr 4
    simp [Region.ready, Region.binds, List.mem_filter] at n4
    subst n4
    have n5 := nr 5
    simp [Region.ready, Region.binds, List.mem_filter] at n5
    subst n5
    have n6 := nr 6
    simp [Region.ready, Region.binds, List.mem_filter] at n6
    subst n6
    have n7 := nr 7
    simp [Region.ready, Region.binds, List.mem_filter] at n7
    subst n7
    have n8 := nr 8
    simp [Region.ready, Region.binds, List.mem_filter] at n8
    subst n8
    have n9 := nr 9
    simp [Region.ready, Region.binds, List.mem_filter] at n9
    subst n9
    have n10 := nr 10
    simp [Region.ready, Region.binds, List.mem_filter] at n10
    subst n10
    have n11 := nr 11
    simp [Region.ready, Region.binds, List.mem_filter] at n11
    subst n11
    exact hQ a w T
end Go.Proofs.YthjfigaalknoiaaDoor
