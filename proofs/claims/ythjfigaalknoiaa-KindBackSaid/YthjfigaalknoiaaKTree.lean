/- kind.tree makes the tree of the ten codes. -/
import Derived.Test.YthjfigaalknoiaaKRound
import Derived.Test.YthjfigaalknoiaaKLoop
set_option linter.unusedVariables false
set_option linter.unusedSimpArgs false
namespace Go.Proofs.Ythjfigaalknoiaa
open Go.RowKit Go.Proofs.YthjfigaalknoiaaW.PrintWords Pt
attribute [local go_sem] Oper.semAt_some

/-- Where the loop of kind.tree stands: the codes and numbers so far. -/
structure KI (w : World) (k : Nat) (v1 v2 : Value) (W : World) : Prop where
  r2 : R2 w.heap.size w W kcs kns v1 k v2 k
  x1 : W.heap[w.heap.size]? = some (.cells #[v1] 22 (0, 0))
  x2 : W.heap[w.heap.size + 1]? = some (.cells #[v2] 23 (0, 0))
  n1 : some (w.heap.size + 2) ≠ v1.ownBlock
  n2 : some (w.heap.size + 2) ≠ v2.ownBlock
  n3 : some (w.heap.size + 3) ≠ v1.ownBlock
  n4 : some (w.heap.size + 3) ≠ v2.ownBlock
def KIx (w : World) (k : Nat) (W : World) : Prop := ∃ v1 v2, KI w k v1 v2 W

theorem KI.below {w W W' : World} {k : Nat} {v1 v2 : Value} (h : KI w k v1 v2 W) (hb : Below W.heap.size W W') : KI w k v1 v2 W' :=
  ⟨h.r2.below hb, (hb.block _ (Array.getElem?_eq_some_iff.1 h.x1).1).trans h.x1, (hb.block _ (Array.getElem?_eq_some_iff.1 h.x2).1).trans h.x2, h.n1, h.n2, h.n3, h.n4⟩
theorem KI.putObj {w W : World} {k : Nat} {v1 v2 : Value} (h : KI w k v1 v2 W) {b : Nat} (hb : b = w.heap.size + 2 ∨ b = w.heap.size + 3) (o : Obj) : KI w k v1 v2 (W.putObj b o) := by
  have far : ∀ g, g ≠ b → (W.putObj b o).heap[g]? = W.heap[g]? := fun g hg => World.putObj_heap_other hg
  have q1 : v1.ownBlock ≠ some b := by rcases hb with rfl | rfl; exact fun e => h.n1 e.symm; exact fun e => h.n3 e.symm
  have q2 : v2.ownBlock ≠ some b := by rcases hb with rfl | rfl; exact fun e => h.n2 e.symm; exact fun e => h.n4 e.symm
  exact ⟨h.r2.other (g := b) (below_putObj (Below.refl _ _) (by omega) o) far q1 q2, (far _ (by omega)).trans h.x1, (far _ (by omega)).trans h.x2, h.n1, h.n2, h.n3, h.n4⟩

/-- What a round finds: the row in a block of its own. -/
def KA (w : World) (k : Nat) (a : Act) (W : World) : Prop :=
  ∃ v1 v2 X, KI w k v1 v2 W ∧ a.tmps.size = 26 ∧ a.tmps[1]?.getD undef = .pointer (some ⟨w.heap.size, 0, none⟩) ∧ a.tmps[2]?.getD undef = .pointer (some ⟨w.heap.size + 1, 0, none⟩) ∧
    a.tmps[3]?.getD undef = .int .i64 ((k : Int) + 1) ∧ a.tmps[4]?.getD undef = .pointer (some ⟨X, 0, none⟩) ∧ w.heap.size + 3 < X ∧ W.heap[X]? = some (.cells (krow k) 110 (0, 0))
theorem KA.putObj {w W : World} {k : Nat} {a : Act} (h : KA w k a W) {b : Nat} (hb : b = w.heap.size + 2 ∨ b = w.heap.size + 3) (o : Obj) : KA w k a (W.putObj b o) := by
  obtain ⟨v1, v2, X, h1, h2, h3, h4, h5, h6, h7, h8⟩ := h
  exact ⟨v1, v2, X, h1.putObj hb o, h2, h3, h4, h5, h6, h7, (World.putObj_heap_other (by omega)).trans h8⟩
theorem krow_code : ∀ k : Nat, k < 10 → ∃ (c : ByteArray) (p1 p2 p3 p4 p5 : Bool), kcs[k]? = some c ∧ krow k = #[.string c, .bool p1, .bool p2, .bool p3, .bool p4, .bool p5]
  | 0, _ => ⟨_, _, _, _, _, _, rfl, rfl⟩
  | 1, _ => ⟨_, _, _, _, _, _, rfl, rfl⟩
  | 2, _ => ⟨_, _, _, _, _, _, rfl, rfl⟩
  | 3, _ => ⟨_, _, _, _, _, _, rfl, rfl⟩
  | 4, _ => ⟨_, _, _, _, _, _, rfl, rfl⟩
  | 5, _ => ⟨_, _, _, _, _, _, rfl, rfl⟩
  | 6, _ => ⟨_, _, _, _, _, _, rfl, rfl⟩
  | 7, _ => ⟨_, _, _, _, _, _, rfl, rfl⟩
  | 8, _ => ⟨_, _, _, _, _, _, rfl, rfl⟩
  | 9, _ => ⟨_, _, _, _, _, _, rfl, rfl⟩
  | n + 10, h => by omega

theorem kbody {w : World} {k r m : Nat} {a : Act} {W : World} {Q : Exit → Act → World → Prop} (hk : k < 10) (h : KA w k a W) (hd : ∃ ds, W.heap[w.heap.size + 2]? = some (.deferred ds)) (hl : ∃ rec, W.heap[w.heap.size + 2 + 1]? = some (.loop rec))
    (hQ : ∀ a' W', allPost (KIx w) (fun _ => False) (w.heap.size + 2) (k + 1) W .normal a' W' → Q .normal a' W') : (Code.region 6 kops true).wpIn (Fence.wide.inRound r) m Try.prog Q a W := by
  obtain ⟨v1, v2, X, hI, hs, h1, h2, h3, h4, hX, hXc⟩ := h
  obtain ⟨c, p1, p2, p3, p4, p5, hc, hr⟩ := krow_code k hk
  rw [hr] at hXc
  obtain ⟨ds, hd⟩ := hd
  obtain ⟨rec, hl⟩ := hl
  have nX1 : some X ≠ v1.ownBlock := own_ne hI.r2.o1 hXc (by intro cur fz h; injection h with _ h2 _; exact absurd h2 (by decide))
  have nX2 : some X ≠ v2.ownBlock := own_ne hI.r2.o2 hXc (by intro cur fz h; injection h with _ h2 _; exact absurd h2 (by decide))
  refine kround (N0 := w.heap.size) (c := c) (kn := (k : Int) + 1) (X := X) (v1 := v1) (v2 := v2) (w0 := w) hc (kns_at k hk) (by omega) hk ?_ nX1 nX2 ⟨p1, p2, p3, p4, p5, hXc⟩ ?_
  · exact {
      sz := hs, t1 := h1, t2 := h2, t3 := h3, t4 := h4,
      r2 := hI.r2.below (below_drew (Below.refl _ _)),
      x1 := hI.x1, x2 := hI.x2, sw := Nat.le_refl _, kx := fun _ _ _ _ _ => rfl,
      f0 := fun h => (by cases h), f1 := fun h => (by cases h), f2 := fun h => (by cases h), f3 := fun h => (by cases h), f5 := fun h => (by cases h), f6 := fun h => (by cases h), f7 := fun h => (by cases h),
      c1 := fun h => (by cases h), c2 := fun h => (by cases h), c3 := fun h => (by cases h), c4 := fun h => (by cases h), c5 := fun h => (by cases h), c6 := fun h => (by cases h), c7 := fun h => (by cases h) }
  · intro a' W' T
    have hr2 : R2 w.heap.size w W' kcs kns (a'.tmps[14]?.getD undef) (k + 1) (a'.tmps[18]?.getD undef) (k + 1) := T.r2
    have d1 : W'.heap[w.heap.size + 2]? = some (.deferred ds) := (T.kx _ (by omega) (Array.getElem?_eq_some_iff.1 hd).1 hI.n1 hI.n2).trans hd
    have d2 : W'.heap[w.heap.size + 3]? = some (.loop rec) := (T.kx _ (by omega) (Array.getElem?_eq_some_iff.1 hl).1 hI.n3 hI.n4).trans hl
    refine hQ _ _ ⟨d1.trans hd.symm, d2.trans hl.symm, _, _, hr2, T.x1, T.x2, own_ne hr2.o1 d1 ?_, own_ne hr2.o2 d1 ?_, own_ne hr2.o1 d2 ?_, own_ne hr2.o2 d2 ?_⟩
    all_goals (intro cur fz h; cases h)

theorem TrB.putObj {B b : Nat} {w : World} {p : Nat} {cs : List ByteArray} {vs : List Int} (h : TrB B w p cs vs) (hb : b < B) (o : Obj) : TrB B (w.putObj b o) p cs vs := by
  have far : ∀ g, B ≤ g → (w.putObj b o).heap[g]? = w.heap[g]? := fun g hg => World.putObj_heap_other (by omega)
  obtain ⟨g, ns, h1, ⟨g2, cap, bm, es, clock, hT, hE⟩, h3, h4⟩ := h
  refine ⟨g, ns, h1, ⟨g2, cap, bm, es, clock, hT.move (far _ hT.Bp) (far _ ?_) (far _ hT.Bm), hE⟩, h3, h4⟩
  obtain ⟨cur, _, hg⟩ := hT.heapg
  omega

set_option maxRecDepth 100000 in
set_option maxHeartbeats 2000000 in
theorem ktree_in (w : World) : CallsIn Fence.wide 3 Try.prog 83 #[] w fun e w' => ∃ p, e = .returned (.pointer (some ⟨p, 0, none⟩)) ∧ Below w.heap.size w w' ∧ Tr w' p kcs kns := by
  refine callsIn_of_wp_marks Try.func83 rfl trivial ?_ rfl
  simp only [Try.ntmps83, List.size_toArray, List.length_cons, List.length_nil, Nat.reduceAdd, Nat.reduceSub, Array.replicate_succ, Array.replicate_zero, List.push_toArray, List.append_toArray, List.nil_append, List.cons_append]
  gi_wp2_with (first | (refine ⟨trivial, ?_⟩; gi_at_call 85; refine (callsIn_wide.2 (all_any _)).mono ?_; rintro e w' ⟨rfl, rfl⟩))
  obtain ⟨W0, hW0⟩ : ∃ W0, (w.alloc (.cells #[.slice none 0 0] 22)).alloc (.cells #[.slice none 0 0] 23) = W0 := ⟨_, rfl⟩
  have hs0 : W0.heap.size = w.heap.size + 2 := by rw [← hW0]; simp
  have hI0 : KIx w 0 W0 := by
    rw [← hW0]
    exact ⟨_, _, ((R2.start w kcs kns).alloc _).alloc _, at_old (at_alloc _ _ rfl), at_alloc _ _ (by simp), by simp [Value.ownBlock], by simp [Value.ownBlock], by simp [Value.ownBlock], by simp [Value.ownBlock]⟩
  rw [hW0]
  clear hW0
  refine wpIn_all (w := W0) rfl (KIx w) (fun _ => False) (KA w) ?below ?putI (fun _ _ _ _ h => h) ?putA ?start ?assign ?body ?done (fun _ h => h.elim)
  case below =>
    rintro k W W' ⟨v1, v2, h⟩ hb
    exact ⟨v1, v2, h.below hb⟩
  case putI =>
    rintro k W b o hb ⟨v1, v2, h⟩
    exact ⟨v1, v2, h.putObj (by omega) o⟩
  case putA =>
    rintro k a1 W b o hb h
    exact h.putObj (by omega) o
  case start =>
    intro o o'
    obtain ⟨v1, v2, h⟩ := hI0
    exact ⟨v1, v2, (h.below (below_alloc (Below.refl _ _) _)).below (below_alloc (Below.refl _ _) _)⟩
  case assign =>
    rintro l k W K ⟨v1, v2, hI⟩ hb hk hK
    rw [hs0] at hb
    obtain ⟨c, p1, p2, p3, p4, p5, hr⟩ := krow_form k hk
    have HI := Lib.hid hI
    have HK := Lib.hid hK
    have HR := Lib.hid hr
    rw [hr]
    clear hI hK hr
    gi_wp2
    refine HK.out _ _ (below_alloc (Below.refl _ _) _) ⟨v1, v2, W.heap.size, HI.out.below (below_alloc (Below.refl _ _) _), rfl, rfl, rfl, rfl, rfl, hb, ?_⟩
    rw [HR.out]
    exact at_alloc _ _ rfl
  case body =>
    intro l k a1 W hk hA hd hl
    rw [hs0] at hd hl ⊢
    refine wpIn_block ?_
    exact kbody hk hA hd hl fun _ _ h => h
  case done =>
    rintro W ⟨v1, v2, hI⟩ hK
    rw [hs0] at hK ⊢
    obtain ⟨A1, c1, A2, c2, rfl, rfl, hC, hV⟩ := hI.r2.rows (by decide) (by decide)
    have HK := Lib.hid hK
    have HC := Lib.hid hC
    have HV := Lib.hid hV
    have HI := Lib.hid hI
    have q1 : W.cell? ⟨w.heap.size, 0, none⟩ = some (.slice A1 kcs.length c1) := by rw [cell_of_heap hI.x1]; rfl
    have q2 : W.cell? ⟨w.heap.size + 1, 0, none⟩ = some (.slice A2 kns.length c2) := by rw [cell_of_heap hI.x2]; rfl
    clear hK hC hV hI hI0
    gi_wp2_with fail
    refine ⟨trivial, ?_⟩
    refine (callsIn_wide.2 (make_trB A1 A2 kcs.length c1 kns.length c2 kcs kns W HC.out HV.out kshort kgood kapart)).mono ?_
    rintro e w' ⟨p, rfl, hb, ht⟩
    have HT := Lib.hid ht
    have HB := Lib.hid hb
    have hkw : w'.heap[w.heap.size + 2]? = some (.deferred (some [])) := (hb.block _ (Array.getElem?_eq_some_iff.1 HK.out).1).trans HK.out
    have HKW := Lib.hid hkw
    clear hb ht hkw
    gi_wp2
    refine ⟨by simp, .inl ⟨_, _, rfl, run_takeDeferred HKW.out, ?_⟩⟩
    have hbw : w.heap.size + 2 < W.heap.size := (Array.getElem?_eq_some_iff.1 HK.out).1
    refine ⟨.pointer (some ⟨p, 0, none⟩), ?_, p, rfl, below_putObj (HI.out.r2.bl.trans (HB.out.mono HI.out.r2.sz)) (by omega) _, (HT.out.putObj hbw _).tr⟩
    simp [results, Try.f83, go_sem]
theorem ktree_any (w : World) : Calls Try.prog 83 #[] w fun e w' => ∃ p, e = .returned (.pointer (some ⟨p, 0, none⟩)) ∧ Below w.heap.size w w' ∧ Tr w' p kcs kns := callsIn_wide.1 (ktree_in w)
end Go.Proofs.Ythjfigaalknoiaa
