/- pattern.tree makes the tree of the 63 codes. -/
import Derived.Test.YthjfigaalknoiaaDoorPRound
import Derived.Test.YthjfigaalknoiaaDoorFLoop
import Derived.Test.YthjfigaalknoiaaDoorPText
set_option linter.unusedVariables false
set_option linter.unusedSimpArgs false
namespace Go.Proofs.YthjfigaalknoiaaDoor
open Go.RowKit Go.Proofs.YthjfigaalknoiaaDoorW.PrintWords Pt
attribute [local go_sem] Oper.semAt_some

theorem pfields_at {k : Nat} {f : List UInt8} (h : (pcs.map fun c => c.data.toList)[k]? = some f) : pcs[k]? = some ⟨f.toArray⟩ := by
  rw [List.getElem?_map] at h
  obtain ⟨c, h1, h2⟩ := Option.map_eq_some_iff.1 h
  rw [h1, ← h2]

theorem own_ne_box {W : World} {B n g : Nat} {v : Value} {xs : List Value} {u : Value} (h : W.ownsRow B 9 1 v n xs) (hn : 0 < n) (hg : W.heap[g]? = some (.cells #[u] 9 (0, 0))) (hu : u ∉ xs) : some g ≠ v.ownBlock := by
  obtain ⟨hl, h2⟩ := h
  rcases h2 with ⟨_, h0⟩ | ⟨g', cap', cur', rfl, _, hg', hc1, _, hc3, hc4⟩
  · omega
  · intro hh
    simp [Value.ownBlock] at hh
    subst hh
    rw [hg] at hg'
    injection hg' with h1
    injection h1 with h2 _ _
    subst h2
    simp at hc3
    have : n = 1 := by omega
    subst this
    simp at hc4
    subst hc4
    simp at hu

/-- Where the loop of pattern.tree stands: the codes and numbers so far. -/
structure PI (w : World) (k : Nat) (v1 v2 : Value) (W : World) : Prop where
  r2 : R2 w.heap.size w W pcs pns v1 k v2 k
  x1 : W.heap[w.heap.size]? = some (.cells #[v1] 33 (0, 0))
  x2 : W.heap[w.heap.size + 1]? = some (.cells #[v2] 30 (0, 0))
  x3 : W.heap[w.heap.size + 2]? = some (.cells #[.string ptext] 9 (0, 0))
  m1 : some (w.heap.size + 2) ≠ v1.ownBlock
  n1 : some (w.heap.size + 3) ≠ v1.ownBlock
  n2 : some (w.heap.size + 3) ≠ v2.ownBlock
  n3 : some (w.heap.size + 4) ≠ v1.ownBlock
  n4 : some (w.heap.size + 4) ≠ v2.ownBlock
def PIx (w : World) (k : Nat) (W : World) : Prop := ∃ v1 v2, PI w k v1 v2 W

theorem PI.below {w W W' : World} {k : Nat} {v1 v2 : Value} (h : PI w k v1 v2 W) (hb : Below W.heap.size W W') : PI w k v1 v2 W' :=
  ⟨h.r2.below hb, (hb.block _ (Array.getElem?_eq_some_iff.1 h.x1).1).trans h.x1, (hb.block _ (Array.getElem?_eq_some_iff.1 h.x2).1).trans h.x2, (hb.block _ (Array.getElem?_eq_some_iff.1 h.x3).1).trans h.x3, h.m1, h.n1, h.n2, h.n3, h.n4⟩
theorem PI.putObj {w W : World} {k : Nat} {v1 v2 : Value} (h : PI w k v1 v2 W) {b : Nat} (hb : b = w.heap.size + 3 ∨ b = w.heap.size + 4) (o : Obj) : PI w k v1 v2 (W.putObj b o) := by
  have far : ∀ g, g ≠ b → (W.putObj b o).heap[g]? = W.heap[g]? := fun g hg => World.putObj_heap_other hg
  have q1 : v1.ownBlock ≠ some b := by rcases hb with rfl | rfl; exact fun e => h.n1 e.symm; exact fun e => h.n3 e.symm
  have q2 : v2.ownBlock ≠ some b := by rcases hb with rfl | rfl; exact fun e => h.n2 e.symm; exact fun e => h.n4 e.symm
  exact ⟨h.r2.other (g := b) (below_putObj (Below.refl _ _) (by omega) o) far q1 q2, (far _ (by omega)).trans h.x1, (far _ (by omega)).trans h.x2, (far _ (by omega)).trans h.x3, h.m1, h.n1, h.n2, h.n3, h.n4⟩

/-- What a round finds. -/
def PA (w : World) (k : Nat) (a : Act) (W : World) : Prop :=
  ∃ v1 v2 c, PI w k v1 v2 W ∧ a.tmps.size = 25 ∧ a.tmps[1]?.getD undef = .pointer (some ⟨w.heap.size, 0, none⟩) ∧ a.tmps[2]?.getD undef = .pointer (some ⟨w.heap.size + 1, 0, none⟩) ∧
    a.tmps[3]?.getD undef = .string c ∧ pcs[k]? = some c
theorem PA.putObj {w W : World} {k : Nat} {a : Act} (h : PA w k a W) {b : Nat} (hb : b = w.heap.size + 3 ∨ b = w.heap.size + 4) (o : Obj) : PA w k a (W.putObj b o) := by
  obtain ⟨v1, v2, c, h1, h2⟩ := h
  exact ⟨v1, v2, c, h1.putObj hb o, h2⟩

theorem pbody {w : World} {k r m : Nat} {a : Act} {W : World} {Q : Exit → Act → World → Prop} (hk : k < 63) (h : PA w k a W) (hd : ∃ ds, W.heap[w.heap.size + 3]? = some (.deferred ds)) (hl : ∃ rec, W.heap[w.heap.size + 3 + 1]? = some (.loop rec))
    (hQ : ∀ a' W', fldPost (PIx w) (fun _ => False) (w.heap.size + 3) (k + 1) W .normal a' W' → Q .normal a' W') : (Code.region 5 pops true).wpIn (Fence.wide.inRound r) m Tryd.prog Q a W := by
  obtain ⟨v1, v2, c, hI, hs, h1, h2, h3, hc⟩ := h
  obtain ⟨ds, hd⟩ := hd
  obtain ⟨rec, hl⟩ := hl
  refine pround (N0 := w.heap.size) (c := c) (kn := (k : Int) + 1) (v1 := v1) (v2 := v2) (w0 := w) hc (pns_at k hk) rfl hk (own_slice hI.r2.o1) ?_ ?_
  · exact {
      sz := hs, t1 := h1, t2 := h2, t3 := h3,
      r2 := hI.r2.below (below_drew (Below.refl _ _)),
      x1 := hI.x1, x2 := hI.x2, sw := Nat.le_refl _, kx := fun _ _ _ _ _ _ => rfl,
      f0 := fun h => (by cases h), f1 := fun h => (by cases h), f2 := fun h => (by cases h), f4 := fun h => (by cases h), f5 := fun h => (by cases h), f6 := fun h => (by cases h), f7 := fun h => (by cases h), f8 := fun h => (by cases h),
      c1 := fun h => (by cases h), c3 := fun h => (by cases h), c4 := fun h => (by cases h), c5 := fun h => (by cases h), c6 := fun h => (by cases h), c7 := fun h => (by cases h), c8 := fun h => (by cases h), c9 := fun h => (by cases h) }
  · intro a' W' T
    have hr2 : R2 w.heap.size w W' pcs pns (a'.tmps[11]?.getD undef) (k + 1) (a'.tmps[17]?.getD undef) (k + 1) := T.r2
    have d1 : W'.heap[w.heap.size + 3]? = some (.deferred ds) := (T.kx _ (by omega) (by omega) (Array.getElem?_eq_some_iff.1 hd).1 hI.n1 hI.n2).trans hd
    have d2 : W'.heap[w.heap.size + 4]? = some (.loop rec) := (T.kx _ (by omega) (by omega) (Array.getElem?_eq_some_iff.1 hl).1 hI.n3 hI.n4).trans hl
    have d3 : W'.heap[w.heap.size + 2]? = some (.cells #[.string ptext] 9 (0, 0)) := (T.kx _ (by omega) (by omega) (Array.getElem?_eq_some_iff.1 hI.x3).1 hI.m1 (own_ne hI.r2.o2 hI.x3 (by intro cur fz h; injection h with _ h2 _; exact absurd h2 (by decide)))).trans hI.x3
    refine hQ _ _ ⟨d1.trans hd.symm, d2.trans hl.symm, _, _, hr2, T.x1, T.x2, d3, own_ne_box hr2.o1 (Nat.succ_pos _) d3 ?_, own_ne hr2.o1 d1 ?_, own_ne hr2.o2 d1 ?_, own_ne hr2.o1 d2 ?_, own_ne hr2.o2 d2 ?_⟩
    · intro hm
      rw [List.mem_map] at hm
      obtain ⟨x, hx, he⟩ := hm
      injection he with he
      have h9 := pcs_size x (List.mem_of_mem_take hx)
      have := ptext_size.1
      rw [← he] at this
      omega
    all_goals (intro cur fz h; cases h)

theorem TrB.putObj {B b : Nat} {w : World} {p : Nat} {cs : List ByteArray} {vs : List Int} (h : TrB B w p cs vs) (hb : b < B) (o : Obj) : TrB B (w.putObj b o) p cs vs := by
  have far : ∀ g, B ≤ g → (w.putObj b o).heap[g]? = w.heap[g]? := fun g hg => World.putObj_heap_other (by omega)
  obtain ⟨g, ns, h1, ⟨g2, cap, bm, es, clock, hT, hE⟩, h3, h4⟩ := h
  refine ⟨g, ns, h1, ⟨g2, cap, bm, es, clock, hT.move (far _ hT.Bp) (far _ ?_) (far _ hT.Bm), hE⟩, h3, h4⟩
  obtain ⟨cur, _, hg⟩ := hT.heapg
  omega
theorem Spaces.below {w W : World} (h : Spaces w) (hb : Below w.heap.size w W) : Spaces W := fun b => (hb.cell (p := ⟨0, b.toNat, none⟩) (World.block_lt_of_cell? w _ (h b))).trans (h b)

set_option maxRecDepth 100000 in
set_option maxHeartbeats 2000000 in
theorem ptree_in (w : World) (hsp : Spaces w) : CallsIn Fence.wide 3 Tryd.prog 27 #[] w fun e w' => ∃ p, e = .returned (.pointer (some ⟨p, 0, none⟩)) ∧ Below w.heap.size w w' ∧ Tr w' p pcs pns := by
  have HSP := Lib.hid hsp
  clear hsp
  refine callsIn_of_wp_marks Tryd.func27 rfl trivial ?_ rfl
  simp only [Tryd.ntmps27, List.size_toArray, List.length_cons, List.length_nil, Nat.reduceAdd, Nat.reduceSub, Array.replicate_succ, Array.replicate_zero, List.push_toArray, List.append_toArray, List.nil_append, List.cons_append]
  gi_wp2_with fail
  refine ⟨trivial, ?_⟩
  refine (callsIn_wide.2 (fseq_any ptext _)).mono ?_
  rintro e W0 ⟨rfl, hW0⟩
  have hs0 : W0.heap.size = w.heap.size + 3 := by rw [← hW0]; simp
  have hI0 : PIx w 0 W0 := by
    rw [← hW0]
    exact ⟨_, _, (((R2.start w pcs pns).alloc _).alloc _).alloc _, at_old (at_old (at_alloc _ _ rfl)), at_old (at_alloc _ _ (by simp)), at_alloc _ _ (by simp), by simp [Value.ownBlock], by simp [Value.ownBlock], by simp [Value.ownBlock], by simp [Value.ownBlock], by simp [Value.ownBlock]⟩
  clear hW0
  gi_wp2
  refine wpIn_fields (w := W0) (s := ptext) (bx := w.heap.size + 1 + 1) rfl ptext_fields ptext_size.2 ptext_asc (PIx w) (fun _ => False) (PA w) ?facts ?putI (fun _ _ _ _ h => h) ?putA ?start ?assign ?body ?done (fun _ h => h.elim)
  case facts =>
    rintro k W ⟨v1, v2, h⟩
    refine ⟨by rw [show w.heap.size + 1 + 1 = w.heap.size + 2 from rfl, cell_of_heap h.x3]; rfl, HSP.out.below h.r2.bl⟩
  case putI =>
    rintro k W b o hb ⟨v1, v2, h⟩
    exact ⟨v1, v2, h.putObj (by omega) o⟩
  case putA =>
    rintro k a1 W b o hb h
    exact h.putObj (by omega) o
  case start =>
    intro o o'
    obtain ⟨v1, v2, h⟩ := hI0
    exact ⟨v1, v2, (h.below (below_alloc (Below.refl _ _) _)).below (below_alloc (Below.refl _ _) _)⟩
  case assign =>
    rintro l k f W K ⟨v1, v2, hI⟩ hf hK
    have HI := Lib.hid hI
    have HK := Lib.hid hK
    have HF := Lib.hid (pfields_at hf)
    clear hI hK hf hI0
    gi_wp2
    exact HK.out _ ⟨v1, v2, _, HI.out, rfl, rfl, rfl, rfl, HF.out⟩
  case body =>
    intro l k a1 W hk hA hd hl
    rw [hs0] at hd hl ⊢
    refine wpIn_block ?_
    exact pbody (by rw [List.length_map] at hk; exact hk) hA hd hl fun _ _ h => h
  case done =>
    rintro W ⟨v1, v2, hI⟩ hK
    rw [hs0] at hK ⊢
    have hlen : (pcs.map fun c => c.data.toList).length = 63 := rfl
    rw [hlen] at hI
    obtain ⟨A1, c1, A2, c2, rfl, rfl, hC, hV⟩ := R2.rows (cs := pcs) (vs := pns) hI.r2 (by decide) (by decide)
    have HK := Lib.hid hK
    have HC := Lib.hid hC
    have HV := Lib.hid hV
    have HI := Lib.hid hI
    have q1 : W.cell? ⟨w.heap.size, 0, none⟩ = some (.slice A1 pcs.length c1) := by rw [cell_of_heap hI.x1]; rfl
    have q2 : W.cell? ⟨w.heap.size + 1, 0, none⟩ = some (.slice A2 pns.length c2) := by rw [cell_of_heap hI.x2]; rfl
    clear hK hC hV hI hI0 hlen
    gi_wp2_with fail
    refine ⟨trivial, ?_⟩
    refine (callsIn_wide.2 (make_trB A1 A2 pcs.length c1 pns.length c2 pcs pns W HC.out HV.out pshort pgood papart)).mono ?_
    rintro e w' ⟨p, rfl, hb, ht⟩
    have HT := Lib.hid ht
    have HB := Lib.hid hb
    have hkw : w'.heap[w.heap.size + 3]? = some (.deferred (some [])) := (hb.block _ (Array.getElem?_eq_some_iff.1 HK.out).1).trans HK.out
    have HKW := Lib.hid hkw
    clear hb ht hkw
    gi_wp2
    refine ⟨by simp, .inl ⟨_, _, rfl, run_takeDeferred HKW.out, ?_⟩⟩
    have hbw : w.heap.size + 3 < W.heap.size := (Array.getElem?_eq_some_iff.1 HK.out).1
    refine ⟨.pointer (some ⟨p, 0, none⟩), ?_, p, rfl, below_putObj (HI.out.r2.bl.trans (HB.out.mono HI.out.r2.sz)) (by omega) _, (HT.out.putObj hbw _).tr⟩
    simp [results, Tryd.f27, go_sem]
theorem ptree_any (w : World) (hsp : Spaces w) : Calls Tryd.prog 27 #[] w fun e w' => ∃ p, e = .returned (.pointer (some ⟨p, 0, none⟩)) ∧ Below w.heap.size w w' ∧ Tr w' p pcs pns := callsIn_wide.1 (ptree_in w hsp)
end Go.Proofs.YthjfigaalknoiaaDoor
