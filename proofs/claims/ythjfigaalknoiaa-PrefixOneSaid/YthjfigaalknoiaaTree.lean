/- How a tree of prefix lies in memory: its three cells, its row of nodes, its map. -/
import Derived.Test.YthjfigaalknoiaaBase
import Derived.Test.YthjfigaalknoiaaTrie
namespace Go.Proofs.Ythjfigaalknoiaa
open Go.RowKit Go.Proofs.YthjfigaalknoiaaW.PrintWords

def nd (n : Nd) : List Value := [.int .i64 n.z, .int .i64 n.o, .bool n.leaf, .int .i64 n.num]
def flat (ns : List Nd) : List Value := ns.flatMap nd

theorem flat_length (ns : List Nd) : (flat ns).length = ns.length * 4 := by
  unfold flat
  induction ns with
  | nil => rfl
  | cons n ns ih => rw [List.flatMap_cons, List.length_append, ih, List.length_cons]; simp [nd]; omega
theorem flat_append (ns ms : List Nd) : flat (ns ++ ms) = flat ns ++ flat ms := by simp [flat]
theorem flat_one (n : Nd) : flat [n] = nd n := by simp [flat]
theorem flat_get : ∀ (ns : List Nd) (k j : Nat) (n : Nd), ns[k]? = some n → j < 4 → (flat ns)[k * 4 + j]? = (nd n)[j]? := by
  intro ns
  induction ns with
  | nil => intro k j n h; simp at h
  | cons m ns ih =>
    intro k j n h hj
    show (flat ([m] ++ ns))[k * 4 + j]? = _
    rw [flat_append, flat_one]
    cases k with
    | zero =>
      simp at h; subst h
      rw [List.getElem?_append_left (by simp [nd]; omega)]; simp
    | succ k =>
      rw [List.getElem?_append_right (by simp [nd]; omega)]
      have : (k + 1) * 4 + j - (nd m).length = k * 4 + j := by simp [nd]; omega
      rw [this]
      exact ih k j n (by simpa using h) hj
theorem flat_set : ∀ (ns : List Nd) (k j : Nat) (n n' : Nd) (v : Value), ns[k]? = some n → j < 4 → nd n' = (nd n).set j v → (flat ns).set (k * 4 + j) v = flat (ns.set k n') := by
  intro ns
  induction ns with
  | nil => intro k j n n' v h; simp at h
  | cons m ns ih =>
    intro k j n n' v h hj hn
    cases k with
    | zero =>
      simp at h; subst h
      show (flat ([m] ++ ns)).set (0 * 4 + j) v = flat ([n'] ++ ns)
      rw [flat_append, flat_append, flat_one, flat_one, hn, List.set_append_left _ _ (by simp [nd]; omega)]; simp
    | succ k =>
      show (flat ([m] ++ ns)).set ((k + 1) * 4 + j) v = flat ([m] ++ ns.set k n')
      rw [flat_append, flat_append, flat_one, List.set_append_right _ _ (by simp [nd]; omega)]
      have : (k + 1) * 4 + j - (nd m).length = k * 4 + j := by simp [nd]; omega
      rw [this, ih k j n n' v (by simpa using h) hj hn]

/-- The entries of the map hold just these numbers and texts, in this order. -/
def Ents (es : Array MapEntry) (M : List (Int × ByteArray)) : Prop :=
  es.toList.map (fun e => (e.key, e.val)) = M.map fun c => (Value.int .i64 c.1, Value.agg #[.string c.2])

structure TreeAt (B p g cap bm : Nat) (es : Array MapEntry) (clock : Nat) (w : World) (ns : List Nd) (many : Int) : Prop where
  hp : w.heap[p]? = some (.cells #[.slice (some ⟨g, 0, none⟩) ns.length cap, .map (some bm), .int .i64 many] 46 (0, 0))
  own : w.ownsRow B 91 4 (.slice (some ⟨g, 0, none⟩) ns.length cap) ns.length (flat ns)
  hm : w.heap[bm]? = some (.map es clock)
  Bp : B ≤ p
  Bm : B ≤ bm

section
variable {B p g cap bm : Nat} {es : Array MapEntry} {clock : Nat} {w w' : World} {ns : List Nd} {many : Int}

theorem cell_of_heap {b : Nat} {cs : Array Value} {t : Nat} (h : w.heap[b]? = some (.cells cs t (0, 0))) (j : Nat) : w.cell? ⟨b, j, none⟩ = cs[j]? := by
  unfold World.cell?; simp [h]
theorem free_of_heap {b : Nat} {cs : Array Value} {t : Nat} (h : w.heap[b]? = some (.cells cs t (0, 0))) (j : Nat) : w.frozen? ⟨b, j, none⟩ = false := by
  unfold World.frozen?; simp [h]

theorem TreeAt.c0 (h : TreeAt B p g cap bm es clock w ns many) : w.cell? ⟨p, 0, none⟩ = some (.slice (some ⟨g, 0, none⟩) ns.length cap) := by rw [cell_of_heap h.hp]; rfl
theorem TreeAt.c1 (h : TreeAt B p g cap bm es clock w ns many) : w.cell? ⟨p, 1, none⟩ = some (.map (some bm)) := by rw [cell_of_heap h.hp]; rfl
theorem TreeAt.c2 (h : TreeAt B p g cap bm es clock w ns many) : w.cell? ⟨p, 2, none⟩ = some (.int .i64 many) := by rw [cell_of_heap h.hp]; rfl
theorem TreeAt.free (h : TreeAt B p g cap bm es clock w ns many) (j : Nat) : w.frozen? ⟨p, j, none⟩ = false := free_of_heap h.hp j
theorem TreeAt.gfree (h : TreeAt B p g cap bm es clock w ns many) (j : Nat) : w.frozen? ⟨g, j, none⟩ = false := h.own.frozenAt j
theorem TreeAt.row (h : TreeAt B p g cap bm es clock w ns many) {k : Nat} {n : Nd} (hn : ns[k]? = some n) (j : Nat) (hj : j < 4) : w.cell? ⟨g, k * 4 + j, none⟩ = (nd n)[j]? := by
  have hk : k < ns.length := (List.getElem?_eq_some_iff.1 hn).1
  rw [h.own.cellAt _ (by omega), flat_get ns k j n hn hj]
theorem TreeAt.heapg (h : TreeAt B p g cap bm es clock w ns many) : ∃ cur, w.heap[g]? = some (.cells cur 91 (0, 0)) ∧ B ≤ g := by
  rcases h.own.2 with ⟨e, _⟩ | ⟨g', cap', cur, e, hb, hh, _⟩
  · cases e
  · injection e with e1 _ _; injection e1 with e1; injection e1 with e1
    subst e1
    exact ⟨cur, hh, hb⟩
theorem TreeAt.pg (h : TreeAt B p g cap bm es clock w ns many) : p ≠ g := by
  rintro rfl
  obtain ⟨cur, hc, _⟩ := h.heapg
  rw [h.hp] at hc
  injection hc with hc; injection hc with _ hc _
  exact absurd hc (by decide)
theorem TreeAt.pm (h : TreeAt B p g cap bm es clock w ns many) : p ≠ bm := by
  rintro rfl
  have := h.hp.symm.trans h.hm
  injection this with this; cases this
theorem TreeAt.gm (h : TreeAt B p g cap bm es clock w ns many) : g ≠ bm := by
  rintro rfl
  obtain ⟨cur, hc, _⟩ := h.heapg
  have := hc.symm.trans h.hm
  injection this with this; cases this
theorem TreeAt.plt (h : TreeAt B p g cap bm es clock w ns many) : p < w.heap.size := (Array.getElem?_eq_some_iff.1 h.hp).1
theorem TreeAt.mlt (h : TreeAt B p g cap bm es clock w ns many) : bm < w.heap.size := (Array.getElem?_eq_some_iff.1 h.hm).1
theorem TreeAt.glt (h : TreeAt B p g cap bm es clock w ns many) : g < w.heap.size := by
  obtain ⟨cur, hc, _⟩ := h.heapg
  exact (Array.getElem?_eq_some_iff.1 hc).1

/-- Where its three blocks lie as they lay, the tree lies as it lay. -/
theorem TreeAt.move (h : TreeAt B p g cap bm es clock w ns many) (h1 : w'.heap[p]? = w.heap[p]?) (h2 : w'.heap[g]? = w.heap[g]?) (h3 : w'.heap[bm]? = w.heap[bm]?) : TreeAt B p g cap bm es clock w' ns many :=
  ⟨h1.trans h.hp, own_move h.own (fun k hk => by simp [Value.ownBlock] at hk; subst hk; exact h2), h3.trans h.hm, h.Bp, h.Bm⟩
theorem TreeAt.below (h : TreeAt B p g cap bm es clock w ns many) (hb : Below w.heap.size w w') : TreeAt B p g cap bm es clock w' ns many :=
  h.move (hb.block _ h.plt) (hb.block _ h.glt) (hb.block _ h.mlt)
theorem TreeAt.drewN (h : TreeAt B p g cap bm es clock w ns many) (n : Nat) : TreeAt B p g cap bm es clock (w.drewN n) ns many := h.move rfl rfl rfl

theorem heap_setCell_same {a : Addr} {v : Value} {cs : Array Value} {t : Nat} (h : w.heap[a.block]? = some (.cells cs t (0, 0))) (hs : a.spot = none) : (w.setCell a v).heap[a.block]? = some (.cells (cs.setIfInBounds a.off v) t (0, 0)) := by
  obtain ⟨hlt, hk⟩ := Array.getElem?_eq_some_iff.1 h
  show (w.heap.modify a.block _)[a.block]? = _
  rw [Array.getElem?_eq_getElem (by rw [Array.size_modify]; exact hlt), Array.getElem_modify_self, hk]
  simp [hs]

/-- A store into a node's cell. -/
theorem TreeAt.setNode (h : TreeAt B p g cap bm es clock w ns many) {k j : Nat} {n n' : Nd} {v : Value} (hn : ns[k]? = some n) (hj : j < 4) (hv : nd n' = (nd n).set j v) :
    TreeAt B p g cap bm es clock (w.setCell ⟨g, k * 4 + j, none⟩ v) (ns.set k n') many := by
  have hlen : (ns.set k n').length = ns.length := List.length_set
  refine ⟨?_, ?_, ?_, h.Bp, h.Bm⟩
  · rw [Below.heap_setCell _ _ _ _ h.pg, hlen]; exact h.hp
  · rw [hlen, ← flat_set ns k j n n' v hn hj hv]
    exact (h.own.stored _ _).1
  · rw [Below.heap_setCell _ _ _ _ (Ne.symm h.gm)]; exact h.hm
/-- The count. -/
theorem TreeAt.setMany (h : TreeAt B p g cap bm es clock w ns many) (m : Int) : TreeAt B p g cap bm es clock (w.setCell ⟨p, 2, none⟩ (.int .i64 m)) ns m := by
  refine ⟨?_, ?_, ?_, h.Bp, h.Bm⟩
  · rw [heap_setCell_same (a := ⟨p, 2, none⟩) h.hp rfl]; rfl
  · exact own_move h.own (fun k hk => by simp [Value.ownBlock] at hk; subst hk; exact Below.heap_setCell _ _ _ _ (Ne.symm h.pg))
  · rw [Below.heap_setCell _ _ _ _ (Ne.symm h.pm)]; exact h.hm
/-- The slice of nodes is another one. -/
theorem TreeAt.setRow (h : TreeAt B p g cap bm es clock w ns many) {W : World} {g' cap' : Nat} {ns' : List Nd} (h1 : W.heap[p]? = w.heap[p]?) (h3 : W.heap[bm]? = w.heap[bm]?)
    (ho : W.ownsRow B 91 4 (.slice (some ⟨g', 0, none⟩) ns'.length cap') ns'.length (flat ns')) : TreeAt B p g' cap' bm es clock (W.setCell ⟨p, 0, none⟩ (.slice (some ⟨g', 0, none⟩) ns'.length cap')) ns' many := by
  have hpW := h1.trans h.hp
  have hpg : g' ≠ p := by
    rintro rfl
    rcases ho.2 with ⟨e, _⟩ | ⟨g'', cap'', cur, e, hb, hh, _⟩
    · cases e
    · injection e with e1 _ _; injection e1 with e1; injection e1 with e1
      subst e1
      rw [hpW] at hh
      injection hh with hh; injection hh with _ hh _
      exact absurd hh (by decide)
  refine ⟨?_, ?_, ?_, h.Bp, h.Bm⟩
  · rw [heap_setCell_same (a := ⟨p, 0, none⟩) hpW rfl]; rfl
  · exact own_move ho (fun k hk => by simp [Value.ownBlock] at hk; subst hk; exact Below.heap_setCell _ _ _ _ hpg)
  · rw [Below.heap_setCell _ _ _ _ (Ne.symm h.pm)]; exact h3.trans h.hm
end

/-- A tree lies at p: its nodes, its numbers and texts, how many codes it has. -/
def TreeOf (B p : Nat) (w : World) (ns : List Nd) (M : List (Int × ByteArray)) (many : Int) : Prop :=
  ∃ g cap bm es clock, TreeAt B p g cap bm es clock w ns many ∧ Ents es M
theorem TreeOf.below {B p : Nat} {w w' : World} {ns : List Nd} {M : List (Int × ByteArray)} {many : Int} (h : TreeOf B p w ns M many) (hb : Below w.heap.size w w') : TreeOf B p w' ns M many := by
  obtain ⟨g, cap, bm, es, clock, hT, hE⟩ := h
  exact ⟨g, cap, bm, es, clock, hT.below hb, hE⟩

end Go.Proofs.Ythjfigaalknoiaa
