/- (*prefix.Tree).Get reads a code: at a tree that lies in memory, at nil, at a tree that nobody made; at all bytes, any place. -/
import Derived.Test.YthjfigaalknoiaaFromLoop
import Derived.Test.YthjfigaalknoiaaTells
import Derived.Test.YthjfigaalknoiaaRound
import Derived.Test.YthjfigaalknoiaaMake
set_option linter.unusedVariables false
set_option linter.unusedSimpArgs false
namespace Go.Proofs.Ythjfigaalknoiaa
open Go.RowKit Go.Proofs.YthjfigaalknoiaaW.PrintWords Pt
attribute [local go_sem] Oper.semAt_some

theorem get_nil (A : Option Addr) (n c : Nat) (i : Int) (w : World) : Calls Try.prog 25 #[.pointer none, .slice A n c, .int .i64 i] w fun e w' => e = .returned (.tuple #[.int .i64 0, .int .i64 0, .int .i64 1]) ∧ Below w.heap.size w w' := by
  go_enter Try.func25, Try.ntmps25
  go_wp2_with (go_at_call 77; refine (none_nil _).mono ?_; rintro e w' ⟨rfl, rfl⟩)
  refine bodyPost_ret (v := .tuple #[.int .i64 0, .int .i64 0, .int .i64 1]) (by simp [results, Try.results25, go_sem]) rfl ⟨rfl, ?_⟩
  exact below_alloc (below_alloc (below_alloc (below_alloc (Below.refl _ _) _) _) _) _

theorem at_old {w : World} {o : Obj} {k : Nat} {x : Obj} (h : w.heap[k]? = some x) : (w.alloc o).heap[k]? = some x := (Below.heap_alloc w o k (Array.getElem?_eq_some_iff.1 h).1).trans h
def bitsFrom (bs : List Int) (i n : Nat) : List Bool := (List.range' i (8 * n - i)).map (bitAt bs)
theorem bitsFrom_get {bs : List Int} {i n k : Nat} (h : i + k < 8 * n) : (bitsFrom bs i n)[k]? = some (bitAt bs (i + k)) := by
  unfold bitsFrom
  rw [List.getElem?_map, List.getElem?_range' (by omega)]
  simp
theorem bitsFrom_length (bs : List Int) (i n : Nat) : (bitsFrom bs i n).length = 8 * n - i := by simp [bitsFrom]

/-- Where a reading stands. -/
structure GI (w : World) (p : Nat) (A : Option Addr) (nn cc : Nat) (ns : List Nd) (R : Res) (bits : List Bool) (k : Nat) (m : Int) (W : World) : Prop where
  bl : Below w.heap.size w W
  b0 : W.heap[w.heap.size]? = some (.cells #[.pointer (some ⟨p, 0, none⟩)] 28 (0, 0))
  b1 : W.heap[w.heap.size + 1]? = some (.cells #[.int .i64 0] 3 (0, 0))
  b2 : W.heap[w.heap.size + 1 + 1]? = some (.cells #[.int .i64 0] 3 (0, 0))
  b3 : W.heap[w.heap.size + 1 + 1 + 1]? = some (.cells #[.int .i64 0] 29 (0, 0))
  b4 : ∃ (n : Nd) (j : Nat), ns[j]? = some n ∧ R = Pt.get ns n k (bits.drop k) ∧ W.heap[w.heap.size + 1 + 1 + 1 + 1]? = some (.cells #[.int .i64 (n.z : Int), .int .i64 (n.o : Int), .bool n.leaf, .int .i64 n.num] 91 (0, 0))
  b5 : W.heap[w.heap.size + 1 + 1 + 1 + 1 + 1]? = some (.cells #[.int .i64 m] 3 (0, 0))
  b6 : W.heap[w.heap.size + 1 + 1 + 1 + 1 + 1 + 1]? = some (.cells #[.slice A nn cc] 24 (0, 0))
  b7 : ∃ v, W.heap[w.heap.size + 1 + 1 + 1 + 1 + 1 + 1 + 1]? = some (.cells #[v] 3 (0, 0))

def resV : Res → Int | .ok v _ => v | _ => 0
def resN : Res → Int | .ok _ n => n | _ => 0
def resE : Res → Int | .ok _ _ => 0 | .more => 5 | .code => 7

structure GX (w : World) (R : Res) (W : World) : Prop where
  bl : Below w.heap.size w W
  b1 : W.heap[w.heap.size + 1]? = some (.cells #[.int .i64 (resV R)] 3 (0, 0))
  b2 : W.heap[w.heap.size + 1 + 1]? = some (.cells #[.int .i64 (resN R)] 3 (0, 0))
  b3 : W.heap[w.heap.size + 1 + 1 + 1]? = some (.cells #[.int .i64 (resE R)] 29 (0, 0))

theorem GI.set7 {w W : World} {p : Nat} {A : Option Addr} {nn cc : Nat} {ns : List Nd} {R : Res} {bits : List Bool} {k : Nat} {m : Int} (h : GI w p A nn cc ns R bits k m W) (v : Value) : GI w p A nn cc ns R bits k m (W.setCell ⟨w.heap.size + 1 + 1 + 1 + 1 + 1 + 1 + 1, 0, none⟩ v) := by
  have far : ∀ b, b ≠ w.heap.size + 1 + 1 + 1 + 1 + 1 + 1 + 1 → (W.setCell ⟨w.heap.size + 1 + 1 + 1 + 1 + 1 + 1 + 1, 0, none⟩ v).heap[b]? = W.heap[b]? := fun b hb => Below.heap_setCell W ⟨_, 0, none⟩ v b hb
  obtain ⟨v0, h7⟩ := h.b7
  obtain ⟨n, j, hn, hR, h4⟩ := h.b4
  exact ⟨h.bl.setCell (p := ⟨_, 0, none⟩) (by show w.heap.size ≤ w.heap.size + 1 + 1 + 1 + 1 + 1 + 1 + 1; omega) v, (far _ (by omega)).trans h.b0, (far _ (by omega)).trans h.b1, (far _ (by omega)).trans h.b2, (far _ (by omega)).trans h.b3,
    ⟨n, j, hn, hR, (far _ (by omega)).trans h4⟩, (far _ (by omega)).trans h.b5, (far _ (by omega)).trans h.b6, ⟨v, heap_setCell_same (a := ⟨_, 0, none⟩) h7 rfl⟩⟩
theorem GI.putObj {w W : World} {p : Nat} {A : Option Addr} {nn cc : Nat} {ns : List Nd} {R : Res} {bits : List Bool} {k : Nat} {m : Int} (h : GI w p A nn cc ns R bits k m W) (b : Nat) (o : Obj) (hb : w.heap.size + 8 ≤ b) : GI w p A nn cc ns R bits k m (W.putObj b o) := by
  have far : ∀ c, c < w.heap.size + 8 → (W.putObj b o).heap[c]? = W.heap[c]? := fun c hc => World.putObj_heap_other (by omega)
  obtain ⟨v0, h7⟩ := h.b7
  obtain ⟨n, j, hn, hR, h4⟩ := h.b4
  exact ⟨below_putObj h.bl (by omega) o, (far _ (by omega)).trans h.b0, (far _ (by omega)).trans h.b1, (far _ (by omega)).trans h.b2, (far _ (by omega)).trans h.b3,
    ⟨n, j, hn, hR, (far _ (by omega)).trans h4⟩, (far _ (by omega)).trans h.b5, (far _ (by omega)).trans h.b6, ⟨v0, (far _ (by omega)).trans h7⟩⟩
theorem GX.putObj {w W : World} {R : Res} (h : GX w R W) (b : Nat) (o : Obj) (hb : w.heap.size + 8 ≤ b) : GX w R (W.putObj b o) := by
  have far : ∀ c, c < w.heap.size + 8 → (W.putObj b o).heap[c]? = W.heap[c]? := fun c hc => World.putObj_heap_other (by omega)
  exact ⟨below_putObj h.bl (by omega) o, (far _ (by omega)).trans h.b1, (far _ (by omega)).trans h.b2, (far _ (by omega)).trans h.b3⟩

theorem GI.set5 {w W : World} {p : Nat} {A : Option Addr} {nn cc : Nat} {ns : List Nd} {R : Res} {bits : List Bool} {k : Nat} {m : Int} (h : GI w p A nn cc ns R bits k m W) (x : Int) : GI w p A nn cc ns R bits k x (W.setCell ⟨w.heap.size + 1 + 1 + 1 + 1 + 1, 0, none⟩ (.int .i64 x)) := by
  have far : ∀ b, b ≠ w.heap.size + 1 + 1 + 1 + 1 + 1 → (W.setCell ⟨w.heap.size + 1 + 1 + 1 + 1 + 1, 0, none⟩ (.int .i64 x)).heap[b]? = W.heap[b]? := fun b hb => Below.heap_setCell W ⟨_, 0, none⟩ _ b hb
  obtain ⟨v0, h7⟩ := h.b7
  obtain ⟨n, j, hn, hR, h4⟩ := h.b4
  exact ⟨h.bl.setCell (p := ⟨_, 0, none⟩) (by show w.heap.size ≤ w.heap.size + 1 + 1 + 1 + 1 + 1; omega) _, (far _ (by omega)).trans h.b0, (far _ (by omega)).trans h.b1, (far _ (by omega)).trans h.b2, (far _ (by omega)).trans h.b3,
    ⟨n, j, hn, hR, (far _ (by omega)).trans h4⟩, heap_setCell_same (a := ⟨_, 0, none⟩) h.b5 rfl, (far _ (by omega)).trans h.b6, ⟨v0, (far _ (by omega)).trans h7⟩⟩
theorem rets3 {w W : World} (bl : Below w.heap.size w W) {x1 x2 x3 : Value} (b1 : W.heap[w.heap.size + 1]? = some (.cells #[x1] 3 (0, 0))) (b2 : W.heap[w.heap.size + 1 + 1]? = some (.cells #[x2] 3 (0, 0))) (b3 : W.heap[w.heap.size + 1 + 1 + 1]? = some (.cells #[x3] 29 (0, 0))) (v1 v2 v3 : Value) :
    (∀ b, b ≠ w.heap.size + 1 → b ≠ w.heap.size + 1 + 1 → b ≠ w.heap.size + 1 + 1 + 1 → (((W.setCell ⟨w.heap.size + 1, 0, none⟩ v1).setCell ⟨w.heap.size + 1 + 1, 0, none⟩ v2).setCell ⟨w.heap.size + 1 + 1 + 1, 0, none⟩ v3).heap[b]? = W.heap[b]?) ∧
    Below w.heap.size w (((W.setCell ⟨w.heap.size + 1, 0, none⟩ v1).setCell ⟨w.heap.size + 1 + 1, 0, none⟩ v2).setCell ⟨w.heap.size + 1 + 1 + 1, 0, none⟩ v3) ∧
    (((W.setCell ⟨w.heap.size + 1, 0, none⟩ v1).setCell ⟨w.heap.size + 1 + 1, 0, none⟩ v2).setCell ⟨w.heap.size + 1 + 1 + 1, 0, none⟩ v3).heap[w.heap.size + 1]? = some (.cells #[v1] 3 (0, 0)) ∧
    (((W.setCell ⟨w.heap.size + 1, 0, none⟩ v1).setCell ⟨w.heap.size + 1 + 1, 0, none⟩ v2).setCell ⟨w.heap.size + 1 + 1 + 1, 0, none⟩ v3).heap[w.heap.size + 1 + 1]? = some (.cells #[v2] 3 (0, 0)) ∧
    (((W.setCell ⟨w.heap.size + 1, 0, none⟩ v1).setCell ⟨w.heap.size + 1 + 1, 0, none⟩ v2).setCell ⟨w.heap.size + 1 + 1 + 1, 0, none⟩ v3).heap[w.heap.size + 1 + 1 + 1]? = some (.cells #[v3] 29 (0, 0)) := by
  have far : ∀ (X : World) (a b : Nat) (v : Value), b ≠ a → (X.setCell ⟨a, 0, none⟩ v).heap[b]? = X.heap[b]? := fun X a b v hb => Below.heap_setCell X ⟨a, 0, none⟩ v b hb
  have s1 : (W.setCell ⟨w.heap.size + 1, 0, none⟩ v1).heap[w.heap.size + 1]? = some (.cells #[v1] 3 (0, 0)) := heap_setCell_same (a := ⟨w.heap.size + 1, 0, none⟩) b1 rfl
  have s2 : ((W.setCell ⟨w.heap.size + 1, 0, none⟩ v1).setCell ⟨w.heap.size + 1 + 1, 0, none⟩ v2).heap[w.heap.size + 1 + 1]? = some (.cells #[v2] 3 (0, 0)) := heap_setCell_same (a := ⟨w.heap.size + 1 + 1, 0, none⟩) ((far W (w.heap.size + 1) (w.heap.size + 1 + 1) v1 (by omega)).trans b2) rfl
  refine ⟨fun b h1 h2 h3 => (far _ _ _ _ h3).trans ((far _ _ _ _ h2).trans (far _ _ _ _ h1)), ?_, ?_, ?_, ?_⟩
  · exact ((bl.setCell (p := ⟨_, 0, none⟩) (by show w.heap.size ≤ w.heap.size + 1; omega) _).setCell (p := ⟨_, 0, none⟩) (by show w.heap.size ≤ w.heap.size + 1 + 1; omega) _).setCell (p := ⟨_, 0, none⟩) (by show w.heap.size ≤ w.heap.size + 1 + 1 + 1; omega) _
  · exact (far _ _ _ _ (by omega)).trans ((far _ _ _ _ (by omega)).trans s1)
  · exact (far _ _ _ _ (by omega)).trans s2
  · exact heap_setCell_same (a := ⟨w.heap.size + 1 + 1 + 1, 0, none⟩) ((far (W.setCell ⟨w.heap.size + 1, 0, none⟩ v1) (w.heap.size + 1 + 1) (w.heap.size + 1 + 1 + 1) v2 (by omega)).trans ((far W (w.heap.size + 1) (w.heap.size + 1 + 1 + 1) v1 (by omega)).trans b3)) rfl

theorem GI.set4 {w W : World} {n : Nd} (m : Nd) (h4 : W.heap[w.heap.size + 1 + 1 + 1 + 1]? = some (.cells #[.int .i64 (n.z : Int), .int .i64 (n.o : Int), .bool n.leaf, .int .i64 n.num] 91 (0, 0))) :
    (∀ b, b ≠ w.heap.size + 1 + 1 + 1 + 1 → ((((W.setCell ⟨w.heap.size + 1 + 1 + 1 + 1, 0, none⟩ (.int .i64 (m.z : Int))).setCell ⟨w.heap.size + 1 + 1 + 1 + 1, 1, none⟩ (.int .i64 (m.o : Int))).setCell ⟨w.heap.size + 1 + 1 + 1 + 1, 2, none⟩ (.bool m.leaf)).setCell ⟨w.heap.size + 1 + 1 + 1 + 1, 3, none⟩ (.int .i64 m.num)).drew.heap[b]? = W.heap[b]?) ∧
    ((((W.setCell ⟨w.heap.size + 1 + 1 + 1 + 1, 0, none⟩ (.int .i64 (m.z : Int))).setCell ⟨w.heap.size + 1 + 1 + 1 + 1, 1, none⟩ (.int .i64 (m.o : Int))).setCell ⟨w.heap.size + 1 + 1 + 1 + 1, 2, none⟩ (.bool m.leaf)).setCell ⟨w.heap.size + 1 + 1 + 1 + 1, 3, none⟩ (.int .i64 m.num)).drew.heap[w.heap.size + 1 + 1 + 1 + 1]? = some (.cells #[.int .i64 (m.z : Int), .int .i64 (m.o : Int), .bool m.leaf, .int .i64 m.num] 91 (0, 0)) ∧
    (Below w.heap.size w W → Below w.heap.size w ((((W.setCell ⟨w.heap.size + 1 + 1 + 1 + 1, 0, none⟩ (.int .i64 (m.z : Int))).setCell ⟨w.heap.size + 1 + 1 + 1 + 1, 1, none⟩ (.int .i64 (m.o : Int))).setCell ⟨w.heap.size + 1 + 1 + 1 + 1, 2, none⟩ (.bool m.leaf)).setCell ⟨w.heap.size + 1 + 1 + 1 + 1, 3, none⟩ (.int .i64 m.num)).drew) := by
  have far : ∀ (X : World) (b j : Nat) (v : Value), b ≠ w.heap.size + 1 + 1 + 1 + 1 → (X.setCell ⟨w.heap.size + 1 + 1 + 1 + 1, j, none⟩ v).heap[b]? = X.heap[b]? := fun X b j v hb => Below.heap_setCell X ⟨_, j, none⟩ v b hb
  have hle : w.heap.size ≤ w.heap.size + 1 + 1 + 1 + 1 := by omega
  refine ⟨fun b hb => (far _ b _ _ hb).trans ((far _ b _ _ hb).trans ((far _ b _ _ hb).trans (far _ b _ _ hb))), ?_, fun hb => ?_⟩
  · have t0 := heap_setCell_same (a := ⟨w.heap.size + 1 + 1 + 1 + 1, 0, none⟩) (v := .int .i64 (m.z : Int)) h4 rfl
    have t1 := heap_setCell_same (a := ⟨w.heap.size + 1 + 1 + 1 + 1, 1, none⟩) (v := .int .i64 (m.o : Int)) t0 rfl
    have t2 := heap_setCell_same (a := ⟨w.heap.size + 1 + 1 + 1 + 1, 2, none⟩) (v := .bool m.leaf) t1 rfl
    exact heap_setCell_same (a := ⟨w.heap.size + 1 + 1 + 1 + 1, 3, none⟩) (v := .int .i64 m.num) t2 rfl
  · exact below_drew ((((hb.setCell (p := ⟨_, 0, none⟩) hle _).setCell (p := ⟨_, 1, none⟩) hle _).setCell (p := ⟨_, 2, none⟩) hle _).setCell (p := ⟨_, 3, none⟩) hle _)

set_option maxRecDepth 100000 in
set_option maxHeartbeats 4000000 in
theorem get_main {p : Nat} {ns : List Nd} {M : List (Int × ByteArray)} {many : Int} (A : Option Addr) (nn cc : Nat) (bs : List Int) (at0 : Nat) (w : World) (B : Nat) (hT : TreeOf B p w ns M many) (hm : 0 < many) (hwf : Wf ns) (h0 : 0 < ns.length)
    (hB : Bytes w A nn bs) (hat : at0 < 9223372036854775808) (n0 : Nd) (hn0 : ns[0]? = some n0) (R : Res) (hR : R = Pt.get ns n0 0 (bitsFrom bs at0 nn)) :
    CallsIn Fence.wide 3 Try.prog 25 #[.pointer (some ⟨p, 0, none⟩), .slice A nn cc, .int .i64 (at0 : Int)] w fun e w' => e = .returned (.tuple #[.int .i64 (resV R), .int .i64 (resN R), .int .i64 (resE R)]) ∧ Below w.heap.size w w' := by
  have HTO := Lib.hid hT
  obtain ⟨g, cap, bm, es, clock, hT, hE⟩ := hT
  have f0 := hT.c0
  have r0 := hT.row hn0 0 (by omega)
  have r1 := hT.row hn0 1 (by omega)
  have r2 := hT.row hn0 2 (by omega)
  have r3 := hT.row hn0 3 (by omega)
  simp only [nd, Nat.zero_mul, Nat.zero_add, List.getElem?_cons_succ, List.getElem?_cons_zero] at r0 r1 r2 r3
  have HN0 := Lib.hid hn0
  have HR0 := Lib.hid hR
  have hp := hT.plt
  have hg := hT.glt
  have HT := Lib.hid hT
  have HWF := Lib.hid hwf
  clear hT hE hn0 hR hwf
  have hp1 : p < w.heap.size + 1 := by omega
  have hp2 : p < w.heap.size + 1 + 1 := by omega
  have hp3 : p < w.heap.size + 1 + 1 + 1 := by omega
  have hp4 : p < w.heap.size + 1 + 1 + 1 + 1 := by omega
  have hg1 : g < w.heap.size + 1 := by omega
  have hg2 : g < w.heap.size + 1 + 1 := by omega
  have hg3 : g < w.heap.size + 1 + 1 + 1 := by omega
  have hg4 : g < w.heap.size + 1 + 1 + 1 + 1 := by omega
  have HB := Lib.hid hB
  clear hB
  refine callsIn_of_wp_marks Try.func25 rfl trivial ?_ rfl
  simp only [Try.ntmps25, List.size_toArray, List.length_cons, List.length_nil, Nat.reduceAdd, Nat.reduceSub, Array.replicate_succ, Array.replicate_zero, List.push_toArray, List.append_toArray, List.nil_append, List.cons_append]
  gi_wp2_with (first | (refine ⟨trivial, ?_⟩; gi_at_call 77; refine (callsIn_wide.2 (none_tree (HTO.out.below (by repeat (first | exact Below.refl _ _ | apply below_alloc))) hm)).mono ?_; rintro e w' ⟨rfl, rfl⟩) | (refine ⟨trivial, ?_⟩; gi_at_call 78; refine (callsIn_wide.2 (from_any _ _ _ _ _)).mono ?_; rintro e w' ⟨rfl, rfl⟩))
  clear r0 r1 r2 r3 f0
  obtain ⟨W0, hW0⟩ : ∃ W0, ((((((((w.alloc (.cells #[.pointer (some ⟨p, 0, none⟩)] 28)).alloc (.cells #[.int .i64 0] 3)).alloc (.cells #[.int .i64 0] 3)).alloc (.cells #[.int .i64 0] 29)).alloc (.cells #[.int .i64 (n0.z : Int), .int .i64 (n0.o : Int), .bool n0.leaf, .int .i64 n0.num] 91)).alloc (.cells #[.int .i64 0] 3)).alloc (.cells #[.slice A nn cc] 24)).alloc (.cells #[.int .i64 (at0 : Int)] 3)) = W0 := ⟨_, rfl⟩
  have hs0 : W0.heap.size = w.heap.size + 8 := by rw [← hW0]; simp
  have hI0 : ∀ o o', GI w p A nn cc ns R (bitsFrom bs at0 nn) 0 ((0 : Nat) : Int) ((W0.alloc o).alloc o') := by
    intro o o'
    rw [← hW0]
    refine ⟨?_, ?_, ?_, ?_, ?_, ⟨n0, 0, HN0.out, by rw [HR0.out]; rfl, ?_⟩, ?_, ?_, ⟨.int .i64 (at0 : Int), ?_⟩⟩
    · repeat (first | exact Below.refl _ _ | apply below_alloc)
    all_goals
      repeat (first | (refine at_alloc _ _ ?_; simp; done) | refine at_old ?_)
  have hc0 : W0.cell? ⟨w.heap.size + 1 + 1 + 1 + 1 + 1 + 1 + 1, 0, none⟩ = some (.int .i64 (at0 : Int)) := by
    have : W0.heap[w.heap.size + 1 + 1 + 1 + 1 + 1 + 1 + 1]? = some (.cells #[.int .i64 (at0 : Int)] 3 (0, 0)) := by rw [← hW0]; exact at_alloc _ _ (by simp)
    rw [cell_of_heap this]; rfl
  rw [hW0]
  clear hW0
  refine wpIn_from (bb := w.heap.size + 1 + 1 + 1 + 1 + 1 + 1) (ba := w.heap.size + 1 + 1 + 1 + 1 + 1 + 1 + 1) (nn := nn) (cc := cc) (at0 := at0) (A := A) (bs := bs) rfl (by omega) hat hc0 (fun k => GI w p A nn cc ns R (bitsFrom bs at0 nn) k (k : Int)) (fun c W => c = .ret ∧ GX w R W)
    (fun k W v h => h.set7 v) (fun k W b o hb h => h.putObj b o (by omega)) (fun c W b o hb h => ⟨h.1, h.2.putObj b o (by omega)⟩)
    (fun k W h => ⟨HB.out.below h.bl, by rw [cell_of_heap h.b6]; rfl, by obtain ⟨v, hv⟩ := h.b7; exact free_of_heap hv 0⟩) hI0
    (fun x => { tmps := #[.pointer (some ⟨p, 0, none⟩), .slice A nn cc, .int .i64 (at0 : Int), .pointer (some ⟨w.heap.size, 0, none⟩), undef, undef, .pointer (some ⟨w.heap.size + 1, 0, none⟩), .pointer (some ⟨w.heap.size + 1 + 1, 0, none⟩), .pointer (some ⟨w.heap.size + 1 + 1 + 1, 0, none⟩), .pointer (some ⟨w.heap.size + 1 + 1 + 1 + 1, 0, none⟩), .pointer (some ⟨w.heap.size + 1 + 1 + 1 + 1 + 1, 0, none⟩), .int .i64 x, .bool false, .pointer (some ⟨p, 0, none⟩), .bool false, .bool (decide ((at0 : Int) < 0)), .int .i64 (at0 : Int), .bool (decide ((at0 : Int) < 0)), .pointer (some ⟨p, 0, none⟩), .pointer (some ⟨p, 0, none⟩), .pointer (some ⟨p, 0, none⟩), .slice (some ⟨g, 0, none⟩) ns.length cap, .pointer (some ⟨g, 0, none⟩), .agg #[.int .i64 (n0.z : Int), .int .i64 (n0.o : Int), .bool n0.leaf, .int .i64 n0.num], .slice A nn cc, .int .i64 (at0 : Int), .func (.func 98) #[] #[.pointer (some ⟨w.heap.size + 1 + 1 + 1 + 1 + 1 + 1, 0, none⟩), .pointer (some ⟨w.heap.size + 1 + 1 + 1 + 1 + 1 + 1 + 1, 0, none⟩)], .int .i64 x, undef, undef, undef, undef, undef, undef, undef, undef, undef, undef, undef, undef, undef, undef, undef, undef, undef, undef, undef, undef, undef, undef], defers := [] }) ?assign ?body ?done ?stop
  case assign =>
    intro l x W K hK
    gi_wp2
    exact hK
  case body =>
    intro l k W hI hk
    rw [hs0]
    have HI := Lib.hid hI
    obtain ⟨n, j, hn, hRn, h4⟩ := hI.b4
    have HN := Lib.hid hn
    have HRn := Lib.hid hRn
    have hT' := HT.out.below hI.bl
    have f0 := hT'.c0
    have HT' := Lib.hid hT'
    have HGW : Hid (g < w.heap.size) := Lib.hid hg
    have HMW : Hid (bm < w.heap.size) := Lib.hid HT.out.mlt
    have c0 : W.cell? ⟨w.heap.size, 0, none⟩ = some (.pointer (some ⟨p, 0, none⟩)) := by rw [cell_of_heap hI.b0]; rfl
    have c1 : W.cell? ⟨w.heap.size + 1, 0, none⟩ = some (.int .i64 0) := by rw [cell_of_heap hI.b1]; rfl
    have c2 : W.cell? ⟨w.heap.size + 1 + 1, 0, none⟩ = some (.int .i64 0) := by rw [cell_of_heap hI.b2]; rfl
    have c3 : W.cell? ⟨w.heap.size + 1 + 1 + 1, 0, none⟩ = some (.int .i64 0) := by rw [cell_of_heap hI.b3]; rfl
    have c40 : W.cell? ⟨w.heap.size + 1 + 1 + 1 + 1, 0, none⟩ = some (.int .i64 (n.z : Int)) := by rw [cell_of_heap h4]; rfl
    have c41 : W.cell? ⟨w.heap.size + 1 + 1 + 1 + 1, 1, none⟩ = some (.int .i64 (n.o : Int)) := by rw [cell_of_heap h4]; rfl
    have c42 : W.cell? ⟨w.heap.size + 1 + 1 + 1 + 1, 2, none⟩ = some (.bool n.leaf) := by rw [cell_of_heap h4]; rfl
    have c43 : W.cell? ⟨w.heap.size + 1 + 1 + 1 + 1, 3, none⟩ = some (.int .i64 n.num) := by rw [cell_of_heap h4]; rfl
    have c5 : W.cell? ⟨w.heap.size + 1 + 1 + 1 + 1 + 1, 0, none⟩ = some (.int .i64 (k : Int)) := by rw [cell_of_heap hI.b5]; rfl
    have e1 : W.frozen? ⟨w.heap.size + 1, 0, none⟩ = false := free_of_heap hI.b1 0
    have e2 : W.frozen? ⟨w.heap.size + 1 + 1, 0, none⟩ = false := free_of_heap hI.b2 0
    have e3 : W.frozen? ⟨w.heap.size + 1 + 1 + 1, 0, none⟩ = false := free_of_heap hI.b3 0
    have e40 : W.frozen? ⟨w.heap.size + 1 + 1 + 1 + 1, 0, none⟩ = false := free_of_heap h4 0
    have e41 : W.frozen? ⟨w.heap.size + 1 + 1 + 1 + 1, 1, none⟩ = false := free_of_heap h4 1
    have e42 : W.frozen? ⟨w.heap.size + 1 + 1 + 1 + 1, 2, none⟩ = false := free_of_heap h4 2
    have e43 : W.frozen? ⟨w.heap.size + 1 + 1 + 1 + 1, 3, none⟩ = false := free_of_heap h4 3
    have e5 : W.frozen? ⟨w.heap.size + 1 + 1 + 1 + 1 + 1, 0, none⟩ = false := free_of_heap hI.b5 0
    have hk63 : k < 1125899906809856 + 1 := by have := HB.out.2.1; omega
    have HBit := Lib.hid (bitsFrom_get (bs := bs) hk)
    have H4 := Lib.hid h4
    clear hI hn hRn hT' h4
    rcases bitInt_01 bs (at0 + k) with hx | hx
    · rw [hx]
      have HX : Hid ((bitsFrom bs at0 nn).drop k = false :: (bitsFrom bs at0 nn).drop (k + 1)) := Lib.hid (drop_bit (by
        rw [HBit.out]; unfold bitAt; rw [hx]; rfl))
      clear hx
      by_cases hz : n.z = 0
      · have HZ := Lib.hid hz
        have b0 : ((n.z : Int) == 0) = true := by simp [hz]
        clear hz
        gi_wp2
        have hs5 := HI.out.set5 ((k : Int) + 1)
        obtain ⟨t1, t2, t3, t4, t5⟩ := rets3 hs5.bl hs5.b1 hs5.b2 hs5.b3 (.int .i64 0) (.int .i64 0) (.int .i64 7)
        have hRc : R = .code := by rw [HRn.out, HX.out]; show Pt.get ns n k (false :: _) = _; simp only [Pt.get]; rw [if_pos (by exact HZ.out)]
        refine ⟨fun b _ hb => (t1 b (by omega) (by omega) (by omega)).trans (Below.heap_setCell W ⟨w.heap.size + 1 + 1 + 1 + 1 + 1, 0, none⟩ _ b (by show b ≠ w.heap.size + 1 + 1 + 1 + 1 + 1; omega)), rfl, t2, ?_, ?_, ?_⟩
        · rw [hRc]; exact t3
        · rw [hRc]; exact t4
        · rw [hRc]; exact t5
      · have HZ := Lib.hid hz
        have b0 : ((n.z : Int) == 0) = false := by rw [beq_eq_false_iff_ne]; omega
        clear hz
        gi_wp2
        have HI2 := Lib.hid (HI.out.set5 ((k : Int) + 1))
        have hfar : Hid (∀ b, b ≠ w.heap.size + 1 + 1 + 1 + 1 + 1 → (W.setCell ⟨w.heap.size + 1 + 1 + 1 + 1 + 1, 0, none⟩ (.int .i64 ((k : Int) + 1))).heap[b]? = W.heap[b]?) := Lib.hid (fun b hb => Below.heap_setCell W ⟨w.heap.size + 1 + 1 + 1 + 1 + 1, 0, none⟩ _ b hb)
        have H42 : Hid ((W.setCell ⟨w.heap.size + 1 + 1 + 1 + 1 + 1, 0, none⟩ (.int .i64 ((k : Int) + 1))).heap[w.heap.size + 1 + 1 + 1 + 1]? = some (.cells #[.int .i64 (n.z : Int), .int .i64 (n.o : Int), .bool n.leaf, .int .i64 n.num] 91 (0, 0))) := Lib.hid ((hfar.out _ (by omega)).trans H4.out)
        have HTW : Hid (TreeAt B p g cap bm es clock (W.setCell ⟨w.heap.size + 1 + 1 + 1 + 1 + 1, 0, none⟩ (.int .i64 ((k : Int) + 1))) ns many) := Lib.hid (HT'.out.move (hfar.out _ (by omega)) (hfar.out _ (by have := HGW.out; omega)) (hfar.out _ (by have := HMW.out; omega)))
        obtain ⟨W2, hW2⟩ : ∃ W2, W.setCell ⟨w.heap.size + 1 + 1 + 1 + 1 + 1, 0, none⟩ (.int .i64 ((k : Int) + 1)) = W2 := ⟨_, rfl⟩
        rw [hW2] at HI2 hfar H42 HTW ⊢
        clear hW2 f0 c0 c1 c2 c3 c40 c41 c42 c43 c5 e1 e2 e3 e40 e41 e42 e43 e5
        obtain ⟨m, hm2⟩ : ∃ m, ns[n.z]? = some m := ⟨_, List.getElem?_eq_getElem (HWF.out.kid HN.out false)⟩
        have hkl : (n.z : Int) < (ns.length : Int) := by have := HWF.out.kid HN.out false; exact Int.ofNat_lt.2 this
        have HM := Lib.hid hm2
        clear hm2
        have f0 := HTW.out.c0
        have q0 : W2.cell? ⟨g, n.z * 4, none⟩ = some (.int .i64 (m.z : Int)) := by have := HTW.out.row HM.out 0 (by omega); simpa [nd] using this
        have q1 : W2.cell? ⟨g, n.z * 4 + 1, none⟩ = some (.int .i64 (m.o : Int)) := by have := HTW.out.row HM.out 1 (by omega); simpa [nd] using this
        have q2 : W2.cell? ⟨g, n.z * 4 + 2, none⟩ = some (.bool m.leaf) := by have := HTW.out.row HM.out 2 (by omega); simpa [nd] using this
        have q3 : W2.cell? ⟨g, n.z * 4 + 3, none⟩ = some (.int .i64 m.num) := by have := HTW.out.row HM.out 3 (by omega); simpa [nd] using this
        have c0 : W2.cell? ⟨w.heap.size, 0, none⟩ = some (.pointer (some ⟨p, 0, none⟩)) := by rw [cell_of_heap HI2.out.b0]; rfl
        have c40 : W2.cell? ⟨w.heap.size + 1 + 1 + 1 + 1, 0, none⟩ = some (.int .i64 (n.z : Int)) := by rw [cell_of_heap H42.out]; rfl
        have c41 : W2.cell? ⟨w.heap.size + 1 + 1 + 1 + 1, 1, none⟩ = some (.int .i64 (n.o : Int)) := by rw [cell_of_heap H42.out]; rfl
        have c42 : W2.cell? ⟨w.heap.size + 1 + 1 + 1 + 1, 2, none⟩ = some (.bool n.leaf) := by rw [cell_of_heap H42.out]; rfl
        have c43 : W2.cell? ⟨w.heap.size + 1 + 1 + 1 + 1, 3, none⟩ = some (.int .i64 n.num) := by rw [cell_of_heap H42.out]; rfl
        have e40 : W2.frozen? ⟨w.heap.size + 1 + 1 + 1 + 1, 0, none⟩ = false := free_of_heap H42.out 0
        have e41 : W2.frozen? ⟨w.heap.size + 1 + 1 + 1 + 1, 1, none⟩ = false := free_of_heap H42.out 1
        have e42 : W2.frozen? ⟨w.heap.size + 1 + 1 + 1 + 1, 2, none⟩ = false := free_of_heap H42.out 2
        have e43 : W2.frozen? ⟨w.heap.size + 1 + 1 + 1 + 1, 3, none⟩ = false := free_of_heap H42.out 3
        have HBit0 : Hid (Pt.get ns n k ((bitsFrom bs at0 nn).drop k) = if m.leaf = true then .ok m.num (k + 1) else Pt.get ns m (k + 1) ((bitsFrom bs at0 nn).drop (k + 1))) := Lib.hid (by
          rw [HX.out]; simp only [Pt.get]; rw [if_neg (by exact HZ.out)]
          have : n.kid false = n.z := rfl
          rw [this, getD_of_some HM.out])
        obtain ⟨u1, u2, u3⟩ := GI.set4 (w := w) m H42.out
        have U1 := Lib.hid u1
        have U2 := Lib.hid u2
        have U3 := Lib.hid (u3 HI2.out.bl)
        clear u1 u2 u3
        refine wpIn_region_round 10 (by kernel_rfl) (by kernel_rfl) (by simp) ?_
        simp only [List.take_succ_cons, List.take_zero, List.drop_succ_cons, List.drop_zero]
        repeat still_step
        refine wpStill_nil ?_
        have hba : Hid (∀ b, b ≠ w.heap.size + 1 + 1 + 1 + 1 → b ≠ w.heap.size + 1 + 1 + 1 + 1 + 1 → ((((W2.setCell ⟨w.heap.size + 1 + 1 + 1 + 1, 0, none⟩ (.int .i64 (m.z : Int))).setCell ⟨w.heap.size + 1 + 1 + 1 + 1, 1, none⟩ (.int .i64 (m.o : Int))).setCell ⟨w.heap.size + 1 + 1 + 1 + 1, 2, none⟩ (.bool m.leaf)).setCell ⟨w.heap.size + 1 + 1 + 1 + 1, 3, none⟩ (.int .i64 m.num)).drew.heap[b]? = W.heap[b]?) := Lib.hid (fun b h1 h2 => (U1.out b h1).trans (hfar.out b h2))
        cases hml : m.leaf with
        | false =>
          rw [hml] at q2 U1 U2 U3 hba
          gi_wp2
          obtain ⟨v7, h7⟩ := HI.out.b7
          refine ⟨fun b _ hb => hba.out b (by omega) (by omega), U3.out, (hba.out _ (by omega) (by omega)).trans HI.out.b0, (hba.out _ (by omega) (by omega)).trans HI.out.b1, (hba.out _ (by omega) (by omega)).trans HI.out.b2, (hba.out _ (by omega) (by omega)).trans HI.out.b3,
            ⟨m, n.z, HM.out, ?_, by rw [hml]; exact U2.out⟩, ?_, (hba.out _ (by omega) (by omega)).trans HI.out.b6, ⟨v7, (hba.out _ (by omega) (by omega)).trans h7⟩⟩
          · rw [HRn.out, HBit0.out, if_neg (by rw [hml]; decide)]
          · refine (U1.out _ (by omega)).trans ?_
            rw [HI2.out.b5]; rfl
        | true =>
          rw [hml] at q2 U1 U2 U3 hba
          gi_wp2
          obtain ⟨W3, hW3⟩ : ∃ W3, ((((W2.setCell ⟨w.heap.size + 1 + 1 + 1 + 1, 0, none⟩ (.int .i64 (m.z : Int))).setCell ⟨w.heap.size + 1 + 1 + 1 + 1, 1, none⟩ (.int .i64 (m.o : Int))).setCell ⟨w.heap.size + 1 + 1 + 1 + 1, 2, none⟩ (.bool true)).setCell ⟨w.heap.size + 1 + 1 + 1 + 1, 3, none⟩ (.int .i64 m.num)).drew = W3 := ⟨_, rfl⟩
          rw [hW3] at U1 U2 U3 hba ⊢
          clear hW3 f0 q0 q1 q2 q3 c0 c40 c41 c42 c43 e40 e41 e42 e43
          have hR3 : Hid (R = .ok m.num (k + 1)) := Lib.hid (by rw [HRn.out, HBit0.out, if_pos hml])
          have HI3 : Hid (GI w p A nn cc ns (Pt.get ns n k ((bitsFrom bs at0 nn).drop k)) (bitsFrom bs at0 nn) k ((k : Int) + 1) W2) := Lib.hid (by
            obtain ⟨a1, a2, a3, a4, a5, a6, a7, a8, a9⟩ := HI2.out
            exact ⟨a1, a2, a3, a4, a5, ⟨n, j, HN.out, rfl, H42.out⟩, a7, a8, a9⟩)
          have c43 : W3.cell? ⟨w.heap.size + 1 + 1 + 1 + 1, 3, none⟩ = some (.int .i64 m.num) := by rw [cell_of_heap U2.out]; rfl
          have hb5 := (U1.out _ (by omega)).trans HI2.out.b5
          have hb1 := (U1.out _ (by omega)).trans HI2.out.b1
          have hb2 := (U1.out _ (by omega)).trans HI2.out.b2
          have hb3 := (U1.out _ (by omega)).trans HI2.out.b3
          have c5 : W3.cell? ⟨w.heap.size + 1 + 1 + 1 + 1 + 1, 0, none⟩ = some (.int .i64 ((k : Int) + 1)) := by rw [cell_of_heap hb5]; rfl
          have c1 : W3.cell? ⟨w.heap.size + 1, 0, none⟩ = some (.int .i64 0) := by rw [cell_of_heap hb1]; rfl
          have c2 : W3.cell? ⟨w.heap.size + 1 + 1, 0, none⟩ = some (.int .i64 0) := by rw [cell_of_heap hb2]; rfl
          have c3 : W3.cell? ⟨w.heap.size + 1 + 1 + 1, 0, none⟩ = some (.int .i64 0) := by rw [cell_of_heap hb3]; rfl
          have e1 : W3.frozen? ⟨w.heap.size + 1, 0, none⟩ = false := free_of_heap hb1 0
          have e2 : W3.frozen? ⟨w.heap.size + 1 + 1, 0, none⟩ = false := free_of_heap hb2 0
          have e3 : W3.frozen? ⟨w.heap.size + 1 + 1 + 1, 0, none⟩ = false := free_of_heap hb3 0
          have B1 := Lib.hid hb1
          have B2 := Lib.hid hb2
          have B3 := Lib.hid hb3
          clear hb1 hb2 hb3 hb5
          gi_region
          all_goals
            gi_wp2
            obtain ⟨t1, t2, t3, t4, t5⟩ := rets3 (w := w) (W := W3) U3.out B1.out B2.out B3.out (.int .i64 m.num) (.int .i64 ((k : Int) + 1)) (.int .i64 0)
            refine ⟨fun b _ hb => ?_, rfl, below_drew t2, ?_, ?_, ?_⟩
            · exact (t1 b (by omega) (by omega) (by omega)).trans (hba.out b (by omega) (by omega))
            · rw [hR3.out]; exact t3
            · rw [hR3.out]; exact t4
            · rw [hR3.out]; exact t5
    · rw [hx]
      have HX : Hid ((bitsFrom bs at0 nn).drop k = true :: (bitsFrom bs at0 nn).drop (k + 1)) := Lib.hid (drop_bit (by
        rw [HBit.out]; unfold bitAt; rw [hx]; rfl))
      clear hx
      by_cases hz : n.o = 0
      · have HZ := Lib.hid hz
        have b0 : ((n.o : Int) == 0) = true := by simp [hz]
        clear hz
        gi_wp2
        have hs5 := HI.out.set5 ((k : Int) + 1)
        obtain ⟨t1, t2, t3, t4, t5⟩ := rets3 hs5.bl hs5.b1 hs5.b2 hs5.b3 (.int .i64 0) (.int .i64 0) (.int .i64 7)
        have hRc : R = .code := by rw [HRn.out, HX.out]; show Pt.get ns n k (true :: _) = _; simp only [Pt.get]; rw [if_pos (by exact HZ.out)]
        refine ⟨fun b _ hb => (t1 b (by omega) (by omega) (by omega)).trans (Below.heap_setCell W ⟨w.heap.size + 1 + 1 + 1 + 1 + 1, 0, none⟩ _ b (by show b ≠ w.heap.size + 1 + 1 + 1 + 1 + 1; omega)), rfl, t2, ?_, ?_, ?_⟩
        · rw [hRc]; exact t3
        · rw [hRc]; exact t4
        · rw [hRc]; exact t5
      · have HZ := Lib.hid hz
        have b0 : ((n.o : Int) == 0) = false := by rw [beq_eq_false_iff_ne]; omega
        clear hz
        gi_wp2
        have HI2 := Lib.hid (HI.out.set5 ((k : Int) + 1))
        have hfar : Hid (∀ b, b ≠ w.heap.size + 1 + 1 + 1 + 1 + 1 → (W.setCell ⟨w.heap.size + 1 + 1 + 1 + 1 + 1, 0, none⟩ (.int .i64 ((k : Int) + 1))).heap[b]? = W.heap[b]?) := Lib.hid (fun b hb => Below.heap_setCell W ⟨w.heap.size + 1 + 1 + 1 + 1 + 1, 0, none⟩ _ b hb)
        have H42 : Hid ((W.setCell ⟨w.heap.size + 1 + 1 + 1 + 1 + 1, 0, none⟩ (.int .i64 ((k : Int) + 1))).heap[w.heap.size + 1 + 1 + 1 + 1]? = some (.cells #[.int .i64 (n.z : Int), .int .i64 (n.o : Int), .bool n.leaf, .int .i64 n.num] 91 (0, 0))) := Lib.hid ((hfar.out _ (by omega)).trans H4.out)
        have HTW : Hid (TreeAt B p g cap bm es clock (W.setCell ⟨w.heap.size + 1 + 1 + 1 + 1 + 1, 0, none⟩ (.int .i64 ((k : Int) + 1))) ns many) := Lib.hid (HT'.out.move (hfar.out _ (by omega)) (hfar.out _ (by have := HGW.out; omega)) (hfar.out _ (by have := HMW.out; omega)))
        obtain ⟨W2, hW2⟩ : ∃ W2, W.setCell ⟨w.heap.size + 1 + 1 + 1 + 1 + 1, 0, none⟩ (.int .i64 ((k : Int) + 1)) = W2 := ⟨_, rfl⟩
        rw [hW2] at HI2 hfar H42 HTW ⊢
        clear hW2 f0 c0 c1 c2 c3 c40 c41 c42 c43 c5 e1 e2 e3 e40 e41 e42 e43 e5
        obtain ⟨m, hm2⟩ : ∃ m, ns[n.o]? = some m := ⟨_, List.getElem?_eq_getElem (HWF.out.kid HN.out true)⟩
        have hkl : (n.o : Int) < (ns.length : Int) := by have := HWF.out.kid HN.out true; exact Int.ofNat_lt.2 this
        have HM := Lib.hid hm2
        clear hm2
        have f0 := HTW.out.c0
        have q0 : W2.cell? ⟨g, n.o * 4, none⟩ = some (.int .i64 (m.z : Int)) := by have := HTW.out.row HM.out 0 (by omega); simpa [nd] using this
        have q1 : W2.cell? ⟨g, n.o * 4 + 1, none⟩ = some (.int .i64 (m.o : Int)) := by have := HTW.out.row HM.out 1 (by omega); simpa [nd] using this
        have q2 : W2.cell? ⟨g, n.o * 4 + 2, none⟩ = some (.bool m.leaf) := by have := HTW.out.row HM.out 2 (by omega); simpa [nd] using this
        have q3 : W2.cell? ⟨g, n.o * 4 + 3, none⟩ = some (.int .i64 m.num) := by have := HTW.out.row HM.out 3 (by omega); simpa [nd] using this
        have c0 : W2.cell? ⟨w.heap.size, 0, none⟩ = some (.pointer (some ⟨p, 0, none⟩)) := by rw [cell_of_heap HI2.out.b0]; rfl
        have c40 : W2.cell? ⟨w.heap.size + 1 + 1 + 1 + 1, 0, none⟩ = some (.int .i64 (n.z : Int)) := by rw [cell_of_heap H42.out]; rfl
        have c41 : W2.cell? ⟨w.heap.size + 1 + 1 + 1 + 1, 1, none⟩ = some (.int .i64 (n.o : Int)) := by rw [cell_of_heap H42.out]; rfl
        have c42 : W2.cell? ⟨w.heap.size + 1 + 1 + 1 + 1, 2, none⟩ = some (.bool n.leaf) := by rw [cell_of_heap H42.out]; rfl
        have c43 : W2.cell? ⟨w.heap.size + 1 + 1 + 1 + 1, 3, none⟩ = some (.int .i64 n.num) := by rw [cell_of_heap H42.out]; rfl
        have e40 : W2.frozen? ⟨w.heap.size + 1 + 1 + 1 + 1, 0, none⟩ = false := free_of_heap H42.out 0
        have e41 : W2.frozen? ⟨w.heap.size + 1 + 1 + 1 + 1, 1, none⟩ = false := free_of_heap H42.out 1
        have e42 : W2.frozen? ⟨w.heap.size + 1 + 1 + 1 + 1, 2, none⟩ = false := free_of_heap H42.out 2
        have e43 : W2.frozen? ⟨w.heap.size + 1 + 1 + 1 + 1, 3, none⟩ = false := free_of_heap H42.out 3
        have HBit0 : Hid (Pt.get ns n k ((bitsFrom bs at0 nn).drop k) = if m.leaf = true then .ok m.num (k + 1) else Pt.get ns m (k + 1) ((bitsFrom bs at0 nn).drop (k + 1))) := Lib.hid (by
          rw [HX.out]; simp only [Pt.get]; rw [if_neg (by exact HZ.out)]
          have : n.kid true = n.o := rfl
          rw [this, getD_of_some HM.out])
        obtain ⟨u1, u2, u3⟩ := GI.set4 (w := w) m H42.out
        have U1 := Lib.hid u1
        have U2 := Lib.hid u2
        have U3 := Lib.hid (u3 HI2.out.bl)
        clear u1 u2 u3
        refine wpIn_region_round 10 (by kernel_rfl) (by kernel_rfl) (by simp) ?_
        simp only [List.take_succ_cons, List.take_zero, List.drop_succ_cons, List.drop_zero]
        repeat still_step
        refine wpStill_nil ?_
        have hba : Hid (∀ b, b ≠ w.heap.size + 1 + 1 + 1 + 1 → b ≠ w.heap.size + 1 + 1 + 1 + 1 + 1 → ((((W2.setCell ⟨w.heap.size + 1 + 1 + 1 + 1, 0, none⟩ (.int .i64 (m.z : Int))).setCell ⟨w.heap.size + 1 + 1 + 1 + 1, 1, none⟩ (.int .i64 (m.o : Int))).setCell ⟨w.heap.size + 1 + 1 + 1 + 1, 2, none⟩ (.bool m.leaf)).setCell ⟨w.heap.size + 1 + 1 + 1 + 1, 3, none⟩ (.int .i64 m.num)).drew.heap[b]? = W.heap[b]?) := Lib.hid (fun b h1 h2 => (U1.out b h1).trans (hfar.out b h2))
        cases hml : m.leaf with
        | false =>
          rw [hml] at q2 U1 U2 U3 hba
          gi_wp2
          obtain ⟨v7, h7⟩ := HI.out.b7
          refine ⟨fun b _ hb => hba.out b (by omega) (by omega), U3.out, (hba.out _ (by omega) (by omega)).trans HI.out.b0, (hba.out _ (by omega) (by omega)).trans HI.out.b1, (hba.out _ (by omega) (by omega)).trans HI.out.b2, (hba.out _ (by omega) (by omega)).trans HI.out.b3,
            ⟨m, n.o, HM.out, ?_, by rw [hml]; exact U2.out⟩, ?_, (hba.out _ (by omega) (by omega)).trans HI.out.b6, ⟨v7, (hba.out _ (by omega) (by omega)).trans h7⟩⟩
          · rw [HRn.out, HBit0.out, if_neg (by rw [hml]; decide)]
          · refine (U1.out _ (by omega)).trans ?_
            rw [HI2.out.b5]; rfl
        | true =>
          rw [hml] at q2 U1 U2 U3 hba
          gi_wp2
          obtain ⟨W3, hW3⟩ : ∃ W3, ((((W2.setCell ⟨w.heap.size + 1 + 1 + 1 + 1, 0, none⟩ (.int .i64 (m.z : Int))).setCell ⟨w.heap.size + 1 + 1 + 1 + 1, 1, none⟩ (.int .i64 (m.o : Int))).setCell ⟨w.heap.size + 1 + 1 + 1 + 1, 2, none⟩ (.bool true)).setCell ⟨w.heap.size + 1 + 1 + 1 + 1, 3, none⟩ (.int .i64 m.num)).drew = W3 := ⟨_, rfl⟩
          rw [hW3] at U1 U2 U3 hba ⊢
          clear hW3 f0 q0 q1 q2 q3 c0 c40 c41 c42 c43 e40 e41 e42 e43
          have hR3 : Hid (R = .ok m.num (k + 1)) := Lib.hid (by rw [HRn.out, HBit0.out, if_pos hml])
          have HI3 : Hid (GI w p A nn cc ns (Pt.get ns n k ((bitsFrom bs at0 nn).drop k)) (bitsFrom bs at0 nn) k ((k : Int) + 1) W2) := Lib.hid (by
            obtain ⟨a1, a2, a3, a4, a5, a6, a7, a8, a9⟩ := HI2.out
            exact ⟨a1, a2, a3, a4, a5, ⟨n, j, HN.out, rfl, H42.out⟩, a7, a8, a9⟩)
          have c43 : W3.cell? ⟨w.heap.size + 1 + 1 + 1 + 1, 3, none⟩ = some (.int .i64 m.num) := by rw [cell_of_heap U2.out]; rfl
          have hb5 := (U1.out _ (by omega)).trans HI2.out.b5
          have hb1 := (U1.out _ (by omega)).trans HI2.out.b1
          have hb2 := (U1.out _ (by omega)).trans HI2.out.b2
          have hb3 := (U1.out _ (by omega)).trans HI2.out.b3
          have c5 : W3.cell? ⟨w.heap.size + 1 + 1 + 1 + 1 + 1, 0, none⟩ = some (.int .i64 ((k : Int) + 1)) := by rw [cell_of_heap hb5]; rfl
          have c1 : W3.cell? ⟨w.heap.size + 1, 0, none⟩ = some (.int .i64 0) := by rw [cell_of_heap hb1]; rfl
          have c2 : W3.cell? ⟨w.heap.size + 1 + 1, 0, none⟩ = some (.int .i64 0) := by rw [cell_of_heap hb2]; rfl
          have c3 : W3.cell? ⟨w.heap.size + 1 + 1 + 1, 0, none⟩ = some (.int .i64 0) := by rw [cell_of_heap hb3]; rfl
          have e1 : W3.frozen? ⟨w.heap.size + 1, 0, none⟩ = false := free_of_heap hb1 0
          have e2 : W3.frozen? ⟨w.heap.size + 1 + 1, 0, none⟩ = false := free_of_heap hb2 0
          have e3 : W3.frozen? ⟨w.heap.size + 1 + 1 + 1, 0, none⟩ = false := free_of_heap hb3 0
          have B1 := Lib.hid hb1
          have B2 := Lib.hid hb2
          have B3 := Lib.hid hb3
          clear hb1 hb2 hb3 hb5
          gi_region
          all_goals
            gi_wp2
            obtain ⟨t1, t2, t3, t4, t5⟩ := rets3 (w := w) (W := W3) U3.out B1.out B2.out B3.out (.int .i64 m.num) (.int .i64 ((k : Int) + 1)) (.int .i64 0)
            refine ⟨fun b _ hb => ?_, rfl, below_drew t2, ?_, ?_, ?_⟩
            · exact (t1 b (by omega) (by omega) (by omega)).trans (hba.out b (by omega) (by omega))
            · rw [hR3.out]; exact t3
            · rw [hR3.out]; exact t4
            · rw [hR3.out]; exact t5

  case done =>
    intro k W hk1 hk2 hI hK
    rw [hs0] at hK ⊢
    obtain ⟨n, j, hn, hRn, h4⟩ := hI.b4
    have hRm : R = .more := by
      rw [hRn, List.drop_of_length_le (by rw [bitsFrom_length]; omega)]; rfl
    have HI := Lib.hid hI
    have HRm := Lib.hid hRm
    have HK := Lib.hid hK
    have c1 : W.cell? ⟨w.heap.size + 1, 0, none⟩ = some (.int .i64 0) := by rw [cell_of_heap hI.b1]; rfl
    have c2 : W.cell? ⟨w.heap.size + 1 + 1, 0, none⟩ = some (.int .i64 0) := by rw [cell_of_heap hI.b2]; rfl
    have c3 : W.cell? ⟨w.heap.size + 1 + 1 + 1, 0, none⟩ = some (.int .i64 0) := by rw [cell_of_heap hI.b3]; rfl
    have e1 : W.frozen? ⟨w.heap.size + 1, 0, none⟩ = false := free_of_heap hI.b1 0
    have e2 : W.frozen? ⟨w.heap.size + 1 + 1, 0, none⟩ = false := free_of_heap hI.b2 0
    have e3 : W.frozen? ⟨w.heap.size + 1 + 1 + 1, 0, none⟩ = false := free_of_heap hI.b3 0
    clear hI hn hRn h4 hRm hK
    gi_wp2
    obtain ⟨t1, t2, t3, t4, t5⟩ := rets3 HI.out.bl HI.out.b1 HI.out.b2 HI.out.b3 (.int .i64 0) (.int .i64 0) (.int .i64 5)
    have hK2 := (t1 (w.heap.size + 8) (by omega) (by omega) (by omega)).trans HK.out
    obtain ⟨W4, hW4⟩ : ∃ W4, ((W.setCell ⟨w.heap.size + 1, 0, none⟩ (.int .i64 0)).setCell ⟨w.heap.size + 1 + 1, 0, none⟩ (.int .i64 0)).setCell ⟨w.heap.size + 1 + 1 + 1, 0, none⟩ (.int .i64 5) = W4 := ⟨_, rfl⟩
    rw [hW4] at t2 t3 t4 t5 hK2 ⊢
    refine ⟨by simp, .inl ⟨_, _, rfl, run_takeDeferred hK2, ?_⟩⟩
    have far : ∀ b, b ≠ w.heap.size + 8 → (W4.putObj (w.heap.size + 8) (.deferred none)).heap[b]? = W4.heap[b]? := fun b hb => World.putObj_heap_other hb
    have d1 : (W4.putObj (w.heap.size + 8) (.deferred none)).cell? ⟨w.heap.size + 1, 0, none⟩ = some (.int .i64 0) := by rw [cell_of_heap ((far _ (by omega)).trans t3)]; rfl
    have d2 : (W4.putObj (w.heap.size + 8) (.deferred none)).cell? ⟨w.heap.size + 1 + 1, 0, none⟩ = some (.int .i64 0) := by rw [cell_of_heap ((far _ (by omega)).trans t4)]; rfl
    have d3 : (W4.putObj (w.heap.size + 8) (.deferred none)).cell? ⟨w.heap.size + 1 + 1 + 1, 0, none⟩ = some (.int .i64 5) := by rw [cell_of_heap ((far _ (by omega)).trans t5)]; rfl
    refine ⟨.tuple #[.int .i64 0, .int .i64 0, .int .i64 5], ?_, by rw [HRm.out]; rfl, below_putObj t2 (by omega) _⟩
    simp [results, Try.f25, go_sem, d1, d2, d3]
  case stop =>
    rintro c W ⟨rfl, hX⟩ hK
    rw [hs0] at hK ⊢
    gi_wp2
    refine ⟨by simp, .inl ⟨_, _, rfl, run_takeDeferred hK, ?_⟩⟩
    have far : ∀ b, b ≠ w.heap.size + 8 → (W.putObj (w.heap.size + 8) (.deferred none)).heap[b]? = W.heap[b]? := fun b hb => World.putObj_heap_other hb
    have d1 : (W.putObj (w.heap.size + 8) (.deferred none)).cell? ⟨w.heap.size + 1, 0, none⟩ = some (.int .i64 (resV R)) := by rw [cell_of_heap ((far _ (by omega)).trans hX.b1)]; rfl
    have d2 : (W.putObj (w.heap.size + 8) (.deferred none)).cell? ⟨w.heap.size + 1 + 1, 0, none⟩ = some (.int .i64 (resN R)) := by rw [cell_of_heap ((far _ (by omega)).trans hX.b2)]; rfl
    have d3 : (W.putObj (w.heap.size + 8) (.deferred none)).cell? ⟨w.heap.size + 1 + 1 + 1, 0, none⟩ = some (.int .i64 (resE R)) := by rw [cell_of_heap ((far _ (by omega)).trans hX.b3)]; rfl
    refine ⟨.tuple #[.int .i64 (resV R), .int .i64 (resN R), .int .i64 (resE R)], ?_, rfl, below_putObj hX.bl (by omega) _⟩
    simp [results, Try.f25, go_sem, d1, d2, d3]
end Go.Proofs.Ythjfigaalknoiaa
