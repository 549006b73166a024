/- The map of a tree of prefix: a look-up and a first store, at every map of numbers to told codes. -/
import Derived.Test.YthjfigaalknoiaaTree
import Derived.RangeFuncRecord
namespace Go.Proofs.Ythjfigaalknoiaa
open Go.RowKit Go.Proofs.YthjfigaalknoiaaW.PrintWords

/-- What a map of numbers answers: the first text, and whether there is one. -/
def look (M : List (Int × ByteArray)) (k : Int) : ByteArray × Bool :=
  match M.find? (fun c => c.1 == k) with
  | some c => (c.2, true)
  | none => (⟨#[]⟩, false)

theorem findNow_ents : ∀ (l : List MapEntry) (M : List (Int × ByteArray)) (i : Nat) (k : Int), l.map (fun e => (e.key, e.val)) = M.map (fun c => (Value.int .i64 c.1, Value.agg #[.string c.2])) →
    (look M k = (⟨#[]⟩, false) ∧ Instr.findNow (.int .i64) (.int .i64 k) l i = some none) ∨ (∃ j s, look M k = (s, true) ∧ Instr.findNow (.int .i64) (.int .i64 k) l i = some (some (j, .agg #[.string s]))) := by
  intro l
  induction l with
  | nil =>
    intro M i k h
    have : M = [] := by cases M with
      | nil => rfl
      | cons => simp at h
    subst this
    exact .inl ⟨rfl, rfl⟩
  | cons e l ih =>
    intro M i k h
    cases M with
    | nil => simp at h
    | cons c M =>
      simp only [List.map_cons, List.cons.injEq, Prod.mk.injEq] at h
      obtain ⟨⟨hk, hv⟩, h⟩ := h
      by_cases e1 : c.1 = k
      · refine .inr ⟨i, c.2, ?_, ?_⟩
        · simp [look, e1]
        · simp [Instr.findNow, hk, hv, Instr.sameNow, e1]
      · have e2 : (k == c.1) = false := by rw [beq_eq_false_iff_ne]; exact fun h => e1 h.symm
        have e3 : (c.1 == k) = false := by rw [beq_eq_false_iff_ne]; exact e1
        have hl : look (c :: M) k = look M k := by simp [look, e3]
        have hf : Instr.findNow (.int .i64) (.int .i64 k) (e :: l) i = Instr.findNow (.int .i64) (.int .i64 k) l (i + 1) := by
          simp [Instr.findNow, hk, Instr.sameNow, e2]
        rw [hl, hf]
        exact ih M (i + 1) k h


theorem run_checkKeyS (b : Bool) (n : Nat) (k : Int) (w : World) : (Instr.checkKey b (n + 1) 3 (.int .i64 k)).run Try.prog w = .ok () w := by
  simp [Instr.checkKey, run_underlying Try.underlying3, Result.andThen]
theorem run_checkKey3 (b : Bool) (k : Int) (w : World) : (Instr.checkKey b 10000 3 (.int .i64 k)).run Try.prog w = .ok () w := run_checkKeyS b 9999 k w

theorem run_look {bm : Nat} {es : Array MapEntry} {clock : Nat} {M : List (Int × ByteArray)} {w : World} (h : w.heap[bm]? = some (.map es clock)) (hE : Ents es M) (k : Int) :
    (Instr.lookup 44 (.map (some bm)) (.int .i64 k) true).run Try.prog w = .ok (.tuple #[.agg #[.string (look M k).1], .bool (look M k).2]) w := by
  rcases findNow_ents es.toList M 0 k hE with ⟨h1, h2⟩ | ⟨j, s, h1, h2⟩
  · rw [h1]
    simp [Instr.lookup, run_underlying Try.underlying44, MapKept.run_getObj_map h, run_checkKey3, MapKept.run_findKey Try.underlying3 h2, Result.andThen]
  · rw [h1]
    simp [Instr.lookup, run_underlying Try.underlying44, MapKept.run_getObj_map h, run_checkKey3, MapKept.run_findKey Try.underlying3 h2, Result.andThen]

theorem run_put {bm : Nat} {es : Array MapEntry} {clock : Nat} {M : List (Int × ByteArray)} {w : World} (h : w.heap[bm]? = some (.map es clock)) (hE : Ents es M) (k : Int) (s : ByteArray) (hno : (look M k).2 = false) :
    (Instr.mapUpdate 44 (.map (some bm)) (.int .i64 k) (.agg #[.string s])).run Try.prog w = .ok () (w.putObj bm (.map (es.push { key := .int .i64 k, val := .agg #[.string s], born := clock }) (clock + 1))) := by
  rcases findNow_ents es.toList M 0 k hE with ⟨h1, h2⟩ | ⟨j, s', h1, h2⟩
  · simp [Instr.mapUpdate, run_underlying Try.underlying44, MapKept.run_getObj_map h, run_checkKey3, MapKept.run_findKey Try.underlying3 h2, MapKept.run_setObj_map _ h, Result.andThen, World.putObj]
  · rw [h1] at hno; cases hno

theorem Ents.push {es : Array MapEntry} {M : List (Int × ByteArray)} (h : Ents es M) (k : Int) (s : ByteArray) (clock : Nat) : Ents (es.push { key := .int .i64 k, val := .agg #[.string s], born := clock }) (M ++ [(k, s)]) := by
  unfold Ents at h ⊢
  simp [h]

theorem below_putObj {B : Nat} {w W : World} (h : Below B w W) {k : Nat} (hk : B ≤ k) (o : Obj) : Below B w (W.putObj k o) :=
  ⟨h.os, h.tape, h.output, by rw [World.putObj_size]; exact h.size, fun i hi => (World.putObj_heap_other (by omega)).trans (h.block i hi)⟩
theorem TreeAt.putMap {B p g cap bm clock clock' : Nat} {es es' : Array MapEntry} {w : World} {ns : List Nd} {many : Int} (h : TreeAt B p g cap bm es clock w ns many) :
    TreeAt B p g cap bm es' clock' (w.putObj bm (.map es' clock')) ns many :=
  ⟨(World.putObj_heap_other h.pm).trans h.hp, own_move h.own (fun k hk => by simp [Value.ownBlock] at hk; subst hk; exact World.putObj_heap_other h.gm), World.putObj_heap_same h.mlt, h.Bp, h.Bm⟩

section
variable {P : Program} {ops : Array Oper} {rest : List Oper} {o : Oper} {a : Act} {Q : Exit → Act → World → Prop} {w w' : World}
theorem wpList_lookup_run (hg : o.guard = none) (m x : Operand) (t : TypeId) (c : Bool) (hop : o.op = .lookup t m x c) (vm vx v : Value) (hm : a.eval m = vm) (hx : a.eval x = vx)
    (hrun : (Instr.lookup t vm vx c).run P w = .ok v w) (h : wpList P ops Q rest (a.put o.dst v) w) : wpList P ops Q (o :: rest) a w := by
  refine wpList_plain hg fun K' hK' => ?_
  unfold Oper.wp
  simp [execOp, hop, hm, hx, hrun, Result.andThen]
  exact hK' _ _ h
theorem wpList_mapUpdate_run (hg : o.guard = none) (m x y : Operand) (t : TypeId) (hop : o.op = .mapUpdate t m x y) (vm vx vy : Value) (hm : a.eval m = vm) (hx : a.eval x = vx) (hy : a.eval y = vy)
    (hrun : (Instr.mapUpdate t vm vx vy).run P w = .ok () w') (h : wpList P ops Q rest (a.put o.dst undef) w') : wpList P ops Q (o :: rest) a w := by
  refine wpList_plain hg fun K' hK' => ?_
  unfold Oper.wp
  simp [execOp, hop, hm, hx, hy, hrun, Result.andThen]
  exact hK' _ _ h
end
end Go.Proofs.Ythjfigaalknoiaa
