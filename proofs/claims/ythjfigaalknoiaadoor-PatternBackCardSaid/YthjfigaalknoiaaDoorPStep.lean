/- One round of pattern.tree: two appends side by side, in whatever order. -/
import Derived.Test.YthjfigaalknoiaaDoorAnyIn
import Derived.Test.YthjfigaalknoiaaDoorPRef
import Derived.Test.YthjfigaalknoiaaDoorTwo
set_option linter.unusedVariables false
set_option linter.unusedSimpArgs false
namespace Go.Proofs.YthjfigaalknoiaaDoor
open Go.RowKit Go.Proofs.YthjfigaalknoiaaDoorW.PrintWords Pt

theorem opIn_append {P : Program} {ops : Array Oper} {Q : Exit → Act → World → Prop} {r m : Nat} {o : Oper} {i : Nat} {a : Act} {K : Act → World → Prop} (w : World) (hi : ops[i]? = some o)
    (hg : o.guard = none) (s x : Operand) (t : TypeId) (hop : o.op = Op.call { callee := Callee.builtin Builtin.append, args := #[s, x], argTypes := #[t, t] })
    (base : Nat) (e : TypeId) (z : Value) (bytes : Nat) (h1 : P.underlying t = some (.slice e)) (hinfo : (P.info? e).map (fun i => (i.zero, i.size, i.bytes)) = some (some z, 1, bytes)) (h6 : z.cells.size = 1)
    (v : Value) (k : Nat) (xs : List Value) (hs : a.eval s = v) (hown : w.ownsRow base e 1 v k xs) (g c : Nat) (u : Value) (hx : a.eval x = .slice (some ⟨g, 0, none⟩) 1 c)
    (hc : w.heap[g]? = some (.cells #[u] e (0, 0))) (h1c : u.oneCell' = true) (b1 : k + 1 ≤ maxLen) (b2 : (k + 1) * bytes ≤ 140737488355328) (b3 : base ≤ w.heap.size)
    (hK : ∀ v' w', w'.ownsRow base e 1 v' (k + 1) (xs ++ [u]) → w.grownBy w' v.ownBlock → K (a.put o.dst v') w') : wpOpIn (Fence.wide.inRound r) m P ops Q i K a w := by
  obtain ⟨i0, hi0, hzz⟩ := Option.map_eq_some_iff.1 hinfo
  simp only [Prod.mk.injEq] at hzz
  obtain ⟨hz0, hz1, hz2⟩ := hzz
  obtain ⟨v', w', hrun, r1, r2, r3⟩ := run_append_own (P := P) w base t o.type e i0 z 1 bytes h1 hi0 hz0 hz1 hz2 h6 (by decide) v k xs hown ⟨g, 0, none⟩ 1 c [u] rfl (fun j y hy => by
    have hj : j = 0 ∧ y = u := by
      cases j with
      | zero => simp at hy; exact ⟨rfl, hy.symm⟩
      | succ j => simp at hy
    obtain ⟨rfl, rfl⟩ := hj
    rw [add_plain, cell_of_heap hc]; rfl) (fun y hy => by simp at hy; subst hy; exact h1c) b1 b2 b3
  refine opIn_ok hi hg (by rw [hop]; intro c hc'; cases hc') ?_ (hK v' w' r1 r2)
  simp [execOp, hop, resolve, invoke, builtin, hs, hx, hrun, Result.andThen]

/-- Where a round of pattern.tree stands: what has been done, what it has found. -/
structure TS (w0 : World) (N0 k : Nat) (c : ByteArray) (kn : Int) (v1 v2 : Value) (W0 : World) (b0 b1 b2 b3 b4 b5 b6 b7 b8 b9 b10 b11 : Bool) (a : Act) (W : World) : Prop where
  sz : a.tmps.size = 25
  t1 : a.tmps[1]?.getD undef = .pointer (some ⟨N0, 0, none⟩)
  t2 : a.tmps[2]?.getD undef = .pointer (some ⟨N0 + 1, 0, none⟩)
  t3 : a.tmps[3]?.getD undef = .string c
  r2 : R2 N0 w0 W pcs pns (if b3 then a.tmps[11]?.getD undef else v1) (if b3 then k + 1 else k) (if b9 then a.tmps[17]?.getD undef else v2) (if b9 then k + 1 else k)
  x1 : W.heap[N0]? = some (.cells #[if b10 then a.tmps[11]?.getD undef else v1] 33 (0, 0))
  x2 : W.heap[N0 + 1]? = some (.cells #[if b11 then a.tmps[17]?.getD undef else v2] 30 (0, 0))
  sw : W0.heap.size ≤ W.heap.size
  kx : ∀ g, g ≠ N0 → g ≠ N0 + 1 → g < W0.heap.size → some g ≠ v1.ownBlock → some g ≠ v2.ownBlock → W.heap[g]? = W0.heap[g]?
  f0 : b0 = true → a.tmps[8]?.getD undef = v1
  f1 : b1 = true → a.tmps[9]?.getD undef = .string c
  f2 : b2 = true → b3 = false → ∃ g, a.tmps[10]?.getD undef = .slice (some ⟨g, 0, none⟩) 1 1 ∧ W.heap[g]? = some (.cells #[.string c] 9 (0, 0))
  f4 : b4 = true → a.tmps[12]?.getD undef = v2
  f5 : b5 = true → a.tmps[13]?.getD undef = v1
  f6 : b6 = true → a.tmps[14]?.getD undef = .int .i64 (k : Int)
  f7 : b7 = true → a.tmps[15]?.getD undef = .int .i64 kn
  f8 : b8 = true → b9 = false → ∃ g, a.tmps[16]?.getD undef = .slice (some ⟨g, 0, none⟩) 1 1 ∧ W.heap[g]? = some (.cells #[.int .i64 kn] 3 (0, 0))
  c1 : b2 = true → b1 = true
  c3 : b3 = true → b0 = true ∧ b2 = true
  c4 : b6 = true → b5 = true
  c5 : b7 = true → b6 = true
  c6 : b8 = true → b7 = true
  c7 : b9 = true → b3 = true ∧ b4 = true ∧ b8 = true
  c8 : b10 = true → b9 = true
  c9 : b11 = true → b10 = true

def TI (w0 : World) (N0 k : Nat) (c : ByteArray) (kn : Int) (v1 v2 : Value) (W0 : World) (l : Array Bool) (a : Act) (W : World) : Prop :=
  ∃ b0 b1 b2 b3 b4 b5 b6 b7 b8 b9 b10 b11, l = #[b0, b1, b2, b3, b4, b5, b6, b7, b8, b9, b10, b11] ∧ TS w0 N0 k c kn v1 v2 W0 b0 b1 b2 b3 b4 b5 b6 b7 b8 b9 b10 b11 a W

theorem put_same {a : Act} {d : Tmp} {v : Value} (h : d < a.tmps.size) : (a.put (some d) v).tmps[d]?.getD undef = v := by
  show (a.tmps.setIfInBounds d v)[d]?.getD undef = v
  rw [Array.getElem?_setIfInBounds_self_of_lt h]; rfl
theorem put_other {a : Act} {d e : Tmp} {v : Value} (h : d ≠ e) : (a.put (some d) v).tmps[e]?.getD undef = a.tmps[e]?.getD undef := by
  show (a.tmps.setIfInBounds d v)[e]?.getD undef = _
  rw [Array.getElem?_setIfInBounds_ne h]
theorem put_size {a : Act} {d : Tmp} {v : Value} : (a.put (some d) v).tmps.size = a.tmps.size := by
  show (a.tmps.setIfInBounds d v).size = _
  simp
end Go.Proofs.YthjfigaalknoiaaDoor
