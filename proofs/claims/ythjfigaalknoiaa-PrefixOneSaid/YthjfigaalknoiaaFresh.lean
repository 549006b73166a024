/- 'append([]T{}, xs...)': a row of one's own that holds what a row holds; nil rows too. -/
import Derived.Test.YthjfigaalknoiaaTr
set_option linter.unusedVariables false
set_option linter.unusedSimpArgs false
namespace Go.Proofs.Ythjfigaalknoiaa
open Go.RowKit Go.Proofs.YthjfigaalknoiaaW.PrintWords

/-- What a row holds, cell by cell. -/
def Row (w : World) (A : Option Addr) (n : Nat) (ys : List Value) : Prop := ys.length = n ∧ (0 < n → ∃ ad, A = some ad ∧ ∀ j u, ys[j]? = some u → w.cell? (ad.add j) = some u)

theorem row_str {w : World} {A : Option Addr} {n : Nat} {cs : List ByteArray} (h : Kd.string.C w A n cs) : Row w A n (cs.map Value.string) := by
  refine ⟨by simpa using h.1, fun hn => ?_⟩
  obtain ⟨ad, e, hc⟩ := h.2.2 hn
  refine ⟨ad, e, fun j u hu => ?_⟩
  rw [List.getElem?_map, Option.map_eq_some_iff] at hu
  obtain ⟨s, hs, rfl⟩ := hu
  obtain ⟨c, h1, h2, h3⟩ := hc j s hs
  have h2' : c = [.string s] := h2
  have := h3 0 (.string s) (by rw [h2']; rfl)
  simpa [Kd.string, Kd.scalar] using this
theorem row_int {w : World} {A : Option Addr} {n : Nat} {q : IntKind} {vs : List Int} (h : (Kd.int q).C w A n vs) : Row w A n (vs.map (Value.int q)) := by
  refine ⟨by simpa using h.1, fun hn => ?_⟩
  obtain ⟨ad, e, hc⟩ := h.2.2 hn
  refine ⟨ad, e, fun j u hu => ?_⟩
  rw [List.getElem?_map, Option.map_eq_some_iff] at hu
  obtain ⟨s, hs, rfl⟩ := hu
  obtain ⟨c, h1, h2, h3⟩ := hc j s hs
  have h2' : c = [.int q s] := h2
  have := h3 0 (.int q s) (by rw [h2']; rfl)
  simpa [Kd.int, Kd.scalar] using this
theorem str_row {w : World} {A : Option Addr} {n : Nat} {cs : List ByteArray} (h : Row w A n (cs.map Value.string)) (hn : n ≤ 9223372036854775807) : Kd.string.C w A n cs := by
  refine ⟨by simpa using h.1, hn, fun hp => ?_⟩
  obtain ⟨ad, e, hc⟩ := h.2 hp
  refine ⟨ad, e, fun j s hs => ⟨[.string s], rfl, rfl, fun i u hu => ?_⟩⟩
  have hi : i = 0 ∧ u = .string s := by
    cases i with
    | zero => simp at hu; exact ⟨rfl, hu.symm⟩
    | succ i => simp at hu
  obtain ⟨rfl, rfl⟩ := hi
  have := hc j (.string s) (by rw [List.getElem?_map, hs]; rfl)
  simpa [Kd.string, Kd.scalar] using this
theorem int_row {w : World} {A : Option Addr} {n : Nat} {q : IntKind} {vs : List Int} (h : Row w A n (vs.map (Value.int q))) (hn : n ≤ 9223372036854775807) : (Kd.int q).C w A n vs := by
  refine ⟨by simpa using h.1, hn, fun hp => ?_⟩
  obtain ⟨ad, e, hc⟩ := h.2 hp
  refine ⟨ad, e, fun j s hs => ⟨[.int q s], rfl, rfl, fun i u hu => ?_⟩⟩
  have hi : i = 0 ∧ u = .int q s := by
    cases i with
    | zero => simp at hu; exact ⟨rfl, hu.symm⟩
    | succ i => simp at hu
  obtain ⟨rfl, rfl⟩ := hi
  have := hc j (.int q s) (by rw [List.getElem?_map, hs]; rfl)
  simpa [Kd.int, Kd.scalar] using this
theorem Row.below {w w' : World} {A : Option Addr} {n : Nat} {ys : List Value} (h : Row w A n ys) (hb : Below w.heap.size w w') : Row w' A n ys :=
  ⟨h.1, fun hn => by
    obtain ⟨ad, e, hc⟩ := h.2 hn
    exact ⟨ad, e, fun j u hu => pw_cell_below hb (hc j u hu)⟩⟩

/-- What a fresh copy is: a row of its own, written by nobody else; its block is b. -/
structure Copied (e : Nat) (W w1 : World) (v : Value) (n : Nat) (ys : List Value) : Prop where
  bl : Below W.heap.size W w1
  own : w1.ownsRow W.heap.size e 1 v n ys

theorem wpList_append_fresh {P : Program} {ops : Array Oper} {rest : List Oper} {o : Oper} {a : Act} {Q : Exit → Act → World → Prop} {W : World} (hgd : o.guard = none) (s x : Operand) (t e : TypeId) (z : Value) (bytes : Nat)
    (ho : o.op = .call { callee := .builtin .append, args := #[s, x], argTypes := #[t, t] }) (ht : P.underlying t = some (.slice e)) (hinfo : (P.info? e).map (fun i => (i.zero, i.size, i.bytes)) = some (some z, 1, bytes)) (hz : z.cells.size = 1)
    (hs : a.eval s = .slice (some ⟨W.heap.size, 0, none⟩) 0 0) (A : Option Addr) (n c : Nat) (hx : a.eval x = .slice A n c) (ys : List Value) (hR : Row W A n ys) (h1 : ∀ u ∈ ys, u.oneCell' = true) (hb0 : 0 < bytes) (hbytes : n * bytes ≤ 140737488355328)
    (h : ∀ v w1, Copied e W w1 v n ys → wpList P ops Q rest (a.put o.dst v) w1) : wpList P ops Q (o :: rest) a (W.alloc (.cells #[] e)) := by
  obtain ⟨i0, hi, hzz⟩ := Option.map_eq_some_iff.1 hinfo
  simp only [Prod.mk.injEq] at hzz
  obtain ⟨hz0, hz1, hz2⟩ := hzz
  have hown0 : (W.alloc (.cells #[] e)).ownsRow W.heap.size e 1 (.slice (some ⟨W.heap.size, 0, none⟩) 0 0) 0 [] := World.ownsRow_lit W #[] 0 (Nat.le_refl _) (by unfold maxLen; omega) rfl
  have hb1 : Below W.heap.size W (W.alloc (.cells #[] e)) := below_alloc (Below.refl _ _) _
  have hnm : n ≤ 140737488355328 := Nat.le_trans (Nat.le_mul_of_pos_right _ hb0) hbytes
  by_cases hn : 0 < n
  · obtain ⟨ad, rfl, hc⟩ := hR.2 hn
    refine wpList_append_own_at (W.alloc (.cells #[] e)) hgd s x t ho W.heap.size e i0 z 1 bytes ht hi hz0 hz1 hz2 hz (by decide) _ 0 [] hs hown0 ad n c ys hx (by rw [hR.1]; omega) (fun j u hu => pw_cell_below hb1 (hc j u hu)) h1 (by simp only [maxLen]; omega) (by rw [Nat.zero_add]; exact hbytes) (by simp) ?_
    intro v1 w1 hown hg _ _
    rw [Nat.zero_add, List.nil_append] at hown
    refine h v1 w1 ⟨hb1.grown hg (by simp) (fun k e => ?_), hown⟩
    simp [Value.ownBlock] at e
    omega
  · obtain rfl : n = 0 := by omega
    obtain rfl : ys = [] := List.eq_nil_of_length_eq_zero hR.1
    refine wpList_plain hgd fun K hK => ?_
    have hrun : (Builtin.append_ #[t, t] o.type #[.slice (some ⟨W.heap.size, 0, none⟩) 0 0, .slice A 0 c]).run P (W.alloc (.cells #[] e)) = .ok (.slice (some ⟨W.heap.size, 0, none⟩) 0 0) (W.alloc (.cells #[] e)) := by
      cases A with
      | none => simp [Builtin.append_, run_underlying ht, sizeOf, typeInfo, hi, Builtin.lenOf, Builtin.firstCells, storeCells]
      | some ad => simp [Builtin.append_, run_underlying ht, sizeOf, typeInfo, hi, Builtin.lenOf, Builtin.firstCells, storeCells, loadCells, loadCellsFrom]
    unfold Oper.wp execOp
    simp only [ho, resolve, invoke, builtin, Sem.run_bind, Sem.run_pure, Result.andThen_ok, List.map_toArray, List.map_cons, List.map_nil, hs, hx, hrun]
    exact hK _ _ (h _ _ ⟨hb1, hown0⟩)

theorem Copied.row {e : Nat} {W w1 : World} {v : Value} {n : Nat} {ys : List Value} (h : Copied e W w1 v n ys) : ∃ A c, v = .slice A n c ∧ n ≤ c ∧ Row w1 A n ys ∧ ∀ ad, A = some ad → W.heap.size ≤ ad.block := by
  have hlen : ys.length = n := by have := h.own.1; omega
  rcases Nat.eq_zero_or_pos n with h0 | h0
  · rcases h.own.2 with ⟨rfl, _⟩ | ⟨g, cap, cur, rfl, hb, _, hc, _⟩
    · exact ⟨none, 0, by rw [h0], by omega, ⟨hlen, fun hp => absurd hp (by omega)⟩, fun ad e => by cases e⟩
    · exact ⟨_, cap, rfl, hc, ⟨hlen, fun hp => absurd hp (by omega)⟩, fun ad e => by cases e; exact hb⟩
  · rcases h.own.2 with ⟨rfl, hz⟩ | ⟨g, cap, cur, rfl, hb, _, hc, _⟩
    · omega
    · exact ⟨_, cap, rfl, hc, ⟨hlen, fun _ => ⟨_, rfl, fun j u hu => h.own.cells (g := g) rfl j u hu⟩⟩, fun ad e => by cases e; exact hb⟩
end Go.Proofs.Ythjfigaalknoiaa
