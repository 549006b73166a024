/- Two rows that grow side by side: texts and numbers; each append leaves the other alone. -/
import Derived.Test.YthjfigaalknoiaaFresh
import Derived.Deep.Onto
set_option linter.unusedVariables false
set_option linter.unusedSimpArgs false
namespace Go.Proofs.Ythjfigaalknoiaa
open Go.RowKit Go.Proofs.YthjfigaalknoiaaW.PrintWords

theorem own_ne {W : World} {B e n g : Nat} {v : Value} {xs : List Value} {o : Obj} (h : W.ownsRow B e 1 v n xs) (hg : W.heap[g]? = some o) (ho : ∀ cur fz, o ≠ .cells cur e fz) : some g ≠ v.ownBlock := by
  rcases h.2 with ⟨rfl, _⟩ | ⟨g', cap', cur', rfl, _, hg', _⟩
  · simp [Value.ownBlock]
  · intro hh
    simp [Value.ownBlock] at hh
    subst hh
    rw [hg] at hg'
    injection hg' with h1
    exact ho _ _ h1
theorem own_slice {W : World} {B e n : Nat} {v : Value} {xs : List Value} (h : W.ownsRow B e 1 v n xs) : ∃ A c, v = .slice A n c := by
  rcases h.2 with ⟨rfl, rfl⟩ | ⟨g', cap', cur', rfl, _⟩
  · exact ⟨none, 0, rfl⟩
  · exact ⟨_, _, rfl⟩


/-- The texts so far lie in v1, the numbers so far in v2; nothing below B was written. -/
structure R2 (B : Nat) (w0 W : World) (cs : List ByteArray) (vs : List Int) (v1 : Value) (k1 : Nat) (v2 : Value) (k2 : Nat) : Prop where
  bl : Below B w0 W
  o1 : W.ownsRow B 9 1 v1 k1 ((cs.take k1).map Value.string)
  o2 : W.ownsRow B 3 1 v2 k2 ((vs.take k2).map (Value.int .i64))
  sz : B ≤ W.heap.size

theorem rows_apart {W : World} {B B' e e' n n' : Nat} {v v' : Value} {xs xs' : List Value} (h : W.ownsRow B e 1 v n xs) (h' : W.ownsRow B' e' 1 v' n' xs') (he : e ≠ e') : v.ownBlock = none ∨ v.ownBlock ≠ v'.ownBlock := by
  rcases h.2 with ⟨rfl, _⟩ | ⟨g, cap, cur, rfl, _, hg, _⟩
  · exact .inl rfl
  · rcases h'.2 with ⟨rfl, _⟩ | ⟨g', cap', cur', rfl, _, hg', _⟩
    · exact .inr (by simp [Value.ownBlock])
    · refine .inr fun hh => ?_
      simp [Value.ownBlock] at hh
      subst hh
      rw [hg] at hg'
      injection hg' with h1
      injection h1 with _ h2 _
      exact he h2

section
variable {B : Nat} {w0 W w1 : World} {cs : List ByteArray} {vs : List Int} {v1 v2 v' : Value} {k1 k2 : Nat}
theorem R2.start (w : World) (cs : List ByteArray) (vs : List Int) : R2 w.heap.size w w cs vs (.slice none 0 0) 0 (.slice none 0 0) 0 :=
  ⟨Below.refl _ _, World.ownsRow_nil _ _ _ _, World.ownsRow_nil _ _ _ _, Nat.le_refl _⟩
theorem R2.below (h : R2 B w0 W cs vs v1 k1 v2 k2) (hb : Below W.heap.size W w1) : R2 B w0 w1 cs vs v1 k1 v2 k2 :=
  ⟨h.bl.trans (hb.mono h.sz), own_move h.o1 (fun k hk => hb.block _ (h.o1.lt k hk).2), own_move h.o2 (fun k hk => hb.block _ (h.o2.lt k hk).2), Nat.le_trans h.sz hb.size⟩
theorem R2.alloc (h : R2 B w0 W cs vs v1 k1 v2 k2) (o : Obj) : R2 B w0 (W.alloc o) cs vs v1 k1 v2 k2 := h.below (below_alloc (Below.refl _ _) o)
/-- Where only one block not of the two rows was written. -/
theorem R2.other (h : R2 B w0 W cs vs v1 k1 v2 k2) {g : Nat} (hb : Below B W w1) (ho : ∀ b, b ≠ g → w1.heap[b]? = W.heap[b]?) (h1 : v1.ownBlock ≠ some g) (h2 : v2.ownBlock ≠ some g) : R2 B w0 w1 cs vs v1 k1 v2 k2 :=
  ⟨h.bl.trans hb, own_move h.o1 (fun k hk => ho _ (fun e => h1 (by rw [hk, e]))), own_move h.o2 (fun k hk => ho _ (fun e => h2 (by rw [hk, e]))), Nat.le_trans h.sz hb.size⟩
theorem R2.fst (h : R2 B w0 W cs vs v1 k1 v2 k2) {c : ByteArray} (hc : cs[k1]? = some c) (hg : W.grownBy w1 v1.ownBlock) (ho : w1.ownsRow B 9 1 v' (k1 + 1) ((cs.take k1).map Value.string ++ [.string c])) : R2 B w0 w1 cs vs v' (k1 + 1) v2 k2 := by
  obtain ⟨hk, rfl⟩ := List.getElem?_eq_some_iff.1 hc
  refine ⟨h.bl.grown hg h.sz (fun k e => (h.o1.lt k e).1), ?_, h.o2.kept hg (rows_apart h.o2 h.o1 (by decide)), Nat.le_trans h.sz hg.size⟩
  rw [List.take_succ_eq_append_getElem hk, List.map_append]
  exact ho
theorem R2.snd (h : R2 B w0 W cs vs v1 k1 v2 k2) {c : Int} (hc : vs[k2]? = some c) (hg : W.grownBy w1 v2.ownBlock) (ho : w1.ownsRow B 3 1 v' (k2 + 1) ((vs.take k2).map (Value.int .i64) ++ [.int .i64 c])) : R2 B w0 w1 cs vs v1 k1 v' (k2 + 1) := by
  obtain ⟨hk, rfl⟩ := List.getElem?_eq_some_iff.1 hc
  refine ⟨h.bl.grown hg h.sz (fun k e => (h.o2.lt k e).1), h.o1.kept hg (rows_apart h.o1 h.o2 (by decide)), ?_, Nat.le_trans h.sz hg.size⟩
  rw [List.take_succ_eq_append_getElem hk, List.map_append]
  exact ho
theorem R2.rows (h : R2 B w0 W cs vs v1 cs.length v2 vs.length) (hl1 : cs.length ≤ 9223372036854775807) (hl2 : vs.length ≤ 9223372036854775807) : ∃ A1 c1 A2 c2, v1 = .slice A1 cs.length c1 ∧ v2 = .slice A2 vs.length c2 ∧ Kd.string.C W A1 cs.length cs ∧ (Kd.int .i64).C W A2 vs.length vs := by
  have e1 := h.o1
  have e2 := h.o2
  rw [List.take_length] at e1 e2
  have f1 : ∃ A1 c1, v1 = .slice A1 cs.length c1 ∧ Kd.string.C W A1 cs.length cs := by
    rcases e1.2 with ⟨rfl, hz⟩ | ⟨g, cap, cur, rfl, hb, _, hc, _⟩
    · refine ⟨none, 0, by rw [hz], str_row ⟨by simp, fun hp => absurd hp (by omega)⟩ hl1⟩
    · exact ⟨_, cap, rfl, str_row ⟨by simp, fun _ => ⟨_, rfl, fun j u hu => e1.cells (g := g) rfl j u hu⟩⟩ hl1⟩
  have f2 : ∃ A2 c2, v2 = .slice A2 vs.length c2 ∧ (Kd.int .i64).C W A2 vs.length vs := by
    rcases e2.2 with ⟨rfl, hz⟩ | ⟨g, cap, cur, rfl, hb, _, hc, _⟩
    · refine ⟨none, 0, by rw [hz], int_row ⟨by simp, fun hp => absurd hp (by omega)⟩ hl2⟩
    · exact ⟨_, cap, rfl, int_row ⟨by simp, fun _ => ⟨_, rfl, fun j u hu => e2.cells (g := g) rfl j u hu⟩⟩ hl2⟩
  obtain ⟨A1, c1, g1, g2⟩ := f1
  obtain ⟨A2, c2, g3, g4⟩ := f2
  exact ⟨A1, c1, A2, c2, g1, g3, g2, g4⟩
end

theorem wpList_append_one {P : Program} {ops : Array Oper} {rest : List Oper} {o : Oper} {a : Act} {Q : Exit → Act → World → Prop} {W : World} (hgd : o.guard = none) (s x : Operand) (t e : TypeId) (z : Value) (bytes : Nat)
    (ho : o.op = .call { callee := .builtin .append, args := #[s, x], argTypes := #[t, t] }) (ht : P.underlying t = some (.slice e)) (hinfo : (P.info? e).map (fun i => (i.zero, i.size, i.bytes)) = some (some z, 1, bytes)) (hz : z.cells.size = 1)
    {B n : Nat} {v : Value} {xs : List Value} (u : Value) (hu : u.oneCell' = true) (hs : a.eval s = v) (hown : W.ownsRow B e 1 v n xs) (hx : a.eval x = .slice (some ⟨W.heap.size, 0, none⟩) 1 1) (hB : B ≤ W.heap.size) (hn : n + 1 ≤ maxLen) (hbytes : (n + 1) * bytes ≤ 140737488355328)
    (h : ∀ v' w1, (W.alloc (.cells #[u] e)).grownBy w1 v.ownBlock → w1.ownsRow B e 1 v' (n + 1) (xs ++ [u]) → wpList P ops Q rest (a.put o.dst v') w1) : wpList P ops Q (o :: rest) a (W.alloc (.cells #[u] e)) := by
  obtain ⟨i0, hi, hzz⟩ := Option.map_eq_some_iff.1 hinfo
  simp only [Prod.mk.injEq] at hzz
  obtain ⟨hz0, hz1, hz2⟩ := hzz
  refine wpList_append_own _ hgd s x t ho B e i0 z 1 bytes ht hi hz0 hz1 hz2 hz (by decide) v n xs hs (hown.alloc _) ⟨W.heap.size, 0, none⟩ 1 1 [u] hx rfl ?_ (fun y hy => by simp at hy; subst hy; exact hu) hn hbytes (by simp; omega) ?_
  · intro j y hy
    have hj : j = 0 ∧ y = u := by
      cases j with
      | zero => simp at hy; exact ⟨rfl, hy.symm⟩
      | succ j => simp at hy
    obtain ⟨rfl, rfl⟩ := hj
    rw [add_plain, cell_of_heap (at_alloc _ _ rfl)]; rfl
  · intro v' w1 h1 h2 _
    exact h v' w1 h2 h1
end Go.Proofs.Ythjfigaalknoiaa
