/- A tree of codes and numbers, as the callers of prefix see it: made, read, told; in the words of its codes. -/
import Derived.Test.YthjfigaalknoiaaGets
import Derived.Test.YthjfigaalknoiaaSpec
set_option linter.unusedVariables false
set_option linter.unusedSimpArgs false
namespace Go.Proofs.Ythjfigaalknoiaa
open Go.RowKit Go.Proofs.YthjfigaalknoiaaW.PrintWords Pt

/-- The tree of these codes and numbers lies at p. -/
structure Tr (w : World) (p : Nat) (cs : List ByteArray) (vs : List Int) : Prop where
  good : ¬ Bad cs vs
  lies : ∃ B ns, Pt.build [Nd.empty] (pairs cs vs) = some ns ∧ TreeOf B p w ns (told cs vs) cs.length ∧ Wf ns ∧ 0 < ns.length

theorem Tr.below {w w' : World} {p : Nat} {cs : List ByteArray} {vs : List Int} (h : Tr w p cs vs) (hb : Below w.heap.size w w') : Tr w' p cs vs := by
  obtain ⟨g, B, ns, h1, h2, h3, h4⟩ := h
  exact ⟨g, B, ns, h1, h2.below hb, h3, h4⟩

theorem pairs_ne {cs : List ByteArray} {vs : List Int} (h : ¬ Bad cs vs) : (∀ c ∈ pairs cs vs, c.1 ≠ []) ∧ pairs cs vs ≠ [] ∧ 0 < cs.length ∧ cs.length = vs.length ∧ cs.all isCode = true ∧ cs.length ≤ 300 := by
  unfold Bad at h
  have h1 : cs.length = vs.length := by omega
  have h2 : 0 < cs.length := by omega
  have h3 : cs.length ≤ 300 := by omega
  have h4 : cs.all isCode = true := by
    cases e : cs.all isCode with
    | true => rfl
    | false => exact absurd (.inr (.inr (.inr e))) h
  refine ⟨?_, ?_, h2, h1, h4, h3⟩
  · intro c hc e
    unfold pairs at hc
    obtain ⟨i, hi, rfl⟩ := List.mem_iff_getElem.1 hc
    simp only [List.length_zipWith] at hi
    simp only [List.getElem_zipWith] at e
    have := List.all_eq_true.1 h4 cs[i] (List.getElem_mem (by omega))
    have hl := bitsOf_length cs[i]
    rw [e] at hl
    unfold isCode at this
    simp at this
    simp at hl
    omega
  · intro e
    have := congrArg List.length e
    unfold pairs at this
    simp only [List.length_zipWith, List.length_nil] at this
    omega

/-- What a reading at a place answers, in the codes' words. -/
def ansAt (cs : List ByteArray) (vs : List Int) (bs : List Int) (nn : Nat) (i : Int) : Ans := if i < 0 then ⟨0, 0, 3⟩ else ansOf (Pt.spec (pairs cs vs) (bitsFrom bs i.toNat nn))

theorem tr_get {p : Nat} {cs : List ByteArray} {vs : List Int} (A : Option Addr) (nn cc : Nat) (bs : List Int) (i : Int) (w : World) (hT : Tr w p cs vs) (hB : Bytes w A nn bs) (h63 : i < 9223372036854775808) :
    Calls Try.prog 25 #[.pointer (some ⟨p, 0, none⟩), .slice A nn cc, .int .i64 i] w fun e w' => e = .returned (.tuple #[.int .i64 (ansAt cs vs bs nn i).v, .int .i64 (ansAt cs vs bs nn i).n, .int .i64 (ansAt cs vs bs nn i).e]) ∧ Below w.heap.size w w' := by
  obtain ⟨hg, B, ns, h1, h2, h3, h4⟩ := hT
  obtain ⟨q1, q2, q3, _⟩ := pairs_ne hg
  have e : getAns ns bs nn i = ansAt cs vs bs nn i := by
    unfold getAns ansAt
    rw [get_eq h1 q1 q2]
  rw [← e]
  exact get_any A nn cc bs i w h2 (by omega) h3 h4 hB h63

theorem tr_put {p : Nat} {cs : List ByteArray} {vs : List Int} (num : Int) (w : World) (hT : Tr w p cs vs) :
    Calls Try.prog 27 #[.pointer (some ⟨p, 0, none⟩), .int .i64 num] w fun e w' => e = .returned (.tuple #[.string (look (told cs vs) num).1, .int .i64 (putErr (told cs vs) num)]) ∧ Below w.heap.size w w' := by
  obtain ⟨hg, B, ns, h1, h2, h3, h4⟩ := hT
  obtain ⟨q1, q2, q3, _⟩ := pairs_ne hg
  exact puts_tree h2 (by omega) num
theorem tr_codes {p : Nat} {cs : List ByteArray} {vs : List Int} (w : World) (hT : Tr w p cs vs) :
    Calls Try.prog 29 #[.pointer (some ⟨p, 0, none⟩)] w fun e w' => e = .returned (.int .i64 cs.length) ∧ w = w' := by
  obtain ⟨hg, B, ns, h1, h2, h3, h4⟩ := hT
  obtain ⟨q1, q2, q3, _⟩ := pairs_ne hg
  exact codes_tree h2 (by omega)

theorem make_tr (A A' : Option Addr) (n c n' c' : Nat) (cs : List ByteArray) (vs : List Int) (w : World) (hC : Kd.string.C w A n cs) (hV : (Kd.int .i64).C w A' n' vs) (hs : ∀ s ∈ cs, s.size ≤ maxLen)
    (hg : ¬ Bad cs vs) (hp : (pairs cs vs).Pairwise Apart) :
    Calls Try.prog 21 #[.slice A n c, .slice A' n' c'] w fun e w' => ∃ p, e = .returned (.tuple #[.pointer (some ⟨p, 0, none⟩), .int .i64 0]) ∧ Below w.heap.size w w' ∧ Tr w' p cs vs := by
  refine (make_any A A' n c n' c' cs vs w hC hV hs).mono ?_
  intro e w' h
  cases hb : Pt.build [Nd.empty] (pairs cs vs) with
  | none => exact absurd hp ((build_none (pairs_ne hg).1).1 hb)
  | some ns =>
    obtain ⟨p, h1, h2, h3, h4, h5⟩ := h.tree hg ns hb
    exact ⟨p, h1, h2, hg, _, ns, hb, h3, h4, h5⟩
theorem make_form (A A' : Option Addr) (n c n' c' : Nat) (cs : List ByteArray) (vs : List Int) (w : World) (hC : Kd.string.C w A n cs) (hV : (Kd.int .i64).C w A' n' vs) (hs : ∀ s ∈ cs, s.size ≤ maxLen)
    (hg : ¬ Bad cs vs) (hp : ¬ (pairs cs vs).Pairwise Apart) :
    Calls Try.prog 21 #[.slice A n c, .slice A' n' c'] w fun e w' => e = .returned (.tuple #[.pointer none, .int .i64 14]) ∧ Below w.heap.size w w' := by
  refine (make_any A A' n c n' c' cs vs w hC hV hs).mono ?_
  intro e w' h
  exact h.form hg ((build_none (pairs_ne hg).1).2 hp)
theorem make_bad (A A' : Option Addr) (n c n' c' : Nat) (cs : List ByteArray) (vs : List Int) (w : World) (hC : Kd.string.C w A n cs) (hV : (Kd.int .i64).C w A' n' vs) (hs : ∀ s ∈ cs, s.size ≤ maxLen) (hg : Bad cs vs) :
    Calls Try.prog 21 #[.slice A n c, .slice A' n' c'] w fun e w' => e = .returned (.tuple #[.pointer none, .int .i64 2]) ∧ w = w' := by
  refine (make_any A A' n c n' c' cs vs w hC hV hs).mono ?_
  intro e w' h
  exact h.bad hg

instance (a b : List Bool × Int) : Decidable (Apart a b) := by unfold Apart; exact inferInstance
instance (cs : List ByteArray) (vs : List Int) : Decidable (Bad cs vs) := by unfold Bad; exact inferInstance

/-! Rows that a text lays itself. -/
theorem C_str {w : World} {b : Nat} {cur : Array Value} {t : Nat} (h : w.heap[b]? = some (.cells cur t (0, 0))) (cs : List ByteArray) (hc : cur.toList = cs.map Value.string) (hl : cs.length ≤ 9223372036854775807) : Kd.string.C w (some ⟨b, 0, none⟩) cs.length cs := by
  refine ⟨rfl, hl, fun _ => ⟨_, rfl, fun j p hj => ⟨[.string p], rfl, rfl, fun i u hu => ?_⟩⟩⟩
  have hi : i = 0 ∧ u = .string p := by
    cases i with
    | zero => simp at hu; exact ⟨rfl, hu.symm⟩
    | succ i => simp at hu
  obtain ⟨rfl, rfl⟩ := hi
  have : (⟨b, 0, none⟩ : Addr).add (j * Kd.string.sz + 0) = ⟨b, j, none⟩ := by
    show (⟨b, 0, none⟩ : Addr).add (j * 1 + 0) = _
    rw [Nat.mul_one, Nat.add_zero, add_plain]
  rw [this, cell_of_heap h, ← Array.getElem?_toList, hc, List.getElem?_map, hj]; rfl
theorem C_int {w : World} {b : Nat} {cur : Array Value} {t : Nat} {k : IntKind} (h : w.heap[b]? = some (.cells cur t (0, 0))) (vs : List Int) (hc : cur.toList = vs.map (Value.int k)) (hl : vs.length ≤ 9223372036854775807) : (Kd.int k).C w (some ⟨b, 0, none⟩) vs.length vs := by
  refine ⟨rfl, hl, fun _ => ⟨_, rfl, fun j p hj => ⟨[.int k p], rfl, rfl, fun i u hu => ?_⟩⟩⟩
  have hi : i = 0 ∧ u = .int k p := by
    cases i with
    | zero => simp at hu; exact ⟨rfl, hu.symm⟩
    | succ i => simp at hu
  obtain ⟨rfl, rfl⟩ := hi
  have : (⟨b, 0, none⟩ : Addr).add (j * (Kd.int k).sz + 0) = ⟨b, j, none⟩ := by
    show (⟨b, 0, none⟩ : Addr).add (j * 1 + 0) = _
    rw [Nat.mul_one, Nat.add_zero, add_plain]
  rw [this, cell_of_heap h, ← Array.getElem?_toList, hc, List.getElem?_map, hj]; rfl
theorem C_none {α : Type} (d : Kd α) (w : World) : d.C w none 0 [] := ⟨rfl, by decide, fun h => absurd h (by decide)⟩
theorem Bytes_lit {w : World} {b : Nat} {cur : Array Value} {t : Nat} (h : w.heap[b]? = some (.cells cur t (0, 0))) (bs : List Int) (hc : cur.toList = bs.map (Value.int .u8)) (hl : bs.length ≤ 140737488351232) (hr : ∀ x ∈ bs, 0 ≤ x ∧ x < 256) : Bytes w (some ⟨b, 0, none⟩) bs.length bs :=
  ⟨C_int h bs hc (by omega), hl, hr⟩
theorem Bytes_none (w : World) : Bytes w none 0 [] := ⟨C_none _ w, by decide, fun b hb => by simp at hb⟩
end Go.Proofs.Ythjfigaalknoiaa
