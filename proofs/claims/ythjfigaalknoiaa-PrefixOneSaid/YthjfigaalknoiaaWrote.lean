/- Codes that were written one behind the other are read again: plain laws. -/
import Derived.Test.YthjfigaalknoiaaPenBytes
import Derived.Test.YthjfigaalknoiaaMatch
set_option linter.unusedVariables false
set_option linter.unusedSimpArgs false
namespace Go.Proofs.Ythjfigaalknoiaa
open Go.RowKit Go.Proofs.YthjfigaalknoiaaW.PrintWords Pt

theorem spec_code {L : List (List Bool × Int)} (hap : L.Pairwise Apart) {c : List Bool × Int} (hc : c ∈ L) {bits : List Bool} (hp : c.1 <+: bits) : spec L bits = .ok c.2 c.1.length := by
  unfold spec
  cases hf : L.find? (fun c => c.1.isPrefixOf bits) with
  | none =>
    rw [List.find?_eq_none] at hf
    exact absurd (List.isPrefixOf_iff_prefix.2 hp) (by simpa using hf _ hc)
  | some d =>
    have hd1 := List.find?_some hf
    have hd2 := List.mem_of_find?_eq_some hf
    have : d = c := apart_eq hap hd2 hc (comparable (List.isPrefixOf_iff_prefix.1 hd1) hp)
    subst this
    rfl
theorem spec_more {L : List (List Bool × Int)} (hap : L.Pairwise Apart) {c : List Bool × Int} (hc : c ∈ L) {bits : List Bool} (hp : bits <+: c.1) (hlt : bits.length < c.1.length) : spec L bits = .more := by
  unfold spec
  cases hf : L.find? (fun c => c.1.isPrefixOf bits) with
  | none =>
    have : L.any (fun c => bits.isPrefixOf c.1) = true := List.any_eq_true.2 ⟨c, hc, List.isPrefixOf_iff_prefix.2 hp⟩
    simp only [this, if_true]
  | some d =>
    have hd0 := List.find?_some hf
    have hd1 : d.1 <+: bits := List.isPrefixOf_iff_prefix.1 hd0
    have hd2 := List.mem_of_find?_eq_some hf
    have : d = c := apart_eq hap hd2 hc (.inl (hd1.trans hp))
    subst this
    have := hd1.length_le
    omega

theorem bitAt_of {bs : List Int} {all : List Bool} (hb : ∀ j, bitInt bs j = if all.getD j false then 1 else 0) (j : Nat) : bitAt bs j = all.getD j false := by
  unfold bitAt
  rw [hb j]
  cases all.getD j false <;> rfl
theorem wrote_prefix {bs : List Int} {pre x post : List Bool} {nn : Nat} (hb : ∀ j, bitInt bs j = if (pre ++ x ++ post).getD j false then 1 else 0) (hn : pre.length + x.length ≤ 8 * nn) : x <+: bitsFrom bs pre.length nn := by
  rw [List.prefix_iff_eq_take]
  apply List.ext_getElem?
  intro j
  rw [List.getElem?_take]
  by_cases hj : j < x.length
  · rw [if_pos hj, bitsFrom_get (by omega), bitAt_of hb, List.append_assoc, List.getD_eq_getElem?_getD, List.getElem?_append_right (by omega), Nat.add_sub_cancel_left, List.getElem?_append_left hj, List.getElem?_eq_getElem hj]
    rfl
  · rw [if_neg hj, List.getElem?_eq_none (by omega)]

/-- What is read where a code was written. -/
theorem ans_code {cs : List ByteArray} {vs : List Int} (hg : ¬ Bad cs vs) (hap : (pairs cs vs).Pairwise Apart) {k : Nat} {s : ByteArray} {v : Int} (hs : cs[k]? = some s) (hv : vs[k]? = some v) {bs : List Int} {pre post : List Bool} {nn : Nat}
    (hb : ∀ j, bitInt bs j = if (pre ++ bitsOf s ++ post).getD j false then 1 else 0) (hn : pre.length + s.size ≤ 8 * nn) : ansAt cs vs bs nn (pre.length : Int) = ⟨v, s.size, 0⟩ := by
  obtain ⟨hk1, rfl⟩ := List.getElem?_eq_some_iff.1 hs
  obtain ⟨hk2, rfl⟩ := List.getElem?_eq_some_iff.1 hv
  have hm := List.mem_of_getElem? (pairs_get (cs := cs) (vs := vs) hk1 hk2)
  unfold ansAt
  rw [if_neg (by omega), Int.toNat_natCast, spec_code hap hm (wrote_prefix hb (by rw [bitsOf_length]; exact hn))]
  simp only [ansOf, resV, resN, resE, bitsOf_length]
/-- What is read where a code was cut off. -/
theorem ans_more {cs : List ByteArray} {vs : List Int} (hg : ¬ Bad cs vs) (hap : (pairs cs vs).Pairwise Apart) {k : Nat} {s : ByteArray} {v : Int} (hs : cs[k]? = some s) (hv : vs[k]? = some v) {bs : List Int} {pre post : List Bool} {nn : Nat}
    (hb : ∀ j, j < 8 * nn → bitInt bs j = if (pre ++ bitsOf s ++ post).getD j false then 1 else 0) (hn : 8 * nn < pre.length + s.size) (hn0 : pre.length ≤ 8 * nn) : ansAt cs vs bs nn (pre.length : Int) = ⟨0, 0, 5⟩ := by
  obtain ⟨hk1, rfl⟩ := List.getElem?_eq_some_iff.1 hs
  obtain ⟨hk2, rfl⟩ := List.getElem?_eq_some_iff.1 hv
  have hm := List.mem_of_getElem? (pairs_get (cs := cs) (vs := vs) hk1 hk2)
  have hl : (bitsFrom bs pre.length nn).length = 8 * nn - pre.length := bitsFrom_length _ _ _
  have hbl := bitsOf_length cs[k]
  have hp : bitsFrom bs pre.length nn <+: bitsOf cs[k] := by
    rw [List.prefix_iff_eq_take, hl]
    apply List.ext_getElem?
    intro j
    rw [List.getElem?_take]
    by_cases hj : j < 8 * nn - pre.length
    · have hb' : bitAt bs (pre.length + j) = (pre ++ bitsOf cs[k] ++ post).getD (pre.length + j) false := by
        unfold bitAt
        rw [hb _ (by omega)]
        cases (pre ++ bitsOf cs[k] ++ post).getD (pre.length + j) false <;> rfl
      rw [if_pos hj, bitsFrom_get (by omega), hb', List.append_assoc, List.getD_eq_getElem?_getD, List.getElem?_append_right (by omega), Nat.add_sub_cancel_left, List.getElem?_append_left (by omega), List.getElem?_eq_getElem (by omega)]
      rfl
    · rw [if_neg hj, List.getElem?_eq_none (by omega)]
  unfold ansAt
  rw [if_neg (by omega), Int.toNat_natCast, spec_more hap hm hp (by rw [hl]; show _ < (bitsOf cs[k]).length; omega)]
  rfl
end Go.Proofs.Ythjfigaalknoiaa
