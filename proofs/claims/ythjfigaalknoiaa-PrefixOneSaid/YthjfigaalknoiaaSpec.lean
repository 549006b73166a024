/- What a made tree reads is what its codes say, code by code; plain Lean, no program in sight. -/
import Derived.Test.YthjfigaalknoiaaTrie
set_option linter.unusedVariables false
namespace Go.Proofs.Ythjfigaalknoiaa
namespace Pt

/-- Code by code: the first that the bits begin with; else whether the bits begin one. -/
def spec (L : List (List Bool × Int)) (bits : List Bool) : Res :=
  match L.find? (fun c => c.1.isPrefixOf bits) with
  | some c => .ok c.2 c.1.length
  | none => if L.any (fun c => bits.isPrefixOf c.1) then .more else .code

theorem apart_eq : ∀ {L : List (List Bool × Int)}, L.Pairwise Apart → ∀ {a b : List Bool × Int}, a ∈ L → b ∈ L → a.1 <+: b.1 ∨ b.1 <+: a.1 → a = b
  | [], _, a, b, ha, _, _ => by simp at ha
  | x :: L, h, a, b, ha, hb, hc => by
    obtain ⟨h1, h2⟩ := List.pairwise_cons.1 h
    rcases List.mem_cons.1 ha with rfl | ha2 <;> rcases List.mem_cons.1 hb with rfl | hb2
    · rfl
    · have := h1 b hb2
      rcases hc with hc | hc
      · exact absurd hc this.1
      · exact absurd hc this.2
    · have := h1 a ha2
      rcases hc with hc | hc
      · exact absurd hc this.2
      · exact absurd hc this.1
    · exact apart_eq h2 ha2 hb2 hc

theorem comparable {a b s : List Bool} (ha : a <+: s) (hb : b <+: s) : a <+: b ∨ b <+: a := List.prefix_or_prefix_of_prefix ha hb

theorem get_eq {L : List (List Bool × Int)} {ns : List Nd} (hb : build [Nd.empty] L = some ns) (hne : ∀ c ∈ L, c.1 ≠ []) (hpos : L ≠ []) (bits : List Bool) :
    get ns (ns.getD 0 Nd.empty) 0 bits = spec L bits := by
  obtain ⟨⟨_, hap⟩, ps, hI, hC⟩ := (build_spec L inv_empty cover_empty hne).2 ns hb
  simp only [List.nil_append] at hI hC
  obtain ⟨n0, hn0⟩ := hI.some_of hI.root
  rw [getD_of_some hn0]
  have hl0 : n0.leaf = false := by
    cases h : n0.leaf with
    | false => rfl
    | true => exact absurd rfl (hne _ (hI.leaf 0 n0 [] hn0 hI.root h))
  obtain ⟨g1, g2, g3⟩ := get_spec hI bits 0 hI.root hn0 hl0
  simp only [List.nil_append, Nat.zero_add] at g1 g2 g3
  cases hr : get ns n0 0 bits with
  | ok v m =>
    obtain ⟨q, r, e1, e2, e3⟩ := g1 v m hr
    have hqp : q <+: bits := ⟨r, e1.symm⟩
    unfold spec
    cases hf : L.find? (fun c => c.1.isPrefixOf bits) with
    | none =>
      rw [List.find?_eq_none] at hf
      exact absurd (List.isPrefixOf_iff_prefix.2 hqp) (by simpa using hf _ e2)
    | some c =>
      have hc1 := List.find?_some hf
      have hc2 := List.mem_of_find?_eq_some hf
      have : c = (q, v) := apart_eq hap hc2 e2 (comparable (List.isPrefixOf_iff_prefix.1 hc1) hqp)
      subst this
      simp [e3]
  | more =>
    obtain ⟨e1, e2⟩ := g2 hr
    unfold spec
    have hn : L.find? (fun c => c.1.isPrefixOf bits) = none := by
      rw [List.find?_eq_none]
      intro c hc hp
      obtain ⟨r, hr⟩ := List.isPrefixOf_iff_prefix.1 hp
      exact e2 c.1 r hr.symm c.2 hc
    rw [hn]
    have ha : L.any (fun c => bits.isPrefixOf c.1) = true := by
      rw [List.any_eq_true]
      rcases (hC _).1 e1 with h | ⟨c, hc, hp⟩
      · subst h
        cases L with
        | nil => exact absurd rfl hpos
        | cons c L => exact ⟨c, by simp, by simp⟩
      · exact ⟨c, hc, List.isPrefixOf_iff_prefix.2 hp⟩
    simp only [ha, if_true]
  | code =>
    obtain ⟨e1, e2⟩ := g3 hr
    unfold spec
    have hn : L.find? (fun c => c.1.isPrefixOf bits) = none := by
      rw [List.find?_eq_none]
      intro c hc hp
      obtain ⟨r, hr⟩ := List.isPrefixOf_iff_prefix.1 hp
      exact e2 c.1 r hr.symm c.2 hc
    rw [hn]
    have ha : L.any (fun c => bits.isPrefixOf c.1) = false := by
      rw [List.any_eq_false]
      intro c hc hp
      exact e1 ((hC _).2 (.inr ⟨c, hc, List.isPrefixOf_iff_prefix.1 (by simpa using hp)⟩))
    simp only [ha]
    rfl

theorem build_none {L : List (List Bool × Int)} (hne : ∀ c ∈ L, c.1 ≠ []) : build [Nd.empty] L = none ↔ ¬ L.Pairwise Apart := by
  have h := build_spec L inv_empty cover_empty hne
  constructor
  · intro hn hp
    exact h.1 hn ⟨fun a ha => by simp at ha, hp⟩
  · intro hp
    cases e : build [Nd.empty] L with
    | none => rfl
    | some ns => exact absurd (h.2 ns e).1.2 hp
end Pt
end Go.Proofs.Ythjfigaalknoiaa
