/- A region that draws its order, in a round of a loop over an iterator: reads first, whatever their order, and one tail. -/
import Derived.StillTailTactics
import Derived.RangeFuncNested
import Derived.RangeFuncCalls
import Derived.OrdersIn
import Derived.OwnWalkIn
import Derived.Test.YthjfigaalknoiaaBase
set_option linter.unusedVariables false
set_option linter.unusedSimpArgs false
namespace Go.Proofs.Ythjfigaalknoiaa
open Go.RowKit
section
variable {P : Program} {ops : Array Oper} {Q : Exit → Act → World → Prop} {w : World} {md : Region.Mode} {r m : Nat}

theorem wpOpIn_of_stOp {i : Nat} {a : Act} {K : Act → Prop} {K' : Act → World → Prop} (hnd : ∀ o ∈ ops.toList, ∀ c, o.op ≠ .defer c) (h : ∀ a, K a → K' a w) (hh : stOp P ops w i K a) :
    wpOpIn (Fence.wide.inRound r) m P ops Q i K' a w := by
  cases hi : ops[i]? with
  | none =>
    unfold stOp at hh
    unfold wpOpIn
    simp only [hi] at hh ⊢
    exact h _ hh
  | some o =>
    obtain ⟨v, hy, hK⟩ := yieldsAt_of_stOp hi hh
    have hsem : ∀ ρ, Oper.semAt (some r) ρ o = execOp ρ o := fun ρ => Oper.semAt_eq (some r) ρ o (fun c => hnd o (by
      have := (Array.getElem?_eq_some_iff.1 hi)
      obtain ⟨hlt, he⟩ := this
      rw [← he]; simp) c)
    unfold wpOpIn
    simp only [hi]
    rcases hy with ⟨hw, hv | ⟨hv, rfl⟩ | ⟨f, args, hv, hc⟩⟩ | ⟨hw, rfl⟩
    · simp only [hw, if_true]
      refine ⟨fun _ _ => trivial, ?_⟩
      show o.uponIn _ m P a K' Q ((Oper.semAt (some r) a.eval o).run P w)
      rw [hsem, hv]
      exact h _ hK
    · simp only [hw, if_true]
      refine ⟨fun _ _ => trivial, ?_⟩
      show o.uponIn _ m P a K' Q ((Oper.semAt (some r) a.eval o).run P w)
      rw [hsem, hv]
      exact h _ hK
    · simp only [hw, if_true]
      refine ⟨fun _ _ => trivial, ?_⟩
      show o.uponIn _ m P a K' Q ((Oper.semAt (some r) a.eval o).run P w)
      rw [hsem, hv]
      refine ⟨fun hd => by simp [Fence.inRound, Fence.wide] at hd, CallsIn.inRound r (callsIn_wide.2 (hc.mono ?_))⟩
      rintro e w'' ⟨rfl, rfl⟩
      exact h _ hK
    · simp only [hw, Bool.false_eq_true, if_false]
      exact ⟨fun _ _ => trivial, h _ hK⟩

theorem wpAnyIn_of_head (hnd : ∀ o ∈ ops.toList, ∀ c, o.op ≠ .defer c) {n g : Nat} {L : Array Bool → Act → Prop} (hL : ∀ listed a, L listed a → wpAnyIn (Fence.wide.inRound r) m P md ops Q g listed a w) :
    ∀ (f : Nat) (listed : Array Bool) (a : Act), wpAnyL P md ops w n L f listed a → wpAnyIn (Fence.wide.inRound r) m P md ops Q (f + g) listed a w
  | 0, listed, a, h => by rw [Nat.zero_add]; exact hL _ _ h
  | f + 1, listed, a, h => by
    rw [show f + 1 + g = (f + g) + 1 by omega]
    exact ⟨fun h0 => absurd h0 h.1, fun i hi => wpOpIn_of_stOp hnd (fun a' h' => wpAnyIn_of_head hnd hL f _ a' h') (h.2 i hi).2⟩

theorem wpAnyIn_of_seq : ∀ (l : List Oper) (k : Nat) (listed : Array Bool) (a : Act) (w : World), (∀ j, l[j]? = ops[k + j]?) →
    Region.seqB md ops l.length k listed = true → wpListIn (Fence.wide.inRound r) m P ops Q l a w → wpAnyIn (Fence.wide.inRound r) m P md ops Q l.length listed a w
  | [], _, _, _, _, _, hB, h => ⟨by simpa [Region.seqB] using hB, h⟩
  | o :: l, k, listed, a, w, hl, hB, h => by
    have h0 : ops[k]? = some o := by simpa using (hl 0).symm
    simp only [List.length_cons, Region.seqB, Bool.and_eq_true, decide_eq_true_eq] at hB
    refine ⟨fun h1 => (by rw [hB.1] at h1; cases h1), fun i hi => ?_⟩
    rw [hB.1] at hi
    have hik : i = k := by simpa using hi
    subst hik
    have hw : wpOpIn (Fence.wide.inRound r) m P ops Q i (wpListIn (Fence.wide.inRound r) m P ops Q l) a w := by unfold wpOpIn; simp only [h0]; exact h
    exact wpOpIn_mono (fun a' w' h' => wpAnyIn_of_seq l (i + 1) _ a' w' (fun j => by have := hl (j + 1); simpa [Nat.add_assoc, Nat.add_comm 1 j] using this) hB.2 h') hw

theorem wpIn_region_round {id : Nat} {a : Act} {l : List Oper} (n : Nat) (hm : P.follows .mixedOrders = true) (hB : Region.lexTailB .any l.toArray n = true) (hnd : ∀ o ∈ l, ∀ c, o.op ≠ .defer c)
    (h : wpStill P l.toArray w.drew (fun a' => wpListIn (Fence.wide.inRound r) m P l.toArray Q (l.drop n) a' w.drew) (l.take n) a) : (Code.region id l.toArray true).wpIn (Fence.wide.inRound r) m P Q a w := by
  simp only [Region.lexTailB, Bool.and_eq_true, decide_eq_true_eq] at hB
  obtain ⟨⟨⟨⟨hsel, hn⟩, hs⟩, hc⟩, hlex⟩ := hB
  have hn' : n < l.length := by simpa using hn
  have htl : (l.take n).length = n := by simp; omega
  have hdl : (l.drop n).length = l.toArray.size - n := by simp
  have inv0 : HeadInv .any l.toArray n (Array.replicate l.toArray.size false) :=
    ⟨by simp, fun j oj _ hl => (by rw [getD_replicate_false] at hl; cases hl), fun t _ ht => getD_in (by simpa using ht) (getD_replicate_false _ _)⟩
  have H := wpAnyL_lex (md := .any) (g := l.toArray.size - n) hsel hs hc hn (l.take n) 0 _ a (fun j hj => by
    have hj' : j < n := by rw [htl] at hj; exact hj
    simp [hj']) (by simpa using htl) inv0 (by rw [htl]; exact hlex) h
  refine wpIn_region_any hm ?_
  have := wpAnyIn_of_head (r := r) (m := m) (Q := Q) (g := l.toArray.size - n) (by simpa using hnd) (fun listed a' hL => by
    have := wpAnyIn_of_seq (md := .any) (Q := Q) (r := r) (m := m) (l.drop n) n listed a' w.drew (fun j => by simp [List.getElem?_drop]) (by rw [hdl]; exact hL.1) hL.2
    rwa [hdl] at this) _ _ _ H
  rw [htl, show n + (l.toArray.size - n) = l.toArray.size by omega] at this
  exact this
end
end Go.Proofs.Ythjfigaalknoiaa
