/- A region that draws its order, in a round of a loop over an iterator: whatever its order, by an invariant over what has been done. -/
import Derived.Test.YthjfigaalknoiaaDoorRound
set_option linter.unusedVariables false
set_option linter.unusedSimpArgs false
namespace Go.Proofs.YthjfigaalknoiaaDoor
open Go.RowKit
section
variable {P : Program} {ops : Array Oper} {Q : Exit → Act → World → Prop} {md : Region.Mode} {r m : Nat} {F : Fence}

theorem ready_mem {l : Array Bool} {i : Nat} (h : i ∈ Region.ready md ops l) : i < ops.size ∧ l.getD i true = false := by
  unfold Region.ready at h
  rw [List.mem_filter] at h
  obtain ⟨h1, h2⟩ := h
  simp only [Bool.and_eq_true, Bool.not_eq_true'] at h2
  exact ⟨List.mem_range.1 h1, h2.1⟩

theorem count_set : ∀ (l : List Bool) (i : Nat), l[i]? = some false → (l.set i true).count false + 1 = l.count false
  | [], i, h => by simp at h
  | b :: l, 0, h => by
    simp at h
    subst h
    simp
  | b :: l, i + 1, h => by
    simp at h
    have := count_set l i h
    rw [List.set_cons_succ, List.count_cons, List.count_cons]
    omega

/-- An invariant that every operation that may come up keeps. -/
theorem wpAnyIn_inv (Inv : Array Bool → Act → World → Prop)
    (hstep : ∀ l a w i, Inv l a w → i ∈ Region.ready md ops l → wpOpIn F m P ops Q i (Inv (l.setIfInBounds i true)) a w)
    (hend : ∀ l a w, Inv l a w → Region.ready md ops l = [] → Q .normal a w) :
    ∀ (fuel : Nat) (l : Array Bool) (a : Act) (w : World), l.toList.count false ≤ fuel → Inv l a w → wpAnyIn F m P md ops Q fuel l a w := by
  have hdec : ∀ l i, i ∈ Region.ready md ops l → (l.setIfInBounds i true).toList.count false + 1 = l.toList.count false := by
    intro l i hi
    obtain ⟨_, h2⟩ := ready_mem hi
    have h3 : l.toList[i]? = some false := by
      rw [Array.getElem?_toList]
      rw [Array.getD_eq_getD_getElem?] at h2
      cases hh : l[i]? with
      | none => rw [hh] at h2; cases h2
      | some b => rw [hh] at h2; exact congrArg some h2
    rw [Array.toList_setIfInBounds]
    exact count_set _ _ h3
  intro fuel
  induction fuel with
  | zero =>
    intro l a w hc hI
    have hr : Region.ready md ops l = [] := List.eq_nil_iff_forall_not_mem.2 fun i hi => by have := hdec l i hi; omega
    exact ⟨hr, hend l a w hI hr⟩
  | succ fuel ih =>
    intro l a w hc hI
    exact ⟨fun hr => hend l a w hI hr, fun i hi => wpOpIn_mono (fun a' w' h' => ih _ a' w' (by have := hdec l i hi; omega) h') (hstep l a w i hI hi)⟩

theorem wpIn_region_inv {id : Nat} {a : Act} {w : World} (hm : P.follows .mixedOrders = true) (Inv : Array Bool → Act → World → Prop)
    (h0 : Inv (Array.replicate ops.size false) a w.drew)
    (hstep : ∀ l a w i, Inv l a w → i ∈ Region.ready .any ops l → wpOpIn F m P ops Q i (Inv (l.setIfInBounds i true)) a w)
    (hend : ∀ l a w, Inv l a w → Region.ready .any ops l = [] → Q .normal a w) : (Code.region id ops true).wpIn F m P Q a w := by
  refine wpIn_region_any hm ?_
  refine wpAnyIn_inv Inv hstep hend ops.size _ a w.drew ?_ h0
  rw [Array.toList_replicate, List.count_replicate_self]
  exact Nat.le_refl _

theorem opIn_ok {o : Oper} {i : Nat} {a : Act} {K : Act → World → Prop} {v : Value} {w w' : World} (hi : ops[i]? = some o) (hg : o.guard = none) (hnd : ∀ c, o.op ≠ .defer c)
    (hrun : (execOp a.eval o).run P w = .ok (.value v) w') (h : K (a.put o.dst v) w') : wpOpIn (Fence.wide.inRound r) m P ops Q i K a w := by
  unfold wpOpIn
  simp only [hi]
  have hw : Region.wanted o (yielded ops a.tmps) = true := by unfold Region.wanted; rw [hg]
  simp only [hw, if_true]
  refine ⟨fun _ _ => trivial, ?_⟩
  show o.uponIn _ m P a K Q ((Oper.semAt (some r) a.eval o).run P w)
  rw [Oper.semAt_eq (some r) _ o hnd, hrun]
  exact h
theorem opIn_skip {o : Oper} {i : Nat} {a : Act} {K : Act → World → Prop} {w w' : World} (hi : ops[i]? = some o) (hg : o.guard = none) (hnd : ∀ c, o.op ≠ .defer c)
    (hrun : (execOp a.eval o).run P w = .ok .skip w') (h : K (a.put o.dst undef) w') : wpOpIn (Fence.wide.inRound r) m P ops Q i K a w := by
  unfold wpOpIn
  simp only [hi]
  have hw : Region.wanted o (yielded ops a.tmps) = true := by unfold Region.wanted; rw [hg]
  simp only [hw, if_true]
  refine ⟨fun _ _ => trivial, ?_⟩
  show o.uponIn _ m P a K Q ((Oper.semAt (some r) a.eval o).run P w)
  rw [Oper.semAt_eq (some r) _ o hnd, hrun]
  exact h
end
end Go.Proofs.YthjfigaalknoiaaDoor
