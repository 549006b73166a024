/- vector.tree makes the tree of the 32 codes; Get and Put read and tell it. -/
import Derived.Test.YthjfigaalknoiaaTwo
import Derived.Test.YthjfigaalknoiaaVCode
import Derived.Test.YthjfigaalknoiaaMatch
set_option linter.unusedVariables false
set_option linter.unusedSimpArgs false
namespace Go.Proofs.Ythjfigaalknoiaa
open Go.RowKit Go.Proofs.YthjfigaalknoiaaW.PrintWords Pt

theorem vgood : ¬ Bad vcs vns := by decide +kernel
theorem vapart : (pairs vcs vns).Pairwise Apart := by decide +kernel
theorem vshort : ∀ s ∈ vcs, s.size ≤ maxLen := by
  have : ∀ s ∈ vcs, s.size ≤ 24 := by decide +kernel
  intro s hs
  have := this s hs
  unfold maxLen; omega
theorem vcs_at : ∀ k : Nat, k < 32 → vcs[k]? = some (vcs.getD k ⟨#[]⟩) := by decide +kernel
theorem vns_at : ∀ k : Nat, k < 32 → vns[k]? = some ((k : Int) - 16) := by decide +kernel

set_option maxHeartbeats 1000000 in
theorem vtree_any (w : World) : Calls Try.prog 90 #[] w fun e w' => ∃ p, e = .returned (.pointer (some ⟨p, 0, none⟩)) ∧ Below w.heap.size w w' ∧ Tr w' p vcs vns := by
  go_enter Try.func90, Try.ntmps90
  go_wp2
  go_loopw [1, 2, 3] (fun v1 v2 i wr => ∃ k : Nat, k ≤ 32 ∧ i = .int .i64 ((k : Int) - 16) ∧ Hid (R2 w.heap.size w wr vcs vns v1 k v2 k)) (fun _ _ i _ => (16 - intOf i).toNat)
  case atStart => exact ⟨0, by omega, rfl, Lib.hid (R2.start w vcs vns)⟩
  case round =>
    obtain ⟨k, hk, rfl, HR⟩ := hrel
    by_cases hlt : k < 32
    · obtain ⟨c, hcc⟩ : ∃ c, vcs.getD k ⟨#[]⟩ = c := ⟨_, rfl⟩
      have HC : Hid (vcs[k]? = some c) := Lib.hid (hcc ▸ vcs_at k hlt)
      have HN := Lib.hid (vns_at k hlt)
      have h1 : (k : Int) - 16 < 16 := by omega
      have hcode := code_at wr ((k : Int) - 16) (by omega) h1
      rw [show ((k : Int) - 16 + 16).toNat = k by omega, hcc] at hcode
      clear hcc
      have t1 : True := trivial
      have t2 : True := trivial
      go_wp2_with fail
      refine hcode.mono ?_
      rintro e w1 ⟨rfl, rfl⟩
      clear hcode
      have hs1 : k + 1 ≤ 9223372036854775807 := by omega
      go_wp2_with (first | (at_builtin; have _u := t1; refine wpList_append_one (W := wr) rfl _ _ 22 9 _ 16 rfl Try.underlying22 info9 rfl (.string c) rfl rfl HR.out.o1 rfl HR.out.sz hs1 (by omega) ?_; intro v1' w1 hg1 ho1; have HR1 := Lib.hid ((HR.out.alloc _).fst HC.out hg1 ho1); clear hg1 ho1 t1) | (at_builtin; have _u := t2; refine wpList_append_one (W := w1) rfl _ _ 23 3 _ 8 rfl Try.underlying23 info3 rfl (.int .i64 ((k : Int) - 16)) rfl rfl HR1.out.o2 rfl HR1.out.sz hs1 (by omega) ?_; intro v2' w2 hg2 ho2; have HR2 := Lib.hid ((HR1.out.alloc _).snd HN.out hg2 ho2); clear hg2 ho2 t2))
      go_roundw
      case rel => exact ⟨k + 1, by omega, by congr 1; omega, HR2⟩
      case measure => simp [intOf]; omega
    · obtain rfl : k = 32 := by omega
      obtain ⟨A1, c1, A2, c2, rfl, rfl, hC, hV⟩ := HR.out.rows (by decide) (by decide)
      have HC := Lib.hid hC
      have HV := Lib.hid hV
      clear hC hV
      go_wp2_with fail
      refine (make_tr A1 A2 vcs.length c1 vns.length c2 vcs vns wr HC.out HV.out vshort vgood vapart).mono ?_
      rintro e w' ⟨p, rfl, hb, ht⟩
      have HT := Lib.hid ht
      have HB := Lib.hid (HR.out.bl.trans (hb.mono HR.out.sz))
      clear hb ht
      go_wp2
      go_ret
      exact ⟨p, rfl, HB.out, HT.out⟩
end Go.Proofs.Ythjfigaalknoiaa
