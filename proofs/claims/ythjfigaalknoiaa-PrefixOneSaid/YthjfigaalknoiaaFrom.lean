/- prefix.from hands on bits, one behind the other: its iterator, for every loop body. -/
import Derived.RangeFuncNested
import Derived.RangeFuncBound
import Derived.RangeFuncCalls
import Derived.RangeFuncLeaves
import Derived.Shelf.Abstract
import Derived.Shelf.RegionOpen
import Derived.OwnWalkIn
import Derived.TacticsInMore
import Derived.LoopNIn
import Derived.LoopIn
import Derived.Test.YthjfigaalknoiaaBits
set_option linter.unusedVariables false
set_option linter.unusedSimpArgs false
namespace Go.Proofs.Ythjfigaalknoiaa
open Go.RowKit Go.Proofs.YthjfigaalknoiaaW.PrintWords
attribute [local go_sem] Oper.semAt_some

theorem from_any (A : Option Addr) (n c : Nat) (i : Int) (w : World) :
    Calls Try.prog 78 #[.slice A n c, .int .i64 i] w fun e w' => e = .returned (.func (.func 98) #[] #[.pointer (some ⟨w.heap.size, 0, none⟩), .pointer (some ⟨w.heap.size + 1, 0, none⟩)]) ∧ (w.alloc (.cells #[.slice A n c] 24)).alloc (.cells #[.int .i64 i] 3) = w' := by
  go_enter Try.func78, Try.ntmps78
  go_wp2
  go_ret
  exact ⟨rfl, rfl⟩

def boxAt (ba : Nat) (W : World) : Int := match W.cell? ⟨ba, 0, none⟩ with | some (.int _ x) => x | _ => 0

set_option maxHeartbeats 1000000 in
theorem from1_in (n l bb ba nn cc at0 : Nat) (A : Option Addr) (bs : List Int) (J : Nat → World → Prop) (Jx : World → Prop) (hat : at0 < 9223372036854775808)
    (hJa : ∀ k W v, J k W → J k (W.setCell ⟨ba, 0, none⟩ v))
    (hJf : ∀ k W, J k W → Bytes W A nn bs ∧ W.cell? ⟨bb, 0, none⟩ = some (.slice A nn cc) ∧ W.frozen? ⟨ba, 0, none⟩ = false)
    (hY : ∀ k W, J k W → W.cell? ⟨ba, 0, none⟩ = some (.int .i64 ((at0 : Int) + (k : Int))) → at0 + k < 8 * nn → YieldAt Fence.wide (n - 1) Try.prog l #[.int .i64 (bitInt bs (at0 + k))] W fun e W' =>
      (e = .returned (.bool true) ∧ J (k + 1) W' ∧ W'.cell? ⟨ba, 0, none⟩ = some (.int .i64 ((at0 : Int) + (k : Int)))) ∨ (e = .returned (.bool false) ∧ Jx W'))
    (W : World) (h0 : J 0 W) (hc : W.cell? ⟨ba, 0, none⟩ = some (.int .i64 (at0 : Int))) :
    CallsIn Fence.wide n Try.prog 98 #[.func (.yield l) #[] #[], .pointer (some ⟨bb, 0, none⟩), .pointer (some ⟨ba, 0, none⟩)] W fun e W' => (∃ v, e = .returned v) ∧
      ((∃ k, 8 * nn ≤ at0 + k ∧ k ≤ 8 * nn - at0 ∧ J k W') ∨ Jx W') := by
  refine callsIn_of_wp Try.func98 rfl trivial ?_ rfl
  simp only [Try.ntmps98, List.size_toArray, List.length_cons, List.length_nil, Nat.reduceAdd, Nat.reduceSub, Array.replicate_succ, Array.replicate_zero, List.push_toArray, List.append_toArray, List.nil_append, List.cons_append]
  have HJa := Lib.hid hJa
  have HJf := Lib.hid hJf
  have HY := Lib.hid hY
  clear hJa hJf hY
  gi_wp2
  gi_loopw [4, 5] (fun _ _ wr => ∃ k : Nat, k ≤ 8 * nn - at0 ∧ Hid (J k wr) ∧ wr.cell? ⟨ba, 0, none⟩ = some (.int .i64 ((at0 : Int) + (k : Int)))) (fun _ _ wr => (8 * (nn : Int) - boxAt ba wr).toNat)
  case atStart => exact ⟨0, Nat.zero_le _, Lib.hid h0, by simpa using hc⟩
  case round =>
    clear hc h0
    obtain ⟨k, hk, HJ, hca⟩ := hrel
    obtain ⟨hB, hcb, hfa⟩ := HJf.out k wr HJ.out
    have hn63 := hB.2.1
    have HB := Lib.hid hB
    clear hB
    have HB1 : Hid (boxAt ba wr = (at0 : Int) + (k : Int)) := Lib.hid (by unfold boxAt; rw [hca])
    by_cases hlt : at0 + k < 8 * nn
    · have e1 : Hid (readVal bs nn ((at0 : Int) + (k : Int)) = bitInt bs (at0 + k)) := Lib.hid (by unfold readVal; rw [if_pos (by omega)]; rfl)
      have e2 : Hid (readErr nn ((at0 : Int) + (k : Int)) = 0) := Lib.hid (by unfold readErr; rw [if_neg (by omega), if_pos (by omega)])
      obtain ⟨fn, tmps, assign, body, hy, hR⟩ := HY.out k wr HJ.out hca hlt
      gi_wp2_with fail
      refine ⟨trivial, fun h => by simp [Fence.wide] at h, ?_⟩
      refine (callsIn_wide.2 (read_any _ _ _ _ _ _ HB.out (by omega))).mono ?_
      rintro e w' ⟨rfl, rfl⟩
      rw [e1.out, e2.out]
      gi_wp2
      refine ⟨fun h => by simp [Fence.wide] at h, ?_⟩
      refine hR.mono ?_
      rintro e W3 (⟨rfl, hJ3, hc3⟩ | ⟨rfl, hJx⟩)
      · have hf3 := (HJf.out _ _ hJ3).2.2
        have HJ3 := Lib.hid hJ3
        clear hJ3 hy hR hca hfa hcb
        gi_wp2
        go_roundw
        case rel => exact ⟨k + 1, by omega, Lib.hid (HJa.out _ _ _ HJ3.out), by rw [World.cell?_setCell_same' _ _ _ (by rw [hc3]; rfl)]; go_num⟩
        case measure =>
          have b1 := HB1.out
          have b2 : boxAt ba (W3.setCell ⟨ba, 0, none⟩ (.int .i64 ((at0 : Int) + (k : Int) + 1))) = (at0 : Int) + (k : Int) + 1 := by unfold boxAt; rw [World.cell?_setCell_same' _ _ _ (by rw [hc3]; rfl)]
          rw [b1, b2]; omega
      · have HJx := Lib.hid hJx
        clear hJx hy hR
        gi_wp2
        refine bodyPost_ret (results_none rfl _ _ _) rfl ?_
        exact ⟨⟨_, rfl⟩, .inr HJx.out⟩
    · have e1 : Hid (readVal bs nn ((at0 : Int) + (k : Int)) = 0) := Lib.hid (by unfold readVal; rw [if_neg (by omega)])
      have e2 : Hid (readErr nn ((at0 : Int) + (k : Int)) = 5) := Lib.hid (by unfold readErr; rw [if_neg (by omega), if_neg (by omega)])
      gi_wp2_with fail
      refine ⟨trivial, fun h => by simp [Fence.wide] at h, ?_⟩
      refine (callsIn_wide.2 (read_any _ _ _ _ _ _ HB.out (by omega))).mono ?_
      rintro e w' ⟨rfl, rfl⟩
      rw [e1.out, e2.out]
      gi_wp2
      refine ⟨fun _ h => (by cases h), ?_⟩
      gi_wp2
      refine bodyPost_ret (results_none rfl _ _ _) rfl ?_
      exact ⟨⟨_, rfl⟩, .inl ⟨k, by omega, hk, HJ.out⟩⟩
end Go.Proofs.Ythjfigaalknoiaa
