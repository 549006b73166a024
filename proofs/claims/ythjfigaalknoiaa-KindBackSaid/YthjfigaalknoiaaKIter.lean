/- kind.all hands on the ten rows, one behind the other: its iterator, for every loop body. -/
import Derived.Test.YthjfigaalknoiaaKAll
import Derived.Test.YthjfigaalknoiaaFrom
set_option linter.unusedVariables false
set_option linter.unusedSimpArgs false
namespace Go.Proofs.Ythjfigaalknoiaa
open Go.RowKit Go.Proofs.YthjfigaalknoiaaW.PrintWords
attribute [local go_sem] Oper.semAt_some

theorem all_any (w : World) : Calls Try.prog 85 #[] w fun e w' => e = .returned (.func (.func 101) #[] #[]) ∧ w = w' := by
  go_enter Try.func85, Try.ntmps85
  go_wp2
  go_ret
  exact ⟨rfl, rfl⟩
theorem index121_0 (w : World) : (Instr.index 121 (.agg ktab) (.int .i64 0)).run Try.prog w = .ok (.agg (krow 0)) w := by kernel_rfl
theorem index121_1 (w : World) : (Instr.index 121 (.agg ktab) (.int .i64 1)).run Try.prog w = .ok (.agg (krow 1)) w := by kernel_rfl
theorem index121_2 (w : World) : (Instr.index 121 (.agg ktab) (.int .i64 2)).run Try.prog w = .ok (.agg (krow 2)) w := by kernel_rfl
theorem index121_3 (w : World) : (Instr.index 121 (.agg ktab) (.int .i64 3)).run Try.prog w = .ok (.agg (krow 3)) w := by kernel_rfl
theorem index121_4 (w : World) : (Instr.index 121 (.agg ktab) (.int .i64 4)).run Try.prog w = .ok (.agg (krow 4)) w := by kernel_rfl
theorem index121_5 (w : World) : (Instr.index 121 (.agg ktab) (.int .i64 5)).run Try.prog w = .ok (.agg (krow 5)) w := by kernel_rfl
theorem index121_6 (w : World) : (Instr.index 121 (.agg ktab) (.int .i64 6)).run Try.prog w = .ok (.agg (krow 6)) w := by kernel_rfl
theorem index121_7 (w : World) : (Instr.index 121 (.agg ktab) (.int .i64 7)).run Try.prog w = .ok (.agg (krow 7)) w := by kernel_rfl
theorem index121_8 (w : World) : (Instr.index 121 (.agg ktab) (.int .i64 8)).run Try.prog w = .ok (.agg (krow 8)) w := by kernel_rfl
theorem index121_9 (w : World) : (Instr.index 121 (.agg ktab) (.int .i64 9)).run Try.prog w = .ok (.agg (krow 9)) w := by kernel_rfl
theorem index121_at (w : World) : ∀ k : Nat, k < 10 → (Instr.index 121 (.agg ktab) (.int .i64 (k : Int))).run Try.prog w = .ok (.agg (krow k)) w
  | 0, _ => index121_0 w
  | 1, _ => index121_1 w
  | 2, _ => index121_2 w
  | 3, _ => index121_3 w
  | 4, _ => index121_4 w
  | 5, _ => index121_5 w
  | 6, _ => index121_6 w
  | 7, _ => index121_7 w
  | 8, _ => index121_8 w
  | 9, _ => index121_9 w
  | n + 10, h => by omega
theorem krow_form : ∀ k : Nat, k < 10 → ∃ (c : ByteArray) (p1 p2 p3 p4 p5 : Bool), krow k = #[.string c, .bool p1, .bool p2, .bool p3, .bool p4, .bool p5]
  | 0, _ => ⟨_, _, _, _, _, _, rfl⟩
  | 1, _ => ⟨_, _, _, _, _, _, rfl⟩
  | 2, _ => ⟨_, _, _, _, _, _, rfl⟩
  | 3, _ => ⟨_, _, _, _, _, _, rfl⟩
  | 4, _ => ⟨_, _, _, _, _, _, rfl⟩
  | 5, _ => ⟨_, _, _, _, _, _, rfl⟩
  | 6, _ => ⟨_, _, _, _, _, _, rfl⟩
  | 7, _ => ⟨_, _, _, _, _, _, rfl⟩
  | 8, _ => ⟨_, _, _, _, _, _, rfl⟩
  | 9, _ => ⟨_, _, _, _, _, _, rfl⟩
  | n + 10, h => by omega

set_option maxRecDepth 100000 in
set_option maxHeartbeats 4000000 in
theorem all1_in (n l : Nat) (J : Nat → World → Prop) (Jx : World → Prop)
    (hJb : ∀ k W W', J k W → Below W.heap.size W W' → J k W')
    (hY : ∀ k W, J k W → k < 10 → YieldAt Fence.wide (n - 1) Try.prog l #[.int .i64 ((k : Int) + 1), .agg (krow k)] W fun e W' => (e = .returned (.bool true) ∧ J (k + 1) W') ∨ (e = .returned (.bool false) ∧ Jx W'))
    (W : World) (h0 : J 0 W) :
    CallsIn Fence.wide n Try.prog 101 #[.func (.yield l) #[] #[]] W fun e W' => (∃ v, e = .returned v) ∧ (J 10 W' ∨ Jx W') := by
  refine callsIn_of_wp Try.func101 rfl trivial ?_ rfl
  simp only [Try.ntmps101, List.size_toArray, List.length_cons, List.length_nil, Nat.reduceAdd, Nat.reduceSub, Array.replicate_succ, Array.replicate_zero, List.push_toArray, List.append_toArray, List.nil_append, List.cons_append]
  have HJb := Lib.hid hJb
  have HY := Lib.hid hY
  clear hJb hY
  gi_wp2_with fail
  refine ⟨trivial, fun h => by simp [Fence.wide] at h, ?_⟩
  refine (callsIn_wide.2 (table102 W)).mono ?_
  rintro e W1 ⟨rfl, hb⟩
  have HJ0 := Lib.hid (HJb.out 0 W W1 h0 hb)
  clear h0 hb
  gi_wp2
  gi_loopw [5] (fun i wr => ∃ k : Nat, k ≤ 10 ∧ i = .int .i64 k ∧ Hid (J k wr)) (fun i _ => 10 - (intOf i).toNat)
  case atStart => exact ⟨0, by omega, rfl, HJ0⟩
  case round =>
    obtain ⟨k, hk, rfl, HJ⟩ := hrel
    by_cases hlt : (k : Int) < 10
    · have hkn : k < 10 := by omega
      have hi := index121_at wr k hkn
      obtain ⟨c, p1, p2, p3, p4, p5, hr⟩ := krow_form k hkn
      rw [hr] at hi
      have hJ1 : J k (wr.alloc (.cells #[.string c, .bool p1, .bool p2, .bool p3, .bool p4, .bool p5] 110)) := HJb.out _ _ _ HJ.out (below_alloc (Below.refl _ _) _)
      have hyy := HY.out k _ hJ1 hkn
      rw [hr] at hyy
      clear hr
      obtain ⟨fn, tmps, assign, body, hy, hR⟩ := hyy
      gi_wp2
      refine ⟨fun h => by simp [Fence.wide] at h, ?_⟩
      refine hR.mono ?_
      rintro e W3 (⟨rfl, hJ3⟩ | ⟨rfl, hJx⟩)
      · have HJ3 := Lib.hid hJ3
        clear hJ3 hy hR hJ1 hi
        gi_wp2
        go_roundw
        case rel => exact ⟨k + 1, by omega, by go_num, HJ3⟩
        case measure => simp [intOf]; omega
      · have HJx := Lib.hid hJx
        clear hJx hy hR hJ1 hi
        gi_wp2
        refine bodyPost_ret (results_none rfl _ _ _) rfl ?_
        exact ⟨⟨_, rfl⟩, .inr HJx.out⟩
    · obtain rfl : k = 10 := by omega
      gi_wp2
      refine bodyPost_end (results_none rfl _ _ _) rfl ?_
      exact ⟨⟨_, rfl⟩, .inl HJ.out⟩
end Go.Proofs.Ythjfigaalknoiaa
