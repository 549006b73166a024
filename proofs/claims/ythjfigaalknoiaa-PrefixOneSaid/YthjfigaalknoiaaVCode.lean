/- vector.base and vector.code: the code of a difference, difference by difference. -/
import Derived.Test.YthjfigaalknoiaaTr
set_option linter.unusedVariables false
set_option linter.unusedSimpArgs false
namespace Go.Proofs.Ythjfigaalknoiaa
open Go.RowKit Go.Proofs.YthjfigaalknoiaaW.PrintWords

def vbase : List ByteArray := [⟨#[]⟩,
  ⟨#[48, 49]⟩,
  ⟨#[48, 48, 49]⟩,
  ⟨#[48, 48, 48, 49]⟩,
  ⟨#[48, 48, 48, 48, 49, 49]⟩,
  ⟨#[48, 48, 48, 48, 49, 48, 49]⟩,
  ⟨#[48, 48, 48, 48, 49, 48, 48]⟩,
  ⟨#[48, 48, 48, 48, 48, 49, 49]⟩,
  ⟨#[48, 48, 48, 48, 48, 49, 48, 49, 49]⟩,
  ⟨#[48, 48, 48, 48, 48, 49, 48, 49, 48]⟩,
  ⟨#[48, 48, 48, 48, 48, 49, 48, 48, 49]⟩,
  ⟨#[48, 48, 48, 48, 48, 49, 48, 48, 48, 49]⟩,
  ⟨#[48, 48, 48, 48, 48, 49, 48, 48, 48, 48]⟩,
  ⟨#[48, 48, 48, 48, 48, 48, 49, 49, 49, 49]⟩,
  ⟨#[48, 48, 48, 48, 48, 48, 49, 49, 49, 48]⟩,
  ⟨#[48, 48, 48, 48, 48, 48, 49, 49, 48, 49]⟩,
  ⟨#[48, 48, 48, 48, 48, 48, 49, 49, 48, 48]⟩]
def vcs : List ByteArray := [⟨#[48, 48, 48, 48, 48, 48, 49, 49, 48, 48, 49]⟩,
  ⟨#[48, 48, 48, 48, 48, 48, 49, 49, 48, 49, 49]⟩,
  ⟨#[48, 48, 48, 48, 48, 48, 49, 49, 49, 48, 49]⟩,
  ⟨#[48, 48, 48, 48, 48, 48, 49, 49, 49, 49, 49]⟩,
  ⟨#[48, 48, 48, 48, 48, 49, 48, 48, 48, 48, 49]⟩,
  ⟨#[48, 48, 48, 48, 48, 49, 48, 48, 48, 49, 49]⟩,
  ⟨#[48, 48, 48, 48, 48, 49, 48, 48, 49, 49]⟩,
  ⟨#[48, 48, 48, 48, 48, 49, 48, 49, 48, 49]⟩,
  ⟨#[48, 48, 48, 48, 48, 49, 48, 49, 49, 49]⟩,
  ⟨#[48, 48, 48, 48, 48, 49, 49, 49]⟩,
  ⟨#[48, 48, 48, 48, 49, 48, 48, 49]⟩,
  ⟨#[48, 48, 48, 48, 49, 48, 49, 49]⟩,
  ⟨#[48, 48, 48, 48, 49, 49, 49]⟩,
  ⟨#[48, 48, 48, 49, 49]⟩,
  ⟨#[48, 48, 49, 49]⟩,
  ⟨#[48, 49, 49]⟩,
  ⟨#[49]⟩,
  ⟨#[48, 49, 48]⟩,
  ⟨#[48, 48, 49, 48]⟩,
  ⟨#[48, 48, 48, 49, 48]⟩,
  ⟨#[48, 48, 48, 48, 49, 49, 48]⟩,
  ⟨#[48, 48, 48, 48, 49, 48, 49, 48]⟩,
  ⟨#[48, 48, 48, 48, 49, 48, 48, 48]⟩,
  ⟨#[48, 48, 48, 48, 48, 49, 49, 48]⟩,
  ⟨#[48, 48, 48, 48, 48, 49, 48, 49, 49, 48]⟩,
  ⟨#[48, 48, 48, 48, 48, 49, 48, 49, 48, 48]⟩,
  ⟨#[48, 48, 48, 48, 48, 49, 48, 48, 49, 48]⟩,
  ⟨#[48, 48, 48, 48, 48, 49, 48, 48, 48, 49, 48]⟩,
  ⟨#[48, 48, 48, 48, 48, 49, 48, 48, 48, 48, 48]⟩,
  ⟨#[48, 48, 48, 48, 48, 48, 49, 49, 49, 49, 48]⟩,
  ⟨#[48, 48, 48, 48, 48, 48, 49, 49, 49, 48, 48]⟩,
  ⟨#[48, 48, 48, 48, 48, 48, 49, 49, 48, 49, 48]⟩]
def vns : List Int := [-16, -15, -14, -13, -12, -11, -10, -9, -8, -7, -6, -5, -4, -3, -2, -1, 0, 1, 2, 3, 4, 5, 6, 7, 8, 9, 10, 11, 12, 13, 14, 15]

set_option maxRecDepth 100000 in
theorem base_at (w : World) : ∀ k : Nat, 1 ≤ k → k ≤ 16 → Calls Try.prog 103 #[.int .i64 (k : Int)] w fun e w' => e = .returned (.string (vbase.getD k ⟨#[]⟩)) ∧ w = w'
  | 1, _, _ => by
    show Calls Try.prog 103 #[.int .i64 1] w _
    go_enter Try.func103, Try.ntmps103
    go_wp2
    go_ret
    exact ⟨by rfl, rfl⟩
  | 2, _, _ => by
    show Calls Try.prog 103 #[.int .i64 2] w _
    go_enter Try.func103, Try.ntmps103
    go_wp2
    go_ret
    exact ⟨by rfl, rfl⟩
  | 3, _, _ => by
    show Calls Try.prog 103 #[.int .i64 3] w _
    go_enter Try.func103, Try.ntmps103
    go_wp2
    go_ret
    exact ⟨by rfl, rfl⟩
  | 4, _, _ => by
    show Calls Try.prog 103 #[.int .i64 4] w _
    go_enter Try.func103, Try.ntmps103
    go_wp2
    go_ret
    exact ⟨by rfl, rfl⟩
  | 5, _, _ => by
    show Calls Try.prog 103 #[.int .i64 5] w _
    have hi : (Instr.index 123 (.agg #[.string ⟨#[49, 48, 49]⟩, .string ⟨#[49, 48, 48]⟩, .string ⟨#[48, 49, 49]⟩]) (.int .i64 0)).run Try.prog w = .ok (.string ⟨#[49, 48, 49]⟩) w := by kernel_rfl
    go_enter Try.func103, Try.ntmps103
    go_wp2
    go_ret
    exact ⟨by rfl, rfl⟩
  | 6, _, _ => by
    show Calls Try.prog 103 #[.int .i64 6] w _
    have hi : (Instr.index 123 (.agg #[.string ⟨#[49, 48, 49]⟩, .string ⟨#[49, 48, 48]⟩, .string ⟨#[48, 49, 49]⟩]) (.int .i64 1)).run Try.prog w = .ok (.string ⟨#[49, 48, 48]⟩) w := by kernel_rfl
    go_enter Try.func103, Try.ntmps103
    go_wp2
    go_ret
    exact ⟨by rfl, rfl⟩
  | 7, _, _ => by
    show Calls Try.prog 103 #[.int .i64 7] w _
    have hi : (Instr.index 123 (.agg #[.string ⟨#[49, 48, 49]⟩, .string ⟨#[49, 48, 48]⟩, .string ⟨#[48, 49, 49]⟩]) (.int .i64 2)).run Try.prog w = .ok (.string ⟨#[48, 49, 49]⟩) w := by kernel_rfl
    go_enter Try.func103, Try.ntmps103
    go_wp2
    go_ret
    exact ⟨by rfl, rfl⟩
  | 8, _, _ => by
    show Calls Try.prog 103 #[.int .i64 8] w _
    have hi : (Instr.index 123 (.agg #[.string ⟨#[49, 48, 49, 49]⟩, .string ⟨#[49, 48, 49, 48]⟩, .string ⟨#[49, 48, 48, 49]⟩]) (.int .i64 0)).run Try.prog w = .ok (.string ⟨#[49, 48, 49, 49]⟩) w := by kernel_rfl
    go_enter Try.func103, Try.ntmps103
    go_wp2
    go_ret
    exact ⟨by rfl, rfl⟩
  | 9, _, _ => by
    show Calls Try.prog 103 #[.int .i64 9] w _
    have hi : (Instr.index 123 (.agg #[.string ⟨#[49, 48, 49, 49]⟩, .string ⟨#[49, 48, 49, 48]⟩, .string ⟨#[49, 48, 48, 49]⟩]) (.int .i64 1)).run Try.prog w = .ok (.string ⟨#[49, 48, 49, 48]⟩) w := by kernel_rfl
    go_enter Try.func103, Try.ntmps103
    go_wp2
    go_ret
    exact ⟨by rfl, rfl⟩
  | 10, _, _ => by
    show Calls Try.prog 103 #[.int .i64 10] w _
    have hi : (Instr.index 123 (.agg #[.string ⟨#[49, 48, 49, 49]⟩, .string ⟨#[49, 48, 49, 48]⟩, .string ⟨#[49, 48, 48, 49]⟩]) (.int .i64 2)).run Try.prog w = .ok (.string ⟨#[49, 48, 48, 49]⟩) w := by kernel_rfl
    go_enter Try.func103, Try.ntmps103
    go_wp2
    go_ret
    exact ⟨by rfl, rfl⟩
  | 11, _, _ => by
    show Calls Try.prog 103 #[.int .i64 11] w _
    have hi : (Instr.index 125 (.agg #[.string ⟨#[48, 49]⟩, .string ⟨#[48, 48]⟩]) (.int .i64 0)).run Try.prog w = .ok (.string ⟨#[48, 49]⟩) w := by kernel_rfl
    go_enter Try.func103, Try.ntmps103
    go_wp2
    go_ret
    exact ⟨by rfl, rfl⟩
  | 12, _, _ => by
    show Calls Try.prog 103 #[.int .i64 12] w _
    have hi : (Instr.index 125 (.agg #[.string ⟨#[48, 49]⟩, .string ⟨#[48, 48]⟩]) (.int .i64 1)).run Try.prog w = .ok (.string ⟨#[48, 48]⟩) w := by kernel_rfl
    go_enter Try.func103, Try.ntmps103
    go_wp2
    go_ret
    exact ⟨by rfl, rfl⟩
  | 13, _, _ => by
    show Calls Try.prog 103 #[.int .i64 13] w _
    have hi : (Instr.index 124 (.agg #[.string ⟨#[49, 49, 49]⟩, .string ⟨#[49, 49, 48]⟩, .string ⟨#[49, 48, 49]⟩, .string ⟨#[49, 48, 48]⟩]) (.int .i64 0)).run Try.prog w = .ok (.string ⟨#[49, 49, 49]⟩) w := by kernel_rfl
    go_enter Try.func103, Try.ntmps103
    go_wp2
    go_ret
    exact ⟨by rfl, rfl⟩
  | 14, _, _ => by
    show Calls Try.prog 103 #[.int .i64 14] w _
    have hi : (Instr.index 124 (.agg #[.string ⟨#[49, 49, 49]⟩, .string ⟨#[49, 49, 48]⟩, .string ⟨#[49, 48, 49]⟩, .string ⟨#[49, 48, 48]⟩]) (.int .i64 1)).run Try.prog w = .ok (.string ⟨#[49, 49, 48]⟩) w := by kernel_rfl
    go_enter Try.func103, Try.ntmps103
    go_wp2
    go_ret
    exact ⟨by rfl, rfl⟩
  | 15, _, _ => by
    show Calls Try.prog 103 #[.int .i64 15] w _
    have hi : (Instr.index 124 (.agg #[.string ⟨#[49, 49, 49]⟩, .string ⟨#[49, 49, 48]⟩, .string ⟨#[49, 48, 49]⟩, .string ⟨#[49, 48, 48]⟩]) (.int .i64 2)).run Try.prog w = .ok (.string ⟨#[49, 48, 49]⟩) w := by kernel_rfl
    go_enter Try.func103, Try.ntmps103
    go_wp2
    go_ret
    exact ⟨by rfl, rfl⟩
  | 16, _, _ => by
    show Calls Try.prog 103 #[.int .i64 16] w _
    have hi : (Instr.index 124 (.agg #[.string ⟨#[49, 49, 49]⟩, .string ⟨#[49, 49, 48]⟩, .string ⟨#[49, 48, 49]⟩, .string ⟨#[49, 48, 48]⟩]) (.int .i64 3)).run Try.prog w = .ok (.string ⟨#[49, 48, 48]⟩) w := by kernel_rfl
    go_enter Try.func103, Try.ntmps103
    go_wp2
    go_ret
    exact ⟨by rfl, rfl⟩
  | 0, h, _ => by omega
  | n + 17, _, h => by omega
theorem code_0 (w : World) : Calls Try.prog 93 #[.int .i64 (-16)] w fun e w' => e = .returned (.string ⟨#[48, 48, 48, 48, 48, 48, 49, 49, 48, 48, 49]⟩) ∧ w = w' := by
  go_enter Try.func93, Try.ntmps93
  go_wp2_with fail
  refine (base_at _ 16 (by omega) (by omega)).mono ?_
  rintro e w' ⟨rfl, rfl⟩
  rw [show vbase.getD 16 ⟨#[]⟩ = ⟨#[48, 48, 48, 48, 48, 48, 49, 49, 48, 48]⟩ from rfl]
  go_wp2
  go_ret
  exact ⟨by rfl, rfl⟩
theorem code_1 (w : World) : Calls Try.prog 93 #[.int .i64 (-15)] w fun e w' => e = .returned (.string ⟨#[48, 48, 48, 48, 48, 48, 49, 49, 48, 49, 49]⟩) ∧ w = w' := by
  go_enter Try.func93, Try.ntmps93
  go_wp2_with fail
  refine (base_at _ 15 (by omega) (by omega)).mono ?_
  rintro e w' ⟨rfl, rfl⟩
  rw [show vbase.getD 15 ⟨#[]⟩ = ⟨#[48, 48, 48, 48, 48, 48, 49, 49, 48, 49]⟩ from rfl]
  go_wp2
  go_ret
  exact ⟨by rfl, rfl⟩
theorem code_2 (w : World) : Calls Try.prog 93 #[.int .i64 (-14)] w fun e w' => e = .returned (.string ⟨#[48, 48, 48, 48, 48, 48, 49, 49, 49, 48, 49]⟩) ∧ w = w' := by
  go_enter Try.func93, Try.ntmps93
  go_wp2_with fail
  refine (base_at _ 14 (by omega) (by omega)).mono ?_
  rintro e w' ⟨rfl, rfl⟩
  rw [show vbase.getD 14 ⟨#[]⟩ = ⟨#[48, 48, 48, 48, 48, 48, 49, 49, 49, 48]⟩ from rfl]
  go_wp2
  go_ret
  exact ⟨by rfl, rfl⟩
theorem code_3 (w : World) : Calls Try.prog 93 #[.int .i64 (-13)] w fun e w' => e = .returned (.string ⟨#[48, 48, 48, 48, 48, 48, 49, 49, 49, 49, 49]⟩) ∧ w = w' := by
  go_enter Try.func93, Try.ntmps93
  go_wp2_with fail
  refine (base_at _ 13 (by omega) (by omega)).mono ?_
  rintro e w' ⟨rfl, rfl⟩
  rw [show vbase.getD 13 ⟨#[]⟩ = ⟨#[48, 48, 48, 48, 48, 48, 49, 49, 49, 49]⟩ from rfl]
  go_wp2
  go_ret
  exact ⟨by rfl, rfl⟩
theorem code_4 (w : World) : Calls Try.prog 93 #[.int .i64 (-12)] w fun e w' => e = .returned (.string ⟨#[48, 48, 48, 48, 48, 49, 48, 48, 48, 48, 49]⟩) ∧ w = w' := by
  go_enter Try.func93, Try.ntmps93
  go_wp2_with fail
  refine (base_at _ 12 (by omega) (by omega)).mono ?_
  rintro e w' ⟨rfl, rfl⟩
  rw [show vbase.getD 12 ⟨#[]⟩ = ⟨#[48, 48, 48, 48, 48, 49, 48, 48, 48, 48]⟩ from rfl]
  go_wp2
  go_ret
  exact ⟨by rfl, rfl⟩
theorem code_5 (w : World) : Calls Try.prog 93 #[.int .i64 (-11)] w fun e w' => e = .returned (.string ⟨#[48, 48, 48, 48, 48, 49, 48, 48, 48, 49, 49]⟩) ∧ w = w' := by
  go_enter Try.func93, Try.ntmps93
  go_wp2_with fail
  refine (base_at _ 11 (by omega) (by omega)).mono ?_
  rintro e w' ⟨rfl, rfl⟩
  rw [show vbase.getD 11 ⟨#[]⟩ = ⟨#[48, 48, 48, 48, 48, 49, 48, 48, 48, 49]⟩ from rfl]
  go_wp2
  go_ret
  exact ⟨by rfl, rfl⟩
theorem code_6 (w : World) : Calls Try.prog 93 #[.int .i64 (-10)] w fun e w' => e = .returned (.string ⟨#[48, 48, 48, 48, 48, 49, 48, 48, 49, 49]⟩) ∧ w = w' := by
  go_enter Try.func93, Try.ntmps93
  go_wp2_with fail
  refine (base_at _ 10 (by omega) (by omega)).mono ?_
  rintro e w' ⟨rfl, rfl⟩
  rw [show vbase.getD 10 ⟨#[]⟩ = ⟨#[48, 48, 48, 48, 48, 49, 48, 48, 49]⟩ from rfl]
  go_wp2
  go_ret
  exact ⟨by rfl, rfl⟩
theorem code_7 (w : World) : Calls Try.prog 93 #[.int .i64 (-9)] w fun e w' => e = .returned (.string ⟨#[48, 48, 48, 48, 48, 49, 48, 49, 48, 49]⟩) ∧ w = w' := by
  go_enter Try.func93, Try.ntmps93
  go_wp2_with fail
  refine (base_at _ 9 (by omega) (by omega)).mono ?_
  rintro e w' ⟨rfl, rfl⟩
  rw [show vbase.getD 9 ⟨#[]⟩ = ⟨#[48, 48, 48, 48, 48, 49, 48, 49, 48]⟩ from rfl]
  go_wp2
  go_ret
  exact ⟨by rfl, rfl⟩
theorem code_8 (w : World) : Calls Try.prog 93 #[.int .i64 (-8)] w fun e w' => e = .returned (.string ⟨#[48, 48, 48, 48, 48, 49, 48, 49, 49, 49]⟩) ∧ w = w' := by
  go_enter Try.func93, Try.ntmps93
  go_wp2_with fail
  refine (base_at _ 8 (by omega) (by omega)).mono ?_
  rintro e w' ⟨rfl, rfl⟩
  rw [show vbase.getD 8 ⟨#[]⟩ = ⟨#[48, 48, 48, 48, 48, 49, 48, 49, 49]⟩ from rfl]
  go_wp2
  go_ret
  exact ⟨by rfl, rfl⟩
theorem code_9 (w : World) : Calls Try.prog 93 #[.int .i64 (-7)] w fun e w' => e = .returned (.string ⟨#[48, 48, 48, 48, 48, 49, 49, 49]⟩) ∧ w = w' := by
  go_enter Try.func93, Try.ntmps93
  go_wp2_with fail
  refine (base_at _ 7 (by omega) (by omega)).mono ?_
  rintro e w' ⟨rfl, rfl⟩
  rw [show vbase.getD 7 ⟨#[]⟩ = ⟨#[48, 48, 48, 48, 48, 49, 49]⟩ from rfl]
  go_wp2
  go_ret
  exact ⟨by rfl, rfl⟩
theorem code_10 (w : World) : Calls Try.prog 93 #[.int .i64 (-6)] w fun e w' => e = .returned (.string ⟨#[48, 48, 48, 48, 49, 48, 48, 49]⟩) ∧ w = w' := by
  go_enter Try.func93, Try.ntmps93
  go_wp2_with fail
  refine (base_at _ 6 (by omega) (by omega)).mono ?_
  rintro e w' ⟨rfl, rfl⟩
  rw [show vbase.getD 6 ⟨#[]⟩ = ⟨#[48, 48, 48, 48, 49, 48, 48]⟩ from rfl]
  go_wp2
  go_ret
  exact ⟨by rfl, rfl⟩
theorem code_11 (w : World) : Calls Try.prog 93 #[.int .i64 (-5)] w fun e w' => e = .returned (.string ⟨#[48, 48, 48, 48, 49, 48, 49, 49]⟩) ∧ w = w' := by
  go_enter Try.func93, Try.ntmps93
  go_wp2_with fail
  refine (base_at _ 5 (by omega) (by omega)).mono ?_
  rintro e w' ⟨rfl, rfl⟩
  rw [show vbase.getD 5 ⟨#[]⟩ = ⟨#[48, 48, 48, 48, 49, 48, 49]⟩ from rfl]
  go_wp2
  go_ret
  exact ⟨by rfl, rfl⟩
theorem code_12 (w : World) : Calls Try.prog 93 #[.int .i64 (-4)] w fun e w' => e = .returned (.string ⟨#[48, 48, 48, 48, 49, 49, 49]⟩) ∧ w = w' := by
  go_enter Try.func93, Try.ntmps93
  go_wp2_with fail
  refine (base_at _ 4 (by omega) (by omega)).mono ?_
  rintro e w' ⟨rfl, rfl⟩
  rw [show vbase.getD 4 ⟨#[]⟩ = ⟨#[48, 48, 48, 48, 49, 49]⟩ from rfl]
  go_wp2
  go_ret
  exact ⟨by rfl, rfl⟩
theorem code_13 (w : World) : Calls Try.prog 93 #[.int .i64 (-3)] w fun e w' => e = .returned (.string ⟨#[48, 48, 48, 49, 49]⟩) ∧ w = w' := by
  go_enter Try.func93, Try.ntmps93
  go_wp2_with fail
  refine (base_at _ 3 (by omega) (by omega)).mono ?_
  rintro e w' ⟨rfl, rfl⟩
  rw [show vbase.getD 3 ⟨#[]⟩ = ⟨#[48, 48, 48, 49]⟩ from rfl]
  go_wp2
  go_ret
  exact ⟨by rfl, rfl⟩
theorem code_14 (w : World) : Calls Try.prog 93 #[.int .i64 (-2)] w fun e w' => e = .returned (.string ⟨#[48, 48, 49, 49]⟩) ∧ w = w' := by
  go_enter Try.func93, Try.ntmps93
  go_wp2_with fail
  refine (base_at _ 2 (by omega) (by omega)).mono ?_
  rintro e w' ⟨rfl, rfl⟩
  rw [show vbase.getD 2 ⟨#[]⟩ = ⟨#[48, 48, 49]⟩ from rfl]
  go_wp2
  go_ret
  exact ⟨by rfl, rfl⟩
theorem code_15 (w : World) : Calls Try.prog 93 #[.int .i64 (-1)] w fun e w' => e = .returned (.string ⟨#[48, 49, 49]⟩) ∧ w = w' := by
  go_enter Try.func93, Try.ntmps93
  go_wp2_with fail
  refine (base_at _ 1 (by omega) (by omega)).mono ?_
  rintro e w' ⟨rfl, rfl⟩
  rw [show vbase.getD 1 ⟨#[]⟩ = ⟨#[48, 49]⟩ from rfl]
  go_wp2
  go_ret
  exact ⟨by rfl, rfl⟩
theorem code_16 (w : World) : Calls Try.prog 93 #[.int .i64 0] w fun e w' => e = .returned (.string ⟨#[49]⟩) ∧ w = w' := by
  go_enter Try.func93, Try.ntmps93
  go_wp2
  go_ret
  exact ⟨by rfl, rfl⟩
theorem code_17 (w : World) : Calls Try.prog 93 #[.int .i64 1] w fun e w' => e = .returned (.string ⟨#[48, 49, 48]⟩) ∧ w = w' := by
  go_enter Try.func93, Try.ntmps93
  go_wp2_with fail
  refine (base_at _ 1 (by omega) (by omega)).mono ?_
  rintro e w' ⟨rfl, rfl⟩
  rw [show vbase.getD 1 ⟨#[]⟩ = ⟨#[48, 49]⟩ from rfl]
  go_wp2
  go_ret
  exact ⟨by rfl, rfl⟩
theorem code_18 (w : World) : Calls Try.prog 93 #[.int .i64 2] w fun e w' => e = .returned (.string ⟨#[48, 48, 49, 48]⟩) ∧ w = w' := by
  go_enter Try.func93, Try.ntmps93
  go_wp2_with fail
  refine (base_at _ 2 (by omega) (by omega)).mono ?_
  rintro e w' ⟨rfl, rfl⟩
  rw [show vbase.getD 2 ⟨#[]⟩ = ⟨#[48, 48, 49]⟩ from rfl]
  go_wp2
  go_ret
  exact ⟨by rfl, rfl⟩
theorem code_19 (w : World) : Calls Try.prog 93 #[.int .i64 3] w fun e w' => e = .returned (.string ⟨#[48, 48, 48, 49, 48]⟩) ∧ w = w' := by
  go_enter Try.func93, Try.ntmps93
  go_wp2_with fail
  refine (base_at _ 3 (by omega) (by omega)).mono ?_
  rintro e w' ⟨rfl, rfl⟩
  rw [show vbase.getD 3 ⟨#[]⟩ = ⟨#[48, 48, 48, 49]⟩ from rfl]
  go_wp2
  go_ret
  exact ⟨by rfl, rfl⟩
theorem code_20 (w : World) : Calls Try.prog 93 #[.int .i64 4] w fun e w' => e = .returned (.string ⟨#[48, 48, 48, 48, 49, 49, 48]⟩) ∧ w = w' := by
  go_enter Try.func93, Try.ntmps93
  go_wp2_with fail
  refine (base_at _ 4 (by omega) (by omega)).mono ?_
  rintro e w' ⟨rfl, rfl⟩
  rw [show vbase.getD 4 ⟨#[]⟩ = ⟨#[48, 48, 48, 48, 49, 49]⟩ from rfl]
  go_wp2
  go_ret
  exact ⟨by rfl, rfl⟩
theorem code_21 (w : World) : Calls Try.prog 93 #[.int .i64 5] w fun e w' => e = .returned (.string ⟨#[48, 48, 48, 48, 49, 48, 49, 48]⟩) ∧ w = w' := by
  go_enter Try.func93, Try.ntmps93
  go_wp2_with fail
  refine (base_at _ 5 (by omega) (by omega)).mono ?_
  rintro e w' ⟨rfl, rfl⟩
  rw [show vbase.getD 5 ⟨#[]⟩ = ⟨#[48, 48, 48, 48, 49, 48, 49]⟩ from rfl]
  go_wp2
  go_ret
  exact ⟨by rfl, rfl⟩
theorem code_22 (w : World) : Calls Try.prog 93 #[.int .i64 6] w fun e w' => e = .returned (.string ⟨#[48, 48, 48, 48, 49, 48, 48, 48]⟩) ∧ w = w' := by
  go_enter Try.func93, Try.ntmps93
  go_wp2_with fail
  refine (base_at _ 6 (by omega) (by omega)).mono ?_
  rintro e w' ⟨rfl, rfl⟩
  rw [show vbase.getD 6 ⟨#[]⟩ = ⟨#[48, 48, 48, 48, 49, 48, 48]⟩ from rfl]
  go_wp2
  go_ret
  exact ⟨by rfl, rfl⟩
theorem code_23 (w : World) : Calls Try.prog 93 #[.int .i64 7] w fun e w' => e = .returned (.string ⟨#[48, 48, 48, 48, 48, 49, 49, 48]⟩) ∧ w = w' := by
  go_enter Try.func93, Try.ntmps93
  go_wp2_with fail
  refine (base_at _ 7 (by omega) (by omega)).mono ?_
  rintro e w' ⟨rfl, rfl⟩
  rw [show vbase.getD 7 ⟨#[]⟩ = ⟨#[48, 48, 48, 48, 48, 49, 49]⟩ from rfl]
  go_wp2
  go_ret
  exact ⟨by rfl, rfl⟩
theorem code_24 (w : World) : Calls Try.prog 93 #[.int .i64 8] w fun e w' => e = .returned (.string ⟨#[48, 48, 48, 48, 48, 49, 48, 49, 49, 48]⟩) ∧ w = w' := by
  go_enter Try.func93, Try.ntmps93
  go_wp2_with fail
  refine (base_at _ 8 (by omega) (by omega)).mono ?_
  rintro e w' ⟨rfl, rfl⟩
  rw [show vbase.getD 8 ⟨#[]⟩ = ⟨#[48, 48, 48, 48, 48, 49, 48, 49, 49]⟩ from rfl]
  go_wp2
  go_ret
  exact ⟨by rfl, rfl⟩
theorem code_25 (w : World) : Calls Try.prog 93 #[.int .i64 9] w fun e w' => e = .returned (.string ⟨#[48, 48, 48, 48, 48, 49, 48, 49, 48, 48]⟩) ∧ w = w' := by
  go_enter Try.func93, Try.ntmps93
  go_wp2_with fail
  refine (base_at _ 9 (by omega) (by omega)).mono ?_
  rintro e w' ⟨rfl, rfl⟩
  rw [show vbase.getD 9 ⟨#[]⟩ = ⟨#[48, 48, 48, 48, 48, 49, 48, 49, 48]⟩ from rfl]
  go_wp2
  go_ret
  exact ⟨by rfl, rfl⟩
theorem code_26 (w : World) : Calls Try.prog 93 #[.int .i64 10] w fun e w' => e = .returned (.string ⟨#[48, 48, 48, 48, 48, 49, 48, 48, 49, 48]⟩) ∧ w = w' := by
  go_enter Try.func93, Try.ntmps93
  go_wp2_with fail
  refine (base_at _ 10 (by omega) (by omega)).mono ?_
  rintro e w' ⟨rfl, rfl⟩
  rw [show vbase.getD 10 ⟨#[]⟩ = ⟨#[48, 48, 48, 48, 48, 49, 48, 48, 49]⟩ from rfl]
  go_wp2
  go_ret
  exact ⟨by rfl, rfl⟩
theorem code_27 (w : World) : Calls Try.prog 93 #[.int .i64 11] w fun e w' => e = .returned (.string ⟨#[48, 48, 48, 48, 48, 49, 48, 48, 48, 49, 48]⟩) ∧ w = w' := by
  go_enter Try.func93, Try.ntmps93
  go_wp2_with fail
  refine (base_at _ 11 (by omega) (by omega)).mono ?_
  rintro e w' ⟨rfl, rfl⟩
  rw [show vbase.getD 11 ⟨#[]⟩ = ⟨#[48, 48, 48, 48, 48, 49, 48, 48, 48, 49]⟩ from rfl]
  go_wp2
  go_ret
  exact ⟨by rfl, rfl⟩
theorem code_28 (w : World) : Calls Try.prog 93 #[.int .i64 12] w fun e w' => e = .returned (.string ⟨#[48, 48, 48, 48, 48, 49, 48, 48, 48, 48, 48]⟩) ∧ w = w' := by
  go_enter Try.func93, Try.ntmps93
  go_wp2_with fail
  refine (base_at _ 12 (by omega) (by omega)).mono ?_
  rintro e w' ⟨rfl, rfl⟩
  rw [show vbase.getD 12 ⟨#[]⟩ = ⟨#[48, 48, 48, 48, 48, 49, 48, 48, 48, 48]⟩ from rfl]
  go_wp2
  go_ret
  exact ⟨by rfl, rfl⟩
theorem code_29 (w : World) : Calls Try.prog 93 #[.int .i64 13] w fun e w' => e = .returned (.string ⟨#[48, 48, 48, 48, 48, 48, 49, 49, 49, 49, 48]⟩) ∧ w = w' := by
  go_enter Try.func93, Try.ntmps93
  go_wp2_with fail
  refine (base_at _ 13 (by omega) (by omega)).mono ?_
  rintro e w' ⟨rfl, rfl⟩
  rw [show vbase.getD 13 ⟨#[]⟩ = ⟨#[48, 48, 48, 48, 48, 48, 49, 49, 49, 49]⟩ from rfl]
  go_wp2
  go_ret
  exact ⟨by rfl, rfl⟩
theorem code_30 (w : World) : Calls Try.prog 93 #[.int .i64 14] w fun e w' => e = .returned (.string ⟨#[48, 48, 48, 48, 48, 48, 49, 49, 49, 48, 48]⟩) ∧ w = w' := by
  go_enter Try.func93, Try.ntmps93
  go_wp2_with fail
  refine (base_at _ 14 (by omega) (by omega)).mono ?_
  rintro e w' ⟨rfl, rfl⟩
  rw [show vbase.getD 14 ⟨#[]⟩ = ⟨#[48, 48, 48, 48, 48, 48, 49, 49, 49, 48]⟩ from rfl]
  go_wp2
  go_ret
  exact ⟨by rfl, rfl⟩
theorem code_31 (w : World) : Calls Try.prog 93 #[.int .i64 15] w fun e w' => e = .returned (.string ⟨#[48, 48, 48, 48, 48, 48, 49, 49, 48, 49, 48]⟩) ∧ w = w' := by
  go_enter Try.func93, Try.ntmps93
  go_wp2_with fail
  refine (base_at _ 15 (by omega) (by omega)).mono ?_
  rintro e w' ⟨rfl, rfl⟩
  rw [show vbase.getD 15 ⟨#[]⟩ = ⟨#[48, 48, 48, 48, 48, 48, 49, 49, 48, 49]⟩ from rfl]
  go_wp2
  go_ret
  exact ⟨by rfl, rfl⟩

theorem code_at (w : World) (d : Int) (h1 : -16 ≤ d) (h2 : d < 16) : Calls Try.prog 93 #[.int .i64 d] w fun e w' => e = .returned (.string (vcs.getD (d + 16).toNat ⟨#[]⟩)) ∧ w = w' := by
  have h : d = -16 ∨ d = -15 ∨ d = -14 ∨ d = -13 ∨ d = -12 ∨ d = -11 ∨ d = -10 ∨ d = -9 ∨ d = -8 ∨ d = -7 ∨ d = -6 ∨ d = -5 ∨ d = -4 ∨ d = -3 ∨ d = -2 ∨ d = -1 ∨ d = 0 ∨ d = 1 ∨ d = 2 ∨ d = 3 ∨ d = 4 ∨ d = 5 ∨ d = 6 ∨ d = 7 ∨ d = 8 ∨ d = 9 ∨ d = 10 ∨ d = 11 ∨ d = 12 ∨ d = 13 ∨ d = 14 ∨ d = 15 := by omega
  rcases h with rfl | rfl | rfl | rfl | rfl | rfl | rfl | rfl | rfl | rfl | rfl | rfl | rfl | rfl | rfl | rfl | rfl | rfl | rfl | rfl | rfl | rfl | rfl | rfl | rfl | rfl | rfl | rfl | rfl | rfl | rfl | rfl
  · rw [show vcs.getD ((-16 : Int) + 16).toNat ⟨#[]⟩ = ⟨#[48, 48, 48, 48, 48, 48, 49, 49, 48, 48, 49]⟩ from rfl]; exact code_0 w
  · rw [show vcs.getD ((-15 : Int) + 16).toNat ⟨#[]⟩ = ⟨#[48, 48, 48, 48, 48, 48, 49, 49, 48, 49, 49]⟩ from rfl]; exact code_1 w
  · rw [show vcs.getD ((-14 : Int) + 16).toNat ⟨#[]⟩ = ⟨#[48, 48, 48, 48, 48, 48, 49, 49, 49, 48, 49]⟩ from rfl]; exact code_2 w
  · rw [show vcs.getD ((-13 : Int) + 16).toNat ⟨#[]⟩ = ⟨#[48, 48, 48, 48, 48, 48, 49, 49, 49, 49, 49]⟩ from rfl]; exact code_3 w
  · rw [show vcs.getD ((-12 : Int) + 16).toNat ⟨#[]⟩ = ⟨#[48, 48, 48, 48, 48, 49, 48, 48, 48, 48, 49]⟩ from rfl]; exact code_4 w
  · rw [show vcs.getD ((-11 : Int) + 16).toNat ⟨#[]⟩ = ⟨#[48, 48, 48, 48, 48, 49, 48, 48, 48, 49, 49]⟩ from rfl]; exact code_5 w
  · rw [show vcs.getD ((-10 : Int) + 16).toNat ⟨#[]⟩ = ⟨#[48, 48, 48, 48, 48, 49, 48, 48, 49, 49]⟩ from rfl]; exact code_6 w
  · rw [show vcs.getD ((-9 : Int) + 16).toNat ⟨#[]⟩ = ⟨#[48, 48, 48, 48, 48, 49, 48, 49, 48, 49]⟩ from rfl]; exact code_7 w
  · rw [show vcs.getD ((-8 : Int) + 16).toNat ⟨#[]⟩ = ⟨#[48, 48, 48, 48, 48, 49, 48, 49, 49, 49]⟩ from rfl]; exact code_8 w
  · rw [show vcs.getD ((-7 : Int) + 16).toNat ⟨#[]⟩ = ⟨#[48, 48, 48, 48, 48, 49, 49, 49]⟩ from rfl]; exact code_9 w
  · rw [show vcs.getD ((-6 : Int) + 16).toNat ⟨#[]⟩ = ⟨#[48, 48, 48, 48, 49, 48, 48, 49]⟩ from rfl]; exact code_10 w
  · rw [show vcs.getD ((-5 : Int) + 16).toNat ⟨#[]⟩ = ⟨#[48, 48, 48, 48, 49, 48, 49, 49]⟩ from rfl]; exact code_11 w
  · rw [show vcs.getD ((-4 : Int) + 16).toNat ⟨#[]⟩ = ⟨#[48, 48, 48, 48, 49, 49, 49]⟩ from rfl]; exact code_12 w
  · rw [show vcs.getD ((-3 : Int) + 16).toNat ⟨#[]⟩ = ⟨#[48, 48, 48, 49, 49]⟩ from rfl]; exact code_13 w
  · rw [show vcs.getD ((-2 : Int) + 16).toNat ⟨#[]⟩ = ⟨#[48, 48, 49, 49]⟩ from rfl]; exact code_14 w
  · rw [show vcs.getD ((-1 : Int) + 16).toNat ⟨#[]⟩ = ⟨#[48, 49, 49]⟩ from rfl]; exact code_15 w
  · rw [show vcs.getD ((0 : Int) + 16).toNat ⟨#[]⟩ = ⟨#[49]⟩ from rfl]; exact code_16 w
  · rw [show vcs.getD ((1 : Int) + 16).toNat ⟨#[]⟩ = ⟨#[48, 49, 48]⟩ from rfl]; exact code_17 w
  · rw [show vcs.getD ((2 : Int) + 16).toNat ⟨#[]⟩ = ⟨#[48, 48, 49, 48]⟩ from rfl]; exact code_18 w
  · rw [show vcs.getD ((3 : Int) + 16).toNat ⟨#[]⟩ = ⟨#[48, 48, 48, 49, 48]⟩ from rfl]; exact code_19 w
  · rw [show vcs.getD ((4 : Int) + 16).toNat ⟨#[]⟩ = ⟨#[48, 48, 48, 48, 49, 49, 48]⟩ from rfl]; exact code_20 w
  · rw [show vcs.getD ((5 : Int) + 16).toNat ⟨#[]⟩ = ⟨#[48, 48, 48, 48, 49, 48, 49, 48]⟩ from rfl]; exact code_21 w
  · rw [show vcs.getD ((6 : Int) + 16).toNat ⟨#[]⟩ = ⟨#[48, 48, 48, 48, 49, 48, 48, 48]⟩ from rfl]; exact code_22 w
  · rw [show vcs.getD ((7 : Int) + 16).toNat ⟨#[]⟩ = ⟨#[48, 48, 48, 48, 48, 49, 49, 48]⟩ from rfl]; exact code_23 w
  · rw [show vcs.getD ((8 : Int) + 16).toNat ⟨#[]⟩ = ⟨#[48, 48, 48, 48, 48, 49, 48, 49, 49, 48]⟩ from rfl]; exact code_24 w
  · rw [show vcs.getD ((9 : Int) + 16).toNat ⟨#[]⟩ = ⟨#[48, 48, 48, 48, 48, 49, 48, 49, 48, 48]⟩ from rfl]; exact code_25 w
  · rw [show vcs.getD ((10 : Int) + 16).toNat ⟨#[]⟩ = ⟨#[48, 48, 48, 48, 48, 49, 48, 48, 49, 48]⟩ from rfl]; exact code_26 w
  · rw [show vcs.getD ((11 : Int) + 16).toNat ⟨#[]⟩ = ⟨#[48, 48, 48, 48, 48, 49, 48, 48, 48, 49, 48]⟩ from rfl]; exact code_27 w
  · rw [show vcs.getD ((12 : Int) + 16).toNat ⟨#[]⟩ = ⟨#[48, 48, 48, 48, 48, 49, 48, 48, 48, 48, 48]⟩ from rfl]; exact code_28 w
  · rw [show vcs.getD ((13 : Int) + 16).toNat ⟨#[]⟩ = ⟨#[48, 48, 48, 48, 48, 48, 49, 49, 49, 49, 48]⟩ from rfl]; exact code_29 w
  · rw [show vcs.getD ((14 : Int) + 16).toNat ⟨#[]⟩ = ⟨#[48, 48, 48, 48, 48, 48, 49, 49, 49, 48, 48]⟩ from rfl]; exact code_30 w
  · rw [show vcs.getD ((15 : Int) + 16).toNat ⟨#[]⟩ = ⟨#[48, 48, 48, 48, 48, 48, 49, 49, 48, 49, 48]⟩ from rfl]; exact code_31 w
end Go.Proofs.Ythjfigaalknoiaa
