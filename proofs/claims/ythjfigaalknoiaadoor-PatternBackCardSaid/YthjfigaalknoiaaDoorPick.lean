/- Pick: a number below another one. -/
import Derived.Test.YthjfigaalknoiaaDoorBase
set_option linter.unusedVariables false
set_option linter.unusedSimpArgs false
namespace Go.Proofs.YthjfigaalknoiaaDoor
open Go.RowKit
theorem pick_any (x n : Int) (w : World) (h0 : 0 < n) (h1 : n ≤ 1000) : Calls Tryd.prog 10 #[.int .i64 x, .int .i64 n] w fun e w' => e = .returned (.int .i64 (x % n)) ∧ w = w' := by
  obtain ⟨r, hr⟩ : ∃ r, x.tmod n = r := ⟨_, rfl⟩
  have hlt : r < n := by rw [← hr]; exact Int.tmod_lt_of_pos x h0
  have hgt : -n < r := by
    rw [← hr]
    have := Int.tmod_lt_of_pos (-x) h0
    rw [Int.neg_tmod] at this
    omega
  have H : Hid (x % n = if r < 0 then r + n else r) := Lib.hid (by
    have he := Int.emod_def x n
    have hx : n * (x.tdiv n) + r = x := by rw [← hr]; exact Int.mul_tdiv_add_tmod x n
    split
    · rename_i h
      have : x = (r + n) + n * (x.tdiv n - 1) := by rw [Int.mul_sub]; omega
      rw [this, Int.add_mul_emod_self_left]
      exact Int.emod_eq_of_lt (by omega) (by omega)
    · rename_i h
      have : x = r + n * (x.tdiv n) := by omega
      rw [this, Int.add_mul_emod_self_left]
      exact Int.emod_eq_of_lt (by omega) (by omega))
  have hn0 : ¬ n ≤ 0 := by omega
  have hnz : (n == 0) = false := by rw [beq_eq_false_iff_ne]; omega
  have hne : n ≠ 0 := by omega
  by_cases hneg : r < 0
  · rw [if_pos hneg] at H
    go_enter Tryd.func10, Tryd.ntmps10
    go_wp2
    go_ret
    exact ⟨by rw [H.out]; rfl, rfl⟩
  · rw [if_neg hneg] at H
    go_enter Tryd.func10, Tryd.ntmps10
    go_wp2
    go_ret
    exact ⟨by rw [H.out]; rfl, rfl⟩

end Go.Proofs.YthjfigaalknoiaaDoor
