/- The parts of two kinds, compared. -/
import Derived.Test.YthjfigaalknoiaaEq
set_option linter.unusedVariables false
set_option linter.unusedSimpArgs false
namespace Go.Proofs.Ythjfigaalknoiaa
open Go.RowKit
theorem eq4 (d : Nat) (x y : Bool) (w : World) : (Op.equalIn (d + 1) 4 (.bool x) (.bool y)).run Try.prog w = .ok (x == y) w := by
  simp [Op.equalIn, run_underlying Try.underlying4, Result.andThen]
section
variable (p1 p2 p3 p4 p5 : Bool) (w : World)
theorem part4_0 : (part 4 #[.bool p1, .bool p2, .bool p3, .bool p4, .bool p5] 0).run Try.prog w = .ok (.bool p1) w := by kernel_rfl
theorem part4_1 : (part 4 #[.bool p1, .bool p2, .bool p3, .bool p4, .bool p5] 1).run Try.prog w = .ok (.bool p2) w := by kernel_rfl
theorem part4_2 : (part 4 #[.bool p1, .bool p2, .bool p3, .bool p4, .bool p5] 2).run Try.prog w = .ok (.bool p3) w := by kernel_rfl
theorem part4_3 : (part 4 #[.bool p1, .bool p2, .bool p3, .bool p4, .bool p5] 3).run Try.prog w = .ok (.bool p4) w := by kernel_rfl
theorem part4_4 : (part 4 #[.bool p1, .bool p2, .bool p3, .bool p4, .bool p5] 4).run Try.prog w = .ok (.bool p5) w := by kernel_rfl
end
theorem stood63 : Try.prog.stoodInHeld 63 = false := by kernel_rfl
theorem eq63S (d : Nat) (p1 p2 p3 p4 p5 q1 q2 q3 q4 q5 : Bool) (w : World) : (Op.equalIn (d + 2) 63 (.agg #[.bool p1, .bool p2, .bool p3, .bool p4, .bool p5]) (.agg #[.bool q1, .bool q2, .bool q3, .bool q4, .bool q5])).run Try.prog w = .ok (p1 == q1 && p2 == q2 && p3 == q3 && p4 == q4 && p5 == q5) w := by
  rw [Op.equalIn]
  by_cases h1 : p1 = q1
  · by_cases h2 : p2 = q2
    · by_cases h3 : p3 = q3
      · by_cases h4 : p4 = q4
        · by_cases h5 : p5 = q5
          · simp [run_underlying Try.underlying63, Result.andThen, stood63, part4_0, part4_1, part4_2, part4_3, part4_4, eq4 d, h1, h2, h3, h4, h5]
          · simp [run_underlying Try.underlying63, Result.andThen, stood63, part4_0, part4_1, part4_2, part4_3, part4_4, eq4 d, h1, h2, h3, h4, h5]
        · simp [run_underlying Try.underlying63, Result.andThen, stood63, part4_0, part4_1, part4_2, part4_3, part4_4, eq4 d, h1, h2, h3, h4]
      · simp [run_underlying Try.underlying63, Result.andThen, stood63, part4_0, part4_1, part4_2, part4_3, part4_4, eq4 d, h1, h2, h3]
    · simp [run_underlying Try.underlying63, Result.andThen, stood63, part4_0, part4_1, part4_2, part4_3, part4_4, eq4 d, h1, h2]
  · simp [run_underlying Try.underlying63, Result.andThen, stood63, part4_0, part4_1, part4_2, part4_3, part4_4, eq4 d, h1]
theorem eq63 (p1 p2 p3 p4 p5 q1 q2 q3 q4 q5 : Bool) (w : World) : (Op.equalIn 10000 63 (.agg #[.bool p1, .bool p2, .bool p3, .bool p4, .bool p5]) (.agg #[.bool q1, .bool q2, .bool q3, .bool q4, .bool q5])).run Try.prog w = .ok (p1 == q1 && p2 == q2 && p3 == q3 && p4 == q4 && p5 == q5) w := eq63S 9998 _ _ _ _ _ _ _ _ _ _ w
theorem eq63_same (p1 p2 p3 p4 p5 : Bool) (w : World) : (Op.equalIn 10000 63 (.agg #[.bool p1, .bool p2, .bool p3, .bool p4, .bool p5]) (.agg #[.bool p1, .bool p2, .bool p3, .bool p4, .bool p5])).run Try.prog w = .ok true w := by
  rw [eq63]; simp
end Go.Proofs.Ythjfigaalknoiaa
