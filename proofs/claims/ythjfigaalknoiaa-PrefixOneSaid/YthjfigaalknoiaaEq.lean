/- Two rows of two numbers, compared. -/
import Derived.Test.YthjfigaalknoiaaBase
namespace Go.Proofs.Ythjfigaalknoiaa
open Go.RowKit
theorem eq3 (d : Nat) (x y : Int) (w : World) : (Op.equalIn (d + 1) 3 (.int .i64 x) (.int .i64 y)).run Try.prog w = .ok (x == y) w := by
  simp [Op.equalIn, run_underlying Try.underlying3, Result.andThen]
theorem part0 (a b : Int) (w : World) : (part 3 #[.int .i64 a, .int .i64 b] 0).run Try.prog w = .ok (.int .i64 a) w := by kernel_rfl
theorem part1 (a b : Int) (w : World) : (part 3 #[.int .i64 a, .int .i64 b] 1).run Try.prog w = .ok (.int .i64 b) w := by kernel_rfl
theorem eq89S (d : Nat) (z o : Int) (w : World) : (Op.equalIn (d + 2) 89 (.agg #[.int .i64 z, .int .i64 o]) (.agg #[.int .i64 0, .int .i64 0])).run Try.prog w = .ok (z == 0 && o == 0) w := by
  rw [Op.equalIn]
  by_cases hz : z = 0
  · subst hz
    by_cases ho : o = 0
    · subst ho
      simp [run_underlying Try.underlying89, Result.andThen, Std.Legacy.Range.forIn_eq_forIn_range', Std.Legacy.Range.size, List.range'_succ, part0, part1, eq3 d]
    · simp [run_underlying Try.underlying89, Result.andThen, Std.Legacy.Range.forIn_eq_forIn_range', Std.Legacy.Range.size, List.range'_succ, part0, part1, eq3 d, ho]
  · simp [run_underlying Try.underlying89, Result.andThen, Std.Legacy.Range.forIn_eq_forIn_range', Std.Legacy.Range.size, List.range'_succ, part0, eq3 d, hz]
theorem eq89 (z o : Int) (w : World) : (Op.equalIn 10000 89 (.agg #[.int .i64 z, .int .i64 o]) (.agg #[.int .i64 0, .int .i64 0])).run Try.prog w = .ok (z == 0 && o == 0) w := eq89S 9998 z o w
end Go.Proofs.Ythjfigaalknoiaa
