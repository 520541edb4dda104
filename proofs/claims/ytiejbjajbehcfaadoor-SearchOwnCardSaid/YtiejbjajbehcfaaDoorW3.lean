/- The calls of 'awake', at the heap of a law of numbers alone. -/
import Derived.Test.YtiejbjajbehcfaaDoorG2
set_option maxRecDepth 100000
set_option linter.unusedVariables false
namespace Go.Abs
theorem aw48 : cF F 4000 48 [.int .i64 3, .slice 7 0 2 (.at_ 2)] (gRows ++ [.cells [.int .i64 5, .int .i64 1], .cells [.int .i64 0, .int .i64 1], .cells [.int .i64 5, .int .i64 1], .cells [.int .i64 1, .int .i64 0], .cells [.int .i64 6, .int .i64 6, .int .i64 1], .cells [.int .i64 0, .int .i64 1, .int .i64 1, .int .i64 2]]) = some (.tup [.int .i64 1, .int .i64 0], gRows ++ [.cells [.int .i64 5, .int .i64 1], .cells [.int .i64 0, .int .i64 1], .cells [.int .i64 5, .int .i64 1], .cells [.int .i64 1, .int .i64 0], .cells [.int .i64 6, .int .i64 6, .int .i64 1], .cells [.int .i64 0, .int .i64 1, .int .i64 1, .int .i64 2]], none) := by kernel_rfl
end Go.Abs
