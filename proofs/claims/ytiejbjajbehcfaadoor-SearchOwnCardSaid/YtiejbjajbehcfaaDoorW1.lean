/- The calls of 'awake', at the heap of a law of numbers alone. -/
import Derived.Test.YtiejbjajbehcfaaDoorG2
set_option maxRecDepth 100000
set_option linter.unusedVariables false
namespace Go.Abs
theorem aw28 : cF F 4000 28 [.slice 2 0 2 (.at_ 2)] (gRows ++ [.cells [.int .i64 5, .int .i64 1]]) = some (.tup [.int .i64 6, .slice 3 0 2 (.op 1), .int .i64 0], gRows ++ [.cells [.int .i64 5, .int .i64 1], .cells [.int .i64 0, .int .i64 1]], none) := by kernel_rfl
end Go.Abs
