/- 'awake', at the heap of a law of numbers alone. -/
import Derived.Test.YtiejbjajbehcfaaDoorW1
import Derived.Test.YtiejbjajbehcfaaDoorW2
import Derived.Test.YtiejbjajbehcfaaDoorW3
import Derived.Test.YtiejbjajbehcfaaDoorS3
set_option linter.unusedVariables false
set_option linter.unusedSimpArgs false
namespace Go.Abs
/-- awake is true. -/
theorem awake_g : Ret F 22 [] gRows = some (.bool true, gRows, none) := by
  have h28 := Ret_of aw28
  have h29 := Ret_of aw29
  have h32 := Ret_of aw32
  have h46 := Ret_of aw46
  have h48 := Ret_of aw48
  have h16 := fun (rows : List Row) => Steps_ret (rows := rows) (c := 2) (t := 4)
  have h18 := fun rows => Tries_ret (rows := rows) (c := 2) (s := 100)
  have h19 := fun rows => Drop_ret (rows := rows) (c := 2) (s := 100)
  have t14 : tri 2 100 = some 14 := by decide +kernel
  have e24 : stp 2 4 = 10 := by decide
  have e13 : dropV 2 100 = .tup [.int .i64 9, .int .i64 0] := by
    have : stp 2 13 = 91 := by decide +kernel
    simp [dropV, t14, this]
    omega
  have hg : gRows.length = 2 := rfl
  have hf : ∀ rows', fin gRows (.bool true) rows' 2 = (.bool true, gRows, none) := fun rows' => fin_val (rows := gRows) (by simp)
  refine i22 F22 ?_
  simp [fillA, splice, hg, h28, h29, h32, h46, h48, h16, h18, h19, t14, e24, e13, hf]
end Go.Abs
