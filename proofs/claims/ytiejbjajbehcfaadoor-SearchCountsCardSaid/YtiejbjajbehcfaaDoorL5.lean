/- SearchCounts, but for 'awake'. -/
import Derived.Test.YtiejbjajbehcfaaDoorS4
import Derived.Test.YtiejbjajbehcfaaDoorD5
import Derived.Test.YtiejbjajbehcfaaDoorA30
set_option linter.unusedVariables false
set_option linter.unusedSimpArgs false
namespace Go.Abs
section
variable {rows : List Row}
abbrev G5 : Nat → Option IFn := more F 5 c5
theorem toG5 {f : Nat} {vs : List AV} {rows : List Row} {q : AV × List Row × Option Nat} (h : Ret F f vs rows = some q) : Ret G5 f vs rows = some q := Ret_ext (more_ext (by kernel_rfl)) h
set_option maxHeartbeats 4000000 in
theorem counts_loop (ha : Ret F 22 [] rows = some (.bool true, rows, none)) : ∀ (n i : Nat) (c : Int), 2 - i = n → i ≤ 2 →
    Lc5l2 G5 (.fn [.t 2]) (.int .i64 c) (.int .i64 i) rows rows.length (fun r => fin rows r.1 r.2.1 r.2.2 = (.bool true, rows, none)) := by
  intro n
  induction n with
  | zero =>
    intro i c hn h1
    have hi : i = 2 := by omega
    subst hi
    unfold Lc5l2
    simp [toG5 ha]
  | succ n ih =>
    intro i c hn h1
    have hi : (i : Int) < 2 := by omega
    have ih' := fun c => ih (i + 1) c (by omega) (by omega)
    simp only [Int.natCast_add, Int.cast_ofNat_Int] at ih'
    have w1 : IntKind.i64.wrap ((i : Int) + 1) = i + 1 := wrap64 (by omega) (by omega)
    unfold Lc5l2
    have t1 := toG5 (CountPlans_ret (rows := rows) (n := c))
    by_cases a1 : c < 0
    · rw [if_neg (by omega)] at t1
      simp [hi, t1, a1, w1]
      exact ih' _
    · by_cases a2 : 30 < c
      · rw [if_neg (by omega)] at t1
        simp [hi, t1, a1, a2, w1]
        exact ih' _
      · rw [if_pos (by omega)] at t1
        have r1 := toG5 (rCountPlans_ret (rows := rows) (n := c) (by omega))
        simp [hi, t1, r1, a1, a2, w1]
        exact ih' _
/-- SearchCounts, if 'awake' is true. -/
theorem counts_ret (ha : Ret F 22 [] rows = some (.bool true, rows, none)) {c : Int} : Ret G5 5 [.int .i64 c] rows = some (.bool true, rows, none) := by
  refine i5 more_at ?_
  simp
  exact counts_loop ha 2 0 c rfl (by omega)
end
end Go.Abs
