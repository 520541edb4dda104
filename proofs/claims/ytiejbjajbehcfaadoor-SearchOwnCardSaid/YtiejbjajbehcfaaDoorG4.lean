/- awake at a law's heap with more rows, that may hold pointers. -/
import Derived.Test.YtiejbjajbehcfaaDoorG3
import Derived.Test.YtiejbjajbehcfaaDoorS16
set_option linter.unusedVariables false
set_option linter.unusedSimpArgs false
namespace Go.Abs
theorem awake_u (l : List (Option ArgS)) : ∀ H, Und (aRows l) H → Ret F 22 [] (aRows l ++ H) = some (.bool true, aRows l ++ H, none) := by
  intro H hH
  have := awake_any (X := l.map argRow ++ H) (by
    rw [List.all_eq_true]
    intro y hy
    rw [List.mem_append] at hy
    rcases hy with hy | hy
    · refine Sh.runder_mono (Nat.zero_le _) ?_
      obtain ⟨a, _, rfl⟩ := List.mem_map.1 hy
      cases a <;> simp [argRow, Row.under, AV.under, nums]
    · refine Sh.runder_mono ?_ (hH y hy)
      simp [aRows, gRows]
      omega)
  simpa [aRows] using this
end Go.Abs
