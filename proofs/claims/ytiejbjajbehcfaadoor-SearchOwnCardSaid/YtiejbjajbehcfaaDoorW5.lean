/- 'awake' at any heap. -/
import Derived.Test.YtiejbjajbehcfaaDoorW4
import Derived.Test.YtiejbjajbehcfaaDoorM5
set_option linter.unusedVariables false
set_option linter.unusedSimpArgs false
namespace Go.Abs
def shX (X : List Row) : Sh := ⟨2, X⟩
set_option maxRecDepth 100000 in
theorem tab_sh (X : List Row) : tabF.map (fun p => (p.1, (shX X).f p.2)) = tabF := by kernel_rfl
theorem lookup_map {α : Type} (g : α → α) (k : Nat) : ∀ l : List (Nat × α), (l.map fun p => (p.1, g p.2)).lookup k = (l.lookup k).map g
  | [] => rfl
  | (a, b) :: l => by
    simp only [List.map_cons, List.lookup_cons]
    split
    · rfl
    · exact lookup_map g k l
theorem F_sh (X : List Row) : (shX X).F' F = F := by
  funext k
  unfold Sh.F' F
  rw [← lookup_map, tab_sh]
/-- awake is true. -/
theorem awake_any {X : List Row} (hX : X.all (Row.under (2 + X.length)) = true) : Ret F 22 [] (gRows ++ X) = some (.bool true, gRows ++ X, none) := by
  have h := Sh.ret_ok (shX X) (fun y hy => List.all_eq_true.1 hX y hy) (F_sh X) (rows := gRows) (Nat.le_refl 2) awake_g
  have e1 : (shX X).h gRows = gRows ++ X := by
    have e : ∀ l : List Int, (nums .u8 l).map (shX X).v = nums .u8 l := fun l => by simp [nums, Sh.v, Function.comp_def]
    simp [Sh.h, shX, gRows]
    simp [Sh.r]
    exact ⟨e _, e _⟩
  rw [e1] at h
  simpa [Sh.x3o, e1, Sh.v] using h
end Go.Abs
