/- The statements' reference: opened. -/
import Derived.Test.YtiejbjajbehcfaaDoorS16
set_option linter.unusedVariables false
set_option linter.unusedSimpArgs false
namespace Go.Abs
open Rd (Cp IsL_one IsL_cells IsL_tail lowO_n)
section
variable {B : List Row} {low : Nat} {xv yv ev : AV} {x y : List (List Int)} {g : Int} {r : AV × List Row × Nat → Prop}
theorem opened_loop (hlow : low ≤ B.length) (hx : IsLL B xv x) (hy : IsLL B yv y) (hn : x.length + y.length ≤ 100) (hxl : ∀ l ∈ x, l.length ≤ 1000) (hyl : ∀ l ∈ y, l.length ≤ 1000)
    (hend : ∀ H' ov', Acc B H' ov' ((x ++ y).map (g :: ·)) → Und B H' → r (.tup [ov', ev, .bool true], B ++ H', low)) : ∀ (n i : Nat) (H : List Row) (ov : AV), x.length + y.length - i = n → i ≤ x.length + y.length → Acc B H ov (((x ++ y).take i).map (g :: ·)) → Und B H →
    Lc64l2 F (.fn [.t 8, .t 9, .t 10]) (.int .i64 g) xv yv ev ov (.int .i64 i) (B ++ H) low r := by
  have hlx := lenLL hx
  have hly := lenLL hy
  obtain ⟨xs, hxE, hxI⟩ := hx
  obtain ⟨ys, hyE, hyI⟩ := hy
  have hxsl : xs.length = x.length := by simpa using El_len hxE
  have hysl : ys.length = y.length := by simpa using El_len hyE
  have ws : IntKind.i64.wrap ((x.length : Int) + y.length) = x.length + y.length := wrap64 (by omega) (by omega)
  intro n
  induction n with
  | zero =>
    intro i H ov hn0 hi ha hu
    have e : (x ++ y).take i = x ++ y := List.take_of_length_le (by simp; omega)
    rw [e] at ha
    have h3 : ¬ ((i : Int) < x.length + y.length) := by omega
    unfold Lc64l2
    simp [hlx, hly, ws, h3]
    exact hend H ov ha hu
  | succ n ih =>
    intro i H ov hn0 hi ha hu
    have hi : i < x.length + y.length := by omega
    have h3 : (i : Int) < x.length + y.length := by omega
    have w : IntKind.i64.wrap ((i : Int) + 1) = i + 1 := wrap64 (by omega) (by omega)
    have hacc : (((x ++ y).take i).map (g :: ·)).length ≤ 1000 := by simp; omega
    have htake : ∀ l, (x ++ y)[i]? = some l → ((x ++ y).take i).map (g :: ·) ++ [g :: l] = ((x ++ y).take (i + 1)).map (g :: ·) := by
      intro l hl
      rw [List.take_add_one, hl]; simp
    have step : ∀ {v : AV} {l : List Int}, IsL B v l → (x ++ y)[i]? = some l → l.length ≤ 1000 → ∃ rv H1 ov' H', evE (B ++ (H ++ [.cells [.int .i64 g]])) low (.app 1 8 (.c (.slice (B.length + H.length) 0 1 (.at_ 1))) (.c v)) = some (rv, B ++ (H ++ H1), low) ∧ rv.one = true ∧ rv.cells = [rv] ∧
        evE (B ++ (H ++ (H1 ++ [.cells [rv]]))) low (.app 1 24 (.c ov) (.c (.slice (B.length + (H.length + H1.length)) 0 1 (.at_ 1)))) = some (ov', B ++ H', low) ∧ Acc B H' ov' (((x ++ y).take (i + 1)).map (g :: ·)) ∧ Und B H' := by
      intro v l hv hl hll
      obtain ⟨rv, H1, h1, h2, h4⟩ := row_app (R := B ++ H) (g := g) (low := low) (IsL_app hv H) hll
      have h2' : IsL (B ++ (H ++ H1)) rv (g :: l) := by rwa [List.append_assoc] at h2
      obtain ⟨ov', H', h5, h6, h7⟩ := acc_step ha hu h4 h2' (by simp) hlow hacc
      refine ⟨rv, H1, ov', H', by simpa using h1, IsL_one h2, IsL_cells h2, by simpa using h5, ?_, h7⟩
      rw [← htake l hl]; exact h6
    unfold Lc64l2
    by_cases hix : i < x.length
    · have e1 : ∀ L, evP (B ++ L) (.idxS 1 (.c xv) (.c (.int .i64 i))) = some (.ptr (sid xv) (soff xv + i)) := fun L => by
        simpa using evP_idxE (El_app hxE L) (k := .i64) (i := i) (by omega) (by omega)
      have e2 : ∀ L, evP (B ++ L) (.load1 (.c (.ptr (sid xv) (soff xv + i)))) = some (gA xs i) := fun L => by
        rw [evP_loadE (El_app hxE L) (by omega), gA_get (by omega)]
      obtain ⟨rv, H1, ov', H', h1, h2, h2c, h4, h5, h6⟩ := step (hxI i hix) (by rw [List.getElem?_append_left hix, gLL_get hix]) (hxl _ (gLL_mem hix))
      simp (disch := first | omega | (simp; done) | fail) [hlx, hly, ws, h3, hix, w, fillA, splice, e1, e2, h1, h2, h2c, h4]
      have := ih (i + 1) H' ov' (by omega) (by omega) h5 h6
      simpa [w] using this
    · have w3 : IntKind.i64.wrap ((i : Int) - x.length) = ((i - x.length : Nat) : Int) := by rw [wrap64 (by omega) (by omega)]; omega
      have e1 : ∀ L, evP (B ++ L) (.idxS 1 (.c yv) (.c (.int .i64 ((i - x.length : Nat) : Int)))) = some (.ptr (sid yv) (soff yv + (i - x.length))) := fun L => by
        simpa using evP_idxE (El_app hyE L) (k := .i64) (i := ((i - x.length : Nat) : Int)) (by omega) (by omega)
      have e2 : ∀ L, evP (B ++ L) (.load1 (.c (.ptr (sid yv) (soff yv + (i - x.length))))) = some (gA ys (i - x.length)) := fun L => by
        rw [evP_loadE (El_app hyE L) (by omega), gA_get (by omega)]
      obtain ⟨rv, H1, ov', H', h1, h2, h2c, h4, h5, h6⟩ := step (hyI (i - x.length) (by omega)) (by rw [List.getElem?_append_right (by omega), gLL_get (by omega)]) (hyl _ (gLL_mem (by omega)))
      simp (disch := first | omega | (simp; done) | fail) [hlx, hly, ws, h3, hix, w, w3, fillA, splice, e1, e2, h1, h2, h2c, h4]
      have := ih (i + 1) H' ov' (by omega) (by omega) h5 h6
      simpa [w] using this
end
end Go.Abs
