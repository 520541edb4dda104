/- The statements' own helpers: few, ints. -/
import Derived.Test.YtiejbjajbehcfaaDoorS9
import Derived.Test.YtiejbjajbehcfaaDoorU3
set_option linter.unusedVariables false
set_option linter.unusedSimpArgs false
namespace Go.Abs
open Rd (Cp IsL_one IsL_cells IsL_tail lowO_n)
theorem El_nil0 {rows : List Row} {v : AV} (h : IsL rows v []) : El rows 1 v (nums .i64 []) 0 := h
theorem IsL_take {rows : List Row} {v : AV} {l : List Int} (h : IsL rows v l) (hc : Cp 1 v) {k : Nat} (hk : k ≤ l.length) : ∃ v', sliceV 1 v none (some (.int .i64 k)) none = some v' ∧ IsL rows v' (l.take k) ∧ Cp 1 v' := by
  rcases El_cases h with ⟨rfl, _, h0⟩ | ⟨id, off, c, vs, rfl, hr, hs⟩
  · have : k = 0 := by omega
    subst this
    refine ⟨.nilslice, by simp [sliceV, bound?], ?_, trivial⟩
    simpa using IsL_nil
  · have hl := seg_len hs
    simp only [Nat.mul_one] at hl
    have hs' : seg vs off (l.take k).length = some (nums .i64 (l.take k)) := by
      have := seg_seg (j := 0) (m := k) hs (by omega)
      rw [Nat.add_zero] at this
      rw [List.length_take, Nat.min_eq_left hk, this]
      unfold seg
      rw [if_pos (by simp; omega)]
      simp [nums, List.map_take]
    cases c with
    | at_ m =>
      simp only [Cp] at hc
      refine ⟨.slice id off k (.at_ m), ?_, ?_, by simp only [Cp]; omega⟩
      · simp only [sliceV, bound?]
        rw [if_pos (by omega)]
        simp
      · have := IsL_mk (n := 0) (c := .at_ m) hr hs'
        simpa [Nat.min_eq_left hk] using this
    | op sz =>
      simp only [Cp] at hc
      subst hc
      refine ⟨.slice id off k (.op 1), ?_, ?_, rfl⟩
      · simp only [sliceV, bound?]
        rw [if_pos (by omega)]
        simp
      · have := IsL_mk (n := 0) (c := .op 1) hr hs'
        simpa [Nat.min_eq_left hk] using this
section
variable {rows : List Row}
/-- few. -/
theorem few_ret {v : AV} {l : List Int} {m : Nat} (h : IsL rows v l) (hc : Cp 1 v) (hm : m ≤ 1000000) : Ret F 26 [v, .int .i64 m] rows = some (newL rows (l.take m)) := by
  obtain ⟨v', e1, h', _⟩ := IsL_take h hc (k := min l.length m) (by omega)
  have e2 : l.take (min l.length m) = l.take m := by
    by_cases hx : l.length ≤ m
    · rw [Nat.min_eq_left hx, List.take_of_length_le (Nat.le_refl _), List.take_of_length_le hx]
    · rw [Nat.min_eq_right (by omega)]
  rw [e2] at h'
  have e3 : ((min (l.length : Int) (m : Int)) : Int) = ((min l.length m : Nat) : Int) := by omega
  refine i26 F26 ?_
  simp [lenL0 h, e3, e1]
  generalize hq : l.take m = q at h'
  cases q with
  | nil =>
    rw [app_0 (El_nil0 h') (.inl rfl)]
    simp [newL]
  | cons x q =>
    have hle : (x :: q).length ≤ m := by rw [← hq]; simp; omega
    rw [app_nil (show El rows 1 v' (nums .i64 (x :: q)) (x :: q).length from h') (by simp) (by simp [lim] at *; omega)]
    simp [newL]
/-- ints. -/
theorem ints_loop {a b : AV} {l p : List Int} (ha : IsL rows a l) (hb : IsL rows b p) (hlen : l.length = p.length) (hL : l.length < 4611686018427387904) : ∀ (n i : Nat), l.length - i = n → i ≤ l.length → l.take i = p.take i →
    Lc32l2 F (.fn [.t 4]) a b (.int .i64 i) rows rows.length (fun r => fin rows r.1 r.2.1 r.2.2 = (.bool (decide (l = p)), rows, none)) := by
  intro n
  induction n with
  | zero =>
    intro i hn h1 h2
    have hi : i = l.length := by omega
    have e : l = p := by
      have h3 := h2
      rw [hi, List.take_of_length_le (Nat.le_refl _), List.take_of_length_le (by omega)] at h3
      exact h3
    unfold Lc32l2
    simp [lenL0 ha, hi, e]
  | succ n ih =>
    intro i hn h1 h2
    have hi : i < l.length := by omega
    have hi2 : i < p.length := by omega
    have w : IntKind.i64.wrap ((i : Int) + 1) = i + 1 := wrap64 (by omega) (by omega)
    unfold Lc32l2
    by_cases hne : gI l i = gI p i
    · simp (disch := first | omega | (simp; done) | fail) [lenL0 ha, idxL0 ha, loadL0 ha, idxL0 hb, loadL0 hb, hi, hi2, w, hne]
      have e : l.take (i + 1) = p.take (i + 1) := by
        rw [List.take_add_one, List.take_add_one, h2, gI_get hi, gI_get hi2, hne]
      have := ih (i + 1) (by omega) (by omega) e
      simpa using this
    · have e : l ≠ p := fun e => hne (by rw [e])
      simp (disch := first | omega | (simp; done) | fail) [lenL0 ha, idxL0 ha, loadL0 ha, idxL0 hb, loadL0 hb, hi, hi2, w, hne, e]
theorem ints_ret {a b : AV} {l p : List Int} (ha : IsL rows a l) (hb : IsL rows b p) (hL : l.length < 4611686018427387904) (hP : p.length < 4611686018427387904) : Ret F 32 [a, b] rows = some (.bool (decide (l = p)), rows, none) := by
  refine i32 F32 ?_
  by_cases hlen : l.length = p.length
  · have := ints_loop ha hb hlen hL _ 0 rfl (by omega) rfl
    simp [lenL0 ha, lenL0 hb, hlen]
    simpa using this
  · have e : l ≠ p := fun e => hlen (by rw [e])
    simp [lenL0 ha, lenL0 hb, hlen, e, show ¬ ((l.length : Int) = p.length) from by omega]
end
end Go.Abs
