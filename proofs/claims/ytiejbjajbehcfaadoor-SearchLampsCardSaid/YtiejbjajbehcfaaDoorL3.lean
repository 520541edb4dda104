/- SearchLamps, but for 'awake'. -/
import Derived.Test.YtiejbjajbehcfaaDoorS3
import Derived.Test.YtiejbjajbehcfaaDoorD3
import Derived.Test.YtiejbjajbehcfaaDoorA30
set_option linter.unusedVariables false
set_option linter.unusedSimpArgs false
namespace Go.Abs
section
variable {rows : List Row}
abbrev G3 : Nat → Option IFn := more F 3 c3
theorem toG3 {f : Nat} {vs : List AV} {rows : List Row} {q : AV × List Row × Option Nat} (h : Ret F f vs rows = some q) : Ret G3 f vs rows = some q := Ret_ext (more_ext (by kernel_rfl)) h

set_option maxHeartbeats 8000000 in
theorem lamps_loop (ha : Ret F 22 [] rows = some (.bool true, rows, none)) : ∀ (n i : Nat) (c t s : Int), 2 - i = n → i ≤ 2 →
    Lc3l2 G3 (.fn [.t 6]) (.int .i64 c) (.int .i64 t) (.int .i64 s) (.int .i64 i) rows rows.length (fun r => fin rows r.1 r.2.1 r.2.2 = (.bool true, rows, none)) := by
  intro n
  induction n with
  | zero =>
    intro i c t s hn h1
    have hi : i = 2 := by omega
    subst hi
    unfold Lc3l2
    simp [toG3 ha]
  | succ n ih =>
    intro i c t s hn h1
    have hi : (i : Int) < 2 := by omega
    have h3 : ∀ c, Jc3s13 G3 (.fn [.t 6]) (.int .i64 c) (.int .i64 t) (.int .i64 s) (.int .i64 i) rows rows.length (fun r => fin rows r.1 r.2.1 r.2.2 = (.bool true, rows, none)) := by
      intro c
      have ih' := fun c t s => ih (i + 1) c t s (by omega) (by omega)
      simp only [Int.natCast_add, Int.cast_ofNat_Int] at ih'
      unfold Jc3s13
      simp (disch := first | omega | (simp; done) | fail) [wrap64 (n := (i : Int) + 1)]
      exact (Classical.em _).elim (fun h => .inr ⟨h, ih' _ _ _⟩) (fun h => .inl ⟨h, ih' _ _ _⟩)
    have h2 : Jc3s42 G3 (.fn [.t 6]) (.int .i64 c) (.int .i64 t) (.int .i64 s) (.int .i64 i) rows rows.length (fun r => fin rows r.1 r.2.1 r.2.2 = (.bool true, rows, none)) := by
      unfold Jc3s42
      by_cases hb : 1 ≤ c ∧ c ≤ 20 ∧ 0 ≤ s ∧ s ≤ 1000000000000
      · have q0 := toG3 (rTries_ret (rows := rows) (s := s) (show 1 ≤ c ∧ c ≤ 20 from by omega))
        have q1 : ¬ (c < 1) := by omega
        have q2 : ¬ (20 < c) := by omega
        have q3 : ¬ (s < 0) := by omega
        have q4 : ¬ (1000000000000 < s) := by omega
        by_cases hs : s = 0
        · subst hs
          have e1 : tri c.toNat 0 = some 0 := tri_some (by omega) (by rw [stp_0]; omega) (fun j hj => absurd hj (by omega))
          have hv : dropV c 0 = .tup [.int .i64 0, .int .i64 1] := by unfold dropV; rw [if_pos rfl]
          rw [e1] at q0
          have t1 := toG3 (Tries_ret (rows := rows) (c := c) (s := 0))
          rw [if_pos hb, e1] at t1
          have d1 := toG3 (Drop_ret (rows := rows) (c := c) (s := 0))
          rw [hv] at d1
          simp (disch := first | omega | (simp; done) | fail) [-uc3s13, jc3s13, t1, d1, q0, q1, q2, q3, q4, h3]
        · have t1 := toG3 (Tries_ret (rows := rows) (c := c) (s := s))
          have d1 := toG3 (Drop_ret (rows := rows) (c := c) (s := s))
          rw [if_pos hb] at t1
          unfold dropV at d1
          rw [if_neg hs, if_pos hb] at d1
          cases ht : tri c.toNat s with
          | none =>
            rw [ht] at t1 d1 q0
            simp (disch := first | omega | (simp; done) | fail) [-uc3s13, jc3s13, t1, d1, q0, q1, q2, q3, q4, h3, hs]
          | some t =>
            have hsp := tri_spec ht
            have ht1 : 1 ≤ t := by
              rcases Nat.eq_zero_or_pos t with e | e
              · subst e
                have := hsp.2.1
                rw [stp_0] at this
                omega
              · exact e
            have y0 := stp_lo c.toNat (t - 1)
            have y1 := hsp.2.2 (t - 1) (by omega)
            have y2 : stp c.toNat t = stp (c.toNat - 1) (t - 1) + 1 + stp c.toNat (t - 1) := by
              obtain ⟨u, rfl⟩ : ∃ u, t = u + 1 := ⟨t - 1, by omega⟩
              obtain ⟨w, hw⟩ : ∃ w, c.toNat = w + 1 := ⟨c.toNat - 1, by omega⟩
              rw [hw]
              rfl
            have y3 := hsp.2.1
            have e4 : ((t : Int)).toNat = t := by simp
            rw [ht] at t1 d1 q0
            simp only at t1 d1 q0
            rw [show max 1 (s - stp c.toNat (t - 1)) = s - stp c.toNat (t - 1) from by omega] at d1
            generalize hy : stp c.toNat (t - 1) = y at *
            have r1 := fun x (hx : 0 ≤ x ∧ x ≤ 2000000000000) => toG3 (rDrop_ret (rows := rows) (c := c) (t := t) (s := s) (x := x) (by omega) (by omega) (by omega) (by omega))
            have r2 := r1 (s - y) (by omega)
            have r3 := r1 (s - y - 1) (by omega)
            rw [decide_eq_true (by rw [e4, hy]; omega)] at r2
            rw [decide_eq_false (by rw [e4, hy]; omega)] at r3
            by_cases hd : 1 < s - y
            · simp (disch := first | omega | (simp; done) | fail) [-uc3s13, jc3s13, t1, d1, q0, q1, q2, q3, q4, h3, hs, r2, r3, wrap64, hd, show ¬ ((t : Int) < 0) from by omega]
            · simp (disch := first | omega | (simp; done) | fail) [-uc3s13, jc3s13, t1, d1, q0, q1, q2, q3, q4, h3, hs, r2, r3, wrap64, hd, show ¬ ((t : Int) < 0) from by omega]
      · have t1 := toG3 (Tries_ret (rows := rows) (c := c) (s := s))
        have d1 := toG3 (Drop_ret (rows := rows) (c := c) (s := s))
        rw [if_neg hb] at t1
        have hv : dropV c s = .tup [.int .i64 0, .int .i64 1] := by unfold dropV; split <;> rfl
        rw [hv] at d1
        by_cases b1 : c < 1
        · simp (disch := first | omega | (simp; done) | fail) [-uc3s13, jc3s13, t1, d1, h3, b1]
        · by_cases b2 : 20 < c
          · simp (disch := first | omega | (simp; done) | fail) [-uc3s13, jc3s13, t1, d1, h3, b1, b2]
          · by_cases b3 : s < 0
            · simp (disch := first | omega | (simp; done) | fail) [-uc3s13, jc3s13, t1, d1, h3, b1, b2, b3]
            · have b4 : 1000000000000 < s := by omega
              simp (disch := first | omega | (simp; done) | fail) [-uc3s13, jc3s13, t1, d1, h3, b1, b2, b3, b4]
    unfold Lc3l2
    by_cases a1 : c < 0
    · simp (disch := first | omega | (simp; done) | fail) [-uc3s42, jc3s42, hi, toG3 Steps_ret, a1, h2, show ¬ (0 ≤ c) from by omega]
    · by_cases a2 : 20 < c
      · simp (disch := first | omega | (simp; done) | fail) [-uc3s42, jc3s42, hi, toG3 Steps_ret, a1, a2, h2, show ¬ (c ≤ 20) from by omega]
      · by_cases a3 : t < 0
        · simp (disch := first | omega | (simp; done) | fail) [-uc3s42, jc3s42, hi, toG3 Steps_ret, a1, a2, a3, h2, show ¬ (0 ≤ t) from by omega]
        · by_cases a4 : 60 < t
          · simp (disch := first | omega | (simp; done) | fail) [-uc3s42, jc3s42, hi, toG3 Steps_ret, a1, a2, a3, a4, h2, show ¬ (t ≤ 60) from by omega]
          · have r1 := toG3 (rstp_int (rows := rows) (c := c) (t := t) (by omega) (by omega))
            simp (disch := first | omega | (simp; done) | fail) [-uc3s42, jc3s42, hi, toG3 Steps_ret, a1, a2, a3, a4, h2, show c ≤ 20 ∧ t ≤ 60 ∧ 0 ≤ c ∧ 0 ≤ t from by omega, r1]

/-- SearchLamps, if 'awake' is true. -/
theorem lamps_ret (ha : Ret F 22 [] rows = some (.bool true, rows, none)) {c t s : Int} : Ret G3 3 [.int .i64 c, .int .i64 t, .int .i64 s] rows = some (.bool true, rows, none) := by
  refine i3 more_at ?_
  simp
  exact lamps_loop ha 2 0 c t s rfl (by omega)
end
end Go.Abs
