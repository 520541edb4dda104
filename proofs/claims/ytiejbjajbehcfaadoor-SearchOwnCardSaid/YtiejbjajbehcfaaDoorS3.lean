/- search: lanterns. -/
import Derived.Test.YtiejbjajbehcfaaDoorS2
set_option linter.unusedVariables false
set_option linter.unusedSimpArgs false
namespace Go.Abs
/-- The least number of tries, if 60 are enough. -/
def tri (c : Nat) (s : Int) : Option Nat := (List.range 61).find? fun t => decide (s ≤ stp c t)
theorem tri_some {c : Nat} {s : Int} {i : Nat} (hi : i ≤ 60) (h : s ≤ stp c i) (hf : ∀ j, j < i → stp c j < s) : tri c s = some i := by
  unfold tri
  rw [List.find?_range_eq_some]
  refine ⟨by simpa using h, by simp; omega, fun j hj => ?_⟩
  have := hf j hj
  simp; omega
theorem tri_none {c : Nat} {s : Int} (hf : ∀ j, j < 61 → stp c j < s) : tri c s = none := by
  unfold tri
  rw [List.find?_range_eq_none]
  intro j hj
  have := hf j hj
  simp; omega
theorem tri_spec {c : Nat} {s : Int} {i : Nat} (h : tri c s = some i) : i ≤ 60 ∧ s ≤ stp c i ∧ ∀ j, j < i → stp c j < s := by
  unfold tri at h
  rw [List.find?_range_eq_some] at h
  obtain ⟨h1, h2, h3⟩ := h
  refine ⟨by simp at h2; omega, by simpa using h1, fun j hj => ?_⟩
  have := h3 j hj
  simp at this; omega

section
variable {cx : Ctx} {rows : List Row} {low : Nat} {r : AV × List Row × Nat → Prop}
set_option maxHeartbeats 1000000 in
theorem rsteps_in {c i : Nat} (hc : c ≤ 20) (hi : i ≤ 60) {A : Nat → Int} (hA : ∀ i, -1000000000000000000 ≤ A i ∧ A i ≤ 2000000000000000000) {x1 : AV} : ∀ (j : Nat), j ≤ c →
    Lc17l2 F cx (.int .i64 c) x1 (.slice rows.length 0 (c + 1) (.at_ (c + 1))) (.int .i64 (i + 1)) (rows ++ [.cells (nums .i64 (tab (c + 1) fun i => if 1 ≤ i then A (i - 1) + 1 + A i else A i))]) rows.length r →
    Lc17l4 F cx (.int .i64 c) x1 (.slice rows.length 0 (c + 1) (.at_ (c + 1))) (.int .i64 i) (.int .i64 j) (rows ++ [.cells (nums .i64 (tab (c + 1) fun i => if j < i then A (i - 1) + 1 + A i else A i))]) rows.length r := by
  intro j
  induction j with
  | zero =>
    intro h1 h
    unfold Lc17l4
    simp (disch := first | omega | (simp; done) | fail) [wrap64]
    exact h
  | succ j ih =>
    intro h1 h
    have b1 := hA j
    have b2 := hA (j + 1)
    have hlt : j < c + 1 := by omega
    have hlt1 : j < c := by omega
    unfold Lc17l4
    simp (disch := first | omega | (simp; done) | fail) [wrap64, hlt, hlt1, show (1 : Int) ≤ (j : Int) + 1 from by omega, show ((j : Int) + 1 - 1) = j from by omega, idx?_ok]
    refine cast ?_ (ih (by omega) h)
    congr 5
    rw [tab_set]
    refine tab_congr fun i hi => ?_
    by_cases e : i = j + 1
    · subst e; simp; omega
    · rw [if_neg e]
      by_cases e2 : j < i
      · rw [if_pos e2, if_pos (by omega)]
      · rw [if_neg e2, if_neg (by omega)]

theorem rsteps_out {c t : Nat} (hc : c ≤ 20) (ht : t ≤ 60) {q : AV × List Row × Option Nat} (hq : q = (.int .i64 (stp c t), rows, none)) : ∀ (n i : Nat), t - i = n → i ≤ t →
    Lc17l2 F (.fn [.t 4]) (.int .i64 c) (.int .i64 t) (.slice rows.length 0 (c + 1) (.at_ (c + 1))) (.int .i64 i) (rows ++ [.cells (nums .i64 (tab (c + 1) (fun k => stp k i)))]) rows.length (fun r => fin rows r.1 r.2.1 r.2.2 = q) := by
  intro n
  induction n with
  | zero =>
    intro i hn h1
    have hj : i = t := by omega
    subst hj
    unfold Lc17l2
    simp (disch := first | omega | (simp; done) | fail) [hq]
  | succ n ih =>
    intro i hn h1
    have hd : (i : Int) < t := by omega
    unfold Lc17l2
    simp (disch := first | omega | (simp; done) | fail) [hd]
    have e1 : (tab (c + 1) fun j => if c < j then stp (j - 1) i + 1 + stp j i else stp j i) = tab (c + 1) fun k => stp k i := tab_congr fun j hj => by rw [if_neg (by omega)]
    rw [← e1]
    refine rsteps_in (A := fun k => stp k i) hc (by omega) (fun k => ?_) c (Nat.le_refl _) ?_
    · have h1 := stp_lo k i
      have h2 := stp_hi k i
      have h3 : (2 : Int) ^ i ≤ 2 ^ 59 := by
        have : (2 : Nat) ^ i ≤ 2 ^ 59 := Nat.pow_le_pow_right (by omega) (by omega)
        exact_mod_cast this
      have : (2 : Int) ^ 59 = 576460752303423488 := by rfl
      omega
    · have e2 : (tab (c + 1) fun j => if 1 ≤ j then stp (j - 1) i + 1 + stp j i else stp j i) = tab (c + 1) fun k => stp k (i + 1) := tab_congr fun j hj => by
        by_cases e : 1 ≤ j
        · obtain ⟨q, rfl⟩ : ∃ q, j = q + 1 := ⟨j - 1, by omega⟩
          rw [if_pos e]
          simp [stp]
        · have : j = 0 := by omega
          subst this
          simp [stp]
      rw [e2]
      exact ih (i + 1) (by omega) (by omega)

/-- The document's steps. -/
theorem rsteps_ret {c t : Nat} (hc : c ≤ 20) (ht : t ≤ 60) : Ret F 17 [.int .i64 c, .int .i64 t] rows = some (.int .i64 (stp c t), rows, none) := by
  refine i17 F17 ?_
  have e0 : tab (c + 1) (fun k => stp k 0) = List.replicate (c + 1) 0 := by
    rw [tab_congr (g := fun _ => 0) fun i _ => by simp [stp_0]]
    simp [tab, List.map_const']
  have h := rsteps_out (rows := rows) hc ht rfl _ 0 rfl (by omega)
  rw [e0] at h
  simp (disch := first | omega | (simp; done) | fail) [wrap64, lim, nums_rep, show (c : Int) + 1 ≤ 1073741824 from by omega, show 0 ≤ (c : Int) + 1 from by omega]
  exact h

theorem tries_loop {H : List Row} {c : Nat} (hc : c ≤ 20) {s : Int} {q : AV × List Row × Option Nat} (hq : q = (.tup (match tri c s with | some t => [.int .i64 t, .int .i64 0] | none => [.int .i64 0, .int .i64 8]), rows, none)) : ∀ (n i : Nat), 61 - i = n → i ≤ 61 → (∀ j, j < i → stp c j < s) →
    Lc18l2 F (.fn [.t 4, .t 5]) (.int .i64 c) (.int .i64 s) (.int .i64 i) (rows ++ H) rows.length (fun r => fin rows r.1 r.2.1 r.2.2 = q) := by
  intro n
  induction n with
  | zero =>
    intro i hn h1 hf
    have hj : i = 61 := by omega
    subst hj
    unfold Lc18l2
    simp [hq, tri_none hf]
  | succ n ih =>
    intro i hn h1 hf
    have hd : (i : Int) < 61 := by omega
    unfold Lc18l2
    by_cases hs : s ≤ stp c i
    · simp (disch := first | omega | (simp; done) | fail) [hd, steps_ret hc (show i ≤ 60 by omega), hs, hq, tri_some (show i ≤ 60 by omega) hs hf]
    · simp (disch := first | omega | (simp; done) | fail) [hd, steps_ret hc (show i ≤ 60 by omega), hs, wrap64]
      refine ih (i + 1) (by omega) (by omega) fun j hj => ?_
      by_cases e : j = i
      · subst e; omega
      · exact hf j (by omega)

/-- search.Tries. -/
theorem Tries_ret {c s : Int} : Ret F 18 [.int .i64 c, .int .i64 s] rows = some (if 1 ≤ c ∧ c ≤ 20 ∧ 0 ≤ s ∧ s ≤ 1000000000000 then .tup (match tri c.toNat s with | some t => [.int .i64 t, .int .i64 0] | none => [.int .i64 0, .int .i64 8]) else .tup [.int .i64 0, .int .i64 1], rows, none) := by
  refine i18 F18 ?_
  by_cases h : 1 ≤ c ∧ c ≤ 20
  · by_cases h1 : s < 0
    · rw [if_neg (by omega)]
      simp [fillA, splice, are_one, h, h1]
    · by_cases h2 : s ≤ 1000000000000
      · rw [if_pos (by omega)]
        simp [fillA, splice, are_one, h, h1, h2, show ¬ (1000000000000 < s) from by omega]
        have hh := tries_loop (rows := rows) (H := [.cells [.int .i64 c]]) (c := c.toNat) (s := s) (by omega) rfl _ 0 rfl (by omega) (fun j hj => absurd hj (by omega))
        have e : ((c.toNat : Nat) : Int) = c := by omega
        rw [e] at hh
        exact hh
      · rw [if_neg (by omega)]
        simp [fillA, splice, are_one, h, h1, h2, show (1000000000000 < s) from by omega]
  · rw [if_neg (by omega)]
    simp [fillA, splice, are_one, h]

theorem stp_int {c t : Int} (hc : 0 ≤ c ∧ c ≤ 20) (ht : 0 ≤ t ∧ t ≤ 60) : Ret F 56 [.int .i64 c, .int .i64 t] rows = some (.int .i64 (stp c.toNat t.toNat), rows, none) := by
  have h := steps_ret (rows := rows) (c := c.toNat) (t := t.toNat) (by omega) (by omega)
  rwa [show ((c.toNat : Nat) : Int) = c from by omega, show ((t.toNat : Nat) : Int) = t from by omega] at h
theorem rstp_int {c t : Int} (hc : 0 ≤ c ∧ c ≤ 20) (ht : 0 ≤ t ∧ t ≤ 60) : Ret F 17 [.int .i64 c, .int .i64 t] rows = some (.int .i64 (stp c.toNat t.toNat), rows, none) := by
  have h := rsteps_ret (rows := rows) (c := c.toNat) (t := t.toNat) (by omega) (by omega)
  rwa [show ((c.toNat : Nat) : Int) = c from by omega, show ((t.toNat : Nat) : Int) = t from by omega] at h

theorem stp_le (k i : Nat) (hi : i ≤ 60) : stp k i ≤ 1152921504606846975 := by
  have h2 := stp_hi k i
  have h3 : (2 : Int) ^ i ≤ 2 ^ 60 := by
    have : (2 : Nat) ^ i ≤ 2 ^ 60 := Nat.pow_le_pow_right (by omega) hi
    exact_mod_cast this
  have : (2 : Int) ^ 60 = 1152921504606846976 := by rfl
  omega

/-- What Drop returns. -/
def dropV (c s : Int) : AV :=
  if s = 0 then .tup [.int .i64 0, .int .i64 1]
  else if 1 ≤ c ∧ c ≤ 20 ∧ 0 ≤ s ∧ s ≤ 1000000000000 then
    match tri c.toNat s with
    | some t => .tup [.int .i64 (max 1 (s - stp c.toNat (t - 1))), .int .i64 0]
    | none => .tup [.int .i64 0, .int .i64 8]
  else .tup [.int .i64 0, .int .i64 1]

/-- search.Drop. -/
theorem Drop_ret {c s : Int} : Ret F 19 [.int .i64 c, .int .i64 s] rows = some (dropV c s, rows, none) := by
  refine i19 F19 ?_
  unfold dropV
  by_cases h0 : s = 0
  · subst h0
    by_cases h : 1 ≤ c ∧ c ≤ 20
    · cases ht : tri c.toNat 0 <;> simp [Tries_ret, h, ht]
    · simp [Tries_ret, h, show ¬ (1 ≤ c ∧ c ≤ 20 ∧ True) from by simpa using h]
  · by_cases h : 1 ≤ c ∧ c ≤ 20 ∧ 0 ≤ s ∧ s ≤ 1000000000000
    · cases ht : tri c.toNat s with
      | none => simp [Tries_ret, h, h0, ht]
      | some t =>
        have hs := tri_spec ht
        have h1 : 1 ≤ t := by
          rcases Nat.eq_zero_or_pos t with e | e
          · subst e
            have := hs.2.1
            rw [stp_0] at this
            omega
          · exact e
        have hb := stp_le c.toNat (t - 1) (by omega)
        have hb0 := stp_lo c.toNat (t - 1)
        have e1 : ((t : Int) - 1).toNat = t - 1 := by omega
        simp (disch := first | omega | (simp; done) | fail) [Tries_ret, h, h0, ht, wrap64, stp_int, e1]
    · simp [Tries_ret, h, h0]

/-- The document's Tries. -/
theorem rtries_loop {c : Nat} (hc : c ≤ 20) {s : Int} {q : AV × List Row × Option Nat} (hq : q = (.int .i64 (match tri c s with | some t => (t : Int) | none => -1), rows, none)) : ∀ (n i : Nat), 61 - i = n → i ≤ 61 → (∀ j, j < i → stp c j < s) →
    Lc20l2 F (.fn [.t 4]) (.int .i64 c) (.int .i64 s) (.int .i64 i) rows rows.length (fun r => fin rows r.1 r.2.1 r.2.2 = q) := by
  intro n
  induction n with
  | zero =>
    intro i hn h1 hf
    have hj : i = 61 := by omega
    subst hj
    unfold Lc20l2
    simp [hq, tri_none hf]
  | succ n ih =>
    intro i hn h1 hf
    have hd : (i : Int) ≤ 60 := by omega
    unfold Lc20l2
    by_cases hs : s ≤ stp c i
    · simp (disch := first | omega | (simp; done) | fail) [hd, rsteps_ret hc (show i ≤ 60 by omega), hs, hq, tri_some (show i ≤ 60 by omega) hs hf]
    · simp (disch := first | omega | (simp; done) | fail) [hd, rsteps_ret hc (show i ≤ 60 by omega), hs, wrap64]
      refine ih (i + 1) (by omega) (by omega) fun j hj => ?_
      by_cases e : j = i
      · subst e; omega
      · exact hf j (by omega)
theorem rTries_ret {c s : Int} (h : 1 ≤ c ∧ c ≤ 20) : Ret F 20 [.int .i64 c, .int .i64 s] rows = some (.int .i64 (match tri c.toNat s with | some t => (t : Int) | none => -1), rows, none) := by
  refine i20 F20 ?_
  have hh := rtries_loop (rows := rows) (c := c.toNat) (s := s) (by omega) rfl _ 0 rfl (by omega) (fun j hj => absurd hj (by omega))
  have e : ((c.toNat : Nat) : Int) = c := by omega
  rw [e] at hh
  simp
  exact hh

/-- The document's Drop. -/
theorem rDrop_ret {c t s x : Int} (hc : 1 ≤ c ∧ c ≤ 20) (ht : 1 ≤ t ∧ t ≤ 60) (hs : -2000000000000 ≤ s ∧ s ≤ 2000000000000) (hx : -2000000000000 ≤ x ∧ x ≤ 2000000000000) : Ret F 21 [.int .i64 c, .int .i64 t, .int .i64 s, .int .i64 x] rows = some (.bool (decide (1 ≤ x ∧ x ≤ s ∧ x - 1 ≤ stp (c.toNat - 1) (t.toNat - 1) ∧ s - x ≤ stp c.toNat (t.toNat - 1))), rows, none) := by
  refine i21 F21 ?_
  by_cases h1 : 1 ≤ x
  · by_cases h2 : x ≤ s
    · by_cases h3 : x - 1 ≤ stp (c.toNat - 1) (t.toNat - 1)
      · simp (disch := first | omega | (simp; done) | fail) [h1, h2, h3, wrap64, rstp_int]
      · simp (disch := first | omega | (simp; done) | fail) [h1, h2, h3, wrap64, rstp_int]
    · simp (disch := first | omega | (simp; done) | fail) [h1, h2, wrap64]
  · simp (disch := first | omega | (simp; done) | fail) [h1, wrap64]
end
end Go.Abs
