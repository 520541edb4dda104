/- SearchBinomials, but for 'awake'. -/
import Derived.Test.YtiejbjajbehcfaaDoorS3
import Derived.Test.YtiejbjajbehcfaaDoorD4
import Derived.Test.YtiejbjajbehcfaaDoorA30
set_option linter.unusedVariables false
set_option linter.unusedSimpArgs false
namespace Go.Abs
/-- Binomial coefficients. -/
def ch : Nat → Nat → Int
  | _, 0 => 1
  | 0, _ + 1 => 0
  | n + 1, k + 1 => ch n k + ch n (k + 1)
theorem ch_0 (n : Nat) : ch n 0 = 1 := by cases n <;> rfl
theorem ch_law : ∀ (t i : Nat), ch t (i + 1) * (i + 1) = ch t i * (t - i)
  | 0, 0 => by simp [ch]
  | 0, i + 1 => by simp [ch]
  | t + 1, 0 => by
    have := ch_law t 0
    simp only [ch, ch_0] at this ⊢
    simp at this ⊢
    omega
  | t + 1, i + 1 => by
    have h1 := ch_law t i
    have h2 := ch_law t (i + 1)
    simp only [ch] at *
    push_cast at *
    have e1 : (ch t (i + 1) + ch t (i + 1 + 1)) * ((i : Int) + 1 + 1) = ch t (i + 1) * (i + 1 + 1) + ch t (i + 1 + 1) * (i + 1 + 1) := by rw [Int.add_mul]
    rw [e1, h2]
    have e2 : (ch t i + ch t (i + 1)) * ((t : Int) + 1 - (i + 1)) = ch t i * (t - i) + ch t (i + 1) * (t - i) := by rw [show (t : Int) + 1 - (i + 1) = t - i from by omega, Int.add_mul]
    rw [e2, ← h1, ← Int.mul_add, ← Int.mul_add]
    congr 1
    omega
theorem ch_lo : ∀ (t i : Nat), 0 ≤ ch t i
  | t, 0 => by rw [ch_0]; omega
  | 0, i + 1 => by simp [ch]
  | t + 1, i + 1 => by
    have := ch_lo t i
    have := ch_lo t (i + 1)
    simp only [ch]; omega
theorem ch_hi : ∀ (t i : Nat), ch t i ≤ 2 ^ t
  | 0, 0 => by simp [ch]
  | 0, i + 1 => by simp [ch]
  | t + 1, 0 => by
    rw [ch_0]
    have : (0 : Int) < 2 ^ (t + 1) := Int.pow_pos (by omega)
    omega
  | t + 1, i + 1 => by
    have := ch_hi t i
    have := ch_hi t (i + 1)
    have : (2 : Int) ^ (t + 1) = 2 ^ t * 2 := by rw [Int.pow_succ]
    simp only [ch]; omega
def chS (t : Nat) : Nat → Int
  | 0 => 0
  | i + 1 => chS t i + ch t (i + 1)
theorem chS_0 : ∀ k, chS 0 k = 0
  | 0 => rfl
  | k + 1 => by simp [chS, chS_0 k, ch]
theorem chS_step (t : Nat) : ∀ k, chS (t + 1) (k + 1) = chS t k + 1 + chS t (k + 1)
  | 0 => by simp [chS, ch, ch_0]
  | k + 1 => by
    have := chS_step t k
    rw [chS, this]
    simp only [chS, ch]
    omega
theorem chS_stp : ∀ (t k : Nat), chS t k = stp k t
  | _, 0 => by simp [chS, stp]
  | 0, k + 1 => by rw [chS_0]; rfl
  | t + 1, k + 1 => by rw [chS_step, chS_stp t k, chS_stp t (k + 1)]; rfl
theorem ch_small {t : Nat} (ht : t ≤ 40) (i : Nat) : 0 ≤ ch t i ∧ ch t i ≤ 1099511627776 := by
  refine ⟨ch_lo t i, ?_⟩
  have h2 := ch_hi t i
  have h3 : (2 : Int) ^ t ≤ 2 ^ 40 := by
    have : (2 : Nat) ^ t ≤ 2 ^ 40 := Nat.pow_le_pow_right (by omega) ht
    exact_mod_cast this
  have : (2 : Int) ^ 40 = 1099511627776 := by rfl
  omega
theorem chS_small {t : Nat} (ht : t ≤ 40) (i : Nat) : 0 ≤ chS t i ∧ chS t i ≤ 1099511627776 := by
  rw [chS_stp]
  refine ⟨stp_lo i t, ?_⟩
  have h2 := stp_hi i t
  have h3 : (2 : Int) ^ t ≤ 2 ^ 40 := by
    have : (2 : Nat) ^ t ≤ 2 ^ 40 := Nat.pow_le_pow_right (by omega) ht
    exact_mod_cast this
  have : (2 : Int) ^ 40 = 1099511627776 := by rfl
  omega

/-- int(uint(x) % m) -/
theorem umod {x m : Int} (h : 0 < m) (hm : m ≤ 9223372036854775807) : ∃ r : Nat, IntKind.i64.wrap ((IntKind.u64.wrap x).tmod m) = r ∧ (r : Int) < m := by
  have h0 : 0 ≤ IntKind.u64.wrap x := by
    simp [IntKind.wrap, IntKind.min, IntKind.max, IntKind.signed, IntKind.bits]
    omega
  have h1 := Int.tmod_lt_of_pos (IntKind.u64.wrap x) h
  have h2 := Int.tmod_nonneg m h0
  refine ⟨((IntKind.u64.wrap x).tmod m).toNat, ?_, ?_⟩
  · rw [wrap64 (by omega) (by omega)]; omega
  · omega

section
variable {rows : List Row}
abbrev G4 : Nat → Option IFn := more F 4 c4
theorem toG4 {f : Nat} {vs : List AV} {rows : List Row} {q : AV × List Row × Option Nat} (h : Ret F f vs rows = some q) : Ret G4 f vs rows = some q := Ret_ext (more_ext (by kernel_rfl)) h

set_option maxHeartbeats 4000000 in
theorem bin_loop {c t : Nat} (hc : c ≤ 20) (ht : t ≤ 39) {s : Int} {r : AV × List Row × Nat → Prop} (h : Jc4s23 G4 (.fn [.t 6]) (.int .i64 c) (.int .i64 s) rows rows.length r) : ∀ (n i : Nat), c - i = n → i ≤ c →
    Lc4l28 G4 (.fn [.t 6]) (.int .i64 c) (.int .i64 t) (.int .i64 s) (.int .i64 (stp c t)) (.int .i64 0) (.int .i64 (chS t i)) (.int .i64 (ch t i)) (.int .i64 (i + 1)) rows rows.length r := by
  intro n
  induction n with
  | zero =>
    intro i hn h1
    have hi : i = c := by omega
    subst hi
    unfold Lc4l28
    simp [-uc4s23, jc4s23, show ¬ ((i : Int) + 1 ≤ i) from by omega, chS_stp]
    exact h
  | succ n ih =>
    intro i hn h1
    have b1 := ch_small (show t ≤ 40 by omega) i
    have b2 := ch_small (show t ≤ 40 by omega) (i + 1)
    have b3 := chS_small (show t ≤ 40 by omega) (i + 1)
    have e := ch_law t i
    have hm : -100000000000000 ≤ ch t i * (t - i) ∧ ch t i * (t - i) ≤ 100000000000000 := by
      rw [← e]
      have h0 : 0 ≤ ch t (i + 1) * ((i : Int) + 1) := Int.mul_nonneg b2.1 (by omega)
      have h1 : ch t (i + 1) * ((i : Int) + 1) ≤ 1099511627776 * 21 := Int.mul_le_mul b2.2 (by omega) (by omega) (by omega)
      omega
    have hq : (ch t i * (t - i)).tdiv ((i : Int) + 1) = ch t (i + 1) := by
      rw [← e]
      exact Int.mul_tdiv_cancel _ (by omega)
    have w1 : IntKind.i64.wrap ((t : Int) - (i + 1)) = t - (i + 1) := wrap64 (by omega) (by omega)
    have w2 : IntKind.i64.wrap ((t : Int) - (i + 1) + 1) = t - i := by rw [wrap64 (by omega) (by omega)]; omega
    have w3 : IntKind.i64.wrap (ch t i * (t - i)) = ch t i * (t - i) := wrap64 (by omega) (by omega)
    have w4 : IntKind.i64.wrap (ch t (i + 1)) = ch t (i + 1) := wrap64 (by omega) (by omega)
    have w5 : IntKind.i64.wrap (chS t i + ch t (i + 1)) = chS t (i + 1) := by
      show IntKind.i64.wrap (chS t (i + 1)) = _
      exact wrap64 (by omega) (by omega)
    have w6 : IntKind.i64.wrap ((i : Int) + 1 + 1) = (i : Int) + 1 + 1 := wrap64 (by omega) (by omega)
    have hne : ¬ ((i : Int) + 1 = 0) := by omega
    have hle : (i : Int) + 1 ≤ c := by omega
    unfold Lc4l28
    simp [w1, w2, w3, hq, w4, w5, w6, hne, hle]
    have := ih (i + 1) (by omega) (by omega)
    simpa using this

set_option maxHeartbeats 8000000 in
theorem bin_tail (ha : Ret F 22 [] rows = some (.bool true, rows, none)) {c s : Int} (hc : 1 ≤ c ∧ c ≤ 20) : Jc4s23 G4 (.fn [.t 6]) (.int .i64 c) (.int .i64 s) rows rows.length (fun r => fin rows r.1 r.2.1 r.2.2 = (.bool true, rows, none)) := by
  obtain ⟨u, hu, hu1⟩ := umod (x := s) (m := 1000000000000) (by omega) (by omega)
  unfold Jc4s23
  have t1 := toG4 (Tries_ret (rows := rows) (c := c) (s := 1 + (u : Int)))
  have d1 := toG4 (Drop_ret (rows := rows) (c := c) (s := 1 + (u : Int)))
  rw [if_pos (by omega)] at t1
  unfold dropV at d1
  rw [if_neg (by omega), if_pos (by omega)] at d1
  have w1 : IntKind.i64.wrap (1 + (u : Int)) = 1 + u := wrap64 (by omega) (by omega)
  cases ht : tri c.toNat (1 + u) with
  | none =>
    rw [ht] at t1 d1
    have s60 := toG4 (Steps_ret (rows := rows) (c := c) (t := 60))
    rw [if_pos (by omega)] at s60
    have hlt : stp c.toNat 60 < 1 + u := by
      unfold tri at ht
      rw [List.find?_range_eq_none] at ht
      have := ht 60 (by omega)
      simp at this
      omega
    simp [hu, w1, t1, s60, hlt, toG4 ha]
  | some n =>
    rw [ht] at t1 d1
    have hsp := tri_spec ht
    have hn1 : 1 ≤ n := by
      rcases Nat.eq_zero_or_pos n with e | e
      · subst e
        have := hsp.2.1
        rw [stp_0] at this
        omega
      · exact e
    have y0 := stp_lo c.toNat (n - 1)
    have y1 := hsp.2.2 (n - 1) (by omega)
    have y2 : stp c.toNat n = stp (c.toNat - 1) (n - 1) + 1 + stp c.toNat (n - 1) := by
      obtain ⟨v, rfl⟩ : ∃ v, n = v + 1 := ⟨n - 1, by omega⟩
      obtain ⟨w, hw⟩ : ∃ w, c.toNat = w + 1 := ⟨c.toNat - 1, by omega⟩
      rw [hw]
      rfl
    have y3 := hsp.2.1
    have z0 := stp_lo (c.toNat - 1) (n - 1)
    have z1 := stp_le (c.toNat - 1) (n - 1) (by omega)
    simp only at t1 d1
    rw [show max 1 (1 + (u : Int) - stp c.toNat (n - 1)) = 1 + u - stp c.toNat (n - 1) from by omega] at d1
    have sn := toG4 (Steps_ret (rows := rows) (c := c) (t := n))
    have sm := toG4 (Steps_ret (rows := rows) (c := c) (t := (n : Int) - 1))
    have sz := toG4 (Steps_ret (rows := rows) (c := c - 1) (t := (n : Int) - 1))
    rw [if_pos (by omega)] at sn sm sz
    rw [show ((n : Int) - 1).toNat = n - 1 from by omega] at sm sz
    rw [show (c - 1).toNat = c.toNat - 1 from by omega] at sz
    simp only [Int.toNat_natCast] at sn
    generalize stp c.toNat (n - 1) = y at *
    generalize stp (c.toNat - 1) (n - 1) = z at *
    generalize stp c.toNat n = x at *
    have w2 : IntKind.i64.wrap ((n : Int) - 1) = n - 1 := wrap64 (by omega) (by omega)
    have w3 : IntKind.i64.wrap (c - 1) = c - 1 := wrap64 (by omega) (by omega)
    have w4 : IntKind.i64.wrap (1 + (u : Int) - y - 1) = 1 + (u : Int) - y - 1 := wrap64 (by omega) (by omega)
    have w5 : IntKind.i64.wrap (1 + (u : Int) - (1 + (u : Int) - y)) = y := by rw [wrap64 (by omega) (by omega)]; omega
    have k1 : ¬ ((n : Int) < 1) := by omega
    have k2 : ¬ (60 < (n : Int)) := by omega
    have k3 : 1 + (u : Int) ≤ x := by omega
    have k4 : y < 1 + (u : Int) := by omega
    have k5 : 1 ≤ 1 + (u : Int) - y := by omega
    have k6 : 1 + (u : Int) - y ≤ 1 + u := by omega
    have k7 : 1 + (u : Int) - y - 1 ≤ z := by omega
    simp [hu, w1, w2, w3, w4, w5, t1, d1, sn, sm, sz, k1, k2, k3, k4, k5, k6, k7, toG4 ha]

/-- SearchBinomials, if 'awake' is true. -/
theorem binomials_ret (ha : Ret F 22 [] rows = some (.bool true, rows, none)) {c t s : Int} : Ret G4 4 [.int .i64 c, .int .i64 t, .int .i64 s] rows = some (.bool true, rows, none) := by
  obtain ⟨u, hu, hu1⟩ := umod (x := c) (m := 20) (by omega) (by omega)
  obtain ⟨v, hv, hv1⟩ := umod (x := t) (m := 40) (by omega) (by omega)
  have w1 : IntKind.i64.wrap (1 + (u : Int)) = ((u + 1 : Nat) : Int) := by rw [wrap64 (by omega) (by omega)]; omega
  have s1 := toG4 (Steps_ret (rows := rows) (c := ((u + 1 : Nat) : Int)) (t := (v : Int)))
  rw [if_pos (by omega)] at s1
  simp only [Int.toNat_natCast] at s1
  have hl := bin_loop (c := u + 1) (t := v) (by omega) (by omega) (bin_tail ha (c := ((u + 1 : Nat) : Int)) (s := s) (by omega)) _ 0 rfl (by omega)
  refine i4 more_at ?_
  simp [hu, hv, w1, -Int.natCast_add, s1]
  simpa [chS, ch_0] using hl
end
end Go.Abs
