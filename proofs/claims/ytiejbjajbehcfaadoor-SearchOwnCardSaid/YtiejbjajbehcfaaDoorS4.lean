/- search: the number of plans. -/
import Derived.Test.YtiejbjajbehcfaaDoorS2
set_option linter.unusedVariables false
set_option linter.unusedSimpArgs false
namespace Go.Abs
/-! ### Appending a number to one's own list -/
/-- The rows behind an append. -/
def appH (c : Cap) (H : List Row) (kd : IntKind) (l : List Int) (x : Int) : List Row :=
  match c with
  | .at_ _ => H ++ [.cells (nums kd l), .cells [.int kd x]]
  | .op _ => H ++ [.dead, .cells [.int kd x]]
@[simp] theorem appH_len {c : Cap} {H : List Row} {kd : IntKind} {l : List Int} {x : Int} : (appH c H kd l x).length = H.length + 2 := by cases c <;> simp [appH]
theorem app_own {rows H : List Row} {kd : IntKind} {l : List Int} {x : Int} {c : Cap} {low b n m : Nat} (hn : n = l.length) (hm : m = 1) (hc : c = .at_ l.length ∨ c = .op 1) (hlow : low ≤ rows.length) (hl : l.length < 1000000000) :
    evE (rows ++ (H ++ [.cells (nums kd l), .cells [.int kd x]])) low (.app 1 b (.c (.slice (rows.length + H.length) 0 n c)) (.c (.slice (rows.length + (H.length + 1)) 0 m (.at_ m)))) =
      some (.slice (rows.length + (H.length + 2)) 0 (l.length + 1) (.op 1), rows ++ (appH c H kd l x ++ [.cells (nums kd (l ++ [x]))]), low) := by
  subst hn hm
  have e1 : row? (rows ++ (H ++ [.cells (nums kd l), .cells [.int kd x]])) (rows.length + (H.length + 1)) = some [.int kd x] := by
    unfold row?; simp
  have e2 : row? (rows ++ (H ++ [.cells (nums kd l), .cells [.int kd x]])) (rows.length + H.length) = some (nums kd l) := by
    unfold row?; simp
  have e3 : (rows ++ (H ++ [.cells (nums kd l), .cells [.int kd x]]))[rows.length + H.length]? = some (.cells (nums kd l)) := by simp
  have s1 : seg (nums kd l) 0 (l.length * 1) = some (nums kd l) := by rw [Nat.mul_one]; exact nums_all rfl
  have hx : elems (rows ++ (H ++ [.cells (nums kd l), .cells [.int kd x]])) 1 (.slice (rows.length + (H.length + 1)) 0 1 (.at_ 1)) = some ([.int kd x], 1) := by
    unfold elems
    simp only [e1]
    rfl
  have hlw : lower low (rows.length + H.length) = low := lower_ge (by omega)
  have a1 : nums kd l ++ [.int kd x] = nums kd (l ++ [x]) := by simp [nums]
  rcases hc with rfl | rfl
  · simp only [evE, evalE, getO, hx]
    rw [if_neg (by omega), if_neg (by simp [lim])]
    rw [if_neg (by simp [lim]; omega), if_neg (by omega)]
    simp only [e2, s1, a1]
    simp [appH]
  · simp only [evE, evalE, getO, hx]
    rw [if_neg (by omega), if_neg (by simp [lim])]
    rw [if_neg (by simp [lim]; omega)]
    simp only [e3, s1, a1, hlw]
    simp [appH]

/-! ### The numbers -/
def catP : Nat → Int
  | 0 => 1
  | i + 1 => (catP i * 2 * (2 * i + 1)).tdiv (i + 2)
def conv (l : List Int) (k : Nat) : Nat → Int
  | 0 => 0
  | j + 1 => conv l k j + gI l j * gI l (k - 1 - j)
def catL : Nat → List Int
  | 0 => [1]
  | k + 1 => catL k ++ [conv (catL k) (k + 1) (k + 1)]
theorem catL_len : ∀ k, (catL k).length = k + 1
  | 0 => rfl
  | k + 1 => by simp [catL, catL_len k]
theorem catP_ok : ∀ i, i < 31 → 0 ≤ catP i ∧ catP i * 2 * (2 * i + 1) ≤ 1000000000000000000 := by decide +kernel
theorem catL_ok : ∀ n, n < 31 → gI (catL n) n = catP n := by decide +kernel
theorem conv_ok : ∀ k, k < 31 → ∀ j, j < 32 → 0 ≤ conv (catL k) (k + 1) j ∧ conv (catL k) (k + 1) j ≤ 1000000000000000000 := by decide +kernel
theorem prod_ok : ∀ k, k < 31 → ∀ j, j < 32 → 0 ≤ gI (catL k) j * gI (catL k) (k - j) ∧ gI (catL k) j * gI (catL k) (k - j) ≤ 1000000000000000000 := by decide +kernel

section
variable {rows : List Row}
theorem plans_loop {n : Nat} (hn : n ≤ 30) {H : List Row} {q : AV × List Row × Option Nat} (hq : q = (.tup [.int .i64 (catP n), .int .i64 0], rows, none)) : ∀ (d i : Nat), n - i = d → i ≤ n →
    Lc23l2 F (.fn [.t 2, .t 3]) (.int .i64 (catP i)) (.int .i64 n) (.int .i64 i) (rows ++ H) rows.length (fun r => fin rows r.1 r.2.1 r.2.2 = q) := by
  intro d
  induction d with
  | zero =>
    intro i hd h1
    have hi : i = n := by omega
    subst hi
    unfold Lc23l2
    simp [hq]
  | succ d ih =>
    intro i hd h1
    have hlt : i < n := by omega
    have b := catP_ok i (by omega)
    have b2 := catP_ok (i + 1) (by omega)
    have hm : 0 ≤ catP i * 2 * (2 * i + 1) := Int.mul_nonneg (by omega) (by omega)
    have w1 : IntKind.i64.wrap (catP i * 2) = catP i * 2 := wrap64 (by omega) (by
      have : catP i * 2 * 1 ≤ catP i * 2 * (2 * i + 1) := Int.mul_le_mul_of_nonneg_left (by omega) (by omega)
      omega)
    have w2 : IntKind.i64.wrap (2 * (i : Int)) = 2 * i := wrap64 (by omega) (by omega)
    have w3 : IntKind.i64.wrap (2 * (i : Int) + 1) = 2 * i + 1 := wrap64 (by omega) (by omega)
    have w4 : IntKind.i64.wrap (catP i * 2 * (2 * i + 1)) = catP i * 2 * (2 * i + 1) := wrap64 (by omega) (by omega)
    have w5 : IntKind.i64.wrap ((i : Int) + 2) = i + 2 := wrap64 (by omega) (by omega)
    have w6 : IntKind.i64.wrap ((catP i * 2 * (2 * i + 1)).tdiv (i + 2)) = catP (i + 1) := by
      show IntKind.i64.wrap (catP (i + 1)) = _
      refine wrap64 (by omega) ?_
      have : catP (i + 1) * 1 ≤ catP (i + 1) * (2 * (2 * ((i + 1 : Nat) : Int) + 1)) := Int.mul_le_mul_of_nonneg_left (by omega) (by omega)
      have e : catP (i + 1) * 2 * (2 * ((i + 1 : Nat) : Int) + 1) = catP (i + 1) * (2 * (2 * ((i + 1 : Nat) : Int) + 1)) := by rw [Int.mul_assoc]
      omega
    have w7 : IntKind.i64.wrap ((i : Int) + 1) = i + 1 := wrap64 (by omega) (by omega)
    unfold Lc23l2
    simp [hlt, w1, w2, w3, w4, w5, w6, w7, show ¬ ((i : Int) + 2 = 0) from by omega]
    have := ih (i + 1) (by omega) (by omega)
    simpa using this

/-- search.CountPlans. -/
theorem CountPlans_ret {n : Int} : Ret F 23 [.int .i64 n] rows = some (if 0 ≤ n ∧ n ≤ 30 then .tup [.int .i64 (catP n.toNat), .int .i64 0] else .tup [.int .i64 0, .int .i64 1], rows, none) := by
  refine i23 F23 ?_
  by_cases h : 0 ≤ n ∧ n ≤ 30
  · rw [if_pos h]
    have hl := plans_loop (rows := rows) (n := n.toNat) (by omega) (H := [.cells [.int .i64 n]]) rfl _ 0 rfl (by omega)
    rw [show ((n.toNat : Nat) : Int) = n from by omega] at hl
    simp [fillA, splice, are_one, h]
    simpa [catP] using hl
  · rw [if_neg h]
    simp [fillA, splice, are_one, h]

set_option maxHeartbeats 4000000 in
theorem rplans_in {k : Nat} (hk : k < 30) {n : Int} {c : Cap} {H : List Row} {r : AV × List Row × Nat → Prop} (hc : c = .at_ (k + 1) ∨ c = .op 1) (h : ∀ H, Lc24l2 F (.fn [.t 2]) (.int .i64 n) (.slice (rows.length + H.length) 0 (k + 2) (.op 1)) (.int .i64 (k + 2)) (rows ++ (H ++ [.cells (nums .i64 (catL (k + 1)))])) rows.length r) : ∀ (d j : Nat), k + 1 - j = d → j ≤ k + 1 →
    Lc24l5 F (.fn [.t 2]) (.int .i64 n) (.slice (rows.length + H.length) 0 (k + 1) c) (.int .i64 (k + 1)) (.int .i64 (conv (catL k) (k + 1) j)) (.int .i64 j) (rows ++ (H ++ [.cells (nums .i64 (catL k))])) rows.length r := by
  intro d
  induction d with
  | zero =>
    intro j hd h1
    have hj : j = k + 1 := by omega
    subst hj
    have happ := app_own (rows := rows) (H := H) (kd := .i64) (l := catL k) (x := conv (catL k) (k + 1) (k + 1)) (c := c) (low := rows.length) (b := 8) (n := k + 1) (m := 1) (by rw [catL_len]) rfl (by rw [catL_len]; exact hc) (Nat.le_refl _) (by rw [catL_len]; omega)
    rw [catL_len] at happ
    have w7 : IntKind.i64.wrap ((k : Int) + 1 + 1) = k + 2 := by rw [wrap64 (by omega) (by omega)]; omega
    unfold Lc24l5
    simp [fillA, splice, happ, w7, show ¬ ((k : Int) + 1 < k + 1) from by omega]
    have := h (appH c H .i64 (catL k) (conv (catL k) (k + 1) (k + 1)))
    simpa [catL] using this
  | succ d ih =>
    intro j hd h1
    have hlt : j < k + 1 := by omega
    have b1 := conv_ok k (by omega) (j + 1) (by omega)
    have b2 := prod_ok k (by omega) j (by omega)
    have l1 := catL_len k
    have w1 : IntKind.i64.wrap (k : Int) = k := wrap64 (by omega) (by omega)
    have w2 : IntKind.i64.wrap ((k : Int) - j) = ((k - j : Nat) : Int) := by rw [wrap64 (by omega) (by omega)]; omega
    have w3 : IntKind.i64.wrap (gI (catL k) j * gI (catL k) (k - j)) = gI (catL k) j * gI (catL k) (k - j) := wrap64 (by omega) (by omega)
    have w4 : IntKind.i64.wrap (conv (catL k) (k + 1) j + gI (catL k) j * gI (catL k) (k - j)) = conv (catL k) (k + 1) (j + 1) := by
      show IntKind.i64.wrap (conv (catL k) (k + 1) (j + 1)) = _
      exact wrap64 (by omega) (by omega)
    have w5 : IntKind.i64.wrap ((j : Int) + 1) = j + 1 := wrap64 (by omega) (by omega)
    have g1 : (nums .i64 (catL k))[j]? = some (.int .i64 (gI (catL k) j)) := by rw [nums_get, gI_get (by omega)]; rfl
    have g2 : (nums .i64 (catL k))[k - j]? = some (.int .i64 (gI (catL k) (k - j))) := by rw [nums_get, gI_get (by omega)]; rfl
    have hr : ∀ (L : List Row), row? (rows ++ (H ++ .cells (nums .i64 (catL k)) :: L)) (rows.length + H.length) = some (nums .i64 (catL k)) := by
      intro L; unfold row?; simp
    unfold Lc24l5
    simp [-nums_get, hlt, w1, w2, w3, w4, w5, g1, g2, hr, show (j : Int) < (k : Int) + 1 from by omega, show k - j < k + 1 from by omega]
    have := ih (j + 1) (by omega) (by omega)
    simpa using this

theorem rplans_out {n : Nat} (hn : n ≤ 30) {q : AV × List Row × Option Nat} (hq : q = (.int .i64 (catP n), rows, none)) : ∀ (d k : Nat) (H : List Row) (c : Cap), n - k = d → k ≤ n → (c = .at_ (k + 1) ∨ c = .op 1) →
    Lc24l2 F (.fn [.t 2]) (.int .i64 n) (.slice (rows.length + H.length) 0 (k + 1) c) (.int .i64 (k + 1)) (rows ++ (H ++ [.cells (nums .i64 (catL k))])) rows.length (fun r => fin rows r.1 r.2.1 r.2.2 = q) := by
  intro d
  induction d with
  | zero =>
    intro k H c hd h1 hc
    have hk : k = n := by omega
    subst hk
    have g1 : (nums .i64 (catL k))[k]? = some (.int .i64 (catP k)) := by rw [nums_get, gI_get (by rw [catL_len]; omega), catL_ok k (by omega)]; rfl
    have hr : row? (rows ++ (H ++ [.cells (nums .i64 (catL k))])) (rows.length + H.length) = some (nums .i64 (catL k)) := by
      unfold row?; simp
    unfold Lc24l2
    simp [-nums_get, g1, hr, hq, show ¬ ((k : Int) + 1 ≤ k) from by omega]
  | succ d ih =>
    intro k H c hd h1 hc
    have hlt : k < n := by omega
    unfold Lc24l2
    simp [show (k : Int) + 1 ≤ n from by omega]
    have := rplans_in (rows := rows) (k := k) (by omega) (n := (n : Int)) (c := c) (H := H) (r := fun r => fin rows r.1 r.2.1 r.2.2 = q) hc (fun H => by
      have := ih (k + 1) H (.op 1) (by omega) (by omega) (.inr rfl)
      simpa [Int.add_assoc] using this) _ 0 rfl (by omega)
    simpa [conv] using this

/-- The document's number of plans. -/
theorem rCountPlans_ret {n : Int} (h : 0 ≤ n ∧ n ≤ 30) : Ret F 24 [.int .i64 n] rows = some (.int .i64 (catP n.toNat), rows, none) := by
  refine i24 F24 ?_
  have := rplans_out (rows := rows) (n := n.toNat) (by omega) rfl _ 0 [] (.at_ 1) rfl (by omega) (.inl rfl)
  rw [show ((n.toNat : Nat) : Int) = n from by omega] at this
  simp [fillA, splice]
  simpa [catL, nums] using this
end
end Go.Abs
