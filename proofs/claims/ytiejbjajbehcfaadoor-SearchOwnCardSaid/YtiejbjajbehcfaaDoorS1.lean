/- search.steps. -/
import Derived.Test.YtiejbjajbehcfaaDoorC6
import Derived.Test.YtiejbjajbehcfaaDoorU1
import Derived.Test.YtiejbjajbehcfaaDoorM4
set_option linter.unusedVariables false
set_option linter.unusedSimpArgs false
namespace Go.Abs
/-- A list by its places. -/
def tab (n : Nat) (f : Nat → Int) : List Int := (List.range n).map f
@[simp] theorem tab_len {n : Nat} {f : Nat → Int} : (tab n f).length = n := by simp [tab]
@[simp] theorem tab_get? {n : Nat} {f : Nat → Int} {i : Nat} : (tab n f)[i]? = if i < n then some (f i) else none := by
  by_cases h : i < n <;> simp [tab, h]
@[simp] theorem tab_getE {n : Nat} {f : Nat → Int} {i : Nat} (h : i < (tab n f).length) : (tab n f)[i] = f i := by simp [tab]
theorem tab_get {n : Nat} {f : Nat → Int} {i : Nat} (h : i < n) : (tab n f)[i]? = some (f i) := by simp [tab, h]
theorem tab_set {n : Nat} {f : Nat → Int} {i : Nat} {v : Int} : (tab n f).set i v = tab n (fun k => if k = i then v else f k) := by
  apply List.ext_getElem?
  intro j
  simp only [tab, List.getElem?_set, List.getElem?_map, List.length_map, List.length_range]
  by_cases h : i = j
  · subst h
    by_cases hi : i < n <;> simp [hi]
  · rw [if_neg h]
    by_cases hj : j < n
    · have e : j ≠ i := fun e => h e.symm
      simp [List.getElem?_range hj, e]
    · simp [hj]
theorem tab_congr {n : Nat} {f g : Nat → Int} (h : ∀ i, i < n → f i = g i) : tab n f = tab n g := by
  unfold tab; exact List.map_congr_left fun i hi => h i (by simpa using hi)

/-- The greatest number of steps. -/
def stp : Nat → Nat → Int
  | 0, _ => 0
  | _ + 1, 0 => 0
  | k + 1, i + 1 => stp k i + 1 + stp (k + 1) i
theorem stp_0 (k : Nat) : stp k 0 = 0 := by cases k <;> rfl
theorem stp_lo : ∀ (k i : Nat), 0 ≤ stp k i
  | 0, _ => by simp [stp]
  | _ + 1, 0 => by simp [stp]
  | k + 1, i + 1 => by
    have := stp_lo k i
    have := stp_lo (k + 1) i
    simp only [stp]; omega
theorem stp_hi : ∀ (k i : Nat), stp k i ≤ 2 ^ i - 1
  | 0, i => by simp [stp]; exact Int.pow_pos (by omega)
  | _ + 1, 0 => by simp [stp]
  | k + 1, i + 1 => by
    have := stp_hi k i
    have := stp_hi (k + 1) i
    simp only [stp]
    have : (2 : Int) ^ (i + 1) = 2 ^ i * 2 := by rw [Int.pow_succ]
    omega
def stpRow (c i : Nat) (k : Nat) : Int := if k ≤ c then stp k i else 0
theorem stpRow_ok {c i : Nat} (hi : i ≤ 59) (k : Nat) : -1000000000000000000 ≤ stpRow c i k ∧ stpRow c i k ≤ 2000000000000000000 := by
  unfold stpRow
  split
  · have h1 := stp_lo k i
    have h2 := stp_hi k i
    have h3 : (2 : Int) ^ i ≤ 2 ^ 59 := by
      have : (2 : Nat) ^ i ≤ 2 ^ 59 := Nat.pow_le_pow_right (by omega) hi
      exact_mod_cast this
    have : (2 : Int) ^ 59 = 576460752303423488 := by rfl
    omega
  · omega


section
variable {cx : Ctx} {rows : List Row} {low : Nat} {r : AV × List Row × Nat → Prop}
set_option maxHeartbeats 2000000 in
theorem steps_in {c i : Nat} (hc : c ≤ 20) (hi : i ≤ 60) {A : Nat → Int} (hA : ∀ i, -1000000000000000000 ≤ A i ∧ A i ≤ 2000000000000000000) {x8 : AV} : ∀ (n : Nat) (j : Nat) (B : Nat → Int) (H : List Row), c + 1 - j = n → 1 ≤ j → j ≤ c + 1 →
    (∀ H, Lc56l2 F cx (.int .i64 c) (.ptr rows.length 0) x8 (.int .i64 (i + 1)) (rows ++ .cells (nums .i64 (tab 21 fun i => if j ≤ i ∧ i ≤ c then A (i - 1) + 1 + A i else B i)) :: H) rows.length r) →
    Lc56l5 F cx (.int .i64 c) (.ptr rows.length 0) (.ptr (rows.length + (H.length + 1)) 0) (.int .i64 j) x8 (.int .i64 i) (rows ++ .cells (nums .i64 (tab 21 A)) :: (H ++ [.cells (nums .i64 (tab 21 B))])) rows.length r := by
  intro n
  induction n with
  | zero =>
    intro j B H hn h1 h2 h
    have hj : j = c + 1 := by omega
    subst hj
    have hB : (tab 21 fun i => if c + 1 ≤ i ∧ i ≤ c then A (i - 1) + 1 + A i else B i) = tab 21 B := tab_congr fun i _ => by rw [if_neg (by omega)]
    rw [hB] at h
    have hd : ¬ ((c : Int) + 1 ≤ c) := by omega
    unfold Lc56l5
    simp (disch := first | omega | (simp; done) | fail) [hd, nums_all, wrap64, splice_all]
    exact h _
  | succ n ih =>
    intro j B H hn h1 h2 h
    have hd : (j : Int) ≤ c := by omega
    have b1 := hA (j - 1)
    have b2 := hA j
    have i1 : idx? ((j : Int) - 1) 21 = some (j - 1) := by rw [idx?_ok (by omega) (by omega)]; congr 1; omega
    have hlt : j < 21 := by omega
    have hlt1 : j - 1 < 21 := by omega
    unfold Lc56l5
    simp (disch := first | omega | (simp; done) | fail) [hd, nums_all, wrap64, splice_all, i1, hlt, hlt1]
    have hB : (tab 21 fun i => if j + 1 ≤ i ∧ i ≤ c then A (i - 1) + 1 + A i else if i = j then A (j - 1) + 1 + A j else B i) = tab 21 fun i => if j ≤ i ∧ i ≤ c then A (i - 1) + 1 + A i else B i := tab_congr fun i _ => by
      by_cases e : i = j
      · subst e; rw [if_neg (by omega), if_pos rfl, if_pos (by omega)]
      · rw [if_neg e]
        by_cases e2 : j + 1 ≤ i ∧ i ≤ c
        · rw [if_pos e2, if_pos (by omega)]
        · rw [if_neg e2, if_neg (by omega)]
    rw [tab_set]
    refine ih (j + 1) _ H (by omega) (by omega) (by omega) ?_
    rw [hB]
    exact h

theorem steps_out {c t : Nat} (hc : c ≤ 20) (ht : t ≤ 60) {q : AV × List Row × Option Nat} (hq : q = (.int .i64 (stp c t), rows, none)) : ∀ (n i : Nat) (H : List Row), t - i = n → i ≤ t →
    Lc56l2 F (.fn [.t 4]) (.int .i64 c) (.ptr rows.length 0) (.int .i64 t) (.int .i64 i) (rows ++ .cells (nums .i64 (tab 21 (stpRow c i))) :: H) rows.length (fun r => fin rows r.1 r.2.1 r.2.2 = q) := by
  intro n
  induction n with
  | zero =>
    intro i H hn h1
    have hj : i = t := by omega
    subst hj
    unfold Lc56l2
    simp (disch := first | omega | (simp; done) | fail) [show c < 21 from by omega, hq, stpRow]
  | succ n ih =>
    intro i H hn h1
    have hd : (i : Int) < t := by omega
    unfold Lc56l2
    simp (disch := first | omega | (simp; done) | fail) [hd, nums_all, splice_all, nums_rep]
    have e1 : ∀ H, Lc56l2 F (.fn [.t 4]) (.int .i64 c) (.ptr rows.length 0) (.int .i64 t) (.int .i64 (i + 1)) (rows ++ .cells (nums .i64 (tab 21 fun j => if 1 ≤ j ∧ j ≤ c then stpRow c i (j - 1) + 1 + stpRow c i j else stpRow c i j)) :: H) rows.length (fun r => fin rows r.1 r.2.1 r.2.2 = q) := by
      intro H
      have e1 : (tab 21 fun j => if 1 ≤ j ∧ j ≤ c then stpRow c i (j - 1) + 1 + stpRow c i j else stpRow c i j) = tab 21 (stpRow c (i + 1)) := tab_congr fun j _ => by
        unfold stpRow
        by_cases e : 1 ≤ j ∧ j ≤ c
        · obtain ⟨q, rfl⟩ : ∃ q, j = q + 1 := ⟨j - 1, by omega⟩
          rw [if_pos e, if_pos (by omega), if_pos (by omega), if_pos (by omega)]
          simp [stp]
        · rw [if_neg e]
          by_cases e2 : j ≤ c
          · have : j = 0 := by omega
            subst this
            simp [stp]
          · rw [if_neg e2, if_neg e2]
      rw [e1]
      exact ih (i + 1) H (by omega) (by omega)
    exact steps_in hc (by omega) (stpRow_ok (by omega)) _ 1 _ H rfl (by omega) (by omega) e1

theorem steps_ret {c t : Nat} (hc : c ≤ 20) (ht : t ≤ 60) : Ret F 56 [.int .i64 c, .int .i64 t] rows = some (.int .i64 (stp c t), rows, none) := by
  refine i56 F56 ?_
  have e0 : tab 21 (stpRow c 0) = List.replicate 21 0 := by
    rw [tab_congr (g := fun _ => 0) fun i _ => by simp [stpRow, stp_0]]
    rfl
  have h := steps_out (rows := rows) hc ht rfl _ 0 [] rfl (by omega)
  rw [e0] at h
  simp [nums_rep, -List.reduceReplicate]
  exact h
end
end Go.Abs
