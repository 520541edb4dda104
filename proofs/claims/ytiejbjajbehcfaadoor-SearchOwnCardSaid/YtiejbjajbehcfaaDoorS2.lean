/- search: the ranges of numbers, and slices.ContainsFunc. -/
import Derived.Test.YtiejbjajbehcfaaDoorS1
import Derived.Test.YtiejbjajbehcfaaDoorM4
set_option linter.unusedVariables false
set_option linter.unusedSimpArgs false
namespace Go.Abs
section
variable {cx : Ctx} {rows : List Row} {low : Nat} {r : AV × List Row × Nat → Prop}

theorem idx_loop {v : AV} {l : List Int} (h : IsL rows v l) (hl : l.length < 4611686018427387904) {fid : Nat} {cs : List AV} {p : Int → Bool} (hp : ∀ x ∈ l, Ret F fid (.int .i64 x :: cs) rows = some (.bool (p x), rows, none)) {q : AV × List Row × Option Nat} (hq : q = (.int .i64 (match l.findIdx? p with | some i => (i : Int) | none => -1), rows, none)) : ∀ (n i : Nat), l.length - i = n → i ≤ l.length → (∀ j, j < i → p (gI l j) = false) →
    Lc96l2 F (.fn [.t 4]) v (.func fid cs) (.int .i64 l.length) (.int .i64 i) rows rows.length (fun r => fin rows r.1 r.2.1 r.2.2 = q) := by
  intro n
  induction n with
  | zero =>
    intro i hn h1 hf
    have hi : i = l.length := by omega
    subst hi
    have hnone : l.findIdx? p = none := by
      rw [List.findIdx?_eq_none_iff]
      intro x hx
      obtain ⟨j, hj, rfl⟩ := List.mem_iff_getElem.1 hx
      have := hf j hj
      rwa [gI_eq hj] at this
    unfold Lc96l2
    simp [hq, hnone]
  | succ n ih =>
    intro i hn h1 hf
    have hi : i < l.length := by omega
    have hr := hp (gI l i) (gI_mem hi)
    unfold Lc96l2
    simp (disch := first | omega | (simp; done) | fail) [hi, idxL0 h, loadL0 h, hr]
    cases hpi : p (gI l i) with
    | true =>
      have hsome : l.findIdx? p = some i := by
        rw [List.findIdx?_eq_some_iff_getElem]
        refine ⟨hi, ?_, ?_⟩
        · rwa [gI_eq hi] at hpi
        · intro j hj
          have := hf j hj
          rw [gI_eq (by omega)] at this
          simpa using this
      simp [hq, hsome]
    | false =>
      simp (disch := first | omega | (simp; done) | fail) [wrap64]
      refine ih (i + 1) (by omega) (by omega) fun j hj => ?_
      by_cases e : j = i
      · subst e; exact hpi
      · exact hf j (by omega)

theorem contains_ret {v : AV} {l : List Int} (h : IsL rows v l) (hl : l.length < 4611686018427387904) {fid : Nat} {cs : List AV} {p : Int → Bool} (hp : ∀ x ∈ l, Ret F fid (.int .i64 x :: cs) rows = some (.bool (p x), rows, none)) : Ret F 81 [v, .func fid cs] rows = some (.bool (l.any p), rows, none) := by
  have h96 : Ret F 96 [v, .func fid cs] rows = some (.int .i64 (match l.findIdx? p with | some i => (i : Int) | none => -1), rows, none) := by
    refine i96 F96 ?_
    simp [lenL0 h]
    exact idx_loop h hl hp rfl _ 0 rfl (by omega) (fun j hj => absurd hj (by omega))
  refine i81 F81 ?_
  simp [h96]
  cases e : l.findIdx? p with
  | none =>
    simp only
    rw [List.findIdx?_eq_none_iff] at e
    simp
    exact e
  | some i =>
    have hi := (List.findIdx?_eq_some_iff_getElem.1 e)
    obtain ⟨h1, h2, _⟩ := hi
    simp
    exact ⟨_, List.getElem_mem h1, h2⟩

theorem are1_ret {a b : Nat} {x lo hi : Int} (ha : row? rows a = some [.int .i64 lo]) (hb : row? rows b = some [.int .i64 hi]) : Ret F 82 [.int .i64 x, .ptr a 0, .ptr b 0] rows = some (.bool (decide (x < lo ∨ hi < x)), rows, none) := by
  refine i82 F82 ?_
  by_cases h : x < lo <;> simp [h, ha, hb]

theorem any_all {lo hi : Int} : ∀ (l : List Int), (l.any fun x => decide (x < lo ∨ hi < x)) = !(l.all fun x => decide (lo ≤ x ∧ x ≤ hi))
  | [] => rfl
  | x :: l => by
    rw [List.any_cons, List.all_cons, any_all l, Bool.not_and]
    congr 1
    by_cases h : lo ≤ x ∧ x ≤ hi
    · rw [decide_eq_false (by omega), decide_eq_true h]; rfl
    · rw [decide_eq_true (by omega), decide_eq_false h]; rfl
/-- are: all numbers are in a range. -/
theorem are_ret {v : AV} {l : List Int} (h : IsL rows v l) (hl : l.length < 4611686018427387904) {lo hi : Int} : Ret F 55 [.int .i64 lo, .int .i64 hi, v] rows = some (.bool (l.all fun x => decide (lo ≤ x ∧ x ≤ hi)), rows, none) := by
  have hc := contains_ret (IsL_app h [.cells [.int .i64 lo], .cells [.int .i64 hi]]) hl (fid := 82) (cs := [.ptr rows.length 0, .ptr (rows.length + 1) 0]) (p := fun x => decide (x < lo ∨ hi < x)) (fun x _ => are1_ret (by simp) (by simp))
  refine i55 F55 ?_
  rw [show (l.any fun x => decide (x < lo ∨ hi < x)) = !(l.all fun x => decide (lo ≤ x ∧ x ≤ hi)) from any_all l] at hc
  simp [hc]

theorem are_one {a b x : Int} : Ret F 55 [.int .i64 a, .int .i64 b, .slice rows.length 0 1 (.at_ 1)] (rows ++ [.cells [.int .i64 x]]) = some (.bool (decide (a ≤ x ∧ x ≤ b)), rows ++ [.cells [.int .i64 x]], none) := by
  have h := are_ret (rows := rows ++ [.cells (nums .i64 [x])]) (v := .slice rows.length 0 1 (.at_ 1)) (l := [x]) (lo := a) (hi := b) (IsL_new (L := []) rfl) (by simp)
  simpa [nums] using h
theorem are_one1 {a b x : Int} {y : Row} : Ret F 55 [.int .i64 a, .int .i64 b, .slice (rows.length + 1) 0 1 (.at_ 1)] (rows ++ [y, .cells [.int .i64 x]]) = some (.bool (decide (a ≤ x ∧ x ≤ b)), rows ++ [y, .cells [.int .i64 x]], none) := by
  have := are_one (rows := rows ++ [y]) (a := a) (b := b) (x := x)
  simpa using this

/-- search.Steps. -/
theorem Steps_ret {c t : Int} : Ret F 16 [.int .i64 c, .int .i64 t] rows = some (if 0 ≤ c ∧ c ≤ 20 ∧ 0 ≤ t ∧ t ≤ 60 then .tup [.int .i64 (stp c.toNat t.toNat), .int .i64 0] else .tup [.int .i64 0, .int .i64 1], rows, none) := by
  refine i16 F16 ?_
  by_cases h : 0 ≤ c ∧ c ≤ 20
  · by_cases h2 : 0 ≤ t ∧ t ≤ 60
    · have hs := fun rows => steps_ret (rows := rows) (c := c.toNat) (t := t.toNat) (by omega) (by omega)
      rw [show (c.toNat : Int) = c from by omega, show (t.toNat : Int) = t from by omega] at hs
      simp [fillA, splice, are_one, are_one1, h, h2, hs]
    · rw [if_neg (by omega)]
      simp [fillA, splice, are_one, are_one1, h, h2]
  · rw [if_neg (by omega)]
    simp [fillA, splice, are_one, are_one1, h]
end
end Go.Abs
