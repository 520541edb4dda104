/- The statements' reference: opened, its loop. -/
import Derived.Test.YtiejbjajbehcfaaDoorS15
import Derived.Test.YtiejbjajbehcfaaDoorM5
set_option linter.unusedVariables false
set_option linter.unusedSimpArgs false
namespace Go.Abs
open Rd (Cp IsL_one IsL_cells IsL_tail lowO_n)
theorem IsL_set {R : List Row} {v : AV} {l : List Int} (h : IsL R v l) (hl : l ≠ []) {id : Nat} {vs : List AV} (hr : row? R id = some vs) (hv : ∀ x ∈ vs, ∀ k n, x ≠ .int k n) : IsL (R.set id .dead) v l := by
  rcases El_cases h with ⟨_, h0, _⟩ | ⟨id', off, c, us, rfl, hr', hs⟩
  · cases l with
    | nil => exact absurd rfl hl
    | cons x l => simp [nums] at h0
  · by_cases he : id' = id
    · subst he
      rw [hr] at hr'
      injection hr' with hr'
      subst hr'
      cases l with
      | nil => exact absurd rfl hl
      | cons x l =>
        exfalso
        have hm : AV.int .i64 x ∈ vs := by
          unfold seg at hs
          split at hs
          · injection hs with hs
            have : AV.int .i64 x ∈ (vs.drop off).take ((x :: l).length * 1) := by rw [hs]; simp [nums]
            exact List.mem_of_mem_drop (List.mem_of_mem_take this)
          · simp at hs
        exact hv _ hm _ _ rfl
    · have : row? (R.set id .dead) id' = some us := by
        unfold row? at hr' ⊢
        rw [List.getElem?_set_ne (fun e => he e.symm)]
        exact hr'
      exact IsL_mk (n := 0) this (by simpa using hs)
theorem IsL_under {R : List Row} {v : AV} {l : List Int} (h : IsL R v l) : v.under R.length = true := by
  rcases El_cases h with ⟨rfl, _, _⟩ | ⟨id', off, c, us, rfl, hr', hs⟩
  · rfl
  · have := row?_lt hr'
    simp [AV.under, this]
theorem IsL_slice {R : List Row} {v : AV} {l : List Int} (h : IsL R v l) (hl : l ≠ []) : ∀ k n, v ≠ .int k n := by
  rcases El_cases h with ⟨rfl, _, _⟩ | ⟨id', off, c, us, rfl, hr', hs⟩
  · intro k n e; cases e
  · intro k n e; cases e
/-- A list with one number ahead. -/
theorem row_app {R : List Row} {v : AV} {l : List Int} {g : Int} {low : Nat} (h : IsL R v l) (hl : l.length ≤ 1000) : ∃ rv H1, evE (R ++ [.cells [.int .i64 g]]) low (.app 1 8 (.c (.slice R.length 0 1 (.at_ 1))) (.c v)) = some (rv, R ++ H1, low) ∧ IsL (R ++ H1) rv (g :: l) ∧ H1.all (Row.under 0) = true := by
  have hrow : row? (R ++ [.cells [.int .i64 g]]) R.length = some [.int .i64 g] := by unfold row?; simp
  cases l with
  | nil =>
    refine ⟨.slice R.length 0 1 (.at_ 1), [.cells [.int .i64 g]], ?_, ?_, by simp [Row.under, AV.under]⟩
    · rw [app_0 (ys := nums .i64 []) (show El _ 1 v (nums .i64 []) 0 from IsL_app h _) (.inr ⟨_, _, _, _, rfl⟩)]
    · exact IsL_mk (n := 0) (l := [g]) hrow (by simp [seg, nums])
  | cons x l =>
    have hx : El (R ++ [.cells [.int .i64 g]]) 1 v (nums .i64 (x :: l)) (x :: l).length := IsL_app h _
    refine ⟨.slice (R.length + 1) 0 (1 + (x :: l).length) (.op 1), [.cells [.int .i64 g], .cells (nums .i64 (g :: x :: l))], ?_, ?_, by simp [Row.under, AV.under, nums]⟩
    · rw [app_at (n := 1) (xs := [.int .i64 g]) hrow (by simp [seg]) hx (by simp) (by simp [lim] at *; omega) (by simp)]
      simp [nums]
    · have : IsL (R ++ [.cells [.int .i64 g], .cells (nums .i64 (g :: x :: l))]) (.slice (R.length + 1) 0 (g :: x :: l).length (.op 1)) (g :: x :: l) :=
        IsL_mk (n := 0) (vs := nums .i64 (g :: x :: l)) (by unfold row?; simp) (seg_nums _)
      rwa [show (g :: x :: l).length = 1 + (x :: l).length from by simp; omega] at this
/-- The lists so far. -/
def Acc (B H : List Row) (ov : AV) (acc : List (List Int)) : Prop :=
  (acc = [] ∧ ov = .nilslice) ∨ ∃ j vs, ov = .slice (B.length + j) 0 acc.length (.op 1) ∧ H[j]? = some (.cells vs) ∧ vs.length = acc.length ∧ acc ≠ [] ∧ ∀ i, i < acc.length → IsL (B ++ H) (gA vs i) (gLL acc i) ∧ gLL acc i ≠ []
def Und (B H : List Row) : Prop := ∀ y ∈ H, y.under (B.length + H.length) = true
theorem und_mono {y : Row} {a b : Nat} (h : y.under a = true) (hab : a ≤ b) : y.under b = true := Sh.runder_mono hab h
theorem acc_step {B H H1 : List Row} {ov rv : AV} {acc : List (List Int)} {l : List Int} {low : Nat} (ha : Acc B H ov acc) (hu : Und B H) (hu1 : H1.all (Row.under 0) = true) (hrv : IsL (B ++ (H ++ H1)) rv l) (hl : l ≠ []) (hlow : low ≤ B.length) (hlen : acc.length ≤ 1000) :
    ∃ ov' H', evE (B ++ (H ++ H1) ++ [.cells [rv]]) low (.app 1 24 (.c ov) (.c (.slice (B ++ (H ++ H1)).length 0 1 (.at_ 1)))) = some (ov', B ++ H', low) ∧ Acc B H' ov' (acc ++ [l]) ∧ Und B H' := by
  have htmp : El (B ++ (H ++ H1) ++ [.cells [rv]]) 1 (.slice (B ++ (H ++ H1)).length 0 1 (.at_ 1)) [rv] 1 := by
    have : row? (B ++ (H ++ H1) ++ [.cells [rv]]) (B ++ (H ++ H1)).length = some [rv] := by unfold row?; simp
    unfold El elems
    simp only [this]
    rfl
  have hru := IsL_under hrv
  rcases ha with ⟨rfl, rfl⟩ | ⟨j, vs, rfl, hj, hvl, hne, hvs⟩
  · refine ⟨.slice (B.length + (H.length + H1.length + 1)) 0 1 (.op 1), H ++ H1 ++ [.cells [rv], .cells [rv]], ?_, .inr ⟨H.length + H1.length + 1, [rv], rfl, ?_, rfl, by simp, ?_⟩, ?_⟩
    · rw [app_nil htmp (by omega) (by simp [lim])]
      simp [Nat.add_assoc]
    · rw [List.getElem?_append_right (by simp <;> omega)]
      simp [show H.length + H1.length + 1 - (H.length + H1.length) = 1 from by omega]
    · intro i hi
      have : i = 0 := by simpa using hi
      subst this
      refine ⟨?_, hl⟩
      have := IsL_app hrv [.cells [rv], .cells [rv]]
      simpa [gA, gLL] using this
    · intro y hy
      simp only [List.mem_append, List.mem_cons, List.not_mem_nil, or_false] at hy
      rcases hy with (hy | hy) | hy
      · exact und_mono (hu y hy) (by simp <;> omega)
      · exact und_mono (List.all_eq_true.1 hu1 y hy) (by omega)
      · have hy : y = .cells [rv] := by rcases hy with h | h <;> exact h
        subst hy
        refine und_mono (a := (B ++ (H ++ H1)).length) ?_ (by simp)
        simp [Row.under, hru]
        simpa using hru
  · have hvi : ∀ x ∈ vs, ∀ k n, x ≠ .int k n := by
      intro x hx
      obtain ⟨i, hi⟩ := List.mem_iff_getElem?.1 hx
      have hi' : i < vs.length := (List.getElem?_eq_some_iff.1 hi).1
      have := hvs i (by omega)
      rw [gA_get hi'] at hi
      injection hi with hi
      rw [← hi]
      exact IsL_slice this.1 this.2
    have hjl : j < H.length := (List.getElem?_eq_some_iff.1 hj).1
    have hcell : cells? (B ++ (H ++ H1) ++ [.cells [rv]]) (B.length + j) = some vs := by
      unfold cells?
      rw [List.append_assoc, List.getElem?_append_right (by omega), Nat.add_sub_cancel_left, List.append_assoc, List.getElem?_append_left hjl, hj]
    have hrow : row? (B ++ (H ++ H1) ++ [.cells [rv]]) (B.length + j) = some vs := cells?_row hcell
    have hsv : seg vs 0 (acc.length * 1) = some vs := by
      unfold seg; rw [if_pos (by omega)]; simp [List.take_of_length_le, hvl]
    have hkeep : ∀ {v : AV} {q : List Int}, IsL (B ++ (H ++ H1)) v q → q ≠ [] → IsL (B ++ ((H ++ H1 ++ [Row.cells [rv]]).set j .dead ++ [.cells (vs ++ [rv])])) v q := by
      intro v q hq hq0
      have h1 := IsL_set (IsL_app hq [.cells [rv]]) hq0 hrow hvi
      have h2 := IsL_app h1 [.cells (vs ++ [rv])]
      have e : (B ++ (H ++ H1) ++ [Row.cells [rv]]).set (B.length + j) .dead ++ [.cells (vs ++ [rv])] = B ++ ((H ++ H1 ++ [Row.cells [rv]]).set j .dead ++ [.cells (vs ++ [rv])]) := by
        rw [List.append_assoc B, List.set_append_right _ _ (by omega), Nat.add_sub_cancel_left, List.append_assoc]
      rwa [e] at h2
    refine ⟨.slice (B.length + (H.length + H1.length + 1)) 0 (acc.length + 1) (.op 1), (H ++ H1 ++ [Row.cells [rv]]).set j .dead ++ [.cells (vs ++ [rv])], ?_, .inr ⟨H.length + H1.length + 1, vs ++ [rv], by simp, ?_, by simp [hvl], by simp, ?_⟩, ?_⟩
    · rw [app_op hcell hsv htmp (by omega) (by simp [lim]; omega), lower_ge (by omega)]
      rw [List.append_assoc B, List.set_append_right _ _ (by omega), Nat.add_sub_cancel_left]
      simp [Nat.add_assoc]
    · rw [List.getElem?_append_right (by simp <;> omega)]
      simp [Nat.add_assoc]
    · intro i hi
      simp only [List.length_append, List.length_singleton] at hi
      by_cases hi2 : i < acc.length
      · have h3 := hvs i hi2
        have e1 : gA (vs ++ [rv]) i = gA vs i := by simp [gA, List.getElem?_append_left (show i < vs.length by omega)]
        have e2 : gLL (acc ++ [l]) i = gLL acc i := by simp [gLL, List.getElem?_append_left hi2]
        rw [e1, e2]
        refine ⟨hkeep ?_ h3.2, h3.2⟩
        have := IsL_app h3.1 H1
        rwa [List.append_assoc] at this
      · have : i = acc.length := by omega
        subst this
        have e1 : gA (vs ++ [rv]) acc.length = rv := by simp [gA, ← hvl]
        have e2 : gLL (acc ++ [l]) acc.length = l := by simp [gLL]
        rw [e1, e2]
        exact ⟨hkeep hrv hl, hl⟩
    · have hvu : ∀ x ∈ vs, x.under (B.length + H.length) = true := by
        have := hu _ (List.mem_of_getElem? hj)
        simp only [Row.under, List.all_eq_true] at this
        exact this
      have hlenH : ((H ++ H1 ++ [Row.cells [rv]]).set j .dead ++ [Row.cells (vs ++ [rv])]).length = H.length + H1.length + 2 := by simp; omega
      intro y hy
      rw [hlenH]
      rcases List.mem_append.1 hy with hy | hy
      · rcases List.mem_or_eq_of_mem_set hy with hy | rfl
        · simp only [List.mem_append, List.mem_singleton] at hy
          rcases hy with (hy | hy) | rfl
          · exact und_mono (hu y hy) (by omega)
          · exact und_mono (List.all_eq_true.1 hu1 y hy) (by omega)
          · refine und_mono (a := (B ++ (H ++ H1)).length) ?_ (by simp <;> omega)
            simp [Row.under]
            simpa using hru
        · rfl
      · rw [List.mem_singleton] at hy
        subst hy
        simp only [Row.under, List.all_eq_true, List.mem_append, List.mem_singleton]
        rintro x (hx | rfl)
        · exact Sh.under_mono (by omega) (hvu x hx)
        · exact Sh.under_mono (b := (B ++ (H ++ H1)).length) (by simp <;> omega) hru
end Go.Abs
