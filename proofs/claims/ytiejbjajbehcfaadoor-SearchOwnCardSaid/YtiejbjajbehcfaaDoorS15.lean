/- The statements' reference: what a plan opens, in plain terms. -/
import Derived.Test.YtiejbjajbehcfaaDoorS14
set_option linter.unusedVariables false
set_option linter.unusedSimpArgs false
namespace Go.Abs
open Rd (Cp IsL_one IsL_cells IsL_tail lowO_n)
/-- The reference's 'opened'. -/
def opn (p : List Int) : Nat → Nat → Int → Int → Option (List (List Int) × Nat)
  | m, at_, a, b =>
    if a = b then some ([[]], at_) else
    match m with
    | 0 => none
    | m + 1 =>
      if at_ < p.length ∧ a ≤ gI p at_ ∧ gI p at_ < b then
        match opn p m (at_ + 1) a (gI p at_) with
        | none => none
        | some (x, n1) =>
          match opn p m n1 (gI p at_ + 1) b with
          | none => none
          | some (y, n2) => some ((x ++ y).map (gI p at_ :: ·), n2)
      else none
theorem opn_len {p : List Int} : ∀ (m at_ : Nat) (a b : Int) (ls : List (List Int)) (n : Nat), opn p m at_ a b = some (ls, n) → a ≤ b → at_ ≤ p.length → at_ ≤ n ∧ n ≤ p.length ∧ (ls.length : Int) = b - a + 1 ∧ ∀ l ∈ ls, (l.length : Int) ≤ b - a ∧ ∀ g ∈ l, a ≤ g ∧ g < b := by
  intro m
  induction m with
  | zero =>
    intro at_ a b ls n h hab hat
    unfold opn at h
    by_cases he : a = b
    · subst he
      simp only [if_true, Option.some.injEq, Prod.mk.injEq] at h
      obtain ⟨rfl, rfl⟩ := h
      refine ⟨by omega, hat, by simp, fun l hl => ?_⟩
      simp only [List.mem_singleton] at hl
      subst hl
      simp
    · simp [he] at h
  | succ m ih =>
    intro at_ a b ls n h hab hat
    unfold opn at h
    by_cases he : a = b
    · subst he
      simp only [if_true, Option.some.injEq, Prod.mk.injEq] at h
      obtain ⟨rfl, rfl⟩ := h
      refine ⟨by omega, hat, by simp, fun l hl => ?_⟩
      simp only [List.mem_singleton] at hl
      subst hl
      simp
    · simp only [he, if_false] at h
      split at h
      · rename_i hc
        cases hx : opn p m (at_ + 1) a (gI p at_) with
        | none => simp [hx] at h
        | some q1 =>
          obtain ⟨x, n1⟩ := q1
          simp only [hx] at h
          cases hy : opn p m n1 (gI p at_ + 1) b with
          | none => simp [hy] at h
          | some q2 =>
            obtain ⟨y, n2⟩ := q2
            simp only [hy, Option.some.injEq, Prod.mk.injEq] at h
            obtain ⟨rfl, rfl⟩ := h
            have i1 := ih _ _ _ _ _ hx hc.2.1 (by omega)
            have i2 := ih _ _ _ _ _ hy (by omega) i1.2.1
            refine ⟨by omega, i2.2.1, by simp; omega, fun l hl => ?_⟩
            obtain ⟨l', hl', rfl⟩ := List.mem_map.1 hl
            rcases List.mem_append.1 hl' with hl' | hl'
            · have := i1.2.2.2 l' hl'
              refine ⟨by simp; omega, fun g hg => ?_⟩
              rcases List.mem_cons.1 hg with rfl | hg
              · exact ⟨by omega, by omega⟩
              · have := this.2 g hg; omega
            · have := i2.2.2.2 l' hl'
              refine ⟨by simp; omega, fun g hg => ?_⟩
              rcases List.mem_cons.1 hg with rfl | hg
              · exact ⟨by omega, by omega⟩
              · have := this.2 g hg; omega
      · simp at h
end Go.Abs
