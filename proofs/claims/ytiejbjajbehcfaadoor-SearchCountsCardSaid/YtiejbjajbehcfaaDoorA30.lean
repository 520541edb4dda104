/- More functions do no harm. -/
import Derived.Test.YtiejbjajbehcfaaDoorA29
set_option linter.unusedVariables false
set_option linter.unusedSimpArgs false
namespace Go.Abs
section
variable {F F' : Nat → Option IFn} (hF : ∀ n c, F n = some c → F' n = some c)
include hF in
theorem cF_ext {n : Nat} (h : ∀ cx k s r, exec F n cx k s = some r → exec F' n cx k s = some r) : LeC (cF F n) (cF F' n) := by
  intro f vs rows r e
  unfold cF callBy at e ⊢
  split at e
  · rename_i fn hfn
    rw [hF _ _ hfn]
    unfold callR at e
    split at e
    · rename_i hx
      simp only [h _ _ _ _ hx, callR]
      exact e
    · simp at e
  · simp at e

include hF in
theorem exec_ext : ∀ (n : Nat) (cx : Ctx) (k : List Itm) (s : St) (r : AV × List Row × Nat), exec F n cx k s = some r → exec F' n cx k s = some r := by
  intro n
  induction n with
  | zero => intro cx k s r h; simp [exec] at h
  | succ n ih =>
    intro cx k s r h
    have hc : LeC (cF F n) (cF F' n) := cF_ext hF ih
    cases k with
    | nil => simp only [exec] at h ⊢; exact h
    | cons x k =>
      cases x with
      | inBlock id => simp only [exec] at h ⊢; exact ih _ _ _ _ h
      | inScope c => simp only [exec] at h ⊢; exact ih _ _ _ _ h
      | inLoop c => simp only [exec, St.force_eq] at h; rw [exec, St.force_eq]; exact ih _ _ _ _ h
      | rfBegin =>
        simp only [exec] at h ⊢
        split at h
        · split at h
          · exact ih _ _ _ _ h
          · simp at h
        · simp at h
      | ops l =>
        cases l with
        | nil => simp only [exec] at h ⊢; exact ih _ _ _ _ h
        | cons sg l =>
          cases sg with
          | one o =>
            rw [exec] at h ⊢
            split at h
            · rename_i id vs hy
              split at h
              · split at h
                · rename_i hl
                  split at h
                  · rename_i hx
                    simp only [if_pos hl, ih _ _ _ _ hx]
                    exact ih _ _ _ _ h
                  · simp at h
                · simp at h
              · simp at h
            · split at h
              · rename_i hop
                rw [show opR (callBy F' (exec F' n)) s.sl s.rows s.low o = _ from opR_mono hc hop]
                exact ih _ _ _ _ h
              · simp at h
          | grp g =>
            rw [exec] at h ⊢
            split at h
            · rename_i hop
              rw [show evalG (callBy F' (exec F' n)) s.rows 0 g s.sl [] = _ from evalG_mono hc _ _ _ _ _ hop]
              exact ih _ _ _ _ h
            · simp at h
          | grpw a x z g =>
            rw [exec] at h ⊢
            split at h
            · rename_i hop
              rw [show evalG (callBy F' (exec F' n)) (s.rows.set (rowOf s.rows s.sl g a) .dead) 0 g s.sl [] = _ from evalG_mono hc _ _ _ _ _ hop]
              simp only
              split at h
              · exact ih _ _ _ _ h
              · simp at h
            · simp at h
          | stop => simp [exec] at h
      | code c =>
        cases c with
        | skip => simp only [exec] at h ⊢; exact ih _ _ _ _ h
        | ret => simp only [exec] at h ⊢; exact h
        | exit id =>
          simp only [exec] at h ⊢
          split at h
          · exact ih _ _ _ _ h
          · exact h
        | seq a b => rw [exec] at h ⊢; exact ih _ _ _ _ h
        | cond c a b =>
          rw [exec] at h ⊢
          split at h
          · exact ih _ _ _ _ h
          · simp at h
        | block id c => rw [exec] at h ⊢; exact ih _ _ _ _ h
        | loop c => rw [exec] at h ⊢; exact ih _ _ _ _ h
        | scope c => rw [exec] at h ⊢; exact ih _ _ _ _ h
        | ops l => simp only [exec, St.forceS_eq] at h ⊢; exact ih _ _ _ _ h
        | rf f ps a b =>
          rw [exec] at h ⊢
          split at h
          · rename_i hok
            rw [if_pos hok]
            split at h
            · split at h
              · rename_i hop
                rw [show callBy F' (exec F' n) _ _ _ = _ from hc _ _ _ _ hop]
                simp only
                split at h
                · exact ih _ _ _ _ h
                · simp at h
              · simp at h
            · simp at h
          · simp at h
        | kill l c => rw [exec] at h ⊢; exact ih _ _ _ _ h
        | stop => simp [exec] at h


include hF in
theorem Ret_ext {f : Nat} {vs : List AV} {rows : List Row} {q : AV × List Row × Option Nat} (h : Ret F f vs rows = some q) : Ret F' f vs rows = some q := by
  obtain ⟨n, h⟩ := Ret_iff.1 h
  exact Ret_of (cF_ext hF (exec_ext hF n) _ _ _ _ h)
end
/-- A table with one function more. -/
def more (F : Nat → Option IFn) (i : Nat) (c : IFn) (n : Nat) : Option IFn := if n = i then some c else F n
theorem more_ext {F : Nat → Option IFn} {i : Nat} {c : IFn} (h : F i = none) : ∀ n d, F n = some d → more F i c n = some d := by
  intro n d e
  unfold more
  rw [if_neg (fun e2 => by rw [e2, h] at e; simp at e)]
  exact e
theorem more_at {F : Nat → Option IFn} {i : Nat} {c : IFn} : more F i c i = some c := by simp [more]
end Go.Abs
