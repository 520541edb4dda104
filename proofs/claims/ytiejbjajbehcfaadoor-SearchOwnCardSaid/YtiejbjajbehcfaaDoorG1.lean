/- The functions are those of the program; the tables of math/bits. -/
import Derived.Test.YtiejbjajbehcfaaDoorC6
import Derived.Test.YtiejbjajbehcfaaDoorM4
set_option linter.unusedVariables false
set_option linter.unusedSimpArgs false
namespace Go.Abs
open Go.Proofs Go.RowKit
theorem lookup_mem {α : Type} {n : Nat} {c : α} : ∀ {l : List (Nat × α)}, l.lookup n = some c → (n, c) ∈ l
  | [], h => by simp at h
  | (m, d) :: l, h => by
    rw [List.lookup_cons] at h
    split at h
    · rename_i e
      injection h with h
      subst h
      rw [beq_iff_eq] at e
      subst e
      exact List.mem_cons_self
    · exact List.mem_cons_of_mem _ (lookup_mem h)
theorem fnOK_F : FnOK Tryd.prog [0, 1] F := fun f fn h => okAll (f, fn) (lookup_mem h)
theorem fnOK_more {i : Nat} {c : IFn} (h : OKp (i, c)) : FnOK Tryd.prog [0, 1] (more F i c) := by
  intro f fn e
  unfold more at e
  by_cases e2 : f = i
  · rw [if_pos e2] at e
    have e3 := Option.some.inj e
    rw [← e3, e2]
    exact h
  · rw [if_neg e2] at e
    exact fnOK_F f fn e

/-- A call out of the evaluator's word: memory that was there is as it was. -/
theorem calls_below {G : Nat → Option IFn} (hG : FnOK Tryd.prog [0, 1] G) {f : Nat} {vs : List AV} {rows : List Row} (h : Ret G f vs rows = some (.bool true, rows, none)) {θ : Th} {w : World} {args : Array Value} (hr : HRel (KP Tryd.prog [0, 1]) θ rows w) (hg : GRel θ [0, 1]) (hv : VL θ vs args.toList) :
    Calls Tryd.prog f args w fun e w' => e = .returned (.bool true) ∧ Below w.heap.size w w' := by
  obtain ⟨n, hn⟩ := Ret_iff.1 h
  refine (call_sound hG (n := n) hn hr hg hv).mono ?_
  rintro e w' ⟨θ', v', rfl, hV, fr⟩
  cases hV
  refine ⟨rfl, fr.os, fr.tape, fr.output, fr.size, fun b hb => ?_⟩
  refine fr.keepB b hb fun id r L hr _ hle _ => ?_
  have := rows_lt hr
  simp only [lowO] at hle
  omega
end Go.Abs
