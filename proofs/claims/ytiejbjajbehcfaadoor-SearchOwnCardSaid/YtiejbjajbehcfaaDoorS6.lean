/- search: read. -/
import Derived.Test.YtiejbjajbehcfaaDoorS5
set_option linter.unusedVariables false
set_option linter.unusedSimpArgs false
namespace Go.Abs
namespace Rd
variable {τ σ : Type} {D : Rd τ σ}
theorem IsL_cells {rows : List Row} {v : AV} {l : List Int} (h : IsL rows v l) : v.cells = [v] := by
  rcases El_cases h with ⟨rfl, _, _⟩ | ⟨id, off, c, vs, rfl, _, _⟩ <;> rfl
set_option maxHeartbeats 4000000 in
/-- search.read. -/
theorem read_ret (h : D.OK) {n : Nat} (hn : n ≤ D.nb) {l : List Int} {t : τ} {s : σ} {pv : AV} (hl : IsL D.R0 pv l) (hc : Cp 1 pv) (hP : D.P t s (D.R0 ++ D.E s)) (hB : D.B t n) :
    ∃ s' G' d, Ret F 62 [pv, pt 0 n, .func D.fid D.cs] (D.R0 ++ D.E s) = some (.bool ((rdP D.st n 0 n l t).1 && (rdP D.st n 0 n l t).2.1.isEmpty), D.R0 ++ D.E s' ++ G', d) ∧ D.P (rdP D.st n 0 n l t).2.2 s' (D.R0 ++ D.E s' ++ G') ∧ ((d = none ∧ D.E s' = D.E s ∧ G' = []) ∨ ∃ lw, d = some lw ∧ D.lo ≤ lw ∧ lw ≤ D.A ∧ (lw ≤ D.R0.length ∨ s' = s)) := by
  have hone := IsL_one hl
  have hcell := IsL_cells hl
  have hlen := lenE h s
  have hP0 : D.P t s (D.H s pv (pt 0 n) []) := h.app t s _ (D.Q pv (pt 0 n) ++ []) hP
  obtain ⟨_, s', pv', G', d, hr, hl', hc', hP', hF, hd⟩ := next_ret h n 0 n l t s pv (pt 0 n) [] 0 (by simpa using hB) (by omega) (by omega) (by omega) (by omega) hl hc hP0
  have hL := low_step (s := s) ⟨(by have := h.loR; unfold A; omega : D.lo ≤ D.A), Nat.le_refl D.A, .inr rfl⟩ hd
  have e0 : D.H s pv (pt 0 n) [] = (D.R0 ++ D.E s) ++ [.cells [pv], .cells [.int .i64 0, .int .i64 n], .cells [.func D.fid D.cs], .cells [.func 89 [.ptr D.A 0, .ptr (D.A + 2) 0, .ptr (D.A + 3) 0]]] := by simp [H, Q]
  have hpl := H_plan h s' pv' (pt 0 n) G'
  have hpv : ∀ L, IsL (D.H s' pv' (pt 0 n) G' ++ L) pv' (rdP D.st n 0 n l t).2.1 := fun L => by
    have : D.H s' pv' (pt 0 n) G' ++ L = D.R0 ++ (D.E s' ++ (D.Q pv' (pt 0 n) ++ G') ++ L) := by simp [H]
    rw [this]
    exact IsL_app hl' _
  have hpv0 := lenL0 (v := pv') (l := (rdP D.st n 0 n l t).2.1) (by simpa using hpv [])
  have hend : ∀ b : Bool, ∃ s'' G'' d', fin (D.R0 ++ D.E s) (.bool b) (D.H s' pv' (pt 0 n) G') (lowO D.A d) = (.bool b, D.R0 ++ D.E s'' ++ G'', d') ∧ D.P (rdP D.st n 0 n l t).2.2 s'' (D.R0 ++ D.E s'' ++ G'') ∧ ((d' = none ∧ D.E s'' = D.E s ∧ G'' = []) ∨ ∃ lw, d' = some lw ∧ D.lo ≤ lw ∧ lw ≤ D.A ∧ (lw ≤ D.R0.length ∨ s'' = s)) := by
    intro b
    have htk : (D.H s' pv' (pt 0 n) G').take D.A = D.R0 ++ D.E s' := by
      unfold H
      rw [List.take_append_of_le_length (by rw [lenE h]; exact Nat.le_refl _), List.take_of_length_le (by rw [lenE h]; exact Nat.le_refl _)]
    have hPt : (D.E s').all (Row.under D.A) = true → D.P (rdP D.st n 0 n l t).2.2 s' (D.R0 ++ D.E s') := fun hu => by
      rw [← htk]
      exact h.take _ _ _ _ hP' (by rw [H_len h]; omega) hu
    have hs0 : s' = s → (D.E s').all (Row.under D.A) = true := fun e => by
      subst e
      have := h.low t s' _ hP
      rwa [hlen] at this
    by_cases hlow : lowO D.A d = D.A
    · have hE : D.E s' = D.E s ∧ (D.E s').all (Row.under D.A) = true := by
        rcases hL.2.2 with e | e
        · rw [hlow] at e
          have e2 : D.eN = 0 := by unfold A at e; omega
          have e3 : ∀ s, D.E s = [] := fun s => List.eq_nil_of_length_eq_zero (by rw [h.len, e2])
          rw [e3, e3]
          exact ⟨rfl, rfl⟩
        · exact ⟨by rw [e], hs0 e⟩
      refine ⟨s', [], none, ?_, ?_, .inl ⟨rfl, hE.1, rfl⟩⟩
      · have e1 : lowO D.A d = (D.R0 ++ D.E s).length := by rw [hlow, hlen]
        rw [e1, fin_val (by simp), List.append_nil, hE.1]
      · rw [List.append_nil]; exact hPt hE.2
    · have e1 : lowO D.A d ≠ (D.R0 ++ D.E s).length := by rw [hlen]; exact hlow
      rcases gc_cases (D.R0 ++ D.E s).length (lowO D.A d) (.bool b) (D.H s' pv' (pt 0 n) G') with e | ⟨e, hu⟩
      · refine ⟨s', D.Q pv' (pt 0 n) ++ G', some (lowO D.A d), ?_, hP', .inr ⟨_, rfl, hL⟩⟩
        rw [fin_lt e1, e]
        rfl
      · refine ⟨s', [], some (lowO D.A d), ?_, ?_, .inr ⟨_, rfl, hL⟩⟩
        · rw [fin_lt e1, e, hlen, htk, List.append_nil]
        · rw [List.append_nil]
          refine hPt ?_
          rcases hL.2.2 with e2 | e2
          · rw [hlen, htk] at hu
            rw [List.drop_append_of_le_length e2, List.all_append, Bool.and_eq_true] at hu
            exact hu.2
          · exact hs0 e2
  have hA1 : D.A + 1 = (D.R0 ++ D.E s).length + 1 := by rw [hlen]
  rw [e0] at hr
  generalize hR : D.R0 ++ D.E s = R at *
  have hAl : D.A = R.length := hlen.symm
  rw [hAl] at hr hpl hend
  obtain ⟨s'', G'', d', ef, eP, eD⟩ := hend ((rdP D.st n 0 n l t).1 && (rdP D.st n 0 n l t).2.1.isEmpty)
  refine ⟨s'', G'', d', ?_, eP, by rw [hAl]; exact eD⟩
  refine i62 F62 ?_
  generalize rdP D.st n 0 n l t = r1 at *
  obtain ⟨ok, l1, t1⟩ := r1
  simp only at *
  cases ok with
  | false =>
    simp (disch := first | omega | (simp; done) | fail) [-lowO, lowO_n, seg, hone, hcell, hr, Nat.add_assoc]
    simpa [-lowO] using ef
  | true =>
    simp (disch := first | omega | (simp; done) | fail) [-lowO, lowO_n, seg, hone, hcell, hr, Nat.add_assoc, hpl, hpv0]
    cases l1 with
    | nil => simpa [-lowO] using ef
    | cons a b => 
      have : ¬ ((b.length : Int) + 1 = 0) := by omega
      simpa [-lowO, this] using ef
end Rd
end Go.Abs
