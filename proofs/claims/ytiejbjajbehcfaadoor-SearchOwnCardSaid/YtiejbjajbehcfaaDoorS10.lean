/- The gates that are opened for a piece. -/
import Derived.Test.YtiejbjajbehcfaaDoorS8
import Derived.Test.YtiejbjajbehcfaaDoorS9
set_option linter.unusedVariables false
set_option linter.unusedSimpArgs false
namespace Go.Abs
/-- The sum of the costs of gates. -/
def sumc (c : List Int) : List Int → Int
  | [] => 0
  | g :: l => gI c g.toNat + sumc c l
theorem sumc_app (c : List Int) : ∀ l m : List Int, sumc c (l ++ m) = sumc c l + sumc c m
  | [], m => by simp [sumc]
  | g :: l, m => by simp [sumc, sumc_app c l m]; omega
theorem rdP_node {τ : Type} (st : τ → Int → Int → Int → τ) {m : Nat} {a b g : Int} {l : List Int} {t : τ} (h : a ≤ g) (h2 : g < b) : rdP st (m + 1) a b (g :: l) t = match rdP st m a g l (st t g a b) with
    | (false, l', t') => (false, l', t')
    | (true, l', t') => rdP st m (g + 1) b l' t' := by
  have e : ¬ a = b := by omega
  have e2 : ¬ (g < a ∨ b ≤ g) := by omega
  simp [rdP, e, e2]
  rcases rdP st m a g l (st t g a b) with ⟨ok, l', t'⟩
  cases ok <;> rfl
theorem pl_path {c : List Int} {i : Nat} (hc : ∀ g : Nat, g < c.length → 0 ≤ gI c g ∧ gI c g ≤ 1000) : ∀ {a b : Int} {q : List Int}, Pl a b q → 0 ≤ a → b ≤ c.length → ∃ pa : List Int,
    (∀ (m : Nat) (rest t : List Int), b - a ≤ m → rdP (addA i) m a b (q ++ rest) t = (true, rest, t ++ pa)) ∧
    (∀ (m : Nat) (rest : List Int) (f : Nat → Int), b - a ≤ m → ∃ f', rdP (addP c) m a b (q ++ rest) f = (true, rest, f') ∧ (∀ j : Nat, (j : Int) < a ∨ b < j → f' j = f j) ∧ (0 ≤ f i → f i + 1000 * (b - a) ≤ 1000000000 → f' i = f i + sumc c pa ∧ f i ≤ f' i ∧ f' i ≤ f i + 1000 * (b - a))) ∧
    (¬ (a ≤ i ∧ (i : Int) ≤ b) → pa = []) ∧ (∀ g ∈ pa, a ≤ g ∧ g < b) ∧ pa.Nodup ∧ (pa.length : Int) ≤ b - a ∧
    (a ≤ i → (i : Int) ≤ b → ((i : Int) < b → (i : Int) ∈ pa) ∧ (a < i → (i : Int) - 1 ∈ pa) ∧ (a < b → pa ≠ [])) := by
  intro a b q h
  induction h with
  | nil a =>
    intro h0 hb
    refine ⟨[], ?_, ?_, fun _ => rfl, by simp, by simp, by simp, ?_⟩
    · intro m rest t hm
      cases m <;> simp [rdP]
    · intro m rest f hm
      refine ⟨f, ?_, fun _ _ => rfl, fun _ _ => ⟨by simp [sumc], by omega, by omega⟩⟩
      cases m <;> simp [rdP]
    · intro h1 h2
      refine ⟨fun h3 => by omega, fun h3 => by omega, fun h3 => by omega⟩
  | @node a b g L R h1 h2 hL hR ihL ihR =>
    intro h0 hb
    have hLle := hL.le
    have hRle := hR.le
    obtain ⟨pL, l1, l2, l3, l4, l5, l7, l6⟩ := ihL h0 (by omega)
    obtain ⟨pR, r1, r2, r3, r4, r5, r7, r6⟩ := ihR (by omega) hb
    have hcg := hc g.toNat (by omega)
    by_cases hi : a ≤ i ∧ (i : Int) ≤ b
    · refine ⟨g :: (pL ++ pR), ?_, ?_, fun e => absurd hi e, ?_, ?_, by simp; omega, ?_⟩
      · intro m rest t hm
        obtain ⟨m, rfl⟩ : ∃ k, m = k + 1 := ⟨m - 1, by omega⟩
        rw [List.cons_append, rdP_node _ h1 h2, List.append_assoc, l1 m _ _ (by omega)]
        simp only
        rw [r1 m _ _ (by omega)]
        simp [addA, hi]
      · intro m rest f hm
        obtain ⟨m, rfl⟩ : ∃ k, m = k + 1 := ⟨m - 1, by omega⟩
        obtain ⟨f2, e2, o2, s2⟩ := l2 m (R ++ rest) (addP c f g a b) (by omega)
        obtain ⟨f3, e3, o3, s3⟩ := r2 m rest f2 (by omega)
        refine ⟨f3, ?_, ?_, ?_⟩
        · rw [List.cons_append, rdP_node _ h1 h2, List.append_assoc, e2]
          exact e3
        · intro j hj
          rw [o3 j (by omega), o2 j (by omega)]
          unfold addP
          rw [if_neg (by omega)]
        · intro p1 p2
          have ea : addP c f g a b i = f i + gI c g.toNat := by
            unfold addP
            rw [if_pos hi, wrap64 (by omega) (by omega)]
          rw [sumc, sumc_app]
          by_cases hig : (i : Int) ≤ g
          · have s := s2 (by rw [ea]; omega) (by rw [ea]; omega)
            have o := o3 i (by omega)
            rw [ea] at s
            rw [r3 (by omega), o]
            simp only [sumc]
            omega
          · have o := o2 i (by omega)
            rw [ea] at o
            have s := s3 (by rw [o]; omega) (by rw [o]; omega)
            rw [o] at s
            rw [l3 (by omega)]
            simp only [sumc]
            omega
      · intro x hx
        rw [List.mem_cons, List.mem_append] at hx
        rcases hx with rfl | hx | hx
        · omega
        · have := l4 x hx; omega
        · have := r4 x hx; omega
      · rw [List.nodup_cons]
        refine ⟨?_, ?_⟩
        · rw [List.mem_append]
          rintro (hx | hx)
          · have := l4 _ hx; omega
          · have := r4 _ hx; omega
        · rw [List.nodup_append]
          refine ⟨l5, r5, ?_⟩
          intro x hx y hy e
          have := l4 _ hx
          have := r4 _ hy
          omega
      · intro _ _
        refine ⟨fun h3 => ?_, fun h3 => ?_, fun _ => by simp⟩
        · rw [List.mem_cons, List.mem_append]
          by_cases e : (i : Int) = g
          · exact .inl e
          · by_cases e2 : (i : Int) < g
            · exact .inr (.inl ((l6 (by omega) (by omega)).1 e2))
            · exact .inr (.inr ((r6 (by omega) (by omega)).1 h3))
        · rw [List.mem_cons, List.mem_append]
          by_cases e : (i : Int) - 1 = g
          · exact .inl e
          · by_cases e2 : (i : Int) ≤ g
            · exact .inr (.inl ((l6 (by omega) (by omega)).2.1 h3))
            · exact .inr (.inr ((r6 (by omega) (by omega)).2.1 (by omega)))
    · refine ⟨[], ?_, ?_, fun _ => rfl, by simp, by simp, by simp; omega, fun e1 e2 => absurd ⟨e1, e2⟩ hi⟩
      · intro m rest t hm
        obtain ⟨m, rfl⟩ : ∃ k, m = k + 1 := ⟨m - 1, by omega⟩
        rw [List.cons_append, rdP_node _ h1 h2, List.append_assoc, l1 m _ _ (by omega)]
        simp only
        rw [r1 m _ _ (by omega), l3 (by omega), r3 (by omega)]
        simp [addA, hi]
      · intro m rest f hm
        obtain ⟨m, rfl⟩ : ∃ k, m = k + 1 := ⟨m - 1, by omega⟩
        obtain ⟨f2, e2, o2, s2⟩ := l2 m (R ++ rest) (addP c f g a b) (by omega)
        obtain ⟨f3, e3, o3, s3⟩ := r2 m rest f2 (by omega)
        have hall : ∀ j : Nat, (j : Int) < a ∨ b < j → f3 j = f j := by
          intro j hj
          rw [o3 j (by omega), o2 j (by omega)]
          unfold addP
          rw [if_neg (by omega)]
        refine ⟨f3, ?_, hall, ?_⟩
        · rw [List.cons_append, rdP_node _ h1 h2, List.append_assoc, e2]
          exact e3
        · intro p1 p2
          rw [hall i (by omega)]
          simp only [sumc]
          omega
end Go.Abs
