/- Reading a plan for prices, and what a plan opens: the same, in plain terms. -/
import Derived.Test.YtiejbjajbehcfaaDoorS18
import Derived.Test.YtiejbjajbehcfaaDoorS10
set_option linter.unusedVariables false
set_option linter.unusedSimpArgs false
namespace Go.Abs
theorem drop_eq {p : List Int} {k : Nat} (h : k < p.length) : p.drop k = gI p k :: p.drop (k + 1) := by
  rw [List.drop_eq_getElem_cons h, gI_eq h]
theorem gLL_map {ls : List (List Int)} {g : Int} {i : Nat} (h : i < ls.length) : gLL (ls.map (g :: ·)) i = g :: gLL ls i := by
  simp [gLL, h]
theorem gLL_app1 {x y : List (List Int)} {i : Nat} (h : i < x.length) : gLL (x ++ y) i = gLL x i := by
  simp [gLL, List.getElem?_append_left h]
theorem gLL_app2 {x y : List (List Int)} {i : Nat} (h : x.length ≤ i) : gLL (x ++ y) i = gLL y (i - x.length) := by
  simp [gLL, List.getElem?_append_right h]
theorem opn_rdP {p c : List Int} (hcs : ∀ x ∈ c, 0 ≤ x ∧ x ≤ 1000) : ∀ (m at_ : Nat) (a b : Int) (t : Nat → Int), 0 ≤ a → a ≤ b → at_ ≤ p.length → b - a ≤ m → (∀ i : Nat, a ≤ i → (i : Int) ≤ b → 0 ≤ t i ∧ t i ≤ 1000000 - 1000 * m) → m ≤ 100 →
    match opn p m at_ a b with
    | none => (rdP (addP c) m a b (p.drop at_) t).1 = false
    | some (ls, n) => ∃ t', rdP (addP c) m a b (p.drop at_) t = (true, p.drop n, t') ∧ ∀ i : Nat, t' i = if a ≤ i ∧ i ≤ b then t i + sumG c (gLL ls (i - a).toNat) else t i := by
  intro m
  have base : ∀ (at_ : Nat) (a : Int) (t : Nat → Int), 0 ≤ a → ∀ i : Nat, t i = if a ≤ (i : Int) ∧ (i : Int) ≤ a then t i + sumG c (gLL [[]] ((i : Int) - a).toNat) else t i := by
    intro at_ a t h0 i
    split
    · rw [show ((i : Int) - a).toNat = 0 from by omega]
      simp [gLL, sumG]
    · rfl
  induction m with
  | zero =>
    intro at_ a b t h0 h1 h2 h3 hb hm
    have : a = b := by omega
    subst this
    unfold opn
    simp only [if_true]
    exact ⟨t, rfl, base at_ a t h0⟩
  | succ m ih =>
    intro at_ a b t h0 h1 h2 h3 hb hm
    unfold opn
    by_cases he : a = b
    · subst he
      simp only [if_true]
      exact ⟨t, by simp [rdP], base at_ a t h0⟩
    · simp only [he, if_false]
      by_cases hc : at_ < p.length ∧ a ≤ gI p at_ ∧ gI p at_ < b
      · rw [if_pos hc]
        have hr : ∀ t, rdP (addP c) (m + 1) a b (p.drop at_) t = match rdP (addP c) m a (gI p at_) (p.drop (at_ + 1)) (addP c t (gI p at_) a b) with
          | (false, l', t') => (false, l', t')
          | (true, l', t') => rdP (addP c) m (gI p at_ + 1) b l' t' := by
          intro t
          rw [drop_eq hc.1]
          simp only [rdP, he, if_false]
          rw [if_neg (by omega)]
          rcases rdP (addP c) m a (gI p at_) (p.drop (at_ + 1)) (addP c t (gI p at_) a b) with ⟨z1, z2, z3⟩
          cases z1 <;> rfl
        have hc1 : 0 ≤ gI c (gI p at_).toNat ∧ gI c (gI p at_).toNat ≤ 1000 := by
          by_cases hk : (gI p at_).toNat < c.length
          · exact hcs _ (gI_mem hk)
          · have e0 : gI c (gI p at_).toNat = 0 := by
              unfold gI
              rw [List.getD_eq_getElem?_getD, List.getElem?_eq_none (by unfold gI at hk; omega)]; rfl
            rw [e0]; omega
        have hadd : ∀ i : Nat, a ≤ (i : Int) → (i : Int) ≤ b → addP c t (gI p at_) a b i = t i + gI c (gI p at_).toNat := by
          intro i hi1 hi2
          have := hb i hi1 hi2
          simp only [addP, hi1, hi2, and_self, if_true]
          exact wrap64 (by omega) (by omega)
        have i1 := ih (at_ + 1) a (gI p at_) (addP c t (gI p at_) a b) h0 hc.2.1 (by omega) (by omega) (fun i hi1 hi2 => by
          rw [hadd i hi1 (by omega)]
          have := hb i hi1 (by omega)
          omega) (by omega)
        rw [hr]
        cases hx : opn p m (at_ + 1) a (gI p at_) with
        | none =>
          simp only [hx] at i1
          dsimp only
          generalize rdP (addP c) m a (gI p at_) (p.drop (at_ + 1)) (addP c t (gI p at_) a b) = z at *
          obtain ⟨z1, z2, z3⟩ := z
          simp only at i1
          subst i1
          rfl
        | some q1 =>
          obtain ⟨x, n1⟩ := q1
          simp only [hx] at i1
          dsimp only
          obtain ⟨t1, e1, f1⟩ := i1
          have l1 := opn_len _ _ _ _ _ _ hx hc.2.1 (by omega)
          rw [e1]
          have i2 := ih n1 (gI p at_ + 1) b t1 (by omega) (by omega) l1.2.1 (by omega) (fun i hi1 hi2 => by
            rw [f1, if_neg (by omega), hadd i (by omega) hi2]
            have := hb i (by omega) hi2
            omega) (by omega)
          cases hy : opn p m n1 (gI p at_ + 1) b with
          | none =>
            simp only [hy] at i2
            dsimp only
            exact i2
          | some q2 =>
            obtain ⟨y, n2⟩ := q2
            simp only [hy] at i2
            dsimp only
            obtain ⟨t2, e2, f2⟩ := i2
            have l2 := opn_len _ _ _ _ _ _ hy (by omega) l1.2.1
            refine ⟨t2, e2, fun i => ?_⟩
            have hx1 := l1.2.2.1
            have hy1 := l2.2.2.1
            rw [f2, f1]
            by_cases hi : a ≤ (i : Int) ∧ (i : Int) ≤ b
            · rw [if_pos hi, gLL_map (by simp; omega)]
              by_cases h4 : (i : Int) ≤ gI p at_
              · rw [if_neg (by omega), if_pos ⟨hi.1, h4⟩, gLL_app1 (by omega)]
                rw [hadd i hi.1 hi.2]
                simp only [sumG, List.map_cons, List.sum_cons]
                omega
              · rw [if_pos (by omega), if_neg (by omega), gLL_app2 (by omega), show ((i : Int) - a).toNat - x.length = ((i : Int) - (gI p at_ + 1)).toNat from by omega]
                rw [hadd i hi.1 hi.2]
                simp only [sumG, List.map_cons, List.sum_cons]
                omega
            · rw [if_neg hi, if_neg (by omega), if_neg (by omega)]
              simp [addP, hi]
      · rw [if_neg hc]
        dsimp only
        by_cases h5 : at_ < p.length
        · rw [drop_eq h5]
          simp only [rdP, he, if_false]
          rw [if_pos (by omega)]
        · rw [List.drop_eq_nil_of_le (by omega)]
          simp [rdP, he]
theorem pricesF_opn {p c : List Int} (hcs : ∀ x ∈ c, 0 ≤ x ∧ x ≤ 1000) (hn : c.length ≤ 12) :
    match opnAll p c.length with
    | none => pricesF c p = none
    | some ls => ∃ f, pricesF c p = some f ∧ ls.length = c.length + 1 ∧ ∀ i, i ≤ c.length → f i = sumG c (gLL ls i) := by
  have h := opn_rdP (p := p) hcs c.length 0 0 c.length (fun _ => 0) (by omega) (by omega) (by omega) (by omega) (fun i _ _ => by omega) (by omega)
  unfold opnAll pricesF
  rw [List.drop_zero] at h
  cases ho : opn p c.length 0 0 c.length with
  | none =>
    simp only [ho] at h
    dsimp only
    rcases hz : rdP (addP c) c.length 0 c.length p (fun _ => 0) with ⟨z1, z2, z3⟩
    rw [hz] at h
    simp only at h
    subst h
    rfl
  | some q =>
    obtain ⟨ls, k⟩ := q
    simp only [ho] at h
    obtain ⟨f, e, hf⟩ := h
    have hl := opn_len _ _ _ _ _ _ ho (by omega) (by omega)
    dsimp only
    rw [e]
    by_cases hk : k = p.length
    · rw [if_pos hk, hk, List.drop_length]
      dsimp only
      refine ⟨f, rfl, by have := hl.2.2.1; omega, fun i hi => ?_⟩
      rw [hf i, if_pos ⟨by omega, by omega⟩]
      simp
    · rw [if_neg hk]
      dsimp only
      have : p.drop k ≠ [] := fun e => hk (by have := List.drop_eq_nil_iff.1 e; have := hl.2.1; omega)
      cases hd : p.drop k with
      | nil => exact absurd hd this
      | cons z zs => rfl
end Go.Abs
