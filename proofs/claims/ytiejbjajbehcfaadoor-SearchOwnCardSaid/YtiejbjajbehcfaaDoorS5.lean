/- search: parts of a pipe; what is wrong with costs; reading a plan. -/
import Derived.Test.YtiejbjajbehcfaaDoorS2
import Derived.Test.YtiejbjajbehcfaaDoorU2
import Derived.Test.YtiejbjajbehcfaaDoorM4
set_option linter.unusedVariables false
set_option linter.unusedSimpArgs false
namespace Go.Abs
section
variable {rows : List Row}
abbrev pt (a b : Int) : AV := .agg [.int .i64 a, .int .i64 b]
theorem left_ret {a b g : Int} : Ret F 84 [pt a b, .int .i64 g] rows = some (pt a g, rows, none) := by
  refine i84 F84 ?_
  simp [fillA, splice, seg]
theorem right_ret {a b g : Int} (h : -9223372036854775809 < g ∧ g < 9223372036854775807) : Ret F 85 [pt a b, .int .i64 g] rows = some (pt (g + 1) b, rows, none) := by
  refine i85 F85 ?_
  have w : IntKind.i64.wrap (g + 1) = g + 1 := wrap64 (by omega) (by omega)
  simp [fillA, splice, seg, w]
theorem one_ret {a b : Int} : Ret F 86 [pt a b] rows = some (.bool (decide (a = b)), rows, none) := by
  refine i86 F86 ?_
  simp [fillA, splice, seg, eqInts]
  by_cases h : a = b
  · simp [h]
  · have h2 : ¬ b = a := fun e => h e.symm
    simp [h, h2]
theorem whole_ret {v : AV} {l : List Int} (h : IsL rows v l) : Ret F 60 [v] rows = some (pt 0 l.length, rows, none) := by
  refine i60 F60 ?_
  simp [fillA, splice, seg, lenL0 h, lenL h]
/-- search.Check. -/
theorem Check_ret {v : AV} {l : List Int} (h : IsL rows v l) (hl : l.length < 4611686018427387904) : Ret F 46 [v] rows = some (.int .i64 (if l.length ≤ 12 ∧ (l.all fun x => decide (1 ≤ x ∧ x ≤ 1000)) = true then 0 else 80), rows, none) := by
  have ha := are_ret h hl (lo := 1) (hi := 1000)
  refine i46 F46 ?_
  by_cases h1 : 12 < l.length
  · simp [lenL0 h, h1, show (12 : Int) < l.length from by omega, show ¬ (l.length ≤ 12) from by omega]
  · cases hall : l.all fun x => decide (1 ≤ x ∧ x ≤ 1000) with
    | true =>
      rw [hall] at ha
      simp [lenL0 h, h1, show ¬ (12 : Int) < l.length from by omega, ha, show l.length ≤ 12 from by omega]
    | false =>
      rw [hall] at ha
      simp [lenL0 h, h1, show ¬ (12 : Int) < l.length from by omega, ha, show l.length ≤ 12 from by omega]
end

/-! ### Reading a plan -/
/-- What reading does: is it a plan, what is left, the state. -/
def rdP {τ : Type} (st : τ → Int → Int → Int → τ) : Nat → Int → Int → List Int → τ → Bool × List Int × τ
  | 0, _, _, l, t => (true, l, t)
  | n + 1, a, b, l, t =>
    if a = b then (true, l, t)
    else match l with
      | [] => (false, [], t)
      | g :: l =>
        if g < a ∨ b ≤ g then (false, g :: l, t)
        else match rdP st n a g l (st t g a b) with
          | (false, l', t') => (false, l', t')
          | (true, l', t') => rdP st n (g + 1) b l' t'

/-- What 'read' is given: 'each' in the heap, and what it does. -/
structure Rd (τ σ : Type) where
  R0 : List Row
  E : σ → List Row
  eN : Nat
  nb : Nat
  lo : Nat
  own : σ → List Nat
  fid : Nat
  cs : List AV
  st : τ → Int → Int → Int → τ
  P : τ → σ → List Row → Prop
  B : τ → Nat → Prop
variable {τ σ : Type}
namespace Rd
variable (D : Rd τ σ)
def A : Nat := D.R0.length + D.eN
def Q (pv w : AV) : List Row := [.cells [pv], .cells w.cells, .cells [.func D.fid D.cs], .cells [.func 89 [.ptr D.A 0, .ptr (D.A + 2) 0, .ptr (D.A + 3) 0]]]
def H (s : σ) (pv w : AV) (G : List Row) : List Row := (D.R0 ++ D.E s) ++ (D.Q pv w ++ G)
/-- What stays as it is: the rows behind that nobody owns. -/
def Fr (s : σ) (h : List Row) (s' : σ) (h' : List Row) : Prop := h.length ≤ h'.length ∧ (∀ i, i < h.length → D.A + 4 ≤ i → i ∉ D.own s → h'[i]? = h[i]?) ∧ ∀ i, i ∈ D.own s' → i ∈ D.own s ∨ h.length ≤ i
structure OK : Prop where
  bst : ∀ t k g a b, D.B t (k + 1) → D.B (D.st t g a b) k
  bmono : ∀ t k j, D.B t k → j ≤ k → D.B t j
  nb12 : D.nb ≤ 12
  loR : D.lo ≤ D.R0.length
  ownLt : ∀ t s h i, D.P t s h → i ∈ D.own s → i < h.length
  len : ∀ s, (D.E s).length = D.eN
  app : ∀ t s h L, D.P t s h → D.P t s (h ++ L)
  pv : ∀ t s pv pv' w G, D.P t s (D.H s pv w G) → D.P t s (D.H s pv' w G)
  take : ∀ t s h b, D.P t s h → b ≤ h.length → (D.E s).all (Row.under b) = true → D.P t s (h.take b)
  low : ∀ t s h, D.P t s h → (D.E s).all (Row.under h.length) = true
  each : ∀ t s pv w G (g a b : Int), D.P t s (D.H s pv w G) → D.B t 1 → 0 ≤ a → a ≤ g → g < b → b ≤ D.nb → ∃ s' G' d, Ret F D.fid ([.int .i64 g, pt a b] ++ D.cs) (D.H s pv w G) = some (.tup [], D.H s' pv w G', d) ∧ D.P (D.st t g a b) s' (D.H s' pv w G') ∧ D.Fr s (D.H s pv w G) s' (D.H s' pv w G') ∧ ((d = none ∧ s' = s) ∨ ∃ lw, d = some lw ∧ D.lo ≤ lw ∧ lw ≤ D.R0.length)
variable {D}
theorem lenE (h : D.OK) (s : σ) : (D.R0 ++ D.E s).length = D.A := by simp [A, h.len]
theorem H_len (h : D.OK) (s : σ) (pv w : AV) (G : List Row) : (D.H s pv w G).length = D.A + 4 + G.length := by
  unfold H; rw [List.length_append, lenE h]; simp [Q]; omega
theorem H_app (s : σ) (pv w : AV) (G L : List Row) : D.H s pv w G ++ L = D.H s pv w (G ++ L) := by simp [H]
theorem H_take (h : D.OK) (s : σ) (pv w : AV) (G : List Row) {b : Nat} (hb : D.A + 4 ≤ b) : (D.H s pv w G).take b = D.H s pv w (G.take (b - (D.A + 4))) := by
  unfold H
  rw [List.take_append, lenE h, List.take_of_length_le (by rw [lenE h]; omega), List.take_append, List.take_of_length_le (by simp [Q]; omega)]
  simp [Q]
  omega
theorem H_plan (h : D.OK) (s : σ) (pv w : AV) (G : List Row) : row? (D.H s pv w G) D.A = some [pv] := by
  unfold H; rw [rowA0 (lenE h s)]; rfl
theorem H_planC (h : D.OK) (s : σ) (pv w : AV) (G : List Row) : cells? (D.H s pv w G) D.A = some [pv] := by
  unfold H; rw [cellsA0 (lenE h s)]; rfl
theorem H_each (h : D.OK) (s : σ) (pv w : AV) (G : List Row) : row? (D.H s pv w G) (D.A + 2) = some [.func D.fid D.cs] := by
  unfold H; rw [rowA (lenE h s)]; rfl
theorem H_next (h : D.OK) (s : σ) (pv w : AV) (G : List Row) : row? (D.H s pv w G) (D.A + 3) = some [.func 89 [.ptr D.A 0, .ptr (D.A + 2) 0, .ptr (D.A + 3) 0]] := by
  unfold H; rw [rowA (lenE h s)]; rfl
theorem H_set (h : D.OK) (s : σ) (pv pv' w : AV) (G : List Row) : (D.H s pv w G).set D.A (.cells [pv']) = D.H s pv' w G := by
  unfold H; rw [setA0 (lenE h s)]; rfl
theorem H_box (h : D.OK) (s : σ) (pv w : AV) (G L : List Row) (k : Nat) (x : Row) : row? (D.H s pv w (G ++ x :: L)) (D.A + 4 + G.length) = row? (x :: L) 0 := by
  have e : D.H s pv w (G ++ x :: L) = D.H s pv w G ++ (x :: L) := by simp [H]
  rw [e]
  exact rowA0 (H_len h s pv w G)

/-- What is left behind a call that may have written. -/
theorem gc_H (h : D.OK) {t : τ} {s s0 : σ} {pv w : AV} {G : List Row} {b low : Nat} (hP : D.P t s (D.H s pv w G)) (hb : D.A + 4 ≤ b) (hb2 : b ≤ (D.H s pv w G).length) (hlow : low ≤ D.R0.length ∨ (D.E s).all (Row.under b) = true) (v : AV) :
    ∃ G', gc b low v (D.H s pv w G) = D.H s pv w G' ∧ D.P t s (D.H s pv w G') ∧ b ≤ (D.H s pv w G').length ∧ ∀ i, i < b → (D.H s pv w G')[i]? = (D.H s pv w G)[i]? := by
  rcases gc_cases b low v (D.H s pv w G) with e | ⟨e, hu⟩
  · exact ⟨G, e, hP, hb2, fun _ _ => rfl⟩
  · refine ⟨_, e.trans (H_take h s pv w G hb), ?_, ?_, ?_⟩
    · rw [← H_take h s pv w G hb]
      refine h.take t s _ b hP hb2 ?_
      rcases hlow with hl | hl
      · rw [H_take h s pv w G hb] at hu
        unfold H at hu
        rw [List.append_assoc, List.drop_append_of_le_length hl, List.all_append, List.all_append, Bool.and_eq_true, Bool.and_eq_true] at hu
        exact hu.2.1
      · exact hl
    · rw [← H_take h s pv w G hb]; simp; omega
    · intro i hi
      rw [← H_take h s pv w G hb, List.getElem?_take, if_pos hi]

/-- A slice's capacity is right. -/
def Cp (sz : Nat) : AV → Prop
  | .slice _ _ n (.at_ c) => n ≤ c
  | .slice _ _ _ (.op s) => s = sz
  | _ => True
theorem IsL_tail {rows : List Row} {v : AV} {x : Int} {l : List Int} (h : IsL rows v (x :: l)) (hc : Cp 1 v) : ∃ v', sliceV 1 v (some (.int .i64 1)) none none = some v' ∧ IsL rows v' l ∧ Cp 1 v' := by
  rcases El_cases h with ⟨_, _, h0⟩ | ⟨id, off, c, vs, rfl, hr, hs⟩
  · simp at h0
  · have hl := seg_len hs
    simp only [List.length_cons, Nat.mul_one] at hl
    have hs' : seg vs (off + 1) l.length = some (nums .i64 l) := by
      rw [seg_seg (m := l.length) hs (by simp; omega)]
      unfold seg
      rw [if_pos (by simp; omega)]
      simp [nums, List.take_of_length_le]
    cases c with
    | at_ k =>
      simp only [Cp, List.length_cons] at hc
      have e : sliceV 1 (.slice id off (l.length + 1) (.at_ k)) (some (.int .i64 1)) none none = some (.slice id (if k = 1 then off else off + 1) l.length (.at_ (k - 1))) := by
        simp only [sliceV, bound?]
        rw [if_pos (by omega)]
        simp
      refine ⟨_, e, ?_, by simp only [Cp]; omega⟩
      by_cases hk : k = 1
      · subst hk
        have : l = [] := by
          cases l with
          | nil => rfl
          | cons _ _ => simp at hc
        subst this
        rw [if_pos rfl]
        exact IsL_mk (n := 0) hr (by unfold seg; rw [if_pos (by simp; omega)]; simp [nums])
      · rw [if_neg hk]
        exact IsL_mk (n := 0) hr hs'
    | op sz =>
      simp only [Cp] at hc
      subst hc
      have e : sliceV 1 (.slice id off (l.length + 1) (.op 1)) (some (.int .i64 1)) none none = some (.slice id (off + 1) l.length (.op 1)) := by
        simp only [sliceV, bound?]
        rw [if_pos (by omega)]
        simp
      exact ⟨_, e, IsL_mk (n := 0) hr hs', rfl⟩

theorem Fr.refl {D : Rd τ σ} {s : σ} {h : List Row} : D.Fr s h s h := ⟨Nat.le_refl _, fun _ _ _ _ => rfl, fun _ h => .inl h⟩
theorem Fr.trans {D : Rd τ σ} {s s' s'' : σ} {h h' h'' : List Row} (a : D.Fr s h s' h') (b : D.Fr s' h' s'' h'') : D.Fr s h s'' h'' := by
  obtain ⟨a1, a2, a3⟩ := a
  obtain ⟨b1, b2, b3⟩ := b
  refine ⟨by omega, fun i h1 h2 h3 => ?_, fun i hi => ?_⟩
  · have : i ∉ D.own s' := fun e => by
      rcases a3 i e with e | e
      · exact h3 e
      · omega
    rw [b2 i (by omega) h2 this, a2 i h1 h2 h3]
  · rcases b3 i hi with e | e
    · rcases a3 i e with e | e
      · exact .inl e
      · exact .inr e
    · exact .inr (by omega)

theorem IsL_one {rows : List Row} {v : AV} {l : List Int} (h : IsL rows v l) : v.one = true := by
  rcases El_cases h with ⟨rfl, _, _⟩ | ⟨id, off, c, vs, rfl, _, _⟩ <;> rfl
theorem low_step {D : Rd τ σ} {s s' s'' : σ} {low : Nat} {d : Option Nat} (h1 : D.lo ≤ low ∧ low ≤ D.A ∧ (low ≤ D.R0.length ∨ s' = s)) (h2 : (d = none ∧ s'' = s') ∨ ∃ lw, d = some lw ∧ D.lo ≤ lw ∧ lw ≤ D.A ∧ (lw ≤ D.R0.length ∨ s'' = s')) : D.lo ≤ lowO low d ∧ lowO low d ≤ D.A ∧ (lowO low d ≤ D.R0.length ∨ s'' = s) := by
  rcases h2 with ⟨rfl, rfl⟩ | ⟨lw, rfl, hlo, h2, h3⟩
  · exact h1
  · have e : lower low lw ≤ low ∧ lower low lw ≤ lw ∧ D.lo ≤ lower low lw := by unfold lower; split <;> omega
    simp only [lowO]
    refine ⟨e.2.2, by omega, ?_⟩
    rcases h1.2.2 with h4 | h4
    · exact .inl (by omega)
    · rcases h3 with h5 | h5
      · exact .inl (by omega)
      · exact .inr (h5.trans h4)
theorem lowO_n {n : Nat} : lowO n none = n := rfl
theorem drop_map_len {α β : Type} (f : α → β) (R : List α) : List.drop R.length (List.map f R) = [] := by simp

set_option maxHeartbeats 8000000 in
theorem next_ret {D : Rd τ σ} (h : D.OK) : ∀ (m : Nat) (a b : Int) (l : List Int) (t : τ) (s : σ) (pv w : AV) (G : List Row) (k0 : Nat), D.B t ((b - a).toNat + k0) → b - a ≤ m → 0 ≤ a → a ≤ b → b ≤ D.nb → IsL D.R0 pv l → Cp 1 pv → D.P t s (D.H s pv w G) →
    D.B (rdP D.st m a b l t).2.2 k0 ∧ ∃ s' pv' G' d, Ret F 89 [pt a b, .ptr D.A 0, .ptr (D.A + 2) 0, .ptr (D.A + 3) 0] (D.H s pv w G) = some (.bool (rdP D.st m a b l t).1, D.H s' pv' w G', d) ∧ IsL D.R0 pv' (rdP D.st m a b l t).2.1 ∧ Cp 1 pv' ∧ D.P (rdP D.st m a b l t).2.2 s' (D.H s' pv' w G') ∧ D.Fr s (D.H s pv w G) s' (D.H s' pv' w G') ∧
      ((d = none ∧ s' = s) ∨ ∃ lw, d = some lw ∧ D.lo ≤ lw ∧ lw ≤ D.A ∧ (lw ≤ D.R0.length ∨ s' = s)) := by
  have h12 := h.nb12
  intro m
  induction m with
  | zero =>
    intro a b l t s pv w G k0 hB hm h0 hab hb hl hc hP
    have e : a = b := by omega
    subst e
    refine ⟨h.bmono _ _ _ hB (by omega), s, pv, G, none, ?_, hl, hc, hP, Fr.refl, .inl ⟨rfl, rfl⟩⟩
    refine i89 F89 ?_
    simp [seg, one_ret, rdP]
  | succ m ih =>
    intro a b l t s pv w G k0 hB hm h0 hab hb hl hc hP
    by_cases e : a = b
    · subst e
      refine ⟨by simpa [rdP] using h.bmono _ _ _ hB (by omega), s, pv, G, none, ?_, ?_, hc, ?_, Fr.refl, .inl ⟨rfl, rfl⟩⟩
      · refine i89 F89 ?_
        simp [seg, one_ret, rdP]
      · simpa [rdP] using hl
      · simpa [rdP] using hP
    · have hplan : ∀ L, row? (D.H s pv w G ++ L) D.A = some [pv] := row?_old (H_plan h s pv w G)
      have hplanC : ∀ L, cells? (D.H s pv w G ++ L) D.A = some [pv] := cells?_old (H_planC h s pv w G)
      have hl' : ∀ L, IsL (D.H s pv w G ++ L) pv l := fun L => by
        have : D.H s pv w G ++ L = D.R0 ++ (D.E s ++ (D.Q pv w ++ G) ++ L) := by simp [H]
        rw [this]
        exact IsL_app hl _
      cases l with
      | nil =>
        refine ⟨by simpa [rdP, e] using h.bmono _ _ _ hB (by omega), s, pv, G, none, ?_, ?_, hc, ?_, Fr.refl, .inl ⟨rfl, rfl⟩⟩
        · refine i89 F89 ?_
          simp [seg, one_ret, rdP, e, hplan, lenL0 (hl' _)]
        · simpa [rdP, e] using hl
        · simpa [rdP, e] using hP
      | cons g l =>
        by_cases hg : g < a ∨ b ≤ g
        · refine ⟨by simpa [rdP, e, hg] using h.bmono _ _ _ hB (by omega), s, pv, G, none, ?_, ?_, hc, ?_, Fr.refl, .inl ⟨rfl, rfl⟩⟩
          · refine i89 F89 ?_
            have hne : ¬ ((l.length : Int) + 1 = 0) := by omega
            by_cases hg1 : g < a
            · simp (disch := first | omega | (simp; done) | fail) [seg, one_ret, rdP, e, hplan, lenL0 (hl' _), idxL0 (hl' _), loadL00 (hl' _), gI, hg, hg1, hne]
            · simp (disch := first | omega | (simp; done) | fail) [seg, one_ret, rdP, e, hplan, lenL0 (hl' _), idxL0 (hl' _), loadL00 (hl' _), gI, hg, hg1, hne, show b ≤ g from by omega]
          · simpa [rdP, e, hg] using hl
          · simpa [rdP, e, hg] using hP
        · obtain ⟨pv1, hs1, hl1, hc1⟩ := IsL_tail hl hc
          have hone := IsL_one hl1
          generalize hX : Row.cells [AV.int .i64 a, AV.int .i64 b] = X at *
          have hN : (D.H s pv w G).length = D.A + 4 + G.length := H_len h s pv w G
          have hP1 : D.P t s (D.H s pv1 w (G ++ [X])) := h.pv t s pv pv1 w _ (by rw [← H_app]; exact h.app _ _ _ _ hP)
          have hset : (D.H s pv w G ++ [X]).set D.A (.cells [pv1]) = D.H s pv1 w (G ++ [X]) := by rw [H_app, H_set h]
          have hlow : lower (D.H s pv w G).length D.A = D.A := lower_lt (by omega)
          obtain ⟨s2, G2, d2, hr2, hP2, hF2, hd2⟩ := h.each t s pv1 w (G ++ [X]) g a b hP1 (h.bmono _ _ _ hB (by omega)) h0 (by omega) (by omega) hb
          have hN1 : (D.H s pv1 w (G ++ [X])).length = D.A + 4 + G.length + 1 := by rw [H_len h]; simp; omega
          have hown : (D.H s pv w G).length ∉ D.own s := fun e => by
            have := h.ownLt t s _ _ hP e
            omega
          have hb1 : (D.H s pv1 w (G ++ [X]))[(D.H s pv w G).length]? = some X := by
            rw [hN, ← H_app, ← H_len h s pv1 w G]; simp
          have hb2 : (D.H s2 pv1 w G2)[(D.H s pv w G).length]? = some X := by
            rw [hF2.2.1 _ (by omega) (by omega) hown, hb1]
          have hown2 : (D.H s pv w G).length ∉ D.own s2 := fun e => by
            rcases hF2.2.2 _ e with e | e
            · exact hown e
            · omega
          have rb1 : row? (D.H s pv1 w (G ++ [X])) (D.H s pv w G).length = some [.int .i64 a, .int .i64 b] := by unfold row?; rw [hb1, ← hX]
          have rb2 : row? (D.H s2 pv1 w G2) (D.H s pv w G).length = some [.int .i64 a, .int .i64 b] := by unfold row?; rw [hb2, ← hX]
          have hB2 : D.B (D.st t g a b) ((g - a).toNat + ((b - (g + 1)).toNat + k0)) := h.bst _ _ _ _ _ (h.bmono _ _ _ hB (by omega))
          obtain ⟨hB3, s3, pv3, G3, d3, hr3, hl3, hc3, hP3, hF3, hd3⟩ := ih a g l (D.st t g a b) s2 pv1 w G2 _ hB2 (by omega) h0 (by omega) (by omega) hl1 hc1 hP2
          have hb3 : (D.H s3 pv3 w G3)[(D.H s pv w G).length]? = some X := by
            have := hF2.1
            rw [hF3.2.1 _ (by omega) (by omega) hown2, hb2]
          have rb3 : row? (D.H s3 pv3 w G3) (D.H s pv w G).length = some [.int .i64 a, .int .i64 b] := by unfold row?; rw [hb3, ← hX]
          have hd2' : (d2 = none ∧ s2 = s) ∨ ∃ lw, d2 = some lw ∧ D.lo ≤ lw ∧ lw ≤ D.A ∧ (lw ≤ D.R0.length ∨ s2 = s) := by
            rcases hd2 with e | ⟨lw, e, hlo, hle⟩
            · exact .inl e
            · exact .inr ⟨lw, e, hlo, by unfold A; omega, .inl hle⟩
          have hloA : D.lo ≤ D.A := by have := h.loR; unfold A; omega
          have hL0 : D.lo ≤ D.A ∧ D.A ≤ D.A ∧ (D.A ≤ D.R0.length ∨ s = s) := ⟨hloA, Nat.le_refl _, .inr rfl⟩
          have hL2 := low_step hL0 hd2'
          have hL3 := low_step hL2 hd3
          have hFr3 : D.Fr s (D.H s pv1 w (G ++ [X])) s3 (D.H s3 pv3 w G3) := hF2.trans hF3
          have hle1 := hFr3.1
          have hgn : ¬ (g < a) := by omega
          have hgn2 : ¬ (b ≤ g) := by omega
          have hne : ¬ ((l.length : Int) + 1 = 0) := by omega
          have hi : gI (g :: l) 0 = g := rfl
          have hnb : ¬ a = b := e
          have hlowE : ∀ sf pvf Gf (lowf : Nat) tf, D.P tf sf (D.H sf pvf w Gf) → D.Fr s (D.H s pv1 w (G ++ [X])) sf (D.H sf pvf w Gf) → D.lo ≤ lowf ∧ lowf ≤ D.A ∧ (lowf ≤ D.R0.length ∨ sf = s) → ∀ vb : AV, ∃ G', fin (D.H s pv w G) vb (D.H sf pvf w Gf) lowf = (vb, D.H sf pvf w G', some lowf) ∧ D.P tf sf (D.H sf pvf w G') ∧ D.Fr s (D.H s pv w G) sf (D.H sf pvf w G') := by
            intro sf pvf Gf lowf tf hPf hFf hLf vb
            have hFf1 := hFf.1
            obtain ⟨G', e1, e2, e3, e4⟩ := gc_H (s0 := s) h (b := (D.H s pv w G).length) (low := lowf) hPf (by omega) (by omega) (by
              rcases hLf.2.2 with e | e
              · exact .inl e
              · subst e
                exact .inr (h.low t sf _ hP)) vb
            refine ⟨G', ?_, e2, e3, ?_, ?_⟩
            · rw [fin_lt (by omega), e1]
            · intro i hi1 hi2 hi3
              rw [e4 i hi1, hFf.2.1 i (by omega) hi2 hi3, ← H_app]
              have e5 : ∀ pv, (D.H s pv w G)[i]? = (D.Q pv w ++ G)[i - D.A]? := fun pv => by
                unfold H; rw [List.getElem?_append_right (by rw [lenE h]; omega), lenE h]
              rw [List.getElem?_append_left (by rw [H_len h]; omega), e5, e5]
              rw [List.getElem?_append_right (by simp [Q]; omega), List.getElem?_append_right (by simp [Q]; omega)]
              rfl
            · intro i hi
              rcases hFf.2.2 i hi with e | e
              · exact .inl e
              · exact .inr (by omega)
          have er : rdP D.st (m + 1) a b (g :: l) t = match rdP D.st m a g l (D.st t g a b) with
              | (false, l', t') => (false, l', t')
              | (true, l', t') => rdP D.st m (g + 1) b l' t' := by simp [rdP, e, hg]
          rw [er]
          have hpl1 := H_each h s pv1 w (G ++ [X])
          rw [← H_app] at hpl1 rb1 hr2
          have hset1 := H_set h s pv pv1 w G
          have hr2' : Ret F D.fid (.int .i64 g :: pt a b :: D.cs) (D.H s pv1 w G ++ [X]) = some (.tup [], D.H s2 pv1 w G2, d2) := hr2
          have hnx2 := H_next h s2 pv1 w G2
          have hnx3 := H_next h s3 pv3 w G3
          generalize hr1 : rdP D.st m a g l (D.st t g a b) = r1 at *
          obtain ⟨ok, l3, t3⟩ := r1
          simp only at hl3 hP3 hr3 hB3
          cases ok with
          | false =>
            obtain ⟨G', ef, eP, eF⟩ := hlowE s3 pv3 G3 _ _ hP3 hFr3 hL3 (.bool false)
            refine ⟨h.bmono _ _ _ hB3 (by omega), s3, pv3, G', _, ?_, hl3, hc3, eP, eF, .inr ⟨_, rfl, hL3⟩⟩
            refine i89 F89 ?_
            subst hX
            simp (disch := first | omega | (simp; done) | fail) [-lowO, lowO_n, seg, one_ret, e, hplan, hplanC, lenL0 (hl' _), idxL0 (hl' _), loadL00 (hl' _), hi, hgn, hgn2, hne, hs1, hone, hset1, hlow, hpl1, rb1, hr2', hnx2, rb2, hr3, left_ret, drop_map_len]
            exact ef
          | true =>
            have w64 : -9223372036854775809 < g ∧ g < 9223372036854775807 := by omega
            obtain ⟨hB4, s4, pv4, G4, d4, hr4, hl4, hc4, hP4, hF4, hd4⟩ := ih (g + 1) b l3 t3 s3 pv3 w G3 k0 hB3 (by omega) (by omega) (by omega) hb hl3 hc3 hP3
            have hL4 := low_step hL3 hd4
            obtain ⟨G', ef, eP, eF⟩ := hlowE s4 pv4 G4 _ _ hP4 (hFr3.trans hF4) hL4 (.bool (rdP D.st m (g + 1) b l3 t3).1)
            refine ⟨hB4, s4, pv4, G', _, ?_, hl4, hc4, eP, eF, .inr ⟨_, rfl, hL4⟩⟩
            refine i89 F89 ?_
            subst hX
            simp (disch := first | omega | (simp; done) | fail) [-lowO, lowO_n, seg, one_ret, e, hplan, hplanC, lenL0 (hl' _), idxL0 (hl' _), loadL00 (hl' _), hi, hgn, hgn2, hne, hs1, hone, hset1, hlow, hpl1, rb1, hr2', hnx2, rb2, hr3, left_ret, drop_map_len, hnx3, rb3, right_ret w64, hr4]
            exact ef
end Rd
end Go.Abs
