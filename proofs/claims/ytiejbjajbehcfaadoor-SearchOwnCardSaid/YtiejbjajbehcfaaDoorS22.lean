/- search: the table of the best prices, in plain terms. -/
import Derived.Test.YtiejbjajbehcfaaDoorS21
set_option linter.unusedVariables false
set_option linter.unusedSimpArgs false
namespace Go.Abs
/-- A part's price and gate are written. -/
def setT (T : List Int) (a b v g : Int) : List Int := (T.set (13 * a + b).toNat v).set (169 + 13 * a + b).toNat g
theorem setT_len (T : List Int) (a b v g : Int) : (setT T a b v g).length = T.length := by simp [setT]
theorem gI_set {l : List Int} {i j : Nat} {v : Int} (h : i < l.length) : gI (l.set i v) j = if j = i then v else gI l j := by
  unfold gI
  rw [List.getD_eq_getElem?_getD, List.getD_eq_getElem?_getD, List.getElem?_set]
  by_cases e : j = i
  · subst e; simp [h]
  · simp [e, show ¬ i = j from fun e' => e e'.symm]
theorem prT_set {T : List Int} {a b v g c d : Int} (hT : T.length = 338) (ha : 0 ≤ a ∧ a ≤ 12) (hb : 0 ≤ b ∧ b ≤ 12) (hc : 0 ≤ c ∧ c ≤ 12) (hd : 0 ≤ d ∧ d ≤ 12) : prT (setT T a b v g) c d = if c = a ∧ d = b then v else prT T c d := by
  unfold prT setT
  rw [gI_set (by simp; omega), if_neg (by omega), gI_set (by omega)]
  by_cases e : c = a ∧ d = b
  · rw [if_pos e, if_pos (by rw [e.1, e.2])]
  · rw [if_neg e, if_neg (by omega)]
theorem gateT_set {T : List Int} {a b v g c d : Int} (hT : T.length = 338) (ha : 0 ≤ a ∧ a ≤ 12) (hb : 0 ≤ b ∧ b ≤ 12) (hc : 0 ≤ c ∧ c ≤ 12) (hd : 0 ≤ d ∧ d ≤ 12) : gateT (setT T a b v g) c d = if c = a ∧ d = b then g else gateT T c d := by
  unfold gateT setT
  rw [gI_set (by simp; omega)]
  by_cases e : c = a ∧ d = b
  · rw [if_pos e, if_pos (by rw [e.1, e.2])]
  · rw [if_neg e, if_neg (by omega), gI_set (by omega), if_neg (by omega)]
/-- A part's price is the best one. -/
def BestAt (P : Int → Int → Int → Int → Int → Int) (T : List Int) (a b : Int) : Prop :=
  a ≤ gateT T a b ∧ gateT T a b < b ∧ prT T a b = P a b (gateT T a b) (prT T a (gateT T a b)) (prT T (gateT T a b + 1) b) ∧ ∀ g, a ≤ g → g < b → prT T a b ≤ P a b g (prT T a g) (prT T (g + 1) b)
/-- What is done: the parts shorter than m, and those of length m that begin before s. -/
def Done (P : Int → Int → Int → Int → Int → Int) (T : List Int) (n m s : Int) : Prop :=
  ∀ a b, 0 ≤ a → a ≤ b → b ≤ n → (b - a < m ∨ (b - a = m ∧ a < s)) → (a = b → prT T a b = 0) ∧ (a < b → BestAt P T a b)
theorem Done_Good {P : Int → Int → Int → Int → Int → Int} {T : List Int} {n : Int} (h : Done P T n (n + 1) 0) : GoodT T n := by
  intro a b h0 h1 h2
  have := (h a b h0 (by omega) h2 (.inl (by omega))).2 h1
  exact ⟨this.1, this.2.1⟩
theorem BestAt_set {P : Int → Int → Int → Int → Int → Int} {T : List Int} {a b v g c d : Int} (hT : T.length = 338) (ha : 0 ≤ a ∧ a ≤ 12) (hb : 0 ≤ b ∧ b ≤ 12) (hc : 0 ≤ c) (hd : d ≤ 12) (hlen : c < d) (hsh : d - c ≤ b - a) (hne : ¬ (c = a ∧ d = b)) (h : BestAt P T c d) : BestAt P (setT T a b v g) c d := by
  obtain ⟨h1, h2, h3, h4⟩ := h
  have e1 : gateT (setT T a b v g) c d = gateT T c d := by rw [gateT_set hT ha hb ⟨hc, by omega⟩ ⟨by omega, hd⟩, if_neg hne]
  have e2 : prT (setT T a b v g) c d = prT T c d := by rw [prT_set hT ha hb ⟨hc, by omega⟩ ⟨by omega, hd⟩, if_neg hne]
  have e3 : ∀ x, c ≤ x → x < d → prT (setT T a b v g) c x = prT T c x := fun x x1 x2 => by rw [prT_set hT ha hb ⟨hc, by omega⟩ ⟨by omega, by omega⟩, if_neg (by omega)]
  have e4 : ∀ x, c ≤ x → x < d → prT (setT T a b v g) (x + 1) d = prT T (x + 1) d := fun x x1 x2 => by rw [prT_set hT ha hb ⟨by omega, by omega⟩ ⟨by omega, hd⟩, if_neg (by omega)]
  refine ⟨by rw [e1]; exact h1, by rw [e1]; exact h2, ?_, fun x x1 x2 => ?_⟩
  · rw [e1, e2, e3 _ h1 h2, e4 _ h1 h2]; exact h3
  · rw [e2, e3 x x1 x2, e4 x x1 x2]; exact h4 x x1 x2
/-- Writing a part that is not done yet leaves what is done. -/
theorem Done_set {P : Int → Int → Int → Int → Int → Int} {T : List Int} {n m s v g : Int} (hT : T.length = 338) (hn : n ≤ 12) (hm : 1 ≤ m) (hs : 0 ≤ s) (hsn : s + m ≤ n) (h : Done P T n m s) : Done P (setT T s (s + m) v g) n m s := by
  intro a b h0 h1 h2 h3
  have hd := h a b h0 h1 h2 h3
  have hne : ¬ (a = s ∧ b = s + m) := by omega
  refine ⟨fun e => ?_, fun e => ?_⟩
  · rw [prT_set hT ⟨hs, by omega⟩ ⟨by omega, by omega⟩ ⟨h0, by omega⟩ ⟨by omega, by omega⟩, if_neg hne]
    exact hd.1 e
  · exact BestAt_set hT ⟨hs, by omega⟩ ⟨by omega, by omega⟩ h0 (by omega) e (by omega) hne (hd.2 e)
/-- One part more. -/
theorem Done_next {P : Int → Int → Int → Int → Int → Int} {T : List Int} {n m s : Int} (hm : 1 ≤ m) (h : Done P T n m s) (hb : BestAt P T s (s + m)) : Done P T n m (s + 1) := by
  intro a b h0 h1 h2 h3
  by_cases e : a = s ∧ b = s + m
  · obtain ⟨rfl, rfl⟩ := e
    exact ⟨fun e => by omega, fun _ => hb⟩
  · exact h a b h0 h1 h2 (by omega)
/-- All parts of a length. -/
theorem Done_len {P : Int → Int → Int → Int → Int → Int} {T : List Int} {n m s : Int} (hs : n < s + m) (h : Done P T n m s) : Done P T n (m + 1) 0 := by
  intro a b h0 h1 h2 h3
  exact h a b h0 h1 h2 (by omega)
theorem Done_0 {P : Int → Int → Int → Int → Int → Int} {n : Int} (hn : n ≤ 12) : Done P (List.replicate 338 0) n 1 0 := by
  intro a b h0 h1 h2 h3
  have : a = b := by omega
  subst this
  refine ⟨fun _ => ?_, fun e => by omega⟩
  unfold prT gI
  rw [List.getD_eq_getElem?_getD, List.getElem?_replicate, if_pos (by omega)]
  rfl
/-- The best of the gates before g. -/
def BestTo (P : Int → Int → Int → Int → Int → Int) (T : List Int) (a b g : Int) : Prop :=
  g = a ∨ (a ≤ gateT T a b ∧ gateT T a b < g ∧ prT T a b = P a b (gateT T a b) (prT T a (gateT T a b)) (prT T (gateT T a b + 1) b) ∧ ∀ x, a ≤ x → x < g → prT T a b ≤ P a b x (prT T a x) (prT T (x + 1) b))
theorem BestTo_end {P : Int → Int → Int → Int → Int → Int} {T : List Int} {a b : Int} (hab : a < b) (h : BestTo P T a b b) : BestAt P T a b := by
  rcases h with h | h
  · omega
  · exact h
/-- A gate that is better, or the first. -/
theorem BestTo_set {P : Int → Int → Int → Int → Int → Int} {T : List Int} {a b g : Int} (hT : T.length = 338) (h0 : 0 ≤ a) (hb : b ≤ 12) (hg : a ≤ g) (hgb : g < b) (h : BestTo P T a b g) (hbet : g = a ∨ P a b g (prT T a g) (prT T (g + 1) b) ≤ prT T a b) : BestTo P (setT T a b (P a b g (prT T a g) (prT T (g + 1) b)) g) a b (g + 1) := by
  have e1 : ∀ v, gateT (setT T a b v g) a b = g := fun v => by rw [gateT_set hT ⟨h0, by omega⟩ ⟨by omega, hb⟩ ⟨h0, by omega⟩ ⟨by omega, hb⟩, if_pos ⟨rfl, rfl⟩]
  have e2 : ∀ v, prT (setT T a b v g) a b = v := fun v => by rw [prT_set hT ⟨h0, by omega⟩ ⟨by omega, hb⟩ ⟨h0, by omega⟩ ⟨by omega, hb⟩, if_pos ⟨rfl, rfl⟩]
  have e3 : ∀ v x, a ≤ x → x < b → prT (setT T a b v g) a x = prT T a x := fun v x x1 x2 => by rw [prT_set hT ⟨h0, by omega⟩ ⟨by omega, hb⟩ ⟨h0, by omega⟩ ⟨by omega, by omega⟩, if_neg (by omega)]
  have e4 : ∀ v x, a ≤ x → x < b → prT (setT T a b v g) (x + 1) b = prT T (x + 1) b := fun v x x1 x2 => by rw [prT_set hT ⟨h0, by omega⟩ ⟨by omega, hb⟩ ⟨by omega, by omega⟩ ⟨by omega, hb⟩, if_neg (by omega)]
  refine .inr ⟨by rw [e1]; exact hg, by rw [e1]; omega, ?_, fun x x1 x2 => ?_⟩
  · rw [e1, e2, e3 _ g hg hgb, e4 _ g hg hgb]
  · rw [e2, e3 _ x x1 (by omega), e4 _ x x1 (by omega)]
    by_cases hx : x = g
    · subst hx; omega
    · rcases h with h | ⟨_, _, _, h⟩
      · omega
      · have := h x x1 (by omega)
        rcases hbet with hbet | hbet <;> omega
/-- A gate that is no better. -/
theorem BestTo_skip {P : Int → Int → Int → Int → Int → Int} {T : List Int} {a b g : Int} (hg : g ≠ a) (h : BestTo P T a b g) (hbet : prT T a b ≤ P a b g (prT T a g) (prT T (g + 1) b)) : BestTo P T a b (g + 1) := by
  rcases h with h | ⟨h1, h2, h3, h4⟩
  · exact absurd h hg
  · refine .inr ⟨h1, by omega, h3, fun x x1 x2 => ?_⟩
    by_cases hx : x = g
    · subst hx; exact hbet
    · exact h4 x x1 (by omega)
end Go.Abs
