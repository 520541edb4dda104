/- search: one gate of a part is tried. -/
import Derived.Test.YtiejbjajbehcfaaDoorS23
set_option linter.unusedVariables false
set_option linter.unusedSimpArgs false
namespace Go.Abs
open Rd (Cp IsL_one IsL_cells IsL_tail lowO_n)

/-- What the price function is asked to be. -/
structure PF (rows : List Row) (pf : Nat) (pcs : List AV) (n : Int) (P : Int → Int → Int → Int → Int → Int) : Prop where
  ret : ∀ L a b g l r, 0 ≤ a → a ≤ g → g < b → b ≤ n → (0 ≤ l ∧ l ≤ 200000000) → (0 ≤ r ∧ r ≤ 200000000) → Ret F pf ([pt a b, .int .i64 g, .int .i64 l, .int .i64 r] ++ pcs) (rows ++ L) = some (.int .i64 (P a b g l r), rows ++ L, none)
  bd : ∀ a b g l r, 0 ≤ a → a ≤ g → g < b → b ≤ n → (0 ≤ l ∧ l ≤ 200000000) → (0 ≤ r ∧ r ≤ 200000000) → 0 ≤ P a b g l r ∧ P a b g l r ≤ 13000000 + l + r
def Bnd (T : List Int) : Prop := ∀ a b, 0 ≤ a → a ≤ b → b ≤ 12 → 0 ≤ prT T a b ∧ prT T a b ≤ 13000000 * (b - a)
theorem Bnd_0 : Bnd (List.replicate 338 0) := by
  intro a b h0 h1 h2
  have : prT (List.replicate 338 0) a b = 0 := by
    unfold prT gI
    rw [List.getD_eq_getElem?_getD, List.getElem?_replicate, if_pos (by omega)]
    rfl
  omega
theorem Bnd_set {T : List Int} {a b v g : Int} (hT : T.length = 338) (ha : 0 ≤ a) (hab : a ≤ b) (hb : b ≤ 12) (hv : 0 ≤ v ∧ v ≤ 13000000 * (b - a)) (h : Bnd T) : Bnd (setT T a b v g) := by
  intro c d h0 h1 h2
  rw [prT_set hT ⟨ha, by omega⟩ ⟨by omega, hb⟩ ⟨h0, by omega⟩ ⟨by omega, h2⟩]
  split
  · rename_i e; obtain ⟨rfl, rfl⟩ := e; exact hv
  · exact h c d h0 h1 h2
/-- The table while the gates before g are tried. -/
structure TG (P : Int → Int → Int → Int → Int → Int) (n m s : Int) (g : Int) (T : List Int) : Prop where
  len : T.length = 338
  done : Done P T n m s
  to : BestTo P T s (s + m) g
  bnd : Bnd T
theorem cells?_ne {R : List Row} {i j : Nat} {x : Row} (h : i ≠ j) : cells? (R.set j x) i = cells? R i := by
  unfold cells?; rw [List.getElem?_set_ne (fun e => h e.symm)]
theorem round_shape {B G X : List Row} {i : Nat} {p f q l x y z : Row} (hi : i < B.length) : ((((B ++ (p :: f :: q :: l :: G)) ++ X).set i x).set (B.length + 1) y).set (B.length + 3) z = B.set i x ++ (p :: y :: q :: z :: (G ++ X)) := by
  rw [List.append_assoc, List.set_append_left _ _ hi]
  have : B.length = (B.set i x).length := by simp
  rw [this, rows_set, rows_set]
  simp
theorem round_shape0 {B G X : List Row} {p f q l y z : Row} : (((B ++ (p :: f :: q :: l :: G)) ++ X).set (B.length + 1) y).set (B.length + 3) z = B ++ (p :: y :: q :: z :: (G ++ X)) := by
  rw [List.append_assoc, rows_set, rows_set]
  simp
def LRw (st : LoopState) (SL : List AV) : Row := .loop st none SL [35] c57f6a c57f6b
/-- The rows while the gates of a part are tried. -/
def RI (rows : List Row) (pv : AV) (P : Int → Int → Int → Int → Int → Int) (n m s : Int) (N : Nat) (SL : List AV) (g : Int) (R : List Row) (low : Nat) : Prop :=
  ∃ B T G, R = B ++ (.cells [.int .i64 s, .int .i64 (s + m)] :: .cells [.bool (decide (g = s))] :: .cells [.int .i64 s, .int .i64 (s + m)] :: LRw .ready SL :: G) ∧ B.length = N ∧ TB rows pv T B ∧ TG P n m s g T ∧ rows.length ≤ low ∧ (s < g → low ≤ N + 3)
set_option maxHeartbeats 8000000 in
theorem round_ok {rows : List Row} {pf N low : Nat} {pcs SL : List AV} {P : Int → Int → Int → Int → Int → Int} {n m s g : Int} {R : List Row} {sl : List (Nat × AV)} (hPF : PF rows pf pcs n P) (hn : n ≤ 12) (hm : 1 ≤ m) (hs : 0 ≤ s) (hsm : s + m ≤ n) (hg : s ≤ g) (hgm : g < s + m)
    (s3 : lk sl 3 = .ptr rows.length 0) (s5 : lk sl 5 = .ptr (rows.length + 2) 0) (s8 : lk sl 8 = .ptr N 0) (s9 : lk sl 9 = .ptr (N + 1) 0)
    (hI : RI rows (.func pf pcs) P n m s N SL g R low) : Ex F (.round (N + 3)) [.code c57f6a, .rfBegin, .code c57f6b] ⟨putL (mk 102 sl) [35] [.int .i64 g], R, R.length⟩ fun q => q.1 = .bool true ∧ RI rows (.func pf pcs) P n m s N SL (g + 1) (gc R.length (lower low q.2.2) q.1 q.2.1) (lower low q.2.2) := by
  obtain ⟨B, T, G, hR, hBN, hTB, hTG, hlow1, hlow2⟩ := hI
  have hB := hTB.len
  generalize hfb : decide (g = s) = fb at hR
  generalize hPr : Row.cells [AV.int .i64 s, AV.int .i64 (s + m)] = Pr at hR
  have hb1 := hTG.bnd s g (by omega) (by omega) (by omega)
  have hb2 := hTG.bnd (g + 1) (s + m) (by omega) (by omega) (by omega)
  have hb3 := hTG.bnd s (s + m) (by omega) (by omega) (by omega)
  have hbd := hPF.bd s (s + m) g (prT T s g) (prT T (g + 1) (s + m)) hs hg hgm hsm (by omega) (by omega)
  generalize hv : P s (s + m) g (prT T s g) (prT T (g + 1) (s + m)) = v at hbd
  have hret := fun L => hPF.ret L s (s + m) g (prT T s g) (prT T (g + 1) (s + m)) hs hg hgm hsm (by omega) (by omega)
  rw [hv] at hret
  -- the rows while the round runs
  generalize hRb : B ++ (Pr :: .cells [.bool fb] :: Pr :: LRw .busy SL :: G) = Rb
  have hTBb : TB rows (.func pf pcs) T Rb := by rw [← hRb]; exact hTB.app _
  have h8 : ∀ L, row? (Rb ++ L) N = some [.int .i64 s, .int .i64 (s + m)] := fun L => row?_old (by rw [← hRb, ← hBN, row?_at0, ← hPr]; rfl) L
  have h9 : ∀ L, row? (Rb ++ L) (N + 1) = some [.bool fb] := fun L => row?_old (by rw [← hRb, ← hBN, row?_at]; rfl) L
  have h5 : ∀ L, row? (Rb ++ L) (rows.length + 2) = some [.ptr (rows.length + 1) 0] := fun L => (hTBb.app L).g2
  have h3 : ∀ L, row? (Rb ++ L) rows.length = some [.func pf pcs] := fun L => (hTBb.app L).g0
  have h4 : ∀ L, row? (Rb ++ L) (rows.length + 1) = some (nums .i64 T) := fun L => (hTBb.app L).g1
  have hrt : ∀ L, Ret F pf ([pt s (s + m), .int .i64 g, .int .i64 (prT T s g), .int .i64 (prT T (g + 1) (s + m))] ++ pcs) (Rb ++ L) = some (.int .i64 v, Rb ++ L, none) := by
    intro L
    obtain ⟨Z, hZ⟩ := hTBb.app L
    rw [hZ]; exact hret _
  have i0 : idx? s 13 = some s.toNat := idx?_ok (by omega) (by omega)
  have i1 : idx? g 13 = some g.toNat := idx?_ok (by omega) (by omega)
  have i2 : idx? (g + 1) 13 = some (g + 1).toNat := idx?_ok (by omega) (by omega)
  have i3 : idx? (s + m) 13 = some (s + m).toNat := idx?_ok (by omega) (by omega)
  have hTl := hTG.len
  have q1 : (nums .i64 T)[s.toNat * 13 + g.toNat]? = some (.int .i64 (prT T s g)) := by
    unfold prT
    rw [show (13 * s + g).toNat = s.toNat * 13 + g.toNat from by omega, nums_get, gI_get (by omega)]; rfl
  have q2 : (nums .i64 T)[(g + 1).toNat * 13 + (s + m).toNat]? = some (.int .i64 (prT T (g + 1) (s + m))) := by
    unfold prT
    rw [show (13 * (g + 1) + (s + m)).toNat = (g + 1).toNat * 13 + (s + m).toNat from by omega, nums_get, gI_get (by omega)]; rfl
  have q3 : (nums .i64 T)[s.toNat * 13 + (s + m).toNat]? = some (.int .i64 (prT T s (s + m))) := by
    unfold prT
    rw [show (13 * s + (s + m)).toNat = s.toNat * 13 + (s + m).toNat from by omega, nums_get, gI_get (by omega)]; rfl
  have hrd := fun R => right_ret (rows := R) (a := s) (b := s + m) (g := g) (by omega)
  have hld := fun R => left_ret (rows := R) (a := s) (b := s + m) (g := g)
  simp only [pt] at hrt hrd hld
  simp only [mk_putL1, uc57f6a, uc57k15]
  rw [Ex_rfBegin]
  refine ⟨none, SL, [35], c57f6a, c57f6b, by rw [hR, ← hBN, rows_at]; rfl, ?_⟩
  have e1 : R.set (N + 3) (.loop .busy none SL [35] c57f6a c57f6b) = Rb := by rw [hR, ← hRb, ← hBN, rows_set]; rfl
  rw [e1]
  have hRl : R.length = Rb.length := by rw [← hRb, hR]; simp
  rw [show lower R.length (N + 3) = N + 3 from lower_lt (by rw [hR]; simp; omega)]
  have hRbl : N + 4 ≤ Rb.length := by rw [← hRb]; simp; omega
  have hll : ∀ k, lower (N + 3) (Rb.length + k) = N + 3 := fun k => lower_ge (by omega)
  have hll0 : lower (N + 3) Rb.length = N + 3 := lower_ge (by omega)
  have h80 := h8 []
  have h90 := h9 []
  have h50 := h5 []
  have h30 := h3 []
  have h40 := h4 []
  simp only [List.append_nil] at h80 h90 h50 h30 h40
  simp only [List.cons_append, List.nil_append] at hrt
  have hc9 : ∀ L, cells? (Rb ++ L) (N + 1) = some [.bool fb] := fun L => cells?_old (by rw [← hRb, ← hBN, cells?_at]; rfl) L
  have hlw1 : lower (N + 3) (N + 1) = N + 1 := lower_lt (by omega)
  have hlw2 : lower (N + 1) (N + 3) = N + 1 := lower_ge (by omega)
  have hlw3 : lower low (N + 1) ≤ N + 1 := lower_le_id _ _
  have hlw4 : rows.length ≤ lower low (N + 1) := by unfold lower; split <;> omega
  have hlw5 : lower (N + 3) (rows.length + 1) = rows.length + 1 := lower_lt (by omega)
  have hlw6 : lower (rows.length + 1) (N + 1) = rows.length + 1 := lower_ge (by omega)
  have hlw7 : lower (rows.length + 1) (N + 3) = rows.length + 1 := lower_ge (by omega)
  have hlw8 : lower low (rows.length + 1) ≤ N + 1 := Nat.le_trans (lower_le_id _ _) (by omega)
  have hlw9 : rows.length ≤ lower low (rows.length + 1) := by unfold lower; split <;> omega
  have hgs : decide (g + 1 = s) = false := decide_eq_false (by omega)
  have hRlen : R.length = N + 4 + G.length := by rw [hR]; simp; omega
  -- what is left when a round is over
  have fin1 : ∀ (B' : List Row) (T' : List Int) (X : List Row) (low' : Nat), B'.length = N → TB rows (.func pf pcs) T' B' → TG P n m s (g + 1) T' → rows.length ≤ low' → low' ≤ N + 3 →
      RI rows (.func pf pcs) P n m s N SL (g + 1) (gc R.length low' (.bool true) (B' ++ (Pr :: .cells [.bool false] :: Pr :: LRw .ready SL :: (G ++ X)))) low' := by
    intro B' T' X low' hB' hT' hG' hw1 hw2
    rcases gc_cases R.length low' (.bool true) (B' ++ (Pr :: .cells [.bool false] :: Pr :: LRw .ready SL :: (G ++ X))) with e | ⟨e, _⟩
    · rw [e]
      exact ⟨B', T', G ++ X, by rw [← hPr, hgs], hB', hT', hG', hw1, fun _ => hw2⟩
    · rw [e]
      refine ⟨B', T', G, ?_, hB', hT', hG', hw1, fun _ => hw2⟩
      rw [hgs, ← hPr, hRlen, List.take_append, List.take_of_length_le (by omega), show N + 4 + G.length - B'.length = G.length + 4 from by omega]
      simp
  have endB : ∀ X, TG P n m s (g + 1) T → Ex F (.round (N + 3)) [] ⟨mk 102 [(9, .ptr (N + 1) 0)], (Rb ++ X).set (N + 1) (.cells [.bool false]), N + 1⟩ fun q => q.1 = .bool true ∧ RI rows (.func pf pcs) P n m s N SL (g + 1) (gc R.length (lower low q.2.2) q.1 q.2.1) (lower low q.2.2) := by
    intro X hG'
    rw [Ex_nil]
    have e2 : ((Rb ++ X).set (N + 1) (Row.cells [AV.bool false]))[N + 3]? = some (.loop .busy none SL [35] c57f6a c57f6b) := by
      rw [List.getElem?_set_ne (by omega), ← hRb, ← hBN, List.append_assoc, rows_at]; rfl
    refine ⟨_, by unfold leaveV; simp only [e2]; rfl, ?_⟩
    have e3 : ((Rb ++ X).set (N + 1) (Row.cells [AV.bool false])).set (N + 3) (.loop .ready none SL [35] c57f6a c57f6b) = B ++ (Pr :: .cells [.bool false] :: Pr :: LRw .ready SL :: (G ++ X)) := by
      rw [← hRb, ← hBN]; exact round_shape0
    refine ⟨rfl, ?_⟩
    simp only [Option.isNone_none, if_true]
    rw [e3, hlw2]
    exact fin1 B T X _ hBN hTB hG' hlw4 (by omega)
  have endA : ∀ X, TG P n m s (g + 1) (setT T s (s + m) v g) → Ex F (.round (N + 3)) [] ⟨mk 102 [(9, .ptr (N + 1) 0)], ((Rb ++ X).set (rows.length + 1) (.cells (nums .i64 (setT T s (s + m) v g)))).set (N + 1) (.cells [.bool false]), rows.length + 1⟩ fun q => q.1 = .bool true ∧ RI rows (.func pf pcs) P n m s N SL (g + 1) (gc R.length (lower low q.2.2) q.1 q.2.1) (lower low q.2.2) := by
    intro X hG'
    rw [Ex_nil]
    have e2 : (((Rb ++ X).set (rows.length + 1) (.cells (nums .i64 (setT T s (s + m) v g)))).set (N + 1) (Row.cells [AV.bool false]))[N + 3]? = some (.loop .busy none SL [35] c57f6a c57f6b) := by
      rw [List.getElem?_set_ne (by omega), List.getElem?_set_ne (by omega), ← hRb, ← hBN, List.append_assoc, rows_at]; rfl
    refine ⟨_, by unfold leaveV; simp only [e2]; rfl, ?_⟩
    have e3 : (((Rb ++ X).set (rows.length + 1) (.cells (nums .i64 (setT T s (s + m) v g)))).set (N + 1) (Row.cells [AV.bool false])).set (N + 3) (.loop .ready none SL [35] c57f6a c57f6b) = B.set (rows.length + 1) (.cells (nums .i64 (setT T s (s + m) v g))) ++ (Pr :: .cells [.bool false] :: Pr :: LRw .ready SL :: (G ++ X)) := by
      rw [← hRb, ← hBN]; exact round_shape (by omega)
    refine ⟨rfl, ?_⟩
    simp only [Option.isNone_none, if_true]
    rw [e3, hlw7]
    exact fin1 _ _ X _ (by simp [hBN]) hTB.set hG' hlw9 (by omega)
  have hset : (fb = true ∨ v < prT T s (s + m)) → TG P n m s (g + 1) (setT T s (s + m) v g) := by
    intro hor
    refine ⟨by rw [setT_len]; exact hTl, Done_set hTl hn hm hs hsm hTG.done, ?_, Bnd_set hTl hs (by omega) (by omega) ⟨hbd.1, by omega⟩ hTG.bnd⟩
    rw [← hv]
    refine BestTo_set hTl hs (by omega) hg hgm hTG.to ?_
    rw [hv]
    rcases hor with h | h
    · left; rw [← hfb] at h; simpa using h
    · right; omega
  have hskip : fb = false → ¬ v < prT T s (s + m) → TG P n m s (g + 1) T := by
    intro h1 h2
    refine ⟨hTl, hTG.done, BestTo_skip ?_ hTG.to (by rw [hv]; omega), hTG.bnd⟩
    rw [← hfb] at h1; simpa using h1
  have k8 := fun (X : List Row) (l : List (Nat × AV)) (k : List Itm) (r : AV × List Row × Nat → Prop) (a1 : lk l 5 = .ptr (rows.length + 2) 0) (a2 : lk l 8 = .ptr N 0) (a3 : lk l 13 = .int .i64 v) (a4 : lk l 10 = .int .i64 g) => k8_ok (cx := .round (N + 3)) (k := k) (r := r) (sl := l) (low := N + 3) (hTBb.app X) hTl (h8 X) (by omega) a1 a2 a3 a4 (by omega) (by omega)
  cases fb with
  | true =>
    simp [s3, s5, s8, s9, seg, fillA, splice, h80, h8, h5, h50, h3, h4, hld, hrd, i0, i1, i2, i3, q1, q2, q3, hll, hll0, maskE_cons, h9, hrt, -uc57k8]
    rw [k8 _ _ _ _ (by simp) (by simp) (by simp) (by simp)]
    simp [hlw5, hlw6, cells?_ne (show N + 1 ≠ rows.length + 1 by omega), hc9]
    exact endA _ (hset (.inl rfl))
  | false =>
    by_cases hlt : v < prT T s (s + m)
    · simp [s3, s5, s8, s9, seg, fillA, splice, h80, h8, h5, h50, h3, h4, hld, hrd, i0, i1, i2, i3, q1, q2, q3, hll, hll0, maskE_cons, h9, hrt, hlt, -uc57k8]
      rw [k8 _ _ _ _ (by simp) (by simp) (by simp) (by simp)]
      simp [hlw5, hlw6, cells?_ne (show N + 1 ≠ rows.length + 1 by omega), hc9]
      exact endA _ (hset (.inr hlt))
    · simp [s3, s5, s8, s9, seg, fillA, splice, h80, h8, h5, h50, h3, h4, hld, hrd, i0, i1, i2, i3, q1, q2, q3, hll, hll0, maskE_cons, h9, hc9, hrt, hlt, hlw1, -uc57k8]
      exact endB _ (hskip rfl hlt)
end Go.Abs
