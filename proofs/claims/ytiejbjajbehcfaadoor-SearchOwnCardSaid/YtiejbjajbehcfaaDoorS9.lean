/- The statements' own makers: costs, few, plan. -/
import Derived.Test.YtiejbjajbehcfaaDoorS4
import Derived.Test.YtiejbjajbehcfaaDoorS6
set_option linter.unusedVariables false
set_option linter.unusedSimpArgs false
namespace Go.Abs
open Rd (Cp IsL_one IsL_cells IsL_tail lowO_n)
/-- int(uint(x) % m) -/
theorem umodI {x m : Int} (h : 0 < m) (hm : m ≤ 9223372036854775807) : ∃ r : Nat, IntKind.i64.wrap ((IntKind.u64.wrap x).tmod m) = r ∧ (r : Int) < m := by
  have h0 : 0 ≤ IntKind.u64.wrap x := by
    simp [IntKind.wrap, IntKind.min, IntKind.max, IntKind.signed, IntKind.bits]
    omega
  have h1 := Int.tmod_lt_of_pos (IntKind.u64.wrap x) h
  have h2 := Int.tmod_nonneg m h0
  refine ⟨((IntKind.u64.wrap x).tmod m).toNat, ?_, ?_⟩
  · rw [wrap64 (by omega) (by omega)]; omega
  · omega
section
variable {rows : List Row}
/-- A new list: nothing, or a row of its own. -/
def newL (rows : List Row) (l : List Int) : AV × List Row × Option Nat :=
  match l with
  | [] => (.nilslice, rows, none)
  | x :: l => (.slice rows.length 0 (l.length + 1) (.op 1), rows ++ [.cells (nums .i64 (x :: l))], none)
/-- A list that is being made: in the last row. -/
def accV (rows H : List Row) (l : List Int) : AV :=
  match l with
  | [] => .nilslice
  | _ => .slice (rows.length + H.length) 0 l.length (.op 1)
def accR (H : List Row) (l : List Int) : List Row :=
  match l with
  | [] => H
  | _ => H ++ [.cells (nums .i64 l)]
theorem acc_app {H : List Row} {l : List Int} {x : Int} (hl : l.length < 1000000000) : ∃ H', evE (rows ++ (accR H l ++ [.cells [.int .i64 x]])) rows.length (.app 1 8 (.c (accV rows H l)) (.c (.slice (rows.length + (accR H l).length) 0 1 (.at_ 1)))) = some (accV rows H' (l ++ [x]), rows ++ accR H' (l ++ [x]), rows.length) := by
  cases l with
  | nil =>
    have htmp : El (rows ++ (H ++ [.cells [.int .i64 x]])) 1 (.slice (rows.length + H.length) 0 1 (.at_ 1)) (nums .i64 [x]) 1 := by
      have : row? (rows ++ (H ++ [.cells [.int .i64 x]])) (rows.length + H.length) = some [.int .i64 x] := by unfold row?; simp
      unfold El elems
      simp only [this]
      rfl
    refine ⟨H ++ [.cells [.int .i64 x]], ?_⟩
    have := app_nil (b := 8) (low := rows.length) htmp (by omega) (by simp [lim])
    simp only [accR, accV, List.nil_append]
    rw [this]
    simp
  | cons y l =>
    have h := app_own (rows := rows) (H := H) (kd := .i64) (l := y :: l) (x := x) (c := .op 1) (low := rows.length) (b := 8) rfl rfl (.inr rfl) (Nat.le_refl _) hl
    refine ⟨appH (.op 1) H .i64 (y :: l) x, ?_⟩
    simpa [accR, accV] using h
theorem acc_fin {H : List Row} {l : List Int} : fin rows (accV rows H l) (rows ++ accR H l) rows.length = newL rows l := by
  cases l with
  | nil => simp [accV, accR, newL]
  | cons y l =>
    simp only [accV, accR, newL]
    have := fin_slice (rows := rows) (L := H ++ [.cells (nums .i64 (y :: l))]) (k := H.length) (o := 0) (n := (y :: l).length) (c := .op 1) (vs := nums .i64 (y :: l)) (by simp) nums_ids
    simpa using this

/-- The costs that are made of numbers. -/
def cst (x : Int) : Int := 1 + IntKind.i64.wrap ((IntKind.u64.wrap x).tmod 1000)
theorem cst_ok (x : Int) : 1 ≤ cst x ∧ cst x ≤ 1000 := by
  obtain ⟨u, hu, hu1⟩ := umodI (x := x) (m := 1000) (by omega) (by omega)
  unfold cst; rw [hu]; omega
theorem costs_loop {v : AV} {l : List Int} (h : IsL rows v l) : ∀ (n i : Nat) (H : List Row), min l.length 12 - i = n → i ≤ l.length → i ≤ 12 →
    Lc25l2 F (.fn [.t 2]) v (accV rows H ((l.take i).map cst)) (.int .i64 i) (rows ++ accR H ((l.take i).map cst)) rows.length (fun r => fin rows r.1 r.2.1 r.2.2 = newL rows ((l.take 12).map cst)) := by
  intro n
  induction n with
  | zero =>
    intro i H hn h1 h2
    unfold Lc25l2
    have e : l.take i = l.take 12 := by
      by_cases hi : i = 12
      · rw [hi]
      · rw [List.take_of_length_le (by omega), List.take_of_length_le (by omega)]
    rw [e]
    by_cases hi : i < l.length
    · simp [lenL h, hi, show ¬ ((i : Int) < 12) from by omega]
      exact acc_fin
    · simp [lenL h, hi]
      exact acc_fin
  | succ n ih =>
    intro i H hn h1 h2
    have hi : i < l.length := by omega
    have hi2 : (i : Int) < 12 := by omega
    have w : IntKind.i64.wrap ((i : Int) + 1) = i + 1 := wrap64 (by omega) (by omega)
    have wc : IntKind.i64.wrap (1 + IntKind.i64.wrap ((IntKind.u64.wrap (gI l i)).tmod 1000)) = cst (gI l i) := by
      have := cst_ok (gI l i)
      unfold cst at *
      exact wrap64 (by omega) (by omega)
    obtain ⟨H', hap⟩ := acc_app (rows := rows) (H := H) (l := (l.take i).map cst) (x := cst (gI l i)) (by simp; omega)
    have e : (l.take i).map cst ++ [cst (gI l i)] = (l.take (i + 1)).map cst := by
      rw [List.take_add_one, gI_get hi]; simp
    rw [e] at hap
    unfold Lc25l2
    simp (disch := first | omega | (simp; done) | fail) [lenL h, idxL h, loadL h, hi, hi2, w, wc, fillA, splice]
    simp only [List.map_take] at hap
    rw [hap]
    simp only [bnd_some]
    have := ih (i + 1) H' (by omega) (by omega) (by omega)
    simpa using this
/-- costs. -/
theorem costs_ret {v : AV} {l : List Int} (h : IsL rows v l) : Ret F 25 [v] rows = some (newL rows ((l.take 12).map cst)) := by
  refine i25 F25 ?_
  have := costs_loop h _ 0 [] rfl (by omega) (by omega)
  simp
  simpa [accV, accR] using this

/-- A list that is a plan for the pieces from a to b. -/
inductive Pl : Int → Int → List Int → Prop
  | nil (a : Int) : Pl a a []
  | node {a b g : Int} {L R : List Int} : a ≤ g → g < b → Pl a g L → Pl (g + 1) b R → Pl a b (g :: (L ++ R))
theorem Pl.le {a b : Int} {q : List Int} (h : Pl a b q) : a ≤ b := by
  induction h with
  | nil a => omega
  | node h1 h2 _ _ _ _ => omega
theorem Pl.len {a b : Int} {q : List Int} (h : Pl a b q) : (q.length : Int) = b - a := by
  induction h with
  | nil a => simp
  | node h1 h2 _ _ i1 i2 => simp; omega

theorem newL_IsL (l : List Int) : IsL (newL rows l).2.1 (newL rows l).1 l ∧ Cp 1 (newL rows l).1 := by
  cases l with
  | nil => exact ⟨IsL_nil, trivial⟩
  | cons x l => exact ⟨IsL_new (L := []) rfl, rfl⟩
/-- A new list with some capacity. -/
def newC (rows : List Row) (l : List Int) (c : Cap) : AV × List Row × Option Nat :=
  match l with
  | [] => (.nilslice, rows, none)
  | x :: l => (.slice rows.length 0 (l.length + 1) c, rows ++ [.cells (nums .i64 (x :: l))], none)
theorem newC_IsL (l : List Int) {c : Cap} (hc : c = .op 1 ∨ c = .at_ l.length) : IsL (newC rows l c).2.1 (newC rows l c).1 l ∧ Cp 1 (newC rows l c).1 := by
  cases l with
  | nil => exact ⟨IsL_nil, trivial⟩
  | cons x l =>
    refine ⟨IsL_new (L := []) rfl, ?_⟩
    rcases hc with rfl | rfl
    · rfl
    · simp [newC, Cp]
theorem nums_cons {kd : IntKind} {x : Int} {l : List Int} : AV.int kd x :: nums kd l = nums kd (x :: l) := rfl
/-- A plan's left side is appended to its gate. -/
theorem plan_left {g : Int} {L : List Int} {c : Cap} (hL : L.length < 1000) (hc : c = .op 1 ∨ c = .at_ L.length) : ∃ T c', evE (newC (rows ++ [.cells [.int .i64 g]]) L c).2.1 rows.length (.app 1 8 (.c (.slice rows.length 0 1 (.at_ 1))) (.c (newC (rows ++ [.cells [.int .i64 g]]) L c).1)) = some (.slice (rows.length + T.length) 0 (L.length + 1) c', rows ++ (T ++ [.cells (nums .i64 (g :: L))]), rows.length) ∧ (c' = .op 1 ∨ c' = .at_ (L.length + 1)) := by
  have hx := (newC_IsL (rows := rows ++ [.cells [.int .i64 g]]) L hc).1
  cases L with
  | nil =>
    refine ⟨[], .at_ 1, ?_, .inr rfl⟩
    have := app_0 (b := 8) (low := rows.length) (s := .slice rows.length 0 1 (.at_ 1)) hx (.inr ⟨_, _, _, _, rfl⟩)
    rw [this]
    simp [newC, nums]
  | cons y L =>
    refine ⟨[.cells [.int .i64 g], .cells (nums .i64 (y :: L))], .op 1, ?_, .inl rfl⟩
    have hr : row? (newC (rows ++ [.cells [.int .i64 g]]) (y :: L) c).2.1 rows.length = some [.int .i64 g] := by simp [newC]
    have := app_at (b := 8) (low := rows.length) (sz := 1) (off := 0) (n := 1) (c := 1) hr (xs := [.int .i64 g]) (by rfl) hx (by simp) (by simp [lim] at hL ⊢; omega) (by simp)
    rw [this]
    simp [newC, nums, Nat.add_comm]
theorem plan_right {T : List Row} {l R : List Int} {x : Int} {c c' : Cap} (hl : l.length < 1000) (hR : R.length < 1000) (hc : c = .op 1 ∨ c = .at_ R.length) (hc' : c' = .op 1 ∨ c' = .at_ (l.length + 1)) : ∃ T' c'', evE (newC (rows ++ (T ++ [.cells (nums .i64 (x :: l))])) R c).2.1 rows.length (.app 1 8 (.c (.slice (rows.length + T.length) 0 (l.length + 1) c')) (.c (newC (rows ++ (T ++ [.cells (nums .i64 (x :: l))])) R c).1)) = some (.slice (rows.length + T'.length) 0 (l.length + R.length + 1) c'', rows ++ (T' ++ [.cells (nums .i64 (x :: (l ++ R)))]), rows.length) ∧ (c'' = .op 1 ∨ c'' = .at_ (l.length + R.length + 1)) := by
  have hx := (newC_IsL (rows := rows ++ (T ++ [.cells (nums .i64 (x :: l))])) R hc).1
  cases R with
  | nil =>
    refine ⟨T, c', ?_, by simpa using hc'⟩
    have := app_0 (b := 8) (low := rows.length) (s := .slice (rows.length + T.length) 0 (l.length + 1) c') hx (.inr ⟨_, _, _, _, rfl⟩)
    rw [this]
    simp [newC]
  | cons y R =>
    have hrow : (newC (rows ++ (T ++ [.cells (nums .i64 (x :: l))])) (y :: R) c).2.1 = rows ++ (T ++ [.cells (nums .i64 (x :: l)), .cells (nums .i64 (y :: R))]) := by simp [newC]
    have hlw : lower rows.length (rows.length + T.length) = rows.length := lower_add
    have hseg : seg (nums .i64 (x :: l)) 0 ((l.length + 1) * 1) = some (nums .i64 (x :: l)) := by rw [Nat.mul_one]; exact nums_all rfl
    rcases hc' with rfl | rfl
    · refine ⟨T ++ [.dead, .cells (nums .i64 (y :: R))], .op 1, ?_, .inl rfl⟩
      have hr : cells? (newC (rows ++ (T ++ [.cells (nums .i64 (x :: l))])) (y :: R) c).2.1 (rows.length + T.length) = some (nums .i64 (x :: l)) := by rw [hrow]; unfold cells?; simp
      have := app_op (b := 8) (low := rows.length) (sz := 1) (off := 0) (n := l.length + 1) hr hseg hx (by simp) (by simp [lim] at hl hR ⊢; omega)
      rw [this, hlw, hrow]
      simp [nums]
      omega
    · refine ⟨T ++ [.cells (nums .i64 (x :: l)), .cells (nums .i64 (y :: R))], .op 1, ?_, .inl rfl⟩
      have hr : row? (newC (rows ++ (T ++ [.cells (nums .i64 (x :: l))])) (y :: R) c).2.1 (rows.length + T.length) = some (nums .i64 (x :: l)) := by rw [hrow]; unfold row?; simp
      have := app_at (b := 8) (low := rows.length) (sz := 1) (off := 0) (n := l.length + 1) (c := l.length + 1) hr hseg hx (by simp) (by simp [lim] at hl hR ⊢; omega) (by simp)
      rw [this, hrow]
      simp [nums]
      omega

set_option maxHeartbeats 4000000 in
/-- plan: some plan for the pieces from a to b. -/
theorem plan_ret : ∀ (m : Nat) (rows : List Row) (v : AV) (l : List Int) (a b : Int), IsL rows v l → l.length < 4611686018427387904 → 0 ≤ a → a ≤ b → b ≤ 12 → b - a ≤ m → ∃ q c, Pl a b q ∧ (c = .op 1 ∨ c = .at_ q.length) ∧ Ret F 27 [v, .int .i64 a, .int .i64 b] rows = some (newC rows q c) := by
  intro m
  induction m with
  | zero =>
    intro rows v l a b h hlen h0 hab hb hm
    have e : a = b := by omega
    subst e
    refine ⟨[], .op 1, .nil a, .inl rfl, ?_⟩
    refine i27 F27 ?_
    simp [newC]
  | succ m ih =>
    intro rows v l a b h hlen h0 hab hb hm
    by_cases e : a = b
    · subst e
      refine ⟨[], .op 1, .nil a, .inl rfl, ?_⟩
      refine i27 F27 ?_
      simp [newC]
    · have hJ : ∀ g : Int, a ≤ g → g < b → ∃ q c, Pl a b q ∧ (c = .op 1 ∨ c = .at_ q.length) ∧ Jc27s3 F (.fn [.t 6]) v (.int .i64 a) (.int .i64 b) (.int .i64 g) rows rows.length (fun r => fin rows r.1 r.2.1 r.2.2 = newC rows q c) := by
        intro g hg1 hg2
        obtain ⟨L, cL, hL, hcL, hrL⟩ := ih (rows ++ [.cells [.int .i64 g]]) v l a g (IsL_app h _) hlen h0 hg1 (by omega) (by omega)
        have hLl := hL.len
        obtain ⟨T, c1, he1, hc1⟩ := plan_left (rows := rows) (g := g) (L := L) (c := cL) (by omega) hcL
        obtain ⟨R, cR, hR, hcR, hrR⟩ := ih (rows ++ (T ++ [.cells (nums .i64 (g :: L))])) v l (g + 1) b (IsL_app h _) hlen (by omega) (by omega) hb (by omega)
        have hRl := hR.len
        obtain ⟨T', c2, he2, hc2⟩ := plan_right (rows := rows) (T := T) (x := g) (l := L) (R := R) (c := cR) (c' := c1) (by omega) (by omega) hcR hc1
        refine ⟨g :: (L ++ R), c2, .node hg1 hg2 hL hR, by simpa using hc2, ?_⟩
        have w : IntKind.i64.wrap (g + 1) = g + 1 := wrap64 (by omega) (by omega)
        have hlo1 : ∀ r l c, (newC r l c).2.2 = none := fun r l c => by cases l <;> rfl
        unfold Jc27s3
        simp [fillA, splice, hrL, hlo1, he1, w, hrR, he2]
        have := fin_slice (rows := rows) (L := T' ++ [.cells (nums .i64 (g :: (L ++ R)))]) (k := T'.length) (o := 0) (n := L.length + R.length + 1) (c := c2) (vs := nums .i64 (g :: (L ++ R))) (by simp) nums_ids
        rw [this]
        simp [newC]
      by_cases hl : l.length = 0
      · obtain ⟨q, c, hq, hc, hJ⟩ := hJ a (by omega) (by omega)
        refine ⟨q, c, hq, hc, ?_⟩
        refine i27 F27 ?_
        simp [-uc27s3, jc27s3, e, lenL0 h, hl]
        exact hJ
      · have hlp : (0 : Int) < l.length := by omega
        have wab : IntKind.i64.wrap (a + b) = a + b := wrap64 (by omega) (by omega)
        have wba : IntKind.i64.wrap (b - a) = b - a := wrap64 (by omega) (by omega)
        have wu : IntKind.u64.wrap (b - a) = b - a := wrapU64 (by omega) (by omega)
        have hm1 := Int.tmod_lt_of_pos (a + b) hlp
        have hm2 := Int.tmod_nonneg (l.length : Int) (show 0 ≤ a + b by omega)
        obtain ⟨u, hu, hu1⟩ := umodI (x := gI l ((a + b).tmod l.length).toNat) (m := b - a) (by omega) (by omega)
        have wg : IntKind.i64.wrap (a + u) = a + u := wrap64 (by omega) (by omega)
        obtain ⟨q, c, hq, hc, hJ⟩ := hJ (a + u) (by omega) (by omega)
        refine ⟨q, c, hq, hc, ?_⟩
        refine i27 F27 ?_
        have hln : ¬ l = [] := fun e => hl (by rw [e]; rfl)
        have hl1 : 0 < l.length := by omega
        have hbn : ¬ (b - a = 0) := by omega
        simp (disch := first | omega | (simp; done) | fail) [-uc27s3, jc27s3, e, lenL0 h, hl1, hln, wab, idxL0 h, loadL0 h, wba, wu, hbn, hu, wg]
        exact hJ
end
end Go.Abs
