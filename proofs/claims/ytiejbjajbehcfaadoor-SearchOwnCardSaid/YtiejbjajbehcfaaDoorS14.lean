/- search: best.plan. -/
import Derived.Test.YtiejbjajbehcfaaDoorS13
set_option linter.unusedVariables false
set_option linter.unusedSimpArgs false
namespace Go.Abs
open Rd (Cp IsL_one IsL_cells IsL_tail lowO_n)
/-- A new list's value, and its row. -/
def nlV (n : Nat) (l : List Int) : AV := match l with
  | [] => .nilslice
  | x :: l => .slice n 0 (l.length + 1) (.op 1)
def nlK (l : List Int) : List Row := match l with
  | [] => []
  | x :: l => [.cells (nums .i64 (x :: l))]
theorem newL_eq (rows : List Row) (l : List Int) : newL rows l = (nlV rows.length l, rows ++ nlK l, none) := by
  cases l <;> simp [newL, nlV, nlK]
theorem nlV_one (n : Nat) (l : List Int) : (nlV n l).one = true := by cases l <;> rfl
theorem nlV_cells (n : Nat) (l : List Int) : (nlV n l).cells = [nlV n l] := by cases l <;> rfl
theorem nlV_IsL (B : List Row) (l : List Int) (L : List Row) : IsL (B ++ (nlK l ++ L)) (nlV B.length l) l := by
  cases l with
  | nil => exact IsL_nil
  | cons x l =>
    rw [← List.append_assoc]
    exact IsL_app (IsL_new (L := []) rfl) L
theorem nlK_under (l : List Int) : (nlK l).all (Row.under 0) = true := by
  cases l with
  | nil => rfl
  | cons x l => simp [nlK, Row.under, AV.under, nums]
/-- The gate of a part, in the table. -/
def gateT (T : List Int) (a b : Int) : Int := gI T (169 + 13 * a + b).toNat
def prT (T : List Int) (a b : Int) : Int := gI T (13 * a + b).toNat
/-- The plan of a table. -/
def tpl (T : List Int) : Nat → Int → Int → List Int
  | 0, _, _ => []
  | m + 1, a, b => if a = b then [] else gateT T a b :: (tpl T m a (gateT T a b) ++ tpl T m (gateT T a b + 1) b)
def GoodT (T : List Int) (n : Int) : Prop := ∀ a b, 0 ≤ a → a < b → b ≤ n → a ≤ gateT T a b ∧ gateT T a b < b
theorem tpl_len {T : List Int} {n : Int} (hT : GoodT T n) : ∀ (m : Nat) (a b : Int), 0 ≤ a → a ≤ b → b ≤ n → b - a ≤ m → (tpl T m a b).length = (b - a).toNat := by
  intro m
  induction m with
  | zero => intro a b h0 h1 h2 h3; simp [tpl]; omega
  | succ m ih =>
    intro a b h0 h1 h2 h3
    unfold tpl
    by_cases he : a = b
    · simp [he]
    · have hg := hT a b h0 (by omega) h2
      have e1 := ih a (gateT T a b) h0 hg.1 (by omega) (by omega)
      have e2 := ih (gateT T a b + 1) b (by omega) (by omega) h2 (by omega)
      simp only [he, if_false, List.length_cons, List.length_append, e1, e2]
      omega
theorem tpl_Pl {T : List Int} {n : Int} (hT : GoodT T n) : ∀ (m : Nat) (a b : Int), 0 ≤ a → a ≤ b → b ≤ n → b - a ≤ m → Pl a b (tpl T m a b) := by
  intro m
  induction m with
  | zero =>
    intro a b h0 h1 h2 h3
    have : a = b := by omega
    subst this
    exact .nil a
  | succ m ih =>
    intro a b h0 h1 h2 h3
    unfold tpl
    by_cases he : a = b
    · subst he
      simp only [if_true]
      exact .nil a
    · have hg := hT a b h0 (by omega) h2
      simp only [he, if_false]
      exact .node hg.1 hg.2 (ih a _ h0 hg.1 (by omega) (by omega)) (ih _ b (by omega) (by omega) h2 (by omega))
theorem maskE_cons {b i : Nat} {r : Row} {l : List (Nat × Row)} : maskE b ((i, r) :: l) = (if b.testBit i then r else .dead) :: maskE b l := rfl
theorem maskE_app {b : Nat} {l l' : List (Nat × Row)} : maskE b (l ++ l') = maskE b l ++ maskE b l' := by simp [maskE]
theorem maskE_map {b i : Nat} {X : List Row} : maskE b (X.map fun x => (i, x)) = if b.testBit i then X else X.map fun _ => .dead := by
  unfold maskE
  by_cases h : b.testBit i <;> simp [h, Function.comp_def]
theorem drop_app {rows L : List Row} {k : Nat} : List.drop (rows.length + k) (rows ++ L) = L.drop k := by simp [List.drop_append]
theorem drop_mapp {α : Type} {rows : List Row} {f : Row → α} {L : List α} {k : Nat} : List.drop (rows.length + k) (List.map f rows ++ L) = L.drop k := by
  rw [List.drop_append]; simp
theorem concat3 {R : List Row} {i : Nat} {v1 v2 v3 : AV} {g : Int} {l1 l2 : List Int} (hr : row? R i = some [v1, v2, v3]) (h1 : IsL R v1 [g]) (h2 : IsL R v2 l1) (h3 : IsL R v3 l2) (hl1 : l1.length ≤ 1000) (hl2 : l2.length ≤ 1000) : Ret F 87 [.slice i 0 3 (.at_ 3)] R = some (newL R (g :: (l1 ++ l2))) := by
  have hE : El R 1 (.slice i 0 3 (.at_ 3)) [v1, v2, v3] 3 := by
    unfold El elems
    simp only [hr]
    rfl
  have := concat_ret (rows := R) (sv := .slice i 0 3 (.at_ 3)) (ls := [[g], l1, l2]) ⟨[v1, v2, v3], hE, fun j hj => by
    match j, hj with
    | 0, _ => exact h1
    | 1, _ => exact h2
    | 2, _ => exact h3
    | n + 3, h => exact absurd h (by simp)⟩ (by simp) (by simp) (by simp; omega)
  simpa using this
theorem fin59 {rows K : List Row} {i : Nat} {v1 v2 v3 : AV} {g : Int} {l1 l2 l : List Int} (hl : l = g :: (l1 ++ l2)) (hr : row? (rows ++ K) i = some [v1, v2, v3]) (h1 : IsL (rows ++ K) v1 [g]) (h2 : IsL (rows ++ K) v2 l1) (h3 : IsL (rows ++ K) v3 l2) (hl1 : l1.length ≤ 1000) (hl2 : l2.length ≤ 1000) :
    bnd (Ret F 87 [.slice i 0 3 (.at_ 3)] (rows ++ K)) fun q => fin rows q.1 q.2.1 (lowO rows.length q.2.2) = newL rows l := by
  subst hl
  rw [concat3 hr h1 h2 h3 hl1 hl2]
  have := fin_slice (rows := rows) (L := K ++ [.cells (nums .i64 (g :: (l1 ++ l2)))]) (k := K.length) (o := 0) (n := (l1 ++ l2).length + 1) (c := .op 1) (vs := nums .i64 (g :: (l1 ++ l2))) (by simp) nums_ids
  simpa [newL, lowO] using this
theorem isl1 {rows L : List Row} {A : Row} {g : Int} : IsL (rows ++ A :: .cells [.int .i64 g] :: L) (.slice (rows.length + 1) 0 1 (.at_ 1)) [g] :=
  IsL_mk (n := 0) (l := [g]) (vs := [.int .i64 g]) (by unfold row?; simp) (by simp [seg, nums])
theorem isl2 {rows L : List Row} {A B : Row} {x : Int} {l : List Int} : IsL (rows ++ A :: B :: .cells (nums .i64 (x :: l)) :: L) (.slice (rows.length + 2) 0 (l.length + 1) (.op 1)) (x :: l) :=
  IsL_mk (n := 0) (l := x :: l) (vs := nums .i64 (x :: l)) (by unfold row?; simp) (seg_nums _)
theorem isl3 {rows L : List Row} {A B C : Row} {x : Int} {l : List Int} : IsL (rows ++ A :: B :: C :: .cells (nums .i64 (x :: l)) :: L) (.slice (rows.length + 3) 0 (l.length + 1) (.op 1)) (x :: l) :=
  IsL_mk (n := 0) (l := x :: l) (vs := nums .i64 (x :: l)) (by unfold row?; simp) (seg_nums _)
/-- best.plan. -/
theorem bplan_ret {T : List Int} {n : Int} {bid : Nat} (hlen : T.length = 338) (hn : n ≤ 12) (hT : GoodT T n) : ∀ (m : Nat) (rows : List Row) (a b : Int), 0 ≤ a → a ≤ b → b ≤ n → b - a ≤ m → row? rows bid = some (nums .i64 T) →
    Ret F 59 [.ptr bid 0, pt a b] rows = some (newL rows (tpl T m a b)) := by
  intro m
  induction m with
  | zero =>
    intro rows a b h0 h1 h2 h3 hr
    have : a = b := by omega
    subst this
    refine i59 F59 ?_
    simp [one_ret, tpl, newL, seg, -uc59s3, jc59s3]
  | succ m ih =>
    intro rows a b h0 h1 h2 h3 hr
    by_cases he : a = b
    · subst he
      refine i59 F59 ?_
      simp [one_ret, tpl, newL, seg, -uc59s3, jc59s3]
    · have hg := hT a b h0 (by omega) h2
      have e1 : idx? a 13 = some a.toNat := idx?_ok (by omega) (by omega)
      have e2 : idx? b 13 = some b.toNat := idx?_ok (by omega) (by omega)
      have e3 : (nums .i64 T)[169 + a.toNat * 13 + b.toNat]? = some (.int .i64 (gateT T a b)) := by
        have : (169 + 13 * a + b).toNat = 169 + a.toNat * 13 + b.toNat := by omega
        unfold gateT
        rw [this, nums_get, gI_get (by omega)]; rfl
      have hr2 : ∀ L, row? (rows ++ L) bid = some (nums .i64 T) := fun L => row?_old hr L
      have i1 := fun L => ih (rows ++ L) a (gateT T a b) h0 hg.1 (by omega) (by omega) (hr2 L)
      have i2 := fun L => ih (rows ++ L) (gateT T a b + 1) b (by omega) (by omega) h2 (by omega) (hr2 L)
      generalize hgt : gateT T a b = g at *
      refine i59 F59 ?_
      simp [one_ret, tpl, he, seg, -uc59s3, jc59s3]
      unfold Jc59s3
      simp (disch := first | omega | (simp; done) | fail) [seg, hr2, e1, e2, e3, -uc59k0]
      rw [uc59k0]
      simp (disch := first | omega | (simp; done) | fail) only [maskE_nil, List.append_nil, bnd_some, List.length_nil, Nat.add_zero, List.drop_left, List.map_cons, List.map_nil, List.nil_append, true_and]
      have t24 : (24 : Nat).testBit 1 = false := by decide
      have t60 : (60 : Nat).testBit 1 = false := by decide
      have t892a : (892 : Nat).testBit 1 = false := by decide
      have t892b : (892 : Nat).testBit 6 = true := by decide
      have t2044a : (2044 : Nat).testBit 1 = false := by decide
      have t2044b : (2044 : Nat).testBit 6 = true := by decide
      simp only [newL_eq] at i1 i2
      simp only [pt] at i1 i2
      simp (disch := first | omega | (simp; done) | fail) [fillA, splice, seg, left_ret, right_ret, i1, i2, maskE_cons, maskE_app, maskE_map, t24, t60, t892a, t892b, t2044a, t2044b, drop_app, drop_mapp, Nat.add_assoc, nlV_one, nlV_cells, -lowO, lowO_n]
      have hl1 := tpl_len hT m a g h0 hg.1 (by omega) (by omega)
      have hl2 := tpl_len hT m (g + 1) b (by omega) (by omega) h2 (by omega)
      rw [hgt]
      generalize tpl T m a g = l1 at *
      generalize tpl T m (g + 1) b = l2 at *
      cases l1 with
      | nil =>
        cases l2 with
        | nil =>
          simp [nlK, nlV, maskE_cons, -lowO]
          exact fin59 (l1 := []) (l2 := []) rfl (by unfold row?; simp) isl1 IsL_nil IsL_nil (by simp) (by simp)
        | cons y l2 =>
          simp [nlK, nlV, maskE_cons, -lowO]
          exact fin59 (l1 := []) (l2 := y :: l2) rfl (by unfold row?; simp) isl1 IsL_nil isl2 (by simp) (by rw [hl2]; omega)
      | cons x l1 =>
        cases l2 with
        | nil =>
          simp [nlK, nlV, maskE_cons, -lowO]
          exact fin59 (l1 := x :: l1) (l2 := []) (by simp) (by unfold row?; simp) isl1 isl2 IsL_nil (by rw [hl1]; omega) (by simp)
        | cons y l2 =>
          simp [nlK, nlV, maskE_cons, -lowO]
          exact fin59 (l1 := x :: l1) (l2 := y :: l2) (by simp) (by unfold row?; simp) isl1 isl2 isl3 (by rw [hl1]; omega) (by rw [hl2]; omega)
end Go.Abs
