/- The texts that the row uses, part 5. -/
import Derived.Test.YtiejbjajbehcfaaDoorBC4
import Derived.AtR
import Derived.Orders
import Derived.KernelRfl
import Derived.Laws.Cells
import Derived.Laws.CopyRow
import Derived.Laws.Append
import Derived.Laws.AppendOwn
import Derived.Laws.Entries
import Derived.ArgAppend
import Derived.ChangeKeysEq
import Derived.WideLaws
import Derived.Laws.Small
import Derived.Laws.StructEq
import Derived.Laws.Cover3
import Derived.Laws.Tables
import Derived.Laws.Rows
import Derived.Below
import Derived.Laws.IdiomCopy
import Derived.RangeFuncNested
import Derived.Test.YtiejbjajbehcfaaDoorProg
import Derived.Test.YtiejbjajbehcfaaDoorRows
import Derived.ProofKit
import Derived.LaidMore
import Derived.OpenShut
import Derived.Stop.Joined
import Derived.ChangeSlices
import Derived.SizedLaws
import Derived.SevenTiedAt
import Derived.WalkKit
import Derived.ShutString
import Derived.ChangeOld
import Derived.Carry
set_option linter.unusedVariables false
set_option linter.unusedSimpArgs false
namespace Go.Abs
open Rd (Cp IsL_one IsL_cells IsL_tail lowO_n)
theorem Acc_LL {B H : List Row} {ov : AV} {acc : List (List Int)} (h : Acc B H ov acc) : IsLL (B ++ H) ov acc := by
  rcases h with ⟨rfl, rfl⟩ | ⟨j, vs, rfl, hj, hvl, hne, hvs⟩
  · exact ⟨[], rfl, fun i hi => by simp at hi⟩
  · refine ⟨vs, ?_, fun i hi => (hvs i hi).1⟩
    have hr : row? (B ++ H) (B.length + j) = some vs := by
      refine cells?_row ?_
      unfold cells?
      rw [List.getElem?_append_right (by omega), Nat.add_sub_cancel_left, hj]
    unfold El elems
    simp only [hr]
    unfold seg
    rw [if_pos (by omega)]
    simp [List.take_of_length_le, hvl]
theorem Acc_fin {rows X H : List Row} {ov : AV} {acc : List (List Int)} (h : Acc (rows ++ X) H ov acc) (hne : acc ≠ []) {k : IntKind} {e : Int} {t : Bool} : fin rows (.tup [ov, .int k e, .bool t]) (rows ++ X ++ H) rows.length = (.tup [ov, .int k e, .bool t], rows ++ (X ++ H), none) := by
  rcases h with ⟨rfl, rfl⟩ | ⟨j, vs, rfl, hj, hvl, _, hvs⟩
  · exact absurd rfl hne
  · have hpos : 0 < acc.length := List.length_pos_iff.2 hne
    have h0 := hvs 0 hpos
    have hall : vs.all (·.ids.isEmpty) = false := by
      rw [List.all_eq_false]
      refine ⟨gA vs 0, List.mem_of_getElem? (gA_get (by omega)), ?_⟩
      rcases El_cases h0.1 with ⟨_, h1, _⟩ | ⟨id', off, c, us, e, _, _⟩
      · cases hq : gLL acc 0 with
        | nil => exact absurd hq h0.2
        | cons z q => rw [hq] at h1; simp [nums] at h1
      · rw [e]; simp [AV.ids]
    have hr : (rows ++ (X ++ H))[rows.length + (X.length + j)]? = some (.cells vs) := by
      rw [List.getElem?_append_right (by omega), Nat.add_sub_cancel_left, List.getElem?_append_right (by omega), Nat.add_sub_cancel_left, hj]
    unfold fin
    simp [AV.ids, AV.ids.idsL, hr, hall, Nat.add_assoc]
    intro hh; omega
theorem Und_app {rows X H : List Row} (h1 : Und rows X) (h2 : Und (rows ++ X) H) : Und rows (X ++ H) := by
  intro y hy
  rcases List.mem_append.1 hy with hy | hy
  · exact und_mono (h1 y hy) (by simp <;> omega)
  · exact und_mono (h2 y hy) (by simp <;> omega)
/-- A slice in a new row. -/
def Shp (rows X : List Row) (lv : AV) : Prop := ∃ j n c vs, lv = .slice (rows.length + j) 0 n c ∧ X[j]? = some (.cells vs)
theorem Acc_Shp {rows X H : List Row} {ov : AV} {acc : List (List Int)} (h : Acc (rows ++ X) H ov acc) (hne : acc ≠ []) : Shp rows (X ++ H) ov := by
  rcases h with ⟨rfl, rfl⟩ | ⟨j, vs, rfl, hj, hvl, _, hvs⟩
  · exact absurd rfl hne
  · refine ⟨X.length + j, acc.length, .op 1, vs, by simp [Nat.add_assoc], ?_⟩
    rw [List.getElem?_append_right (by omega), Nat.add_sub_cancel_left, hj]
theorem fin_LL {rows X : List Row} {lv : AV} {ls : List (List Int)} {t : Bool} (hs : Shp rows X lv) (hl : IsLL (rows ++ X) lv ls) (hu : Und rows X) : ∃ lv' X', fin rows (.tup [lv, .bool t]) (rows ++ X) rows.length = (.tup [lv', .bool t], rows ++ X', none) ∧ IsLL (rows ++ X') lv' ls ∧ Und rows X' := by
  obtain ⟨j, n, c, vs, rfl, hj⟩ := hs
  have hr : (rows ++ X)[rows.length + j]? = some (.cells vs) := by
    rw [List.getElem?_append_right (by omega), Nat.add_sub_cancel_left, hj]
  by_cases hall : vs.all (·.ids.isEmpty) = true
  · refine ⟨.slice rows.length 0 n c, [.cells vs], ?_, ?_, ?_⟩
    · unfold fin
      simp [AV.ids, AV.ids.idsL, hr, hall, AV.plain1, AV.plain, AV.ren1, AV.ren]
    · obtain ⟨us, hE, hI⟩ := hl
      rcases El_cases hE with ⟨h0, _⟩ | ⟨id', off, c', ws, he, hrow, hseg⟩
      · cases h0
      · injection he with e1 e2 e3 e4
        subst e1 e2 e3 e4
        have : ws = vs := by
          have := cells?_row (rows := rows ++ X) (i := rows.length + j) (vs := vs) (by unfold cells?; rw [hr])
          rw [hrow] at this
          injection this
        subst this
        have hrow' : row? (rows ++ [.cells ws]) rows.length = some ws := by unfold row?; simp
        refine ⟨us, ?_, fun i hi => ?_⟩
        · unfold El elems
          simp only [hrow', hseg]
          rfl
        · have h1 := hI i hi
          have hmem : gA us i ∈ ws := by
            have hul := El_len hE
            have : gA us i ∈ us := List.mem_of_getElem? (gA_get (by omega))
            unfold seg at hseg
            split at hseg
            · injection hseg with hseg
              rw [show us = ((ws.drop 0).take (ls.length * 1)) from hseg.symm] at this ⊢
              exact List.mem_of_mem_drop (List.mem_of_mem_take this)
            · simp at hseg
          have hid := List.all_eq_true.1 hall _ hmem
          rcases El_cases h1 with ⟨e, e2, _⟩ | ⟨id', off, c', us', e, _, _⟩
          · have : gLL ls i = [] := by
              cases hq : gLL ls i with
              | nil => rfl
              | cons z q => rw [hq] at e2; simp [nums] at e2
            rw [e, this]; exact IsL_nil
          · rw [e] at hid; simp [AV.ids] at hid
    · intro y hy
      rw [List.mem_singleton] at hy
      subst hy
      have hy := hu _ (List.mem_of_getElem? hj)
      simp only [Row.under, List.all_eq_true] at hy ⊢
      intro x hx
      have hid := List.all_eq_true.1 hall x hx
      have hid : x.ids = [] := by simpa using hid
      simp [AV.under, hid]
  · have hall : vs.all (·.ids.isEmpty) = false := by simpa using hall
    refine ⟨.slice (rows.length + j) 0 n c, X, ?_, hl, hu⟩
    unfold fin
    simp [AV.ids, AV.ids.idsL, hr, hall]
    intro hh; omega
theorem opened_ret {p : List Int} (hpl : p.length < 4611686018427387904) {v : AV} : ∀ (m : Nat) (rows : List Row) (at_ : Nat) (a b : Int), IsL rows v p → 0 ≤ a → a ≤ b → b ≤ 40 → at_ ≤ p.length → b - a ≤ m →
    match opn p m at_ a b with
    | none => Ret F 64 [v, .int .i64 at_, .int .i64 a, .int .i64 b] rows = some (.tup [.nilslice, .int .i64 at_, .bool false], rows, none)
    | some (ls, n) => ∃ lv X, Ret F 64 [v, .int .i64 at_, .int .i64 a, .int .i64 b] rows = some (.tup [lv, .int .i64 n, .bool true], rows ++ X, none) ∧ IsLL (rows ++ X) lv ls ∧ Und rows X ∧ Shp rows X lv := by
  have base : ∀ (rows : List Row) (at_ : Nat) (a : Int), ∃ lv X, Ret F 64 [v, .int .i64 at_, .int .i64 a, .int .i64 a] rows = some (.tup [lv, .int .i64 at_, .bool true], rows ++ X, none) ∧ IsLL (rows ++ X) lv [[]] ∧ Und rows X ∧ Shp rows X lv := by
    intro rows at_ a
    refine ⟨.slice rows.length 0 1 (.at_ 1), [.cells [.nilslice]], ?_, ⟨[.nilslice], ?_, ?_⟩, ?_, ⟨0, 1, .at_ 1, _, rfl, rfl⟩⟩
    · refine i64 F64 ?_
      simp [-uc64s36, jc64s36, fillA, splice]
      simp [fin, AV.plain1, AV.plain, AV.ren1, AV.ren, AV.ids, AV.ids.idsL]
    · have : row? (rows ++ [.cells [.nilslice]]) rows.length = some [.nilslice] := by unfold row?; simp
      unfold El elems
      simp only [this]
      rfl
    · intro i hi
      have : i = 0 := by simpa using hi
      subst this
      exact IsL_nil
    · intro y hy
      rw [List.mem_singleton] at hy
      subst hy
      rfl
  intro m
  induction m with
  | zero =>
    intro rows at_ a b h h0 h1 h2 h3 h4
    have : a = b := by omega
    subst this
    unfold opn
    simp only [if_true]
    exact base rows at_ a
  | succ m ih =>
    intro rows at_ a b h h0 h1 h2 h3 h4
    unfold opn
    by_cases he : a = b
    · subst he
      simp only [if_true]
      exact base rows at_ a
    · simp only [he, if_false]
      by_cases hc : at_ < p.length ∧ a ≤ gI p at_ ∧ gI p at_ < b
      · rw [if_pos hc]
        have w1 : IntKind.i64.wrap ((at_ : Int) + 1) = (at_ : Int) + 1 := wrap64 (by omega) (by omega)
        have c1 : ((at_ + 1 : Nat) : Int) = (at_ : Int) + 1 := by omega
        have hs : ∀ {R : AV × List Row × Option Nat → Prop}, (Jc64s32 F (.fn [.t 8, .t 9, .t 10]) v (.int .i64 at_) (.int .i64 a) (.int .i64 b) rows rows.length fun r => R (fin rows r.1 r.2.1 r.2.2)) → ∃ q, Ret F 64 [v, .int .i64 at_, .int .i64 a, .int .i64 b] rows = some q ∧ R q := by
          intro R hq
          refine Ret_mk' F64 (show Ex F (.fn [.t 8, .t 9, .t 10]) [.code c64b] ⟨mk 113 [(0, v), (1, .int .i64 at_), (2, .int .i64 a), (3, .int .i64 b)], rows, rows.length⟩ (fun r => R (fin rows r.1 r.2.1 r.2.2)) from ?_)
          simp [-uc64s36, jc64s36, he]
          unfold Jc64s36
          simp (disch := first | omega | (simp; done) | fail) [-uc64s32, jc64s32, lenL0 h, idxL0 h, loadL0 h, hc.1, show ¬ (gI p at_ < a) from by omega, show ¬ (b ≤ gI p at_) from by omega, show ¬ (p.length ≤ at_) from by omega]
          exact hq
        have hL := ih rows (at_ + 1) a (gI p at_) h h0 hc.2.1 (by omega) (by omega) (by omega)
        cases hx : opn p m (at_ + 1) a (gI p at_) with
        | none =>
          simp only [hx] at hL
          rw [c1] at hL
          dsimp only
          obtain ⟨q, hq, rfl⟩ := hs (R := fun z => z = (.tup [.nilslice, .int .i64 at_, .bool false], rows, none)) (by
            unfold Jc64s32
            simp (disch := first | omega | (simp; done) | fail) [-uc64s24, jc64s24, lenL0 h, idxL0 h, loadL0 h, hc.1, w1]
            rw [hL]
            simp [-uc64s24, jc64s24])
          exact hq
        | some q1 =>
          obtain ⟨x, n1⟩ := q1
          simp only [hx] at hL
          rw [c1] at hL
          obtain ⟨xv, X1, e1, hxL, hu1, _⟩ := hL
          have l1 := opn_len _ _ _ _ _ _ hx hc.2.1 (by omega)
          have wg : IntKind.i64.wrap (gI p at_ + 1) = gI p at_ + 1 := wrap64 (by omega) (by omega)
          have hR := ih (rows ++ X1) n1 (gI p at_ + 1) b (IsL_app h X1) (by omega) (by omega) h2 l1.2.1 (by omega)
          have hs2 : ∀ {R : AV × List Row × Option Nat → Prop}, (Jc64s24 F (.fn [.t 8, .t 9, .t 10]) v (.int .i64 at_) (.int .i64 b) (.int .i64 (gI p at_)) xv (.int .i64 n1) (rows ++ X1) rows.length fun r => R (fin rows r.1 r.2.1 r.2.2)) → ∃ q, Ret F 64 [v, .int .i64 at_, .int .i64 a, .int .i64 b] rows = some q ∧ R q := by
            intro R hq
            refine hs ?_
            unfold Jc64s32
            simp (disch := first | omega | (simp; done) | fail) [-uc64s24, jc64s24, lenL0 h, idxL0 h, loadL0 h, hc.1, w1]
            rw [e1]
            simp [-uc64s24, jc64s24, -lowO, lowO_n]
            exact hq
          dsimp only
          cases hy : opn p m n1 (gI p at_ + 1) b with
          | none =>
            simp only [hy] at hR
            dsimp only
            obtain ⟨q, hq, rfl⟩ := hs2 (R := fun z => z = (.tup [.nilslice, .int .i64 at_, .bool false], rows, none)) (by
              unfold Jc64s24
              simp (disch := first | omega | (simp; done) | fail) [-uc64s18, jc64s18, wg]
              rw [hR]
              simp [-uc64s18, jc64s18, -lowO, lowO_n])
            exact hq
          | some q2 =>
            obtain ⟨y, n2⟩ := q2
            simp only [hy] at hR
            obtain ⟨yv, X2, e2, hyL, hu2, _⟩ := hR
            have l2 := opn_len _ _ _ _ _ _ hy (by omega) l1.2.1
            dsimp only
            have hlen : ((x ++ y).map (gI p at_ :: ·)) ≠ [] := by
              intro e
              have h5 := congrArg List.length e
              rw [List.length_map, List.length_append, List.length_nil] at h5
              have := l1.2.2.1
              omega
            have hU : Und rows (X1 ++ X2) := Und_app hu1 hu2
            obtain ⟨H', ov', hA, hU', hq⟩ : ∃ H' ov', Acc (rows ++ X1 ++ X2) H' ov' ((x ++ y).map (gI p at_ :: ·)) ∧ Und (rows ++ X1 ++ X2) H' ∧ Ret F 64 [v, .int .i64 at_, .int .i64 a, .int .i64 b] rows = some (.tup [ov', .int .i64 n2, .bool true], rows ++ (X1 ++ X2 ++ H'), none) := by
              have hxb := l1.2.2.2
              have hyb := l2.2.2.2
              have hlp := opened_loop (B := rows ++ X1 ++ X2) (low := rows.length) (xv := xv) (yv := yv) (ev := .int .i64 n2) (g := gI p at_) (r := fun r => (fun z : AV × List Row × Option Nat => ∃ H' ov', Acc (rows ++ X1 ++ X2) H' ov' ((x ++ y).map (gI p at_ :: ·)) ∧ Und (rows ++ X1 ++ X2) H' ∧ z = (.tup [ov', .int .i64 n2, .bool true], rows ++ (X1 ++ X2 ++ H'), none)) (fin rows r.1 r.2.1 r.2.2)) (by simp <;> omega) (IsLL_app hxL X2) hyL (by have := l1.2.2.1; have := l2.2.2.1; omega)
                (fun l hl => by have := (hxb l hl).1; omega) (fun l hl => by have := (hyb l hl).1; omega)
                (fun H' ov' hA hU' => ⟨H', ov', hA, hU', by
                  have hA2 := hA
                  rw [List.append_assoc rows] at hA2
                  have := Acc_fin hA2 hlen (k := .i64) (e := n2) (t := true)
                  rw [← List.append_assoc rows] at this
                  simpa using this⟩) _ 0 [] .nilslice rfl (by omega) (.inl ⟨by simp, rfl⟩) (fun y hy => by simp at hy)
              obtain ⟨q, hq, H', ov', hA, hU', rfl⟩ := hs2 (R := fun z : AV × List Row × Option Nat => ∃ H' ov', Acc (rows ++ X1 ++ X2) H' ov' ((x ++ y).map (gI p at_ :: ·)) ∧ Und (rows ++ X1 ++ X2) H' ∧ z = (.tup [ov', .int .i64 n2, .bool true], rows ++ (X1 ++ X2 ++ H'), none)) (by
                unfold Jc64s24
                simp (disch := first | omega | (simp; done) | fail) [-uc64s18, jc64s18, wg, -List.append_assoc]
                rw [e2]
                simp [-uc64s18, jc64s18, -lowO, lowO_n, -List.append_assoc]
                unfold Jc64s18
                simp [-List.append_assoc]
                simpa [-List.append_assoc] using hlp)
              exact ⟨H', ov', hA, hU', hq⟩
            rw [List.append_assoc rows] at hA hU'
            refine ⟨ov', X1 ++ X2 ++ H', hq, ?_, Und_app hU hU', Acc_Shp hA hlen⟩
            have := Acc_LL hA
            rwa [List.append_assoc] at this
      · rw [if_neg hc]
        refine i64 F64 ?_
        simp [-uc64s36, jc64s36, he]
        unfold Jc64s36
        by_cases h5 : at_ < p.length
        · by_cases h6 : gI p at_ < a
          · simp (disch := first | omega | (simp; done) | fail) [-uc64s32, jc64s32, lenL0 h, idxL0 h, loadL0 h, h5, h6, show ¬ (p.length ≤ at_) from by omega]
          · simp (disch := first | omega | (simp; done) | fail) [-uc64s32, jc64s32, lenL0 h, idxL0 h, loadL0 h, h5, h6, show ¬ (p.length ≤ at_) from by omega, show b ≤ gI p at_ from by omega]
        · simp (disch := first | omega | (simp; done) | fail) [-uc64s32, jc64s32, lenL0 h, h5, show p.length ≤ at_ from by omega]
/-- The reference's Opened. -/
def opnAll (p : List Int) (n : Nat) : Option (List (List Int)) := match opn p n 0 0 n with
  | some (ls, k) => if k = p.length then some ls else none
  | none => none
theorem Opened_ret {p : List Int} (hpl : p.length < 4611686018427387904) {v : AV} {rows : List Row} {n : Nat} (h : IsL rows v p) (hn : n ≤ 40) :
    match opn p n 0 0 n with
    | none => Ret F 31 [.int .i64 n, v] rows = some (.tup [.nilslice, .bool false], rows, none)
    | some (ls, k) => ∃ lv X, Ret F 31 [.int .i64 n, v] rows = some (.tup [lv, .bool (decide (k = p.length))], rows ++ X, none) ∧ IsLL (rows ++ X) lv ls ∧ Und rows X := by
  have h1 := opened_ret hpl n rows 0 0 n h (by omega) (by omega) (by omega) (by omega) (by omega)
  cases ho : opn p n 0 0 n with
  | none =>
    simp only [ho] at h1
    refine i31 F31 ?_
    have h2 : Ret F 64 [v, .int .i64 0, .int .i64 0, .int .i64 n] rows = some (.tup [.nilslice, .int .i64 0, .bool false], rows, none) := h1
    simp [h2]
  | some q =>
    obtain ⟨ls, k⟩ := q
    simp only [ho] at h1
    obtain ⟨lv, X, h2, h3, h4, h5⟩ := h1
    have h2' : Ret F 64 [v, .int .i64 0, .int .i64 0, .int .i64 n] rows = some (.tup [lv, .int .i64 k, .bool true], rows ++ X, none) := h2
    obtain ⟨lv', X', h6, h7, h8⟩ := fin_LL (t := decide (k = p.length)) h5 h3 h4
    refine ⟨lv', X', ?_, h7, h8⟩
    refine i31 F31 ?_
    simp [h2', lenL h, -lowO, lowO_n, -decide_eq_decide]
    have e7 : decide ((k : Int) = p.length) = decide (k = p.length) := by simp only [decide_eq_decide]; omega
    rw [e7]
    simpa using h6
end Go.Abs

set_option linter.unusedVariables false
set_option linter.unusedSimpArgs false
namespace Go.Abs
open Rd (Cp IsL_one IsL_cells IsL_tail lowO_n)
section
variable {rows T : List Row} {r : AV × List Row × Nat → Prop}
/-- A gate's cost is added to the pieces from a to b. -/
def addP (c : List Int) (f : Nat → Int) (g a b : Int) : Nat → Int := fun j => if a ≤ (j : Int) ∧ (j : Int) ≤ b then IntKind.i64.wrap (f j + gI c g.toNat) else f j
set_option maxHeartbeats 4000000 in
theorem prices_in {cv : AV} {c : List Int} {n N : Nat} {a b g : Int} (h : IsL rows cv c) (hn : n ≤ 12) (hg0 : 0 ≤ g) (hg : g < c.length) (ha : 0 ≤ a) (hb : b ≤ n)
    (hN : ∀ o s, row? (rows ++ (.cells [cv] :: o :: s :: T)) N = some [.int .i64 a, .int .i64 b]) : ∀ (m : Nat) (i : Nat) (f : Nat → Int) (low : Nat), (b + 1 - i).toNat = m → (i : Int) ≤ b + 1 → rows.length + 1 ≤ low →
    r (.tup [], rows ++ (.cells [cv] :: .cells (nums .i64 (tab (n + 1) (addP c f g i b))) :: .cells [.slice (rows.length + 1) 0 (n + 1) (.at_ (n + 1))] :: T), if (i : Int) ≤ b then rows.length + 1 else low) →
    Lc88l0 F (.fn []) (.int .i64 g) (.ptr (rows.length + 2) 0) (.ptr rows.length 0) (.ptr N 0) (.int .i64 i) (rows ++ (.cells [cv] :: .cells (nums .i64 (tab (n + 1) f)) :: .cells [.slice (rows.length + 1) 0 (n + 1) (.at_ (n + 1))] :: T)) low r := by
  intro m
  induction m with
  | zero =>
    intro i f low hm h1 hlow hr
    have hi : ¬ ((i : Int) ≤ b) := by omega
    have e : tab (n + 1) (addP c f g i b) = tab (n + 1) f := tab_congr fun j _ => by unfold addP; rw [if_neg (by omega)]
    rw [e, if_neg hi] at hr
    unfold Lc88l0
    simp [hN, hi]
    exact hr
  | succ m ih =>
    intro i f low hm h1 hlow hr
    have hi : (i : Int) ≤ b := by omega
    have hin : i < n + 1 := by omega
    have w1 : IntKind.i64.wrap ((i : Int) + 1) = i + 1 := wrap64 (by omega) (by omega)
    have hlw : lower low (rows.length + 1) = rows.length + 1 := by unfold lower; split <;> omega
    unfold Lc88l0
    simp (disch := first | omega | (simp; done) | fail) [hN, hi, hin, idxL h, loadL h, w1, hlw]
    have := ih (i + 1) (fun j => if j = i then IntKind.i64.wrap (f i + gI c g.toNat) else f j) (rows.length + 1) (by omega) (by omega) (Nat.le_refl _) (by
      rw [if_pos hi] at hr
      have e : tab (n + 1) (addP c (fun j => if j = i then IntKind.i64.wrap (f i + gI c g.toNat) else f j) g ((i + 1 : Nat) : Int) b) = tab (n + 1) (addP c f g i b) := tab_congr fun j _ => by
        unfold addP
        dsimp only
        by_cases e1 : j = i
        · subst e1
          rw [if_neg (by omega), if_pos rfl, if_pos (by omega)]
        · rw [if_neg e1]
          by_cases e2 : ((i + 1 : Nat) : Int) ≤ j ∧ (j : Int) ≤ b
          · rw [if_pos e2, if_pos (by omega)]
          · rw [if_neg e2, if_neg (by omega)]
      rw [e]
      split <;> exact hr)
    rw [tab_set]
    simpa using this

/-- Prices: what 'read' is given. -/
def DP (rows : List Row) (cv : AV) (c : List Int) : Rd (Nat → Int) (Nat → Int) where
  R0 := rows ++ [.cells [cv]]
  E f := [.cells (nums .i64 (tab (c.length + 1) f)), .cells [.slice (rows.length + 1) 0 (c.length + 1) (.at_ (c.length + 1))]]
  eN := 2
  nb := c.length
  lo := rows.length
  own _ := []
  fid := 88
  cs := [.ptr (rows.length + 2) 0, .ptr rows.length 0]
  st := addP c
  P t s h := t = s ∧ rows.length + 2 ≤ h.length
  B _ _ := True
theorem DP_H (rows : List Row) (cv : AV) (c : List Int) (f : Nat → Int) (pv w : AV) (G : List Row) : (DP rows cv c).H f pv w G = rows ++ (.cells [cv] :: .cells (nums .i64 (tab (c.length + 1) f)) :: .cells [.slice (rows.length + 1) 0 (c.length + 1) (.at_ (c.length + 1))] :: ((DP rows cv c).Q pv w ++ G)) := by
  simp [Rd.H, DP]
theorem DP_ok {cv : AV} {c : List Int} (h : IsL rows cv c) (hn : c.length ≤ 12) : (DP rows cv c).OK := by
  refine ⟨fun _ _ _ _ _ _ => trivial, fun _ _ _ _ _ => trivial, hn, by simp [DP], ?_, ?_, ?_, ?_, ?_, ?_, ?_⟩
  · intro t s h i hP hi; simp [DP] at hi
  · intro s; rfl
  · intro t s h L hP; exact ⟨hP.1, by simp; exact Nat.le_trans hP.2 (by omega)⟩
  · intro t s pv pv' w G hP
    refine ⟨hP.1, ?_⟩
    have := hP.2
    rw [DP_H] at this ⊢
    simp [Rd.Q] at this ⊢
  · intro t s h b hP hb hu
    refine ⟨hP.1, ?_⟩
    have := hP.2
    simp [DP, Row.under, AV.under] at hu
    simp
    omega
  · intro t s h hP
    have := hP.2
    simp [DP, Row.under, AV.under]
    omega
  · intro t s pv w G g a b hP _ h0 ha hg hb
    obtain ⟨rfl, hlen⟩ := hP
    have hb' : b ≤ (c.length : Int) := hb
    obtain ⟨i, rfl⟩ : ∃ i : Nat, a = i := ⟨a.toNat, by omega⟩
    have hl := DP_H rows cv c t pv w G
    have hN : ∀ o s, row? (rows ++ (.cells [cv] :: o :: s :: ((DP rows cv c).Q pv w ++ G ++ [.cells [.int .i64 i, .int .i64 b]]))) ((DP rows cv c).H t pv w G).length = some [.int .i64 i, .int .i64 b] := by
      intro o s
      have e : rows ++ (.cells [cv] :: o :: s :: ((DP rows cv c).Q pv w ++ G ++ [.cells [.int .i64 i, .int .i64 b]])) = (rows ++ (.cells [cv] :: o :: s :: ((DP rows cv c).Q pv w ++ G))) ++ [.cells [.int .i64 i, .int .i64 b]] := by simp
      rw [e]
      exact rowA0 (by rw [hl]; simp)
    have hlt : rows.length + 1 < ((DP rows cv c).H t pv w G).length := by rw [hl]; simp [Rd.Q]
    have hloop := fun r hr => prices_in (r := r) (T := (DP rows cv c).Q pv w ++ G ++ [.cells [.int .i64 i, .int .i64 b]]) h hn (by omega : 0 ≤ g) (by omega) h0 hb' hN _ i t ((DP rows cv c).H t pv w G).length rfl (by omega) (by omega) hr
    have hfin : ∃ G', fin ((DP rows cv c).H t pv w G) (.tup []) ((DP rows cv c).H (addP c t g i b) pv w (G ++ [.cells [.int .i64 i, .int .i64 b]])) (rows.length + 1) = (.tup [], (DP rows cv c).H (addP c t g i b) pv w G', some (rows.length + 1)) ∧ ∃ L, G' = G ++ L := by
      rw [fin_lt (by omega)]
      rcases gc_cases ((DP rows cv c).H t pv w G).length (rows.length + 1) (.tup []) ((DP rows cv c).H (addP c t g i b) pv w (G ++ [.cells [.int .i64 i, .int .i64 b]])) with e | ⟨e, _⟩
      · exact ⟨_, by rw [e], _, rfl⟩
      · refine ⟨G, ?_, [], by simp⟩
        rw [e]
        have e2 : ((DP rows cv c).H (addP c t g i b) pv w (G ++ [.cells [.int .i64 i, .int .i64 b]])) = (DP rows cv c).H (addP c t g i b) pv w G ++ [.cells [.int .i64 i, .int .i64 b]] := by simp [Rd.H]
        rw [e2, List.take_append_of_le_length (by rw [hl, DP_H]; simp), List.take_of_length_le (by rw [hl, DP_H]; simp)]
    obtain ⟨G', hf, L, hL⟩ := hfin
    refine ⟨addP c t g i b, G', some (rows.length + 1), ?_, ⟨rfl, ?_⟩, ⟨?_, ?_, fun i hi => by simp [DP] at hi⟩, .inr ⟨_, rfl, by simp [DP], by simp [DP]⟩⟩
    · show Ret F 88 [.int .i64 g, pt i b, .ptr (rows.length + 2) 0, .ptr rows.length 0] _ = _
      refine i88 F88 ?_
      simp [seg]
      have := hloop (fun r => fin ((DP rows cv c).H t pv w G) r.1 r.2.1 r.2.2 = (.tup [], (DP rows cv c).H (addP c t g i b) pv w G', some (rows.length + 1))) (by
        rw [if_pos (by omega)]
        rw [← hf, DP_H rows cv c (addP c t g i b)]
        simp)
      rw [hl] at this ⊢
      simpa using this
    · rw [DP_H]; simp
    · rw [hL, hl, DP_H]; simp
    · intro j hj1 hj2 _
      rw [hL, hl, DP_H]
      rw [hl] at hj1
      have hA : (DP rows cv c).A = rows.length + 3 := by simp [Rd.A, DP]
      have e3 : ∀ o, ∀ L' : List Row, (rows ++ (.cells [cv] :: .cells o :: .cells [.slice (rows.length + 1) 0 (c.length + 1) (.at_ (c.length + 1))] :: L'))[j]? = L'[j - (rows.length + 3)]? := by
        intro o L'
        rw [List.getElem?_append_right (by omega), show j - rows.length = (j - (rows.length + 3)) + 3 from by omega]
        rfl
      rw [e3, e3, ← List.append_assoc, List.getElem?_append_left]
      simp at hj1 ⊢
      omega

/-- What prices comes to: none, if it is no plan. -/
def pricesF (c l : List Int) : Option (Nat → Int) :=
  match rdP (addP c) c.length 0 c.length l (fun _ => 0) with
  | (true, [], f) => some f
  | _ => none
set_option maxHeartbeats 2000000 in
/-- search.prices. -/
theorem prices_ret {cv pv : AV} {c l : List Int} (hc : IsL rows cv c) (hn : c.length ≤ 12) (hl : IsL rows pv l) (hp : Cp 1 pv) : Ret F 61 [cv, pv] rows = some (match pricesF c l with
    | some f => (.slice rows.length 0 (c.length + 1) (.at_ (c.length + 1)), rows ++ [.cells (nums .i64 (tab (c.length + 1) f))], none)
    | none => (.nilslice, rows, none)) := by
  have hR0 : (DP rows cv c).R0 = rows ++ [.cells [cv]] := rfl
  obtain ⟨s', G', d, hr, hP, hd⟩ := Rd.read_ret (DP_ok hc hn) (n := c.length) (Nat.le_refl _) (l := l) (t := fun _ => 0) (s := fun _ => 0) (pv := pv) (by rw [hR0]; exact IsL_app hl _) hp ⟨rfl, by simp [DP]⟩ trivial
  have hz : (DP rows cv c).R0 ++ (DP rows cv c).E (fun _ => 0) = rows ++ [.cells [cv], .cells (nums .i64 (tab (c.length + 1) fun _ => 0)), .cells [.slice (rows.length + 1) 0 (c.length + 1) (.at_ (c.length + 1))]] := by simp [DP]
  have hs : (DP rows cv c).R0 ++ (DP rows cv c).E s' ++ G' = rows ++ (.cells [cv] :: .cells (nums .i64 (tab (c.length + 1) s')) :: .cells [.slice (rows.length + 1) 0 (c.length + 1) (.at_ (c.length + 1))] :: G') := by simp [DP]
  rw [hz, hs] at hr
  have hs' := hP.1
  have hlow : lowO rows.length d = rows.length := by
    rcases hd with ⟨rfl, _⟩ | ⟨lw, rfl, h1, _⟩
    · rfl
    · exact lower_ge h1
  have e0 : tab (c.length + 1) (fun _ => 0) = List.replicate (c.length + 1) 0 := by simp [tab, List.map_const']
  rw [e0] at hr
  have hone := IsL_one hc
  have hcell := IsL_cells hc
  have wl : IntKind.i64.wrap ((c.length : Int) + 1) = c.length + 1 := wrap64 (by omega) (by omega)
  have hl1 : (c.length : Int) + 1 ≤ 1073741824 := by omega
  have hl0 : 0 ≤ (c.length : Int) + 1 := by omega
  have hwh : ∀ L, Ret F 60 [cv] (rows ++ L) = some (pt 0 c.length, rows ++ L, none) := fun L => whole_ret (IsL_app hc L)
  have hr' : Ret F 62 [pv, pt 0 c.length, .func 88 [.ptr (rows.length + 2) 0, .ptr rows.length 0]] (rows ++ [.cells [cv], .cells (nums .i64 (List.replicate (c.length + 1) 0)), .cells [.slice (rows.length + 1) 0 (c.length + 1) (.at_ (c.length + 1))]]) = _ := hr
  unfold pricesF
  refine i61 F61 ?_
  have hst : (DP rows cv c).st = addP c := rfl
  rw [hst] at hr' hs'
  generalize rdP (addP c) c.length 0 c.length l (fun _ => 0) = r1 at *
  obtain ⟨ok, l1, f⟩ := r1
  simp only at hs' hr' ⊢
  subst hs'
  cases ok with
  | false =>
    simp [-lowO, lowO_n, hone, hcell, lenL hc, wl, lim, hl1, hl0, nums_rep, hwh, hr', hlow]
  | true =>
    cases l1 with
    | nil =>
      simp [-lowO, lowO_n, hone, hcell, lenL hc, wl, lim, hl1, hl0, nums_rep, hwh, hr', hlow]
      exact fin_slice (k := 1) rfl nums_ids
    | cons x y =>
      simp [-lowO, lowO_n, hone, hcell, lenL hc, wl, lim, hl1, hl0, nums_rep, hwh, hr', hlow]

/-- search.Prices, of costs that are right. -/
theorem Prices_ret {cv pv : AV} {c l : List Int} (hc : IsL rows cv c) (hn : c.length ≤ 12) (hall : (c.all fun x => decide (1 ≤ x ∧ x ≤ 1000)) = true) (hl : IsL rows pv l) (hp : Cp 1 pv) : Ret F 29 [cv, pv] rows = some (match pricesF c l with
    | some f => (.tup [.slice rows.length 0 (c.length + 1) (.at_ (c.length + 1)), .int .i64 0], rows ++ [.cells (nums .i64 (tab (c.length + 1) f))], none)
    | none => (.tup [.nilslice, .int .i64 1], rows, none)) := by
  have h1 := Check_ret hc (by omega)
  rw [if_pos ⟨hn, hall⟩] at h1
  have h2 := prices_ret hc hn hl hp
  refine i29 F29 ?_
  cases e : pricesF c l with
  | none =>
    rw [e] at h2
    simp [h1, h2]
  | some f =>
    rw [e] at h2
    simp [h1, h2]
    exact fin_slice_int (k := 0) rfl nums_ids
/-- search.Prices, of costs that are none. -/
theorem Prices_bad {cv pv : AV} {c : List Int} (hc : IsL rows cv c) (hl : c.length < 4611686018427387904) (hbad : ¬ (c.length ≤ 12 ∧ (c.all fun x => decide (1 ≤ x ∧ x ≤ 1000)) = true)) : Ret F 29 [cv, pv] rows = some (.tup [.nilslice, .int .i64 80], rows, none) := by
  have h1 := Check_ret hc hl
  rw [if_neg hbad] at h1
  refine i29 F29 ?_
  simp [h1]
end
end Go.Abs

set_option linter.unusedVariables false
set_option linter.unusedSimpArgs false
namespace Go.Abs
open Rd (Cp IsL_one IsL_cells IsL_tail lowO_n)
section
variable {rows T : List Row}
def addA (piece : Int) (t : List Int) (g a b : Int) : List Int := if a ≤ piece ∧ piece ≤ b then t ++ [g] else t
/-- Answer: what 'read' is given. -/
def DA (rows : List Row) (piece : Int) (n : Nat) : Rd (List Int) AV where
  R0 := rows ++ [.cells [.int .i64 piece]]
  E v := [.cells [v]]
  eN := 1
  nb := n
  lo := rows.length
  own v := match v with
    | .slice id _ _ _ => [id]
    | _ => []
  fid := 63
  cs := [.ptr rows.length 0, .ptr (rows.length + 1) 0]
  st := addA piece
  P t v h := (t = [] ∧ v = .nilslice) ∨ ∃ id, v = .slice id 0 t.length (.op 1) ∧ rows.length + 6 ≤ id ∧ cells? h id = some (nums .i64 t) ∧ t ≠ []
  B t k := t.length + k ≤ 1000
theorem DA_H (rows : List Row) (piece : Int) (n : Nat) (v pv w : AV) (G : List Row) : (DA rows piece n).H v pv w G = rows ++ (.cells [.int .i64 piece] :: .cells [v] :: ((DA rows piece n).Q pv w ++ G)) := by
  simp [Rd.H, DA]
theorem cells?_lt {rows : List Row} {i : Nat} {vs : List AV} (h : cells? rows i = some vs) : i < rows.length := row?_lt (cells?_row h)
theorem DA_ok {piece : Int} {n : Nat} (hn : n ≤ 12) : (DA rows piece n).OK := by
  have hA : (DA rows piece n).A = rows.length + 2 := by simp [Rd.A, DA]
  have hget : ∀ v pv w G i, rows.length + 6 ≤ i → ((DA rows piece n).H v pv w G)[i]? = G[i - (rows.length + 6)]? := by
    intro v pv w G i hi
    rw [DA_H, List.getElem?_append_right (by omega), show i - rows.length = (i - (rows.length + 6)) + 6 from by omega]
    rfl
  refine ⟨?_, fun t k j h1 h2 => (by have h1 : t.length + k ≤ 1000 := h1; show t.length + j ≤ 1000; omega), hn, by simp [DA], ?_, ?_, ?_, ?_, ?_, ?_, ?_⟩
  · intro t k g a b h1
    have h1 : t.length + (k + 1) ≤ 1000 := h1
    show (addA piece t g a b).length + k ≤ 1000
    unfold addA
    split
    · simp; omega
    · omega
  · intro t s h i hP hi
    rcases hP with ⟨_, rfl⟩ | ⟨id, rfl, h1, h2, h3⟩
    · simp [DA] at hi
    · simp [DA] at hi; subst hi; exact cells?_lt h2
  · intro s; rfl
  · intro t s h L hP
    rcases hP with e | ⟨id, e, h1, h2, h3⟩
    · exact .inl e
    · exact .inr ⟨id, e, h1, cells?_old h2 L, h3⟩
  · intro t s pv pv' w G hP
    rcases hP with e | ⟨id, e, h1, h2, h3⟩
    · exact .inl e
    · refine .inr ⟨id, e, h1, ?_, h3⟩
      unfold cells? at h2 ⊢
      rwa [hget _ _ _ _ _ h1] at h2 ⊢
  · intro t s h b hP hb hu
    rcases hP with e | ⟨id, e, h1, h2, h3⟩
    · exact .inl e
    · refine .inr ⟨id, e, h1, ?_, h3⟩
      subst e
      simp [DA, Row.under, AV.under] at hu
      unfold cells? at h2 ⊢
      rwa [List.getElem?_take, if_pos hu]
  · intro t s h hP
    rcases hP with ⟨_, rfl⟩ | ⟨id, rfl, h1, h2, h3⟩
    · simp [DA, Row.under, AV.under]
    · have := cells?_lt h2
      simp [DA, Row.under, AV.under]
      exact this
  · intro t v pv w G g a b hP hB h0 ha hg hb
    have hB : t.length + 1 ≤ 1000 := hB
    have hl := DA_H rows piece n v pv w G
    have hlen : ((DA rows piece n).H v pv w G).length = rows.length + 6 + G.length := by rw [hl]; simp [Rd.Q]; omega
    by_cases hc : a ≤ piece ∧ piece ≤ b
    · have hst : (DA rows piece n).st t g a b = t ++ [g] := by simp [DA, addA, hc]
      rw [hst]
      have e1 : ∀ L, row? ((DA rows piece n).H v pv w G ++ L) rows.length = some [.int .i64 piece] := fun L => by rw [hl]; simp
      have e2 : ∀ L, row? ((DA rows piece n).H v pv w G ++ L) (rows.length + 1) = some [v] := fun L => by rw [hl]; simp
      have hone : v.one = true := by
        rcases hP with ⟨_, rfl⟩ | ⟨id, rfl, _⟩ <;> rfl
      have htmp : ∀ x : Int, El ((DA rows piece n).H v pv w G ++ [.cells [.int .i64 a, .int .i64 b], .cells [.int .i64 x]]) 1 (.slice (((DA rows piece n).H v pv w G).length + 1) 0 1 (.at_ 1)) (nums .i64 [x]) 1 := by
        intro x
        have : row? ((DA rows piece n).H v pv w G ++ [.cells [.int .i64 a, .int .i64 b], .cells [.int .i64 x]]) (((DA rows piece n).H v pv w G).length + 1) = some [.int .i64 x] := by simp
        unfold El elems
        simp only [this]
        rfl
      have hlw : lower ((DA rows piece n).H v pv w G).length (rows.length + 1) = rows.length + 1 := lower_lt (by omega)
      -- the end: nothing is dropped
      have hend : ∀ G', ((DA rows piece n).H v pv w G).length < ((DA rows piece n).H (.slice (((DA rows piece n).H v pv w G).length + 2) 0 (t.length + 1) (.op 1)) pv w G').length → fin ((DA rows piece n).H v pv w G) (.tup []) ((DA rows piece n).H (.slice (((DA rows piece n).H v pv w G).length + 2) 0 (t.length + 1) (.op 1)) pv w G') (rows.length + 1) = (.tup [], (DA rows piece n).H (.slice (((DA rows piece n).H v pv w G).length + 2) 0 (t.length + 1) (.op 1)) pv w G', some (rows.length + 1)) := by
        intro G' hlt
        rw [fin_lt (by omega)]
        rcases gc_cases ((DA rows piece n).H v pv w G).length (rows.length + 1) (.tup []) ((DA rows piece n).H (.slice (((DA rows piece n).H v pv w G).length + 2) 0 (t.length + 1) (.op 1)) pv w G') with e | ⟨e, hu⟩
        · rw [e]
        · exfalso
          have e5 : ((((DA rows piece n).H (.slice (((DA rows piece n).H v pv w G).length + 2) 0 (t.length + 1) (.op 1)) pv w G').take ((DA rows piece n).H v pv w G).length).drop (rows.length + 1))[0]? = some (.cells [.slice (((DA rows piece n).H v pv w G).length + 2) 0 (t.length + 1) (.op 1)]) := by
            rw [List.getElem?_drop, Nat.add_zero, List.getElem?_take, if_pos (by omega), DA_H _ _ _ (.slice _ _ _ _)]
            simp
          have e6 := List.all_eq_true.1 hu _ (List.mem_of_getElem? e5)
          simp [Row.under, AV.under] at e6
          try omega
      have happ : ∀ v L, (DA rows piece n).H v pv w G ++ L = (DA rows piece n).H v pv w (G ++ L) := fun v L => Rd.H_app _ _ _ _ _
      have hset : ∀ v v' G, ((DA rows piece n).H v pv w G).set (rows.length + 1) (.cells [v']) = (DA rows piece n).H v' pv w G := fun v v' G => by
        rw [DA_H, rows_set, DA_H]; rfl
      have hcs : ∀ v G, cells? ((DA rows piece n).H v pv w G) (rows.length + 1) = some [v] := fun v G => by rw [DA_H]; simp
      have hsetA : ∀ v v' G L, ((DA rows piece n).H v pv w G ++ L).set (rows.length + 1) (.cells [v']) = (DA rows piece n).H v' pv w G ++ L := fun v v' G L => by rw [Rd.H_app, hset, ← Rd.H_app]
      have hcsA : ∀ v G L, cells? ((DA rows piece n).H v pv w G ++ L) (rows.length + 1) = some [v] := fun v G L => cells?_old (hcs v G) L
      have hl3 : ∀ v G, ((DA rows piece n).H v pv w G).length = rows.length + 6 + G.length := fun v G => by rw [DA_H]; simp [Rd.Q]; omega
      have ht1 : t.length + 1 ≤ lim := by simp [lim]; omega
      generalize hv' : AV.slice (((DA rows piece n).H v pv w G).length + 2) 0 (t.length + 1) (.op 1) = v' at *
      have hv1 : v'.one = true := by rw [← hv']; rfl
      have key : ∀ G2 : List Row, G2.length = G.length → (∀ i, i ∉ (DA rows piece n).own v → rows.length + 6 ≤ i → G2[i - (rows.length + 6)]? = G[i - (rows.length + 6)]?) →
          Ret F 63 [.int .i64 g, pt a b, .ptr rows.length 0, .ptr (rows.length + 1) 0] ((DA rows piece n).H v pv w G) = some (.tup [], (DA rows piece n).H v' pv w (G2 ++ [.cells [.int .i64 a, .int .i64 b], .cells [.int .i64 g], .cells (nums .i64 (t ++ [g]))]), some (rows.length + 1)) →
          ∃ s' G' d, Ret F (DA rows piece n).fid ([.int .i64 g, pt a b] ++ (DA rows piece n).cs) ((DA rows piece n).H v pv w G) = some (.tup [], (DA rows piece n).H s' pv w G', d) ∧ (DA rows piece n).P (t ++ [g]) s' ((DA rows piece n).H s' pv w G') ∧ (DA rows piece n).Fr v ((DA rows piece n).H v pv w G) s' ((DA rows piece n).H s' pv w G') ∧ ((d = none ∧ s' = v) ∨ ∃ lw, d = some lw ∧ (DA rows piece n).lo ≤ lw ∧ lw ≤ (DA rows piece n).R0.length) := by
        intro G2 hG2 hG3 hr
        have hlen2 : ((DA rows piece n).H v' pv w (G2 ++ [.cells [.int .i64 a, .int .i64 b], .cells [.int .i64 g], .cells (nums .i64 (t ++ [g]))])).length = rows.length + 6 + G.length + 3 := by rw [DA_H]; simp [Rd.Q, hG2]; omega
        refine ⟨v', _, some (rows.length + 1), hr, .inr ⟨rows.length + 6 + G.length + 2, by rw [← hv', hlen]; simp, by omega, ?_, by simp⟩, ⟨by omega, ?_, ?_⟩, .inr ⟨_, rfl, by simp [DA], by simp [DA]⟩⟩
        · unfold cells?
          rw [hget _ _ _ _ _ (by omega), List.getElem?_append_right (by omega), show rows.length + 6 + G.length + 2 - (rows.length + 6) - G2.length = 2 from by omega]
          rfl
        · intro i h1 h2 h3
          rw [hA] at h2
          rw [hget _ _ _ _ _ (by omega), hget _ _ _ _ _ (by omega), List.getElem?_append_left (by omega)]
          exact hG3 i h3 (by omega)
        · intro i hi
          have hi' : i ∈ [((DA rows piece n).H v pv w G).length + 2] := by rw [← hv'] at hi; exact hi
          rw [List.mem_singleton] at hi'
          exact .inr (by omega)
      rcases hP with ⟨rfl, rfl⟩ | ⟨id, rfl, hid, hcl, hne⟩
      · refine key G rfl (fun _ _ _ => rfl) ?_
        refine i63 F63 ?_
        have hf := hend (G ++ [.cells [.int .i64 a, .int .i64 b], .cells [.int .i64 g], .cells (nums .i64 [g])]) (by rw [hlen, hl3]; simp)
        rw [← happ] at hf ⊢
        simp [hc.1, hc.2, e1, e2, fillA, splice, app_nil (htmp g) (by omega) (by simp [lim]), hlw, hcsA, hsetA, hv1]
        rw [show AV.slice (((DA rows piece n).H .nilslice pv w G).length + 2) 0 1 (.op 1) = v' from hv']
        exact hf
      · have hk : G[id - (rows.length + 6)]? = some (.cells (nums .i64 t)) := by
          have := cells?_get hcl
          rwa [hget _ _ _ _ _ hid] at this
        have hkl : id - (rows.length + 6) < G.length := (List.getElem?_eq_some_iff.1 hk).1
        have hsd : ∀ v L, ((DA rows piece n).H v pv w G ++ L).set id .dead = (DA rows piece n).H v pv w (G.set (id - (rows.length + 6)) .dead) ++ L := fun v L => by
          rw [List.set_append_left _ _ (by rw [hl3]; omega), DA_H, DA_H, List.set_append_right _ _ (by omega), show id - rows.length = (id - (rows.length + 6)) + 6 from by omega]
          rfl
        refine key (G.set (id - (rows.length + 6)) .dead) (by simp) (fun i h1 h2 => ?_) ?_
        · rw [List.getElem?_set_ne]
          simp [DA] at h1
          omega
        · refine i63 F63 ?_
          have hf := hend (G.set (id - (rows.length + 6)) .dead ++ [.cells [.int .i64 a, .int .i64 b], .cells [.int .i64 g], .cells (nums .i64 (t ++ [g]))]) (by rw [hlen, hl3]; simp)
          rw [← Rd.H_app] at hf ⊢
          have hcl2 := fun L => cells?_old hcl L
          have hap := fun low => app_op (low := low) (sz := 1) (b := 8) (off := 0) (hcl2 [.cells [.int .i64 a, .int .i64 b], .cells [.int .i64 g]]) (by rw [Nat.mul_one]; exact nums_all rfl) (htmp g) (by omega) ht1
          have hlw2 : lower (lower ((DA rows piece n).H (.slice id 0 t.length (.op 1)) pv w G).length id) (rows.length + 1) = rows.length + 1 := lower_lt (by unfold lower; split <;> omega)
          simp [hc.1, hc.2, e1, e2, fillA, splice, hap, hlw2, hcsA, hsetA, hv1, hsd]
          rw [show AV.slice (((DA rows piece n).H (.slice id 0 t.length (.op 1)) pv w G).length + 2) 0 (t.length + 1) (.op 1) = v' from hv']
          exact hf
    · have hst : (DA rows piece n).st t g a b = t := by simp [DA, addA, hc]
      rw [hst]
      refine ⟨v, G, none, ?_, hP, Rd.Fr.refl, .inl ⟨rfl, rfl⟩⟩
      show Ret F 63 [.int .i64 g, pt a b, .ptr rows.length 0, .ptr (rows.length + 1) 0] _ = _
      refine i63 F63 ?_
      have e1 : ∀ L, row? ((DA rows piece n).H v pv w G ++ L) rows.length = some [.int .i64 piece] := fun L => by rw [hl]; simp
      by_cases h1 : a ≤ piece
      · simp [h1, show ¬ piece ≤ b from fun e => hc ⟨h1, e⟩, e1]
      · simp [h1, e1]

/-- What Answer comes to: none, if it is no plan. -/
def answerF (n : Nat) (piece : Int) (l : List Int) : Option (List Int) :=
  match rdP (addA piece) n 0 n l [] with
  | (true, [], t) => some t
  | _ => none
set_option maxHeartbeats 2000000 in
/-- search.Answer, of costs that are right. -/
theorem Answer_ret {cv pv : AV} {c l : List Int} {piece : Int} (hc : IsL rows cv c) (hn : c.length ≤ 12) (hall : (c.all fun x => decide (1 ≤ x ∧ x ≤ 1000)) = true) (hl : IsL rows pv l) (hp : Cp 1 pv) : Ret F 30 [cv, pv, .int .i64 piece] rows = some (match answerF c.length piece l with
    | some t => if 0 ≤ piece ∧ piece ≤ c.length then (match t with
      | [] => (.tup [.nilslice, .int .i64 0], rows, none)
      | _ => (.tup [.slice rows.length 0 t.length (.op 1), .int .i64 0], rows ++ [.cells (nums .i64 t)], none)) else (.tup [.nilslice, .int .i64 1], rows, none)
    | none => (.tup [.nilslice, .int .i64 1], rows, none)) := by
  have h1 : ∀ L, Ret F 46 [cv] (rows ++ L) = some (.int .i64 0, rows ++ L, none) := fun L => by
    have := Check_ret (IsL_app hc L) (by omega)
    rwa [if_pos ⟨hn, hall⟩] at this
  have hR0 : (DA rows piece c.length).R0 = rows ++ [.cells [.int .i64 piece]] := rfl
  obtain ⟨s', G', d, hr, hP, hd⟩ := Rd.read_ret (DA_ok (rows := rows) (piece := piece) hn) (n := c.length) (Nat.le_refl _) (l := l) (t := []) (s := .nilslice) (pv := pv) (by rw [hR0]; exact IsL_app hl _) hp (.inl ⟨rfl, rfl⟩) (by show 0 + c.length ≤ 1000; omega)
  have hz : (DA rows piece c.length).R0 ++ (DA rows piece c.length).E .nilslice = rows ++ [.cells [.int .i64 piece], .cells [.nilslice]] := by simp [DA]
  have hs : (DA rows piece c.length).R0 ++ (DA rows piece c.length).E s' ++ G' = rows ++ (.cells [.int .i64 piece] :: .cells [s'] :: G') := by simp [DA]
  rw [hz, hs] at hr
  rw [hs] at hP
  have hlow : lowO rows.length d = rows.length := by
    rcases hd with ⟨rfl, _⟩ | ⟨lw, rfl, h1, _⟩
    · rfl
    · exact lower_ge h1
  have hwh : ∀ L, Ret F 60 [cv] (rows ++ L) = some (pt 0 c.length, rows ++ L, none) := fun L => whole_ret (IsL_app hc L)
  have hr' : Ret F 62 [pv, pt 0 c.length, .func 63 [.ptr rows.length 0, .ptr (rows.length + 1) 0]] (rows ++ [.cells [.int .i64 piece], .cells [.nilslice]]) = _ := hr
  have hst : (DA rows piece c.length).st = addA piece := rfl
  rw [hst] at hr' hP
  unfold answerF
  refine i30 F30 ?_
  generalize rdP (addA piece) c.length 0 c.length l [] = r1 at *
  obtain ⟨ok, l1, t⟩ := r1
  simp only at hP hr' ⊢
  cases ok with
  | false => simp [-lowO, lowO_n, h1, hwh, hr', hlow]
  | true =>
    cases l1 with
    | cons x y => simp [-lowO, lowO_n, h1, hwh, hr', hlow]
    | nil =>
      by_cases p1 : piece < 0
      · simp [-lowO, lowO_n, h1, hwh, hr', hlow, p1, show ¬ 0 ≤ piece from by omega]
      · by_cases p2 : (c.length : Int) < piece
        · simp [-lowO, lowO_n, h1, hwh, hr', hlow, p1, p2, lenL hc, show ¬ piece ≤ (c.length : Int) from by omega]
        · rcases hP with ⟨rfl, rfl⟩ | ⟨id, rfl, hid, hcl, hne⟩
          · simp [-lowO, lowO_n, h1, hwh, hr', hlow, p1, p2, lenL hc, show 0 ≤ piece from by omega, show piece ≤ (c.length : Int) from by omega]
          · obtain ⟨k, rfl⟩ : ∃ k, id = rows.length + k := ⟨id - rows.length, by omega⟩
            have hk : (Row.cells [.int .i64 piece] :: Row.cells [.slice (rows.length + k) 0 t.length (.op 1)] :: G')[k]? = some (.cells (nums .i64 t)) := by
              have := cells?_get hcl
              rwa [rows_at] at this
            simp [-lowO, lowO_n, h1, hwh, hr', hlow, p1, p2, lenL hc, show 0 ≤ piece from by omega, show piece ≤ (c.length : Int) from by omega]
            rw [fin_slice_int hk nums_ids]
end
end Go.Abs

set_option linter.unusedVariables false
set_option linter.unusedSimpArgs false
namespace Go.Abs
theorem drop_eq {p : List Int} {k : Nat} (h : k < p.length) : p.drop k = gI p k :: p.drop (k + 1) := by
  rw [List.drop_eq_getElem_cons h, gI_eq h]
theorem gLL_map {ls : List (List Int)} {g : Int} {i : Nat} (h : i < ls.length) : gLL (ls.map (g :: ·)) i = g :: gLL ls i := by
  simp [gLL, h]
theorem gLL_app1 {x y : List (List Int)} {i : Nat} (h : i < x.length) : gLL (x ++ y) i = gLL x i := by
  simp [gLL, List.getElem?_append_left h]
theorem gLL_app2 {x y : List (List Int)} {i : Nat} (h : x.length ≤ i) : gLL (x ++ y) i = gLL y (i - x.length) := by
  simp [gLL, List.getElem?_append_right h]
theorem opn_rdP {p c : List Int} (hcs : ∀ x ∈ c, 0 ≤ x ∧ x ≤ 1000) : ∀ (m at_ : Nat) (a b : Int) (t : Nat → Int), 0 ≤ a → a ≤ b → at_ ≤ p.length → b - a ≤ m → (∀ i : Nat, a ≤ i → (i : Int) ≤ b → 0 ≤ t i ∧ t i ≤ 1000000 - 1000 * m) → m ≤ 100 →
    match opn p m at_ a b with
    | none => (rdP (addP c) m a b (p.drop at_) t).1 = false
    | some (ls, n) => ∃ t', rdP (addP c) m a b (p.drop at_) t = (true, p.drop n, t') ∧ ∀ i : Nat, t' i = if a ≤ i ∧ i ≤ b then t i + sumG c (gLL ls (i - a).toNat) else t i := by
  intro m
  have base : ∀ (at_ : Nat) (a : Int) (t : Nat → Int), 0 ≤ a → ∀ i : Nat, t i = if a ≤ (i : Int) ∧ (i : Int) ≤ a then t i + sumG c (gLL [[]] ((i : Int) - a).toNat) else t i := by
    intro at_ a t h0 i
    split
    · rw [show ((i : Int) - a).toNat = 0 from by omega]
      simp [gLL, sumG]
    · rfl
  induction m with
  | zero =>
    intro at_ a b t h0 h1 h2 h3 hb hm
    have : a = b := by omega
    subst this
    unfold opn
    simp only [if_true]
    exact ⟨t, rfl, base at_ a t h0⟩
  | succ m ih =>
    intro at_ a b t h0 h1 h2 h3 hb hm
    unfold opn
    by_cases he : a = b
    · subst he
      simp only [if_true]
      exact ⟨t, by simp [rdP], base at_ a t h0⟩
    · simp only [he, if_false]
      by_cases hc : at_ < p.length ∧ a ≤ gI p at_ ∧ gI p at_ < b
      · rw [if_pos hc]
        have hr : ∀ t, rdP (addP c) (m + 1) a b (p.drop at_) t = match rdP (addP c) m a (gI p at_) (p.drop (at_ + 1)) (addP c t (gI p at_) a b) with
          | (false, l', t') => (false, l', t')
          | (true, l', t') => rdP (addP c) m (gI p at_ + 1) b l' t' := by
          intro t
          rw [drop_eq hc.1]
          simp only [rdP, he, if_false]
          rw [if_neg (by omega)]
          rcases rdP (addP c) m a (gI p at_) (p.drop (at_ + 1)) (addP c t (gI p at_) a b) with ⟨z1, z2, z3⟩
          cases z1 <;> rfl
        have hc1 : 0 ≤ gI c (gI p at_).toNat ∧ gI c (gI p at_).toNat ≤ 1000 := by
          by_cases hk : (gI p at_).toNat < c.length
          · exact hcs _ (gI_mem hk)
          · have e0 : gI c (gI p at_).toNat = 0 := by
              unfold gI
              rw [List.getD_eq_getElem?_getD, List.getElem?_eq_none (by unfold gI at hk; omega)]; rfl
            rw [e0]; omega
        have hadd : ∀ i : Nat, a ≤ (i : Int) → (i : Int) ≤ b → addP c t (gI p at_) a b i = t i + gI c (gI p at_).toNat := by
          intro i hi1 hi2
          have := hb i hi1 hi2
          simp only [addP, hi1, hi2, and_self, if_true]
          exact wrap64 (by omega) (by omega)
        have i1 := ih (at_ + 1) a (gI p at_) (addP c t (gI p at_) a b) h0 hc.2.1 (by omega) (by omega) (fun i hi1 hi2 => by
          rw [hadd i hi1 (by omega)]
          have := hb i hi1 (by omega)
          omega) (by omega)
        rw [hr]
        cases hx : opn p m (at_ + 1) a (gI p at_) with
        | none =>
          simp only [hx] at i1
          dsimp only
          generalize rdP (addP c) m a (gI p at_) (p.drop (at_ + 1)) (addP c t (gI p at_) a b) = z at *
          obtain ⟨z1, z2, z3⟩ := z
          simp only at i1
          subst i1
          rfl
        | some q1 =>
          obtain ⟨x, n1⟩ := q1
          simp only [hx] at i1
          dsimp only
          obtain ⟨t1, e1, f1⟩ := i1
          have l1 := opn_len _ _ _ _ _ _ hx hc.2.1 (by omega)
          rw [e1]
          have i2 := ih n1 (gI p at_ + 1) b t1 (by omega) (by omega) l1.2.1 (by omega) (fun i hi1 hi2 => by
            rw [f1, if_neg (by omega), hadd i (by omega) hi2]
            have := hb i (by omega) hi2
            omega) (by omega)
          cases hy : opn p m n1 (gI p at_ + 1) b with
          | none =>
            simp only [hy] at i2
            dsimp only
            exact i2
          | some q2 =>
            obtain ⟨y, n2⟩ := q2
            simp only [hy] at i2
            dsimp only
            obtain ⟨t2, e2, f2⟩ := i2
            have l2 := opn_len _ _ _ _ _ _ hy (by omega) l1.2.1
            refine ⟨t2, e2, fun i => ?_⟩
            have hx1 := l1.2.2.1
            have hy1 := l2.2.2.1
            rw [f2, f1]
            by_cases hi : a ≤ (i : Int) ∧ (i : Int) ≤ b
            · rw [if_pos hi, gLL_map (by simp; omega)]
              by_cases h4 : (i : Int) ≤ gI p at_
              · rw [if_neg (by omega), if_pos ⟨hi.1, h4⟩, gLL_app1 (by omega)]
                rw [hadd i hi.1 hi.2]
                simp only [sumG, List.map_cons, List.sum_cons]
                omega
              · rw [if_pos (by omega), if_neg (by omega), gLL_app2 (by omega), show ((i : Int) - a).toNat - x.length = ((i : Int) - (gI p at_ + 1)).toNat from by omega]
                rw [hadd i hi.1 hi.2]
                simp only [sumG, List.map_cons, List.sum_cons]
                omega
            · rw [if_neg hi, if_neg (by omega), if_neg (by omega)]
              simp [addP, hi]
      · rw [if_neg hc]
        dsimp only
        by_cases h5 : at_ < p.length
        · rw [drop_eq h5]
          simp only [rdP, he, if_false]
          rw [if_pos (by omega)]
        · rw [List.drop_eq_nil_of_le (by omega)]
          simp [rdP, he]
theorem pricesF_opn {p c : List Int} (hcs : ∀ x ∈ c, 0 ≤ x ∧ x ≤ 1000) (hn : c.length ≤ 12) :
    match opnAll p c.length with
    | none => pricesF c p = none
    | some ls => ∃ f, pricesF c p = some f ∧ ls.length = c.length + 1 ∧ ∀ i, i ≤ c.length → f i = sumG c (gLL ls i) := by
  have h := opn_rdP (p := p) hcs c.length 0 0 c.length (fun _ => 0) (by omega) (by omega) (by omega) (by omega) (fun i _ _ => by omega) (by omega)
  unfold opnAll pricesF
  rw [List.drop_zero] at h
  cases ho : opn p c.length 0 0 c.length with
  | none =>
    simp only [ho] at h
    dsimp only
    rcases hz : rdP (addP c) c.length 0 c.length p (fun _ => 0) with ⟨z1, z2, z3⟩
    rw [hz] at h
    simp only at h
    subst h
    rfl
  | some q =>
    obtain ⟨ls, k⟩ := q
    simp only [ho] at h
    obtain ⟨f, e, hf⟩ := h
    have hl := opn_len _ _ _ _ _ _ ho (by omega) (by omega)
    dsimp only
    rw [e]
    by_cases hk : k = p.length
    · rw [if_pos hk, hk, List.drop_length]
      dsimp only
      refine ⟨f, rfl, by have := hl.2.2.1; omega, fun i hi => ?_⟩
      rw [hf i, if_pos ⟨by omega, by omega⟩]
      simp
    · rw [if_neg hk]
      dsimp only
      have : p.drop k ≠ [] := fun e => hk (by have := List.drop_eq_nil_iff.1 e; have := hl.2.1; omega)
      cases hd : p.drop k with
      | nil => exact absurd hd this
      | cons z zs => rfl
end Go.Abs

set_option linter.unusedVariables false
set_option linter.unusedSimpArgs false
namespace Go.Abs
open Rd (Cp IsL_one IsL_cells IsL_tail lowO_n)
/-- What 'filled' holds while it works. -/
def TB (rows : List Row) (pv : AV) (T : List Int) (B : List Row) : Prop := ∃ G, B = rows ++ (.cells [pv] :: .cells (nums .i64 T) :: .cells [.ptr (rows.length + 1) 0] :: G)
section
variable {rows B : List Row} {pv : AV} {T T' : List Int}
theorem TB.len (h : TB rows pv T B) : rows.length + 3 ≤ B.length := by obtain ⟨G, rfl⟩ := h; simp <;> omega
theorem TB.app (h : TB rows pv T B) (L : List Row) : TB rows pv T (B ++ L) := by obtain ⟨G, rfl⟩ := h; exact ⟨G ++ L, by simp⟩
theorem TB.g0 (h : TB rows pv T B) : row? B rows.length = some [pv] := by obtain ⟨G, rfl⟩ := h; simp
theorem TB.g1 (h : TB rows pv T B) : row? B (rows.length + 1) = some (nums .i64 T) := by obtain ⟨G, rfl⟩ := h; rw [row?_at]; rfl
theorem TB.g2 (h : TB rows pv T B) : row? B (rows.length + 2) = some [.ptr (rows.length + 1) 0] := by obtain ⟨G, rfl⟩ := h; rw [row?_at]; rfl
theorem TB.c1 (h : TB rows pv T B) : B[rows.length + 1]? = some (.cells (nums .i64 T)) := by obtain ⟨G, rfl⟩ := h; rw [rows_at]; rfl
theorem TB.set (h : TB rows pv T B) : TB rows pv T' (B.set (rows.length + 1) (.cells (nums .i64 T'))) := by obtain ⟨G, rfl⟩ := h; exact ⟨G, by rw [rows_set]; rfl⟩
theorem TB.take (h : TB rows pv T B) {n : Nat} (hn : rows.length + 3 ≤ n) : TB rows pv T (B.take n) := by
  obtain ⟨G, rfl⟩ := h
  obtain ⟨m, rfl⟩ : ∃ m, n = rows.length + (m + 3) := ⟨n - rows.length - 3, by omega⟩
  exact ⟨G.take m, by rw [List.take_append, List.take_of_length_le (by omega)]; simp⟩
end
end Go.Abs

set_option linter.unusedVariables false
set_option linter.unusedSimpArgs false
namespace Go.Abs
open Rd (Cp IsL_one IsL_cells IsL_tail lowO_n)
/-- search.Worst, of costs that are none. -/
theorem Worst_bad {rows : List Row} {cv : AV} {c : List Int} (hc : IsL rows cv c) (hl : c.length < 4611686018427387904) (hbad : ¬ (c.length ≤ 12 ∧ (c.all fun x => decide (1 ≤ x ∧ x ≤ 1000)) = true)) : Ret F 28 [cv] rows = some (.tup [.int .i64 0, .nilslice, .int .i64 80], rows, none) := by
  have hone := IsL_one hc
  have hcell := IsL_cells hc
  have h1 := fun L => Check_ret (IsL_app hc L) hl
  rw [if_neg hbad] at h1
  refine i28 F28 ?_
  simp [hone, hcell, h1]
end Go.Abs

set_option linter.unusedVariables false
set_option maxRecDepth 20000
set_option maxHeartbeats 4000000
namespace Go.Abs
variable {F : Nat → Option IFn} {cx : Ctx} {k : List Itm} {s : St} {l : List (Nat × AV)} {rows : List Row} {low : Nat} {r : AV × List Row × Nat → Prop}
@[simp] theorem uc35k0 : Ex F cx (.code c35k0 :: k) ⟨mk 31 l, rows, low⟩ r ↔ bnd (evP (rows ++ maskE 0 ([] : List (Nat × Row))) (.load1 (.c (lk l 2)))) fun v0 => bnd (evP (rows ++ maskE 2 ([] : List (Nat × Row))) (.len 0 (.c v0))) fun v1 => bnd (evP (rows ++ maskE 1 ([] : List (Nat × Row))) (.nilck (.c (lk l 8)))) fun v2 => bnd (evP (rows ++ maskE 9 ([] : List (Nat × Row))) (.fieldA 0 (.c v2))) fun v3 => bnd (evP (rows ++ maskE 25 ([] : List (Nat × Row))) (.idxA 13 13 (.c v3) (.c (.int .i64 0)))) fun v4 => bnd (evP (rows ++ maskE 63 ([] : List (Nat × Row))) (.idxA 13 1 (.c v4) (.c v1))) fun v5 => bnd (evP (rows ++ maskE 127 ([] : List (Nat × Row))) (.load1 (.c v5))) fun v6 => bnd (evP (rows ++ maskE 0 ([] : List (Nat × Row))) (.load1 (.c (lk l 2)))) fun v7 => bnd (opC F (rows ++ maskE 512 ([] : List (Nat × Row))) (rows.length + ([] : List (Nat × Row)).length) [v7] (.func 60 [])) fun q8 => q8.2.2 = rows.length + ([] : List (Nat × Row)).length ∧ bnd (some (([] : List (Nat × Row)) ++ List.map (fun (x : Row) => (10, x)) (q8.2.1.drop (rows.length + ([] : List (Nat × Row)).length)))) fun e8 => bnd (opC F (rows ++ maskE 1792 e8) (rows.length + e8.length) [lk l 8, q8.1] (.func 59 [])) fun q9 => q9.2.2 = rows.length + e8.length ∧ bnd (some (e8 ++ List.map (fun (x : Row) => (11, x)) (q9.2.1.drop (rows.length + e8.length)))) fun e9 => Ex F cx k ⟨mk 31 [(6, (.int .i64 0)), (5, q9.1), (4, v6), (30, q9.1), (29, q8.1), (28, v7), (27, lk l 8), (26, v6), (25, v5), (24, v4), (23, v3), (22, v2), (21, v1), (20, v0), (19, lk l 8), (2, lk l 2), (8, lk l 8)], (rows ++ List.map (fun (x : Nat × Row) => x.2) e9), low⟩ r := reg (keep := [2, 8]) (ops := c35r0) rfl (by kernel_rfl) (by kernel_rfl)
@[simp] theorem uc35s1 : Ex F cx (.code c35s1 :: k) s r ↔ Ex F cx (.code (.seq c35k0 .ret) :: k) s r := Iff.rfl
@[simp] theorem uc35k2 : Ex F cx (.code c35k2 :: k) ⟨mk 31 l, rows, low⟩ r ↔ bnd (evP rows (.load1 (.c (lk l 2)))) fun v0 => bnd (evP rows (.len 0 (.c v0))) fun v1 => bnd (evP rows (.mkfn 66 [(.c (lk l 2)), (.c (lk l 3))])) fun v2 => bnd (Ret F 57 [v1, v2] rows) fun q3 => Ex F cx k ⟨mk 31 [(8, q3.1), (18, q3.1), (17, v2), (16, v1), (15, v0), (2, lk l 2), (3, lk l 3)], q3.2.1, (lowO low q3.2.2)⟩ r := reg (keep := [2, 3]) (ops := c35r2) rfl (by kernel_rfl) (by kernel_rfl)
@[simp] theorem uc35s3 : Ex F cx (.code c35s3 :: k) s r ↔ Ex F cx (.code (.seq c35k2 c35s1) :: k) s r := Iff.rfl
@[simp] theorem uc35k4 : Ex F cx (.code c35k4 :: k) ⟨mk 31 l, rows, low⟩ r ↔ Ex F cx k ⟨mk 31 [(6, lk l 7), (5, .nilslice), (4, (.int .i64 0)), (14, lk l 7), (7, lk l 7)], rows, low⟩ r := reg (keep := [7]) (ops := c35r4) rfl (by kernel_rfl) (by kernel_rfl)
@[simp] theorem uc35s5 : Ex F cx (.code c35s5 :: k) s r ↔ Ex F cx (.code (.cond (.t 13) (.seq c35k4 .ret) .skip) :: k) s r := Iff.rfl
@[simp] theorem uc35k6 : Ex F cx (.code c35k6 :: k) ⟨mk 31 l, rows, low⟩ r ↔ bnd (evP rows (.bin .neq (.c (lk l 7)) (.c (.int .i64 0)))) fun v0 => Ex F cx k ⟨mk 31 [(13, v0), (12, lk l 7), (2, lk l 2), (3, lk l 3), (7, lk l 7)], rows, low⟩ r := reg (keep := [2, 3, 7]) (ops := c35r6) rfl (by kernel_rfl) (by kernel_rfl)
@[simp] theorem uc35s7 : Ex F cx (.code c35s7 :: k) s r ↔ Ex F cx (.code (.seq c35k6 c35s5) :: k) s r := Iff.rfl
@[simp] theorem uc35k8 : Ex F cx (.code c35k8 :: k) ⟨mk 31 l, rows, low⟩ r ↔ bnd (evP rows (.load1 (.c (lk l 2)))) fun v0 => bnd (evP rows (.load1 (.c (lk l 3)))) fun v1 => bnd (Ret F 65 [v0, v1] rows) fun q2 => Ex F cx k ⟨mk 31 [(7, q2.1), (11, q2.1), (10, v1), (9, v0), (2, lk l 2), (3, lk l 3)], q2.2.1, (lowO low q2.2.2)⟩ r := reg (keep := [2, 3]) (ops := c35r8) rfl (by kernel_rfl) (by kernel_rfl)
@[simp] theorem uc35s9 : Ex F cx (.code c35s9 :: k) s r ↔ Ex F cx (.code (.seq (.seq c35k8 c35s7) c35s3) :: k) s r := Iff.rfl
@[simp] theorem uc35k10 : Ex F cx (.code c35k10 :: k) ⟨mk 31 l, rows, low⟩ r ↔ bnd (evE rows low (.box (.c (lk l 0)))) fun q0 => bnd (evE q0.2.1 q0.2.2 (.box (.c (lk l 1)))) fun q1 => Ex F cx k ⟨mk 31 [(6, (.int .i64 0)), (5, .nilslice), (4, (.int .i64 0)), (3, q1.1), (2, q0.1), (0, lk l 0), (1, lk l 1)], q1.2.1, q1.2.2⟩ r := reg (keep := [0, 1]) (ops := c35r10) rfl (by kernel_rfl) (by kernel_rfl)
def Jc35s3 (F : Nat → Option IFn) (cx : Ctx) (x2 x3 : AV) (rows : List Row) (low : Nat) (r : AV × List Row × Nat → Prop) : Prop := Ex F cx (.code c35s3 :: []) ⟨mk 31 [(2, x2), (3, x3)], rows, low⟩ r
theorem jc35s3 : Ex F cx (.code c35s3 :: []) ⟨mk 31 l, rows, low⟩ r ↔ Jc35s3 F cx (lk l 2) (lk l 3) rows low r := Ex_canon (keep := [2, 3]) (by kernel_rfl)
@[simp] theorem uc35b : Ex F cx (.code c35b :: k) s r ↔ Ex F cx (.code (.seq c35k10 c35s9) :: k) s r := Iff.rfl
theorem i35 {x0 x1 : AV} (hF : F 35 = some c35) {q : AV × List Row × Option Nat} (h : Ex F (.fn [.t 4, .t 5, .t 6]) [.code c35b] ⟨mk 31 [(0, x0), (1, x1)], rows, rows.length⟩ fun r => fin rows r.1 r.2.1 r.2.2 = q) : Ret F 35 [x0, x1] rows = some q := Ret_mk hF h
@[simp] theorem uc43k0 : Ex F cx (.code c43k0 :: k) ⟨mk 16 l, rows, low⟩ r ↔ bnd (Ret F 60 [lk l 0] rows) fun q0 => bnd (Ret F 62 [lk l 1, q0.1, (.func 79 [])] q0.2.1) fun q1 => Ex F cx k ⟨mk 16 [(5, (.int .i64 0)), (4, q1.1), (15, q1.1), (14, q0.1), (13, lk l 0), (12, lk l 1), (0, lk l 0), (1, lk l 1)], q1.2.1, (lowO (lowO low q0.2.2) q1.2.2)⟩ r := reg (keep := [0, 1]) (ops := c43r0) rfl (by kernel_rfl) (by kernel_rfl)
@[simp] theorem uc43s1 : Ex F cx (.code c43s1 :: k) s r ↔ Ex F cx (.code (.seq c43k0 .ret) :: k) s r := Iff.rfl
@[simp] theorem uc43k2 : Ex F cx (.code c43k2 :: k) ⟨mk 16 l, rows, low⟩ r ↔ Ex F cx k ⟨mk 16 [(5, lk l 6), (4, (.bool false)), (11, lk l 6), (6, lk l 6)], rows, low⟩ r := reg (keep := [6]) (ops := c43r2) rfl (by kernel_rfl) (by kernel_rfl)
@[simp] theorem uc43s3 : Ex F cx (.code c43s3 :: k) s r ↔ Ex F cx (.code (.cond (.t 10) (.seq c43k2 .ret) .skip) :: k) s r := Iff.rfl
@[simp] theorem uc43k4 : Ex F cx (.code c43k4 :: k) ⟨mk 16 l, rows, low⟩ r ↔ bnd (evP rows (.bin .neq (.c (lk l 6)) (.c (.int .i64 0)))) fun v0 => Ex F cx k ⟨mk 16 [(10, v0), (9, lk l 6), (0, lk l 0), (1, lk l 1), (6, lk l 6)], rows, low⟩ r := reg (keep := [0, 1, 6]) (ops := c43r4) rfl (by kernel_rfl) (by kernel_rfl)
@[simp] theorem uc43s5 : Ex F cx (.code c43s5 :: k) s r ↔ Ex F cx (.code (.seq c43k4 c43s3) :: k) s r := Iff.rfl
@[simp] theorem uc43k6 : Ex F cx (.code c43k6 :: k) ⟨mk 16 l, rows, low⟩ r ↔ bnd (Ret F 46 [lk l 0] rows) fun q0 => Ex F cx k ⟨mk 16 [(6, q0.1), (8, q0.1), (7, lk l 0), (0, lk l 0), (1, lk l 1)], q0.2.1, (lowO low q0.2.2)⟩ r := reg (keep := [0, 1]) (ops := c43r6) rfl (by kernel_rfl) (by kernel_rfl)
@[simp] theorem uc43s7 : Ex F cx (.code c43s7 :: k) s r ↔ Ex F cx (.code (.seq (.seq c43k6 c43s5) c43s1) :: k) s r := Iff.rfl
@[simp] theorem uc43k8 : Ex F cx (.code c43k8 :: k) ⟨mk 16 l, rows, low⟩ r ↔ Ex F cx k ⟨mk 16 [(5, (.int .i64 0)), (4, (.bool false)), (0, lk l 0), (1, lk l 1)], rows, low⟩ r := reg (keep := [0, 1]) (ops := c43r8) rfl (by kernel_rfl) (by kernel_rfl)
def Jc43s1 (F : Nat → Option IFn) (cx : Ctx) (x0 x1 : AV) (rows : List Row) (low : Nat) (r : AV × List Row × Nat → Prop) : Prop := Ex F cx (.code c43s1 :: []) ⟨mk 16 [(0, x0), (1, x1)], rows, low⟩ r
theorem jc43s1 : Ex F cx (.code c43s1 :: []) ⟨mk 16 l, rows, low⟩ r ↔ Jc43s1 F cx (lk l 0) (lk l 1) rows low r := Ex_canon (keep := [0, 1]) (by kernel_rfl)
@[simp] theorem uc43b : Ex F cx (.code c43b :: k) s r ↔ Ex F cx (.code (.seq c43k8 c43s7) :: k) s r := Iff.rfl
theorem i43 {x0 x1 : AV} (hF : F 43 = some c43) {q : AV × List Row × Option Nat} (h : Ex F (.fn [.t 4, .t 5]) [.code c43b] ⟨mk 16 [(0, x0), (1, x1)], rows, rows.length⟩ fun r => fin rows r.1 r.2.1 r.2.2 = q) : Ret F 43 [x0, x1] rows = some q := Ret_mk hF h
@[simp] theorem uc44k0 : Ex F cx (.code c44k0 :: k) ⟨mk 40 l, rows, low⟩ r ↔ bnd (Ret F 67 [lk l 9] rows) fun q0 => Ex F cx k ⟨mk 40 [(7, (.int .i64 0)), (6, q0.1), (39, q0.1), (38, lk l 9), (9, lk l 9)], q0.2.1, (lowO low q0.2.2)⟩ r := reg (keep := [9]) (ops := c44r0) rfl (by kernel_rfl) (by kernel_rfl)
@[simp] theorem uc44s1 : Ex F cx (.code c44s1 :: k) s r ↔ Ex F cx (.code (.seq c44k0 .ret) :: k) s r := Iff.rfl
@[simp] theorem uc44k3 : Ex F cx (.code c44k3 :: k) ⟨mk 40 l, rows, low⟩ r ↔ bnd (evP rows (.bin .add (.c (lk l 25)) (.c (.int .i64 1)))) fun v0 => Ex F cx k ⟨mk 40 [(25, v0), (37, v0), (9, lk l 9), (23, lk l 23), (24, lk l 24), (25, lk l 25)], rows, low⟩ r := reg (keep := [9, 23, 24, 25]) (ops := c44r3) rfl (by kernel_rfl) (by kernel_rfl)
@[simp] theorem uc44k4 : Ex F cx (.code c44k4 :: k) ⟨mk 40 l, rows, low⟩ r ↔ bnd (evP rows (.idxS 1 (.c (lk l 9)) (.c (lk l 10)))) fun v0 => bnd (evP rows (.load1 (.c v0))) fun v1 => bnd (evP rows (.bin .mul (.c v1) (.c (lk l 11)))) fun v2 => bnd (evP rows (.idxS 1 (.c (lk l 9)) (.c (lk l 10)))) fun v3 => bnd (evE rows low (.store1 (.c v3) (.c v2))) fun q4 => Ex F cx k ⟨mk 40 [(36, v3), (35, v2), (34, lk l 11), (33, v1), (32, v0), (31, lk l 10), (30, lk l 9), (9, lk l 9), (10, lk l 10), (11, lk l 11), (23, lk l 23), (24, lk l 24), (25, lk l 25)], q4.2.1, q4.2.2⟩ r := reg (keep := [9, 10, 11, 23, 24, 25]) (ops := c44r4) rfl (by kernel_rfl) (by kernel_rfl)
@[simp] theorem uc44k5 : Ex F cx (.code c44k5 :: k) ⟨mk 40 l, rows, low⟩ r ↔ bnd (evP rows (.idxS 1 (.c (lk l 23)) (.c (lk l 25)))) fun v0 => bnd (evP rows (.load1 (.c v0))) fun v1 => Ex F cx k ⟨mk 40 [(11, v1), (10, lk l 25), (29, v1), (28, v0), (27, lk l 25), (9, lk l 9), (23, lk l 23), (24, lk l 24), (25, lk l 25)], rows, low⟩ r := reg (keep := [9, 23, 24, 25]) (ops := c44r5) rfl (by kernel_rfl) (by kernel_rfl)
@[simp] theorem uc44s6 : Ex F cx (.code c44s6 :: k) s r ↔ Ex F cx (.code (.seq (.block 1 (.seq c44k5 c44k4)) c44k3) :: k) s r := Iff.rfl
@[simp] theorem uc44s7 : Ex F cx (.code c44s7 :: k) s r ↔ Ex F cx (.code (.seq (.cond (.t 26) .skip (.exit 0)) c44s6) :: k) s r := Iff.rfl
@[simp] theorem uc44k8 : Ex F cx (.code c44k8 :: k) ⟨mk 40 l, rows, low⟩ r ↔ bnd (evP rows (.bin .lss (.c (lk l 25)) (.c (lk l 24)))) fun v0 => Ex F cx k ⟨mk 40 [(26, v0), (9, lk l 9), (23, lk l 23), (24, lk l 24), (25, lk l 25)], rows, low⟩ r := reg (keep := [9, 23, 24, 25]) (ops := c44r8) rfl (by kernel_rfl) (by kernel_rfl)
@[simp] theorem uc44s9 : Ex F cx (.code c44s9 :: k) s r ↔ Ex F cx (.code (.block 0 (.loop c44l2)) :: k) s r := Iff.rfl
@[simp] theorem uc44k10 : Ex F cx (.code c44k10 :: k) ⟨mk 40 l, rows, low⟩ r ↔ bnd (evP rows (.len 0 (.c (lk l 1)))) fun v0 => Ex F cx k ⟨mk 40 [(25, (.int .i64 0)), (24, v0), (23, lk l 1), (1, lk l 1), (9, lk l 9)], rows, low⟩ r := reg (keep := [1, 9]) (ops := c44r10) rfl (by kernel_rfl) (by kernel_rfl)
@[simp] theorem uc44s11 : Ex F cx (.code c44s11 :: k) s r ↔ Ex F cx (.code (.seq (.seq c44k10 c44s9) c44s1) :: k) s r := Iff.rfl
@[simp] theorem uc44k12 : Ex F cx (.code c44k12 :: k) ⟨mk 40 l, rows, low⟩ r ↔ Ex F cx k ⟨mk 40 [(7, (.int .i64 1)), (6, (.int .i64 0))], rows, low⟩ r := reg (keep := []) (ops := c44r12) rfl (by kernel_rfl) (by kernel_rfl)
@[simp] theorem uc44s13 : Ex F cx (.code c44s13 :: k) s r ↔ Ex F cx (.code (.cond (.t 22) (.seq c44k12 .ret) .skip) :: k) s r := Iff.rfl
@[simp] theorem uc44k14 : Ex F cx (.code c44k14 :: k) ⟨mk 40 l, rows, low⟩ r ↔ bnd (evP rows (.eqv false .slice (.c (lk l 9)) (.c .nilslice))) fun v0 => Ex F cx k ⟨mk 40 [(22, v0), (21, lk l 9), (1, lk l 1), (9, lk l 9)], rows, low⟩ r := reg (keep := [1, 9]) (ops := c44r14) rfl (by kernel_rfl) (by kernel_rfl)
@[simp] theorem uc44s15 : Ex F cx (.code c44s15 :: k) s r ↔ Ex F cx (.code (.seq (.seq c44k14 c44s13) c44s11) :: k) s r := Iff.rfl
@[simp] theorem uc44k16 : Ex F cx (.code c44k16 :: k) ⟨mk 40 l, rows, low⟩ r ↔ bnd (Ret F 61 [lk l 0, lk l 2] rows) fun q0 => Ex F cx k ⟨mk 40 [(9, q0.1), (20, q0.1), (19, lk l 2), (18, lk l 0), (0, lk l 0), (1, lk l 1), (2, lk l 2)], q0.2.1, (lowO low q0.2.2)⟩ r := reg (keep := [0, 1, 2]) (ops := c44r16) rfl (by kernel_rfl) (by kernel_rfl)
@[simp] theorem uc44s17 : Ex F cx (.code c44s17 :: k) s r ↔ Ex F cx (.code (.seq c44k16 c44s15) :: k) s r := Iff.rfl
@[simp] theorem uc44k18 : Ex F cx (.code c44k18 :: k) ⟨mk 40 l, rows, low⟩ r ↔ Ex F cx k ⟨mk 40 [(7, lk l 8), (6, (.int .i64 0)), (17, lk l 8), (8, lk l 8)], rows, low⟩ r := reg (keep := [8]) (ops := c44r18) rfl (by kernel_rfl) (by kernel_rfl)
@[simp] theorem uc44s19 : Ex F cx (.code c44s19 :: k) s r ↔ Ex F cx (.code (.cond (.t 16) (.seq c44k18 .ret) .skip) :: k) s r := Iff.rfl
@[simp] theorem uc44k20 : Ex F cx (.code c44k20 :: k) ⟨mk 40 l, rows, low⟩ r ↔ bnd (evP rows (.bin .neq (.c (lk l 8)) (.c (.int .i64 0)))) fun v0 => Ex F cx k ⟨mk 40 [(16, v0), (15, lk l 8), (0, lk l 0), (1, lk l 1), (2, lk l 2), (8, lk l 8)], rows, low⟩ r := reg (keep := [0, 1, 2, 8]) (ops := c44r20) rfl (by kernel_rfl) (by kernel_rfl)
@[simp] theorem uc44s21 : Ex F cx (.code c44s21 :: k) s r ↔ Ex F cx (.code (.seq c44k20 c44s19) :: k) s r := Iff.rfl
@[simp] theorem uc44k22 : Ex F cx (.code c44k22 :: k) ⟨mk 40 l, rows, low⟩ r ↔ bnd (Ret F 65 [lk l 0, lk l 1] rows) fun q0 => Ex F cx k ⟨mk 40 [(8, q0.1), (14, q0.1), (13, lk l 1), (12, lk l 0), (0, lk l 0), (1, lk l 1), (2, lk l 2)], q0.2.1, (lowO low q0.2.2)⟩ r := reg (keep := [0, 1, 2]) (ops := c44r22) rfl (by kernel_rfl) (by kernel_rfl)
@[simp] theorem uc44s23 : Ex F cx (.code c44s23 :: k) s r ↔ Ex F cx (.code (.seq (.seq c44k22 c44s21) c44s17) :: k) s r := Iff.rfl
@[simp] theorem uc44k24 : Ex F cx (.code c44k24 :: k) ⟨mk 40 l, rows, low⟩ r ↔ Ex F cx k ⟨mk 40 [(7, (.int .i64 0)), (6, (.int .i64 0)), (0, lk l 0), (1, lk l 1), (2, lk l 2)], rows, low⟩ r := reg (keep := [0, 1, 2]) (ops := c44r24) rfl (by kernel_rfl) (by kernel_rfl)
def Jc44s6 (F : Nat → Option IFn) (cx : Ctx) (x9 x23 x24 x25 : AV) (rows : List Row) (low : Nat) (r : AV × List Row × Nat → Prop) : Prop := Ex F cx (.code c44s6 :: .inLoop c44l2 :: .inBlock 0 :: .code c44s1 :: []) ⟨mk 40 [(9, x9), (23, x23), (24, x24), (25, x25)], rows, low⟩ r
theorem jc44s6 : Ex F cx (.code c44s6 :: .inLoop c44l2 :: .inBlock 0 :: .code c44s1 :: []) ⟨mk 40 l, rows, low⟩ r ↔ Jc44s6 F cx (lk l 9) (lk l 23) (lk l 24) (lk l 25) rows low r := Ex_canon (keep := [9, 23, 24, 25]) (by kernel_rfl)
def Lc44l2 (F : Nat → Option IFn) (cx : Ctx) (x9 x23 x24 x25 : AV) (rows : List Row) (low : Nat) (r : AV × List Row × Nat → Prop) : Prop := Ex F cx (.code c44l2 :: .inLoop c44l2 :: .inBlock 0 :: .code c44s1 :: []) ⟨mk 40 [(9, x9), (23, x23), (24, x24), (25, x25)], rows, low⟩ r
@[simp] theorem nc44l2 : Ex F cx (.inLoop c44l2 :: .inBlock 0 :: .code c44s1 :: []) ⟨mk 40 l, rows, low⟩ r ↔ Lc44l2 F cx (lk l 9) (lk l 23) (lk l 24) (lk l 25) rows low r := loopN (keep := [9, 23, 24, 25]) (by kernel_rfl)
@[simp] theorem ec44l2 : Ex F cx (.code (.loop c44l2) :: .inBlock 0 :: .code c44s1 :: []) ⟨mk 40 l, rows, low⟩ r ↔ Lc44l2 F cx (lk l 9) (lk l 23) (lk l 24) (lk l 25) rows low r := loopE (keep := [9, 23, 24, 25]) (by kernel_rfl)
@[simp] theorem uc44l2 : Ex F cx (.code c44l2 :: k) s r ↔ Ex F cx (.code (.seq c44k8 c44s7) :: k) s r := Iff.rfl
def Jc44s11 (F : Nat → Option IFn) (cx : Ctx) (x1 x9 : AV) (rows : List Row) (low : Nat) (r : AV × List Row × Nat → Prop) : Prop := Ex F cx (.code c44s11 :: []) ⟨mk 40 [(1, x1), (9, x9)], rows, low⟩ r
theorem jc44s11 : Ex F cx (.code c44s11 :: []) ⟨mk 40 l, rows, low⟩ r ↔ Jc44s11 F cx (lk l 1) (lk l 9) rows low r := Ex_canon (keep := [1, 9]) (by kernel_rfl)
def Jc44s17 (F : Nat → Option IFn) (cx : Ctx) (x0 x1 x2 : AV) (rows : List Row) (low : Nat) (r : AV × List Row × Nat → Prop) : Prop := Ex F cx (.code c44s17 :: []) ⟨mk 40 [(0, x0), (1, x1), (2, x2)], rows, low⟩ r
theorem jc44s17 : Ex F cx (.code c44s17 :: []) ⟨mk 40 l, rows, low⟩ r ↔ Jc44s17 F cx (lk l 0) (lk l 1) (lk l 2) rows low r := Ex_canon (keep := [0, 1, 2]) (by kernel_rfl)
@[simp] theorem uc44b : Ex F cx (.code c44b :: k) s r ↔ Ex F cx (.code (.seq c44k24 c44s23) :: k) s r := Iff.rfl
theorem i44 {x0 x1 x2 : AV} (hF : F 44 = some c44) {q : AV × List Row × Option Nat} (h : Ex F (.fn [.t 6, .t 7]) [.code c44b] ⟨mk 40 [(0, x0), (1, x1), (2, x2)], rows, rows.length⟩ fun r => fin rows r.1 r.2.1 r.2.2 = q) : Ret F 44 [x0, x1, x2] rows = some q := Ret_mk hF h
@[simp] theorem uc45k0 : Ex F cx (.code c45k0 :: k) ⟨mk 25 l, rows, low⟩ r ↔ bnd (evP rows (.len 0 (.c (lk l 0)))) fun v0 => bnd (evP rows (.bin .leq (.c v0) (.c (.int .i64 12)))) fun v1 => Ex F cx k ⟨mk 25 [(2, v1), (24, v1), (23, v0), (22, lk l 0), (0, lk l 0)], rows, low⟩ r := reg (keep := [0]) (ops := c45r0) rfl (by kernel_rfl) (by kernel_rfl)
@[simp] theorem uc45s1 : Ex F cx (.code c45s1 :: k) s r ↔ Ex F cx (.code (.seq c45k0 .ret) :: k) s r := Iff.rfl
@[simp] theorem uc45k3 : Ex F cx (.code c45k3 :: k) ⟨mk 25 l, rows, low⟩ r ↔ bnd (evP rows (.bin .add (.c (lk l 3)) (.c (.int .i64 1)))) fun v0 => Ex F cx k ⟨mk 25 [(3, v0), (9, v0), (8, lk l 3), (0, lk l 0), (3, lk l 3)], rows, low⟩ r := reg (keep := [0, 3]) (ops := c45r3) rfl (by kernel_rfl) (by kernel_rfl)
@[simp] theorem uc45k4 : Ex F cx (.code c45k4 :: k) ⟨mk 25 l, rows, low⟩ r ↔ Ex F cx k ⟨mk 25 [(2, (.bool false))], rows, low⟩ r := reg (keep := []) (ops := c45r4) rfl (by kernel_rfl) (by kernel_rfl)
@[simp] theorem uc45s5 : Ex F cx (.code c45s5 :: k) s r ↔ Ex F cx (.code (.cond (.t 21) (.seq c45k4 .ret) .skip) :: k) s r := Iff.rfl
@[simp] theorem uc45k6 : Ex F cx (.code c45k6 :: k) ⟨mk 25 l, rows, low⟩ r ↔ bnd (evP rows (.idxS 1 (.c (lk l 0)) (.c (lk l 3)))) fun v0 => bnd (evP rows (.load1 (.c v0))) fun v1 => bnd (evP rows (.bin .lss (.c v1) (.c (.int .i64 1)))) fun v2 => bnd (gv v2 false (evP rows (.mv (.c (lk l 0))))) fun v3 => bnd (gv v2 false (evP rows (.mv (.c (lk l 3))))) fun v4 => bnd (gv v2 false (evP rows (.idxS 1 (.c v3) (.c v4)))) fun v5 => bnd (gv v2 false (evP rows (.load1 (.c v5)))) fun v6 => bnd (gv v2 false (evP rows (.bin .gtr (.c v6) (.c (.int .i64 1000))))) fun v7 => bnd (evP rows (.pick (.c v2) (.c (.bool true)) (.c v7))) fun v8 => Ex F cx k ⟨mk 25 [(21, v8), (20, v7), (19, v6), (18, v5), (17, v4), (16, v3), (15, v2), (14, v2), (13, v1), (12, v0), (11, lk l 3), (10, lk l 0), (0, lk l 0), (3, lk l 3)], rows, low⟩ r := reg (keep := [0, 3]) (ops := c45r6) rfl (by kernel_rfl) (by kernel_rfl)
@[simp] theorem uc45s7 : Ex F cx (.code c45s7 :: k) s r ↔ Ex F cx (.code (.seq (.block 1 (.seq c45k6 c45s5)) c45k3) :: k) s r := Iff.rfl
@[simp] theorem uc45s8 : Ex F cx (.code c45s8 :: k) s r ↔ Ex F cx (.code (.cond (.t 7) .skip (.exit 0)) :: k) s r := Iff.rfl
@[simp] theorem uc45k9 : Ex F cx (.code c45k9 :: k) ⟨mk 25 l, rows, low⟩ r ↔ bnd (evP rows (.len 0 (.c (lk l 0)))) fun v0 => bnd (evP rows (.bin .lss (.c (lk l 3)) (.c v0))) fun v1 => Ex F cx k ⟨mk 25 [(7, v1), (6, v0), (5, lk l 0), (4, lk l 3), (0, lk l 0), (3, lk l 3)], rows, low⟩ r := reg (keep := [0, 3]) (ops := c45r9) rfl (by kernel_rfl) (by kernel_rfl)
@[simp] theorem uc45s10 : Ex F cx (.code c45s10 :: k) s r ↔ Ex F cx (.code (.block 0 (.loop c45l2)) :: k) s r := Iff.rfl
@[simp] theorem uc45k11 : Ex F cx (.code c45k11 :: k) ⟨mk 25 l, rows, low⟩ r ↔ Ex F cx k ⟨mk 25 [(3, (.int .i64 0)), (0, lk l 0)], rows, low⟩ r := reg (keep := [0]) (ops := c45r11) rfl (by kernel_rfl) (by kernel_rfl)
@[simp] theorem uc45s12 : Ex F cx (.code c45s12 :: k) s r ↔ Ex F cx (.code (.seq (.seq c45k11 c45s10) c45s1) :: k) s r := Iff.rfl
@[simp] theorem uc45k13 : Ex F cx (.code c45k13 :: k) ⟨mk 25 l, rows, low⟩ r ↔ Ex F cx k ⟨mk 25 [(2, (.bool false)), (0, lk l 0)], rows, low⟩ r := reg (keep := [0]) (ops := c45r13) rfl (by kernel_rfl) (by kernel_rfl)
def Jc45s7 (F : Nat → Option IFn) (cx : Ctx) (x0 x3 : AV) (rows : List Row) (low : Nat) (r : AV × List Row × Nat → Prop) : Prop := Ex F cx (.code c45s7 :: .inLoop c45l2 :: .inBlock 0 :: .code c45s1 :: []) ⟨mk 25 [(0, x0), (3, x3)], rows, low⟩ r
theorem jc45s7 : Ex F cx (.code c45s7 :: .inLoop c45l2 :: .inBlock 0 :: .code c45s1 :: []) ⟨mk 25 l, rows, low⟩ r ↔ Jc45s7 F cx (lk l 0) (lk l 3) rows low r := Ex_canon (keep := [0, 3]) (by kernel_rfl)
def Lc45l2 (F : Nat → Option IFn) (cx : Ctx) (x0 x3 : AV) (rows : List Row) (low : Nat) (r : AV × List Row × Nat → Prop) : Prop := Ex F cx (.code c45l2 :: .inLoop c45l2 :: .inBlock 0 :: .code c45s1 :: []) ⟨mk 25 [(0, x0), (3, x3)], rows, low⟩ r
@[simp] theorem nc45l2 : Ex F cx (.inLoop c45l2 :: .inBlock 0 :: .code c45s1 :: []) ⟨mk 25 l, rows, low⟩ r ↔ Lc45l2 F cx (lk l 0) (lk l 3) rows low r := loopN (keep := [0, 3]) (by kernel_rfl)
@[simp] theorem ec45l2 : Ex F cx (.code (.loop c45l2) :: .inBlock 0 :: .code c45s1 :: []) ⟨mk 25 l, rows, low⟩ r ↔ Lc45l2 F cx (lk l 0) (lk l 3) rows low r := loopE (keep := [0, 3]) (by kernel_rfl)
@[simp] theorem uc45l2 : Ex F cx (.code c45l2 :: k) s r ↔ Ex F cx (.code (.seq (.seq c45k9 c45s8) c45s7) :: k) s r := Iff.rfl
@[simp] theorem uc45b : Ex F cx (.code c45b :: k) s r ↔ Ex F cx (.code (.seq c45k13 c45s12) :: k) s r := Iff.rfl
theorem i45 {x0 : AV} (hF : F 45 = some c45) {q : AV × List Row × Option Nat} (h : Ex F (.fn [.t 2]) [.code c45b] ⟨mk 25 [(0, x0)], rows, rows.length⟩ fun r => fin rows r.1 r.2.1 r.2.2 = q) : Ret F 45 [x0] rows = some q := Ret_mk hF h
@[simp] theorem uc47k0 : Ex F cx (.code c47k0 :: k) ⟨mk 42 l, rows, low⟩ r ↔ bnd (gv (lk l 5) true (evP rows (.mv (.c (lk l 1))))) fun v0 => bnd (gv (lk l 5) true (evP rows (.len 0 (.c v0)))) fun v1 => bnd (gv (lk l 5) true (evP rows (.mv (.c (lk l 0))))) fun v2 => bnd (gv (lk l 5) true (evP rows (.len 0 (.c v2)))) fun v3 => bnd (gv (lk l 5) true (evP rows (.bin .add (.c v3) (.c (.int .i64 1))))) fun v4 => bnd (gv (lk l 5) true (evP rows (.bin .eql (.c v1) (.c v4)))) fun v5 => bnd (evP rows (.pick (.c (lk l 5)) (.c v5) (.c (.bool false)))) fun v6 => Ex F cx k ⟨mk 42 [(4, v6), (41, v6), (40, v5), (39, v4), (38, v3), (37, v2), (36, v1), (35, v0), (34, lk l 5), (33, lk l 5), (0, lk l 0), (1, lk l 1), (5, lk l 5)], rows, low⟩ r := reg (keep := [0, 1, 5]) (ops := c47r0) rfl (by kernel_rfl) (by kernel_rfl)
@[simp] theorem uc47s1 : Ex F cx (.code c47s1 :: k) s r ↔ Ex F cx (.code (.seq c47k0 .ret) :: k) s r := Iff.rfl
@[simp] theorem uc47k3 : Ex F cx (.code c47k3 :: k) ⟨mk 42 l, rows, low⟩ r ↔ bnd (evP rows (.bin .add (.c (lk l 6)) (.c (.int .i64 1)))) fun v0 => Ex F cx k ⟨mk 42 [(6, v0), (12, v0), (11, lk l 6), (0, lk l 0), (1, lk l 1), (5, lk l 5), (6, lk l 6)], rows, low⟩ r := reg (keep := [0, 1, 5, 6]) (ops := c47r3) rfl (by kernel_rfl) (by kernel_rfl)
@[simp] theorem uc47k4 : Ex F cx (.code c47k4 :: k) ⟨mk 42 l, rows, low⟩ r ↔ bnd (gv (lk l 5) false (evP rows (.mv (.c (lk l 1))))) fun v0 => bnd (gv (lk l 5) false (evP rows (.mv (.c (lk l 6))))) fun v1 => bnd (gv (lk l 5) false (evP rows (.idxS 1 (.c v0) (.c v1)))) fun v2 => bnd (gv (lk l 5) false (evP rows (.load1 (.c v2)))) fun v3 => bnd (gv (lk l 5) false (evP rows (.bin .gtr (.c v3) (.c (.int .i64 0))))) fun v4 => bnd (evP rows (.pick (.c (lk l 5)) (.c (.bool true)) (.c v4))) fun v5 => Ex F cx k ⟨mk 42 [(5, v5), (32, v5), (31, v4), (30, v3), (29, v2), (28, v1), (27, v0), (26, lk l 5), (25, lk l 5), (0, lk l 0), (1, lk l 1), (5, lk l 5), (6, lk l 6)], rows, low⟩ r := reg (keep := [0, 1, 5, 6]) (ops := c47r4) rfl (by kernel_rfl) (by kernel_rfl)
@[simp] theorem uc47k5 : Ex F cx (.code c47k5 :: k) ⟨mk 42 l, rows, low⟩ r ↔ Ex F cx k ⟨mk 42 [(4, (.bool false))], rows, low⟩ r := reg (keep := []) (ops := c47r5) rfl (by kernel_rfl) (by kernel_rfl)
@[simp] theorem uc47s6 : Ex F cx (.code c47s6 :: k) s r ↔ Ex F cx (.code (.cond (.t 24) (.seq c47k5 .ret) .skip) :: k) s r := Iff.rfl
@[simp] theorem uc47k7 : Ex F cx (.code c47k7 :: k) ⟨mk 42 l, rows, low⟩ r ↔ bnd (evP rows (.idxS 1 (.c (lk l 1)) (.c (lk l 6)))) fun v0 => bnd (evP rows (.load1 (.c v0))) fun v1 => bnd (evP rows (.bin .lss (.c v1) (.c (.int .i64 0)))) fun v2 => bnd (gv v2 false (evP rows (.mv (.c (lk l 1))))) fun v3 => bnd (gv v2 false (evP rows (.mv (.c (lk l 6))))) fun v4 => bnd (gv v2 false (evP rows (.idxS 1 (.c v3) (.c v4)))) fun v5 => bnd (gv v2 false (evP rows (.load1 (.c v5)))) fun v6 => bnd (gv v2 false (evP rows (.bin .gtr (.c v6) (.c (.int .i64 1000))))) fun v7 => bnd (evP rows (.pick (.c v2) (.c (.bool true)) (.c v7))) fun v8 => Ex F cx k ⟨mk 42 [(24, v8), (23, v7), (22, v6), (21, v5), (20, v4), (19, v3), (18, v2), (17, v2), (16, v1), (15, v0), (14, lk l 6), (13, lk l 1), (0, lk l 0), (1, lk l 1), (5, lk l 5), (6, lk l 6)], rows, low⟩ r := reg (keep := [0, 1, 5, 6]) (ops := c47r7) rfl (by kernel_rfl) (by kernel_rfl)
@[simp] theorem uc47s8 : Ex F cx (.code c47s8 :: k) s r ↔ Ex F cx (.code (.seq (.block 1 (.seq (.seq c47k7 c47s6) c47k4)) c47k3) :: k) s r := Iff.rfl
@[simp] theorem uc47s9 : Ex F cx (.code c47s9 :: k) s r ↔ Ex F cx (.code (.cond (.t 10) .skip (.exit 0)) :: k) s r := Iff.rfl
@[simp] theorem uc47k10 : Ex F cx (.code c47k10 :: k) ⟨mk 42 l, rows, low⟩ r ↔ bnd (evP rows (.len 0 (.c (lk l 1)))) fun v0 => bnd (evP rows (.bin .lss (.c (lk l 6)) (.c v0))) fun v1 => Ex F cx k ⟨mk 42 [(10, v1), (9, v0), (8, lk l 1), (7, lk l 6), (0, lk l 0), (1, lk l 1), (5, lk l 5), (6, lk l 6)], rows, low⟩ r := reg (keep := [0, 1, 5, 6]) (ops := c47r10) rfl (by kernel_rfl) (by kernel_rfl)
@[simp] theorem uc47s11 : Ex F cx (.code c47s11 :: k) s r ↔ Ex F cx (.code (.block 0 (.loop c47l2)) :: k) s r := Iff.rfl
@[simp] theorem uc47k12 : Ex F cx (.code c47k12 :: k) ⟨mk 42 l, rows, low⟩ r ↔ Ex F cx k ⟨mk 42 [(6, (.int .i64 0)), (0, lk l 0), (1, lk l 1), (5, lk l 5)], rows, low⟩ r := reg (keep := [0, 1, 5]) (ops := c47r12) rfl (by kernel_rfl) (by kernel_rfl)
@[simp] theorem uc47s13 : Ex F cx (.code c47s13 :: k) s r ↔ Ex F cx (.code (.seq (.seq c47k12 c47s11) c47s1) :: k) s r := Iff.rfl
@[simp] theorem uc47k14 : Ex F cx (.code c47k14 :: k) ⟨mk 42 l, rows, low⟩ r ↔ Ex F cx k ⟨mk 42 [(5, (.bool false)), (0, lk l 0), (1, lk l 1)], rows, low⟩ r := reg (keep := [0, 1]) (ops := c47r14) rfl (by kernel_rfl) (by kernel_rfl)
@[simp] theorem uc47s15 : Ex F cx (.code c47s15 :: k) s r ↔ Ex F cx (.code (.seq c47k14 c47s13) :: k) s r := Iff.rfl
@[simp] theorem uc47k16 : Ex F cx (.code c47k16 :: k) ⟨mk 42 l, rows, low⟩ r ↔ Ex F cx k ⟨mk 42 [(4, (.bool false)), (0, lk l 0), (1, lk l 1)], rows, low⟩ r := reg (keep := [0, 1]) (ops := c47r16) rfl (by kernel_rfl) (by kernel_rfl)
def Jc47s8 (F : Nat → Option IFn) (cx : Ctx) (x0 x1 x5 x6 : AV) (rows : List Row) (low : Nat) (r : AV × List Row × Nat → Prop) : Prop := Ex F cx (.code c47s8 :: .inLoop c47l2 :: .inBlock 0 :: .code c47s1 :: []) ⟨mk 42 [(0, x0), (1, x1), (5, x5), (6, x6)], rows, low⟩ r
theorem jc47s8 : Ex F cx (.code c47s8 :: .inLoop c47l2 :: .inBlock 0 :: .code c47s1 :: []) ⟨mk 42 l, rows, low⟩ r ↔ Jc47s8 F cx (lk l 0) (lk l 1) (lk l 5) (lk l 6) rows low r := Ex_canon (keep := [0, 1, 5, 6]) (by kernel_rfl)
def Lc47l2 (F : Nat → Option IFn) (cx : Ctx) (x0 x1 x5 x6 : AV) (rows : List Row) (low : Nat) (r : AV × List Row × Nat → Prop) : Prop := Ex F cx (.code c47l2 :: .inLoop c47l2 :: .inBlock 0 :: .code c47s1 :: []) ⟨mk 42 [(0, x0), (1, x1), (5, x5), (6, x6)], rows, low⟩ r
@[simp] theorem nc47l2 : Ex F cx (.inLoop c47l2 :: .inBlock 0 :: .code c47s1 :: []) ⟨mk 42 l, rows, low⟩ r ↔ Lc47l2 F cx (lk l 0) (lk l 1) (lk l 5) (lk l 6) rows low r := loopN (keep := [0, 1, 5, 6]) (by kernel_rfl)
@[simp] theorem ec47l2 : Ex F cx (.code (.loop c47l2) :: .inBlock 0 :: .code c47s1 :: []) ⟨mk 42 l, rows, low⟩ r ↔ Lc47l2 F cx (lk l 0) (lk l 1) (lk l 5) (lk l 6) rows low r := loopE (keep := [0, 1, 5, 6]) (by kernel_rfl)
@[simp] theorem uc47l2 : Ex F cx (.code c47l2 :: k) s r ↔ Ex F cx (.code (.seq (.seq c47k10 c47s9) c47s8) :: k) s r := Iff.rfl
@[simp] theorem uc47b : Ex F cx (.code c47b :: k) s r ↔ Ex F cx (.code (.seq c47k16 c47s15) :: k) s r := Iff.rfl
theorem i47 {x0 x1 : AV} (hF : F 47 = some c47) {q : AV × List Row × Option Nat} (h : Ex F (.fn [.t 4]) [.code c47b] ⟨mk 42 [(0, x0), (1, x1)], rows, rows.length⟩ fun r => fin rows r.1 r.2.1 r.2.2 = q) : Ret F 47 [x0, x1] rows = some q := Ret_mk hF h
@[simp] theorem uc65k0 : Ex F cx (.code c65k0 :: k) ⟨mk 27 l, rows, low⟩ r ↔ Ex F cx k ⟨mk 27 [(4, (.int .i64 0))], rows, low⟩ r := reg (keep := []) (ops := c65r0) rfl (by kernel_rfl) (by kernel_rfl)
@[simp] theorem uc65s1 : Ex F cx (.code c65s1 :: k) s r ↔ Ex F cx (.code (.seq c65k0 .ret) :: k) s r := Iff.rfl
@[simp] theorem uc65k2 : Ex F cx (.code c65k2 :: k) ⟨mk 27 l, rows, low⟩ r ↔ Ex F cx k ⟨mk 27 [(4, (.int .i64 1))], rows, low⟩ r := reg (keep := []) (ops := c65r2) rfl (by kernel_rfl) (by kernel_rfl)
@[simp] theorem uc65s3 : Ex F cx (.code c65s3 :: k) s r ↔ Ex F cx (.code (.cond (.t 26) (.seq c65k2 .ret) .skip) :: k) s r := Iff.rfl
@[simp] theorem uc65k4 : Ex F cx (.code c65k4 :: k) ⟨mk 27 l, rows, low⟩ r ↔ bnd (evP rows (.len 0 (.c (lk l 1)))) fun v0 => bnd (evP rows (.len 0 (.c (lk l 0)))) fun v1 => bnd (evP rows (.bin .add (.c v1) (.c (.int .i64 1)))) fun v2 => bnd (evP rows (.bin .neq (.c v0) (.c v2))) fun v3 => bnd (gv v3 false (evP rows (.mv (.c (lk l 1))))) fun v4 => gcall F v3 false rows low [(.int .i64 0), (.int .i64 1000), v4] (.func 55 []) fun v5 R5 L5 => bnd (gv v3 false (evP R5 (.un .not (.c v5)))) fun v6 => bnd (evP R5 (.pick (.c v3) (.c (.bool true)) (.c v6))) fun v7 => bnd (gv v7 false (evP R5 (.mv (.c (lk l 1))))) fun v8 => gcall F v7 false R5 L5 [v8] (.func 90 []) fun v9 R9 L9 => bnd (gv v7 false (evP R9 (.bin .eql (.c v9) (.c (.int .i64 0))))) fun v10 => bnd (evP R9 (.pick (.c v7) (.c (.bool true)) (.c v10))) fun v11 => Ex F cx k ⟨mk 27 [(26, v11), (25, v10), (24, v9), (23, v8), (22, v7), (21, v7), (20, v6), (19, v5), (18, v4), (17, v3), (16, v3), (15, v2), (14, v1), (13, lk l 0), (12, v0), (11, lk l 1), (0, lk l 0), (1, lk l 1)], R9, L9⟩ r := reg (keep := [0, 1]) (ops := c65r4) rfl (by kernel_rfl) (by kernel_rfl)
@[simp] theorem uc65s5 : Ex F cx (.code c65s5 :: k) s r ↔ Ex F cx (.code (.seq (.seq c65k4 c65s3) c65s1) :: k) s r := Iff.rfl
@[simp] theorem uc65k6 : Ex F cx (.code c65k6 :: k) ⟨mk 27 l, rows, low⟩ r ↔ Ex F cx k ⟨mk 27 [(4, lk l 5), (10, lk l 5), (5, lk l 5)], rows, low⟩ r := reg (keep := [5]) (ops := c65r6) rfl (by kernel_rfl) (by kernel_rfl)
@[simp] theorem uc65s7 : Ex F cx (.code c65s7 :: k) s r ↔ Ex F cx (.code (.cond (.t 9) (.seq c65k6 .ret) .skip) :: k) s r := Iff.rfl
@[simp] theorem uc65k8 : Ex F cx (.code c65k8 :: k) ⟨mk 27 l, rows, low⟩ r ↔ bnd (evP rows (.bin .neq (.c (lk l 5)) (.c (.int .i64 0)))) fun v0 => Ex F cx k ⟨mk 27 [(9, v0), (8, lk l 5), (0, lk l 0), (1, lk l 1), (5, lk l 5)], rows, low⟩ r := reg (keep := [0, 1, 5]) (ops := c65r8) rfl (by kernel_rfl) (by kernel_rfl)
@[simp] theorem uc65s9 : Ex F cx (.code c65s9 :: k) s r ↔ Ex F cx (.code (.seq c65k8 c65s7) :: k) s r := Iff.rfl
@[simp] theorem uc65k10 : Ex F cx (.code c65k10 :: k) ⟨mk 27 l, rows, low⟩ r ↔ bnd (Ret F 46 [lk l 0] rows) fun q0 => Ex F cx k ⟨mk 27 [(5, q0.1), (7, q0.1), (6, lk l 0), (0, lk l 0), (1, lk l 1)], q0.2.1, (lowO low q0.2.2)⟩ r := reg (keep := [0, 1]) (ops := c65r10) rfl (by kernel_rfl) (by kernel_rfl)
@[simp] theorem uc65s11 : Ex F cx (.code c65s11 :: k) s r ↔ Ex F cx (.code (.seq (.seq c65k10 c65s9) c65s5) :: k) s r := Iff.rfl
@[simp] theorem uc65k12 : Ex F cx (.code c65k12 :: k) ⟨mk 27 l, rows, low⟩ r ↔ Ex F cx k ⟨mk 27 [(4, (.int .i64 0)), (0, lk l 0), (1, lk l 1)], rows, low⟩ r := reg (keep := [0, 1]) (ops := c65r12) rfl (by kernel_rfl) (by kernel_rfl)
def Jc65s1 (F : Nat → Option IFn) (cx : Ctx) (rows : List Row) (low : Nat) (r : AV × List Row × Nat → Prop) : Prop := Ex F cx (.code c65s1 :: []) ⟨mk 27 [], rows, low⟩ r
theorem jc65s1 : Ex F cx (.code c65s1 :: []) ⟨mk 27 l, rows, low⟩ r ↔ Jc65s1 F cx  rows low r := Ex_canon (keep := []) (by kernel_rfl)
def Jc65s5 (F : Nat → Option IFn) (cx : Ctx) (x0 x1 : AV) (rows : List Row) (low : Nat) (r : AV × List Row × Nat → Prop) : Prop := Ex F cx (.code c65s5 :: []) ⟨mk 27 [(0, x0), (1, x1)], rows, low⟩ r
theorem jc65s5 : Ex F cx (.code c65s5 :: []) ⟨mk 27 l, rows, low⟩ r ↔ Jc65s5 F cx (lk l 0) (lk l 1) rows low r := Ex_canon (keep := [0, 1]) (by kernel_rfl)
@[simp] theorem uc65b : Ex F cx (.code c65b :: k) s r ↔ Ex F cx (.code (.seq c65k12 c65s11) :: k) s r := Iff.rfl
theorem i65 {x0 x1 : AV} (hF : F 65 = some c65) {q : AV × List Row × Option Nat} (h : Ex F (.fn [.t 4]) [.code c65b] ⟨mk 27 [(0, x0), (1, x1)], rows, rows.length⟩ fun r => fin rows r.1 r.2.1 r.2.2 = q) : Ret F 65 [x0, x1] rows = some q := Ret_mk hF h
@[simp] theorem uc67k0 : Ex F cx (.code c67k0 :: k) ⟨mk 17 l, rows, low⟩ r ↔ Ex F cx k ⟨mk 17 [(2, lk l 3), (16, lk l 3), (3, lk l 3)], rows, low⟩ r := reg (keep := [3]) (ops := c67r0) rfl (by kernel_rfl) (by kernel_rfl)
@[simp] theorem uc67s1 : Ex F cx (.code c67s1 :: k) s r ↔ Ex F cx (.code (.seq c67k0 .ret) :: k) s r := Iff.rfl
@[simp] theorem uc67k3 : Ex F cx (.code c67k3 :: k) ⟨mk 17 l, rows, low⟩ r ↔ bnd (evP rows (.bin .add (.c (lk l 8)) (.c (.int .i64 1)))) fun v0 => Ex F cx k ⟨mk 17 [(8, v0), (15, v0), (3, lk l 3), (6, lk l 6), (7, lk l 7), (8, lk l 8)], rows, low⟩ r := reg (keep := [3, 6, 7, 8]) (ops := c67r3) rfl (by kernel_rfl) (by kernel_rfl)
@[simp] theorem uc67k4 : Ex F cx (.code c67k4 :: k) ⟨mk 17 l, rows, low⟩ r ↔ bnd (evP rows (.bin .add (.c (lk l 3)) (.c (lk l 5)))) fun v0 => Ex F cx k ⟨mk 17 [(3, v0), (14, v0), (13, lk l 5), (12, lk l 3), (3, lk l 3), (5, lk l 5), (6, lk l 6), (7, lk l 7), (8, lk l 8)], rows, low⟩ r := reg (keep := [3, 5, 6, 7, 8]) (ops := c67r4) rfl (by kernel_rfl) (by kernel_rfl)
@[simp] theorem uc67k5 : Ex F cx (.code c67k5 :: k) ⟨mk 17 l, rows, low⟩ r ↔ bnd (evP rows (.idxS 1 (.c (lk l 6)) (.c (lk l 8)))) fun v0 => bnd (evP rows (.load1 (.c v0))) fun v1 => Ex F cx k ⟨mk 17 [(5, v1), (11, v1), (10, v0), (3, lk l 3), (6, lk l 6), (7, lk l 7), (8, lk l 8)], rows, low⟩ r := reg (keep := [3, 6, 7, 8]) (ops := c67r5) rfl (by kernel_rfl) (by kernel_rfl)
@[simp] theorem uc67s6 : Ex F cx (.code c67s6 :: k) s r ↔ Ex F cx (.code (.seq (.block 1 (.seq c67k5 c67k4)) c67k3) :: k) s r := Iff.rfl
@[simp] theorem uc67s7 : Ex F cx (.code c67s7 :: k) s r ↔ Ex F cx (.code (.seq (.cond (.t 9) .skip (.exit 0)) c67s6) :: k) s r := Iff.rfl
@[simp] theorem uc67k8 : Ex F cx (.code c67k8 :: k) ⟨mk 17 l, rows, low⟩ r ↔ bnd (evP rows (.bin .lss (.c (lk l 8)) (.c (lk l 7)))) fun v0 => Ex F cx k ⟨mk 17 [(9, v0), (3, lk l 3), (6, lk l 6), (7, lk l 7), (8, lk l 8)], rows, low⟩ r := reg (keep := [3, 6, 7, 8]) (ops := c67r8) rfl (by kernel_rfl) (by kernel_rfl)
@[simp] theorem uc67s9 : Ex F cx (.code c67s9 :: k) s r ↔ Ex F cx (.code (.block 0 (.loop c67l2)) :: k) s r := Iff.rfl
@[simp] theorem uc67k10 : Ex F cx (.code c67k10 :: k) ⟨mk 17 l, rows, low⟩ r ↔ bnd (evP rows (.len 0 (.c (lk l 0)))) fun v0 => Ex F cx k ⟨mk 17 [(8, (.int .i64 0)), (7, v0), (6, lk l 0), (0, lk l 0), (3, lk l 3)], rows, low⟩ r := reg (keep := [0, 3]) (ops := c67r10) rfl (by kernel_rfl) (by kernel_rfl)
@[simp] theorem uc67s11 : Ex F cx (.code c67s11 :: k) s r ↔ Ex F cx (.code (.seq (.seq c67k10 c67s9) c67s1) :: k) s r := Iff.rfl
@[simp] theorem uc67k12 : Ex F cx (.code c67k12 :: k) ⟨mk 17 l, rows, low⟩ r ↔ Ex F cx k ⟨mk 17 [(3, (.int .i64 0)), (0, lk l 0)], rows, low⟩ r := reg (keep := [0]) (ops := c67r12) rfl (by kernel_rfl) (by kernel_rfl)
@[simp] theorem uc67s13 : Ex F cx (.code c67s13 :: k) s r ↔ Ex F cx (.code (.seq c67k12 c67s11) :: k) s r := Iff.rfl
@[simp] theorem uc67k14 : Ex F cx (.code c67k14 :: k) ⟨mk 17 l, rows, low⟩ r ↔ Ex F cx k ⟨mk 17 [(2, (.int .i64 0)), (0, lk l 0)], rows, low⟩ r := reg (keep := [0]) (ops := c67r14) rfl (by kernel_rfl) (by kernel_rfl)
def Jc67s6 (F : Nat → Option IFn) (cx : Ctx) (x3 x6 x7 x8 : AV) (rows : List Row) (low : Nat) (r : AV × List Row × Nat → Prop) : Prop := Ex F cx (.code c67s6 :: .inLoop c67l2 :: .inBlock 0 :: .code c67s1 :: []) ⟨mk 17 [(3, x3), (6, x6), (7, x7), (8, x8)], rows, low⟩ r
theorem jc67s6 : Ex F cx (.code c67s6 :: .inLoop c67l2 :: .inBlock 0 :: .code c67s1 :: []) ⟨mk 17 l, rows, low⟩ r ↔ Jc67s6 F cx (lk l 3) (lk l 6) (lk l 7) (lk l 8) rows low r := Ex_canon (keep := [3, 6, 7, 8]) (by kernel_rfl)
def Lc67l2 (F : Nat → Option IFn) (cx : Ctx) (x3 x6 x7 x8 : AV) (rows : List Row) (low : Nat) (r : AV × List Row × Nat → Prop) : Prop := Ex F cx (.code c67l2 :: .inLoop c67l2 :: .inBlock 0 :: .code c67s1 :: []) ⟨mk 17 [(3, x3), (6, x6), (7, x7), (8, x8)], rows, low⟩ r
@[simp] theorem nc67l2 : Ex F cx (.inLoop c67l2 :: .inBlock 0 :: .code c67s1 :: []) ⟨mk 17 l, rows, low⟩ r ↔ Lc67l2 F cx (lk l 3) (lk l 6) (lk l 7) (lk l 8) rows low r := loopN (keep := [3, 6, 7, 8]) (by kernel_rfl)
@[simp] theorem ec67l2 : Ex F cx (.code (.loop c67l2) :: .inBlock 0 :: .code c67s1 :: []) ⟨mk 17 l, rows, low⟩ r ↔ Lc67l2 F cx (lk l 3) (lk l 6) (lk l 7) (lk l 8) rows low r := loopE (keep := [3, 6, 7, 8]) (by kernel_rfl)
@[simp] theorem uc67l2 : Ex F cx (.code c67l2 :: k) s r ↔ Ex F cx (.code (.seq c67k8 c67s7) :: k) s r := Iff.rfl
@[simp] theorem uc67b : Ex F cx (.code c67b :: k) s r ↔ Ex F cx (.code (.seq c67k14 c67s13) :: k) s r := Iff.rfl
theorem i67 {x0 : AV} (hF : F 67 = some c67) {q : AV × List Row × Option Nat} (h : Ex F (.fn [.t 2]) [.code c67b] ⟨mk 17 [(0, x0)], rows, rows.length⟩ fun r => fin rows r.1 r.2.1 r.2.2 = q) : Ret F 67 [x0] rows = some q := Ret_mk hF h
@[simp] theorem uc90k0 : Ex F cx (.code c90k0 :: k) ⟨mk 25 l, rows, low⟩ r ↔ Ex F cx k ⟨mk 25 [(2, lk l 3), (24, lk l 3), (3, lk l 3)], rows, low⟩ r := reg (keep := [3]) (ops := c90r0) rfl (by kernel_rfl) (by kernel_rfl)
@[simp] theorem uc90s1 : Ex F cx (.code c90s1 :: k) s r ↔ Ex F cx (.code (.seq c90k0 .ret) :: k) s r := Iff.rfl
@[simp] theorem uc90k3 : Ex F cx (.code c90k3 :: k) ⟨mk 25 l, rows, low⟩ r ↔ bnd (evP rows (.bin .add (.c (lk l 4)) (.c (.int .i64 1)))) fun v0 => Ex F cx k ⟨mk 25 [(4, v0), (17, v0), (16, lk l 4), (0, lk l 0), (3, lk l 3), (4, lk l 4)], rows, low⟩ r := reg (keep := [0, 3, 4]) (ops := c90r3) rfl (by kernel_rfl) (by kernel_rfl)
@[simp] theorem uc90k4 : Ex F cx (.code c90k4 :: k) ⟨mk 25 l, rows, low⟩ r ↔ bnd (evP rows (.idxS 1 (.c (lk l 0)) (.c (lk l 4)))) fun v0 => bnd (evP rows (.load1 (.c v0))) fun v1 => bnd (evP rows (.mx [(.c (lk l 3)), (.c v1)])) fun v2 => Ex F cx k ⟨mk 25 [(3, v2), (23, v2), (22, v1), (21, v0), (20, lk l 4), (19, lk l 0), (18, lk l 3), (0, lk l 0), (3, lk l 3), (4, lk l 4)], rows, low⟩ r := reg (keep := [0, 3, 4]) (ops := c90r4) rfl (by kernel_rfl) (by kernel_rfl)
@[simp] theorem uc90s5 : Ex F cx (.code c90s5 :: k) s r ↔ Ex F cx (.code (.seq (.block 1 c90k4) c90k3) :: k) s r := Iff.rfl
@[simp] theorem uc90s6 : Ex F cx (.code c90s6 :: k) s r ↔ Ex F cx (.code (.cond (.t 15) .skip (.exit 0)) :: k) s r := Iff.rfl
@[simp] theorem uc90k7 : Ex F cx (.code c90k7 :: k) ⟨mk 25 l, rows, low⟩ r ↔ bnd (evP rows (.len 0 (.c (lk l 0)))) fun v0 => bnd (evP rows (.bin .lss (.c (lk l 4)) (.c v0))) fun v1 => Ex F cx k ⟨mk 25 [(15, v1), (14, v0), (13, lk l 0), (12, lk l 4), (0, lk l 0), (3, lk l 3), (4, lk l 4)], rows, low⟩ r := reg (keep := [0, 3, 4]) (ops := c90r7) rfl (by kernel_rfl) (by kernel_rfl)
@[simp] theorem uc90s8 : Ex F cx (.code c90s8 :: k) s r ↔ Ex F cx (.code (.block 0 (.loop c90l2)) :: k) s r := Iff.rfl
@[simp] theorem uc90k9 : Ex F cx (.code c90k9 :: k) ⟨mk 25 l, rows, low⟩ r ↔ Ex F cx k ⟨mk 25 [(4, (.int .i64 1)), (0, lk l 0), (3, lk l 3)], rows, low⟩ r := reg (keep := [0, 3]) (ops := c90r9) rfl (by kernel_rfl) (by kernel_rfl)
@[simp] theorem uc90s10 : Ex F cx (.code c90s10 :: k) s r ↔ Ex F cx (.code (.seq (.seq c90k9 c90s8) c90s1) :: k) s r := Iff.rfl
@[simp] theorem uc90k11 : Ex F cx (.code c90k11 :: k) ⟨mk 25 l, rows, low⟩ r ↔ bnd (evP rows (.idxS 1 (.c (lk l 0)) (.c (.int .i64 0)))) fun v0 => bnd (evP rows (.load1 (.c v0))) fun v1 => Ex F cx k ⟨mk 25 [(3, v1), (11, v1), (10, v0), (9, lk l 0), (0, lk l 0)], rows, low⟩ r := reg (keep := [0]) (ops := c90r11) rfl (by kernel_rfl) (by kernel_rfl)
@[simp] theorem uc90s12 : Ex F cx (.code c90s12 :: k) s r ↔ Ex F cx (.code (.seq c90k11 c90s10) :: k) s r := Iff.rfl
@[simp] theorem uc90k13 : Ex F cx (.code c90k13 :: k) ⟨mk 25 l, rows, low⟩ r ↔ bnd (evP rows (.mkif 9 (.c (.str ⟨#[115, 108, 105, 99, 101, 115, 46, 77, 97, 120, 58, 32, 101, 109, 112, 116, 121, 32, 108, 105, 115, 116]⟩)))) fun v0 => bnd (evE rows low (.bad)) fun q1 => Ex F cx k ⟨mk 25 [(8, v0), (0, lk l 0)], q1.2.1, q1.2.2⟩ r := reg (keep := [0]) (ops := c90r13) rfl (by kernel_rfl) (by kernel_rfl)
@[simp] theorem uc90s14 : Ex F cx (.code c90s14 :: k) s r ↔ Ex F cx (.code (.cond (.t 7) c90k13 .skip) :: k) s r := Iff.rfl
@[simp] theorem uc90k15 : Ex F cx (.code c90k15 :: k) ⟨mk 25 l, rows, low⟩ r ↔ bnd (evP rows (.len 0 (.c (lk l 0)))) fun v0 => bnd (evP rows (.bin .lss (.c v0) (.c (.int .i64 1)))) fun v1 => Ex F cx k ⟨mk 25 [(7, v1), (6, v0), (5, lk l 0), (0, lk l 0)], rows, low⟩ r := reg (keep := [0]) (ops := c90r15) rfl (by kernel_rfl) (by kernel_rfl)
@[simp] theorem uc90s16 : Ex F cx (.code c90s16 :: k) s r ↔ Ex F cx (.code (.seq (.seq c90k15 c90s14) c90s12) :: k) s r := Iff.rfl
@[simp] theorem uc90k17 : Ex F cx (.code c90k17 :: k) ⟨mk 25 l, rows, low⟩ r ↔ Ex F cx k ⟨mk 25 [(2, (.int .i64 0)), (0, lk l 0)], rows, low⟩ r := reg (keep := [0]) (ops := c90r17) rfl (by kernel_rfl) (by kernel_rfl)
def Jc90s5 (F : Nat → Option IFn) (cx : Ctx) (x0 x3 x4 : AV) (rows : List Row) (low : Nat) (r : AV × List Row × Nat → Prop) : Prop := Ex F cx (.code c90s5 :: .inLoop c90l2 :: .inBlock 0 :: .code c90s1 :: []) ⟨mk 25 [(0, x0), (3, x3), (4, x4)], rows, low⟩ r
theorem jc90s5 : Ex F cx (.code c90s5 :: .inLoop c90l2 :: .inBlock 0 :: .code c90s1 :: []) ⟨mk 25 l, rows, low⟩ r ↔ Jc90s5 F cx (lk l 0) (lk l 3) (lk l 4) rows low r := Ex_canon (keep := [0, 3, 4]) (by kernel_rfl)
def Lc90l2 (F : Nat → Option IFn) (cx : Ctx) (x0 x3 x4 : AV) (rows : List Row) (low : Nat) (r : AV × List Row × Nat → Prop) : Prop := Ex F cx (.code c90l2 :: .inLoop c90l2 :: .inBlock 0 :: .code c90s1 :: []) ⟨mk 25 [(0, x0), (3, x3), (4, x4)], rows, low⟩ r
@[simp] theorem nc90l2 : Ex F cx (.inLoop c90l2 :: .inBlock 0 :: .code c90s1 :: []) ⟨mk 25 l, rows, low⟩ r ↔ Lc90l2 F cx (lk l 0) (lk l 3) (lk l 4) rows low r := loopN (keep := [0, 3, 4]) (by kernel_rfl)
@[simp] theorem ec90l2 : Ex F cx (.code (.loop c90l2) :: .inBlock 0 :: .code c90s1 :: []) ⟨mk 25 l, rows, low⟩ r ↔ Lc90l2 F cx (lk l 0) (lk l 3) (lk l 4) rows low r := loopE (keep := [0, 3, 4]) (by kernel_rfl)
@[simp] theorem uc90l2 : Ex F cx (.code c90l2 :: k) s r ↔ Ex F cx (.code (.seq (.seq c90k7 c90s6) c90s5) :: k) s r := Iff.rfl
def Jc90s12 (F : Nat → Option IFn) (cx : Ctx) (x0 : AV) (rows : List Row) (low : Nat) (r : AV × List Row × Nat → Prop) : Prop := Ex F cx (.code c90s12 :: []) ⟨mk 25 [(0, x0)], rows, low⟩ r
theorem jc90s12 : Ex F cx (.code c90s12 :: []) ⟨mk 25 l, rows, low⟩ r ↔ Jc90s12 F cx (lk l 0) rows low r := Ex_canon (keep := [0]) (by kernel_rfl)
@[simp] theorem uc90b : Ex F cx (.code c90b :: k) s r ↔ Ex F cx (.code (.seq c90k17 c90s16) :: k) s r := Iff.rfl
theorem i90 {x0 : AV} (hF : F 90 = some c90) {q : AV × List Row × Option Nat} (h : Ex F (.fn [.t 2]) [.code c90b] ⟨mk 25 [(0, x0)], rows, rows.length⟩ fun r => fin rows r.1 r.2.1 r.2.2 = q) : Ret F 90 [x0] rows = some q := Ret_mk hF h
end Go.Abs

set_option linter.unusedVariables false
set_option linter.unusedSimpArgs false
namespace Go.Abs
open Rd (Cp IsL_one IsL_cells IsL_tail lowO_n)
theorem sum_bd {m : Int} : ∀ {l : List Int}, (∀ x ∈ l, 0 ≤ x ∧ x ≤ m) → 0 ≤ l.sum ∧ l.sum ≤ m * l.length
  | [], _ => by simp
  | x :: l, h => by
    have h1 := sum_bd (l := l) fun y hy => h y (List.mem_cons_of_mem _ hy)
    have h2 := h x List.mem_cons_self
    simp only [List.sum_cons, List.length_cons, Int.natCast_add, Int.mul_add, Int.cast_ofNat_Int, Int.mul_one]
    omega
theorem sum_take {l : List Int} {i : Nat} (h : i < l.length) : (l.take (i + 1)).sum = (l.take i).sum + gI l i := by
  rw [List.take_add_one, gI_get h]; simp
section
variable {rows : List Row}
theorem sum_loop {v : AV} {l : List Int} (h : IsL rows v l) (hb : ∀ x ∈ l, 0 ≤ x ∧ x ≤ 1000000000) (hl : l.length ≤ 1000) : ∀ (n i : Nat), l.length - i = n → i ≤ l.length →
    Lc67l2 F (.fn [.t 2]) (.int .i64 (l.take i).sum) v (.int .i64 l.length) (.int .i64 i) rows rows.length (fun r => fin rows r.1 r.2.1 r.2.2 = (.int .i64 l.sum, rows, none)) := by
  intro n
  induction n with
  | zero =>
    intro i hn h1
    have e : l.take i = l := List.take_of_length_le (by omega)
    unfold Lc67l2
    simp [show ¬ (i < l.length) by omega, e]
  | succ n ih =>
    intro i hn h1
    have hi : i < l.length := by omega
    have hs := sum_bd (l := l.take (i + 1)) (m := 1000000000) fun x hx => hb x (List.mem_of_mem_take hx)
    have hs2 : (l.take (i + 1)).length ≤ 1000 := by simp; omega
    have w1 : IntKind.i64.wrap ((i : Int) + 1) = i + 1 := wrap64 (by omega) (by omega)
    have w2 : IntKind.i64.wrap ((l.take i).sum + gI l i) = (l.take (i + 1)).sum := by
      rw [← sum_take hi]
      exact wrap64 (by omega) (by omega)
    have := ih (i + 1) (by omega) (by omega)
    unfold Lc67l2
    simp (disch := first | omega | (simp; done) | fail) [hi, idxL0 h, loadL0 h, w1, w2]
    simpa using this
/-- sum. -/
theorem sum_ret {v : AV} {l : List Int} (h : IsL rows v l) (hb : ∀ x ∈ l, 0 ≤ x ∧ x ≤ 1000000000) (hl : l.length ≤ 1000) : Ret F 67 [v] rows = some (.int .i64 l.sum, rows, none) := by
  refine i67 F67 ?_
  have := sum_loop h hb hl _ 0 rfl (by omega)
  simp [lenL0 h]
  simpa using this
/-- The greatest number of a list. -/
def fmax (l : List Int) : Int := l.foldl max (gI l 0)
theorem foldl_max_ge : ∀ (l : List Int) (a : Int), a ≤ l.foldl max a ∧ (∀ x ∈ l, x ≤ l.foldl max a) ∧ (l.foldl max a = a ∨ l.foldl max a ∈ l)
  | [], a => by simp
  | x :: l, a => by
    obtain ⟨h1, h2, h3⟩ := foldl_max_ge l (max a x)
    simp only [List.foldl_cons, List.mem_cons]
    refine ⟨by omega, ?_, ?_⟩
    · rintro y (rfl | hy)
      · omega
      · exact h2 y hy
    · rcases h3 with h3 | h3
      · rw [h3]; omega
      · exact .inr (.inr h3)
theorem fmax_ge {l : List Int} : ∀ x ∈ l, x ≤ fmax l := fun x hx => (foldl_max_ge l _).2.1 x hx
theorem fmax_mem {l : List Int} (h : l ≠ []) : fmax l ∈ l := by
  have hl : 0 < l.length := List.length_pos_iff.2 h
  rcases (foldl_max_ge l (gI l 0)).2.2 with e | e
  · unfold fmax; rw [e]; exact gI_mem hl
  · exact e
theorem fmax_take {l : List Int} {a : Int} {i : Nat} (h : i < l.length) : (l.take (i + 1)).foldl max a = max ((l.take i).foldl max a) (gI l i) := by
  rw [List.take_add_one, gI_get h]; simp
theorem max_loop {v : AV} {l : List Int} (h : IsL rows v l) (hl : l.length ≤ 1000) : ∀ (n i : Nat), l.length - i = n → i ≤ l.length →
    Lc90l2 F (.fn [.t 2]) v (.int .i64 ((l.take i).foldl max (gI l 0))) (.int .i64 i) rows rows.length (fun r => fin rows r.1 r.2.1 r.2.2 = (.int .i64 (fmax l), rows, none)) := by
  intro n
  induction n with
  | zero =>
    intro i hn h1
    have e : l.take i = l := List.take_of_length_le (by omega)
    unfold Lc90l2
    simp [lenL0 h, show ¬ (i < l.length) by omega, e, fmax]
  | succ n ih =>
    intro i hn h1
    have hi : i < l.length := by omega
    have w1 : IntKind.i64.wrap ((i : Int) + 1) = i + 1 := wrap64 (by omega) (by omega)
    have := ih (i + 1) (by omega) (by omega)
    rw [fmax_take hi] at this
    unfold Lc90l2
    simp (disch := first | omega | (simp; done) | fail) [hi, lenL0 h, idxL0 h, loadL0 h, w1]
    simpa using this
/-- slices.Max. -/
theorem max_ret {v : AV} {l : List Int} (h : IsL rows v l) (h0 : l ≠ []) (hl : l.length ≤ 1000) : Ret F 90 [v] rows = some (.int .i64 (fmax l), rows, none) := by
  have hp : 0 < l.length := List.length_pos_iff.2 h0
  have hm := max_loop h hl _ 1 rfl (by omega)
  have e : (l.take 1).foldl max (gI l 0) = gI l 0 := by
    have := fmax_take (l := l) (a := gI l 0) hp
    simpa using this
  rw [e] at hm
  refine i90 F90 ?_
  simp (disch := first | omega | (simp; done) | fail) [lenL0 h, idxL0 h (i := 0), loadL00 h, hp, show (1 : Int) ≤ l.length by omega, show ¬ (l.length < 1) by omega, h0]
  simpa using hm
/-- Weights that are right. -/
def wOK (n : Nat) (u : List Int) : Prop := u.length = n + 1 ∧ (u.all fun x => decide (0 ≤ x ∧ x ≤ 1000)) = true ∧ fmax u ≠ 0
instance (n : Nat) (u : List Int) : Decidable (wOK n u) := by unfold wOK; infer_instance
/-- openWeights, of costs that are right. -/
theorem openWeights_ret {cv uv : AV} {c u : List Int} (hc : IsL rows cv c) (hn : c.length ≤ 12) (hall : (c.all fun x => decide (1 ≤ x ∧ x ≤ 1000)) = true) (hu : IsL rows uv u) (hul : u.length < 4611686018427387904) : Ret F 65 [cv, uv] rows = some (.int .i64 (if wOK c.length u then 0 else 1), rows, none) := by
  have h1 := Check_ret hc (by omega)
  rw [if_pos ⟨hn, hall⟩] at h1
  have h2 := are_ret hu hul (lo := 0) (hi := 1000)
  have w1 : IntKind.i64.wrap ((c.length : Int) + 1) = c.length + 1 := wrap64 (by omega) (by omega)
  refine i65 F65 ?_
  by_cases e1 : u.length = c.length + 1
  · have e1' : (u.length : Int) = c.length + 1 := by omega
    have hne : u ≠ [] := by intro e; rw [e] at e1; simp at e1
    have h3 := max_ret hu hne (by omega)
    by_cases e2 : (u.all fun x => decide (0 ≤ x ∧ x ≤ 1000)) = true
    · rw [e2] at h2
      by_cases e3 : fmax u = 0
      · rw [e3] at h3
        rw [if_neg (by unfold wOK; simp [e3])]
        simp [h1, lenL0 hc, lenL0 hu, w1, e1', h2, h3]
      · rw [if_pos ⟨e1, e2, e3⟩]
        simp [h1, lenL0 hc, lenL0 hu, w1, e1', h2, h3, e3]
    · rw [Bool.not_eq_true] at e2
      rw [e2] at h2
      rw [if_neg (by unfold wOK; rw [e2]; simp)]
      simp [h1, lenL0 hc, lenL0 hu, w1, e1', h2]
  · have e1' : ¬ (u.length : Int) = c.length + 1 := by omega
    rw [if_neg (by unfold wOK; simp [e1])]
    simp [h1, lenL0 hc, lenL0 hu, w1, e1']
/-- openWeights, of costs that are none. -/
theorem openWeights_bad {cv uv : AV} {c : List Int} (hc : IsL rows cv c) (hl : c.length < 4611686018427387904) (hbad : ¬ (c.length ≤ 12 ∧ (c.all fun x => decide (1 ≤ x ∧ x ≤ 1000)) = true)) : Ret F 65 [cv, uv] rows = some (.int .i64 80, rows, none) := by
  have h1 := Check_ret hc hl
  rw [if_neg hbad] at h1
  refine i65 F65 ?_
  simp [h1]
end
end Go.Abs

set_option linter.unusedVariables false
set_option linter.unusedSimpArgs false
namespace Go.Abs
open Rd (Cp IsL_one IsL_cells IsL_tail lowO_n)
def wst (x : Int) : Int := IntKind.i64.wrap ((IntKind.u64.wrap x).tmod 1001)
/-- The weight at a place. -/
def wAt (l : List Int) (i : Nat) : Int := if i < l.length then wst (gI l i) else 0
def wl (l : List Int) (k : Nat) : List Int := (List.range k).map (wAt l)
@[simp] theorem wl_len {l : List Int} {k : Nat} : (wl l k).length = k := by simp [wl]
section
variable {rows : List Row}
/-- The sum of products. -/
def dot (w l : List Int) : Nat → Int
  | 0 => 0
  | k + 1 => dot w l k + gI w k * gI l k
end
end Go.Abs

set_option linter.unusedVariables false
set_option linter.unusedSimpArgs false
namespace Go.Abs
open Rd (Cp IsL_one IsL_cells IsL_tail lowO_n)
theorem mul_bd {x y m n : Int} (hx : 0 ≤ x ∧ x ≤ m) (hy : 0 ≤ y ∧ y ≤ n) : 0 ≤ x * y ∧ x * y ≤ m * n :=
  ⟨Int.mul_nonneg hx.1 hy.1, Int.mul_le_mul hx.2 hy.2 hy.1 (by omega)⟩
end Go.Abs

set_option linter.unusedVariables false
set_option linter.unusedSimpArgs false
namespace Go.Abs
open Rd (Cp IsL_one IsL_cells IsL_tail lowO_n)
def oR (base n i : Nat) : List AV := (List.range n).map fun j => if j < i then .nilslice else .slice (base + (n - j)) 0 n (.at_ n)
def Rw (n i : Nat) (f : Nat → Nat → Int) : List Row := (List.range (n - i)).map fun t => .cells (nums .i64 (tab n (f (n - 1 - t))))
def LR (rows : List Row) (n i : Nat) (f : Nat → Nat → Int) : List Row := rows ++ (.cells (oR rows.length n i) :: Rw n i f)
section
variable {rows : List Row} {n i j k : Nat} {f : Nat → Nat → Int}
@[simp] theorem oR_len {base : Nat} : (oR base n i).length = n := by simp [oR]
end
end Go.Abs

set_option linter.unusedVariables false
set_option linter.unusedSimpArgs false
namespace Go.Abs
open Rd (Cp IsL_one IsL_cells IsL_tail lowO_n)
/-- The least worst price with costs 1. -/
def hK (n : Nat) : Int := [0, 1, 2, 2, 3, 3, 3, 3, 4, 4, 4, 4, 4].getD n 0
section
variable {c u T T2 : List Int} {n : Nat}
end
end Go.Abs

set_option linter.unusedVariables false
set_option linter.unusedSimpArgs false
namespace Go.Abs
open Rd (Cp IsL_one IsL_cells IsL_tail lowO_n)
/-- Whether a list is a plan does not depend on what is done meanwhile. -/
theorem rdP_indep {α β : Type} (st : α → Int → Int → Int → α) (st' : β → Int → Int → Int → β) : ∀ (n : Nat) (a b : Int) (l : List Int) (t : α) (t' : β), (rdP st n a b l t).1 = (rdP st' n a b l t').1 ∧ (rdP st n a b l t).2.1 = (rdP st' n a b l t').2.1
  | 0, _, _, _, _, _ => ⟨rfl, rfl⟩
  | n + 1, a, b, l, t, t' => by
    unfold rdP
    by_cases h : a = b
    · simp [h]
    · simp only [h, if_false]
      cases l with
      | nil => exact ⟨rfl, rfl⟩
      | cons g l =>
        simp only
        by_cases h2 : g < a ∨ b ≤ g
        · simp [h2]
        · simp only [h2, if_false]
          have ih := rdP_indep st st' n a g l (st t g a b) (st' t' g a b)
          generalize rdP st n a g l (st t g a b) = q at *
          generalize rdP st' n a g l (st' t' g a b) = q' at *
          obtain ⟨x, y, z⟩ := q
          obtain ⟨x', y', z'⟩ := q'
          obtain ⟨h3, h4⟩ := ih
          have h3 : x = x' := h3
          have h4 : y = y' := h4
          subst h3 h4
          cases x with
          | false => exact ⟨rfl, rfl⟩
          | true => exact rdP_indep st st' n (g + 1) b y z z'
section
variable {rows : List Row}
/-- search.IsPlan, of costs that are none. -/
theorem IsPlan_bad {cv pv : AV} {c : List Int} (hc : IsL rows cv c) (hl : c.length < 4611686018427387904) (hbad : ¬ (c.length ≤ 12 ∧ (c.all fun x => decide (1 ≤ x ∧ x ≤ 1000)) = true)) : Ret F 43 [cv, pv] rows = some (.tup [.bool false, .int .i64 80], rows, none) := by
  have h1 := Check_ret hc hl
  rw [if_neg hbad] at h1
  refine i43 F43 ?_
  simp [h1]
theorem tab_sum (f : Nat → Int) : ∀ k, (tab (k + 1) f).sum = (tab k f).sum + f k := by
  intro k
  unfold tab
  rw [List.range_succ, List.map_append, List.sum_append]
  simp
theorem dot_sum {u : List Int} {f : Nat → Int} {n : Nat} : ∀ k, k ≤ n → dot u (tab n f) k = (tab k fun i => f i * gI u i).sum := by
  intro k
  induction k with
  | zero => intro _; simp [dot, tab]
  | succ k ih =>
    intro h
    rw [tab_sum, ← ih (by omega)]
    simp only [dot]
    rw [gI_eq (l := tab n f) (by simp; omega), tab_getE, Int.mul_comm]
theorem priceOf_loop {uv : AV} {u : List Int} {n : Nat} {g : Nat → Int} (hu : IsL rows uv u) (hul : u.length = n + 1) (hn : n ≤ 12) (hub : ∀ x ∈ u, 0 ≤ x ∧ x ≤ 1000) (hg : ∀ i, i ≤ n → 0 ≤ g i ∧ g i ≤ 1000000) : ∀ (d i : Nat), n + 1 - i = d → i ≤ n + 1 →
    Lc44l2 F (.fn [.t 6, .t 7]) (.slice rows.length 0 (n + 1) (.at_ (n + 1))) uv (.int .i64 (n + 1 : Nat)) (.int .i64 i) (rows ++ [.cells (nums .i64 (tab (n + 1) fun j => if j < i then g j * gI u j else g j))]) rows.length
      (fun r => fin rows r.1 r.2.1 r.2.2 = (.tup [.int .i64 (tab (n + 1) fun j => g j * gI u j).sum, .int .i64 0], rows, none)) := by
  have hub' : ∀ i, i ≤ n → 0 ≤ gI u i ∧ gI u i ≤ 1000 := fun i hi => hub _ (gI_mem (by omega))
  intro d
  induction d with
  | zero =>
    intro i hd h1
    have hi : i = n + 1 := by omega
    subst hi
    have e : (tab (n + 1) fun j => if j < n + 1 then g j * gI u j else g j) = tab (n + 1) fun j => g j * gI u j := tab_congr fun j hj => by rw [if_pos hj]
    rw [e]
    have hs := sum_ret (rows := rows ++ [.cells (nums .i64 (tab (n + 1) fun j => g j * gI u j))]) (v := .slice rows.length 0 (n + 1) (.at_ (n + 1))) (l := tab (n + 1) fun j => g j * gI u j) (IsL_new (L := []) (by simp)) (fun x hx => by
      obtain ⟨j, hj, rfl⟩ := List.mem_map.1 hx
      rw [List.mem_range] at hj
      have := mul_bd (hg j (by omega)) (hub' j (by omega))
      omega) (by simp; omega)
    unfold Lc44l2
    simp [hs]
  | succ d ih =>
    intro i hd h1
    have hi : i < n + 1 := by omega
    have w1 : IntKind.i64.wrap ((i : Int) + 1) = i + 1 := wrap64 (by omega) (by omega)
    have hm := mul_bd (hg i (by omega)) (hub' i (by omega))
    have w2 : IntKind.i64.wrap (g i * gI u i) = g i * gI u i := wrap64 (by omega) (by omega)
    have := ih (i + 1) (by omega) (by omega)
    have e : (tab (n + 1) fun j => if j < i then g j * gI u j else g j).set i (g i * gI u i) = tab (n + 1) fun j => if j < i + 1 then g j * gI u j else g j := by
      rw [tab_set]
      apply tab_congr
      intro j hj
      by_cases e1 : j = i
      · subst e1; simp
      · by_cases e2 : j < i
        · simp [e1, e2, show j < i + 1 by omega]
        · simp [e1, e2, show ¬ j < i + 1 by omega]
    unfold Lc44l2
    simp (disch := first | omega | (simp; done) | fail) [idxL hu, loadL hu, hul, hi, show (i : Int) < (n : Int) + 1 by omega, w1, w2, e]
    simpa using this
/-- search.PriceOf, of what is right. -/
theorem PriceOf_ret {cv uv pv : AV} {c u l : List Int} (hc : IsL rows cv c) (hn : c.length ≤ 12) (hall : (c.all fun x => decide (1 ≤ x ∧ x ≤ 1000)) = true) (hu : IsL rows uv u) (hw : wOK c.length u) (hl : IsL rows pv l) (hp : Cp 1 pv) (hb : ∀ f, pricesF c l = some f → ∀ i, i ≤ c.length → 0 ≤ f i ∧ f i ≤ 1000000) : Ret F 44 [cv, uv, pv] rows = some (match pricesF c l with
    | some f => (.tup [.int .i64 (dot u (tab (c.length + 1) f) (c.length + 1)), .int .i64 0], rows, none)
    | none => (.tup [.int .i64 0, .int .i64 1], rows, none)) := by
  have hul := hw.1
  have h1 := openWeights_ret hc hn hall hu (by omega)
  rw [if_pos hw] at h1
  have h2 := prices_ret hc hn hl hp
  have hub : ∀ x ∈ u, 0 ≤ x ∧ x ≤ 1000 := fun x hx => by have := List.all_eq_true.1 hw.2.1 x hx; simpa using this
  refine i44 F44 ?_
  cases hf : pricesF c l with
  | none =>
    rw [hf] at h2
    simp [h1, h2]
  | some f =>
    rw [hf] at h2
    have := priceOf_loop hu hul hn hub (hb f hf) _ 0 rfl (by omega)
    simp only
    rw [dot_sum _ (Nat.le_refl _)]
    simp [h1, h2, lenL hu, hul]
    simpa using this
/-- search.PriceOf, of weights that are none. -/
theorem PriceOf_badW {cv uv pv : AV} {c u : List Int} (hc : IsL rows cv c) (hn : c.length ≤ 12) (hall : (c.all fun x => decide (1 ≤ x ∧ x ≤ 1000)) = true) (hu : IsL rows uv u) (hul : u.length < 4611686018427387904) (hw : ¬ wOK c.length u) : Ret F 44 [cv, uv, pv] rows = some (.tup [.int .i64 0, .int .i64 1], rows, none) := by
  have h1 := openWeights_ret hc hn hall hu hul
  rw [if_neg hw] at h1
  refine i44 F44 ?_
  simp [h1]
/-- search.PriceOf, of costs that are none. -/
theorem PriceOf_bad {cv uv pv : AV} {c : List Int} (hc : IsL rows cv c) (hl : c.length < 4611686018427387904) (hbad : ¬ (c.length ≤ 12 ∧ (c.all fun x => decide (1 ≤ x ∧ x ≤ 1000)) = true)) : Ret F 44 [cv, uv, pv] rows = some (.tup [.int .i64 0, .int .i64 80], rows, none) := by
  have h1 := openWeights_bad (uv := uv) hc hl hbad
  refine i44 F44 ?_
  simp [h1]
end
end Go.Abs

set_option linter.unusedVariables false
set_option linter.unusedSimpArgs false
namespace Go.Abs
open Rd (Cp IsL_one IsL_cells IsL_tail lowO_n)
section
variable {rows : List Row}
/-- The reference's Opened. -/
theorem Opened_all {p : List Int} (hpl : p.length < 4611686018427387904) {v : AV} {n : Nat} (h : IsL rows v p) (hn : n ≤ 40) : ∃ lv X, Ret F 31 [.int .i64 n, v] rows = some (.tup [lv, .bool (opnAll p n).isSome], rows ++ X, none) ∧ Und rows X ∧ ∀ ls, opnAll p n = some ls → IsLL (rows ++ X) lv ls := by
  have := Opened_ret hpl h hn
  unfold opnAll
  cases ho : opn p n 0 0 n with
  | none =>
    simp only [ho] at this
    exact ⟨.nilslice, [], by simpa using this, (fun y hy => by simp at hy), fun ls e => by simp at e⟩
  | some q =>
    obtain ⟨ls, k⟩ := q
    simp only [ho] at this
    obtain ⟨lv, X, h1, h2, h3⟩ := this
    refine ⟨lv, X, ?_, h3, ?_⟩
    · rw [h1]
      by_cases hk : k = p.length <;> simp [hk]
    · intro ls' e
      by_cases hk : k = p.length
      · simp only [hk, if_true, Option.some.injEq] at e
        subst e
        exact h2
      · simp [hk] at e
end
theorem Und_0 {rows H : List Row} (h : H.all (Row.under 0) = true) : Und rows H := fun y hy => und_mono (List.all_eq_true.1 h y hy) (Nat.zero_le _)
end Go.Abs

set_option linter.unusedVariables false
set_option linter.unusedSimpArgs false
namespace Go.Abs
open Rd (Cp IsL_one IsL_cells IsL_tail lowO_n)
section
variable {rows : List Row}
theorem rcosts_loop {v : AV} {l : List Int} (h : IsL rows v l) (hl : l.length < 4611686018427387904) : ∀ (d i : Nat), l.length - i = d → i ≤ l.length →
    Lc45l2 F (.fn [.t 2]) v (.int .i64 i) rows rows.length (fun r => fin rows r.1 r.2.1 r.2.2 = (.bool (decide (l.length ≤ 12) && (l.drop i).all fun x => decide (1 ≤ x ∧ x ≤ 1000)), rows, none)) := by
  intro d
  induction d with
  | zero =>
    intro i hd h1
    have e : l.drop i = [] := List.drop_of_length_le (by omega)
    unfold Lc45l2
    by_cases h12 : l.length ≤ 12
    · simp [lenL0 h, show ¬ (i < l.length) by omega, e, h12, show (l.length : Int) ≤ 12 by omega]
    · simp [lenL0 h, show ¬ (i < l.length) by omega, e, h12, show ¬ (l.length : Int) ≤ 12 by omega]
  | succ d ih =>
    intro i hd h1
    have hi : i < l.length := by omega
    have w : IntKind.i64.wrap ((i : Int) + 1) = i + 1 := wrap64 (by omega) (by omega)
    have := ih (i + 1) (by omega) (by omega)
    rw [drop_eq hi, List.all_cons]
    unfold Lc45l2
    by_cases a1 : gI l i < 1
    · simp (disch := first | omega | (simp; done) | fail) [lenL0 h, idxL0 h, loadL0 h, hi, a1, show ¬ 1 ≤ gI l i by omega]
    · by_cases a2 : 1000 < gI l i
      · simp (disch := first | omega | (simp; done) | fail) [lenL0 h, idxL0 h, loadL0 h, hi, a1, a2, show ¬ gI l i ≤ 1000 by omega]
      · rw [decide_eq_true (show 1 ≤ gI l i ∧ gI l i ≤ 1000 by omega), Bool.true_and]
        simp (disch := first | omega | (simp; done) | fail) [lenL0 h, idxL0 h, loadL0 h, hi, a1, a2, w]
        simpa using this
/-- R.Costs. -/
theorem rcosts_ret {v : AV} {l : List Int} (h : IsL rows v l) (hl : l.length < 4611686018427387904) : Ret F 45 [v] rows = some (.bool (decide (l.length ≤ 12) && l.all fun x => decide (1 ≤ x ∧ x ≤ 1000)), rows, none) := by
  refine i45 F45 ?_
  have := rcosts_loop h hl _ 0 rfl (by omega)
  simp
  simpa using this
theorem rweights_loop {cv v : AV} {c l : List Int} (hc : IsL rows cv c) (hcl : c.length ≤ 100) (h : IsL rows v l) (hl : l.length < 4611686018427387904) : ∀ (d i : Nat) (s : Bool), l.length - i = d → i ≤ l.length →
    Lc47l2 F (.fn [.t 4]) cv v (.bool s) (.int .i64 i) rows rows.length (fun r => fin rows r.1 r.2.1 r.2.2 = (.bool (((l.drop i).all fun x => decide (0 ≤ x ∧ x ≤ 1000)) && ((s || (l.drop i).any fun x => decide (0 < x)) && decide (l.length = c.length + 1))), rows, none)) := by
  have w1 : IntKind.i64.wrap ((c.length : Int) + 1) = c.length + 1 := wrap64 (by omega) (by omega)
  intro d
  induction d with
  | zero =>
    intro i s hd h1
    have e : l.drop i = [] := List.drop_of_length_le (by omega)
    unfold Lc47l2
    cases s with
    | false => simp [lenL0 h, lenL0 hc, show ¬ (i < l.length) by omega, e, w1]
    | true =>
      have e2 : ((l.length : Int) = c.length + 1) ↔ (l.length = c.length + 1) := by omega
      simp [lenL0 h, lenL0 hc, show ¬ (i < l.length) by omega, e, w1, e2]
  | succ d ih =>
    intro i s hd h1
    have hi : i < l.length := by omega
    have w : IntKind.i64.wrap ((i : Int) + 1) = i + 1 := wrap64 (by omega) (by omega)
    rw [drop_eq hi, List.all_cons, List.any_cons]
    unfold Lc47l2
    by_cases a1 : gI l i < 0
    · simp (disch := first | omega | (simp; done) | fail) [lenL0 h, idxL0 h, loadL0 h, hi, a1, show ¬ 0 ≤ gI l i by omega]
    · by_cases a2 : 1000 < gI l i
      · simp (disch := first | omega | (simp; done) | fail) [lenL0 h, idxL0 h, loadL0 h, hi, a1, a2, show ¬ gI l i ≤ 1000 by omega]
      · rw [decide_eq_true (show 0 ≤ gI l i ∧ gI l i ≤ 1000 by omega), Bool.true_and]
        cases s with
        | true =>
          have := ih (i + 1) true (by omega) (by omega)
          simp (disch := first | omega | (simp; done) | fail) [lenL0 h, idxL0 h, loadL0 h, hi, a1, a2, w]
          simpa using this
        | false =>
          have := ih (i + 1) (decide (0 < gI l i)) (by omega) (by omega)
          simp (disch := first | omega | (simp; done) | fail) [lenL0 h, idxL0 h, loadL0 h, hi, a1, a2, w]
          simpa using this
/-- R.Weights. -/
theorem rweights_ret {cv v : AV} {c l : List Int} (hc : IsL rows cv c) (hcl : c.length ≤ 100) (h : IsL rows v l) (hl : l.length < 4611686018427387904) : Ret F 47 [cv, v] rows = some (.bool (decide (wOK c.length l)), rows, none) := by
  have := rweights_loop hc hcl h hl _ 0 false rfl (by omega)
  have e : (((l.drop 0).all fun x => decide (0 ≤ x ∧ x ≤ 1000)) && ((false || (l.drop 0).any fun x => decide (0 < x)) && decide (l.length = c.length + 1))) = decide (wOK c.length l) := by
    rw [List.drop_zero, Bool.false_or]
    unfold wOK
    by_cases h1 : (l.all fun x => decide (0 ≤ x ∧ x ≤ 1000)) = true
    · by_cases h2 : l.length = c.length + 1
      · have hne : l ≠ [] := by intro e; rw [e] at h2; simp at h2
        by_cases h3 : fmax l = 0
        · have : (l.any fun x => decide (0 < x)) = false := by
            rw [List.any_eq_false]
            intro x hx
            have := fmax_ge x hx
            simp
            omega
          simp only [h1, h2, h3, this]
          simp
        · have : (l.any fun x => decide (0 < x)) = true := by
            rw [List.any_eq_true]
            refine ⟨fmax l, fmax_mem hne, ?_⟩
            have := List.all_eq_true.1 h1 _ (fmax_mem hne)
            simp at this ⊢
            omega
          simp only [h1, h2, this]
          simp [h3]
      · simp only [h2]; simp
    · rw [Bool.not_eq_true] at h1
      simp only [h1]; simp
  rw [e] at this
  refine i47 F47 ?_
  simp
  simpa using this
/-- Weighed, of costs that are none, and of weights that are none. -/
theorem Weighed_bad {cv uv : AV} {c u : List Int} (hc : IsL rows cv c) (hu : IsL rows uv u) (hl : c.length < 4611686018427387904) (hbad : ¬ (c.length ≤ 12 ∧ (c.all fun x => decide (1 ≤ x ∧ x ≤ 1000)) = true)) : Ret F 35 [cv, uv] rows = some (.tup [.int .i64 0, .nilslice, .int .i64 80], rows, none) := by
  have h1 := fun L => openWeights_bad (uv := uv) (IsL_app hc L) hl hbad
  refine i35 F35 ?_
  simp [IsL_one hc, IsL_cells hc, IsL_one hu, IsL_cells hu, h1]
theorem Weighed_badW {cv uv : AV} {c u : List Int} (hc : IsL rows cv c) (hn : c.length ≤ 12) (hall : (c.all fun x => decide (1 ≤ x ∧ x ≤ 1000)) = true) (hu : IsL rows uv u) (hul : u.length < 4611686018427387904) (hw : ¬ wOK c.length u) : Ret F 35 [cv, uv] rows = some (.tup [.int .i64 0, .nilslice, .int .i64 1], rows, none) := by
  have h1 := fun L => openWeights_ret (IsL_app hc L) hn hall (IsL_app hu L) hul
  rw [if_neg hw] at h1
  refine i35 F35 ?_
  simp [IsL_one hc, IsL_cells hc, IsL_one hu, IsL_cells hu, h1]
theorem Answer_bad {cv pv : AV} {c : List Int} {x : Int} (hc : IsL rows cv c) (hl : c.length < 4611686018427387904) (hbad : ¬ (c.length ≤ 12 ∧ (c.all fun x => decide (1 ≤ x ∧ x ≤ 1000)) = true)) : Ret F 30 [cv, pv, .int .i64 x] rows = some (.tup [.nilslice, .int .i64 80], rows, none) := by
  have h1 := fun L => Check_ret (IsL_app hc L) hl
  rw [if_neg hbad] at h1
  refine i30 F30 ?_
  simp [h1]
end
end Go.Abs

set_option linter.unusedVariables false
set_option linter.unusedSimpArgs false
namespace Go.Abs
open Rd (Cp IsL_one IsL_cells IsL_tail lowO_n)
def bls (l : List Bool) : List AV := l.map .bool
@[simp] theorem bls_len {l : List Bool} : (bls l).length = l.length := by simp [bls]
@[simp] theorem bls_set {l : List Bool} {i : Nat} {b : Bool} : (bls l).set i (.bool b) = bls (l.set i b) := by simp [bls, List.map_set]
def usedT (n : Nat) (s : List Int) : List Bool := (List.range n).map fun (j : Nat) => decide ((j : Int) ∈ s)
@[simp] theorem usedT_len {n : Nat} {s : List Int} : (usedT n s).length = n := by simp [usedT]
section
variable {R3 H1 : List Row} {low : Nat} {r : AV × List Row × Nat → Prop}
theorem newL_shape (rows : List Row) (l : List Int) : ∃ v K, newL rows l = (v, rows ++ K, none) ∧ IsL (rows ++ K) v l ∧ Cp 1 v ∧ K.all (Row.under 0) = true := by
  have h := newL_IsL (rows := rows) l
  cases l with
  | nil => exact ⟨.nilslice, [], by simp [newL], by simpa [newL] using h.1, h.2, rfl⟩
  | cons x l => exact ⟨_, [.cells (nums .i64 (x :: l))], rfl, h.1, h.2, by simp [Row.under, AV.under, nums]⟩
end
end Go.Abs

set_option linter.unusedVariables false
set_option maxRecDepth 20000
set_option maxHeartbeats 4000000
namespace Go.Abs
variable {F : Nat → Option IFn} {cx : Ctx} {k : List Itm} {s : St} {l : List (Nat × AV)} {rows : List Row} {low : Nat} {r : AV × List Row × Nat → Prop}
def c12r0 : List Seg := [
  .one ⟨some 191, .mv (.t 31), none⟩,
  .one ⟨some 192, .bin .eql (.t 191) (.c (.int .i64 1)), none⟩,
  .one ⟨some 193, .mv (.t 192), none⟩,
  .one ⟨some 194, .mv (.t 33), some (193, true)⟩,
  .one ⟨some 195, .bin .eql (.t 194) (.c (.int .i64 1)), some (193, true)⟩,
  .one ⟨some 196, .pick (.t 193) (.t 195) (.c (.bool false)), none⟩,
  .one ⟨some 197, .mv (.t 196), none⟩,
  .one ⟨some 198, .mv (.t 30), some (197, true)⟩,
  .one ⟨some 199, .len 0 (.t 198), some (197, true)⟩,
  .one ⟨some 200, .mv (.t 32), some (197, true)⟩,
  .one ⟨some 201, .len 0 (.t 200), some (197, true)⟩,
  .one ⟨some 202, .bin .add (.t 199) (.t 201), some (197, true)⟩,
  .one ⟨some 203, .bin .eql (.t 202) (.c (.int .i64 0)), some (197, true)⟩,
  .one ⟨some 204, .pick (.t 197) (.t 203) (.c (.bool false)), none⟩,
  .one ⟨some 205, .mv (.t 204), none⟩,
  .one ⟨some 206, .call (.c (.func 22 [])) [], some (205, true)⟩,
  .one ⟨some 207, .pick (.t 205) (.t 206) (.c (.bool false)), none⟩,
  .one ⟨some 6, .mv (.t 207), none⟩]
def c12k0 : ICode := .kill (dead 208 [30, 31, 32, 33]) (.ops c12r0)
@[simp] theorem uc12k0 : Ex F cx (.code c12k0 :: k) ⟨mk 208 l, rows, low⟩ r ↔ bnd (evP rows (.bin .eql (.c (lk l 31)) (.c (.int .i64 1)))) fun v0 => bnd (gv v0 true (evP rows (.mv (.c (lk l 33))))) fun v1 => bnd (gv v0 true (evP rows (.bin .eql (.c v1) (.c (.int .i64 1))))) fun v2 => bnd (evP rows (.pick (.c v0) (.c v2) (.c (.bool false)))) fun v3 => bnd (gv v3 true (evP rows (.mv (.c (lk l 30))))) fun v4 => bnd (gv v3 true (evP rows (.len 0 (.c v4)))) fun v5 => bnd (gv v3 true (evP rows (.mv (.c (lk l 32))))) fun v6 => bnd (gv v3 true (evP rows (.len 0 (.c v6)))) fun v7 => bnd (gv v3 true (evP rows (.bin .add (.c v5) (.c v7)))) fun v8 => bnd (gv v3 true (evP rows (.bin .eql (.c v8) (.c (.int .i64 0))))) fun v9 => bnd (evP rows (.pick (.c v3) (.c v9) (.c (.bool false)))) fun v10 => gcall F v10 true rows low [] (.func 22 []) fun v11 R11 L11 => bnd (evP R11 (.pick (.c v10) (.c v11) (.c (.bool false)))) fun v12 => Ex F cx k ⟨mk 208 [(6, v12), (207, v12), (206, v11), (205, v10), (204, v10), (203, v9), (202, v8), (201, v7), (200, v6), (199, v5), (198, v4), (197, v3), (196, v3), (195, v2), (194, v1), (193, v0), (192, v0), (191, lk l 31), (30, lk l 30), (31, lk l 31), (32, lk l 32), (33, lk l 33)], R11, L11⟩ r := reg (keep := [30, 31, 32, 33]) (ops := c12r0) rfl (by kernel_rfl) (by kernel_rfl)
def c12s1 : ICode := (.seq c12k0 .ret)
@[simp] theorem uc12s1 : Ex F cx (.code c12s1 :: k) s r ↔ Ex F cx (.code (.seq c12k0 .ret) :: k) s r := Iff.rfl
def c12r2 : List Seg := [
  .one ⟨some 186, .mv (.t 7), none⟩,
  .one ⟨some 187, .mv (.t 9), none⟩,
  .one ⟨some 188, .call (.c (.func 30 [])) [(.t 186), (.t 187), (.c (.int .i64 (-1)))], none⟩,
  .one ⟨some 185, .mv (.t 188), none⟩,
  .one ⟨some 189, .ext (.t 185) 0, none⟩,
  .one ⟨some 190, .ext (.t 185) 1, none⟩,
  .one ⟨some 32, .mv (.t 189), none⟩,
  .one ⟨some 33, .mv (.t 190), none⟩]
def c12k2 : ICode := .kill (dead 208 [7, 9, 30, 31]) (.ops c12r2)
@[simp] theorem uc12k2 : Ex F cx (.code c12k2 :: k) ⟨mk 208 l, rows, low⟩ r ↔ bnd (Ret F 30 [lk l 7, lk l 9, (.int .i64 (-1))] rows) fun q0 => bnd (evP q0.2.1 (.ext (.c q0.1) 0)) fun v1 => bnd (evP q0.2.1 (.ext (.c q0.1) 1)) fun v2 => Ex F cx k ⟨mk 208 [(33, v2), (32, v1), (190, v2), (189, v1), (185, q0.1), (188, q0.1), (187, lk l 9), (186, lk l 7), (7, lk l 7), (9, lk l 9), (30, lk l 30), (31, lk l 31)], q0.2.1, (lowO low q0.2.2)⟩ r := reg (keep := [7, 9, 30, 31]) (ops := c12r2) rfl (by kernel_rfl) (by kernel_rfl)
def c12s3 : ICode := (.seq c12k2 c12s1)
@[simp] theorem uc12s3 : Ex F cx (.code c12s3 :: k) s r ↔ Ex F cx (.code (.seq c12k2 c12s1) :: k) s r := Iff.rfl
def c12r4 : List Seg := [
  .one ⟨some 178, .mv (.t 7), none⟩,
  .one ⟨some 179, .mv (.t 9), none⟩,
  .one ⟨some 180, .mv (.t 17), none⟩,
  .one ⟨some 181, .len 0 (.t 180), none⟩,
  .one ⟨some 182, .call (.c (.func 30 [])) [(.t 178), (.t 179), (.t 181)], none⟩,
  .one ⟨some 177, .mv (.t 182), none⟩,
  .one ⟨some 183, .ext (.t 177) 0, none⟩,
  .one ⟨some 184, .ext (.t 177) 1, none⟩,
  .one ⟨some 30, .mv (.t 183), none⟩,
  .one ⟨some 31, .mv (.t 184), none⟩]
def c12k4 : ICode := .kill (dead 208 [7, 9, 17]) (.ops c12r4)
@[simp] theorem uc12k4 : Ex F cx (.code c12k4 :: k) ⟨mk 208 l, rows, low⟩ r ↔ bnd (evP rows (.len 0 (.c (lk l 17)))) fun v0 => bnd (Ret F 30 [lk l 7, lk l 9, v0] rows) fun q1 => bnd (evP q1.2.1 (.ext (.c q1.1) 0)) fun v2 => bnd (evP q1.2.1 (.ext (.c q1.1) 1)) fun v3 => Ex F cx k ⟨mk 208 [(31, v3), (30, v2), (184, v3), (183, v2), (177, q1.1), (182, q1.1), (181, v0), (180, lk l 17), (179, lk l 9), (178, lk l 7), (7, lk l 7), (9, lk l 9), (17, lk l 17)], q1.2.1, (lowO low q1.2.2)⟩ r := reg (keep := [7, 9, 17]) (ops := c12r4) rfl (by kernel_rfl) (by kernel_rfl)
def c12s5 : ICode := (.seq c12k4 c12s3)
@[simp] theorem uc12s5 : Ex F cx (.code c12s5 :: k) s r ↔ Ex F cx (.code (.seq c12k4 c12s3) :: k) s r := Iff.rfl
def c12r6 : List Seg := [
  .one ⟨some 151, .mv (.t 25), none⟩,
  .one ⟨some 152, .mv (.t 10), none⟩,
  .one ⟨some 153, .bin .eql (.t 151) (.t 152), none⟩,
  .one ⟨some 154, .mv (.t 153), none⟩,
  .one ⟨some 155, .mv (.t 27), some (154, true)⟩,
  .one ⟨some 156, .mv (.t 10), some (154, true)⟩,
  .one ⟨some 157, .bin .eql (.t 155) (.t 156), some (154, true)⟩,
  .one ⟨some 158, .pick (.t 154) (.t 157) (.c (.bool false)), none⟩,
  .one ⟨some 159, .mv (.t 158), none⟩,
  .one ⟨some 160, .mv (.t 29), some (159, true)⟩,
  .one ⟨some 161, .mv (.t 10), some (159, true)⟩,
  .one ⟨some 162, .bin .eql (.t 160) (.t 161), some (159, true)⟩,
  .one ⟨some 163, .pick (.t 159) (.t 162) (.c (.bool false)), none⟩,
  .one ⟨some 164, .mv (.t 163), none⟩,
  .one ⟨some 165, .mv (.t 24), some (164, true)⟩,
  .one ⟨some 166, .len 0 (.t 165), some (164, true)⟩,
  .one ⟨some 167, .mv (.t 26), some (164, true)⟩,
  .one ⟨some 168, .bin .add (.t 166) (.t 167), some (164, true)⟩,
  .one ⟨some 169, .mv (.t 28), some (164, true)⟩,
  .one ⟨some 170, .len 0 (.t 169), some (164, true)⟩,
  .one ⟨some 171, .bin .add (.t 168) (.t 170), some (164, true)⟩,
  .one ⟨some 172, .bin .eql (.t 171) (.c (.int .i64 0)), some (164, true)⟩,
  .one ⟨some 173, .pick (.t 164) (.t 172) (.c (.bool false)), none⟩,
  .one ⟨some 174, .mv (.t 173), none⟩,
  .one ⟨some 175, .call (.c (.func 22 [])) [], some (174, true)⟩,
  .one ⟨some 176, .pick (.t 174) (.t 175) (.c (.bool false)), none⟩,
  .one ⟨some 6, .mv (.t 176), none⟩]
def c12k6 : ICode := .kill (dead 208 [10, 24, 25, 26, 27, 28, 29]) (.ops c12r6)
@[simp] theorem uc12k6 : Ex F cx (.code c12k6 :: k) ⟨mk 208 l, rows, low⟩ r ↔ bnd (evP rows (.bin .eql (.c (lk l 25)) (.c (lk l 10)))) fun v0 => bnd (gv v0 true (evP rows (.mv (.c (lk l 27))))) fun v1 => bnd (gv v0 true (evP rows (.mv (.c (lk l 10))))) fun v2 => bnd (gv v0 true (evP rows (.bin .eql (.c v1) (.c v2)))) fun v3 => bnd (evP rows (.pick (.c v0) (.c v3) (.c (.bool false)))) fun v4 => bnd (gv v4 true (evP rows (.mv (.c (lk l 29))))) fun v5 => bnd (gv v4 true (evP rows (.mv (.c (lk l 10))))) fun v6 => bnd (gv v4 true (evP rows (.bin .eql (.c v5) (.c v6)))) fun v7 => bnd (evP rows (.pick (.c v4) (.c v7) (.c (.bool false)))) fun v8 => bnd (gv v8 true (evP rows (.mv (.c (lk l 24))))) fun v9 => bnd (gv v8 true (evP rows (.len 0 (.c v9)))) fun v10 => bnd (gv v8 true (evP rows (.mv (.c (lk l 26))))) fun v11 => bnd (gv v8 true (evP rows (.bin .add (.c v10) (.c v11)))) fun v12 => bnd (gv v8 true (evP rows (.mv (.c (lk l 28))))) fun v13 => bnd (gv v8 true (evP rows (.len 0 (.c v13)))) fun v14 => bnd (gv v8 true (evP rows (.bin .add (.c v12) (.c v14)))) fun v15 => bnd (gv v8 true (evP rows (.bin .eql (.c v15) (.c (.int .i64 0))))) fun v16 => bnd (evP rows (.pick (.c v8) (.c v16) (.c (.bool false)))) fun v17 => gcall F v17 true rows low [] (.func 22 []) fun v18 R18 L18 => bnd (evP R18 (.pick (.c v17) (.c v18) (.c (.bool false)))) fun v19 => Ex F cx k ⟨mk 208 [(6, v19), (176, v19), (175, v18), (174, v17), (173, v17), (172, v16), (171, v15), (170, v14), (169, v13), (168, v12), (167, v11), (166, v10), (165, v9), (164, v8), (163, v8), (162, v7), (161, v6), (160, v5), (159, v4), (158, v4), (157, v3), (156, v2), (155, v1), (154, v0), (153, v0), (152, lk l 10), (151, lk l 25), (10, lk l 10), (24, lk l 24), (25, lk l 25), (26, lk l 26), (27, lk l 27), (28, lk l 28), (29, lk l 29)], R18, L18⟩ r := reg (keep := [10, 24, 25, 26, 27, 28, 29]) (ops := c12r6) rfl (by kernel_rfl) (by kernel_rfl)
def c12s7 : ICode := (.seq c12k6 .ret)
@[simp] theorem uc12s7 : Ex F cx (.code c12s7 :: k) s r ↔ Ex F cx (.code (.seq c12k6 .ret) :: k) s r := Iff.rfl
def c12r8 : List Seg := [
  .one ⟨some 146, .mv (.t 7), none⟩,
  .one ⟨some 147, .mv (.t 9), none⟩,
  .one ⟨some 148, .call (.c (.func 30 [])) [(.t 146), (.t 147), (.c (.int .i64 0))], none⟩,
  .one ⟨some 145, .mv (.t 148), none⟩,
  .one ⟨some 149, .ext (.t 145) 0, none⟩,
  .one ⟨some 150, .ext (.t 145) 1, none⟩,
  .one ⟨some 28, .mv (.t 149), none⟩,
  .one ⟨some 29, .mv (.t 150), none⟩]
def c12k8 : ICode := .kill (dead 208 [7, 9, 10, 24, 25, 26, 27]) (.ops c12r8)
@[simp] theorem uc12k8 : Ex F cx (.code c12k8 :: k) ⟨mk 208 l, rows, low⟩ r ↔ bnd (Ret F 30 [lk l 7, lk l 9, (.int .i64 0)] rows) fun q0 => bnd (evP q0.2.1 (.ext (.c q0.1) 0)) fun v1 => bnd (evP q0.2.1 (.ext (.c q0.1) 1)) fun v2 => Ex F cx k ⟨mk 208 [(29, v2), (28, v1), (150, v2), (149, v1), (145, q0.1), (148, q0.1), (147, lk l 9), (146, lk l 7), (7, lk l 7), (9, lk l 9), (10, lk l 10), (24, lk l 24), (25, lk l 25), (26, lk l 26), (27, lk l 27)], q0.2.1, (lowO low q0.2.2)⟩ r := reg (keep := [7, 9, 10, 24, 25, 26, 27]) (ops := c12r8) rfl (by kernel_rfl) (by kernel_rfl)
def c12s9 : ICode := (.seq c12k8 c12s7)
@[simp] theorem uc12s9 : Ex F cx (.code c12s9 :: k) s r ↔ Ex F cx (.code (.seq c12k8 c12s7) :: k) s r := Iff.rfl
def c12r10 : List Seg := [
  .one ⟨some 139, .mv (.t 7), none⟩,
  .one ⟨some 140, .mv (.t 8), none⟩,
  .one ⟨some 141, .mv (.t 9), none⟩,
  .one ⟨some 142, .call (.c (.func 44 [])) [(.t 139), (.t 140), (.t 141)], none⟩,
  .one ⟨some 138, .mv (.t 142), none⟩,
  .one ⟨some 143, .ext (.t 138) 0, none⟩,
  .one ⟨some 144, .ext (.t 138) 1, none⟩,
  .one ⟨some 26, .mv (.t 143), none⟩,
  .one ⟨some 27, .mv (.t 144), none⟩]
def c12k10 : ICode := .kill (dead 208 [7, 8, 9, 10, 24, 25]) (.ops c12r10)
@[simp] theorem uc12k10 : Ex F cx (.code c12k10 :: k) ⟨mk 208 l, rows, low⟩ r ↔ bnd (Ret F 44 [lk l 7, lk l 8, lk l 9] rows) fun q0 => bnd (evP q0.2.1 (.ext (.c q0.1) 0)) fun v1 => bnd (evP q0.2.1 (.ext (.c q0.1) 1)) fun v2 => Ex F cx k ⟨mk 208 [(27, v2), (26, v1), (144, v2), (143, v1), (138, q0.1), (142, q0.1), (141, lk l 9), (140, lk l 8), (139, lk l 7), (7, lk l 7), (8, lk l 8), (9, lk l 9), (10, lk l 10), (24, lk l 24), (25, lk l 25)], q0.2.1, (lowO low q0.2.2)⟩ r := reg (keep := [7, 8, 9, 10, 24, 25]) (ops := c12r10) rfl (by kernel_rfl) (by kernel_rfl)
def c12s11 : ICode := (.seq c12k10 c12s9)
@[simp] theorem uc12s11 : Ex F cx (.code c12s11 :: k) s r ↔ Ex F cx (.code (.seq c12k10 c12s9) :: k) s r := Iff.rfl
def c12r12 : List Seg := [
  .one ⟨some 133, .mv (.t 7), none⟩,
  .one ⟨some 134, .mv (.t 9), none⟩,
  .one ⟨some 135, .call (.c (.func 29 [])) [(.t 133), (.t 134)], none⟩,
  .one ⟨some 132, .mv (.t 135), none⟩,
  .one ⟨some 136, .ext (.t 132) 0, none⟩,
  .one ⟨some 137, .ext (.t 132) 1, none⟩,
  .one ⟨some 24, .mv (.t 136), none⟩,
  .one ⟨some 25, .mv (.t 137), none⟩]
def c12k12 : ICode := .kill (dead 208 [7, 8, 9, 10]) (.ops c12r12)
@[simp] theorem uc12k12 : Ex F cx (.code c12k12 :: k) ⟨mk 208 l, rows, low⟩ r ↔ bnd (Ret F 29 [lk l 7, lk l 9] rows) fun q0 => bnd (evP q0.2.1 (.ext (.c q0.1) 0)) fun v1 => bnd (evP q0.2.1 (.ext (.c q0.1) 1)) fun v2 => Ex F cx k ⟨mk 208 [(25, v2), (24, v1), (137, v2), (136, v1), (132, q0.1), (135, q0.1), (134, lk l 9), (133, lk l 7), (7, lk l 7), (8, lk l 8), (9, lk l 9), (10, lk l 10)], q0.2.1, (lowO low q0.2.2)⟩ r := reg (keep := [7, 8, 9, 10]) (ops := c12r12) rfl (by kernel_rfl) (by kernel_rfl)
def c12s13 : ICode := (.cond (.t 131) (.seq c12k12 c12s11) .skip)
@[simp] theorem uc12s13 : Ex F cx (.code c12s13 :: k) s r ↔ Ex F cx (.code (.cond (.t 131) (.seq c12k12 c12s11) .skip) :: k) s r := Iff.rfl
def c12r14 : List Seg := [
  .one ⟨some 127, .mv (.t 16), none⟩,
  .one ⟨some 128, .mv (.t 127), none⟩,
  .one ⟨some 129, .mv (.t 18), some (128, false)⟩,
  .one ⟨some 130, .un .not (.t 129), some (128, false)⟩,
  .one ⟨some 131, .pick (.t 128) (.c (.bool true)) (.t 130), none⟩]
def c12k14 : ICode := .kill (dead 208 [7, 8, 9, 10, 16, 17, 18]) (.ops c12r14)
@[simp] theorem uc12k14 : Ex F cx (.code c12k14 :: k) ⟨mk 208 l, rows, low⟩ r ↔ bnd (gv (lk l 16) false (evP rows (.mv (.c (lk l 18))))) fun v0 => bnd (gv (lk l 16) false (evP rows (.un .not (.c v0)))) fun v1 => bnd (evP rows (.pick (.c (lk l 16)) (.c (.bool true)) (.c v1))) fun v2 => Ex F cx k ⟨mk 208 [(131, v2), (130, v1), (129, v0), (128, lk l 16), (127, lk l 16), (7, lk l 7), (8, lk l 8), (9, lk l 9), (10, lk l 10), (16, lk l 16), (17, lk l 17), (18, lk l 18)], rows, low⟩ r := reg (keep := [7, 8, 9, 10, 16, 17, 18]) (ops := c12r14) rfl (by kernel_rfl) (by kernel_rfl)
def c12s15 : ICode := (.seq (.seq c12k14 c12s13) c12s5)
@[simp] theorem uc12s15 : Ex F cx (.code c12s15 :: k) s r ↔ Ex F cx (.code (.seq (.seq c12k14 c12s13) c12s5) :: k) s r := Iff.rfl
def c12r16 : List Seg := [
  .one ⟨some 6, .mv (.c (.bool false)), none⟩]
def c12k16 : ICode := .kill (dead 208 []) (.ops c12r16)
@[simp] theorem uc12k16 : Ex F cx (.code c12k16 :: k) ⟨mk 208 l, rows, low⟩ r ↔ Ex F cx k ⟨mk 208 [(6, (.bool false))], rows, low⟩ r := reg (keep := []) (ops := c12r16) rfl (by kernel_rfl) (by kernel_rfl)
def c12s17 : ICode := (.cond (.t 126) (.seq c12k16 .ret) .skip)
@[simp] theorem uc12s17 : Ex F cx (.code c12s17 :: k) s r ↔ Ex F cx (.code (.cond (.t 126) (.seq c12k16 .ret) .skip) :: k) s r := Iff.rfl
def c12r18 : List Seg := [
  .one ⟨some 110, .mv (.t 21), none⟩,
  .one ⟨some 111, .mv (.t 10), none⟩,
  .one ⟨some 112, .bin .neq (.t 110) (.t 111), none⟩,
  .one ⟨some 113, .mv (.t 112), none⟩,
  .one ⟨some 114, .mv (.t 23), some (113, false)⟩,
  .one ⟨some 115, .mv (.t 10), some (113, false)⟩,
  .one ⟨some 116, .bin .neq (.t 114) (.t 115), some (113, false)⟩,
  .one ⟨some 117, .pick (.t 113) (.c (.bool true)) (.t 116), none⟩,
  .one ⟨some 118, .mv (.t 117), none⟩,
  .one ⟨some 119, .mv (.t 19), some (118, false)⟩,
  .one ⟨some 120, .mv (.t 20), some (118, false)⟩,
  .one ⟨some 121, .len 0 (.t 120), some (118, false)⟩,
  .one ⟨some 122, .bin .add (.t 119) (.t 121), some (118, false)⟩,
  .one ⟨some 123, .mv (.t 22), some (118, false)⟩,
  .one ⟨some 124, .bin .add (.t 122) (.t 123), some (118, false)⟩,
  .one ⟨some 125, .bin .neq (.t 124) (.c (.int .i64 0)), some (118, false)⟩,
  .one ⟨some 126, .pick (.t 118) (.c (.bool true)) (.t 125), none⟩]
def c12k18 : ICode := .kill (dead 208 [7, 8, 9, 10, 16, 17, 18, 19, 20, 21, 22, 23]) (.ops c12r18)
@[simp] theorem uc12k18 : Ex F cx (.code c12k18 :: k) ⟨mk 208 l, rows, low⟩ r ↔ bnd (evP rows (.bin .neq (.c (lk l 21)) (.c (lk l 10)))) fun v0 => bnd (gv v0 false (evP rows (.mv (.c (lk l 23))))) fun v1 => bnd (gv v0 false (evP rows (.mv (.c (lk l 10))))) fun v2 => bnd (gv v0 false (evP rows (.bin .neq (.c v1) (.c v2)))) fun v3 => bnd (evP rows (.pick (.c v0) (.c (.bool true)) (.c v3))) fun v4 => bnd (gv v4 false (evP rows (.mv (.c (lk l 19))))) fun v5 => bnd (gv v4 false (evP rows (.mv (.c (lk l 20))))) fun v6 => bnd (gv v4 false (evP rows (.len 0 (.c v6)))) fun v7 => bnd (gv v4 false (evP rows (.bin .add (.c v5) (.c v7)))) fun v8 => bnd (gv v4 false (evP rows (.mv (.c (lk l 22))))) fun v9 => bnd (gv v4 false (evP rows (.bin .add (.c v8) (.c v9)))) fun v10 => bnd (gv v4 false (evP rows (.bin .neq (.c v10) (.c (.int .i64 0))))) fun v11 => bnd (evP rows (.pick (.c v4) (.c (.bool true)) (.c v11))) fun v12 => Ex F cx k ⟨mk 208 [(126, v12), (125, v11), (124, v10), (123, v9), (122, v8), (121, v7), (120, v6), (119, v5), (118, v4), (117, v4), (116, v3), (115, v2), (114, v1), (113, v0), (112, v0), (111, lk l 10), (110, lk l 21), (7, lk l 7), (8, lk l 8), (9, lk l 9), (10, lk l 10), (16, lk l 16), (17, lk l 17), (18, lk l 18), (19, lk l 19), (20, lk l 20), (21, lk l 21), (22, lk l 22), (23, lk l 23)], rows, low⟩ r := reg (keep := [7, 8, 9, 10, 16, 17, 18, 19, 20, 21, 22, 23]) (ops := c12r18) rfl (by kernel_rfl) (by kernel_rfl)
def c12s19 : ICode := (.seq c12k18 c12s17)
@[simp] theorem uc12s19 : Ex F cx (.code c12s19 :: k) s r ↔ Ex F cx (.code (.seq c12k18 c12s17) :: k) s r := Iff.rfl
def c12r20 : List Seg := [
  .one ⟨some 104, .mv (.t 7), none⟩,
  .one ⟨some 105, .mv (.t 8), none⟩,
  .one ⟨some 106, .mv (.t 9), none⟩,
  .one ⟨some 107, .call (.c (.func 44 [])) [(.t 104), (.t 105), (.t 106)], none⟩,
  .one ⟨some 103, .mv (.t 107), none⟩,
  .one ⟨some 108, .ext (.t 103) 0, none⟩,
  .one ⟨some 109, .ext (.t 103) 1, none⟩,
  .one ⟨some 22, .mv (.t 108), none⟩,
  .one ⟨some 23, .mv (.t 109), none⟩]
def c12k20 : ICode := .kill (dead 208 [7, 8, 9, 10, 16, 17, 18, 19, 20, 21]) (.ops c12r20)
@[simp] theorem uc12k20 : Ex F cx (.code c12k20 :: k) ⟨mk 208 l, rows, low⟩ r ↔ bnd (Ret F 44 [lk l 7, lk l 8, lk l 9] rows) fun q0 => bnd (evP q0.2.1 (.ext (.c q0.1) 0)) fun v1 => bnd (evP q0.2.1 (.ext (.c q0.1) 1)) fun v2 => Ex F cx k ⟨mk 208 [(23, v2), (22, v1), (109, v2), (108, v1), (103, q0.1), (107, q0.1), (106, lk l 9), (105, lk l 8), (104, lk l 7), (7, lk l 7), (8, lk l 8), (9, lk l 9), (10, lk l 10), (16, lk l 16), (17, lk l 17), (18, lk l 18), (19, lk l 19), (20, lk l 20), (21, lk l 21)], q0.2.1, (lowO low q0.2.2)⟩ r := reg (keep := [7, 8, 9, 10, 16, 17, 18, 19, 20, 21]) (ops := c12r20) rfl (by kernel_rfl) (by kernel_rfl)
def c12s21 : ICode := (.seq c12k20 c12s19)
@[simp] theorem uc12s21 : Ex F cx (.code c12s21 :: k) s r ↔ Ex F cx (.code (.seq c12k20 c12s19) :: k) s r := Iff.rfl
def c12r22 : List Seg := [
  .one ⟨some 97, .mv (.t 7), none⟩,
  .one ⟨some 98, .mv (.t 8), none⟩,
  .one ⟨some 99, .call (.c (.func 35 [])) [(.t 97), (.t 98)], none⟩,
  .one ⟨some 96, .mv (.t 99), none⟩,
  .one ⟨some 100, .ext (.t 96) 0, none⟩,
  .one ⟨some 101, .ext (.t 96) 1, none⟩,
  .one ⟨some 102, .ext (.t 96) 2, none⟩,
  .one ⟨some 19, .mv (.t 100), none⟩,
  .one ⟨some 20, .mv (.t 101), none⟩,
  .one ⟨some 21, .mv (.t 102), none⟩]
def c12k22 : ICode := .kill (dead 208 [7, 8, 9, 10, 16, 17, 18]) (.ops c12r22)
@[simp] theorem uc12k22 : Ex F cx (.code c12k22 :: k) ⟨mk 208 l, rows, low⟩ r ↔ bnd (Ret F 35 [lk l 7, lk l 8] rows) fun q0 => bnd (evP q0.2.1 (.ext (.c q0.1) 0)) fun v1 => bnd (evP q0.2.1 (.ext (.c q0.1) 1)) fun v2 => bnd (evP q0.2.1 (.ext (.c q0.1) 2)) fun v3 => Ex F cx k ⟨mk 208 [(21, v3), (20, v2), (19, v1), (102, v3), (101, v2), (100, v1), (96, q0.1), (99, q0.1), (98, lk l 8), (97, lk l 7), (7, lk l 7), (8, lk l 8), (9, lk l 9), (10, lk l 10), (16, lk l 16), (17, lk l 17), (18, lk l 18)], q0.2.1, (lowO low q0.2.2)⟩ r := reg (keep := [7, 8, 9, 10, 16, 17, 18]) (ops := c12r22) rfl (by kernel_rfl) (by kernel_rfl)
def c12s23 : ICode := (.cond (.t 95) (.seq c12k22 c12s21) .skip)
@[simp] theorem uc12s23 : Ex F cx (.code c12s23 :: k) s r ↔ Ex F cx (.code (.cond (.t 95) (.seq c12k22 c12s21) .skip) :: k) s r := Iff.rfl
def c12r24 : List Seg := [
  .one ⟨some 89, .mv (.t 16), none⟩,
  .one ⟨some 90, .mv (.t 89), none⟩,
  .one ⟨some 91, .mv (.t 7), some (90, false)⟩,
  .one ⟨some 92, .mv (.t 8), some (90, false)⟩,
  .one ⟨some 93, .call (.c (.func 47 [])) [(.t 91), (.t 92)], some (90, false)⟩,
  .one ⟨some 94, .un .not (.t 93), some (90, false)⟩,
  .one ⟨some 95, .pick (.t 90) (.c (.bool true)) (.t 94), none⟩]
def c12k24 : ICode := .kill (dead 208 [7, 8, 9, 10, 16, 17, 18]) (.ops c12r24)
@[simp] theorem uc12k24 : Ex F cx (.code c12k24 :: k) ⟨mk 208 l, rows, low⟩ r ↔ bnd (gv (lk l 16) false (evP rows (.mv (.c (lk l 7))))) fun v0 => bnd (gv (lk l 16) false (evP rows (.mv (.c (lk l 8))))) fun v1 => gcall F (lk l 16) false rows low [v0, v1] (.func 47 []) fun v2 R2 L2 => bnd (gv (lk l 16) false (evP R2 (.un .not (.c v2)))) fun v3 => bnd (evP R2 (.pick (.c (lk l 16)) (.c (.bool true)) (.c v3))) fun v4 => Ex F cx k ⟨mk 208 [(95, v4), (94, v3), (93, v2), (92, v1), (91, v0), (90, lk l 16), (89, lk l 16), (7, lk l 7), (8, lk l 8), (9, lk l 9), (10, lk l 10), (16, lk l 16), (17, lk l 17), (18, lk l 18)], R2, L2⟩ r := reg (keep := [7, 8, 9, 10, 16, 17, 18]) (ops := c12r24) rfl (by kernel_rfl) (by kernel_rfl)
def c12s25 : ICode := (.seq (.seq c12k24 c12s23) c12s15)
@[simp] theorem uc12s25 : Ex F cx (.code c12s25 :: k) s r ↔ Ex F cx (.code (.seq (.seq c12k24 c12s23) c12s15) :: k) s r := Iff.rfl
def c12r26 : List Seg := [
  .one ⟨some 83, .mv (.t 7), none⟩,
  .one ⟨some 84, .len 0 (.t 83), none⟩,
  .one ⟨some 85, .mv (.t 9), none⟩,
  .one ⟨some 86, .call (.c (.func 31 [])) [(.t 84), (.t 85)], none⟩,
  .one ⟨some 82, .mv (.t 86), none⟩,
  .one ⟨some 87, .ext (.t 82) 0, none⟩,
  .one ⟨some 88, .ext (.t 82) 1, none⟩,
  .one ⟨some 17, .mv (.t 87), none⟩,
  .one ⟨some 18, .mv (.t 88), none⟩]
def c12k26 : ICode := .kill (dead 208 [7, 8, 9, 10, 16]) (.ops c12r26)
@[simp] theorem uc12k26 : Ex F cx (.code c12k26 :: k) ⟨mk 208 l, rows, low⟩ r ↔ bnd (evP rows (.len 0 (.c (lk l 7)))) fun v0 => bnd (Ret F 31 [v0, lk l 9] rows) fun q1 => bnd (evP q1.2.1 (.ext (.c q1.1) 0)) fun v2 => bnd (evP q1.2.1 (.ext (.c q1.1) 1)) fun v3 => Ex F cx k ⟨mk 208 [(18, v3), (17, v2), (88, v3), (87, v2), (82, q1.1), (86, q1.1), (85, lk l 9), (84, v0), (83, lk l 7), (7, lk l 7), (8, lk l 8), (9, lk l 9), (10, lk l 10), (16, lk l 16)], q1.2.1, (lowO low q1.2.2)⟩ r := reg (keep := [7, 8, 9, 10, 16]) (ops := c12r26) rfl (by kernel_rfl) (by kernel_rfl)
def c12s27 : ICode := (.seq c12k26 c12s25)
@[simp] theorem uc12s27 : Ex F cx (.code c12s27 :: k) s r ↔ Ex F cx (.code (.seq c12k26 c12s25) :: k) s r := Iff.rfl
def c12r28 : List Seg := [
  .one ⟨some 79, .mv (.t 7), none⟩,
  .one ⟨some 80, .call (.c (.func 45 [])) [(.t 79)], none⟩,
  .one ⟨some 81, .un .not (.t 80), none⟩,
  .one ⟨some 16, .mv (.t 81), none⟩]
def c12k28 : ICode := .kill (dead 208 [7, 8, 9, 10]) (.ops c12r28)
@[simp] theorem uc12k28 : Ex F cx (.code c12k28 :: k) ⟨mk 208 l, rows, low⟩ r ↔ bnd (Ret F 45 [lk l 7] rows) fun q0 => bnd (evP q0.2.1 (.un .not (.c q0.1))) fun v1 => Ex F cx k ⟨mk 208 [(16, v1), (81, v1), (80, q0.1), (79, lk l 7), (7, lk l 7), (8, lk l 8), (9, lk l 9), (10, lk l 10)], q0.2.1, (lowO low q0.2.2)⟩ r := reg (keep := [7, 8, 9, 10]) (ops := c12r28) rfl (by kernel_rfl) (by kernel_rfl)
def c12s29 : ICode := (.seq c12k28 c12s27)
@[simp] theorem uc12s29 : Ex F cx (.code c12s29 :: k) s r ↔ Ex F cx (.code (.seq c12k28 c12s27) :: k) s r := Iff.rfl
def c12r30 : List Seg := [
  .one ⟨some 6, .mv (.c (.bool false)), none⟩]
def c12k30 : ICode := .kill (dead 208 []) (.ops c12r30)
@[simp] theorem uc12k30 : Ex F cx (.code c12k30 :: k) ⟨mk 208 l, rows, low⟩ r ↔ Ex F cx k ⟨mk 208 [(6, (.bool false))], rows, low⟩ r := reg (keep := []) (ops := c12r30) rfl (by kernel_rfl) (by kernel_rfl)
def c12s31 : ICode := (.cond (.t 78) (.seq c12k30 .ret) .skip)
@[simp] theorem uc12s31 : Ex F cx (.code c12s31 :: k) s r ↔ Ex F cx (.code (.cond (.t 78) (.seq c12k30 .ret) .skip) :: k) s r := Iff.rfl
def c12r32 : List Seg := [
  .one ⟨some 61, .mv (.t 12), none⟩,
  .one ⟨some 62, .mv (.t 10), none⟩,
  .one ⟨some 63, .bin .neq (.t 61) (.t 62), none⟩,
  .one ⟨some 64, .mv (.t 63), none⟩,
  .one ⟨some 65, .mv (.t 15), some (64, false)⟩,
  .one ⟨some 66, .mv (.t 10), some (64, false)⟩,
  .one ⟨some 67, .bin .neq (.t 65) (.t 66), some (64, false)⟩,
  .one ⟨some 68, .pick (.t 64) (.c (.bool true)) (.t 67), none⟩,
  .one ⟨some 69, .mv (.t 68), none⟩,
  .one ⟨some 70, .mv (.t 11), some (69, false)⟩,
  .one ⟨some 71, .pick (.t 69) (.c (.bool true)) (.t 70), none⟩,
  .one ⟨some 72, .mv (.t 71), none⟩,
  .one ⟨some 73, .mv (.t 13), some (72, false)⟩,
  .one ⟨some 74, .mv (.t 14), some (72, false)⟩,
  .one ⟨some 75, .len 0 (.t 74), some (72, false)⟩,
  .one ⟨some 76, .bin .add (.t 73) (.t 75), some (72, false)⟩,
  .one ⟨some 77, .bin .neq (.t 76) (.c (.int .i64 0)), some (72, false)⟩,
  .one ⟨some 78, .pick (.t 72) (.c (.bool true)) (.t 77), none⟩]
def c12k32 : ICode := .kill (dead 208 [7, 8, 9, 10, 11, 12, 13, 14, 15]) (.ops c12r32)
@[simp] theorem uc12k32 : Ex F cx (.code c12k32 :: k) ⟨mk 208 l, rows, low⟩ r ↔ bnd (evP rows (.bin .neq (.c (lk l 12)) (.c (lk l 10)))) fun v0 => bnd (gv v0 false (evP rows (.mv (.c (lk l 15))))) fun v1 => bnd (gv v0 false (evP rows (.mv (.c (lk l 10))))) fun v2 => bnd (gv v0 false (evP rows (.bin .neq (.c v1) (.c v2)))) fun v3 => bnd (evP rows (.pick (.c v0) (.c (.bool true)) (.c v3))) fun v4 => bnd (gv v4 false (evP rows (.mv (.c (lk l 11))))) fun v5 => bnd (evP rows (.pick (.c v4) (.c (.bool true)) (.c v5))) fun v6 => bnd (gv v6 false (evP rows (.mv (.c (lk l 13))))) fun v7 => bnd (gv v6 false (evP rows (.mv (.c (lk l 14))))) fun v8 => bnd (gv v6 false (evP rows (.len 0 (.c v8)))) fun v9 => bnd (gv v6 false (evP rows (.bin .add (.c v7) (.c v9)))) fun v10 => bnd (gv v6 false (evP rows (.bin .neq (.c v10) (.c (.int .i64 0))))) fun v11 => bnd (evP rows (.pick (.c v6) (.c (.bool true)) (.c v11))) fun v12 => Ex F cx k ⟨mk 208 [(78, v12), (77, v11), (76, v10), (75, v9), (74, v8), (73, v7), (72, v6), (71, v6), (70, v5), (69, v4), (68, v4), (67, v3), (66, v2), (65, v1), (64, v0), (63, v0), (62, lk l 10), (61, lk l 12), (7, lk l 7), (8, lk l 8), (9, lk l 9), (10, lk l 10), (11, lk l 11), (12, lk l 12), (13, lk l 13), (14, lk l 14), (15, lk l 15)], rows, low⟩ r := reg (keep := [7, 8, 9, 10, 11, 12, 13, 14, 15]) (ops := c12r32) rfl (by kernel_rfl) (by kernel_rfl)
def c12s33 : ICode := (.seq c12k32 c12s31)
@[simp] theorem uc12s33 : Ex F cx (.code c12s33 :: k) s r ↔ Ex F cx (.code (.seq c12k32 c12s31) :: k) s r := Iff.rfl
def c12r34 : List Seg := [
  .one ⟨some 56, .mv (.t 7), none⟩,
  .one ⟨some 57, .call (.c (.func 28 [])) [(.t 56)], none⟩,
  .one ⟨some 55, .mv (.t 57), none⟩,
  .one ⟨some 58, .ext (.t 55) 0, none⟩,
  .one ⟨some 59, .ext (.t 55) 1, none⟩,
  .one ⟨some 60, .ext (.t 55) 2, none⟩,
  .one ⟨some 13, .mv (.t 58), none⟩,
  .one ⟨some 14, .mv (.t 59), none⟩,
  .one ⟨some 15, .mv (.t 60), none⟩]
def c12k34 : ICode := .kill (dead 208 [7, 8, 9, 10, 11, 12]) (.ops c12r34)
@[simp] theorem uc12k34 : Ex F cx (.code c12k34 :: k) ⟨mk 208 l, rows, low⟩ r ↔ bnd (Ret F 28 [lk l 7] rows) fun q0 => bnd (evP q0.2.1 (.ext (.c q0.1) 0)) fun v1 => bnd (evP q0.2.1 (.ext (.c q0.1) 1)) fun v2 => bnd (evP q0.2.1 (.ext (.c q0.1) 2)) fun v3 => Ex F cx k ⟨mk 208 [(15, v3), (14, v2), (13, v1), (60, v3), (59, v2), (58, v1), (55, q0.1), (57, q0.1), (56, lk l 7), (7, lk l 7), (8, lk l 8), (9, lk l 9), (10, lk l 10), (11, lk l 11), (12, lk l 12)], q0.2.1, (lowO low q0.2.2)⟩ r := reg (keep := [7, 8, 9, 10, 11, 12]) (ops := c12r34) rfl (by kernel_rfl) (by kernel_rfl)
def c12s35 : ICode := (.seq c12k34 c12s33)
@[simp] theorem uc12s35 : Ex F cx (.code c12s35 :: k) s r ↔ Ex F cx (.code (.seq c12k34 c12s33) :: k) s r := Iff.rfl
def c12r36 : List Seg := [
  .one ⟨some 50, .mv (.t 7), none⟩,
  .one ⟨some 51, .mv (.t 9), none⟩,
  .one ⟨some 52, .call (.c (.func 43 [])) [(.t 50), (.t 51)], none⟩,
  .one ⟨some 49, .mv (.t 52), none⟩,
  .one ⟨some 53, .ext (.t 49) 0, none⟩,
  .one ⟨some 54, .ext (.t 49) 1, none⟩,
  .one ⟨some 11, .mv (.t 53), none⟩,
  .one ⟨some 12, .mv (.t 54), none⟩]
def c12k36 : ICode := .kill (dead 208 [7, 8, 9, 10]) (.ops c12r36)
@[simp] theorem uc12k36 : Ex F cx (.code c12k36 :: k) ⟨mk 208 l, rows, low⟩ r ↔ bnd (Ret F 43 [lk l 7, lk l 9] rows) fun q0 => bnd (evP q0.2.1 (.ext (.c q0.1) 0)) fun v1 => bnd (evP q0.2.1 (.ext (.c q0.1) 1)) fun v2 => Ex F cx k ⟨mk 208 [(12, v2), (11, v1), (54, v2), (53, v1), (49, q0.1), (52, q0.1), (51, lk l 9), (50, lk l 7), (7, lk l 7), (8, lk l 8), (9, lk l 9), (10, lk l 10)], q0.2.1, (lowO low q0.2.2)⟩ r := reg (keep := [7, 8, 9, 10]) (ops := c12r36) rfl (by kernel_rfl) (by kernel_rfl)
def c12r37 : List Seg := [
  .one ⟨some 10, .mv (.c (.int .i64 1)), none⟩]
def c12k37 : ICode := .kill (dead 208 [7, 8, 9]) (.ops c12r37)
@[simp] theorem uc12k37 : Ex F cx (.code c12k37 :: k) ⟨mk 208 l, rows, low⟩ r ↔ Ex F cx k ⟨mk 208 [(10, (.int .i64 1)), (7, lk l 7), (8, lk l 8), (9, lk l 9)], rows, low⟩ r := reg (keep := [7, 8, 9]) (ops := c12r37) rfl (by kernel_rfl) (by kernel_rfl)
def c12s38 : ICode := (.cond (.t 48) (.seq c12k36 c12s35) c12k37)
@[simp] theorem uc12s38 : Ex F cx (.code c12s38 :: k) s r ↔ Ex F cx (.code (.cond (.t 48) (.seq c12k36 c12s35) c12k37) :: k) s r := Iff.rfl
def c12r39 : List Seg := [
  .one ⟨some 47, .mv (.t 10), none⟩,
  .one ⟨some 48, .bin .neq (.t 47) (.c (.int .i64 0)), none⟩]
def c12k39 : ICode := .kill (dead 208 [7, 8, 9, 10]) (.ops c12r39)
@[simp] theorem uc12k39 : Ex F cx (.code c12k39 :: k) ⟨mk 208 l, rows, low⟩ r ↔ bnd (evP rows (.bin .neq (.c (lk l 10)) (.c (.int .i64 0)))) fun v0 => Ex F cx k ⟨mk 208 [(48, v0), (47, lk l 10), (7, lk l 7), (8, lk l 8), (9, lk l 9), (10, lk l 10)], rows, low⟩ r := reg (keep := [7, 8, 9, 10]) (ops := c12r39) rfl (by kernel_rfl) (by kernel_rfl)
def c12s40 : ICode := (.seq (.seq c12k39 c12s38) c12s29)
@[simp] theorem uc12s40 : Ex F cx (.code c12s40 :: k) s r ↔ Ex F cx (.code (.seq (.seq c12k39 c12s38) c12s29) :: k) s r := Iff.rfl
def c12r41 : List Seg := [
  .one ⟨some 6, .mv (.c (.bool false)), none⟩]
def c12k41 : ICode := .kill (dead 208 []) (.ops c12r41)
@[simp] theorem uc12k41 : Ex F cx (.code c12k41 :: k) ⟨mk 208 l, rows, low⟩ r ↔ Ex F cx k ⟨mk 208 [(6, (.bool false))], rows, low⟩ r := reg (keep := []) (ops := c12r41) rfl (by kernel_rfl) (by kernel_rfl)
def c12s42 : ICode := (.cond (.t 46) (.seq c12k41 .ret) .skip)
@[simp] theorem uc12s42 : Ex F cx (.code c12s42 :: k) s r ↔ Ex F cx (.code (.cond (.t 46) (.seq c12k41 .ret) .skip) :: k) s r := Iff.rfl
def c12r43 : List Seg := [
  .one ⟨some 43, .mv (.t 7), none⟩,
  .one ⟨some 44, .call (.c (.func 46 [])) [(.t 43)], none⟩,
  .one ⟨some 45, .mv (.t 10), none⟩,
  .one ⟨some 46, .bin .neq (.t 44) (.t 45), none⟩]
def c12k43 : ICode := .kill (dead 208 [7, 8, 9, 10]) (.ops c12r43)
@[simp] theorem uc12k43 : Ex F cx (.code c12k43 :: k) ⟨mk 208 l, rows, low⟩ r ↔ bnd (Ret F 46 [lk l 7] rows) fun q0 => bnd (evP q0.2.1 (.bin .neq (.c q0.1) (.c (lk l 10)))) fun v1 => Ex F cx k ⟨mk 208 [(46, v1), (45, lk l 10), (44, q0.1), (43, lk l 7), (7, lk l 7), (8, lk l 8), (9, lk l 9), (10, lk l 10)], q0.2.1, (lowO low q0.2.2)⟩ r := reg (keep := [7, 8, 9, 10]) (ops := c12r43) rfl (by kernel_rfl) (by kernel_rfl)
def c12s44 : ICode := (.seq (.seq c12k43 c12s42) c12s40)
@[simp] theorem uc12s44 : Ex F cx (.code c12s44 :: k) s r ↔ Ex F cx (.code (.seq (.seq c12k43 c12s42) c12s40) :: k) s r := Iff.rfl
def c12r45 : List Seg := [
  .one ⟨some 10, .mv (.c (.int .i64 80)), none⟩]
def c12k45 : ICode := .kill (dead 208 [7, 8, 9]) (.ops c12r45)
@[simp] theorem uc12k45 : Ex F cx (.code c12k45 :: k) ⟨mk 208 l, rows, low⟩ r ↔ Ex F cx k ⟨mk 208 [(10, (.int .i64 80)), (7, lk l 7), (8, lk l 8), (9, lk l 9)], rows, low⟩ r := reg (keep := [7, 8, 9]) (ops := c12r45) rfl (by kernel_rfl) (by kernel_rfl)
def c12s46 : ICode := (.cond (.t 42) c12k45 .skip)
@[simp] theorem uc12s46 : Ex F cx (.code c12s46 :: k) s r ↔ Ex F cx (.code (.cond (.t 42) c12k45 .skip) :: k) s r := Iff.rfl
def c12r47 : List Seg := [
  .one ⟨some 40, .mv (.t 7), none⟩,
  .one ⟨some 41, .call (.c (.func 45 [])) [(.t 40)], none⟩,
  .one ⟨some 42, .un .not (.t 41), none⟩]
def c12k47 : ICode := .kill (dead 208 [7, 8, 9, 10]) (.ops c12r47)
@[simp] theorem uc12k47 : Ex F cx (.code c12k47 :: k) ⟨mk 208 l, rows, low⟩ r ↔ bnd (Ret F 45 [lk l 7] rows) fun q0 => bnd (evP q0.2.1 (.un .not (.c q0.1))) fun v1 => Ex F cx k ⟨mk 208 [(42, v1), (41, q0.1), (40, lk l 7), (7, lk l 7), (8, lk l 8), (9, lk l 9), (10, lk l 10)], q0.2.1, (lowO low q0.2.2)⟩ r := reg (keep := [7, 8, 9, 10]) (ops := c12r47) rfl (by kernel_rfl) (by kernel_rfl)
def c12s48 : ICode := (.seq (.seq c12k47 c12s46) c12s44)
@[simp] theorem uc12s48 : Ex F cx (.code c12s48 :: k) s r ↔ Ex F cx (.code (.seq (.seq c12k47 c12s46) c12s44) :: k) s r := Iff.rfl
def c12r49 : List Seg := [
  .one ⟨some 10, .mv (.c (.int .i64 0)), none⟩]
def c12k49 : ICode := .kill (dead 208 [7, 8, 9]) (.ops c12r49)
@[simp] theorem uc12k49 : Ex F cx (.code c12k49 :: k) ⟨mk 208 l, rows, low⟩ r ↔ Ex F cx k ⟨mk 208 [(10, (.int .i64 0)), (7, lk l 7), (8, lk l 8), (9, lk l 9)], rows, low⟩ r := reg (keep := [7, 8, 9]) (ops := c12r49) rfl (by kernel_rfl) (by kernel_rfl)
def c12s50 : ICode := (.seq c12k49 c12s48)
@[simp] theorem uc12s50 : Ex F cx (.code c12s50 :: k) s r ↔ Ex F cx (.code (.seq c12k49 c12s48) :: k) s r := Iff.rfl
def c12r51 : List Seg := [
  .one ⟨some 34, .mv (.t 0), none⟩,
  .one ⟨some 35, .call (.c (.func 26 [])) [(.t 34), (.c (.int .i64 13))], none⟩,
  .one ⟨some 36, .mv (.t 1), none⟩,
  .one ⟨some 37, .call (.c (.func 26 [])) [(.t 36), (.c (.int .i64 14))], none⟩,
  .one ⟨some 38, .mv (.t 2), none⟩,
  .one ⟨some 39, .call (.c (.func 26 [])) [(.t 38), (.c (.int .i64 13))], none⟩,
  .one ⟨some 7, .mv (.t 35), none⟩,
  .one ⟨some 8, .mv (.t 37), none⟩,
  .one ⟨some 9, .mv (.t 39), none⟩]
def c12k51 : ICode := .kill (dead 208 [0, 1, 2]) (.ops c12r51)
@[simp] theorem uc12k51 : Ex F cx (.code c12k51 :: k) ⟨mk 208 l, rows, low⟩ r ↔ bnd (Ret F 26 [lk l 0, (.int .i64 13)] rows) fun q0 => bnd (Ret F 26 [lk l 1, (.int .i64 14)] q0.2.1) fun q1 => bnd (Ret F 26 [lk l 2, (.int .i64 13)] q1.2.1) fun q2 => Ex F cx k ⟨mk 208 [(9, q2.1), (8, q1.1), (7, q0.1), (39, q2.1), (38, lk l 2), (37, q1.1), (36, lk l 1), (35, q0.1), (34, lk l 0), (0, lk l 0), (1, lk l 1), (2, lk l 2)], q2.2.1, (lowO (lowO (lowO low q0.2.2) q1.2.2) q2.2.2)⟩ r := reg (keep := [0, 1, 2]) (ops := c12r51) rfl (by kernel_rfl) (by kernel_rfl)
def c12s52 : ICode := (.seq c12k51 c12s50)
@[simp] theorem uc12s52 : Ex F cx (.code c12s52 :: k) s r ↔ Ex F cx (.code (.seq c12k51 c12s50) :: k) s r := Iff.rfl
def c12r53 : List Seg := [
  .one ⟨some 6, .mv (.c (.bool false)), none⟩]
def c12k53 : ICode := .kill (dead 208 [0, 1, 2]) (.ops c12r53)
@[simp] theorem uc12k53 : Ex F cx (.code c12k53 :: k) ⟨mk 208 l, rows, low⟩ r ↔ Ex F cx k ⟨mk 208 [(6, (.bool false)), (0, lk l 0), (1, lk l 1), (2, lk l 2)], rows, low⟩ r := reg (keep := [0, 1, 2]) (ops := c12r53) rfl (by kernel_rfl) (by kernel_rfl)
def Jc12s5 (F : Nat → Option IFn) (cx : Ctx) (x7 x9 x17 : AV) (rows : List Row) (low : Nat) (r : AV × List Row × Nat → Prop) : Prop := Ex F cx (.code c12s5 :: []) ⟨mk 208 [(7, x7), (9, x9), (17, x17)], rows, low⟩ r
theorem jc12s5 : Ex F cx (.code c12s5 :: []) ⟨mk 208 l, rows, low⟩ r ↔ Jc12s5 F cx (lk l 7) (lk l 9) (lk l 17) rows low r := Ex_canon (keep := [7, 9, 17]) (by kernel_rfl)
def Jc12s15 (F : Nat → Option IFn) (cx : Ctx) (x7 x8 x9 x10 x16 x17 x18 : AV) (rows : List Row) (low : Nat) (r : AV × List Row × Nat → Prop) : Prop := Ex F cx (.code c12s15 :: []) ⟨mk 208 [(7, x7), (8, x8), (9, x9), (10, x10), (16, x16), (17, x17), (18, x18)], rows, low⟩ r
theorem jc12s15 : Ex F cx (.code c12s15 :: []) ⟨mk 208 l, rows, low⟩ r ↔ Jc12s15 F cx (lk l 7) (lk l 8) (lk l 9) (lk l 10) (lk l 16) (lk l 17) (lk l 18) rows low r := Ex_canon (keep := [7, 8, 9, 10, 16, 17, 18]) (by kernel_rfl)
def Jc12s29 (F : Nat → Option IFn) (cx : Ctx) (x7 x8 x9 x10 : AV) (rows : List Row) (low : Nat) (r : AV × List Row × Nat → Prop) : Prop := Ex F cx (.code c12s29 :: []) ⟨mk 208 [(7, x7), (8, x8), (9, x9), (10, x10)], rows, low⟩ r
theorem jc12s29 : Ex F cx (.code c12s29 :: []) ⟨mk 208 l, rows, low⟩ r ↔ Jc12s29 F cx (lk l 7) (lk l 8) (lk l 9) (lk l 10) rows low r := Ex_canon (keep := [7, 8, 9, 10]) (by kernel_rfl)
def Jc12s40 (F : Nat → Option IFn) (cx : Ctx) (x7 x8 x9 x10 : AV) (rows : List Row) (low : Nat) (r : AV × List Row × Nat → Prop) : Prop := Ex F cx (.code c12s40 :: []) ⟨mk 208 [(7, x7), (8, x8), (9, x9), (10, x10)], rows, low⟩ r
theorem jc12s40 : Ex F cx (.code c12s40 :: []) ⟨mk 208 l, rows, low⟩ r ↔ Jc12s40 F cx (lk l 7) (lk l 8) (lk l 9) (lk l 10) rows low r := Ex_canon (keep := [7, 8, 9, 10]) (by kernel_rfl)
def Jc12s44 (F : Nat → Option IFn) (cx : Ctx) (x7 x8 x9 x10 : AV) (rows : List Row) (low : Nat) (r : AV × List Row × Nat → Prop) : Prop := Ex F cx (.code c12s44 :: []) ⟨mk 208 [(7, x7), (8, x8), (9, x9), (10, x10)], rows, low⟩ r
theorem jc12s44 : Ex F cx (.code c12s44 :: []) ⟨mk 208 l, rows, low⟩ r ↔ Jc12s44 F cx (lk l 7) (lk l 8) (lk l 9) (lk l 10) rows low r := Ex_canon (keep := [7, 8, 9, 10]) (by kernel_rfl)
def c12b : ICode := (.seq c12k53 c12s52)
@[simp] theorem uc12b : Ex F cx (.code c12b :: k) s r ↔ Ex F cx (.code (.seq c12k53 c12s52) :: k) s r := Iff.rfl
def c12 : IFn := ⟨208, [.t 6], c12b⟩
def h12 : List (Nat × List Nat) := [(0, dead 208 [0, 1, 2]), (1, dead 208 [0, 1, 2]), (2, dead 208 [7, 8, 9]), (3, dead 208 [7, 8, 9, 10]), (4, dead 208 [7, 8, 9]), (5, dead 208 [7, 8, 9, 10]), (6, dead 208 []), (7, dead 208 [7, 8, 9, 10]), (8, dead 208 [7, 8, 9, 10]), (9, dead 208 [7, 8, 9, 10, 11, 12]), (10, dead 208 [7, 8, 9, 10, 11, 12, 13, 14, 15]), (11, dead 208 []), (12, dead 208 [7, 8, 9]), (13, dead 208 [7, 8, 9, 10]), (14, dead 208 [7, 8, 9, 10, 16]), (15, dead 208 [7, 8, 9, 10, 16, 17, 18]), (16, dead 208 [7, 8, 9, 10, 16, 17, 18]), (17, dead 208 [7, 8, 9, 10, 16, 17, 18, 19, 20, 21]), (18, dead 208 [7, 8, 9, 10, 16, 17, 18, 19, 20, 21, 22, 23]), (19, dead 208 []), (20, dead 208 [7, 8, 9, 10, 16, 17, 18]), (21, dead 208 [7, 8, 9, 10]), (22, dead 208 [7, 8, 9, 10, 24, 25]), (23, dead 208 [7, 9, 10, 24, 25, 26, 27]), (24, dead 208 [10, 24, 25, 26, 27, 28, 29]), (25, dead 208 [7, 9, 17]), (26, dead 208 [7, 9, 30, 31]), (27, dead 208 [30, 31, 32, 33])]
theorem i12 {x0 x1 x2 : AV} (hF : F 12 = some c12) {q : AV × List Row × Option Nat} (h : Ex F (.fn [.t 6]) [.code c12b] ⟨mk 208 [(0, x0), (1, x1), (2, x2)], rows, rows.length⟩ fun r => fin rows r.1 r.2.1 r.2.2 = q) : Ret F 12 [x0, x1, x2] rows = some q := Ret_mk hF h
end Go.Abs

set_option linter.unusedVariables false
set_option linter.unusedSimpArgs false
namespace Go.Abs
open Rd (Cp IsL_one IsL_cells IsL_tail lowO_n)
abbrev G12 : Nat → Option IFn := more F 12 c12
theorem toG12 {f : Nat} {vs : List AV} {rows : List Row} {q : AV × List Row × Option Nat} (h : Ret F f vs rows = some q) : Ret G12 f vs rows = some q := Ret_ext (more_ext (by kernel_rfl)) h
set_option maxRecDepth 100000 in
set_option maxHeartbeats 8000000 in
/-- SearchChecks, if 'awake' is true. -/
theorem checks_ret {rows : List Row} (hA : ∀ H, Und rows H → Ret F 22 [] (rows ++ H) = some (.bool true, rows ++ H, none)) {v0 v1 v2 : AV} {l w p : List Int} (h0 : IsL rows v0 l) (h1 : IsL rows v1 w) (h2 : IsL rows v2 p) (hc0 : Cp 1 v0) (hc1 : Cp 1 v1) (hc2 : Cp 1 v2) : Ret G12 12 [v0, v1, v2] rows = some (.bool true, rows, none) := by
  have f1 := few_ret (m := 13) h0 hc0 (by omega)
  obtain ⟨x7, K7, e7, i7, c7, u7⟩ := newL_shape rows (l.take 13)
  rw [e7] at f1
  have hcl : (l.take 13).length ≤ 13 := by simp; omega
  generalize l.take 13 = c at *
  have f2 := few_ret (m := 14) (IsL_app h1 K7) hc1 (by omega)
  obtain ⟨x8, K8, e8, i8, c8, u8⟩ := newL_shape (rows ++ K7) (w.take 14)
  rw [e8] at f2
  have hul : (w.take 14).length ≤ 14 := by simp; omega
  generalize w.take 14 = u at *
  have f3 := few_ret (m := 13) (IsL_app (IsL_app h2 K7) K8) hc2 (by omega)
  obtain ⟨x9, K9, e9, i9, c9, u9⟩ := newL_shape (rows ++ K7 ++ K8) (p.take 13)
  rw [e9] at f3
  have hql : (p.take 13).length ≤ 13 := by simp; omega
  generalize p.take 13 = q at *
  generalize hR : rows ++ K7 ++ K8 ++ K9 = R at *
  have hUR : ∃ K : List Row, R = rows ++ K ∧ Und rows K := ⟨K7 ++ K8 ++ K9, by rw [← hR]; simp, Und_0 (by rw [List.all_append, List.all_append, u7, u8, u9]; rfl)⟩
  have j7 : IsL R x7 c := by rw [← hR]; exact IsL_app (IsL_app i7 K8) K9
  have j8 : IsL R x8 u := by rw [← hR]; exact IsL_app i8 K9
  have g1 : Ret G12 26 [v0, .int .i64 13] rows = _ := toG12 f1
  have g2 : Ret G12 26 [v1, .int .i64 14] (rows ++ K7) = _ := toG12 f2
  have g3 : Ret G12 26 [v2, .int .i64 13] (rows ++ K7 ++ K8) = _ := toG12 f3
  have g4 := fun L => toG12 (rcosts_ret (IsL_app j7 L) (by omega))
  have g5 := fun L => toG12 (Check_ret (IsL_app j7 L) (by omega))
  obtain ⟨lv, X, o1, o2, o3⟩ := Opened_all (n := c.length) (by omega) i9 (by omega)
  have g6 := toG12 o1
  have l7 := fun L => lenL (IsL_app j7 []) L
  obtain ⟨K, hRK, hUK⟩ := hUR
  have ha : ∀ H, Und R H → Ret G12 22 [] (R ++ H) = some (.bool true, R ++ H, none) := by
    intro H hH
    have := toG12 (hA (K ++ H) (Und_app hUK (by rw [← hRK]; exact hH)))
    rwa [← List.append_assoc, ← hRK] at this
  have aX := ha X o2
  have g40 := g4 []
  have g50 := g5 []
  have l70 := lenL0 j7
  simp only [List.append_nil] at g40 g50
  have w0 : IntKind.i64.wrap 0 = 0 := wrap64 (by omega) (by omega)
  refine Go.Abs.i12 more_at ?_
  by_cases hok : c.length ≤ 12 ∧ (c.all fun x => decide (1 ≤ x ∧ x ≤ 1000)) = true
  · obtain ⟨hn, hall⟩ := hok
    have hcx : ∀ x ∈ c, 0 ≤ x ∧ x ≤ 1000 := fun x hx => by have := List.all_eq_true.1 hall x hx; simp at this; omega
    rw [decide_eq_true hn, hall] at g40
    rw [if_pos ⟨hn, hall⟩] at g50
    have k7 := IsL_app j7 X
    have k8 := IsL_app j8 X
    have k9 := IsL_app i9 X
    have g7 := toG12 (rweights_ret k7 (by omega) k8 (by omega))
    have g8 := fun (x : Int) => toG12 (Answer_ret (piece := x) k7 hn hall k9 c9)
    have g9 := toG12 (Prices_ret k7 hn hall k9 c9)
    have hpo := pricesF_opn (p := q) hcx hn
    -- what the end is, with a plan that is one
    have ans1 : ∀ x : Int, ¬ (0 ≤ x ∧ x ≤ c.length) → Ret G12 30 [x7, x9, .int .i64 x] (R ++ X) = some (.tup [.nilslice, .int .i64 1], R ++ X, none) := by
      intro x hx
      rw [g8 x]
      cases answerF c.length x q with
      | none => rfl
      | some t => simp only [if_neg hx]
    cases ho : opnAll q c.length with
    | none =>
      rw [ho] at g6 hpo
      simp only at hpo
      rw [hpo] at g9
      simp only at g9
      have an : answerF c.length 0 q = none := by
        unfold answerF
        unfold pricesF at hpo
        obtain ⟨y1, y2⟩ := rdP_indep (addA 0) (addP c) c.length 0 c.length q [] (fun _ => 0)
        revert hpo y1 y2
        generalize rdP (addP c) c.length 0 c.length q (fun _ => 0) = s1
        generalize rdP (addA 0) c.length 0 c.length q [] = s2
        obtain ⟨a1, a2, a3⟩ := s1
        obtain ⟨b1, b2, b3⟩ := s2
        intro hpo y1 y2
        have y1 : b1 = a1 := y1
        have y2 : b2 = a2 := y2
        subst y1 y2
        cases b1 with
        | false => rfl
        | true =>
          cases b2 with
          | nil => simp at hpo
          | cons y z => rfl
      have g80 := g8 0
      rw [an] at g80
      simp only at g80
      by_cases hw : wOK c.length u
      · rw [decide_eq_true hw] at g7
        have g10 := toG12 (PriceOf_ret k7 hn hall k8 hw k9 c9 (fun f e => by rw [hpo] at e; simp at e))
        rw [hpo] at g10
        simp only at g10
        simp [g1, g2, g3, hR, g40, g50, g6, l70, g7, g9, g10, g80, aX, w0, -List.append_assoc, -List.length_append]
      · rw [decide_eq_false hw] at g7
        have g10 := toG12 (PriceOf_badW (pv := x9) k7 hn hall k8 (by omega) hw)
        have g11 := toG12 (Weighed_badW k7 hn hall k8 (by omega) hw)
        simp [g1, g2, g3, hR, g40, g50, g6, l70, g7, g9, g10, g11, g80, aX, w0, -List.append_assoc, -List.length_append]
    | some ls =>
      rw [ho] at g6 hpo
      obtain ⟨f, pf, hll, _⟩ := hpo
      have lls := lenLL (o3 ls ho) []
      rw [List.append_nil, hll] at lls
      have a1 := ans1 ((c.length : Int) + 1) (by omega)
      have a2 := ans1 (-1) (by omega)
      by_cases hw : wOK c.length u
      · rw [decide_eq_true hw] at g7
        simp [g1, g2, g3, hR, g40, g50, g6, l70, g7, lls, a1, a2, aX, w0, -List.append_assoc, -List.length_append]
      · rw [decide_eq_false hw] at g7
        have g10 := toG12 (PriceOf_badW (pv := x9) k7 hn hall k8 (by omega) hw)
        have g11 := toG12 (Weighed_badW k7 hn hall k8 (by omega) hw)
        simp [g1, g2, g3, hR, g40, g50, g6, l70, g7, g10, g11, lls, a1, a2, aX, w0, -List.append_assoc, -List.length_append]
  · have e0 : (decide (c.length ≤ 12) && c.all fun x => decide (1 ≤ x ∧ x ≤ 1000)) = false := by
      rw [Bool.eq_false_iff]
      intro e
      rw [Bool.and_eq_true, decide_eq_true_eq] at e
      exact hok e
    rw [e0] at g40
    rw [if_neg hok] at g50
    have b1 := toG12 (IsPlan_bad (pv := x9) j7 (by omega) hok)
    have b2 := toG12 (Worst_bad j7 (by omega) hok)
    have k7 := IsL_app j7 X
    have k8 := IsL_app j8 X
    have b3 := toG12 (Weighed_bad k7 k8 (by omega) hok)
    have b4 := toG12 (PriceOf_bad (uv := x8) (pv := x9) k7 (by omega) hok)
    have b5 := toG12 (Prices_bad (pv := x9) k7 (by omega) hok)
    have b6 := toG12 (Answer_bad (pv := x9) (x := 0) k7 (by omega) hok)
    simp [g1, g2, g3, hR, g40, g50, b1, b2, g6, l70, b3, b4, b5, b6, aX, w0, -List.append_assoc, -List.length_append]
end Go.Abs

set_option linter.unusedVariables false
set_option linter.unusedSimpArgs false
namespace Go.Abs
theorem awake_u (l : List (Option ArgS)) : ∀ H, Und (aRows l) H → Ret F 22 [] (aRows l ++ H) = some (.bool true, aRows l ++ H, none) := by
  intro H hH
  have := awake_any (X := l.map argRow ++ H) (by
    rw [List.all_eq_true]
    intro y hy
    rw [List.mem_append] at hy
    rcases hy with hy | hy
    · refine Sh.runder_mono (Nat.zero_le _) ?_
      obtain ⟨a, _, rfl⟩ := List.mem_map.1 hy
      cases a <;> simp [argRow, Row.under, AV.under, nums]
    · refine Sh.runder_mono ?_ (hH y hy)
      simp [aRows, gRows]
      omega)
  simpa [aRows] using this
theorem aCp {W : World} {a : Option ArgS} (hok : argOK W a) (i : Nat) : Rd.Cp 1 (argAV i a) := by
  cases a with
  | none => trivial
  | some a => exact hok.1
end Go.Abs

