/- The statements' reference: opened, Opened. -/
import Derived.Test.YtiejbjajbehcfaaDoorS17
set_option linter.unusedVariables false
set_option linter.unusedSimpArgs false
namespace Go.Abs
open Rd (Cp IsL_one IsL_cells IsL_tail lowO_n)
theorem Acc_LL {B H : List Row} {ov : AV} {acc : List (List Int)} (h : Acc B H ov acc) : IsLL (B ++ H) ov acc := by
  rcases h with ⟨rfl, rfl⟩ | ⟨j, vs, rfl, hj, hvl, hne, hvs⟩
  · exact ⟨[], rfl, fun i hi => by simp at hi⟩
  · refine ⟨vs, ?_, fun i hi => (hvs i hi).1⟩
    have hr : row? (B ++ H) (B.length + j) = some vs := by
      refine cells?_row ?_
      unfold cells?
      rw [List.getElem?_append_right (by omega), Nat.add_sub_cancel_left, hj]
    unfold El elems
    simp only [hr]
    unfold seg
    rw [if_pos (by omega)]
    simp [List.take_of_length_le, hvl]
theorem Acc_fin {rows X H : List Row} {ov : AV} {acc : List (List Int)} (h : Acc (rows ++ X) H ov acc) (hne : acc ≠ []) {k : IntKind} {e : Int} {t : Bool} : fin rows (.tup [ov, .int k e, .bool t]) (rows ++ X ++ H) rows.length = (.tup [ov, .int k e, .bool t], rows ++ (X ++ H), none) := by
  rcases h with ⟨rfl, rfl⟩ | ⟨j, vs, rfl, hj, hvl, _, hvs⟩
  · exact absurd rfl hne
  · have hpos : 0 < acc.length := List.length_pos_iff.2 hne
    have h0 := hvs 0 hpos
    have hall : vs.all (·.ids.isEmpty) = false := by
      rw [List.all_eq_false]
      refine ⟨gA vs 0, List.mem_of_getElem? (gA_get (by omega)), ?_⟩
      rcases El_cases h0.1 with ⟨_, h1, _⟩ | ⟨id', off, c, us, e, _, _⟩
      · cases hq : gLL acc 0 with
        | nil => exact absurd hq h0.2
        | cons z q => rw [hq] at h1; simp [nums] at h1
      · rw [e]; simp [AV.ids]
    have hr : (rows ++ (X ++ H))[rows.length + (X.length + j)]? = some (.cells vs) := by
      rw [List.getElem?_append_right (by omega), Nat.add_sub_cancel_left, List.getElem?_append_right (by omega), Nat.add_sub_cancel_left, hj]
    unfold fin
    simp [AV.ids, AV.ids.idsL, hr, hall, Nat.add_assoc]
    intro hh; omega
theorem Und_app {rows X H : List Row} (h1 : Und rows X) (h2 : Und (rows ++ X) H) : Und rows (X ++ H) := by
  intro y hy
  rcases List.mem_append.1 hy with hy | hy
  · exact und_mono (h1 y hy) (by simp <;> omega)
  · exact und_mono (h2 y hy) (by simp <;> omega)
/-- A slice in a new row. -/
def Shp (rows X : List Row) (lv : AV) : Prop := ∃ j n c vs, lv = .slice (rows.length + j) 0 n c ∧ X[j]? = some (.cells vs)
theorem Acc_Shp {rows X H : List Row} {ov : AV} {acc : List (List Int)} (h : Acc (rows ++ X) H ov acc) (hne : acc ≠ []) : Shp rows (X ++ H) ov := by
  rcases h with ⟨rfl, rfl⟩ | ⟨j, vs, rfl, hj, hvl, _, hvs⟩
  · exact absurd rfl hne
  · refine ⟨X.length + j, acc.length, .op 1, vs, by simp [Nat.add_assoc], ?_⟩
    rw [List.getElem?_append_right (by omega), Nat.add_sub_cancel_left, hj]
theorem fin_LL {rows X : List Row} {lv : AV} {ls : List (List Int)} {t : Bool} (hs : Shp rows X lv) (hl : IsLL (rows ++ X) lv ls) (hu : Und rows X) : ∃ lv' X', fin rows (.tup [lv, .bool t]) (rows ++ X) rows.length = (.tup [lv', .bool t], rows ++ X', none) ∧ IsLL (rows ++ X') lv' ls ∧ Und rows X' := by
  obtain ⟨j, n, c, vs, rfl, hj⟩ := hs
  have hr : (rows ++ X)[rows.length + j]? = some (.cells vs) := by
    rw [List.getElem?_append_right (by omega), Nat.add_sub_cancel_left, hj]
  by_cases hall : vs.all (·.ids.isEmpty) = true
  · refine ⟨.slice rows.length 0 n c, [.cells vs], ?_, ?_, ?_⟩
    · unfold fin
      simp [AV.ids, AV.ids.idsL, hr, hall, AV.plain1, AV.plain, AV.ren1, AV.ren]
    · obtain ⟨us, hE, hI⟩ := hl
      rcases El_cases hE with ⟨h0, _⟩ | ⟨id', off, c', ws, he, hrow, hseg⟩
      · cases h0
      · injection he with e1 e2 e3 e4
        subst e1 e2 e3 e4
        have : ws = vs := by
          have := cells?_row (rows := rows ++ X) (i := rows.length + j) (vs := vs) (by unfold cells?; rw [hr])
          rw [hrow] at this
          injection this
        subst this
        have hrow' : row? (rows ++ [.cells ws]) rows.length = some ws := by unfold row?; simp
        refine ⟨us, ?_, fun i hi => ?_⟩
        · unfold El elems
          simp only [hrow', hseg]
          rfl
        · have h1 := hI i hi
          have hmem : gA us i ∈ ws := by
            have hul := El_len hE
            have : gA us i ∈ us := List.mem_of_getElem? (gA_get (by omega))
            unfold seg at hseg
            split at hseg
            · injection hseg with hseg
              rw [show us = ((ws.drop 0).take (ls.length * 1)) from hseg.symm] at this ⊢
              exact List.mem_of_mem_drop (List.mem_of_mem_take this)
            · simp at hseg
          have hid := List.all_eq_true.1 hall _ hmem
          rcases El_cases h1 with ⟨e, e2, _⟩ | ⟨id', off, c', us', e, _, _⟩
          · have : gLL ls i = [] := by
              cases hq : gLL ls i with
              | nil => rfl
              | cons z q => rw [hq] at e2; simp [nums] at e2
            rw [e, this]; exact IsL_nil
          · rw [e] at hid; simp [AV.ids] at hid
    · intro y hy
      rw [List.mem_singleton] at hy
      subst hy
      have hy := hu _ (List.mem_of_getElem? hj)
      simp only [Row.under, List.all_eq_true] at hy ⊢
      intro x hx
      have hid := List.all_eq_true.1 hall x hx
      have hid : x.ids = [] := by simpa using hid
      simp [AV.under, hid]
  · have hall : vs.all (·.ids.isEmpty) = false := by simpa using hall
    refine ⟨.slice (rows.length + j) 0 n c, X, ?_, hl, hu⟩
    unfold fin
    simp [AV.ids, AV.ids.idsL, hr, hall]
    intro hh; omega
theorem opened_ret {p : List Int} (hpl : p.length < 4611686018427387904) {v : AV} : ∀ (m : Nat) (rows : List Row) (at_ : Nat) (a b : Int), IsL rows v p → 0 ≤ a → a ≤ b → b ≤ 12 → at_ ≤ p.length → b - a ≤ m →
    match opn p m at_ a b with
    | none => Ret F 64 [v, .int .i64 at_, .int .i64 a, .int .i64 b] rows = some (.tup [.nilslice, .int .i64 at_, .bool false], rows, none)
    | some (ls, n) => ∃ lv X, Ret F 64 [v, .int .i64 at_, .int .i64 a, .int .i64 b] rows = some (.tup [lv, .int .i64 n, .bool true], rows ++ X, none) ∧ IsLL (rows ++ X) lv ls ∧ Und rows X ∧ Shp rows X lv := by
  have base : ∀ (rows : List Row) (at_ : Nat) (a : Int), ∃ lv X, Ret F 64 [v, .int .i64 at_, .int .i64 a, .int .i64 a] rows = some (.tup [lv, .int .i64 at_, .bool true], rows ++ X, none) ∧ IsLL (rows ++ X) lv [[]] ∧ Und rows X ∧ Shp rows X lv := by
    intro rows at_ a
    refine ⟨.slice rows.length 0 1 (.at_ 1), [.cells [.nilslice]], ?_, ⟨[.nilslice], ?_, ?_⟩, ?_, ⟨0, 1, .at_ 1, _, rfl, rfl⟩⟩
    · refine i64 F64 ?_
      simp [-uc64s36, jc64s36, fillA, splice]
      simp [fin, AV.plain1, AV.plain, AV.ren1, AV.ren, AV.ids, AV.ids.idsL]
    · have : row? (rows ++ [.cells [.nilslice]]) rows.length = some [.nilslice] := by unfold row?; simp
      unfold El elems
      simp only [this]
      rfl
    · intro i hi
      have : i = 0 := by simpa using hi
      subst this
      exact IsL_nil
    · intro y hy
      rw [List.mem_singleton] at hy
      subst hy
      rfl
  intro m
  induction m with
  | zero =>
    intro rows at_ a b h h0 h1 h2 h3 h4
    have : a = b := by omega
    subst this
    unfold opn
    simp only [if_true]
    exact base rows at_ a
  | succ m ih =>
    intro rows at_ a b h h0 h1 h2 h3 h4
    unfold opn
    by_cases he : a = b
    · subst he
      simp only [if_true]
      exact base rows at_ a
    · simp only [he, if_false]
      by_cases hc : at_ < p.length ∧ a ≤ gI p at_ ∧ gI p at_ < b
      · rw [if_pos hc]
        have w1 : IntKind.i64.wrap ((at_ : Int) + 1) = (at_ : Int) + 1 := wrap64 (by omega) (by omega)
        have c1 : ((at_ + 1 : Nat) : Int) = (at_ : Int) + 1 := by omega
        have hs : ∀ {R : AV × List Row × Option Nat → Prop}, (Jc64s32 F (.fn [.t 8, .t 9, .t 10]) v (.int .i64 at_) (.int .i64 a) (.int .i64 b) rows rows.length fun r => R (fin rows r.1 r.2.1 r.2.2)) → ∃ q, Ret F 64 [v, .int .i64 at_, .int .i64 a, .int .i64 b] rows = some q ∧ R q := by
          intro R hq
          refine Ret_mk' F64 (show Ex F (.fn [.t 8, .t 9, .t 10]) [.code c64b] ⟨mk 113 [(0, v), (1, .int .i64 at_), (2, .int .i64 a), (3, .int .i64 b)], rows, rows.length⟩ (fun r => R (fin rows r.1 r.2.1 r.2.2)) from ?_)
          simp [-uc64s36, jc64s36, he]
          unfold Jc64s36
          simp (disch := first | omega | (simp; done) | fail) [-uc64s32, jc64s32, lenL0 h, idxL0 h, loadL0 h, hc.1, show ¬ (gI p at_ < a) from by omega, show ¬ (b ≤ gI p at_) from by omega, show ¬ (p.length ≤ at_) from by omega]
          exact hq
        have hL := ih rows (at_ + 1) a (gI p at_) h h0 hc.2.1 (by omega) (by omega) (by omega)
        cases hx : opn p m (at_ + 1) a (gI p at_) with
        | none =>
          simp only [hx] at hL
          rw [c1] at hL
          dsimp only
          obtain ⟨q, hq, rfl⟩ := hs (R := fun z => z = (.tup [.nilslice, .int .i64 at_, .bool false], rows, none)) (by
            unfold Jc64s32
            simp (disch := first | omega | (simp; done) | fail) [-uc64s24, jc64s24, lenL0 h, idxL0 h, loadL0 h, hc.1, w1]
            rw [hL]
            simp [-uc64s24, jc64s24])
          exact hq
        | some q1 =>
          obtain ⟨x, n1⟩ := q1
          simp only [hx] at hL
          rw [c1] at hL
          obtain ⟨xv, X1, e1, hxL, hu1, _⟩ := hL
          have l1 := opn_len _ _ _ _ _ _ hx hc.2.1 (by omega)
          have wg : IntKind.i64.wrap (gI p at_ + 1) = gI p at_ + 1 := wrap64 (by omega) (by omega)
          have hR := ih (rows ++ X1) n1 (gI p at_ + 1) b (IsL_app h X1) (by omega) (by omega) h2 l1.2.1 (by omega)
          have hs2 : ∀ {R : AV × List Row × Option Nat → Prop}, (Jc64s24 F (.fn [.t 8, .t 9, .t 10]) v (.int .i64 at_) (.int .i64 b) (.int .i64 (gI p at_)) xv (.int .i64 n1) (rows ++ X1) rows.length fun r => R (fin rows r.1 r.2.1 r.2.2)) → ∃ q, Ret F 64 [v, .int .i64 at_, .int .i64 a, .int .i64 b] rows = some q ∧ R q := by
            intro R hq
            refine hs ?_
            unfold Jc64s32
            simp (disch := first | omega | (simp; done) | fail) [-uc64s24, jc64s24, lenL0 h, idxL0 h, loadL0 h, hc.1, w1]
            rw [e1]
            simp [-uc64s24, jc64s24, -lowO, lowO_n]
            exact hq
          dsimp only
          cases hy : opn p m n1 (gI p at_ + 1) b with
          | none =>
            simp only [hy] at hR
            dsimp only
            obtain ⟨q, hq, rfl⟩ := hs2 (R := fun z => z = (.tup [.nilslice, .int .i64 at_, .bool false], rows, none)) (by
              unfold Jc64s24
              simp (disch := first | omega | (simp; done) | fail) [-uc64s18, jc64s18, wg]
              rw [hR]
              simp [-uc64s18, jc64s18, -lowO, lowO_n])
            exact hq
          | some q2 =>
            obtain ⟨y, n2⟩ := q2
            simp only [hy] at hR
            obtain ⟨yv, X2, e2, hyL, hu2, _⟩ := hR
            have l2 := opn_len _ _ _ _ _ _ hy (by omega) l1.2.1
            dsimp only
            have hlen : ((x ++ y).map (gI p at_ :: ·)) ≠ [] := by
              intro e
              have h5 := congrArg List.length e
              rw [List.length_map, List.length_append, List.length_nil] at h5
              have := l1.2.2.1
              omega
            have hU : Und rows (X1 ++ X2) := Und_app hu1 hu2
            obtain ⟨H', ov', hA, hU', hq⟩ : ∃ H' ov', Acc (rows ++ X1 ++ X2) H' ov' ((x ++ y).map (gI p at_ :: ·)) ∧ Und (rows ++ X1 ++ X2) H' ∧ Ret F 64 [v, .int .i64 at_, .int .i64 a, .int .i64 b] rows = some (.tup [ov', .int .i64 n2, .bool true], rows ++ (X1 ++ X2 ++ H'), none) := by
              have hxb := l1.2.2.2
              have hyb := l2.2.2.2
              have hlp := opened_loop (B := rows ++ X1 ++ X2) (low := rows.length) (xv := xv) (yv := yv) (ev := .int .i64 n2) (g := gI p at_) (r := fun r => (fun z : AV × List Row × Option Nat => ∃ H' ov', Acc (rows ++ X1 ++ X2) H' ov' ((x ++ y).map (gI p at_ :: ·)) ∧ Und (rows ++ X1 ++ X2) H' ∧ z = (.tup [ov', .int .i64 n2, .bool true], rows ++ (X1 ++ X2 ++ H'), none)) (fin rows r.1 r.2.1 r.2.2)) (by simp <;> omega) (IsLL_app hxL X2) hyL (by have := l1.2.2.1; have := l2.2.2.1; omega)
                (fun l hl => by have := (hxb l hl).1; omega) (fun l hl => by have := (hyb l hl).1; omega)
                (fun H' ov' hA hU' => ⟨H', ov', hA, hU', by
                  have hA2 := hA
                  rw [List.append_assoc rows] at hA2
                  have := Acc_fin hA2 hlen (k := .i64) (e := n2) (t := true)
                  rw [← List.append_assoc rows] at this
                  simpa using this⟩) _ 0 [] .nilslice rfl (by omega) (.inl ⟨by simp, rfl⟩) (fun y hy => by simp at hy)
              obtain ⟨q, hq, H', ov', hA, hU', rfl⟩ := hs2 (R := fun z : AV × List Row × Option Nat => ∃ H' ov', Acc (rows ++ X1 ++ X2) H' ov' ((x ++ y).map (gI p at_ :: ·)) ∧ Und (rows ++ X1 ++ X2) H' ∧ z = (.tup [ov', .int .i64 n2, .bool true], rows ++ (X1 ++ X2 ++ H'), none)) (by
                unfold Jc64s24
                simp (disch := first | omega | (simp; done) | fail) [-uc64s18, jc64s18, wg, -List.append_assoc]
                rw [e2]
                simp [-uc64s18, jc64s18, -lowO, lowO_n, -List.append_assoc]
                unfold Jc64s18
                simp [-List.append_assoc]
                simpa [-List.append_assoc] using hlp)
              exact ⟨H', ov', hA, hU', hq⟩
            rw [List.append_assoc rows] at hA hU'
            refine ⟨ov', X1 ++ X2 ++ H', hq, ?_, Und_app hU hU', Acc_Shp hA hlen⟩
            have := Acc_LL hA
            rwa [List.append_assoc] at this
      · rw [if_neg hc]
        refine i64 F64 ?_
        simp [-uc64s36, jc64s36, he]
        unfold Jc64s36
        by_cases h5 : at_ < p.length
        · by_cases h6 : gI p at_ < a
          · simp (disch := first | omega | (simp; done) | fail) [-uc64s32, jc64s32, lenL0 h, idxL0 h, loadL0 h, h5, h6, show ¬ (p.length ≤ at_) from by omega]
          · simp (disch := first | omega | (simp; done) | fail) [-uc64s32, jc64s32, lenL0 h, idxL0 h, loadL0 h, h5, h6, show ¬ (p.length ≤ at_) from by omega, show b ≤ gI p at_ from by omega]
        · simp (disch := first | omega | (simp; done) | fail) [-uc64s32, jc64s32, lenL0 h, h5, show p.length ≤ at_ from by omega]
/-- The reference's Opened. -/
def opnAll (p : List Int) (n : Nat) : Option (List (List Int)) := match opn p n 0 0 n with
  | some (ls, k) => if k = p.length then some ls else none
  | none => none
theorem Opened_ret {p : List Int} (hpl : p.length < 4611686018427387904) {v : AV} {rows : List Row} {n : Nat} (h : IsL rows v p) (hn : n ≤ 12) :
    match opn p n 0 0 n with
    | none => Ret F 31 [.int .i64 n, v] rows = some (.tup [.nilslice, .bool false], rows, none)
    | some (ls, k) => ∃ lv X, Ret F 31 [.int .i64 n, v] rows = some (.tup [lv, .bool (decide (k = p.length))], rows ++ X, none) ∧ IsLL (rows ++ X) lv ls ∧ Und rows X := by
  have h1 := opened_ret hpl n rows 0 0 n h (by omega) (by omega) (by omega) (by omega) (by omega)
  cases ho : opn p n 0 0 n with
  | none =>
    simp only [ho] at h1
    refine i31 F31 ?_
    have h2 : Ret F 64 [v, .int .i64 0, .int .i64 0, .int .i64 n] rows = some (.tup [.nilslice, .int .i64 0, .bool false], rows, none) := h1
    simp [h2]
  | some q =>
    obtain ⟨ls, k⟩ := q
    simp only [ho] at h1
    obtain ⟨lv, X, h2, h3, h4, h5⟩ := h1
    have h2' : Ret F 64 [v, .int .i64 0, .int .i64 0, .int .i64 n] rows = some (.tup [lv, .int .i64 k, .bool true], rows ++ X, none) := h2
    obtain ⟨lv', X', h6, h7, h8⟩ := fin_LL (t := decide (k = p.length)) h5 h3 h4
    refine ⟨lv', X', ?_, h7, h8⟩
    refine i31 F31 ?_
    simp [h2', lenL h, -lowO, lowO_n, -decide_eq_decide]
    have e7 : decide ((k : Int) = p.length) = decide (k = p.length) := by simp only [decide_eq_decide]; omega
    rw [e7]
    simpa using h6
end Go.Abs
