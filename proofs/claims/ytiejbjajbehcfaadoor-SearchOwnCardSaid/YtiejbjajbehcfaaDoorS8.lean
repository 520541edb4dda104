/- search: Answer. -/
import Derived.Test.YtiejbjajbehcfaaDoorS7
set_option linter.unusedVariables false
set_option linter.unusedSimpArgs false
namespace Go.Abs
open Rd (Cp IsL_one IsL_cells IsL_tail lowO_n)
section
variable {rows T : List Row}
def addA (piece : Int) (t : List Int) (g a b : Int) : List Int := if a ≤ piece ∧ piece ≤ b then t ++ [g] else t
/-- Answer: what 'read' is given. -/
def DA (rows : List Row) (piece : Int) (n : Nat) : Rd (List Int) AV where
  R0 := rows ++ [.cells [.int .i64 piece]]
  E v := [.cells [v]]
  eN := 1
  nb := n
  lo := rows.length
  own v := match v with
    | .slice id _ _ _ => [id]
    | _ => []
  fid := 63
  cs := [.ptr rows.length 0, .ptr (rows.length + 1) 0]
  st := addA piece
  P t v h := (t = [] ∧ v = .nilslice) ∨ ∃ id, v = .slice id 0 t.length (.op 1) ∧ rows.length + 6 ≤ id ∧ cells? h id = some (nums .i64 t) ∧ t ≠ []
  B t k := t.length + k ≤ 1000
theorem DA_H (rows : List Row) (piece : Int) (n : Nat) (v pv w : AV) (G : List Row) : (DA rows piece n).H v pv w G = rows ++ (.cells [.int .i64 piece] :: .cells [v] :: ((DA rows piece n).Q pv w ++ G)) := by
  simp [Rd.H, DA]
theorem cells?_lt {rows : List Row} {i : Nat} {vs : List AV} (h : cells? rows i = some vs) : i < rows.length := row?_lt (cells?_row h)
theorem DA_ok {piece : Int} {n : Nat} (hn : n ≤ 12) : (DA rows piece n).OK := by
  have hA : (DA rows piece n).A = rows.length + 2 := by simp [Rd.A, DA]
  have hget : ∀ v pv w G i, rows.length + 6 ≤ i → ((DA rows piece n).H v pv w G)[i]? = G[i - (rows.length + 6)]? := by
    intro v pv w G i hi
    rw [DA_H, List.getElem?_append_right (by omega), show i - rows.length = (i - (rows.length + 6)) + 6 from by omega]
    rfl
  refine ⟨?_, fun t k j h1 h2 => (by have h1 : t.length + k ≤ 1000 := h1; show t.length + j ≤ 1000; omega), hn, by simp [DA], ?_, ?_, ?_, ?_, ?_, ?_, ?_⟩
  · intro t k g a b h1
    have h1 : t.length + (k + 1) ≤ 1000 := h1
    show (addA piece t g a b).length + k ≤ 1000
    unfold addA
    split
    · simp; omega
    · omega
  · intro t s h i hP hi
    rcases hP with ⟨_, rfl⟩ | ⟨id, rfl, h1, h2, h3⟩
    · simp [DA] at hi
    · simp [DA] at hi; subst hi; exact cells?_lt h2
  · intro s; rfl
  · intro t s h L hP
    rcases hP with e | ⟨id, e, h1, h2, h3⟩
    · exact .inl e
    · exact .inr ⟨id, e, h1, cells?_old h2 L, h3⟩
  · intro t s pv pv' w G hP
    rcases hP with e | ⟨id, e, h1, h2, h3⟩
    · exact .inl e
    · refine .inr ⟨id, e, h1, ?_, h3⟩
      unfold cells? at h2 ⊢
      rwa [hget _ _ _ _ _ h1] at h2 ⊢
  · intro t s h b hP hb hu
    rcases hP with e | ⟨id, e, h1, h2, h3⟩
    · exact .inl e
    · refine .inr ⟨id, e, h1, ?_, h3⟩
      subst e
      simp [DA, Row.under, AV.under] at hu
      unfold cells? at h2 ⊢
      rwa [List.getElem?_take, if_pos hu]
  · intro t s h hP
    rcases hP with ⟨_, rfl⟩ | ⟨id, rfl, h1, h2, h3⟩
    · simp [DA, Row.under, AV.under]
    · have := cells?_lt h2
      simp [DA, Row.under, AV.under]
      exact this
  · intro t v pv w G g a b hP hB h0 ha hg hb
    have hB : t.length + 1 ≤ 1000 := hB
    have hl := DA_H rows piece n v pv w G
    have hlen : ((DA rows piece n).H v pv w G).length = rows.length + 6 + G.length := by rw [hl]; simp [Rd.Q]; omega
    by_cases hc : a ≤ piece ∧ piece ≤ b
    · have hst : (DA rows piece n).st t g a b = t ++ [g] := by simp [DA, addA, hc]
      rw [hst]
      have e1 : ∀ L, row? ((DA rows piece n).H v pv w G ++ L) rows.length = some [.int .i64 piece] := fun L => by rw [hl]; simp
      have e2 : ∀ L, row? ((DA rows piece n).H v pv w G ++ L) (rows.length + 1) = some [v] := fun L => by rw [hl]; simp
      have hone : v.one = true := by
        rcases hP with ⟨_, rfl⟩ | ⟨id, rfl, _⟩ <;> rfl
      have htmp : ∀ x : Int, El ((DA rows piece n).H v pv w G ++ [.cells [.int .i64 a, .int .i64 b], .cells [.int .i64 x]]) 1 (.slice (((DA rows piece n).H v pv w G).length + 1) 0 1 (.at_ 1)) (nums .i64 [x]) 1 := by
        intro x
        have : row? ((DA rows piece n).H v pv w G ++ [.cells [.int .i64 a, .int .i64 b], .cells [.int .i64 x]]) (((DA rows piece n).H v pv w G).length + 1) = some [.int .i64 x] := by simp
        unfold El elems
        simp only [this]
        rfl
      have hlw : lower ((DA rows piece n).H v pv w G).length (rows.length + 1) = rows.length + 1 := lower_lt (by omega)
      -- the end: nothing is dropped
      have hend : ∀ G', ((DA rows piece n).H v pv w G).length < ((DA rows piece n).H (.slice (((DA rows piece n).H v pv w G).length + 2) 0 (t.length + 1) (.op 1)) pv w G').length → fin ((DA rows piece n).H v pv w G) (.tup []) ((DA rows piece n).H (.slice (((DA rows piece n).H v pv w G).length + 2) 0 (t.length + 1) (.op 1)) pv w G') (rows.length + 1) = (.tup [], (DA rows piece n).H (.slice (((DA rows piece n).H v pv w G).length + 2) 0 (t.length + 1) (.op 1)) pv w G', some (rows.length + 1)) := by
        intro G' hlt
        rw [fin_lt (by omega)]
        rcases gc_cases ((DA rows piece n).H v pv w G).length (rows.length + 1) (.tup []) ((DA rows piece n).H (.slice (((DA rows piece n).H v pv w G).length + 2) 0 (t.length + 1) (.op 1)) pv w G') with e | ⟨e, hu⟩
        · rw [e]
        · exfalso
          have e5 : ((((DA rows piece n).H (.slice (((DA rows piece n).H v pv w G).length + 2) 0 (t.length + 1) (.op 1)) pv w G').take ((DA rows piece n).H v pv w G).length).drop (rows.length + 1))[0]? = some (.cells [.slice (((DA rows piece n).H v pv w G).length + 2) 0 (t.length + 1) (.op 1)]) := by
            rw [List.getElem?_drop, Nat.add_zero, List.getElem?_take, if_pos (by omega), DA_H _ _ _ (.slice _ _ _ _)]
            simp
          have e6 := List.all_eq_true.1 hu _ (List.mem_of_getElem? e5)
          simp [Row.under, AV.under] at e6
          try omega
      have happ : ∀ v L, (DA rows piece n).H v pv w G ++ L = (DA rows piece n).H v pv w (G ++ L) := fun v L => Rd.H_app _ _ _ _ _
      have hset : ∀ v v' G, ((DA rows piece n).H v pv w G).set (rows.length + 1) (.cells [v']) = (DA rows piece n).H v' pv w G := fun v v' G => by
        rw [DA_H, rows_set, DA_H]; rfl
      have hcs : ∀ v G, cells? ((DA rows piece n).H v pv w G) (rows.length + 1) = some [v] := fun v G => by rw [DA_H]; simp
      have hsetA : ∀ v v' G L, ((DA rows piece n).H v pv w G ++ L).set (rows.length + 1) (.cells [v']) = (DA rows piece n).H v' pv w G ++ L := fun v v' G L => by rw [Rd.H_app, hset, ← Rd.H_app]
      have hcsA : ∀ v G L, cells? ((DA rows piece n).H v pv w G ++ L) (rows.length + 1) = some [v] := fun v G L => cells?_old (hcs v G) L
      have hl3 : ∀ v G, ((DA rows piece n).H v pv w G).length = rows.length + 6 + G.length := fun v G => by rw [DA_H]; simp [Rd.Q]; omega
      have ht1 : t.length + 1 ≤ lim := by simp [lim]; omega
      generalize hv' : AV.slice (((DA rows piece n).H v pv w G).length + 2) 0 (t.length + 1) (.op 1) = v' at *
      have hv1 : v'.one = true := by rw [← hv']; rfl
      have key : ∀ G2 : List Row, G2.length = G.length → (∀ i, i ∉ (DA rows piece n).own v → rows.length + 6 ≤ i → G2[i - (rows.length + 6)]? = G[i - (rows.length + 6)]?) →
          Ret F 63 [.int .i64 g, pt a b, .ptr rows.length 0, .ptr (rows.length + 1) 0] ((DA rows piece n).H v pv w G) = some (.tup [], (DA rows piece n).H v' pv w (G2 ++ [.cells [.int .i64 a, .int .i64 b], .cells [.int .i64 g], .cells (nums .i64 (t ++ [g]))]), some (rows.length + 1)) →
          ∃ s' G' d, Ret F (DA rows piece n).fid ([.int .i64 g, pt a b] ++ (DA rows piece n).cs) ((DA rows piece n).H v pv w G) = some (.tup [], (DA rows piece n).H s' pv w G', d) ∧ (DA rows piece n).P (t ++ [g]) s' ((DA rows piece n).H s' pv w G') ∧ (DA rows piece n).Fr v ((DA rows piece n).H v pv w G) s' ((DA rows piece n).H s' pv w G') ∧ ((d = none ∧ s' = v) ∨ ∃ lw, d = some lw ∧ (DA rows piece n).lo ≤ lw ∧ lw ≤ (DA rows piece n).R0.length) := by
        intro G2 hG2 hG3 hr
        have hlen2 : ((DA rows piece n).H v' pv w (G2 ++ [.cells [.int .i64 a, .int .i64 b], .cells [.int .i64 g], .cells (nums .i64 (t ++ [g]))])).length = rows.length + 6 + G.length + 3 := by rw [DA_H]; simp [Rd.Q, hG2]; omega
        refine ⟨v', _, some (rows.length + 1), hr, .inr ⟨rows.length + 6 + G.length + 2, by rw [← hv', hlen]; simp, by omega, ?_, by simp⟩, ⟨by omega, ?_, ?_⟩, .inr ⟨_, rfl, by simp [DA], by simp [DA]⟩⟩
        · unfold cells?
          rw [hget _ _ _ _ _ (by omega), List.getElem?_append_right (by omega), show rows.length + 6 + G.length + 2 - (rows.length + 6) - G2.length = 2 from by omega]
          rfl
        · intro i h1 h2 h3
          rw [hA] at h2
          rw [hget _ _ _ _ _ (by omega), hget _ _ _ _ _ (by omega), List.getElem?_append_left (by omega)]
          exact hG3 i h3 (by omega)
        · intro i hi
          have hi' : i ∈ [((DA rows piece n).H v pv w G).length + 2] := by rw [← hv'] at hi; exact hi
          rw [List.mem_singleton] at hi'
          exact .inr (by omega)
      rcases hP with ⟨rfl, rfl⟩ | ⟨id, rfl, hid, hcl, hne⟩
      · refine key G rfl (fun _ _ _ => rfl) ?_
        refine i63 F63 ?_
        have hf := hend (G ++ [.cells [.int .i64 a, .int .i64 b], .cells [.int .i64 g], .cells (nums .i64 [g])]) (by rw [hlen, hl3]; simp)
        rw [← happ] at hf ⊢
        simp [hc.1, hc.2, e1, e2, fillA, splice, app_nil (htmp g) (by omega) (by simp [lim]), hlw, hcsA, hsetA, hv1]
        rw [show AV.slice (((DA rows piece n).H .nilslice pv w G).length + 2) 0 1 (.op 1) = v' from hv']
        exact hf
      · have hk : G[id - (rows.length + 6)]? = some (.cells (nums .i64 t)) := by
          have := cells?_get hcl
          rwa [hget _ _ _ _ _ hid] at this
        have hkl : id - (rows.length + 6) < G.length := (List.getElem?_eq_some_iff.1 hk).1
        have hsd : ∀ v L, ((DA rows piece n).H v pv w G ++ L).set id .dead = (DA rows piece n).H v pv w (G.set (id - (rows.length + 6)) .dead) ++ L := fun v L => by
          rw [List.set_append_left _ _ (by rw [hl3]; omega), DA_H, DA_H, List.set_append_right _ _ (by omega), show id - rows.length = (id - (rows.length + 6)) + 6 from by omega]
          rfl
        refine key (G.set (id - (rows.length + 6)) .dead) (by simp) (fun i h1 h2 => ?_) ?_
        · rw [List.getElem?_set_ne]
          simp [DA] at h1
          omega
        · refine i63 F63 ?_
          have hf := hend (G.set (id - (rows.length + 6)) .dead ++ [.cells [.int .i64 a, .int .i64 b], .cells [.int .i64 g], .cells (nums .i64 (t ++ [g]))]) (by rw [hlen, hl3]; simp)
          rw [← Rd.H_app] at hf ⊢
          have hcl2 := fun L => cells?_old hcl L
          have hap := fun low => app_op (low := low) (sz := 1) (b := 8) (off := 0) (hcl2 [.cells [.int .i64 a, .int .i64 b], .cells [.int .i64 g]]) (by rw [Nat.mul_one]; exact nums_all rfl) (htmp g) (by omega) ht1
          have hlw2 : lower (lower ((DA rows piece n).H (.slice id 0 t.length (.op 1)) pv w G).length id) (rows.length + 1) = rows.length + 1 := lower_lt (by unfold lower; split <;> omega)
          simp [hc.1, hc.2, e1, e2, fillA, splice, hap, hlw2, hcsA, hsetA, hv1, hsd]
          rw [show AV.slice (((DA rows piece n).H (.slice id 0 t.length (.op 1)) pv w G).length + 2) 0 (t.length + 1) (.op 1) = v' from hv']
          exact hf
    · have hst : (DA rows piece n).st t g a b = t := by simp [DA, addA, hc]
      rw [hst]
      refine ⟨v, G, none, ?_, hP, Rd.Fr.refl, .inl ⟨rfl, rfl⟩⟩
      show Ret F 63 [.int .i64 g, pt a b, .ptr rows.length 0, .ptr (rows.length + 1) 0] _ = _
      refine i63 F63 ?_
      have e1 : ∀ L, row? ((DA rows piece n).H v pv w G ++ L) rows.length = some [.int .i64 piece] := fun L => by rw [hl]; simp
      by_cases h1 : a ≤ piece
      · simp [h1, show ¬ piece ≤ b from fun e => hc ⟨h1, e⟩, e1]
      · simp [h1, e1]

/-- What Answer comes to: none, if it is no plan. -/
def answerF (n : Nat) (piece : Int) (l : List Int) : Option (List Int) :=
  match rdP (addA piece) n 0 n l [] with
  | (true, [], t) => some t
  | _ => none
set_option maxHeartbeats 2000000 in
/-- search.Answer, of costs that are right. -/
theorem Answer_ret {cv pv : AV} {c l : List Int} {piece : Int} (hc : IsL rows cv c) (hn : c.length ≤ 12) (hall : (c.all fun x => decide (1 ≤ x ∧ x ≤ 1000)) = true) (hl : IsL rows pv l) (hp : Cp 1 pv) : Ret F 30 [cv, pv, .int .i64 piece] rows = some (match answerF c.length piece l with
    | some t => if 0 ≤ piece ∧ piece ≤ c.length then (match t with
      | [] => (.tup [.nilslice, .int .i64 0], rows, none)
      | _ => (.tup [.slice rows.length 0 t.length (.op 1), .int .i64 0], rows ++ [.cells (nums .i64 t)], none)) else (.tup [.nilslice, .int .i64 1], rows, none)
    | none => (.tup [.nilslice, .int .i64 1], rows, none)) := by
  have h1 : ∀ L, Ret F 46 [cv] (rows ++ L) = some (.int .i64 0, rows ++ L, none) := fun L => by
    have := Check_ret (IsL_app hc L) (by omega)
    rwa [if_pos ⟨hn, hall⟩] at this
  have hR0 : (DA rows piece c.length).R0 = rows ++ [.cells [.int .i64 piece]] := rfl
  obtain ⟨s', G', d, hr, hP, hd⟩ := Rd.read_ret (DA_ok (rows := rows) (piece := piece) hn) (n := c.length) (Nat.le_refl _) (l := l) (t := []) (s := .nilslice) (pv := pv) (by rw [hR0]; exact IsL_app hl _) hp (.inl ⟨rfl, rfl⟩) (by show 0 + c.length ≤ 1000; omega)
  have hz : (DA rows piece c.length).R0 ++ (DA rows piece c.length).E .nilslice = rows ++ [.cells [.int .i64 piece], .cells [.nilslice]] := by simp [DA]
  have hs : (DA rows piece c.length).R0 ++ (DA rows piece c.length).E s' ++ G' = rows ++ (.cells [.int .i64 piece] :: .cells [s'] :: G') := by simp [DA]
  rw [hz, hs] at hr
  rw [hs] at hP
  have hlow : lowO rows.length d = rows.length := by
    rcases hd with ⟨rfl, _⟩ | ⟨lw, rfl, h1, _⟩
    · rfl
    · exact lower_ge h1
  have hwh : ∀ L, Ret F 60 [cv] (rows ++ L) = some (pt 0 c.length, rows ++ L, none) := fun L => whole_ret (IsL_app hc L)
  have hr' : Ret F 62 [pv, pt 0 c.length, .func 63 [.ptr rows.length 0, .ptr (rows.length + 1) 0]] (rows ++ [.cells [.int .i64 piece], .cells [.nilslice]]) = _ := hr
  have hst : (DA rows piece c.length).st = addA piece := rfl
  rw [hst] at hr' hP
  unfold answerF
  refine i30 F30 ?_
  generalize rdP (addA piece) c.length 0 c.length l [] = r1 at *
  obtain ⟨ok, l1, t⟩ := r1
  simp only at hP hr' ⊢
  cases ok with
  | false => simp [-lowO, lowO_n, h1, hwh, hr', hlow]
  | true =>
    cases l1 with
    | cons x y => simp [-lowO, lowO_n, h1, hwh, hr', hlow]
    | nil =>
      by_cases p1 : piece < 0
      · simp [-lowO, lowO_n, h1, hwh, hr', hlow, p1, show ¬ 0 ≤ piece from by omega]
      · by_cases p2 : (c.length : Int) < piece
        · simp [-lowO, lowO_n, h1, hwh, hr', hlow, p1, p2, lenL hc, show ¬ piece ≤ (c.length : Int) from by omega]
        · rcases hP with ⟨rfl, rfl⟩ | ⟨id, rfl, hid, hcl, hne⟩
          · simp [-lowO, lowO_n, h1, hwh, hr', hlow, p1, p2, lenL hc, show 0 ≤ piece from by omega, show piece ≤ (c.length : Int) from by omega]
          · obtain ⟨k, rfl⟩ : ∃ k, id = rows.length + k := ⟨id - rows.length, by omega⟩
            have hk : (Row.cells [.int .i64 piece] :: Row.cells [.slice (rows.length + k) 0 t.length (.op 1)] :: G')[k]? = some (.cells (nums .i64 t)) := by
              have := cells?_get hcl
              rwa [rows_at] at this
            simp [-lowO, lowO_n, h1, hwh, hr', hlow, p1, p2, lenL hc, show 0 ≤ piece from by omega, show piece ≤ (c.length : Int) from by omega]
            rw [fin_slice_int hk nums_ids]
end
end Go.Abs
