/- slices.Grow and slices.Concat, of numbers. -/
import Derived.Test.YtiejbjajbehcfaaDoorS12
set_option linter.unusedVariables false
set_option linter.unusedSimpArgs false
namespace Go.Abs
open Rd (Cp IsL_one IsL_cells IsL_tail lowO_n)
section
variable {rows : List Row}
theorem seg_nums (l : List Int) : seg (nums .i64 l) 0 l.length = some (nums .i64 l) := by
  unfold seg; simp [nums, List.take_of_length_le]
/-- slices.Grow of nothing. -/
theorem grow_ret {n : Nat} (h0 : 0 < n) (hn : n ≤ 1000000) : Ret F 98 [.nilslice, .int .i64 n] rows = some (.slice rows.length 0 0 (.op 1), rows ++ [.cells (nums .i64 (List.replicate n 0))], none) := by
  have e : nums .i64 (List.replicate n 0) = List.replicate n (AV.int .i64 0) := by
    simp [nums]
  have w0 : IntKind.i64.wrap 0 = 0 := by decide
  have hid : (List.replicate n (AV.int .i64 0)).all (fun v => v.ids.isEmpty) = true := by simp
  have hs : sliceV 1 (.slice rows.length 0 n (.op 1)) none (some (.int .i64 0)) none = some (.slice rows.length 0 0 (.op 1)) := by
    simp [sliceV, bound?]
  have hs0 : sliceV 1 .nilslice none (some (.int .i64 0)) none = some .nilslice := by
    simp [sliceV, bound?]
  have w : IntKind.i64.wrap (n : Int) = n := wrap64 (by omega) (by omega)
  have hcap : evP rows (.cap (.c .nilslice)) = some (.int .i64 0) := rfl
  refine i98 F98 ?_
  have h3 : ¬ ((n : Int) < 0) := by omega
  simp (disch := first | omega | (simp; done) | fail) [w, w0, h0, e, hs, hs0, hcap, show n ≤ lim from by simp [lim]; omega, h3]
  have := fin_slice (rows := rows) (L := [.cells (List.replicate n (AV.int .i64 0))]) (k := 0) (o := 0) (n := 0) (c := .op 1) rfl hid
  simpa using this
theorem concat_sizes {sv : AV} {ls : List (List Int)} (hl : IsLL rows sv ls) (hls : ls.length ≤ 1000) (hne : ls.flatten ≠ []) (htot : ls.flatten.length ≤ 1000000) {r : AV × List Row × Nat → Prop}
    (hn : Lc87l2 F (.fn [.t 2]) (.slice rows.length 0 0 (.op 1)) sv (.int .i64 ls.length) (.int .i64 0) (rows ++ [.cells (nums .i64 (List.replicate ls.flatten.length 0))]) rows.length r) : ∀ (n i : Nat), ls.length - i = n → i ≤ ls.length →
    Lc87l14 F (.fn [.t 2]) sv (.int .i64 (ls.take i).flatten.length) sv (.int .i64 ls.length) (.int .i64 i) rows rows.length r := by
  obtain ⟨vs, hv, hv2⟩ := hl
  have hvl : vs.length = ls.length := by simpa using El_len hv
  have hpos : 0 < ls.flatten.length := List.length_pos_iff.2 hne
  intro n
  induction n with
  | zero =>
    intro i hn0 hi
    have hi : i = ls.length := by omega
    have e : ls.take i = ls := List.take_of_length_le (by omega)
    have hlen := evP_lenE (El_app hv [.cells (nums .i64 (List.replicate ls.flatten.length 0))])
    rw [e]
    unfold Lc87l14
    have hg := grow_ret (rows := rows) hpos htot
    simp only [List.length_flatten] at hg hn hlen ⊢
    simp [hi, hg, lowO_n, hlen, -lowO]
    simpa using hn
  | succ n ih =>
    intro i hn0 hi
    have hi : i < ls.length := by omega
    have hvi := hv2 i hi
    have e1 : evP rows (.idxS 1 (.c sv) (.c (.int .i64 i))) = some (.ptr (sid sv) (soff sv + i)) := by
      simpa using evP_idxE hv (k := .i64) (i := i) (by omega) (by omega)
    have e2 : evP rows (.load1 (.c (.ptr (sid sv) (soff sv + i)))) = some (gA vs i) := by
      rw [evP_loadE hv (by omega), gA_get (by omega)]
    have hb : (ls.take (i + 1)).flatten.length ≤ ls.flatten.length := by
      have h := List.take_append_drop (i + 1) ls
      have : ls.flatten.length = (ls.take (i + 1) ++ ls.drop (i + 1)).flatten.length := by rw [h]
      rw [this, List.flatten_append, List.length_append]
      omega
    have e3 : (ls.take (i + 1)).flatten.length = (ls.take i).flatten.length + (gLL ls i).length := by
      rw [List.take_add_one, gLL_get hi]
      simp only [Option.toList_some, List.flatten_append, List.length_append, List.flatten_cons, List.flatten_nil, List.append_nil]
    have w : IntKind.i64.wrap ((i : Int) + 1) = i + 1 := wrap64 (by omega) (by omega)
    have w2 : IntKind.i64.wrap (((ls.take i).flatten.length : Int) + (gLL ls i).length) = (ls.take (i + 1)).flatten.length := by
      rw [e3]; push_cast; exact wrap64 (by omega) (by omega)
    have h3 : ¬ (((ls.take (i + 1)).flatten.length : Int) < 0) := by omega
    have := ih (i + 1) (by omega) (by omega)
    generalize hA : (ls.take i).flatten.length = A at *
    generalize hB : (ls.take (i + 1)).flatten.length = B at *
    unfold Lc87l14
    simp (disch := first | omega | (simp; done) | fail) [hi, e1, e2, lenL0 hvi, w, w2, h3]
    simpa using this
/-- The list so far: in a row of its own. -/
def Cur (T : List Row) (nv : AV) (rows : List Row) (acc : List Int) : Prop := ∃ j vs, nv = .slice (rows.length + j) 0 acc.length (.op 1) ∧ T[j]? = some (.cells vs) ∧ vs.all (·.ids.isEmpty) = true ∧ seg vs 0 acc.length = some (nums .i64 acc) ∧ (acc ≠ [] → vs = nums .i64 acc)
theorem concat_loop {sv : AV} {ls : List (List Int)} (hl : IsLL rows sv ls) (hls : ls.length ≤ 1000) (hne : ls.flatten ≠ []) (htot : ls.flatten.length ≤ 1000000) : ∀ (n i : Nat) (T : List Row) (nv : AV), ls.length - i = n → i ≤ ls.length → Cur T nv rows (ls.take i).flatten →
    Lc87l2 F (.fn [.t 2]) nv sv (.int .i64 ls.length) (.int .i64 i) (rows ++ T) rows.length (fun r => fin rows r.1 r.2.1 r.2.2 = newL rows ls.flatten) := by
  obtain ⟨vs, hv, hv2⟩ := hl
  have hvl : vs.length = ls.length := by simpa using El_len hv
  intro n
  induction n with
  | zero =>
    intro i T nv hn0 hi hcur
    have hi : i = ls.length := by omega
    have e : ls.take i = ls := List.take_of_length_le (by omega)
    rw [e] at hcur
    obtain ⟨j, us, rfl, hT, hid, hsg, hfull⟩ := hcur
    have hus := hfull hne
    subst hus
    have hf := fin_slice (rows := rows) (L := T) (k := j) (o := 0) (n := ls.flatten.length) (c := .op 1) hT hid
    unfold Lc87l2
    generalize hq : ls.flatten = q at *
    cases q with
    | nil => exact absurd rfl hne
    | cons x q =>
      simp only [List.length_cons] at hf
      simp [hi]
      simpa [newL] using hf
  | succ n ih =>
    intro i T nv hn0 hi hcur
    have hi : i < ls.length := by omega
    have hvi := hv2 i hi
    have e1 : ∀ L, evP (rows ++ L) (.idxS 1 (.c sv) (.c (.int .i64 i))) = some (.ptr (sid sv) (soff sv + i)) := fun L => by
      simpa using evP_idxE (El_app hv L) (k := .i64) (i := i) (by omega) (by omega)
    have e2 : ∀ L, evP (rows ++ L) (.load1 (.c (.ptr (sid sv) (soff sv + i)))) = some (gA vs i) := fun L => by
      rw [evP_loadE (El_app hv L) (by omega), gA_get (by omega)]
    have hb : (ls.take (i + 1)).flatten.length ≤ ls.flatten.length := by
      have h := List.take_append_drop (i + 1) ls
      have : ls.flatten.length = (ls.take (i + 1) ++ ls.drop (i + 1)).flatten.length := by rw [h]
      rw [this, List.flatten_append, List.length_append]
      omega
    have e3 : (ls.take (i + 1)).flatten = (ls.take i).flatten ++ gLL ls i := by
      rw [List.take_add_one, gLL_get hi]
      simp only [Option.toList_some, List.flatten_append, List.flatten_cons, List.flatten_nil, List.append_nil]
    have w : IntKind.i64.wrap ((i : Int) + 1) = i + 1 := wrap64 (by omega) (by omega)
    unfold Lc87l2
    simp (disch := first | omega | (simp; done) | fail) [hi, e1, e2, w]
    by_cases hz : gLL ls i = []
    · have hx : El (rows ++ T) 1 (gA vs i) (nums .i64 []) 0 := by
        have := IsL_app hvi T
        rw [hz] at this
        exact this
      obtain ⟨j, us, hnv, _⟩ := id hcur
      rw [app_0 hx (.inr ⟨_, _, _, _, hnv⟩)]
      simp only [bnd_some]
      have := ih (i + 1) T nv (by omega) (by omega) (by rw [e3, hz, List.append_nil]; exact hcur)
      simpa [w] using this
    · obtain ⟨j, us, rfl, hT, hid, hsg, _⟩ := hcur
      have hx : El (rows ++ T) 1 (gA vs i) (nums .i64 (gLL ls i)) (gLL ls i).length := IsL_app hvi T
      have hc : cells? (rows ++ T) (rows.length + j) = some us := by
        unfold cells?
        rw [List.getElem?_append_right (by omega), Nat.add_sub_cancel_left, hT]
      have hl1 : (ls.take (i + 1)).flatten.length = (ls.take i).flatten.length + (gLL ls i).length := by rw [e3, List.length_append]
      rw [app_op (low := rows.length) (b := 8) hc (by simpa using hsg) hx (List.length_pos_iff.2 hz) (by simp only [lim]; omega)]
      simp only [bnd_some]
      have hj : j < T.length := (List.getElem?_eq_some_iff.1 hT).1
      have e4 : (rows ++ T).set (rows.length + j) .dead ++ [.cells (nums .i64 (ls.take i).flatten ++ nums .i64 (gLL ls i))] = rows ++ (T.set j .dead ++ [.cells (nums .i64 (ls.take (i + 1)).flatten)]) := by
        rw [List.set_append_right _ _ (by omega), Nat.add_sub_cancel_left, List.append_assoc, e3]
        simp [nums]
      rw [e4]
      have := ih (i + 1) (T.set j .dead ++ [.cells (nums .i64 (ls.take (i + 1)).flatten)]) (.slice (rows.length + T.length) 0 (ls.take (i + 1)).flatten.length (.op 1)) (by omega) (by omega)
        ⟨T.length, nums .i64 (ls.take (i + 1)).flatten, rfl, by simp, nums_ids, seg_nums _, fun _ => rfl⟩
      simp only [lower_add]
      rw [hl1] at this
      simpa [w] using this
/-- slices.Concat. -/
theorem concat_ret {sv : AV} {ls : List (List Int)} (hl : IsLL rows sv ls) (hls : ls.length ≤ 1000) (hne : ls.flatten ≠ []) (htot : ls.flatten.length ≤ 1000000) : Ret F 87 [sv] rows = some (newL rows ls.flatten) := by
  have h2 := concat_loop hl hls hne htot _ 0 [.cells (nums .i64 (List.replicate ls.flatten.length 0))] (.slice rows.length 0 0 (.op 1)) rfl (by omega) ⟨0, _, rfl, rfl, nums_ids, by simp [seg, nums], fun h => absurd rfl h⟩
  have h1 := concat_sizes hl hls hne htot (by simpa using h2) _ 0 rfl (by omega)
  have h0 := lenLL hl []
  rw [List.append_nil] at h0
  refine i87 F87 ?_
  simp [h0]
  simpa using h1
end
end Go.Abs
