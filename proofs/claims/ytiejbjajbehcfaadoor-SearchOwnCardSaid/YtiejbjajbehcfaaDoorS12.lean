/- The statements' reference: Prices; lists of lists. -/
import Derived.Test.YtiejbjajbehcfaaDoorS11
set_option linter.unusedVariables false
set_option linter.unusedSimpArgs false
namespace Go.Abs
open Rd (Cp IsL_one IsL_cells IsL_tail lowO_n)
/-- A value of a list of values. -/
def gA (vs : List AV) (i : Nat) : AV := vs.getD i .any
def gLL (ls : List (List Int)) (i : Nat) : List Int := ls.getD i []
theorem gA_get {vs : List AV} {i : Nat} (h : i < vs.length) : vs[i]? = some (gA vs i) := by
  simp [gA, h]
theorem gLL_get {vs : List (List Int)} {i : Nat} (h : i < vs.length) : vs[i]? = some (gLL vs i) := by
  simp [gLL, h]
theorem gLL_mem {vs : List (List Int)} {i : Nat} (h : i < vs.length) : gLL vs i ∈ vs := List.mem_of_getElem? (gLL_get h)
/-- A slice of slices of numbers. -/
def IsLL (rows : List Row) (v : AV) (ls : List (List Int)) : Prop := ∃ vs, El rows 1 v vs ls.length ∧ ∀ i, i < ls.length → IsL rows (gA vs i) (gLL ls i)
theorem IsLL_app {rows : List Row} {v : AV} {ls : List (List Int)} (h : IsLL rows v ls) (L : List Row) : IsLL (rows ++ L) v ls := by
  obtain ⟨vs, h1, h2⟩ := h
  exact ⟨vs, El_app h1 L, fun i hi => IsL_app (h2 i hi) L⟩
section
variable {rows : List Row}
theorem lenLL {v : AV} {ls : List (List Int)} (h : IsLL rows v ls) (L : List Row) : evP (rows ++ L) (.len 0 (.c v)) = some (.int .i64 ls.length) := by
  obtain ⟨vs, h1, _⟩ := h
  exact evP_lenE (El_app h1 L)
/-- The sum of the costs of gates. -/
def sumG (cs l : List Int) : Int := (l.map fun g => gI cs g.toNat).sum
theorem sumG_bound {cs : List Int} (hcs : ∀ x ∈ cs, 0 ≤ x ∧ x ≤ 1000) : ∀ l : List Int, (∀ g ∈ l, 0 ≤ g ∧ g < cs.length) → 0 ≤ sumG cs l ∧ sumG cs l ≤ 1000 * l.length
  | [], _ => by simp [sumG]
  | g :: l, h => by
    have := sumG_bound hcs l fun g hg => h g (List.mem_cons_of_mem _ hg)
    have hg := h g (List.mem_cons_self ..)
    have := hcs _ (gI_mem (l := cs) (i := g.toNat) (by omega))
    simp only [sumG, List.map_cons, List.sum_cons, List.length_cons] at *
    omega
theorem sumG_take {cs l : List Int} {k : Nat} (h : k < l.length) : sumG cs (l.take (k + 1)) = sumG cs (l.take k) + gI cs (gI l k).toNat := by
  rw [List.take_add_one, gI_get h]
  simp [sumG]
theorem rprices_in {cv lv : AV} {cs : List Int} {ls : List (List Int)} (hc : IsL rows cv cs) (hl : IsLL rows lv ls) (hcs : ∀ x ∈ cs, 0 ≤ x ∧ x ≤ 1000) (hls : ls.length ≤ 1000000) {i : Nat} (hi : i < ls.length) (hr : (gLL ls i).length ≤ 1000 ∧ ∀ g ∈ gLL ls i, 0 ≤ g ∧ g < cs.length) {H : List Row} {acc : List Int} (hacc : acc.length ≤ 1000000) {r : AV × List Row × Nat → Prop}
    (hn : ∀ H', Lc33l2 F (.fn [.t 4]) cv lv (accV rows H' (acc ++ [sumG cs (gLL ls i)])) (.int .i64 ((i : Int) + 1)) (rows ++ accR H' (acc ++ [sumG cs (gLL ls i)])) rows.length r) : ∀ (n k : Nat), (gLL ls i).length - k = n → k ≤ (gLL ls i).length →
    Lc33l5 F (.fn [.t 4]) cv lv (accV rows H acc) (.int .i64 i) (.int .i64 (sumG cs ((gLL ls i).take k))) (.int .i64 k) (rows ++ accR H acc) rows.length r := by
  obtain ⟨vs, hv, hv2⟩ := hl
  have hvl : vs.length = ls.length := by simpa using El_len hv
  have hvi := hv2 i hi
  have e1 : ∀ L, evP (rows ++ L) (.idxS 1 (.c lv) (.c (.int .i64 i))) = some (.ptr (sid lv) (soff lv + i)) := fun L => by
    simpa using evP_idxE (El_app hv L) (k := .i64) (i := i) (by omega) (by omega)
  have e2 : ∀ L, evP (rows ++ L) (.load1 (.c (.ptr (sid lv) (soff lv + i)))) = some (gA vs i) := fun L => by
    rw [evP_loadE (El_app hv L) (by omega), gA_get (by omega)]
  intro n
  induction n with
  | zero =>
    intro k hn0 hk
    have hk : k = (gLL ls i).length := by omega
    obtain ⟨H', hap⟩ := acc_app (rows := rows) (H := H) (l := acc) (x := sumG cs (gLL ls i)) (by omega)
    have w : IntKind.i64.wrap ((i : Int) + 1) = i + 1 := wrap64 (by omega) (by omega)
    unfold Lc33l5
    simp (disch := first | omega | (simp; done) | fail) [e1, e2, lenL hvi, hk, fillA, splice, w]
    rw [hap]
    simp only [bnd_some]
    simpa [w] using hn H'
  | succ n ih =>
    intro k hn0 hk
    have hk : k < (gLL ls i).length := by omega
    have hg := hr.2 _ (gI_mem hk)
    have hb1 := sumG_bound hcs ((gLL ls i).take k) fun g hg => hr.2 g (List.mem_of_mem_take hg)
    have hb2 := hcs _ (gI_mem (l := cs) (i := (gI (gLL ls i) k).toNat) (by omega))
    have hlt : ((gLL ls i).take k).length ≤ 1000 := by simp; omega
    have w : IntKind.i64.wrap ((k : Int) + 1) = k + 1 := wrap64 (by omega) (by omega)
    have w2 : IntKind.i64.wrap (sumG cs ((gLL ls i).take k) + gI cs (gI (gLL ls i) k).toNat) = sumG cs ((gLL ls i).take (k + 1)) := by
      rw [sumG_take hk]; exact wrap64 (by omega) (by omega)
    unfold Lc33l5
    simp (disch := first | omega | (simp; done) | fail) [e1, e2, lenL hvi, idxL hvi, loadL hvi, idxL hc, loadL hc, hk, w, w2]
    have := ih (k + 1) (by omega) (by omega)
    simpa using this
theorem rprices_out {cv lv : AV} {cs : List Int} {ls : List (List Int)} (hc : IsL rows cv cs) (hl : IsLL rows lv ls) (hcs : ∀ x ∈ cs, 0 ≤ x ∧ x ≤ 1000) (hls : ls.length ≤ 1000000) (hr : ∀ l ∈ ls, l.length ≤ 1000 ∧ ∀ g ∈ l, 0 ≤ g ∧ g < cs.length) : ∀ (n i : Nat) (H : List Row), ls.length - i = n → i ≤ ls.length →
    Lc33l2 F (.fn [.t 4]) cv lv (accV rows H ((ls.take i).map (sumG cs))) (.int .i64 i) (rows ++ accR H ((ls.take i).map (sumG cs))) rows.length (fun r => fin rows r.1 r.2.1 r.2.2 = newL rows (ls.map (sumG cs))) := by
  intro n
  induction n with
  | zero =>
    intro i H hn hi
    have e : ls.take i = ls := List.take_of_length_le (by omega)
    rw [e]
    unfold Lc33l2
    simp [lenLL hl, show ¬ (i < ls.length) from by omega]
    exact acc_fin
  | succ n ih =>
    intro i H hn hi
    have hi : i < ls.length := by omega
    unfold Lc33l2
    simp [lenLL hl, hi]
    have := rprices_in hc hl hcs hls hi (hr _ (gLL_mem hi)) (H := H) (acc := (ls.take i).map (sumG cs)) (by simp; omega) (r := fun r => fin rows r.1 r.2.1 r.2.2 = newL rows (ls.map (sumG cs))) (fun H' => by
      have := ih (i + 1) H' (by omega) (by omega)
      rw [List.take_add_one, gLL_get hi] at this
      simpa using this) _ 0 rfl (by omega)
    simpa [sumG] using this
/-- The reference's Prices. -/
theorem rprices_ret {cv lv : AV} {cs : List Int} {ls : List (List Int)} (hc : IsL rows cv cs) (hl : IsLL rows lv ls) (hcs : ∀ x ∈ cs, 0 ≤ x ∧ x ≤ 1000) (hls : ls.length ≤ 1000000) (hr : ∀ l ∈ ls, l.length ≤ 1000 ∧ ∀ g ∈ l, 0 ≤ g ∧ g < cs.length) : Ret F 33 [cv, lv] rows = some (newL rows (ls.map (sumG cs))) := by
  refine i33 F33 ?_
  have := rprices_out hc hl hcs hls hr _ 0 [] rfl (by omega)
  simp
  simpa [accV, accR] using this
end
end Go.Abs
