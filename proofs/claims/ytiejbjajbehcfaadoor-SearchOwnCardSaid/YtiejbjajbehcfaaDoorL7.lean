/- SearchSums, but for 'awake'. -/
import Derived.Test.YtiejbjajbehcfaaDoorS10
import Derived.Test.YtiejbjajbehcfaaDoorD7
set_option linter.unusedVariables false
set_option linter.unusedSimpArgs false
namespace Go.Abs
open Rd (Cp IsL_one IsL_cells IsL_tail lowO_n)
abbrev G7 : Nat → Option IFn := more F 7 c7
theorem toG7 {f : Nat} {vs : List AV} {rows : List Row} {q : AV × List Row × Option Nat} (h : Ret F f vs rows = some q) : Ret G7 f vs rows = some q := Ret_ext (more_ext (by kernel_rfl)) h
def bls (l : List Bool) : List AV := l.map .bool
@[simp] theorem bls_len {l : List Bool} : (bls l).length = l.length := by simp [bls]
@[simp] theorem bls_set {l : List Bool} {i : Nat} {b : Bool} : (bls l).set i (.bool b) = bls (l.set i b) := by simp [bls, List.map_set]
def usedT (n : Nat) (s : List Int) : List Bool := (List.range n).map fun (j : Nat) => decide ((j : Int) ∈ s)
@[simp] theorem usedT_len {n : Nat} {s : List Int} : (usedT n s).length = n := by simp [usedT]
theorem usedT_get {n : Nat} {s : List Int} {j : Nat} (h : j < n) : (bls (usedT n s))[j]? = some (.bool (decide ((j : Int) ∈ s))) := by simp [bls, usedT, h]
theorem usedT_set {n : Nat} {s : List Int} {g : Nat} : (usedT n s).set g true = usedT n (s ++ [(g : Int)]) := by
  apply List.ext_getElem?
  intro j
  simp only [usedT, List.getElem?_set, List.getElem?_map, List.length_map, List.length_range]
  by_cases h : g = j
  · subst h
    by_cases hg : g < n
    · simp [hg]
    · simp [hg]
  · by_cases hj : j < n
    · have : ¬ (j : Int) = g := by omega
      simp [h, hj, this]
    · simp [h, hj]
section
variable {R3 H1 : List Row} {low : Nat} {r : AV × List Row × Nat → Prop}
set_option maxHeartbeats 4000000 in
theorem sums_in {x5 x6 x7 x10 : AV} {c P pa : List Int} {n i : Nat} (h5 : IsL R3 x5 c) (hn : c.length = n) (hn12 : n ≤ 12) (h7 : IsL R3 x7 P) (hPl : P.length = n + 1) (h10 : IsL (R3 ++ H1) x10 pa) (hi : i ≤ n) (hr1 : ∀ g ∈ pa, 0 ≤ g ∧ g < n) (hnd : pa.Nodup) (hc : ∀ g : Nat, g < c.length → 0 ≤ gI c g ∧ gI c g ≤ 1000) (hpl : pa.length ≤ 12)
    (hP : gI P i = sumc c pa) (hu1 : i < n → (i : Int) ∈ pa) (hu2 : 0 < i → (i : Int) - 1 ∈ pa) (hlow : low ≤ R3.length)
    (hk : Lc7l2 G7 (.fn [.t 4]) x5 x6 x7 (.int .i64 (i + 1)) (R3 ++ (H1 ++ [.cells (bls (usedT n pa))])) low r) : ∀ (d k : Nat), pa.length - k = d → k ≤ pa.length →
    Lc7l8 G7 (.fn [.t 4]) x5 x6 x7 (.int .i64 i) x10 (.int .i64 (sumc c (pa.take k))) (.slice (R3.length + H1.length) 0 n (.at_ n)) (.int .i64 k) (R3 ++ (H1 ++ [.cells (bls (usedT n (pa.take k)))])) low r := by
  have h10' : ∀ L, IsL (R3 ++ (H1 ++ L)) x10 pa := fun L => by rw [← List.append_assoc]; exact IsL_app h10 L
  have hrow : ∀ u, row? (R3 ++ (H1 ++ [Row.cells u])) (R3.length + H1.length) = some u := fun u => by unfold row?; simp
  have hcel : ∀ u, cells? (R3 ++ (H1 ++ [Row.cells u])) (R3.length + H1.length) = some u := fun u => by unfold cells?; simp
  intro d
  induction d with
  | zero =>
    intro k hd h1
    have hkl : k = pa.length := by omega
    subst hkl
    rw [List.take_of_length_le (Nat.le_refl _)]
    have w : IntKind.i64.wrap ((i : Int) + 1) = i + 1 := wrap64 (by omega) (by omega)
    have w2 : IntKind.i64.wrap ((i : Int) - 1) = i - 1 := wrap64 (by omega) (by omega)
    have ip : i < P.length := by omega
    unfold Lc7l8
    by_cases c1 : i < n
    · have u1 := hu1 c1
      by_cases c2 : 0 < i
      · have u2 := hu2 c2
        have i2 : idx? ((i : Int) - 1) n = some (i - 1) := by rw [idx?_ok (by omega) (by omega)]; congr 1; omega
        have ug : (bls (usedT n pa))[i - 1]? = some (.bool true) := by
          rw [usedT_get (by omega), show (((i - 1 : Nat)) : Int) = (i : Int) - 1 from by omega, decide_eq_true u2]
        simp (disch := first | omega | (simp; done) | fail) [lenL0 (h10' _), idxL h7, loadL h7, hP, lenL h5, hn, c1, c2, hrow, usedT_get, u1, w, w2, i2, ug]
        exact hk
      · simp (disch := first | omega | (simp; done) | fail) [lenL0 (h10' _), idxL h7, loadL h7, hP, lenL h5, hn, c1, c2, hrow, usedT_get, u1, w, w2]
        exact hk
    · by_cases c2 : 0 < i
      · have u2 := hu2 c2
        have i2 : idx? ((i : Int) - 1) n = some (i - 1) := by rw [idx?_ok (by omega) (by omega)]; congr 1; omega
        have ug : (bls (usedT n pa))[i - 1]? = some (.bool true) := by
          rw [usedT_get (by omega), show (((i - 1 : Nat)) : Int) = (i : Int) - 1 from by omega, decide_eq_true u2]
        simp (disch := first | omega | (simp; done) | fail) [lenL0 (h10' _), idxL h7, loadL h7, hP, lenL h5, hn, c1, c2, hrow, usedT_get, w, w2, i2, ug]
        exact hk
      · simp (disch := first | omega | (simp; done) | fail) [lenL0 (h10' _), idxL h7, loadL h7, hP, lenL h5, hn, c1, c2, hrow, usedT_get, w, w2]
        exact hk
  | succ d ih =>
    intro k hd h1
    have hkl : k < pa.length := by omega
    have hg := hr1 _ (gI_mem hkl)
    obtain ⟨g, hgg⟩ : ∃ g : Nat, gI pa k = g := ⟨(gI pa k).toNat, by omega⟩
    have hgn : g < n := by omega
    have hnot : ¬ (g : Int) ∈ pa.take k := by
      intro e
      rw [← hgg, gI_eq hkl] at e
      obtain ⟨j, hj, hje⟩ := List.mem_iff_getElem.1 e
      rw [List.getElem_take] at hje
      simp at hj
      exact List.pairwise_iff_getElem.1 hnd j k (by omega) hkl (by omega) hje
    have hs : sumc c (pa.take (k + 1)) = sumc c (pa.take k) + gI c g := by
      rw [List.take_add_one, gI_get hkl, hgg]
      simp [sumc_app, sumc]
    have hbd : ∀ l : List Int, (∀ x ∈ l, 0 ≤ x ∧ x < n) → 0 ≤ sumc c l ∧ sumc c l ≤ 1000 * l.length := by
      intro l
      induction l with
      | nil => intro _; simp [sumc]
      | cons x l ih2 =>
        intro hx
        have a1 := ih2 fun y hy => hx y (List.mem_cons_of_mem _ hy)
        have a2 := hx x List.mem_cons_self
        have a3 := hc x.toNat (by omega)
        simp only [sumc, List.length_cons]
        omega
    have hb1 := hbd (pa.take (k + 1)) fun x hx => hr1 x (List.mem_of_mem_take hx)
    have hl1 : (pa.take (k + 1)).length ≤ 12 := by simp; omega
    have hut : (usedT n (pa.take k)).set g true = usedT n (pa.take (k + 1)) := by
      rw [usedT_set, List.take_add_one, gI_get hkl, hgg]; rfl
    have w : IntKind.i64.wrap ((k : Int) + 1) = k + 1 := wrap64 (by omega) (by omega)
    have w2 : IntKind.i64.wrap (sumc c (pa.take k) + gI c g) = sumc c (pa.take (k + 1)) := by rw [← hs]; exact wrap64 (by omega) (by omega)
    have hlw : lower low (R3.length + H1.length) = low := lower_ge (by omega)
    unfold Lc7l8
    simp (disch := first | omega | (simp; done) | fail) [lenL0 (h10' _), idxL0 (h10' _), loadL0 (h10' _), hkl, hgg, lenL h5, hn, hgn, show ¬ ((g : Int) < 0) from by omega, show ¬ (n ≤ g) from by omega, hrow, hcel, usedT_get, hnot, hut, idxL h5, loadL h5, w, w2, hlw]
    have := ih (k + 1) (by omega) (by omega)
    simpa using this

theorem rep_used (n : Nat) : (List.replicate n [AV.bool false]).flatten = bls (usedT n []) := by
  have e : ∀ k, (List.replicate k [AV.bool false]).flatten = List.replicate k (AV.bool false) := fun k => by
    induction k with
    | zero => rfl
    | succ k ih => rw [List.replicate_succ, List.flatten_cons, ih, List.replicate_succ]; rfl
  rw [e]
  simp [bls, usedT, List.map_const']
theorem rep_used2 (n : Nat) : List.replicate n (AV.bool false) = bls (usedT n []) := by simp [bls, usedT, List.map_const']
set_option maxHeartbeats 4000000 in
theorem sums_out {R0 R3 : List Row} {x5 x6 x7 : AV} {c q P : List Int} {n : Nat} (h5 : IsL R3 x5 c) (hn : c.length = n) (hn12 : n ≤ 12) (h6 : IsL R3 x6 q) (hc6 : Cp 1 x6) (hpl : Pl 0 n q) (h7 : IsL R3 x7 P) (hPl : P.length = n + 1) (hall : (c.all fun x => decide (1 ≤ x ∧ x ≤ 1000)) = true)
    (hP : ∀ f, pricesF c q = some f → ∀ i, i ≤ n → gI P i = f i) (hlow : R0.length ≤ R3.length)
    (hA : ∀ H, H.all (Row.under 0) = true → Ret F 22 [] (R3 ++ H) = some (.bool true, R3 ++ H, none)) : ∀ (d i : Nat) (H : List Row), n + 1 - i = d → i ≤ n + 1 → H.all (Row.under 0) = true →
    Lc7l2 G7 (.fn [.t 4]) x5 x6 x7 (.int .i64 i) (R3 ++ H) R0.length (fun r => fin R0 r.1 r.2.1 r.2.2 = (.bool true, R0, none)) := by
  have hcg : ∀ g : Nat, g < c.length → 0 ≤ gI c g ∧ gI c g ≤ 1000 := fun g hg => by
    have := List.all_eq_true.1 hall _ (gI_mem hg)
    simp at this
    omega
  intro d
  induction d with
  | zero =>
    intro i H hd h1 hH
    unfold Lc7l2
    simp [lenL h5, hn, show ¬ (i ≤ n) from by omega, toG7 (hA H hH)]
  | succ d ih =>
    intro i H hd h1 hH
    have hi : i ≤ n := by omega
    obtain ⟨pa, p1, p2, p3, p4, p5, p8, p6⟩ := pl_path (c := c) (i := i) hcg hpl (by omega) (by omega)
    have p6' := p6 (by omega) (by omega)
    have ans : answerF n i q = some pa := by
      unfold answerF
      have := p1 n [] [] (by omega)
      rw [List.append_nil] at this
      rw [this]
      rfl
    obtain ⟨f', e1, _, e3⟩ := p2 n [] (fun _ => 0) (by omega)
    rw [List.append_nil] at e1
    have pf : pricesF c q = some f' := by
      unfold pricesF
      rw [hn, e1]
    have hPi : gI P i = sumc c pa := by
      rw [hP f' pf i hi, (e3 (by omega) (by omega)).1]
      omega
    have hlen : pa.length ≤ 12 := by omega
    have hA1 := toG7 (Answer_ret (rows := R3 ++ H) (piece := (i : Int)) (IsL_app h5 H) (by omega) hall (IsL_app h6 H) hc6)
    rw [hn, ans] at hA1
    simp only at hA1
    rw [if_pos (by omega)] at hA1
    have step : ∀ (H1 : List Row) (x10 : AV), IsL (R3 ++ H1) x10 pa → H1.all (Row.under 0) = true → Jc7s25 G7 (.fn [.t 4]) x5 x6 x7 (.int .i64 i) x10 (R3 ++ H1) R0.length (fun r => fin R0 r.1 r.2.1 r.2.2 = (.bool true, R0, none)) := by
      intro H1 x10 h10 hH1
      have hk := ih (i + 1) (H1 ++ [.cells (bls (usedT n pa))]) (by omega) (by omega) (by
        rw [List.all_append, hH1]
        simp [Row.under, AV.under, bls])
      have := sums_in (low := R0.length) (r := fun r => fin R0 r.1 r.2.1 r.2.2 = (.bool true, R0, none)) h5 hn hn12 h7 hPl h10 hi p4 p5 hcg hlen hPi (fun e => p6'.1 (by omega)) (fun e => p6'.2.1 (by omega)) hlow (by simpa using hk) _ 0 rfl (by omega)
      unfold Jc7s25
      simp [lenL h5, hn, lim, rep_used2, show (n : Int) ≤ 1073741824 from by omega]
      simpa [sumc] using this
    have hz : pa = [] ↔ n = 0 := by
      constructor
      · intro e
        rcases Nat.eq_zero_or_pos n with e2 | e2
        · exact e2
        · exact absurd e (p6'.2.2 (by omega))
      · intro e
        cases pa with
        | nil => rfl
        | cons x y => have := p4 x List.mem_cons_self; omega
    unfold Lc7l2
    cases hpa : pa with
    | nil =>
      rw [hpa] at hA1 step hz
      have hn0 := hz.1 rfl
      subst hn0
      obtain rfl : i = 0 := by omega
      simp only [Int.ofNat_zero, Int.natCast_zero, Int.cast_ofNat_Int] at hA1 
      have := step H .nilslice IsL_nil hH
      simp [-uc7s25, jc7s25, lenL h5, hn, hi, hA1]
      simpa using this
    | cons x y =>
      rw [hpa] at hA1 step hz
      have hn0 : ¬ n = 0 := fun e => by have := hz.2 e; simp at this
      simp [-uc7s25, jc7s25, lenL h5, hn, hi, hA1, hn0]
      refine ⟨by omega, ?_⟩
      have := step (H ++ [.cells (nums .i64 (x :: y))]) (.slice (R3.length + H.length) 0 (y.length + 1) (.op 1)) (by
        rw [← List.append_assoc]
        have := IsL_new (rows := R3 ++ H) (L := []) (l := x :: y) (c := .op 1) rfl
        simpa using this) (by
        rw [List.all_append, hH]
        simp [Row.under, AV.under, nums])
      simpa using this

theorem newL_shape (rows : List Row) (l : List Int) : ∃ v K, newL rows l = (v, rows ++ K, none) ∧ IsL (rows ++ K) v l ∧ Cp 1 v ∧ K.all (Row.under 0) = true := by
  have h := newL_IsL (rows := rows) l
  cases l with
  | nil => exact ⟨.nilslice, [], by simp [newL], by simpa [newL] using h.1, h.2, rfl⟩
  | cons x l => exact ⟨_, [.cells (nums .i64 (x :: l))], rfl, h.1, h.2, by simp [Row.under, AV.under, nums]⟩
theorem newC_shape (rows : List Row) (l : List Int) {c : Cap} (hc : c = .op 1 ∨ c = .at_ l.length) : ∃ v K, newC rows l c = (v, rows ++ K, none) ∧ IsL (rows ++ K) v l ∧ Cp 1 v ∧ K.all (Row.under 0) = true := by
  have h := newC_IsL (rows := rows) l hc
  cases l with
  | nil => exact ⟨.nilslice, [], by simp [newC], by simpa [newC] using h.1, h.2, rfl⟩
  | cons x l => exact ⟨_, [.cells (nums .i64 (x :: l))], rfl, h.1, h.2, by simp [Row.under, AV.under, nums]⟩
/-- SearchSums, if 'awake' is true. -/
theorem sums_ret {rows : List Row} (hA : ∀ H, H.all (Row.under 0) = true → Ret F 22 [] (rows ++ H) = some (.bool true, rows ++ H, none)) {v0 v1 : AV} {l p : List Int} (h0 : IsL rows v0 l) (h1 : IsL rows v1 p) (hp : p.length < 4611686018427387904) : Ret G7 7 [v0, v1] rows = some (.bool true, rows, none) := by
  have hcs := costs_ret h0
  generalize hcl : (l.take 12).map cst = c at hcs
  have hn : c.length ≤ 12 := by rw [← hcl]; simp; omega
  have hall : (c.all fun x => decide (1 ≤ x ∧ x ≤ 1000)) = true := by
    rw [List.all_eq_true]
    intro x hx
    rw [← hcl] at hx
    obtain ⟨y, _, rfl⟩ := List.mem_map.1 hx
    simpa using cst_ok y
  obtain ⟨x5, K5, e5, i5, _, u5⟩ := newL_shape rows c
  rw [e5] at hcs
  obtain ⟨q, cap, hpl, hcap, hpr⟩ := plan_ret c.length (rows ++ K5) v1 p 0 c.length (IsL_app h1 K5) hp (by omega) (by omega) (by omega) (by omega)
  obtain ⟨x6, K6, e6, i6, c6, u6⟩ := newC_shape (rows ++ K5) q hcap
  rw [e6] at hpr
  have hcg : ∀ g : Nat, g < c.length → 0 ≤ gI c g ∧ gI c g ≤ 1000 := fun g hg => by
    have := List.all_eq_true.1 hall _ (gI_mem hg)
    simp at this
    omega
  obtain ⟨pa, _, p2, _⟩ := pl_path (c := c) (i := 0) hcg hpl (by omega) (by omega)
  obtain ⟨f, ef, _⟩ := p2 c.length [] (fun _ => 0) (by omega)
  rw [List.append_nil] at ef
  have pf : pricesF c q = some f := by
    unfold pricesF
    rw [ef]
  have hps := Prices_ret (IsL_app i5 K6) hn hall i6 c6
  rw [pf] at hps
  simp only at hps
  have hcs' := toG7 hcs
  have hpr' := toG7 hpr
  have hps' := toG7 hps
  have i7 : IsL (rows ++ K5 ++ K6 ++ [.cells (nums .i64 (tab (c.length + 1) f))]) (.slice (rows ++ K5 ++ K6).length 0 (c.length + 1) (.at_ (c.length + 1))) (tab (c.length + 1) f) := by
    have := IsL_new (rows := rows ++ K5 ++ K6) (L := []) (l := tab (c.length + 1) f) (c := .at_ (c.length + 1)) (n := c.length + 1) (by simp)
    exact this
  have hl := sums_out (R0 := rows) (R3 := rows ++ K5 ++ K6 ++ [.cells (nums .i64 (tab (c.length + 1) f))]) (IsL_app (IsL_app i5 K6) _) rfl hn (IsL_app i6 _) c6 hpl i7 (by simp) hall (by
      intro f' ef' i hi
      rw [pf] at ef'
      injection ef' with ef'
      subst ef'
      rw [gI_eq (by simp; omega)]
      simp) (by simp) (by
      intro H hH
      have := hA (K5 ++ K6 ++ [.cells (nums .i64 (tab (c.length + 1) f))] ++ H) (by
        rw [List.all_append, List.all_append, List.all_append, u5, u6, hH]
        simp [Row.under, AV.under, nums])
      simpa using this) _ 0 [] rfl (by omega) rfl
  have w1 : IntKind.i64.wrap ((c.length : Int) + 1) = c.length + 1 := wrap64 (by omega) (by omega)
  have hln := lenL0 i5
  have hln6 := fun L => lenL (IsL_app i5 K6) L
  refine Go.Abs.i7 more_at ?_
  simp only [List.append_assoc] at hpr' hps' hln hln6 hl
  simp [hcs', hln, hpr', hps', hln6, w1]
  simpa using hl
end
end Go.Abs
