/- SearchOwn, but for 'awake'. -/
import Derived.Test.YtiejbjajbehcfaaDoorS26
import Derived.Test.YtiejbjajbehcfaaDoorL7
import Derived.Test.YtiejbjajbehcfaaDoorD6
set_option linter.unusedVariables false
set_option linter.unusedSimpArgs false
namespace Go.Abs
open Rd (Cp IsL_one IsL_cells IsL_tail lowO_n)
abbrev G6 : Nat → Option IFn := more F 6 c6
theorem toG6 {f : Nat} {vs : List AV} {rows : List Row} {q : AV × List Row × Option Nat} (h : Ret F f vs rows = some q) : Ret G6 f vs rows = some q := Ret_ext (more_ext (by kernel_rfl)) h
/-- A slice of whole numbers in a row that may be written. -/
def Ow (A RW : Nat) (R : List Row) (v : AV) (n : Nat) : Prop := (v = .nilslice ∧ n = 0) ∨ ∃ id c l, v = .slice id 0 n c ∧ R[id]? = some (.cells (nums .i64 l)) ∧ l.length = n ∧ A ≤ id ∧ id < RW
structure OS (A : List Row) (RW : Nat) (vs : List AV) (ns : List Nat) (R : List Row) : Prop where
  pre : ∃ M : List Row, R = A ++ M ∧ Und A M
  all : R[RW]? = some (.cells vs)
  ow : ∀ (i : Nat) (v : AV) (n : Nat), vs[i]? = some v → ns[i]? = some n → Ow A.length RW R v n
theorem Ow_set {A RW id : Nat} {R : List Row} {v : AV} {n : Nat} {l l' : List Int} (h : Ow A RW R v n) (hr : R[id]? = some (.cells (nums .i64 l))) (hl : l'.length = l.length) : Ow A RW (R.set id (.cells (nums .i64 l'))) v n := by
  rcases h with h | ⟨id', c, q, h1, h2, h3, h4⟩
  · exact .inl h
  · by_cases e : id' = id
    · subst e
      rw [hr] at h2
      have hq : q.length = l.length := by
        simp only [Option.some.injEq, Row.cells.injEq] at h2
        have := congrArg List.length h2
        simpa using this.symm
      exact .inr ⟨id', c, l', h1, by rw [List.getElem?_set_self (rows_lt hr)], by omega, h4⟩
    · exact .inr ⟨id', c, q, h1, by rw [List.getElem?_set_ne (fun x => e x.symm)]; exact h2, h3, h4⟩
theorem OS_set {A R : List Row} {RW id : Nat} {vs : List AV} {ns : List Nat} {l l' : List Int} (h : OS A RW vs ns R) (hr : R[id]? = some (.cells (nums .i64 l))) (hl : l'.length = l.length) (hA : A.length ≤ id) (hRW : id < RW) : OS A RW vs ns (R.set id (.cells (nums .i64 l'))) := by
  obtain ⟨⟨M, rfl, hU⟩, h2, h3⟩ := h
  refine ⟨⟨M.set (id - A.length) (.cells (nums .i64 l')), ?_, ?_⟩, by rw [List.getElem?_set_ne (by omega)]; exact h2, fun i v n hv hn => Ow_set (h3 i v n hv hn) hr hl⟩
  · rw [List.set_append_right _ _ hA]
  · intro y hy
    rw [List.length_set]
    rcases List.mem_or_eq_of_mem_set hy with hy | rfl
    · exact hU y hy
    · simp [Row.under]
section
variable {A : List Row} {RW low : Nat} {vs : List AV} {ns : List Nat} {x5 x6 x7 x8 x11 x13 x15 : AV} {r : AV × List Row × Nat → Prop}
set_option maxHeartbeats 2000000 in
theorem own_in {i n : Nat} {v : AV} (hi : i < 3) (hvl : vs.length = 3) (hv : vs[i]? = some v) (hn : ns[i]? = some n) (hn1 : n ≤ 1000) (hlow : low ≤ A.length)
    (hk : ∀ R, OS A RW vs ns R → Lc6l6 G6 (.fn [.t 4]) x5 x6 x7 x8 x11 x13 x15 (.slice RW 0 3 (.at_ 3)) (.int .i64 ((i + 1 : Nat) : Int)) R low r) : ∀ (d k : Nat) (R : List Row), n - k = d → k ≤ n → OS A RW vs ns R →
    Lc6l8 G6 (.fn [.t 4]) x5 x6 x7 x8 x11 x13 x15 (.slice RW 0 3 (.at_ 3)) (.int .i64 i) (.int .i64 k) R low r := by
  have w1 : IntKind.i64.wrap ((i : Int) + 1) = i + 1 := wrap64 (by omega) (by omega)
  intro d
  induction d with
  | zero =>
    intro k R hd hkn hO
    have hkn' : k = n := by omega
    subst hkn'
    have hrow : row? R RW = some vs := by unfold row?; rw [hO.all]
    have hlen : evP R (.len 0 (.c v)) = some (.int .i64 k) := by
      rcases hO.ow i v k hv hn with ⟨rfl, rfl⟩ | ⟨id, c, l, rfl, _⟩ <;> rfl
    have := hk R hO
    unfold Lc6l8
    simp [hi, hrow, hv, hlen, w1]
    simpa using this
  | succ d ih =>
    intro k R hd hkn hO
    have hk1 : k < n := by omega
    have w2 : IntKind.i64.wrap ((k : Int) + 1) = k + 1 := wrap64 (by omega) (by omega)
    have hrow : row? R RW = some vs := by unfold row?; rw [hO.all]
    rcases hO.ow i v n hv hn with ⟨rfl, e0⟩ | ⟨id, c, l, rfl, hr, hl, hA, hRW⟩
    · omega
    · have hc : cells? R id = some (nums .i64 l) := by unfold cells?; rw [hr]
      have hlw : lower low id = low := lower_ge (by omega)
      have := ih (k + 1) (R.set id (.cells (nums .i64 (l.set k (-7))))) (by omega) (by omega) (OS_set hO hr (by simp) hA hRW)
      unfold Lc6l8
      simp [hi, hrow, hv, hk1, hc, hl, hlw, w2]
      simpa using this
theorem own_out (hvl : vs.length = 3) (hnl : ns.length = 3) (hn1 : ∀ (i n : Nat), ns[i]? = some n → n ≤ 1000) (hlow : low ≤ A.length)
    (hk : ∀ R, OS A RW vs ns R → Lc6l6 G6 (.fn [.t 4]) x5 x6 x7 x8 x11 x13 x15 (.slice RW 0 3 (.at_ 3)) (.int .i64 3) R low r) : ∀ (d i : Nat) (R : List Row), 3 - i = d → i ≤ 3 → OS A RW vs ns R →
    Lc6l6 G6 (.fn [.t 4]) x5 x6 x7 x8 x11 x13 x15 (.slice RW 0 3 (.at_ 3)) (.int .i64 i) R low r := by
  intro d
  induction d with
  | zero =>
    intro i R hd h1 hO
    have : i = 3 := by omega
    subst this
    exact hk R hO
  | succ d ih =>
    intro i R hd h1 hO
    have hi : i < 3 := by omega
    obtain ⟨v, hv⟩ : ∃ v, vs[i]? = some v := ⟨_, List.getElem?_eq_getElem (by omega)⟩
    obtain ⟨n, hn⟩ : ∃ n, ns[i]? = some n := ⟨_, List.getElem?_eq_getElem (by omega)⟩
    have := own_in (x5 := x5) (x6 := x6) (x7 := x7) (x8 := x8) (x11 := x11) (x13 := x13) (x15 := x15) (r := r) hi hvl hv hn (hn1 i n hn) hlow (fun R hR => ih (i + 1) R (by omega) (by omega) hR) _ 0 R rfl (Nat.zero_le _) hO
    unfold Lc6l6
    simp [show (i : Int) < 3 by omega]
    simpa using this
end
set_option maxHeartbeats 4000000 in
/-- The end: all is as it was. -/
theorem own_end {rows A R : List Row} {RW : Nat} {vs : List AV} {ns : List Nat} {x5 x6 x7 x8 : AV} {c q : List Int} {f : Nat → Int} {ls : List (List Int)} (hA : ∀ H, Und rows H → Ret F 22 [] (rows ++ H) = some (.bool true, rows ++ H, none)) (hrA : ∃ K : List Row, A = rows ++ K ∧ Und rows K)
    (i5 : IsL A x5 c) (i6 : IsL A x6 c) (i7 : IsL A x7 q) (c7 : Cp 1 x7) (i8 : IsL A x8 q) (hn : c.length ≤ 12) (hq : q.length ≤ 1000) (hall : (c.all fun x => decide (1 ≤ x ∧ x ≤ 1000)) = true) (hpf : pricesF c q = some f) (hopn : opn q c.length 0 0 c.length = some (ls, q.length)) (hpr : ls.map (sumG c) = tab (c.length + 1) f) (hls : ∀ l ∈ ls, l.length ≤ 1000 ∧ ∀ g ∈ l, 0 ≤ g ∧ g < c.length) (hO : OS A RW vs ns R) :
    Lc6l6 G6 (.fn [.t 4]) x5 x6 x7 x8 (.int .i64 0) (.int .i64 0) (.int .i64 0) (.slice RW 0 3 (.at_ 3)) (.int .i64 3) R rows.length (fun r => fin rows r.1 r.2.1 r.2.2 = (.bool true, rows, none)) := by
  obtain ⟨⟨M, rfl, hM⟩, _, _⟩ := hO
  obtain ⟨K, rfl, hK⟩ := hrA
  have hP := Prices_ret (IsL_app i5 M) hn hall (IsL_app i7 M) c7
  rw [hpf] at hP
  simp only at hP
  have hOp := Opened_ret (p := q) (by omega) (IsL_app (IsL_app i8 M) [.cells (nums .i64 (tab (c.length + 1) f))]) hn
  rw [hopn] at hOp
  simp only at hOp
  obtain ⟨lv, X, e1, e2, e3⟩ := hOp
  have hlsl : ls.length = c.length + 1 := by have := congrArg List.length hpr; simpa using this
  have e5 := fun L => ints_ret (rows := rows ++ K ++ M ++ L) (IsL_app (IsL_app i5 M) L) (IsL_app (IsL_app i6 M) L) (by omega) (by omega)
  have e6 := fun L => ints_ret (rows := rows ++ K ++ M ++ L) (IsL_app (IsL_app i7 M) L) (IsL_app (IsL_app i8 M) L) (by omega) (by omega)
  have e7 := rprices_ret (cs := c) (lv := lv) (ls := ls) (IsL_app (IsL_app (IsL_app i6 M) [.cells (nums .i64 (tab (c.length + 1) f))]) X) e2 (fun x hx => by have := List.all_eq_true.1 hall x hx; simp at this; omega) (by omega) hls
  rw [hpr] at e7
  obtain ⟨y, Y, e8, e9, _, e10⟩ := newL_shape (rows ++ K ++ M ++ [.cells (nums .i64 (tab (c.length + 1) f))] ++ X) (tab (c.length + 1) f)
  rw [e8] at e7
  have i19 : IsL (rows ++ K ++ M ++ [.cells (nums .i64 (tab (c.length + 1) f))] ++ X ++ Y) (.slice (rows ++ K ++ M).length 0 (c.length + 1) (.at_ (c.length + 1))) (tab (c.length + 1) f) := by
    have := IsL_new (rows := rows ++ K ++ M) (L := X ++ Y) (l := tab (c.length + 1) f) (c := .at_ (c.length + 1)) (n := c.length + 1) (by simp)
    simpa using this
  have e11 := ints_ret i19 e9 (by simp; omega) (by simp; omega)
  have e12 := hA (K ++ (M ++ ([.cells (nums .i64 (tab (c.length + 1) f))] ++ (X ++ Y)))) (by
    intro y hy
    simp only [List.mem_append] at hy
    rcases hy with hy | hy | hy | hy | hy
    · exact und_mono (hK y hy) (by simp <;> omega)
    · exact und_mono (hM y hy) (by simp <;> omega)
    · have : y = .cells (nums .i64 (tab (c.length + 1) f)) := by simpa using hy
      subst this; simp [Row.under]
    · exact und_mono (e3 y hy) (by simp <;> omega)
    · exact und_mono (List.all_eq_true.1 e10 y hy) (Nat.zero_le _))
  have hP' := toG6 hP
  have e1' := toG6 e1
  have e5' := fun L => toG6 (e5 L)
  have e6' := fun L => toG6 (e6 L)
  have e7' := toG6 e7
  have e11' := toG6 e11
  have e12' := toG6 e12
  have l5 := fun L => lenL (IsL_app i5 M) L
  simp only [decide_true, List.append_assoc, List.cons_append, List.nil_append, List.length_append] at hP' e1' e5' e6' e7' e11' e12' l5
  unfold Lc6l6
  simp [hP', l5, e1', e5', e6', e7', e11', e12']
set_option maxHeartbeats 4000000 in
/-- SearchOwn, if 'awake' is true. -/
theorem own_ret {rows : List Row} (hA : ∀ H, Und rows H → Ret F 22 [] (rows ++ H) = some (.bool true, rows ++ H, none)) {v0 v1 : AV} {l p : List Int} (h0 : IsL rows v0 l) (h1 : IsL rows v1 p) (hp : p.length < 4611686018427387904) : Ret G6 6 [v0, v1] rows = some (.bool true, rows, none) := by
  have hcs := costs_ret h0
  generalize hcl : (l.take 12).map cst = c at hcs
  have hn : c.length ≤ 12 := by rw [← hcl]; simp; omega
  have hall : (c.all fun x => decide (1 ≤ x ∧ x ≤ 1000)) = true := by
    rw [List.all_eq_true]
    intro x hx
    rw [← hcl] at hx
    obtain ⟨y, _, rfl⟩ := List.mem_map.1 hx
    simpa using cst_ok y
  obtain ⟨x5, K5, e5, i5, c5, u5⟩ := newL_shape rows c
  rw [e5] at hcs
  have hfw := few_ret (m := 20) i5 c5 (by omega)
  rw [List.take_of_length_le (by omega)] at hfw
  obtain ⟨x6, K6, e6, i6, c6, u6⟩ := newL_shape (rows ++ K5) c
  rw [e6] at hfw
  obtain ⟨q, cap, hpl, hcap, hpr⟩ := plan_ret c.length (rows ++ K5 ++ K6) v1 p 0 c.length (IsL_app (IsL_app h1 K5) K6) hp (by omega) (by omega) (by omega) (by omega)
  have hql := hpl.len
  obtain ⟨x7, K7, e7, i7, c7, u7⟩ := newC_shape (rows ++ K5 ++ K6) q hcap
  rw [e7] at hpr
  have hfq := few_ret (m := 20) i7 c7 (by omega)
  rw [List.take_of_length_le (by omega)] at hfq
  obtain ⟨x8, K8, e8, i8, c8, u8⟩ := newL_shape (rows ++ K5 ++ K6 ++ K7) q
  rw [e8] at hfq
  -- the plan's prices, and its gates
  have hcg : ∀ g : Nat, g < c.length → 0 ≤ gI c g ∧ gI c g ≤ 1000 := fun g hg => by have := cost_bd hall hg; omega
  have hcx : ∀ x ∈ c, 0 ≤ x ∧ x ≤ 1000 := fun x hx => by have := List.all_eq_true.1 hall x hx; simp at this; omega
  obtain ⟨pa, p1, p2, _, _, _, p5, _⟩ := pl_path (c := c) (i := 0) hcg hpl (by omega) (by omega)
  obtain ⟨f, ef, _⟩ := p2 c.length [] (fun _ => 0) (by omega)
  rw [List.append_nil] at ef
  have pf : pricesF c q = some f := by
    unfold pricesF
    rw [ef]
  have ans : answerF c.length ((0 : Nat) : Int) q = some pa := by
    unfold answerF
    have := p1 c.length [] [] (by omega)
    rw [List.append_nil] at this
    rw [this]
    rfl
  have hop := pricesF_opn (p := q) hcx hn
  rw [pf] at hop
  obtain ⟨ls, hopn, hlsl, hlsf⟩ : ∃ ls, opn q c.length 0 0 c.length = some (ls, q.length) ∧ ls.length = c.length + 1 ∧ ∀ i, i ≤ c.length → f i = sumG c (gLL ls i) := by
    unfold opnAll at hop
    cases ho : opn q c.length 0 0 c.length with
    | none => rw [ho] at hop; simp at hop
    | some z =>
      obtain ⟨ls, k⟩ := z
      rw [ho] at hop
      simp only at hop
      by_cases hk : k = q.length
      · rw [if_pos hk] at hop
        obtain ⟨f', h1, h2, h3⟩ := hop
        injection h1 with h1
        subst h1
        exact ⟨ls, by rw [hk], h2, h3⟩
      · rw [if_neg hk] at hop; simp at hop
  have hlb := opn_len _ _ _ _ _ _ hopn (by omega) (by omega)
  have hmap : ls.map (sumG c) = tab (c.length + 1) f := by
    apply List.ext_getElem?
    intro i
    rw [tab_get?, List.getElem?_map]
    by_cases hi : i < c.length + 1
    · rw [if_pos hi, gLL_get (by omega), hlsf i (by omega)]; rfl
    · rw [if_neg hi, List.getElem?_eq_none (by omega)]; rfl
  -- the results
  generalize hR4 : rows ++ K5 ++ K6 ++ K7 ++ K8 = R4 at *
  have j5 : IsL R4 x5 c := by rw [← hR4]; exact IsL_app (IsL_app (IsL_app i5 K6) K7) K8
  have j6 : IsL R4 x6 c := by rw [← hR4]; exact IsL_app (IsL_app i6 K7) K8
  have j7 : IsL R4 x7 q := by rw [← hR4]; exact IsL_app i7 K8
  have j8 : IsL R4 x8 q := i8
  have hR4r : ∃ K : List Row, R4 = rows ++ K ∧ Und rows K := by
    refine ⟨K5 ++ K6 ++ K7 ++ K8, by rw [← hR4]; simp, ?_⟩
    intro y hy
    simp only [List.mem_append] at hy
    rcases hy with ((hy | hy) | hy) | hy
    · exact und_mono (List.all_eq_true.1 u5 y hy) (Nat.zero_le _)
    · exact und_mono (List.all_eq_true.1 u6 y hy) (Nat.zero_le _)
    · exact und_mono (List.all_eq_true.1 u7 y hy) (Nat.zero_le _)
    · exact und_mono (List.all_eq_true.1 u8 y hy) (Nat.zero_le _)
  have hle : rows.length ≤ R4.length := by rw [← hR4]; simp
  obtain ⟨T, _, hD, _, hW⟩ := Worst_ret j5 hn hall
  have hpll := tpl_len (Done_Good hD) c.length 0 c.length (by omega) (by omega) (by omega) (by omega)
  generalize tpl T c.length 0 c.length = pl at hW hpll
  have hPr := Prices_ret (IsL_app j5 (nlK pl)) hn hall (IsL_app j7 (nlK pl)) c7
  rw [pf] at hPr
  simp only at hPr
  have hAn := Answer_ret (piece := ((0 : Nat) : Int)) (IsL_app (IsL_app j5 (nlK pl)) [.cells (nums .i64 (tab (c.length + 1) f))]) hn hall (IsL_app (IsL_app j7 (nlK pl)) [.cells (nums .i64 (tab (c.length + 1) f))]) c7
  rw [ans] at hAn
  simp only at hAn
  rw [if_pos (by omega)] at hAn
  have hAn' : Ret F 30 [x5, x7, .int .i64 0] (R4 ++ nlK pl ++ [.cells (nums .i64 (tab (c.length + 1) f))]) = some (.tup [nlV (R4 ++ nlK pl ++ [Row.cells (nums .i64 (tab (c.length + 1) f))]).length pa, .int .i64 0], R4 ++ nlK pl ++ [.cells (nums .i64 (tab (c.length + 1) f))] ++ nlK pa, none) := by
    cases pa with
    | nil => simpa [nlV, nlK] using hAn
    | cons x y => simpa [nlV, nlK] using hAn
  have hnk : ∀ l, Und R4 (nlK l) := fun l y hy => und_mono (List.all_eq_true.1 (nlK_under l) y hy) (Nat.zero_le _)
  have hOw : ∀ (B L : List Row) (RW : Nat) (l : List Int), R4.length ≤ B.length → B.length + (nlK l).length ≤ RW → Ow R4.length RW (B ++ (nlK l ++ L)) (nlV B.length l) l.length := by
    intro B L RW l hB hRW
    cases l with
    | nil => exact .inl ⟨rfl, rfl⟩
    | cons x y => exact .inr ⟨B.length, .op 1, x :: y, rfl, by rw [rows_at0]; rfl, rfl, hB, by simp [nlK] at hRW; omega⟩
  have hO : OS R4 (R4 ++ nlK pl ++ [Row.cells (nums .i64 (tab (c.length + 1) f))] ++ nlK pa).length [nlV R4.length pl, .slice (R4 ++ nlK pl).length 0 (c.length + 1) (.at_ (c.length + 1)), nlV (R4 ++ nlK pl ++ [Row.cells (nums .i64 (tab (c.length + 1) f))]).length pa] [pl.length, c.length + 1, pa.length]
      (R4 ++ nlK pl ++ [Row.cells (nums .i64 (tab (c.length + 1) f))] ++ nlK pa ++ [.cells [nlV R4.length pl, .slice (R4 ++ nlK pl).length 0 (c.length + 1) (.at_ (c.length + 1)), nlV (R4 ++ nlK pl ++ [Row.cells (nums .i64 (tab (c.length + 1) f))]).length pa]]) := by
    have hvu : ∀ (n m : Nat) (l : List Int), n + (nlK l).length < m + 1 → (nlV n l).under m = true := by
      intro n m l h
      cases l with
      | nil => rfl
      | cons x y => simp [nlK] at h; simp [nlV, AV.under]; omega
    refine ⟨⟨nlK pl ++ [Row.cells (nums .i64 (tab (c.length + 1) f))] ++ nlK pa ++ [.cells [nlV R4.length pl, .slice (R4 ++ nlK pl).length 0 (c.length + 1) (.at_ (c.length + 1)), nlV (R4 ++ nlK pl ++ [Row.cells (nums .i64 (tab (c.length + 1) f))]).length pa]], by simp, ?_⟩, by rw [rows_at0]; rfl, ?_⟩
    · intro y hy
      simp only [List.mem_append, List.mem_singleton] at hy
      rcases hy with ((hy | rfl) | hy) | rfl
      · exact und_mono (hnk _ y hy) (by simp)
      · simp [Row.under]
      · exact und_mono (hnk _ y hy) (by simp; omega)
      · simp only [Row.under, List.all_cons, List.all_nil, Bool.and_true, Bool.and_eq_true]
        refine ⟨hvu _ _ _ (by simp; omega), ?_, hvu _ _ _ (by simp; omega)⟩
        simp [AV.under]
    · intro i v n hv hn'
      match i with
      | 0 =>
        injection hv with hv; injection hn' with hn'; subst hv hn'
        have := hOw R4 ([Row.cells (nums .i64 (tab (c.length + 1) f))] ++ nlK pa ++ [.cells [nlV R4.length pl, .slice (R4 ++ nlK pl).length 0 (c.length + 1) (.at_ (c.length + 1)), nlV (R4 ++ nlK pl ++ [Row.cells (nums .i64 (tab (c.length + 1) f))]).length pa]]) (R4 ++ nlK pl ++ [Row.cells (nums .i64 (tab (c.length + 1) f))] ++ nlK pa).length pl (Nat.le_refl _) (by simp <;> omega)
        simpa using this
      | 1 =>
        injection hv with hv; injection hn' with hn'; subst hv hn'
        refine .inr ⟨_, _, tab (c.length + 1) f, rfl, ?_, by simp, by simp, by simp <;> omega⟩
        rw [List.append_assoc, List.append_assoc, rows_at0]; rfl
      | 2 =>
        injection hv with hv; injection hn' with hn'; subst hv hn'
        have := hOw (R4 ++ nlK pl ++ [Row.cells (nums .i64 (tab (c.length + 1) f))]) [.cells [nlV R4.length pl, .slice (R4 ++ nlK pl).length 0 (c.length + 1) (.at_ (c.length + 1)), nlV (R4 ++ nlK pl ++ [Row.cells (nums .i64 (tab (c.length + 1) f))]).length pa]] (R4 ++ nlK pl ++ [Row.cells (nums .i64 (tab (c.length + 1) f))] ++ nlK pa).length pa (by simp) (by simp; omega)
        simpa using this
      | n + 3 => simp at hv
  have hend := own_out (x5 := x5) (x6 := x6) (x7 := x7) (x8 := x8) (x11 := .int .i64 0) (x13 := .int .i64 0) (x15 := .int .i64 0) (r := fun r => fin rows r.1 r.2.1 r.2.2 = (.bool true, rows, none)) (low := rows.length) rfl rfl (by
    intro i n h
    match i with
    | 0 => injection h with h; subst h; omega
    | 1 => injection h with h; subst h; omega
    | 2 => injection h with h; subst h; omega
    | n + 3 => simp at h) hle (fun R hR => own_end hA hR4r j5 j6 j7 c7 j8 hn (by omega) hall pf hopn hmap (fun l hl => by
      have := hlb.2.2.2 l hl
      exact ⟨by omega, this.2⟩) hR) _ 0 _ rfl (by omega) hO
  have hcs' := toG6 hcs
  have hfw' : Ret G6 26 [x5, .int .i64 20] (rows ++ K5) = _ := toG6 hfw
  have hpr' := toG6 hpr
  have hfq' : Ret G6 26 [x7, .int .i64 20] (rows ++ K5 ++ K6 ++ K7) = _ := toG6 hfq
  have hW' := toG6 hW
  have hPr' := toG6 hPr
  have hAn2 := toG6 hAn'
  have l5 := lenL (IsL_app i5 K6) []
  have lo := nlV_one
  have lc := nlV_cells
  refine Go.Abs.i6 more_at ?_
  simp only [List.append_nil] at l5
  simp [hcs', hfw', l5, hpr', hfq', hW', hPr', hAn2, fillA, splice, lo, lc, -List.append_assoc, -List.length_append]
  simpa using hend
end Go.Abs
