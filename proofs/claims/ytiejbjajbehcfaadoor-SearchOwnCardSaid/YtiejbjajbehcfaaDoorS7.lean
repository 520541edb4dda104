/- search: prices. -/
import Derived.Test.YtiejbjajbehcfaaDoorS6
set_option linter.unusedVariables false
set_option linter.unusedSimpArgs false
namespace Go.Abs
open Rd (Cp IsL_one IsL_cells IsL_tail lowO_n)
section
variable {rows T : List Row} {r : AV × List Row × Nat → Prop}
/-- A gate's cost is added to the pieces from a to b. -/
def addP (c : List Int) (f : Nat → Int) (g a b : Int) : Nat → Int := fun j => if a ≤ (j : Int) ∧ (j : Int) ≤ b then IntKind.i64.wrap (f j + gI c g.toNat) else f j
set_option maxHeartbeats 4000000 in
theorem prices_in {cv : AV} {c : List Int} {n N : Nat} {a b g : Int} (h : IsL rows cv c) (hn : n ≤ 12) (hg0 : 0 ≤ g) (hg : g < c.length) (ha : 0 ≤ a) (hb : b ≤ n)
    (hN : ∀ o s, row? (rows ++ (.cells [cv] :: o :: s :: T)) N = some [.int .i64 a, .int .i64 b]) : ∀ (m : Nat) (i : Nat) (f : Nat → Int) (low : Nat), (b + 1 - i).toNat = m → (i : Int) ≤ b + 1 → rows.length + 1 ≤ low →
    r (.tup [], rows ++ (.cells [cv] :: .cells (nums .i64 (tab (n + 1) (addP c f g i b))) :: .cells [.slice (rows.length + 1) 0 (n + 1) (.at_ (n + 1))] :: T), if (i : Int) ≤ b then rows.length + 1 else low) →
    Lc88l0 F (.fn []) (.int .i64 g) (.ptr (rows.length + 2) 0) (.ptr rows.length 0) (.ptr N 0) (.int .i64 i) (rows ++ (.cells [cv] :: .cells (nums .i64 (tab (n + 1) f)) :: .cells [.slice (rows.length + 1) 0 (n + 1) (.at_ (n + 1))] :: T)) low r := by
  intro m
  induction m with
  | zero =>
    intro i f low hm h1 hlow hr
    have hi : ¬ ((i : Int) ≤ b) := by omega
    have e : tab (n + 1) (addP c f g i b) = tab (n + 1) f := tab_congr fun j _ => by unfold addP; rw [if_neg (by omega)]
    rw [e, if_neg hi] at hr
    unfold Lc88l0
    simp [hN, hi]
    exact hr
  | succ m ih =>
    intro i f low hm h1 hlow hr
    have hi : (i : Int) ≤ b := by omega
    have hin : i < n + 1 := by omega
    have w1 : IntKind.i64.wrap ((i : Int) + 1) = i + 1 := wrap64 (by omega) (by omega)
    have hlw : lower low (rows.length + 1) = rows.length + 1 := by unfold lower; split <;> omega
    unfold Lc88l0
    simp (disch := first | omega | (simp; done) | fail) [hN, hi, hin, idxL h, loadL h, w1, hlw]
    have := ih (i + 1) (fun j => if j = i then IntKind.i64.wrap (f i + gI c g.toNat) else f j) (rows.length + 1) (by omega) (by omega) (Nat.le_refl _) (by
      rw [if_pos hi] at hr
      have e : tab (n + 1) (addP c (fun j => if j = i then IntKind.i64.wrap (f i + gI c g.toNat) else f j) g ((i + 1 : Nat) : Int) b) = tab (n + 1) (addP c f g i b) := tab_congr fun j _ => by
        unfold addP
        dsimp only
        by_cases e1 : j = i
        · subst e1
          rw [if_neg (by omega), if_pos rfl, if_pos (by omega)]
        · rw [if_neg e1]
          by_cases e2 : ((i + 1 : Nat) : Int) ≤ j ∧ (j : Int) ≤ b
          · rw [if_pos e2, if_pos (by omega)]
          · rw [if_neg e2, if_neg (by omega)]
      rw [e]
      split <;> exact hr)
    rw [tab_set]
    simpa using this

/-- Prices: what 'read' is given. -/
def DP (rows : List Row) (cv : AV) (c : List Int) : Rd (Nat → Int) (Nat → Int) where
  R0 := rows ++ [.cells [cv]]
  E f := [.cells (nums .i64 (tab (c.length + 1) f)), .cells [.slice (rows.length + 1) 0 (c.length + 1) (.at_ (c.length + 1))]]
  eN := 2
  nb := c.length
  lo := rows.length
  own _ := []
  fid := 88
  cs := [.ptr (rows.length + 2) 0, .ptr rows.length 0]
  st := addP c
  P t s h := t = s ∧ rows.length + 2 ≤ h.length
  B _ _ := True
theorem DP_H (rows : List Row) (cv : AV) (c : List Int) (f : Nat → Int) (pv w : AV) (G : List Row) : (DP rows cv c).H f pv w G = rows ++ (.cells [cv] :: .cells (nums .i64 (tab (c.length + 1) f)) :: .cells [.slice (rows.length + 1) 0 (c.length + 1) (.at_ (c.length + 1))] :: ((DP rows cv c).Q pv w ++ G)) := by
  simp [Rd.H, DP]
theorem DP_ok {cv : AV} {c : List Int} (h : IsL rows cv c) (hn : c.length ≤ 12) : (DP rows cv c).OK := by
  refine ⟨fun _ _ _ _ _ _ => trivial, fun _ _ _ _ _ => trivial, hn, by simp [DP], ?_, ?_, ?_, ?_, ?_, ?_, ?_⟩
  · intro t s h i hP hi; simp [DP] at hi
  · intro s; rfl
  · intro t s h L hP; exact ⟨hP.1, by simp; exact Nat.le_trans hP.2 (by omega)⟩
  · intro t s pv pv' w G hP
    refine ⟨hP.1, ?_⟩
    have := hP.2
    rw [DP_H] at this ⊢
    simp [Rd.Q] at this ⊢
  · intro t s h b hP hb hu
    refine ⟨hP.1, ?_⟩
    have := hP.2
    simp [DP, Row.under, AV.under] at hu
    simp
    omega
  · intro t s h hP
    have := hP.2
    simp [DP, Row.under, AV.under]
    omega
  · intro t s pv w G g a b hP _ h0 ha hg hb
    obtain ⟨rfl, hlen⟩ := hP
    have hb' : b ≤ (c.length : Int) := hb
    obtain ⟨i, rfl⟩ : ∃ i : Nat, a = i := ⟨a.toNat, by omega⟩
    have hl := DP_H rows cv c t pv w G
    have hN : ∀ o s, row? (rows ++ (.cells [cv] :: o :: s :: ((DP rows cv c).Q pv w ++ G ++ [.cells [.int .i64 i, .int .i64 b]]))) ((DP rows cv c).H t pv w G).length = some [.int .i64 i, .int .i64 b] := by
      intro o s
      have e : rows ++ (.cells [cv] :: o :: s :: ((DP rows cv c).Q pv w ++ G ++ [.cells [.int .i64 i, .int .i64 b]])) = (rows ++ (.cells [cv] :: o :: s :: ((DP rows cv c).Q pv w ++ G))) ++ [.cells [.int .i64 i, .int .i64 b]] := by simp
      rw [e]
      exact rowA0 (by rw [hl]; simp)
    have hlt : rows.length + 1 < ((DP rows cv c).H t pv w G).length := by rw [hl]; simp [Rd.Q]
    have hloop := fun r hr => prices_in (r := r) (T := (DP rows cv c).Q pv w ++ G ++ [.cells [.int .i64 i, .int .i64 b]]) h hn (by omega : 0 ≤ g) (by omega) h0 hb' hN _ i t ((DP rows cv c).H t pv w G).length rfl (by omega) (by omega) hr
    have hfin : ∃ G', fin ((DP rows cv c).H t pv w G) (.tup []) ((DP rows cv c).H (addP c t g i b) pv w (G ++ [.cells [.int .i64 i, .int .i64 b]])) (rows.length + 1) = (.tup [], (DP rows cv c).H (addP c t g i b) pv w G', some (rows.length + 1)) ∧ ∃ L, G' = G ++ L := by
      rw [fin_lt (by omega)]
      rcases gc_cases ((DP rows cv c).H t pv w G).length (rows.length + 1) (.tup []) ((DP rows cv c).H (addP c t g i b) pv w (G ++ [.cells [.int .i64 i, .int .i64 b]])) with e | ⟨e, _⟩
      · exact ⟨_, by rw [e], _, rfl⟩
      · refine ⟨G, ?_, [], by simp⟩
        rw [e]
        have e2 : ((DP rows cv c).H (addP c t g i b) pv w (G ++ [.cells [.int .i64 i, .int .i64 b]])) = (DP rows cv c).H (addP c t g i b) pv w G ++ [.cells [.int .i64 i, .int .i64 b]] := by simp [Rd.H]
        rw [e2, List.take_append_of_le_length (by rw [hl, DP_H]; simp), List.take_of_length_le (by rw [hl, DP_H]; simp)]
    obtain ⟨G', hf, L, hL⟩ := hfin
    refine ⟨addP c t g i b, G', some (rows.length + 1), ?_, ⟨rfl, ?_⟩, ⟨?_, ?_, fun i hi => by simp [DP] at hi⟩, .inr ⟨_, rfl, by simp [DP], by simp [DP]⟩⟩
    · show Ret F 88 [.int .i64 g, pt i b, .ptr (rows.length + 2) 0, .ptr rows.length 0] _ = _
      refine i88 F88 ?_
      simp [seg]
      have := hloop (fun r => fin ((DP rows cv c).H t pv w G) r.1 r.2.1 r.2.2 = (.tup [], (DP rows cv c).H (addP c t g i b) pv w G', some (rows.length + 1))) (by
        rw [if_pos (by omega)]
        rw [← hf, DP_H rows cv c (addP c t g i b)]
        simp)
      rw [hl] at this ⊢
      simpa using this
    · rw [DP_H]; simp
    · rw [hL, hl, DP_H]; simp
    · intro j hj1 hj2 _
      rw [hL, hl, DP_H]
      rw [hl] at hj1
      have hA : (DP rows cv c).A = rows.length + 3 := by simp [Rd.A, DP]
      have e3 : ∀ o, ∀ L' : List Row, (rows ++ (.cells [cv] :: .cells o :: .cells [.slice (rows.length + 1) 0 (c.length + 1) (.at_ (c.length + 1))] :: L'))[j]? = L'[j - (rows.length + 3)]? := by
        intro o L'
        rw [List.getElem?_append_right (by omega), show j - rows.length = (j - (rows.length + 3)) + 3 from by omega]
        rfl
      rw [e3, e3, ← List.append_assoc, List.getElem?_append_left]
      simp at hj1 ⊢
      omega

/-- What prices comes to: none, if it is no plan. -/
def pricesF (c l : List Int) : Option (Nat → Int) :=
  match rdP (addP c) c.length 0 c.length l (fun _ => 0) with
  | (true, [], f) => some f
  | _ => none
set_option maxHeartbeats 2000000 in
/-- search.prices. -/
theorem prices_ret {cv pv : AV} {c l : List Int} (hc : IsL rows cv c) (hn : c.length ≤ 12) (hl : IsL rows pv l) (hp : Cp 1 pv) : Ret F 61 [cv, pv] rows = some (match pricesF c l with
    | some f => (.slice rows.length 0 (c.length + 1) (.at_ (c.length + 1)), rows ++ [.cells (nums .i64 (tab (c.length + 1) f))], none)
    | none => (.nilslice, rows, none)) := by
  have hR0 : (DP rows cv c).R0 = rows ++ [.cells [cv]] := rfl
  obtain ⟨s', G', d, hr, hP, hd⟩ := Rd.read_ret (DP_ok hc hn) (n := c.length) (Nat.le_refl _) (l := l) (t := fun _ => 0) (s := fun _ => 0) (pv := pv) (by rw [hR0]; exact IsL_app hl _) hp ⟨rfl, by simp [DP]⟩ trivial
  have hz : (DP rows cv c).R0 ++ (DP rows cv c).E (fun _ => 0) = rows ++ [.cells [cv], .cells (nums .i64 (tab (c.length + 1) fun _ => 0)), .cells [.slice (rows.length + 1) 0 (c.length + 1) (.at_ (c.length + 1))]] := by simp [DP]
  have hs : (DP rows cv c).R0 ++ (DP rows cv c).E s' ++ G' = rows ++ (.cells [cv] :: .cells (nums .i64 (tab (c.length + 1) s')) :: .cells [.slice (rows.length + 1) 0 (c.length + 1) (.at_ (c.length + 1))] :: G') := by simp [DP]
  rw [hz, hs] at hr
  have hs' := hP.1
  have hlow : lowO rows.length d = rows.length := by
    rcases hd with ⟨rfl, _⟩ | ⟨lw, rfl, h1, _⟩
    · rfl
    · exact lower_ge h1
  have e0 : tab (c.length + 1) (fun _ => 0) = List.replicate (c.length + 1) 0 := by simp [tab, List.map_const']
  rw [e0] at hr
  have hone := IsL_one hc
  have hcell := IsL_cells hc
  have wl : IntKind.i64.wrap ((c.length : Int) + 1) = c.length + 1 := wrap64 (by omega) (by omega)
  have hl1 : (c.length : Int) + 1 ≤ 1073741824 := by omega
  have hl0 : 0 ≤ (c.length : Int) + 1 := by omega
  have hwh : ∀ L, Ret F 60 [cv] (rows ++ L) = some (pt 0 c.length, rows ++ L, none) := fun L => whole_ret (IsL_app hc L)
  have hr' : Ret F 62 [pv, pt 0 c.length, .func 88 [.ptr (rows.length + 2) 0, .ptr rows.length 0]] (rows ++ [.cells [cv], .cells (nums .i64 (List.replicate (c.length + 1) 0)), .cells [.slice (rows.length + 1) 0 (c.length + 1) (.at_ (c.length + 1))]]) = _ := hr
  unfold pricesF
  refine i61 F61 ?_
  have hst : (DP rows cv c).st = addP c := rfl
  rw [hst] at hr' hs'
  generalize rdP (addP c) c.length 0 c.length l (fun _ => 0) = r1 at *
  obtain ⟨ok, l1, f⟩ := r1
  simp only at hs' hr' ⊢
  subst hs'
  cases ok with
  | false =>
    simp [-lowO, lowO_n, hone, hcell, lenL hc, wl, lim, hl1, hl0, nums_rep, hwh, hr', hlow]
  | true =>
    cases l1 with
    | nil =>
      simp [-lowO, lowO_n, hone, hcell, lenL hc, wl, lim, hl1, hl0, nums_rep, hwh, hr', hlow]
      exact fin_slice (k := 1) rfl nums_ids
    | cons x y =>
      simp [-lowO, lowO_n, hone, hcell, lenL hc, wl, lim, hl1, hl0, nums_rep, hwh, hr', hlow]

/-- search.Prices, of costs that are right. -/
theorem Prices_ret {cv pv : AV} {c l : List Int} (hc : IsL rows cv c) (hn : c.length ≤ 12) (hall : (c.all fun x => decide (1 ≤ x ∧ x ≤ 1000)) = true) (hl : IsL rows pv l) (hp : Cp 1 pv) : Ret F 29 [cv, pv] rows = some (match pricesF c l with
    | some f => (.tup [.slice rows.length 0 (c.length + 1) (.at_ (c.length + 1)), .int .i64 0], rows ++ [.cells (nums .i64 (tab (c.length + 1) f))], none)
    | none => (.tup [.nilslice, .int .i64 1], rows, none)) := by
  have h1 := Check_ret hc (by omega)
  rw [if_pos ⟨hn, hall⟩] at h1
  have h2 := prices_ret hc hn hl hp
  refine i29 F29 ?_
  cases e : pricesF c l with
  | none =>
    rw [e] at h2
    simp [h1, h2]
  | some f =>
    rw [e] at h2
    simp [h1, h2]
    exact fin_slice_int (k := 0) rfl nums_ids
/-- search.Prices, of costs that are none. -/
theorem Prices_bad {cv pv : AV} {c : List Int} (hc : IsL rows cv c) (hl : c.length < 4611686018427387904) (hbad : ¬ (c.length ≤ 12 ∧ (c.all fun x => decide (1 ≤ x ∧ x ≤ 1000)) = true)) : Ret F 29 [cv, pv] rows = some (.tup [.nilslice, .int .i64 80], rows, none) := by
  have h1 := Check_ret hc hl
  rw [if_neg hbad] at h1
  refine i29 F29 ?_
  simp [h1]
end
end Go.Abs
