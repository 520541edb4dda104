/- The texts that the row uses, part 6. -/
import Derived.Test.YtichbmhjgbjiiaaDoorBR5
import Derived.AtR
import Derived.Orders
import Derived.KernelRfl
import Derived.Laws.Cells
import Derived.Laws.CopyRow
import Derived.Laws.Append
import Derived.Laws.AppendOwn
import Derived.Laws.Entries
import Derived.ArgAppend
import Derived.ChangeKeysEq
import Derived.WideLaws
import Derived.Laws.Small
import Derived.Laws.StructEq
import Derived.Laws.Cover3
import Derived.Laws.Tables
import Derived.Laws.Rows
import Derived.Below
import Derived.Laws.IdiomCopy
import Derived.RangeFuncNested
import Derived.Test.YtichbmhjgbjiiaaDoorProg
import Derived.Test.YtichbmhjgbjiiaaDoorRows
import Derived.ProofKit
import Derived.LaidMore
import Derived.OpenShut
import Derived.Stop.Joined
import Derived.ChangeSlices
import Derived.SizedLaws
import Derived.SevenTiedAt
import Derived.WalkKit
import Derived.ShutString
import Derived.ChangeOld
import Derived.Carry
set_option linter.unusedVariables false
set_option linter.unusedSimpArgs false
namespace Go.Abs
section
variable {rows : List Row} {gn ev pv : AV} {fe fp : List Int} {m0 k0 N : Nat} {Z : Row} {r : AV × List Row × Nat → Prop}
variable {ks : List Nat} {f : Nat → Bool} {E : AV} {T : List Row}
theorem j_loop (hp0 : El rows 3 pv (nums .i64 fp) k0) (hk0 : k0 ≤ 9223372036854775807) (hN : 1 ≤ N ∧ N ≤ 6) (hks : ks.length ≤ 36)
    (hE : ∀ P (L : List Row), El (rows ++ tG gn ev pv :: Z :: .cells [.int .i64 N, E, P] :: .cells (bl f) :: (T ++ L)) 2 E (nums .i64 (eC ks)) ks.length) {i : Nat} (hi : i < N)
    (hk : ∀ (ps : List Nat) (H : List Row), H.all (Row.under 0) = true → PInv N ks ps ((i + 1) * 36) → Lc15l2 F (.fn [.cellN 2 3]) (.ptr rows.length 0) (.ptr (rows.length + 1) 0) (.ptr (rows.length + 2) 0) (.int .i64 ((i + 1 : Nat) : Int)) (pR rows gn ev pv Z N E f T ps H) rows.length r) :
    ∀ (d j : Nat) (ps : List Nat) (H : List Row), N - j = d → j ≤ N → i < j → H.all (Row.under 0) = true → PInv N ks ps (i * 36 + j * 6) →
    Lc15l4 F (.fn [.cellN 2 3]) (.ptr rows.length 0) (.ptr (rows.length + 1) 0) (.ptr (rows.length + 2) 0) (.int .i64 i) (.int .i64 j) (pR rows gn ev pv Z N E f T ps H) rows.length r := by
  intro d
  induction d with
  | zero =>
    intro j ps H hd h1 hij hH hP
    have hjN : j = N := by omega
    subst hjN
    have := hk ps H hH (hP.mono (by omega))
    have hw : IntKind.i64.wrap ((i : Int) + 1) = ((i + 1 : Nat) : Int) := by rw [wrap64 (by omega) (by omega)]; omega
    unfold Lc15l4
    simp [hw]
    simpa using this
  | succ d ih =>
    intro j ps H hd h1 hij hH hP
    have hjN : j < N := by omega
    have hw : IntKind.i64.wrap ((j : Int) + 1) = ((j + 1 : Nat) : Int) := by rw [wrap64 (by omega) (by omega)]; omega
    have := k_loop (r := r) hp0 hk0 hN hks hE hij hjN (fun ps H hH hP => ih (j + 1) ps H (by omega) (by omega) (by omega) hH hP) _ (j + 1) ps H rfl (by omega) (by omega) hH (hP.mono (by omega))
    unfold Lc15l4
    simp [hjN, hw]
    simpa using this
theorem i_loop (hp0 : El rows 3 pv (nums .i64 fp) k0) (hk0 : k0 ≤ 9223372036854775807) (hN : 1 ≤ N ∧ N ≤ 6) (hks : ks.length ≤ 36)
    (hE : ∀ P (L : List Row), El (rows ++ tG gn ev pv :: Z :: .cells [.int .i64 N, E, P] :: .cells (bl f) :: (T ++ L)) 2 E (nums .i64 (eC ks)) ks.length)
    (hk : ∀ (sl : List (Nat × AV)) (ps : List Nat) (H : List Row), H.all (Row.under 0) = true → PInv N ks ps 1000 → lk sl 2 = .ptr (rows.length + 1) 0 → lk sl 3 = .ptr (rows.length + 2) 0 → Ex F (.fn [.cellN 2 3]) [.code c15s1] ⟨mk 164 sl, pR rows gn ev pv Z N E f T ps H, rows.length⟩ r) :
    ∀ (d i : Nat) (ps : List Nat) (H : List Row), N - i = d → i ≤ N → H.all (Row.under 0) = true → PInv N ks ps (i * 36) →
    Lc15l2 F (.fn [.cellN 2 3]) (.ptr rows.length 0) (.ptr (rows.length + 1) 0) (.ptr (rows.length + 2) 0) (.int .i64 i) (pR rows gn ev pv Z N E f T ps H) rows.length r := by
  intro d
  induction d with
  | zero =>
    intro i ps H hd h1 hH hP
    have hiN : i = N := by omega
    subst hiN
    unfold Lc15l2
    simp [-uc15s1]
    refine hk _ ps H hH (hP.mono (by omega)) ?_ ?_ <;> simp
  | succ d ih =>
    intro i ps H hd h1 hH hP
    have hiN : i < N := by omega
    have hw : IntKind.i64.wrap ((i : Int) + 1) = ((i + 1 : Nat) : Int) := by rw [wrap64 (by omega) (by omega)]; omega
    have := j_loop (r := r) hp0 hk0 hN hks hE hiN (fun ps H hH hP => ih (i + 1) ps H (by omega) (by omega) hH hP) _ (i + 1) ps H rfl (by omega) (by omega) hH (hP.mono (by omega))
    unfold Lc15l2
    simp [hiN, hw]
    simpa using this
theorem fin_agg {l : List AV} {X : List Row} : fin rows (.agg l) (rows ++ X) rows.length = (.agg l, rows ++ X, none) ∨ (fin rows (.agg l) (rows ++ X) rows.length = (.agg l, rows, none) ∧ (AV.agg l).ids.all (· < rows.length) = true) := by
  unfold fin
  rw [if_pos rfl]
  split
  · rename_i h; exact .inr ⟨rfl, h⟩
  · rename_i hn
    left
    split
    · rename_i i e
      split
      · rw [if_neg]
        intro h
        simp only [Bool.and_eq_true] at h
        have h2 : (AV.agg l).plain = true := h.2
        have h3 : (AV.agg l).ids.isEmpty = true := h2
        rw [e] at h3
        simp at h3
      · rfl
    · rfl
theorem ids_accN {b sz n : Nat} {H : List Row} {cs : List AV} {x : Nat} (h : (accN b H sz cs n).ids.all (· < x) = true) (hx : x ≤ b) : cs = [] := by
  cases cs with
  | nil => rfl
  | cons y cs =>
    simp [accN, AV.ids] at h
    omega
@[simp] theorem one_nil : AV.nilslice.one = true := rfl
theorem pR_nil : pR rows gn ev pv Z N E f T [] [] = tR rows (tG gn ev pv) Z N E .nilslice f T := by
  simp [pA, pC, nums, accN]
set_option maxHeartbeats 8000000 in
/-- tame makes a ground. -/
theorem tame_ret {x : Int} (he : El rows 2 ev (nums .i64 fe) m0) (hm0 : m0 ≤ 9223372036854775807) (hp0 : El rows 3 pv (nums .i64 fp) k0) (hk0 : k0 ≤ 9223372036854775807) (hu : ev.under rows.length = true ∧ pv.under rows.length = true) :
    ∃ N ks ps g X, Ret F 15 [.agg [.int .i64 x, ev, pv]] rows = some (g, rows ++ X, none) ∧ Und rows X ∧ GRd (rows ++ X) g N ks ps := by
  obtain ⟨n, hn, hn6⟩ := umodI (x := x) (m := 6) (by omega) (by omega)
  let N := 1 + n
  have hN : 1 ≤ N ∧ N ≤ 6 := by simp only [N]; omega
  have wN : IntKind.i64.wrap (1 + (n : Int)) = (N : Int) := by rw [wrap64 (by omega) (by omega)]; simp [N]
  let Z : Row := .cells [.int .i64 0, .nilslice, .nilslice]
  -- what is left
  let Q : AV × List Row × Nat → Prop := fun r => ∃ ks ps g X, fin rows r.1 r.2.1 r.2.2 = (g, rows ++ X, none) ∧ Und rows X ∧ GRd (rows ++ X) g N ks ps
  have main : Ex F (.fn [.cellN 2 3]) [.code c15b] ⟨mk 164 [(0, .agg [.int .i64 x, ev, pv])], rows, rows.length⟩ Q := by
    have hml := mark_loop (rows := rows) (gn := .int .i64 x) (ev := ev) (pv := pv) (Z := Z) (r := Q) he hm0 hN (by
      intro sl f many hM s1 s2 s3 s4
      have hel := edge_loop (rows := rows) (Z := Z) (r := Q) (G := tG (.int .i64 x) ev pv) hM (by
        intro sl2 H hH t1 t2 t3
        have hlen := ksOf_len (f := f) (k := 36) (by omega)
        have hc := hM.c
        have hmm := hM.m
        have hcs : (eA f 36).length = (ksOf f 36).length * 2 := by rw [nums_len', eC_len]
        have hE : ∀ P (L : List Row), El (rows ++ tG (.int .i64 x) ev pv :: Z :: .cells [.int .i64 N, accN (rows.length + 4) H 2 (eA f 36) (ksOf f 36).length, P] :: .cells (bl f) :: (accR H (eA f 36) ++ L)) 2 (accN (rows.length + 4) H 2 (eA f 36) (ksOf f 36).length) (nums .i64 (eC (ksOf f 36))) (ksOf f 36).length := fun P L => by
          have := (acc_El (rows := rows ++ [tG (.int .i64 x) ev pv, Z, .cells [.int .i64 N, accN (rows.length + 4) H 2 (eA f 36) (ksOf f 36).length, P], .cells (bl f)]) (H := H) (cs := eA f 36) (n := (ksOf f 36).length) (sz := 2) hcs (by omega)).1
          have h2 : (rows ++ [tG (.int .i64 x) ev pv, Z, .cells [.int .i64 N, accN (rows.length + 4) H 2 (eA f 36) (ksOf f 36).length, P], .cells (bl f)]).length = rows.length + 4 := by simp
          rw [accV_N, h2] at this
          have h3 := El_app this L
          simpa using h3
        have hil := i_loop (rows := rows) (gn := .int .i64 x) (Z := Z) (f := f) (T := accR H (eA f 36)) (r := Q) hp0 hk0 hN (ks := ksOf f 36) (by omega) hE (by
          intro sl3 ps H2 hH2 hP u2 u3
          -- the result
          have hone : (accN (rows.length + 4) H 2 (eA f 36) (ksOf f 36).length).one = true := accN_one
          have hone2 : (accN (rows.length + 4 + (accR H (eA f 36)).length) H2 3 (pA ps) ps.length).one = true := accN_one
          have hH1 := acc_und (cs := eA f 36) hH nums_und
          have hH3 := acc_und (cs := pA ps) hH2 nums_und
          generalize hEE : accN (rows.length + 4) H 2 (eA f 36) (ksOf f 36).length = E at *
          generalize hPP : accN (rows.length + 4 + (accR H (eA f 36)).length) H2 3 (pA ps) ps.length = P at *
          have hGO : GOK N (ksOf f 36) ps := by
            refine ⟨hN.1, hN.2, by omega, ?_, fun k hk => ?_, hP.k, hP.s, fun p hp => (hP.e p hp).2⟩
            · exact List.Pairwise.filter _ List.pairwise_lt_range
            · have := (List.mem_filter.1 hk).2
              exact (hM.e k this).2
          let X : List Row := [tG (.int .i64 x) ev pv, .cells [.int .i64 N, E, P], .cells [.int .i64 N, E, P], .cells (bl f)] ++ (accR H (eA f 36) ++ accR H2 (pA ps))
          have hXl : rows.length + X.length = rows.length + 4 + (accR H (eA f 36)).length + (accR H2 (pA ps)).length := by simp [X]; omega
          have hPel : El (rows ++ X) 3 P (nums .i64 (pC ps)) ps.length ∧ Cp 3 P := by
            have := acc_El (rows := rows ++ [tG (.int .i64 x) ev pv, .cells [.int .i64 N, E, P], .cells [.int .i64 N, E, P], .cells (bl f)] ++ accR H (eA f 36)) (H := H2) (cs := pA ps) (n := ps.length) (sz := 3) (by rw [nums_len', pC_len]) (by omega)
            have h2 : (rows ++ [tG (.int .i64 x) ev pv, .cells [.int .i64 N, E, P], .cells [.int .i64 N, E, P], .cells (bl f)] ++ accR H (eA f 36)).length = rows.length + 4 + (accR H (eA f 36)).length := by simp; omega
            rw [accV_N, h2, hPP] at this
            refine ⟨?_, this.2⟩
            have h3 := this.1
            simpa [X] using h3
          have hEel : El (rows ++ X) 2 E (nums .i64 (eC (ksOf f 36))) (ksOf f 36).length ∧ Cp 2 E := by
            have := acc_El (rows := rows ++ [tG (.int .i64 x) ev pv, .cells [.int .i64 N, E, P], .cells [.int .i64 N, E, P], .cells (bl f)]) (H := H) (cs := eA f 36) (n := (ksOf f 36).length) (sz := 2) hcs (by omega)
            have h2 : (rows ++ [tG (.int .i64 x) ev pv, .cells [.int .i64 N, E, P], .cells [.int .i64 N, E, P], .cells (bl f)]).length = rows.length + 4 := by simp
            rw [accV_N, h2, hEE] at this
            refine ⟨?_, this.2⟩
            have h3 := El_app this.1 (accR H2 (pA ps))
            simpa [X] using h3
          have uE : E.under (rows.length + X.length) = true := by
            rcases El_cases hEel.1 with ⟨rfl, _⟩ | ⟨id, off, c, vs, rfl, hr, _⟩
            · rfl
            · have := row?_lt hr
              simp [AV.under, AV.ids]
              simpa using this
          have uP : P.under (rows.length + X.length) = true := by
            rcases El_cases hPel.1 with ⟨rfl, _⟩ | ⟨id, off, c, vs, rfl, hr, _⟩
            · rfl
            · have := row?_lt hr
              simp [AV.under, AV.ids]
              simpa using this
          have hUX : Und rows X := by
            intro y hy
            have und3 : ∀ a : AV, a.ids = [] → (Row.cells [a, E, P]).under (rows.length + X.length) = true := fun a ha => by
              simp [Row.under, uE, uP, AV.under, ha]
              exact ⟨by simpa [AV.under] using uE, by simpa [AV.under] using uP⟩
            simp only [X, List.mem_append, List.mem_cons, List.not_mem_nil, or_false] at hy
            rcases hy with (hy | hy | hy | hy) | hy | hy
            · subst hy
              have h1 := Sh.runder_mono (y := tG (.int .i64 x) ev pv) (show rows.length ≤ rows.length + X.length by omega) (by
                simp [Row.under, AV.under, AV.ids]
                exact ⟨by simpa [AV.under] using hu.1, by simpa [AV.under] using hu.2⟩)
              exact h1
            · subst hy; exact und3 _ rfl
            · subst hy; exact und3 _ rfl
            · subst hy
              refine und_mono (a := 0) ?_ (Nat.zero_le _)
              simp [Row.under, bl, AV.under, AV.ids]
            · exact und_mono (List.all_eq_true.1 hH1 y hy) (Nat.zero_le _)
            · exact und_mono (List.all_eq_true.1 hH3 y hy) (Nat.zero_le _)
          have hfin := fin_agg (rows := rows) (l := [.int .i64 N, E, P]) (X := X)
          simp [u2, u3, seg, splice, hone, hone2, hPP, Z, lower_ge']
          have hQ : Q (.agg [.int .i64 N, E, P], rows ++ X, rows.length) := by
            rcases hfin with h | ⟨h, hids⟩
            · exact ⟨_, _, _, X, h, hUX, hGO, E, P, rfl, hEel.1, hPel.1, hEel.2, hPel.2⟩
            · simp only [AV.ids, AV.ids.idsL, List.nil_append, List.all_append, Bool.and_eq_true, List.append_nil] at hids
              rw [← hEE] at hids
              rw [← hPP] at hids
              have c1 := ids_accN hids.1 (by omega)
              have c2 := ids_accN hids.2 (by omega)
              have k1 : ksOf f 36 = [] := by
                have := eC_len (ksOf f 36)
                rw [show eC (ksOf f 36) = [] by simpa [nums] using c1] at this
                exact List.eq_nil_of_length_eq_zero (by simp only [List.length_nil] at this; omega)
              have k2 : ps = [] := by
                have := pC_len ps
                rw [show pC ps = [] by simpa [pA, nums] using c2] at this
                exact List.eq_nil_of_length_eq_zero (by simp only [List.length_nil] at this; omega)
              have hE0 : E = .nilslice := by rw [← hEE, c1]; rfl
              have hP0 : P = .nilslice := by rw [← hPP, c2]; rfl
              subst hE0 hP0
              refine ⟨_, _, _, [], by rw [List.append_nil]; exact h, Und_nil, hGO, .nilslice, .nilslice, rfl, ?_, ?_, trivial, trivial⟩
              · rw [k1]; exact El_nil
              · rw [k2]; exact El_nil
          simpa [X] using hQ) _ 0 [] [] rfl (by omega) rfl ⟨List.Pairwise.nil, by simp, fun p hp => by simp at hp⟩
        rw [pR_nil] at hil
        simp [t1, t2, t3]
        simpa using hil) _ 0 [] rfl (by omega) rfl
      simp only [eA, ksOf, List.range_zero, List.filter_nil, eC, List.flatMap_nil, nums, List.map_nil, accN, accR_nil] at hel
      simp [s1, s2, s3, s4]
      simpa using hel) _ 0 (fun _ => false) 0 rfl (by omega) ⟨fun k hk => by simp at hk, by simp [cnt], by omega⟩
    have hone1 : ev.one = true ∧ pv.one = true := ⟨El_one he, El_one hp0⟩
    have hbl : List.replicate 36 (AV.bool false) = bl fun _ => false := by rfl
    have hb2 : (∀ x, x ∈ (bl fun _ => false) → x.one = true) = True := eq_true fun x hx => by
      obtain ⟨k, _, rfl⟩ := List.mem_map.1 hx
      rfl
    simp [AV.cells, hone1.1, hone1.2, seg, splice, fillA, hn, wN, hbl, hb2, lower_ge', Nat.add_assoc]
    simpa [Z] using hml
  obtain ⟨n1, q, e, ks, ps, g, X, h1, h2, h3⟩ := main
  exact ⟨N, ks, ps, g, X, i15 F15 ⟨n1, q, e, h1⟩, h2, h3⟩
end
end Go.Abs

set_option linter.unusedVariables false
set_option linter.unusedSimpArgs false
namespace Go.Abs
section
variable {rows : List Row} {N : Nat} {ks ps : List Nat}
theorem nil_or {l : List AV} : l = [] ∨ ∃ x m, l = x :: m := by cases l <;> simp
theorem El_under {sz n : Nat} {v : AV} {cs : List AV} (h : El rows sz v cs n) : v.under rows.length = true := by
  rcases El_cases h with ⟨rfl, _⟩ | ⟨id, off, c, vs, rfl, hr, _⟩
  · rfl
  · have := row?_lt hr
    simpa [AV.under, AV.ids] using this
theorem tb5 : Nat.testBit 508 5 = true := by decide
theorem drop_mapL {β : Type} {f : Row → β} {M : List β} {k : Nat} : List.drop (rows.length + k) (rows.map f ++ M) = M.drop k := by
  have := List.drop_length_add_append (l₁ := rows.map f) (l₂ := M) (i := k)
  simpa using this
set_option maxHeartbeats 8000000 in
/-- given copies a ground. -/
theorem given_ret {g : AV} (h : GRd rows g N ks ps) : ∃ g' X, Ret F 17 [g] rows = some (g', rows ++ X, none) ∧ Und rows X ∧ GRd (rows ++ X) g' N ks ps := by
  obtain ⟨ev, pv, rfl, he, hp, ce, cp⟩ := h.eq
  have hok := h.ok
  have hks := hok.ek
  have hps := hok.pk
  have one1 := El_one he
  have one2 := El_one hp
  let G : Row := .cells [.int .i64 N, ev, pv]
  have uG : ∀ b, rows.length ≤ b → G.under b = true := fun b hb => und_mono (a := rows.length) (by
    have u1 := El_under he
    have u2 := El_under hp
    simp [G, Row.under, AV.under, AV.ids]
    exact ⟨by simpa [AV.under] using u1, by simpa [AV.under] using u2⟩) hb
  have ecl : (nums .i64 (eC ks)).length = ks.length * 2 := by rw [nums_len', eC_len]
  have pcl : (nums .i64 (pC ps)).length = ps.length * 3 := by rw [nums_len', pC_len]
  -- the result, by its parts
  have fin0 : ∀ (E P : AV) (T : List Row), El (rows ++ (G :: .cells [.int .i64 N, E, P] :: T)) 2 E (nums .i64 (eC ks)) ks.length → El (rows ++ (G :: .cells [.int .i64 N, E, P] :: T)) 3 P (nums .i64 (pC ps)) ps.length → Cp 2 E → Cp 3 P → T.all (Row.under 0) = true →
      ((∃ x, E.ids = [x] ∧ rows.length ≤ x) ∨ E = .nilslice) → ((∃ x, P.ids = [x] ∧ rows.length ≤ x) ∨ P = .nilslice) →
      ∃ g' X, fin rows (.agg [.int .i64 N, E, P]) (rows ++ (G :: .cells [.int .i64 N, E, P] :: T)) rows.length = (g', rows ++ X, none) ∧ Und rows X ∧ GRd (rows ++ X) g' N ks ps := by
    intro E P T hE hP cE cP hT iE iP
    have uE := El_under hE
    have uP := El_under hP
    have hU : Und rows (G :: .cells [.int .i64 N, E, P] :: T) := by
      intro y hy
      simp only [List.mem_cons] at hy
      rcases hy with hy | hy | hy
      · subst hy; exact uG _ (by omega)
      · subst hy
        simp only [List.length_append] at uE uP
        simp [Row.under, AV.under, AV.ids]
        exact ⟨by simpa [AV.under] using uE, by simpa [AV.under] using uP⟩
      · exact und_mono (List.all_eq_true.1 hT y hy) (Nat.zero_le _)
    rcases fin_agg (rows := rows) (l := [.int .i64 N, E, P]) (X := G :: .cells [.int .i64 N, E, P] :: T) with hf | ⟨hf, hids⟩
    · exact ⟨_, _, hf, hU, hok, E, P, rfl, hE, hP, cE, cP⟩
    · simp only [AV.ids, AV.ids.idsL, List.nil_append, List.all_append, Bool.and_eq_true, List.append_nil] at hids
      have k1 : E = .nilslice := by
        rcases iE with ⟨x, e, hx⟩ | e
        · rw [e] at hids; simp at hids; omega
        · exact e
      have k2 : P = .nilslice := by
        rcases iP with ⟨x, e, hx⟩ | e
        · rw [e] at hids; simp at hids; omega
        · exact e
      subst k1 k2
      have h1 := hE
      have h2 := hP
      rcases El_cases h1 with ⟨_, c1, n1⟩ | ⟨_, _, _, _, e, _⟩
      · rcases El_cases h2 with ⟨_, c2, n2⟩ | ⟨_, _, _, _, e, _⟩
        · refine ⟨_, [], by rw [List.append_nil]; exact hf, Und_nil, hok, .nilslice, .nilslice, rfl, ?_, ?_, trivial, trivial⟩
          · rw [c1, n1]; exact El_nil
          · rw [c2, n2]; exact El_nil
        · simp at e
      · simp at e
  have hc1 : ∀ L, evE (rows ++ L) (rows ++ L).length (.app 2 16 (.c .nilslice) (.c ev)) = some (accV (rows ++ L) [] 2 (nums .i64 (eC ks)) ks.length, rows ++ L ++ accR [] (nums .i64 (eC ks)), (rows ++ L).length) := fun L => app_copy (El_app he L) (by omega) (by omega)
  have hc2 : ∀ L low, evE (rows ++ L) low (.app 3 24 (.c .nilslice) (.c pv)) = some (accV (rows ++ L) [] 3 (nums .i64 (pC ps)) ps.length, rows ++ L ++ accR [] (nums .i64 (pC ps)), low) := fun L low => app_copy (El_app hp L) (by omega) (by omega)
  let Z : Row := .cells [.int .i64 0, .nilslice, .nilslice]
  have c1 := hc1 [G, Z]
  have und0 : ∀ {x : AV} {m : List AV} {l : List Int}, nums .i64 l = x :: m → (Row.cells (x :: m)).under 0 = true := fun e => by rw [← e]; exact nums_und
  let Q : AV × List Row × Nat → Prop := fun r => ∃ g' X, fin rows r.1 r.2.1 r.2.2 = (g', rows ++ X, none) ∧ Und rows X ∧ GRd (rows ++ X) g' N ks ps
  have main : Ex F (.fn [.cellN 2 3]) [.code c17b] ⟨mk 16 [(0, .agg [.int .i64 N, ev, pv])], rows, rows.length⟩ Q := by
    rcases nil_or (l := nums .i64 (eC ks)) with h1 | ⟨x, m, h1⟩
    · rcases nil_or (l := nums .i64 (pC ps)) with h2 | ⟨y, m2, h2⟩
      · have c2 := hc2 [G, Z] (rows ++ [G, Z]).length
        have f := fin0 .nilslice .nilslice [] (by
          have : ks.length = 0 := by rw [h1] at ecl; simp at ecl; omega
          rw [h1, this]; exact El_nil) (by
          have : ps.length = 0 := by rw [h2] at pcl; simp at pcl; omega
          rw [h2, this]; exact El_nil) trivial trivial rfl (.inr rfl) (.inr rfl)
        rw [h1] at c1
        rw [h2] at c2
        simp [G, Z] at c1 c2
        simp [AV.cells, one1, one2, maskE, c1, c2, seg, splice, fillA, lower_ge', drop_mapL, Nat.add_assoc, tb5]
        exact f
      · have c2 := hc2 [G, Z] (rows ++ [G, Z]).length
        have hP := acc_El (rows := rows ++ [G, .cells [.int .i64 N, .nilslice, .slice (rows.length + 2) 0 ps.length (.op 3)]]) (H := []) (cs := nums .i64 (pC ps)) (n := ps.length) (sz := 3) pcl (by omega)
        rw [h2] at hP
        have f := fin0 .nilslice (.slice (rows.length + 2) 0 ps.length (.op 3)) [.cells (y :: m2)] (by
          have : ks.length = 0 := by rw [h1] at ecl; simp at ecl; omega
          rw [h1, this]; exact El_nil) (by rw [h2]; simpa using hP.1) trivial (by simpa using hP.2) (by simp [und0 h2]) (.inr rfl) (.inl ⟨_, rfl, by omega⟩)
        rw [h1] at c1
        rw [h2] at c2
        simp [G, Z] at c1 c2
        simp [AV.cells, one1, one2, maskE, c1, c2, seg, splice, fillA, lower_ge', drop_mapL, Nat.add_assoc, tb5]
        exact f
    · rcases nil_or (l := nums .i64 (pC ps)) with h2 | ⟨y, m2, h2⟩
      · have c2 := hc2 [G, Z, .cells (x :: m)] (rows ++ [G, Z, .cells (x :: m)]).length
        have c2d := hc2 [G, Z, .dead] (rows ++ [G, Z, .dead]).length
        have hE := acc_El (rows := rows ++ [G, .cells [.int .i64 N, .slice (rows.length + 2) 0 ks.length (.op 2), .nilslice]]) (H := []) (cs := nums .i64 (eC ks)) (n := ks.length) (sz := 2) ecl (by omega)
        rw [h1] at hE
        have f := fin0 (.slice (rows.length + 2) 0 ks.length (.op 2)) .nilslice [.cells (x :: m)] (by rw [h1]; simpa using hE.1) (by
          have : ps.length = 0 := by rw [h2] at pcl; simp at pcl; omega
          rw [h2, this]; exact El_nil) (by simpa using hE.2) trivial (by simp [und0 h1]) (.inl ⟨_, rfl, by omega⟩) (.inr rfl)
        rw [h1] at c1
        rw [h2] at c2 c2d
        simp [G, Z] at c1 c2 c2d
        simp [AV.cells, one1, one2, maskE, c1, c2, c2d, seg, splice, fillA, lower_ge', drop_mapL, Nat.add_assoc, tb5]
        exact f
      · have c2 := hc2 [G, Z, .cells (x :: m)] (rows ++ [G, Z, .cells (x :: m)]).length
        have c2d := hc2 [G, Z, .dead] (rows ++ [G, Z, .dead]).length
        have hE := acc_El (rows := rows ++ [G, .cells [.int .i64 N, .slice (rows.length + 2) 0 ks.length (.op 2), .slice (rows.length + 3) 0 ps.length (.op 3)]]) (H := []) (cs := nums .i64 (eC ks)) (n := ks.length) (sz := 2) ecl (by omega)
        have hP := acc_El (rows := rows ++ [G, .cells [.int .i64 N, .slice (rows.length + 2) 0 ks.length (.op 2), .slice (rows.length + 3) 0 ps.length (.op 3)], .cells (x :: m)]) (H := []) (cs := nums .i64 (pC ps)) (n := ps.length) (sz := 3) pcl (by omega)
        rw [h1] at hE
        rw [h2] at hP
        have hE1 := El_app hE.1 [.cells (y :: m2)]
        have f := fin0 (.slice (rows.length + 2) 0 ks.length (.op 2)) (.slice (rows.length + 3) 0 ps.length (.op 3)) [.cells (x :: m), .cells (y :: m2)] (by rw [h1]; simpa using hE1) (by rw [h2]; simpa using hP.1) (by simpa using hE.2) (by simpa using hP.2) (by simp [und0 h1, und0 h2]) (.inl ⟨_, rfl, by omega⟩) (.inl ⟨_, rfl, by omega⟩)
        rw [h1] at c1
        rw [h2] at c2 c2d
        simp [G, Z] at c1 c2 c2d
        simp [AV.cells, one1, one2, maskE, c1, c2, c2d, seg, splice, fillA, lower_ge', drop_mapL, Nat.add_assoc, tb5]
        exact f
  obtain ⟨n1, q, e, g', X, h1, h2, h3⟩ := main
  exact ⟨g', X, i17 F17 ⟨n1, q, e, h1⟩, h2, h3⟩
end
end Go.Abs

set_option linter.unusedVariables false
set_option linter.unusedSimpArgs false
namespace Go.Abs
/-- Is the edge right? -/
def eok (N : Int) (fl : List Int) (i : Nat) : Bool := decide (0 ≤ gI fl (i * 2) ∧ gI fl (i * 2) < gI fl (i * 2 + 1) ∧ gI fl (i * 2 + 1) < N ∧ (0 < i → cmpL [gI fl ((i - 1) * 2), gI fl ((i - 1) * 2 + 1)] [gI fl (i * 2), gI fl (i * 2 + 1)] < 0))
def eAll (N : Int) (fl : List Int) : Nat → Nat → Bool
  | 0, _ => true
  | d + 1, i => eok N fl i && eAll N fl d (i + 1)
/-- Is the plate right? -/
def pok (fe fl : List Int) (m i : Nat) : Bool := decide (gI fl (i * 3) < gI fl (i * 3 + 1) ∧ gI fl (i * 3 + 1) < gI fl (i * 3 + 2) ∧ (0 < i → cmpL [gI fl ((i - 1) * 3), gI fl ((i - 1) * 3 + 1), gI fl ((i - 1) * 3 + 2)] [gI fl (i * 3), gI fl (i * 3 + 1), gI fl (i * 3 + 2)] < 0) ∧
  0 ≤ pix fe (gI fl (i * 3)) (gI fl (i * 3 + 1)) m 0 ∧ 0 ≤ pix fe (gI fl (i * 3)) (gI fl (i * 3 + 2)) m 0 ∧ 0 ≤ pix fe (gI fl (i * 3 + 1)) (gI fl (i * 3 + 2)) m 0)
def pAll (fe fl : List Int) (m : Nat) : Nat → Nat → Bool
  | 0, _ => true
  | d + 1, i => pok fe fl m i && pAll fe fl m d (i + 1)
def gndB (N : Int) (fe : List Int) (m : Nat) (fp : List Int) (k : Nat) : Bool := decide (1 ≤ N ∧ N ≤ 6 ∧ m ≤ 10 ∧ k ≤ 6) && (eAll N fe m 0 && pAll fe fp m k 0)
section
variable {rows : List Row} {N : Int} {ev pv : AV} {fe fp : List Int} {m k : Nat} {r : AV × List Row × Nat → Prop}
abbrev cR (rows : List Row) (N : Int) (ev pv : AV) (H : List Row) : List Row := rows ++ .cells [.int .i64 N, ev, pv] :: H
/-- The answer. -/
abbrev cQ0 (rows : List Row) (b : Bool) : AV × List Row × Nat → Prop := fun r => fin rows r.1 r.2.1 r.2.2 = (.int .i64 (if b then 0 else 30), rows, none)
@[simp] theorem cQ0_t {R : List Row} : cQ0 rows true (.int .i64 0, R, rows.length) ↔ True := by simp [cQ0]
@[simp] theorem cQ0_f {R : List Row} : cQ0 rows false (.int .i64 30, R, rows.length) ↔ True := by simp [cQ0]
set_option maxHeartbeats 16000000 in
theorem three_loop (he : El rows 2 ev (nums .i64 fe) m) (hm : m ≤ 1000000) {a0 a1 a2 : Int} {H : List Row} {n : Nat} {B : Bool}
    (hbad : ¬ (0 ≤ pix fe a0 a1 m 0 ∧ 0 ≤ pix fe a0 a2 m 0 ∧ 0 ≤ pix fe a1 a2 m 0) → B = false)
    {pt : Nat} (ht : row? (cR rows N ev pv H) pt = some (nums .i64 [a0, a1, a0, a2, a1, a2]))
    (hk : (0 ≤ pix fe a0 a1 m 0 ∧ 0 ≤ pix fe a0 a2 m 0 ∧ 0 ≤ pix fe a1 a2 m 0) → ∀ H', Lc59l2 F (.fn [.t 2]) (.ptr rows.length 0) pv (.int .i64 k) (.int .i64 ((n + 1 : Nat) : Int)) (cR rows N ev pv H') rows.length (cQ0 rows B)) (hn : n ≤ 1000000) :
    Lc59l4 F (.fn [.t 2]) (.ptr rows.length 0) pv (.int .i64 k) (.int .i64 n) (.slice pt 0 3 (.at_ 3)) (.int .i64 3) (.int .i64 0) (cR rows N ev pv H) rows.length (cQ0 rows B) := by
  have hw : IntKind.i64.wrap ((n : Int) + 1) = ((n + 1 : Nat) : Int) := by rw [wrap64 (by omega) (by omega)]; omega
  have hT : ∀ L, row? (cR rows N ev pv (H ++ L)) pt = some (nums .i64 [a0, a1, a0, a2, a1, a2]) := fun L => by
    have := row?_old (L := L) ht
    simpa using this
  -- one of the three
  have one : ∀ (i : Nat) (x y : Int), i < 3 → gI [a0, a1, a0, a2, a1, a2] (i * 2) = x → gI [a0, a1, a0, a2, a1, a2] (i * 2 + 1) = y → ∀ L : List Row,
      (0 ≤ pix fe x y m 0 → Lc59l4 F (.fn [.t 2]) (.ptr rows.length 0) pv (.int .i64 k) (.int .i64 n) (.slice pt 0 3 (.at_ 3)) (.int .i64 3) (.int .i64 ((i + 1 : Nat) : Int)) (cR rows N ev pv (H ++ (L ++ [.cells [.int .i64 x, .int .i64 y]]))) rows.length (cQ0 rows B)) → (¬ 0 ≤ pix fe x y m 0 → B = false) →
      Lc59l4 F (.fn [.t 2]) (.ptr rows.length 0) pv (.int .i64 k) (.int .i64 n) (.slice pt 0 3 (.at_ 3)) (.int .i64 3) (.int .i64 i) (cR rows N ev pv (H ++ L)) rows.length (cQ0 rows B) := by
    intro i x y hi hx hy L h1 h2
    have hTL := hT L
    have htk : List.take 2 (List.drop (i * 2) (nums .i64 [a0, a1, a0, a2, a1, a2])) = [.int .i64 x, .int .i64 y] := by
      rw [← hx, ← hy]
      match i, hi with
      | 0, _ => rfl
      | 1, _ => rfl
      | 2, _ => rfl
    have hTn : (nums .i64 [a0, a1, a0, a2, a1, a2]).length = 6 := rfl
    generalize nums .i64 [a0, a1, a0, a2, a1, a2] = TT at hTL htk hTn
    have hE := Contains2_ret (El_app he (.cells [.int .i64 N, ev, pv] :: (H ++ (L ++ [.cells [.int .i64 x, .int .i64 y]])))) hm (a := x) (b := y)
    have hwi : IntKind.i64.wrap ((i : Int) + 1) = ((i + 1 : Nat) : Int) := by rw [wrap64 (by omega) (by omega)]; omega
    have hb : i * 2 + 2 ≤ 6 := by omega
    by_cases hc : 0 ≤ pix fe x y m 0
    · have h1 := h1 hc
      unfold Lc59l4
      simp [hi, show ((i : Int) < 3) by omega, hTL, htk, hTn, hb, seg, splice, hE, hc, hwi, lower_ge']
      simpa using h1
    · have h2 := h2 hc
      unfold Lc59l4
      simp [hi, show ((i : Int) < 3) by omega, hTL, htk, hTn, hb, seg, splice, hE, hc, hwi, lower_ge', h2]
  have fin3 : (0 ≤ pix fe a0 a1 m 0 ∧ 0 ≤ pix fe a0 a2 m 0 ∧ 0 ≤ pix fe a1 a2 m 0) → ∀ L : List Row, Lc59l4 F (.fn [.t 2]) (.ptr rows.length 0) pv (.int .i64 k) (.int .i64 n) (.slice pt 0 3 (.at_ 3)) (.int .i64 3) (.int .i64 ((2 + 1 : Nat) : Int)) (cR rows N ev pv (H ++ L)) rows.length (cQ0 rows B) := by
    intro h L
    have := hk h (H ++ L)
    unfold Lc59l4
    simp [hw]
    simpa using this
  have := one 0 a0 a1 (by omega) rfl rfl [] (fun c1 => one 1 a0 a2 (by omega) rfl rfl _ (fun c2 => one 2 a1 a2 (by omega) rfl rfl _ (fun c3 => fin3 ⟨c1, c2, c3⟩ _) (fun h => hbad fun hh => h hh.2.2)) (fun h => hbad fun hh => h hh.2.1)) (fun h => hbad fun hh => h hh.1)
  simpa using this

set_option maxHeartbeats 16000000 in
theorem plate_loop (he : El rows 2 ev (nums .i64 fe) m) (hm : m ≤ 1000000) (hp : El rows 3 pv (nums .i64 fp) k) (hk : k ≤ 1000000) : ∀ (d i : Nat) (H : List Row), k - i = d → i ≤ k →
    Lc59l2 F (.fn [.t 2]) (.ptr rows.length 0) pv (.int .i64 k) (.int .i64 i) (cR rows N ev pv H) rows.length (cQ0 rows (pAll fe fp m d i)) := by
  intro d
  induction d with
  | zero =>
    intro i H hd h1
    have hi : i = k := by omega
    subst hi
    unfold Lc59l2
    simp [pAll]
  | succ d ih =>
    intro i H hd h1
    have hi : i < k := by omega
    have hw : IntKind.i64.wrap ((i : Int) + 1) = ((i + 1 : Nat) : Int) := by rw [wrap64 (by omega) (by omega)]; omega
    have hl := El_num_len hp
    have hp' := El_app hp (.cells [.int .i64 N, ev, pv] :: H)
    have e1 := idxW hp' hi
    have e2 := ldW3 hp' hi
    simp only [pAll]
    -- the three edges
    have three : ∀ (x6 : AV) (H2 : List Row), row? (cR rows N ev pv (H ++ H2)) (rows.length + (H.length + 1)) = some [.int .i64 (gI fp (i * 3)), .int .i64 (gI fp (i * 3 + 1)), .int .i64 (gI fp (i * 3 + 2))] →
        ∀ (B : Bool), (¬ (0 ≤ pix fe (gI fp (i * 3)) (gI fp (i * 3 + 1)) m 0 ∧ 0 ≤ pix fe (gI fp (i * 3)) (gI fp (i * 3 + 2)) m 0 ∧ 0 ≤ pix fe (gI fp (i * 3 + 1)) (gI fp (i * 3 + 2)) m 0) → B = false) →
        ((0 ≤ pix fe (gI fp (i * 3)) (gI fp (i * 3 + 1)) m 0 ∧ 0 ≤ pix fe (gI fp (i * 3)) (gI fp (i * 3 + 2)) m 0 ∧ 0 ≤ pix fe (gI fp (i * 3 + 1)) (gI fp (i * 3 + 2)) m 0) → B = pAll fe fp m d (i + 1)) →
        Jc59s16 F (.fn [.t 2]) (.ptr rows.length 0) (.ptr (rows.length + (H.length + 1)) 0) pv (.int .i64 k) (.int .i64 i) (cR rows N ev pv (H ++ H2)) rows.length (cQ0 rows B) := by
      intro x6 H2 hr B hB1 hB2
      have hlr := row?_lt hr
      have t3 := three_loop (rows := rows) (N := N) (ev := ev) (pv := pv) (fe := fe) (m := m) (k := k) he hm (a0 := gI fp (i * 3)) (a1 := gI fp (i * 3 + 1)) (a2 := gI fp (i * 3 + 2)) (H := H ++ (H2 ++ [.cells (nums .i64 [gI fp (i * 3), gI fp (i * 3 + 1), gI fp (i * 3), gI fp (i * 3 + 2), gI fp (i * 3 + 1), gI fp (i * 3 + 2)])])) (n := i) (B := B) hB1 (pt := (cR rows N ev pv (H ++ H2)).length) (by
        have : cR rows N ev pv (H ++ (H2 ++ [.cells (nums .i64 [gI fp (i * 3), gI fp (i * 3 + 1), gI fp (i * 3), gI fp (i * 3 + 2), gI fp (i * 3 + 1), gI fp (i * 3 + 2)])])) = cR rows N ev pv (H ++ H2) ++ [.cells (nums .i64 [gI fp (i * 3), gI fp (i * 3 + 1), gI fp (i * 3), gI fp (i * 3 + 2), gI fp (i * 3 + 1), gI fp (i * 3 + 2)])] := by simp
        rw [this]
        unfold row?
        simp) (fun h H' => by
        rw [hB2 h]
        exact ih (i + 1) H' (by omega) (by omega)) (by omega)
      have x0 : idx? 0 3 = some 0 := rfl
      have x1 : idx? 1 3 = some 1 := rfl
      have x2 : idx? 2 3 = some 2 := rfl
      unfold Jc59s16
      simp [x0, x1, x2, hr, fillA, splice]
      simpa [nums] using t3
    have x0 : idx? 0 3 = some 0 := rfl
    have x1 : idx? 1 3 = some 1 := rfl
    have x2 : idx? 2 3 = some 2 := rfl
    by_cases c1 : gI fp (i * 3) < gI fp (i * 3 + 1)
    · by_cases c2 : gI fp (i * 3 + 1) < gI fp (i * 3 + 2)
      · by_cases c3 : 0 < i
        · have hwm : IntKind.i64.wrap ((i : Int) - 1) = ((i - 1 : Nat) : Int) := by rw [wrap64 (by omega) (by omega)]; omega
          have hR : row? (cR rows N ev pv (H ++ [.cells [.int .i64 (gI fp (i * 3)), .int .i64 (gI fp (i * 3 + 1)), .int .i64 (gI fp (i * 3 + 2))]])) (rows.length + (H.length + 1)) = some [.int .i64 (gI fp (i * 3)), .int .i64 (gI fp (i * 3 + 1)), .int .i64 (gI fp (i * 3 + 2))] := by
            unfold row?; simp
          have hp2 := El_app hp (.cells [.int .i64 N, ev, pv] :: (H ++ [.cells [.int .i64 (gI fp (i * 3)), .int .i64 (gI fp (i * 3 + 1)), .int .i64 (gI fp (i * 3 + 2))]]))
          have e3 := idxW hp2 (i := i - 1) (by omega)
          have hA := IsL_W hp2 (i := i - 1) (by omega) (c := .at_ 3)
          rw [take3 (by omega)] at hA
          have hB : IsL (cR rows N ev pv (H ++ [.cells [.int .i64 (gI fp (i * 3)), .int .i64 (gI fp (i * 3 + 1)), .int .i64 (gI fp (i * 3 + 2))]])) (.slice (rows.length + (H.length + 1)) 0 3 (.at_ 3)) [gI fp (i * 3), gI fp (i * 3 + 1), gI fp (i * 3 + 2)] := IsL_mk (n := 0) (off := 0) (c := .at_ 3) (l := [gI fp (i * 3), gI fp (i * 3 + 1), gI fp (i * 3 + 2)]) hR rfl
          have hC := Compare_ret hA hB (by simp) (by simp)
          generalize hcm : cmpL [gI fp ((i - 1) * 3), gI fp ((i - 1) * 3 + 1), gI fp ((i - 1) * 3 + 2)] [gI fp (i * 3), gI fp (i * 3 + 1), gI fp (i * 3 + 2)] = cm at hC
          by_cases c4 : cm < 0
          · have h3 := three .any [.cells [.int .i64 (gI fp (i * 3)), .int .i64 (gI fp (i * 3 + 1)), .int .i64 (gI fp (i * 3 + 2))]] hR (pok fe fp m i && pAll fe fp m d (i + 1)) (fun h => by
              have : pok fe fp m i = false := decide_eq_false (fun hh => h hh.2.2.2)
              rw [this]; rfl) (fun h => by
              have : pok fe fp m i = true := decide_eq_true ⟨c1, c2, fun _ => by rw [hcm]; exact c4, h⟩
              rw [this]; rfl)
            unfold Lc59l2
            simp [hi, e1, e2, e3, seg, splice, lower_ge', x0, x1, x2, c1, c2, c3, hwm, sliceAV, sliceV, bound?, hC, c4, show ¬ (gI fp (i * 3 + 1) ≤ gI fp (i * 3)) by omega, show ¬ (gI fp (i * 3 + 2) ≤ gI fp (i * 3 + 1)) by omega, show ¬ (0 ≤ cm) by omega, -uc59s16, jc59s16]
            simpa using h3
          · have hpk : pok fe fp m i = false := decide_eq_false (fun hh => by have := hh.2.2.1 c3; rw [hcm] at this; omega)
            unfold Lc59l2
            simp [hi, e1, e2, e3, seg, splice, lower_ge', x0, x1, x2, c1, c2, c3, hwm, sliceAV, sliceV, bound?, hC, hpk, show ¬ (gI fp (i * 3 + 1) ≤ gI fp (i * 3)) by omega, show ¬ (gI fp (i * 3 + 2) ≤ gI fp (i * 3 + 1)) by omega, show (0 ≤ cm) by omega]
        · have i0 : i = 0 := by omega
          have hR : row? (cR rows N ev pv (H ++ [.cells [.int .i64 (gI fp (i * 3)), .int .i64 (gI fp (i * 3 + 1)), .int .i64 (gI fp (i * 3 + 2))]])) (rows.length + (H.length + 1)) = some [.int .i64 (gI fp (i * 3)), .int .i64 (gI fp (i * 3 + 1)), .int .i64 (gI fp (i * 3 + 2))] := by
            unfold row?; simp
          have h3 := three .any [.cells [.int .i64 (gI fp (i * 3)), .int .i64 (gI fp (i * 3 + 1)), .int .i64 (gI fp (i * 3 + 2))]] hR (pok fe fp m i && pAll fe fp m d (i + 1)) (fun h => by
              have : pok fe fp m i = false := decide_eq_false (fun hh => h hh.2.2.2)
              rw [this]; rfl) (fun h => by
              have : pok fe fp m i = true := decide_eq_true ⟨c1, c2, fun h0 => absurd h0 c3, h⟩
              rw [this]; rfl)
          unfold Lc59l2
          simp [hi, e1, e2, seg, splice, lower_ge', x0, x1, x2, c1, c2, c3, show ¬ (gI fp (i * 3 + 1) ≤ gI fp (i * 3)) by omega, show ¬ (gI fp (i * 3 + 2) ≤ gI fp (i * 3 + 1)) by omega, -uc59s16, jc59s16]
          simpa using h3
      · have hpk : pok fe fp m i = false := decide_eq_false (fun hh => c2 hh.2.1)
        unfold Lc59l2
        simp [hi, e1, e2, seg, splice, lower_ge', x0, x1, x2, c1, hpk, show ¬ (gI fp (i * 3 + 1) ≤ gI fp (i * 3)) by omega, show (gI fp (i * 3 + 2) ≤ gI fp (i * 3 + 1)) by omega]
    · have hpk : pok fe fp m i = false := decide_eq_false (fun hh => c1 hh.1)
      unfold Lc59l2
      simp [hi, e1, e2, seg, splice, lower_ge', x0, x1, x2, hpk, show (gI fp (i * 3 + 1) ≤ gI fp (i * 3)) by omega]

set_option maxHeartbeats 16000000 in
theorem edges_loop (he : El rows 2 ev (nums .i64 fe) m) (hm : m ≤ 1000000) (hp : El rows 3 pv (nums .i64 fp) k) (hk : k ≤ 1000000) : ∀ (d i : Nat) (H : List Row), m - i = d → i ≤ m →
    Lc59l28 F (.fn [.t 2]) (.ptr rows.length 0) ev (.int .i64 m) (.int .i64 i) (cR rows N ev pv H) rows.length (cQ0 rows (eAll N fe d i && pAll fe fp m k 0)) := by
  intro d
  induction d with
  | zero =>
    intro i H hd h1
    have hi : i = m := by omega
    subst hi
    have := plate_loop (rows := rows) (N := N) he hm hp hk k 0 H (by omega) (by omega)
    have hp' := El_app hp (.cells [.int .i64 N, ev, pv] :: H)
    unfold Lc59l28
    simp [eAll, lenW hp']
    simpa using this
  | succ d ih =>
    intro i H hd h1
    have hi : i < m := by omega
    have hw : IntKind.i64.wrap ((i : Int) + 1) = ((i + 1 : Nat) : Int) := by rw [wrap64 (by omega) (by omega)]; omega
    have hl := El_num_len he
    have he' := El_app he (.cells [.int .i64 N, ev, pv] :: H)
    have e1 := idxW he' hi
    have e2 := ldW2 he' hi
    simp only [eAll]
    have x0 : idx? 0 2 = some 0 := rfl
    have x1 : idx? 1 2 = some 1 := rfl
    have next := ih (i + 1) (H ++ [.cells [.int .i64 (gI fe (i * 2)), .int .i64 (gI fe (i * 2 + 1))]]) (by omega) (by omega)
    by_cases c0 : 0 ≤ gI fe (i * 2)
    · by_cases c1 : gI fe (i * 2) < gI fe (i * 2 + 1)
      · by_cases c2 : gI fe (i * 2 + 1) < N
        · by_cases c3 : 0 < i
          · have hwm : IntKind.i64.wrap ((i : Int) - 1) = ((i - 1 : Nat) : Int) := by rw [wrap64 (by omega) (by omega)]; omega
            have hR : row? (cR rows N ev pv (H ++ [.cells [.int .i64 (gI fe (i * 2)), .int .i64 (gI fe (i * 2 + 1))]])) (rows.length + (H.length + 1)) = some [.int .i64 (gI fe (i * 2)), .int .i64 (gI fe (i * 2 + 1))] := by
              unfold row?; simp
            have he2 := El_app he (.cells [.int .i64 N, ev, pv] :: (H ++ [.cells [.int .i64 (gI fe (i * 2)), .int .i64 (gI fe (i * 2 + 1))]]))
            have e3 := idxW he2 (i := i - 1) (by omega)
            have hA := IsL_W he2 (i := i - 1) (by omega) (c := .at_ 2)
            rw [take2 (by omega)] at hA
            have hB : IsL (cR rows N ev pv (H ++ [.cells [.int .i64 (gI fe (i * 2)), .int .i64 (gI fe (i * 2 + 1))]])) (.slice (rows.length + (H.length + 1)) 0 2 (.at_ 2)) [gI fe (i * 2), gI fe (i * 2 + 1)] := IsL_mk (n := 0) (off := 0) (c := .at_ 2) (l := [gI fe (i * 2), gI fe (i * 2 + 1)]) hR rfl
            have hC := Compare_ret hA hB (by simp) (by simp)
            generalize hcm : cmpL [gI fe ((i - 1) * 2), gI fe ((i - 1) * 2 + 1)] [gI fe (i * 2), gI fe (i * 2 + 1)] = cm at hC
            by_cases c4 : cm < 0
            · have hek : eok N fe i = true := decide_eq_true ⟨c0, c1, c2, fun _ => by rw [hcm]; exact c4⟩
              unfold Lc59l28
              simp [hi, e1, e2, e3, seg, splice, lower_ge', x0, x1, c0, c1, c2, c3, hwm, sliceAV, sliceV, bound?, hC, c4, hek, hw, show ¬ (gI fe (i * 2) < 0) by omega, show ¬ (gI fe (i * 2 + 1) ≤ gI fe (i * 2)) by omega, show ¬ (N ≤ gI fe (i * 2 + 1)) by omega, show ¬ (0 ≤ cm) by omega]
              simpa using next
            · have hek : eok N fe i = false := decide_eq_false (fun hh => by have := hh.2.2.2 c3; rw [hcm] at this; omega)
              unfold Lc59l28
              simp [hi, e1, e2, e3, seg, splice, lower_ge', x0, x1, c0, c1, c2, c3, hwm, sliceAV, sliceV, bound?, hC, hek, show ¬ (gI fe (i * 2) < 0) by omega, show ¬ (gI fe (i * 2 + 1) ≤ gI fe (i * 2)) by omega, show ¬ (N ≤ gI fe (i * 2 + 1)) by omega, show (0 ≤ cm) by omega]
          · have hek : eok N fe i = true := decide_eq_true ⟨c0, c1, c2, fun h => absurd h c3⟩
            unfold Lc59l28
            simp [hi, e1, e2, seg, splice, lower_ge', x0, x1, c0, c1, c2, c3, hek, hw, show ¬ (gI fe (i * 2) < 0) by omega, show ¬ (gI fe (i * 2 + 1) ≤ gI fe (i * 2)) by omega, show ¬ (N ≤ gI fe (i * 2 + 1)) by omega]
            simpa using next
        · have hek : eok N fe i = false := decide_eq_false (fun hh => c2 hh.2.2.1)
          unfold Lc59l28
          simp [hi, e1, e2, seg, splice, lower_ge', x0, x1, hek, show ¬ (gI fe (i * 2) < 0) by omega, show ¬ (gI fe (i * 2 + 1) ≤ gI fe (i * 2)) by omega, show (N ≤ gI fe (i * 2 + 1)) by omega]
      · have hek : eok N fe i = false := decide_eq_false (fun hh => c1 hh.2.1)
        unfold Lc59l28
        simp [hi, e1, e2, seg, splice, lower_ge', x0, x1, hek, show ¬ (gI fe (i * 2) < 0) by omega, show (gI fe (i * 2 + 1) ≤ gI fe (i * 2)) by omega]
    · have hek : eok N fe i = false := decide_eq_false (fun hh => c0 hh.1)
      unfold Lc59l28
      simp [hi, e1, e2, seg, splice, lower_ge', x0, x1, hek, show (gI fe (i * 2) < 0) by omega]
set_option maxHeartbeats 16000000 in
/-- Check. -/
theorem Check_ret (he : El rows 2 ev (nums .i64 fe) m) (hm : m ≤ 1000000) (hp : El rows 3 pv (nums .i64 fp) k) (hk : k ≤ 1000000) : Ret F 59 [.agg [.int .i64 N, ev, pv]] rows = some (.int .i64 (if gndB N fe m fp k then 0 else 30), rows, none) := by
  have one1 := El_one he
  have one2 := El_one hp
  have he' := El_app he [.cells [.int .i64 N, ev, pv]]
  have hp' := El_app hp [.cells [.int .i64 N, ev, pv]]
  have hmain := edges_loop (rows := rows) (N := N) he hm hp hk m 0 [] (by omega) (by omega)
  refine i59 F59 ?_
  by_cases c1 : N < 1
  · have : gndB N fe m fp k = false := by unfold gndB; rw [decide_eq_false (by omega)]; rfl
    simp [AV.cells, one1, one2, c1, this]
  · by_cases c2 : 6 < N
    · have : gndB N fe m fp k = false := by unfold gndB; rw [decide_eq_false (by omega)]; rfl
      simp [AV.cells, one1, one2, c1, c2, this]
    · by_cases c3 : 10 < m
      · have : gndB N fe m fp k = false := by unfold gndB; rw [decide_eq_false (by omega)]; rfl
        simp [AV.cells, one1, one2, c1, c2, lenW he', show ((10 : Int) < m) by omega, this]
      · by_cases c4 : 6 < k
        · have : gndB N fe m fp k = false := by unfold gndB; rw [decide_eq_false (by omega)]; rfl
          simp [AV.cells, one1, one2, c1, c2, lenW he', lenW hp', show ¬ ((10 : Int) < m) by omega, show ((6 : Int) < k) by omega, this]
        · have : gndB N fe m fp k = (eAll N fe m 0 && pAll fe fp m k 0) := by unfold gndB; rw [decide_eq_true (by omega)]; rfl
          rw [this]
          generalize (eAll N fe m 0 && pAll fe fp m k 0) = bb at hmain ⊢
          simp [AV.cells, one1, one2, c1, c2, lenW he', lenW hp', show ¬ ((10 : Int) < m) by omega, show ¬ ((6 : Int) < k) by omega]
          exact hmain
end
theorem cmpL2_lt {a b c d : Int} (h : a < c ∨ (a = c ∧ b < d)) : cmpL [a, b] [c, d] < 0 := by
  simp only [cmpL]
  rcases h with h | ⟨rfl, h⟩
  · rw [if_pos h]; omega
  · rw [if_neg (by omega), if_neg (by omega), if_pos h]; omega
theorem cmpL3_lt {a b c d e f : Int} (h : a < d ∨ (a = d ∧ (b < e ∨ (b = e ∧ c < f)))) : cmpL [a, b, c] [d, e, f] < 0 := by
  simp only [cmpL]
  rcases h with h | ⟨rfl, h | ⟨rfl, h⟩⟩
  · rw [if_pos h]; omega
  · rw [if_neg (by omega), if_neg (by omega), if_pos h]; omega
  · rw [if_neg (by omega), if_neg (by omega), if_neg (by omega), if_neg (by omega), if_pos h]; omega
theorem gN_lt {l : List Nat} (h : l.Pairwise (· < ·)) {i j : Nat} (hij : i < j) (hj : j < l.length) : gN l i < gN l j := by
  rw [gN_eq (by omega), gN_eq hj]
  exact List.pairwise_iff_getElem.1 h i j (by omega) hj hij
theorem eAll_ok {N : Nat} {ks ps : List Nat} (h : GOK N ks ps) : ∀ d i, i + d = ks.length → eAll N (eC ks) d i = true
  | 0, _, _ => rfl
  | d + 1, i, hd => by
    have hi : i < ks.length := by omega
    obtain ⟨e1, e2⟩ := eC_a hi
    have hm := h.ee _ (gN_mem hi)
    have : eok N (eC ks) i = true := by
      refine decide_eq_true ⟨by omega, by omega, by omega, fun h0 => ?_⟩
      obtain ⟨e3, e4⟩ := eC_a (ks := ks) (i := i - 1) (by omega)
      have hlt := gN_lt h.es (i := i - 1) (j := i) (by omega) hi
      have hm' := h.ee _ (gN_mem (l := ks) (i := i - 1) (by omega))
      rw [e1, e2, e3, e4]
      apply cmpL2_lt
      omega
    rw [eAll, this, eAll_ok h d (i + 1) (by omega)]
    rfl
theorem pAll_ok {N : Nat} {ks ps : List Nat} (h : GOK N ks ps) : ∀ d i, i + d = ps.length → pAll (eC ks) (pC ps) ks.length d i = true
  | 0, _, _ => rfl
  | d + 1, i, hd => by
    have hi : i < ps.length := by omega
    obtain ⟨e1, e2, e3⟩ := pC_a hi
    have hm := h.pe _ (gN_mem hi)
    have : pok (eC ks) (pC ps) ks.length i = true := by
      refine decide_eq_true ⟨by omega, by omega, fun h0 => ?_, ?_, ?_, ?_⟩
      · obtain ⟨e4, e5, e6⟩ := pC_a (ps := ps) (i := i - 1) (by omega)
        have hlt := gN_lt h.psd (i := i - 1) (j := i) (by omega) hi
        have hm' := h.pe _ (gN_mem (l := ps) (i := i - 1) (by omega))
        rw [e1, e2, e3, e4, e5, e6]
        apply cmpL3_lt
        omega
      · rw [e1, e2]
        exact (pix_in (by omega)).2 hm.2.2.2.1
      · rw [e1, e3]
        exact (pix_in (by omega)).2 hm.2.2.2.2.1
      · rw [e2, e3]
        exact (pix_in (by omega)).2 hm.2.2.2.2.2
    rw [pAll, this, pAll_ok h d (i + 1) (by omega)]
    rfl
theorem gndB_ok {N : Nat} {ks ps : List Nat} (h : GOK N ks ps) : gndB N (eC ks) ks.length (pC ps) ps.length = true := by
  have h1 := h.n1
  have h2 := h.n6
  have h3 := h.ek
  have h4 := h.pk
  unfold gndB
  rw [decide_eq_true (by omega), eAll_ok h _ 0 (by omega), pAll_ok h _ 0 (by omega)]
  rfl
end Go.Abs

set_option linter.unusedVariables false
set_option linter.unusedSimpArgs false
namespace Go.Abs
section
variable {rows : List Row} {v : AV} {l : List Int}
def outB (x : Int) : Bool := decide (x < -100 ∨ 100 < x)
theorem out_ret {x : Int} : Ret F 94 [.int .i64 x] rows = some (.bool (outB x), rows, none) := by
  refine i94 F94 ?_
  unfold outB
  by_cases h : x < -100 <;> simp [h]
theorem IndexF_loop {fid : Nat} {cs : List AV} {p : Int → Bool} (h : IsL rows v l) (hl : l.length < 4611686018427387904) (hp : ∀ x ∈ l, Ret F fid (.int .i64 x :: cs) rows = some (.bool (p x), rows, none)) {q : AV × List Row × Option Nat} (hq : q = (.int .i64 (match l.findIdx? p with | some i => (i : Int) | none => -1), rows, none)) : ∀ (n i : Nat), l.length - i = n → i ≤ l.length → (∀ j, j < i → p (gI l j) = false) →
    Lc103l2 F (.fn [.t 4]) v (.func fid cs) (.int .i64 l.length) (.int .i64 i) rows rows.length (fun r => fin rows r.1 r.2.1 r.2.2 = q) := by
  intro n
  induction n with
  | zero =>
    intro i hn h1 hf
    have hi : i = l.length := by omega
    subst hi
    have hnone : l.findIdx? p = none := by
      rw [List.findIdx?_eq_none_iff]
      intro x hx
      obtain ⟨j, hj, rfl⟩ := List.mem_iff_getElem.1 hx
      have := hf j hj
      rwa [gI_eq hj] at this
    unfold Lc103l2
    simp [hq, hnone]
  | succ n ih =>
    intro i hn h1 hf
    have hi : i < l.length := by omega
    have hr := hp (gI l i) (gI_mem hi)
    unfold Lc103l2
    simp (disch := first | omega | (simp; done) | fail) [hi, idxL0 h, loadL0 h, hr]
    cases hpi : p (gI l i) with
    | true =>
      have hsome : l.findIdx? p = some i := by
        rw [List.findIdx?_eq_some_iff_getElem]
        refine ⟨hi, ?_, ?_⟩
        · rwa [gI_eq hi] at hpi
        · intro j hj
          have := hf j hj
          rw [gI_eq (by omega)] at this
          simpa using this
      simp [hq, hsome]
    | false =>
      simp (disch := first | omega | (simp; done) | fail) [wrap64]
      refine ih (i + 1) (by omega) (by omega) fun j hj => ?_
      by_cases e : j = i
      · subst e; exact hpi
      · exact hf j (by omega)
/-- slices.ContainsFunc. -/
theorem ContainsF_ret {fid : Nat} {cs : List AV} {p : Int → Bool} (h : IsL rows v l) (hl : l.length < 4611686018427387904) (hp : ∀ x ∈ l, Ret F fid (.int .i64 x :: cs) rows = some (.bool (p x), rows, none)) : Ret F 83 [v, .func fid cs] rows = some (.bool (l.any p), rows, none) := by
  have h103 : Ret F 103 [v, .func fid cs] rows = some (.int .i64 (match l.findIdx? p with | some i => (i : Int) | none => -1), rows, none) := by
    refine i103 F103 ?_
    simp [lenL0 h]
    exact IndexF_loop h hl hp rfl _ 0 rfl (by omega) (fun j hj => absurd hj (by omega))
  refine i83 F83 ?_
  simp [h103]
  cases e : l.findIdx? p with
  | none =>
    simp only
    rw [List.findIdx?_eq_none_iff] at e
    simp
    exact e
  | some i =>
    have hi := (List.findIdx?_eq_some_iff_getElem.1 e)
    obtain ⟨h1, h2, _⟩ := hi
    simp
    exact ⟨_, List.getElem_mem h1, h2⟩
/-- How many numbers. -/
theorem edges_ret {N : AV} {ev pv : AV} {cs : List AV} {m : Nat} (he : El rows 2 ev cs m) (h1 : N.one = true) (h2 : pv.one = true) : Ret F 67 [.agg [N, ev, pv]] rows = some (.int .i64 m, rows, none) := by
  have one1 := El_one he
  have he' := El_app he [.cells [N, ev, pv]]
  refine i67 F67 ?_
  simp [AV.cells, one1, h1, h2, lenW he']
/-- open's answer. -/
def opn (b : Bool) (n : Int) (l : List Int) : Int := if b = false then 30 else if (l.length : Int) = n ∧ l.any outB = false then 0 else 1
set_option maxHeartbeats 4000000 in
theorem open_ret {N n : Int} {ev pv g' : AV} {fe fp : List Int} {m k f : Nat} (he : El rows 2 ev (nums .i64 fe) m) (hm : m ≤ 1000000) (hp : El rows 3 pv (nums .i64 fp) k) (hk : k ≤ 1000000) (h : IsL rows v l) (hl : l.length ≤ 1000000)
    (hn : ∀ L, Ret F f [g'] (rows ++ L) = some (.int .i64 n, rows ++ L, none)) : Ret F 66 [.agg [.int .i64 N, ev, pv], v, .iface bd (.agg [.int .u64 f, g'])] rows = some (.int .i64 (opn (gndB N fe m fp k) n l), rows, none) := by
  have one1 := El_one he
  have one2 := El_one hp
  have hC := Check_ret (N := N) (El_app he [.cells [.int .i64 N, ev, pv]]) hm (El_app hp [.cells [.int .i64 N, ev, pv]]) hk
  have h' := IsL_app h [.cells [.int .i64 N, ev, pv]]
  have hF := ContainsF_ret h' (by omega) (fid := 94) (cs := []) (p := outB) (fun x _ => out_ret)
  have hn1 := hn [.cells [.int .i64 N, ev, pv]]
  refine i66 F66 ?_
  unfold opn
  cases hb : gndB N fe m fp k with
  | false =>
    rw [hb] at hC
    simp [AV.cells, one1, one2, hC, seg, splice]
  | true =>
    rw [hb] at hC
    by_cases c1 : (l.length : Int) = n
    · cases hF2 : l.any outB with
      | false =>
        rw [hF2] at hF
        simp [AV.cells, one1, one2, hC, seg, splice, lenL0 h', boundOf, hn1, c1, hF]
      | true =>
        rw [hF2] at hF
        simp [AV.cells, one1, one2, hC, seg, splice, lenL0 h', boundOf, hn1, c1, hF]
    · simp [AV.cells, one1, one2, hC, seg, splice, lenL0 h', boundOf, hn1, c1]
end
end Go.Abs

set_option linter.unusedVariables false
set_option linter.unusedSimpArgs false
namespace Go.Abs
/-- A ring's sum, from a place on; 'none': it is none. -/
def rgs (fl : List Int) (m : Nat) (fw rg : List Int) : Nat → Nat → Int → Option Int
  | 0, _, s => some s
  | d + 1, k, s => if pix fl (min (gI rg k) (gI rg ((k + 1) % rg.length))) (max (gI rg k) (gI rg ((k + 1) % rg.length))) m 0 < 0 ∨ gI rg k ∈ rg.take k then none else
    rgs fl m fw rg d (k + 1) (if gI rg k < gI rg ((k + 1) % rg.length) then s + gI fw (pix fl (min (gI rg k) (gI rg ((k + 1) % rg.length))) (max (gI rg k) (gI rg ((k + 1) % rg.length))) m 0).toNat
      else s - gI fw (pix fl (min (gI rg k) (gI rg ((k + 1) % rg.length))) (max (gI rg k) (gI rg ((k + 1) % rg.length))) m 0).toNat)
def rgv : Option Int → AV
  | some s => .tup [.int .i64 s, .bool true]
  | none => .tup [.int .i64 0, .bool false]
def rgv0 : Option Int → AV
  | some s => .tup [.int .i64 s, .bool true, .int .i64 0]
  | none => .tup [.int .i64 0, .bool false, .int .i64 0]
/-- The sum of a ring, or none. -/
def ringS (N : Nat) (fl : List Int) (m : Nat) (fw rg : List Int) : Option Int := if rg.length < 3 then none else rgs fl m fw rg rg.length 0 0
section
variable {rows : List Row} {fv rv : AV} {fw rg : List Int} {ev pv : AV} {fl : List Int} {m : Nat}
theorem bd_get {fw : List Int} (h : ∀ x ∈ fw, -100 ≤ x ∧ x ≤ 100) {i : Nat} (hi : i < fw.length) : -100 ≤ gI fw i ∧ gI fw i ≤ 100 := h _ (gI_mem hi)
theorem bd_add {s x : Int} {k : Nat} (hs : -100 * k ≤ s ∧ s ≤ 100 * k) (hx : -100 ≤ x ∧ x ≤ 100) : -100 * ((k + 1 : Nat) : Int) ≤ s + x ∧ s + x ≤ 100 * ((k + 1 : Nat) : Int) := by omega
theorem bd_sub {s x : Int} {k : Nat} (hs : -100 * k ≤ s ∧ s ≤ 100 * k) (hx : -100 ≤ x ∧ x ≤ 100) : -100 * ((k + 1 : Nat) : Int) ≤ s - x ∧ s - x ≤ 100 * ((k + 1 : Nat) : Int) := by omega
theorem IsL_take' {v : AV} {l : List Int} (h : IsL rows v l) (hc : Cp 1 v) {k : Nat} (hk : k ≤ l.length) : ∃ v', sliceV 1 v none (some (.int .i64 k)) none = some v' ∧ IsL rows v' (l.take k) := by
  obtain ⟨v', e1, h', _, _, _⟩ := El_take h hc hk
  refine ⟨v', e1, ?_⟩
  have e2 : (nums .i64 l).take (k * 1) = nums .i64 (l.take k) := by
    rw [Nat.mul_one]
    simp only [nums, ← List.map_take]
  rw [e2] at h'
  have : (l.take k).length = k := by simp; omega
  unfold IsL
  rw [this]
  exact h'
set_option maxHeartbeats 16000000 in
theorem IsRing_loop {n0 : AV} (he : El rows 2 ev (nums .i64 fl) m) (hm : m ≤ 100) (hf : IsL rows fv fw) (hfl : fw.length = m) (hfb : ∀ x ∈ fw, -100 ≤ x ∧ x ≤ 100) (hr : IsL rows rv rg) (hrc : Cp 1 rv) (hr0 : 0 < rg.length) (hr8 : rg.length ≤ 8)
    {q : Option Int} : ∀ (d k : Nat) (s : Int), rg.length - k = d → k ≤ rg.length → -100 * k ≤ s ∧ s ≤ 100 * k → rgs fl m fw rg d k s = q →
    Lc36l2 F (.fn [.t 6, .t 7, .t 8]) fv rv (.ptr rows.length 0) (.int .i64 s) rv (.int .i64 rg.length) (.int .i64 k) (rows ++ [.cells [n0, ev, pv]]) rows.length (fun r => fin rows r.1 r.2.1 r.2.2 = (rgv0 q, rows, none)) := by
  have he' := El_app he [.cells [n0, ev, pv]]
  have hf' := IsL_app hf [.cells [n0, ev, pv]]
  have hr' := IsL_app hr [.cells [n0, ev, pv]]
  intro d
  induction d with
  | zero =>
    intro k s hd h1 hs hq
    have hk : k = rg.length := by omega
    subst hk
    rw [rgs] at hq
    subst hq
    unfold Lc36l2
    simp [rgv0]
  | succ d ih =>
    intro k s hd h1 hs hq
    have hk : k < rg.length := by omega
    have a1 : rg.length - (k + 1) = d := by omega
    have hw : IntKind.i64.wrap ((k : Int) + 1) = (k : Int) + 1 := wrap64 (by omega) (by omega)
    have hmod : (((k : Int) + 1).tmod (rg.length : Int)) = (((k + 1) % rg.length : Nat) : Int) := by
      rw [Int.tmod_eq_emod_of_nonneg (by omega)]; norm_cast
    have hmod2 : (((k : Int) + 1) % (rg.length : Int)) = (((k + 1) % rg.length : Nat) : Int) := by norm_cast
    have hml := Nat.mod_lt (k + 1) hr0
    rw [rgs] at hq
    have hI := Index2_ret he' (by omega) (a := min (gI rg k) (gI rg ((k + 1) % rg.length))) (b := max (gI rg k) (gI rg ((k + 1) % rg.length)))
    have hhit := pix_hit (fl := fl) (a := min (gI rg k) (gI rg ((k + 1) % rg.length))) (b := max (gI rg k) (gI rg ((k + 1) % rg.length))) m 0
    generalize hA : gI rg k = A at *
    generalize hj : (k + 1) % rg.length = j at *
    generalize hB : gI rg j = B at *
    generalize pix fl (min A B) (max A B) m 0 = e at *
    have hrne : ¬ (rg.length = 0) := by omega
    by_cases c1 : e < 0
    · rw [if_pos (.inl c1)] at hq
      subst hq
      unfold Lc36l2
      simp (disch := first | omega | (simp; done) | fail) [hk, idxL0 hr', loadL0 hr', lenL0 hr', hA, hB, hw, hmod, hmod2, hrne, fillA, splice, hI, c1, rgv0]
    · obtain ⟨i, hi1, _, hi2, _⟩ := hhit (by omega)
      subst hi1
      obtain ⟨v', e1, h'⟩ := IsL_take' hr' hrc (k := k) (by omega)
      have hC := Contains_ret h' (by simp; omega) (a := A)
      by_cases c2 : A ∈ rg.take k
      · rw [if_pos (.inr c2)] at hq
        subst hq
        unfold Lc36l2
        simp (disch := first | omega | (simp; done) | fail) [hk, idxL0 hr', loadL0 hr', lenL0 hr', hA, hB, hw, hmod, hmod2, hrne, fillA, splice, hI, e1, hC, c2, c1, rgv0]
      · rw [if_neg (by intro h; rcases h with h | h; exact absurd h c1; exact c2 h), Int.toNat_natCast] at hq
        have hfb' := bd_get hfb (i := i) (by omega)
        by_cases c3 : A < B
        · rw [if_pos c3] at hq
          have hws : IntKind.i64.wrap (s + gI fw i) = s + gI fw i := wrap64 (by omega) (by omega)
          have := ih (k + 1) (s + gI fw i) a1 hk (bd_add hs hfb') hq
          unfold Lc36l2
          simp (disch := first | omega | (simp; done) | fail) [hk, idxL0 hr', loadL0 hr', lenL0 hr', hA, hB, hw, hmod, hmod2, hrne, fillA, splice, hI, e1, hC, c2, c3, c1, idxL0 hf', loadL0 hf', hws, show i < fw.length by omega]
          simpa using this
        · rw [if_neg c3] at hq
          have hws : IntKind.i64.wrap (s - gI fw i) = s - gI fw i := wrap64 (by omega) (by omega)
          have := ih (k + 1) (s - gI fw i) a1 hk (bd_sub hs hfb') hq
          unfold Lc36l2
          simp (disch := first | omega | (simp; done) | fail) [hk, idxL0 hr', loadL0 hr', lenL0 hr', hA, hB, hw, hmod, hmod2, hrne, fillA, splice, hI, e1, hC, c2, c3, c1, idxL0 hf', loadL0 hf', hws, show i < fw.length by omega]
          simpa using this
set_option maxHeartbeats 16000000 in
/-- IsRing. -/
theorem IsRing_ret {g : AV} {N : Nat} {ks ps : List Nat} (hg : GRd rows g N ks ps) (hf : IsL rows fv fw) (hfl : fw.length = ks.length) (hfb : ∀ x ∈ fw, -100 ≤ x ∧ x ≤ 100) (hr : IsL rows rv rg) (hrc : Cp 1 rv) (hr8 : rg.length ≤ 8) :
    Ret F 36 [g, fv, rv] rows = some (rgv0 (ringS N (eC ks) ks.length fw rg), rows, none) := by
  obtain ⟨ev, pv, rfl, he, hp, ce, cp⟩ := hg.eq
  have hok := hg.ok
  have h1 := hok.ek
  have h2 := hok.pk
  have one1 := El_one he
  have one2 := El_one hp
  have he' := El_app he [.cells [.int .i64 N, ev, pv]]
  have hp' := El_app hp [.cells [.int .i64 N, ev, pv]]
  have hf' := IsL_app hf [.cells [.int .i64 N, ev, pv]]
  have hr' := IsL_app hr [.cells [.int .i64 N, ev, pv]]
  have hO := open_ret (N := N) (f := 67) (g' := .agg [.int .i64 N, ev, pv]) (n := ks.length) he' (by omega) hp' (by omega) hf' (by omega) (fun L => edges_ret (El_app he' L) rfl one2)
  have hany : fw.any outB = false := by
    rw [List.any_eq_false]
    intro x hx
    have := hfb x hx
    unfold outB
    simp
    omega
  have ho : opn (gndB N (eC ks) ks.length (pC ps) ps.length) ks.length fw = 0 := by
    unfold opn
    rw [gndB_ok hok, if_neg (by simp), if_pos ⟨by rw [hfl], hany⟩]
  rw [ho, show ((67 : Nat) : Int) = 67 from rfl] at hO
  refine i36 F36 ?_
  unfold ringS
  by_cases c : rg.length < 3
  · rw [if_pos c]
    simp [AV.cells, one1, one2, seg, splice, hO, lenL0 hr', show ((rg.length : Int) < 3) by omega, rgv0]
  · rw [if_neg c]
    have hl := IsRing_loop (n0 := .int .i64 N) (pv := pv) he (by omega) hf hfl hfb hr hrc (by omega) hr8 _ 0 0 rfl (by omega) (by omega) rfl
    simp [AV.cells, one1, one2, seg, splice, hO, lenL0 hr', show ¬ ((rg.length : Int) < 3) by omega]
    simpa using hl
set_option maxHeartbeats 16000000 in
theorem dup_loop {n0 : AV} (hr : IsL rows rv rg) {s A B : Int} {k n : Nat} (hk : k < rg.length) (hr8 : rg.length ≤ 8) {Q : AV × List Row × Nat → Prop} (hmem : A ∈ rg.take k → Q (.tup [.int .i64 0, .bool false], rows ++ [.cells [n0, ev, pv]], rows.length))
    (hnot : A ∉ rg.take k → ∀ sl : List (Nat × AV), lk sl 1 = fv → lk sl 2 = rv → lk sl 3 = .ptr rows.length 0 → lk sl 8 = .int .i64 n → lk sl 9 = .int .i64 s → lk sl 10 = .int .i64 k → lk sl 11 = .int .i64 A → lk sl 12 = .int .i64 B →
      Ex F (.fn [.t 6, .t 7]) [.code c37s13, .inBlock 1, .code c37k3, .inLoop c37l2, .inBlock 0, .code c37s1] ⟨mk 76 sl, rows ++ [.cells [n0, ev, pv]], rows.length⟩ Q) : ∀ (d i : Nat), k - i = d → i ≤ k → A ∉ rg.take i →
    Lc37l14 F (.fn [.t 6, .t 7]) fv rv (.ptr rows.length 0) (.int .i64 n) (.int .i64 s) (.int .i64 k) (.int .i64 A) (.int .i64 B) (.int .i64 i) (rows ++ [.cells [n0, ev, pv]]) rows.length Q := by
  have hr' := IsL_app hr [.cells [n0, ev, pv]]
  intro d
  induction d with
  | zero =>
    intro i hd h1 hn
    have hi : i = k := by omega
    subst hi
    unfold Lc37l14
    simp [-uc37s13]
    refine hnot hn _ ?_ ?_ ?_ ?_ ?_ ?_ ?_ ?_ <;> simp
  | succ d ih =>
    intro i hd h1 hn
    have hi : i < k := by omega
    have hw : IntKind.i64.wrap ((i : Int) + 1) = (i : Int) + 1 := wrap64 (by omega) (by omega)
    have htk : rg.take (i + 1) = rg.take i ++ [gI rg i] := by
      rw [List.take_add_one, gI_get (by omega)]; rfl
    by_cases c : gI rg i = A
    · have : A ∈ rg.take k := by
        have h2 : A ∈ rg.take (i + 1) := by rw [htk, c]; simp
        exact List.take_subset_take_left rg (show i + 1 ≤ k by omega) h2
      have := hmem this
      unfold Lc37l14
      simp (disch := first | omega | (simp; done) | fail) [hi, idxL0 hr', loadL0 hr', c]
      exact this
    · have := ih (i + 1) (by omega) (by omega) (by rw [htk]; intro h; rcases List.mem_append.1 h with h | h; exact hn h; exact c (List.mem_singleton.1 h).symm)
      unfold Lc37l14
      simp (disch := first | omega | (simp; done) | fail) [hi, idxL0 hr', loadL0 hr', c, hw]
      simpa using this
end
end Go.Abs

set_option linter.unusedVariables false
set_option linter.unusedSimpArgs false
namespace Go.Abs
section
variable {rows : List Row} {fv rv : AV} {fw rg : List Int} {ev pv : AV} {fl : List Int} {m : Nat}
set_option maxHeartbeats 16000000 in
theorem RRing_loop {n0 : AV} (ho0 : n0.one = true) (ho2 : pv.one = true) (he : El rows 2 ev (nums .i64 fl) m) (hm : m ≤ 100) (hf : IsL rows fv fw) (hfl : fw.length = m) (hfb : ∀ x ∈ fw, -100 ≤ x ∧ x ≤ 100) (hr : IsL rows rv rg) (hr0 : 0 < rg.length) (hr8 : rg.length ≤ 8)
    {q : Option Int} : ∀ (d k : Nat) (s : Int), rg.length - k = d → k ≤ rg.length → -100 * k ≤ s ∧ s ≤ 100 * k → rgs fl m fw rg d k s = q →
    Lc37l2 F (.fn [.t 6, .t 7]) fv rv (.ptr rows.length 0) (.int .i64 rg.length) (.int .i64 s) (.int .i64 k) (rows ++ [.cells [n0, ev, pv]]) rows.length (fun r => fin rows r.1 r.2.1 r.2.2 = (rgv q, rows, none)) := by
  have one1 := El_one he
  have he' := El_app he [.cells [n0, ev, pv]]
  have hf' := IsL_app hf [.cells [n0, ev, pv]]
  have hr' := IsL_app hr [.cells [n0, ev, pv]]
  intro d
  induction d with
  | zero =>
    intro k s hd h1 hs hq
    have hk : k = rg.length := by omega
    subst hk
    rw [rgs] at hq
    subst hq
    unfold Lc37l2
    simp [rgv]
  | succ d ih =>
    intro k s hd h1 hs hq
    have hk : k < rg.length := by omega
    have a1 : rg.length - (k + 1) = d := by omega
    have hw : IntKind.i64.wrap ((k : Int) + 1) = (k : Int) + 1 := wrap64 (by omega) (by omega)
    have hmod : (((k : Int) + 1).tmod (rg.length : Int)) = (((k + 1) % rg.length : Nat) : Int) := by
      rw [Int.tmod_eq_emod_of_nonneg (by omega)]; norm_cast
    have hmod2 : (((k : Int) + 1) % (rg.length : Int)) = (((k + 1) % rg.length : Nat) : Int) := by norm_cast
    have hml := Nat.mod_lt (k + 1) hr0
    rw [rgs] at hq
    have hI := Edge_ret (n0 := n0) he' (by omega) ⟨ho0, one1, ho2⟩ (a := gI rg k) (b := gI rg ((k + 1) % rg.length))
    have hhit := pix_hit (fl := fl) (a := min (gI rg k) (gI rg ((k + 1) % rg.length))) (b := max (gI rg k) (gI rg ((k + 1) % rg.length))) m 0
    generalize hA : gI rg k = A at *
    generalize hj : (k + 1) % rg.length = j at *
    generalize hB : gI rg j = B at *
    generalize pix fl (min A B) (max A B) m 0 = e at *
    have hrne : ¬ (rg.length = 0) := by omega
    have key := dup_loop (rows := rows) (n0 := n0) (ev := ev) (pv := pv) (fv := fv) (s := s) (A := A) (B := B) (n := rg.length) hr hk hr8 (Q := fun r => fin rows r.1 r.2.1 r.2.2 = (rgv q, rows, none)) (fun hmem => by
      rw [if_pos (.inr hmem)] at hq
      subst hq
      simp [rgv]) (fun hnot sl s1 s2 s3 s8 s9 s10 s11 s12 => by
      by_cases c1 : e < 0
      · rw [if_pos (.inl c1)] at hq
        subst hq
        simp [s1, s2, s3, s8, s9, s10, s11, s12, seg, hI, c1, rgv]
      · obtain ⟨i, hi1, _, hi2, _⟩ := hhit (by omega)
        subst hi1
        rw [if_neg (by intro h; rcases h with h | h; exact absurd h c1; exact hnot h), Int.toNat_natCast] at hq
        have hfb' := bd_get hfb (i := i) (by omega)
        by_cases c3 : A < B
        · rw [if_pos c3] at hq
          have hws : IntKind.i64.wrap (s + gI fw i) = s + gI fw i := wrap64 (by omega) (by omega)
          have := ih (k + 1) (s + gI fw i) a1 hk (bd_add hs hfb') hq
          simp (disch := first | omega | (simp; done) | fail) [s1, s2, s3, s8, s9, s10, s11, s12, seg, hI, c1, c3, idxL0 hf', loadL0 hf', hws, hw, show i < fw.length by omega]
          simpa using this
        · rw [if_neg c3] at hq
          have hws : IntKind.i64.wrap (s - gI fw i) = s - gI fw i := wrap64 (by omega) (by omega)
          have := ih (k + 1) (s - gI fw i) a1 hk (bd_sub hs hfb') hq
          simp (disch := first | omega | (simp; done) | fail) [s1, s2, s3, s8, s9, s10, s11, s12, seg, hI, c1, c3, idxL0 hf', loadL0 hf', hws, hw, show i < fw.length by omega]
          simpa using this) k 0 rfl (Nat.zero_le _) (by simp)
    unfold Lc37l2
    simp (disch := first | omega | (simp; done) | fail) [hk, idxL0 hr', loadL0 hr', lenL0 hr', hA, hB, hw, hmod, hmod2, hrne]
    simpa using key
set_option maxHeartbeats 16000000 in
theorem RRing_ret {g : AV} {N : Nat} {ks ps : List Nat} (hg : GRd rows g N ks ps) (hf : IsL rows fv fw) (hfl : fw.length = ks.length) (hfb : ∀ x ∈ fw, -100 ≤ x ∧ x ≤ 100) (hr : IsL rows rv rg) (hr8 : rg.length ≤ 8) :
    Ret F 37 [g, fv, rv] rows = some (rgv (if rg.length < 3 ∨ N < rg.length then none else rgs (eC ks) ks.length fw rg rg.length 0 0), rows, none) := by
  obtain ⟨ev, pv, rfl, he, hp, ce, cp⟩ := hg.eq
  have hok := hg.ok
  have h1 := hok.ek
  have one1 := El_one he
  have one2 := El_one hp
  have hr' := IsL_app hr [.cells [.int .i64 N, ev, pv]]
  refine i37 F37 ?_
  by_cases c : rg.length < 3
  · rw [if_pos (.inl c)]
    simp [AV.cells, one1, one2, lenL0 hr', show ((rg.length : Int) < 3) by omega, rgv]
  · by_cases c2 : N < rg.length
    · rw [if_pos (.inr c2)]
      simp [AV.cells, one1, one2, lenL0 hr', show ¬ ((rg.length : Int) < 3) by omega, c2, rgv]
    · rw [if_neg (by omega)]
      have hl := RRing_loop (n0 := .int .i64 N) (pv := pv) rfl one2 he (by omega) hf hfl hfb hr (by omega) hr8 _ 0 0 rfl (by omega) (by omega) rfl
      simp [AV.cells, one1, one2, lenL0 hr', show ¬ ((rg.length : Int) < 3) by omega, c2]
      simpa using hl
end
theorem rgs_some {fl : List Int} {m : Nat} {fw rg : List Int} {s' : Int} : ∀ (d k : Nat) (s : Int), k + d = rg.length → rgs fl m fw rg d k s = some s' → ∀ i, k ≤ i → i < rg.length → 0 ≤ pix fl (min (gI rg i) (gI rg ((i + 1) % rg.length))) (max (gI rg i) (gI rg ((i + 1) % rg.length))) m 0 ∧ gI rg i ∉ rg.take i
  | 0, k, s, hk, h, i, h1, h2 => by omega
  | d + 1, k, s, hk, h, i, h1, h2 => by
    rw [rgs] at h
    split at h
    · simp at h
    · rename_i hn
      rcases Nat.eq_or_lt_of_le h1 with e | e
      · subst e
        exact ⟨Int.not_lt.1 fun h => hn (.inl h), fun h => hn (.inr h)⟩
      · exact rgs_some d (k + 1) _ (by omega) h i e h2
theorem nodup_of {l : List Int} (h : ∀ i, i < l.length → gI l i ∉ l.take i) : l.Nodup := by
  rw [List.nodup_iff_pairwise_ne, List.pairwise_iff_getElem]
  intro i j hi hj hij e
  have := h j hj
  rw [gI_eq hj, ← e] at this
  apply this
  rw [List.mem_iff_getElem]
  exact ⟨i, by simp; omega, by simp⟩
theorem few_ints {N : Nat} : ∀ (l : List Int), l.Nodup → (∀ x ∈ l, 0 ≤ x ∧ x < N) → l.length ≤ N := by
  intro l hn hb
  have h1 : (l.map Int.toNat).Nodup := by
    rw [List.nodup_iff_pairwise_ne, List.pairwise_map]
    rw [List.nodup_iff_pairwise_ne] at hn
    refine List.Pairwise.imp_of_mem (fun {a b} ha hb' hab e => ?_) hn
    have := hb a ha
    have := hb b hb'
    omega
  have h2 : ∀ x ∈ l.map Int.toNat, x ∈ List.range N := by
    intro x hx
    obtain ⟨y, hy, rfl⟩ := List.mem_map.1 hx
    have := hb y hy
    simp; omega
  have := List.Nodup.length_le_of_subset h1 h2
  simpa using this
theorem ring_le {N : Nat} {ks ps : List Nat} (h : GOK N ks ps) {fw rg : List Int} (hr : N < rg.length) : rgs (eC ks) ks.length fw rg rg.length 0 0 = none := by
  cases e : rgs (eC ks) ks.length fw rg rg.length 0 0 with
  | none => rfl
  | some s =>
    have hall := rgs_some rg.length 0 0 (by omega) e
    have hnd := nodup_of (l := rg) fun i hi => (hall i (Nat.zero_le _) hi).2
    have hb : ∀ x ∈ rg, 0 ≤ x ∧ x < N := by
      intro x hx
      obtain ⟨i, hi, rfl⟩ := List.mem_iff_getElem.1 hx
      rw [← gI_eq hi]
      obtain ⟨k, _, _, h2, h3, h4⟩ := pix_hit _ _ (hall i (Nat.zero_le _) hi).1
      obtain ⟨e1, e2⟩ := eC_a (ks := ks) (i := k) (by omega)
      have := h.ee _ (gN_mem (l := ks) (i := k) (by omega))
      rw [e1] at h3
      rw [e2] at h4
      omega
    have := few_ints rg hnd hb
    omega
theorem ring_agree {N : Nat} {ks ps : List Nat} (h : GOK N ks ps) (fw rg : List Int) : (if rg.length < 3 ∨ N < rg.length then none else rgs (eC ks) ks.length fw rg rg.length 0 0) = ringS N (eC ks) ks.length fw rg := by
  unfold ringS
  by_cases c : rg.length < 3
  · rw [if_pos (.inl c), if_pos c]
  · rw [if_neg c]
    by_cases c2 : N < rg.length
    · rw [if_pos (.inr c2), ring_le h c2]
    · rw [if_neg (by omega)]
end Go.Abs

set_option linter.unusedVariables false
set_option maxRecDepth 20000
set_option maxHeartbeats 4000000
namespace Go.Abs
variable {F : Nat → Option IFn} {cx : Ctx} {k : List Itm} {s : St} {l : List (Nat × AV)} {rows : List Row} {low : Nat} {r : AV × List Row × Nat → Prop}
def c6r0 : List Seg := [
  .one ⟨some 81, .call [] (.c (.func 19 [])) [], none⟩,
  .one ⟨some 6, .mv (.t 81), none⟩]
def c6k0 : ICode := .kill 82 [] (.ops c6r0)
@[simp] theorem uc6k0 : Ex F cx (.code c6k0 :: k) ⟨mk 82 l, rows, low⟩ r ↔ bnd (Ret F 19 [] rows) fun q0 => Ex F cx k ⟨mk 82 [(6, q0.1), (81, q0.1)], q0.2.1, (lowO low q0.2.2)⟩ r := reg (keep := []) (ops := c6r0) rfl (by kernel_rfl) (by kernel_rfl)
def c6s1 : ICode := (.seq c6k0 .ret)
@[simp] theorem uc6s1 : Ex F cx (.code c6s1 :: k) s r ↔ Ex F cx (.code (.seq c6k0 .ret) :: k) s r := Iff.rfl
def c6r3 : List Seg := [
  .one ⟨some 32, .mv (.t 11), none⟩,
  .one ⟨some 33, .bin .add (.t 32) (.c (.int .i64 1)), none⟩,
  .one ⟨some 11, .mv (.t 33), none⟩]
def c6k3 : ICode := .kill 82 [7, 8, 9, 10, 11] (.ops c6r3)
@[simp] theorem uc6k3 : Ex F cx (.code c6k3 :: k) ⟨mk 82 l, rows, low⟩ r ↔ bnd (evP rows (.bin .add (.c (lk l 11)) (.c (.int .i64 1)))) fun v0 => Ex F cx k ⟨mk 82 [(11, v0), (33, v0), (32, lk l 11), (7, lk l 7), (8, lk l 8), (9, lk l 9), (10, lk l 10), (11, lk l 11)], rows, low⟩ r := reg (keep := [7, 8, 9, 10, 11]) (ops := c6r3) rfl (by kernel_rfl) (by kernel_rfl)
def c6r4 : List Seg := [
  .one ⟨some 80, .mv (.t 17), none⟩,
  .one ⟨some 10, .mv (.t 80), none⟩]
def c6k4 : ICode := .kill 82 [7, 8, 9, 11, 17] (.ops c6r4)
@[simp] theorem uc6k4 : Ex F cx (.code c6k4 :: k) ⟨mk 82 l, rows, low⟩ r ↔ Ex F cx k ⟨mk 82 [(10, lk l 17), (80, lk l 17), (7, lk l 7), (8, lk l 8), (9, lk l 9), (11, lk l 11), (17, lk l 17)], rows, low⟩ r := reg (keep := [7, 8, 9, 11, 17]) (ops := c6r4) rfl (by kernel_rfl) (by kernel_rfl)
def c6r6 : List Seg := [
  .one ⟨some 65, .mv (.t 18), none⟩,
  .one ⟨some 66, .bin .add (.t 65) (.c (.int .i64 1)), none⟩,
  .one ⟨some 18, .mv (.t 66), none⟩]
def c6k6 : ICode := .kill 82 [7, 8, 9, 10, 11, 17, 18] (.ops c6r6)
@[simp] theorem uc6k6 : Ex F cx (.code c6k6 :: k) ⟨mk 82 l, rows, low⟩ r ↔ bnd (evP rows (.bin .add (.c (lk l 18)) (.c (.int .i64 1)))) fun v0 => Ex F cx k ⟨mk 82 [(18, v0), (66, v0), (65, lk l 18), (7, lk l 7), (8, lk l 8), (9, lk l 9), (10, lk l 10), (11, lk l 11), (17, lk l 17), (18, lk l 18)], rows, low⟩ r := reg (keep := [7, 8, 9, 10, 11, 17, 18]) (ops := c6r6) rfl (by kernel_rfl) (by kernel_rfl)
def c6r7 : List Seg := [
  .grp [(⟨some 67, .mv (.t 17), none⟩, 0), (⟨some 68, .mv (.t 10), none⟩, 0), (⟨some 69, .mv (.t 18), none⟩, 0), (⟨some 70, .idxS 1 (.t 68) (.t 69), none⟩, 6), (⟨some 71, .load1 (.t 70), none⟩, 14), (⟨some 72, .conv .u64 (.t 71), none⟩, 30), (⟨some 73, .fieldA 0 (.t 7), none⟩, 0), (⟨some 74, .load1 (.t 73), none⟩, 64), (⟨some 75, .conv .u64 (.t 74), none⟩, 192), (⟨some 76, .bin .rem (.t 72) (.t 75), none⟩, 510), (⟨some 77, .conv .i64 (.t 76), none⟩, 1022), (⟨some 78, .mkslice 1 [.int .i64 0] [(0, 1, (.t 77))], none⟩, 2046)],
  .one ⟨some 79, .app 1 8 (.t 67) (.t 78), none⟩,
  .one ⟨some 17, .mv (.t 79), none⟩]
def c6k7 : ICode := .kill 82 [7, 8, 9, 10, 11, 17, 18] (.ops c6r7)
@[simp] theorem uc6k7 : Ex F cx (.code c6k7 :: k) ⟨mk 82 l, rows, low⟩ r ↔ bnd (evP (rows ++ maskE 6 ([] : List (Nat × Row))) (.idxS 1 (.c (lk l 10)) (.c (lk l 18)))) fun v0 => bnd (evP (rows ++ maskE 14 ([] : List (Nat × Row))) (.load1 (.c v0))) fun v1 => bnd (evP (rows ++ maskE 30 ([] : List (Nat × Row))) (.conv .u64 (.c v1))) fun v2 => bnd (evP (rows ++ maskE 0 ([] : List (Nat × Row))) (.fieldA 0 (.c (lk l 7)))) fun v3 => bnd (evP (rows ++ maskE 64 ([] : List (Nat × Row))) (.load1 (.c v3))) fun v4 => bnd (evP (rows ++ maskE 192 ([] : List (Nat × Row))) (.conv .u64 (.c v4))) fun v5 => bnd (evP (rows ++ maskE 510 ([] : List (Nat × Row))) (.bin .rem (.c v2) (.c v5))) fun v6 => bnd (evP (rows ++ maskE 1022 ([] : List (Nat × Row))) (.conv .i64 (.c v6))) fun v7 => bnd (evE (rows ++ maskE 2046 ([] : List (Nat × Row))) (rows.length + ([] : List (Nat × Row)).length) (.mkslice 1 [.int .i64 0] [(0, 1, (.c v7))])) fun q8 => q8.2.2 = rows.length + ([] : List (Nat × Row)).length ∧ bnd (some (([] : List (Nat × Row)) ++ List.map (fun (x : Row) => (11, x)) (q8.2.1.drop (rows.length + ([] : List (Nat × Row)).length)))) fun e8 => bnd (evE (rows ++ List.map (fun (x : Nat × Row) => x.2) e8) low (.app 1 8 (.c (lk l 17)) (.c q8.1))) fun q9 => Ex F cx k ⟨mk 82 [(17, q9.1), (79, q9.1), (78, q8.1), (77, v7), (76, v6), (75, v5), (74, v4), (73, v3), (72, v2), (71, v1), (70, v0), (69, lk l 18), (68, lk l 10), (67, lk l 17), (7, lk l 7), (8, lk l 8), (9, lk l 9), (10, lk l 10), (11, lk l 11), (17, lk l 17), (18, lk l 18)], q9.2.1, q9.2.2⟩ r := reg (keep := [7, 8, 9, 10, 11, 17, 18]) (ops := c6r7) rfl (by kernel_rfl) (by kernel_rfl)
def c6s8 : ICode := (.seq (.block 3 c6k7) c6k6)
@[simp] theorem uc6s8 : Ex F cx (.code c6s8 :: k) s r ↔ Ex F cx (.code (.seq (.block 3 c6k7) c6k6) :: k) s r := Iff.rfl
def c6s9 : ICode := (.cond (.t 64) .skip (.exit 2))
@[simp] theorem uc6s9 : Ex F cx (.code c6s9 :: k) s r ↔ Ex F cx (.code (.cond (.t 64) .skip (.exit 2)) :: k) s r := Iff.rfl
def c6r10 : List Seg := [
  .one ⟨some 61, .mv (.t 18), none⟩,
  .one ⟨some 62, .mv (.t 10), none⟩,
  .one ⟨some 63, .len 0 (.t 62), none⟩,
  .one ⟨some 64, .bin .lss (.t 61) (.t 63), none⟩]
def c6k10 : ICode := .kill 82 [7, 8, 9, 10, 11, 17, 18] (.ops c6r10)
@[simp] theorem uc6k10 : Ex F cx (.code c6k10 :: k) ⟨mk 82 l, rows, low⟩ r ↔ bnd (evP rows (.len 0 (.c (lk l 10)))) fun v0 => bnd (evP rows (.bin .lss (.c (lk l 18)) (.c v0))) fun v1 => Ex F cx k ⟨mk 82 [(64, v1), (63, v0), (62, lk l 10), (61, lk l 18), (7, lk l 7), (8, lk l 8), (9, lk l 9), (10, lk l 10), (11, lk l 11), (17, lk l 17), (18, lk l 18)], rows, low⟩ r := reg (keep := [7, 8, 9, 10, 11, 17, 18]) (ops := c6r10) rfl (by kernel_rfl) (by kernel_rfl)
def c6l5 : ICode := (.seq (.seq c6k10 c6s9) c6s8)
def c6s11 : ICode := (.block 2 (.loop c6l5))
@[simp] theorem uc6s11 : Ex F cx (.code c6s11 :: k) s r ↔ Ex F cx (.code (.block 2 (.loop c6l5)) :: k) s r := Iff.rfl
def c6r12 : List Seg := [
  .one ⟨some 18, .mv (.c (.int .i64 0)), none⟩]
def c6k12 : ICode := .kill 82 [7, 8, 9, 10, 11, 17] (.ops c6r12)
@[simp] theorem uc6k12 : Ex F cx (.code c6k12 :: k) ⟨mk 82 l, rows, low⟩ r ↔ Ex F cx k ⟨mk 82 [(18, (.int .i64 0)), (7, lk l 7), (8, lk l 8), (9, lk l 9), (10, lk l 10), (11, lk l 11), (17, lk l 17)], rows, low⟩ r := reg (keep := [7, 8, 9, 10, 11, 17]) (ops := c6r12) rfl (by kernel_rfl) (by kernel_rfl)
def c6s13 : ICode := (.seq (.seq c6k12 c6s11) c6k4)
@[simp] theorem uc6s13 : Ex F cx (.code c6s13 :: k) s r ↔ Ex F cx (.code (.seq (.seq c6k12 c6s11) c6k4) :: k) s r := Iff.rfl
def c6r14 : List Seg := [
  .one ⟨some 17, .mv (.c .nilslice), none⟩]
def c6k14 : ICode := .kill 82 [7, 8, 9, 10, 11] (.ops c6r14)
@[simp] theorem uc6k14 : Ex F cx (.code c6k14 :: k) ⟨mk 82 l, rows, low⟩ r ↔ Ex F cx k ⟨mk 82 [(17, .nilslice), (7, lk l 7), (8, lk l 8), (9, lk l 9), (10, lk l 10), (11, lk l 11)], rows, low⟩ r := reg (keep := [7, 8, 9, 10, 11]) (ops := c6r14) rfl (by kernel_rfl) (by kernel_rfl)
def c6s15 : ICode := (.seq c6k14 c6s13)
@[simp] theorem uc6s15 : Ex F cx (.code c6s15 :: k) s r ↔ Ex F cx (.code (.seq c6k14 c6s13) :: k) s r := Iff.rfl
def c6r16 : List Seg := [
  .one ⟨some 6, .mv (.c (.bool false)), none⟩]
def c6k16 : ICode := .kill 82 [] (.ops c6r16)
@[simp] theorem uc6k16 : Ex F cx (.code c6k16 :: k) ⟨mk 82 l, rows, low⟩ r ↔ Ex F cx k ⟨mk 82 [(6, (.bool false))], rows, low⟩ r := reg (keep := []) (ops := c6r16) rfl (by kernel_rfl) (by kernel_rfl)
def c6s17 : ICode := (.cond (.t 60) (.seq c6k16 .ret) .skip)
@[simp] theorem uc6s17 : Ex F cx (.code c6s17 :: k) s r ↔ Ex F cx (.code (.cond (.t 60) (.seq c6k16 .ret) .skip) :: k) s r := Iff.rfl
def c6r18 : List Seg := [
  .one ⟨some 49, .mv (.t 14), none⟩,
  .one ⟨some 50, .bin .neq (.t 49) (.c (.int .i64 0)), none⟩,
  .one ⟨some 51, .mv (.t 50), none⟩,
  .one ⟨some 52, .mv (.t 13), some (51, false)⟩,
  .one ⟨some 53, .mv (.t 16), some (51, false)⟩,
  .one ⟨some 54, .eqv true .bool (.t 52) (.t 53), some (51, false)⟩,
  .one ⟨some 55, .pick (.t 51) (.c (.bool true)) (.t 54), none⟩,
  .one ⟨some 56, .mv (.t 55), none⟩,
  .one ⟨some 57, .mv (.t 12), some (56, false)⟩,
  .one ⟨some 58, .mv (.t 15), some (56, false)⟩,
  .one ⟨some 59, .bin .neq (.t 57) (.t 58), some (56, false)⟩,
  .one ⟨some 60, .pick (.t 56) (.c (.bool true)) (.t 59), none⟩]
def c6k18 : ICode := .kill 82 [7, 8, 9, 10, 11, 12, 13, 14, 15, 16] (.ops c6r18)
@[simp] theorem uc6k18 : Ex F cx (.code c6k18 :: k) ⟨mk 82 l, rows, low⟩ r ↔ bnd (evP rows (.bin .neq (.c (lk l 14)) (.c (.int .i64 0)))) fun v0 => bnd (gv v0 false (evP rows (.mv (.c (lk l 13))))) fun v1 => bnd (gv v0 false (evP rows (.mv (.c (lk l 16))))) fun v2 => bnd (gv v0 false (evP rows (.eqv true .bool (.c v1) (.c v2)))) fun v3 => bnd (evP rows (.pick (.c v0) (.c (.bool true)) (.c v3))) fun v4 => bnd (gv v4 false (evP rows (.mv (.c (lk l 12))))) fun v5 => bnd (gv v4 false (evP rows (.mv (.c (lk l 15))))) fun v6 => bnd (gv v4 false (evP rows (.bin .neq (.c v5) (.c v6)))) fun v7 => bnd (evP rows (.pick (.c v4) (.c (.bool true)) (.c v7))) fun v8 => Ex F cx k ⟨mk 82 [(60, v8), (59, v7), (58, v6), (57, v5), (56, v4), (55, v4), (54, v3), (53, v2), (52, v1), (51, v0), (50, v0), (49, lk l 14), (7, lk l 7), (8, lk l 8), (9, lk l 9), (10, lk l 10), (11, lk l 11), (12, lk l 12), (13, lk l 13), (14, lk l 14), (15, lk l 15), (16, lk l 16)], rows, low⟩ r := reg (keep := [7, 8, 9, 10, 11, 12, 13, 14, 15, 16]) (ops := c6r18) rfl (by kernel_rfl) (by kernel_rfl)
def c6s19 : ICode := (.seq (.seq c6k18 c6s17) c6s15)
@[simp] theorem uc6s19 : Ex F cx (.code c6s19 :: k) s r ↔ Ex F cx (.code (.seq (.seq c6k18 c6s17) c6s15) :: k) s r := Iff.rfl
def c6r20 : List Seg := [
  .one ⟨some 43, .loadN 3 (.t 7), none⟩,
  .one ⟨some 44, .mv (.t 9), none⟩,
  .one ⟨some 45, .mv (.t 10), none⟩,
  .one ⟨some 46, .call [] (.c (.func 37 [])) [(.t 43), (.t 44), (.t 45)], none⟩,
  .one ⟨some 42, .mv (.t 46), none⟩,
  .one ⟨some 47, .ext (.t 42) 0, none⟩,
  .one ⟨some 48, .ext (.t 42) 1, none⟩,
  .one ⟨some 15, .mv (.t 47), none⟩,
  .one ⟨some 16, .mv (.t 48), none⟩]
def c6k20 : ICode := .kill 82 [7, 8, 9, 10, 11, 12, 13, 14] (.ops c6r20)
@[simp] theorem uc6k20 : Ex F cx (.code c6k20 :: k) ⟨mk 82 l, rows, low⟩ r ↔ bnd (evP rows (.loadN 3 (.c (lk l 7)))) fun v0 => bnd (Ret F 37 [v0, lk l 9, lk l 10] rows) fun q1 => bnd (evP q1.2.1 (.ext (.c q1.1) 0)) fun v2 => bnd (evP q1.2.1 (.ext (.c q1.1) 1)) fun v3 => Ex F cx k ⟨mk 82 [(16, v3), (15, v2), (48, v3), (47, v2), (42, q1.1), (46, q1.1), (45, lk l 10), (44, lk l 9), (43, v0), (7, lk l 7), (8, lk l 8), (9, lk l 9), (10, lk l 10), (11, lk l 11), (12, lk l 12), (13, lk l 13), (14, lk l 14)], q1.2.1, (lowO low q1.2.2)⟩ r := reg (keep := [7, 8, 9, 10, 11, 12, 13, 14]) (ops := c6r20) rfl (by kernel_rfl) (by kernel_rfl)
def c6s21 : ICode := (.seq c6k20 c6s19)
@[simp] theorem uc6s21 : Ex F cx (.code c6s21 :: k) s r ↔ Ex F cx (.code (.seq c6k20 c6s19) :: k) s r := Iff.rfl
def c6r22 : List Seg := [
  .one ⟨some 35, .loadN 3 (.t 8), none⟩,
  .one ⟨some 36, .mv (.t 9), none⟩,
  .one ⟨some 37, .mv (.t 10), none⟩,
  .one ⟨some 38, .call [] (.c (.func 36 [])) [(.t 35), (.t 36), (.t 37)], none⟩,
  .one ⟨some 34, .mv (.t 38), none⟩,
  .one ⟨some 39, .ext (.t 34) 0, none⟩,
  .one ⟨some 40, .ext (.t 34) 1, none⟩,
  .one ⟨some 41, .ext (.t 34) 2, none⟩,
  .one ⟨some 12, .mv (.t 39), none⟩,
  .one ⟨some 13, .mv (.t 40), none⟩,
  .one ⟨some 14, .mv (.t 41), none⟩]
def c6k22 : ICode := .kill 82 [7, 8, 9, 10, 11] (.ops c6r22)
@[simp] theorem uc6k22 : Ex F cx (.code c6k22 :: k) ⟨mk 82 l, rows, low⟩ r ↔ bnd (evP rows (.loadN 3 (.c (lk l 8)))) fun v0 => bnd (Ret F 36 [v0, lk l 9, lk l 10] rows) fun q1 => bnd (evP q1.2.1 (.ext (.c q1.1) 0)) fun v2 => bnd (evP q1.2.1 (.ext (.c q1.1) 1)) fun v3 => bnd (evP q1.2.1 (.ext (.c q1.1) 2)) fun v4 => Ex F cx k ⟨mk 82 [(14, v4), (13, v3), (12, v2), (41, v4), (40, v3), (39, v2), (34, q1.1), (38, q1.1), (37, lk l 10), (36, lk l 9), (35, v0), (7, lk l 7), (8, lk l 8), (9, lk l 9), (10, lk l 10), (11, lk l 11)], q1.2.1, (lowO low q1.2.2)⟩ r := reg (keep := [7, 8, 9, 10, 11]) (ops := c6r22) rfl (by kernel_rfl) (by kernel_rfl)
def c6s23 : ICode := (.seq (.block 1 (.seq c6k22 c6s21)) c6k3)
@[simp] theorem uc6s23 : Ex F cx (.code c6s23 :: k) s r ↔ Ex F cx (.code (.seq (.block 1 (.seq c6k22 c6s21)) c6k3) :: k) s r := Iff.rfl
def c6s24 : ICode := (.cond (.t 31) .skip (.exit 0))
@[simp] theorem uc6s24 : Ex F cx (.code c6s24 :: k) s r ↔ Ex F cx (.code (.cond (.t 31) .skip (.exit 0)) :: k) s r := Iff.rfl
def c6r25 : List Seg := [
  .one ⟨some 30, .mv (.t 11), none⟩,
  .one ⟨some 31, .bin .lss (.t 30) (.c (.int .i64 2)), none⟩]
def c6k25 : ICode := .kill 82 [7, 8, 9, 10, 11] (.ops c6r25)
@[simp] theorem uc6k25 : Ex F cx (.code c6k25 :: k) ⟨mk 82 l, rows, low⟩ r ↔ bnd (evP rows (.bin .lss (.c (lk l 11)) (.c (.int .i64 2)))) fun v0 => Ex F cx k ⟨mk 82 [(31, v0), (30, lk l 11), (7, lk l 7), (8, lk l 8), (9, lk l 9), (10, lk l 10), (11, lk l 11)], rows, low⟩ r := reg (keep := [7, 8, 9, 10, 11]) (ops := c6r25) rfl (by kernel_rfl) (by kernel_rfl)
def c6l2 : ICode := (.seq (.seq c6k25 c6s24) c6s23)
def c6s26 : ICode := (.block 0 (.loop c6l2))
@[simp] theorem uc6s26 : Ex F cx (.code c6s26 :: k) s r ↔ Ex F cx (.code (.block 0 (.loop c6l2)) :: k) s r := Iff.rfl
def c6r27 : List Seg := [
  .one ⟨some 11, .mv (.c (.int .i64 0)), none⟩]
def c6k27 : ICode := .kill 82 [7, 8, 9, 10] (.ops c6r27)
@[simp] theorem uc6k27 : Ex F cx (.code c6k27 :: k) ⟨mk 82 l, rows, low⟩ r ↔ Ex F cx k ⟨mk 82 [(11, (.int .i64 0)), (7, lk l 7), (8, lk l 8), (9, lk l 9), (10, lk l 10)], rows, low⟩ r := reg (keep := [7, 8, 9, 10]) (ops := c6r27) rfl (by kernel_rfl) (by kernel_rfl)
def c6s28 : ICode := (.seq (.seq c6k27 c6s26) c6s1)
@[simp] theorem uc6s28 : Ex F cx (.code c6s28 :: k) s r ↔ Ex F cx (.code (.seq (.seq c6k27 c6s26) c6s1) :: k) s r := Iff.rfl
def c6r29 : List Seg := [
  .one ⟨some 28, .mv (.t 2), none⟩,
  .one ⟨some 29, .call [] (.c (.func 21 [])) [(.t 28), (.c (.int .i64 8))], none⟩,
  .one ⟨some 10, .mv (.t 29), none⟩]
def c6k29 : ICode := .kill 82 [2, 7, 8, 9] (.ops c6r29)
@[simp] theorem uc6k29 : Ex F cx (.code c6k29 :: k) ⟨mk 82 l, rows, low⟩ r ↔ bnd (Ret F 21 [lk l 2, (.int .i64 8)] rows) fun q0 => Ex F cx k ⟨mk 82 [(10, q0.1), (29, q0.1), (28, lk l 2), (2, lk l 2), (7, lk l 7), (8, lk l 8), (9, lk l 9)], q0.2.1, (lowO low q0.2.2)⟩ r := reg (keep := [2, 7, 8, 9]) (ops := c6r29) rfl (by kernel_rfl) (by kernel_rfl)
def c6s30 : ICode := (.seq c6k29 c6s28)
@[simp] theorem uc6s30 : Ex F cx (.code c6s30 :: k) s r ↔ Ex F cx (.code (.seq c6k29 c6s28) :: k) s r := Iff.rfl
def c6r31 : List Seg := [
  .one ⟨some 23, .mv (.t 1), none⟩,
  .one ⟨some 24, .fieldA 1 (.t 7), none⟩,
  .one ⟨some 25, .load1 (.t 24), none⟩,
  .one ⟨some 26, .len 0 (.t 25), none⟩,
  .one ⟨some 27, .call [] (.c (.func 20 [])) [(.t 23), (.t 26)], none⟩,
  .one ⟨some 9, .mv (.t 27), none⟩]
def c6k31 : ICode := .kill 82 [1, 2, 7, 8] (.ops c6r31)
@[simp] theorem uc6k31 : Ex F cx (.code c6k31 :: k) ⟨mk 82 l, rows, low⟩ r ↔ bnd (evP rows (.fieldA 1 (.c (lk l 7)))) fun v0 => bnd (evP rows (.load1 (.c v0))) fun v1 => bnd (evP rows (.len 0 (.c v1))) fun v2 => bnd (Ret F 20 [lk l 1, v2] rows) fun q3 => Ex F cx k ⟨mk 82 [(9, q3.1), (27, q3.1), (26, v2), (25, v1), (24, v0), (23, lk l 1), (1, lk l 1), (2, lk l 2), (7, lk l 7), (8, lk l 8)], q3.2.1, (lowO low q3.2.2)⟩ r := reg (keep := [1, 2, 7, 8]) (ops := c6r31) rfl (by kernel_rfl) (by kernel_rfl)
def c6s32 : ICode := (.seq c6k31 c6s30)
@[simp] theorem uc6s32 : Ex F cx (.code c6s32 :: k) s r ↔ Ex F cx (.code (.seq c6k31 c6s30) :: k) s r := Iff.rfl
def c6r33 : List Seg := [
  .one ⟨some 21, .loadN 3 (.t 7), none⟩,
  .one ⟨some 22, .call [] (.c (.func 17 [])) [(.t 21)], none⟩,
  .one ⟨some 8, .box (.c (.agg [.int .i64 0, .nilslice, .nilslice])), none⟩,
  .one ⟨none, .storeN 3 (.t 8) (.t 22), none⟩]
def c6k33 : ICode := .kill 82 [1, 2, 7] (.ops c6r33)
@[simp] theorem uc6k33 : Ex F cx (.code c6k33 :: k) ⟨mk 82 l, rows, low⟩ r ↔ bnd (evP rows (.loadN 3 (.c (lk l 7)))) fun v0 => bnd (Ret F 17 [v0] rows) fun q1 => bnd (evE q1.2.1 (lowO low q1.2.2) (.box (.c (.agg [.int .i64 0, .nilslice, .nilslice])))) fun q2 => bnd (evE q2.2.1 q2.2.2 (.storeN 3 (.c q2.1) (.c q1.1))) fun q3 => Ex F cx k ⟨mk 82 [(8, q2.1), (22, q1.1), (21, v0), (1, lk l 1), (2, lk l 2), (7, lk l 7)], q3.2.1, q3.2.2⟩ r := reg (keep := [1, 2, 7]) (ops := c6r33) rfl (by kernel_rfl) (by kernel_rfl)
def c6s34 : ICode := (.seq c6k33 c6s32)
@[simp] theorem uc6s34 : Ex F cx (.code c6s34 :: k) s r ↔ Ex F cx (.code (.seq c6k33 c6s32) :: k) s r := Iff.rfl
def c6r35 : List Seg := [
  .one ⟨some 19, .loadN 3 (.t 3), none⟩,
  .one ⟨some 20, .call [] (.c (.func 15 [])) [(.t 19)], none⟩,
  .one ⟨some 7, .box (.c (.agg [.int .i64 0, .nilslice, .nilslice])), none⟩,
  .one ⟨none, .storeN 3 (.t 7) (.t 20), none⟩]
def c6k35 : ICode := .kill 82 [1, 2, 3] (.ops c6r35)
@[simp] theorem uc6k35 : Ex F cx (.code c6k35 :: k) ⟨mk 82 l, rows, low⟩ r ↔ bnd (evP rows (.loadN 3 (.c (lk l 3)))) fun v0 => bnd (Ret F 15 [v0] rows) fun q1 => bnd (evE q1.2.1 (lowO low q1.2.2) (.box (.c (.agg [.int .i64 0, .nilslice, .nilslice])))) fun q2 => bnd (evE q2.2.1 q2.2.2 (.storeN 3 (.c q2.1) (.c q1.1))) fun q3 => Ex F cx k ⟨mk 82 [(7, q2.1), (20, q1.1), (19, v0), (1, lk l 1), (2, lk l 2), (3, lk l 3)], q3.2.1, q3.2.2⟩ r := reg (keep := [1, 2, 3]) (ops := c6r35) rfl (by kernel_rfl) (by kernel_rfl)
def c6s36 : ICode := (.seq c6k35 c6s34)
@[simp] theorem uc6s36 : Ex F cx (.code c6s36 :: k) s r ↔ Ex F cx (.code (.seq c6k35 c6s34) :: k) s r := Iff.rfl
def c6r37 : List Seg := [
  .one ⟨some 3, .box (.t 0), none⟩,
  .one ⟨some 6, .mv (.c (.bool false)), none⟩]
def c6k37 : ICode := .kill 82 [0, 1, 2] (.ops c6r37)
@[simp] theorem uc6k37 : Ex F cx (.code c6k37 :: k) ⟨mk 82 l, rows, low⟩ r ↔ bnd (evE rows low (.box (.c (lk l 0)))) fun q0 => Ex F cx k ⟨mk 82 [(6, (.bool false)), (3, q0.1), (0, lk l 0), (1, lk l 1), (2, lk l 2)], q0.2.1, q0.2.2⟩ r := reg (keep := [0, 1, 2]) (ops := c6r37) rfl (by kernel_rfl) (by kernel_rfl)
def Jc6s8 (F : Nat → Option IFn) (cx : Ctx) (x7 x8 x9 x10 x11 x17 x18 : AV) (rows : List Row) (low : Nat) (r : AV × List Row × Nat → Prop) : Prop := Ex F cx (.code c6s8 :: .inLoop c6l5 :: .inBlock 2 :: .code c6k4 :: .inBlock 1 :: .code c6k3 :: .inLoop c6l2 :: .inBlock 0 :: .code c6s1 :: []) ⟨mk 82 [(7, x7), (8, x8), (9, x9), (10, x10), (11, x11), (17, x17), (18, x18)], rows, low⟩ r
theorem jc6s8 : Ex F cx (.code c6s8 :: .inLoop c6l5 :: .inBlock 2 :: .code c6k4 :: .inBlock 1 :: .code c6k3 :: .inLoop c6l2 :: .inBlock 0 :: .code c6s1 :: []) ⟨mk 82 l, rows, low⟩ r ↔ Jc6s8 F cx (lk l 7) (lk l 8) (lk l 9) (lk l 10) (lk l 11) (lk l 17) (lk l 18) rows low r := Ex_canon (keep := [7, 8, 9, 10, 11, 17, 18]) (by kernel_rfl)
def Lc6l5 (F : Nat → Option IFn) (cx : Ctx) (x7 x8 x9 x10 x11 x17 x18 : AV) (rows : List Row) (low : Nat) (r : AV × List Row × Nat → Prop) : Prop := Ex F cx (.code c6l5 :: .inLoop c6l5 :: .inBlock 2 :: .code c6k4 :: .inBlock 1 :: .code c6k3 :: .inLoop c6l2 :: .inBlock 0 :: .code c6s1 :: []) ⟨mk 82 [(7, x7), (8, x8), (9, x9), (10, x10), (11, x11), (17, x17), (18, x18)], rows, low⟩ r
@[simp] theorem nc6l5 : Ex F cx (.inLoop c6l5 :: .inBlock 2 :: .code c6k4 :: .inBlock 1 :: .code c6k3 :: .inLoop c6l2 :: .inBlock 0 :: .code c6s1 :: []) ⟨mk 82 l, rows, low⟩ r ↔ Lc6l5 F cx (lk l 7) (lk l 8) (lk l 9) (lk l 10) (lk l 11) (lk l 17) (lk l 18) rows low r := loopN (keep := [7, 8, 9, 10, 11, 17, 18]) (by kernel_rfl)
@[simp] theorem ec6l5 : Ex F cx (.code (.loop c6l5) :: .inBlock 2 :: .code c6k4 :: .inBlock 1 :: .code c6k3 :: .inLoop c6l2 :: .inBlock 0 :: .code c6s1 :: []) ⟨mk 82 l, rows, low⟩ r ↔ Lc6l5 F cx (lk l 7) (lk l 8) (lk l 9) (lk l 10) (lk l 11) (lk l 17) (lk l 18) rows low r := loopE (keep := [7, 8, 9, 10, 11, 17, 18]) (by kernel_rfl)
@[simp] theorem uc6l5 : Ex F cx (.code c6l5 :: k) s r ↔ Ex F cx (.code (.seq (.seq c6k10 c6s9) c6s8) :: k) s r := Iff.rfl
def Jc6s15 (F : Nat → Option IFn) (cx : Ctx) (x7 x8 x9 x10 x11 : AV) (rows : List Row) (low : Nat) (r : AV × List Row × Nat → Prop) : Prop := Ex F cx (.code c6s15 :: .inBlock 1 :: .code c6k3 :: .inLoop c6l2 :: .inBlock 0 :: .code c6s1 :: []) ⟨mk 82 [(7, x7), (8, x8), (9, x9), (10, x10), (11, x11)], rows, low⟩ r
theorem jc6s15 : Ex F cx (.code c6s15 :: .inBlock 1 :: .code c6k3 :: .inLoop c6l2 :: .inBlock 0 :: .code c6s1 :: []) ⟨mk 82 l, rows, low⟩ r ↔ Jc6s15 F cx (lk l 7) (lk l 8) (lk l 9) (lk l 10) (lk l 11) rows low r := Ex_canon (keep := [7, 8, 9, 10, 11]) (by kernel_rfl)
def Jc6s23 (F : Nat → Option IFn) (cx : Ctx) (x7 x8 x9 x10 x11 : AV) (rows : List Row) (low : Nat) (r : AV × List Row × Nat → Prop) : Prop := Ex F cx (.code c6s23 :: .inLoop c6l2 :: .inBlock 0 :: .code c6s1 :: []) ⟨mk 82 [(7, x7), (8, x8), (9, x9), (10, x10), (11, x11)], rows, low⟩ r
theorem jc6s23 : Ex F cx (.code c6s23 :: .inLoop c6l2 :: .inBlock 0 :: .code c6s1 :: []) ⟨mk 82 l, rows, low⟩ r ↔ Jc6s23 F cx (lk l 7) (lk l 8) (lk l 9) (lk l 10) (lk l 11) rows low r := Ex_canon (keep := [7, 8, 9, 10, 11]) (by kernel_rfl)
def Lc6l2 (F : Nat → Option IFn) (cx : Ctx) (x7 x8 x9 x10 x11 : AV) (rows : List Row) (low : Nat) (r : AV × List Row × Nat → Prop) : Prop := Ex F cx (.code c6l2 :: .inLoop c6l2 :: .inBlock 0 :: .code c6s1 :: []) ⟨mk 82 [(7, x7), (8, x8), (9, x9), (10, x10), (11, x11)], rows, low⟩ r
@[simp] theorem nc6l2 : Ex F cx (.inLoop c6l2 :: .inBlock 0 :: .code c6s1 :: []) ⟨mk 82 l, rows, low⟩ r ↔ Lc6l2 F cx (lk l 7) (lk l 8) (lk l 9) (lk l 10) (lk l 11) rows low r := loopN (keep := [7, 8, 9, 10, 11]) (by kernel_rfl)
@[simp] theorem ec6l2 : Ex F cx (.code (.loop c6l2) :: .inBlock 0 :: .code c6s1 :: []) ⟨mk 82 l, rows, low⟩ r ↔ Lc6l2 F cx (lk l 7) (lk l 8) (lk l 9) (lk l 10) (lk l 11) rows low r := loopE (keep := [7, 8, 9, 10, 11]) (by kernel_rfl)
@[simp] theorem uc6l2 : Ex F cx (.code c6l2 :: k) s r ↔ Ex F cx (.code (.seq (.seq c6k25 c6s24) c6s23) :: k) s r := Iff.rfl
def c6b : ICode := (.seq c6k37 c6s36)
@[simp] theorem uc6b : Ex F cx (.code c6b :: k) s r ↔ Ex F cx (.code (.seq c6k37 c6s36) :: k) s r := Iff.rfl
def c6 : IFn := ⟨82, [.t 6], c6b⟩
def h6 : List (Nat × Nat × List Nat) := [(0, (82, [0, 1, 2])), (1, (82, [1, 2, 3])), (2, (82, [1, 2, 7])), (3, (82, [1, 2, 7, 8])), (4, (82, [2, 7, 8, 9])), (5, (82, [7, 8, 9, 10])), (6, (82, [7, 8, 9, 10, 11])), (8, (82, [7, 8, 9, 10, 11])), (9, (82, [7, 8, 9, 10, 11, 12, 13, 14])), (10, (82, [7, 8, 9, 10, 11, 12, 13, 14, 15, 16])), (11, (82, [])), (12, (82, [7, 8, 9, 10, 11])), (13, (82, [7, 8, 9, 10, 11, 17])), (14, (82, [7, 8, 9, 10, 11, 17, 18])), (16, (82, [7, 8, 9, 10, 11, 17, 18])), (15, (82, [7, 8, 9, 10, 11, 17, 18])), (17, (82, [7, 8, 9, 11, 17])), (7, (82, [7, 8, 9, 10, 11])), (18, (82, []))]
theorem i6 {x0 x1 x2 : AV} (hF : F 6 = some c6) {q : AV × List Row × Option Nat} (h : Ex F (.fn [.t 6]) [.code c6b] ⟨mk 82 [(0, x0), (1, x1), (2, x2)], rows, rows.length⟩ fun r => fin rows r.1 r.2.1 r.2.2 = q) : Ret F 6 [x0, x1, x2] rows = some q := Ret_mk hF h
end Go.Abs

set_option linter.unusedVariables false
set_option linter.unusedSimpArgs false
namespace Go.Abs
abbrev G6 : Nat → Option IFn := more F 6 c6
theorem toG6 {f : Nat} {vs : List AV} {rows : List Row} {q : AV × List Row × Option Nat} (h : Ret F f vs rows = some q) : Ret G6 f vs rows = some q := Ret_ext (more_ext (by kernel_rfl)) h
/-- A law's own start: a ground, and a list of numbers. -/
structure LawIn (rows : List Row) (g lv : AV) (l : List Int) : Prop where
  g : ∃ (x : Int) (ev pv : AV) (fe fp : List Int) (m0 k0 : Nat), g = .agg [.int .i64 x, ev, pv] ∧ El rows 2 ev (nums .i64 fe) m0 ∧ m0 ≤ 9223372036854775807 ∧ El rows 3 pv (nums .i64 fp) k0 ∧ k0 ≤ 9223372036854775807
  l : IsL rows lv l
def mdN (N : Nat) (x : Int) : Int := IntKind.i64.wrap ((IntKind.u64.wrap x).tmod N)
theorem newW_shape (rows : List Row) (l : List Int) : ∃ v K, newW rows 1 (nums .i64 l) l.length = (v, rows ++ K, none) ∧ IsL (rows ++ K) v l ∧ Cp 1 v ∧ K.all (Row.under 0) = true := by
  have h := acc_El (rows := rows) (H := []) (cs := nums .i64 l) (n := l.length) (sz := 1) (by simp [nums]) (by omega)
  exact ⟨_, _, rfl, h.1, h.2, acc_und rfl nums_und⟩
section
variable {rows B : List Row} {r : AV × List Row × Nat → Prop} {low N : Nat}
set_option maxHeartbeats 8000000 in
theorem next_loop {a : Nat} {vs : List AV} {x8 x9 x10 x11 : AV} {rg : List Int} (ha : row? B a = some (.int .i64 N :: vs)) (hN : 1 ≤ N ∧ N ≤ 6) (hr : IsL B x10 rg) (hr8 : rg.length ≤ 100) (hlow : low ≤ B.length)
    (hk : ∀ (H : List Row) , H.all (Row.under 0) = true → ∀ sl : List (Nat × AV), lk sl 7 = .ptr a 0 → lk sl 8 = x8 → lk sl 9 = x9 → lk sl 11 = x11 → lk sl 17 = accV B H 1 (nums .i64 (rg.map (mdN N))) rg.length → Ex G6 (.fn [.t 6]) [.code c6k4, .inBlock 1, .code c6k3, .inLoop c6l2, .inBlock 0, .code c6s1] ⟨mk 82 sl, B ++ accR H (nums .i64 (rg.map (mdN N))), low⟩ r) :
    ∀ (d i : Nat) (H : List Row), rg.length - i = d → i ≤ rg.length → H.all (Row.under 0) = true →
    Lc6l5 G6 (.fn [.t 6]) (.ptr a 0) x8 x9 x10 x11 (accV B H 1 (nums .i64 ((rg.take i).map (mdN N))) i) (.int .i64 i) (B ++ accR H (nums .i64 ((rg.take i).map (mdN N)))) low r := by
  intro d
  induction d with
  | zero =>
    intro i H hd h1 hH
    have hi : i = rg.length := by omega
    have e : rg.take i = rg := List.take_of_length_le (by omega)
    have hr' := IsL_app hr (accR H (nums .i64 (rg.map (mdN N))))
    unfold Lc6l5
    rw [e, hi]
    simp [lenL0 hr', -uc6k4]
    refine hk H hH _ ?_ ?_ ?_ ?_ ?_ <;> simp
  | succ d ih =>
    intro i H hd h1 hH
    have hi : i < rg.length := by omega
    have hw : IntKind.i64.wrap ((i : Int) + 1) = (i : Int) + 1 := wrap64 (by omega) (by omega)
    have wN : IntKind.u64.wrap (N : Int) = N := wrapU64 (by omega) (by omega)
    have hr' := IsL_app hr (accR H (nums .i64 ((rg.take i).map (mdN N))))
    have ha' := row?_old ha (accR H (nums .i64 ((rg.take i).map (mdN N))))
    have hN0 : ¬ N = 0 := by omega
    obtain ⟨H', hH', e⟩ := acc_more (rows := B) (H := H) (sz := 1) (n := i) (cs := nums .i64 ((rg.take i).map (mdN N))) (x := [.int .i64 (mdN N (gI rg i))]) (low := low) (b := 8) (by simp [nums]; omega) rfl (by omega) (by omega) hlow hH nums_und (by simp [Row.under, AV.under, AV.ids])
    have := ih (i + 1) H' (by omega) (by omega) hH'
    have e2 : (rg.take (i + 1)).map (mdN N) = (rg.take i).map (mdN N) ++ [mdN N (gI rg i)] := by
      rw [List.take_add_one, gI_get (by omega), List.map_append]; rfl
    have e3 : nums .i64 ((rg.take i).map (mdN N)) ++ [.int .i64 (mdN N (gI rg i))] = nums .i64 ((rg.take (i + 1)).map (mdN N)) := by
      rw [e2, ← nums_app]; rfl
    rw [e3] at e
    generalize nums .i64 ((rg.take (i + 1)).map (mdN N)) = cs' at *
    generalize nums .i64 ((rg.take i).map (mdN N)) = cs at *
    have hmd : IntKind.i64.wrap ((IntKind.u64.wrap (gI rg i)).tmod N) = mdN N (gI rg i) := rfl
    unfold Lc6l5
    simp (disch := first | omega | (simp; done) | fail) [hi, lenL0 hr', idxL0 hr', loadL0 hr', ha', wN, hN0, hmd, maskE, fillA, splice, e, hw, drop_mapL]
    simpa using this
end
section
variable {B0 : List Row} {r : AV × List Row × Nat → Prop} {low N a a8 : Nat} {ev pv ev' pv' x9 : AV} {ks ps : List Nat} {fw : List Int}
set_option maxHeartbeats 16000000 in
theorem rings_loop (ha : row? B0 a = some [.int .i64 N, ev, pv]) (ha8 : row? B0 a8 = some [.int .i64 N, ev', pv']) (hg : GRd B0 (.agg [.int .i64 N, ev, pv]) N ks ps) (hg' : GRd B0 (.agg [.int .i64 N, ev', pv']) N ks ps)
    (hf : IsL B0 x9 fw) (hfl : fw.length = ks.length) (hfb : ∀ x ∈ fw, -100 ≤ x ∧ x ≤ 100) (hlow : low ≤ B0.length)
    (hk : ∀ K : List Row, K.all (Row.under 0) = true → ∀ sl, Ex G6 (.fn [.t 6]) [.code c6s1] ⟨mk 82 sl, B0 ++ K, low⟩ r) :
    ∀ (d i : Nat) (K : List Row) (x10 : AV) (rg : List Int), 2 - i = d → i ≤ 2 → K.all (Row.under 0) = true → IsL (B0 ++ K) x10 rg → Cp 1 x10 → rg.length ≤ 8 →
    Lc6l2 G6 (.fn [.t 6]) (.ptr a 0) (.ptr a8 0) x9 x10 (.int .i64 i) (B0 ++ K) low r := by
  intro d
  induction d with
  | zero =>
    intro i K x10 rg hd h1 hK hr hc h8
    have hi : i = 2 := by omega
    subst hi
    unfold Lc6l2
    simp [-uc6s1]
    exact hk K hK _
  | succ d ih =>
    intro i K x10 rg hd h1 hK hr hc h8
    have hi : i < 2 := by omega
    have hw : IntKind.i64.wrap ((i : Int) + 1) = ((i + 1 : Nat) : Int) := by rw [wrap64 (by omega) (by omega)]; omega
    have r36 := toG6 (IsRing_ret (hg'.app K) (IsL_app hf K) hfl hfb hr hc h8)
    have r37 := toG6 (RRing_ret (hg.app K) (IsL_app hf K) hfl hfb hr h8)
    rw [ring_agree hg.ok] at r37
    have ha1 := row?_old ha K
    have ha2 := row?_old ha8 K
    have hn := next_loop (r := r) (low := low) (B := B0 ++ K) (N := N) (a := a) (x8 := .ptr a8 0) (x9 := x9) (x10 := x10) (x11 := .int .i64 i) ha1 ⟨hg.ok.n1, hg.ok.n6⟩ hr (by omega) (by simp; omega) (fun H hH sl t7 t8 t9 t11 t17 => by
      have hl : (rg.map (mdN N)).length = rg.length := by simp
      have hacc := acc_El (rows := B0 ++ K) (H := H) (cs := nums .i64 (rg.map (mdN N))) (n := rg.length) (sz := 1) (by simp [nums]) (by omega)
      have := ih (i + 1) (K ++ accR H (nums .i64 (rg.map (mdN N)))) (accV (B0 ++ K) H 1 (nums .i64 (rg.map (mdN N))) rg.length) (rg.map (mdN N)) (by omega) (by omega) (by rw [List.all_append, hK, acc_und hH nums_und]; rfl) (by
        have h := hacc.1
        have e : rg.length = (rg.map (mdN N)).length := by simp
        rw [e] at h
        rw [e]
        simpa [IsL] using h) hacc.2 (by simpa using h8)
      simp [t7, t8, t9, t11, t17, hw]
      simpa using this) _ 0 [] rfl (Nat.zero_le _) rfl
    have e0 : accV (B0 ++ K) [] 1 (nums .i64 []) 0 = .nilslice := rfl
    have e1 : accR [] (nums .i64 []) = [] := rfl
    simp only [List.take_zero, List.map_nil, e0, e1, List.append_nil] at hn
    have hiI : (i : Int) < 2 := by omega
    have key : Jc6s15 G6 (.fn [.t 6]) (.ptr a 0) (.ptr a8 0) x9 x10 (.int .i64 i) (B0 ++ K) low r := by
      unfold Jc6s15
      simp
      simpa using hn
    unfold Lc6l2
    generalize ringS N (eC ks) ks.length fw rg = q at *
    cases q with
    | none =>
      simp only [rgv, rgv0] at r36 r37
      simp [hiI, ha1, ha2, seg, r36, r37, -uc6s15, jc6s15]
      simpa using key
    | some s =>
      simp only [rgv, rgv0] at r36 r37
      simp [hiI, ha1, ha2, seg, r36, r37, -uc6s15, jc6s15]
      simpa using key
end
section
variable {rows : List Row}
theorem row_end {B : List Row} {vs : List AV} : row? (B ++ [.cells vs]) B.length = some vs := by simp [row?]
theorem cell_end {B : List Row} {vs : List AV} : cells? (B ++ [.cells vs]) B.length = some vs := by simp [cells?]
theorem Und_one {X : List Row} {vs : List AV} (h : Und rows X) (hv : (Row.cells vs).under (rows.length + X.length + 1) = true) : Und rows (X ++ [.cells vs]) := Und_app h (fun y hy => by
  simp only [List.mem_singleton] at hy
  subst hy
  simpa using hv)
theorem agg_under {N : Int} {ev pv : AV} {b : Nat} (h1 : ev.under b = true) (h2 : pv.under b = true) : (Row.cells [.int .i64 N, ev, pv]).under b = true := by
  simp [Row.under, AV.under, AV.ids]
  exact ⟨by simpa [AV.under] using h1, by simpa [AV.under] using h2⟩
theorem under_mono {v : AV} {a b : Nat} (h : v.under a = true) (hab : a ≤ b) : v.under b = true := by
  have := und_mono (y := .cells [v]) (a := a) (b := b) (by simpa [Row.under] using h) hab
  simpa [Row.under] using this
theorem GRd_under {g : AV} {N : Nat} {ks ps : List Nat} (h : GRd rows g N ks ps) : ∃ ev pv, g = .agg [.int .i64 N, ev, pv] ∧ ev.under rows.length = true ∧ pv.under rows.length = true ∧ ev.one = true ∧ pv.one = true ∧ El rows 2 ev (nums .i64 (eC ks)) ks.length := by
  obtain ⟨ev, pv, e, h1, h2, h3⟩ := h.eq
  exact ⟨ev, pv, e, El_under h1, El_under h2, El_one h1, El_one h2, h1⟩
set_option maxHeartbeats 16000000 in
theorem rings_ret {gv lv rv : AV} {l rl : List Int} (h : LawIn rows gv lv l) (hr : IsL rows rv rl) (hrc : Cp 1 rv) (hA : ∀ H, Und rows H → Ret F 19 [] (rows ++ H) = some (.bool true, rows ++ H, none)) :
    Ret G6 6 [gv, lv, rv] rows = some (.bool true, rows, none) := by
  obtain ⟨x, ev, pv, fe, fp, m0, k0, rfl, he, hm, hp, hk0⟩ := h.g
  have ue := El_under he
  have up := El_under hp
  have o1 := El_one he
  have o2 := El_one hp
  let r : AV × List Row × Nat → Prop := fun r => fin rows r.1 r.2.1 r.2.2 = (.bool true, rows, none)
  -- tame
  obtain ⟨R1, hR1⟩ : ∃ R1, R1 = rows ++ [.cells [.int .i64 x, ev, pv]] := ⟨_, rfl⟩
  have hl1 : R1.length = rows.length + 1 := by simp [hR1]
  have row1 : row? R1 rows.length = some [.int .i64 x, ev, pv] := by rw [hR1]; exact row_end
  obtain ⟨N, ks, ps, g, X1, r15, u1, g1⟩ := tame_ret (rows := R1) (x := x) (hR1 ▸ El_app he _) hm (hR1 ▸ El_app hp _) hk0 (by
    rw [hl1]; exact ⟨under_mono ue (by omega), under_mono up (by omega)⟩)
  obtain ⟨ev1, pv1, rfl, ue1, up1, oe1, op1, _⟩ := GRd_under g1
  obtain ⟨B1, hB1⟩ : ∃ B1, B1 = R1 ++ X1 := ⟨_, rfl⟩
  rw [← hB1] at r15 g1 ue1 up1
  have U1 : Und rows ([.cells [.int .i64 x, ev, pv]] ++ X1) := Und_app (by
    have := Und_one (rows := rows) (X := []) (vs := [.int .i64 x, ev, pv]) Und_nil (agg_under (under_mono ue (by simp)) (under_mono up (by simp)))
    simpa using this) (by rw [← hR1]; exact u1)
  have B1e : B1 = rows ++ ([.cells [.int .i64 x, ev, pv]] ++ X1) := by rw [hB1, hR1]; simp
  obtain ⟨Y1, hY1⟩ : ∃ Y1, Y1 = [Row.cells [.int .i64 x, ev, pv]] ++ X1 := ⟨_, rfl⟩
  rw [← hY1] at U1 B1e
  obtain ⟨B2, hB2⟩ : ∃ B2, B2 = B1 ++ [.cells [.int .i64 N, ev1, pv1]] := ⟨_, rfl⟩
  have row2 : row? B2 B1.length = some [.int .i64 N, ev1, pv1] := by rw [hB2]; exact row_end
  have U2 : Und rows (Y1 ++ [.cells [.int .i64 N, ev1, pv1]]) := Und_one U1 (by
    have e : B1.length = rows.length + Y1.length := by rw [B1e]; simp
    rw [← e]
    exact agg_under (under_mono ue1 (by omega)) (under_mono up1 (by omega)))
  have B2e : B2 = rows ++ (Y1 ++ [.cells [.int .i64 N, ev1, pv1]]) := by rw [hB2, B1e]; simp
  have g2 : GRd B2 (.agg [.int .i64 N, ev1, pv1]) N ks ps := by rw [hB2]; exact g1.app _
  -- given
  obtain ⟨g', X2, r17, u2, g3⟩ := given_ret (rows := B2) g2
  obtain ⟨ev2, pv2, rfl, ue2, up2, oe2, op2, _⟩ := GRd_under g3
  obtain ⟨B3, hB3⟩ : ∃ B3, B3 = B2 ++ X2 := ⟨_, rfl⟩
  rw [← hB3] at r17 g3 ue2 up2
  obtain ⟨Y2, hY2⟩ : ∃ Y2, Y2 = (Y1 ++ [.cells [.int .i64 N, ev1, pv1]]) ++ X2 := ⟨_, rfl⟩
  have U3 : Und rows Y2 := by rw [hY2]; exact Und_app U2 (by rw [← B2e]; exact u2)
  have B3e : B3 = rows ++ Y2 := by rw [hB3, B2e, hY2]; simp
  obtain ⟨B4, hB4⟩ : ∃ B4, B4 = B3 ++ [.cells [.int .i64 N, ev2, pv2]] := ⟨_, rfl⟩
  obtain ⟨Y3, hY3⟩ : ∃ Y3, Y3 = Y2 ++ [.cells [.int .i64 N, ev2, pv2]] := ⟨_, rfl⟩
  have U4 : Und rows Y3 := by
    rw [hY3]
    refine Und_one U3 ?_
    have e : B3.length = rows.length + Y2.length := by rw [B3e]; simp
    rw [← e]
    exact agg_under (under_mono ue2 (by omega)) (under_mono up2 (by omega))
  have B4e : B4 = rows ++ Y3 := by rw [hB4, B3e, hY3]; simp
  have row4 : row? B4 B3.length = some [.int .i64 N, ev2, pv2] := by rw [hB4]; exact row_end
  have row2' : row? B4 B1.length = some [.int .i64 N, ev1, pv1] := by rw [hB4, hB3]; exact row?_old (row?_old row2 _) _
  have row1' : row? B4 B1.length = some [.int .i64 N, ev1, pv1] := by rw [hB4, hB3]; exact row?_old (row?_old row2 _) _
  have g4 : GRd B4 (.agg [.int .i64 N, ev2, pv2]) N ks ps := by rw [hB4]; exact g3.app _
  have g4' : GRd B4 (.agg [.int .i64 N, ev1, pv1]) N ks ps := by rw [hB4, hB3]; exact (g2.app _).app _
  have hL4 : IsL B4 lv l := by rw [B4e]; exact IsL_app h.l _
  have hR4 : IsL B4 rv rl := by rw [B4e]; exact IsL_app hr _
  obtain ⟨_, _, eg, eE, _⟩ := g4'.eq
  have ev1E : El B4 2 ev1 (nums .i64 (eC ks)) ks.length := by
    simp only [AV.agg.injEq, List.cons.injEq, and_true, true_and] at eg
    rw [eg.1]; exact eE
  -- numbers
  have r20 := numbers_ret hL4 (m := ks.length) (by have := g2.ok.ek; omega)
  have hnl : (nmbs l ks.length).length = ks.length := by simp [nmbs]
  obtain ⟨fv, K1, e1, f1, f2, f3⟩ := newW_shape B4 (nmbs l ks.length)
  rw [hnl] at e1
  rw [e1] at r20
  obtain ⟨B5, hB5⟩ : ∃ B5, B5 = B4 ++ K1 := ⟨_, rfl⟩
  rw [← hB5] at r20 f1
  have r21 := few_ret (rows := B5) (v := rv) (by rw [hB5]; exact IsL_app hR4 _) hrc (m := 8) (by omega)
  obtain ⟨rv2, K2, e2, q1, q2, q3⟩ := newW_shape B5 (rl.take 8)
  have htl : (rl.take 8).length = min rl.length 8 := by simp; omega
  rw [htl] at e2
  rw [e2] at r21
  obtain ⟨B6, hB6⟩ : ∃ B6, B6 = B5 ++ K2 := ⟨_, rfl⟩
  rw [← hB6] at r21 q1
  have B6e : B6 = B4 ++ (K1 ++ K2) := by rw [hB6, hB5]; simp
  have B6r : B6 = rows ++ (Y3 ++ (K1 ++ K2)) := by rw [B6e, B4e]; simp
  have hlen1 : rows.length ≤ B1.length := by rw [B1e]; simp
  have hlen3 : rows.length ≤ B3.length := by rw [B3e]; simp
  have key := rings_loop (r := r) (low := rows.length) (B0 := B6) (x9 := fv) (fw := nmbs l ks.length) (a := B1.length) (a8 := B3.length) (by rw [B6e]; exact row?_old row2' _) (by rw [B6e]; exact row?_old row4 _) (by rw [B6e]; exact g4'.app _) (by rw [B6e]; exact g4.app _)
    (by rw [hB6]; exact IsL_app f1 _) hnl (fun x hx => nmbs_ok x hx) (by rw [B6r]; simp) (fun K hK sl => by
      have hU : Und rows (Y3 ++ ((K1 ++ K2) ++ K)) := Und_app U4 (Und_0 (by rw [List.all_append, List.all_append, f3, q3, hK]; rfl))
      have := toG6 (hA _ hU)
      have e : B6 ++ K = rows ++ (Y3 ++ ((K1 ++ K2) ++ K)) := by rw [B6r]; simp
      rw [e]
      have hfin : fin rows (.bool true) (rows ++ (Y3 ++ ((K1 ++ K2) ++ K))) rows.length = (.bool true, rows, none) := by simp
      generalize rows ++ (Y3 ++ ((K1 ++ K2) ++ K)) = R at *
      simp [this, r, hfin]) 2 0 [] rv2 (rl.take 8) rfl (by omega) rfl (by rw [List.append_nil]; exact q1) q2 (by rw [htl]; omega)
  refine i6 rfl ?_
  have s0 : ∀ B : List Row, row? (B ++ [.cells [.int .i64 0, .nilslice, .nilslice]]) B.length = some [.int .i64 0, .nilslice, .nilslice] := fun B => row_end
  have low1 : lower rows.length B1.length = rows.length := lower_ge' hlen1
  have low3 : lower rows.length B3.length = rows.length := lower_ge' hlen3
  have r15' := toG6 r15
  have r17' := toG6 r17
  have r20' := toG6 r20
  rw [show ((8 : Nat) : Int) = 8 from rfl] at r21
  have r21' := toG6 r21
  have eB2 : B1 ++ [Row.cells [AV.int .i64 ↑N, ev1, pv1]] = B2 := hB2.symm
  have eB4 : B3 ++ [Row.cells [AV.int .i64 ↑N, ev2, pv2]] = B4 := hB4.symm
  have ln := evP_lenE ev1E
  simp [AV.cells, o1, o2, ← hR1, row1, seg, r15', low1, oe1, op1, cell_end, splice, eB2, row2, r17', low3, oe2, op2, eB4, row2', ln, r20', r21']
  simpa using key
end
end Go.Abs

