/- search: filled. -/
import Derived.Test.YtiejbjajbehcfaaDoorS24
set_option linter.unusedVariables false
set_option linter.unusedSimpArgs false
namespace Go.Abs
open Rd (Cp IsL_one IsL_cells IsL_tail lowO_n)
/-- All gates of a part are tried. -/
theorem part_ok {rows B : List Row} {pf : Nat} {pcs : List AV} {res : List RV} {P : Int → Int → Int → Int → Int → Int} {n m s : Int} {T : List Int} {sl : List (Nat × AV)} {k : List Itm} {r : AV × List Row × Nat → Prop} (hPF : PF rows pf pcs n P) (hn : n ≤ 12) (hm : 1 ≤ m) (hs : 0 ≤ s) (hsm : s + m ≤ n)
    (hTB : TB rows (.func pf pcs) T B) (hT : T.length = 338) (hD : Done P T n m s) (hBd : Bnd T)
    (s3 : lk sl 3 = .ptr rows.length 0) (s5 : lk sl 5 = .ptr (rows.length + 2) 0) (s8 : lk sl 8 = .ptr B.length 0) (s9 : lk sl 9 = .ptr (B.length + 1) 0) (s34 : lk sl 34 = .func 97 [.ptr (B.length + 2) 0])
    (hend : ∀ B' T', TB rows (.func pf pcs) T' B' → T'.length = 338 → Done P T' n m (s + 1) → Bnd T' → Ex F (.fn res) k ⟨mk 102 sl, B', rows.length⟩ r) :
    Ex F (.fn res) (.code (.rf (.t 34) [35] c57f6a c57f6b) :: k) ⟨mk 102 sl, B ++ [.cells [.int .i64 s, .int .i64 (s + m)], .cells [.bool true], .cells [.int .i64 s, .int .i64 (s + m)]], rows.length⟩ r := by
  have hB := hTB.len
  have hlen : (B ++ [Row.cells [.int .i64 s, .int .i64 (s + m)], .cells [.bool true], .cells [.int .i64 s, .int .i64 (s + m)]]).length = B.length + 3 := by simp
  refine gates_rf (L := B.length + 2) (a := s) (b := s + m) (Inv := RI rows (.func pf pcs) P n m s B.length (mk 102 sl)) hs (by omega) (by omega) (by rw [mk_getO _ _ _ (by omega)]; exact s34) ?_ ?_ ?_ ?_ ?_
  · rw [List.append_assoc, row?_at]; rfl
  · rw [hlen]
    exact ⟨B, T, [], by simp [LRw], rfl, hTB, ⟨hT, hD, .inl rfl, hBd⟩, by omega, fun h => by omega⟩
  · rintro g R low ⟨B', T', G, rfl, hBN, hTB', hTG, _⟩
    rw [hlen, ← hBN]
    exact ⟨by rw [rows_at]; rfl, by rw [row?_at]; rfl⟩
  · intro g R low hg1 hg2 hI
    rw [hlen]
    exact round_ok hPF hn hm hs hsm hg1 hg2 s3 s5 s8 s9 hI
  · rintro R lw ⟨B', T', G, hR, hBN, hTB', hTG, hw1, hw2⟩
    rw [hlen]
    have hw := hw2 (by omega)
    have hR0 : (B ++ [Row.cells [.int .i64 s, .int .i64 (s + m)], .cells [.bool true], .cells [.int .i64 s, .int .i64 (s + m)]] ++ [Row.loop .ready none (mk 102 sl) [35] c57f6a c57f6b]).length = B.length + 4 := by simp
    rw [fin_lt (by rw [hR0]; omega)]
    simp only [lowO]
    have hTR : TB rows (.func pf pcs) T' R := by rw [hR]; exact hTB'.app _
    have key : ∃ R1, gc (B ++ [Row.cells [.int .i64 s, .int .i64 (s + m)], .cells [.bool true], .cells [.int .i64 s, .int .i64 (s + m)]] ++ [Row.loop .ready none (mk 102 sl) [35] c57f6a c57f6b]).length lw (.tup []) R = R1 ∧ TB rows (.func pf pcs) T' R1 ∧ R1[B.length + 3]? = some (.loop .ready none (mk 102 sl) [35] c57f6a c57f6b) := by
      have hg : R[B.length + 3]? = some (.loop .ready none (mk 102 sl) [35] c57f6a c57f6b) := by rw [hR, ← hBN, rows_at]; rfl
      rcases gc_cases (B ++ [Row.cells [.int .i64 s, .int .i64 (s + m)], .cells [.bool true], .cells [.int .i64 s, .int .i64 (s + m)]] ++ [Row.loop .ready none (mk 102 sl) [35] c57f6a c57f6b]).length lw (.tup []) R with e | ⟨e, _⟩
      · exact ⟨R, e, hTR, hg⟩
      · refine ⟨_, e, hTR.take (by rw [hR0]; omega), ?_⟩
        rw [List.getElem?_take, if_pos (by rw [hR0]; omega)]; exact hg
    obtain ⟨R1, e1, h1, h2⟩ := key
    rw [e1]
    have hlw : lower rows.length lw = rows.length := lower_ge hw1
    refine ⟨_, by unfold afterLoop; simp only [h2]; rfl, ?_⟩
    simp only [lowO, hlw, jumpI, List.nil_append]
    have h3 := h1.setN (n := B.length + 3) (x := .dead) (by omega)
    have hD' : Done P T' n m (s + 1) := Done_next hm hTG.done (BestTo_end (by omega) hTG.to)
    rcases gc_cases (B.length + 3) rows.length (.tup []) (R1.set (B.length + 3) .dead) with e | ⟨e, _⟩
    · rw [e]; exact hend _ _ h3 hTG.len hD' hTG.bnd
    · rw [e]; exact hend _ _ (h3.take (by omega)) hTG.len hD' hTG.bnd
theorem filled_a {rows : List Row} {pf : Nat} {pcs : List AV} {P : Int → Int → Int → Int → Int → Int} {n m : Int} {r : AV × List Row × Nat → Prop} (hPF : PF rows pf pcs n P) (hn : n ≤ 12) (hm : 1 ≤ m) (hmn : m ≤ n)
    (hend : ∀ B' T', TB rows (.func pf pcs) T' B' → T'.length = 338 → Done P T' n (m + 1) 0 → Bnd T' → Lc57l2 F (.fn [.t 4]) (.int .i64 n) (.ptr rows.length 0) .nilptr (.ptr (rows.length + 2) 0) (.int .i64 (m + 1)) B' rows.length r) :
    ∀ (d : Nat) (s : Int) (B : List Row) (T : List Int), (n - m + 1 - s).toNat = d → 0 ≤ s → s ≤ n - m + 1 → TB rows (.func pf pcs) T B → T.length = 338 → Done P T n m s → Bnd T →
    Lc57l4 F (.fn [.t 4]) (.int .i64 n) (.ptr rows.length 0) .nilptr (.ptr (rows.length + 2) 0) (.int .i64 m) (.int .i64 s) B rows.length r := by
  have w1 : IntKind.i64.wrap (m + 1) = m + 1 := wrap64 (by omega) (by omega)
  intro d
  induction d with
  | zero =>
    intro s B T hd h0 h1 hTB hT hD hBd
    have w2 : IntKind.i64.wrap (s + m) = s + m := wrap64 (by omega) (by omega)
    unfold Lc57l4
    simp [w1, w2, show ¬ (s + m ≤ n) by omega]
    exact hend B T hTB hT (Done_len (by omega) hD) hBd
  | succ d ih =>
    intro s B T hd h0 h1 hTB hT hD hBd
    have w2 : IntKind.i64.wrap (s + m) = s + m := wrap64 (by omega) (by omega)
    have w3 : IntKind.i64.wrap (s + 1) = s + 1 := wrap64 (by omega) (by omega)
    have hB := hTB.len
    have hl : ∀ k, lower rows.length (B.length + k) = rows.length := fun k => lower_ge (by omega)
    have hl0 : lower rows.length B.length = rows.length := lower_ge (by omega)
    have hg := fun R => gates_ret (rows := R) (a := s) (b := s + m)
    simp only [pt] at hg
    unfold Lc57l4
    simp [w1, w2, show s + m ≤ n by omega, fillA, splice, seg, hg, hl, hl0]
    refine part_ok (T := T) hPF hn hm h0 (by omega) hTB hT hD hBd (by simp) (by simp) (by simp) (by simp) (by simp) ?_
    intro B' T' hTB' hT' hD' hBd'
    have := ih (s + 1) B' T' (by omega) (by omega) (by omega) hTB' hT' hD' hBd'
    simpa [w3] using this
theorem filled_m {rows : List Row} {pf : Nat} {pcs : List AV} {P : Int → Int → Int → Int → Int → Int} {n : Int} {r : AV × List Row × Nat → Prop} (hPF : PF rows pf pcs n P) (hn : n ≤ 12) (hn0 : 0 ≤ n)
    (hend : ∀ B' T', TB rows (.func pf pcs) T' B' → T'.length = 338 → Done P T' n (n + 1) 0 → Bnd T' → r (.ptr (rows.length + 1) 0, B', rows.length)) :
    ∀ (d : Nat) (m : Int) (B : List Row) (T : List Int), (n + 1 - m).toNat = d → 1 ≤ m → m ≤ n + 1 → TB rows (.func pf pcs) T B → T.length = 338 → Done P T n m 0 → Bnd T →
    Lc57l2 F (.fn [.t 4]) (.int .i64 n) (.ptr rows.length 0) .nilptr (.ptr (rows.length + 2) 0) (.int .i64 m) B rows.length r := by
  intro d
  induction d with
  | zero =>
    intro m B T hd h0 h1 hTB hT hD hBd
    have : m = n + 1 := by omega
    subst this
    unfold Lc57l2
    simp [show ¬ (n + 1 ≤ n) by omega, hTB.g2]
    exact hend B T hTB hT hD hBd
  | succ d ih =>
    intro m B T hd h0 h1 hTB hT hD hBd
    unfold Lc57l2
    simp [show m ≤ n by omega]
    have := filled_a (r := r) hPF hn h0 (by omega) (fun B' T' hTB' hT' hD' hBd' => ih (m + 1) B' T' (by omega) (by omega) (by omega) hTB' hT' hD' hBd') _ 0 B T rfl (Int.le_refl 0) (by omega) hTB hT hD hBd
    simpa using this
/-- filled. -/
theorem filled_ret {rows : List Row} {pf : Nat} {pcs : List AV} {P : Int → Int → Int → Int → Int → Int} {n : Int} (hPF : PF rows pf pcs n P) (hn : n ≤ 12) (hn0 : 0 ≤ n) :
    ∃ T, Ret F 57 [.int .i64 n, .func pf pcs] rows = some (.ptr rows.length 0, rows ++ [.cells (nums .i64 T)], none) ∧ T.length = 338 ∧ Done P T n (n + 1) 0 ∧ Bnd T := by
  have := Ret_mk' F57 (vs := [.int .i64 n, .func pf pcs]) (rows := rows) (R := fun q => ∃ T, q = (.ptr rows.length 0, rows ++ [.cells (nums .i64 T)], none) ∧ T.length = 338 ∧ Done P T n (n + 1) 0 ∧ Bnd T) (show Ex F (.fn [.t 4]) [.code c57b] ⟨mk 102 [(0, .int .i64 n), (1, .func pf pcs)], rows, rows.length⟩ _ from ?_)
  · obtain ⟨q, e, T, rfl, h⟩ := this
    exact ⟨T, e, h⟩
  · have := filled_m (r := fun r => ∃ T, fin rows r.1 r.2.1 r.2.2 = (.ptr rows.length 0, rows ++ [.cells (nums .i64 T)], none) ∧ T.length = 338 ∧ Done P T n (n + 1) 0 ∧ Bnd T) hPF hn hn0 (by
      intro B' T' hTB hT hD hBd
      refine ⟨T', ?_, hT, hD, hBd⟩
      have e := hTB.c1
      unfold fin
      simp [e, AV.plain1, AV.plain, AV.ren1, AV.ren]) _ 1 (rows ++ (.cells [.func pf pcs] :: .cells (nums .i64 (List.replicate 338 0)) :: .cells [.ptr (rows.length + 1) 0] :: [])) (List.replicate 338 0) rfl (Int.le_refl 1) (by omega) ⟨[], rfl⟩ List.length_replicate (Done_0 hn) Bnd_0
    have hz : evP (rows ++ [.cells [.func pf pcs]]) (.mkagg (List.replicate 338 (.int .i64 0)) []) = some (.agg (nums .i64 (List.replicate 338 0))) := by rw [← nums_rep]; rfl
    generalize List.replicate 338 (0 : Int) = T0 at this hz
    simp [hz, -evP_mkagg, -List.reduceReplicate]
    simpa using this
end Go.Abs
