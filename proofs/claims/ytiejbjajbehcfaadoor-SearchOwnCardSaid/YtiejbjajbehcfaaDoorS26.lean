/- search: Worst. -/
import Derived.Test.YtiejbjajbehcfaaDoorS25
set_option linter.unusedVariables false
set_option linter.unusedSimpArgs false
namespace Go.Abs
open Rd (Cp IsL_one IsL_cells IsL_tail lowO_n)
/-- The price of a part by the worst piece. -/
def PW (c : List Int) : Int → Int → Int → Int → Int → Int := fun _ _ g l r => gI c g.toNat + max l r
theorem cost_bd {c : List Int} (hall : (c.all fun x => decide (1 ≤ x ∧ x ≤ 1000)) = true) {g : Nat} (hg : g < c.length) : 1 ≤ gI c g ∧ gI c g ≤ 1000 := by
  have := List.all_eq_true.1 hall _ (gI_mem hg)
  simpa using this
theorem PF_W {rows : List Row} {cv : AV} {c : List Int} (hc : IsL rows cv c) (hall : (c.all fun x => decide (1 ≤ x ∧ x ≤ 1000)) = true) : PF (rows ++ [.cells [cv]]) 58 [.ptr rows.length 0] c.length (PW c) := by
  refine ⟨fun L a b g l r h0 h1 h2 h3 hl hr => ?_, fun a b g l r h0 h1 h2 h3 hl hr => ?_⟩
  · have hb := cost_bd hall (g := g.toNat) (by omega)
    refine wprice_ret (IsL_app (IsL_app hc _) _) ?_ (by omega) (by omega) ⟨by omega, hb.2⟩ hl hr
    rw [List.append_assoc, row?_at0]; rfl
  · have hb := cost_bd hall (g := g.toNat) (by omega)
    unfold PW
    omega
theorem fin28 {rows : List Row} {a b : Row} {l : List Int} {p e : Int} : fin rows (.tup [.int .i64 p, nlV (rows.length + 2) l, .int .i64 e]) (rows ++ a :: b :: nlK l) rows.length = (.tup [.int .i64 p, nlV rows.length l, .int .i64 e], rows ++ nlK l, none) := by
  cases l with
  | nil => simp [fin, nlV, nlK]
  | cons x l =>
    have : ¬ rows.length + 2 < rows.length := by omega
    simp [fin, nlV, nlK, AV.plain1, AV.plain, AV.ren1, AV.ren, this]
set_option maxHeartbeats 4000000 in
/-- search.Worst, of costs that are right. -/
theorem Worst_ret {rows : List Row} {cv : AV} {c : List Int} (hc : IsL rows cv c) (hn : c.length ≤ 12) (hall : (c.all fun x => decide (1 ≤ x ∧ x ≤ 1000)) = true) :
    ∃ T, T.length = 338 ∧ Done (PW c) T c.length (c.length + 1) 0 ∧ Bnd T ∧ Ret F 28 [cv] rows = some (.tup [.int .i64 (prT T 0 c.length), nlV rows.length (tpl T c.length 0 c.length), .int .i64 0], rows ++ nlK (tpl T c.length 0 c.length), none) := by
  obtain ⟨T, hf, hT, hD, hB⟩ := filled_ret (PF_W hc hall) (n := c.length) (by omega) (by omega)
  refine ⟨T, hT, hD, hB, ?_⟩
  have hone := IsL_one hc
  have hcell := IsL_cells hc
  have h1 := fun L => Check_ret (IsL_app hc L) (by omega)
  rw [if_pos ⟨hn, hall⟩] at h1
  have hwh : ∀ L, Ret F 60 [cv] (rows ++ L) = some (pt 0 c.length, rows ++ L, none) := fun L => whole_ret (IsL_app hc L)
  have hbp := fun L => bplan_ret (bid := rows.length + 1) (rows := rows ++ .cells [cv] :: .cells (nums .i64 T) :: L) hT (show (c.length : Int) ≤ 12 by omega) (Done_Good hD) c.length 0 c.length (by omega) (by omega) (by omega) (by omega) (by rw [row?_at]; rfl)
  simp only [newL_eq] at hbp
  simp only [pt] at hwh hbp
  have i1 : idx? (c.length : Int) 13 = some c.length := by rw [idx?_ok (by omega) (by omega)]; simp
  have q1 : (nums .i64 T)[c.length]? = some (.int .i64 (prT T 0 c.length)) := by
    unfold prT
    rw [show (13 * 0 + (c.length : Int)).toNat = c.length from by omega, nums_get, gI_get (by omega)]; rfl
  have hf' : Ret F 57 [.int .i64 c.length, .func 58 [.ptr rows.length 0]] (rows ++ [.cells [cv]]) = some (.ptr (rows.length + 1) 0, rows ++ [.cells [cv], .cells (nums .i64 T)], none) := by
    rw [hf]; simp
  refine i28 F28 ?_
  simp [hone, hcell, h1, -uc28s3, jc28s3]
  unfold Jc28s3
  simp [lenL hc, hf', -uc28k0]
  rw [uc28k0]
  simp [lenL hc, hone, hcell, hwh, hbp, q1, maskE_cons, show idx? 0 13 = some 0 from rfl, show c.length < 13 by omega, Function.comp_def]
  exact fin28
/-- search.Worst, of costs that are none. -/
theorem Worst_bad {rows : List Row} {cv : AV} {c : List Int} (hc : IsL rows cv c) (hl : c.length < 4611686018427387904) (hbad : ¬ (c.length ≤ 12 ∧ (c.all fun x => decide (1 ≤ x ∧ x ≤ 1000)) = true)) : Ret F 28 [cv] rows = some (.tup [.int .i64 0, .nilslice, .int .i64 80], rows, none) := by
  have hone := IsL_one hc
  have hcell := IsL_cells hc
  have h1 := fun L => Check_ret (IsL_app hc L) hl
  rw [if_neg hbad] at h1
  refine i28 F28 ?_
  simp [hone, hcell, h1]
end Go.Abs
