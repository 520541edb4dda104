/- search: gates, the price of Worst. -/
import Derived.Test.YtiejbjajbehcfaaDoorS19
set_option linter.unusedVariables false
set_option linter.unusedSimpArgs false
namespace Go.Abs
open Rd (Cp IsL_one IsL_cells IsL_tail lowO_n)
section
variable {rows : List Row}
theorem gates_ret {a b : Int} : Ret F 83 [pt a b] rows = some (.func 97 [.ptr rows.length 0], rows ++ [.cells [.int .i64 a, .int .i64 b]], none) := by
  refine i83 F83 ?_
  simp
  simp [fin, AV.ids, AV.ids.idsL, AV.plain1, AV.plain, AV.ren1, AV.ren]
theorem wprice_ret {c : List Int} {cv : AV} {a b g l r : Int} {cid : Nat} (hc : IsL rows cv c) (hr : row? rows cid = some [cv]) (h0 : 0 ≤ g) (hg : g < c.length) (hb : 0 ≤ gI c g.toNat ∧ gI c g.toNat ≤ 1000) (hl : 0 ≤ l ∧ l ≤ 200000000) (hr2 : 0 ≤ r ∧ r ≤ 200000000) :
    Ret F 58 [pt a b, .int .i64 g, .int .i64 l, .int .i64 r, .ptr cid 0] rows = some (.int .i64 (gI c g.toNat + max l r), rows, none) := by
  have hr' : ∀ L, row? (rows ++ L) cid = some [cv] := fun L => row?_old hr L
  have w : IntKind.i64.wrap (gI c g.toNat + max l r) = gI c g.toNat + max l r := wrap64 (by omega) (by omega)
  have hgn : g.toNat < c.length := by omega
  refine i58 F58 ?_
  simp (disch := first | omega | (simp; done) | fail) [hr', idxL hc, loadL hc, h0, hg, hgn, w]
end
end Go.Abs
