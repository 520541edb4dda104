/- The texts that the row uses, part 5. -/
import Derived.Test.YtichbmhjgbjiiaaDoorBH4
import Derived.AtR
import Derived.Orders
import Derived.KernelRfl
import Derived.Laws.Cells
import Derived.Laws.CopyRow
import Derived.Laws.Append
import Derived.Laws.AppendOwn
import Derived.Laws.Entries
import Derived.ArgAppend
import Derived.ChangeKeysEq
import Derived.WideLaws
import Derived.Laws.Small
import Derived.Laws.StructEq
import Derived.Laws.Cover3
import Derived.Laws.Tables
import Derived.Laws.Rows
import Derived.Below
import Derived.Laws.IdiomCopy
import Derived.RangeFuncNested
import Derived.Test.YtichbmhjgbjiiaaDoorProg
import Derived.Test.YtichbmhjgbjiiaaDoorRows
import Derived.ProofKit
import Derived.LaidMore
import Derived.OpenShut
import Derived.Stop.Joined
import Derived.ChangeSlices
import Derived.SizedLaws
import Derived.SevenTiedAt
import Derived.WalkKit
import Derived.ShutString
import Derived.ChangeOld
import Derived.Carry
set_option linter.unusedVariables false
set_option linter.unusedSimpArgs false
namespace Go.Abs
def eok (N : Int) (fl : List Int) (i : Nat) : Bool := decide (0 ≤ gI fl (i * 2) ∧ gI fl (i * 2) < gI fl (i * 2 + 1) ∧ gI fl (i * 2 + 1) < N ∧ (0 < i → cmpL [gI fl ((i - 1) * 2), gI fl ((i - 1) * 2 + 1)] [gI fl (i * 2), gI fl (i * 2 + 1)] < 0))
def eAll (N : Int) (fl : List Int) : Nat → Nat → Bool
 | 0, _ => true
 | d + 1, i => eok N fl i && eAll N fl d (i + 1)
def pok (fe fl : List Int) (m i : Nat) : Bool := decide (gI fl (i * 3) < gI fl (i * 3 + 1) ∧ gI fl (i * 3 + 1) < gI fl (i * 3 + 2) ∧ (0 < i → cmpL [gI fl ((i - 1) * 3), gI fl ((i - 1) * 3 + 1), gI fl ((i - 1) * 3 + 2)] [gI fl (i * 3), gI fl (i * 3 + 1), gI fl (i * 3 + 2)] < 0) ∧
 0 ≤ pix fe (gI fl (i * 3)) (gI fl (i * 3 + 1)) m 0 ∧ 0 ≤ pix fe (gI fl (i * 3)) (gI fl (i * 3 + 2)) m 0 ∧ 0 ≤ pix fe (gI fl (i * 3 + 1)) (gI fl (i * 3 + 2)) m 0)
def pAll (fe fl : List Int) (m : Nat) : Nat → Nat → Bool
 | 0, _ => true
 | d + 1, i => pok fe fl m i && pAll fe fl m d (i + 1)
def gndB (N : Int) (fe : List Int) (m : Nat) (fp : List Int) (k : Nat) : Bool := decide (1 ≤ N ∧ N ≤ 6 ∧ m ≤ 10 ∧ k ≤ 6) && (eAll N fe m 0 && pAll fe fp m k 0)
section
variable {rows : List Row} {N : Int} {ev pv : AV} {fe fp : List Int} {m k : Nat} {r : AV × List Row × Nat → Prop}
abbrev cR (rows : List Row) (N : Int) (ev pv : AV) (H : List Row) : List Row := rows ++ .cells [.int .i64 N, ev, pv] :: H
abbrev cQ0 (rows : List Row) (b : Bool) : AV × List Row × Nat → Prop := fun r => fin rows r.1 r.2.1 r.2.2 = (.int .i64 (if b then 0 else 30), rows, none)
@[simp] theorem cQ0_t {R : List Row} : cQ0 rows true (.int .i64 0, R, rows.length) ↔ True := by simp [cQ0]
@[simp] theorem cQ0_f {R : List Row} : cQ0 rows false (.int .i64 30, R, rows.length) ↔ True := by simp [cQ0]
set_option maxHeartbeats 16000000 in
theorem three_loop (he : El rows 2 ev (nums .i64 fe) m) (hm : m ≤ 1000000) {a0 a1 a2 : Int} {H : List Row} {n : Nat} {B : Bool}
  (hbad : ¬ (0 ≤ pix fe a0 a1 m 0 ∧ 0 ≤ pix fe a0 a2 m 0 ∧ 0 ≤ pix fe a1 a2 m 0) → B = false)
  {pt : Nat} (ht : row? (cR rows N ev pv H) pt = some (nums .i64 [a0, a1, a0, a2, a1, a2]))
  (hk : (0 ≤ pix fe a0 a1 m 0 ∧ 0 ≤ pix fe a0 a2 m 0 ∧ 0 ≤ pix fe a1 a2 m 0) → ∀ H', Lc59l2 F (.fn [.t 2]) (.ptr rows.length 0) pv (.int .i64 k) (.int .i64 ((n + 1 : Nat) : Int)) (cR rows N ev pv H') rows.length (cQ0 rows B)) (hn : n ≤ 1000000) :
  Lc59l4 F (.fn [.t 2]) (.ptr rows.length 0) pv (.int .i64 k) (.int .i64 n) (.slice pt 0 3 (.at_ 3)) (.int .i64 3) (.int .i64 0) (cR rows N ev pv H) rows.length (cQ0 rows B) := by
 have hw : IntKind.i64.wrap ((n : Int) + 1) = ((n + 1 : Nat) : Int) := by rw [wrap64 (by omega) (by omega)]; omega
 have hT : ∀ L, row? (cR rows N ev pv (H ++ L)) pt = some (nums .i64 [a0, a1, a0, a2, a1, a2]) := fun L => by
  have := row?_old (L := L) ht
  simpa using this
 -- one of the three
 have one : ∀ (i : Nat) (x y : Int), i < 3 → gI [a0, a1, a0, a2, a1, a2] (i * 2) = x → gI [a0, a1, a0, a2, a1, a2] (i * 2 + 1) = y → ∀ L : List Row,
   (0 ≤ pix fe x y m 0 → Lc59l4 F (.fn [.t 2]) (.ptr rows.length 0) pv (.int .i64 k) (.int .i64 n) (.slice pt 0 3 (.at_ 3)) (.int .i64 3) (.int .i64 ((i + 1 : Nat) : Int)) (cR rows N ev pv (H ++ (L ++ [.cells [.int .i64 x, .int .i64 y]]))) rows.length (cQ0 rows B)) → (¬ 0 ≤ pix fe x y m 0 → B = false) →
   Lc59l4 F (.fn [.t 2]) (.ptr rows.length 0) pv (.int .i64 k) (.int .i64 n) (.slice pt 0 3 (.at_ 3)) (.int .i64 3) (.int .i64 i) (cR rows N ev pv (H ++ L)) rows.length (cQ0 rows B) := by
  intro i x y hi hx hy L h1 h2
  have hTL := hT L
  have htk : List.take 2 (List.drop (i * 2) (nums .i64 [a0, a1, a0, a2, a1, a2])) = [.int .i64 x, .int .i64 y] := by
   rw [← hx, ← hy]
   match i, hi with
   | 0, _ => rfl
   | 1, _ => rfl
   | 2, _ => rfl
  have hTn : (nums .i64 [a0, a1, a0, a2, a1, a2]).length = 6 := rfl
  generalize nums .i64 [a0, a1, a0, a2, a1, a2] = TT at hTL htk hTn
  have hE := Contains2_ret (El_app he (.cells [.int .i64 N, ev, pv] :: (H ++ (L ++ [.cells [.int .i64 x, .int .i64 y]])))) hm (a := x) (b := y)
  have hwi : IntKind.i64.wrap ((i : Int) + 1) = ((i + 1 : Nat) : Int) := by rw [wrap64 (by omega) (by omega)]; omega
  have hb : i * 2 + 2 ≤ 6 := by omega
  by_cases hc : 0 ≤ pix fe x y m 0
  ·have h1 := h1 hc
   unfold Lc59l4
   simp [hi, show ((i : Int) < 3) by omega, hTL, htk, hTn, hb, seg, splice, hE, hc, hwi, lower_ge']
   simpa using h1
  ·have h2 := h2 hc
   unfold Lc59l4
   simp [hi, show ((i : Int) < 3) by omega, hTL, htk, hTn, hb, seg, splice, hE, hc, hwi, lower_ge', h2]
 have fin3 : (0 ≤ pix fe a0 a1 m 0 ∧ 0 ≤ pix fe a0 a2 m 0 ∧ 0 ≤ pix fe a1 a2 m 0) → ∀ L : List Row, Lc59l4 F (.fn [.t 2]) (.ptr rows.length 0) pv (.int .i64 k) (.int .i64 n) (.slice pt 0 3 (.at_ 3)) (.int .i64 3) (.int .i64 ((2 + 1 : Nat) : Int)) (cR rows N ev pv (H ++ L)) rows.length (cQ0 rows B) := by
  intro h L
  have := hk h (H ++ L)
  unfold Lc59l4
  simp [hw]
  simpa using this
 have := one 0 a0 a1 (by omega) rfl rfl [] (fun c1 => one 1 a0 a2 (by omega) rfl rfl _ (fun c2 => one 2 a1 a2 (by omega) rfl rfl _ (fun c3 => fin3 ⟨c1, c2, c3⟩ _) (fun h => hbad fun hh => h hh.2.2)) (fun h => hbad fun hh => h hh.2.1)) (fun h => hbad fun hh => h hh.1)
 simpa using this

set_option maxHeartbeats 16000000 in
theorem plate_loop (he : El rows 2 ev (nums .i64 fe) m) (hm : m ≤ 1000000) (hp : El rows 3 pv (nums .i64 fp) k) (hk : k ≤ 1000000) : ∀ (d i : Nat) (H : List Row), k - i = d → i ≤ k →
  Lc59l2 F (.fn [.t 2]) (.ptr rows.length 0) pv (.int .i64 k) (.int .i64 i) (cR rows N ev pv H) rows.length (cQ0 rows (pAll fe fp m d i)) := by
 intro d
 induction d with
 |
  zero =>
  intro i H hd h1
  have hi : i = k := by omega
  subst hi
  unfold Lc59l2
  simp [pAll]
 |
  succ d ih =>
  intro i H hd h1
  have hi : i < k := by omega
  have hw : IntKind.i64.wrap ((i : Int) + 1) = ((i + 1 : Nat) : Int) := by rw [wrap64 (by omega) (by omega)]; omega
  have hl := El_num_len hp
  have hp' := El_app hp (.cells [.int .i64 N, ev, pv] :: H)
  have e1 := idxW hp' hi
  have e2 := ldW3 hp' hi
  simp only [pAll]
  -- the three edges
  have three : ∀ (x6 : AV) (H2 : List Row), row? (cR rows N ev pv (H ++ H2)) (rows.length + (H.length + 1)) = some [.int .i64 (gI fp (i * 3)), .int .i64 (gI fp (i * 3 + 1)), .int .i64 (gI fp (i * 3 + 2))] →
    ∀ (B : Bool), (¬ (0 ≤ pix fe (gI fp (i * 3)) (gI fp (i * 3 + 1)) m 0 ∧ 0 ≤ pix fe (gI fp (i * 3)) (gI fp (i * 3 + 2)) m 0 ∧ 0 ≤ pix fe (gI fp (i * 3 + 1)) (gI fp (i * 3 + 2)) m 0) → B = false) →
    ((0 ≤ pix fe (gI fp (i * 3)) (gI fp (i * 3 + 1)) m 0 ∧ 0 ≤ pix fe (gI fp (i * 3)) (gI fp (i * 3 + 2)) m 0 ∧ 0 ≤ pix fe (gI fp (i * 3 + 1)) (gI fp (i * 3 + 2)) m 0) → B = pAll fe fp m d (i + 1)) →
    Jc59s16 F (.fn [.t 2]) (.ptr rows.length 0) (.ptr (rows.length + (H.length + 1)) 0) pv (.int .i64 k) (.int .i64 i) (cR rows N ev pv (H ++ H2)) rows.length (cQ0 rows B) := by
   intro x6 H2 hr B hB1 hB2
   have hlr := row?_lt hr
   have t3 := three_loop (rows := rows) (N := N) (ev := ev) (pv := pv) (fe := fe) (m := m) (k := k) he hm (a0 := gI fp (i * 3)) (a1 := gI fp (i * 3 + 1)) (a2 := gI fp (i * 3 + 2)) (H := H ++ (H2 ++ [.cells (nums .i64 [gI fp (i * 3), gI fp (i * 3 + 1), gI fp (i * 3), gI fp (i * 3 + 2), gI fp (i * 3 + 1), gI fp (i * 3 + 2)])])) (n := i) (B := B) hB1 (pt := (cR rows N ev pv (H ++ H2)).length) (by
    have : cR rows N ev pv (H ++ (H2 ++ [.cells (nums .i64 [gI fp (i * 3), gI fp (i * 3 + 1), gI fp (i * 3), gI fp (i * 3 + 2), gI fp (i * 3 + 1), gI fp (i * 3 + 2)])])) = cR rows N ev pv (H ++ H2) ++ [.cells (nums .i64 [gI fp (i * 3), gI fp (i * 3 + 1), gI fp (i * 3), gI fp (i * 3 + 2), gI fp (i * 3 + 1), gI fp (i * 3 + 2)])] := by simp
    rw [this]
    unfold row?
    simp) (fun h H' => by
    rw [hB2 h]
    exact ih (i + 1) H' (by omega) (by omega)) (by omega)
   have x0 : idx? 0 3 = some 0 := rfl
   have x1 : idx? 1 3 = some 1 := rfl
   have x2 : idx? 2 3 = some 2 := rfl
   unfold Jc59s16
   simp [x0, x1, x2, hr, fillA, splice]
   simpa [nums] using t3
  have x0 : idx? 0 3 = some 0 := rfl
  have x1 : idx? 1 3 = some 1 := rfl
  have x2 : idx? 2 3 = some 2 := rfl
  by_cases c1 : gI fp (i * 3) < gI fp (i * 3 + 1)
  ·by_cases c2 : gI fp (i * 3 + 1) < gI fp (i * 3 + 2)
   ·by_cases c3 : 0 < i
    ·have hwm : IntKind.i64.wrap ((i : Int) - 1) = ((i - 1 : Nat) : Int) := by rw [wrap64 (by omega) (by omega)]; omega
     have hR : row? (cR rows N ev pv (H ++ [.cells [.int .i64 (gI fp (i * 3)), .int .i64 (gI fp (i * 3 + 1)), .int .i64 (gI fp (i * 3 + 2))]])) (rows.length + (H.length + 1)) = some [.int .i64 (gI fp (i * 3)), .int .i64 (gI fp (i * 3 + 1)), .int .i64 (gI fp (i * 3 + 2))] := by
      unfold row?; simp
     have hp2 := El_app hp (.cells [.int .i64 N, ev, pv] :: (H ++ [.cells [.int .i64 (gI fp (i * 3)), .int .i64 (gI fp (i * 3 + 1)), .int .i64 (gI fp (i * 3 + 2))]]))
     have e3 := idxW hp2 (i := i - 1) (by omega)
     have hA := IsL_W hp2 (i := i - 1) (by omega) (c := .at_ 3)
     rw [take3 (by omega)] at hA
     have hB : IsL (cR rows N ev pv (H ++ [.cells [.int .i64 (gI fp (i * 3)), .int .i64 (gI fp (i * 3 + 1)), .int .i64 (gI fp (i * 3 + 2))]])) (.slice (rows.length + (H.length + 1)) 0 3 (.at_ 3)) [gI fp (i * 3), gI fp (i * 3 + 1), gI fp (i * 3 + 2)] := IsL_mk (n := 0) (off := 0) (c := .at_ 3) (l := [gI fp (i * 3), gI fp (i * 3 + 1), gI fp (i * 3 + 2)]) hR rfl
     have hC := Compare_ret hA hB (by simp) (by simp)
     generalize hcm : cmpL [gI fp ((i - 1) * 3), gI fp ((i - 1) * 3 + 1), gI fp ((i - 1) * 3 + 2)] [gI fp (i * 3), gI fp (i * 3 + 1), gI fp (i * 3 + 2)] = cm at hC
     by_cases c4 : cm < 0
     ·have h3 := three .any [.cells [.int .i64 (gI fp (i * 3)), .int .i64 (gI fp (i * 3 + 1)), .int .i64 (gI fp (i * 3 + 2))]] hR (pok fe fp m i && pAll fe fp m d (i + 1)) (fun h => by
       have : pok fe fp m i = false := decide_eq_false (fun hh => h hh.2.2.2)
       rw [this]; rfl) (fun h => by
       have : pok fe fp m i = true := decide_eq_true ⟨c1, c2, fun _ => by rw [hcm]; exact c4, h⟩
       rw [this]; rfl)
      unfold Lc59l2
      simp [hi, e1, e2, e3, seg, splice, lower_ge', x0, x1, x2, c1, c2, c3, hwm, sliceAV, sliceV, bound?, hC, c4, show ¬ (gI fp (i * 3 + 1) ≤ gI fp (i * 3)) by omega, show ¬ (gI fp (i * 3 + 2) ≤ gI fp (i * 3 + 1)) by omega, show ¬ (0 ≤ cm) by omega, -uc59s16, jc59s16]
      simpa using h3
     ·have hpk : pok fe fp m i = false := decide_eq_false (fun hh => by have := hh.2.2.1 c3; rw [hcm] at this; omega)
      unfold Lc59l2
      simp [hi, e1, e2, e3, seg, splice, lower_ge', x0, x1, x2, c1, c2, c3, hwm, sliceAV, sliceV, bound?, hC, hpk, show ¬ (gI fp (i * 3 + 1) ≤ gI fp (i * 3)) by omega, show ¬ (gI fp (i * 3 + 2) ≤ gI fp (i * 3 + 1)) by omega, show (0 ≤ cm) by omega]
    ·have i0 : i = 0 := by omega
     have hR : row? (cR rows N ev pv (H ++ [.cells [.int .i64 (gI fp (i * 3)), .int .i64 (gI fp (i * 3 + 1)), .int .i64 (gI fp (i * 3 + 2))]])) (rows.length + (H.length + 1)) = some [.int .i64 (gI fp (i * 3)), .int .i64 (gI fp (i * 3 + 1)), .int .i64 (gI fp (i * 3 + 2))] := by
      unfold row?; simp
     have h3 := three .any [.cells [.int .i64 (gI fp (i * 3)), .int .i64 (gI fp (i * 3 + 1)), .int .i64 (gI fp (i * 3 + 2))]] hR (pok fe fp m i && pAll fe fp m d (i + 1)) (fun h => by
       have : pok fe fp m i = false := decide_eq_false (fun hh => h hh.2.2.2)
       rw [this]; rfl) (fun h => by
       have : pok fe fp m i = true := decide_eq_true ⟨c1, c2, fun h0 => absurd h0 c3, h⟩
       rw [this]; rfl)
     unfold Lc59l2
     simp [hi, e1, e2, seg, splice, lower_ge', x0, x1, x2, c1, c2, c3, show ¬ (gI fp (i * 3 + 1) ≤ gI fp (i * 3)) by omega, show ¬ (gI fp (i * 3 + 2) ≤ gI fp (i * 3 + 1)) by omega, -uc59s16, jc59s16]
     simpa using h3
   ·have hpk : pok fe fp m i = false := decide_eq_false (fun hh => c2 hh.2.1)
    unfold Lc59l2
    simp [hi, e1, e2, seg, splice, lower_ge', x0, x1, x2, c1, hpk, show ¬ (gI fp (i * 3 + 1) ≤ gI fp (i * 3)) by omega, show (gI fp (i * 3 + 2) ≤ gI fp (i * 3 + 1)) by omega]
  ·have hpk : pok fe fp m i = false := decide_eq_false (fun hh => c1 hh.1)
   unfold Lc59l2
   simp [hi, e1, e2, seg, splice, lower_ge', x0, x1, x2, hpk, show (gI fp (i * 3 + 1) ≤ gI fp (i * 3)) by omega]

set_option maxHeartbeats 16000000 in
theorem edges_loop (he : El rows 2 ev (nums .i64 fe) m) (hm : m ≤ 1000000) (hp : El rows 3 pv (nums .i64 fp) k) (hk : k ≤ 1000000) : ∀ (d i : Nat) (H : List Row), m - i = d → i ≤ m →
  Lc59l28 F (.fn [.t 2]) (.ptr rows.length 0) ev (.int .i64 m) (.int .i64 i) (cR rows N ev pv H) rows.length (cQ0 rows (eAll N fe d i && pAll fe fp m k 0)) := by
 intro d
 induction d with
 |
  zero =>
  intro i H hd h1
  have hi : i = m := by omega
  subst hi
  have := plate_loop (rows := rows) (N := N) he hm hp hk k 0 H (by omega) (by omega)
  have hp' := El_app hp (.cells [.int .i64 N, ev, pv] :: H)
  unfold Lc59l28
  simp [eAll, lenW hp']
  simpa using this
 |
  succ d ih =>
  intro i H hd h1
  have hi : i < m := by omega
  have hw : IntKind.i64.wrap ((i : Int) + 1) = ((i + 1 : Nat) : Int) := by rw [wrap64 (by omega) (by omega)]; omega
  have hl := El_num_len he
  have he' := El_app he (.cells [.int .i64 N, ev, pv] :: H)
  have e1 := idxW he' hi
  have e2 := ldW2 he' hi
  simp only [eAll]
  have x0 : idx? 0 2 = some 0 := rfl
  have x1 : idx? 1 2 = some 1 := rfl
  have next := ih (i + 1) (H ++ [.cells [.int .i64 (gI fe (i * 2)), .int .i64 (gI fe (i * 2 + 1))]]) (by omega) (by omega)
  by_cases c0 : 0 ≤ gI fe (i * 2)
  ·by_cases c1 : gI fe (i * 2) < gI fe (i * 2 + 1)
   ·by_cases c2 : gI fe (i * 2 + 1) < N
    ·by_cases c3 : 0 < i
     ·have hwm : IntKind.i64.wrap ((i : Int) - 1) = ((i - 1 : Nat) : Int) := by rw [wrap64 (by omega) (by omega)]; omega
      have hR : row? (cR rows N ev pv (H ++ [.cells [.int .i64 (gI fe (i * 2)), .int .i64 (gI fe (i * 2 + 1))]])) (rows.length + (H.length + 1)) = some [.int .i64 (gI fe (i * 2)), .int .i64 (gI fe (i * 2 + 1))] := by
       unfold row?; simp
      have he2 := El_app he (.cells [.int .i64 N, ev, pv] :: (H ++ [.cells [.int .i64 (gI fe (i * 2)), .int .i64 (gI fe (i * 2 + 1))]]))
      have e3 := idxW he2 (i := i - 1) (by omega)
      have hA := IsL_W he2 (i := i - 1) (by omega) (c := .at_ 2)
      rw [take2 (by omega)] at hA
      have hB : IsL (cR rows N ev pv (H ++ [.cells [.int .i64 (gI fe (i * 2)), .int .i64 (gI fe (i * 2 + 1))]])) (.slice (rows.length + (H.length + 1)) 0 2 (.at_ 2)) [gI fe (i * 2), gI fe (i * 2 + 1)] := IsL_mk (n := 0) (off := 0) (c := .at_ 2) (l := [gI fe (i * 2), gI fe (i * 2 + 1)]) hR rfl
      have hC := Compare_ret hA hB (by simp) (by simp)
      generalize hcm : cmpL [gI fe ((i - 1) * 2), gI fe ((i - 1) * 2 + 1)] [gI fe (i * 2), gI fe (i * 2 + 1)] = cm at hC
      by_cases c4 : cm < 0
      ·have hek : eok N fe i = true := decide_eq_true ⟨c0, c1, c2, fun _ => by rw [hcm]; exact c4⟩
       unfold Lc59l28
       simp [hi, e1, e2, e3, seg, splice, lower_ge', x0, x1, c0, c1, c2, c3, hwm, sliceAV, sliceV, bound?, hC, c4, hek, hw, show ¬ (gI fe (i * 2) < 0) by omega, show ¬ (gI fe (i * 2 + 1) ≤ gI fe (i * 2)) by omega, show ¬ (N ≤ gI fe (i * 2 + 1)) by omega, show ¬ (0 ≤ cm) by omega]
       simpa using next
      ·have hek : eok N fe i = false := decide_eq_false (fun hh => by have := hh.2.2.2 c3; rw [hcm] at this; omega)
       unfold Lc59l28
       simp [hi, e1, e2, e3, seg, splice, lower_ge', x0, x1, c0, c1, c2, c3, hwm, sliceAV, sliceV, bound?, hC, hek, show ¬ (gI fe (i * 2) < 0) by omega, show ¬ (gI fe (i * 2 + 1) ≤ gI fe (i * 2)) by omega, show ¬ (N ≤ gI fe (i * 2 + 1)) by omega, show (0 ≤ cm) by omega]
     ·have hek : eok N fe i = true := decide_eq_true ⟨c0, c1, c2, fun h => absurd h c3⟩
      unfold Lc59l28
      simp [hi, e1, e2, seg, splice, lower_ge', x0, x1, c0, c1, c2, c3, hek, hw, show ¬ (gI fe (i * 2) < 0) by omega, show ¬ (gI fe (i * 2 + 1) ≤ gI fe (i * 2)) by omega, show ¬ (N ≤ gI fe (i * 2 + 1)) by omega]
      simpa using next
    ·have hek : eok N fe i = false := decide_eq_false (fun hh => c2 hh.2.2.1)
     unfold Lc59l28
     simp [hi, e1, e2, seg, splice, lower_ge', x0, x1, hek, show ¬ (gI fe (i * 2) < 0) by omega, show ¬ (gI fe (i * 2 + 1) ≤ gI fe (i * 2)) by omega, show (N ≤ gI fe (i * 2 + 1)) by omega]
   ·have hek : eok N fe i = false := decide_eq_false (fun hh => c1 hh.2.1)
    unfold Lc59l28
    simp [hi, e1, e2, seg, splice, lower_ge', x0, x1, hek, show ¬ (gI fe (i * 2) < 0) by omega, show (gI fe (i * 2 + 1) ≤ gI fe (i * 2)) by omega]
  ·have hek : eok N fe i = false := decide_eq_false (fun hh => c0 hh.1)
   unfold Lc59l28
   simp [hi, e1, e2, seg, splice, lower_ge', x0, x1, hek, show (gI fe (i * 2) < 0) by omega]
set_option maxHeartbeats 16000000 in
theorem Check_ret (he : El rows 2 ev (nums .i64 fe) m) (hm : m ≤ 1000000) (hp : El rows 3 pv (nums .i64 fp) k) (hk : k ≤ 1000000) : Ret F 59 [.agg [.int .i64 N, ev, pv]] rows = some (.int .i64 (if gndB N fe m fp k then 0 else 30), rows, none) := by
 have one1 := El_one he
 have one2 := El_one hp
 have he' := El_app he [.cells [.int .i64 N, ev, pv]]
 have hp' := El_app hp [.cells [.int .i64 N, ev, pv]]
 have hmain := edges_loop (rows := rows) (N := N) he hm hp hk m 0 [] (by omega) (by omega)
 refine i59 F59 ?_
 by_cases c1 : N < 1
 ·have : gndB N fe m fp k = false := by unfold gndB; rw [decide_eq_false (by omega)]; rfl
  simp [AV.cells, one1, one2, c1, this]
 ·by_cases c2 : 6 < N
  ·have : gndB N fe m fp k = false := by unfold gndB; rw [decide_eq_false (by omega)]; rfl
   simp [AV.cells, one1, one2, c1, c2, this]
  ·by_cases c3 : 10 < m
   ·have : gndB N fe m fp k = false := by unfold gndB; rw [decide_eq_false (by omega)]; rfl
    simp [AV.cells, one1, one2, c1, c2, lenW he', show ((10 : Int) < m) by omega, this]
   ·by_cases c4 : 6 < k
    ·have : gndB N fe m fp k = false := by unfold gndB; rw [decide_eq_false (by omega)]; rfl
     simp [AV.cells, one1, one2, c1, c2, lenW he', lenW hp', show ¬ ((10 : Int) < m) by omega, show ((6 : Int) < k) by omega, this]
    ·have : gndB N fe m fp k = (eAll N fe m 0 && pAll fe fp m k 0) := by unfold gndB; rw [decide_eq_true (by omega)]; rfl
     rw [this]
     generalize (eAll N fe m 0 && pAll fe fp m k 0) = bb at hmain ⊢
     simp [AV.cells, one1, one2, c1, c2, lenW he', lenW hp', show ¬ ((10 : Int) < m) by omega, show ¬ ((6 : Int) < k) by omega]
     exact hmain
end
theorem cmpL2_lt {a b c d : Int} (h : a < c ∨ (a = c ∧ b < d)) : cmpL [a, b] [c, d] < 0 := by
 simp only [cmpL]
 rcases h with h | ⟨rfl, h⟩
 ·rw [if_pos h]; omega
 ·rw [if_neg (by omega), if_neg (by omega), if_pos h]; omega
theorem cmpL3_lt {a b c d e f : Int} (h : a < d ∨ (a = d ∧ (b < e ∨ (b = e ∧ c < f)))) : cmpL [a, b, c] [d, e, f] < 0 := by
 simp only [cmpL]
 rcases h with h | ⟨rfl, h | ⟨rfl, h⟩⟩
 ·rw [if_pos h]; omega
 ·rw [if_neg (by omega), if_neg (by omega), if_pos h]; omega
 ·rw [if_neg (by omega), if_neg (by omega), if_neg (by omega), if_neg (by omega), if_pos h]; omega
theorem gN_lt {l : List Nat} (h : l.Pairwise (· < ·)) {i j : Nat} (hij : i < j) (hj : j < l.length) : gN l i < gN l j := by
 rw [gN_eq (by omega), gN_eq hj]
 exact List.pairwise_iff_getElem.1 h i j (by omega) hj hij
theorem eAll_ok {N : Nat} {ks ps : List Nat} (h : GOK N ks ps) : ∀ d i, i + d = ks.length → eAll N (eC ks) d i = true
 | 0, _, _ => rfl
 |
  d + 1, i, hd => by
  have hi : i < ks.length := by omega
  obtain ⟨e1, e2⟩ := eC_a hi
  have hm := h.ee _ (gN_mem hi)
  have : eok N (eC ks) i = true := by
   refine decide_eq_true ⟨by omega, by omega, by omega, fun h0 => ?_⟩
   obtain ⟨e3, e4⟩ := eC_a (ks := ks) (i := i - 1) (by omega)
   have hlt := gN_lt h.es (i := i - 1) (j := i) (by omega) hi
   have hm' := h.ee _ (gN_mem (l := ks) (i := i - 1) (by omega))
   rw [e1, e2, e3, e4]
   apply cmpL2_lt
   omega
  rw [eAll, this, eAll_ok h d (i + 1) (by omega)]
  rfl
theorem pAll_ok {N : Nat} {ks ps : List Nat} (h : GOK N ks ps) : ∀ d i, i + d = ps.length → pAll (eC ks) (pC ps) ks.length d i = true
 | 0, _, _ => rfl
 |
  d + 1, i, hd => by
  have hi : i < ps.length := by omega
  obtain ⟨e1, e2, e3⟩ := pC_a hi
  have hm := h.pe _ (gN_mem hi)
  have : pok (eC ks) (pC ps) ks.length i = true := by
   refine decide_eq_true ⟨by omega, by omega, fun h0 => ?_, ?_, ?_, ?_⟩
   ·obtain ⟨e4, e5, e6⟩ := pC_a (ps := ps) (i := i - 1) (by omega)
    have hlt := gN_lt h.psd (i := i - 1) (j := i) (by omega) hi
    have hm' := h.pe _ (gN_mem (l := ps) (i := i - 1) (by omega))
    rw [e1, e2, e3, e4, e5, e6]
    apply cmpL3_lt
    omega
   ·rw [e1, e2]
    exact (pix_in (by omega)).2 hm.2.2.2.1
   ·rw [e1, e3]
    exact (pix_in (by omega)).2 hm.2.2.2.2.1
   ·rw [e2, e3]
    exact (pix_in (by omega)).2 hm.2.2.2.2.2
  rw [pAll, this, pAll_ok h d (i + 1) (by omega)]
  rfl
theorem gndB_ok {N : Nat} {ks ps : List Nat} (h : GOK N ks ps) : gndB N (eC ks) ks.length (pC ps) ps.length = true := by
 have h1 := h.n1
 have h2 := h.n6
 have h3 := h.ek
 have h4 := h.pk
 unfold gndB
 rw [decide_eq_true (by omega), eAll_ok h _ 0 (by omega), pAll_ok h _ 0 (by omega)]
 rfl
end Go.Abs

namespace Go.Abs
section
variable {rows : List Row} {v : AV} {l : List Int}
def outB (x : Int) : Bool := decide (x < -100 ∨ 100 < x)
theorem out_ret {x : Int} : Ret F 94 [.int .i64 x] rows = some (.bool (outB x), rows, none) := by
 refine i94 F94 ?_
 unfold outB
 by_cases h : x < -100 <;> simp [h]
theorem IndexF_loop {fid : Nat} {cs : List AV} {p : Int → Bool} (h : IsL rows v l) (hl : l.length < 4611686018427387904) (hp : ∀ x ∈ l, Ret F fid (.int .i64 x :: cs) rows = some (.bool (p x), rows, none)) {q : AV × List Row × Option Nat} (hq : q = (.int .i64 (match l.findIdx? p with | some i => (i : Int) | none => -1), rows, none)) : ∀ (n i : Nat), l.length - i = n → i ≤ l.length → (∀ j, j < i → p (gI l j) = false) →
  Lc103l2 F (.fn [.t 4]) v (.func fid cs) (.int .i64 l.length) (.int .i64 i) rows rows.length (fun r => fin rows r.1 r.2.1 r.2.2 = q) := by
 intro n
 induction n with
 |
  zero =>
  intro i hn h1 hf
  have hi : i = l.length := by omega
  subst hi
  have hnone : l.findIdx? p = none := by
   rw [List.findIdx?_eq_none_iff]
   intro x hx
   obtain ⟨j, hj, rfl⟩ := List.mem_iff_getElem.1 hx
   have := hf j hj
   rwa [gI_eq hj] at this
  unfold Lc103l2
  simp [hq, hnone]
 |
  succ n ih =>
  intro i hn h1 hf
  have hi : i < l.length := by omega
  have hr := hp (gI l i) (gI_mem hi)
  unfold Lc103l2
  simp (disch := first | omega | (simp; done) | fail) [hi, idxL0 h, loadL0 h, hr]
  cases hpi : p (gI l i) with
  |
   true =>
   have hsome : l.findIdx? p = some i := by
    rw [List.findIdx?_eq_some_iff_getElem]
    refine ⟨hi, ?_, ?_⟩
    ·rwa [gI_eq hi] at hpi
    ·intro j hj
     have := hf j hj
     rw [gI_eq (by omega)] at this
     simpa using this
   simp [hq, hsome]
  |
   false =>
   simp (disch := first | omega | (simp; done) | fail) [wrap64]
   refine ih (i + 1) (by omega) (by omega) fun j hj => ?_
   by_cases e : j = i
   ·subst e; exact hpi
   ·exact hf j (by omega)
theorem ContainsF_ret {fid : Nat} {cs : List AV} {p : Int → Bool} (h : IsL rows v l) (hl : l.length < 4611686018427387904) (hp : ∀ x ∈ l, Ret F fid (.int .i64 x :: cs) rows = some (.bool (p x), rows, none)) : Ret F 83 [v, .func fid cs] rows = some (.bool (l.any p), rows, none) := by
 have h103 : Ret F 103 [v, .func fid cs] rows = some (.int .i64 (match l.findIdx? p with | some i => (i : Int) | none => -1), rows, none) := by
  refine i103 F103 ?_
  simp [lenL0 h]
  exact IndexF_loop h hl hp rfl _ 0 rfl (by omega) (fun j hj => absurd hj (by omega))
 refine i83 F83 ?_
 simp [h103]
 cases e : l.findIdx? p with
 |
  none =>
  simp only
  rw [List.findIdx?_eq_none_iff] at e
  simp
  exact e
 |
  some i =>
  have hi := (List.findIdx?_eq_some_iff_getElem.1 e)
  obtain ⟨h1, h2, _⟩ := hi
  simp
  exact ⟨_, List.getElem_mem h1, h2⟩
theorem edges_ret {N : AV} {ev pv : AV} {cs : List AV} {m : Nat} (he : El rows 2 ev cs m) (h1 : N.one = true) (h2 : pv.one = true) : Ret F 67 [.agg [N, ev, pv]] rows = some (.int .i64 m, rows, none) := by
 have one1 := El_one he
 have he' := El_app he [.cells [N, ev, pv]]
 refine i67 F67 ?_
 simp [AV.cells, one1, h1, h2, lenW he']
def opn (b : Bool) (n : Int) (l : List Int) : Int := if b = false then 30 else if (l.length : Int) = n ∧ l.any outB = false then 0 else 1
set_option maxHeartbeats 4000000 in
theorem open_ret {N n : Int} {ev pv g' : AV} {fe fp : List Int} {m k f : Nat} (he : El rows 2 ev (nums .i64 fe) m) (hm : m ≤ 1000000) (hp : El rows 3 pv (nums .i64 fp) k) (hk : k ≤ 1000000) (h : IsL rows v l) (hl : l.length ≤ 1000000)
  (hn : ∀ L, Ret F f [g'] (rows ++ L) = some (.int .i64 n, rows ++ L, none)) : Ret F 66 [.agg [.int .i64 N, ev, pv], v, .iface bd (.agg [.int .u64 f, g'])] rows = some (.int .i64 (opn (gndB N fe m fp k) n l), rows, none) := by
 have one1 := El_one he
 have one2 := El_one hp
 have hC := Check_ret (N := N) (El_app he [.cells [.int .i64 N, ev, pv]]) hm (El_app hp [.cells [.int .i64 N, ev, pv]]) hk
 have h' := IsL_app h [.cells [.int .i64 N, ev, pv]]
 have hF := ContainsF_ret h' (by omega) (fid := 94) (cs := []) (p := outB) (fun x _ => out_ret)
 have hn1 := hn [.cells [.int .i64 N, ev, pv]]
 refine i66 F66 ?_
 unfold opn
 cases hb : gndB N fe m fp k with
 |
  false =>
  rw [hb] at hC
  simp [AV.cells, one1, one2, hC, seg, splice]
 |
  true =>
  rw [hb] at hC
  by_cases c1 : (l.length : Int) = n
  ·cases hF2 : l.any outB with
   |
    false =>
    rw [hF2] at hF
    simp [AV.cells, one1, one2, hC, seg, splice, lenL0 h', boundOf, hn1, c1, hF]
   |
    true =>
    rw [hF2] at hF
    simp [AV.cells, one1, one2, hC, seg, splice, lenL0 h', boundOf, hn1, c1, hF]
  ·simp [AV.cells, one1, one2, hC, seg, splice, lenL0 h', boundOf, hn1, c1]
end
end Go.Abs

namespace Go.Abs
def rgs (fl : List Int) (m : Nat) (fw rg : List Int) : Nat → Nat → Int → Option Int
 | 0, _, s => some s
 |
  d + 1, k, s => if pix fl (min (gI rg k) (gI rg ((k + 1) % rg.length))) (max (gI rg k) (gI rg ((k + 1) % rg.length))) m 0 < 0 ∨ gI rg k ∈ rg.take k then none else
  rgs fl m fw rg d (k + 1) (if gI rg k < gI rg ((k + 1) % rg.length) then s + gI fw (pix fl (min (gI rg k) (gI rg ((k + 1) % rg.length))) (max (gI rg k) (gI rg ((k + 1) % rg.length))) m 0).toNat
   else s - gI fw (pix fl (min (gI rg k) (gI rg ((k + 1) % rg.length))) (max (gI rg k) (gI rg ((k + 1) % rg.length))) m 0).toNat)
def rgv : Option Int → AV
 | some s => .tup [.int .i64 s, .bool true]
 | none => .tup [.int .i64 0, .bool false]
section
variable {rows : List Row} {fv rv : AV} {fw rg : List Int} {ev pv : AV} {fl : List Int} {m : Nat}
theorem bd_get {fw : List Int} (h : ∀ x ∈ fw, -100 ≤ x ∧ x ≤ 100) {i : Nat} (hi : i < fw.length) : -100 ≤ gI fw i ∧ gI fw i ≤ 100 := h _ (gI_mem hi)
theorem bd_add {s x : Int} {k : Nat} (hs : -100 * k ≤ s ∧ s ≤ 100 * k) (hx : -100 ≤ x ∧ x ≤ 100) : -100 * ((k + 1 : Nat) : Int) ≤ s + x ∧ s + x ≤ 100 * ((k + 1 : Nat) : Int) := by omega
theorem bd_sub {s x : Int} {k : Nat} (hs : -100 * k ≤ s ∧ s ≤ 100 * k) (hx : -100 ≤ x ∧ x ≤ 100) : -100 * ((k + 1 : Nat) : Int) ≤ s - x ∧ s - x ≤ 100 * ((k + 1 : Nat) : Int) := by omega
set_option maxHeartbeats 16000000 in
theorem dup_loop {n0 : AV} (hr : IsL rows rv rg) {s A B : Int} {k n : Nat} (hk : k < rg.length) (hr8 : rg.length ≤ 8) {Q : AV × List Row × Nat → Prop} (hmem : A ∈ rg.take k → Q (.tup [.int .i64 0, .bool false], rows ++ [.cells [n0, ev, pv]], rows.length))
  (hnot : A ∉ rg.take k → ∀ sl : List (Nat × AV), lk sl 1 = fv → lk sl 2 = rv → lk sl 3 = .ptr rows.length 0 → lk sl 8 = .int .i64 n → lk sl 9 = .int .i64 s → lk sl 10 = .int .i64 k → lk sl 11 = .int .i64 A → lk sl 12 = .int .i64 B →
   Ex F (.fn [.t 6, .t 7]) [.code c37s13, .inBlock 1, .code c37k3, .inLoop c37l2, .inBlock 0, .code c37s1] ⟨mk 76 sl, rows ++ [.cells [n0, ev, pv]], rows.length⟩ Q) : ∀ (d i : Nat), k - i = d → i ≤ k → A ∉ rg.take i →
  Lc37l14 F (.fn [.t 6, .t 7]) fv rv (.ptr rows.length 0) (.int .i64 n) (.int .i64 s) (.int .i64 k) (.int .i64 A) (.int .i64 B) (.int .i64 i) (rows ++ [.cells [n0, ev, pv]]) rows.length Q := by
 have hr' := IsL_app hr [.cells [n0, ev, pv]]
 intro d
 induction d with
 |
  zero =>
  intro i hd h1 hn
  have hi : i = k := by omega
  subst hi
  unfold Lc37l14
  simp [-uc37s13]
  refine hnot hn _ ?_ ?_ ?_ ?_ ?_ ?_ ?_ ?_ <;> simp
 |
  succ d ih =>
  intro i hd h1 hn
  have hi : i < k := by omega
  have hw : IntKind.i64.wrap ((i : Int) + 1) = (i : Int) + 1 := wrap64 (by omega) (by omega)
  have htk : rg.take (i + 1) = rg.take i ++ [gI rg i] := by
   rw [List.take_add_one, gI_get (by omega)]; rfl
  by_cases c : gI rg i = A
  ·have : A ∈ rg.take k := by
    have h2 : A ∈ rg.take (i + 1) := by rw [htk, c]; simp
    exact List.take_subset_take_left rg (show i + 1 ≤ k by omega) h2
   have := hmem this
   unfold Lc37l14
   simp (disch := first | omega | (simp; done) | fail) [hi, idxL0 hr', loadL0 hr', c]
   exact this
  ·have := ih (i + 1) (by omega) (by omega) (by rw [htk]; intro h; rcases List.mem_append.1 h with h | h; exact hn h; exact c (List.mem_singleton.1 h).symm)
   unfold Lc37l14
   simp (disch := first | omega | (simp; done) | fail) [hi, idxL0 hr', loadL0 hr', c, hw]
   simpa using this
end
end Go.Abs

namespace Go.Abs
section
variable {rows : List Row} {fv rv : AV} {fw rg : List Int} {ev pv : AV} {fl : List Int} {m : Nat}
set_option maxHeartbeats 16000000 in
theorem RRing_loop {n0 : AV} (ho0 : n0.one = true) (ho2 : pv.one = true) (he : El rows 2 ev (nums .i64 fl) m) (hm : m ≤ 100) (hf : IsL rows fv fw) (hfl : fw.length = m) (hfb : ∀ x ∈ fw, -100 ≤ x ∧ x ≤ 100) (hr : IsL rows rv rg) (hr0 : 0 < rg.length) (hr8 : rg.length ≤ 8)
  {q : Option Int} : ∀ (d k : Nat) (s : Int), rg.length - k = d → k ≤ rg.length → -100 * k ≤ s ∧ s ≤ 100 * k → rgs fl m fw rg d k s = q →
  Lc37l2 F (.fn [.t 6, .t 7]) fv rv (.ptr rows.length 0) (.int .i64 rg.length) (.int .i64 s) (.int .i64 k) (rows ++ [.cells [n0, ev, pv]]) rows.length (fun r => fin rows r.1 r.2.1 r.2.2 = (rgv q, rows, none)) := by
 have one1 := El_one he
 have he' := El_app he [.cells [n0, ev, pv]]
 have hf' := IsL_app hf [.cells [n0, ev, pv]]
 have hr' := IsL_app hr [.cells [n0, ev, pv]]
 intro d
 induction d with
 |
  zero =>
  intro k s hd h1 hs hq
  have hk : k = rg.length := by omega
  subst hk
  rw [rgs] at hq
  subst hq
  unfold Lc37l2
  simp [rgv]
 |
  succ d ih =>
  intro k s hd h1 hs hq
  have hk : k < rg.length := by omega
  have a1 : rg.length - (k + 1) = d := by omega
  have hw : IntKind.i64.wrap ((k : Int) + 1) = (k : Int) + 1 := wrap64 (by omega) (by omega)
  have hmod : (((k : Int) + 1).tmod (rg.length : Int)) = (((k + 1) % rg.length : Nat) : Int) := by
   rw [Int.tmod_eq_emod_of_nonneg (by omega)]; norm_cast
  have hmod2 : (((k : Int) + 1) % (rg.length : Int)) = (((k + 1) % rg.length : Nat) : Int) := by norm_cast
  have hml := Nat.mod_lt (k + 1) hr0
  rw [rgs] at hq
  have hI := Edge_ret (n0 := n0) he' (by omega) ⟨ho0, one1, ho2⟩ (a := gI rg k) (b := gI rg ((k + 1) % rg.length))
  have hhit := pix_hit (fl := fl) (a := min (gI rg k) (gI rg ((k + 1) % rg.length))) (b := max (gI rg k) (gI rg ((k + 1) % rg.length))) m 0
  generalize hA : gI rg k = A at *
  generalize hj : (k + 1) % rg.length = j at *
  generalize hB : gI rg j = B at *
  generalize pix fl (min A B) (max A B) m 0 = e at *
  have hrne : ¬ (rg.length = 0) := by omega
  have key := dup_loop (rows := rows) (n0 := n0) (ev := ev) (pv := pv) (fv := fv) (s := s) (A := A) (B := B) (n := rg.length) hr hk hr8 (Q := fun r => fin rows r.1 r.2.1 r.2.2 = (rgv q, rows, none)) (fun hmem => by
   rw [if_pos (.inr hmem)] at hq
   subst hq
   simp [rgv]) (fun hnot sl s1 s2 s3 s8 s9 s10 s11 s12 => by
   by_cases c1 : e < 0
   ·rw [if_pos (.inl c1)] at hq
    subst hq
    simp [s1, s2, s3, s8, s9, s10, s11, s12, seg, hI, c1, rgv]
   ·obtain ⟨i, hi1, _, hi2, _⟩ := hhit (by omega)
    subst hi1
    rw [if_neg (by intro h; rcases h with h | h; exact absurd h c1; exact hnot h), Int.toNat_natCast] at hq
    have hfb' := bd_get hfb (i := i) (by omega)
    by_cases c3 : A < B
    ·rw [if_pos c3] at hq
     have hws : IntKind.i64.wrap (s + gI fw i) = s + gI fw i := wrap64 (by omega) (by omega)
     have := ih (k + 1) (s + gI fw i) a1 hk (bd_add hs hfb') hq
     simp (disch := first | omega | (simp; done) | fail) [s1, s2, s3, s8, s9, s10, s11, s12, seg, hI, c1, c3, idxL0 hf', loadL0 hf', hws, hw, show i < fw.length by omega]
     simpa using this
    ·rw [if_neg c3] at hq
     have hws : IntKind.i64.wrap (s - gI fw i) = s - gI fw i := wrap64 (by omega) (by omega)
     have := ih (k + 1) (s - gI fw i) a1 hk (bd_sub hs hfb') hq
     simp (disch := first | omega | (simp; done) | fail) [s1, s2, s3, s8, s9, s10, s11, s12, seg, hI, c1, c3, idxL0 hf', loadL0 hf', hws, hw, show i < fw.length by omega]
     simpa using this) k 0 rfl (Nat.zero_le _) (by simp)
  unfold Lc37l2
  simp (disch := first | omega | (simp; done) | fail) [hk, idxL0 hr', loadL0 hr', lenL0 hr', hA, hB, hw, hmod, hmod2, hrne]
  simpa using key
set_option maxHeartbeats 16000000 in
theorem RRing_ret {g : AV} {N : Nat} {ks ps : List Nat} (hg : GRd rows g N ks ps) (hf : IsL rows fv fw) (hfl : fw.length = ks.length) (hfb : ∀ x ∈ fw, -100 ≤ x ∧ x ≤ 100) (hr : IsL rows rv rg) (hr8 : rg.length ≤ 8) :
  Ret F 37 [g, fv, rv] rows = some (rgv (if rg.length < 3 ∨ N < rg.length then none else rgs (eC ks) ks.length fw rg rg.length 0 0), rows, none) := by
 obtain ⟨ev, pv, rfl, he, hp, ce, cp⟩ := hg.eq
 have hok := hg.ok
 have h1 := hok.ek
 have one1 := El_one he
 have one2 := El_one hp
 have hr' := IsL_app hr [.cells [.int .i64 N, ev, pv]]
 refine i37 F37 ?_
 by_cases c : rg.length < 3
 ·rw [if_pos (.inl c)]
  simp [AV.cells, one1, one2, lenL0 hr', show ((rg.length : Int) < 3) by omega, rgv]
 ·by_cases c2 : N < rg.length
  ·rw [if_pos (.inr c2)]
   simp [AV.cells, one1, one2, lenL0 hr', show ¬ ((rg.length : Int) < 3) by omega, c2, rgv]
  ·rw [if_neg (by omega)]
   have hl := RRing_loop (n0 := .int .i64 N) (pv := pv) rfl one2 he (by omega) hf hfl hfb hr (by omega) hr8 _ 0 0 rfl (by omega) (by omega) rfl
   simp [AV.cells, one1, one2, lenL0 hr', show ¬ ((rg.length : Int) < 3) by omega, c2]
   simpa using hl
end
theorem nodup_of {l : List Int} (h : ∀ i, i < l.length → gI l i ∉ l.take i) : l.Nodup := by
 rw [List.nodup_iff_pairwise_ne, List.pairwise_iff_getElem]
 intro i j hi hj hij e
 have := h j hj
 rw [gI_eq hj, ← e] at this
 apply this
 rw [List.mem_iff_getElem]
 exact ⟨i, by simp; omega, by simp⟩
theorem few_ints {N : Nat} : ∀ (l : List Int), l.Nodup → (∀ x ∈ l, 0 ≤ x ∧ x < N) → l.length ≤ N := by
 intro l hn hb
 have h1 : (l.map Int.toNat).Nodup := by
  rw [List.nodup_iff_pairwise_ne, List.pairwise_map]
  rw [List.nodup_iff_pairwise_ne] at hn
  refine List.Pairwise.imp_of_mem (fun {a b} ha hb' hab e => ?_) hn
  have := hb a ha
  have := hb b hb'
  omega
 have h2 : ∀ x ∈ l.map Int.toNat, x ∈ List.range N := by
  intro x hx
  obtain ⟨y, hy, rfl⟩ := List.mem_map.1 hx
  have := hb y hy
  simp; omega
 have := List.Nodup.length_le_of_subset h1 h2
 simpa using this
end Go.Abs

namespace Go.Abs
section
variable {B L : List Row} {sz n : Nat} {c : Cap} {v : AV} {cs : List AV}
def Acc (B L : List Row) (sz : Nat) (c : Cap) (v : AV) (cs : List AV) (n : Nat) : Prop :=
 cs.length = n * sz ∧ ((v = .nilslice ∧ cs = []) ∨ ∃ k, v = .slice (B.length + k) 0 n c ∧ L[k]? = some (.cells cs))
theorem Acc_nil : Acc B L sz c .nilslice [] 0 := ⟨by simp, .inl ⟨rfl, rfl⟩⟩
theorem Acc_app (h : Acc B L sz c v cs n) (M : List Row) : Acc B (L ++ M) sz c v cs n := by
 obtain ⟨h1, h2⟩ := h
 refine ⟨h1, ?_⟩
 rcases h2 with h2 | ⟨k, hv, hk⟩
 ·exact .inl h2
 ·refine .inr ⟨k, hv, ?_⟩
  rw [List.getElem?_append_left (List.getElem?_eq_some_iff.1 hk).1]
  exact hk
theorem Acc_El (h : Acc B L sz c v cs n) (hsz : 0 < sz) : El (B ++ L) sz v cs n := by
 obtain ⟨h1, h2⟩ := h
 rcases h2 with ⟨rfl, rfl⟩ | ⟨k, rfl, hk⟩
 ·have : n = 0 := by
   rcases Nat.mul_eq_zero.1 (show n * sz = 0 from h1.symm) with h | h
   ·exact h
   ·omega
  subst this
  exact El_nil
 ·have hr : row? (B ++ L) (B.length + k) = some cs := by
   unfold row?
   rw [List.getElem?_append_right (by omega), Nat.add_sub_cancel_left, hk]
  show elems _ _ _ = _
  unfold elems
  simp only [hr]
  unfold seg
  rw [if_pos (by omega), ← h1]
  simp
theorem Acc_IsL {l : List Int} (h : Acc B L 1 c v (nums .i64 l) n) : IsL (B ++ L) v l ∧ l.length = n := by
 have h2 := Acc_El h (by omega)
 have h3 : l.length = n := by have := h.1; simpa [nums] using this
 exact ⟨by unfold IsL; rw [h3]; exact h2, h3⟩
theorem Acc_idx {i : Nat} {kd : IntKind} {l : List Int} (h : Acc B L 1 c v (nums kd l) n) (hi : i < n) : evP (B ++ L) (.idxS 1 (.c v) (.c (.int .i64 i))) = some (.ptr (sid v) (soff v + i)) := by
 have := idxW (Acc_El h (by omega)) hi
 rwa [Nat.mul_one] at this
theorem Acc_ld {i : Nat} {l : List Int} (h : Acc B L 1 c v (nums .i64 l) n) (hi : i < n) : evP (B ++ L) (.load1 (.c (.ptr (sid v) (soff v + i)))) = some (.int .i64 (gI l i)) := by
 have h1 := h.1
 exact ldW1 (Acc_El h (by omega)) (by simp [nums] at h1; omega)
theorem Acc_more2 {x : List AV} {low b : Nat} (h : Acc B L sz (.op sz) v cs n) (hx : x.length = sz) (hsz : 0 < sz) (hl : n < 1000000000) (hlow : low ≤ B.length) :
  ∃ v' L', evE (B ++ (L ++ [.cells x])) low (.app sz b (.c v) (.c (.slice (B.length + L.length) 0 1 (.at_ 1)))) = some (v', B ++ L', low) ∧ Acc B L' sz (.op sz) v' (cs ++ x) (n + 1) ∧
   (∀ id, id < B.length + L.length → (v = .nilslice ∨ id ≠ sid v) → (B ++ L')[id]? = (B ++ L)[id]?) ∧ B.length + L.length ≤ sid v' ∧ L.length ≤ L'.length := by
 obtain ⟨h1, h2⟩ := h
 have hr : row? (B ++ (L ++ [.cells x])) (B.length + L.length) = some x := by
  unfold row?; simp
 have htmp : El (B ++ (L ++ [.cells x])) sz (.slice (B.length + L.length) 0 1 (.at_ 1)) x 1 := by
  unfold El elems
  simp only [hr]
  unfold seg
  rw [if_pos (by omega)]
  simp only [List.drop_zero, Option.map_some, Nat.one_mul]
  rw [List.take_of_length_le (by omega)]
 have hlen : (cs ++ x).length = (n + 1) * sz := by rw [List.length_append, h1, hx, Nat.succ_mul]
 rcases h2 with ⟨rfl, rfl⟩ | ⟨k, rfl, hk⟩
 ·have h0 : n = 0 := by
   rcases Nat.mul_eq_zero.1 (show n * sz = 0 from h1.symm) with h | h
   ·exact h
   ·omega
  subst h0
  refine ⟨_, L ++ [.cells x, .cells x], ?_, ⟨hlen, .inr ⟨L.length + 1, rfl, by simp⟩⟩, fun id h1 _ => by rw [← List.append_assoc, List.getElem?_append_left (by simp; omega)], by simp only [sid_s]; omega, by simp⟩
  rw [app_nil htmp (by omega) (by simp [lim])]
  simp [Nat.add_assoc]
 ·have hkl := (List.getElem?_eq_some_iff.1 hk).1
  have hcell : cells? (B ++ (L ++ [.cells x])) (B.length + k) = some cs := by
   unfold cells?
   rw [List.getElem?_append_right (by omega), Nat.add_sub_cancel_left, List.getElem?_append_left hkl, hk]
  refine ⟨_, L.set k .dead ++ [.cells x, .cells (cs ++ x)], ?_, ⟨hlen, .inr ⟨L.length + 1, rfl, by simp⟩⟩, fun id h1 h2 => ?_, by simp only [sid_s]; omega, by simp⟩
  ·rw [app_op hcell (xs := cs) (by unfold seg; rw [if_pos (by omega), ← h1]; simp) htmp (by omega) (by simp [lim]; omega)]
   simp only [Option.some.injEq, Prod.mk.injEq]
   refine ⟨by simp [Nat.add_assoc], ?_, lower_ge' (by omega)⟩
   rw [List.set_append_right _ _ (by omega), Nat.add_sub_cancel_left, List.set_append_left _ _ hkl]
   simp
  ·have h3 : id ≠ B.length + k := by
    rcases h2 with h2 | h2
    ·simp at h2
    ·simpa using h2
   by_cases c : id < B.length
   ·rw [List.getElem?_append_left c, List.getElem?_append_left c]
   ·rw [List.getElem?_append_right (by omega), List.getElem?_append_left (by rw [List.length_set]; omega), List.getElem?_set_ne (by omega), List.getElem?_append_right (by omega)]
theorem Acc_store {i : Nat} {l : List Int} {x : Int} {low : Nat} (h : Acc B L 1 c v (nums .i64 l) n) (hi : i < n) (hlow : low ≤ B.length) :
  ∃ L', evE (B ++ L) low (.store1 (.c (.ptr (sid v) (soff v + i))) (.c (.int .i64 x))) = some (.tup [], B ++ L', low) ∧ Acc B L' 1 c v (nums .i64 (l.set i x)) n ∧ L'.length = L.length ∧ ∀ (id : Nat) (vs : List AV), id ≠ sid v → row? (B ++ L) id = some vs → row? (B ++ L') id = some vs := by
 obtain ⟨h1, h2⟩ := h
 have hl : l.length = n := by simpa [nums] using h1
 rcases h2 with ⟨rfl, e⟩ | ⟨k, rfl, hk⟩
 ·rw [e] at h1
  simp at h1
  omega
 ·have hkl := (List.getElem?_eq_some_iff.1 hk).1
  have hcell : cells? (B ++ L) (B.length + k) = some (nums .i64 l) := by
   unfold cells?
   rw [List.getElem?_append_right (by omega), Nat.add_sub_cancel_left, hk]
  have hset : (nums .i64 l).set i (.int .i64 x) = nums .i64 (l.set i x) := by simp [nums, List.map_set]
  refine ⟨L.set k (.cells (nums .i64 (l.set i x))), ?_, ⟨by simp [nums, hl], .inr ⟨k, rfl, by simp [hkl]⟩⟩, by simp, ?_⟩
  ·rw [evE_store1]
   simp only [sid_s, soff_s, Nat.zero_add, hcell, Option.bind_some]
   rw [if_pos ⟨by simp [nums]; omega, rfl⟩, hset, lower_ge' (by omega), List.set_append_right _ _ (by omega), Nat.add_sub_cancel_left]
  ·intro id vs hid hr
   unfold row? at hr ⊢
   simp only [sid_s] at hid
   by_cases c : id < B.length
   ·rw [List.getElem?_append_left c] at hr ⊢
    exact hr
   ·rw [List.getElem?_append_right (by omega)] at hr ⊢
    rw [List.getElem?_set_ne (by omega)]
    exact hr
theorem Acc_fin1 {l : List Int} (h : Acc B L 1 c v (nums .i64 l) n) (hcp : c = .op 1 ∨ ∃ m, c = .at_ m ∧ n ≤ m) :
  ∃ v' X, fin B v (B ++ L) B.length = (v', B ++ X, none) ∧ X.all (Row.under 0) = true ∧ IsL (B ++ X) v' l ∧ l.length = n ∧ Cp 1 v' := by
 obtain ⟨h1, h2⟩ := h
 have hl : l.length = n := by simpa [nums] using h1
 rcases h2 with ⟨rfl, e⟩ | ⟨k, rfl, hk⟩
 ·have h0 : n = 0 := by rw [e] at h1; simpa using h1.symm
  have : l = [] := List.eq_nil_of_length_eq_zero (by omega)
  subst this
  exact ⟨.nilslice, [], by simp, rfl, IsL_nil, hl, trivial⟩
 ·have hu : (nums .i64 l).all (·.ids.isEmpty) = true := cells_ids nums_und
  refine ⟨_, [.cells (nums .i64 l)], fin_slice hk hu, by simp, ?_, hl, ?_⟩
  ·have hr : row? (B ++ [.cells (nums .i64 l)]) B.length = some (nums .i64 l) := by simp [row?]
   rw [← hl]
   exact IsL_mk (n := 0) hr (by rw [nums_seg, if_pos (by omega)]; simp)
  ·rcases hcp with rfl | ⟨m, rfl, hm⟩
   ·rfl
   ·exact hm
theorem Acc_make {m : Nat} : Acc B (L ++ [.cells (nums .i64 (List.replicate m 0))]) 1 (.at_ m) (.slice (B.length + L.length) 0 m (.at_ m)) (nums .i64 (List.replicate m 0)) m := ⟨by simp [nums], .inr ⟨L.length, rfl, by simp⟩⟩
end
end Go.Abs

set_option maxRecDepth 20000
set_option maxHeartbeats 4000000
namespace Go.Abs
variable {F : Nat → Option IFn} {cx : Ctx} {k : List Itm} {s : St} {l : List (Nat × AV)} {rows : List Row} {low : Nat} {r : AV × List Row × Nat → Prop}
@[simp] theorem uc41k0 : Ex F cx (.code c41k0 :: k) ⟨mk 58 l, rows, low⟩ r ↔ bnd (evP rows (.nilck (.c (lk l 8)))) fun v0 => bnd (evP rows (.fieldA 6 (.c v0))) fun v1 => bnd (evP rows (.fieldA 0 (.c (lk l 2)))) fun v2 => bnd (evP rows (.load1 (.c v2))) fun v3 => bnd (evP rows (.sliceA 6 1 (.c v1) none (some (.c v3)) none)) fun v4 => bnd (Ret F 79 [v4] rows) fun q5 => Ex F cx k ⟨mk 58 [(6, (.int .i64 0)), (5, (.bool true)), (4, q5.1), (57, q5.1), (56, v4), (55, v3), (54, v2), (53, v1), (52, v0), (51, lk l 8), (2, lk l 2), (8, lk l 8)], q5.2.1, (lowO low q5.2.2)⟩ r := rg [2, 8] c41r0 rfl (by kernel_rfl)
@[simp] theorem uc41s1 : Ex F cx (.code c41s1 :: k) s r ↔ Ex F cx (.code (.seq c41k0 .ret) :: k) s r := Iff.rfl
@[simp] theorem uc41k3 : Ex F cx (.code c41k3 :: k) ⟨mk 58 l, rows, low⟩ r ↔ bnd (evP rows (.bin .add (.c (lk l 25)) (.c (.int .i64 1)))) fun v0 => Ex F cx k ⟨mk 58 [(25, v0), (50, v0), (1, lk l 1), (2, lk l 2), (8, lk l 8), (23, lk l 23), (24, lk l 24), (25, lk l 25)], rows, low⟩ r := rg [1, 2, 8, 23, 24, 25] c41r3 rfl (by kernel_rfl)
@[simp] theorem uc41k4 : Ex F cx (.code c41k4 :: k) ⟨mk 58 l, rows, low⟩ r ↔ Ex F cx k ⟨mk 58 [(6, (.int .i64 0)), (5, (.bool false)), (4, .nilslice)], rows, low⟩ r := rg [] c41r4 rfl (by kernel_rfl)
@[simp] theorem uc41s5 : Ex F cx (.code c41s5 :: k) s r ↔ Ex F cx (.code (.cond (.t 49) (.seq c41k4 .ret) .skip) :: k) s r := Iff.rfl
@[simp] theorem uc41k6 : Ex F cx (.code c41k6 :: k) ⟨mk 58 l, rows, low⟩ r ↔ bnd (evP rows (.idxA 2 1 (.c (lk l 10)) (.c (.int .i64 1)))) fun v0 => bnd (evP rows (.load1 (.c v0))) fun v1 => bnd (evP rows (.nilck (.c (lk l 8)))) fun v2 => bnd (evP rows (.fieldA 6 (.c v2))) fun v3 => bnd (evP rows (.idxA 6 1 (.c v3) (.c v1))) fun v4 => bnd (evP rows (.load1 (.c v4))) fun v5 => bnd (evP rows (.idxA 2 1 (.c (lk l 10)) (.c (.int .i64 0)))) fun v6 => bnd (evP rows (.load1 (.c v6))) fun v7 => bnd (evP rows (.nilck (.c (lk l 8)))) fun v8 => bnd (evP rows (.fieldA 6 (.c v8))) fun v9 => bnd (evP rows (.idxA 6 1 (.c v9) (.c v7))) fun v10 => bnd (evP rows (.load1 (.c v10))) fun v11 => bnd (evP rows (.bin .sub (.c v5) (.c v11))) fun v12 => bnd (evP rows (.idxS 1 (.c (lk l 1)) (.c (lk l 9)))) fun v13 => bnd (evP rows (.load1 (.c v13))) fun v14 => bnd (evP rows (.bin .neq (.c v12) (.c v14))) fun v15 => Ex F cx k ⟨mk 58 [(49, v15), (48, v14), (47, v13), (46, lk l 9), (45, lk l 1), (44, v12), (43, v11), (42, v10), (41, v9), (40, v8), (39, v7), (38, v6), (37, lk l 8), (36, v5), (35, v4), (34, v3), (33, v2), (32, v1), (31, v0), (30, lk l 8), (1, lk l 1), (2, lk l 2), (8, lk l 8), (9, lk l 9), (10, lk l 10), (23, lk l 23), (24, lk l 24), (25, lk l 25)], rows, low⟩ r := rg [1, 2, 8, 9, 10, 23, 24, 25] c41r6 rfl (by kernel_rfl)
@[simp] theorem uc41s7 : Ex F cx (.code c41s7 :: k) s r ↔ Ex F cx (.code (.seq c41k6 c41s5) :: k) s r := Iff.rfl
@[simp] theorem uc41k8 : Ex F cx (.code c41k8 :: k) ⟨mk 58 l, rows, low⟩ r ↔ bnd (evP rows (.idxS 2 (.c (lk l 23)) (.c (lk l 25)))) fun v0 => bnd (evP rows (.loadN 2 (.c v0))) fun v1 => bnd (evE rows low (.box (.c (.agg [.int .i64 0, .int .i64 0])))) fun q2 => bnd (evE q2.2.1 q2.2.2 (.storeN 2 (.c q2.1) (.c v1))) fun q3 => Ex F cx k ⟨mk 58 [(9, lk l 25), (10, q2.1), (29, v1), (28, v0), (27, lk l 25), (1, lk l 1), (2, lk l 2), (8, lk l 8), (23, lk l 23), (24, lk l 24), (25, lk l 25)], q3.2.1, q3.2.2⟩ r := rg [1, 2, 8, 23, 24, 25] c41r8 rfl (by kernel_rfl)
@[simp] theorem uc41s9 : Ex F cx (.code c41s9 :: k) s r ↔ Ex F cx (.code (.seq (.block 1 (.seq c41k8 c41s7)) c41k3) :: k) s r := Iff.rfl
@[simp] theorem uc41s10 : Ex F cx (.code c41s10 :: k) s r ↔ Ex F cx (.code (.seq (.cond (.t 26) .skip (.exit 0)) c41s9) :: k) s r := Iff.rfl
@[simp] theorem uc41k11 : Ex F cx (.code c41k11 :: k) ⟨mk 58 l, rows, low⟩ r ↔ bnd (evP rows (.bin .lss (.c (lk l 25)) (.c (lk l 24)))) fun v0 => Ex F cx k ⟨mk 58 [(26, v0), (1, lk l 1), (2, lk l 2), (8, lk l 8), (23, lk l 23), (24, lk l 24), (25, lk l 25)], rows, low⟩ r := rg [1, 2, 8, 23, 24, 25] c41r11 rfl (by kernel_rfl)
@[simp] theorem uc41s12 : Ex F cx (.code c41s12 :: k) s r ↔ Ex F cx (.code (.block 0 (.loop c41l2)) :: k) s r := Iff.rfl
@[simp] theorem uc41k13 : Ex F cx (.code c41k13 :: k) ⟨mk 58 l, rows, low⟩ r ↔ bnd (evP rows (.fieldA 1 (.c (lk l 2)))) fun v0 => bnd (evP rows (.load1 (.c v0))) fun v1 => bnd (evP rows (.len 0 (.c v1))) fun v2 => Ex F cx k ⟨mk 58 [(25, (.int .i64 0)), (24, v2), (23, v1), (22, v0), (1, lk l 1), (2, lk l 2), (8, lk l 8)], rows, low⟩ r := rg [1, 2, 8] c41r13 rfl (by kernel_rfl)
@[simp] theorem uc41s14 : Ex F cx (.code c41s14 :: k) s r ↔ Ex F cx (.code (.seq (.seq c41k13 c41s12) c41s1) :: k) s r := Iff.rfl
@[simp] theorem uc41k15 : Ex F cx (.code c41k15 :: k) ⟨mk 58 l, rows, low⟩ r ↔ bnd (evP rows (.loadN 3 (.c (lk l 2)))) fun v0 => bnd (Ret F 78 [v0, lk l 1] rows) fun q1 => Ex F cx k ⟨mk 58 [(8, q1.1), (21, q1.1), (20, lk l 1), (19, v0), (1, lk l 1), (2, lk l 2)], q1.2.1, (lowO low q1.2.2)⟩ r := rg [1, 2] c41r15 rfl (by kernel_rfl)
@[simp] theorem uc41s16 : Ex F cx (.code c41s16 :: k) s r ↔ Ex F cx (.code (.seq c41k15 c41s14) :: k) s r := Iff.rfl
@[simp] theorem uc41k17 : Ex F cx (.code c41k17 :: k) ⟨mk 58 l, rows, low⟩ r ↔ Ex F cx k ⟨mk 58 [(6, lk l 7), (5, (.bool false)), (4, .nilslice), (18, lk l 7), (7, lk l 7)], rows, low⟩ r := rg [7] c41r17 rfl (by kernel_rfl)
@[simp] theorem uc41s18 : Ex F cx (.code c41s18 :: k) s r ↔ Ex F cx (.code (.cond (.t 17) (.seq c41k17 .ret) .skip) :: k) s r := Iff.rfl
@[simp] theorem uc41k19 : Ex F cx (.code c41k19 :: k) ⟨mk 58 l, rows, low⟩ r ↔ bnd (evP rows (.bin .neq (.c (lk l 7)) (.c (.int .i64 0)))) fun v0 => Ex F cx k ⟨mk 58 [(17, v0), (16, lk l 7), (1, lk l 1), (2, lk l 2), (7, lk l 7)], rows, low⟩ r := rg [1, 2, 7] c41r19 rfl (by kernel_rfl)
@[simp] theorem uc41s20 : Ex F cx (.code c41s20 :: k) s r ↔ Ex F cx (.code (.seq c41k19 c41s18) :: k) s r := Iff.rfl
@[simp] theorem uc41k21 : Ex F cx (.code c41k21 :: k) ⟨mk 58 l, rows, low⟩ r ↔ bnd (evP rows (.loadN 3 (.c (lk l 2)))) fun v0 => bnd (evP rows (.loadN 3 (.c (lk l 2)))) fun v1 => bnd (evP rows (.bind 67 [(.c v1)])) fun v2 => bnd (Ret F 66 [v0, lk l 1, v2] rows) fun q3 => Ex F cx k ⟨mk 58 [(7, q3.1), (15, q3.1), (14, v2), (13, v1), (12, lk l 1), (11, v0), (1, lk l 1), (2, lk l 2)], q3.2.1, (lowO low q3.2.2)⟩ r := rg [1, 2] c41r21 rfl (by kernel_rfl)
@[simp] theorem uc41s22 : Ex F cx (.code c41s22 :: k) s r ↔ Ex F cx (.code (.seq (.seq c41k21 c41s20) c41s16) :: k) s r := Iff.rfl
@[simp] theorem uc41k23 : Ex F cx (.code c41k23 :: k) ⟨mk 58 l, rows, low⟩ r ↔ bnd (evE rows low (.box (.c (lk l 0)))) fun q0 => Ex F cx k ⟨mk 58 [(6, (.int .i64 0)), (5, (.bool false)), (4, .nilslice), (2, q0.1), (0, lk l 0), (1, lk l 1)], q0.2.1, q0.2.2⟩ r := rg [0, 1] c41r23 rfl (by kernel_rfl)
def Jc41s9 (F : Nat → Option IFn) (cx : Ctx) (x1 x2 x8 x23 x24 x25 : AV) (rows : List Row) (low : Nat) (r : AV × List Row × Nat → Prop) : Prop := Ex F cx (.code c41s9 :: .inLoop c41l2 :: .inBlock 0 :: .code c41s1 :: []) ⟨mk 58 [(1, x1), (2, x2), (8, x8), (23, x23), (24, x24), (25, x25)], rows, low⟩ r
def Lc41l2 (F : Nat → Option IFn) (cx : Ctx) (x1 x2 x8 x23 x24 x25 : AV) (rows : List Row) (low : Nat) (r : AV × List Row × Nat → Prop) : Prop := Ex F cx (.code c41l2 :: .inLoop c41l2 :: .inBlock 0 :: .code c41s1 :: []) ⟨mk 58 [(1, x1), (2, x2), (8, x8), (23, x23), (24, x24), (25, x25)], rows, low⟩ r
@[simp] theorem nc41l2 : Ex F cx (.inLoop c41l2 :: .inBlock 0 :: .code c41s1 :: []) ⟨mk 58 l, rows, low⟩ r ↔ Lc41l2 F cx (lk l 1) (lk l 2) (lk l 8) (lk l 23) (lk l 24) (lk l 25) rows low r := loopN (keep := [1, 2, 8, 23, 24, 25]) (by kernel_rfl)
@[simp] theorem ec41l2 : Ex F cx (.code (.loop c41l2) :: .inBlock 0 :: .code c41s1 :: []) ⟨mk 58 l, rows, low⟩ r ↔ Lc41l2 F cx (lk l 1) (lk l 2) (lk l 8) (lk l 23) (lk l 24) (lk l 25) rows low r := loopE (keep := [1, 2, 8, 23, 24, 25]) (by kernel_rfl)
@[simp] theorem uc41l2 : Ex F cx (.code c41l2 :: k) s r ↔ Ex F cx (.code (.seq c41k11 c41s10) :: k) s r := Iff.rfl
def Jc41s16 (F : Nat → Option IFn) (cx : Ctx) (x1 x2 : AV) (rows : List Row) (low : Nat) (r : AV × List Row × Nat → Prop) : Prop := Ex F cx (.code c41s16 :: []) ⟨mk 58 [(1, x1), (2, x2)], rows, low⟩ r
@[simp] theorem uc41b : Ex F cx (.code c41b :: k) s r ↔ Ex F cx (.code (.seq c41k23 c41s22) :: k) s r := Iff.rfl
theorem i41 {x0 x1 : AV} (hF : F 41 = some c41) {q : AV × List Row × Option Nat} (h : Ex F (.fn [.t 4, .t 5, .t 6]) [.code c41b] ⟨mk 58 [(0, x0), (1, x1)], rows, rows.length⟩ fun r => fin rows r.1 r.2.1 r.2.2 = q) : Ret F 41 [x0, x1] rows = some q := Ret_mk hF h
@[simp] theorem uc47k1 : Ex F cx (.code c47k1 :: k) ⟨mk 106 l, rows, low⟩ r ↔ bnd (evP rows (.eqv true .slice (.c (lk l 10)) (.c .nilslice))) fun v0 => Ex F cx k ⟨mk 106 [(6, (.int .i64 0)), (5, v0), (4, lk l 10), (105, v0), (104, lk l 10), (103, lk l 10), (10, lk l 10)], rows, low⟩ r := rg [10] c47r1 rfl (by kernel_rfl)
@[simp] theorem uc47s2 : Ex F cx (.code c47s2 :: k) s r ↔ Ex F cx (.code (.seq c47k1 .ret) :: k) s r := Iff.rfl
@[simp] theorem uc47k4 : Ex F cx (.code c47k4 :: k) ⟨mk 106 l, rows, low⟩ r ↔ bnd (evP rows (.bin .add (.c (lk l 30)) (.c (.int .i64 1)))) fun v0 => Ex F cx k ⟨mk 106 [(30, v0), (102, v0), (1, lk l 1), (8, lk l 8), (9, lk l 9), (10, lk l 10), (28, lk l 28), (29, lk l 29), (30, lk l 30)], rows, low⟩ r := rg [1, 8, 9, 10, 28, 29, 30] c47r4 rfl (by kernel_rfl)
@[simp] theorem uc47k5 : Ex F cx (.code c47k5 :: k) ⟨mk 106 l, rows, low⟩ r ↔ bnd (evP rows (.sliceS 1 (.c (lk l 14)) (some (.c (.int .i64 1))) none none)) fun v0 => bnd (evE rows low (.app 1 8 (.c (lk l 13)) (.c v0))) fun q1 => Ex F cx k ⟨mk 106 [(10, q1.1), (101, q1.1), (100, v0), (99, lk l 14), (98, lk l 13), (13, lk l 13), (14, lk l 14)], q1.2.1, q1.2.2⟩ r := rg [13, 14] c47r5 rfl (by kernel_rfl)
@[simp] theorem uc47s6 : Ex F cx (.code c47s6 :: k) s r ↔ Ex F cx (.code (.seq c47k5 (.exit 0)) :: k) s r := Iff.rfl
@[simp] theorem uc47k7 : Ex F cx (.code c47k7 :: k) ⟨mk 106 l, rows, low⟩ r ↔ bnd (Ret F 82 [lk l 14] rows) fun q0 => Ex F cx k ⟨mk 106 [(97, q0.1), (96, lk l 14), (13, lk l 13), (14, lk l 14)], q0.2.1, (lowO low q0.2.2)⟩ r := rg [13, 14] c47r7 rfl (by kernel_rfl)
@[simp] theorem uc47s8 : Ex F cx (.code c47s8 :: k) s r ↔ Ex F cx (.code (.seq c47k7 c47s6) :: k) s r := Iff.rfl
@[simp] theorem uc47k10 : Ex F cx (.code c47k10 :: k) ⟨mk 106 l, rows, low⟩ r ↔ bnd (evP rows (.len 0 (.c (lk l 13)))) fun v0 => bnd (evP rows (.bin .sub (.c v0) (.c (.int .i64 1)))) fun v1 => bnd (evP rows (.sliceS 1 (.c (lk l 13)) none (some (.c v1)) none)) fun v2 => bnd (evP rows (.len 0 (.c (lk l 14)))) fun v3 => bnd (evP rows (.bin .sub (.c v3) (.c (.int .i64 1)))) fun v4 => bnd (evP rows (.sliceS 1 (.c (lk l 14)) none (some (.c v4)) none)) fun v5 => Ex F cx k ⟨mk 106 [(14, v5), (13, v2), (95, v5), (94, v4), (93, v3), (92, lk l 14), (91, lk l 14), (90, v2), (89, v1), (88, v0), (87, lk l 13), (86, lk l 13), (13, lk l 13), (14, lk l 14)], rows, low⟩ r := rg [13, 14] c47r10 rfl (by kernel_rfl)
@[simp] theorem uc47s11 : Ex F cx (.code c47s11 :: k) s r ↔ Ex F cx (.code (.block 3 c47k10) :: k) s r := Iff.rfl
@[simp] theorem uc47s12 : Ex F cx (.code c47s12 :: k) s r ↔ Ex F cx (.code (.cond (.t 85) .skip (.exit 2)) :: k) s r := Iff.rfl
@[simp] theorem uc47k13 : Ex F cx (.code c47k13 :: k) ⟨mk 106 l, rows, low⟩ r ↔ bnd (evP rows (.len 0 (.c (lk l 13)))) fun v0 => bnd (evP rows (.bin .gtr (.c v0) (.c (.int .i64 1)))) fun v1 => bnd (gv v1 true (evP rows (.mv (.c (lk l 14))))) fun v2 => bnd (gv v1 true (evP rows (.len 0 (.c v2)))) fun v3 => bnd (gv v1 true (evP rows (.bin .gtr (.c v3) (.c (.int .i64 1))))) fun v4 => bnd (evP rows (.pick (.c v1) (.c v4) (.c (.bool false)))) fun v5 => bnd (gv v5 true (evP rows (.mv (.c (lk l 13))))) fun v6 => bnd (gv v5 true (evP rows (.mv (.c (lk l 13))))) fun v7 => bnd (gv v5 true (evP rows (.len 0 (.c v7)))) fun v8 => bnd (gv v5 true (evP rows (.bin .sub (.c v8) (.c (.int .i64 2))))) fun v9 => bnd (gv v5 true (evP rows (.idxS 1 (.c v6) (.c v9)))) fun v10 => bnd (gv v5 true (evP rows (.load1 (.c v10)))) fun v11 => bnd (gv v5 true (evP rows (.mv (.c (lk l 14))))) fun v12 => bnd (gv v5 true (evP rows (.mv (.c (lk l 14))))) fun v13 => bnd (gv v5 true (evP rows (.len 0 (.c v13)))) fun v14 => bnd (gv v5 true (evP rows (.bin .sub (.c v14) (.c (.int .i64 2))))) fun v15 => bnd (gv v5 true (evP rows (.idxS 1 (.c v12) (.c v15)))) fun v16 => bnd (gv v5 true (evP rows (.load1 (.c v16)))) fun v17 => bnd (gv v5 true (evP rows (.bin .eql (.c v11) (.c v17)))) fun v18 => bnd (evP rows (.pick (.c v5) (.c v18) (.c (.bool false)))) fun v19 => Ex F cx k ⟨mk 106 [(85, v19), (84, v18), (83, v17), (82, v16), (81, v15), (80, v14), (79, v13), (78, v12), (77, v11), (76, v10), (75, v9), (74, v8), (73, v7), (72, v6), (71, v5), (70, v5), (69, v4), (68, v3), (67, v2), (66, v1), (65, v1), (64, v0), (63, lk l 13), (13, lk l 13), (14, lk l 14)], rows, low⟩ r := rg [13, 14] c47r13 rfl (by kernel_rfl)
@[simp] theorem uc47s14 : Ex F cx (.code c47s14 :: k) s r ↔ Ex F cx (.code (.seq (.block 2 (.loop c47l9)) c47s8) :: k) s r := Iff.rfl
@[simp] theorem uc47k15 : Ex F cx (.code c47k15 :: k) ⟨mk 106 l, rows, low⟩ r ↔ bnd (evP (rows ++ maskE 0 ([] : List (Nat × Row))) (.load1 (.c (lk l 9)))) fun v0 => bnd (evP (rows ++ maskE 0 ([] : List (Nat × Row))) (.idxA 2 1 (.c (lk l 12)) (.c (.int .i64 0)))) fun v1 => bnd (evP (rows ++ maskE 2 ([] : List (Nat × Row))) (.load1 (.c v1))) fun v2 => bnd (opC F (rows ++ maskE 7 ([] : List (Nat × Row))) (rows.length + ([] : List (Nat × Row)).length) [v2] [] v0) fun q3 => q3.2.2 = rows.length + ([] : List (Nat × Row)).length ∧ bnd (some (([] : List (Nat × Row)) ++ List.map (fun (x : Row) => (3, x)) (q3.2.1.drop (rows.length + ([] : List (Nat × Row)).length)))) fun e3 => bnd (evP (rows ++ maskE 0 e3) (.load1 (.c (lk l 9)))) fun v4 => bnd (evP (rows ++ maskE 0 e3) (.idxA 2 1 (.c (lk l 12)) (.c (.int .i64 1)))) fun v5 => bnd (evP (rows ++ maskE 32 e3) (.load1 (.c v5))) fun v6 => callK F (rows ++ List.map (fun (x : Nat × Row) => x.2) e3) low [v6] (fun v7 R7 L7 => Ex F cx k ⟨mk 106 [(14, v7), (13, q3.1), (62, v7), (61, v6), (60, v5), (59, v4), (58, q3.1), (57, v2), (56, v1), (55, v0), (9, lk l 9), (12, lk l 12)], R7, L7⟩ r) [] v4 := rg [9, 12] c47r15 rfl (by kernel_rfl)
@[simp] theorem uc47s16 : Ex F cx (.code c47s16 :: k) s r ↔ Ex F cx (.code (.seq c47k15 c47s14) :: k) s r := Iff.rfl
@[simp] theorem uc47s17 : Ex F cx (.code c47s17 :: k) s r ↔ Ex F cx (.code (.cond (.t 54) (.exit 1) .skip) :: k) s r := Iff.rfl
@[simp] theorem uc47k18 : Ex F cx (.code c47k18 :: k) ⟨mk 106 l, rows, low⟩ r ↔ bnd (evP rows (.load1 (.c (lk l 8)))) fun v0 => bnd (evP rows (.idxA 2 1 (.c (lk l 12)) (.c (.int .i64 1)))) fun v1 => bnd (evP rows (.load1 (.c v1))) fun v2 => bnd (evP rows (.nilck (.c v0))) fun v3 => bnd (evP rows (.fieldA 6 (.c v3))) fun v4 => bnd (evP rows (.idxA 6 1 (.c v4) (.c v2))) fun v5 => bnd (evP rows (.load1 (.c v5))) fun v6 => bnd (evP rows (.load1 (.c (lk l 8)))) fun v7 => bnd (evP rows (.idxA 2 1 (.c (lk l 12)) (.c (.int .i64 0)))) fun v8 => bnd (evP rows (.load1 (.c v8))) fun v9 => bnd (evP rows (.nilck (.c v7))) fun v10 => bnd (evP rows (.fieldA 6 (.c v10))) fun v11 => bnd (evP rows (.idxA 6 1 (.c v11) (.c v9))) fun v12 => bnd (evP rows (.load1 (.c v12))) fun v13 => bnd (evP rows (.bin .sub (.c v6) (.c v13))) fun v14 => bnd (evP rows (.idxS 1 (.c (lk l 1)) (.c (lk l 11)))) fun v15 => bnd (evP rows (.load1 (.c v15))) fun v16 => bnd (evP rows (.bin .eql (.c v14) (.c v16))) fun v17 => Ex F cx k ⟨mk 106 [(54, v17), (53, v16), (52, v15), (51, lk l 11), (50, lk l 1), (49, v14), (48, v13), (47, v12), (46, v11), (45, v10), (44, v9), (43, v8), (42, v7), (41, v6), (40, v5), (39, v4), (38, v3), (37, v2), (36, v1), (35, v0), (1, lk l 1), (8, lk l 8), (9, lk l 9), (10, lk l 10), (11, lk l 11), (12, lk l 12), (28, lk l 28), (29, lk l 29), (30, lk l 30)], rows, low⟩ r := rg [1, 8, 9, 10, 11, 12, 28, 29, 30] c47r18 rfl (by kernel_rfl)
@[simp] theorem uc47s19 : Ex F cx (.code c47s19 :: k) s r ↔ Ex F cx (.code (.seq (.seq c47k18 c47s17) c47s16) :: k) s r := Iff.rfl
@[simp] theorem uc47k20 : Ex F cx (.code c47k20 :: k) ⟨mk 106 l, rows, low⟩ r ↔ bnd (evP rows (.idxS 2 (.c (lk l 28)) (.c (lk l 30)))) fun v0 => bnd (evP rows (.loadN 2 (.c v0))) fun v1 => bnd (evE rows low (.box (.c (.agg [.int .i64 0, .int .i64 0])))) fun q2 => bnd (evE q2.2.1 q2.2.2 (.storeN 2 (.c q2.1) (.c v1))) fun q3 => Ex F cx k ⟨mk 106 [(11, lk l 30), (12, q2.1), (34, v1), (33, v0), (32, lk l 30), (1, lk l 1), (8, lk l 8), (9, lk l 9), (10, lk l 10), (28, lk l 28), (29, lk l 29), (30, lk l 30)], q3.2.1, q3.2.2⟩ r := rg [1, 8, 9, 10, 28, 29, 30] c47r20 rfl (by kernel_rfl)
@[simp] theorem uc47s21 : Ex F cx (.code c47s21 :: k) s r ↔ Ex F cx (.code (.seq (.block 1 (.seq c47k20 c47s19)) c47k4) :: k) s r := Iff.rfl
@[simp] theorem uc47s22 : Ex F cx (.code c47s22 :: k) s r ↔ Ex F cx (.code (.seq (.cond (.t 31) .skip (.exit 0)) c47s21) :: k) s r := Iff.rfl
@[simp] theorem uc47k23 : Ex F cx (.code c47k23 :: k) ⟨mk 106 l, rows, low⟩ r ↔ bnd (evP rows (.bin .lss (.c (lk l 30)) (.c (lk l 29)))) fun v0 => Ex F cx k ⟨mk 106 [(31, v0), (1, lk l 1), (8, lk l 8), (9, lk l 9), (10, lk l 10), (28, lk l 28), (29, lk l 29), (30, lk l 30)], rows, low⟩ r := rg [1, 8, 9, 10, 28, 29, 30] c47r23 rfl (by kernel_rfl)
@[simp] theorem uc47s24 : Ex F cx (.code c47s24 :: k) s r ↔ Ex F cx (.code (.block 0 (.loop c47l3)) :: k) s r := Iff.rfl
@[simp] theorem uc47k25 : Ex F cx (.code c47k25 :: k) ⟨mk 106 l, rows, low⟩ r ↔ bnd (evP rows (.fieldA 1 (.c (lk l 2)))) fun v0 => bnd (evP rows (.load1 (.c v0))) fun v1 => bnd (evP rows (.len 0 (.c v1))) fun v2 => Ex F cx k ⟨mk 106 [(30, (.int .i64 0)), (29, v2), (28, v1), (27, v0), (1, lk l 1), (2, lk l 2), (8, lk l 8), (9, lk l 9), (10, lk l 10)], rows, low⟩ r := rg [1, 2, 8, 9, 10] c47r25 rfl (by kernel_rfl)
@[simp] theorem uc47s26 : Ex F cx (.code c47s26 :: k) s r ↔ Ex F cx (.code (.seq (.seq c47k25 c47s24) c47s2) :: k) s r := Iff.rfl
@[simp] theorem uc47s27 : Ex F cx (.code c47s27 :: k) s r ↔ Ex F cx (.code (.seq .skip c47s26) :: k) s r := Iff.rfl
@[simp] theorem uc47k28 : Ex F cx (.code c47k28 :: k) ⟨mk 106 l, rows, low⟩ r ↔ Ex F cx k ⟨mk 106 [(10, .nilslice), (1, lk l 1), (2, lk l 2), (8, lk l 8), (9, lk l 9)], rows, low⟩ r := rg [1, 2, 8, 9] c47r28 rfl (by kernel_rfl)
@[simp] theorem uc47s29 : Ex F cx (.code c47s29 :: k) s r ↔ Ex F cx (.code (.seq c47k28 c47s27) :: k) s r := Iff.rfl
@[simp] theorem uc47k30 : Ex F cx (.code c47k30 :: k) ⟨mk 106 l, rows, low⟩ r ↔ bnd (evP rows (.mkfn 81 [(.c (lk l 8)), (.c (lk l 9))])) fun v0 => bnd (evE rows low (.store1 (.c (lk l 9)) (.c v0))) fun q1 => Ex F cx k ⟨mk 106 [(26, v0), (1, lk l 1), (2, lk l 2), (8, lk l 8), (9, lk l 9)], q1.2.1, q1.2.2⟩ r := rg [1, 2, 8, 9] c47r30 rfl (by kernel_rfl)
@[simp] theorem uc47s31 : Ex F cx (.code c47s31 :: k) s r ↔ Ex F cx (.code (.seq c47k30 c47s29) :: k) s r := Iff.rfl
@[simp] theorem uc47k32 : Ex F cx (.code c47k32 :: k) ⟨mk 106 l, rows, low⟩ r ↔ bnd (evE rows low (.box (.c .nilfunc))) fun q0 => Ex F cx k ⟨mk 106 [(9, q0.1), (1, lk l 1), (2, lk l 2), (8, lk l 8)], q0.2.1, q0.2.2⟩ r := rg [1, 2, 8] c47r32 rfl (by kernel_rfl)
@[simp] theorem uc47s33 : Ex F cx (.code c47s33 :: k) s r ↔ Ex F cx (.code (.seq c47k32 c47s31) :: k) s r := Iff.rfl
@[simp] theorem uc47k34 : Ex F cx (.code c47k34 :: k) ⟨mk 106 l, rows, low⟩ r ↔ bnd (evP rows (.loadN 3 (.c (lk l 2)))) fun v0 => bnd (Ret F 78 [v0, lk l 1] rows) fun q1 => bnd (evE q1.2.1 (lowO low q1.2.2) (.box (.c .nilptr))) fun q2 => bnd (evE q2.2.1 q2.2.2 (.store1 (.c q2.1) (.c q1.1))) fun q3 => Ex F cx k ⟨mk 106 [(8, q2.1), (25, q1.1), (24, lk l 1), (23, v0), (1, lk l 1), (2, lk l 2)], q3.2.1, q3.2.2⟩ r := rg [1, 2] c47r34 rfl (by kernel_rfl)
@[simp] theorem uc47s35 : Ex F cx (.code c47s35 :: k) s r ↔ Ex F cx (.code (.seq c47k34 c47s33) :: k) s r := Iff.rfl
@[simp] theorem uc47k36 : Ex F cx (.code c47k36 :: k) ⟨mk 106 l, rows, low⟩ r ↔ Ex F cx k ⟨mk 106 [(6, lk l 7), (5, (.bool false)), (4, .nilslice), (22, lk l 7), (7, lk l 7)], rows, low⟩ r := rg [7] c47r36 rfl (by kernel_rfl)
@[simp] theorem uc47s37 : Ex F cx (.code c47s37 :: k) s r ↔ Ex F cx (.code (.cond (.t 21) (.seq c47k36 .ret) .skip) :: k) s r := Iff.rfl
@[simp] theorem uc47k38 : Ex F cx (.code c47k38 :: k) ⟨mk 106 l, rows, low⟩ r ↔ bnd (evP rows (.bin .neq (.c (lk l 7)) (.c (.int .i64 0)))) fun v0 => Ex F cx k ⟨mk 106 [(21, v0), (20, lk l 7), (1, lk l 1), (2, lk l 2), (7, lk l 7)], rows, low⟩ r := rg [1, 2, 7] c47r38 rfl (by kernel_rfl)
@[simp] theorem uc47s39 : Ex F cx (.code c47s39 :: k) s r ↔ Ex F cx (.code (.seq c47k38 c47s37) :: k) s r := Iff.rfl
@[simp] theorem uc47k40 : Ex F cx (.code c47k40 :: k) ⟨mk 106 l, rows, low⟩ r ↔ bnd (evP rows (.loadN 3 (.c (lk l 2)))) fun v0 => bnd (evP rows (.loadN 3 (.c (lk l 2)))) fun v1 => bnd (evP rows (.bind 67 [(.c v1)])) fun v2 => bnd (Ret F 66 [v0, lk l 1, v2] rows) fun q3 => Ex F cx k ⟨mk 106 [(7, q3.1), (19, q3.1), (18, v2), (17, v1), (16, lk l 1), (15, v0), (1, lk l 1), (2, lk l 2)], q3.2.1, (lowO low q3.2.2)⟩ r := rg [1, 2] c47r40 rfl (by kernel_rfl)
@[simp] theorem uc47p0 : Ex F cx (.code c47p0 :: k) s r ↔ Ex F cx (.code (.seq (.seq c47k40 c47s39) c47s35) :: k) s r := Iff.rfl
@[simp] theorem uc47s41 : Ex F cx (.code c47s41 :: k) s r ↔ Ex F cx (.code (.scope c47p0) :: k) s r := Iff.rfl
@[simp] theorem uc47k42 : Ex F cx (.code c47k42 :: k) ⟨mk 106 l, rows, low⟩ r ↔ bnd (evE rows low (.box (.c (lk l 0)))) fun q0 => Ex F cx k ⟨mk 106 [(6, (.int .i64 0)), (5, (.bool false)), (4, .nilslice), (2, q0.1), (0, lk l 0), (1, lk l 1)], q0.2.1, q0.2.2⟩ r := rg [0, 1] c47r42 rfl (by kernel_rfl)
def Jc47s11 (F : Nat → Option IFn) (cx : Ctx) (x13 x14 : AV) (rows : List Row) (low : Nat) (r : AV × List Row × Nat → Prop) : Prop := Ex F cx (.code c47s11 :: .inLoop c47l9 :: .inBlock 2 :: .code c47s8 :: .inBlock 1 :: .code c47k4 :: .inLoop c47l3 :: .inBlock 0 :: .code c47s2 :: .inScope c47p0 :: []) ⟨mk 106 [(13, x13), (14, x14)], rows, low⟩ r
def Lc47l9 (F : Nat → Option IFn) (cx : Ctx) (x13 x14 : AV) (rows : List Row) (low : Nat) (r : AV × List Row × Nat → Prop) : Prop := Ex F cx (.code c47l9 :: .inLoop c47l9 :: .inBlock 2 :: .code c47s8 :: .inBlock 1 :: .code c47k4 :: .inLoop c47l3 :: .inBlock 0 :: .code c47s2 :: .inScope c47p0 :: []) ⟨mk 106 [(13, x13), (14, x14)], rows, low⟩ r
@[simp] theorem nc47l9 : Ex F cx (.inLoop c47l9 :: .inBlock 2 :: .code c47s8 :: .inBlock 1 :: .code c47k4 :: .inLoop c47l3 :: .inBlock 0 :: .code c47s2 :: .inScope c47p0 :: []) ⟨mk 106 l, rows, low⟩ r ↔ Lc47l9 F cx (lk l 13) (lk l 14) rows low r := loopN (keep := [13, 14]) (by kernel_rfl)
@[simp] theorem ec47l9 : Ex F cx (.code (.loop c47l9) :: .inBlock 2 :: .code c47s8 :: .inBlock 1 :: .code c47k4 :: .inLoop c47l3 :: .inBlock 0 :: .code c47s2 :: .inScope c47p0 :: []) ⟨mk 106 l, rows, low⟩ r ↔ Lc47l9 F cx (lk l 13) (lk l 14) rows low r := loopE (keep := [13, 14]) (by kernel_rfl)
@[simp] theorem uc47l9 : Ex F cx (.code c47l9 :: k) s r ↔ Ex F cx (.code (.seq (.seq c47k13 c47s12) c47s11) :: k) s r := Iff.rfl
def Jc47s16 (F : Nat → Option IFn) (cx : Ctx) (x9 x12 : AV) (rows : List Row) (low : Nat) (r : AV × List Row × Nat → Prop) : Prop := Ex F cx (.code c47s16 :: .inBlock 1 :: .code c47k4 :: .inLoop c47l3 :: .inBlock 0 :: .code c47s2 :: .inScope c47p0 :: []) ⟨mk 106 [(9, x9), (12, x12)], rows, low⟩ r
theorem jc47s16 : Ex F cx (.code c47s16 :: .inBlock 1 :: .code c47k4 :: .inLoop c47l3 :: .inBlock 0 :: .code c47s2 :: .inScope c47p0 :: []) ⟨mk 106 l, rows, low⟩ r ↔ Jc47s16 F cx (lk l 9) (lk l 12) rows low r := Ex_canon (keep := [9, 12]) (by kernel_rfl)
def Jc47s21 (F : Nat → Option IFn) (cx : Ctx) (x1 x8 x9 x10 x28 x29 x30 : AV) (rows : List Row) (low : Nat) (r : AV × List Row × Nat → Prop) : Prop := Ex F cx (.code c47s21 :: .inLoop c47l3 :: .inBlock 0 :: .code c47s2 :: .inScope c47p0 :: []) ⟨mk 106 [(1, x1), (8, x8), (9, x9), (10, x10), (28, x28), (29, x29), (30, x30)], rows, low⟩ r
def Lc47l3 (F : Nat → Option IFn) (cx : Ctx) (x1 x8 x9 x10 x28 x29 x30 : AV) (rows : List Row) (low : Nat) (r : AV × List Row × Nat → Prop) : Prop := Ex F cx (.code c47l3 :: .inLoop c47l3 :: .inBlock 0 :: .code c47s2 :: .inScope c47p0 :: []) ⟨mk 106 [(1, x1), (8, x8), (9, x9), (10, x10), (28, x28), (29, x29), (30, x30)], rows, low⟩ r
@[simp] theorem nc47l3 : Ex F cx (.inLoop c47l3 :: .inBlock 0 :: .code c47s2 :: .inScope c47p0 :: []) ⟨mk 106 l, rows, low⟩ r ↔ Lc47l3 F cx (lk l 1) (lk l 8) (lk l 9) (lk l 10) (lk l 28) (lk l 29) (lk l 30) rows low r := loopN (keep := [1, 8, 9, 10, 28, 29, 30]) (by kernel_rfl)
@[simp] theorem ec47l3 : Ex F cx (.code (.loop c47l3) :: .inBlock 0 :: .code c47s2 :: .inScope c47p0 :: []) ⟨mk 106 l, rows, low⟩ r ↔ Lc47l3 F cx (lk l 1) (lk l 8) (lk l 9) (lk l 10) (lk l 28) (lk l 29) (lk l 30) rows low r := loopE (keep := [1, 8, 9, 10, 28, 29, 30]) (by kernel_rfl)
@[simp] theorem uc47l3 : Ex F cx (.code c47l3 :: k) s r ↔ Ex F cx (.code (.seq c47k23 c47s22) :: k) s r := Iff.rfl
def Jc47s35 (F : Nat → Option IFn) (cx : Ctx) (x1 x2 : AV) (rows : List Row) (low : Nat) (r : AV × List Row × Nat → Prop) : Prop := Ex F cx (.code c47s35 :: .inScope c47p0 :: []) ⟨mk 106 [(1, x1), (2, x2)], rows, low⟩ r
@[simp] theorem uc47b : Ex F cx (.code c47b :: k) s r ↔ Ex F cx (.code (.seq c47k42 c47s41) :: k) s r := Iff.rfl
theorem i47 {x0 x1 : AV} (hF : F 47 = some c47) {q : AV × List Row × Option Nat} (h : Ex F (.fn [.t 4, .t 5, .t 6]) [.code c47b] ⟨mk 106 [(0, x0), (1, x1)], rows, rows.length⟩ fun r => fin rows r.1 r.2.1 r.2.2 = q) : Ret F 47 [x0, x1] rows = some q := Ret_mk hF h
@[simp] theorem uc48k0 : Ex F cx (.code c48k0 :: k) ⟨mk 135 l, rows, low⟩ r ↔ Ex F cx k ⟨mk 135 [(5, (.bool true)), (4, lk l 6), (134, lk l 6), (6, lk l 6)], rows, low⟩ r := rg [6] c48r0 rfl (by kernel_rfl)
@[simp] theorem uc48s1 : Ex F cx (.code c48s1 :: k) s r ↔ Ex F cx (.code (.seq c48k0 .ret) :: k) s r := Iff.rfl
@[simp] theorem uc48k3 : Ex F cx (.code c48k3 :: k) ⟨mk 135 l, rows, low⟩ r ↔ bnd (evP rows (.bin .add (.c (lk l 15)) (.c (.int .i64 1)))) fun v0 => Ex F cx k ⟨mk 135 [(15, v0), (124, v0), (123, lk l 15), (1, lk l 1), (6, lk l 6), (14, lk l 14), (15, lk l 15)], rows, low⟩ r := rg [1, 6, 14, 15] c48r3 rfl (by kernel_rfl)
@[simp] theorem uc48k4 : Ex F cx (.code c48k4 :: k) ⟨mk 135 l, rows, low⟩ r ↔ Ex F cx k ⟨mk 135 [(5, (.bool false)), (4, .nilslice)], rows, low⟩ r := rg [] c48r4 rfl (by kernel_rfl)
@[simp] theorem uc48s5 : Ex F cx (.code c48s5 :: k) s r ↔ Ex F cx (.code (.cond (.t 133) (.seq c48k4 .ret) .skip) :: k) s r := Iff.rfl
@[simp] theorem uc48k6 : Ex F cx (.code c48k6 :: k) ⟨mk 135 l, rows, low⟩ r ↔ bnd (evP rows (.idxS 1 (.c (lk l 14)) (.c (lk l 15)))) fun v0 => bnd (evP rows (.load1 (.c v0))) fun v1 => bnd (evP rows (.idxS 1 (.c (lk l 1)) (.c (lk l 15)))) fun v2 => bnd (evP rows (.load1 (.c v2))) fun v3 => bnd (evP rows (.bin .neq (.c v1) (.c v3))) fun v4 => Ex F cx k ⟨mk 135 [(133, v4), (132, v3), (131, v2), (130, lk l 15), (129, lk l 1), (128, v1), (127, v0), (126, lk l 15), (125, lk l 14), (1, lk l 1), (6, lk l 6), (14, lk l 14), (15, lk l 15)], rows, low⟩ r := rg [1, 6, 14, 15] c48r6 rfl (by kernel_rfl)
@[simp] theorem uc48s7 : Ex F cx (.code c48s7 :: k) s r ↔ Ex F cx (.code (.seq (.block 7 (.seq c48k6 c48s5)) c48k3) :: k) s r := Iff.rfl
@[simp] theorem uc48s8 : Ex F cx (.code c48s8 :: k) s r ↔ Ex F cx (.code (.cond (.t 122) .skip (.exit 6)) :: k) s r := Iff.rfl
@[simp] theorem uc48k9 : Ex F cx (.code c48k9 :: k) ⟨mk 135 l, rows, low⟩ r ↔ bnd (evP rows (.len 0 (.c (lk l 14)))) fun v0 => bnd (evP rows (.bin .lss (.c (lk l 15)) (.c v0))) fun v1 => Ex F cx k ⟨mk 135 [(122, v1), (121, v0), (120, lk l 14), (119, lk l 15), (1, lk l 1), (6, lk l 6), (14, lk l 14), (15, lk l 15)], rows, low⟩ r := rg [1, 6, 14, 15] c48r9 rfl (by kernel_rfl)
@[simp] theorem uc48s10 : Ex F cx (.code c48s10 :: k) s r ↔ Ex F cx (.code (.block 6 (.loop c48l2)) :: k) s r := Iff.rfl
@[simp] theorem uc48k11 : Ex F cx (.code c48k11 :: k) ⟨mk 135 l, rows, low⟩ r ↔ Ex F cx k ⟨mk 135 [(15, (.int .i64 0)), (1, lk l 1), (6, lk l 6), (14, lk l 14)], rows, low⟩ r := rg [1, 6, 14] c48r11 rfl (by kernel_rfl)
@[simp] theorem uc48s12 : Ex F cx (.code c48s12 :: k) s r ↔ Ex F cx (.code (.seq (.seq c48k11 c48s10) c48s1) :: k) s r := Iff.rfl
@[simp] theorem uc48k13 : Ex F cx (.code c48k13 :: k) ⟨mk 135 l, rows, low⟩ r ↔ bnd (evP rows (.loadN 3 (.c (lk l 2)))) fun v0 => bnd (Ret F 49 [v0, lk l 6] rows) fun q1 => Ex F cx k ⟨mk 135 [(14, q1.1), (118, q1.1), (117, lk l 6), (116, v0), (1, lk l 1), (2, lk l 2), (6, lk l 6)], q1.2.1, (lowO low q1.2.2)⟩ r := rg [1, 2, 6] c48r13 rfl (by kernel_rfl)
@[simp] theorem uc48s14 : Ex F cx (.code c48s14 :: k) s r ↔ Ex F cx (.code (.seq c48k13 c48s12) :: k) s r := Iff.rfl
@[simp] theorem uc48k16 : Ex F cx (.code c48k16 :: k) ⟨mk 135 l, rows, low⟩ r ↔ bnd (evP rows (.bin .add (.c (lk l 10)) (.c (.int .i64 1)))) fun v0 => Ex F cx k ⟨mk 135 [(10, v0), (44, v0), (43, lk l 10), (1, lk l 1), (2, lk l 2), (6, lk l 6), (7, lk l 7), (10, lk l 10)], rows, low⟩ r := rg [1, 2, 6, 7, 10] c48r16 rfl (by kernel_rfl)
@[simp] theorem uc48k18 : Ex F cx (.code c48k18 :: k) ⟨mk 135 l, rows, low⟩ r ↔ bnd (evP rows (.bin .add (.c (lk l 11)) (.c (.int .i64 1)))) fun v0 => Ex F cx k ⟨mk 135 [(11, v0), (51, v0), (50, lk l 11), (1, lk l 1), (2, lk l 2), (6, lk l 6), (7, lk l 7), (10, lk l 10), (11, lk l 11)], rows, low⟩ r := rg [1, 2, 6, 7, 10, 11] c48r18 rfl (by kernel_rfl)
@[simp] theorem uc48k19 : Ex F cx (.code c48k19 :: k) ⟨mk 135 l, rows, low⟩ r ↔ bnd (evP rows (.idxS 1 (.c (lk l 7)) (.c (lk l 12)))) fun v0 => bnd (evE rows low (.store1 (.c v0) (.c (.bool true)))) fun q1 => Ex F cx k ⟨mk 135 [(115, v0), (114, lk l 12), (113, lk l 7), (1, lk l 1), (2, lk l 2), (6, lk l 6), (7, lk l 7), (10, lk l 10), (11, lk l 11), (12, lk l 12)], q1.2.1, q1.2.2⟩ r := rg [1, 2, 6, 7, 10, 11, 12] c48r19 rfl (by kernel_rfl)
@[simp] theorem uc48k20 : Ex F cx (.code c48k20 :: k) ⟨mk 135 l, rows, low⟩ r ↔ bnd (evP rows (.idxS 1 (.c (lk l 6)) (.c (lk l 13)))) fun v0 => bnd (evP rows (.load1 (.c v0))) fun v1 => bnd (evP rows (.idxS 1 (.c (lk l 1)) (.c (lk l 11)))) fun v2 => bnd (evP rows (.load1 (.c v2))) fun v3 => bnd (evP rows (.bin .sub (.c v1) (.c v3))) fun v4 => bnd (evP rows (.idxS 1 (.c (lk l 6)) (.c (lk l 12)))) fun v5 => bnd (evE rows low (.store1 (.c v5) (.c v4))) fun q6 => Ex F cx k ⟨mk 135 [(112, v5), (111, v4), (110, v3), (109, v2), (108, lk l 11), (107, lk l 1), (106, v1), (105, v0), (104, lk l 13), (103, lk l 6), (102, lk l 12), (101, lk l 6), (1, lk l 1), (2, lk l 2), (6, lk l 6), (7, lk l 7), (10, lk l 10), (11, lk l 11), (12, lk l 12), (13, lk l 13)], q6.2.1, q6.2.2⟩ r := rg [1, 2, 6, 7, 10, 11, 12, 13] c48r20 rfl (by kernel_rfl)
@[simp] theorem uc48s21 : Ex F cx (.code c48s21 :: k) s r ↔ Ex F cx (.code (.cond (.t 100) (.seq c48k20 c48k19) .skip) :: k) s r := Iff.rfl
@[simp] theorem uc48k22 : Ex F cx (.code c48k22 :: k) ⟨mk 135 l, rows, low⟩ r ↔ bnd (evP rows (.idxS 1 (.c (lk l 7)) (.c (lk l 13)))) fun v0 => bnd (evP rows (.load1 (.c v0))) fun v1 => bnd (gv v1 true (evP rows (.mv (.c (lk l 7))))) fun v2 => bnd (gv v1 true (evP rows (.mv (.c (lk l 12))))) fun v3 => bnd (gv v1 true (evP rows (.idxS 1 (.c v2) (.c v3)))) fun v4 => bnd (gv v1 true (evP rows (.load1 (.c v4)))) fun v5 => bnd (gv v1 true (evP rows (.un .not (.c v5)))) fun v6 => bnd (evP rows (.pick (.c v1) (.c v6) (.c (.bool false)))) fun v7 => Ex F cx k ⟨mk 135 [(100, v7), (99, v6), (98, v5), (97, v4), (96, v3), (95, v2), (94, v1), (93, v1), (92, v0), (91, lk l 13), (90, lk l 7), (1, lk l 1), (2, lk l 2), (6, lk l 6), (7, lk l 7), (10, lk l 10), (11, lk l 11), (12, lk l 12), (13, lk l 13)], rows, low⟩ r := rg [1, 2, 6, 7, 10, 11, 12, 13] c48r22 rfl (by kernel_rfl)
@[simp] theorem uc48s23 : Ex F cx (.code c48s23 :: k) s r ↔ Ex F cx (.code (.seq c48k22 c48s21) :: k) s r := Iff.rfl
@[simp] theorem uc48k24 : Ex F cx (.code c48k24 :: k) ⟨mk 135 l, rows, low⟩ r ↔ bnd (evP rows (.idxS 1 (.c (lk l 7)) (.c (lk l 13)))) fun v0 => bnd (evE rows low (.store1 (.c v0) (.c (.bool true)))) fun q1 => Ex F cx k ⟨mk 135 [(89, v0), (88, lk l 13), (87, lk l 7), (1, lk l 1), (2, lk l 2), (6, lk l 6), (7, lk l 7), (10, lk l 10), (11, lk l 11), (12, lk l 12), (13, lk l 13)], q1.2.1, q1.2.2⟩ r := rg [1, 2, 6, 7, 10, 11, 12, 13] c48r24 rfl (by kernel_rfl)
@[simp] theorem uc48k25 : Ex F cx (.code c48k25 :: k) ⟨mk 135 l, rows, low⟩ r ↔ bnd (evP rows (.idxS 1 (.c (lk l 6)) (.c (lk l 12)))) fun v0 => bnd (evP rows (.load1 (.c v0))) fun v1 => bnd (evP rows (.idxS 1 (.c (lk l 1)) (.c (lk l 11)))) fun v2 => bnd (evP rows (.load1 (.c v2))) fun v3 => bnd (evP rows (.bin .add (.c v1) (.c v3))) fun v4 => bnd (evP rows (.idxS 1 (.c (lk l 6)) (.c (lk l 13)))) fun v5 => bnd (evE rows low (.store1 (.c v5) (.c v4))) fun q6 => Ex F cx k ⟨mk 135 [(86, v5), (85, v4), (84, v3), (83, v2), (82, lk l 11), (81, lk l 1), (80, v1), (79, v0), (78, lk l 12), (77, lk l 6), (76, lk l 13), (75, lk l 6), (1, lk l 1), (2, lk l 2), (6, lk l 6), (7, lk l 7), (10, lk l 10), (11, lk l 11), (12, lk l 12), (13, lk l 13)], q6.2.1, q6.2.2⟩ r := rg [1, 2, 6, 7, 10, 11, 12, 13] c48r25 rfl (by kernel_rfl)
@[simp] theorem uc48s26 : Ex F cx (.code c48s26 :: k) s r ↔ Ex F cx (.code (.cond (.t 74) (.seq c48k25 c48k24) .skip) :: k) s r := Iff.rfl
@[simp] theorem uc48k27 : Ex F cx (.code c48k27 :: k) ⟨mk 135 l, rows, low⟩ r ↔ bnd (evP rows (.idxS 1 (.c (lk l 7)) (.c (lk l 12)))) fun v0 => bnd (evP rows (.load1 (.c v0))) fun v1 => bnd (gv v1 true (evP rows (.mv (.c (lk l 7))))) fun v2 => bnd (gv v1 true (evP rows (.mv (.c (lk l 13))))) fun v3 => bnd (gv v1 true (evP rows (.idxS 1 (.c v2) (.c v3)))) fun v4 => bnd (gv v1 true (evP rows (.load1 (.c v4)))) fun v5 => bnd (gv v1 true (evP rows (.un .not (.c v5)))) fun v6 => bnd (evP rows (.pick (.c v1) (.c v6) (.c (.bool false)))) fun v7 => Ex F cx k ⟨mk 135 [(74, v7), (73, v6), (72, v5), (71, v4), (70, v3), (69, v2), (68, v1), (67, v1), (66, v0), (65, lk l 12), (64, lk l 7), (1, lk l 1), (2, lk l 2), (6, lk l 6), (7, lk l 7), (10, lk l 10), (11, lk l 11), (12, lk l 12), (13, lk l 13)], rows, low⟩ r := rg [1, 2, 6, 7, 10, 11, 12, 13] c48r27 rfl (by kernel_rfl)
@[simp] theorem uc48s28 : Ex F cx (.code c48s28 :: k) s r ↔ Ex F cx (.code (.seq (.seq c48k27 c48s26) c48s23) :: k) s r := Iff.rfl
@[simp] theorem uc48k29 : Ex F cx (.code c48k29 :: k) ⟨mk 135 l, rows, low⟩ r ↔ bnd (evP rows (.fieldA 1 (.c (lk l 2)))) fun v0 => bnd (evP rows (.load1 (.c v0))) fun v1 => bnd (evP rows (.idxS 2 (.c v1) (.c (lk l 11)))) fun v2 => bnd (evP rows (.idxA 2 1 (.c v2) (.c (.int .i64 0)))) fun v3 => bnd (evP rows (.load1 (.c v3))) fun v4 => bnd (evP rows (.fieldA 1 (.c (lk l 2)))) fun v5 => bnd (evP rows (.load1 (.c v5))) fun v6 => bnd (evP rows (.idxS 2 (.c v6) (.c (lk l 11)))) fun v7 => bnd (evP rows (.idxA 2 1 (.c v7) (.c (.int .i64 1)))) fun v8 => bnd (evP rows (.load1 (.c v8))) fun v9 => Ex F cx k ⟨mk 135 [(13, v9), (12, v4), (63, v9), (62, v8), (61, v7), (60, lk l 11), (59, v6), (58, v5), (57, v4), (56, v3), (55, v2), (54, lk l 11), (53, v1), (52, v0), (1, lk l 1), (2, lk l 2), (6, lk l 6), (7, lk l 7), (10, lk l 10), (11, lk l 11)], rows, low⟩ r := rg [1, 2, 6, 7, 10, 11] c48r29 rfl (by kernel_rfl)
@[simp] theorem uc48s30 : Ex F cx (.code c48s30 :: k) s r ↔ Ex F cx (.code (.seq (.block 5 (.seq c48k29 c48s28)) c48k18) :: k) s r := Iff.rfl
@[simp] theorem uc48s31 : Ex F cx (.code c48s31 :: k) s r ↔ Ex F cx (.code (.cond (.t 49) .skip (.exit 4)) :: k) s r := Iff.rfl
@[simp] theorem uc48k32 : Ex F cx (.code c48k32 :: k) ⟨mk 135 l, rows, low⟩ r ↔ bnd (evP rows (.fieldA 1 (.c (lk l 2)))) fun v0 => bnd (evP rows (.load1 (.c v0))) fun v1 => bnd (evP rows (.len 0 (.c v1))) fun v2 => bnd (evP rows (.bin .lss (.c (lk l 11)) (.c v2))) fun v3 => Ex F cx k ⟨mk 135 [(49, v3), (48, v2), (47, v1), (46, v0), (45, lk l 11), (1, lk l 1), (2, lk l 2), (6, lk l 6), (7, lk l 7), (10, lk l 10), (11, lk l 11)], rows, low⟩ r := rg [1, 2, 6, 7, 10, 11] c48r32 rfl (by kernel_rfl)
@[simp] theorem uc48s33 : Ex F cx (.code c48s33 :: k) s r ↔ Ex F cx (.code (.block 4 (.loop c48l17)) :: k) s r := Iff.rfl
@[simp] theorem uc48k34 : Ex F cx (.code c48k34 :: k) ⟨mk 135 l, rows, low⟩ r ↔ Ex F cx k ⟨mk 135 [(11, (.int .i64 0)), (1, lk l 1), (2, lk l 2), (6, lk l 6), (7, lk l 7), (10, lk l 10)], rows, low⟩ r := rg [1, 2, 6, 7, 10] c48r34 rfl (by kernel_rfl)
@[simp] theorem uc48s35 : Ex F cx (.code c48s35 :: k) s r ↔ Ex F cx (.code (.seq (.block 3 (.seq c48k34 c48s33)) c48k16) :: k) s r := Iff.rfl
@[simp] theorem uc48s36 : Ex F cx (.code c48s36 :: k) s r ↔ Ex F cx (.code (.cond (.t 42) .skip (.exit 2)) :: k) s r := Iff.rfl
@[simp] theorem uc48k37 : Ex F cx (.code c48k37 :: k) ⟨mk 135 l, rows, low⟩ r ↔ bnd (evP rows (.fieldA 0 (.c (lk l 2)))) fun v0 => bnd (evP rows (.load1 (.c v0))) fun v1 => bnd (evP rows (.bin .lss (.c (lk l 10)) (.c v1))) fun v2 => Ex F cx k ⟨mk 135 [(42, v2), (41, v1), (40, v0), (39, lk l 10), (1, lk l 1), (2, lk l 2), (6, lk l 6), (7, lk l 7), (10, lk l 10)], rows, low⟩ r := rg [1, 2, 6, 7, 10] c48r37 rfl (by kernel_rfl)
@[simp] theorem uc48s38 : Ex F cx (.code c48s38 :: k) s r ↔ Ex F cx (.code (.block 2 (.loop c48l15)) :: k) s r := Iff.rfl
@[simp] theorem uc48k39 : Ex F cx (.code c48k39 :: k) ⟨mk 135 l, rows, low⟩ r ↔ Ex F cx k ⟨mk 135 [(10, (.int .i64 0)), (1, lk l 1), (2, lk l 2), (6, lk l 6), (7, lk l 7)], rows, low⟩ r := rg [1, 2, 6, 7] c48r39 rfl (by kernel_rfl)
@[simp] theorem uc48s40 : Ex F cx (.code c48s40 :: k) s r ↔ Ex F cx (.code (.seq (.seq c48k39 c48s38) c48s14) :: k) s r := Iff.rfl
@[simp] theorem uc48k42 : Ex F cx (.code c48k42 :: k) ⟨mk 135 l, rows, low⟩ r ↔ bnd (evP rows (.bin .add (.c (lk l 9)) (.c (.int .i64 1)))) fun v0 => Ex F cx k ⟨mk 135 [(9, v0), (29, v0), (28, lk l 9), (1, lk l 1), (2, lk l 2), (6, lk l 6), (7, lk l 7), (8, lk l 8), (9, lk l 9)], rows, low⟩ r := rg [1, 2, 6, 7, 8, 9] c48r42 rfl (by kernel_rfl)
@[simp] theorem uc48k43 : Ex F cx (.code c48k43 :: k) ⟨mk 135 l, rows, low⟩ r ↔ bnd (evP rows (.idxS 1 (.c (lk l 8)) (.c (lk l 9)))) fun v0 => bnd (evP rows (.load1 (.c v0))) fun v1 => bnd (evP rows (.bin .eql (.c v1) (.c (lk l 9)))) fun v2 => bnd (evP rows (.idxS 1 (.c (lk l 7)) (.c (lk l 9)))) fun v3 => bnd (evE rows low (.store1 (.c v3) (.c v2))) fun q4 => Ex F cx k ⟨mk 135 [(38, v3), (37, v2), (36, lk l 9), (35, v1), (34, v0), (33, lk l 9), (32, lk l 8), (31, lk l 9), (30, lk l 7), (1, lk l 1), (2, lk l 2), (6, lk l 6), (7, lk l 7), (8, lk l 8), (9, lk l 9)], q4.2.1, q4.2.2⟩ r := rg [1, 2, 6, 7, 8, 9] c48r43 rfl (by kernel_rfl)
@[simp] theorem uc48s44 : Ex F cx (.code c48s44 :: k) s r ↔ Ex F cx (.code (.seq (.block 1 c48k43) c48k42) :: k) s r := Iff.rfl
@[simp] theorem uc48s45 : Ex F cx (.code c48s45 :: k) s r ↔ Ex F cx (.code (.cond (.t 27) .skip (.exit 0)) :: k) s r := Iff.rfl
@[simp] theorem uc48k46 : Ex F cx (.code c48k46 :: k) ⟨mk 135 l, rows, low⟩ r ↔ bnd (evP rows (.fieldA 0 (.c (lk l 2)))) fun v0 => bnd (evP rows (.load1 (.c v0))) fun v1 => bnd (evP rows (.bin .lss (.c (lk l 9)) (.c v1))) fun v2 => Ex F cx k ⟨mk 135 [(27, v2), (26, v1), (25, v0), (24, lk l 9), (1, lk l 1), (2, lk l 2), (6, lk l 6), (7, lk l 7), (8, lk l 8), (9, lk l 9)], rows, low⟩ r := rg [1, 2, 6, 7, 8, 9] c48r46 rfl (by kernel_rfl)
@[simp] theorem uc48s47 : Ex F cx (.code c48s47 :: k) s r ↔ Ex F cx (.code (.block 0 (.loop c48l41)) :: k) s r := Iff.rfl
@[simp] theorem uc48k48 : Ex F cx (.code c48k48 :: k) ⟨mk 135 l, rows, low⟩ r ↔ Ex F cx k ⟨mk 135 [(9, (.int .i64 0)), (1, lk l 1), (2, lk l 2), (6, lk l 6), (7, lk l 7), (8, lk l 8)], rows, low⟩ r := rg [1, 2, 6, 7, 8] c48r48 rfl (by kernel_rfl)
@[simp] theorem uc48s49 : Ex F cx (.code c48s49 :: k) s r ↔ Ex F cx (.code (.seq (.seq c48k48 c48s47) c48s40) :: k) s r := Iff.rfl
@[simp] theorem uc48k50 : Ex F cx (.code c48k50 :: k) ⟨mk 135 l, rows, low⟩ r ↔ bnd (evP rows (.loadN 3 (.c (lk l 2)))) fun v0 => bnd (Ret F 31 [v0] rows) fun q1 => Ex F cx k ⟨mk 135 [(8, q1.1), (23, q1.1), (22, v0), (1, lk l 1), (2, lk l 2), (6, lk l 6), (7, lk l 7)], q1.2.1, (lowO low q1.2.2)⟩ r := rg [1, 2, 6, 7] c48r50 rfl (by kernel_rfl)
@[simp] theorem uc48s51 : Ex F cx (.code c48s51 :: k) s r ↔ Ex F cx (.code (.seq c48k50 c48s49) :: k) s r := Iff.rfl
@[simp] theorem uc48k52 : Ex F cx (.code c48k52 :: k) ⟨mk 135 l, rows, low⟩ r ↔ bnd (evP rows (.fieldA 0 (.c (lk l 2)))) fun v0 => bnd (evP rows (.load1 (.c v0))) fun v1 => bnd (evE rows low (.make [.bool false] 1 (.c v1) (.c v1))) fun q2 => Ex F cx k ⟨mk 135 [(7, q2.1), (21, q2.1), (20, v1), (19, v0), (1, lk l 1), (2, lk l 2), (6, lk l 6)], q2.2.1, q2.2.2⟩ r := rg [1, 2, 6] c48r52 rfl (by kernel_rfl)
@[simp] theorem uc48s53 : Ex F cx (.code c48s53 :: k) s r ↔ Ex F cx (.code (.seq c48k52 c48s51) :: k) s r := Iff.rfl
@[simp] theorem uc48k54 : Ex F cx (.code c48k54 :: k) ⟨mk 135 l, rows, low⟩ r ↔ bnd (evP rows (.fieldA 0 (.c (lk l 2)))) fun v0 => bnd (evP rows (.load1 (.c v0))) fun v1 => bnd (evE rows low (.make [.int .i64 0] 8 (.c v1) (.c v1))) fun q2 => Ex F cx k ⟨mk 135 [(6, q2.1), (18, q2.1), (17, v1), (16, v0), (1, lk l 1), (2, lk l 2)], q2.2.1, q2.2.2⟩ r := rg [1, 2] c48r54 rfl (by kernel_rfl)
@[simp] theorem uc48s55 : Ex F cx (.code c48s55 :: k) s r ↔ Ex F cx (.code (.seq c48k54 c48s53) :: k) s r := Iff.rfl
@[simp] theorem uc48k56 : Ex F cx (.code c48k56 :: k) ⟨mk 135 l, rows, low⟩ r ↔ bnd (evE rows low (.box (.c (lk l 0)))) fun q0 => Ex F cx k ⟨mk 135 [(5, (.bool false)), (4, .nilslice), (2, q0.1), (0, lk l 0), (1, lk l 1)], q0.2.1, q0.2.2⟩ r := rg [0, 1] c48r56 rfl (by kernel_rfl)
def Jc48s7 (F : Nat → Option IFn) (cx : Ctx) (x1 x6 x14 x15 : AV) (rows : List Row) (low : Nat) (r : AV × List Row × Nat → Prop) : Prop := Ex F cx (.code c48s7 :: .inLoop c48l2 :: .inBlock 6 :: .code c48s1 :: []) ⟨mk 135 [(1, x1), (6, x6), (14, x14), (15, x15)], rows, low⟩ r
def Lc48l2 (F : Nat → Option IFn) (cx : Ctx) (x1 x6 x14 x15 : AV) (rows : List Row) (low : Nat) (r : AV × List Row × Nat → Prop) : Prop := Ex F cx (.code c48l2 :: .inLoop c48l2 :: .inBlock 6 :: .code c48s1 :: []) ⟨mk 135 [(1, x1), (6, x6), (14, x14), (15, x15)], rows, low⟩ r
@[simp] theorem nc48l2 : Ex F cx (.inLoop c48l2 :: .inBlock 6 :: .code c48s1 :: []) ⟨mk 135 l, rows, low⟩ r ↔ Lc48l2 F cx (lk l 1) (lk l 6) (lk l 14) (lk l 15) rows low r := loopN (keep := [1, 6, 14, 15]) (by kernel_rfl)
@[simp] theorem ec48l2 : Ex F cx (.code (.loop c48l2) :: .inBlock 6 :: .code c48s1 :: []) ⟨mk 135 l, rows, low⟩ r ↔ Lc48l2 F cx (lk l 1) (lk l 6) (lk l 14) (lk l 15) rows low r := loopE (keep := [1, 6, 14, 15]) (by kernel_rfl)
@[simp] theorem uc48l2 : Ex F cx (.code c48l2 :: k) s r ↔ Ex F cx (.code (.seq (.seq c48k9 c48s8) c48s7) :: k) s r := Iff.rfl
def Jc48s23 (F : Nat → Option IFn) (cx : Ctx) (x1 x2 x6 x7 x10 x11 x12 x13 : AV) (rows : List Row) (low : Nat) (r : AV × List Row × Nat → Prop) : Prop := Ex F cx (.code c48s23 :: .inBlock 5 :: .code c48k18 :: .inLoop c48l17 :: .inBlock 4 :: .inBlock 3 :: .code c48k16 :: .inLoop c48l15 :: .inBlock 2 :: .code c48s14 :: []) ⟨mk 135 [(1, x1), (2, x2), (6, x6), (7, x7), (10, x10), (11, x11), (12, x12), (13, x13)], rows, low⟩ r
theorem jc48s23 : Ex F cx (.code c48s23 :: .inBlock 5 :: .code c48k18 :: .inLoop c48l17 :: .inBlock 4 :: .inBlock 3 :: .code c48k16 :: .inLoop c48l15 :: .inBlock 2 :: .code c48s14 :: []) ⟨mk 135 l, rows, low⟩ r ↔ Jc48s23 F cx (lk l 1) (lk l 2) (lk l 6) (lk l 7) (lk l 10) (lk l 11) (lk l 12) (lk l 13) rows low r := Ex_canon (keep := [1, 2, 6, 7, 10, 11, 12, 13]) (by kernel_rfl)
def Jc48s30 (F : Nat → Option IFn) (cx : Ctx) (x1 x2 x6 x7 x10 x11 : AV) (rows : List Row) (low : Nat) (r : AV × List Row × Nat → Prop) : Prop := Ex F cx (.code c48s30 :: .inLoop c48l17 :: .inBlock 4 :: .inBlock 3 :: .code c48k16 :: .inLoop c48l15 :: .inBlock 2 :: .code c48s14 :: []) ⟨mk 135 [(1, x1), (2, x2), (6, x6), (7, x7), (10, x10), (11, x11)], rows, low⟩ r
def Lc48l17 (F : Nat → Option IFn) (cx : Ctx) (x1 x2 x6 x7 x10 x11 : AV) (rows : List Row) (low : Nat) (r : AV × List Row × Nat → Prop) : Prop := Ex F cx (.code c48l17 :: .inLoop c48l17 :: .inBlock 4 :: .inBlock 3 :: .code c48k16 :: .inLoop c48l15 :: .inBlock 2 :: .code c48s14 :: []) ⟨mk 135 [(1, x1), (2, x2), (6, x6), (7, x7), (10, x10), (11, x11)], rows, low⟩ r
@[simp] theorem nc48l17 : Ex F cx (.inLoop c48l17 :: .inBlock 4 :: .inBlock 3 :: .code c48k16 :: .inLoop c48l15 :: .inBlock 2 :: .code c48s14 :: []) ⟨mk 135 l, rows, low⟩ r ↔ Lc48l17 F cx (lk l 1) (lk l 2) (lk l 6) (lk l 7) (lk l 10) (lk l 11) rows low r := loopN (keep := [1, 2, 6, 7, 10, 11]) (by kernel_rfl)
@[simp] theorem ec48l17 : Ex F cx (.code (.loop c48l17) :: .inBlock 4 :: .inBlock 3 :: .code c48k16 :: .inLoop c48l15 :: .inBlock 2 :: .code c48s14 :: []) ⟨mk 135 l, rows, low⟩ r ↔ Lc48l17 F cx (lk l 1) (lk l 2) (lk l 6) (lk l 7) (lk l 10) (lk l 11) rows low r := loopE (keep := [1, 2, 6, 7, 10, 11]) (by kernel_rfl)
@[simp] theorem uc48l17 : Ex F cx (.code c48l17 :: k) s r ↔ Ex F cx (.code (.seq (.seq c48k32 c48s31) c48s30) :: k) s r := Iff.rfl
def Jc48s35 (F : Nat → Option IFn) (cx : Ctx) (x1 x2 x6 x7 x10 : AV) (rows : List Row) (low : Nat) (r : AV × List Row × Nat → Prop) : Prop := Ex F cx (.code c48s35 :: .inLoop c48l15 :: .inBlock 2 :: .code c48s14 :: []) ⟨mk 135 [(1, x1), (2, x2), (6, x6), (7, x7), (10, x10)], rows, low⟩ r
def Lc48l15 (F : Nat → Option IFn) (cx : Ctx) (x1 x2 x6 x7 x10 : AV) (rows : List Row) (low : Nat) (r : AV × List Row × Nat → Prop) : Prop := Ex F cx (.code c48l15 :: .inLoop c48l15 :: .inBlock 2 :: .code c48s14 :: []) ⟨mk 135 [(1, x1), (2, x2), (6, x6), (7, x7), (10, x10)], rows, low⟩ r
@[simp] theorem nc48l15 : Ex F cx (.inLoop c48l15 :: .inBlock 2 :: .code c48s14 :: []) ⟨mk 135 l, rows, low⟩ r ↔ Lc48l15 F cx (lk l 1) (lk l 2) (lk l 6) (lk l 7) (lk l 10) rows low r := loopN (keep := [1, 2, 6, 7, 10]) (by kernel_rfl)
@[simp] theorem ec48l15 : Ex F cx (.code (.loop c48l15) :: .inBlock 2 :: .code c48s14 :: []) ⟨mk 135 l, rows, low⟩ r ↔ Lc48l15 F cx (lk l 1) (lk l 2) (lk l 6) (lk l 7) (lk l 10) rows low r := loopE (keep := [1, 2, 6, 7, 10]) (by kernel_rfl)
@[simp] theorem uc48l15 : Ex F cx (.code c48l15 :: k) s r ↔ Ex F cx (.code (.seq (.seq c48k37 c48s36) c48s35) :: k) s r := Iff.rfl
def Jc48s44 (F : Nat → Option IFn) (cx : Ctx) (x1 x2 x6 x7 x8 x9 : AV) (rows : List Row) (low : Nat) (r : AV × List Row × Nat → Prop) : Prop := Ex F cx (.code c48s44 :: .inLoop c48l41 :: .inBlock 0 :: .code c48s40 :: []) ⟨mk 135 [(1, x1), (2, x2), (6, x6), (7, x7), (8, x8), (9, x9)], rows, low⟩ r
def Lc48l41 (F : Nat → Option IFn) (cx : Ctx) (x1 x2 x6 x7 x8 x9 : AV) (rows : List Row) (low : Nat) (r : AV × List Row × Nat → Prop) : Prop := Ex F cx (.code c48l41 :: .inLoop c48l41 :: .inBlock 0 :: .code c48s40 :: []) ⟨mk 135 [(1, x1), (2, x2), (6, x6), (7, x7), (8, x8), (9, x9)], rows, low⟩ r
@[simp] theorem nc48l41 : Ex F cx (.inLoop c48l41 :: .inBlock 0 :: .code c48s40 :: []) ⟨mk 135 l, rows, low⟩ r ↔ Lc48l41 F cx (lk l 1) (lk l 2) (lk l 6) (lk l 7) (lk l 8) (lk l 9) rows low r := loopN (keep := [1, 2, 6, 7, 8, 9]) (by kernel_rfl)
@[simp] theorem ec48l41 : Ex F cx (.code (.loop c48l41) :: .inBlock 0 :: .code c48s40 :: []) ⟨mk 135 l, rows, low⟩ r ↔ Lc48l41 F cx (lk l 1) (lk l 2) (lk l 6) (lk l 7) (lk l 8) (lk l 9) rows low r := loopE (keep := [1, 2, 6, 7, 8, 9]) (by kernel_rfl)
@[simp] theorem uc48l41 : Ex F cx (.code c48l41 :: k) s r ↔ Ex F cx (.code (.seq (.seq c48k46 c48s45) c48s44) :: k) s r := Iff.rfl
@[simp] theorem uc48b : Ex F cx (.code c48b :: k) s r ↔ Ex F cx (.code (.seq c48k56 c48s55) :: k) s r := Iff.rfl
theorem i48 {x0 x1 : AV} (hF : F 48 = some c48) {q : AV × List Row × Option Nat} (h : Ex F (.fn [.t 4, .t 5]) [.code c48b] ⟨mk 135 [(0, x0), (1, x1)], rows, rows.length⟩ fun r => fin rows r.1 r.2.1 r.2.2 = q) : Ret F 48 [x0, x1] rows = some q := Ret_mk hF h
@[simp] theorem uc49k0 : Ex F cx (.code c49k0 :: k) ⟨mk 41 l, rows, low⟩ r ↔ Ex F cx k ⟨mk 41 [(4, lk l 5), (40, lk l 5), (5, lk l 5)], rows, low⟩ r := rg [5] c49r0 rfl (by kernel_rfl)
@[simp] theorem uc49s1 : Ex F cx (.code c49s1 :: k) s r ↔ Ex F cx (.code (.seq c49k0 .ret) :: k) s r := Iff.rfl
@[simp] theorem uc49k3 : Ex F cx (.code c49k3 :: k) ⟨mk 41 l, rows, low⟩ r ↔ bnd (evP rows (.bin .add (.c (lk l 6)) (.c (.int .i64 1)))) fun v0 => Ex F cx k ⟨mk 41 [(6, v0), (17, v0), (16, lk l 6), (1, lk l 1), (2, lk l 2), (5, lk l 5), (6, lk l 6)], rows, low⟩ r := rg [1, 2, 5, 6] c49r3 rfl (by kernel_rfl)
@[simp] theorem uc49k4 : Ex F cx (.code c49k4 :: k) ⟨mk 41 l, rows, low⟩ r ↔ bnd (evP rows (.fieldA 1 (.c (lk l 2)))) fun v0 => bnd (evP rows (.load1 (.c v0))) fun v1 => bnd (evP rows (.idxS 2 (.c v1) (.c (lk l 6)))) fun v2 => bnd (evP rows (.idxA 2 1 (.c v2) (.c (.int .i64 1)))) fun v3 => bnd (evP rows (.load1 (.c v3))) fun v4 => bnd (evP rows (.idxS 1 (.c (lk l 1)) (.c v4))) fun v5 => bnd (evP rows (.load1 (.c v5))) fun v6 => bnd (evP rows (.fieldA 1 (.c (lk l 2)))) fun v7 => bnd (evP rows (.load1 (.c v7))) fun v8 => bnd (evP rows (.idxS 2 (.c v8) (.c (lk l 6)))) fun v9 => bnd (evP rows (.idxA 2 1 (.c v9) (.c (.int .i64 0)))) fun v10 => bnd (evP rows (.load1 (.c v10))) fun v11 => bnd (evP rows (.idxS 1 (.c (lk l 1)) (.c v11))) fun v12 => bnd (evP rows (.load1 (.c v12))) fun v13 => bnd (evP rows (.bin .sub (.c v6) (.c v13))) fun v14 => bnd (evP rows (.idxS 1 (.c (lk l 5)) (.c (lk l 6)))) fun v15 => bnd (evE rows low (.store1 (.c v15) (.c v14))) fun q16 => Ex F cx k ⟨mk 41 [(39, v15), (38, v14), (37, v13), (36, v12), (35, v11), (34, v10), (33, v9), (32, lk l 6), (31, v8), (30, v7), (29, lk l 1), (28, v6), (27, v5), (26, v4), (25, v3), (24, v2), (23, lk l 6), (22, v1), (21, v0), (20, lk l 1), (19, lk l 6), (18, lk l 5), (1, lk l 1), (2, lk l 2), (5, lk l 5), (6, lk l 6)], q16.2.1, q16.2.2⟩ r := rg [1, 2, 5, 6] c49r4 rfl (by kernel_rfl)
@[simp] theorem uc49s5 : Ex F cx (.code c49s5 :: k) s r ↔ Ex F cx (.code (.seq (.block 1 c49k4) c49k3) :: k) s r := Iff.rfl
@[simp] theorem uc49s6 : Ex F cx (.code c49s6 :: k) s r ↔ Ex F cx (.code (.cond (.t 15) .skip (.exit 0)) :: k) s r := Iff.rfl
@[simp] theorem uc49k7 : Ex F cx (.code c49k7 :: k) ⟨mk 41 l, rows, low⟩ r ↔ bnd (evP rows (.fieldA 1 (.c (lk l 2)))) fun v0 => bnd (evP rows (.load1 (.c v0))) fun v1 => bnd (evP rows (.len 0 (.c v1))) fun v2 => bnd (evP rows (.bin .lss (.c (lk l 6)) (.c v2))) fun v3 => Ex F cx k ⟨mk 41 [(15, v3), (14, v2), (13, v1), (12, v0), (11, lk l 6), (1, lk l 1), (2, lk l 2), (5, lk l 5), (6, lk l 6)], rows, low⟩ r := rg [1, 2, 5, 6] c49r7 rfl (by kernel_rfl)
@[simp] theorem uc49s8 : Ex F cx (.code c49s8 :: k) s r ↔ Ex F cx (.code (.block 0 (.loop c49l2)) :: k) s r := Iff.rfl
@[simp] theorem uc49k9 : Ex F cx (.code c49k9 :: k) ⟨mk 41 l, rows, low⟩ r ↔ Ex F cx k ⟨mk 41 [(6, (.int .i64 0)), (1, lk l 1), (2, lk l 2), (5, lk l 5)], rows, low⟩ r := rg [1, 2, 5] c49r9 rfl (by kernel_rfl)
@[simp] theorem uc49s10 : Ex F cx (.code c49s10 :: k) s r ↔ Ex F cx (.code (.seq (.seq c49k9 c49s8) c49s1) :: k) s r := Iff.rfl
@[simp] theorem uc49k11 : Ex F cx (.code c49k11 :: k) ⟨mk 41 l, rows, low⟩ r ↔ bnd (evP rows (.fieldA 1 (.c (lk l 2)))) fun v0 => bnd (evP rows (.load1 (.c v0))) fun v1 => bnd (evP rows (.len 0 (.c v1))) fun v2 => bnd (evE rows low (.make [.int .i64 0] 8 (.c v2) (.c v2))) fun q3 => Ex F cx k ⟨mk 41 [(5, q3.1), (10, q3.1), (9, v2), (8, v1), (7, v0), (1, lk l 1), (2, lk l 2)], q3.2.1, q3.2.2⟩ r := rg [1, 2] c49r11 rfl (by kernel_rfl)
@[simp] theorem uc49s12 : Ex F cx (.code c49s12 :: k) s r ↔ Ex F cx (.code (.seq c49k11 c49s10) :: k) s r := Iff.rfl
@[simp] theorem uc49k13 : Ex F cx (.code c49k13 :: k) ⟨mk 41 l, rows, low⟩ r ↔ bnd (evE rows low (.box (.c (lk l 0)))) fun q0 => Ex F cx k ⟨mk 41 [(4, .nilslice), (2, q0.1), (0, lk l 0), (1, lk l 1)], q0.2.1, q0.2.2⟩ r := rg [0, 1] c49r13 rfl (by kernel_rfl)
def Jc49s5 (F : Nat → Option IFn) (cx : Ctx) (x1 x2 x5 x6 : AV) (rows : List Row) (low : Nat) (r : AV × List Row × Nat → Prop) : Prop := Ex F cx (.code c49s5 :: .inLoop c49l2 :: .inBlock 0 :: .code c49s1 :: []) ⟨mk 41 [(1, x1), (2, x2), (5, x5), (6, x6)], rows, low⟩ r
def Lc49l2 (F : Nat → Option IFn) (cx : Ctx) (x1 x2 x5 x6 : AV) (rows : List Row) (low : Nat) (r : AV × List Row × Nat → Prop) : Prop := Ex F cx (.code c49l2 :: .inLoop c49l2 :: .inBlock 0 :: .code c49s1 :: []) ⟨mk 41 [(1, x1), (2, x2), (5, x5), (6, x6)], rows, low⟩ r
@[simp] theorem nc49l2 : Ex F cx (.inLoop c49l2 :: .inBlock 0 :: .code c49s1 :: []) ⟨mk 41 l, rows, low⟩ r ↔ Lc49l2 F cx (lk l 1) (lk l 2) (lk l 5) (lk l 6) rows low r := loopN (keep := [1, 2, 5, 6]) (by kernel_rfl)
@[simp] theorem ec49l2 : Ex F cx (.code (.loop c49l2) :: .inBlock 0 :: .code c49s1 :: []) ⟨mk 41 l, rows, low⟩ r ↔ Lc49l2 F cx (lk l 1) (lk l 2) (lk l 5) (lk l 6) rows low r := loopE (keep := [1, 2, 5, 6]) (by kernel_rfl)
@[simp] theorem uc49l2 : Ex F cx (.code c49l2 :: k) s r ↔ Ex F cx (.code (.seq (.seq c49k7 c49s6) c49s5) :: k) s r := Iff.rfl
@[simp] theorem uc49b : Ex F cx (.code c49b :: k) s r ↔ Ex F cx (.code (.seq c49k13 c49s12) :: k) s r := Iff.rfl
theorem i49 {x0 x1 : AV} (hF : F 49 = some c49) {q : AV × List Row × Option Nat} (h : Ex F (.fn [.t 4]) [.code c49b] ⟨mk 41 [(0, x0), (1, x1)], rows, rows.length⟩ fun r => fin rows r.1 r.2.1 r.2.2 = q) : Ret F 49 [x0, x1] rows = some q := Ret_mk hF h
@[simp] theorem uc78k0 : Ex F cx (.code c78k0 :: k) ⟨mk 116 l, rows, low⟩ r ↔ Ex F cx k ⟨mk 116 [(4, lk l 5), (115, lk l 5), (5, lk l 5)], rows, low⟩ r := rg [5] c78r0 rfl (by kernel_rfl)
@[simp] theorem uc78s1 : Ex F cx (.code c78s1 :: k) s r ↔ Ex F cx (.code (.seq c78k0 .ret) :: k) s r := Iff.rfl
@[simp] theorem uc78k3 : Ex F cx (.code c78k3 :: k) ⟨mk 116 l, rows, low⟩ r ↔ bnd (evP rows (.bin .add (.c (lk l 21)) (.c (.int .i64 1)))) fun v0 => Ex F cx k ⟨mk 116 [(21, v0), (114, v0), (1, lk l 1), (2, lk l 2), (5, lk l 5), (6, lk l 6), (20, lk l 20), (21, lk l 21)], rows, low⟩ r := rg [1, 2, 5, 6, 20, 21] c78r3 rfl (by kernel_rfl)
@[simp] theorem uc78k6 : Ex F cx (.code c78k6 :: k) ⟨mk 116 l, rows, low⟩ r ↔ bnd (evP rows (.bin .add (.c (lk l 55)) (.c (.int .i64 1)))) fun v0 => Ex F cx k ⟨mk 116 [(55, v0), (113, v0), (1, lk l 1), (2, lk l 2), (5, lk l 5), (6, lk l 6), (8, lk l 8), (9, lk l 9), (20, lk l 20), (21, lk l 21), (53, lk l 53), (54, lk l 54), (55, lk l 55)], rows, low⟩ r := rg [1, 2, 5, 6, 8, 9, 20, 21, 53, 54, 55] c78r6 rfl (by kernel_rfl)
@[simp] theorem uc78k8 : Ex F cx (.code c78k8 :: k) ⟨mk 116 l, rows, low⟩ r ↔ bnd (evP rows (.bin .add (.c (lk l 60)) (.c (.int .i64 1)))) fun v0 => Ex F cx k ⟨mk 116 [(60, v0), (112, v0), (1, lk l 1), (2, lk l 2), (5, lk l 5), (6, lk l 6), (8, lk l 8), (9, lk l 9), (10, lk l 10), (11, lk l 11), (20, lk l 20), (21, lk l 21), (53, lk l 53), (54, lk l 54), (55, lk l 55), (60, lk l 60)], rows, low⟩ r := rg [1, 2, 5, 6, 8, 9, 10, 11, 20, 21, 53, 54, 55, 60] c78r8 rfl (by kernel_rfl)
@[simp] theorem uc78k9 : Ex F cx (.code c78k9 :: k) ⟨mk 116 l, rows, low⟩ r ↔ bnd (evE rows low (.mkslice 1 [.int .i64 0] [(0, 1, (.c (lk l 14)))])) fun q0 => bnd (evE q0.2.1 q0.2.2 (.app 1 8 (.c (lk l 8)) (.c q0.1))) fun q1 => Ex F cx k ⟨mk 116 [(8, q1.1), (111, q1.1), (110, q0.1), (109, lk l 14), (108, lk l 8), (1, lk l 1), (2, lk l 2), (5, lk l 5), (6, lk l 6), (8, lk l 8), (9, lk l 9), (10, lk l 10), (11, lk l 11), (14, lk l 14), (20, lk l 20), (21, lk l 21), (53, lk l 53), (54, lk l 54), (55, lk l 55), (60, lk l 60)], q1.2.1, q1.2.2⟩ r := rg [1, 2, 5, 6, 8, 9, 10, 11, 14, 20, 21, 53, 54, 55, 60] c78r9 rfl (by kernel_rfl)
@[simp] theorem uc78k10 : Ex F cx (.code c78k10 :: k) s r ↔ Ex F cx (.code (.kill 116 [1, 2, 5, 6, 8, 9, 10, 11, 14, 15, 20, 21, 53, 54, 55, 60] (.ops c78r10)) :: k) s r := Iff.rfl
@[simp] theorem uc78r10 : Ex F cx (.ops c78r10 :: k) s r ↔ Ex F cx (.ops [
 .grpw (.t 104) (.t 93) none 59379 [(⟨some 89, .mv (.t 5), none⟩, 0), (⟨some 90, .mv (.t 14), none⟩, 0), (⟨some 91, .mv (.t 5), none⟩, 0), (⟨some 92, .mv (.t 14), none⟩, 0), (⟨some 93, .mv (.t 9), none⟩, 0), (⟨some 94, .mv (.t 5), none⟩, 0), (⟨some 95, .mv (.t 9), none⟩, 0), (⟨some 96, .nilck (.t 94), none⟩, 32), (⟨some 97, .fieldA 6 (.t 96), none⟩, 160), (⟨some 98, .idxA 6 1 (.t 97) (.t 95), none⟩, 480), (⟨some 99, .load1 (.t 98), none⟩, 992), (⟨some 100, .mv (.t 15), none⟩, 0), (⟨some 101, .bin .add (.t 99) (.t 100), none⟩, 4064), (⟨some 102, .nilck (.t 89), none⟩, 1), (⟨some 103, .fieldA 0 (.t 102), none⟩, 8193), (⟨some 104, .idxA 6 1 (.t 103) (.t 90), none⟩, 26611), (⟨none, .lenc 0, none⟩, 59379), (⟨some 105, .nilck (.t 91), none⟩, 4), (⟨some 106, .fieldA 6 (.t 105), none⟩, 131076)],
 .one ⟨some 107, .idxA 6 1 (.t 106) (.t 92), none⟩,
 .one ⟨none, .store1 (.t 107) (.t 101), none⟩] :: k) s r := Iff.rfl
@[simp] theorem uc78s11 : Ex F cx (.code c78s11 :: k) s r ↔ Ex F cx (.code (.seq c78k10 c78k9) :: k) s r := Iff.rfl
@[simp] theorem uc78k12 : Ex F cx (.code c78k12 :: k) ⟨mk 116 l, rows, low⟩ r ↔ bnd (evE rows low (.mset (.c (lk l 6)) (.c (lk l 14)) (.c (.bool true)))) fun q0 => Ex F cx k ⟨mk 116 [(88, lk l 14), (87, lk l 6), (1, lk l 1), (2, lk l 2), (5, lk l 5), (6, lk l 6), (8, lk l 8), (9, lk l 9), (10, lk l 10), (11, lk l 11), (14, lk l 14), (15, lk l 15), (20, lk l 20), (21, lk l 21), (53, lk l 53), (54, lk l 54), (55, lk l 55), (60, lk l 60)], q0.2.1, q0.2.2⟩ r := rg [1, 2, 5, 6, 8, 9, 10, 11, 14, 15, 20, 21, 53, 54, 55, 60] c78r12 rfl (by kernel_rfl)
@[simp] theorem uc78s13 : Ex F cx (.code c78s13 :: k) s r ↔ Ex F cx (.code (.cond (.t 86) (.seq c78k12 c78s11) .skip) :: k) s r := Iff.rfl
@[simp] theorem uc78k14 : Ex F cx (.code c78k14 :: k) ⟨mk 116 l, rows, low⟩ r ↔ bnd (evP rows (.bin .eql (.c (lk l 13)) (.c (lk l 9)))) fun v0 => bnd (gv v0 true (evP rows (.mv (.c (lk l 6))))) fun v1 => bnd (gv v0 true (evP rows (.mv (.c (lk l 14))))) fun v2 => bnd (gv v0 true (evP rows (.look (.bool false) false (.c v1) (.c v2)))) fun v3 => bnd (gv v0 true (evP rows (.un .not (.c v3)))) fun v4 => bnd (evP rows (.pick (.c v0) (.c v4) (.c (.bool false)))) fun v5 => Ex F cx k ⟨mk 116 [(86, v5), (85, v4), (84, v3), (83, v2), (82, v1), (81, v0), (80, v0), (79, lk l 9), (78, lk l 13), (1, lk l 1), (2, lk l 2), (5, lk l 5), (6, lk l 6), (8, lk l 8), (9, lk l 9), (10, lk l 10), (11, lk l 11), (13, lk l 13), (14, lk l 14), (15, lk l 15), (20, lk l 20), (21, lk l 21), (53, lk l 53), (54, lk l 54), (55, lk l 55), (60, lk l 60)], rows, low⟩ r := rg [1, 2, 5, 6, 8, 9, 10, 11, 13, 14, 15, 20, 21, 53, 54, 55, 60] c78r14 rfl (by kernel_rfl)
@[simp] theorem uc78s15 : Ex F cx (.code c78s15 :: k) s r ↔ Ex F cx (.code (.seq c78k14 c78s13) :: k) s r := Iff.rfl
@[simp] theorem uc78k16 : Ex F cx (.code c78k16 :: k) ⟨mk 116 l, rows, low⟩ r ↔ bnd (evP rows (.un .neg (.c (lk l 15)))) fun v0 => Ex F cx k ⟨mk 116 [(15, v0), (77, v0), (76, lk l 15), (1, lk l 1), (2, lk l 2), (5, lk l 5), (6, lk l 6), (8, lk l 8), (9, lk l 9), (10, lk l 10), (11, lk l 11), (13, lk l 13), (14, lk l 14), (15, lk l 15), (20, lk l 20), (21, lk l 21), (53, lk l 53), (54, lk l 54), (55, lk l 55), (60, lk l 60)], rows, low⟩ r := rg [1, 2, 5, 6, 8, 9, 10, 11, 13, 14, 15, 20, 21, 53, 54, 55, 60] c78r16 rfl (by kernel_rfl)
@[simp] theorem uc78s17 : Ex F cx (.code c78s17 :: k) s r ↔ Ex F cx (.code (.cond (.t 75) c78k16 .skip) :: k) s r := Iff.rfl
@[simp] theorem uc78k18 : Ex F cx (.code c78k18 :: k) ⟨mk 116 l, rows, low⟩ r ↔ bnd (evP rows (.bin .eql (.c (lk l 12)) (.c (.int .i64 1)))) fun v0 => Ex F cx k ⟨mk 116 [(75, v0), (74, lk l 12), (1, lk l 1), (2, lk l 2), (5, lk l 5), (6, lk l 6), (8, lk l 8), (9, lk l 9), (10, lk l 10), (11, lk l 11), (12, lk l 12), (13, lk l 13), (14, lk l 14), (15, lk l 15), (20, lk l 20), (21, lk l 21), (53, lk l 53), (54, lk l 54), (55, lk l 55), (60, lk l 60)], rows, low⟩ r := rg [1, 2, 5, 6, 8, 9, 10, 11, 12, 13, 14, 15, 20, 21, 53, 54, 55, 60] c78r18 rfl (by kernel_rfl)
@[simp] theorem uc78s19 : Ex F cx (.code c78s19 :: k) s r ↔ Ex F cx (.code (.seq (.seq c78k18 c78s17) c78s15) :: k) s r := Iff.rfl
@[simp] theorem uc78k20 : Ex F cx (.code c78k20 :: k) ⟨mk 116 l, rows, low⟩ r ↔ bnd (evP rows (.idxA 2 1 (.c (lk l 11)) (.c (lk l 12)))) fun v0 => bnd (evP rows (.load1 (.c v0))) fun v1 => bnd (evP rows (.bin .sub (.c (.int .i64 1)) (.c (lk l 12)))) fun v2 => bnd (evP rows (.idxA 2 1 (.c (lk l 11)) (.c v2))) fun v3 => bnd (evP rows (.load1 (.c v3))) fun v4 => bnd (evP rows (.idxS 1 (.c (lk l 1)) (.c (lk l 10)))) fun v5 => bnd (evP rows (.load1 (.c v5))) fun v6 => Ex F cx k ⟨mk 116 [(15, v6), (14, v4), (13, v1), (73, v6), (72, v5), (71, lk l 10), (70, lk l 1), (69, v4), (68, v3), (67, v2), (66, lk l 12), (65, v1), (64, v0), (63, lk l 12), (1, lk l 1), (2, lk l 2), (5, lk l 5), (6, lk l 6), (8, lk l 8), (9, lk l 9), (10, lk l 10), (11, lk l 11), (12, lk l 12), (20, lk l 20), (21, lk l 21), (53, lk l 53), (54, lk l 54), (55, lk l 55), (60, lk l 60)], rows, low⟩ r := rg [1, 2, 5, 6, 8, 9, 10, 11, 12, 20, 21, 53, 54, 55, 60] c78r20 rfl (by kernel_rfl)
@[simp] theorem uc78s21 : Ex F cx (.code c78s21 :: k) s r ↔ Ex F cx (.code (.seq c78k20 c78s19) :: k) s r := Iff.rfl
@[simp] theorem uc78k22 : Ex F cx (.code c78k22 :: k) ⟨mk 116 l, rows, low⟩ r ↔ Ex F cx k ⟨mk 116 [(12, lk l 60), (62, lk l 60), (1, lk l 1), (2, lk l 2), (5, lk l 5), (6, lk l 6), (8, lk l 8), (9, lk l 9), (10, lk l 10), (11, lk l 11), (20, lk l 20), (21, lk l 21), (53, lk l 53), (54, lk l 54), (55, lk l 55), (60, lk l 60)], rows, low⟩ r := rg [1, 2, 5, 6, 8, 9, 10, 11, 20, 21, 53, 54, 55, 60] c78r22 rfl (by kernel_rfl)
@[simp] theorem uc78s23 : Ex F cx (.code c78s23 :: k) s r ↔ Ex F cx (.code (.seq (.block 7 (.seq c78k22 c78s21)) c78k8) :: k) s r := Iff.rfl
@[simp] theorem uc78s24 : Ex F cx (.code c78s24 :: k) s r ↔ Ex F cx (.code (.seq (.cond (.t 61) .skip (.exit 6)) c78s23) :: k) s r := Iff.rfl
@[simp] theorem uc78k25 : Ex F cx (.code c78k25 :: k) ⟨mk 116 l, rows, low⟩ r ↔ bnd (evP rows (.bin .lss (.c (lk l 60)) (.c (.int .i64 2)))) fun v0 => Ex F cx k ⟨mk 116 [(61, v0), (1, lk l 1), (2, lk l 2), (5, lk l 5), (6, lk l 6), (8, lk l 8), (9, lk l 9), (10, lk l 10), (11, lk l 11), (20, lk l 20), (21, lk l 21), (53, lk l 53), (54, lk l 54), (55, lk l 55), (60, lk l 60)], rows, low⟩ r := rg [1, 2, 5, 6, 8, 9, 10, 11, 20, 21, 53, 54, 55, 60] c78r25 rfl (by kernel_rfl)
@[simp] theorem uc78s26 : Ex F cx (.code c78s26 :: k) s r ↔ Ex F cx (.code (.block 6 (.loop c78l7)) :: k) s r := Iff.rfl
@[simp] theorem uc78k27 : Ex F cx (.code c78k27 :: k) ⟨mk 116 l, rows, low⟩ r ↔ Ex F cx k ⟨mk 116 [(60, (.int .i64 0)), (1, lk l 1), (2, lk l 2), (5, lk l 5), (6, lk l 6), (8, lk l 8), (9, lk l 9), (10, lk l 10), (11, lk l 11), (20, lk l 20), (21, lk l 21), (53, lk l 53), (54, lk l 54), (55, lk l 55)], rows, low⟩ r := rg [1, 2, 5, 6, 8, 9, 10, 11, 20, 21, 53, 54, 55] c78r27 rfl (by kernel_rfl)
@[simp] theorem uc78s28 : Ex F cx (.code c78s28 :: k) s r ↔ Ex F cx (.code (.seq c78k27 c78s26) :: k) s r := Iff.rfl
@[simp] theorem uc78k29 : Ex F cx (.code c78k29 :: k) ⟨mk 116 l, rows, low⟩ r ↔ bnd (evP rows (.idxS 2 (.c (lk l 53)) (.c (lk l 55)))) fun v0 => bnd (evP rows (.loadN 2 (.c v0))) fun v1 => bnd (evE rows low (.box (.c (.agg [.int .i64 0, .int .i64 0])))) fun q2 => bnd (evE q2.2.1 q2.2.2 (.storeN 2 (.c q2.1) (.c v1))) fun q3 => Ex F cx k ⟨mk 116 [(10, lk l 55), (11, q2.1), (59, v1), (58, v0), (57, lk l 55), (1, lk l 1), (2, lk l 2), (5, lk l 5), (6, lk l 6), (8, lk l 8), (9, lk l 9), (20, lk l 20), (21, lk l 21), (53, lk l 53), (54, lk l 54), (55, lk l 55)], q3.2.1, q3.2.2⟩ r := rg [1, 2, 5, 6, 8, 9, 20, 21, 53, 54, 55] c78r29 rfl (by kernel_rfl)
@[simp] theorem uc78s30 : Ex F cx (.code c78s30 :: k) s r ↔ Ex F cx (.code (.seq (.block 5 (.seq c78k29 c78s28)) c78k6) :: k) s r := Iff.rfl
@[simp] theorem uc78s31 : Ex F cx (.code c78s31 :: k) s r ↔ Ex F cx (.code (.seq (.cond (.t 56) .skip (.exit 4)) c78s30) :: k) s r := Iff.rfl
@[simp] theorem uc78k32 : Ex F cx (.code c78k32 :: k) ⟨mk 116 l, rows, low⟩ r ↔ bnd (evP rows (.bin .lss (.c (lk l 55)) (.c (lk l 54)))) fun v0 => Ex F cx k ⟨mk 116 [(56, v0), (1, lk l 1), (2, lk l 2), (5, lk l 5), (6, lk l 6), (8, lk l 8), (9, lk l 9), (20, lk l 20), (21, lk l 21), (53, lk l 53), (54, lk l 54), (55, lk l 55)], rows, low⟩ r := rg [1, 2, 5, 6, 8, 9, 20, 21, 53, 54, 55] c78r32 rfl (by kernel_rfl)
@[simp] theorem uc78s33 : Ex F cx (.code c78s33 :: k) s r ↔ Ex F cx (.code (.block 4 (.loop c78l5)) :: k) s r := Iff.rfl
@[simp] theorem uc78k34 : Ex F cx (.code c78k34 :: k) ⟨mk 116 l, rows, low⟩ r ↔ bnd (evP rows (.fieldA 1 (.c (lk l 2)))) fun v0 => bnd (evP rows (.load1 (.c v0))) fun v1 => bnd (evP rows (.len 0 (.c v1))) fun v2 => Ex F cx k ⟨mk 116 [(55, (.int .i64 0)), (54, v2), (53, v1), (52, v0), (1, lk l 1), (2, lk l 2), (5, lk l 5), (6, lk l 6), (8, lk l 8), (9, lk l 9), (20, lk l 20), (21, lk l 21)], rows, low⟩ r := rg [1, 2, 5, 6, 8, 9, 20, 21] c78r34 rfl (by kernel_rfl)
@[simp] theorem uc78s35 : Ex F cx (.code c78s35 :: k) s r ↔ Ex F cx (.code (.seq c78k34 c78s33) :: k) s r := Iff.rfl
@[simp] theorem uc78k36 : Ex F cx (.code c78k36 :: k) ⟨mk 116 l, rows, low⟩ r ↔ bnd (evP rows (.sliceS 1 (.c (lk l 8)) (some (.c (.int .i64 1))) none none)) fun v0 => Ex F cx k ⟨mk 116 [(8, v0), (51, v0), (50, lk l 8), (1, lk l 1), (2, lk l 2), (5, lk l 5), (6, lk l 6), (8, lk l 8), (9, lk l 9), (20, lk l 20), (21, lk l 21)], rows, low⟩ r := rg [1, 2, 5, 6, 8, 9, 20, 21] c78r36 rfl (by kernel_rfl)
@[simp] theorem uc78s37 : Ex F cx (.code c78s37 :: k) s r ↔ Ex F cx (.code (.seq c78k36 c78s35) :: k) s r := Iff.rfl
@[simp] theorem uc78k38 : Ex F cx (.code c78k38 :: k) ⟨mk 116 l, rows, low⟩ r ↔ bnd (evP rows (.idxS 1 (.c (lk l 8)) (.c (.int .i64 0)))) fun v0 => bnd (evP rows (.load1 (.c v0))) fun v1 => Ex F cx k ⟨mk 116 [(9, v1), (49, v1), (48, v0), (47, lk l 8), (1, lk l 1), (2, lk l 2), (5, lk l 5), (6, lk l 6), (8, lk l 8), (20, lk l 20), (21, lk l 21)], rows, low⟩ r := rg [1, 2, 5, 6, 8, 20, 21] c78r38 rfl (by kernel_rfl)
@[simp] theorem uc78s39 : Ex F cx (.code c78s39 :: k) s r ↔ Ex F cx (.code (.block 3 (.seq c78k38 c78s37)) :: k) s r := Iff.rfl
@[simp] theorem uc78s40 : Ex F cx (.code c78s40 :: k) s r ↔ Ex F cx (.code (.cond (.t 46) .skip (.exit 2)) :: k) s r := Iff.rfl
@[simp] theorem uc78k41 : Ex F cx (.code c78k41 :: k) ⟨mk 116 l, rows, low⟩ r ↔ bnd (evP rows (.len 0 (.c (lk l 8)))) fun v0 => bnd (evP rows (.bin .gtr (.c v0) (.c (.int .i64 0)))) fun v1 => Ex F cx k ⟨mk 116 [(46, v1), (45, v0), (44, lk l 8), (1, lk l 1), (2, lk l 2), (5, lk l 5), (6, lk l 6), (8, lk l 8), (20, lk l 20), (21, lk l 21)], rows, low⟩ r := rg [1, 2, 5, 6, 8, 20, 21] c78r41 rfl (by kernel_rfl)
@[simp] theorem uc78s42 : Ex F cx (.code c78s42 :: k) s r ↔ Ex F cx (.code (.block 2 (.loop c78l4)) :: k) s r := Iff.rfl
@[simp] theorem uc78k43 : Ex F cx (.code c78k43 :: k) ⟨mk 116 l, rows, low⟩ r ↔ bnd (evE rows low (.mkslice 1 [.int .i64 0] [(0, 1, (.c (lk l 7)))])) fun q0 => Ex F cx k ⟨mk 116 [(8, q0.1), (43, q0.1), (42, lk l 7), (1, lk l 1), (2, lk l 2), (5, lk l 5), (6, lk l 6), (7, lk l 7), (20, lk l 20), (21, lk l 21)], q0.2.1, q0.2.2⟩ r := rg [1, 2, 5, 6, 7, 20, 21] c78r43 rfl (by kernel_rfl)
@[simp] theorem uc78s44 : Ex F cx (.code c78s44 :: k) s r ↔ Ex F cx (.code (.seq c78k43 c78s42) :: k) s r := Iff.rfl
@[simp] theorem uc78k45 : Ex F cx (.code c78k45 :: k) ⟨mk 116 l, rows, low⟩ r ↔ bnd (evP rows (.nilck (.c (lk l 5)))) fun v0 => bnd (evP rows (.fieldA 0 (.c v0))) fun v1 => bnd (evP rows (.idxA 6 1 (.c v1) (.c (lk l 7)))) fun v2 => bnd (evE rows low (.store1 (.c v2) (.c (lk l 7)))) fun q3 => Ex F cx k ⟨mk 116 [(41, v2), (40, v1), (39, v0), (38, lk l 7), (37, lk l 7), (36, lk l 5), (1, lk l 1), (2, lk l 2), (5, lk l 5), (6, lk l 6), (7, lk l 7), (20, lk l 20), (21, lk l 21)], q3.2.1, q3.2.2⟩ r := rg [1, 2, 5, 6, 7, 20, 21] c78r45 rfl (by kernel_rfl)
@[simp] theorem uc78s46 : Ex F cx (.code c78s46 :: k) s r ↔ Ex F cx (.code (.seq c78k45 c78s44) :: k) s r := Iff.rfl
@[simp] theorem uc78k47 : Ex F cx (.code c78k47 :: k) ⟨mk 116 l, rows, low⟩ r ↔ bnd (evE rows low (.mset (.c (lk l 6)) (.c (lk l 7)) (.c (.bool true)))) fun q0 => Ex F cx k ⟨mk 116 [(35, lk l 7), (34, lk l 6), (1, lk l 1), (2, lk l 2), (5, lk l 5), (6, lk l 6), (7, lk l 7), (20, lk l 20), (21, lk l 21)], q0.2.1, q0.2.2⟩ r := rg [1, 2, 5, 6, 7, 20, 21] c78r47 rfl (by kernel_rfl)
@[simp] theorem uc78s48 : Ex F cx (.code c78s48 :: k) s r ↔ Ex F cx (.code (.seq c78k47 c78s46) :: k) s r := Iff.rfl
@[simp] theorem uc78k49 : Ex F cx (.code c78k49 :: k) ⟨mk 116 l, rows, low⟩ r ↔ bnd (evP rows (.nilck (.c (lk l 5)))) fun v0 => bnd (evP rows (.fieldA 12 (.c v0))) fun v1 => bnd (evP rows (.load1 (.c v1))) fun v2 => bnd (evP rows (.bin .add (.c v2) (.c (.int .i64 1)))) fun v3 => bnd (evP rows (.nilck (.c (lk l 5)))) fun v4 => bnd (evP rows (.fieldA 12 (.c v4))) fun v5 => bnd (evE rows low (.store1 (.c v5) (.c v3))) fun q6 => Ex F cx k ⟨mk 116 [(33, v5), (32, v4), (31, v3), (30, v2), (29, v1), (28, v0), (27, lk l 5), (1, lk l 1), (2, lk l 2), (5, lk l 5), (6, lk l 6), (7, lk l 7), (20, lk l 20), (21, lk l 21)], q6.2.1, q6.2.2⟩ r := rg [1, 2, 5, 6, 7, 20, 21] c78r49 rfl (by kernel_rfl)
@[simp] theorem uc78s50 : Ex F cx (.code c78s50 :: k) s r ↔ Ex F cx (.code (.seq c78k49 c78s48) :: k) s r := Iff.rfl
@[simp] theorem uc78s51 : Ex F cx (.code c78s51 :: k) s r ↔ Ex F cx (.code (.cond (.t 26) (.exit 1) .skip) :: k) s r := Iff.rfl
@[simp] theorem uc78k52 : Ex F cx (.code c78k52 :: k) ⟨mk 116 l, rows, low⟩ r ↔ bnd (evP rows (.look (.bool false) false (.c (lk l 6)) (.c (lk l 7)))) fun v0 => Ex F cx k ⟨mk 116 [(26, v0), (25, lk l 7), (24, lk l 6), (1, lk l 1), (2, lk l 2), (5, lk l 5), (6, lk l 6), (7, lk l 7), (20, lk l 20), (21, lk l 21)], rows, low⟩ r := rg [1, 2, 5, 6, 7, 20, 21] c78r52 rfl (by kernel_rfl)
@[simp] theorem uc78s53 : Ex F cx (.code c78s53 :: k) s r ↔ Ex F cx (.code (.seq (.seq c78k52 c78s51) c78s50) :: k) s r := Iff.rfl
@[simp] theorem uc78k54 : Ex F cx (.code c78k54 :: k) ⟨mk 116 l, rows, low⟩ r ↔ Ex F cx k ⟨mk 116 [(7, lk l 21), (23, lk l 21), (1, lk l 1), (2, lk l 2), (5, lk l 5), (6, lk l 6), (20, lk l 20), (21, lk l 21)], rows, low⟩ r := rg [1, 2, 5, 6, 20, 21] c78r54 rfl (by kernel_rfl)
@[simp] theorem uc78s55 : Ex F cx (.code c78s55 :: k) s r ↔ Ex F cx (.code (.seq (.block 1 (.seq c78k54 c78s53)) c78k3) :: k) s r := Iff.rfl
@[simp] theorem uc78s56 : Ex F cx (.code c78s56 :: k) s r ↔ Ex F cx (.code (.seq (.cond (.t 22) .skip (.exit 0)) c78s55) :: k) s r := Iff.rfl
@[simp] theorem uc78k57 : Ex F cx (.code c78k57 :: k) ⟨mk 116 l, rows, low⟩ r ↔ bnd (evP rows (.bin .lss (.c (lk l 21)) (.c (lk l 20)))) fun v0 => Ex F cx k ⟨mk 116 [(22, v0), (1, lk l 1), (2, lk l 2), (5, lk l 5), (6, lk l 6), (20, lk l 20), (21, lk l 21)], rows, low⟩ r := rg [1, 2, 5, 6, 20, 21] c78r57 rfl (by kernel_rfl)
@[simp] theorem uc78s58 : Ex F cx (.code c78s58 :: k) s r ↔ Ex F cx (.code (.block 0 (.loop c78l2)) :: k) s r := Iff.rfl
@[simp] theorem uc78k59 : Ex F cx (.code c78k59 :: k) ⟨mk 116 l, rows, low⟩ r ↔ bnd (evP rows (.fieldA 0 (.c (lk l 2)))) fun v0 => bnd (evP rows (.load1 (.c v0))) fun v1 => Ex F cx k ⟨mk 116 [(21, (.int .i64 0)), (20, v1), (19, v0), (1, lk l 1), (2, lk l 2), (5, lk l 5), (6, lk l 6)], rows, low⟩ r := rg [1, 2, 5, 6] c78r59 rfl (by kernel_rfl)
@[simp] theorem uc78s60 : Ex F cx (.code c78s60 :: k) s r ↔ Ex F cx (.code (.seq (.seq c78k59 c78s58) c78s1) :: k) s r := Iff.rfl
@[simp] theorem uc78k61 : Ex F cx (.code c78k61 :: k) ⟨mk 116 l, rows, low⟩ r ↔ bnd (evE rows low (.mkmap)) fun q0 => Ex F cx k ⟨mk 116 [(6, q0.1), (18, q0.1), (1, lk l 1), (2, lk l 2), (5, lk l 5)], q0.2.1, q0.2.2⟩ r := rg [1, 2, 5] c78r61 rfl (by kernel_rfl)
@[simp] theorem uc78s62 : Ex F cx (.code c78s62 :: k) s r ↔ Ex F cx (.code (.seq c78k61 c78s60) :: k) s r := Iff.rfl
@[simp] theorem uc78k63 : Ex F cx (.code c78k63 :: k) ⟨mk 116 l, rows, low⟩ r ↔ bnd (evP rows (.mkagg (List.replicate 13 (.int .i64 0)) [])) fun v0 => bnd (evE rows low (.box (.c v0))) fun q1 => Ex F cx k ⟨mk 116 [(5, q1.1), (17, q1.1), (16, v0), (1, lk l 1), (2, lk l 2)], q1.2.1, q1.2.2⟩ r := rg [1, 2] c78r63 rfl (by kernel_rfl)
@[simp] theorem uc78s64 : Ex F cx (.code c78s64 :: k) s r ↔ Ex F cx (.code (.seq c78k63 c78s62) :: k) s r := Iff.rfl
@[simp] theorem uc78k65 : Ex F cx (.code c78k65 :: k) ⟨mk 116 l, rows, low⟩ r ↔ bnd (evE rows low (.box (.c (lk l 0)))) fun q0 => Ex F cx k ⟨mk 116 [(4, .nilptr), (2, q0.1), (0, lk l 0), (1, lk l 1)], q0.2.1, q0.2.2⟩ r := rg [0, 1] c78r65 rfl (by kernel_rfl)
def Jc78s15 (F : Nat → Option IFn) (cx : Ctx) (x1 x2 x5 x6 x8 x9 x10 x11 x13 x14 x15 x20 x21 x53 x54 x55 x60 : AV) (rows : List Row) (low : Nat) (r : AV × List Row × Nat → Prop) : Prop := Ex F cx (.code c78s15 :: .inBlock 7 :: .code c78k8 :: .inLoop c78l7 :: .inBlock 6 :: .inBlock 5 :: .code c78k6 :: .inLoop c78l5 :: .inBlock 4 :: .inBlock 3 :: .inLoop c78l4 :: .inBlock 2 :: .inBlock 1 :: .code c78k3 :: .inLoop c78l2 :: .inBlock 0 :: .code c78s1 :: []) ⟨mk 116 [(1, x1), (2, x2), (5, x5), (6, x6), (8, x8), (9, x9), (10, x10), (11, x11), (13, x13), (14, x14), (15, x15), (20, x20), (21, x21), (53, x53), (54, x54), (55, x55), (60, x60)], rows, low⟩ r
theorem jc78s15 : Ex F cx (.code c78s15 :: .inBlock 7 :: .code c78k8 :: .inLoop c78l7 :: .inBlock 6 :: .inBlock 5 :: .code c78k6 :: .inLoop c78l5 :: .inBlock 4 :: .inBlock 3 :: .inLoop c78l4 :: .inBlock 2 :: .inBlock 1 :: .code c78k3 :: .inLoop c78l2 :: .inBlock 0 :: .code c78s1 :: []) ⟨mk 116 l, rows, low⟩ r ↔ Jc78s15 F cx (lk l 1) (lk l 2) (lk l 5) (lk l 6) (lk l 8) (lk l 9) (lk l 10) (lk l 11) (lk l 13) (lk l 14) (lk l 15) (lk l 20) (lk l 21) (lk l 53) (lk l 54) (lk l 55) (lk l 60) rows low r := Ex_canon (keep := [1, 2, 5, 6, 8, 9, 10, 11, 13, 14, 15, 20, 21, 53, 54, 55, 60]) (by kernel_rfl)
def Jc78s23 (F : Nat → Option IFn) (cx : Ctx) (x1 x2 x5 x6 x8 x9 x10 x11 x20 x21 x53 x54 x55 x60 : AV) (rows : List Row) (low : Nat) (r : AV × List Row × Nat → Prop) : Prop := Ex F cx (.code c78s23 :: .inLoop c78l7 :: .inBlock 6 :: .inBlock 5 :: .code c78k6 :: .inLoop c78l5 :: .inBlock 4 :: .inBlock 3 :: .inLoop c78l4 :: .inBlock 2 :: .inBlock 1 :: .code c78k3 :: .inLoop c78l2 :: .inBlock 0 :: .code c78s1 :: []) ⟨mk 116 [(1, x1), (2, x2), (5, x5), (6, x6), (8, x8), (9, x9), (10, x10), (11, x11), (20, x20), (21, x21), (53, x53), (54, x54), (55, x55), (60, x60)], rows, low⟩ r
def Lc78l7 (F : Nat → Option IFn) (cx : Ctx) (x1 x2 x5 x6 x8 x9 x10 x11 x20 x21 x53 x54 x55 x60 : AV) (rows : List Row) (low : Nat) (r : AV × List Row × Nat → Prop) : Prop := Ex F cx (.code c78l7 :: .inLoop c78l7 :: .inBlock 6 :: .inBlock 5 :: .code c78k6 :: .inLoop c78l5 :: .inBlock 4 :: .inBlock 3 :: .inLoop c78l4 :: .inBlock 2 :: .inBlock 1 :: .code c78k3 :: .inLoop c78l2 :: .inBlock 0 :: .code c78s1 :: []) ⟨mk 116 [(1, x1), (2, x2), (5, x5), (6, x6), (8, x8), (9, x9), (10, x10), (11, x11), (20, x20), (21, x21), (53, x53), (54, x54), (55, x55), (60, x60)], rows, low⟩ r
@[simp] theorem nc78l7 : Ex F cx (.inLoop c78l7 :: .inBlock 6 :: .inBlock 5 :: .code c78k6 :: .inLoop c78l5 :: .inBlock 4 :: .inBlock 3 :: .inLoop c78l4 :: .inBlock 2 :: .inBlock 1 :: .code c78k3 :: .inLoop c78l2 :: .inBlock 0 :: .code c78s1 :: []) ⟨mk 116 l, rows, low⟩ r ↔ Lc78l7 F cx (lk l 1) (lk l 2) (lk l 5) (lk l 6) (lk l 8) (lk l 9) (lk l 10) (lk l 11) (lk l 20) (lk l 21) (lk l 53) (lk l 54) (lk l 55) (lk l 60) rows low r := loopN (keep := [1, 2, 5, 6, 8, 9, 10, 11, 20, 21, 53, 54, 55, 60]) (by kernel_rfl)
@[simp] theorem ec78l7 : Ex F cx (.code (.loop c78l7) :: .inBlock 6 :: .inBlock 5 :: .code c78k6 :: .inLoop c78l5 :: .inBlock 4 :: .inBlock 3 :: .inLoop c78l4 :: .inBlock 2 :: .inBlock 1 :: .code c78k3 :: .inLoop c78l2 :: .inBlock 0 :: .code c78s1 :: []) ⟨mk 116 l, rows, low⟩ r ↔ Lc78l7 F cx (lk l 1) (lk l 2) (lk l 5) (lk l 6) (lk l 8) (lk l 9) (lk l 10) (lk l 11) (lk l 20) (lk l 21) (lk l 53) (lk l 54) (lk l 55) (lk l 60) rows low r := loopE (keep := [1, 2, 5, 6, 8, 9, 10, 11, 20, 21, 53, 54, 55, 60]) (by kernel_rfl)
@[simp] theorem uc78l7 : Ex F cx (.code c78l7 :: k) s r ↔ Ex F cx (.code (.seq c78k25 c78s24) :: k) s r := Iff.rfl
def Jc78s30 (F : Nat → Option IFn) (cx : Ctx) (x1 x2 x5 x6 x8 x9 x20 x21 x53 x54 x55 : AV) (rows : List Row) (low : Nat) (r : AV × List Row × Nat → Prop) : Prop := Ex F cx (.code c78s30 :: .inLoop c78l5 :: .inBlock 4 :: .inBlock 3 :: .inLoop c78l4 :: .inBlock 2 :: .inBlock 1 :: .code c78k3 :: .inLoop c78l2 :: .inBlock 0 :: .code c78s1 :: []) ⟨mk 116 [(1, x1), (2, x2), (5, x5), (6, x6), (8, x8), (9, x9), (20, x20), (21, x21), (53, x53), (54, x54), (55, x55)], rows, low⟩ r
def Lc78l5 (F : Nat → Option IFn) (cx : Ctx) (x1 x2 x5 x6 x8 x9 x20 x21 x53 x54 x55 : AV) (rows : List Row) (low : Nat) (r : AV × List Row × Nat → Prop) : Prop := Ex F cx (.code c78l5 :: .inLoop c78l5 :: .inBlock 4 :: .inBlock 3 :: .inLoop c78l4 :: .inBlock 2 :: .inBlock 1 :: .code c78k3 :: .inLoop c78l2 :: .inBlock 0 :: .code c78s1 :: []) ⟨mk 116 [(1, x1), (2, x2), (5, x5), (6, x6), (8, x8), (9, x9), (20, x20), (21, x21), (53, x53), (54, x54), (55, x55)], rows, low⟩ r
@[simp] theorem nc78l5 : Ex F cx (.inLoop c78l5 :: .inBlock 4 :: .inBlock 3 :: .inLoop c78l4 :: .inBlock 2 :: .inBlock 1 :: .code c78k3 :: .inLoop c78l2 :: .inBlock 0 :: .code c78s1 :: []) ⟨mk 116 l, rows, low⟩ r ↔ Lc78l5 F cx (lk l 1) (lk l 2) (lk l 5) (lk l 6) (lk l 8) (lk l 9) (lk l 20) (lk l 21) (lk l 53) (lk l 54) (lk l 55) rows low r := loopN (keep := [1, 2, 5, 6, 8, 9, 20, 21, 53, 54, 55]) (by kernel_rfl)
@[simp] theorem ec78l5 : Ex F cx (.code (.loop c78l5) :: .inBlock 4 :: .inBlock 3 :: .inLoop c78l4 :: .inBlock 2 :: .inBlock 1 :: .code c78k3 :: .inLoop c78l2 :: .inBlock 0 :: .code c78s1 :: []) ⟨mk 116 l, rows, low⟩ r ↔ Lc78l5 F cx (lk l 1) (lk l 2) (lk l 5) (lk l 6) (lk l 8) (lk l 9) (lk l 20) (lk l 21) (lk l 53) (lk l 54) (lk l 55) rows low r := loopE (keep := [1, 2, 5, 6, 8, 9, 20, 21, 53, 54, 55]) (by kernel_rfl)
@[simp] theorem uc78l5 : Ex F cx (.code c78l5 :: k) s r ↔ Ex F cx (.code (.seq c78k32 c78s31) :: k) s r := Iff.rfl
def Jc78s39 (F : Nat → Option IFn) (cx : Ctx) (x1 x2 x5 x6 x8 x20 x21 : AV) (rows : List Row) (low : Nat) (r : AV × List Row × Nat → Prop) : Prop := Ex F cx (.code c78s39 :: .inLoop c78l4 :: .inBlock 2 :: .inBlock 1 :: .code c78k3 :: .inLoop c78l2 :: .inBlock 0 :: .code c78s1 :: []) ⟨mk 116 [(1, x1), (2, x2), (5, x5), (6, x6), (8, x8), (20, x20), (21, x21)], rows, low⟩ r
def Lc78l4 (F : Nat → Option IFn) (cx : Ctx) (x1 x2 x5 x6 x8 x20 x21 : AV) (rows : List Row) (low : Nat) (r : AV × List Row × Nat → Prop) : Prop := Ex F cx (.code c78l4 :: .inLoop c78l4 :: .inBlock 2 :: .inBlock 1 :: .code c78k3 :: .inLoop c78l2 :: .inBlock 0 :: .code c78s1 :: []) ⟨mk 116 [(1, x1), (2, x2), (5, x5), (6, x6), (8, x8), (20, x20), (21, x21)], rows, low⟩ r
@[simp] theorem nc78l4 : Ex F cx (.inLoop c78l4 :: .inBlock 2 :: .inBlock 1 :: .code c78k3 :: .inLoop c78l2 :: .inBlock 0 :: .code c78s1 :: []) ⟨mk 116 l, rows, low⟩ r ↔ Lc78l4 F cx (lk l 1) (lk l 2) (lk l 5) (lk l 6) (lk l 8) (lk l 20) (lk l 21) rows low r := loopN (keep := [1, 2, 5, 6, 8, 20, 21]) (by kernel_rfl)
@[simp] theorem ec78l4 : Ex F cx (.code (.loop c78l4) :: .inBlock 2 :: .inBlock 1 :: .code c78k3 :: .inLoop c78l2 :: .inBlock 0 :: .code c78s1 :: []) ⟨mk 116 l, rows, low⟩ r ↔ Lc78l4 F cx (lk l 1) (lk l 2) (lk l 5) (lk l 6) (lk l 8) (lk l 20) (lk l 21) rows low r := loopE (keep := [1, 2, 5, 6, 8, 20, 21]) (by kernel_rfl)
@[simp] theorem uc78l4 : Ex F cx (.code c78l4 :: k) s r ↔ Ex F cx (.code (.seq (.seq c78k41 c78s40) c78s39) :: k) s r := Iff.rfl
def Jc78s50 (F : Nat → Option IFn) (cx : Ctx) (x1 x2 x5 x6 x7 x20 x21 : AV) (rows : List Row) (low : Nat) (r : AV × List Row × Nat → Prop) : Prop := Ex F cx (.code c78s50 :: .inBlock 1 :: .code c78k3 :: .inLoop c78l2 :: .inBlock 0 :: .code c78s1 :: []) ⟨mk 116 [(1, x1), (2, x2), (5, x5), (6, x6), (7, x7), (20, x20), (21, x21)], rows, low⟩ r
def Jc78s55 (F : Nat → Option IFn) (cx : Ctx) (x1 x2 x5 x6 x20 x21 : AV) (rows : List Row) (low : Nat) (r : AV × List Row × Nat → Prop) : Prop := Ex F cx (.code c78s55 :: .inLoop c78l2 :: .inBlock 0 :: .code c78s1 :: []) ⟨mk 116 [(1, x1), (2, x2), (5, x5), (6, x6), (20, x20), (21, x21)], rows, low⟩ r
def Lc78l2 (F : Nat → Option IFn) (cx : Ctx) (x1 x2 x5 x6 x20 x21 : AV) (rows : List Row) (low : Nat) (r : AV × List Row × Nat → Prop) : Prop := Ex F cx (.code c78l2 :: .inLoop c78l2 :: .inBlock 0 :: .code c78s1 :: []) ⟨mk 116 [(1, x1), (2, x2), (5, x5), (6, x6), (20, x20), (21, x21)], rows, low⟩ r
@[simp] theorem nc78l2 : Ex F cx (.inLoop c78l2 :: .inBlock 0 :: .code c78s1 :: []) ⟨mk 116 l, rows, low⟩ r ↔ Lc78l2 F cx (lk l 1) (lk l 2) (lk l 5) (lk l 6) (lk l 20) (lk l 21) rows low r := loopN (keep := [1, 2, 5, 6, 20, 21]) (by kernel_rfl)
@[simp] theorem ec78l2 : Ex F cx (.code (.loop c78l2) :: .inBlock 0 :: .code c78s1 :: []) ⟨mk 116 l, rows, low⟩ r ↔ Lc78l2 F cx (lk l 1) (lk l 2) (lk l 5) (lk l 6) (lk l 20) (lk l 21) rows low r := loopE (keep := [1, 2, 5, 6, 20, 21]) (by kernel_rfl)
@[simp] theorem uc78l2 : Ex F cx (.code c78l2 :: k) s r ↔ Ex F cx (.code (.seq c78k57 c78s56) :: k) s r := Iff.rfl
@[simp] theorem uc78b : Ex F cx (.code c78b :: k) s r ↔ Ex F cx (.code (.seq c78k65 c78s64) :: k) s r := Iff.rfl
theorem i78 {x0 x1 : AV} (hF : F 78 = some c78) {q : AV × List Row × Option Nat} (h : Ex F (.fn [.t 4]) [.code c78b] ⟨mk 116 [(0, x0), (1, x1)], rows, rows.length⟩ fun r => fin rows r.1 r.2.1 r.2.2 = q) : Ret F 78 [x0, x1] rows = some q := Ret_mk hF h
@[simp] theorem uc79k0 : Ex F cx (.code c79k0 :: k) ⟨mk 8 l, rows, low⟩ r ↔ bnd (evE rows low (.mkslice 0 [] [])) fun q0 => bnd (evE q0.2.1 q0.2.2 (.app 1 8 (.c q0.1) (.c (lk l 0)))) fun q1 => Ex F cx k ⟨mk 8 [(2, q1.1), (7, q1.1), (6, lk l 0), (5, q0.1), (0, lk l 0)], q1.2.1, q1.2.2⟩ r := rg [0] c79r0 rfl (by kernel_rfl)
@[simp] theorem uc79s1 : Ex F cx (.code c79s1 :: k) s r ↔ Ex F cx (.code (.seq c79k0 .ret) :: k) s r := Iff.rfl
@[simp] theorem uc79s3 : Ex F cx (.code c79s3 :: k) s r ↔ Ex F cx (.code (.cond (.t 4) (.seq c79k2 .ret) .skip) :: k) s r := Iff.rfl
@[simp] theorem uc79k4 : Ex F cx (.code c79k4 :: k) ⟨mk 8 l, rows, low⟩ r ↔ bnd (evP rows (.eqv false .slice (.c (lk l 0)) (.c .nilslice))) fun v0 => Ex F cx k ⟨mk 8 [(4, v0), (3, lk l 0), (0, lk l 0)], rows, low⟩ r := rg [0] c79r4 rfl (by kernel_rfl)
@[simp] theorem uc79s5 : Ex F cx (.code c79s5 :: k) s r ↔ Ex F cx (.code (.seq (.seq c79k4 c79s3) c79s1) :: k) s r := Iff.rfl
@[simp] theorem uc79k6 : Ex F cx (.code c79k6 :: k) ⟨mk 8 l, rows, low⟩ r ↔ Ex F cx k ⟨mk 8 [(2, .nilslice), (0, lk l 0)], rows, low⟩ r := rg [0] c79r6 rfl (by kernel_rfl)
def Jc79s1 (F : Nat → Option IFn) (cx : Ctx) (x0 : AV) (rows : List Row) (low : Nat) (r : AV × List Row × Nat → Prop) : Prop := Ex F cx (.code c79s1 :: []) ⟨mk 8 [(0, x0)], rows, low⟩ r
@[simp] theorem uc79b : Ex F cx (.code c79b :: k) s r ↔ Ex F cx (.code (.seq c79k6 c79s5) :: k) s r := Iff.rfl
theorem i79 {x0 : AV} (hF : F 79 = some c79) {q : AV × List Row × Option Nat} (h : Ex F (.fn [.t 2]) [.code c79b] ⟨mk 8 [(0, x0)], rows, rows.length⟩ fun r => fin rows r.1 r.2.1 r.2.2 = q) : Ret F 79 [x0] rows = some q := Ret_mk hF h
@[simp] theorem uc81k0 : Ex F cx (.code c81k0 :: k) ⟨mk 26 l, rows, low⟩ r ↔ bnd (evE (rows ++ maskE 1 ([] : List (Nat × Row))) (rows.length + ([] : List (Nat × Row)).length) (.mkslice 1 [.int .i64 0] [(0, 1, (.c (lk l 0)))])) fun q0 => q0.2.2 = rows.length + ([] : List (Nat × Row)).length ∧ bnd (some (([] : List (Nat × Row)) ++ List.map (fun (x : Row) => (1, x)) (q0.2.1.drop (rows.length + ([] : List (Nat × Row)).length)))) fun e0 => bnd (evP (rows ++ maskE 0 e0) (.load1 (.c (lk l 2)))) fun v1 => bnd (evP (rows ++ maskE 0 e0) (.load1 (.c (lk l 1)))) fun v2 => bnd (evP (rows ++ maskE 8 e0) (.nilck (.c v2))) fun v3 => bnd (evP (rows ++ maskE 40 e0) (.fieldA 0 (.c v3))) fun v4 => bnd (evP (rows ++ maskE 120 e0) (.idxA 6 1 (.c v4) (.c (lk l 0)))) fun v5 => bnd (evP (rows ++ maskE 248 e0) (.load1 (.c v5))) fun v6 => bnd (opC F (rows ++ maskE 508 e0) (rows.length + e0.length) [v6] [] v1) fun q7 => q7.2.2 = rows.length + e0.length ∧ bnd (some (e0 ++ List.map (fun (x : Row) => (9, x)) (q7.2.1.drop (rows.length + e0.length)))) fun e7 => bnd (evE (rows ++ List.map (fun (x : Nat × Row) => x.2) e7) low (.app 1 8 (.c q0.1) (.c q7.1))) fun q8 => Ex F cx k ⟨mk 26 [(4, q8.1), (25, q8.1), (24, q7.1), (23, v6), (22, v5), (21, v4), (20, v3), (19, lk l 0), (18, v2), (17, v1), (16, q0.1), (15, lk l 0), (0, lk l 0), (1, lk l 1), (2, lk l 2)], q8.2.1, q8.2.2⟩ r := rg [0, 1, 2] c81r0 rfl (by kernel_rfl)
@[simp] theorem uc81s1 : Ex F cx (.code c81s1 :: k) s r ↔ Ex F cx (.code (.seq c81k0 .ret) :: k) s r := Iff.rfl
@[simp] theorem uc81k2 : Ex F cx (.code c81k2 :: k) ⟨mk 26 l, rows, low⟩ r ↔ bnd (evE rows low (.mkslice 1 [.int .i64 0] [(0, 1, (.c (lk l 0)))])) fun q0 => Ex F cx k ⟨mk 26 [(4, q0.1), (14, q0.1), (13, lk l 0), (0, lk l 0)], q0.2.1, q0.2.2⟩ r := rg [0] c81r2 rfl (by kernel_rfl)
@[simp] theorem uc81s3 : Ex F cx (.code c81s3 :: k) s r ↔ Ex F cx (.code (.cond (.t 12) (.seq c81k2 .ret) .skip) :: k) s r := Iff.rfl
@[simp] theorem uc81k4 : Ex F cx (.code c81k4 :: k) ⟨mk 26 l, rows, low⟩ r ↔ bnd (evP rows (.load1 (.c (lk l 1)))) fun v0 => bnd (evP rows (.nilck (.c v0))) fun v1 => bnd (evP rows (.fieldA 0 (.c v1))) fun v2 => bnd (evP rows (.idxA 6 1 (.c v2) (.c (lk l 0)))) fun v3 => bnd (evP rows (.load1 (.c v3))) fun v4 => bnd (evP rows (.bin .eql (.c v4) (.c (lk l 0)))) fun v5 => Ex F cx k ⟨mk 26 [(12, v5), (11, lk l 0), (10, v4), (9, v3), (8, v2), (7, v1), (6, lk l 0), (5, v0), (0, lk l 0), (1, lk l 1), (2, lk l 2)], rows, low⟩ r := rg [0, 1, 2] c81r4 rfl (by kernel_rfl)
@[simp] theorem uc81s5 : Ex F cx (.code c81s5 :: k) s r ↔ Ex F cx (.code (.seq (.seq c81k4 c81s3) c81s1) :: k) s r := Iff.rfl
@[simp] theorem uc81k6 : Ex F cx (.code c81k6 :: k) ⟨mk 26 l, rows, low⟩ r ↔ Ex F cx k ⟨mk 26 [(4, .nilslice), (0, lk l 0), (1, lk l 1), (2, lk l 2)], rows, low⟩ r := rg [0, 1, 2] c81r6 rfl (by kernel_rfl)
def Jc81s1 (F : Nat → Option IFn) (cx : Ctx) (x0 x1 x2 : AV) (rows : List Row) (low : Nat) (r : AV × List Row × Nat → Prop) : Prop := Ex F cx (.code c81s1 :: []) ⟨mk 26 [(0, x0), (1, x1), (2, x2)], rows, low⟩ r
@[simp] theorem uc81b : Ex F cx (.code c81b :: k) s r ↔ Ex F cx (.code (.seq c81k6 c81s5) :: k) s r := Iff.rfl
theorem i81 {x0 x1 x2 : AV} (hF : F 81 = some c81) {q : AV × List Row × Option Nat} (h : Ex F (.fn [.t 4]) [.code c81b] ⟨mk 26 [(0, x0), (1, x1), (2, x2)], rows, rows.length⟩ fun r => fin rows r.1 r.2.1 r.2.2 = q) : Ret F 81 [x0, x1, x2] rows = some q := Ret_mk hF h
@[simp] theorem uc82k1 : Ex F cx (.code c82k1 :: k) ⟨mk 28 l, rows, low⟩ r ↔ bnd (evP rows (.bin .add (.c (lk l 2)) (.c (.int .i64 1)))) fun v0 => bnd (evP rows (.bin .sub (.c (lk l 3)) (.c (.int .i64 1)))) fun v1 => Ex F cx k ⟨mk 28 [(3, v1), (2, v0), (13, v1), (12, lk l 3), (11, v0), (10, lk l 2), (0, lk l 0), (2, lk l 2), (3, lk l 3)], rows, low⟩ r := rg [0, 2, 3] c82r1 rfl (by kernel_rfl)
@[simp] theorem uc82k2 : Ex F cx (.code c82k2 :: k) s r ↔ Ex F cx (.code (.kill 28 [0, 2, 3] (.ops c82r2)) :: k) s r := Iff.rfl
@[simp] theorem uc82r2 : Ex F cx (.ops c82r2 :: k) s r ↔ Ex F cx (.ops [
 .grpw (.t 26) (.t 21) none 8179 [(⟨some 14, .mv (.t 0), none⟩, 0), (⟨some 15, .mv (.t 2), none⟩, 0), (⟨some 16, .mv (.t 0), none⟩, 0), (⟨some 17, .mv (.t 3), none⟩, 0), (⟨some 18, .mv (.t 0), none⟩, 0), (⟨some 19, .mv (.t 3), none⟩, 0), (⟨some 20, .idxS 1 (.t 18) (.t 19), none⟩, 48), (⟨some 21, .load1 (.t 20), none⟩, 112), (⟨some 22, .mv (.t 0), none⟩, 0), (⟨some 23, .mv (.t 2), none⟩, 0), (⟨some 24, .idxS 1 (.t 22) (.t 23), none⟩, 768), (⟨some 25, .load1 (.t 24), none⟩, 1792), (⟨some 26, .idxS 1 (.t 14) (.t 15), none⟩, 4083), (⟨none, .lenc 0, none⟩, 8179)],
 .one ⟨some 27, .idxS 1 (.t 16) (.t 17), none⟩,
 .one ⟨none, .store1 (.t 27) (.t 25), none⟩] :: k) s r := Iff.rfl
@[simp] theorem uc82s3 : Ex F cx (.code c82s3 :: k) s r ↔ Ex F cx (.code (.seq (.block 1 c82k2) c82k1) :: k) s r := Iff.rfl
@[simp] theorem uc82s4 : Ex F cx (.code c82s4 :: k) s r ↔ Ex F cx (.code (.cond (.t 9) .skip (.exit 0)) :: k) s r := Iff.rfl
@[simp] theorem uc82k5 : Ex F cx (.code c82k5 :: k) ⟨mk 28 l, rows, low⟩ r ↔ bnd (evP rows (.bin .lss (.c (lk l 2)) (.c (lk l 3)))) fun v0 => Ex F cx k ⟨mk 28 [(9, v0), (8, lk l 3), (7, lk l 2), (0, lk l 0), (2, lk l 2), (3, lk l 3)], rows, low⟩ r := rg [0, 2, 3] c82r5 rfl (by kernel_rfl)
@[simp] theorem uc82s6 : Ex F cx (.code c82s6 :: k) s r ↔ Ex F cx (.code (.block 0 (.loop c82l0)) :: k) s r := Iff.rfl
@[simp] theorem uc82k7 : Ex F cx (.code c82k7 :: k) ⟨mk 28 l, rows, low⟩ r ↔ bnd (evP rows (.len 0 (.c (lk l 0)))) fun v0 => bnd (evP rows (.bin .sub (.c v0) (.c (.int .i64 1)))) fun v1 => Ex F cx k ⟨mk 28 [(3, v1), (2, (.int .i64 0)), (6, v1), (5, v0), (4, lk l 0), (0, lk l 0)], rows, low⟩ r := rg [0] c82r7 rfl (by kernel_rfl)
def Jc82s3 (F : Nat → Option IFn) (cx : Ctx) (x0 x2 x3 : AV) (rows : List Row) (low : Nat) (r : AV × List Row × Nat → Prop) : Prop := Ex F cx (.code c82s3 :: .inLoop c82l0 :: .inBlock 0 :: []) ⟨mk 28 [(0, x0), (2, x2), (3, x3)], rows, low⟩ r
def Lc82l0 (F : Nat → Option IFn) (cx : Ctx) (x0 x2 x3 : AV) (rows : List Row) (low : Nat) (r : AV × List Row × Nat → Prop) : Prop := Ex F cx (.code c82l0 :: .inLoop c82l0 :: .inBlock 0 :: []) ⟨mk 28 [(0, x0), (2, x2), (3, x3)], rows, low⟩ r
@[simp] theorem nc82l0 : Ex F cx (.inLoop c82l0 :: .inBlock 0 :: []) ⟨mk 28 l, rows, low⟩ r ↔ Lc82l0 F cx (lk l 0) (lk l 2) (lk l 3) rows low r := loopN (keep := [0, 2, 3]) (by kernel_rfl)
@[simp] theorem ec82l0 : Ex F cx (.code (.loop c82l0) :: .inBlock 0 :: []) ⟨mk 28 l, rows, low⟩ r ↔ Lc82l0 F cx (lk l 0) (lk l 2) (lk l 3) rows low r := loopE (keep := [0, 2, 3]) (by kernel_rfl)
@[simp] theorem uc82l0 : Ex F cx (.code c82l0 :: k) s r ↔ Ex F cx (.code (.seq (.seq c82k5 c82s4) c82s3) :: k) s r := Iff.rfl
@[simp] theorem uc82b : Ex F cx (.code c82b :: k) s r ↔ Ex F cx (.code (.seq c82k7 c82s6) :: k) s r := Iff.rfl
theorem i82 {x0 : AV} (hF : F 82 = some c82) {q : AV × List Row × Option Nat} (h : Ex F (.fn []) [.code c82b] ⟨mk 28 [(0, x0)], rows, rows.length⟩ fun r => fin rows r.1 r.2.1 r.2.2 = q) : Ret F 82 [x0] rows = some q := Ret_mk hF h
end Go.Abs

namespace Go.Abs
section
variable {rows : List Row} {N : Nat} {ks ps : List Nat} {g v : AV} {l : List Int}
theorem open_ok {ev pv : AV} (hg : GRd rows (.agg [.int .i64 N, ev, pv]) N ks ps) (h : IsL rows v l) (hb : ∀ x ∈ l, -100 ≤ x ∧ x ≤ 100) {f n : Nat} (hl : l.length = n) (hn1 : n ≤ 100) {g' : AV} (hn : ∀ L, Ret F f [g'] (rows ++ L) = some (.int .i64 n, rows ++ L, none)) :
  Ret F 66 [.agg [.int .i64 N, ev, pv], v, .iface bd (.agg [.int .u64 f, g'])] rows = some (.int .i64 0, rows, none) := by
 obtain ⟨_, _, e, he, hp, _⟩ := hg.eq
 simp only [AV.agg.injEq, List.cons.injEq, and_true, true_and] at e
 obtain ⟨rfl, rfl⟩ := e
 have hok := hg.ok
 have h1 := hok.ek
 have h2 := hok.pk
 have := open_ret (N := N) (n := n) he (by omega) hp (by omega) h (by omega) hn
 rw [this, gndB_ok hok]
 have hany : l.any outB = false := by
  rw [List.any_eq_false]
  intro x hx
  have := hb x hx
  simp [outB]
  omega
 simp [opn, hany, hl]
def grad (ks : List Nat) (l : List Int) : List Int := ks.map fun k => gI l (k % 6) - gI l (k / 6)
theorem grad_take {ks : List Nat} {i : Nat} (h : i < ks.length) : (grad ks l).take (i + 1) = (grad ks l).take i ++ [gI l (gN ks i % 6) - gI l (gN ks i / 6)] := by
 rw [List.take_add_one, List.getElem?_eq_getElem (by simpa [grad] using h)]
 simp [grad, gN_eq h]
theorem grad_len : (grad ks l).length = ks.length := by simp [grad]
def LRet1 (f : Nat) (vs : List AV) (rows : List Row) (l : List Int) : Prop := ∃ v X, Ret F f vs rows = some (v, rows ++ X, none) ∧ X.all (Row.under 0) = true ∧ IsL (rows ++ X) v l ∧ Cp 1 v
end
end Go.Abs

namespace Go.Abs
section
variable {rows : List Row} {N : Nat} {ks ps : List Nat} {g v : AV} {l : List Int}
theorem set_fill {a : List Int} {x : Int} {d i : Nat} (h : a.length = i) : (a ++ List.replicate (d + 1) 0).set i x = (a ++ [x]) ++ List.replicate d 0 := by
 rw [List.set_append_right _ _ (by omega), h, Nat.sub_self, List.replicate_succ]
 simp
set_option maxHeartbeats 8000000 in
theorem RGradient_loop {B : List Row} {ev pv n0 : AV} (hok : GOK N ks ps) (he : El B 2 ev (nums .i64 (eC ks)) ks.length) (h : IsL B v l) (hl : l.length = N) (hb : ∀ x ∈ l, -1000000 ≤ x ∧ x ≤ 1000000) {low : Nat} (hlow : low ≤ B.length) {r : AV × List Row × Nat → Prop} {x5 : AV} {c : Cap} (hne : B.length ≠ sid x5)
  (hk : ∀ (L : List Row), Acc B L 1 c x5 (nums .i64 (grad ks l)) ks.length → r (x5, B ++ L, low)) :
  ∀ (d i : Nat) (L : List Row), ks.length - i = d → i ≤ ks.length → row? (B ++ L) B.length = some [n0, ev, pv] → Acc B L 1 c x5 (nums .i64 ((grad ks l).take i ++ List.replicate d 0)) ks.length →
  Lc49l2 F (.fn [.t 4]) v (.ptr B.length 0) x5 (.int .i64 i) (B ++ L) low r := by
 intro d
 induction d with
 |
  zero =>
  intro i L hd h1 hG hA
  have hi : i = ks.length := by omega
  subst hi
  rw [List.take_of_length_le (by rw [grad_len]; omega), List.replicate_zero, List.append_nil] at hA
  have := hk L hA
  have he' := El_app he L
  unfold Lc49l2
  simp [hG, lenW he']
  exact this
 |
  succ d ih =>
  intro i L hd h1 hG hA
  have hi : i < ks.length := by omega
  have hek := hok.ek
  have hw : IntKind.i64.wrap ((i : Int) + 1) = ((i + 1 : Nat) : Int) := by rw [wrap64 (by omega) (by omega)]; omega
  obtain ⟨e1, e2⟩ := eC_a hi
  have hee := hok.ee _ (gN_mem hi)
  have n6 := hok.n6
  have hgt := grad_take (l := l) hi
  have b1 := hb _ (gI_mem (i := gN ks i / 6) (by omega))
  have b2 := hb _ (gI_mem (i := gN ks i % 6) (by omega))
  have b3 : gN ks i / 6 < l.length := by omega
  have b4 : gN ks i % 6 < l.length := by omega
  generalize gN ks i / 6 = A at *
  generalize gN ks i % 6 = C at *
  obtain ⟨X, hX⟩ : ∃ X, X = gI l C - gI l A := ⟨_, rfl⟩
  have hws : IntKind.i64.wrap (gI l C - gI l A) = X := by rw [hX]; exact wrap64 (by omega) (by omega)
  rw [← hX] at hgt
  obtain ⟨L', ev1, hA2, hL2, hL3⟩ := Acc_store (x := X) hA hi hlow
  rw [set_fill (by simp [grad_len]; omega), ← hgt] at hA2
  have := ih (i + 1) L' (by omega) (by omega) (hL3 _ _ hne hG) hA2
  have he' := El_app he L
  have h' := IsL_app h L
  have ix := Acc_idx hA hi
  have i01 : idx? 0 2 = some 0 := rfl
  have i11 : idx? 1 2 = some 1 := rfl
  have w1 := ldW1 he' (j := i * 2) (by rw [eC_len]; omega)
  have w2 := ldW1 he' (j := i * 2 + 1) (by rw [eC_len]; omega)
  rw [← Nat.add_assoc] at w2
  unfold Lc49l2
  simp (disch := first | omega | (simp; done) | fail) [hG, lenW he', hi, idxW he', i01, i11, w1, w2, e1, e2, idxL0 h', loadL0 h', hws, ix, ev1, hw, -evE_store1]
  simpa using this
set_option maxHeartbeats 4000000 in
theorem RGradient_ret' (hg : GRd rows g N ks ps) (h : IsL rows v l) (hl : l.length = N) (hb : ∀ x ∈ l, -1000000 ≤ x ∧ x ≤ 1000000) : LRet1 49 [g, v] rows (grad ks l) := by
 obtain ⟨ev, pv, rfl, he, hp, _⟩ := hg.eq
 have hok := hg.ok
 have o1 := El_one he
 have o2 := El_one hp
 have hek := hok.ek
 let Q : AV × List Row × Nat → Prop := fun r => ∃ v X, fin rows r.1 r.2.1 r.2.2 = (v, rows ++ X, none) ∧ X.all (Row.under 0) = true ∧ IsL (rows ++ X) v (grad ks l) ∧ Cp 1 v
 have main : Ex F (.fn [.t 4]) [.code c49b] ⟨mk 41 [(0, .agg [.int .i64 N, ev, pv]), (1, v)], rows, rows.length⟩ Q := by
  have hA0 := Acc_make (B := rows) (L := [.cells [.int .i64 N, ev, pv]]) (m := ks.length)
  have hloop := RGradient_loop (B := rows) (n0 := .int .i64 N) (pv := pv) (low := rows.length) (r := Q) (x5 := .slice (rows.length + 1) 0 ks.length (.at_ ks.length)) (c := .at_ ks.length) hok he h hl hb (Nat.le_refl _) (by simp) (fun L hA => by
   obtain ⟨v', X, e, h1, h2, h3, h4⟩ := Acc_fin1 hA (.inr ⟨_, rfl, Nat.le_refl _⟩)
   exact ⟨v', X, e, h1, h2, h4⟩) _ 0 ([.cells [.int .i64 N, ev, pv]] ++ [.cells (nums .i64 (List.replicate ks.length 0))]) rfl (Nat.zero_le _) (by simp [row?]) (by simpa using hA0)
  have ln := evP_lenE (El_app he [.cells [.int .i64 N, ev, pv]])
  have hlim : (ks.length : Int) ≤ lim := by simp [lim]; omega
  simp [AV.cells, o1, o2, seg, ln, hlim]
  simpa [nums] using hloop
 obtain ⟨n1, q, e, v', X, h1, h2⟩ := main
 exact ⟨v', X, i49 F49 ⟨n1, q, e, h1⟩, h2⟩
theorem RGradient_ret (hg : GRd rows g N ks ps) (h : IsL rows v l) (hl : l.length = N) (hb : ∀ x ∈ l, -100 ≤ x ∧ x ≤ 100) : LRet1 49 [g, v] rows (grad ks l) :=
 RGradient_ret' hg h hl (fun x hx => by have := hb x hx; omega)
end
end Go.Abs

namespace Go.Abs
theorem rep_nums {m : Nat} : List.replicate m (AV.int .i64 0) = nums .i64 (List.replicate m 0) := by simp [nums]
section
variable {rows : List Row} {N : Nat} {ks ps : List Nat} {g v : AV} {l : List Int}
end
end Go.Abs

namespace Go.Abs
def Sm (b o : Nat) (R R' : List Row) : Prop := b ≤ R'.length ∧ ∀ id, id < b → id ≠ o → R'[id]? = R[id]?
section
variable {b o : Nat} {R R' R'' : List Row}
end
theorem row_end {B : List Row} {vs : List AV} : row? (B ++ [.cells vs]) B.length = some vs := by simp [row?]
theorem cell_end {B : List Row} {vs : List AV} : cells? (B ++ [.cells vs]) B.length = some vs := by simp [cells?]
end Go.Abs

namespace Go.Abs
theorem Sm_split {B R : List Row} {o : Nat} (h : Sm B.length o B R) (ho : B.length ≤ o) : ∃ L, R = B ++ L := by
 refine ⟨R.drop B.length, ?_⟩
 apply List.ext_getElem?
 intro i
 by_cases c : i < B.length
 ·rw [List.getElem?_append_left c]
  exact h.2 i c (by omega)
 ·rw [List.getElem?_append_right (by omega), List.getElem?_drop]
  congr 1
  omega
section
variable {rows : List Row} {N : Nat} {ks ps : List Nat} {v g : AV} {l : List Int}
end
end Go.Abs

namespace Go.Abs
theorem gN_inj {l : List Nat} (h : l.Pairwise (· < ·)) {i j : Nat} (hi : i < l.length) (hj : j < l.length) (e : gN l i = gN l j) : i = j := by
 rcases Nat.lt_trichotomy i j with c | c | c
 ·have := gN_lt h c hj; omega
 ·exact c
 ·have := gN_lt h c hi; omega
section
variable {rows : List Row} {N : Nat} {ks ps : List Nat} {v g : AV} {l : List Int}
end
end Go.Abs

namespace Go.Abs
theorem gI_set_ne {c : List Int} {i j : Nat} {x : Int} (h : i ≠ j) : gI (c.set i x) j = gI c j := by
 simp only [gI, List.getD_eq_getElem?_getD]
 rw [List.getElem?_set_ne h]
section
variable {rows : List Row} {N : Nat} {ks ps : List Nat} {v g : AV} {l : List Int}
end
end Go.Abs

namespace Go.Abs
def gA (vs : List AV) (i : Nat) : AV := vs.getD i .any
section
variable {rows : List Row}
theorem ints_loop {a b : AV} {l p : List Int} (ha : IsL rows a l) (hb : IsL rows b p) (hlen : l.length = p.length) (hL : l.length < 4611686018427387904) : ∀ (n i : Nat), l.length - i = n → i ≤ l.length → l.take i = p.take i →
  Lc27l2 F (.fn [.t 4]) a b (.int .i64 i) rows rows.length (fun r => fin rows r.1 r.2.1 r.2.2 = (.bool (decide (l = p)), rows, none)) := by
 intro n
 induction n with
 |
  zero =>
  intro i hn h1 h2
  have hi : i = l.length := by omega
  have e : l = p := by
   have h3 := h2
   rw [hi, List.take_of_length_le (Nat.le_refl _), List.take_of_length_le (by omega)] at h3
   exact h3
  unfold Lc27l2
  simp [lenL0 ha, hi, e]
 |
  succ n ih =>
  intro i hn h1 h2
  have hi : i < l.length := by omega
  have hi2 : i < p.length := by omega
  have w : IntKind.i64.wrap ((i : Int) + 1) = i + 1 := wrap64 (by omega) (by omega)
  unfold Lc27l2
  by_cases hne : gI l i = gI p i
  ·simp (disch := first | omega | (simp; done) | fail) [lenL0 ha, idxL0 ha, loadL0 ha, idxL0 hb, loadL0 hb, hi, hi2, w, hne]
   have e : l.take (i + 1) = p.take (i + 1) := by
    rw [List.take_add_one, List.take_add_one, h2, gI_get hi, gI_get hi2, hne]
   have := ih (i + 1) (by omega) (by omega) e
   simpa using this
  ·have e : l ≠ p := fun e => hne (by rw [e])
   simp (disch := first | omega | (simp; done) | fail) [lenL0 ha, idxL0 ha, loadL0 ha, idxL0 hb, loadL0 hb, hi, hi2, w, hne, e]
theorem ints_ret {a b : AV} {l p : List Int} (ha : IsL rows a l) (hb : IsL rows b p) (hL : l.length < 4611686018427387904) (hP : p.length < 4611686018427387904) : Ret F 27 [a, b] rows = some (.bool (decide (l = p)), rows, none) := by
 refine i27 F27 ?_
 by_cases hlen : l.length = p.length
 ·have := ints_loop ha hb hlen hL _ 0 rfl (by omega) rfl
  simp [lenL0 ha, lenL0 hb, hlen]
  simpa using this
 ·have e : l ≠ p := fun e => hlen (by rw [e])
  simp [lenL0 ha, lenL0 hb, hlen, e, show ¬ ((l.length : Int) = p.length) from by omega]
end
section
variable {rows : List Row}
end
end Go.Abs

set_option maxRecDepth 20000
set_option maxHeartbeats 4000000
namespace Go.Abs
variable {F : Nat → Option IFn} {cx : Ctx} {k : List Itm} {s : St} {l : List (Nat × AV)} {rows : List Row} {low : Nat} {r : AV × List Row × Nat → Prop}
@[simp] theorem uc31k0 : Ex F cx (.code c31k0 :: k) ⟨mk 63 l, rows, low⟩ r ↔ Ex F cx k ⟨mk 63 [(2, lk l 3), (62, lk l 3), (3, lk l 3)], rows, low⟩ r := rg [3] c31r0 rfl (by kernel_rfl)
@[simp] theorem uc31s1 : Ex F cx (.code c31s1 :: k) s r ↔ Ex F cx (.code (.seq c31k0 .ret) :: k) s r := Iff.rfl
@[simp] theorem uc31k3 : Ex F cx (.code c31k3 :: k) ⟨mk 63 l, rows, low⟩ r ↔ bnd (evP rows (.bin .add (.c (lk l 5)) (.c (.int .i64 1)))) fun v0 => Ex F cx k ⟨mk 63 [(5, v0), (25, v0), (24, lk l 5), (1, lk l 1), (3, lk l 3), (5, lk l 5)], rows, low⟩ r := rg [1, 3, 5] c31r3 rfl (by kernel_rfl)
@[simp] theorem uc31k5 : Ex F cx (.code c31k5 :: k) ⟨mk 63 l, rows, low⟩ r ↔ bnd (evP rows (.bin .add (.c (lk l 6)) (.c (.int .i64 1)))) fun v0 => Ex F cx k ⟨mk 63 [(6, v0), (32, v0), (31, lk l 6), (1, lk l 1), (3, lk l 3), (5, lk l 5), (6, lk l 6)], rows, low⟩ r := rg [1, 3, 5, 6] c31r5 rfl (by kernel_rfl)
@[simp] theorem uc31k6 : Ex F cx (.code c31k6 :: k) ⟨mk 63 l, rows, low⟩ r ↔ bnd (evP rows (.idxS 1 (.c (lk l 3)) (.c (lk l 8)))) fun v0 => bnd (evE rows low (.store1 (.c v0) (.c (lk l 9)))) fun q1 => Ex F cx k ⟨mk 63 [(61, v0), (60, lk l 9), (59, lk l 8), (58, lk l 3), (1, lk l 1), (3, lk l 3), (5, lk l 5), (6, lk l 6), (8, lk l 8), (9, lk l 9)], q1.2.1, q1.2.2⟩ r := rg [1, 3, 5, 6, 8, 9] c31r6 rfl (by kernel_rfl)
@[simp] theorem uc31k7 : Ex F cx (.code c31k7 :: k) ⟨mk 63 l, rows, low⟩ r ↔ bnd (evP rows (.idxS 1 (.c (lk l 3)) (.c (lk l 7)))) fun v0 => bnd (evE rows low (.store1 (.c v0) (.c (lk l 9)))) fun q1 => Ex F cx k ⟨mk 63 [(57, v0), (56, lk l 9), (55, lk l 7), (54, lk l 3), (1, lk l 1), (3, lk l 3), (5, lk l 5), (6, lk l 6), (7, lk l 7), (8, lk l 8), (9, lk l 9)], q1.2.1, q1.2.2⟩ r := rg [1, 3, 5, 6, 7, 8, 9] c31r7 rfl (by kernel_rfl)
@[simp] theorem uc31s8 : Ex F cx (.code c31s8 :: k) s r ↔ Ex F cx (.code (.seq c31k7 c31k6) :: k) s r := Iff.rfl
@[simp] theorem uc31k9 : Ex F cx (.code c31k9 :: k) ⟨mk 63 l, rows, low⟩ r ↔ bnd (evP rows (.idxS 1 (.c (lk l 3)) (.c (lk l 7)))) fun v0 => bnd (evP rows (.load1 (.c v0))) fun v1 => bnd (evP rows (.idxS 1 (.c (lk l 3)) (.c (lk l 8)))) fun v2 => bnd (evP rows (.load1 (.c v2))) fun v3 => bnd (evP rows (.mn [(.c v1), (.c v3)])) fun v4 => Ex F cx k ⟨mk 63 [(9, v4), (53, v4), (52, v3), (51, v2), (50, lk l 8), (49, lk l 3), (48, v1), (47, v0), (46, lk l 7), (45, lk l 3), (1, lk l 1), (3, lk l 3), (5, lk l 5), (6, lk l 6), (7, lk l 7), (8, lk l 8)], rows, low⟩ r := rg [1, 3, 5, 6, 7, 8] c31r9 rfl (by kernel_rfl)
@[simp] theorem uc31s10 : Ex F cx (.code c31s10 :: k) s r ↔ Ex F cx (.code (.seq c31k9 c31s8) :: k) s r := Iff.rfl
@[simp] theorem uc31k11 : Ex F cx (.code c31k11 :: k) ⟨mk 63 l, rows, low⟩ r ↔ bnd (evP rows (.fieldA 1 (.c (lk l 1)))) fun v0 => bnd (evP rows (.load1 (.c v0))) fun v1 => bnd (evP rows (.idxS 2 (.c v1) (.c (lk l 6)))) fun v2 => bnd (evP rows (.idxA 2 1 (.c v2) (.c (.int .i64 0)))) fun v3 => bnd (evP rows (.load1 (.c v3))) fun v4 => bnd (evP rows (.fieldA 1 (.c (lk l 1)))) fun v5 => bnd (evP rows (.load1 (.c v5))) fun v6 => bnd (evP rows (.idxS 2 (.c v6) (.c (lk l 6)))) fun v7 => bnd (evP rows (.idxA 2 1 (.c v7) (.c (.int .i64 1)))) fun v8 => bnd (evP rows (.load1 (.c v8))) fun v9 => Ex F cx k ⟨mk 63 [(8, v9), (7, v4), (44, v9), (43, v8), (42, v7), (41, lk l 6), (40, v6), (39, v5), (38, v4), (37, v3), (36, v2), (35, lk l 6), (34, v1), (33, v0), (1, lk l 1), (3, lk l 3), (5, lk l 5), (6, lk l 6)], rows, low⟩ r := rg [1, 3, 5, 6] c31r11 rfl (by kernel_rfl)
@[simp] theorem uc31s12 : Ex F cx (.code c31s12 :: k) s r ↔ Ex F cx (.code (.seq (.block 5 (.seq c31k11 c31s10)) c31k5) :: k) s r := Iff.rfl
@[simp] theorem uc31s13 : Ex F cx (.code c31s13 :: k) s r ↔ Ex F cx (.code (.cond (.t 30) .skip (.exit 4)) :: k) s r := Iff.rfl
@[simp] theorem uc31k14 : Ex F cx (.code c31k14 :: k) ⟨mk 63 l, rows, low⟩ r ↔ bnd (evP rows (.fieldA 1 (.c (lk l 1)))) fun v0 => bnd (evP rows (.load1 (.c v0))) fun v1 => bnd (evP rows (.len 0 (.c v1))) fun v2 => bnd (evP rows (.bin .lss (.c (lk l 6)) (.c v2))) fun v3 => Ex F cx k ⟨mk 63 [(30, v3), (29, v2), (28, v1), (27, v0), (26, lk l 6), (1, lk l 1), (3, lk l 3), (5, lk l 5), (6, lk l 6)], rows, low⟩ r := rg [1, 3, 5, 6] c31r14 rfl (by kernel_rfl)
@[simp] theorem uc31s15 : Ex F cx (.code c31s15 :: k) s r ↔ Ex F cx (.code (.block 4 (.loop c31l4)) :: k) s r := Iff.rfl
@[simp] theorem uc31k16 : Ex F cx (.code c31k16 :: k) ⟨mk 63 l, rows, low⟩ r ↔ Ex F cx k ⟨mk 63 [(6, (.int .i64 0)), (1, lk l 1), (3, lk l 3), (5, lk l 5)], rows, low⟩ r := rg [1, 3, 5] c31r16 rfl (by kernel_rfl)
@[simp] theorem uc31s17 : Ex F cx (.code c31s17 :: k) s r ↔ Ex F cx (.code (.seq (.block 3 (.seq c31k16 c31s15)) c31k3) :: k) s r := Iff.rfl
@[simp] theorem uc31s18 : Ex F cx (.code c31s18 :: k) s r ↔ Ex F cx (.code (.cond (.t 23) .skip (.exit 2)) :: k) s r := Iff.rfl
@[simp] theorem uc31k19 : Ex F cx (.code c31k19 :: k) ⟨mk 63 l, rows, low⟩ r ↔ bnd (evP rows (.fieldA 0 (.c (lk l 1)))) fun v0 => bnd (evP rows (.load1 (.c v0))) fun v1 => bnd (evP rows (.bin .lss (.c (lk l 5)) (.c v1))) fun v2 => Ex F cx k ⟨mk 63 [(23, v2), (22, v1), (21, v0), (20, lk l 5), (1, lk l 1), (3, lk l 3), (5, lk l 5)], rows, low⟩ r := rg [1, 3, 5] c31r19 rfl (by kernel_rfl)
@[simp] theorem uc31s20 : Ex F cx (.code c31s20 :: k) s r ↔ Ex F cx (.code (.block 2 (.loop c31l2)) :: k) s r := Iff.rfl
@[simp] theorem uc31k21 : Ex F cx (.code c31k21 :: k) ⟨mk 63 l, rows, low⟩ r ↔ Ex F cx k ⟨mk 63 [(5, (.int .i64 0)), (1, lk l 1), (3, lk l 3)], rows, low⟩ r := rg [1, 3] c31r21 rfl (by kernel_rfl)
@[simp] theorem uc31s22 : Ex F cx (.code c31s22 :: k) s r ↔ Ex F cx (.code (.seq (.seq c31k21 c31s20) c31s1) :: k) s r := Iff.rfl
@[simp] theorem uc31k24 : Ex F cx (.code c31k24 :: k) ⟨mk 63 l, rows, low⟩ r ↔ bnd (evP rows (.bin .add (.c (lk l 4)) (.c (.int .i64 1)))) fun v0 => Ex F cx k ⟨mk 63 [(4, v0), (15, v0), (14, lk l 4), (1, lk l 1), (3, lk l 3), (4, lk l 4)], rows, low⟩ r := rg [1, 3, 4] c31r24 rfl (by kernel_rfl)
@[simp] theorem uc31k25 : Ex F cx (.code c31k25 :: k) ⟨mk 63 l, rows, low⟩ r ↔ bnd (evE rows low (.mkslice 1 [.int .i64 0] [(0, 1, (.c (lk l 4)))])) fun q0 => bnd (evE q0.2.1 q0.2.2 (.app 1 8 (.c (lk l 3)) (.c q0.1))) fun q1 => Ex F cx k ⟨mk 63 [(3, q1.1), (19, q1.1), (18, q0.1), (17, lk l 4), (16, lk l 3), (1, lk l 1), (3, lk l 3), (4, lk l 4)], q1.2.1, q1.2.2⟩ r := rg [1, 3, 4] c31r25 rfl (by kernel_rfl)
@[simp] theorem uc31s26 : Ex F cx (.code c31s26 :: k) s r ↔ Ex F cx (.code (.seq (.block 1 c31k25) c31k24) :: k) s r := Iff.rfl
@[simp] theorem uc31s27 : Ex F cx (.code c31s27 :: k) s r ↔ Ex F cx (.code (.cond (.t 13) .skip (.exit 0)) :: k) s r := Iff.rfl
@[simp] theorem uc31k28 : Ex F cx (.code c31k28 :: k) ⟨mk 63 l, rows, low⟩ r ↔ bnd (evP rows (.fieldA 0 (.c (lk l 1)))) fun v0 => bnd (evP rows (.load1 (.c v0))) fun v1 => bnd (evP rows (.bin .lss (.c (lk l 4)) (.c v1))) fun v2 => Ex F cx k ⟨mk 63 [(13, v2), (12, v1), (11, v0), (10, lk l 4), (1, lk l 1), (3, lk l 3), (4, lk l 4)], rows, low⟩ r := rg [1, 3, 4] c31r28 rfl (by kernel_rfl)
@[simp] theorem uc31s29 : Ex F cx (.code c31s29 :: k) s r ↔ Ex F cx (.code (.block 0 (.loop c31l23)) :: k) s r := Iff.rfl
@[simp] theorem uc31k30 : Ex F cx (.code c31k30 :: k) ⟨mk 63 l, rows, low⟩ r ↔ Ex F cx k ⟨mk 63 [(4, (.int .i64 0)), (1, lk l 1), (3, lk l 3)], rows, low⟩ r := rg [1, 3] c31r30 rfl (by kernel_rfl)
@[simp] theorem uc31s31 : Ex F cx (.code c31s31 :: k) s r ↔ Ex F cx (.code (.seq (.seq c31k30 c31s29) c31s22) :: k) s r := Iff.rfl
@[simp] theorem uc31k32 : Ex F cx (.code c31k32 :: k) ⟨mk 63 l, rows, low⟩ r ↔ Ex F cx k ⟨mk 63 [(3, .nilslice), (1, lk l 1)], rows, low⟩ r := rg [1] c31r32 rfl (by kernel_rfl)
@[simp] theorem uc31s33 : Ex F cx (.code c31s33 :: k) s r ↔ Ex F cx (.code (.seq c31k32 c31s31) :: k) s r := Iff.rfl
@[simp] theorem uc31k34 : Ex F cx (.code c31k34 :: k) ⟨mk 63 l, rows, low⟩ r ↔ bnd (evE rows low (.box (.c (lk l 0)))) fun q0 => Ex F cx k ⟨mk 63 [(2, .nilslice), (1, q0.1), (0, lk l 0)], q0.2.1, q0.2.2⟩ r := rg [0] c31r34 rfl (by kernel_rfl)
def Jc31s12 (F : Nat → Option IFn) (cx : Ctx) (x1 x3 x5 x6 : AV) (rows : List Row) (low : Nat) (r : AV × List Row × Nat → Prop) : Prop := Ex F cx (.code c31s12 :: .inLoop c31l4 :: .inBlock 4 :: .inBlock 3 :: .code c31k3 :: .inLoop c31l2 :: .inBlock 2 :: .code c31s1 :: []) ⟨mk 63 [(1, x1), (3, x3), (5, x5), (6, x6)], rows, low⟩ r
def Lc31l4 (F : Nat → Option IFn) (cx : Ctx) (x1 x3 x5 x6 : AV) (rows : List Row) (low : Nat) (r : AV × List Row × Nat → Prop) : Prop := Ex F cx (.code c31l4 :: .inLoop c31l4 :: .inBlock 4 :: .inBlock 3 :: .code c31k3 :: .inLoop c31l2 :: .inBlock 2 :: .code c31s1 :: []) ⟨mk 63 [(1, x1), (3, x3), (5, x5), (6, x6)], rows, low⟩ r
@[simp] theorem nc31l4 : Ex F cx (.inLoop c31l4 :: .inBlock 4 :: .inBlock 3 :: .code c31k3 :: .inLoop c31l2 :: .inBlock 2 :: .code c31s1 :: []) ⟨mk 63 l, rows, low⟩ r ↔ Lc31l4 F cx (lk l 1) (lk l 3) (lk l 5) (lk l 6) rows low r := loopN (keep := [1, 3, 5, 6]) (by kernel_rfl)
@[simp] theorem ec31l4 : Ex F cx (.code (.loop c31l4) :: .inBlock 4 :: .inBlock 3 :: .code c31k3 :: .inLoop c31l2 :: .inBlock 2 :: .code c31s1 :: []) ⟨mk 63 l, rows, low⟩ r ↔ Lc31l4 F cx (lk l 1) (lk l 3) (lk l 5) (lk l 6) rows low r := loopE (keep := [1, 3, 5, 6]) (by kernel_rfl)
@[simp] theorem uc31l4 : Ex F cx (.code c31l4 :: k) s r ↔ Ex F cx (.code (.seq (.seq c31k14 c31s13) c31s12) :: k) s r := Iff.rfl
def Jc31s17 (F : Nat → Option IFn) (cx : Ctx) (x1 x3 x5 : AV) (rows : List Row) (low : Nat) (r : AV × List Row × Nat → Prop) : Prop := Ex F cx (.code c31s17 :: .inLoop c31l2 :: .inBlock 2 :: .code c31s1 :: []) ⟨mk 63 [(1, x1), (3, x3), (5, x5)], rows, low⟩ r
def Lc31l2 (F : Nat → Option IFn) (cx : Ctx) (x1 x3 x5 : AV) (rows : List Row) (low : Nat) (r : AV × List Row × Nat → Prop) : Prop := Ex F cx (.code c31l2 :: .inLoop c31l2 :: .inBlock 2 :: .code c31s1 :: []) ⟨mk 63 [(1, x1), (3, x3), (5, x5)], rows, low⟩ r
@[simp] theorem nc31l2 : Ex F cx (.inLoop c31l2 :: .inBlock 2 :: .code c31s1 :: []) ⟨mk 63 l, rows, low⟩ r ↔ Lc31l2 F cx (lk l 1) (lk l 3) (lk l 5) rows low r := loopN (keep := [1, 3, 5]) (by kernel_rfl)
@[simp] theorem ec31l2 : Ex F cx (.code (.loop c31l2) :: .inBlock 2 :: .code c31s1 :: []) ⟨mk 63 l, rows, low⟩ r ↔ Lc31l2 F cx (lk l 1) (lk l 3) (lk l 5) rows low r := loopE (keep := [1, 3, 5]) (by kernel_rfl)
@[simp] theorem uc31l2 : Ex F cx (.code c31l2 :: k) s r ↔ Ex F cx (.code (.seq (.seq c31k19 c31s18) c31s17) :: k) s r := Iff.rfl
def Jc31s26 (F : Nat → Option IFn) (cx : Ctx) (x1 x3 x4 : AV) (rows : List Row) (low : Nat) (r : AV × List Row × Nat → Prop) : Prop := Ex F cx (.code c31s26 :: .inLoop c31l23 :: .inBlock 0 :: .code c31s22 :: []) ⟨mk 63 [(1, x1), (3, x3), (4, x4)], rows, low⟩ r
def Lc31l23 (F : Nat → Option IFn) (cx : Ctx) (x1 x3 x4 : AV) (rows : List Row) (low : Nat) (r : AV × List Row × Nat → Prop) : Prop := Ex F cx (.code c31l23 :: .inLoop c31l23 :: .inBlock 0 :: .code c31s22 :: []) ⟨mk 63 [(1, x1), (3, x3), (4, x4)], rows, low⟩ r
@[simp] theorem nc31l23 : Ex F cx (.inLoop c31l23 :: .inBlock 0 :: .code c31s22 :: []) ⟨mk 63 l, rows, low⟩ r ↔ Lc31l23 F cx (lk l 1) (lk l 3) (lk l 4) rows low r := loopN (keep := [1, 3, 4]) (by kernel_rfl)
@[simp] theorem ec31l23 : Ex F cx (.code (.loop c31l23) :: .inBlock 0 :: .code c31s22 :: []) ⟨mk 63 l, rows, low⟩ r ↔ Lc31l23 F cx (lk l 1) (lk l 3) (lk l 4) rows low r := loopE (keep := [1, 3, 4]) (by kernel_rfl)
@[simp] theorem uc31l23 : Ex F cx (.code c31l23 :: k) s r ↔ Ex F cx (.code (.seq (.seq c31k28 c31s27) c31s26) :: k) s r := Iff.rfl
@[simp] theorem uc31b : Ex F cx (.code c31b :: k) s r ↔ Ex F cx (.code (.seq c31k34 c31s33) :: k) s r := Iff.rfl
theorem i31 {x0 : AV} (hF : F 31 = some c31) {q : AV × List Row × Option Nat} (h : Ex F (.fn [.t 2]) [.code c31b] ⟨mk 63 [(0, x0)], rows, rows.length⟩ fun r => fin rows r.1 r.2.1 r.2.2 = q) : Ret F 31 [x0] rows = some q := Ret_mk hF h
end Go.Abs

namespace Go.Abs
def peS (ks : List Nat) (p : List Int) : Nat → List Int
 | 0 => p
 |
  i + 1 =>
  let s := peS ks p i
  let m := min (gI s (gN ks i / 6)) (gI s (gN ks i % 6))
  (s.set (gN ks i / 6) m).set (gN ks i % 6) m
def pcS (ks : List Nat) (N : Nat) : Nat → List Int
 | 0 => (List.range N).map fun (v : Nat) => (v : Int)
 | r + 1 => peS ks (pcS ks N r) ks.length
theorem peS_len {ks : List Nat} {p : List Int} : ∀ i, (peS ks p i).length = p.length
 | 0 => rfl
 | i + 1 => by simp [peS, peS_len i]
theorem pcS_len {ks : List Nat} {N : Nat} : ∀ r, (pcS ks N r).length = N
 | 0 => by simp [pcS]
 | r + 1 => by rw [pcS, peS_len, pcS_len r]
section
variable {rows : List Row} {N : Nat} {ks ps : List Nat} {v g : AV} {l : List Int}
set_option maxHeartbeats 8000000 in
theorem RPieces_edges {B : List Row} {ev pv n0 : AV} {c : Cap} (hok : GOK N ks ps) (he : El B 2 ev (nums .i64 (eC ks)) ks.length) {low : Nat} (hlow : low ≤ B.length) {r : AV × List Row × Nat → Prop} {x3 x5 : AV} (hne : B.length ≠ sid x3) {p : List Int} (hp : p.length = N)
  (hk : ∀ (L : List Row) (sl : List (Nat × AV)), row? (B ++ L) B.length = some [n0, ev, pv] → Acc B L 1 c x3 (nums .i64 (peS ks p ks.length)) N → lk sl 1 = .ptr B.length 0 → lk sl 3 = x3 → lk sl 5 = x5 → Ex F (.fn [.t 2]) [.code c31k3, .inLoop c31l2, .inBlock 2, .code c31s1] ⟨mk 63 sl, B ++ L, low⟩ r) :
  ∀ (d i : Nat) (L : List Row), ks.length - i = d → i ≤ ks.length → row? (B ++ L) B.length = some [n0, ev, pv] → Acc B L 1 c x3 (nums .i64 (peS ks p i)) N →
  Lc31l4 F (.fn [.t 2]) (.ptr B.length 0) x3 x5 (.int .i64 i) (B ++ L) low r := by
 have hek := hok.ek
 intro d
 induction d with
 |
  zero =>
  intro i L hd h1 hG hA
  have hi : i = ks.length := by omega
  subst hi
  have he' := El_app he L
  unfold Lc31l4
  simp [hG, lenW he', -uc31k3]
  refine hk L _ hG hA ?_ ?_ ?_ <;> simp
 |
  succ d ih =>
  intro i L hd h1 hG hA
  have hi : i < ks.length := by omega
  have hw : IntKind.i64.wrap ((i : Int) + 1) = ((i + 1 : Nat) : Int) := by rw [wrap64 (by omega) (by omega)]; omega
  obtain ⟨e1, e2⟩ := eC_a hi
  have hee := hok.ee _ (gN_mem hi)
  have n6 := hok.n6
  have hs : peS ks p (i + 1) = ((peS ks p i).set (gN ks i / 6) (min (gI (peS ks p i) (gN ks i / 6)) (gI (peS ks p i) (gN ks i % 6)))).set (gN ks i % 6) (min (gI (peS ks p i) (gN ks i / 6)) (gI (peS ks p i) (gN ks i % 6))) := rfl
  generalize gN ks i / 6 = A at *
  generalize gN ks i % 6 = C at *
  have hAN : A < N := by omega
  have hCN : C < N := by omega
  generalize hm : min (gI (peS ks p i) A) (gI (peS ks p i) C) = m at *
  have ixA := Acc_idx hA hAN
  have ldA := Acc_ld hA hAN
  have ixC := Acc_idx hA hCN
  have ldC := Acc_ld hA hCN
  obtain ⟨L1, ev1, hA2, hL1, hR1⟩ := Acc_store (i := A) (x := m) hA hAN hlow
  have ixC1 := Acc_idx hA2 hCN
  have hG1 := hR1 _ _ hne hG
  obtain ⟨L2, ev2, hA3, hL2, hR2⟩ := Acc_store (i := C) (x := m) hA2 hCN hlow
  rw [← hs] at hA3
  have := ih (i + 1) L2 (by omega) (by omega) (hR2 _ _ hne hG1) hA3
  have he' := El_app he L
  have i01 : idx? 0 2 = some 0 := rfl
  have i11 : idx? 1 2 = some 1 := rfl
  have w1 := ldW1 he' (j := i * 2) (by rw [eC_len]; omega)
  have w2 := ldW1 he' (j := i * 2 + 1) (by rw [eC_len]; omega)
  rw [← Nat.add_assoc] at w2
  unfold Lc31l4
  simp (disch := first | omega | (simp; done) | fail) [hG, lenW he', hi, idxW he', i01, i11, w1, w2, e1, e2, ixA, ldA, ixC, ldC, hm, ev1, ixC1, ev2, hw, -evE_store1]
  simpa using this
set_option maxHeartbeats 8000000 in
theorem RPieces_rounds {B : List Row} {ev pv : AV} {c : Cap} (hok : GOK N ks ps) (he : El B 2 ev (nums .i64 (eC ks)) ks.length) {low : Nat} (hlow : low ≤ B.length) {r : AV × List Row × Nat → Prop} {x3 : AV} (hne : B.length ≠ sid x3)
  (hk : ∀ (L : List Row), Acc B L 1 c x3 (nums .i64 (pcS ks N N)) N → r (x3, B ++ L, low)) :
  ∀ (d i : Nat) (L : List Row), N - i = d → i ≤ N → row? (B ++ L) B.length = some [.int .i64 N, ev, pv] → Acc B L 1 c x3 (nums .i64 (pcS ks N i)) N →
  Lc31l2 F (.fn [.t 2]) (.ptr B.length 0) x3 (.int .i64 i) (B ++ L) low r := by
 have n6 := hok.n6
 intro d
 induction d with
 |
  zero =>
  intro i L hd h1 hG hA
  have hi : i = N := by omega
  subst hi
  have := hk L hA
  unfold Lc31l2
  simp [hG]
  exact this
 |
  succ d ih =>
  intro i L hd h1 hG hA
  have hi : i < N := by omega
  have hw : IntKind.i64.wrap ((i : Int) + 1) = ((i + 1 : Nat) : Int) := by rw [wrap64 (by omega) (by omega)]; omega
  have := RPieces_edges (c := c) (pv := pv) (n0 := .int .i64 N) (x5 := .int .i64 i) (r := r) hok he hlow hne (pcS_len (ks := ks) i) (fun L' sl hG' hA' s1 s3 s5 => by
   have := ih (i + 1) L' (by omega) (by omega) hG' hA'
   simp [s1, s3, s5, hw]
   simpa using this) _ 0 L rfl (Nat.zero_le _) hG hA
  unfold Lc31l2
  simp [hG, hi]
  simpa using this
set_option maxHeartbeats 8000000 in
theorem RPieces_fill {B : List Row} {ev pv : AV} (hok : GOK N ks ps) (he : El B 2 ev (nums .i64 (eC ks)) ks.length) {low : Nat} (hlow : low ≤ B.length) {r : AV × List Row × Nat → Prop}
  (hk : ∀ (L : List Row) (x3 : AV), Acc B L 1 (.op 1) x3 (nums .i64 (pcS ks N N)) N → r (x3, B ++ L, low)) :
  ∀ (d i : Nat) (L : List Row) (x3 : AV), N - i = d → i ≤ N → row? (B ++ L) B.length = some [.int .i64 N, ev, pv] → (x3 = .nilslice ∧ i = 0 ∨ B.length < sid x3) → Acc B L 1 (.op 1) x3 (nums .i64 ((List.range i).map fun (v : Nat) => (v : Int))) i →
  Lc31l23 F (.fn [.t 2]) (.ptr B.length 0) x3 (.int .i64 i) (B ++ L) low r := by
 have n6 := hok.n6
 have n1 := hok.n1
 intro d
 induction d with
 |
  zero =>
  intro i L x3 hd h1 hG hx hA
  have hi : i = N := by omega
  subst hi
  have hne : B.length ≠ sid x3 := by
   rcases hx with ⟨_, h⟩ | h
   ·omega
   ·omega
  have := RPieces_rounds (c := .op 1) (r := r) (x3 := x3) (pv := pv) hok he hlow hne (fun L hA => hk L x3 hA) _ 0 L rfl (Nat.zero_le _) hG hA
  unfold Lc31l23
  simp [hG]
  simpa using this
 |
  succ d ih =>
  intro i L x3 hd h1 hG hx hA
  have hi : i < N := by omega
  have hw : IntKind.i64.wrap ((i : Int) + 1) = ((i + 1 : Nat) : Int) := by rw [wrap64 (by omega) (by omega)]; omega
  obtain ⟨x3', L2, ev2, hA2, hid, hsid, hLl⟩ := Acc_more2 (low := low) (b := 8) (x := [.int .i64 i]) hA rfl (by omega) (by omega) hlow
  rw [show nums .i64 ((List.range i).map fun (v : Nat) => (v : Int)) ++ [.int .i64 i] = nums .i64 ((List.range (i + 1)).map fun (v : Nat) => (v : Int)) from by rw [List.range_succ, List.map_append, ← nums_app]; rfl] at hA2
  have hGl : B.length < B.length + L.length := by have := row?_lt hG; simpa using this
  have hG2 : row? (B ++ L2) B.length = some [.int .i64 N, ev, pv] := by
   unfold row? at hG ⊢
   rw [hid B.length hGl (by
    rcases hx with ⟨h, _⟩ | h
    ·exact .inl h
    ·exact .inr (by omega))]
   exact hG
  have := ih (i + 1) L2 x3' (by omega) (by omega) hG2 (.inr (by omega)) hA2
  unfold Lc31l23
  simp [hG, hi, fillA, splice, ev2, hw]
  simpa using this
set_option maxHeartbeats 4000000 in
theorem RPieces_ret (hg : GRd rows g N ks ps) : LRet1 31 [g] rows (pcS ks N N) := by
 obtain ⟨ev, pv, rfl, he, hp, _⟩ := hg.eq
 have hok := hg.ok
 have o1 := El_one he
 have o2 := El_one hp
 let Q : AV × List Row × Nat → Prop := fun r => ∃ v X, fin rows r.1 r.2.1 r.2.2 = (v, rows ++ X, none) ∧ X.all (Row.under 0) = true ∧ IsL (rows ++ X) v (pcS ks N N) ∧ Cp 1 v
 have main : Ex F (.fn [.t 2]) [.code c31b] ⟨mk 63 [(0, .agg [.int .i64 N, ev, pv])], rows, rows.length⟩ Q := by
  have hloop := RPieces_fill (B := rows) (pv := pv) (low := rows.length) (r := Q) hok he (Nat.le_refl _) (fun L x3 hA => by
   obtain ⟨v', X, e, h1, h2, h3, h4⟩ := Acc_fin1 hA (.inl rfl)
   exact ⟨v', X, e, h1, h2, h4⟩) _ 0 [.cells [.int .i64 N, ev, pv]] .nilslice rfl (Nat.zero_le _) row_end (.inl ⟨rfl, rfl⟩) Acc_nil
  simp [o1, o2]
  simpa using hloop
 obtain ⟨n1, q, e, v', X, h1, h2⟩ := main
 exact ⟨v', X, i31 F31 ⟨n1, q, e, h1⟩, h2⟩
end
end Go.Abs

namespace Go.Abs
def Adj (ks : List Nat) (u v : Nat) : Prop := ∃ k ∈ ks, (k / 6 = u ∧ k % 6 = v) ∨ (k / 6 = v ∧ k % 6 = u)
inductive Cn (ks : List Nat) : Nat → Nat → Prop
 | refl (u : Nat) : Cn ks u u
 | step {u v w : Nat} : Cn ks u v → Adj ks v w → Cn ks u w
theorem Adj.symm {ks : List Nat} {u v : Nat} (h : Adj ks u v) : Adj ks v u := by
 obtain ⟨k, hk, h⟩ := h
 exact ⟨k, hk, h.symm⟩
theorem Cn.trans {ks : List Nat} {u v w : Nat} (h1 : Cn ks u v) (h2 : Cn ks v w) : Cn ks u w := by
 induction h2 with
 | refl => exact h1
 | step _ a ih => exact .step ih a
theorem Cn.symm {ks : List Nat} {u v : Nat} (h : Cn ks u v) : Cn ks v u := by
 induction h with
 | refl => exact .refl _
 | step _ a ih => exact Cn.trans (.step (.refl _) a.symm) ih
def Lst (ks : List Nat) (v : Nat) : Prop := ∀ u, Cn ks v u → v ≤ u
theorem Lst_ex {ks : List Nat} : ∀ v, ∃ u, Cn ks v u ∧ Lst ks u := by
 intro v
 induction v using Nat.strongRecOn with
 |
  ind v ih =>
  by_cases h : Lst ks v
  ·exact ⟨v, .refl _, h⟩
  ·obtain ⟨w, hw⟩ : ∃ w, ¬ (Cn ks v w → v ≤ w) := by
    apply Classical.byContradiction
    intro hn
    exact h fun u hu => Classical.byContradiction fun hc => hn ⟨u, fun hi => hc (hi hu)⟩
   have hc : Cn ks v w := Classical.byContradiction fun hc => hw fun hi => absurd hi hc
   have hlt : w < v := by
    apply Nat.lt_of_not_le
    intro hle
    exact hw fun _ => hle
   obtain ⟨u, hu1, hu2⟩ := ih w hlt
   exact ⟨u, hc.trans hu1, hu2⟩
theorem Cn_lt {N : Nat} {ks ps : List Nat} (hok : GOK N ks ps) {u v : Nat} (h : Cn ks u v) (hu : u < N) : v < N := by
 induction h with
 | refl => exact hu
 |
  step _ a _ =>
  obtain ⟨k, hk, h⟩ := a
  have := hok.ee k hk
  omega
open Classical in
noncomputable def cntL (ks : List Nat) : Nat → Nat
 | 0 => 0
 | i + 1 => cntL ks i + if Lst ks i then 1 else 0
theorem filter_lt {f g : Nat → Bool} : ∀ {l : List Nat}, (∀ x ∈ l, f x = true → g x = true) → (l.filter f).length ≤ (l.filter g).length ∧ ((∃ x ∈ l, g x = true ∧ f x = false) → (l.filter f).length < (l.filter g).length)
 | [], _ => ⟨Nat.le_refl _, fun ⟨x, hx, _⟩ => by simp at hx⟩
 |
  a :: l, h => by
  have ih := filter_lt (l := l) fun x hx => h x (List.mem_cons_of_mem _ hx)
  have ha := h a (List.mem_cons_self ..)
  constructor
  ·cases hf : f a with
   | true => simp [hf, ha hf]; exact ih.1
   |
    false =>
    cases hg : g a with
    | true => simp [hf, hg]; have := ih.1; omega
    | false => simp [hf, hg]; exact ih.1
  ·rintro ⟨x, hx, h1, h2⟩
   rcases List.mem_cons.1 hx with rfl | hx
   ·simp [h1, h2]; have := ih.1; omega
   ·have := ih.2 ⟨x, hx, h1, h2⟩
    cases hf : f a with
    | true => simp [hf, ha hf]; omega
    |
     false =>
     cases hg : g a with
     | true => simp [hf, hg]; omega
     | false => simp [hf, hg]; exact this
section
variable {N : Nat} {ks ps : List Nat}
def PIn (N : Nat) (ks : List Nat) (p : List Int) : Prop := p.length = N ∧ ∀ v, v < N → ∃ u : Nat, gI p v = u ∧ Cn ks v u
theorem gI_set_eq {c : List Int} {i : Nat} {x : Int} (h : i < c.length) : gI (c.set i x) i = x := by
 simp only [gI, List.getD_eq_getElem?_getD]
 rw [List.getElem?_set_self h]
 rfl
theorem gI_set {c : List Int} {i j : Nat} {x : Int} (h : i < c.length) : gI (c.set i x) j = if j = i then x else gI c j := by
 split
 ·rename_i e; subst e; exact gI_set_eq h
 ·rename_i e; exact gI_set_ne (fun h => e h.symm)
theorem pe_get {p : List Int} {i : Nat} (hl : (peS ks p i).length = N) (h1 : gN ks i / 6 < N) (h2 : gN ks i % 6 < N) (v : Nat) :
  gI (peS ks p (i + 1)) v = if v = gN ks i / 6 ∨ v = gN ks i % 6 then min (gI (peS ks p i) (gN ks i / 6)) (gI (peS ks p i) (gN ks i % 6)) else gI (peS ks p i) v := by
 rw [peS]
 rw [gI_set (by simp; omega), gI_set (by omega)]
 by_cases c1 : v = gN ks i % 6
 ·rw [if_pos c1, if_pos (.inr c1)]
 ·by_cases c2 : v = gN ks i / 6
  ·rw [if_neg c1, if_pos c2, if_pos (.inl c2)]
  ·rw [if_neg c1, if_neg c2, if_neg (by omega)]
theorem pe_adj {i : Nat} (hi : i < ks.length) : Adj ks (gN ks i / 6) (gN ks i % 6) := ⟨_, gN_mem hi, .inl ⟨rfl, rfl⟩⟩
theorem pe_in (hok : GOK N ks ps) {p : List Int} (h : PIn N ks p) : ∀ i, i ≤ ks.length → PIn N ks (peS ks p i)
 | 0, _ => h
 |
  i + 1, hi => by
  have ih := pe_in hok h i (by omega)
  have hee := hok.ee _ (gN_mem (show i < ks.length by omega))
  have ha := pe_adj (show i < ks.length by omega)
  refine ⟨by rw [peS_len]; exact h.1, fun v hv => ?_⟩
  rw [pe_get ih.1 (by omega) hee.2]
  obtain ⟨ua, ea, ca⟩ := ih.2 (gN ks i / 6) (by omega)
  obtain ⟨ub, eb, cb⟩ := ih.2 (gN ks i % 6) (by omega)
  split
  ·rename_i hv2
   have hva : Cn ks v (gN ks i / 6) := by
    rcases hv2 with e | e
    ·rw [e]; exact .refl _
    ·rw [e]; exact .step (.refl _) ha.symm
   have hvb : Cn ks v (gN ks i % 6) := .step hva ha
   rw [ea, eb]
   by_cases c : ua ≤ ub
   ·exact ⟨ua, by omega, hva.trans ca⟩
   ·exact ⟨ub, by omega, hvb.trans cb⟩
  ·exact ih.2 v hv
theorem pc_in (hok : GOK N ks ps) : ∀ r, PIn N ks (pcS ks N r)
 | 0 => ⟨pcS_len 0, fun v hv => ⟨v, by simp [pcS, gI, hv], .refl _⟩⟩
 |
  r + 1 => by
  rw [pcS]
  exact pe_in hok (pc_in hok r) _ (Nat.le_refl _)
theorem pe_keep (hok : GOK N ks ps) {p : List Int} (h : PIn N ks p) {u : Nat} (hu : Lst ks u) {v : Nat} (hv : v < N) : ∀ i j, i ≤ j → j ≤ ks.length → gI (peS ks p i) v = u → gI (peS ks p j) v = u := by
 intro i j hij hj
 induction j with
 |
  zero =>
  obtain rfl : i = 0 := by omega
  exact id
 |
  succ j ih =>
  intro hiv
  rcases Nat.eq_or_lt_of_le hij with e | e
  ·rw [← e]; exact hiv
  ·have hp := ih (by omega) (by omega) hiv
   have hin := pe_in hok h j (by omega)
   have hee := hok.ee _ (gN_mem (show j < ks.length by omega))
   have ha := pe_adj (show j < ks.length by omega)
   rw [pe_get hin.1 (by omega) hee.2]
   split
   ·rename_i hv2
    obtain ⟨ua, ea, ca⟩ := hin.2 (gN ks j / 6) (by omega)
    obtain ⟨ub, eb, cb⟩ := hin.2 (gN ks j % 6) (by omega)
    have hva : Cn ks v (gN ks j / 6) := by
     rcases hv2 with e | e
     ·rw [e]; exact .refl _
     ·rw [e]; exact .step (.refl _) ha.symm
    have hvb : Cn ks v (gN ks j % 6) := .step hva ha
    obtain ⟨uv, ev, cv⟩ := hin.2 v hv
    have huv : uv = u := by omega
    rw [huv] at cv
    have h1 := hu ua (cv.symm.trans (hva.trans ca))
    have h2 := hu ub (cv.symm.trans (hvb.trans cb))
    rw [ea, eb]
    rcases hv2 with e | e
    ·rw [e, ea] at hp; omega
    ·rw [e, eb] at hp; omega
   ·exact hp
def TB (p : List Int) (u : Nat) (v : Nat) : Bool := decide (gI p v = (u : Int))
def Clo (ks : List Nat) (p : List Int) (u : Nat) : Prop := ∀ k ∈ ks, gI p (k / 6) = (u : Int) ↔ gI p (k % 6) = (u : Int)
theorem pc_grow (hok : GOK N ks ps) {u : Nat} (hu : Lst ks u) (r : Nat) (hn : ¬ Clo ks (pcS ks N r) u) : ((List.range N).filter (TB (pcS ks N r) u)).length < ((List.range N).filter (TB (pcS ks N (r + 1)) u)).length := by
 have hin := pc_in hok r
 have hkeep := fun v (hv : v < N) => pe_keep hok hin hu hv 0 ks.length (Nat.zero_le _) (Nat.le_refl _)
 refine (filter_lt fun x hx h => ?_).2 ?_
 ·have hx := List.mem_range.1 hx
  simp only [TB, decide_eq_true_eq] at h ⊢
  exact hkeep x hx h
 ·obtain ⟨k, hk⟩ : ∃ k, ¬ (k ∈ ks → (gI (pcS ks N r) (k / 6) = (u : Int) ↔ gI (pcS ks N r) (k % 6) = (u : Int))) := by
   apply Classical.byContradiction
   intro h
   exact hn fun k hk => Classical.byContradiction fun hc => h ⟨k, fun hi => hc (hi hk)⟩
  have hkm : k ∈ ks := Classical.byContradiction fun hc => hk fun h => absurd h hc
  have hkn : ¬ (gI (pcS ks N r) (k / 6) = (u : Int) ↔ gI (pcS ks N r) (k % 6) = (u : Int)) := fun h => hk fun _ => h
  obtain ⟨i, hi, rfl⟩ := List.mem_iff_getElem.1 hkm
  rw [← gN_eq hi] at hkn
  have hee := hok.ee _ (gN_mem hi)
  have hin2 := pe_in hok hin i (by omega)
  -- both ends have it then
  have both : ∀ w, (w = gN ks i / 6 ∨ w = gN ks i % 6) → gI (pcS ks N r) w = (u : Int) → ∀ x, (x = gN ks i / 6 ∨ x = gN ks i % 6) → gI (pcS ks N (r + 1)) x = (u : Int) := by
   intro w hw hwu x hx
   have hwN : w < N := by rcases hw with e | e <;> omega
   have hxN : x < N := by rcases hx with e | e <;> omega
   have h1 := pe_keep hok hin hu hwN 0 i (Nat.zero_le _) (by omega) hwu
   have h2 := pe_keep hok hin hu hwN i (i + 1) (by omega) (by omega) h1
   rw [pe_get hin2.1 (by omega) hee.2, if_pos hw] at h2
   have h3 : gI (peS ks (pcS ks N r) (i + 1)) x = u := by
    rw [pe_get hin2.1 (by omega) hee.2, if_pos hx]; exact h2
   exact pe_keep hok hin hu hxN (i + 1) ks.length (by omega) (Nat.le_refl _) h3
  by_cases c : gI (pcS ks N r) (gN ks i / 6) = (u : Int)
  ·have c2 : ¬ gI (pcS ks N r) (gN ks i % 6) = (u : Int) := fun h => hkn ⟨fun _ => h, fun _ => c⟩
   exact ⟨gN ks i % 6, List.mem_range.2 (by omega), by simp only [TB, decide_eq_true_eq]; exact both _ (.inl rfl) c _ (.inr rfl), by simp only [TB, decide_eq_false_iff_not]; exact c2⟩
  ·have c2 : gI (pcS ks N r) (gN ks i % 6) = (u : Int) := Classical.byContradiction fun h => hkn ⟨fun h1 => absurd h1 c, fun h1 => absurd h1 h⟩
   exact ⟨gN ks i / 6, List.mem_range.2 (by omega), by simp only [TB, decide_eq_true_eq]; exact both _ (.inr rfl) c2 _ (.inl rfl), by simp only [TB, decide_eq_false_iff_not]; exact c⟩
theorem pc_keep (hok : GOK N ks ps) {u : Nat} (hu : Lst ks u) {v : Nat} (hv : v < N) {r : Nat} (h : gI (pcS ks N r) v = (u : Int)) : ∀ d, gI (pcS ks N (r + d)) v = (u : Int)
 | 0 => h
 |
  d + 1 => by
  rw [← Nat.add_assoc, pcS]
  exact pe_keep hok (pc_in hok _) hu hv 0 ks.length (Nat.zero_le _) (Nat.le_refl _) (pc_keep hok hu hv h d)
theorem pc_least (hok : GOK N ks ps) {u v : Nat} (hu : Lst ks u) (huN : u < N) (hc : Cn ks u v) : gI (pcS ks N N) v = (u : Int) := by
 have h0 : gI (pcS ks N 0) u = (u : Int) := by simp [pcS, gI, huN]
 have hgrow : ∀ r, (∃ r', r' < r ∧ Clo ks (pcS ks N r') u) ∨ r + 1 ≤ ((List.range N).filter (TB (pcS ks N r) u)).length := by
  intro r
  induction r with
  |
   zero =>
   right
   have hm : u ∈ (List.range N).filter (TB (pcS ks N 0) u) := List.mem_filter.2 ⟨List.mem_range.2 huN, by simp [TB, h0]⟩
   exact List.length_pos_of_mem hm
  |
   succ r ih =>
   rcases ih with ⟨r', h1, h2⟩ | h
   ·exact .inl ⟨r', by omega, h2⟩
   ·by_cases c : Clo ks (pcS ks N r) u
    ·exact .inl ⟨r, by omega, c⟩
    ·right
     have := pc_grow hok hu r c
     omega
 have hle := List.length_filter_le (TB (pcS ks N N) u) (List.range N)
 rw [List.length_range] at hle
 obtain ⟨r, hr, hclo⟩ : ∃ r', r' < N ∧ Clo ks (pcS ks N r') u := by
  rcases hgrow N with h | h
  ·exact h
  ·omega
 have hall : gI (pcS ks N r) v = (u : Int) := by
  induction hc with
  | refl => simpa using pc_keep hok hu huN h0 r
  |
   step _ a ih =>
   obtain ⟨k, hk, e | e⟩ := a
   ·rw [← e.2]; exact (hclo k hk).1 (by rw [e.1]; exact ih)
   ·rw [← e.1]; exact (hclo k hk).2 (by rw [e.2]; exact ih)
 have := pc_keep hok hu (Cn_lt hok hc huN) hall (N - r)
 rwa [show r + (N - r) = N from by omega] at this
theorem pc_iff (hok : GOK N ks ps) {v : Nat} (hv : v < N) : gI (pcS ks N N) v = (v : Int) ↔ Lst ks v := by
 constructor
 ·intro h
  obtain ⟨u, hu1, hu2⟩ := Lst_ex (ks := ks) v
  have := pc_least hok hu2 (Cn_lt hok hu1 hv) hu1.symm
  have : u = v := by omega
  rw [← this]; exact hu2
 ·intro h
  exact pc_least hok h hv (.refl _)
end
end Go.Abs

namespace Go.Abs
variable {F : Nat → Option IFn} {cx : Ctx} {k : List Itm} {r : AV × List Row × Nat → Prop}
theorem subI_pure {o : IOp} (h : o.pure = true) (g : Opd → AV) : (subI g o).pure = true := by cases o <;> first | rfl | simp [IOp.pure] at h
theorem evalG_p {B : Nat → List Row} {i d b n : Nat} {l : List (Nat × AV)} {op : IOp} {g : List (IOpx × Nat)} (hop : op.pure = true) :
  evalG (Ret F) B i ((⟨some d, op, none⟩, b) :: g) (mk n l) [] = (evP (B i) (subI (getO (mk n l)) op)).bind fun v => evalG (Ret F) B (i + 1) g (mk n ((d, v) :: l)) [] := by
 have h1 : opG F getO (mk n l) (B i ++ maskE b []) ((B i).length + ([] : List (Nat × Row)).length) ⟨some d, op, none⟩ = (evP (B i) (subI (getO (mk n l)) op)).map fun v => (v, B i, (B i).length) := by
  have h2 : opG F getO (mk n l) (B i ++ maskE b []) ((B i).length + ([] : List (Nat × Row)).length) ⟨some d, op, none⟩ = evE (B i ++ maskE b []) ((B i).length + ([] : List (Nat × Row)).length) (subI (getO (mk n l)) op) := by
   cases op <;> first | rfl | simp [IOp.pure] at hop
  rw [h2]
  simp only [maskE_nil, List.append_nil, List.length_nil, Nat.add_zero]
  exact evalE_pure (subI_pure hop _) _ _ _
 rw [evalG, opG_ok, h1]
 cases evP (B i) (subI (getO (mk n l)) op) with
 | none => rfl
 | some v => simp [putO, mk_set]
theorem evalG_p0 {B : Nat → List Row} {i b n : Nat} {l : List (Nat × AV)} {op : IOp} {g : List (IOpx × Nat)} (hop : op.pure = true) :
  evalG (Ret F) B i ((⟨none, op, none⟩, b) :: g) (mk n l) [] = (evP (B i) (subI (getO (mk n l)) op)).bind fun _ => evalG (Ret F) B (i + 1) g (mk n l) [] := by
 have h1 : opG F getO (mk n l) (B i ++ maskE b []) ((B i).length + ([] : List (Nat × Row)).length) ⟨none, op, none⟩ = (evP (B i) (subI (getO (mk n l)) op)).map fun v => (v, B i, (B i).length) := by
  have h2 : opG F getO (mk n l) (B i ++ maskE b []) ((B i).length + ([] : List (Nat × Row)).length) ⟨none, op, none⟩ = evE (B i ++ maskE b []) ((B i).length + ([] : List (Nat × Row)).length) (subI (getO (mk n l)) op) := by
   cases op <;> first | rfl | simp [IOp.pure] at hop
  rw [h2]
  simp only [maskE_nil, List.append_nil, List.length_nil, Nat.add_zero]
  exact evalE_pure (subI_pure hop _) _ _ _
 rw [evalG, opG_ok, h1]
 cases evP (B i) (subI (getO (mk n l)) op) with
 | none => rfl
 | some v => simp [putO]
theorem evalG_nil {B : Nat → List Row} {i : Nat} {sl : List AV} : evalG (Ret F) B i [] sl [] = some (sl, []) := rfl
section
variable {B : Nat → List Row} {i d b n : Nat} {l : List (Nat × AV)} {g : List (IOpx × Nat)}
theorem evalG_mv {x : Opd} : evalG (Ret F) B i ((⟨some d, .mv x, none⟩, b) :: g) (mk n l) [] = (evP (B i) (.mv (subO (getO (mk n l)) x))).bind fun v => evalG (Ret F) B (i + 1) g (mk n ((d, v) :: l)) [] := evalG_p rfl
theorem evalG_nilck {x : Opd} : evalG (Ret F) B i ((⟨some d, .nilck x, none⟩, b) :: g) (mk n l) [] = (evP (B i) (.nilck (subO (getO (mk n l)) x))).bind fun v => evalG (Ret F) B (i + 1) g (mk n ((d, v) :: l)) [] := evalG_p rfl
theorem evalG_fieldA {o : Nat} {x : Opd} : evalG (Ret F) B i ((⟨some d, .fieldA o x, none⟩, b) :: g) (mk n l) [] = (evP (B i) (.fieldA o (subO (getO (mk n l)) x))).bind fun v => evalG (Ret F) B (i + 1) g (mk n ((d, v) :: l)) [] := evalG_p rfl
theorem evalG_idxA {m z : Nat} {x y : Opd} : evalG (Ret F) B i ((⟨some d, .idxA m z x y, none⟩, b) :: g) (mk n l) [] = (evP (B i) (.idxA m z (subO (getO (mk n l)) x) (subO (getO (mk n l)) y))).bind fun v => evalG (Ret F) B (i + 1) g (mk n ((d, v) :: l)) [] := evalG_p rfl
theorem evalG_load1 {x : Opd} : evalG (Ret F) B i ((⟨some d, .load1 x, none⟩, b) :: g) (mk n l) [] = (evP (B i) (.load1 (subO (getO (mk n l)) x))).bind fun v => evalG (Ret F) B (i + 1) g (mk n ((d, v) :: l)) [] := evalG_p rfl
theorem evalG_bin {o : BinOp} {x y : Opd} : evalG (Ret F) B i ((⟨some d, .bin o x y, none⟩, b) :: g) (mk n l) [] = (evP (B i) (.bin o (subO (getO (mk n l)) x) (subO (getO (mk n l)) y))).bind fun v => evalG (Ret F) B (i + 1) g (mk n ((d, v) :: l)) [] := evalG_p rfl
theorem evalG_lenc {m : Nat} : evalG (Ret F) B i ((⟨none, .lenc m, none⟩, b) :: g) (mk n l) [] = evalG (Ret F) B (i + 1) g (mk n l) [] := by rw [evalG_p0 rfl]; rfl
end
end Go.Abs

namespace Go.Abs
variable {cx : Ctx} {k : List Itm} {r : AV × List Row × Nat → Prop}
theorem walk_ops {l0 : List (Nat × AV)} {R : List Row} {low : Nat} : Ex F cx (.ops [.one ⟨some 107, .idxA 6 1 (.t 106) (.t 92), none⟩, .one ⟨none, .store1 (.t 107) (.t 101), none⟩] :: k) ⟨mk 116 l0, R, low⟩ r ↔
  bnd (evP R (.idxA 6 1 (.c (lk l0 106)) (.c (lk l0 92)))) fun v => bnd (evE R low (.store1 (.c v) (.c (lk l0 101)))) fun q => Ex F cx k ⟨mk 116 ((107, v) :: l0), q.2.1, q.2.2⟩ r := by
 rw [Ex_runQ rfl]
 exact Iff.rfl
set_option maxHeartbeats 8000000 in
theorem walk_k10 {R : List Row} {W low A T : Nat} {D : List Int} {f : Int} {sl : List (Nat × AV)} (hW : R[W]? = some (.cells (nums .i64 D))) (hD : D.length = 13) (hA : A < 6) (hT : T < 6) (hlow : low ≤ W)
  (s5 : lk sl 5 = .ptr W 0) (s9 : lk sl 9 = .int .i64 A) (s14 : lk sl 14 = .int .i64 T) (s15 : lk sl 15 = .int .i64 f)
  (h : ∀ sl', (∀ j ∈ [1, 2, 5, 6, 8, 9, 10, 11, 14, 20, 21, 53, 54, 55, 60], lk sl' j = lk sl j) → Ex F cx k ⟨mk 116 sl', R.set W (.cells (nums .i64 ((D.set T A).set (6 + T) (IntKind.i64.wrap (gI D (6 + A) + f))))), low⟩ r) :
  Ex F cx (.code c78k10 :: k) ⟨mk 116 sl, R, low⟩ r := by
 have hWl := (List.getElem?_eq_some_iff.1 hW).1
 have hrow : row? R W = some (nums .i64 D) := by unfold row?; rw [hW]
 have hm : maskR R W T 1 = R.set W (.cells (splice (nums .i64 D) T [.any])) := by unfold maskR; rw [hW]; rfl
 have hld : (nums .i64 D)[6 + A]? = some (.int .i64 (gI D (6 + A))) := by rw [nums_get, gI_get (by omega)]; rfl
 have hrm : row? (R.set W (.cells (splice (nums .i64 D) T [.any]))) W = some (splice (nums .i64 D) T [.any]) := by unfold row?; rw [List.getElem?_set_self hWl]
 have hld2 : (splice (nums .i64 D) T [.any])[6 + A]? = some (.int .i64 (gI D (6 + A))) := by
  rw [splice_one _ _ _ (by simp [nums]; omega), List.getElem?_set_ne (by omega)]; exact hld
 have iA : idx? (A : Int) 6 = some A := by simp [hA]
 have iT : idx? (T : Int) 6 = some T := by simp [hT]
 rw [uc78k10, Ex_kill, kill_dead, Ex_ops, uc78r10, Ex_grpwR]
 simp [evalG_mv, evalG_nilck, evalG_fieldA, evalG_idxA, evalG_load1, evalG_bin, evalG_lenc, evalG_nil, subO, s5, s9, s14, s15, iA, iT, hrow, hld, hm, hrm, hld2, baseW, stored]
 refine ⟨W, T, ⟨rfl, rfl⟩, ?_⟩
 have tb : Nat.testBit 59379 10 = true := by decide
 have hlen : (nums .i64 D).length = 13 := by simp [nums, hD]
 have hset1 : (nums .i64 D).set T (.int .i64 A) = nums .i64 (D.set T A) := by simp [nums, List.map_set]
 have hset2 : (nums .i64 (D.set T A)).set (6 + T) (.int .i64 (IntKind.i64.wrap (gI D (6 + A) + f))) = nums .i64 ((D.set T A).set (6 + T) (IntKind.i64.wrap (gI D (6 + A) + f))) := by simp [nums, List.map_set]
 have hcel : cells? (R.set W (.cells (nums .i64 (D.set T A)))) W = some (nums .i64 (D.set T A)) := by unfold cells?; rw [List.getElem?_set_self hWl]
 have hlen2 : (nums .i64 (D.set T A)).length = 13 := by simp [nums, hD]
 have hlw : lower low W = low := lower_ge' hlow
 have hset3 : (R.set W (.cells (nums .i64 (D.set T A)))).set W (.cells (nums .i64 ((D.set T A).set (6 + T) (IntKind.i64.wrap (gI D (6 + A) + f))))) = R.set W (.cells (nums .i64 ((D.set T A).set (6 + T) (IntKind.i64.wrap (gI D (6 + A) + f))))) := by rw [List.set_set]
 rw [if_pos tb, hrow]
 simp only [Option.bind_some, hld, evP_bin, binA_add]
 refine ⟨_, _, rfl, _, by simp [hW, hlen, show T < 13 by omega, hset1]; rfl, ?_⟩
 rw [hlw]
 simp only [List.map_nil, List.append_nil]
 rw [walk_ops]
 simp [iT, hcel, hlen2, show 6 + T < 13 by omega, hset2, hset3, hlw]
 refine h _ ?_
 intro j hj
 simp only [List.mem_cons, List.not_mem_nil, or_false] at hj
 rcases hj with rfl | rfl | rfl | rfl | rfl | rfl | rfl | rfl | rfl | rfl | rfl | rfl | rfl | rfl | rfl <;> simp [s5, s9, s14]
end Go.Abs

namespace Go.Abs
def mpE (S : List Nat) : List (AV × AV) := S.map fun (v : Nat) => (AV.int .i64 (v : Int), AV.bool true)
theorem findK_mp {t : Nat} : ∀ (S : List Nat) (i : Nat), ∃ j, findK (.int .i64 (t : Int)) (mpE S) i = some (if t ∈ S then some (j, AV.bool true) else none)
 | [], i => ⟨0, by simp [mpE, findK]⟩
 |
  v :: S, i => by
  obtain ⟨j, hj⟩ := findK_mp (t := t) S (i + 1)
  by_cases c : t = v
  ·refine ⟨i, ?_⟩
   subst c
   simp [mpE, findK, keyEq]
  ·refine ⟨j, ?_⟩
   have e : mpE (v :: S) = (AV.int .i64 (v : Int), AV.bool true) :: mpE S := rfl
   have hk : keyEq (.int .i64 (t : Int)) (.int .i64 (v : Int)) = some false := by simp [keyEq]; omega
   rw [e, findK]
   simp only [hk, hj]
   simp [c]
theorem look_mp {R : List Row} {M t : Nat} {S : List Nat} (h : R[M]? = some (.mp (mpE S))) : evP R (.look (.bool false) false (.c (.map M)) (.c (.int .i64 t))) = some (.bool (decide (t ∈ S))) := by
 obtain ⟨j, hj⟩ := findK_mp (t := t) S 0
 show evalP R (getO []) _ = _
 unfold evalP
 simp only [getO, h, hj]
 by_cases c : t ∈ S <;> simp [c]
theorem mset_mp {R : List Row} {M t low : Nat} {S : List Nat} (h : R[M]? = some (.mp (mpE S))) (ht : t ∉ S) : evE R low (.mset (.c (.map M)) (.c (.int .i64 t)) (.c (.bool true))) = some (.tup [], R.set M (.mp (mpE (S ++ [t]))), lower low M) := by
 obtain ⟨j, hj⟩ := findK_mp (t := t) S 0
 rw [if_neg ht] at hj
 show evalE (getO []) R low _ = _
 unfold evalE
 have hk : (keyEq (.int .i64 (t : Int)) (.int .i64 (t : Int))).isSome = true := by simp [keyEq]
 have hm : mpE (S ++ [t]) = mpE S ++ [(AV.int .i64 (t : Int), AV.bool true)] := by simp [mpE]
 simp [getO, h, hj, hk, hm]
def Qu (b : Nat) (R : List Row) (x : AV) (q : List Nat) : Prop := ∃ id off c vs, x = .slice id off q.length c ∧ b ≤ id ∧ (c = .at_ q.length ∨ c = .op 1) ∧ R[id]? = some (.cells vs) ∧ seg vs off q.length = some (nums .i64 (q.map fun (v : Nat) => (v : Int)))
theorem Qu_push {b : Nat} {R : List Row} {x : AV} {q : List Nat} {t low : Nat} (h : Qu b R x q) (hlow : low ≤ b) (hq : q.length ≤ 100) :
  ∃ v' R', evE (R ++ [.cells [.int .i64 t]]) low (.app 1 8 (.c x) (.c (.slice R.length 0 1 (.at_ 1)))) = some (v', R', low) ∧ Qu b R' v' (q ++ [t]) ∧ (∀ i, i < R.length → i ≠ sid x → R'[i]? = R[i]?) ∧ R.length ≤ sid v' ∧ R.length ≤ R'.length := by
 obtain ⟨id, off, c, vs, rfl, hb, hc, hr, hs⟩ := h
 have hid := (List.getElem?_eq_some_iff.1 hr).1
 have hx : El (R ++ [.cells [.int .i64 t]]) 1 (.slice R.length 0 1 (.at_ 1)) [.int .i64 t] 1 := by
  unfold El elems
  simp [row_end, seg]
 have hcel : cells? (R ++ [.cells [.int .i64 t]]) id = some vs := by unfold cells?; rw [List.getElem?_append_left hid, hr]
 have hrw : row? (R ++ [.cells [.int .i64 t]]) id = some vs := by unfold row?; rw [List.getElem?_append_left hid, hr]
 have e : nums .i64 (q.map fun (v : Nat) => (v : Int)) ++ [.int .i64 t] = nums .i64 ((q ++ [t]).map fun (v : Nat) => (v : Int)) := by rw [List.map_append, ← nums_app]; rfl
 have hsg : seg (nums .i64 ((q ++ [t]).map fun (v : Nat) => (v : Int))) 0 (q ++ [t]).length = some (nums .i64 ((q ++ [t]).map fun (v : Nat) => (v : Int))) := by
  rw [nums_seg, if_pos (by simp), List.drop_zero, List.take_of_length_le (by simp)]
 rcases hc with rfl | rfl
 ·refine ⟨_, _, app_at hrw (by simpa using hs) hx (by omega) (by simp [lim]; omega) (by omega), ⟨_, _, _, nums .i64 (q.map fun (v : Nat) => (v : Int)) ++ [.int .i64 t], by rw [show (q ++ [t]).length = q.length + 1 from by simp], ?_, .inr rfl, by rw [List.getElem?_append_right (Nat.le_refl _)]; simp, by rw [e]; exact hsg⟩, ?_, ?_, ?_⟩
  ·simp; omega
  ·intro i hi hne
   rw [List.append_assoc, List.getElem?_append_left hi]
  ·simp
  ·simp
 ·have hap := app_op (low := low) (b := 8) hcel (by simpa using hs) hx (by omega) (by simp [lim]; omega)
  rw [lower_ge' (show low ≤ id by omega)] at hap
  refine ⟨_, _, hap, ⟨_, _, _, nums .i64 (q.map fun (v : Nat) => (v : Int)) ++ [.int .i64 t], by rw [show (q ++ [t]).length = q.length + 1 from by simp], ?_, .inr rfl, ?_, by rw [e]; exact hsg⟩, ?_, ?_, ?_⟩
  ·simp; omega
  ·rw [List.getElem?_append_right (by simp)]; simp
  ·intro i hi hne
   simp only [sid_s] at hne
   rw [List.getElem?_append_left (by simp; omega), List.getElem?_set_ne (by omega), List.getElem?_append_left hi]
  ·simp
  ·simp; omega
theorem Qu_pop {b : Nat} {R : List Row} {x : AV} {a : Nat} {q : List Nat} (h : Qu b R x (a :: q)) : ∃ x', sliceV 1 x (some (.int .i64 1)) none none = some x' ∧ Qu b R x' q ∧ sid x' = sid x := by
 obtain ⟨id, off, c, vs, rfl, hb, hc, hr, hs⟩ := h
 have hsl := seg_len hs
 have hs2 : seg vs (off + 1) q.length = some (nums .i64 (q.map fun (v : Nat) => (v : Int))) := by
  unfold seg at hs ⊢
  split at hs
  ·rename_i hle
   simp only [List.length_cons] at hle
   rw [if_pos (by omega)]
   injection hs with hs
   have h2 := congrArg (List.drop 1) hs
   rw [List.drop_take, List.drop_drop] at h2
   simp only [List.length_cons, Nat.add_sub_cancel] at h2
   rw [h2]
   simp [nums]
  ·simp at hs
 rcases hc with rfl | rfl
 ·by_cases c0 : q = []
  ·subst c0
   refine ⟨.slice id off 0 (.at_ 0), by simp [sliceV, bound?], ⟨id, off, .at_ 0, vs, rfl, hb, .inl rfl, hr, ?_⟩, rfl⟩
   unfold seg at hs ⊢
   split at hs
   ·rw [if_pos (by simp only [List.length_cons, List.length_nil] at *; omega)]; rfl
   ·simp at hs
  ·have hpos := List.length_pos_iff.2 c0
   refine ⟨.slice id (off + 1) q.length (.at_ q.length), ?_, ⟨id, off + 1, .at_ q.length, vs, rfl, hb, .inl rfl, hr, hs2⟩, rfl⟩
   have e1 : ((1 : Int) ≤ (q.length : Int) + 1) := by omega
   simp [sliceV, bound?, e1, c0]
 ·refine ⟨.slice id (off + 1) q.length (.op 1), ?_, ⟨id, off + 1, .op 1, vs, rfl, hb, .inr rfl, hr, hs2⟩, rfl⟩
  have e1 : ((1 : Int) ≤ (q.length : Int) + 1) := by omega
  simp [sliceV, bound?, e1]
theorem Qu_head {b : Nat} {R : List Row} {x : AV} {a : Nat} {q : List Nat} (h : Qu b R x (a :: q)) : evP R (.idxS 1 (.c x) (.c (.int .i64 0))) = some (.ptr (sid x) (soff x)) ∧ evP R (.load1 (.c (.ptr (sid x) (soff x)))) = some (.int .i64 a) ∧ evP R (.len 0 (.c x)) = some (.int .i64 (q.length + 1 : Nat)) := by
 obtain ⟨id, off, c, vs, rfl, hb, hc, hr, hs⟩ := h
 have hl : IsL R (.slice id off (a :: q).length c) ((a :: q).map fun (v : Nat) => (v : Int)) := by
  unfold IsL El elems
  have hrw : row? R id = some vs := by unfold row?; rw [hr]
  simp only [hrw, Nat.mul_one, hs]
  simp
 have h1 := idxL0 (k := .i64) (i := 0) hl (by omega) (by simp)
 have h2 := loadL0 (j := 0) hl (by simp)
 refine ⟨by simpa using h1, by simpa [gI] using h2, rfl⟩
end Go.Abs

namespace Go.Abs
structure WS (rows : List Row) (G : List AV) (D : List Int) (S : List Nat) (R : List Row) : Prop where
 base : ∃ L, R = rows ++ L
 g : row? R rows.length = some G
 d : R[rows.length + 1]? = some (.cells (nums .i64 D))
 m : R[rows.length + 2]? = some (.mp (mpE S))
section
variable {rows R : List Row} {G : List AV} {D : List Int} {S : List Nat}
theorem WS.len (h : WS rows G D S R) : rows.length + 3 ≤ R.length := (List.getElem?_eq_some_iff.1 h.m).1
theorem WS.app (h : WS rows G D S R) (X : List Row) : WS rows G D S (R ++ X) := by
 have hl := h.len
 obtain ⟨⟨L, hL⟩, h2, h3, h4⟩ := h
 refine ⟨⟨L ++ X, by rw [hL, List.append_assoc]⟩, row?_old h2 X, ?_, ?_⟩
 ·rw [List.getElem?_append_left (by omega)]; exact h3
 ·rw [List.getElem?_append_left (by omega)]; exact h4
theorem base_set {rows R : List Row} {i : Nat} {x : Row} (h : ∃ L, R = rows ++ L) (hi : rows.length ≤ i) : ∃ L, R.set i x = rows ++ L := by
 obtain ⟨L, rfl⟩ := h
 exact ⟨L.set (i - rows.length) x, by rw [List.set_append_right _ _ hi]⟩
theorem WS.setD (h : WS rows G D S R) (D' : List Int) : WS rows G D' S (R.set (rows.length + 1) (.cells (nums .i64 D'))) := by
 have hl := h.len
 refine ⟨base_set h.base (by omega), ?_, by rw [List.getElem?_set_self (by omega)], by rw [List.getElem?_set_ne (by omega)]; exact h.m⟩
 have := h.g
 unfold row? at this ⊢
 rw [List.getElem?_set_ne (by omega)]
 exact this
theorem WS.setS (h : WS rows G D S R) (S' : List Nat) : WS rows G D S' (R.set (rows.length + 2) (.mp (mpE S'))) := by
 have hl := h.len
 refine ⟨base_set h.base (by omega), ?_, by rw [List.getElem?_set_ne (by omega)]; exact h.d, by rw [List.getElem?_set_self (by omega)]⟩
 have := h.g
 unfold row? at this ⊢
 rw [List.getElem?_set_ne (by omega)]
 exact this
theorem WS.of (h : WS rows G D S R) {R' : List Row} (hl : R.length ≤ R'.length) {o : Nat} (ho : rows.length + 3 ≤ o) (he : ∀ i, i < R.length → i ≠ o → R'[i]? = R[i]?) : WS rows G D S R' := by
 have hlen := h.len
 refine ⟨?_, ?_, ?_, ?_⟩
 ·have hb := h.base
  have hS : Sm rows.length o rows R' := by
   obtain ⟨L, rfl⟩ := hb
   refine ⟨by simp at hl; omega, fun i h1 h2 => ?_⟩
   rw [he i (by simp; omega) h2, List.getElem?_append_left h1]
  exact Sm_split hS (by omega)
 ·have := h.g
  unfold row? at this ⊢
  rw [he _ (by omega) (by omega)]
  exact this
 ·rw [he _ (by omega) (by omega)]; exact h.d
 ·rw [he _ (by omega) (by omega)]; exact h.m
theorem Qu_set {b i : Nat} {R : List Row} {x : AV} {q : List Nat} {y : Row} (h : Qu b R x q) (hi : i < b) : Qu b (R.set i y) x q := by
 obtain ⟨id, off, c, vs, e, hb, hc, hr, hs⟩ := h
 exact ⟨id, off, c, vs, e, hb, hc, by rw [List.getElem?_set_ne (by omega)]; exact hr, hs⟩
theorem Qu_app {b : Nat} {R : List Row} {x : AV} {q : List Nat} (h : Qu b R x q) (X : List Row) : Qu b (R ++ X) x q := by
 obtain ⟨id, off, c, vs, e, hb, hc, hr, hs⟩ := h
 exact ⟨id, off, c, vs, e, hb, hc, by rw [List.getElem?_append_left (List.getElem?_eq_some_iff.1 hr).1]; exact hr, hs⟩
def stp (at_ fr to : Nat) (f : Int) (s : List Int × List Nat × List Nat) : List Int × List Nat × List Nat :=
 if fr = at_ ∧ to ∉ s.2.1 then ((s.1.set to at_).set (6 + to) (IntKind.i64.wrap (gI s.1 (6 + at_) + f)), s.2.1 ++ [to], s.2.2 ++ [to]) else s
set_option maxHeartbeats 8000000 in
theorem walk_s15 {x1 x8 x10 x20 x21 x53 x54 x55 : AV} {A T E fr kk : Nat} {q : List Nat} {f : Int} {vs : List AV} {r : AV × List Row × Nat → Prop} (h : WS rows G D S R) (hD : D.length = 13) (hA : A < 6) (hT : T < 6) (hq : Qu (rows.length + 3) R x8 q) (hql : q.length ≤ 100) (hE : row? R E = some vs) (hEb : rows.length + 3 ≤ E) (hne : E ≠ sid x8) (hk : kk < 2)
  (hc : ∀ R' x8' D' S' q', stp A fr T f (D, S, q) = (D', S', q') → WS rows G D' S' R' → Qu (rows.length + 3) R' x8' q' → row? R' E = some vs → E ≠ sid x8' →
   Lc78l7 F (.fn [.t 4]) x1 (.ptr rows.length 0) (.ptr (rows.length + 1) 0) (.map (rows.length + 2)) x8' (.int .i64 A) x10 (.ptr E 0) x20 x21 x53 x54 x55 (.int .i64 (kk + 1 : Nat)) R' rows.length r) :
  Jc78s15 F (.fn [.t 4]) x1 (.ptr rows.length 0) (.ptr (rows.length + 1) 0) (.map (rows.length + 2)) x8 (.int .i64 A) x10 (.ptr E 0) (.int .i64 fr) (.int .i64 T) (.int .i64 f) x20 x21 x53 x54 x55 (.int .i64 kk) R rows.length r := by
 have hw : IntKind.i64.wrap ((kk : Int) + 1) = ((kk + 1 : Nat) : Int) := by rw [wrap64 (by omega) (by omega)]; omega
 have hlook := look_mp (t := T) h.m
 have hRl := h.len
 unfold Jc78s15
 by_cases c1 : fr = A
 ·by_cases c2 : T ∈ S
  ·have := hc R x8 D S q (by unfold stp; rw [if_neg (fun h => h.2 c2)]) h hq hE hne
   simp [c1, hlook, c2, hw]
   simpa using this
  ·have hms := mset_mp (low := rows.length) h.m c2
   have hlw : lower rows.length (rows.length + 2) = rows.length := lower_ge' (by omega)
   rw [hlw] at hms
   have h2 := h.setS (S ++ [T])
   simp [c1, hlook, c2, hms, -uc78k10, -uc78k9]
   refine walk_k10 (W := rows.length + 1) (A := A) (T := T) (f := f) h2.d hD hA hT (by omega) (by simp) (by simp) (by simp) (by simp) (fun sl' hsl => ?_)
   have h3 := h2.setD ((D.set T A).set (6 + T) (IntKind.i64.wrap (gI D (6 + A) + f)))
   have hq3 : Qu (rows.length + 3) ((R.set (rows.length + 2) (.mp (mpE (S ++ [T])))).set (rows.length + 1) (.cells (nums .i64 ((D.set T A).set (6 + T) (IntKind.i64.wrap (gI D (6 + A) + f)))))) x8 q := Qu_set (Qu_set hq (by omega)) (by omega)
   have hE3 : row? ((R.set (rows.length + 2) (.mp (mpE (S ++ [T])))).set (rows.length + 1) (.cells (nums .i64 ((D.set T A).set (6 + T) (IntKind.i64.wrap (gI D (6 + A) + f)))))) E = some vs := by
    unfold row? at hE ⊢
    rw [List.getElem?_set_ne (by omega), List.getElem?_set_ne (by omega)]
    exact hE
   generalize hR3 : (R.set (rows.length + 2) (.mp (mpE (S ++ [T])))).set (rows.length + 1) (.cells (nums .i64 ((D.set T A).set (6 + T) (IntKind.i64.wrap (gI D (6 + A) + f))))) = R3 at *
   obtain ⟨x8', R', ev, k1, k2, k3, k4⟩ := Qu_push (t := T) (low := rows.length) hq3 (by omega) hql
   have hEl := row?_lt hE3
   have hws := h3.of k4 (o := sid x8) (by obtain ⟨id, off, c, us, rfl, hb, _⟩ := hq; exact hb) k2
   have hE4 : row? R' E = some vs := by
    unfold row? at hE3 ⊢
    rw [k2 E hEl hne]
    exact hE3
   have := hc R' x8' _ _ _ (by unfold stp; rw [if_pos ⟨c1, c2⟩]) hws k1 hE4 (by omega)
   have t1 := hsl 1 (by simp)
   have t2 := hsl 2 (by simp)
   have t5 := hsl 5 (by simp)
   have t6 := hsl 6 (by simp)
   have t8 := hsl 8 (by simp)
   have t9 := hsl 9 (by simp)
   have t10 := hsl 10 (by simp)
   have t11 := hsl 11 (by simp)
   have t14 := hsl 14 (by simp)
   have t20 := hsl 20 (by simp)
   have t21 := hsl 21 (by simp)
   have t53 := hsl 53 (by simp)
   have t54 := hsl 54 (by simp)
   have t55 := hsl 55 (by simp)
   have t60 := hsl 60 (by simp)
   simp at t1 t2 t5 t6 t8 t9 t10 t11 t14 t20 t21 t53 t54 t55 t60
   simp [t1, t2, t5, t6, t8, t9, t10, t11, t14, t20, t21, t53, t54, t55, t60, fillA, splice, ev, hw]
   simpa using this
 ·have := hc R x8 D S q (by unfold stp; rw [if_neg (fun h => c1 h.1)]) h hq hE hne
  have c1' : ¬ ((fr : Int) = A) := by omega
  simp [c1', hw]
  simpa using this
end
end Go.Abs

namespace Go.Abs
abbrev WSt := List Int × List Nat × List Nat
structure SI (N : Nat) (s : WSt) : Prop where
 d : s.1.length = 13
 nd : s.2.1.Nodup
 b : ∀ v ∈ s.2.1, v < N
 q : s.2.2.length ≤ s.2.1.length
theorem SI.s6 {N : Nat} {s : WSt} (h : SI N s) (hN : N ≤ 6) : s.2.1.length ≤ 6 := by
 have := List.Nodup.length_le_of_subset h.nd (l₂ := List.range N) (fun x hx => List.mem_range.2 (h.b x hx))
 simp at this
 omega
theorem stp_SI {N a fr to : Nat} {f : Int} {s : WSt} (h : SI N s) (ht : to < N) : SI N (stp a fr to f s) := by
 unfold stp
 split
 ·rename_i hc
  refine ⟨by simp [h.d], ?_, ?_, ?_⟩
  ·simp only
   rw [List.nodup_append]
   refine ⟨h.nd, by simp, ?_⟩
   intro x hx y hy e
   simp only [List.mem_singleton] at hy
   subst e hy
   exact hc.2 hx
  ·intro v hv
   rcases List.mem_append.1 hv with hv | hv
   ·exact h.b v hv
   ·simp only [List.mem_singleton] at hv; omega
  ·simp only [List.length_append, List.length_cons, List.length_nil]
   have := h.q
   omega
 ·exact h
def est (a k : Nat) (f : Int) (s : WSt) : WSt := stp a (k % 6) (k / 6) (IntKind.i64.wrap (0 - f)) (stp a (k / 6) (k % 6) f s)
def esS (a : Nat) (ks : List Nat) (fl : List Int) (s : WSt) : Nat → WSt
 | 0 => s
 | i + 1 => est a (gN ks i) (gI fl i) (esS a ks fl s i)
section
variable {rows R : List Row} {G : List AV} {N : Nat} {ks ps : List Nat} {x1 ev : AV} {fl : List Int}
set_option maxHeartbeats 8000000 in
theorem walk_k0 {x8 x9 x20 x21 x53 x54 x55 x2 x5 x6 : AV} {A C E i : Nat} {r : AV × List Row × Nat → Prop} (hE : row? R E = some [.int .i64 A, .int .i64 C]) (hf : IsL R x1 fl) (hi : i < fl.length)
  (h : Jc78s15 F (.fn [.t 4]) x1 x2 x5 x6 x8 x9 (.int .i64 i) (.ptr E 0) (.int .i64 A) (.int .i64 C) (.int .i64 (gI fl i)) x20 x21 x53 x54 x55 (.int .i64 0) R rows.length r) :
  Lc78l7 F (.fn [.t 4]) x1 x2 x5 x6 x8 x9 (.int .i64 i) (.ptr E 0) x20 x21 x53 x54 x55 (.int .i64 0) R rows.length r := by
 have ix := idxW hf hi
 have ld := ldW1 hf hi
 rw [Nat.mul_one] at ix
 have i01 : idx? 0 2 = some 0 := rfl
 have i11 : idx? 1 2 = some 1 := rfl
 have w1 : IntKind.i64.wrap 1 = 1 := rfl
 unfold Lc78l7
 simp [hE, i01, i11, ix, ld, w1, -uc78s15, jc78s15]
 simpa using h
set_option maxHeartbeats 8000000 in
theorem walk_k1 {x8 x9 x20 x21 x53 x54 x55 x2 x5 x6 : AV} {A C E i : Nat} {r : AV × List Row × Nat → Prop} (hE : row? R E = some [.int .i64 A, .int .i64 C]) (hf : IsL R x1 fl) (hi : i < fl.length)
  (h : Jc78s15 F (.fn [.t 4]) x1 x2 x5 x6 x8 x9 (.int .i64 i) (.ptr E 0) (.int .i64 C) (.int .i64 A) (.int .i64 (IntKind.i64.wrap (0 - gI fl i))) x20 x21 x53 x54 x55 (.int .i64 1) R rows.length r) :
  Lc78l7 F (.fn [.t 4]) x1 x2 x5 x6 x8 x9 (.int .i64 i) (.ptr E 0) x20 x21 x53 x54 x55 (.int .i64 1) R rows.length r := by
 have ix := idxW hf hi
 have ld := ldW1 hf hi
 rw [Nat.mul_one] at ix
 have i01 : idx? 0 2 = some 0 := rfl
 have i11 : idx? 1 2 = some 1 := rfl
 have w1 : IntKind.i64.wrap 0 = 0 := rfl
 unfold Lc78l7
 simp [hE, i01, i11, ix, ld, w1, -uc78s15, jc78s15]
 simpa using h
theorem WS.flow {D : List Int} {S : List Nat} (h : WS rows G D S R) {v : AV} {sz n : Nat} {cs : List AV} (hf : El rows sz v cs n) : El R sz v cs n := by
 obtain ⟨L, rfl⟩ := h.base
 exact El_app hf L
set_option maxHeartbeats 8000000 in
theorem walk_both {x8 x20 x21 x53 x54 x55 : AV} {a k E i : Nat} {s : WSt} {r : AV × List Row × Nat → Prop} (hN : N ≤ 6) (ha : a < N) (hk1 : k / 6 < N) (hk2 : k % 6 < N) (h : WS rows G s.1 s.2.1 R) (hs : SI N s) (hq : Qu (rows.length + 3) R x8 s.2.2) (hE : row? R E = some [.int .i64 (k / 6 : Nat), .int .i64 (k % 6 : Nat)]) (hEb : rows.length + 3 ≤ E) (hne : E ≠ sid x8) (hf : IsL rows x1 fl) (hi : i < fl.length)
  (hc : ∀ R' x8', WS rows G (est a k (gI fl i) s).1 (est a k (gI fl i) s).2.1 R' → Qu (rows.length + 3) R' x8' (est a k (gI fl i) s).2.2 →
   Lc78l7 F (.fn [.t 4]) x1 (.ptr rows.length 0) (.ptr (rows.length + 1) 0) (.map (rows.length + 2)) x8' (.int .i64 a) (.int .i64 i) (.ptr E 0) x20 x21 x53 x54 x55 (.int .i64 2) R' rows.length r) :
  Lc78l7 F (.fn [.t 4]) x1 (.ptr rows.length 0) (.ptr (rows.length + 1) 0) (.map (rows.length + 2)) x8 (.int .i64 a) (.int .i64 i) (.ptr E 0) x20 x21 x53 x54 x55 (.int .i64 0) R rows.length r := by
 have h6 := hs.s6 hN
 have hq6 := hs.q
 refine walk_k0 hE (h.flow hf) hi ?_
 refine walk_s15 (kk := 0) h hs.d (by omega) (by omega) hq (by omega) hE hEb hne (by omega) (fun R1 x81 D1 S1 q1 e1 w1 u1 hE1 hne1 => ?_)
 have hs1 := stp_SI (a := a) (fr := k / 6) (f := gI fl i) hs hk2
 have e1' : stp a (k / 6) (k % 6) (gI fl i) s = (D1, S1, q1) := e1
 have h61 := hs1.s6 hN
 have hq61 := hs1.q
 refine walk_k1 hE1 (w1.flow hf) hi ?_
 rw [e1'] at hs1 h61 hq61
 have hq1l : q1.length ≤ S1.length := hq61
 have hs1l : S1.length ≤ 6 := h61
 refine walk_s15 (kk := 1) w1 hs1.d (by omega) (by omega) u1 (by omega) hE1 hEb hne1 (by omega) (fun R2 x82 D2 S2 q2 e2 w2 u2 hE2 hne2 => ?_)
 have e3 : est a k (gI fl i) s = (D2, S2, q2) := by
  unfold est
  rw [e1']
  exact e2
 rw [e3] at hc
 exact hc R2 x82 w2 u2
theorem est_SI {a k : Nat} {f : Int} {s : WSt} (h : SI N s) (hk1 : k / 6 < N) (hk2 : k % 6 < N) : SI N (est a k f s) := stp_SI (stp_SI h hk2) hk1
theorem esS_SI (hok : GOK N ks ps) {a : Nat} {s : WSt} (h : SI N s) : ∀ i, i ≤ ks.length → SI N (esS a ks fl s i)
 | 0, _ => h
 |
  i + 1, hi => by
  have hee := hok.ee _ (gN_mem (show i < ks.length by omega))
  exact est_SI (esS_SI hok h i (by omega)) (by omega) hee.2
set_option maxHeartbeats 8000000 in
theorem walk_edges {x20 x21 : AV} {a : Nat} {s : WSt} {r : AV × List Row × Nat → Prop} (hok : GOK N ks ps) (ha : a < N) (hs : SI N s) (he : El rows 2 ev (nums .i64 (eC ks)) ks.length) (hf : IsL rows x1 fl) (hfl : fl.length = ks.length)
  (hc : ∀ R' x8', WS rows G (esS a ks fl s ks.length).1 (esS a ks fl s ks.length).2.1 R' → Qu (rows.length + 3) R' x8' (esS a ks fl s ks.length).2.2 →
   Lc78l4 F (.fn [.t 4]) x1 (.ptr rows.length 0) (.ptr (rows.length + 1) 0) (.map (rows.length + 2)) x8' x20 x21 R' rows.length r) :
  ∀ (d i : Nat) (R : List Row) (x8 : AV), ks.length - i = d → i ≤ ks.length → WS rows G (esS a ks fl s i).1 (esS a ks fl s i).2.1 R → Qu (rows.length + 3) R x8 (esS a ks fl s i).2.2 →
  Lc78l5 F (.fn [.t 4]) x1 (.ptr rows.length 0) (.ptr (rows.length + 1) 0) (.map (rows.length + 2)) x8 (.int .i64 a) x20 x21 ev (.int .i64 ks.length) (.int .i64 i) R rows.length r := by
 have hek := hok.ek
 have n6 := hok.n6
 intro d
 induction d with
 |
  zero =>
  intro i R x8 hd h1 hw hq
  have hi : i = ks.length := by omega
  subst hi
  have := hc R x8 hw hq
  unfold Lc78l5
  simp
  simpa using this
 |
  succ d ih =>
  intro i R x8 hd h1 hw hq
  have hi : i < ks.length := by omega
  have hww : IntKind.i64.wrap ((i : Int) + 1) = ((i + 1 : Nat) : Int) := by rw [wrap64 (by omega) (by omega)]; omega
  obtain ⟨e1, e2⟩ := eC_a hi
  have hee := hok.ee _ (gN_mem hi)
  have he' := hw.flow he
  have hRl := hw.len
  have hqid : sid x8 < R.length := by
   obtain ⟨id, off, c, vs, rfl, _, _, hr, _⟩ := hq
   exact (List.getElem?_eq_some_iff.1 hr).1
  have hlw : lower rows.length R.length = rows.length := lower_ge' (by omega)
  have hb := walk_both (i := i) (x8 := x8) (x20 := x20) (x21 := x21) (x53 := ev) (x54 := .int .i64 ks.length) (x55 := .int .i64 i) (E := R.length) (k := gN ks i) (r := r) n6 ha (by omega) hee.2 (hw.app [.cells [.int .i64 (gN ks i / 6 : Nat), .int .i64 (gN ks i % 6 : Nat)]]) (esS_SI hok hs i (by omega)) (Qu_app hq _) row_end (by omega) (by omega) hf (by omega) (fun R' x8' w' u' => by
   have := ih (i + 1) R' x8' (by omega) (by omega) w' u'
   unfold Lc78l7
   simp [hww]
   simpa using this)
  have ix := idxW he' hi
  have ld := ldW2 he' hi
  rw [e1, e2] at ld
  unfold Lc78l5
  simp [hi, ix, ld, AV.cells, splice, hlw]
  simpa using hb
end
end Go.Abs

namespace Go.Abs
def qsS (ks : List Nat) (fl : List Int) : Nat → WSt → WSt
 | 0, s => s
 | n + 1, (D, S, []) => (D, S, [])
 | n + 1, (D, S, a :: q) => qsS ks fl n (esS a ks fl (D, S, q) ks.length)
def fiS (ks : List Nat) (fl : List Int) : Nat → WSt
 | 0 => (List.replicate 13 0, [], [])
 |
  i + 1 =>
  let s := fiS ks fl i
  if i ∈ s.2.1 then s else qsS ks fl 20 (((s.1.set 12 (IntKind.i64.wrap (gI s.1 12 + 1))).set i i), s.2.1 ++ [i], [i])
theorem stp_len {a fr to : Nat} {f : Int} {s : WSt} : (stp a fr to f s).2.2.length + s.2.1.length = s.2.2.length + (stp a fr to f s).2.1.length ∧ s.2.1.length ≤ (stp a fr to f s).2.1.length := by
 unfold stp
 split
 ·simp; omega
 ·exact ⟨rfl, Nat.le_refl _⟩
theorem esS_len {a : Nat} {ks : List Nat} {fl : List Int} {s : WSt} : ∀ i, (esS a ks fl s i).2.2.length + s.2.1.length = s.2.2.length + (esS a ks fl s i).2.1.length ∧ s.2.1.length ≤ (esS a ks fl s i).2.1.length
 | 0 => ⟨rfl, Nat.le_refl _⟩
 |
  i + 1 => by
  have ih := esS_len (a := a) (ks := ks) (fl := fl) (s := s) i
  have h1 := stp_len (a := a) (fr := gN ks i / 6) (to := gN ks i % 6) (f := gI fl i) (s := esS a ks fl s i)
  have h2 := stp_len (a := a) (fr := gN ks i % 6) (to := gN ks i / 6) (f := IntKind.i64.wrap (0 - gI fl i)) (s := stp a (gN ks i / 6) (gN ks i % 6) (gI fl i) (esS a ks fl s i))
  rw [esS, est]
  omega
def QIn (N : Nat) (s : WSt) : Prop := ∀ v ∈ s.2.2, v < N
theorem stp_QIn {N a fr to : Nat} {f : Int} {s : WSt} (h : QIn N s) (ht : to < N) : QIn N (stp a fr to f s) := by
 unfold stp
 split
 ·intro v hv
  rcases List.mem_append.1 hv with hv | hv
  ·exact h v hv
  ·simp only [List.mem_singleton] at hv; omega
 ·exact h
theorem esS_QIn {N : Nat} {ks ps : List Nat} (hok : GOK N ks ps) {a : Nat} {fl : List Int} {s : WSt} (h : QIn N s) : ∀ i, i ≤ ks.length → QIn N (esS a ks fl s i)
 | 0, _ => h
 |
  i + 1, hi => by
  have hee := hok.ee _ (gN_mem (show i < ks.length by omega))
  exact stp_QIn (stp_QIn (esS_QIn hok h i (by omega)) hee.2) (by omega)
section
variable {rows R : List Row} {G : List AV} {N : Nat} {ks ps : List Nat} {x1 : AV} {fl : List Int}
set_option maxHeartbeats 8000000 in
theorem walk_queue {x20 x21 n0 ev pv : AV} {r : AV × List Row × Nat → Prop} (hok : GOK N ks ps) (he : El rows 2 ev (nums .i64 (eC ks)) ks.length) (hf : IsL rows x1 fl) (hfl : fl.length = ks.length) :
  ∀ (n : Nat) (s : WSt) (R : List Row) (x8 : AV), 2 * (N - s.2.1.length) + s.2.2.length + 1 ≤ n → SI N s → QIn N s → WS rows [n0, ev, pv] s.1 s.2.1 R → Qu (rows.length + 3) R x8 s.2.2 →
  (∀ R', SI N (qsS ks fl n s) → WS rows [n0, ev, pv] (qsS ks fl n s).1 (qsS ks fl n s).2.1 R' → ∀ sl : List (Nat × AV), lk sl 1 = x1 → lk sl 2 = .ptr rows.length 0 → lk sl 5 = .ptr (rows.length + 1) 0 → lk sl 6 = .map (rows.length + 2) → lk sl 20 = x20 → lk sl 21 = x21 →
   Ex F (.fn [.t 4]) [.code c78k3, .inLoop c78l2, .inBlock 0, .code c78s1] ⟨mk 116 sl, R', rows.length⟩ r) →
  Lc78l4 F (.fn [.t 4]) x1 (.ptr rows.length 0) (.ptr (rows.length + 1) 0) (.map (rows.length + 2)) x8 x20 x21 R rows.length r := by
 intro n
 induction n with
 | zero => intro s R x8 h; omega
 |
  succ n ih =>
  intro s R x8 hn hs hqi hw hq hc
  obtain ⟨D, S, q⟩ := s
  cases q with
  |
   nil =>
   have hlen : evP R (.len 0 (.c x8)) = some (.int .i64 0) := by
    obtain ⟨id, off, c, vs, rfl, _⟩ := hq
    rfl
   have := hc R hs hw
   unfold Lc78l4
   simp [hlen, -uc78k3]
   refine this _ ?_ ?_ ?_ ?_ ?_ ?_ <;> simp
  |
   cons a q =>
   obtain ⟨k1, k2, k3⟩ := Qu_head hq
   obtain ⟨x', p1, p2, p3⟩ := Qu_pop hq
   have ha : a < N := hqi a (List.mem_cons_self ..)
   have hs0 : SI N (D, S, q) := ⟨hs.d, hs.nd, hs.b, by have : (a :: q).length ≤ S.length := hs.q; simp only [List.length_cons] at this; show q.length ≤ S.length; omega⟩
   have hq0 : QIn N (D, S, q) := fun v hv => hqi v (List.mem_cons_of_mem _ hv)
   have hel := esS_len (a := a) (ks := ks) (fl := fl) (s := (D, S, q)) ks.length
   have hes := esS_SI (fl := fl) (a := a) hok hs0 ks.length (Nat.le_refl _)
   have hS6 := List.Nodup.length_le_of_subset hes.nd (l₂ := List.range N) (fun x hx => List.mem_range.2 (hes.b x hx))
   have hed := walk_edges (x20 := x20) (x21 := x21) (a := a) (s := (D, S, q)) (r := r) hok ha hs0 he hf hfl (fun R' x8' w' u' => by
    refine ih (esS a ks fl (D, S, q) ks.length) R' x8' ?_ hes (esS_QIn hok hq0 _ (Nat.le_refl _)) w' u' (fun R'' hs'' w'' => hc R'' hs'' w'')
    simp only [List.length_cons, List.length_range] at hn hel hS6
    omega) _ 0 R x' rfl (Nat.zero_le _) hw p2
   have hg := hw.g
   have ln := evP_lenE (hw.flow he)
   have hpos : ((q.length : Int) + 1 > 0) := by omega
   have i1 : bound? (some (AV.int .i64 1)) 0 (q.length + 1) = some 1 := by simp [bound?]; omega
   unfold Lc78l4
   simp [k1, k2, k3, p1, hg, ln]
   simpa using hed
end
end Go.Abs

namespace Go.Abs
section
variable {rows R : List Row} {G : List AV} {N : Nat} {ks ps : List Nat} {x1 : AV} {fl : List Int}
theorem qsS_SI (hok : GOK N ks ps) : ∀ (n : Nat) (s : WSt), SI N s → QIn N s → SI N (qsS ks fl n s)
 | 0, s, h, _ => h
 | n + 1, (D, S, []), h, _ => h
 |
  n + 1, (D, S, a :: q), h, hq => by
  have hs0 : SI N (D, S, q) := ⟨h.d, h.nd, h.b, by have : (a :: q).length ≤ S.length := h.q; simp only [List.length_cons] at this; show q.length ≤ S.length; omega⟩
  have hq0 : QIn N (D, S, q) := fun v hv => hq v (List.mem_cons_of_mem _ hv)
  exact qsS_SI hok n _ (esS_SI hok hs0 _ (Nat.le_refl _)) (esS_QIn hok hq0 _ (Nat.le_refl _))
def ini1 (s : WSt) (i : Nat) : WSt := ((s.1.set 12 (IntKind.i64.wrap (gI s.1 12 + 1))).set i i, s.2.1 ++ [i], [i])
theorem ini1_SI {s : WSt} {i : Nat} (h : SI N s) (hi : i < N) (hn : i ∉ s.2.1) : SI N (ini1 s i) ∧ QIn N (ini1 s i) := by
 refine ⟨⟨by simp [ini1, h.d], ?_, ?_, by simp [ini1]⟩, ?_⟩
 ·show (s.2.1 ++ [i]).Nodup
  rw [List.nodup_append]
  refine ⟨h.nd, by simp, ?_⟩
  intro x hx y hy e
  simp only [List.mem_singleton] at hy
  subst e hy
  exact hn hx
 ·intro v hv
  rcases List.mem_append.1 hv with hv | hv
  ·exact h.b v hv
  ·simp only [List.mem_singleton] at hv; omega
 ·intro v hv
  have : v = i := by simpa [ini1] using hv
  omega
theorem fiS_SI (hok : GOK N ks ps) : ∀ i, i ≤ N → SI N (fiS ks fl i)
 | 0, _ => ⟨by simp [fiS], by simp [fiS], by simp [fiS], by simp [fiS]⟩
 |
  i + 1, hi => by
  have ih := fiS_SI hok i (by omega)
  rw [fiS]
  split
  ·exact ih
  ·rename_i hn
   obtain ⟨h1, h2⟩ := ini1_SI ih (show i < N by omega) hn
   exact qsS_SI hok 20 _ h1 h2
set_option maxHeartbeats 8000000 in
theorem walk_first {n0 ev pv : AV} {r : AV × List Row × Nat → Prop} (hok : GOK N ks ps) (he : El rows 2 ev (nums .i64 (eC ks)) ks.length) (hf : IsL rows x1 fl) (hfl : fl.length = ks.length)
  (hc : ∀ R', WS rows [n0, ev, pv] (fiS ks fl N).1 (fiS ks fl N).2.1 R' → r (.ptr (rows.length + 1) 0, R', rows.length)) :
  ∀ (d i : Nat) (R : List Row), N - i = d → i ≤ N → WS rows [n0, ev, pv] (fiS ks fl i).1 (fiS ks fl i).2.1 R →
  Lc78l2 F (.fn [.t 4]) x1 (.ptr rows.length 0) (.ptr (rows.length + 1) 0) (.map (rows.length + 2)) (.int .i64 N) (.int .i64 i) R rows.length r := by
 have n6 := hok.n6
 intro d
 induction d with
 |
  zero =>
  intro i R hd h1 hw
  have hi : i = N := by omega
  subst hi
  have := hc R hw
  unfold Lc78l2
  simp
  exact this
 |
  succ d ih =>
  intro i R hd h1 hw
  have hi : i < N := by omega
  have hww : IntKind.i64.wrap ((i : Int) + 1) = ((i + 1 : Nat) : Int) := by rw [wrap64 (by omega) (by omega)]; omega
  have hlook := look_mp (t := i) hw.m
  have hsi := fiS_SI (fl := fl) hok i (by omega)
  by_cases c : i ∈ (fiS ks fl i).2.1
  ·have hst : fiS ks fl (i + 1) = fiS ks fl i := by rw [fiS]; simp only [if_pos c]
   have := ih (i + 1) R (by omega) (by omega) (by rw [hst]; exact hw)
   unfold Lc78l2
   simp [hi, hlook, c, hww]
   simpa using this
  ·have hst : fiS ks fl (i + 1) = qsS ks fl 20 (ini1 (fiS ks fl i) i) := by rw [fiS]; simp only [if_neg c]; rfl
   obtain ⟨hs1, hs2⟩ := ini1_SI hsi hi c
   have hD := hsi.d
   generalize hs : fiS ks fl i = s at *
   obtain ⟨D, S, q⟩ := s
   simp only at hw hlook c hD
   -- the stores
   have hRl := hw.len
   have hrow : row? R (rows.length + 1) = some (nums .i64 D) := by unfold row?; rw [hw.d]
   have hcel : cells? R (rows.length + 1) = some (nums .i64 D) := by unfold cells?; rw [hw.d]
   have hnl : (nums .i64 D).length = 13 := by simp [nums, hD]
   obtain ⟨D1, hD1⟩ : ∃ D1, D1 = D.set 12 (IntKind.i64.wrap (gI D 12 + 1)) := ⟨_, rfl⟩
   have h12 : 12 < D.length := by omega
   have hu12 : D.set 12 (IntKind.i64.wrap (D[12] + 1)) = D1 := by rw [hD1, gI_eq h12]
   have hw1 := hw.setD D1
   have hlw1 : lower rows.length (rows.length + 1) = rows.length := lower_ge' (by omega)
   have hlw2 : lower rows.length (rows.length + 2) = rows.length := lower_ge' (by omega)
   obtain ⟨R1, hR1⟩ : ∃ R1, R1 = R.set (rows.length + 1) (.cells (nums .i64 D1)) := ⟨_, rfl⟩
   rw [← hR1] at hw1
   have hms := mset_mp (low := rows.length) hw1.m c
   rw [hlw2] at hms
   have hw2 := hw1.setS (S ++ [i])
   obtain ⟨R2, hR2⟩ : ∃ R2, R2 = R1.set (rows.length + 2) (.mp (mpE (S ++ [i]))) := ⟨_, rfl⟩
   rw [← hR2] at hw2 hms
   have hcel2 : cells? R2 (rows.length + 1) = some (nums .i64 D1) := by unfold cells?; rw [hw2.d]
   have hnl2 : (nums .i64 D1).length = 13 := by simp [nums, hD1, hD]
   have hset2 : (nums .i64 D1).set i (.int .i64 i) = nums .i64 (D1.set i i) := by simp [nums, List.map_set]
   have hw3 := hw2.setD (D1.set i i)
   obtain ⟨R3, hR3⟩ : ∃ R3, R3 = R2.set (rows.length + 1) (.cells (nums .i64 (D1.set i i))) := ⟨_, rfl⟩
   rw [← hR3] at hw3
   have hw4 := hw3.app [.cells [.int .i64 i]]
   have hQ : Qu (rows.length + 3) (R3 ++ [.cells [.int .i64 i]]) (.slice R3.length 0 1 (.at_ 1)) [i] := ⟨R3.length, 0, .at_ 1, [.int .i64 i], rfl, hw3.len, .inl rfl, by simp, by simp [seg, nums]⟩
   have hini : ini1 (D, S, q) i = (D1.set i i, S ++ [i], [i]) := by unfold ini1; rw [hD1]
   have hlen0 : 2 * (N - (S ++ [i]).length) + 1 + 1 ≤ 20 := by omega
   rw [hini] at hs1 hs2 hst
   have hqu := walk_queue (x20 := .int .i64 N) (x21 := .int .i64 i) (r := r) hok he hf hfl 20 (D1.set i i, S ++ [i], [i]) (R3 ++ [.cells [.int .i64 i]]) (.slice R3.length 0 1 (.at_ 1)) hlen0 hs1 hs2 hw4 hQ (fun R' _ w' sl t1 t2 t5 t6 t20 t21 => by
    have := ih (i + 1) R' (by omega) (by omega) (by rw [hst]; exact w')
    simp [t1, t2, t5, t6, t20, t21, hww]
    simpa using this)
   have hi6 : idx? (i : Int) 6 = some i := by simp; omega
   have hi13 : i < 13 := by omega
   unfold Lc78l2
   simp [hi, hlook, c, hrow, h12, hcel, hnl, hu12, hlw1, ← hR1, hms, hi6, hcel2, hnl2, hi13, hset2, ← hR3, fillA, splice]
   simpa using hqu
end
end Go.Abs

namespace Go.Abs
structure Rl (ks : List Nat) (a : Nat) (s s' : WSt) : Prop where
 S : ∀ v ∈ s.2.1, v ∈ s'.2.1
 q : ∀ v ∈ s.2.2, v ∈ s'.2.2
 n : ∀ v ∈ s'.2.1, v ∈ s.2.1 ∨ (v ∈ s'.2.2 ∧ Adj ks a v)
 p : ∀ v ∈ s'.2.2, v ∈ s.2.2 ∨ v ∈ s'.2.1 ∧ Adj ks a v
 d : gI s'.1 12 = gI s.1 12
theorem Rl.refl {ks : List Nat} {a : Nat} {s : WSt} : Rl ks a s s := ⟨fun _ h => h, fun _ h => h, fun _ h => .inl h, fun _ h => .inl h, rfl⟩
theorem Rl.trans {ks : List Nat} {a : Nat} {s s1 s2 : WSt} (h : Rl ks a s s1) (k : Rl ks a s1 s2) : Rl ks a s s2 :=
 ⟨fun v hv => k.S v (h.S v hv), fun v hv => k.q v (h.q v hv), fun v hv => by
  rcases k.n v hv with e | e
  ·rcases h.n v e with e | ⟨e1, e2⟩
   ·exact .inl e
   ·exact .inr ⟨k.q v e1, e2⟩
  ·exact .inr e, fun v hv => by
  rcases k.p v hv with e | e
  ·rcases h.p v e with e | ⟨e1, e2⟩
   ·exact .inl e
   ·exact .inr ⟨k.S v e1, e2⟩
  ·exact .inr e, k.d.trans h.d⟩
theorem stp_Rl {ks : List Nat} {a fr to : Nat} {f : Int} {s : WSt} (hadj : Adj ks fr to) (ht : to < 6) : Rl ks a s (stp a fr to f s) ∧ (fr = a → to ∈ (stp a fr to f s).2.1) := by
 unfold stp
 split
 ·rename_i hc
  obtain ⟨rfl, hc2⟩ := hc
  refine ⟨⟨fun v h => List.mem_append_left _ h, fun v h => List.mem_append_left _ h, fun v h => ?_, fun v h => ?_, ?_⟩, fun _ => by simp⟩
  ·rcases List.mem_append.1 h with h | h
   ·exact .inl h
   ·right
    simp only [List.mem_singleton] at h
    subst h
    exact ⟨by simp, hadj⟩
  ·rcases List.mem_append.1 h with h | h
   ·exact .inl h
   ·right
    simp only [List.mem_singleton] at h
    subst h
    exact ⟨by simp, hadj⟩
  ·show gI ((s.1.set to _).set (6 + to) _) 12 = gI s.1 12
   rw [gI_set_ne (by omega), gI_set_ne (by omega)]
 ·rename_i hc
  refine ⟨Rl.refl, fun e => ?_⟩
  exact Classical.byContradiction fun h => hc ⟨e, h⟩
section
variable {N : Nat} {ks ps : List Nat} {fl : List Int}
theorem esS_Rl (hok : GOK N ks ps) {a : Nat} {s : WSt} : ∀ i, i ≤ ks.length → Rl ks a s (esS a ks fl s i) ∧ ∀ j, j < i → (gN ks j / 6 = a → gN ks j % 6 ∈ (esS a ks fl s i).2.1) ∧ (gN ks j % 6 = a → gN ks j / 6 ∈ (esS a ks fl s i).2.1)
 | 0, _ => ⟨Rl.refl, fun j hj => by omega⟩
 |
  i + 1, hi => by
  obtain ⟨h1, h2⟩ := esS_Rl hok (a := a) (s := s) i (by omega)
  have hil : i < ks.length := by omega
  have hee := hok.ee _ (gN_mem hil)
  have n6 := hok.n6
  have ha := pe_adj hil
  have k1 := stp_Rl (a := a) (f := gI fl i) (s := esS a ks fl s i) ha (by omega)
  have k2 := stp_Rl (a := a) (f := IntKind.i64.wrap (0 - gI fl i)) (s := stp a (gN ks i / 6) (gN ks i % 6) (gI fl i) (esS a ks fl s i)) ha.symm (by omega)
  have e : esS a ks fl s (i + 1) = stp a (gN ks i % 6) (gN ks i / 6) (IntKind.i64.wrap (0 - gI fl i)) (stp a (gN ks i / 6) (gN ks i % 6) (gI fl i) (esS a ks fl s i)) := rfl
  rw [e]
  refine ⟨(h1.trans k1.1).trans k2.1, fun j hj => ?_⟩
  by_cases c : j = i
  ·subst c
   exact ⟨fun e => k2.1.S _ (k1.2 e), fun e => k2.2 e⟩
  ·obtain ⟨m1, m2⟩ := h2 j (by omega)
   exact ⟨fun e => k2.1.S _ (k1.1.S _ (m1 e)), fun e => k2.1.S _ (k1.1.S _ (m2 e))⟩
def ClQ (ks : List Nat) (s : WSt) : Prop := (∀ v ∈ s.2.2, v ∈ s.2.1) ∧ ∀ v ∈ s.2.1, v ∉ s.2.2 → ∀ w, Adj ks v w → w ∈ s.2.1
theorem qsS_ok (hok : GOK N ks ps) : ∀ (n : Nat) (s : WSt), SI N s → QIn N s → ClQ ks s → 2 * (N - s.2.1.length) + s.2.2.length + 1 ≤ n →
  (∀ v ∈ s.2.1, v ∈ (qsS ks fl n s).2.1) ∧ (∀ v ∈ (qsS ks fl n s).2.1, ∀ w, Adj ks v w → w ∈ (qsS ks fl n s).2.1) ∧ gI (qsS ks fl n s).1 12 = gI s.1 12 ∧ ∀ v ∈ (qsS ks fl n s).2.1, v ∈ s.2.1 ∨ ∃ u ∈ s.2.2, Cn ks u v
 | 0, s, _, _, _, h => by omega
 |
  n + 1, (D, S, []), hs, hq, hc, h => by
  refine ⟨fun v hv => hv, fun v hv w hw => hc.2 v hv (by simp) w hw, rfl, fun v hv => .inl hv⟩
 |
  n + 1, (D, S, a :: q), hs, hq, hc, h => by
  have hs0 : SI N (D, S, q) := ⟨hs.d, hs.nd, hs.b, by have : (a :: q).length ≤ S.length := hs.q; simp only [List.length_cons] at this; show q.length ≤ S.length; omega⟩
  have hq0 : QIn N (D, S, q) := fun v hv => hq v (List.mem_cons_of_mem _ hv)
  have hel := esS_len (a := a) (ks := ks) (fl := fl) (s := (D, S, q)) ks.length
  have hes := esS_SI (fl := fl) (a := a) hok hs0 ks.length (Nat.le_refl _)
  have hS6 := List.Nodup.length_le_of_subset hes.nd (l₂ := List.range N) (fun x hx => List.mem_range.2 (hes.b x hx))
  obtain ⟨r1, r2⟩ := esS_Rl (fl := fl) hok (a := a) (s := (D, S, q)) ks.length (Nat.le_refl _)
  have e : qsS ks fl (n + 1) (D, S, a :: q) = qsS ks fl n (esS a ks fl (D, S, q) ks.length) := rfl
  rw [e]
  obtain ⟨c1, c2⟩ := hc
  have hcl : ClQ ks (esS a ks fl (D, S, q) ks.length) := by
   refine ⟨fun v hv => ?_, fun v hv hnq w hw => ?_⟩
   ·rcases r1.p v hv with e | ⟨e, _⟩
    ·exact r1.S v (c1 v (List.mem_cons_of_mem _ e))
    ·exact e
   ·rcases r1.n v hv with e | ⟨e, _⟩
    ·by_cases ca : v = a
     ·subst ca
      obtain ⟨k, hk, e1 | e1⟩ := hw
      ·obtain ⟨j, hj, rfl⟩ := List.mem_iff_getElem.1 hk
       rw [← gN_eq hj] at e1
       have := (r2 j hj).1 e1.1
       rwa [e1.2] at this
      ·obtain ⟨j, hj, rfl⟩ := List.mem_iff_getElem.1 hk
       rw [← gN_eq hj] at e1
       have := (r2 j hj).2 e1.2
       rwa [e1.1] at this
     ·refine r1.S w (c2 v e ?_ w hw)
      intro hm
      rcases List.mem_cons.1 hm with hm | hm
      ·exact ca hm
      ·exact hnq (r1.q v hm)
    ·exact absurd e hnq
  have ih := qsS_ok hok n (esS a ks fl (D, S, q) ks.length) hes (esS_QIn hok hq0 _ (Nat.le_refl _)) hcl (by
   simp only [List.length_cons, List.length_range] at h hel hS6
   omega)
  obtain ⟨i1, i2, i3, i4⟩ := ih
  refine ⟨fun v hv => i1 v (r1.S v hv), i2, i3.trans r1.d, fun v hv => ?_⟩
  rcases i4 v hv with h4 | ⟨u, hu, hcn⟩
  ·rcases r1.n v h4 with e | ⟨_, e⟩
   ·exact .inl e
   ·exact .inr ⟨a, List.mem_cons_self .., .step (.refl _) e⟩
  ·rcases r1.p u hu with e | ⟨_, e⟩
   ·exact .inr ⟨u, List.mem_cons_of_mem _ e, hcn⟩
   ·exact .inr ⟨a, List.mem_cons_self .., Cn.trans (.step (.refl _) e) hcn⟩
theorem cntL_le (i : Nat) : cntL ks i ≤ i := by
 induction i with
 | zero => exact Nat.le_refl _
 |
  succ i ih =>
  rw [cntL]
  split <;> omega
theorem closed_cn {S : List Nat} (h : ∀ v ∈ S, ∀ w, Adj ks v w → w ∈ S) {u v : Nat} (hc : Cn ks u v) (hu : u ∈ S) : v ∈ S := by
 induction hc with
 | refl => exact hu
 | step _ a ih => exact h _ ih _ a
theorem fiS_ok (hok : GOK N ks ps) : ∀ i, i ≤ N → (∀ v ∈ (fiS ks fl i).2.1, ∀ w, Adj ks v w → w ∈ (fiS ks fl i).2.1) ∧ (∀ u, u < i → u ∈ (fiS ks fl i).2.1) ∧ (∀ v ∈ (fiS ks fl i).2.1, ∃ u, u < i ∧ Cn ks u v) ∧ gI (fiS ks fl i).1 12 = (cntL ks i : Int)
 | 0, _ => ⟨by simp [fiS], fun u h => by omega, by simp [fiS], rfl⟩
 |
  i + 1, hi => by
  obtain ⟨h1, h2, h3, h4⟩ := fiS_ok hok i (by omega)
  have hsi := fiS_SI (fl := fl) hok i (by omega)
  have n6 := hok.n6
  have hcl := cntL_le (ks := ks) i
  by_cases c : i ∈ (fiS ks fl i).2.1
  ·have hst : fiS ks fl (i + 1) = fiS ks fl i := by rw [fiS]; simp only [if_pos c]
   rw [hst]
   obtain ⟨u, hu, hcn⟩ := h3 i c
   have hnl : ¬ Lst ks i := fun h => by have := h u hcn.symm; omega
   refine ⟨h1, fun v hv => ?_, fun v hv => ?_, ?_⟩
   ·by_cases e : v = i
    ·subst e; exact c
    ·exact h2 v (by omega)
   ·obtain ⟨u, hu, hcn⟩ := h3 v hv
    exact ⟨u, by omega, hcn⟩
   ·rw [h4, cntL, if_neg hnl]; rfl
  ·have hst : fiS ks fl (i + 1) = qsS ks fl 20 (ini1 (fiS ks fl i) i) := by rw [fiS]; simp only [if_neg c]; rfl
   obtain ⟨hs1, hs2⟩ := ini1_SI hsi (show i < N by omega) c
   have hl : Lst ks i := fun u hu => by
    apply Classical.byContradiction
    intro hlt
    exact c (closed_cn h1 hu.symm (h2 u (by omega)))
   have hC : ClQ ks (ini1 (fiS ks fl i) i) := by
    refine ⟨fun v hv => ?_, fun v hv hnq w hw => ?_⟩
    ·have : v = i := by simpa [ini1] using hv
     subst this
     simp [ini1]
    ·have hvi : v ≠ i := fun e => hnq (by subst e; simp [ini1])
     have hvS : v ∈ (fiS ks fl i).2.1 := by
      have : v ∈ (fiS ks fl i).2.1 ++ [i] := hv
      rcases List.mem_append.1 this with h | h
      ·exact h
      ·simp only [List.mem_singleton] at h; exact absurd h hvi
     exact List.mem_append_left _ (h1 v hvS w hw)
   obtain ⟨q1, q2, q3, q4⟩ := qsS_ok (fl := fl) hok 20 _ hs1 hs2 hC (by show 2 * (N - ((fiS ks fl i).2.1 ++ [i]).length) + 1 + 1 ≤ 20; omega)
   rw [hst]
   refine ⟨q2, fun v hv => ?_, fun v hv => ?_, ?_⟩
   ·by_cases e : v = i
    ·subst e; exact q1 v (by simp [ini1])
    ·exact q1 v (List.mem_append_left _ (h2 v (by omega)))
   ·rcases q4 v hv with h | ⟨u, hu, hcn⟩
    ·have : v ∈ (fiS ks fl i).2.1 ++ [i] := h
     rcases List.mem_append.1 this with h | h
     ·obtain ⟨u, hu, hcn⟩ := h3 v h
      exact ⟨u, by omega, hcn⟩
     ·simp only [List.mem_singleton] at h
      subst h
      exact ⟨v, by omega, .refl _⟩
    ·have : u = i := by simpa [ini1] using hu
     subst this
     exact ⟨u, by omega, hcn⟩
   ·rw [q3]
    show gI (((fiS ks fl i).1.set 12 (IntKind.i64.wrap (gI (fiS ks fl i).1 12 + 1))).set i i) 12 = _
    rw [gI_set_ne (by omega), gI_set_eq (by rw [hsi.d]; omega), h4, cntL, if_pos hl, wrap64 (by omega) (by omega)]
    omega
end
end Go.Abs

namespace Go.Abs
section
variable {rows R : List Row} {N : Nat} {ks ps : List Nat} {g x1 : AV} {fl : List Int}
theorem fin_ptr1 {L : List Row} {o : Nat} {vs : List AV} (h : L[1]? = some (.cells vs)) (hv : vs.all (·.ids.isEmpty) = true) : fin rows (.ptr (rows.length + 1) o) (rows ++ L) rows.length = (.ptr rows.length o, rows ++ [.cells vs], none) := by
 have e : ¬ rows.length + 1 < rows.length := by omega
 unfold fin
 rw [if_pos rfl]
 have hid : (AV.ptr (rows.length + 1) o).ids = [rows.length + 1] := rfl
 rw [hid]
 simp only [List.all_cons, List.all_nil, Bool.and_true, decide_eq_true_eq]
 rw [if_neg e, rows_at, h]
 simp [hv, AV.plain1, AV.plain, AV.ren1, AV.ren]
set_option maxHeartbeats 4000000 in
theorem walked_ret (hg : GRd rows g N ks ps) (hf : IsL rows x1 fl) (hfl : fl.length = ks.length) : Ret F 78 [g, x1] rows = some (.ptr rows.length 0, rows ++ [.cells (nums .i64 (fiS ks fl N).1)], none) := by
 obtain ⟨ev, pv, rfl, he, hp, _⟩ := id hg.eq
 have hok := hg.ok
 have o1 := El_one he
 have o2 := El_one hp
 have hw0 : WS rows [.int .i64 N, ev, pv] (List.replicate 13 0) [] (rows ++ [.cells [.int .i64 N, ev, pv], .cells (nums .i64 (List.replicate 13 0)), .mp []]) := ⟨⟨_, rfl⟩, by simp [row?], by simp, by simp [mpE]⟩
 have hloop := walk_first (x1 := x1) (fl := fl) (n0 := .int .i64 N) (pv := pv) (r := fun r => fin rows r.1 r.2.1 r.2.2 = (.ptr rows.length 0, rows ++ [.cells (nums .i64 (fiS ks fl N).1)], none)) hok he hf hfl (fun R' hw => by
  obtain ⟨L, rfl⟩ := hw.base
  have hd := hw.d
  rw [List.getElem?_append_right (by omega), Nat.add_sub_cancel_left] at hd
  exact fin_ptr1 hd nums_ids) _ 0 _ rfl (Nat.zero_le _) hw0
 have hz : AV.cells (.agg (List.replicate 13 (AV.int .i64 0))) = nums .i64 (List.replicate 13 0) := rfl
 refine i78 F78 ?_
 simp [o1, o2, fillA, nums] at hloop ⊢
 simpa using hloop
theorem rep_ok {m : Nat} : ∀ x ∈ List.replicate m (0 : Int), -100 ≤ x ∧ x ≤ 100 := by
 intro x hx
 have := List.eq_of_mem_replicate hx
 omega
end
end Go.Abs

namespace Go.Abs
def bfv (s : WSt) (v : Nat) : Int := gI s.1 v
def htv (s : WSt) (v : Nat) : Int := gI s.1 (6 + v)
def Tre (ks : List Nat) (fl : List Int) (hu hv : Int) (u v : Nat) : Prop := ∃ j, j < ks.length ∧ ((gN ks j / 6 = u ∧ gN ks j % 6 = v ∧ hv = hu + gI fl j) ∨ (gN ks j / 6 = v ∧ gN ks j % 6 = u ∧ hv = hu - gI fl j))
structure HI (N : Nat) (ks : List Nat) (fl : List Int) (s : WSt) : Prop where
 z : ∀ v, v < 6 → v ∉ s.2.1 → htv s v = 0
 bd : ∀ v ∈ s.2.1, -100 * (s.2.1.length : Int) ≤ htv s v ∧ htv s v ≤ 100 * (s.2.1.length : Int)
 tr : ∀ v ∈ s.2.1, (bfv s v = v ∧ htv s v = 0 ∧ Lst ks v) ∨ ∃ u, u ∈ s.2.1 ∧ s.2.1.idxOf u < s.2.1.idxOf v ∧ bfv s v = u ∧ Tre ks fl (htv s u) (htv s v) u v
section
variable {N : Nat} {ks ps : List Nat} {fl : List Int}
theorem idxOf_old {S : List Nat} {v t : Nat} (h : v ∈ S) : (S ++ [t]).idxOf v = S.idxOf v := by
 rw [List.idxOf_append, if_pos h]
theorem idxOf_new {S : List Nat} {t : Nat} (h : t ∉ S) : (S ++ [t]).idxOf t = S.length := by
 rw [List.idxOf_append, if_neg h]
 simp
theorem stp_HI {s : WSt} (hN : N ≤ 6) (hs : SI N s) (hh : HI N ks fl s) {a fr to j : Nat} {f : Int} (ha : a ∈ s.2.1) (ht : to < N) (hj : j < ks.length) (hf : -100 ≤ gI fl j ∧ gI fl j ≤ 100)
  (he : (gN ks j / 6 = fr ∧ gN ks j % 6 = to ∧ f = gI fl j) ∨ (gN ks j / 6 = to ∧ gN ks j % 6 = fr ∧ f = - gI fl j)) : HI N ks fl (stp a fr to f s) := by
 unfold stp
 split
 ·rename_i hc
  obtain ⟨rfl, hc2⟩ := hc
  have h6 := hs.s6 hN
  have haN := hs.b _ ha
  have hd := hs.d
  have hba := hh.bd _ ha
  have hbf : -100 ≤ f ∧ f ≤ 100 := by rcases he with h | h <;> omega
  have hw : IntKind.i64.wrap (gI s.1 (6 + fr) + f) = htv s fr + f := by
   unfold htv at hba ⊢
   exact wrap64 (by omega) (by omega)
  rw [hw]
  have hne : ∀ v ∈ s.2.1, v ≠ to := fun v hv e => hc2 (e ▸ hv)
  obtain ⟨s', hs', hS⟩ : ∃ s' : WSt, s' = ((s.1.set to (fr : Int)).set (6 + to) (htv s fr + f), s.2.1 ++ [to], s.2.2 ++ [to]) ∧ s'.2.1 = s.2.1 ++ [to] := ⟨_, rfl, rfl⟩
  rw [← hs']
  have hb : ∀ v, v < N → v ≠ to → bfv s' v = bfv s v := fun v hv hvt => by
   rw [hs']
   show gI ((s.1.set to _).set (6 + to) _) v = gI s.1 v
   rw [gI_set_ne (by omega), gI_set_ne (by omega)]
  have hht : ∀ v, v ≠ to → htv s' v = htv s v := fun v hvt => by
   rw [hs']
   show gI ((s.1.set to _).set (6 + to) _) (6 + v) = gI s.1 (6 + v)
   rw [gI_set_ne (by omega), gI_set_ne (by omega)]
  have hbt : bfv s' to = fr := by
   rw [hs']
   show gI ((s.1.set to _).set (6 + to) _) to = _
   rw [gI_set_ne (by omega), gI_set_eq (by omega)]
  have htt : htv s' to = htv s fr + f := by
   rw [hs']
   show gI ((s.1.set to _).set (6 + to) _) (6 + to) = _
   rw [gI_set_eq (by simp; omega)]
  have hft : fr ≠ to := hne fr ha
  refine ⟨fun v hv hn => ?_, fun v hv => ?_, fun v hv => ?_⟩
  ·rw [hS] at hn
   have h1 : v ≠ to := fun e => hn (by simp [e])
   rw [hht v h1]
   exact hh.z v hv fun h => hn (List.mem_append_left _ h)
  ·rw [hS] at hv ⊢
   rw [List.length_append, List.length_singleton]
   rcases List.mem_append.1 hv with h | h
   ·rw [hht v (hne v h)]
    have := hh.bd v h
    omega
   ·simp only [List.mem_singleton] at h
    subst h
    rw [htt]
    omega
  ·rw [hS] at hv ⊢
   rcases List.mem_append.1 hv with h | h
   ·have h1 := hne v h
    rw [hb v (hs.b v h) h1, hht v h1]
    rcases hh.tr v h with e | ⟨u, e1, e2, e3, e4⟩
    ·exact .inl e
    ·right
     refine ⟨u, List.mem_append_left _ e1, ?_, e3, ?_⟩
     ·rw [idxOf_old e1, idxOf_old h]; exact e2
     ·rw [hht u (hne u e1)]; exact e4
   ·simp only [List.mem_singleton] at h
    subst h
    right
    refine ⟨fr, List.mem_append_left _ ha, ?_, hbt, ?_⟩
    ·rw [idxOf_old ha, idxOf_new hc2]; exact List.idxOf_lt_length_of_mem ha
    ·rw [htt, hht fr hft]
     refine ⟨j, hj, ?_⟩
     rcases he with ⟨h1, h2, h3⟩ | ⟨h1, h2, h3⟩
     ·exact .inl ⟨h1, h2, by omega⟩
     ·exact .inr ⟨h1, h2, by omega⟩
 ·exact hh
def QS (s : WSt) : Prop := ∀ v ∈ s.2.2, v ∈ s.2.1
theorem stp_QS {a fr to : Nat} {f : Int} {s : WSt} (h : QS s) : QS (stp a fr to f s) := by
 unfold stp
 split
 ·intro v hv
  rcases List.mem_append.1 hv with hv | hv
  ·exact List.mem_append_left _ (h v hv)
  ·exact List.mem_append_right _ hv
 ·exact h
theorem stp_S {a fr to : Nat} {f : Int} {s : WSt} {v : Nat} (h : v ∈ s.2.1) : v ∈ (stp a fr to f s).2.1 := by
 unfold stp
 split
 ·exact List.mem_append_left _ h
 ·exact h
theorem esS_QS {a : Nat} {s : WSt} (h : QS s) : ∀ i, QS (esS a ks fl s i)
 | 0 => h
 | i + 1 => stp_QS (stp_QS (esS_QS h i))
theorem esS_S {a : Nat} {s : WSt} {v : Nat} (h : v ∈ s.2.1) : ∀ i, v ∈ (esS a ks fl s i).2.1
 | 0 => h
 | i + 1 => stp_S (stp_S (esS_S h i))
theorem esS_HI (hok : GOK N ks ps) (hfl : fl.length = ks.length) (hb : ∀ x ∈ fl, -100 ≤ x ∧ x ≤ 100) {a : Nat} {s : WSt} (hs : SI N s) (hh : HI N ks fl s) (ha : a ∈ s.2.1) : ∀ i, i ≤ ks.length → HI N ks fl (esS a ks fl s i)
 | 0, _ => hh
 |
  i + 1, hi => by
  have ih := esS_HI hok hfl hb hs hh ha i (by omega)
  have his := esS_SI (fl := fl) (a := a) hok hs i (by omega)
  have hee := hok.ee _ (gN_mem (show i < ks.length by omega))
  have hbi := bd_get hb (i := i) (by omega)
  have hai := esS_S (ks := ks) (fl := fl) (a := a) ha i
  have hw : IntKind.i64.wrap (0 - gI fl i) = - gI fl i := by rw [wrap64 (by omega) (by omega)]; omega
  have h1 := stp_HI hok.n6 his ih (a := a) (fr := gN ks i / 6) (to := gN ks i % 6) (j := i) (f := gI fl i) hai hee.2 (by omega) hbi (.inl ⟨rfl, rfl, rfl⟩)
  have s1 := stp_SI (a := a) (fr := gN ks i / 6) (f := gI fl i) his hee.2
  exact stp_HI hok.n6 s1 h1 (a := a) (fr := gN ks i % 6) (to := gN ks i / 6) (j := i) (stp_S hai) (by omega) (by omega) hbi (.inr ⟨rfl, rfl, hw⟩)
theorem qsS_HI (hok : GOK N ks ps) (hfl : fl.length = ks.length) (hb : ∀ x ∈ fl, -100 ≤ x ∧ x ≤ 100) : ∀ (n : Nat) (s : WSt), SI N s → QIn N s → QS s → HI N ks fl s → HI N ks fl (qsS ks fl n s)
 | 0, s, _, _, _, h => h
 | n + 1, (D, S, []), _, _, _, h => h
 |
  n + 1, (D, S, a :: q), hs, hq, hqs, h => by
  have hs0 : SI N (D, S, q) := ⟨hs.d, hs.nd, hs.b, by have : (a :: q).length ≤ S.length := hs.q; simp only [List.length_cons] at this; show q.length ≤ S.length; omega⟩
  have hq0 : QIn N (D, S, q) := fun v hv => hq v (List.mem_cons_of_mem _ hv)
  have hqs0 : QS (D, S, q) := fun v hv => hqs v (List.mem_cons_of_mem _ hv)
  have h0 : HI N ks fl (D, S, q) := ⟨h.z, h.bd, h.tr⟩
  exact qsS_HI hok hfl hb n _ (esS_SI hok hs0 _ (Nat.le_refl _)) (esS_QIn hok hq0 _ (Nat.le_refl _)) (esS_QS hqs0 _) (esS_HI hok hfl hb hs0 h0 (hqs a (List.mem_cons_self ..)) _ (Nat.le_refl _))
theorem ini1_HI {s : WSt} {i : Nat} (hs : SI N s) (hh : HI N ks fl s) (hi : i < N) (hN : N ≤ 6) (hn : i ∉ s.2.1) (hl : Lst ks i) : HI N ks fl (ini1 s i) := by
 have hd := hs.d
 have hS : (ini1 s i).2.1 = s.2.1 ++ [i] := rfl
 have hne : ∀ v ∈ s.2.1, v ≠ i := fun v hv e => hn (e ▸ hv)
 have hb : ∀ v, v < 6 → v ≠ i → bfv (ini1 s i) v = bfv s v := fun v hv hvi => by
  show gI ((s.1.set 12 _).set i _) v = gI s.1 v
  rw [gI_set_ne (by omega), gI_set_ne (by omega)]
 have hbi : bfv (ini1 s i) i = i := by
  show gI ((s.1.set 12 _).set i _) i = _
  rw [gI_set_eq (by simp; omega)]
 have hht : ∀ v, v < 6 → htv (ini1 s i) v = htv s v := fun v hv => by
  show gI ((s.1.set 12 _).set i _) (6 + v) = gI s.1 (6 + v)
  rw [gI_set_ne (by omega), gI_set_ne (by omega)]
 have hz := hh.z i (by omega) hn
 refine ⟨fun v hv hvn => ?_, fun v hv => ?_, fun v hv => ?_⟩
 ·rw [hS] at hvn
  rw [hht v hv]
  exact hh.z v hv fun h => hvn (List.mem_append_left _ h)
 ·rw [hS] at hv ⊢
  rw [List.length_append, List.length_singleton]
  rcases List.mem_append.1 hv with h | h
  ·have := hs.b v h
   rw [hht v (by omega)]
   have := hh.bd v h
   omega
  ·simp only [List.mem_singleton] at h
   subst h
   rw [hht v (by omega), hz]
   omega
 ·rw [hS] at hv ⊢
  rcases List.mem_append.1 hv with h | h
  ·have h1 := hne v h
   have h2 := hs.b v h
   rw [hb v (by omega) h1, hht v (by omega)]
   rcases hh.tr v h with e | ⟨u, e1, e2, e3, e4⟩
   ·exact .inl e
   ·right
    have := hs.b u e1
    refine ⟨u, List.mem_append_left _ e1, ?_, e3, ?_⟩
    ·rw [idxOf_old e1, idxOf_old h]; exact e2
    ·rw [hht u (by omega)]; exact e4
  ·simp only [List.mem_singleton] at h
   subst h
   left
   exact ⟨hbi, by rw [hht v (by omega)]; exact hz, hl⟩
theorem fiS_HI (hok : GOK N ks ps) (hfl : fl.length = ks.length) (hb : ∀ x ∈ fl, -100 ≤ x ∧ x ≤ 100) : ∀ i, i ≤ N → HI N ks fl (fiS ks fl i)
 |
  0, _ => by
  refine ⟨fun v hv _ => ?_, fun v hv => by simp [fiS] at hv, fun v hv => by simp [fiS] at hv⟩
  show gI (List.replicate 13 0) (6 + v) = 0
  simp only [gI, List.getD_eq_getElem?_getD, List.getElem?_replicate]
  rw [if_pos (by omega)]
  rfl
 |
  i + 1, hi => by
  have ih := fiS_HI hok hfl hb i (by omega)
  have hsi := fiS_SI (fl := fl) hok i (by omega)
  obtain ⟨h1, h2, _, _⟩ := fiS_ok (fl := fl) hok i (by omega)
  rw [fiS]
  split
  ·exact ih
  ·rename_i hn
   have hl : Lst ks i := fun u hu => by
    apply Classical.byContradiction
    intro hlt
    exact hn (closed_cn h1 hu.symm (h2 u (by omega)))
   obtain ⟨k1, k2⟩ := ini1_SI hsi (show i < N by omega) hn
   exact qsS_HI hok hfl hb 20 (ini1 (fiS ks fl i) i) k1 k2 (fun v hv => by
    have : v = i := by simpa [ini1] using hv
    subst this
    exact List.mem_append_right _ (by simp)) (ini1_HI hsi ih (by omega) hok.n6 hn hl)
theorem HI_pot {s : WSt} (hs : SI N s) (hh : HI N ks fl s) {φ : Nat → Int} (hφ : ∀ j, j < ks.length → φ (gN ks j % 6) - φ (gN ks j / 6) = gI fl j) : ∀ (n v : Nat), s.2.1.idxOf v = n → v ∈ s.2.1 → ∃ ρ, Lst ks ρ ∧ Cn ks ρ v ∧ htv s v = φ v - φ ρ := by
 intro n
 induction n using Nat.strongRecOn with
 |
  ind n ih =>
  intro v hn hv
  rcases hh.tr v hv with ⟨_, e2, e3⟩ | ⟨u, u1, u2, _, j, hj, e⟩
  ·exact ⟨v, e3, .refl _, by omega⟩
  ·obtain ⟨ρ, r1, r2, r3⟩ := ih (s.2.1.idxOf u) (by omega) u rfl u1
   have hp := hφ j hj
   refine ⟨ρ, r1, .step r2 ⟨gN ks j, gN_mem hj, ?_⟩, ?_⟩
   ·rcases e with ⟨a, b, _⟩ | ⟨a, b, _⟩
    ·exact .inl ⟨a, b⟩
    ·exact .inr ⟨a, b⟩
   ·rcases e with ⟨a, b, c⟩ | ⟨a, b, c⟩
    ·rw [a, b] at hp; omega
    ·rw [a, b] at hp; omega
end
end Go.Abs

namespace Go.Abs
def agr (ks : List Nat) (fl D : List Int) : Nat → Nat → Bool
 | 0, _ => true
 | d + 1, i => decide (IntKind.i64.wrap (gI D (6 + gN ks i % 6) - gI D (6 + gN ks i / 6)) = gI fl i) && agr ks fl D d (i + 1)
section
variable {rows B : List Row} {N : Nat} {ks ps : List Nat} {x1 ev : AV} {fl D : List Int}
set_option maxHeartbeats 8000000 in
theorem Heights_loop {W low : Nat} {x2 : AV} {r : AV × List Row × Nat → Prop} (hok : GOK N ks ps) (hlow : low ≤ B.length) (he : El B 2 ev (nums .i64 (eC ks)) ks.length) (hf : IsL B x1 fl) (hfl : fl.length = ks.length) (hW : row? B W = some (nums .i64 D)) (hD : D.length = 13) (b0 : Bool)
  (h0 : b0 = false → ∀ L, r (.tup [.nilslice, .bool false, .int .i64 0], B ++ L, low))
  (h1 : b0 = true → ∀ L (sl : List (Nat × AV)), lk sl 2 = x2 → lk sl 8 = .ptr W 0 → Ex F (.fn [.t 4, .t 5, .t 6]) [.code c41s1] ⟨mk 58 sl, B ++ L, low⟩ r) :
  ∀ (d i : Nat) (L : List Row), ks.length - i = d → i ≤ ks.length → agr ks fl D d i = b0 →
  Lc41l2 F (.fn [.t 4, .t 5, .t 6]) x1 x2 (.ptr W 0) ev (.int .i64 ks.length) (.int .i64 i) (B ++ L) low r := by
 have hek := hok.ek
 have n6 := hok.n6
 intro d
 induction d with
 |
  zero =>
  intro i L hd hi hb
  have hi' : i = ks.length := by omega
  subst hi'
  have := h1 hb.symm L
  unfold Lc41l2
  simp [-uc41s1]
  refine this _ ?_ ?_ <;> simp
 |
  succ d ih =>
  intro i L hd hi0 hb
  have hi : i < ks.length := by omega
  have hw : IntKind.i64.wrap ((i : Int) + 1) = ((i + 1 : Nat) : Int) := by rw [wrap64 (by omega) (by omega)]; omega
  obtain ⟨e1, e2⟩ := eC_a hi
  have hee := hok.ee _ (gN_mem hi)
  rw [agr] at hb
  generalize gN ks i / 6 = A at *
  generalize gN ks i % 6 = C at *
  have ix := idxW (El_app he L) hi
  have ld := ldW2 (El_app he L) hi
  rw [e1, e2] at ld
  have hW' := row?_old hW (L ++ [.cells [.int .i64 A, .int .i64 C]])
  have hlw : lower low (B.length + L.length) = low := lower_ge' (by omega)
  have i01 : idx? 0 2 = some 0 := rfl
  have i11 : idx? 1 2 = some 1 := rfl
  have iA : idx? (A : Int) 6 = some A := by simp; omega
  have iC : idx? (C : Int) 6 = some C := by simp; omega
  have lA : 6 + A < D.length := by omega
  have lC : 6 + C < D.length := by omega
  have gA' : D[6 + A] = gI D (6 + A) := (gI_eq lA).symm
  have gC' : D[6 + C] = gI D (6 + C) := (gI_eq lC).symm
  have ixf := idxW (IsL_app hf (L ++ [.cells [.int .i64 A, .int .i64 C]])) (show i < fl.length by omega)
  have ldf := ldW1 (IsL_app hf (L ++ [.cells [.int .i64 A, .int .i64 C]])) (show i < fl.length by omega)
  rw [Nat.mul_one] at ixf
  unfold Lc41l2
  by_cases c : IntKind.i64.wrap (gI D (6 + C) - gI D (6 + A)) = gI fl i
  ·have := ih (i + 1) (L ++ [.cells [.int .i64 A, .int .i64 C]]) (by omega) (by omega) (by simpa [c] using hb)
   simp [hi, ix, ld, splice, hlw, i01, i11, iA, iC, hW', lA, lC, gA', gC', ixf, ldf, c, hw]
   simpa using this
  ·have := h0 (by rw [← hb]; simp [c]) (L ++ [.cells [.int .i64 A, .int .i64 C]])
   simp [hi, ix, ld, splice, hlw, i01, i11, iA, iC, hW', lA, lC, gA', gC', ixf, ldf, c]
   simpa using this
end
end Go.Abs

namespace Go.Abs
section
variable {rows B : List Row} {N : Nat} {ks ps : List Nat} {x1 ev g : AV} {fl D l : List Int}
theorem Clone_ret {id off : Nat} {c : Cap} (h : IsL rows (.slice id off l.length c) l) (hl : 0 < l.length) (hm : l.length ≤ 1000) : Ret F 79 [.slice id off l.length c] rows = some (.slice rows.length 0 l.length (.op 1), rows ++ [.cells (nums .i64 l)], none) := by
 have h' := IsL_app h [.cells []]
 have hap := app_at (low := rows.length) (b := 8) (sz := 1) (off := 0) (n := 0) (c := 0) (xs := []) (row_end (B := rows) (vs := [])) (by simp [seg]) h' hl (by simp [lim]; omega) (by omega)
 rw [Nat.zero_add, List.nil_append] at hap
 have hf := fin_slice (rows := rows) (L := [.cells [], .cells (nums .i64 l)]) (k := 1) (o := 0) (n := l.length) (c := .op 1) rfl nums_ids
 refine i79 F79 ?_
 simp [fillA, hap]
 simpa using hf
theorem fin_slice_bi {L : List Row} {k o n : Nat} {c : Cap} {vs : List AV} {b : Bool} {kd : IntKind} {e : Int} (h : L[k]? = some (.cells vs)) (hv : vs.all (·.ids.isEmpty) = true) : fin rows (.tup [.slice (rows.length + k) o n c, .bool b, .int kd e]) (rows ++ L) rows.length = (.tup [.slice rows.length o n c, .bool b, .int kd e], rows ++ [.cells vs], none) := by
 have e : ¬ rows.length + k < rows.length := by omega
 unfold fin
 rw [if_pos rfl]
 have hb : (AV.bool b).ids = [] := rfl
 simp only [ids_tup, idsL_cons, idsL_nil, ids_slice, ids_int, hb, List.append_nil, List.all_cons, List.all_nil, Bool.and_true, decide_eq_true_eq]
 rw [if_neg e, rows_at, h]
 simp [hv, AV.plain1, AV.plain, AV.ren1, AV.ren, hb]
def hts (N : Nat) (D : List Int) : List Int := (D.drop 6).take N
theorem hts_len (hD : D.length = 13) (hN : N ≤ 6) : (hts N D).length = N := by simp [hts]; omega
set_option maxHeartbeats 4000000 in
theorem Heights_ret (hg : GRd rows g N ks ps) (hf : IsL rows x1 fl) (hfl : fl.length = ks.length) (hb : ∀ x ∈ fl, -100 ≤ x ∧ x ≤ 100) :
  Ret F 41 [g, x1] rows = some (if agr ks fl (fiS ks fl N).1 ks.length 0 then (.tup [.slice rows.length 0 N (.op 1), .bool true, .int .i64 0], rows ++ [.cells (nums .i64 (hts N (fiS ks fl N).1))], none) else (.tup [.nilslice, .bool false, .int .i64 0], rows, none)) := by
 obtain ⟨ev, pv, rfl, he, hp, _⟩ := id hg.eq
 have hok := hg.ok
 have o1 := El_one he
 have o2 := El_one hp
 have hek := hok.ek
 have n1 := hok.n1
 have n6 := hok.n6
 have ho := open_ok (hg.app [.cells [.int .i64 N, ev, pv]]) (IsL_app hf [.cells [.int .i64 N, ev, pv]]) hb (f := 67) (n := ks.length) hfl (by omega) (g' := .agg [.int .i64 N, ev, pv]) (fun L => edges_ret (El_app (El_app he _) L) rfl o2)
 rw [show ((67 : Nat) : Int) = 67 from rfl] at ho
 have r78 := walked_ret (hg.app [.cells [.int .i64 N, ev, pv]]) (IsL_app hf [.cells [.int .i64 N, ev, pv]]) hfl
 have hD := (fiS_SI (fl := fl) hok N (Nat.le_refl _)).d
 generalize (fiS ks fl N).1 = D at *
 obtain ⟨B, hB⟩ : ∃ B, B = rows ++ [.cells [.int .i64 N, ev, pv], .cells (nums .i64 D)] := ⟨_, rfl⟩
 have hW : row? B (rows.length + 1) = some (nums .i64 D) := by rw [hB]; simp [row?]
 have hG : ∀ L, row? (B ++ L) rows.length = some [.int .i64 N, ev, pv] := fun L => by rw [hB]; simp [row?]
 have heB : El B 2 ev (nums .i64 (eC ks)) ks.length := by rw [hB]; exact El_app he _
 have hfB : IsL B x1 fl := by rw [hB]; exact IsL_app hf _
 have hl := Heights_loop (W := rows.length + 1) (low := rows.length) (x2 := .ptr rows.length 0) (r := fun r => fin rows r.1 r.2.1 r.2.2 = (if agr ks fl D ks.length 0 then (.tup [.slice rows.length 0 N (.op 1), .bool true, .int .i64 0], rows ++ [.cells (nums .i64 (hts N D))], none) else (.tup [.nilslice, .bool false, .int .i64 0], rows, none))) hok (by rw [hB]; simp) heB hfB hfl hW hD (agr ks fl D ks.length 0) (fun e L => by
  rw [e]
  simp) (fun e L sl s2 s8 => by
  rw [e]
  have hWL := row?_old hW L
  have hts := hts_len hD n6
  have hI : IsL (B ++ L) (.slice (rows.length + 1) 6 (Go.Abs.hts N D).length (.at_ 6)) (Go.Abs.hts N D) := by
   unfold IsL El elems
   simp only [hWL, Nat.mul_one]
   rw [nums_seg, hts, if_pos (by omega)]
   rfl
  have rc := Clone_ret hI (by omega) (by omega)
  rw [hts] at rc
  have hsl : sliceAV 6 1 (.ptr (rows.length + 1) 6) none (some (.int .i64 N)) none = some (.slice (rows.length + 1) 6 N (.at_ 6)) := by
   have e1 : (N : Int) ≤ 6 := by omega
   simp [sliceAV, sliceV, bound?, e1]
  obtain ⟨M, hM⟩ : ∃ M, M = [Row.cells [.int .i64 N, ev, pv], .cells (nums .i64 D)] ++ L := ⟨_, rfl⟩
  have eB : B ++ L = rows ++ M := by rw [hB, hM, List.append_assoc]
  have hfin := fin_slice_bi (rows := rows) (L := M ++ [.cells (nums .i64 (Go.Abs.hts N D))]) (vs := nums .i64 (Go.Abs.hts N D)) (k := M.length) (o := 0) (n := N) (c := .op 1) (b := true) (kd := .i64) (e := 0) (by simp) nums_ids
  have hG1 := hG L
  rw [eB] at hG1 rc ⊢
  rw [List.length_append, List.append_assoc] at rc
  simp [s2, s8, hG1, hsl, rc]
  simpa using hfin) _ 0 [] rfl (Nat.zero_le _) rfl
 rw [List.append_nil] at hl
 have ln := evP_lenE heB
 have hG0 := hG []
 rw [List.append_nil] at hG0
 simp only [List.append_assoc, List.length_append, List.length_cons, List.length_nil, Nat.zero_add, List.cons_append, List.nil_append, ← hB] at r78
 refine i41 F41 ?_
 simp [o1, o2, seg, ho, boundOf, r78, hG0, ln]
 simpa using hl
end
end Go.Abs

namespace Go.Abs
def bls (l : List Bool) : List AV := l.map AV.bool
def gB (l : List Bool) (i : Nat) : Bool := l.getD i false
theorem gB_get {l : List Bool} {i : Nat} (h : i < l.length) : (bls l)[i]? = some (.bool (gB l i)) := by
 simp [bls, gB, h]
theorem gB_set {c : List Bool} {i j : Nat} {x : Bool} (h : i < c.length) : gB (c.set i x) j = if j = i then x else gB c j := by
 simp only [gB, List.getD_eq_getElem?_getD]
 split
 ·rename_i e
  subst e
  rw [List.getElem?_set_self h]
  rfl
 ·rename_i e
  rw [List.getElem?_set_ne (fun h => e h.symm)]
section
variable {B L : List Row} {n : Nat} {c : Cap} {v : AV}
end
end Go.Abs

namespace Go.Abs
abbrev HSt := List Int × List Bool
def rhO (a b : Nat) (f : Int) (t : HSt) : HSt :=
 let t1 := if gB t.2 a = true ∧ gB t.2 b = false then (t.1.set b (IntKind.i64.wrap (gI t.1 a + f)), t.2.set b true) else t
 if gB t1.2 b = true ∧ gB t1.2 a = false then (t1.1.set a (IntKind.i64.wrap (gI t1.1 b - f)), t1.2.set a true) else t1
def rhE (ks : List Nat) (fl : List Int) (s : HSt) : Nat → HSt
 | 0 => s
 | i + 1 => rhO (gN ks i / 6) (gN ks i % 6) (gI fl i) (rhE ks fl s i)
def rhS (ks : List Nat) (fl : List Int) (N : Nat) : Nat → HSt
 | 0 => (List.replicate N 0, (List.range N).map fun (v : Nat) => decide (gI (pcS ks N N) v = (v : Int)))
 | r + 1 => rhE ks fl (rhS ks fl N r) ks.length
structure RI (N : Nat) (t : HSt) (m : Int) : Prop where
 l1 : t.1.length = N
 l2 : t.2.length = N
 bd : ∀ v, v < N → -m ≤ gI t.1 v ∧ gI t.1 v ≤ m
theorem rhO_RI {N a b : Nat} {f m : Int} {t : HSt} (h : RI N t m) (ha : a < N) (hb : b < N) (hf : -100 ≤ f ∧ f ≤ 100) (hm : 0 ≤ m ∧ m ≤ 1000000) : RI N (rhO a b f t) (m + 200) := by
 have h1 : RI N (if gB t.2 a = true ∧ gB t.2 b = false then (t.1.set b (IntKind.i64.wrap (gI t.1 a + f)), t.2.set b true) else t) (m + 100) := by
  split
  ·refine ⟨by simp [h.l1], by simp [h.l2], fun v hv => ?_⟩
   have hba := h.bd a ha
   have hbv := h.bd v hv
   show _ ≤ gI (t.1.set b _) v ∧ gI (t.1.set b _) v ≤ _
   rw [gI_set (by rw [h.l1]; exact hb)]
   split
   ·rw [wrap64 (by omega) (by omega)]; omega
   ·omega
  ·exact ⟨h.l1, h.l2, fun v hv => by have := h.bd v hv; omega⟩
 unfold rhO
 simp only
 generalize (if gB t.2 a = true ∧ gB t.2 b = false then (t.1.set b (IntKind.i64.wrap (gI t.1 a + f)), t.2.set b true) else t) = t1 at h1
 split
 ·refine ⟨by simp [h1.l1], by simp [h1.l2], fun v hv => ?_⟩
  have hba := h1.bd b hb
  have hbv := h1.bd v hv
  show _ ≤ gI (t1.1.set a _) v ∧ gI (t1.1.set a _) v ≤ _
  rw [gI_set (by rw [h1.l1]; exact ha)]
  split
  ·rw [wrap64 (by omega) (by omega)]; omega
  ·omega
 ·exact ⟨h1.l1, h1.l2, fun v hv => by have := h1.bd v hv; omega⟩
section
variable {N : Nat} {ks ps : List Nat} {fl : List Int}
theorem rhE_RI (hok : GOK N ks ps) (hfl : fl.length = ks.length) (hb : ∀ x ∈ fl, -100 ≤ x ∧ x ≤ 100) {s : HSt} {m : Int} (hm : 0 ≤ m ∧ m ≤ 100000) (h : RI N s m) : ∀ i, i ≤ ks.length → RI N (rhE ks fl s i) (m + 200 * i)
 |
  0, _ => by
  show RI N s (m + 200 * ((0 : Nat) : Int))
  simpa using h
 |
  i + 1, hi => by
  have hek := hok.ek
  have ih := rhE_RI hok hfl hb hm h i (by omega)
  have hee := hok.ee _ (gN_mem (show i < ks.length by omega))
  have := rhO_RI ih (a := gN ks i / 6) (b := gN ks i % 6) (f := gI fl i) (by omega) hee.2 (bd_get hb (by omega)) (by omega)
  have e : m + 200 * ((i + 1 : Nat) : Int) = m + 200 * i + 200 := by omega
  rw [e]
  exact this
theorem rhS_RI (hok : GOK N ks ps) (hfl : fl.length = ks.length) (hb : ∀ x ∈ fl, -100 ≤ x ∧ x ≤ 100) : ∀ r, r ≤ N → RI N (rhS ks fl N r) (2000 * r)
 |
  0, _ => ⟨by simp [rhS], by simp [rhS], fun v hv => by
  have : gI (rhS ks fl N 0).1 v = 0 := by
   show gI (List.replicate N 0) v = 0
   simp only [gI, List.getD_eq_getElem?_getD, List.getElem?_replicate]
   rw [if_pos hv]
   rfl
  omega⟩
 |
  r + 1, hr => by
  have hek := hok.ek
  have n6 := hok.n6
  have ih := rhS_RI hok hfl hb r (by omega)
  have := rhE_RI hok hfl hb (by omega) ih ks.length (Nat.le_refl _)
  rw [rhS]
  exact ⟨this.l1, this.l2, fun v hv => by have := this.bd v hv; omega⟩
def PT (ks : List Nat) (N : Nat) (φ : Nat → Int) (t : HSt) : Prop := ∀ v, v < N → gB t.2 v = true → ∃ ρ, Lst ks ρ ∧ Cn ks ρ v ∧ gI t.1 v = φ v - φ ρ
theorem rhO_PT {φ : Nat → Int} {a b : Nat} {f m : Int} {t : HSt} (h : PT ks N φ t) (hr : RI N t m) (ha : a < N) (hb : b < N) (hf : -100 ≤ f ∧ f ≤ 100) (hm : 0 ≤ m ∧ m ≤ 1000000) (hadj : Adj ks a b) (hφ : φ b - φ a = f) : PT ks N φ (rhO a b f t) := by
 have h1 : PT ks N φ (if gB t.2 a = true ∧ gB t.2 b = false then (t.1.set b (IntKind.i64.wrap (gI t.1 a + f)), t.2.set b true) else t) ∧ RI N (if gB t.2 a = true ∧ gB t.2 b = false then (t.1.set b (IntKind.i64.wrap (gI t.1 a + f)), t.2.set b true) else t) (m + 100) := by
  split
  ·rename_i hc
   have hba := hr.bd a ha
   refine ⟨fun v hv hk => ?_, by simp [hr.l1], by simp [hr.l2], fun v hv => ?_⟩
   ·show ∃ ρ, Lst ks ρ ∧ Cn ks ρ v ∧ gI (t.1.set b _) v = _
    have hk' : gB (t.2.set b true) v = true := hk
    rw [gB_set (by rw [hr.l2]; exact hb)] at hk'
    rw [gI_set (by rw [hr.l1]; exact hb)]
    by_cases e : v = b
    ·subst e
     obtain ⟨ρ, r1, r2, r3⟩ := h a ha hc.1
     rw [if_pos rfl, wrap64 (by omega) (by omega)]
     exact ⟨ρ, r1, .step r2 hadj, by omega⟩
    ·rw [if_neg e] at hk' ⊢
     exact h v hv hk'
   ·have hbv := hr.bd v hv
    show _ ≤ gI (t.1.set b _) v ∧ gI (t.1.set b _) v ≤ _
    rw [gI_set (by rw [hr.l1]; exact hb)]
    split
    ·rw [wrap64 (by omega) (by omega)]; omega
    ·omega
  ·exact ⟨h, hr.l1, hr.l2, fun v hv => by have := hr.bd v hv; omega⟩
 unfold rhO
 simp only
 generalize (if gB t.2 a = true ∧ gB t.2 b = false then (t.1.set b (IntKind.i64.wrap (gI t.1 a + f)), t.2.set b true) else t) = t1 at h1
 obtain ⟨h1, hr1⟩ := h1
 split
 ·rename_i hc
  have hbb := hr1.bd b hb
  intro v hv hk
  show ∃ ρ, Lst ks ρ ∧ Cn ks ρ v ∧ gI (t1.1.set a _) v = _
  have hk' : gB (t1.2.set a true) v = true := hk
  rw [gB_set (by rw [hr1.l2]; exact ha)] at hk'
  rw [gI_set (by rw [hr1.l1]; exact ha)]
  by_cases e : v = a
  ·subst e
   obtain ⟨ρ, r1, r2, r3⟩ := h1 b hb hc.1
   rw [if_pos rfl, wrap64 (by omega) (by omega)]
   exact ⟨ρ, r1, .step r2 hadj.symm, by omega⟩
  ·rw [if_neg e] at hk' ⊢
   exact h1 v hv hk'
 ·exact h1
end
end Go.Abs

namespace Go.Abs
section
variable {N : Nat} {ks ps : List Nat} {fl : List Int}
theorem rhO_len {a b : Nat} {f : Int} {t : HSt} : (rhO a b f t).2.length = t.2.length := by
 unfold rhO
 simp only
 split <;> split <;> simp
theorem rhO_kn {a b v : Nat} {f : Int} {t : HSt} (ha : a < t.2.length) (hb : b < t.2.length) (hab : a ≠ b) : gB (rhO a b f t).2 v = if v = a ∨ v = b then (gB t.2 a || gB t.2 b) else gB t.2 v := by
 unfold rhO
 simp only
 cases ea : gB t.2 a <;> cases eb : gB t.2 b
 ·simp [ea, eb]
  intro h
  constructor
  ·intro e; rw [e, ea] at h; simp at h
  ·intro e; rw [e, eb] at h; simp at h
 ·simp [ea, eb, gB_set ha]
  by_cases c : v = a
  ·simp [c]
  ·by_cases c2 : v = b
   ·simp [c2, hab.symm, eb]
   ·simp [c, c2]
 ·simp [ea, eb, gB_set hb, hab]
  by_cases c : v = b
  ·simp [c]
  ·by_cases c2 : v = a
   ·simp [c2, hab, ea]
   ·simp [c, c2]
 ·simp [ea, eb]
  intro h
  rcases h with rfl | rfl <;> assumption
theorem rhE_len {s : HSt} : ∀ i, (rhE ks fl s i).2.length = s.2.length
 | 0 => rfl
 |
  i + 1 => by
  show (rhO _ _ _ (rhE ks fl s i)).2.length = _
  rw [rhO_len, rhE_len i]
theorem rhS_len : ∀ r, (rhS ks fl N r).2.length = N
 | 0 => by simp [rhS]
 | r + 1 => by rw [rhS, rhE_len, rhS_len r]
theorem rhE_keep (hok : GOK N ks ps) {s : HSt} (hs : s.2.length = N) {v : Nat} : ∀ i j, i ≤ j → j ≤ ks.length → gB (rhE ks fl s i).2 v = true → gB (rhE ks fl s j).2 v = true := by
 intro i j hij hj
 induction j with
 |
  zero =>
  obtain rfl : i = 0 := by omega
  exact id
 |
  succ j ih =>
  intro hk
  rcases Nat.eq_or_lt_of_le hij with e | e
  ·rw [← e]; exact hk
  ·have hp := ih (by omega) (by omega) hk
   have hee := hok.ee _ (gN_mem (show j < ks.length by omega))
   show gB (rhO _ _ _ (rhE ks fl s j)).2 v = true
   rw [rhO_kn (by rw [rhE_len, hs]; omega) (by rw [rhE_len, hs]; omega) (by omega)]
   split
   ·rename_i h
    rcases h with rfl | rfl
    ·simp [hp]
    ·simp [hp]
   ·exact hp
def CloK (ks : List Nat) (k : List Bool) : Prop := ∀ x ∈ ks, gB k (x / 6) = gB k (x % 6)
theorem rh_grow (hok : GOK N ks ps) (r : Nat) (hn : ¬ CloK ks (rhS ks fl N r).2) : ((List.range N).filter (gB (rhS ks fl N r).2)).length < ((List.range N).filter (gB (rhS ks fl N (r + 1)).2)).length := by
 have hl := rhS_len (ks := ks) (fl := fl) (N := N) r
 have e1 : rhS ks fl N (r + 1) = rhE ks fl (rhS ks fl N r) ks.length := rfl
 refine (filter_lt fun x hx h => ?_).2 ?_
 ·rw [e1]
  exact rhE_keep hok hl 0 ks.length (Nat.zero_le _) (Nat.le_refl _) h
 ·obtain ⟨k, hk⟩ : ∃ k, ¬ (k ∈ ks → gB (rhS ks fl N r).2 (k / 6) = gB (rhS ks fl N r).2 (k % 6)) := by
   apply Classical.byContradiction
   intro h
   exact hn fun k hk => Classical.byContradiction fun hc => h ⟨k, fun hi => hc (hi hk)⟩
  have hkm : k ∈ ks := Classical.byContradiction fun hc => hk fun h => absurd h hc
  have hkn : gB (rhS ks fl N r).2 (k / 6) ≠ gB (rhS ks fl N r).2 (k % 6) := fun h => hk fun _ => h
  obtain ⟨i, hi, rfl⟩ := List.mem_iff_getElem.1 hkm
  rw [← gN_eq hi] at hkn
  have hee := hok.ee _ (gN_mem hi)
  have both : ∀ w, (w = gN ks i / 6 ∨ w = gN ks i % 6) → gB (rhS ks fl N r).2 w = true → ∀ x, (x = gN ks i / 6 ∨ x = gN ks i % 6) → gB (rhS ks fl N (r + 1)).2 x = true := by
   intro w hw hwk x hx
   have h1 := rhE_keep (fl := fl) hok hl (v := w) 0 i (Nat.zero_le _) (by omega) hwk
   have h3 : gB (rhE ks fl (rhS ks fl N r) (i + 1)).2 x = true := by
    show gB (rhO _ _ _ (rhE ks fl (rhS ks fl N r) i)).2 x = true
    rw [rhO_kn (by rw [rhE_len, hl]; omega) (by rw [rhE_len, hl]; omega) (by omega), if_pos hx]
    rcases hw with rfl | rfl <;> simp [h1]
   rw [e1]
   exact rhE_keep hok hl (i + 1) ks.length (by omega) (Nat.le_refl _) h3
  cases ca : gB (rhS ks fl N r).2 (gN ks i / 6) with
  |
   true =>
   have cb : gB (rhS ks fl N r).2 (gN ks i % 6) = false := by
    cases cb : gB (rhS ks fl N r).2 (gN ks i % 6) with
    | true => rw [ca, cb] at hkn; exact absurd rfl hkn
    | false => rfl
   exact ⟨gN ks i % 6, List.mem_range.2 (by omega), both _ (.inl rfl) ca _ (.inr rfl), cb⟩
  |
   false =>
   have cb : gB (rhS ks fl N r).2 (gN ks i % 6) = true := by
    cases cb : gB (rhS ks fl N r).2 (gN ks i % 6) with
    | true => rfl
    | false => rw [ca, cb] at hkn; exact absurd rfl hkn
   exact ⟨gN ks i / 6, List.mem_range.2 (by omega), both _ (.inr rfl) cb _ (.inl rfl), ca⟩
theorem rhS_keep (hok : GOK N ks ps) {v r : Nat} (h : gB (rhS ks fl N r).2 v = true) : ∀ d, gB (rhS ks fl N (r + d)).2 v = true
 | 0 => h
 |
  d + 1 => by
  rw [← Nat.add_assoc, rhS]
  exact rhE_keep hok (rhS_len _) 0 ks.length (Nat.zero_le _) (Nat.le_refl _) (rhS_keep hok h d)
theorem rh_start (hok : GOK N ks ps) {v : Nat} (hv : v < N) (hl : Lst ks v) : gB (rhS ks fl N 0).2 v = true := by
 have := (pc_iff hok hv).2 hl
 show gB ((List.range N).map fun (v : Nat) => decide (gI (pcS ks N N) v = (v : Int))) v = true
 simp [gB, hv, this]
theorem rh_all (hok : GOK N ks ps) {v : Nat} (hv : v < N) : gB (rhS ks fl N N).2 v = true := by
 have n1 := hok.n1
 have hgrow : ∀ r, (∃ r', r' < r ∧ CloK ks (rhS ks fl N r').2) ∨ r + 1 ≤ ((List.range N).filter (gB (rhS ks fl N r).2)).length := by
  intro r
  induction r with
  |
   zero =>
   right
   have h0 : gB (rhS ks fl N 0).2 0 = true := rh_start hok (by omega) (fun u _ => Nat.zero_le _)
   have hm : 0 ∈ (List.range N).filter (gB (rhS ks fl N 0).2) := List.mem_filter.2 ⟨List.mem_range.2 (by omega), h0⟩
   exact List.length_pos_of_mem hm
  |
   succ r ih =>
   rcases ih with ⟨r', h1, h2⟩ | h
   ·exact .inl ⟨r', by omega, h2⟩
   ·by_cases c : CloK ks (rhS ks fl N r).2
    ·exact .inl ⟨r, by omega, c⟩
    ·right
     have := rh_grow hok r c
     omega
 have hle := List.length_filter_le (gB (rhS ks fl N N).2) (List.range N)
 rw [List.length_range] at hle
 obtain ⟨r, hr, hclo⟩ : ∃ r', r' < N ∧ CloK ks (rhS ks fl N r').2 := by
  rcases hgrow N with h | h
  ·exact h
  ·omega
 obtain ⟨ρ, hc, hl⟩ := Lst_ex (ks := ks) v
 have hρ : ρ < N := Cn_lt hok hc hv
 have h0 := rhS_keep (fl := fl) hok (rh_start (fl := fl) hok hρ hl) r
 rw [Nat.zero_add] at h0
 have hall : gB (rhS ks fl N r).2 v = true := by
  have hc' := hc.symm
  clear hc
  induction hc' with
  | refl => exact h0
  |
   step _ a ih =>
   obtain ⟨k, hk, e | e⟩ := a
   ·rw [← e.2, ← hclo k hk, e.1]; exact ih (by
     rw [← e.1]
     have := hok.ee k hk
     omega)
   ·rw [← e.1, hclo k hk, e.2]; exact ih (by
     rw [← e.2]
     exact (hok.ee k hk).2)
 have := rhS_keep hok hall (N - r)
 rwa [show r + (N - r) = N from by omega] at this
end
end Go.Abs

namespace Go.Abs
section
variable {N : Nat} {ks ps : List Nat} {fl : List Int}
theorem rhE_PT (hok : GOK N ks ps) (hfl : fl.length = ks.length) (hb : ∀ x ∈ fl, -100 ≤ x ∧ x ≤ 100) {φ : Nat → Int} (hφ : ∀ j, j < ks.length → φ (gN ks j % 6) - φ (gN ks j / 6) = gI fl j) {s : HSt} {m : Int} (hm : 0 ≤ m ∧ m ≤ 100000) (hr : RI N s m) (h : PT ks N φ s) : ∀ i, i ≤ ks.length → PT ks N φ (rhE ks fl s i)
 | 0, _ => h
 |
  i + 1, hi => by
  have hek := hok.ek
  have ih := rhE_PT hok hfl hb hφ hm hr h i (by omega)
  have ri := rhE_RI hok hfl hb hm hr i (by omega)
  have hee := hok.ee _ (gN_mem (show i < ks.length by omega))
  exact rhO_PT ih ri (by omega) hee.2 (bd_get hb (by omega)) (by omega) (pe_adj (by omega)) (hφ i (by omega))
theorem rhS_PT (hok : GOK N ks ps) (hfl : fl.length = ks.length) (hb : ∀ x ∈ fl, -100 ≤ x ∧ x ≤ 100) {φ : Nat → Int} (hφ : ∀ j, j < ks.length → φ (gN ks j % 6) - φ (gN ks j / 6) = gI fl j) : ∀ r, r ≤ N → PT ks N φ (rhS ks fl N r)
 |
  0, _ => fun v hv hk => by
  have hl : Lst ks v := by
   refine (pc_iff hok hv).1 ?_
   have : gB ((List.range N).map fun (v : Nat) => decide (gI (pcS ks N N) v = (v : Int))) v = true := hk
   simpa [gB, hv] using this
  refine ⟨v, hl, .refl _, ?_⟩
  show gI (List.replicate N 0) v = _
  simp only [gI, List.getD_eq_getElem?_getD, List.getElem?_replicate]
  rw [if_pos hv]
  simp
 |
  r + 1, hr => by
  have n6 := hok.n6
  have ih := rhS_PT hok hfl hb hφ r (by omega)
  have ri := rhS_RI hok hfl hb r (by omega)
  rw [rhS]
  exact rhE_PT hok hfl hb hφ (by omega) ri ih _ (Nat.le_refl _)
theorem Lst_uniq {a b v : Nat} (ha : Lst ks a) (hb : Lst ks b) (h1 : Cn ks a v) (h2 : Cn ks b v) : a = b := by
 have := ha b (h1.trans h2.symm)
 have := hb a (h2.trans h1.symm)
 omega
theorem same_heights (hok : GOK N ks ps) (hfl : fl.length = ks.length) (hb : ∀ x ∈ fl, -100 ≤ x ∧ x ≤ 100) {φ : Nat → Int} (hφ : ∀ j, j < ks.length → φ (gN ks j % 6) - φ (gN ks j / 6) = gI fl j) {v : Nat} (hv : v < N) : htv (fiS ks fl N) v = gI (rhS ks fl N N).1 v := by
 have hS := (fiS_ok (fl := fl) hok N (Nat.le_refl _)).2.1 v hv
 obtain ⟨ρ, r1, r2, r3⟩ := HI_pot (fiS_SI (fl := fl) hok N (Nat.le_refl _)) (fiS_HI hok hfl hb N (Nat.le_refl _)) hφ _ v rfl hS
 obtain ⟨σ, s1, s2, s3⟩ := rhS_PT hok hfl hb hφ N (Nat.le_refl _) v hv (rh_all hok hv)
 have := Lst_uniq r1 s1 r2 s2
 rw [r3, s3, this]
end
end Go.Abs

namespace Go.Abs
section
variable {N : Nat} {ks ps : List Nat} {fl : List Int}
def Runs (ks : List Nat) (fl : List Int) : Prop := ∃ φ : Nat → Int, ∀ j, j < ks.length → φ (gN ks j % 6) - φ (gN ks j / 6) = gI fl j
theorem agr_iff {D : List Int} : ∀ d i, i + d = ks.length → (agr ks fl D d i = true ↔ ∀ j, i ≤ j → j < ks.length → IntKind.i64.wrap (gI D (6 + gN ks j % 6) - gI D (6 + gN ks j / 6)) = gI fl j)
 |
  0, i, h => by
  simp only [agr, true_iff]
  intro j h1 h2
  omega
 |
  d + 1, i, h => by
  rw [agr, Bool.and_eq_true, decide_eq_true_eq, agr_iff d (i + 1) (by omega)]
  constructor
  ·rintro ⟨h1, h2⟩ j hj hj2
   by_cases c : j = i
   ·subst c; exact h1
   ·exact h2 j (by omega) hj2
  ·intro h1
   exact ⟨h1 i (Nat.le_refl _) (by omega), fun j hj hj2 => h1 j (by omega) hj2⟩
theorem ht_small (hok : GOK N ks ps) (hfl : fl.length = ks.length) (hb : ∀ x ∈ fl, -100 ≤ x ∧ x ≤ 100) {v : Nat} (hv : v < N) : -600 ≤ htv (fiS ks fl N) v ∧ htv (fiS ks fl N) v ≤ 600 := by
 have hs := fiS_SI (fl := fl) hok N (Nat.le_refl _)
 have hS := (fiS_ok (fl := fl) hok N (Nat.le_refl _)).2.1 v hv
 have h6 := hs.s6 hok.n6
 have := (fiS_HI hok hfl hb N (Nat.le_refl _)).bd v hS
 omega
theorem agr_runs (hok : GOK N ks ps) (hfl : fl.length = ks.length) (hb : ∀ x ∈ fl, -100 ≤ x ∧ x ≤ 100) : agr ks fl (fiS ks fl N).1 ks.length 0 = true ↔ Runs ks fl := by
 rw [agr_iff _ _ (by omega)]
 constructor
 ·intro h
  refine ⟨htv (fiS ks fl N), fun j hj => ?_⟩
  have hee := hok.ee _ (gN_mem hj)
  have h1 := ht_small hok hfl hb (v := gN ks j % 6) hee.2
  have h2 := ht_small hok hfl hb (v := gN ks j / 6) (by omega)
  have := h j (Nat.zero_le _) hj
  unfold htv at *
  rwa [wrap64 (by omega) (by omega)] at this
 ·rintro ⟨φ, hφ⟩ j _ hj
  have hee := hok.ee _ (gN_mem hj)
  have h1 := ht_small hok hfl hb (v := gN ks j % 6) hee.2
  have h2 := ht_small hok hfl hb (v := gN ks j / 6) (by omega)
  have hs := fiS_SI (fl := fl) hok N (Nat.le_refl _)
  have hh := fiS_HI hok hfl hb N (Nat.le_refl _)
  have hS := (fiS_ok (fl := fl) hok N (Nat.le_refl _)).2.1
  obtain ⟨ρ, r1, r2, r3⟩ := HI_pot hs hh hφ _ (gN ks j % 6) rfl (hS _ hee.2)
  obtain ⟨σ, s1, s2, s3⟩ := HI_pot hs hh hφ _ (gN ks j / 6) rfl (hS _ (by omega))
  have e := Lst_uniq r1 s1 r2 (.step s2 (pe_adj hj))
  subst e
  have := hφ j hj
  unfold htv at *
  rw [wrap64 (by omega) (by omega)]
  omega
end
end Go.Abs

namespace Go.Abs
section
variable {N : Nat} {ks ps : List Nat} {fl : List Int}
theorem rgrad_runs (hok : GOK N ks ps) (hfl : fl.length = ks.length) (hb : ∀ x ∈ fl, -100 ≤ x ∧ x ≤ 100) : (∀ j, j < ks.length → gI (rhS ks fl N N).1 (gN ks j % 6) - gI (rhS ks fl N N).1 (gN ks j / 6) = gI fl j) ↔ Runs ks fl := by
 constructor
 ·intro h
  exact ⟨gI (rhS ks fl N N).1, h⟩
 ·rintro ⟨φ, hφ⟩ j hj
  have hee := hok.ee _ (gN_mem hj)
  obtain ⟨ρ, r1, r2, r3⟩ := rhS_PT hok hfl hb hφ N (Nat.le_refl _) (gN ks j % 6) hee.2 (rh_all hok hee.2)
  obtain ⟨σ, s1, s2, s3⟩ := rhS_PT hok hfl hb hφ N (Nat.le_refl _) (gN ks j / 6) (by omega) (rh_all hok (by omega))
  have e := Lst_uniq r1 s1 r2 (.step s2 (pe_adj hj))
  subst e
  have := hφ j hj
  omega
theorem grad_get {l : List Int} {j : Nat} (hj : j < ks.length) : gI (grad ks l) j = gI l (gN ks j % 6) - gI l (gN ks j / 6) := by
 have h1 : j < (grad ks l).length := by rw [grad_len]; exact hj
 rw [gI_eq h1]
 simp [grad, gN_eq hj]
theorem grad_runs (hok : GOK N ks ps) (hfl : fl.length = ks.length) (hb : ∀ x ∈ fl, -100 ≤ x ∧ x ≤ 100) : grad ks (rhS ks fl N N).1 = fl ↔ Runs ks fl := by
 rw [← rgrad_runs hok hfl hb]
 constructor
 ·intro h j hj
  rw [← grad_get hj, h]
 ·intro h
  apply List.ext_getElem
  ·rw [grad_len, hfl]
  ·intro j h1 h2
   have hj : j < ks.length := by rw [grad_len] at h1; exact h1
   rw [← gI_eq h1, ← gI_eq h2, grad_get hj]
   exact h j hj
end
end Go.Abs

namespace Go.Abs
theorem IsL_keep {R R' : List Row} {v : AV} {l : List Int} {o : Nat} (h : IsL R v l) (he : ∀ (id : Nat), id ≠ o → R'[id]? = R[id]?) (hne : v = .nilslice ∨ sid v ≠ o) : IsL R' v l := by
 rcases El_cases h with ⟨rfl, e1, e2⟩ | ⟨id, off, c, vs, rfl, hr, hs⟩
 ·have : l = [] := List.eq_nil_of_length_eq_zero e2
  subst this
  exact IsL_nil
 ·have hid : id ≠ o := by
   rcases hne with e | e
   ·simp at e
   ·simpa using e
  have hr' : row? R' id = some vs := by
   unfold row? at hr ⊢
   rw [he id hid]
   exact hr
  unfold IsL El elems
  simp only [hr', hs]
  rfl
def hR (B M : List Row) (G : List AV) (t : HSt) : List Row := B ++ (.cells G :: .cells (nums .i64 t.1) :: .cells (bls t.2) :: M)
section
variable {B M : List Row} {G : List AV} {t : HSt} {N low i : Nat}
theorem hR_app (X : List Row) : hR B M G t ++ X = hR B (M ++ X) G t := by simp [hR]
theorem hR_g : row? (hR B M G t) B.length = some G := by simp [hR, row?]
theorem hR_h : IsL (hR B M G t) (.slice (B.length + 1) 0 t.1.length (.at_ N)) t.1 := by
 have hr : row? (hR B M G t) (B.length + 1) = some (nums .i64 t.1) := by simp [hR, row?]
 exact IsL_mk (n := 0) hr (by rw [nums_seg, if_pos (by omega)]; simp)
theorem hR_B {v : AV} {l : List Int} (h : IsL B v l) : IsL (hR B M G t) v l := IsL_app h _
theorem hR_ki {c : Cap} {R : List Row} {b : Nat} (hi : i < N) : evP R (.idxS 1 (.c (.slice b 0 N c)) (.c (.int .i64 i))) = some (.ptr b i) := by
 have e : idx? (i : Int) N = some i := by rw [idx?_ok (by omega) (by omega), Int.toNat_natCast]
 show evalP R (getO []) _ = _
 unfold evalP
 simp only [getO, e]
 simp
theorem hR_kl (hi : i < t.2.length) : evP (hR B M G t) (.load1 (.c (.ptr (B.length + 2) i))) = some (.bool (gB t.2 i)) := by
 have hr : row? (hR B M G t) (B.length + 2) = some (bls t.2) := by simp [hR, row?]
 show evalP (hR B M G t) (getO []) _ = _
 unfold evalP
 simp only [getO, hr, gB_get hi]
theorem hR_hl (hi : i < t.1.length) : evP (hR B M G t) (.load1 (.c (.ptr (B.length + 1) i))) = some (.int .i64 (gI t.1 i)) := by
 have := loadL0 (j := i) (hR_h (B := B) (M := M) (G := G) (t := t) (N := 0)) hi
 simpa using this
theorem hR_sh {x : Int} (hi : i < t.1.length) (hlow : low ≤ B.length) : evE (hR B M G t) low (.store1 (.c (.ptr (B.length + 1) i)) (.c (.int .i64 x))) = some (.tup [], hR B M G (t.1.set i x, t.2), low) := by
 have hc : cells? (hR B M G t) (B.length + 1) = some (nums .i64 t.1) := by simp [hR, cells?]
 have hset : (nums .i64 t.1).set i (.int .i64 x) = nums .i64 (t.1.set i x) := by simp [nums, List.map_set]
 rw [evE_store1]
 simp only [hc, Option.bind_some]
 rw [if_pos ⟨by simp [nums]; omega, rfl⟩, hset, lower_ge' (by omega)]
 simp [hR, List.set_append_right]
theorem hR_sk {x : Bool} (hi : i < t.2.length) (hlow : low ≤ B.length) : evE (hR B M G t) low (.store1 (.c (.ptr (B.length + 2) i)) (.c (.bool x))) = some (.tup [], hR B M G (t.1, t.2.set i x), low) := by
 have hc : cells? (hR B M G t) (B.length + 2) = some (bls t.2) := by simp [hR, cells?]
 have hset : (bls t.2).set i (.bool x) = bls (t.2.set i x) := by simp [bls, List.map_set]
 rw [evE_store1]
 simp only [hc, Option.bind_some]
 rw [if_pos ⟨by simp [bls]; omega, rfl⟩, hset, lower_ge' (by omega)]
 simp [hR, List.set_append_right]
theorem hR_set {t' : HSt} (h : t'.1 = t.1) (id : Nat) (hid : id ≠ B.length + 2) : (hR B M G t')[id]? = (hR B M G t)[id]? := by
 unfold hR
 rw [h]
 by_cases c : id < B.length
 ·rw [List.getElem?_append_left c, List.getElem?_append_left c]
 ·rw [List.getElem?_append_right (by omega), List.getElem?_append_right (by omega)]
  match hd : id - B.length with
  | 0 => rfl
  | 1 => rfl
  | 2 => omega
  | k + 3 => rfl
theorem hR_ne {v : AV} {l : List Int} (h : IsL (hR B M G t) v l) (hl : 0 < l.length) : v = .nilslice ∨ sid v ≠ B.length + 2 := by
 rcases El_cases h with ⟨e, _, _⟩ | ⟨id, off, c', vs, e, hr, hs⟩
 ·exact .inl e
 ·refine .inr ?_
  subst e
  simp only [sid_s]
  intro e
  subst e
  have hr2 : row? (hR B M G t) (B.length + 2) = some (bls t.2) := by simp [hR, row?]
  rw [hr2] at hr
  simp only [Option.some.injEq] at hr
  subst hr
  have h3 : (nums .i64 l)[0]? = (bls t.2)[off]? := by
   unfold seg at hs
   split at hs
   ·injection hs with hs
    rw [← hs, List.getElem?_take_of_lt (by omega), List.getElem?_drop]
    rfl
   ·simp at hs
  cases l with
  | nil => simp at hl
  |
   cons a l =>
   simp only [nums, List.map_cons, List.getElem?_cons_zero, bls, List.getElem?_map] at h3
   cases hb : t.2[off]? <;> simp [hb] at h3
end
section
variable {B M : List Row} {N : Nat} {ks ps : List Nat} {x1 x8 ev pv : AV} {fl p : List Int} {low : Nat}
theorem dec_fill {f : Nat → Bool} {d i : Nat} : ((List.range i).map f ++ List.replicate (d + 1) false).set i (f i) = (List.range (i + 1)).map f ++ List.replicate d false := by
 rw [List.set_append_right _ _ (by simp), List.length_map, List.length_range, Nat.sub_self, List.replicate_succ, List.range_succ, List.map_append]
 simp
set_option maxHeartbeats 8000000 in
theorem known_loop {c : Cap} {hs : List Int} {r : AV × List Row × Nat → Prop} (hN : N ≤ 6) (hp : p.length = N) (hlow : low ≤ B.length)
  (hk : ∀ (M : List Row) (sl : List (Nat × AV)), lk sl 1 = x1 → lk sl 2 = .ptr B.length 0 → lk sl 6 = .slice (B.length + 1) 0 N c → lk sl 7 = .slice (B.length + 2) 0 N c → Ex F (.fn [.t 4, .t 5]) [.code c48s40] ⟨mk 135 sl, hR B M [.int .i64 N, ev, pv] (hs, (List.range N).map fun (v : Nat) => decide (gI p v = (v : Int))), low⟩ r) :
  ∀ (d i : Nat), N - i = d → i ≤ N → IsL (hR B M [.int .i64 N, ev, pv] (hs, (List.range i).map (fun (v : Nat) => decide (gI p v = (v : Int))) ++ List.replicate d false)) x8 p →
  Lc48l41 F (.fn [.t 4, .t 5]) x1 (.ptr B.length 0) (.slice (B.length + 1) 0 N c) (.slice (B.length + 2) 0 N c) x8 (.int .i64 i) (hR B M [.int .i64 N, ev, pv] (hs, (List.range i).map (fun (v : Nat) => decide (gI p v = (v : Int))) ++ List.replicate d false)) low r := by
 intro d
 induction d with
 |
  zero =>
  intro i hd h1 hP
  have hi : i = N := by omega
  subst hi
  unfold Lc48l41
  rw [List.replicate_zero, List.append_nil] at *
  simp [hR_g, -uc48s40]
  refine hk M _ ?_ ?_ ?_ ?_ <;> simp
 |
  succ d ih =>
  intro i hd h1 hP
  have hi : i < N := by omega
  have hw : IntKind.i64.wrap ((i : Int) + 1) = ((i + 1 : Nat) : Int) := by rw [wrap64 (by omega) (by omega)]; omega
  have ix := idxW hP (show i < p.length by omega)
  have ld := ldW1 hP (show i < p.length by omega)
  rw [Nat.mul_one] at ix
  have ki := hR_ki (R := hR B M [.int .i64 N, ev, pv] (hs, (List.range i).map (fun (v : Nat) => decide (gI p v = (v : Int))) ++ List.replicate (d + 1) false)) (b := B.length + 2) (c := c) hi
  have sk := hR_sk (B := B) (M := M) (G := [.int .i64 N, ev, pv]) (low := low) (i := i) (t := (hs, (List.range i).map (fun (v : Nat) => decide (gI p v = (v : Int))) ++ List.replicate (d + 1) false)) (x := decide (gI p i = (i : Int))) (by simp) hlow
  simp only [dec_fill (f := fun (v : Nat) => decide (gI p v = (v : Int)))] at sk
  have hRs := fun (id : Nat) (hid : id ≠ B.length + 2) => hR_set (B := B) (M := M) (G := [.int .i64 N, ev, pv]) (t := (hs, (List.range i).map (fun (v : Nat) => decide (gI p v = (v : Int))) ++ List.replicate (d + 1) false)) (t' := (hs, (List.range (i + 1)).map (fun (v : Nat) => decide (gI p v = (v : Int))) ++ List.replicate d false)) rfl id hid
  have hP' := IsL_keep (R' := hR B M [.int .i64 N, ev, pv] (hs, (List.range (i + 1)).map (fun (v : Nat) => decide (gI p v = (v : Int))) ++ List.replicate d false)) hP hRs (hR_ne hP (by omega))
  have := ih (i + 1) (by omega) (by omega) hP'
  unfold Lc48l41
  have hg := hR_g (B := B) (M := M) (G := [.int .i64 N, ev, pv]) (t := (hs, (List.range i).map (fun (v : Nat) => decide (gI p v = (v : Int))) ++ List.replicate (d + 1) false))
  generalize hR B M [.int .i64 N, ev, pv] (hs, (List.range i).map (fun (v : Nat) => decide (gI p v = (v : Int))) ++ List.replicate (d + 1) false) = R at *
  have hdec : (gI p i == (i : Int)) = decide (gI p i = (i : Int)) := by
   by_cases c : gI p i = (i : Int) <;> simp [c]
  simp [hg, hi, ix, ld, ki, hdec, sk, hw, -evE_store1]
  simpa using this
end
end Go.Abs

