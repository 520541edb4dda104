/- The texts that the row uses, part 6. -/
import Derived.Test.YtiejbjajbehcfaaDoorBL5
import Derived.AtR
import Derived.Orders
import Derived.KernelRfl
import Derived.Laws.Cells
import Derived.Laws.CopyRow
import Derived.Laws.Append
import Derived.Laws.AppendOwn
import Derived.Laws.Entries
import Derived.ArgAppend
import Derived.ChangeKeysEq
import Derived.WideLaws
import Derived.Laws.Small
import Derived.Laws.StructEq
import Derived.Laws.Cover3
import Derived.Laws.Tables
import Derived.Laws.Rows
import Derived.Below
import Derived.Laws.IdiomCopy
import Derived.RangeFuncNested
import Derived.Test.YtiejbjajbehcfaaDoorProg
import Derived.Test.YtiejbjajbehcfaaDoorRows
import Derived.ProofKit
import Derived.LaidMore
import Derived.OpenShut
import Derived.Stop.Joined
import Derived.ChangeSlices
import Derived.SizedLaws
import Derived.SevenTiedAt
import Derived.WalkKit
import Derived.ShutString
import Derived.ChangeOld
import Derived.Carry
set_option linter.unusedVariables false
set_option linter.unusedSimpArgs false
namespace Go.Abs
open Rd (Cp IsL_one IsL_cells IsL_tail lowO_n)
section
variable {rows : List Row} {ev : AV} {fl : List Int} {m : Nat} {N : Int}
theorem are1 {lo hi x : Int} : Ret F 55 [.int .i64 lo, .int .i64 hi, .slice rows.length 0 1 (.at_ 1)] (rows ++ [.cells [.int .i64 x]]) = some (.bool (decide (lo ≤ x ∧ x ≤ hi)), rows ++ [.cells [.int .i64 x]], none) := by
  have h : IsL (rows ++ [.cells [.int .i64 x]]) (.slice rows.length 0 1 (.at_ 1)) [x] := IsL_mk (n := 0) (l := [x]) (vs := [.int .i64 x]) (by simp) (by simp [seg, nums])
  have := are_ret h (by simp) (lo := lo) (hi := hi)
  simpa using this
theorem openTree_ok {n : Nat} (hgt : row? rows 1 = some (nums .u8 t64)) (he : El rows 2 ev (nums .i64 fl) m) (hfl : fl.length = m * 2) (hn0 : 1 ≤ n) (hn : n ≤ 10) (hm : m + 1 = n) :
    (TreeV fl m n → Ret F 68 [.int .i64 n, ev] rows = some (.tup [.ptr rows.length 0, .int .i64 0], rows ++ [.cells (nums .i64 (tL n (nxI fl m)))], none)) ∧ (¬ TreeV fl m n → Ret F 68 [.int .i64 n, ev] rows = some (.tup [.nilptr, .int .i64 81], rows, none)) := by
  have w : IntKind.i64.wrap ((n : Int) - 1) = m := by rw [wrap64 (by omega) (by omega)]; omega
  have hl := fun L => evP_lenE (El_app he L)
  have h0 : ∀ H : List Row, tL n (nxI fl 0) = (n : Int) :: List.replicate 10 0 := fun _ => rfl
  have hlp := ot_loop (X0 := .cells [.int .i64 n]) hgt he hfl hn0 hn (by omega) _ 0 [] rfl (Nat.zero_le _) (fun j hj => by omega)
  have e0 : nums .i64 (tL n (nxI fl 0)) = [.int .i64 n, .int .i64 0, .int .i64 0, .int .i64 0, .int .i64 0, .int .i64 0, .int .i64 0, .int .i64 0, .int .i64 0, .int .i64 0, .int .i64 0] := rfl
  rw [e0] at hlp
  constructor
  · intro hT
    refine i68 F68 ?_
    simp [are1, show (1 : Int) ≤ n ∧ (n : Int) ≤ 10 by omega, fillA, splice, w, hl, AV.one]
    refine Ex.imp hlp fun r hr => hr.1 hT
  · intro hT
    refine i68 F68 ?_
    simp [are1, show (1 : Int) ≤ n ∧ (n : Int) ≤ 10 by omega, fillA, splice, w, hl, AV.one]
    refine Ex.imp hlp fun r hr => hr.2 hT
/-- newLooks. -/
theorem newLooks_ret {tid : Nat} : Ret F 73 [.ptr tid 0] rows = some (.ptr (rows.length + 1) 0, rows ++ [.mp [], .cells [.ptr tid 0, .map rows.length]], none) := by
  refine i73 F73 ?_
  have h1 : ¬ rows.length + 1 < rows.length := by omega
  simp [fillA, splice]
  simp [fin, h1]
/-- search.Looks, of a tree. -/
theorem Looks_ret {n : Nat} (hgt : row? rows 1 = some (nums .u8 t64)) (he : El rows 2 ev (nums .i64 fl) m) (hfl : fl.length = m * 2) (hn0 : 1 ≤ n) (hn : n ≤ 10) (hm : m + 1 = n) (hT : TreeV fl m n) : Ret F 48 [.int .i64 n, ev] rows = some (.tup [.int .i64 (LL n (nxI fl m) (2 ^ n - 1) : Nat), .int .i64 0], rows, none) := by
  have g1 := (openTree_ok hgt he hfl hn0 hn hm).1 hT
  have hg := nxI_ok hn hT.1
  have hp : 2 ^ n - 1 < 1024 ∧ 0 < 2 ^ n - 1 := by
    have : ∀ n, n < 11 → 1 ≤ n → 2 ^ n - 1 < 1024 ∧ 0 < 2 ^ n - 1 := by decide
    exact this n (by omega) hn0
  generalize nxI fl m = nx at *
  have g2 := newLooks_ret (rows := rows ++ [.cells (nums .i64 (tL n nx))]) (tid := rows.length)
  have hLE : LE n nx rows.length (rows.length + 2) (rows.length + 1) (rows ++ [.cells (nums .i64 (tL n nx))] ++ [.mp [], .cells [.ptr rows.length 0, .map (rows.length + 1)]]) [] := by
    refine ⟨row?_old (row?_old hgt _) _, by simp, ?_, ?_, fun e he => by simp at he, ?_⟩
    · rw [List.append_assoc, row?_at]; rfl
    · rw [List.append_assoc, rows_at]; rfl
    · intro y hy
      rw [List.append_assoc, drop_app] at hy
      simp at hy
      rcases hy with rfl | rfl
      · rfl
      · simp [Row.under, AV.under]
  have g3 := all_ret (n := n) (nx := nx) (tid := rows.length) hLE.tr hn
  obtain ⟨es', d, g4, _, hA⟩ := of_ret hg hn hLE hp.2 hp.1
  simp only [List.length_append, List.length_cons, List.length_nil, List.append_assoc, List.cons_append, List.nil_append] at g2 g3 g4
  refine i48 F48 ?_
  simp [g1, g2, g3, g4, -lowO, lowO_n]
  have hlow : lowO rows.length d = rows.length := by
    rcases hA with ⟨rfl, _⟩ | rfl
    · rfl
    · exact lower_ge (by omega)
  rw [hlow]
  exact fin_val (by simp)
end
end Go.Abs

set_option linter.unusedVariables false
set_option linter.unusedSimpArgs false
namespace Go.Abs
/-- The edges (a, x) with x before b. -/
def rowE (up : Nat → Nat) (a b : Nat) : List (Nat × Nat) := ((List.range b).filter fun x => decide (a < x ∧ up x = a)).map fun x => (a, x)
def eT (up : Nat → Nat) (n a : Nat) : List (Nat × Nat) := (List.range a).flatMap fun a' => rowE up a' n
theorem rowE_succ {up : Nat → Nat} {a b : Nat} (h : a < b) : rowE up a (b + 1) = if up b = a then rowE up a b ++ [(a, b)] else rowE up a b := by
  unfold rowE
  rw [List.range_succ, List.filter_append]
  by_cases e : up b = a
  · simp [e, h]
  · simp [e]
theorem rowE_0 {up : Nat → Nat} {a : Nat} : rowE up a (a + 1) = [] := by
  unfold rowE
  rw [List.map_eq_nil_iff, List.filter_eq_nil_iff]
  intro x hx
  rw [List.mem_range] at hx
  simp
  omega
theorem eT_succ {up : Nat → Nat} {n a : Nat} : eT up n (a + 1) = eT up n a ++ rowE up a n := by
  unfold eT
  rw [List.range_succ, List.flatMap_append]
  simp
theorem mem_rowE {up : Nat → Nat} {a b : Nat} {e : Nat × Nat} : e ∈ rowE up a b ↔ e.1 = a ∧ a < e.2 ∧ e.2 < b ∧ up e.2 = a := by
  unfold rowE
  rw [List.mem_map]
  constructor
  · rintro ⟨x, hx, rfl⟩
    rw [List.mem_filter, List.mem_range] at hx
    simp at hx
    exact ⟨rfl, hx.2.1, hx.1, hx.2.2⟩
  · rintro ⟨h1, h2, h3, h4⟩
    refine ⟨e.2, ?_, by rw [← h1]⟩
    rw [List.mem_filter, List.mem_range]
    simp [h2, h3, h4]
theorem mem_eT {up : Nat → Nat} {n a : Nat} {e : Nat × Nat} : e ∈ eT up n a ↔ e.1 < a ∧ e.1 < e.2 ∧ e.2 < n ∧ up e.2 = e.1 := by
  unfold eT
  rw [List.mem_flatMap]
  constructor
  · rintro ⟨x, hx, h⟩
    rw [List.mem_range] at hx
    obtain ⟨h1, h2, h3, h4⟩ := mem_rowE.1 h
    exact ⟨by omega, by omega, h3, by omega⟩
  · rintro ⟨h1, h2, h3, h4⟩
    exact ⟨e.1, List.mem_range.2 h1, mem_rowE.2 ⟨rfl, h2, h3, h4⟩⟩
theorem eT_len {up : Nat → Nat} {n : Nat} (hn : n ≤ 10) (hn0 : 1 ≤ n) (h0 : up 0 = 0) (hup : ∀ v, 1 ≤ v → v < n → up v < v) : (eT up n n).length + 1 = n := by
  have key : ∀ k, (eT up n k).length = ((List.range n).filter fun x => decide (up x < k ∧ up x < x)).length := by
    intro k
    induction k with
    | zero =>
      have : ((List.range n).filter fun x => decide (up x < 0 ∧ up x < x)) = [] := by
        rw [List.filter_eq_nil_iff]
        intro x _
        simp
      rw [this]
      rfl
    | succ k ih =>
      rw [eT_succ, List.length_append, ih, filt_split (fun x => decide (up x < k + 1 ∧ up x < x)) (fun x => decide (up x < k))]
      congr 1
      · congr 1
        apply List.filter_congr
        intro x _
        by_cases h1 : up x < k <;> by_cases h2 : up x < x <;> simp [h1, h2] <;> omega
      · unfold rowE
        rw [List.length_map]
        congr 1
        apply List.filter_congr
        intro x _
        by_cases h1 : up x = k <;> by_cases h2 : k < x <;> simp [h1, h2] <;> omega
  have e : ((List.range n).filter fun x => decide (up x < n ∧ up x < x)) = (List.range n).filter fun x => decide (0 < x) := by
    apply List.filter_congr
    intro x hx
    rw [List.mem_range] at hx
    by_cases h : x = 0
    · subst h; simp [h0]
    · have := hup x (by omega) hx
      have h1 : up x < n := by omega
      simp [this, h1]
      omega
  rw [key n, e]
  have : ∀ n, n < 11 → 1 ≤ n → ((List.range n).filter fun x => decide (0 < x)).length + 1 = n := by decide
  exact this n (by omega) hn0
def Lx (x y : Nat × Nat) : Prop := x.1 < y.1 ∨ (x.1 = y.1 ∧ x.2 < y.2)
theorem eT_sorted {up : Nat → Nat} {n a : Nat} : (eT up n a).Pairwise Lx := by
  induction a with
  | zero => simp [eT]
  | succ a ih =>
    rw [eT_succ, List.pairwise_append]
    refine ⟨ih, ?_, ?_⟩
    · unfold rowE
      rw [List.pairwise_map]
      refine (List.Pairwise.filter _ List.pairwise_lt_range).imp fun {x y} h => .inr ⟨rfl, h⟩
    · intro x hx y hy
      have h1 := mem_eT.1 hx
      have h2 := mem_rowE.1 hy
      left
      omega
theorem flat_eA {es : List (Nat × Nat)} {j : Nat} (h : j < es.length) : eA (flat es) j = ((gP es j).1 : Int) ∧ eB (flat es) j = ((gP es j).2 : Int) := by
  obtain ⟨h1, h2⟩ := flat_get h
  unfold eA eB
  rw [gI_get (by simp; omega)] at h1 h2
  exact ⟨Option.some.inj h1, Option.some.inj h2⟩
theorem all_tb {n i : Nat} : (2 ^ n - 1).testBit i = decide (i < n) := Nat.testBit_two_pow_sub_one ..
/-- What the statements' tree is: edges that are right, and all places hang together. -/
structure IsTree (n : Nat) (es : List (Nat × Nat)) (up : Nat → Nat) : Prop where
  n0 : 1 ≤ n
  n10 : n ≤ 10
  len : es.length + 1 = n
  mem : ∀ e, e ∈ es ↔ e.1 < e.2 ∧ e.2 < n ∧ up e.2 = e.1
  up : ∀ v, 1 ≤ v → v < n → up v < v
  tv : TreeV (flat es) es.length n
/-- A tree's neighbours. -/
def nxT (es : List (Nat × Nat)) : Nat → Nat := nxI (flat es) es.length
theorem eT_VE {up : Nat → Nat} {n : Nat} : ∀ j, j < (eT up n n).length → VE (flat (eT up n n)) n j := by
  intro j hj
  obtain ⟨h1, h2⟩ := flat_eA hj
  have hm := mem_eT.1 (gP_mem hj)
  unfold VE
  rw [h1, h2]
  refine ⟨by omega, by omega, by omega, fun h0 => ?_⟩
  obtain ⟨h3, h4⟩ := flat_eA (es := eT up n n) (j := j - 1) (by omega)
  rw [h3, h4]
  have hp := List.pairwise_iff_getElem.1 (eT_sorted (up := up) (n := n) (a := n)) (j - 1) j (by omega) hj (by omega)
  have e1 : (eT up n n)[j - 1] = gP (eT up n n) (j - 1) := by simp [gP, show j - 1 < (eT up n n).length by omega]
  have e2 : (eT up n n)[j] = gP (eT up n n) j := by simp [gP, hj]
  rw [e1, e2] at hp
  unfold cmp2
  rcases hp with hp | ⟨hp, hp2⟩
  · rw [if_pos (by omega)]; omega
  · rw [if_neg (by omega), if_neg (by omega), if_pos (by omega)]; omega
theorem nxT_tb {es : List (Nat × Nat)} {n : Nat} (hV : ∀ j, j < es.length → VE (flat es) n j) (v w : Nat) : (nxT es v).testBit w = true ↔ (v, w) ∈ es ∨ (w, v) ∈ es := by
  unfold nxT
  rw [nxI_tb _ hV]
  constructor
  · rintro ⟨j, hj, h⟩
    obtain ⟨h1, h2⟩ := flat_eA hj
    rw [h1, h2] at h
    have hm := gP_mem hj
    rcases h with ⟨h3, h4⟩ | ⟨h3, h4⟩
    · left
      have : gP es j = (v, w) := Prod.ext (by simpa using h3) (by simpa using h4)
      rwa [this] at hm
    · right
      have : gP es j = (w, v) := Prod.ext (by simpa using h4) (by simpa using h3)
      rwa [this] at hm
  · rintro (h | h)
    · obtain ⟨j, hj⟩ := List.mem_iff_getElem?.1 h
      have hl := (List.getElem?_eq_some_iff.1 hj).1
      obtain ⟨h1, h2⟩ := flat_eA hl
      rw [gP_get hl] at hj
      have := Option.some.inj hj
      refine ⟨j, hl, .inl ?_⟩
      rw [h1, h2, this]; simp
    · obtain ⟨j, hj⟩ := List.mem_iff_getElem?.1 h
      have hl := (List.getElem?_eq_some_iff.1 hj).1
      obtain ⟨h1, h2⟩ := flat_eA hl
      rw [gP_get hl] at hj
      have := Option.some.inj hj
      refine ⟨j, hl, .inr ?_⟩
      rw [h1, h2, this]; simp
theorem nxT_edg {es : List (Nat × Nat)} {n : Nat} (hn : n ≤ 10) (hV : ∀ j, j < es.length → VE (flat es) n j) : Edg (nxT es) es := by
  refine ⟨fun e he => ?_, fun e he => ⟨(nxT_tb hV _ _).2 (.inl he), (nxT_tb hV _ _).2 (.inr he)⟩, fun i j h => (nxT_tb hV i j).1 h⟩
  obtain ⟨j, hj⟩ := List.mem_iff_getElem?.1 he
  have hl := (List.getElem?_eq_some_iff.1 hj).1
  obtain ⟨h1, h2⟩ := flat_eA hl
  rw [gP_get hl] at hj
  have := Option.some.inj hj
  obtain ⟨v1, v2, v3, _⟩ := hV j hl
  rw [h1, h2, this] at *
  omega
theorem eT_tree {up : Nat → Nat} {n : Nat} (hn0 : 1 ≤ n) (hn : n ≤ 10) (h0 : up 0 = 0) (hup : ∀ v, 1 ≤ v → v < n → up v < v) : IsTree n (eT up n n) up := by
  have hV := eT_VE (up := up) (n := n)
  refine ⟨hn0, hn, eT_len hn hn0 h0 hup, fun e => ?_, hup, hV, ?_⟩
  · rw [mem_eT]
    constructor
    · rintro ⟨_, h⟩; exact h
    · intro h; exact ⟨by omega, h⟩
  · have hg := nxI_ok hn hV
    have hp : 2 ^ n - 1 < 1024 := by
      have : ∀ n, n < 11 → 2 ^ n - 1 < 1024 := by decide
      exact this n (by omega)
    have hc := (cmp_ok (nx := nxI (flat (eT up n n)) (eT up n n).length) hg hp (v := 0) (by omega)).1
    generalize cmp (nxI (flat (eT up n n)) (eT up n n).length) (2 ^ n - 1) 0 = c at hc
    refine Sub.anti (hc.sub (by rw [all_tb]; simp; omega)) fun v hv => ?_
    rw [all_tb] at hv
    have hv : v < n := by simpa using hv
    have : ∀ k v, v ≤ k → v < n → c.testBit v = true := by
      intro k
      induction k with
      | zero => intro v h1 _; rw [show v = 0 from by omega]; exact hc.at_
      | succ k ih =>
        intro v h1 h2
        by_cases e : v = 0
        · rw [e]; exact hc.at_
        · have hu := hup v (by omega) h2
          have h3 := ih (up v) (by omega) (by omega)
          exact hc.cl (up v) v h3 ((nxT_tb hV _ _).2 (.inl (mem_eT.2 ⟨by omega, hu, h2, rfl⟩))) (by rw [all_tb]; simpa using h2)
    exact this v v (Nat.le_refl v) hv
end Go.Abs

set_option linter.unusedVariables false
set_option linter.unusedSimpArgs false
namespace Go.Abs
open Rd (Cp IsL_one IsL_cells IsL_tail lowO_n)
def accV2 (rows H : List Row) (l : List (Nat × Nat)) : AV :=
  match l with
  | [] => .nilslice
  | _ => .slice (rows.length + H.length) 0 l.length (.op 2)
def accR2 (H : List Row) (l : List (Nat × Nat)) : List Row :=
  match l with
  | [] => H
  | _ => H ++ [.cells (nums .i64 (flat l))]
theorem flat_app {l m : List (Nat × Nat)} : flat (l ++ m) = flat l ++ flat m := by simp [flat]
theorem acc2_app {rows H : List Row} {l : List (Nat × Nat)} {a b : Nat} (hl : l.length < 1000000) : ∃ H', evE (rows ++ (accR2 H l ++ [.cells [.int .i64 a, .int .i64 b]])) rows.length (.app 2 16 (.c (accV2 rows H l)) (.c (.slice (rows.length + (accR2 H l).length) 0 1 (.at_ 1)))) = some (accV2 rows H' (l ++ [(a, b)]), rows ++ accR2 H' (l ++ [(a, b)]), rows.length) ∧ (H.all (Row.under 0) = true → H'.all (Row.under 0) = true) ∧ ∃ X, H' = H ++ X := by
  have htmp : El (rows ++ (accR2 H l ++ [.cells [.int .i64 a, .int .i64 b]])) 2 (.slice (rows.length + (accR2 H l).length) 0 1 (.at_ 1)) [.int .i64 a, .int .i64 b] 1 := by
    have : row? (rows ++ (accR2 H l ++ [Row.cells [.int .i64 a, .int .i64 b]])) (rows.length + (accR2 H l).length) = some [.int .i64 a, .int .i64 b] := by unfold row?; simp
    unfold El elems
    simp only [this]
    rfl
  cases l with
  | nil =>
    refine ⟨H ++ [.cells [.int .i64 a, .int .i64 b]], ?_, fun h => by simp only [List.all_append, h]; simp [Row.under, AV.under], _, rfl⟩
    have := app_nil (b := 16) (low := rows.length) htmp (by omega) (by simp [lim])
    simp only [accR2, accV2, List.nil_append] at this ⊢
    rw [this]
    simp [flat, nums]
  | cons y l =>
    have hc : cells? (rows ++ (accR2 H (y :: l) ++ [.cells [.int .i64 a, .int .i64 b]])) (rows.length + H.length) = some (nums .i64 (flat (y :: l))) := by
      unfold cells?
      rw [rows_at]
      simp [accR2]
    have hs : seg (nums .i64 (flat (y :: l))) 0 ((y :: l).length * 2) = some (nums .i64 (flat (y :: l))) := nums_all flat_len
    have := app_op (b := 16) (low := rows.length) hc hs htmp (by omega) (by simp [lim] at *; omega)
    refine ⟨H ++ [.dead, .cells [.int .i64 a, .int .i64 b]], ?_, fun h => by simp only [List.all_append, h]; simp [Row.under, AV.under], _, rfl⟩
    simp only [accV2, accR2] at this ⊢
    rw [this]
    rw [lower_ge (by omega), rows_set, flat_app]
    simp [flat, nums]
theorem acc2_fin {rows H : List Row} {l : List (Nat × Nat)} {x : Int} : fin rows (.tup [.int .i64 x, accV2 rows H l]) (rows ++ accR2 H l) rows.length = (.tup [.int .i64 x, accV2 rows [] l], rows ++ accR2 [] l, none) := by
  cases l with
  | nil => simp [accV2, accR2, fin]
  | cons y l =>
    have : ¬ rows.length + H.length < rows.length := by omega
    simp [accV2, accR2, fin, AV.plain1, AV.plain, AV.ren1, AV.ren, this]
theorem acc2_P {rows : List Row} {l : List (Nat × Nat)} : IsP (rows ++ accR2 [] l) (accV2 rows [] l) l := by
  cases l with
  | nil => rfl
  | cons y l =>
    unfold IsP El elems
    have : row? (rows ++ accR2 [] (y :: l)) rows.length = some (nums .i64 (flat (y :: l))) := by simp [accR2]
    simp only [accV2, List.length_nil, Nat.add_zero, this]
    rw [nums_all flat_len]; rfl
/-- A place's parent. -/
def upT (l : List Int) (v : Nat) : Nat := if v = 0 then 0 else if v - 1 < l.length then ((IntKind.u64.wrap (gI l (v - 1))).tmod v).toNat else v - 1
theorem upT_lt {l : List Int} {v : Nat} (h : 1 ≤ v) (hv : v < 100) : upT l v < v := by
  unfold upT
  rw [if_neg (by omega)]
  split
  · obtain ⟨u, hu, hu1⟩ := umodI (x := gI l (v - 1)) (m := (v : Int)) (by omega) (by omega)
    have h1 : 0 ≤ IntKind.u64.wrap (gI l (v - 1)) := by
      unfold IntKind.wrap
      simp [IntKind.signed, IntKind.bits]
      omega
    have h2 := Int.tmod_lt_of_pos (IntKind.u64.wrap (gI l (v - 1))) (show (0 : Int) < v by omega)
    have h3 := Int.tmod_nonneg (v : Int) h1
    omega
  · omega
end Go.Abs

set_option linter.unusedVariables false
set_option linter.unusedSimpArgs false
namespace Go.Abs
open Rd (Cp IsL_one IsL_cells IsL_tail lowO_n)
section
variable {rows : List Row} {lv : AV} {l : List Int}
def upL (l : List Int) (n v : Nat) : List Int := (List.range n).map fun i => if i < v then ((upT l i : Nat) : Int) else 0
@[simp] theorem upL_len {l : List Int} {n v : Nat} : (upL l n v).length = n := by simp [upL]
theorem upL_set {l : List Int} {n v : Nat} (hv : v < n) : (upL l n v).set v ((upT l v : Nat) : Int) = upL l n (v + 1) := by
  unfold upL
  apply List.ext_getElem?
  intro j
  rw [List.getElem?_set, List.getElem?_map, List.getElem?_map]
  by_cases hj : j < n
  · rw [List.getElem?_range hj]
    by_cases e : v = j
    · subst e; simp [hj]
    · by_cases e2 : j < v
      · simp [e, e2, show j < v + 1 by omega]
      · simp [e, e2, show ¬ j < v + 1 by omega]
  · rw [List.getElem?_eq_none (by simp; omega)]
    by_cases e : v = j
    · omega
    · simp [e]
theorem upL_get {l : List Int} {n v i : Nat} (hi : i < n) : (upL l n v)[i]? = some (if i < v then ((upT l i : Nat) : Int) else 0) := by
  simp [upL, hi]
theorem upL_1 {l : List Int} {n : Nat} : List.replicate n 0 = upL l n 1 := by
  apply List.ext_getElem?
  intro j
  rw [List.getElem?_replicate]
  by_cases hj : j < n
  · rw [upL_get hj]
    by_cases h0 : j = 0
    · subst h0; simp [hj, upT]
    · simp [hj, show ¬ j = 0 from h0]
  · rw [List.getElem?_eq_none (by simp; omega)]; simp [hj]
theorem upT_last {l : List Int} {v : Nat} (h : 1 ≤ v) (hl : ¬ v - 1 < l.length) : upT l v = v - 1 := by
  unfold upT
  rw [if_neg (by omega), if_neg hl]
theorem upT_mod {l : List Int} {v : Nat} (h : 1 ≤ v) (hv : v < 100) (hl : v - 1 < l.length) : IntKind.i64.wrap ((IntKind.u64.wrap (gI l (v - 1))).tmod v) = ((upT l v : Nat) : Int) := by
  obtain ⟨u, hu, hu1⟩ := umodI (x := gI l (v - 1)) (m := (v : Int)) (by omega) (by omega)
  have h1 : 0 ≤ IntKind.u64.wrap (gI l (v - 1)) := by
    unfold IntKind.wrap
    simp [IntKind.signed, IntKind.bits]
    omega
  have h2 := Int.tmod_lt_of_pos (IntKind.u64.wrap (gI l (v - 1))) (show (0 : Int) < v by omega)
  have h3 := Int.tmod_nonneg (v : Int) h1
  unfold upT
  rw [if_neg (by omega), if_pos hl, wrap64 (by omega) (by omega)]
  omega
theorem tree_up {n : Nat} {c : Cap} {r : AV × List Row × Nat → Prop} (hn0 : 1 ≤ n) (hn : n ≤ 10) (hl : IsL rows lv l)
    (hk : Lc39l2 F (.fn [.t 4, .t 5]) (.int .i64 n) (.slice rows.length 0 n c) .nilslice (.int .i64 0) (rows ++ [.cells (nums .i64 (upL l n n))]) rows.length r) : ∀ (d v : Nat), n - v = d → 1 ≤ v → v ≤ n →
    Lc39l22 F (.fn [.t 4, .t 5]) (.int .i64 n) lv (.slice rows.length 0 n c) (.int .i64 v) (rows ++ [.cells (nums .i64 (upL l n v))]) rows.length r := by
  intro d
  induction d with
  | zero =>
    intro v hd h0 h1
    have hv : v = n := by omega
    subst hv
    unfold Lc39l22
    simp
    exact hk
  | succ d ih =>
    intro v hd h0 h1
    have hvn : v < n := by omega
    have w1 : IntKind.i64.wrap ((v : Int) + 1) = v + 1 := wrap64 (by omega) (by omega)
    have w2 : IntKind.i64.wrap ((v : Int) - 1) = ((v - 1 : Nat) : Int) := by rw [wrap64 (by omega) (by omega)]; omega
    have u1 : IntKind.u64.wrap (v : Int) = v := wrapU64 (by omega) (by omega)
    have hlen := fun L => lenL0 (IsL_app hl L)
    have := ih (v + 1) (by omega) (by omega) (by omega)
    unfold Lc39l22
    by_cases hv1 : v - 1 < l.length
    · have i1 := fun L => idxL0 (IsL_app hl L) (k := .i64) (i := ((v - 1 : Nat) : Int)) (by omega) (by omega)
      have i2 := fun L => loadL0 (IsL_app hl L) (j := v - 1) hv1
      have hm := upT_mod h0 (by omega) hv1
      have hs := upL_set (l := l) hvn
      simp only [Int.toNat_natCast] at i1
      simp [hvn, w2, hlen, hv1, i1, i2, u1, hm, w1, hs, show ¬ v = 0 by omega]
      simpa using this
    · have hm := upT_last h0 hv1
      have hs := upL_set (l := l) hvn
      rw [hm] at hs
      simp [hvn, w2, hlen, hv1, w1, hs]
      simpa using this
theorem tree_b {n a : Nat} {c : Cap} {r : AV × List Row × Nat → Prop} (hn0 : 1 ≤ n) (hn : n ≤ 10) (ha : a < n) {Y : Row}
    (hk : ∀ X, (X.all (Row.under 0) = true) → Lc39l2 F (.fn [.t 4, .t 5]) (.int .i64 n) (.slice rows.length 0 n c) (accV2 rows (.cells (nums .i64 (upL l n n)) :: X) (eT (upT l) n (a + 1))) (.int .i64 ((a : Int) + 1)) (rows ++ accR2 (.cells (nums .i64 (upL l n n)) :: X) (eT (upT l) n (a + 1))) rows.length r) : ∀ (d b : Nat) (X : List Row), X.all (Row.under 0) = true → n - b = d → a + 1 ≤ b → b ≤ n →
    Lc39l4 F (.fn [.t 4, .t 5]) (.int .i64 n) (.slice rows.length 0 n c) (accV2 rows (.cells (nums .i64 (upL l n n)) :: X) (eT (upT l) n a ++ rowE (upT l) a b)) (.int .i64 a) (.int .i64 b) (rows ++ accR2 (.cells (nums .i64 (upL l n n)) :: X) (eT (upT l) n a ++ rowE (upT l) a b)) rows.length r := by
  have w1 : IntKind.i64.wrap ((a : Int) + 1) = a + 1 := wrap64 (by omega) (by omega)
  intro d
  induction d with
  | zero =>
    intro b X hX hd h0 h1
    have hb : b = n := by omega
    subst hb
    have := hk X hX
    rw [eT_succ] at this
    unfold Lc39l4
    simp [w1]
    exact this
  | succ d ih =>
    intro b X hX hd h0 h1
    have hbn : b < n := by omega
    have w2 : IntKind.i64.wrap ((b : Int) + 1) = b + 1 := wrap64 (by omega) (by omega)
    have hre := rowE_succ (up := upT l) (a := a) (b := b) (by omega)
    have hlen : (eT (upT l) n a ++ rowE (upT l) a b).length < 1000000 := by
      have h1 : (rowE (upT l) a b).length ≤ b := by
        unfold rowE
        rw [List.length_map]
        exact Nat.le_trans (List.length_filter_le _ _) (by simp)
      have h2 : ∀ k, (eT (upT l) n k).length ≤ k * n := by
        intro k
        induction k with
        | zero => simp [eT]
        | succ k ihk =>
          rw [eT_succ, List.length_append]
          have : (rowE (upT l) k n).length ≤ n := by
            unfold rowE
            rw [List.length_map]
            exact Nat.le_trans (List.length_filter_le _ _) (by simp)
          rw [Nat.succ_mul]
          omega
      have := h2 a
      have h3 : a * n ≤ 10 * 10 := Nat.mul_le_mul (by omega) hn
      rw [List.length_append]
      omega
    generalize eT (upT l) n a = es at *
    have hr0 : row? (accR2 (.cells (nums .i64 (upL l n n)) :: X) (es ++ rowE (upT l) a b)) 0 = some (nums .i64 (upL l n n)) := by
      unfold accR2
      split <;> simp [row?]
    have g1 : (upL l n n)[b]? = some ((upT l b : Nat) : Int) := by simp [upL, hbn]
    have g2 : ∀ h, (upL l n n)[b]'h = ((upT l b : Nat) : Int) := fun h => Option.some.inj ((List.getElem?_eq_getElem h).symm.trans g1)
    by_cases he : upT l b = a
    · rw [if_pos he] at hre
      obtain ⟨H', k1, k2, X2, k3⟩ := acc2_app (rows := rows) (H := .cells (nums .i64 (upL l n n)) :: X) (a := a) (b := b) hlen
      subst k3
      have hX2 : (X ++ X2).all (Row.under 0) = true := by
        have := k2 (by simp only [List.all_cons, hX]; simp [Row.under, AV.under, nums])
        rw [List.cons_append, List.all_cons, Bool.and_eq_true] at this
        exact this.2
      have := ih (b + 1) (X ++ X2) hX2 (by omega) (by omega) (by omega)
      rw [hre] at this
      unfold Lc39l4
      simp only [List.cons_append, List.append_assoc] at *
      generalize accV2 rows (Row.cells (nums .i64 (upL l n n)) :: X) (es ++ rowE (upT l) a b) = ov at *
      generalize accR2 (Row.cells (nums .i64 (upL l n n)) :: X) (es ++ rowE (upT l) a b) = oR at *
      simp [hbn, hr0, g1, g2, he, fillA, splice, k1, w2]
      simpa using this
    · rw [if_neg he] at hre
      have := ih (b + 1) X hX (by omega) (by omega) (by omega)
      rw [hre] at this
      have he' : ¬ ((upT l b : Nat) : Int) = a := by omega
      unfold Lc39l4
      generalize accV2 rows (Row.cells (nums .i64 (upL l n n)) :: X) (es ++ rowE (upT l) a b) = ov at *
      generalize accR2 (Row.cells (nums .i64 (upL l n n)) :: X) (es ++ rowE (upT l) a b) = oR at *
      simp [hbn, hr0, g1, g2, he, he', w2]
      simpa using this
theorem tree_a {n : Nat} {c : Cap} (hn0 : 1 ≤ n) (hn : n ≤ 10) : ∀ (d a : Nat) (X : List Row), X.all (Row.under 0) = true → n - a = d → a ≤ n →
    Lc39l2 F (.fn [.t 4, .t 5]) (.int .i64 n) (.slice rows.length 0 n c) (accV2 rows (.cells (nums .i64 (upL l n n)) :: X) (eT (upT l) n a)) (.int .i64 a) (rows ++ accR2 (.cells (nums .i64 (upL l n n)) :: X) (eT (upT l) n a)) rows.length (fun r => fin rows r.1 r.2.1 r.2.2 = (.tup [.int .i64 n, accV2 rows [] (eT (upT l) n n)], rows ++ accR2 [] (eT (upT l) n n), none)) := by
  intro d
  induction d with
  | zero =>
    intro a X hX hd h1
    have ha : a = n := by omega
    subst ha
    unfold Lc39l2
    simp
    exact acc2_fin
  | succ d ih =>
    intro a X hX hd h1
    have ha : a < n := by omega
    have w1 : IntKind.i64.wrap ((a : Int) + 1) = a + 1 := wrap64 (by omega) (by omega)
    have := tree_b (rows := rows) (l := l) (c := c) (r := fun r => fin rows r.1 r.2.1 r.2.2 = (.tup [.int .i64 n, accV2 rows [] (eT (upT l) n n)], rows ++ accR2 [] (eT (upT l) n n), none)) (Y := .dead) hn0 hn ha (fun X hX => by
      have := ih (a + 1) X hX (by omega) (by omega)
      simpa using this) _ (a + 1) X hX rfl (Nat.le_refl _) (by omega)
    rw [rowE_0, List.append_nil] at this
    unfold Lc39l2
    simp [ha, w1]
    simpa using this
/-- The statements' tree: how many nodes. -/
def nT (x : Int) : Nat := 1 + ((IntKind.u64.wrap x).tmod 10).toNat
theorem nT_ok (x : Int) : 1 ≤ nT x ∧ nT x ≤ 10 ∧ IntKind.i64.wrap (1 + IntKind.i64.wrap ((IntKind.u64.wrap x).tmod 10)) = (nT x : Nat) := by
  obtain ⟨u, hu, hu1⟩ := umodI (x := x) (m := 10) (by omega) (by omega)
  have h1 : 0 ≤ IntKind.u64.wrap x := by
    unfold IntKind.wrap
    simp [IntKind.signed, IntKind.bits]
    omega
  have h2 := Int.tmod_lt_of_pos (IntKind.u64.wrap x) (show (0 : Int) < 10 by omega)
  have h3 := Int.tmod_nonneg 10 h1
  unfold nT
  refine ⟨by omega, by omega, ?_⟩
  rw [wrap64 (n := (IntKind.u64.wrap x).tmod 10) (by omega) (by omega), wrap64 (by omega) (by omega)]
  omega
def esT (x : Int) (l : List Int) : List (Nat × Nat) := eT (upT l) (nT x) (nT x)
theorem esT_tree (x : Int) (l : List Int) : IsTree (nT x) (esT x l) (upT l) := by
  obtain ⟨h1, h2, _⟩ := nT_ok x
  exact eT_tree h1 h2 (by simp [upT]) fun v h3 h4 => upT_lt h3 (by omega)
/-- tree. -/
theorem tree_ret {x : Int} (hl : IsL rows lv l) : Ret F 39 [.int .i64 x, lv] rows = some (.tup [.int .i64 (nT x : Nat), accV2 rows [] (esT x l)], rows ++ accR2 [] (esT x l), none) := by
  obtain ⟨h1, h2, h3⟩ := nT_ok x
  unfold esT
  generalize nT x = n at *
  have e1 := tree_a (rows := rows) (l := l) (n := n) (c := .at_ n) h1 h2 _ 0 [] rfl rfl (Nat.zero_le _)
  have e2 := tree_up (c := .at_ n) h1 h2 hl e1 _ 1 rfl (Nat.le_refl _) h1
  rw [← upL_1] at e2
  refine i39 F39 ?_
  have hl2 : n ≤ lim := by simp [lim]; omega
  simp [h3, hl2]
  simpa [nums] using e2
end
end Go.Abs

set_option linter.unusedVariables false
set_option linter.unusedSimpArgs false
namespace Go.Abs
open Rd (Cp IsL_one IsL_cells IsL_tail lowO_n)
section
variable {rows : List Row} {ev mv : AV} {N e : Int}
end
def pE (fl : List Int) (m : Nat) : List (Nat × Nat) := (List.range m).map fun i => ((eA fl i).toNat, (eB fl i).toNat)
@[simp] theorem pE_len {fl : List Int} {m : Nat} : (pE fl m).length = m := by simp [pE]
section
variable {rows : List Row} {ev : AV} {fl : List Int} {m n : Nat} {N : Int}
end
end Go.Abs

set_option linter.unusedVariables false
set_option linter.unusedSimpArgs false
namespace Go.Abs
open Rd (Cp IsL_one IsL_cells IsL_tail lowO_n)
/-- The places, of the first k, with marks that are not greater. -/
def lowS (ml : List Int) (m : Int) : Nat → Nat
  | 0 => 0
  | k + 1 => if gI ml k ≤ m then sU (lowS ml m k) (sB k) else lowS ml m k
def ownS (ml : List Int) (m : Int) : Nat → Nat
  | 0 => 0
  | k + 1 => if gI ml k = m then sU (ownS ml m k) (sB k) else ownS ml m k
theorem lowS_tb {ml : List Int} {m : Int} {i : Nat} : ∀ k, (lowS ml m k).testBit i = true ↔ i < k ∧ gI ml i ≤ m
  | 0 => by simp [lowS]
  | k + 1 => by
    have ih := lowS_tb (ml := ml) (m := m) (i := i) k
    unfold lowS
    by_cases h : gI ml k ≤ m
    · rw [if_pos h, tb_U, tb_B]
      by_cases e : k = i
      · subst e; simp [h]
      · simp only [e, decide_false, Bool.or_false]
        rw [ih]
        omega
    · rw [if_neg h, ih]
      by_cases e : k = i
      · subst e; omega
      · omega
theorem ownS_tb {ml : List Int} {m : Int} {i : Nat} : ∀ k, (ownS ml m k).testBit i = true ↔ i < k ∧ gI ml i = m
  | 0 => by simp [ownS]
  | k + 1 => by
    have ih := ownS_tb (ml := ml) (m := m) (i := i) k
    unfold ownS
    by_cases h : gI ml k = m
    · rw [if_pos h, tb_U, tb_B]
      by_cases e : k = i
      · subst e; simp [h]
      · simp only [e, decide_false, Bool.or_false]
        rw [ih]
        omega
    · rw [if_neg h, ih]
      by_cases e : k = i
      · subst e
        exact ⟨fun h1 => absurd h1.1 (by omega), fun h1 => absurd h1.2 h⟩
      · omega
theorem lt_of_tb {x n : Nat} (h : ∀ i, x.testBit i = true → i < n) : x < 2 ^ n := Nat.lt_pow_two_of_testBit x fun i hi => by
  cases hx : x.testBit i with
  | false => rfl
  | true => have := h i hx; omega
theorem lowS_lt {ml : List Int} {m : Int} (k : Nat) : lowS ml m k < 2 ^ k := lt_of_tb fun i hi => ((lowS_tb k).1 hi).1
theorem ownS_lt {ml : List Int} {m : Int} (k : Nat) : ownS ml m k < 2 ^ k := lt_of_tb fun i hi => ((ownS_tb k).1 hi).1
theorem lt1024 {x k : Nat} (h : x < 2 ^ k) (hk : k ≤ 10) : x < 1024 := Nat.lt_of_lt_of_le h (show 2 ^ k ≤ 2 ^ 10 from Nat.pow_le_pow_right (by omega) hk)
/-- What is reached from a place without greater marks has its mark only once. -/
def AM1 (nx : Nat → Nat) (ml : List Int) (n i : Nat) : Prop := ∀ k, (cmp nx (lowS ml (gI ml i) n) i).testBit k = true → k ≠ i → gI ml k ≠ gI ml i
def AM (nx : Nat → Nat) (ml : List Int) (n : Nat) : Prop := ml.length = n ∧ (∀ x ∈ ml, 0 ≤ x ∧ x ≤ 10) ∧ ∀ i, i < n → AM1 nx ml n i
section
variable {rows : List Row} {nx : Nat → Nat} {n : Nat} {ml : List Int} {mv : AV}
end
end Go.Abs

set_option linter.unusedVariables false
set_option linter.unusedSimpArgs false
namespace Go.Abs
open Rd (Cp IsL_one IsL_cells IsL_tail lowO_n)
theorem IsC.move {nx : Nat → Nat} {s v w c : Nat} (hg : GOK nx) (h : IsC nx s v c) (hv : s.testBit v = true) (hw : c.testBit w = true) : IsC nx s w c := by
  have hcs := h.sub hv
  refine ⟨hw, h.cl, fun D hD hcl => ?_⟩
  by_cases hDv : D.testBit v = true
  · exact h.least D hDv hcl
  · exfalso
    have := h.least (sD c D) (by rw [tb_D, h.at_]; simpa using hDv) (fun i j h1 h2 h3 => by
      rw [tb_D, Bool.and_eq_true] at h1 ⊢
      refine ⟨h.cl i j h1.1 h2 h3, ?_⟩
      cases hj : D.testBit j with
      | false => rfl
      | true =>
        have := hcl j i hj (by rw [hg.sym j i]; exact h2) (hcs i h1.1)
        rw [this] at h1
        exact absurd h1.2 (by simp)) w hw
    rw [tb_D, hD] at this
    simp at this
theorem IsC.sub_D {nx : Nat → Nat} {s c v d : Nat} (hg : GOK nx) (hc : Clo nx s c) (h : IsC nx (sD s c) v d) (hv : (sD s c).testBit v = true) : IsC nx s v d := by
  have hds := h.sub hv
  refine ⟨h.at_, fun i j h1 h2 h3 => ?_, fun D hD hcl => h.least D hD fun i j h1 h2 h3 => hcl i j h1 h2 (by rw [tb_D, Bool.and_eq_true] at h3; exact h3.1)⟩
  have hi := hds i h1
  rw [tb_D, Bool.and_eq_true] at hi
  refine h.cl i j h1 h2 ?_
  rw [tb_D, h3]
  cases hj : c.testBit j with
  | false => rfl
  | true =>
    have := hc j i hj (by rw [hg.sym j i]; exact h2) hi.1
    rw [this] at hi
    exact absurd hi.2 (by simp)
theorem PT_comp {nx : Nat → Nat} (hg : GOK nx) : ∀ (k s : Nat), s < 1024 → cnt s ≤ k → ∀ p, p ∈ PT nx k s ↔ ∃ v, s.testBit v = true ∧ IsC nx s v p
  | 0, s, hs, hk, p => by
    have h0 : s = 0 := by
      rcases Nat.eq_zero_or_pos s with e | e
      · exact e
      · have := cnt_pos hs e; omega
    subst h0
    simp [PT]
  | k + 1, s, hs, hk, p => by
    by_cases h0 : s = 0
    · subst h0; simp [PT]
    · obtain ⟨p1, p2, p3, p4⟩ := part_first hg hs (show 0 < s by omega)
      obtain ⟨t1, t2, _⟩ := tz_lt s hs (by omega)
      have ih := PT_comp hg k (sD s (cmp nx s (tz s))) (D_lt10 hs) (by omega) p
      unfold PT
      rw [if_neg h0, List.mem_cons, ih]
      generalize cmp nx s (tz s) = c at *
      constructor
      · rintro (rfl | ⟨v, h1, h2⟩)
        · exact ⟨tz s, t2, p1⟩
        · have h3 := h2.sub_D hg p1.cl h1
          rw [tb_D, Bool.and_eq_true] at h1
          exact ⟨v, h1.1, h3⟩
      · rintro ⟨v, h1, h2⟩
        by_cases hv : c.testBit v = true
        · left
          exact h2.unique (p1.move hg t2 hv)
        · right
          have hvD : (sD s c).testBit v = true := by rw [tb_D, h1]; simpa using hv
          have hv10 : v < 10 := by
            rcases Nat.lt_or_ge v 10 with h | h
            · exact h
            · rw [tb_n (n := 10) hs h] at h1; cases h1
          have h4 := (cmp_ok hg (D_lt10 (b := c) hs) hv10).1
          have h5 := h4.sub_D hg p1.cl hvD
          have := h2.unique h5
          rw [this]
          exact ⟨v, hvD, h4⟩
theorem cnt_le1 {x : Nat} (hx : x < 1024) : cnt x ≤ 1 ↔ ∀ i j, x.testBit i = true → x.testBit j = true → i = j := by
  constructor
  · intro h i j hi hj
    refine Classical.byContradiction fun hne => ?_
    have hi10 : i < 10 := by
      rcases Nat.lt_or_ge i 10 with h | h
      · exact h
      · rw [tb_n (n := 10) hx h] at hi; cases hi
    have h1 := cnt_lt (a := sB i) hx (B_sub hi) (fun e => by rw [← e, tb_B] at hj; exact hne (by simpa using hj))
    rw [cnt_B i hi10] at h1
    omega
  · intro h
    rcases Nat.eq_zero_or_pos x with e | e
    · subst e; decide
    · obtain ⟨t1, t2, _⟩ := tz_lt x hx e
      have : x = sB (tz x) := by
        apply nat_ext
        intro i
        rw [tb_B]
        cases hxi : x.testBit i with
        | true => rw [h (tz x) i t2 hxi]; simp
        | false =>
          by_cases e : tz x = i
          · rw [← e, t2] at hxi; cases hxi
          · simp [e]
      rw [this, cnt_B _ t1]
      exact Nat.le_refl _
/-- What R.Marks asks of a mark. -/
def RM1 (nx : Nat → Nat) (ml : List Int) (n : Nat) (m : Int) : Prop := ∀ p ∈ PT nx 10 (lowS ml m n), cnt (sI p (ownS ml m n)) ≤ 1
theorem RM_AM {nx : Nat → Nat} {ml : List Int} {n : Nat} (hg : GOK nx) (hn : n ≤ 10) (hl : ml.length = n) (hr : ∀ x ∈ ml, 0 ≤ x ∧ x ≤ 10) : (∀ m : Nat, m ≤ 10 → RM1 nx ml n m) ↔ ∀ i, i < n → AM1 nx ml n i := by
  have low10 := fun m => lt1024 (lowS_lt (ml := ml) (m := m) n) hn
  constructor
  · intro h i hi k hk hne he
    have hm : gI ml i ∈ ml := List.mem_of_getElem? (gI_get (by omega))
    have hr := hr _ hm
    have := h (gI ml i).toNat (by omega)
    rw [show (((gI ml i).toNat : Nat) : Int) = gI ml i from by omega] at this
    have hco := (cmp_ok hg (low10 (gI ml i)) (v := i) (by omega))
    have hbi : (lowS ml (gI ml i) n).testBit i = true := (lowS_tb n).2 ⟨hi, Int.le_refl _⟩
    have hp := (PT_comp hg 10 _ (low10 (gI ml i)) (cnt_10 _ (low10 (gI ml i))) _).2 ⟨i, hbi, hco.1⟩
    have h2 := (cnt_le1 (I_lt10 hco.2)).1 (this _ hp) k i (by
      rw [tb_I, hk, (ownS_tb n).2 ⟨((lowS_tb n).1 (hco.1.sub hbi k hk)).1, he⟩]; rfl) (by
      rw [tb_I, hco.1.at_, (ownS_tb n).2 ⟨hi, rfl⟩]; rfl)
    exact hne h2
  · intro h m hm p hp
    obtain ⟨v, hv, hc⟩ := (PT_comp hg 10 _ (low10 m) (cnt_10 _ (low10 m)) _).1 hp
    have hp10 : p < 1024 := (hc.sub hv).lt (low10 m)
    rw [cnt_le1 (I_lt10 hp10)]
    intro i j hi hj
    rw [tb_I, Bool.and_eq_true] at hi hj
    obtain ⟨hi1, hi2⟩ := (ownS_tb n).1 hi.2
    obtain ⟨hj1, hj2⟩ := (ownS_tb n).1 hj.2
    have hmv := hc.move hg hv hi.1
    have hco := (cmp_ok hg (low10 m) (v := i) (by omega)).1
    have e := hmv.unique hco
    refine Classical.byContradiction fun hne => ?_
    have := h i hi1 j (by rw [hi2, ← e]; exact hj.1) (fun x => hne x.symm)
    exact this (by rw [hi2, hj2])
section
variable {rows : List Row} {nx : Nat → Nat} {n : Nat} {ml : List Int} {mv ev : AV} {es : List (Nat × Nat)}
theorem rm_parts {R : List Row} {L mk own : Nat} {ps : List Nat} {pv : AV} {r : AV × List Row × Nat → Prop} (hpv : IsL R pv (castL ps)) (hps : ∀ p ∈ ps, p < 1024) (hpl : ps.length ≤ 100) (ho : own < 1024) (hmk : mk ≤ 10)
    (hbad : (∃ p ∈ ps, 1 < cnt (sI p own)) → r (.bool false, R, L))
    (hk : (∀ p ∈ ps, cnt (sI p own) ≤ 1) → Lc41l2 F (.fn [.t 6]) (.int .i64 n) ev mv (.int .i64 ((mk : Int) + 1)) R L r) : ∀ (d j : Nat), ps.length - j = d → j ≤ ps.length → (∀ p ∈ ps.take j, cnt (sI p own) ≤ 1) →
    Lc41l4 F (.fn [.t 6]) (.int .i64 n) ev mv (.int .i64 mk) (.int .i64 own) pv (.int .i64 j) R L r := by
  have w0 : IntKind.i64.wrap ((mk : Int) + 1) = mk + 1 := wrap64 (by omega) (by omega)
  have hll := lenL0 hpv
  rw [castL_len] at hll
  intro d
  induction d with
  | zero =>
    intro j hd h1 hp
    have e : ps.take j = ps := List.take_of_length_le (by omega)
    rw [e] at hp
    have := hk hp
    unfold Lc41l4
    simp [hll, show ¬ (j < ps.length) by omega, w0]
    exact this
  | succ d ih =>
    intro j hd h1 hp
    have hj : j < ps.length := by omega
    have a1 := idxC hpv hj
    have a2 := ldC hpv hj
    have hm := gN_mem hj
    have hget := gN_get hj
    generalize gN ps j = p at *
    have hp10 := hps p hm
    have w1 : IntKind.i64.wrap ((j : Int) + 1) = j + 1 := wrap64 (by omega) (by omega)
    have w2 := w_and (a := p) (b := own) (by omega) (by omega)
    have g1 := size_ret (rows := R) (s := sI p own) (I_lt10 hp10)
    unfold Lc41l4
    by_cases hc : 1 < cnt (sI p own)
    · have := hbad ⟨p, hm, hc⟩
      simp [hll, hj, a1, a2, w2, g1, show (1 : Int) < (cnt (sI p own) : Nat) by omega]
      exact this
    · have := ih (j + 1) (by omega) (by omega) (fun x hx => by
        rw [List.take_add_one, hget] at hx
        rcases List.mem_append.1 hx with hx | hx
        · exact hp x hx
        · have : x = p := by simpa using hx
          rw [this]; omega)
      simp [hll, hj, a1, a2, w2, g1, show ¬ (1 : Int) < (cnt (sI p own) : Nat) by omega, w1]
      simpa using this
theorem rm_low {R : List Row} {mk L : Nat} {r : AV × List Row × Nat → Prop} (hg : GOK nx) (hE : Edg nx es) (he : IsP R ev es) (hel : es.length ≤ 1000) (h : IsL R mv ml) (hn : n ≤ 10) (hl : ml.length = n) (hmk : mk ≤ 10)
    (hk : Lc41l4 F (.fn [.t 6]) (.int .i64 n) ev mv (.int .i64 mk) (.int .i64 (ownS ml mk n : Nat)) (nlV R.length (castL (PT nx 10 (lowS ml mk n)))) (.int .i64 0) (R ++ nlK (castL (PT nx 10 (lowS ml mk n)))) L r) : ∀ (d j : Nat), n - j = d → j ≤ n →
    Lc41l17 F (.fn [.t 6]) (.int .i64 n) ev mv (.int .i64 mk) (.int .i64 (lowS ml mk j : Nat)) (.int .i64 (ownS ml mk j : Nat)) (.int .i64 j) R L r := by
  have g1 := rparts_ret hg hE he hel hn (lowS_lt (ml := ml) (m := mk) n)
  rw [newL_V] at g1
  intro d
  induction d with
  | zero =>
    intro j hd h1
    have hj : j = n := by omega
    subst hj
    generalize PT nx 10 (lowS ml mk j) = ps at *
    unfold Lc41l17
    simp [g1]
    exact hk
  | succ d ih =>
    intro j hd h1
    have hj : j < n := by omega
    have w1 : IntKind.i64.wrap ((j : Int) + 1) = j + 1 := wrap64 (by omega) (by omega)
    have w2 := w_shl (i := j) (by omega)
    have hb := B_lt10 (show j < 10 by omega)
    have hlj := lt1024 (lowS_lt (ml := ml) (m := mk) j) (by omega)
    have hoj := lt1024 (ownS_lt (ml := ml) (m := mk) j) (by omega)
    have w3 := w_or (a := lowS ml mk j) (b := sB j) (by omega) (by omega)
    have w4 := w_or (a := ownS ml mk j) (b := sB j) (by omega) (by omega)
    have i1 := idxL0 h (k := .i64) (i := (j : Int)) (by omega) (by omega)
    have i2 := loadL0 h (j := j) (by omega)
    simp only [Int.toNat_natCast] at i1
    have := ih (j + 1) (by omega) (by omega)
    unfold lowS ownS at this
    unfold Lc41l17
    by_cases hc : gI ml j ≤ mk
    · rw [if_pos hc] at this
      by_cases ho : gI ml j = mk
      · rw [if_pos ho] at this
        simp [hj, i1, i2, hc, ho, w2, w3, w4, w1, show ¬ (j : Int) < 0 by omega]
        simpa using this
      · rw [if_neg ho] at this
        simp [hj, i1, i2, hc, ho, w2, w3, w4, w1, show ¬ (j : Int) < 0 by omega]
        simpa using this
    · have ho : ¬ gI ml j = mk := by omega
      rw [if_neg hc, if_neg ho] at this
      simp [hj, i1, i2, hc, ho, w1]
      simpa using this
theorem rm_loop (hg : GOK nx) (hE : Edg nx es) (he : IsP rows ev es) (hel : es.length ≤ 1000) (h : IsL rows mv ml) (hn : n ≤ 10) (hl : ml.length = n) {b : Bool} (hb : b = true ↔ ∀ m : Nat, m ≤ 10 → RM1 nx ml n m) : ∀ (d mk : Nat) (H : List Row), 11 - mk = d → mk ≤ 11 → (∀ m : Nat, m < mk → RM1 nx ml n m) →
    Lc41l2 F (.fn [.t 6]) (.int .i64 n) ev mv (.int .i64 mk) (rows ++ H) rows.length (fun r => fin rows r.1 r.2.1 r.2.2 = (.bool b, rows, none)) := by
  intro d
  induction d with
  | zero =>
    intro mk H hd h1 hp
    have : b = true := hb.2 fun m hm => hp m (by omega)
    subst this
    unfold Lc41l2
    simp [show ¬ (mk : Int) ≤ 10 by omega]
  | succ d ih =>
    intro mk H hd h1 hp
    have hmk : mk ≤ 10 := by omega
    have hlow := lt1024 (lowS_lt (ml := ml) (m := mk) n) hn
    have hown := lt1024 (ownS_lt (ml := ml) (m := mk) n) hn
    have hRM : RM1 nx ml n mk ↔ ∀ p ∈ PT nx 10 (lowS ml mk n), cnt (sI p (ownS ml mk n)) ≤ 1 := Iff.rfl
    have hpm := fun p hp => (PT_mem hg 10 _ hlow p hp).2.1
    have hpl := PT_len (nx := nx) 10 (lowS ml mk n)
    have := rm_low (mk := mk) (L := rows.length) (r := fun r => fin rows r.1 r.2.1 r.2.2 = (.bool b, rows, none)) hg hE (IsP_app he H) hel (IsL_app h H) hn hl hmk (by
      generalize PT nx 10 (lowS ml mk n) = ps at *
      refine rm_parts (by
        have := nlV_IsL (rows ++ H) (castL ps) []
        rwa [List.append_nil] at this) hpm (by omega) hown hmk (fun hx => ?_) (fun hok => ?_) _ 0 rfl (Nat.zero_le _) (fun x hx => by simp at hx)
      · have : b = false := by
          cases hbb : b with
          | false => rfl
          | true =>
            obtain ⟨p, p1, p2⟩ := hx
            have := hRM.1 (hb.1 hbb mk hmk) p p1
            omega
        subst this
        simp
      · have := ih (mk + 1) (H ++ nlK (castL ps)) (by omega) (by omega) (fun j hj => by
          by_cases e : j = mk
          · rw [e]; exact hRM.2 hok
          · exact hp j (by omega))
        simpa using this) _ 0 rfl (Nat.zero_le _)
    unfold Lc41l2
    simp [show (mk : Int) ≤ 10 by omega]
    simpa [lowS, ownS] using this
theorem rm_range (hn : n ≤ 10) (h : IsL rows mv ml) (hl : ml.length = n) {b : Bool} (hb : (∀ x ∈ ml, 0 ≤ x ∧ x ≤ 10) ∨ b = false) (hk : (∀ x ∈ ml, 0 ≤ x ∧ x ≤ 10) → Lc41l2 F (.fn [.t 6]) (.int .i64 n) ev mv (.int .i64 0) rows rows.length (fun r => fin rows r.1 r.2.1 r.2.2 = (.bool b, rows, none))) : ∀ (d j : Nat), n - j = d → j ≤ n → (∀ x ∈ ml.take j, 0 ≤ x ∧ x ≤ 10) →
    Lc41l39 F (.fn [.t 6]) (.int .i64 n) ev mv (.int .i64 j) rows rows.length (fun r => fin rows r.1 r.2.1 r.2.2 = (.bool b, rows, none)) := by
  intro d
  induction d with
  | zero =>
    intro j hd h1 hp
    have hj : j = n := by omega
    subst hj
    rw [List.take_of_length_le (by omega)] at hp
    unfold Lc41l39
    simp
    exact hk hp
  | succ d ih =>
    intro j hd h1 hp
    have hj : j < n := by omega
    have w1 : IntKind.i64.wrap ((j : Int) + 1) = j + 1 := wrap64 (by omega) (by omega)
    have i1 := idxL0 h (k := .i64) (i := (j : Int)) (by omega) (by omega)
    have i2 := loadL0 h (j := j) (by omega)
    have hget := gI_get (l := ml) (i := j) (by omega)
    have hmem : gI ml j ∈ ml := List.mem_of_getElem? hget
    simp only [Int.toNat_natCast] at i1
    generalize gI ml j = x at *
    have bad : ¬ (0 ≤ x ∧ x ≤ 10) → b = false := fun hx => by
      rcases hb with hb | hb
      · exact absurd (hb x hmem) hx
      · exact hb
    unfold Lc41l39
    by_cases c1 : x < 0
    · have := bad (by omega)
      subst this
      simp [hj, i1, i2, c1]
    · by_cases c2 : 10 < x
      · have := bad (by omega)
        subst this
        simp [hj, i1, i2, c1, c2]
      · have := ih (j + 1) (by omega) (by omega) (fun y hy => by
          rw [List.take_add_one, hget] at hy
          rcases List.mem_append.1 hy with hy | hy
          · exact hp y hy
          · have : y = x := by simpa using hy
            rw [this]; omega)
        simp [hj, i1, i2, c1, c2, w1]
        simpa using this
open Classical in
/-- R.Marks. -/
theorem rmarks_ret (hg : GOK nx) (hE : Edg nx es) (he : IsP rows ev es) (hel : es.length ≤ 1000) (hn : n ≤ 10) (h : IsL rows mv ml) : Ret F 41 [.int .i64 n, ev, mv] rows = some (.bool (decide (AM nx ml n)), rows, none) := by
  have hll := lenL0 h
  refine i41 F41 ?_
  by_cases c1 : ml.length = n
  · have := rm_range (ev := ev) (n := n) hn h c1 (b := decide (AM nx ml n)) (by
      by_cases c2 : ∀ x ∈ ml, 0 ≤ x ∧ x ≤ 10
      · exact .inl c2
      · right
        rw [decide_eq_false_iff_not]
        exact fun h => c2 h.2.1) (fun c2 => by
      have := rm_loop hg hE he hel h hn c1 (b := decide (AM nx ml n)) (by
        rw [decide_eq_true_iff, RM_AM hg hn c1 c2]
        exact ⟨fun h => h.2.2, fun h => ⟨c1, c2, h⟩⟩) _ 0 [] rfl (by omega) (fun m hm => by omega)
      simpa using this) _ 0 rfl (Nat.zero_le _) (fun x hx => by simp at hx)
    simp [hll, c1]
    simpa using this
  · have hAM : ¬ AM nx ml n := fun h => c1 h.1
    have c1' : ¬ (ml.length : Int) = n := by omega
    simp [hll, c1, c1', hAM]
end
end Go.Abs

set_option linter.unusedVariables false
set_option linter.unusedSimpArgs false
namespace Go.Abs
open Rd (Cp IsL_one IsL_cells IsL_tail lowO_n)
theorem foldl_min_at (f : Nat → Nat) : ∀ (l : List Nat) (a : Nat), l.foldl (fun o i => min o (f i)) a = a ∨ ∃ i ∈ l, l.foldl (fun o i => min o (f i)) a = f i
  | [], a => .inl rfl
  | x :: l, a => by
    simp only [List.foldl_cons]
    rcases foldl_min_at f l (min a (f x)) with h | ⟨i, hi, h⟩
    · rw [h]
      rcases Nat.le_total a (f x) with h1 | h1
      · exact .inl (Nat.min_eq_left h1)
      · exact .inr ⟨x, List.mem_cons_self, Nat.min_eq_right h1⟩
    · exact .inr ⟨i, List.mem_cons_of_mem _ hi, h⟩
theorem foldl_min_le2 (f : Nat → Nat) : ∀ (l : List Nat) (a : Nat), ∀ i ∈ l, l.foldl (fun o i => min o (f i)) a ≤ f i
  | x :: l, a, i, hi => by
    simp only [List.foldl_cons]
    rcases List.mem_cons.1 hi with rfl | hi
    · have := foldl_min_le f l (min a (f i))
      omega
    · exact foldl_min_le2 f l _ i hi
theorem Wd_ge {f : Nat → Nat} {p : Nat} {l : List Nat} (hp : p ∈ l) : f p ≤ Wd f l := by
  have : ∀ (l : List Nat) (a : Nat), (a ≤ l.foldl (fun o p => max o (f p)) a) ∧ ∀ p ∈ l, f p ≤ l.foldl (fun o p => max o (f p)) a := by
    intro l
    induction l with
    | nil => intro a; exact ⟨Nat.le_refl _, fun p hp => by simp at hp⟩
    | cons x l ih =>
      intro a
      simp only [List.foldl_cons]
      obtain ⟨h1, h2⟩ := ih (max a (f x))
      refine ⟨by omega, fun p hp => ?_⟩
      rcases List.mem_cons.1 hp with rfl | hp
      · omega
      · exact h2 p hp
  exact (this l 0).2 p hp
section
variable {nx : Nat → Nat} {n : Nat}
theorem LL_cnt (hg : GOK nx) : ∀ (k s : Nat), s < 1024 → 0 < s → cnt s ≤ k → LL n nx s + 1 ≤ cnt s
  | 0, s, hs, h0, hk => by have := cnt_pos hs h0; omega
  | k + 1, s, hs, h0, hk => by
    have hc := cnt_pos hs h0
    rw [LL_eq hg hs]
    by_cases h1 : sI s (s - 1) = 0
    · rw [if_pos h1]; omega
    · rw [if_neg h1]
      have hne : cnt s ≠ 1 := fun h => h1 ((single s hs h0).1 h)
      obtain ⟨t1, t2, _⟩ := tz_lt s hs h0
      have hle := foldl_min_le2 (WL n nx s) (mem s) n (tz s) ((mem_tb hs).2 t2)
      have hcD := cnt_D hs t2
      have hW : Wd (LL n nx) (PT nx 10 (sD s (sB (tz s)))) ≤ cnt s - 2 := Wd_le fun p hp => by
        obtain ⟨p1, p2, p3⟩ := PT_mem hg 10 _ (D_lt10 hs) p hp
        have := cnt_le (D_lt10 hs) p3
        have := LL_cnt hg k p p2 p1 (by omega)
        omega
      have : WL n nx s (tz s) ≤ cnt s - 1 := by unfold WL; omega
      omega
/-- A root is found. -/
theorem LL_root (hg : GOK nx) {s : Nat} (hs : s < 1024) (h0 : 0 < s) (hn : cnt s ≤ n) (hL : 0 < LL n nx s) : ∃ i ∈ mem s, WL n nx s i ≤ LL n nx s := by
  have h1 := LL_cnt (n := n) hg _ s hs h0 (Nat.le_refl _)
  have e := LL_eq (n := n) hg hs
  by_cases hne : sI s (s - 1) = 0
  · rw [if_pos hne] at e; omega
  · rw [if_neg hne] at e
    rcases foldl_min_at (WL n nx s) (mem s) n with h | ⟨i, hi, h⟩
    · omega
    · exact ⟨i, hi, by omega⟩
theorem LL_0 (hg : GOK nx) {s : Nat} (hs : s < 1024) (h0 : 0 < s) (hn : 1 ≤ n) (hL : LL n nx s = 0) : cnt s = 1 := by
  by_cases hne : sI s (s - 1) = 0
  · exact (single s hs h0).2 hne
  · exfalso
    have e := LL_eq (n := n) hg hs
    rw [if_neg hne] at e
    rcases foldl_min_at (WL n nx s) (mem s) n with h | ⟨i, hi, h⟩
    · omega
    · unfold WL at *; omega
/-- Marks that are what the program chooses. -/
inductive MK (n : Nat) (nx : Nat → Nat) (ol : List Int) : Nat → Prop
  | node {s r : Nat} : s.testBit r = true → gI ol r = (LL n nx s : Nat) → (∀ p ∈ PT nx 10 (sD s (sB r)), LL n nx p < LL n nx s) → (∀ p ∈ PT nx 10 (sD s (sB r)), MK n nx ol p) → MK n nx ol s
/-- A place that is not the root lies in a part. -/
theorem in_part (hg : GOK nx) {s r i : Nat} (hs : s < 1024) (hi : s.testBit i = true) (hne : i ≠ r) : ∃ p ∈ PT nx 10 (sD s (sB r)), p.testBit i = true ∧ IsC nx (sD s (sB r)) i p := by
  have hD := D_lt10 (b := sB r) hs
  have hb : (sD s (sB r)).testBit i = true := by
    rw [tb_D, tb_B, hi]
    have : ¬ r = i := fun e => hne e.symm
    simp [this]
  have hi10 : i < 10 := by
    rcases Nat.lt_or_ge i 10 with h | h
    · exact h
    · rw [tb_n (n := 10) hs h] at hi; cases hi
  have hc := (cmp_ok hg hD hi10).1
  exact ⟨_, (PT_comp hg 10 _ hD (cnt_10 _ hD) _).2 ⟨i, hb, hc⟩, hc.at_, hc⟩
theorem MK_le (hg : GOK nx) {ol : List Int} {s : Nat} (h : MK n nx ol s) : s < 1024 → ∀ i, s.testBit i = true → 0 ≤ gI ol i ∧ gI ol i ≤ (LL n nx s : Nat) := by
  induction h with
  | @node s r h1 h2 h3 h4 ih =>
    intro hs i hi
    by_cases e : i = r
    · subst e; omega
    · obtain ⟨p, hp, hpi, _⟩ := in_part hg hs hi e
      have := ih p hp (PT_mem hg 10 _ (D_lt10 hs) p hp).2.1 i hpi
      have := h3 p hp
      omega
/-- They are marks: two places with one mark are parted by a greater one. -/
theorem MK_ok (hg : GOK nx) {ol : List Int} {s : Nat} (h : MK n nx ol s) : s < 1024 → ∀ i j, s.testBit i = true → i ≠ j → gI ol i = gI ol j → ∀ low c, (∀ k, low.testBit k = true → s.testBit k = true ∧ gI ol k ≤ gI ol i) → IsC nx low i c → low.testBit i = true → c.testBit j = true → False := by
  induction h with
  | @node s r h1 h2 h3 h4 ih =>
    intro hs i j hi hij he low c hlow hc hli hj
    have hsub := hc.sub hli
    have hjs := (hlow j (hsub j hj)).1
    have hlt : ∀ k, s.testBit k = true → k ≠ r → gI ol k < (LL n nx s : Nat) := by
      intro k hk hkr
      obtain ⟨p, hp, hpk, _⟩ := in_part hg hs hk hkr
      have := MK_le hg (h4 p hp) (PT_mem hg 10 _ (D_lt10 hs) p hp).2.1 k hpk
      have := h3 p hp
      omega
    by_cases ei : i = r
    · subst ei
      have := hlt j hjs (fun e => hij e.symm)
      omega
    · by_cases ej : j = r
      · subst ej
        have := hlt i hi ei
        omega
      · obtain ⟨p, hp, hpi, hpc⟩ := in_part hg hs hi ei
        have hp10 := (PT_mem hg 10 _ (D_lt10 hs) p hp).2.1
        have hir := hlt i hi ei
        have hlr : low.testBit r = true → False := fun h => by have := (hlow r h).2; omega
        -- what is reached stays in the part
        have hcp : Sub c p := by
          have hcl : Clo nx low (sI p low) := by
            intro a b ha hab hb
            rw [tb_I, Bool.and_eq_true] at ha ⊢
            refine ⟨hpc.cl a b ha.1 hab ?_, hb⟩
            rw [tb_D, tb_B, (hlow b hb).1]
            have : ¬ r = b := fun e => hlr (by rw [e]; exact hb)
            simp [this]
          have := hc.least (sI p low) (by rw [tb_I, hpi, hli]; rfl) hcl
          exact this.trans fun k hk => by rw [tb_I, Bool.and_eq_true] at hk; exact hk.1
        refine ih p hp hp10 i j hpi hij he (sI p low) c (fun k hk => ?_) ⟨hc.at_, fun a b ha hab hb => ?_, fun D hD hDc => ?_⟩ (by rw [tb_I, hpi, hli]; rfl) hj
        · rw [tb_I, Bool.and_eq_true] at hk
          exact ⟨hk.1, (hlow k hk.2).2⟩
        · rw [tb_I, Bool.and_eq_true] at hb
          exact hc.cl a b ha hab hb.2
        · have := hc.least (sI D c) (by rw [tb_I, hD, hc.at_]; rfl) fun a b ha hab hb => by
            rw [tb_I, Bool.and_eq_true] at ha ⊢
            have hcb := hc.cl a b ha.2 hab hb
            exact ⟨hDc a b ha.1 hab (by rw [tb_I, hcp b hcb, hb]; rfl), hcb⟩
          exact this.trans fun k hk => by rw [tb_I, Bool.and_eq_true] at hk; exact hk.1
theorem MK_AM (hg : GOK nx) {ol : List Int} (hn0 : 1 ≤ n) (hn : n ≤ 10) (hl : ol.length = n) (h : MK n nx ol (2 ^ n - 1)) : AM nx ol n := by
  have hp : 2 ^ n - 1 < 1024 := by
    have : ∀ n, n < 11 → 2 ^ n - 1 < 1024 := by decide
    exact this n (by omega)
  have hle := LL_le (n := n) hg hp
  refine ⟨hl, fun x hx => ?_, fun i hi k hk hne he => ?_⟩
  · obtain ⟨i, hi, rfl⟩ := List.mem_iff_getElem.1 hx
    have := MK_le hg h hp i (by rw [all_tb]; simpa using (by omega : i < n))
    rw [gI_eq hi] at this
    omega
  · have hb : (lowS ol (gI ol i) n).testBit i = true := (lowS_tb n).2 ⟨hi, Int.le_refl _⟩
    have hc := (cmp_ok hg (lt1024 (lowS_lt (ml := ol) (m := gI ol i) n) hn) (v := i) (by omega)).1
    exact MK_ok hg h hp i k (by rw [all_tb]; simpa using hi) (fun e => hne e.symm) he.symm _ _ (fun j hj => by
      obtain ⟨j1, j2⟩ := (lowS_tb n).1 hj
      exact ⟨by rw [all_tb]; simpa using j1, j2⟩) hc hb hk
theorem MK_congr {ol ol' : List Int} {s : Nat} (hg : GOK nx) (h : MK n nx ol s) : s < 1024 → (∀ i, s.testBit i = true → gI ol' i = gI ol i) → MK n nx ol' s := by
  induction h with
  | @node s r h1 h2 h3 h4 ih =>
    intro hs he
    refine .node h1 (by rw [he r h1, h2]) h3 fun p hp => ?_
    obtain ⟨_, p2, p3⟩ := PT_mem hg 10 _ (D_lt10 hs) p hp
    exact ih p hp p2 fun i hi => he i (by have := p3 i hi; rw [tb_D, Bool.and_eq_true] at this; exact this.1)
/-- The greatest mark. -/
theorem MK_max {ol : List Int} {s : Nat} (h : MK n nx ol s) : ∃ r, s.testBit r = true ∧ gI ol r = (LL n nx s : Nat) := by
  cases h with
  | node h1 h2 _ _ => exact ⟨_, h1, h2⟩
end
end Go.Abs

set_option linter.unusedVariables false
set_option linter.unusedSimpArgs false
namespace Go.Abs
open Rd (Cp IsL_one IsL_cells IsL_tail lowO_n)
/-- A heap with other contents of the map and of the list that is made. -/
def ST (R : List Row) (mid oid : Nat) (es : List (AV × AV)) (ol : List Int) : List Row := (R.set mid (.mp es)).set oid (.cells (nums .i64 ol))
section
variable {R : List Row} {mid oid : Nat} {es es' : List (AV × AV)} {ol ol' : List Int}
@[simp] theorem ST_len : (ST R mid oid es ol).length = R.length := by simp [ST]
theorem ST_app {L : List Row} (hm : mid < R.length) (ho : oid < R.length) : ST (R ++ L) mid oid es ol = ST R mid oid es ol ++ L := by
  unfold ST
  rw [set_app hm, set_app (by simpa using ho)]
theorem ST_ST (h : mid < oid) : ST (ST R mid oid es ol) mid oid es' ol' = ST R mid oid es' ol' := by
  unfold ST
  rw [List.set_comm _ _ (show oid ≠ mid by omega), List.set_set, List.set_set]
theorem ST_mid (h : mid < oid) : (ST R mid oid es ol).set mid (.mp es') = ST R mid oid es' ol := by
  unfold ST
  rw [List.set_comm _ _ (show oid ≠ mid by omega), List.set_set]
theorem ST_oid : (ST R mid oid es ol).set oid (.cells (nums .i64 ol')) = ST R mid oid es ol' := by
  unfold ST
  rw [List.set_set]
end
/-- What Marks's closure rests on. -/
structure MS (n : Nat) (nx : Nat → Nat) (tid xid mid oid lc oc tc sc : Nat) (R : List Row) (es : List (AV × AV)) (ol : List Int) : Prop where
  le : LE n nx tid xid mid R es
  out : R[oid]? = some (.cells (nums .i64 ol))
  len : ol.length = n
  mo : mid < oid
  flc : row? R lc = some [.ptr xid 0]
  foc : row? R oc = some [.slice oid 0 n (.at_ n)]
  ftc : row? R tc = some [.ptr tid 0]
  fsc : row? R sc = some [.func 74 [.ptr lc 0, .ptr oc 0, .ptr tc 0, .ptr sc 0]]
  n1 : 1 ≠ oid
  n2 : tid ≠ oid
  n3 : xid ≠ oid
  n4 : lc ≠ oid
  n5 : oc ≠ oid
  n6 : tc ≠ oid
  n7 : sc ≠ oid
section
variable {n tid xid mid oid lc oc tc sc : Nat} {nx : Nat → Nat} {R : List Row} {es es' : List (AV × AV)} {ol ol' : List Int}
theorem MS.olt (h : MS n nx tid xid mid oid lc oc tc sc R es ol) : oid < R.length := rows_lt h.out
theorem MS.self (h : MS n nx tid xid mid oid lc oc tc sc R es ol) : ST R mid oid es ol = R := by
  unfold ST
  rw [set_same h.le.mm.mp, set_same h.out]
theorem MS.st (h : MS n nx tid xid mid oid lc oc tc sc R es ol) (h1 : MapOK n nx es') (h2 : ol'.length = n) : MS n nx tid xid mid oid lc oc tc sc (ST R mid oid es' ol') es' ol' := by
  have hm := h.le.mm
  have hl := h.le.set h1
  have hne := h.mo
  have e : ∀ {i : Nat} {vs : List AV}, row? R i = some vs → i ≠ oid → row? (ST R mid oid es' ol') i = some vs := by
    intro i vs h1 h2
    unfold ST
    rw [row?_ne h2]
    exact row?_mp hm h1 _
  refine ⟨⟨e h.le.gt h.n1, e h.le.tr h.n2, e h.le.st h.n3, ?_, h1, ?_⟩, ?_, h2, h.mo, e h.flc h.n4, e h.foc h.n5, e h.ftc h.n6, e h.fsc h.n7, h.n1, h.n2, h.n3, h.n4, h.n5, h.n6, h.n7⟩
  · unfold ST
    rw [List.getElem?_set_ne (by omega)]
    exact hl.mm.mp
  · intro y hy
    rw [ST_len]
    unfold ST at hy
    rw [List.drop_set, if_neg (by omega)] at hy
    rcases List.mem_or_eq_of_mem_set hy with hy | rfl
    · have := hl.mm.un y hy
      rwa [List.length_set] at this
    · simp [Row.under]
  · unfold ST
    rw [List.getElem?_set_self (by simpa using h.olt)]
theorem MS.app (h : MS n nx tid xid mid oid lc oc tc sc R es ol) {L : List Row} (hL : Und R L) : MS n nx tid xid mid oid lc oc tc sc (R ++ L) es ol :=
  ⟨h.le.app hL, rows_old h.out L, h.len, h.mo, row?_old h.flc L, row?_old h.foc L, row?_old h.ftc L, row?_old h.fsc L, h.n1, h.n2, h.n3, h.n4, h.n5, h.n6, h.n7⟩
theorem MS.fin_ok (h : MS n nx tid xid mid oid lc oc tc sc R es ol) (h1 : MapOK n nx es') (h2 : ol'.length = n) {low : Nat} (h3 : mid ≤ low) (h4 : low ≤ oid) {K : List Row} : fin R (.tup []) (ST R mid oid es' ol' ++ K) low = (.tup [], ST R mid oid es' ol', some low) := by
  have hlt := h.olt
  rw [fin_lt (by omega), gc_take (by simp) (by simp [AV.under])]
  intro y hy
  have := (h.st h1 h2).le.mm.un y (by
    rw [show low = mid + (low - mid) from by omega, ← List.drop_drop] at hy
    exact List.mem_of_mem_drop hy)
  rwa [ST_len] at this
theorem MS.store (h : MS n nx tid xid mid oid lc oc tc sc R es ol) {K : List Row} {low r : Nat} {x : Int} (hr : r < n) (hl : ol'.length = n) : evE (ST R mid oid es' ol' ++ K) low (.store1 (.c (.ptr oid r)) (.c (.int .i64 x))) = some (.tup [], ST R mid oid es' (ol'.set r x) ++ K, lower low oid) := by
  have hc : cells? (ST R mid oid es' ol' ++ K) oid = some (nums .i64 ol') := by
    refine cells?_old ?_ _
    unfold cells? ST
    rw [List.getElem?_set_self (by simpa using h.olt)]
  rw [evE_store1, hc]
  simp only [Option.bind_some]
  rw [if_pos ⟨by simp; omega, rfl⟩, nums_set, set_app (by simpa using h.olt), ST_oid]
/-- What the closure does for a set. -/
def MkP (n : Nat) (nx : Nat → Nat) (mid oid : Nat) (R : List Row) (ol : List Int) (s : Nat) : AV × List Row × Option Nat → Prop := fun q => ∃ es' ol' low, q = (.tup [], ST R mid oid es' ol', some low) ∧ MapOK n nx es' ∧ ol'.length = n ∧ (∀ i, s.testBit i = false → gI ol' i = gI ol i) ∧ MK n nx ol' s ∧ mid ≤ low ∧ low ≤ oid
def MkOK (n : Nat) (nx : Nat → Nat) (tid xid mid oid lc oc tc sc k : Nat) : Prop := ∀ (R : List Row) (es : List (AV × AV)) (ol : List Int) (s : Nat), MS n nx tid xid mid oid lc oc tc sc R es ol → 0 < s → s < 2 ^ n → cnt s ≤ k → ∃ q, Ret F 74 [.int .i64 s, .ptr lc 0, .ptr oc 0, .ptr tc 0, .ptr sc 0] R = some q ∧ MkP n nx mid oid R ol s q
theorem mk_parts {k s r : Nat} (hMk : MkOK n nx tid xid mid oid lc oc tc sc k) (hS : MS n nx tid xid mid oid lc oc tc sc R es ol) (hg : GOK nx) (hn : n ≤ 10) (hs : s < 2 ^ n) (hr : s.testBit r = true) (hk : cnt s ≤ k + 1) (hL : ∀ p ∈ PT nx 10 (sD s (sB r)), LL n nx p < LL n nx s) {K : List Row} (hK : K.all (Row.under 0) = true) {pv : AV} (hpv : ∀ e1 o1, IsL (ST R mid oid e1 o1 ++ K) pv (castL (PT nx 10 (sD s (sB r))))) :
    ∀ (d j low : Nat) (es1 : List (AV × AV)) (ol1 : List Int), (PT nx 10 (sD s (sB r))).length - j = d → j ≤ (PT nx 10 (sD s (sB r))).length → MapOK n nx es1 → ol1.length = n → (∀ i, s.testBit i = false → gI ol1 i = gI ol i) → gI ol1 r = (LL n nx s : Nat) → (∀ p ∈ (PT nx 10 (sD s (sB r))).take j, MK n nx ol1 p) → mid ≤ low → low ≤ oid →
    Lc74l3 F (.fn []) (.ptr sc 0) pv (.int .i64 (PT nx 10 (sD s (sB r))).length) (.int .i64 j) (ST R mid oid es1 ol1 ++ K) low (fun q => MkP n nx mid oid R ol s (fin R q.1 q.2.1 q.2.2)) := by
  have hlt := hS.le.mm.lt
  have hot := hS.olt
  have hs10 := lt1024 hs hn
  have hD := D_lt10 (b := sB r) hs10
  have hpl := PT_len (nx := nx) 10 (sD s (sB r))
  have hcD := cnt_D hs10 hr
  have hmem := PT_mem hg 10 _ hD
  have hcomp := PT_comp hg 10 _ hD (cnt_10 _ hD)
  have hnode : ∀ o, gI o r = (LL n nx s : Nat) → (∀ p ∈ PT nx 10 (sD s (sB r)), MK n nx o p) → MK n nx o s := fun o h1 h2 => .node hr h1 hL h2
  generalize PT nx 10 (sD s (sB r)) = ps at *
  intro d
  induction d with
  | zero =>
    intro j low es1 ol1 hd h1 hok hlen hold hroot hdone hl1 hl2
    have e : ps.take j = ps := List.take_of_length_le (by omega)
    rw [e] at hdone
    unfold Lc74l3
    simp [show ¬ (j < ps.length) by omega]
    exact ⟨es1, ol1, low, hS.fin_ok hok hlen hl1 hl2, hok, hlen, hold, hnode ol1 hroot hdone, hl1, hl2⟩
  | succ d ih =>
    intro j low es1 ol1 hd h1 hok hlen hold hroot hdone hl1 hl2
    have hj : j < ps.length := by omega
    have a1 := idxC (hpv es1 ol1) hj
    have a2 := ldC (hpv es1 ol1) hj
    have hm := gN_mem hj
    have hget := gN_get hj
    generalize gN ps j = p at *
    obtain ⟨p0, p1, p2⟩ := hmem p hm
    have hps : ∀ i, p.testBit i = true → s.testBit i = true ∧ i ≠ r := fun i hi => by
      have := p2 i hi
      rw [tb_D, tb_B, Bool.and_eq_true] at this
      exact ⟨this.1, fun e => by have := this.2; simp [e] at this⟩
    have hpn : p < 2 ^ n := lt_of_tb fun i hi => by
      rcases Nat.lt_or_ge i n with h | h
      · exact h
      · have := (hps i hi).1
        rw [tb_n hs h] at this; cases this
    have hS2 := (hS.st hok hlen).app (L := K) (Und_0 hK)
    have hcp := cnt_le hD p2
    obtain ⟨q, hq, es2, ol2, low2, rfl, hok2, hlen2, hold2, hMK2, hl3, hl4⟩ := hMk _ es1 ol1 p hS2 p0 hpn (by omega)
    rw [ST_app (by simpa using hlt) (by simpa using hot), ST_ST hS.mo] at hq
    have w1 : IntKind.i64.wrap ((j : Int) + 1) = j + 1 := wrap64 (by omega) (by omega)
    have hlow : mid ≤ lower low low2 ∧ lower low low2 ≤ oid := by unfold lower; split <;> omega
    have hpr : p.testBit r = false := by
      cases h : p.testBit r with
      | false => rfl
      | true => exact absurd rfl (hps r h).2
    have := ih (j + 1) (lower low low2) es2 ol2 (by omega) (by omega) hok2 hlen2 (fun i hi => by
      rw [hold2 i (by
        cases h : p.testBit i with
        | false => rfl
        | true => rw [(hps i h).1] at hi; cases hi), hold i hi]) (by rw [hold2 r hpr, hroot]) (fun q hq => by
      rw [List.take_add_one, hget] at hq
      rcases List.mem_append.1 hq with hq | hq
      · have hqm := List.mem_of_mem_take hq
        by_cases e : q = p
        · rw [e]; exact hMK2
        · obtain ⟨v, hv, hvc⟩ := (hcomp q).1 hqm
          obtain ⟨w, hw, hwc⟩ := (hcomp p).1 hm
          refine MK_congr hg (hdone q hq) (hmem q hqm).2.1 fun i hi => hold2 i ?_
          cases h : p.testBit i with
          | false => rfl
          | true => exact absurd ((hvc.move hg hv hi).unique (hwc.move hg hw h)) e
      · have : q = p := by simpa using hq
        rw [this]; exact hMK2) hlow.1 hlow.2
    have hsc := hS2.fsc
    unfold Lc74l3
    simp [hj, a1, a2, hsc, hq, w1, -lowO]
    simpa [lowO] using this
theorem mk_root {k s : Nat} (hMk : MkOK n nx tid xid mid oid lc oc tc sc k) (hS : MS n nx tid xid mid oid lc oc tc sc R es ol) (hg : GOK nx) (hn0 : 1 ≤ n) (hn : n ≤ 10) (h0 : 0 < s) (hs : s < 2 ^ n) (hk : cnt s ≤ k + 1) {lv : AV} (hlv : ∀ e1 o1, IsL (ST R mid oid e1 o1 ++ nlK (castL (mem s))) lv (castL (mem s))) :
    ∀ (d j low : Nat) (es1 : List (AV × AV)), (mem s).length - j = d → j ≤ (mem s).length → (∀ x ∈ (mem s).take j, 0 < LL n nx s ∧ LL n nx s < WL n nx s x) → MapOK n nx es1 → ((low = R.length ∧ es1 = es) ∨ low = mid) →
    Lc74l1 F (.fn []) (.int .i64 s) (.ptr lc 0) (.ptr oc 0) (.ptr tc 0) (.ptr sc 0) (.int .i64 (LL n nx s : Nat)) lv (.int .i64 (mem s).length) (.int .i64 j) (ST R mid oid es1 ol ++ nlK (castL (mem s))) low (fun q => MkP n nx mid oid R ol s (fin R q.1 q.2.1 q.2.2)) := by
  have hlt := hS.le.mm.lt
  have hot := hS.olt
  have hs10 := lt1024 hs hn
  have hml := mem_len s hs10
  have hcn := cnt_n s hs10 n (by omega) hs
  intro d
  induction d with
  | zero =>
    intro j low es1 hd h1 hp hok hlow
    exfalso
    have e : (mem s).take j = mem s := List.take_of_length_le (by omega)
    rw [e] at hp
    obtain ⟨t1, t2, _⟩ := tz_lt s hs10 h0
    have hL := (hp (tz s) ((mem_tb hs10).2 t2)).1
    obtain ⟨i, hi, hW⟩ := LL_root hg hs10 h0 hcn hL
    have := (hp i hi).2
    omega
  | succ d ih =>
    intro j low es1 hd h1 hp hok hlow
    have hj : j < (mem s).length := by omega
    have a1 := idxC (hlv es1 ol) hj
    have a2 := ldC (hlv es1 ol) hj
    have hm := gN_mem hj
    have hget := gN_get hj
    generalize gN (mem s) j = i at *
    have hb := (mem_tb hs10).1 hm
    have hi10 : i < 10 := by
      unfold mem at hm
      rw [List.mem_filter, List.mem_range] at hm
      exact hm.1
    have hin : i < n := by
      rcases Nat.lt_or_ge i n with h | h
      · exact h
      · rw [tb_n hs h] at hb; cases hb
    have w1 : IntKind.i64.wrap ((j : Int) + 1) = j + 1 := wrap64 (by omega) (by omega)
    have hUK : Und (ST R mid oid es1 ol) (nlK (castL (mem s))) := Und_0 (nlK_under _)
    have hS2 := (hS.st hok hS.len).app (L := nlK (castL (mem s))) hUK
    obtain ⟨es2, d2, hr, hok2, ha2⟩ := with_ret (of_ok hg hn 10) hS2.le hg hn hs10 hi10 hb (by have := cnt_10 s hs10; omega)
    rw [set_app (by simpa using hlt), ST_mid hS.mo] at hr
    have hlow2 := lowO_asked hlt hlow ha2
    -- the place is the root
    have root : ∀ es3 low3, MapOK n nx es3 → ((low3 = R.length ∧ es3 = es) ∨ low3 = mid) → (∀ p ∈ PT nx 10 (sD s (sB i)), LL n nx p < LL n nx s) → Jc74s14 F (.fn []) (.int .i64 s) (.ptr oc 0) (.ptr tc 0) (.ptr sc 0) (.int .i64 (LL n nx s : Nat)) (.int .i64 i) (ST R mid oid es3 ol ++ nlK (castL (mem s))) low3 (fun q => MkP n nx mid oid R ol s (fin R q.1 q.2.1 q.2.2)) := by
      intro es3 low3 hok3 hlow3 hL
      have hS3 := (hS.st hok3 hS.len).app (L := nlK (castL (mem s))) (Und_0 (nlK_under _))
      have hlen' : (ol.set i (LL n nx s : Nat)).length = n := by rw [List.length_set]; exact hS.len
      have hS4 := (hS.st hok3 hlen').app (L := nlK (castL (mem s))) (Und_0 (nlK_under _))
      have hst := hS.store (K := nlK (castL (mem s))) (es' := es3) (low := low3) (x := ((LL n nx s : Nat) : Int)) hin hS.len
      have g1 := parts_ret hS4.le.gt hg hS4.le.tr hs10 hi10
      rw [newL_V] at g1
      have hIL := fun e1 o1 => nlV_IsL (ST R mid oid e1 o1 ++ nlK (castL (mem s))) (castL (PT nx 10 (sD s (sB i)))) []
      simp only [List.append_nil, List.length_append, ST_len] at hIL
      simp only [List.length_append, ST_len] at g1
      have hlowx : mid ≤ lower low3 oid ∧ lower low3 oid ≤ oid := by
        have := hS.mo
        unfold lower
        rcases hlow3 with ⟨rfl, _⟩ | rfl
        · split <;> omega
        · split <;> omega
      have hgI : gI (ol.set i (LL n nx s : Nat)) i = (LL n nx s : Nat) := by
        rw [gI_eq (by rw [hlen']; exact hin)]
        simp
      have hgo : ∀ x, s.testBit x = false → gI (ol.set i (LL n nx s : Nat)) x = gI ol x := by
        intro x hx
        have : i ≠ x := fun e => by rw [← e, hb] at hx; cases hx
        simp [gI, List.getElem?_set_ne this]
      have hl := mk_parts (pv := nlV (R.length + (nlK (castL (mem s))).length) (castL (PT nx 10 (sD s (sB i))))) hMk hS hg hn hs hb hk hL (K := nlK (castL (mem s)) ++ nlK (castL (PT nx 10 (sD s (sB i))))) (by rw [List.all_append, nlK_under, nlK_under]; rfl) (fun e1 o1 => by have := hIL e1 o1; rwa [List.append_assoc] at this) _ 0 (lower low3 oid) es3 (ol.set i (LL n nx s : Nat)) rfl (Nat.zero_le _) hok3 hlen' hgo hgI (fun p hp => by simp at hp) hlowx.1 hlowx.2
      have hll := lenL0 (hIL es3 (ol.set i (LL n nx s : Nat)))
      rw [castL_len] at hll
      generalize PT nx 10 (sD s (sB i)) = ps at *
      unfold Jc74s14
      have hoc := hS3.foc
      have htc := hS4.ftc
      simp [hoc, hst, htc, g1, hin, hll, -evE_store1, -List.append_assoc]
      rw [List.append_assoc]
      simpa using hl
    have hlcr := hS2.flc
    unfold Lc74l1
    by_cases hL0 : 0 < LL n nx s
    · by_cases hW : LL n nx s < WL n nx s i
      · have := ih (j + 1) (lowO low d2) es2 (by omega) (by omega) (fun x hx => by
          rw [List.take_add_one, hget] at hx
          rcases List.mem_append.1 hx with hx | hx
          · exact hp x hx
          · have : x = i := by simpa using hx
            rw [this]; exact ⟨hL0, hW⟩) hok2 hlow2
        simp [hj, a1, a2, hL0, hlcr, hr, hW, w1, -lowO]
        simpa [-lowO] using this
      · have := root es2 (lowO low d2) hok2 hlow2 (fun p hp => by
          have := Wd_ge (f := LL n nx) hp
          unfold WL at hW
          omega)
        simp [hj, a1, a2, hL0, hlcr, hr, hW, -lowO, -uc74s14, jc74s14]
        exact this
    · have hz : LL n nx s = 0 := by omega
      have hc1 := LL_0 hg hs10 h0 hn0 hz
      have := root es1 low hok hlow (fun p hp => by
        exfalso
        obtain ⟨p0, p1, p2⟩ := PT_mem hg 10 _ (D_lt10 hs10) p hp
        have := cnt_D hs10 hb
        have := cnt_le (D_lt10 hs10) p2
        have := cnt_pos p1 p0
        omega)
      rw [hz] at this ⊢
      simp [hj, a1, a2, -uc74s14, jc74s14]
      simpa using this
theorem mk_ok (hg : GOK nx) (hn0 : 1 ≤ n) (hn : n ≤ 10) : ∀ k, MkOK n nx tid xid mid oid lc oc tc sc k := by
  intro k
  induction k with
  | zero =>
    intro R es ol s hS h0 hs hk
    have := cnt_pos (lt1024 hs hn) h0
    omega
  | succ k ih =>
    intro R es ol s hS h0 hs hk
    have hs10 := lt1024 hs hn
    have hlt := hS.le.mm.lt
    obtain ⟨es1, d1, hr, hok1, ha1⟩ := of_ret hg hn hS.le h0 hs10
    have hst1 : R.set mid (.mp es1) = ST R mid oid es1 ol := by
      conv => lhs; rw [← hS.self, ST_mid hS.mo]
    rw [hst1] at hr
    have hS1 := hS.st hok1 hS.len
    have hm := members_ret hS1.le.gt hs10
    rw [newL_V, meI_cast, ST_len] at hm
    have hlv : ∀ e1 o1, IsL (ST R mid oid e1 o1 ++ nlK (castL (mem s))) (nlV R.length (castL (mem s))) (castL (mem s)) := fun e1 o1 => by
      have := nlV_IsL (ST R mid oid e1 o1) (castL (mem s)) []
      rwa [List.append_nil, ST_len] at this
    have hll := lenL0 (hlv es1 ol)
    rw [castL_len] at hll
    have hlow := lowO_asked hlt (low := R.length) (es0 := es) (es1 := es) (.inl ⟨rfl, rfl⟩) ha1
    have hl := mk_root ih hS hg hn0 hn h0 hs hk hlv _ 0 (lowO R.length d1) es1 rfl (Nat.zero_le _) (fun x hx => by simp at hx) hok1 hlow
    have hlc := hS.flc
    refine Ret_mk' F74 (vs := [.int .i64 s, .ptr lc 0, .ptr oc 0, .ptr tc 0, .ptr sc 0]) (rows := R) (R := MkP n nx mid oid R ol s) (show Ex F (.fn []) [.code c74b] ⟨mk 49 [(0, .int .i64 s), (1, .ptr lc 0), (2, .ptr oc 0), (3, .ptr tc 0), (4, .ptr sc 0)], R, R.length⟩ _ from ?_)
    simp [hlc, hr, hm, hll, -lowO, lowO_n]
    simpa [-lowO] using hl
end
end Go.Abs

set_option linter.unusedVariables false
set_option linter.unusedSimpArgs false
namespace Go.Abs
open Rd (Cp IsL_one IsL_cells IsL_tail lowO_n)
section
variable {rows : List Row} {n m : Nat} {ev : AV} {fl : List Int}
/-- What Marks has made before it marks. -/
def MH (t n : Nat) (nx : Nat → Nat) (es : List (AV × AV)) (ol : List Int) : List Row := [.cells (nums .i64 (tL n nx)), .cells [.ptr t 0], .mp es, .cells [.ptr t 0, .map (t + 2)], .cells [.ptr (t + 3) 0], .cells (nums .i64 ol), .cells [.slice (t + 5) 0 n (.at_ n)], .cells [.func 74 [.ptr (t + 4) 0, .ptr (t + 6) 0, .ptr (t + 1) 0, .ptr (t + 7) 0]]]
theorem MH_ST {nx : Nat → Nat} {es es' : List (AV × AV)} {ol ol' : List Int} : ST (rows ++ MH rows.length n nx es ol) (rows.length + 2) (rows.length + 5) es' ol' = rows ++ MH rows.length n nx es' ol' := by
  unfold ST MH
  rw [rows_set, rows_set]
  rfl
theorem MH_MS {nx : Nat → Nat} {ol : List Int} (hgt : row? rows 1 = some (nums .u8 t64)) (hl : ol.length = n) : MS n nx rows.length (rows.length + 3) (rows.length + 2) (rows.length + 5) (rows.length + 4) (rows.length + 6) (rows.length + 1) (rows.length + 7) (rows ++ MH rows.length n nx [] ol) [] ol := by
  have h1 := row?_lt hgt
  have hr : ∀ {j : Nat} {vs : List AV}, row? (MH rows.length n nx [] ol) j = some vs → row? (rows ++ MH rows.length n nx [] ol) (rows.length + j) = some vs := fun h => by rw [row?_at]; exact h
  refine ⟨⟨row?_old hgt _, hr (j := 0) rfl, hr rfl, ?_, fun e he => by simp at he, ?_⟩, ?_, hl, by omega, hr rfl, hr rfl, hr rfl, hr rfl, by omega, by omega, by omega, by omega, by omega, by omega, by omega⟩
  · rw [rows_at]; rfl
  · intro y hy
    have e : (rows ++ MH rows.length n nx [] ol).drop (rows.length + 2) = (MH rows.length n nx [] ol).drop 2 := drop_app
    rw [e] at hy
    have hlen : (rows ++ MH rows.length n nx [] ol).length = rows.length + 8 := by simp [MH]
    rw [hlen]
    unfold MH at hy
    simp only [List.drop_succ_cons, List.drop_zero, List.mem_cons, List.not_mem_nil, or_false] at hy
    rcases hy with rfl | rfl | rfl | rfl | rfl | rfl
    · rfl
    · simp [Row.under, AV.under, AV.ids]
    · simp [Row.under, AV.under, AV.ids]
    · simp [Row.under]
    · simp [Row.under, AV.under, AV.ids]
    · simp [Row.under, AV.under, AV.ids]
  · rw [rows_at]; rfl
theorem Marks_ret (hgt : row? rows 1 = some (nums .u8 t64)) (he : El rows 2 ev (nums .i64 fl) m) (hfl : fl.length = m * 2) (hn0 : 1 ≤ n) (hn : n ≤ 10) (hm : m + 1 = n) (hT : TreeV fl m n) : ∃ ol, Ret F 42 [.int .i64 n, ev] rows = some (.tup [.slice rows.length 0 n (.at_ n), .int .i64 0], rows ++ [.cells (nums .i64 ol)], none) ∧ ol.length = n ∧ MK n (nxI fl m) ol (2 ^ n - 1) := by
  have g1 := (openTree_ok hgt he hfl hn0 hn hm).1 hT
  have hg := nxI_ok hn hT.1
  have hp : 2 ^ n - 1 < 2 ^ n ∧ 0 < 2 ^ n - 1 := by
    have : ∀ n, n < 11 → 1 ≤ n → 2 ^ n - 1 < 2 ^ n ∧ 0 < 2 ^ n - 1 := by decide
    exact this n (by omega) hn0
  generalize nxI fl m = nx at *
  have hS := MH_MS (nx := nx) (n := n) (ol := List.replicate n 0) hgt (by simp)
  obtain ⟨q, hq, es', ol', low, rfl, hok, hlen, _, hMK, hl1, hl2⟩ := mk_ok hg hn0 hn 10 _ _ _ _ hS hp.2 hp.1 (cnt_10 _ (lt1024 hp.1 hn))
  rw [MH_ST] at hq
  refine ⟨ol', ?_, hlen, hMK⟩
  have g2 := newLooks_ret (rows := rows ++ [.cells (nums .i64 (tL n nx)), .cells [.ptr rows.length 0]]) (tid := rows.length)
  have g3 := all_ret (n := n) (nx := nx) (tid := rows.length) hS.le.tr hn
  unfold MH at hq g3
  have hnum : List.replicate n (AV.int .i64 0) = nums .i64 (List.replicate n 0) := by simp [nums]
  have hlim : n ≤ lim := by simp [lim]; omega
  simp only [List.length_append, List.length_cons, List.length_nil, List.append_assoc, List.cons_append, List.nil_append] at g2 g3 hq
  refine i42 F42 ?_
  have hlow : lower rows.length low = rows.length := lower_ge (by omega)
  generalize 2 ^ n - 1 = q at *
  have hout : row? (rows ++ MH rows.length n nx es' ol') (rows.length + 6) = some [.slice (rows.length + 5) 0 n (.at_ n)] := by rw [row?_at]; rfl
  simp [g1, g2, hlim, hnum, Nat.add_assoc, g3, drop_mapp, hq, hlow, hout]
  have hne : ¬ rows.length + 5 < rows.length := by omega
  have hro : (rows ++ MH rows.length n nx es' ol')[rows.length + 5]? = some (.cells (nums .i64 ol')) := by rw [rows_at]; rfl
  simp [fin, hne, AV.plain1, AV.plain, AV.ren1, AV.ren, hro]
end
end Go.Abs

set_option linter.unusedVariables false
set_option linter.unusedSimpArgs false
namespace Go.Abs
def oc1 (x : Int) : Int := IntKind.u64.wrap (IntKind.u64.wrap (bvop .and IntKind.u64.bits (x.fdiv (2 ^ min 1 IntKind.u64.bits)) 6148914691236517205) + IntKind.u64.wrap (bvop .and IntKind.u64.bits x 6148914691236517205))
def oc2 (x : Int) : Int := IntKind.u64.wrap (IntKind.u64.wrap (bvop .and IntKind.u64.bits (x.fdiv (2 ^ min 2 IntKind.u64.bits)) 3689348814741910323) + IntKind.u64.wrap (bvop .and IntKind.u64.bits x 3689348814741910323))
def oc3 (x : Int) : Int := IntKind.u64.wrap (bvop .and IntKind.u64.bits (IntKind.u64.wrap (x.fdiv (2 ^ min 4 IntKind.u64.bits) + x)) 1085102592571150095)
def oc4 (k : Nat) (x : Int) : Int := IntKind.u64.wrap (x + x.fdiv (2 ^ min k IntKind.u64.bits))
def oc5 (x : Int) : Int := IntKind.i64.wrap (bvop .and IntKind.i64.bits (IntKind.i64.wrap x) 127)
def ocx (x : Int) : Int := oc5 (oc4 32 (oc4 16 (oc4 8 (oc3 (oc2 (oc1 x))))))
theorem ocx_ok : ∀ s : Nat, s < 1024 → ocx s = (cnt s : Nat) := by decide +kernel
section
variable {rows : List Row}
theorem oc1_n {x : Int} : IntKind.u64.wrap (IntKind.u64.wrap (bvop .and IntKind.u64.bits (x.fdiv (2 ^ min 1 IntKind.u64.bits)) 6148914691236517205) + IntKind.u64.wrap (bvop .and IntKind.u64.bits x 6148914691236517205)) = oc1 x := rfl
theorem oc2_n {x : Int} : IntKind.u64.wrap (IntKind.u64.wrap (bvop .and IntKind.u64.bits (x.fdiv (2 ^ min 2 IntKind.u64.bits)) 3689348814741910323) + IntKind.u64.wrap (bvop .and IntKind.u64.bits x 3689348814741910323)) = oc2 x := rfl
theorem oc3_n {x : Int} : IntKind.u64.wrap (bvop .and IntKind.u64.bits (IntKind.u64.wrap (x.fdiv (2 ^ min 4 IntKind.u64.bits) + x)) 1085102592571150095) = oc3 x := rfl
theorem oc4_n {k : Nat} {x : Int} : IntKind.u64.wrap (x + x.fdiv (2 ^ min k IntKind.u64.bits)) = oc4 k x := rfl
theorem oc5_n {x : Int} : IntKind.i64.wrap (bvop .and IntKind.i64.bits (IntKind.i64.wrap x) 127) = oc5 x := rfl
theorem oc_ret {x : Int} : Ret F 95 [.int .u64 x] rows = some (.int .i64 (ocx x), rows, none) := by
  refine i95 F95 ?_
  unfold ocx
  simp [oc1_n, oc2_n, oc3_n, oc4_n, oc5_n]
/-- OnesCount. -/
theorem ones_ret {s : Nat} (hs : s < 1024) : Ret F 80 [.int .u64 s] rows = some (.int .i64 (cnt s : Nat), rows, none) := by
  refine i80 F80 ?_
  simp [oc_ret, ocx_ok s hs]
end
def mdl (f : Nat → Nat) (n : Nat) : Nat → Nat × Nat
  | 0 => (0, n)
  | k + 1 => if f k < (mdl f n k).2 then (k, f k) else mdl f n k
/-- The greatest part without a place. -/
def WM (nx : Nat → Nat) (n v : Nat) : Nat := Wd cnt (PT nx 10 (sD (2 ^ n - 1) (sB v)))
section
variable {rows : List Row} {nx : Nat → Nat} {n : Nat} {es : List (Nat × Nat)} {ev : AV}
theorem Wd_take {ps : List Nat} {j p : Nat} (h : ps[j]? = some p) : Wd cnt (ps.take (j + 1)) = max (Wd cnt (ps.take j)) (cnt p) := by
  unfold Wd
  rw [foldl_take h]
theorem md_parts {R : List Row} {L v a l tid : Nat} {ps : List Nat} {pv : AV} {r : AV × List Row × Nat → Prop} (hpv : IsL R pv (castL ps)) (hps : ∀ p ∈ ps, p < 1024) (hpl : ps.length ≤ 100) (hv : v ≤ 10)
    (hk : Lc49l2 F (.fn [.t 4, .t 5, .t 6]) (.ptr tid 0) (.int .i64 (if Wd cnt ps < l then v else a : Nat)) (.int .i64 (if Wd cnt ps < l then Wd cnt ps else l : Nat)) (.int .i64 n) (.int .i64 ((v : Int) + 1)) R L r) : ∀ (d j : Nat), ps.length - j = d → j ≤ ps.length →
    Lc49l8 F (.fn [.t 4, .t 5, .t 6]) (.ptr tid 0) (.int .i64 a) (.int .i64 l) (.int .i64 v) (.int .i64 (Wd cnt (ps.take j) : Nat)) (.int .i64 n) (.int .i64 v) pv (.int .i64 ps.length) (.int .i64 j) R L r := by
  have w0 : IntKind.i64.wrap ((v : Int) + 1) = v + 1 := wrap64 (by omega) (by omega)
  intro d
  induction d with
  | zero =>
    intro j hd h1
    have e : ps.take j = ps := List.take_of_length_le (by omega)
    rw [e]
    generalize Wd cnt ps = w at *
    unfold Lc49l8
    by_cases hc : w < l
    · rw [if_pos hc, if_pos hc] at hk
      simp [show ¬ (j < ps.length) by omega, hc, w0]
      exact hk
    · rw [if_neg hc, if_neg hc] at hk
      simp [show ¬ (j < ps.length) by omega, hc, w0]
      exact hk
  | succ d ih =>
    intro j hd h1
    have hj : j < ps.length := by omega
    have a1 := idxC hpv hj
    have a2 := ldC hpv hj
    have hm := gN_mem hj
    have hget := gN_get hj
    have ht := Wd_take hget
    generalize gN ps j = p at *
    have hp10 := hps p hm
    have w1 : IntKind.i64.wrap ((j : Int) + 1) = j + 1 := wrap64 (by omega) (by omega)
    have u1 : IntKind.u64.wrap (p : Int) = p := wrapU64 (by omega) (by omega)
    have g1 := ones_ret (rows := R) hp10
    have := ih (j + 1) (by omega) (by omega)
    rw [ht] at this
    have hcast : ∀ a b : Nat, ((max a b : Nat) : Int) = max (a : Int) (b : Int) := fun a b => by omega
    rw [hcast] at this
    unfold Lc49l8
    simp [hj, a1, a2, u1, g1, w1]
    simpa using this
theorem md_loop {X : Row} {tid : Nat} (hg : GOK nx) (hgt : row? rows 1 = some (nums .u8 t64)) (ht : ∀ H, row? (rows ++ X :: H) tid = some (nums .i64 (tL n nx))) (hn : n ≤ 10) : ∀ (d v : Nat) (H : List Row), n - v = d → v ≤ n →
    Lc49l2 F (.fn [.t 4, .t 5, .t 6]) (.ptr tid 0) (.int .i64 (mdl (WM nx n) n v).1) (.int .i64 (mdl (WM nx n) n v).2) (.int .i64 n) (.int .i64 v) (rows ++ X :: H) rows.length (fun r => fin rows r.1 r.2.1 r.2.2 = (.tup [.int .i64 (mdl (WM nx n) n n).1, .int .i64 (mdl (WM nx n) n n).2, .int .i64 0], rows, none)) := by
  have hp : 2 ^ n - 1 < 1024 := by
    have : ∀ n, n < 11 → 2 ^ n - 1 < 1024 := by decide
    exact this n (by omega)
  intro d
  induction d with
  | zero =>
    intro v H hd h1
    have hv : v = n := by omega
    subst hv
    unfold Lc49l2
    simp
  | succ d ih =>
    intro v H hd h1
    have hv : v < n := by omega
    have hD := D_lt10 (b := sB v) hp
    have g0 := all_ret (ht H) hn
    have g1 := parts_ret (w := v) (row?_old hgt (X :: H)) hg (ht H) hp (by omega)
    rw [newL_V] at g1
    have hpm := fun p hp => (PT_mem hg 10 _ hD p hp).2.1
    have hpl := PT_len (nx := nx) 10 (sD (2 ^ n - 1) (sB v))
    have hW : WM nx n v = Wd cnt (PT nx 10 (sD (2 ^ n - 1) (sB v))) := rfl
    have hIL := nlV_IsL (rows ++ X :: H) (castL (PT nx 10 (sD (2 ^ n - 1) (sB v)))) []
    rw [List.append_nil] at hIL
    have hll := lenL0 hIL
    rw [castL_len] at hll
    have := ih (v + 1) (H ++ nlK (castL (PT nx 10 (sD (2 ^ n - 1) (sB v))))) (by omega) (by omega)
    have hstep : mdl (WM nx n) n (v + 1) = if WM nx n v < (mdl (WM nx n) n v).2 then (v, WM nx n v) else mdl (WM nx n) n v := rfl
    rw [hstep] at this
    generalize mdl (WM nx n) n n = fin2 at *
    generalize mdl (WM nx n) n v = q at *
    rw [hW] at this
    generalize PT nx 10 (sD (2 ^ n - 1) (sB v)) = ps at *
    have hl := md_parts (L := rows.length) (v := v) (a := q.1) (l := q.2) (n := n) (tid := tid) (r := fun r => fin rows r.1 r.2.1 r.2.2 = (.tup [.int .i64 fin2.1, .int .i64 fin2.2, .int .i64 0], rows, none)) hIL hpm (by omega) (by omega) (by
      by_cases hc : Wd cnt ps < q.2
      · rw [if_pos hc] at this
        rw [if_pos hc, if_pos hc]
        simpa using this
      · rw [if_neg hc] at this
        rw [if_neg hc, if_neg hc]
        simpa using this) _ 0 rfl (Nat.zero_le _)
    generalize 2 ^ n - 1 = s at *
    unfold Lc49l2
    simp [hv, g0, g1, hll, -List.append_assoc, -List.length_append]
    simpa [Wd, -List.append_assoc, -List.length_append] using hl
/-- search.Middle, of a tree. -/
theorem Middle_ret {fl : List Int} {m : Nat} (hgt : row? rows 1 = some (nums .u8 t64)) (he : El rows 2 ev (nums .i64 fl) m) (hfl : fl.length = m * 2) (hn0 : 1 ≤ n) (hn : n ≤ 10) (hm : m + 1 = n) (hT : TreeV fl m n) : Ret F 49 [.int .i64 n, ev] rows = some (.tup [.int .i64 (mdl (WM (nxI fl m) n) n n).1, .int .i64 (mdl (WM (nxI fl m) n) n n).2, .int .i64 0], rows, none) := by
  have g1 := (openTree_ok hgt he hfl hn0 hn hm).1 hT
  have hg := nxI_ok hn hT.1
  generalize nxI fl m = nx at *
  have := md_loop (X := .cells (nums .i64 (tL n nx))) (tid := rows.length) hg hgt (fun H => by simp) hn _ 0 [] rfl (Nat.zero_le _)
  refine i49 F49 ?_
  simp [g1]
  simpa [mdl] using this
theorem rd_parts {R : List Row} {L v a l : Nat} {ps : List Nat} {pv : AV} {r : AV × List Row × Nat → Prop} (hpv : IsL R pv (castL ps)) (hps : ∀ p ∈ ps, p < 1024) (hpl : ps.length ≤ 100) (hv : v ≤ 10)
    (hk : Lc51l2 F (.fn [.t 4, .t 5]) (.int .i64 n) ev (.int .i64 (if Wd cnt ps < l then v else a : Nat)) (.int .i64 (if Wd cnt ps < l then Wd cnt ps else l : Nat)) (.int .i64 ((v : Int) + 1)) R L r) : ∀ (d j : Nat), ps.length - j = d → j ≤ ps.length →
    Lc51l9 F (.fn [.t 4, .t 5]) (.int .i64 n) ev (.int .i64 a) (.int .i64 l) (.int .i64 v) pv (.int .i64 (Wd cnt (ps.take j) : Nat)) (.int .i64 j) R L r := by
  have w0 : IntKind.i64.wrap ((v : Int) + 1) = v + 1 := wrap64 (by omega) (by omega)
  have hll := lenL0 hpv
  rw [castL_len] at hll
  intro d
  induction d with
  | zero =>
    intro j hd h1
    have e : ps.take j = ps := List.take_of_length_le (by omega)
    rw [e]
    generalize Wd cnt ps = w at *
    unfold Lc51l9
    by_cases hc : w < l
    · rw [if_pos hc, if_pos hc] at hk
      simp [hll, show ¬ (j < ps.length) by omega, hc, w0]
      exact hk
    · rw [if_neg hc, if_neg hc] at hk
      simp [hll, show ¬ (j < ps.length) by omega, hc, w0]
      exact hk
  | succ d ih =>
    intro j hd h1
    have hj : j < ps.length := by omega
    have a1 := idxC hpv hj
    have a2 := ldC hpv hj
    have hm := gN_mem hj
    have hget := gN_get hj
    have ht := Wd_take hget
    generalize gN ps j = p at *
    have hp10 := hps p hm
    have w1 : IntKind.i64.wrap ((j : Int) + 1) = j + 1 := wrap64 (by omega) (by omega)
    have g1 := size_ret (rows := R) hp10
    have := ih (j + 1) (by omega) (by omega)
    rw [ht] at this
    have hcast : ∀ a b : Nat, ((max a b : Nat) : Int) = max (a : Int) (b : Int) := fun a b => by omega
    rw [hcast] at this
    unfold Lc51l9
    simp [hll, hj, a1, a2, g1, w1]
    simpa using this
theorem rd_loop (hg : GOK nx) (hE : Edg nx es) (he : IsP rows ev es) (hel : es.length ≤ 1000) (hn : n ≤ 10) : ∀ (d v : Nat) (H : List Row), n - v = d → v ≤ n →
    Lc51l2 F (.fn [.t 4, .t 5]) (.int .i64 n) ev (.int .i64 (mdl (WM nx n) n v).1) (.int .i64 (mdl (WM nx n) n v).2) (.int .i64 v) (rows ++ H) rows.length (fun r => fin rows r.1 r.2.1 r.2.2 = (.tup [.int .i64 (mdl (WM nx n) n n).1, .int .i64 (mdl (WM nx n) n n).2], rows, none)) := by
  have hp : 2 ^ n - 1 < 1024 ∧ 2 ^ n - 1 < 2 ^ n := by
    have : ∀ n, n < 11 → 2 ^ n - 1 < 1024 ∧ 2 ^ n - 1 < 2 ^ n := by decide
    exact this n (by omega)
  intro d
  induction d with
  | zero =>
    intro v H hd h1
    have hv : v = n := by omega
    subst hv
    unfold Lc51l2
    simp
  | succ d ih =>
    intro v H hd h1
    have hv : v < n := by omega
    have hD := D_lt10 (b := sB v) hp.1
    have hD2 := D_lt (b := sB v) hp.2
    have g1 := rparts_ret hg hE (IsP_app he H) hel hn hD2
    rw [newL_V] at g1
    have hb := B_lt10 (show v < 10 by omega)
    have hp0 : 0 < sB n := Nat.pow_pos (by omega)
    have hp1 : sB n ≤ 1024 := by
      have : ∀ n, n < 11 → sB n ≤ 1024 := by decide
      exact this n (by omega)
    have w2 := w_shl (i := n) (by omega)
    have w3 := w_shl (i := v) (by omega)
    have w4 : IntKind.i64.wrap ((sB n : Nat) - 1 : Int) = ((2 ^ n - 1 : Nat) : Int) := by
      rw [wrap64 (by omega) (by omega)]
      show ((sB n : Nat) : Int) - 1 = ((sB n - 1 : Nat) : Int)
      omega
    have w5 := w_andNot (a := 2 ^ n - 1) (b := sB v) (by omega) (by omega)
    have hpm := fun p hp => (PT_mem hg 10 _ hD p hp).2.1
    have hpl := PT_len (nx := nx) 10 (sD (2 ^ n - 1) (sB v))
    have hW : WM nx n v = Wd cnt (PT nx 10 (sD (2 ^ n - 1) (sB v))) := rfl
    have hIL := nlV_IsL (rows ++ H) (castL (PT nx 10 (sD (2 ^ n - 1) (sB v)))) []
    rw [List.append_nil] at hIL
    have := ih (v + 1) (H ++ nlK (castL (PT nx 10 (sD (2 ^ n - 1) (sB v))))) (by omega) (by omega)
    have hstep : mdl (WM nx n) n (v + 1) = if WM nx n v < (mdl (WM nx n) n v).2 then (v, WM nx n v) else mdl (WM nx n) n v := rfl
    rw [hstep] at this
    generalize mdl (WM nx n) n n = fin2 at *
    generalize mdl (WM nx n) n v = q at *
    rw [hW] at this
    generalize PT nx 10 (sD (2 ^ n - 1) (sB v)) = ps at *
    have hl := rd_parts (L := rows.length) (v := v) (a := q.1) (l := q.2) (n := n) (ev := ev) (r := fun r => fin rows r.1 r.2.1 r.2.2 = (.tup [.int .i64 fin2.1, .int .i64 fin2.2], rows, none)) hIL hpm (by omega) (by omega) (by
      by_cases hc : Wd cnt ps < q.2
      · rw [if_pos hc] at this
        rw [if_pos hc, if_pos hc]
        simpa using this
      · rw [if_neg hc] at this
        rw [if_neg hc, if_neg hc]
        simpa using this) _ 0 rfl (Nat.zero_le _)
    generalize 2 ^ n - 1 = s at *
    unfold Lc51l2
    simp [hv, w2, w3, w4, w5, g1, show ¬ (v : Int) < 0 by omega, show ¬ (n : Int) < 0 by omega, -List.append_assoc, -List.length_append]
    simpa [Wd, -List.append_assoc, -List.length_append] using hl
/-- R.Middle. -/
theorem rmiddle_ret (hg : GOK nx) (hE : Edg nx es) (he : IsP rows ev es) (hel : es.length ≤ 1000) (hn : n ≤ 10) : Ret F 51 [.int .i64 n, ev] rows = some (.tup [.int .i64 (mdl (WM nx n) n n).1, .int .i64 (mdl (WM nx n) n n).2], rows, none) := by
  have := rd_loop hg hE he hel hn _ 0 [] rfl (Nat.zero_le _)
  refine i51 F51 ?_
  simp
  simpa [mdl] using this
end
end Go.Abs

set_option linter.unusedVariables false
set_option linter.unusedSimpArgs false
namespace Go.Abs
open Rd (Cp IsL_one IsL_cells IsL_tail lowO_n)
def bls (l : List Bool) : List AV := l.map .bool
@[simp] theorem bls_len {l : List Bool} : (bls l).length = l.length := by simp [bls]
@[simp] theorem bls_set {l : List Bool} {i : Nat} {b : Bool} : (bls l).set i (.bool b) = bls (l.set i b) := by simp [bls, List.map_set]
def usedT (n : Nat) (s : List Int) : List Bool := (List.range n).map fun (j : Nat) => decide ((j : Int) ∈ s)
@[simp] theorem usedT_len {n : Nat} {s : List Int} : (usedT n s).length = n := by simp [usedT]
section
variable {R3 H1 : List Row} {low : Nat} {r : AV × List Row × Nat → Prop}
end
end Go.Abs

set_option linter.unusedVariables false
set_option maxRecDepth 20000
set_option maxHeartbeats 4000000
namespace Go.Abs
variable {F : Nat → Option IFn} {cx : Ctx} {k : List Itm} {s : St} {l : List (Nat × AV)} {rows : List Row} {low : Nat} {r : AV × List Row × Nat → Prop}
def c13r0 : List Seg := [
  .one ⟨some 54, .mv (.t 7), none⟩,
  .one ⟨some 55, .bin .eql (.t 54) (.c (.int .i64 0)), none⟩,
  .one ⟨some 56, .mv (.t 55), none⟩,
  .one ⟨some 57, .mv (.t 6), some (56, true)⟩,
  .one ⟨some 58, .mv (.t 13), some (56, true)⟩,
  .one ⟨some 59, .bin .eql (.t 57) (.t 58), some (56, true)⟩,
  .one ⟨some 60, .pick (.t 56) (.t 59) (.c (.bool false)), none⟩,
  .one ⟨some 61, .mv (.t 60), none⟩,
  .one ⟨some 62, .mv (.t 9), some (61, true)⟩,
  .one ⟨some 63, .bin .eql (.t 62) (.c (.int .i64 0)), some (61, true)⟩,
  .one ⟨some 64, .pick (.t 61) (.t 63) (.c (.bool false)), none⟩,
  .one ⟨some 65, .mv (.t 64), none⟩,
  .one ⟨some 66, .mv (.t 0), some (65, true)⟩,
  .one ⟨some 67, .mv (.t 5), some (65, true)⟩,
  .one ⟨some 68, .mv (.t 8), some (65, true)⟩,
  .one ⟨some 69, .call (.c (.func 41 [])) [(.t 66), (.t 67), (.t 68)], some (65, true)⟩,
  .one ⟨some 70, .pick (.t 65) (.t 69) (.c (.bool false)), none⟩,
  .one ⟨some 71, .mv (.t 70), none⟩,
  .one ⟨some 72, .mv (.t 8), some (71, true)⟩,
  .one ⟨some 73, .call (.c (.func 37 [])) [(.t 72)], some (71, true)⟩,
  .one ⟨some 74, .mv (.t 13), some (71, true)⟩,
  .one ⟨some 75, .bin .eql (.t 73) (.t 74), some (71, true)⟩,
  .one ⟨some 76, .pick (.t 71) (.t 75) (.c (.bool false)), none⟩,
  .one ⟨some 77, .mv (.t 76), none⟩,
  .one ⟨some 78, .mv (.t 12), some (77, true)⟩,
  .one ⟨some 79, .bin .eql (.t 78) (.c (.int .i64 0)), some (77, true)⟩,
  .one ⟨some 80, .pick (.t 77) (.t 79) (.c (.bool false)), none⟩,
  .one ⟨some 81, .mv (.t 80), none⟩,
  .one ⟨some 82, .mv (.t 10), some (81, true)⟩,
  .one ⟨some 83, .mv (.t 14), some (81, true)⟩,
  .one ⟨some 84, .bin .eql (.t 82) (.t 83), some (81, true)⟩,
  .one ⟨some 85, .pick (.t 81) (.t 84) (.c (.bool false)), none⟩,
  .one ⟨some 86, .mv (.t 85), none⟩,
  .one ⟨some 87, .mv (.t 11), some (86, true)⟩,
  .one ⟨some 88, .mv (.t 15), some (86, true)⟩,
  .one ⟨some 89, .bin .eql (.t 87) (.t 88), some (86, true)⟩,
  .one ⟨some 90, .pick (.t 86) (.t 89) (.c (.bool false)), none⟩,
  .one ⟨some 91, .mv (.t 90), none⟩,
  .one ⟨some 92, .call (.c (.func 22 [])) [], some (91, true)⟩,
  .one ⟨some 93, .pick (.t 91) (.t 92) (.c (.bool false)), none⟩,
  .one ⟨some 4, .mv (.t 93), none⟩]
def c13k0 : ICode := .kill (dead 94 [0, 5, 6, 7, 8, 9, 10, 11, 12, 13, 14, 15]) (.ops c13r0)
@[simp] theorem uc13k0 : Ex F cx (.code c13k0 :: k) ⟨mk 94 l, rows, low⟩ r ↔ bnd (evP rows (.bin .eql (.c (lk l 7)) (.c (.int .i64 0)))) fun v0 => bnd (gv v0 true (evP rows (.mv (.c (lk l 6))))) fun v1 => bnd (gv v0 true (evP rows (.mv (.c (lk l 13))))) fun v2 => bnd (gv v0 true (evP rows (.bin .eql (.c v1) (.c v2)))) fun v3 => bnd (evP rows (.pick (.c v0) (.c v3) (.c (.bool false)))) fun v4 => bnd (gv v4 true (evP rows (.mv (.c (lk l 9))))) fun v5 => bnd (gv v4 true (evP rows (.bin .eql (.c v5) (.c (.int .i64 0))))) fun v6 => bnd (evP rows (.pick (.c v4) (.c v6) (.c (.bool false)))) fun v7 => bnd (gv v7 true (evP rows (.mv (.c (lk l 0))))) fun v8 => bnd (gv v7 true (evP rows (.mv (.c (lk l 5))))) fun v9 => bnd (gv v7 true (evP rows (.mv (.c (lk l 8))))) fun v10 => gcall F v7 true rows low [v8, v9, v10] (.func 41 []) fun v11 R11 L11 => bnd (evP R11 (.pick (.c v7) (.c v11) (.c (.bool false)))) fun v12 => bnd (gv v12 true (evP R11 (.mv (.c (lk l 8))))) fun v13 => gcall F v12 true R11 L11 [v13] (.func 37 []) fun v14 R14 L14 => bnd (gv v12 true (evP R14 (.mv (.c (lk l 13))))) fun v15 => bnd (gv v12 true (evP R14 (.bin .eql (.c v14) (.c v15)))) fun v16 => bnd (evP R14 (.pick (.c v12) (.c v16) (.c (.bool false)))) fun v17 => bnd (gv v17 true (evP R14 (.mv (.c (lk l 12))))) fun v18 => bnd (gv v17 true (evP R14 (.bin .eql (.c v18) (.c (.int .i64 0))))) fun v19 => bnd (evP R14 (.pick (.c v17) (.c v19) (.c (.bool false)))) fun v20 => bnd (gv v20 true (evP R14 (.mv (.c (lk l 10))))) fun v21 => bnd (gv v20 true (evP R14 (.mv (.c (lk l 14))))) fun v22 => bnd (gv v20 true (evP R14 (.bin .eql (.c v21) (.c v22)))) fun v23 => bnd (evP R14 (.pick (.c v20) (.c v23) (.c (.bool false)))) fun v24 => bnd (gv v24 true (evP R14 (.mv (.c (lk l 11))))) fun v25 => bnd (gv v24 true (evP R14 (.mv (.c (lk l 15))))) fun v26 => bnd (gv v24 true (evP R14 (.bin .eql (.c v25) (.c v26)))) fun v27 => bnd (evP R14 (.pick (.c v24) (.c v27) (.c (.bool false)))) fun v28 => gcall F v28 true R14 L14 [] (.func 22 []) fun v29 R29 L29 => bnd (evP R29 (.pick (.c v28) (.c v29) (.c (.bool false)))) fun v30 => Ex F cx k ⟨mk 94 [(4, v30), (93, v30), (92, v29), (91, v28), (90, v28), (89, v27), (88, v26), (87, v25), (86, v24), (85, v24), (84, v23), (83, v22), (82, v21), (81, v20), (80, v20), (79, v19), (78, v18), (77, v17), (76, v17), (75, v16), (74, v15), (73, v14), (72, v13), (71, v12), (70, v12), (69, v11), (68, v10), (67, v9), (66, v8), (65, v7), (64, v7), (63, v6), (62, v5), (61, v4), (60, v4), (59, v3), (58, v2), (57, v1), (56, v0), (55, v0), (54, lk l 7), (0, lk l 0), (5, lk l 5), (6, lk l 6), (7, lk l 7), (8, lk l 8), (9, lk l 9), (10, lk l 10), (11, lk l 11), (12, lk l 12), (13, lk l 13), (14, lk l 14), (15, lk l 15)], R29, L29⟩ r := reg (keep := [0, 5, 6, 7, 8, 9, 10, 11, 12, 13, 14, 15]) (ops := c13r0) rfl (by kernel_rfl) (by kernel_rfl)
def c13s1 : ICode := (.seq c13k0 .ret)
@[simp] theorem uc13s1 : Ex F cx (.code c13s1 :: k) s r ↔ Ex F cx (.code (.seq c13k0 .ret) :: k) s r := Iff.rfl
def c13r2 : List Seg := [
  .one ⟨some 49, .mv (.t 0), none⟩,
  .one ⟨some 50, .mv (.t 5), none⟩,
  .one ⟨some 51, .call (.c (.func 51 [])) [(.t 49), (.t 50)], none⟩,
  .one ⟨some 48, .mv (.t 51), none⟩,
  .one ⟨some 52, .ext (.t 48) 0, none⟩,
  .one ⟨some 53, .ext (.t 48) 1, none⟩,
  .one ⟨some 14, .mv (.t 52), none⟩,
  .one ⟨some 15, .mv (.t 53), none⟩]
def c13k2 : ICode := .kill (dead 94 [0, 5, 6, 7, 8, 9, 10, 11, 12, 13]) (.ops c13r2)
@[simp] theorem uc13k2 : Ex F cx (.code c13k2 :: k) ⟨mk 94 l, rows, low⟩ r ↔ bnd (Ret F 51 [lk l 0, lk l 5] rows) fun q0 => bnd (evP q0.2.1 (.ext (.c q0.1) 0)) fun v1 => bnd (evP q0.2.1 (.ext (.c q0.1) 1)) fun v2 => Ex F cx k ⟨mk 94 [(15, v2), (14, v1), (53, v2), (52, v1), (48, q0.1), (51, q0.1), (50, lk l 5), (49, lk l 0), (0, lk l 0), (5, lk l 5), (6, lk l 6), (7, lk l 7), (8, lk l 8), (9, lk l 9), (10, lk l 10), (11, lk l 11), (12, lk l 12), (13, lk l 13)], q0.2.1, (lowO low q0.2.2)⟩ r := reg (keep := [0, 5, 6, 7, 8, 9, 10, 11, 12, 13]) (ops := c13r2) rfl (by kernel_rfl) (by kernel_rfl)
def c13s3 : ICode := (.seq c13k2 c13s1)
@[simp] theorem uc13s3 : Ex F cx (.code c13s3 :: k) s r ↔ Ex F cx (.code (.seq c13k2 c13s1) :: k) s r := Iff.rfl
def c13r4 : List Seg := [
  .one ⟨some 41, .mv (.t 0), none⟩,
  .one ⟨some 42, .mv (.t 5), none⟩,
  .one ⟨some 43, .mv (.t 0), none⟩,
  .one ⟨some 44, .bin .shl (.c (.int .i64 1)) (.t 43), none⟩,
  .one ⟨some 45, .bin .sub (.t 44) (.c (.int .i64 1)), none⟩,
  .one ⟨some 46, .mkmap, none⟩,
  .one ⟨some 47, .call (.c (.func 50 [])) [(.t 41), (.t 42), (.t 45), (.t 46)], none⟩,
  .one ⟨some 13, .mv (.t 47), none⟩]
def c13k4 : ICode := .kill (dead 94 [0, 5, 6, 7, 8, 9, 10, 11, 12]) (.ops c13r4)
@[simp] theorem uc13k4 : Ex F cx (.code c13k4 :: k) ⟨mk 94 l, rows, low⟩ r ↔ bnd (evP rows (.bin .shl (.c (.int .i64 1)) (.c (lk l 0)))) fun v0 => bnd (evP rows (.bin .sub (.c v0) (.c (.int .i64 1)))) fun v1 => bnd (evE rows low (.mkmap)) fun q2 => bnd (Ret F 50 [lk l 0, lk l 5, v1, q2.1] q2.2.1) fun q3 => Ex F cx k ⟨mk 94 [(13, q3.1), (47, q3.1), (46, q2.1), (45, v1), (44, v0), (43, lk l 0), (42, lk l 5), (41, lk l 0), (0, lk l 0), (5, lk l 5), (6, lk l 6), (7, lk l 7), (8, lk l 8), (9, lk l 9), (10, lk l 10), (11, lk l 11), (12, lk l 12)], q3.2.1, (lowO q2.2.2 q3.2.2)⟩ r := reg (keep := [0, 5, 6, 7, 8, 9, 10, 11, 12]) (ops := c13r4) rfl (by kernel_rfl) (by kernel_rfl)
def c13s5 : ICode := (.seq c13k4 c13s3)
@[simp] theorem uc13s5 : Ex F cx (.code c13s5 :: k) s r ↔ Ex F cx (.code (.seq c13k4 c13s3) :: k) s r := Iff.rfl
def c13r6 : List Seg := [
  .one ⟨some 35, .mv (.t 0), none⟩,
  .one ⟨some 36, .mv (.t 5), none⟩,
  .one ⟨some 37, .call (.c (.func 49 [])) [(.t 35), (.t 36)], none⟩,
  .one ⟨some 34, .mv (.t 37), none⟩,
  .one ⟨some 38, .ext (.t 34) 0, none⟩,
  .one ⟨some 39, .ext (.t 34) 1, none⟩,
  .one ⟨some 40, .ext (.t 34) 2, none⟩,
  .one ⟨some 10, .mv (.t 38), none⟩,
  .one ⟨some 11, .mv (.t 39), none⟩,
  .one ⟨some 12, .mv (.t 40), none⟩]
def c13k6 : ICode := .kill (dead 94 [0, 5, 6, 7, 8, 9]) (.ops c13r6)
@[simp] theorem uc13k6 : Ex F cx (.code c13k6 :: k) ⟨mk 94 l, rows, low⟩ r ↔ bnd (Ret F 49 [lk l 0, lk l 5] rows) fun q0 => bnd (evP q0.2.1 (.ext (.c q0.1) 0)) fun v1 => bnd (evP q0.2.1 (.ext (.c q0.1) 1)) fun v2 => bnd (evP q0.2.1 (.ext (.c q0.1) 2)) fun v3 => Ex F cx k ⟨mk 94 [(12, v3), (11, v2), (10, v1), (40, v3), (39, v2), (38, v1), (34, q0.1), (37, q0.1), (36, lk l 5), (35, lk l 0), (0, lk l 0), (5, lk l 5), (6, lk l 6), (7, lk l 7), (8, lk l 8), (9, lk l 9)], q0.2.1, (lowO low q0.2.2)⟩ r := reg (keep := [0, 5, 6, 7, 8, 9]) (ops := c13r6) rfl (by kernel_rfl) (by kernel_rfl)
def c13s7 : ICode := (.seq c13k6 c13s5)
@[simp] theorem uc13s7 : Ex F cx (.code c13s7 :: k) s r ↔ Ex F cx (.code (.seq c13k6 c13s5) :: k) s r := Iff.rfl
def c13r8 : List Seg := [
  .one ⟨some 29, .mv (.t 0), none⟩,
  .one ⟨some 30, .mv (.t 5), none⟩,
  .one ⟨some 31, .call (.c (.func 42 [])) [(.t 29), (.t 30)], none⟩,
  .one ⟨some 28, .mv (.t 31), none⟩,
  .one ⟨some 32, .ext (.t 28) 0, none⟩,
  .one ⟨some 33, .ext (.t 28) 1, none⟩,
  .one ⟨some 8, .mv (.t 32), none⟩,
  .one ⟨some 9, .mv (.t 33), none⟩]
def c13k8 : ICode := .kill (dead 94 [0, 5, 6, 7]) (.ops c13r8)
@[simp] theorem uc13k8 : Ex F cx (.code c13k8 :: k) ⟨mk 94 l, rows, low⟩ r ↔ bnd (Ret F 42 [lk l 0, lk l 5] rows) fun q0 => bnd (evP q0.2.1 (.ext (.c q0.1) 0)) fun v1 => bnd (evP q0.2.1 (.ext (.c q0.1) 1)) fun v2 => Ex F cx k ⟨mk 94 [(9, v2), (8, v1), (33, v2), (32, v1), (28, q0.1), (31, q0.1), (30, lk l 5), (29, lk l 0), (0, lk l 0), (5, lk l 5), (6, lk l 6), (7, lk l 7)], q0.2.1, (lowO low q0.2.2)⟩ r := reg (keep := [0, 5, 6, 7]) (ops := c13r8) rfl (by kernel_rfl) (by kernel_rfl)
def c13s9 : ICode := (.seq c13k8 c13s7)
@[simp] theorem uc13s9 : Ex F cx (.code c13s9 :: k) s r ↔ Ex F cx (.code (.seq c13k8 c13s7) :: k) s r := Iff.rfl
def c13r10 : List Seg := [
  .one ⟨some 23, .mv (.t 0), none⟩,
  .one ⟨some 24, .mv (.t 5), none⟩,
  .one ⟨some 25, .call (.c (.func 48 [])) [(.t 23), (.t 24)], none⟩,
  .one ⟨some 22, .mv (.t 25), none⟩,
  .one ⟨some 26, .ext (.t 22) 0, none⟩,
  .one ⟨some 27, .ext (.t 22) 1, none⟩,
  .one ⟨some 6, .mv (.t 26), none⟩,
  .one ⟨some 7, .mv (.t 27), none⟩]
def c13k10 : ICode := .kill (dead 94 [0, 5]) (.ops c13r10)
@[simp] theorem uc13k10 : Ex F cx (.code c13k10 :: k) ⟨mk 94 l, rows, low⟩ r ↔ bnd (Ret F 48 [lk l 0, lk l 5] rows) fun q0 => bnd (evP q0.2.1 (.ext (.c q0.1) 0)) fun v1 => bnd (evP q0.2.1 (.ext (.c q0.1) 1)) fun v2 => Ex F cx k ⟨mk 94 [(7, v2), (6, v1), (27, v2), (26, v1), (22, q0.1), (25, q0.1), (24, lk l 5), (23, lk l 0), (0, lk l 0), (5, lk l 5)], q0.2.1, (lowO low q0.2.2)⟩ r := reg (keep := [0, 5]) (ops := c13r10) rfl (by kernel_rfl) (by kernel_rfl)
def c13s11 : ICode := (.seq c13k10 c13s9)
@[simp] theorem uc13s11 : Ex F cx (.code c13s11 :: k) s r ↔ Ex F cx (.code (.seq c13k10 c13s9) :: k) s r := Iff.rfl
def c13r12 : List Seg := [
  .one ⟨some 17, .mv (.t 0), none⟩,
  .one ⟨some 18, .mv (.t 1), none⟩,
  .one ⟨some 19, .call (.c (.func 39 [])) [(.t 17), (.t 18)], none⟩,
  .one ⟨some 16, .mv (.t 19), none⟩,
  .one ⟨some 20, .ext (.t 16) 0, none⟩,
  .one ⟨some 21, .ext (.t 16) 1, none⟩,
  .one ⟨some 0, .mv (.t 20), none⟩,
  .one ⟨some 5, .mv (.t 21), none⟩]
def c13k12 : ICode := .kill (dead 94 [0, 1]) (.ops c13r12)
@[simp] theorem uc13k12 : Ex F cx (.code c13k12 :: k) ⟨mk 94 l, rows, low⟩ r ↔ bnd (Ret F 39 [lk l 0, lk l 1] rows) fun q0 => bnd (evP q0.2.1 (.ext (.c q0.1) 0)) fun v1 => bnd (evP q0.2.1 (.ext (.c q0.1) 1)) fun v2 => Ex F cx k ⟨mk 94 [(5, v2), (0, v1), (21, v2), (20, v1), (16, q0.1), (19, q0.1), (18, lk l 1), (17, lk l 0), (0, lk l 0), (1, lk l 1)], q0.2.1, (lowO low q0.2.2)⟩ r := reg (keep := [0, 1]) (ops := c13r12) rfl (by kernel_rfl) (by kernel_rfl)
def c13s13 : ICode := (.seq c13k12 c13s11)
@[simp] theorem uc13s13 : Ex F cx (.code c13s13 :: k) s r ↔ Ex F cx (.code (.seq c13k12 c13s11) :: k) s r := Iff.rfl
def c13r14 : List Seg := [
  .one ⟨some 4, .mv (.c (.bool false)), none⟩]
def c13k14 : ICode := .kill (dead 94 [0, 1]) (.ops c13r14)
@[simp] theorem uc13k14 : Ex F cx (.code c13k14 :: k) ⟨mk 94 l, rows, low⟩ r ↔ Ex F cx k ⟨mk 94 [(4, (.bool false)), (0, lk l 0), (1, lk l 1)], rows, low⟩ r := reg (keep := [0, 1]) (ops := c13r14) rfl (by kernel_rfl) (by kernel_rfl)
def c13b : ICode := (.seq c13k14 c13s13)
@[simp] theorem uc13b : Ex F cx (.code c13b :: k) s r ↔ Ex F cx (.code (.seq c13k14 c13s13) :: k) s r := Iff.rfl
def c13 : IFn := ⟨94, [.t 4], c13b⟩
def h13 : List (Nat × List Nat) := [(0, dead 94 [0, 1]), (1, dead 94 [0, 1]), (2, dead 94 [0, 5]), (3, dead 94 [0, 5, 6, 7]), (4, dead 94 [0, 5, 6, 7, 8, 9]), (5, dead 94 [0, 5, 6, 7, 8, 9, 10, 11, 12]), (6, dead 94 [0, 5, 6, 7, 8, 9, 10, 11, 12, 13]), (7, dead 94 [0, 5, 6, 7, 8, 9, 10, 11, 12, 13, 14, 15])]
theorem i13 {x0 x1 : AV} (hF : F 13 = some c13) {q : AV × List Row × Option Nat} (h : Ex F (.fn [.t 4]) [.code c13b] ⟨mk 94 [(0, x0), (1, x1)], rows, rows.length⟩ fun r => fin rows r.1 r.2.1 r.2.2 = q) : Ret F 13 [x0, x1] rows = some q := Ret_mk hF h
end Go.Abs

set_option linter.unusedVariables false
set_option linter.unusedSimpArgs false
namespace Go.Abs
open Rd (Cp IsL_one IsL_cells IsL_tail lowO_n)
abbrev G13 : Nat → Option IFn := more F 13 c13
theorem toG13 {f : Nat} {vs : List AV} {rows : List Row} {q : AV × List Row × Option Nat} (h : Ret F f vs rows = some q) : Ret G13 f vs rows = some q := Ret_ext (more_ext (by kernel_rfl)) h
theorem foldl_mx_ge : ∀ (l : List Int) (a : Int), a ≤ l.foldl max a ∧ ∀ x ∈ l, x ≤ l.foldl max a
  | [], a => ⟨Int.le_refl _, fun x hx => by simp at hx⟩
  | y :: l, a => by
    obtain ⟨h1, h2⟩ := foldl_mx_ge l (max a y)
    simp only [List.foldl_cons]
    refine ⟨by omega, fun x hx => ?_⟩
    rcases List.mem_cons.1 hx with rfl | hx
    · omega
    · exact h2 x hx
theorem foldl_mx_le {m : Int} : ∀ (l : List Int) (a : Int), a ≤ m → (∀ x ∈ l, x ≤ m) → l.foldl max a ≤ m
  | [], a, h, _ => h
  | y :: l, a, h, hx => by
    simp only [List.foldl_cons]
    have := hx y List.mem_cons_self
    exact foldl_mx_le l _ (by omega) fun x h => hx x (List.mem_cons_of_mem _ h)
theorem MK_worst {n : Nat} {nx : Nat → Nat} (hg : GOK nx) {ol : List Int} (hn : n ≤ 10) (hl : ol.length = n) (h : MK n nx ol (2 ^ n - 1)) : ol.foldl max 0 = (LL n nx (2 ^ n - 1) : Nat) := by
  have hp : 2 ^ n - 1 < 1024 := by
    have : ∀ n, n < 11 → 2 ^ n - 1 < 1024 := by decide
    exact this n (by omega)
  obtain ⟨r, r1, r2⟩ := MK_max h
  have hr : r < n := by rw [all_tb] at r1; simpa using r1
  have h1 := (foldl_mx_ge ol 0).2 (gI ol r) (List.mem_of_getElem? (gI_get (by omega)))
  have h2 := foldl_mx_le (m := (LL n nx (2 ^ n - 1) : Nat)) ol 0 (by omega) fun x hx => by
    obtain ⟨i, hi, rfl⟩ := List.mem_iff_getElem.1 hx
    have := MK_le hg h hp i (by rw [all_tb]; simpa using (by omega : i < n))
    rw [gI_eq hi] at this
    omega
  omega
section
variable {rows : List Row} {n : Nat} {es : List (Nat × Nat)} {up : Nat → Nat}
theorem MM_new {B : List Row} {nx : Nat → Nat} : MM n nx B.length (B ++ [.mp []]) [] := by
  refine ⟨by simp, fun e he => by simp at he, fun y hy => ?_⟩
  rw [List.drop_left] at hy
  simp at hy
  subst hy
  rfl
open Classical in
/-- SearchLooks, if 'awake' is true. -/
theorem looks_ret (hA : ∀ H, H.all (Row.under 0) = true → Ret F 22 [] (rows ++ H) = some (.bool true, rows ++ H, none)) (hgt : row? rows 1 = some (nums .u8 t64)) {x : Int} {v1 : AV} {l1 : List Int} (h1 : IsL rows v1 l1) : Ret G13 13 [.int .i64 x, v1] rows = some (.bool true, rows, none) := by
  have g1 := toG13 (tree_ret (x := x) h1)
  have hT := esT_tree x l1
  generalize nT x = n at *
  generalize esT x l1 = es at *
  have hn0 := hT.n0
  have hn := hT.n10
  have hE := nxT_edg hn hT.tv.1
  have hg := nxI_ok hn hT.tv.1
  have hel : es.length ≤ 1000 := by have := hT.len; omega
  have hp : 2 ^ n - 1 < 2 ^ n ∧ 0 < 2 ^ n - 1 := by
    have : ∀ n, n < 11 → 1 ≤ n → 2 ^ n - 1 < 2 ^ n ∧ 0 < 2 ^ n - 1 := by decide
    exact this n (by omega) hn0
  have hP := acc2_P (rows := rows) (l := es)
  have hu2 : (accR2 [] es).all (Row.under 0) = true := by unfold accR2; split <;> simp [Row.under, AV.under, nums]
  generalize accV2 rows [] es = ev at *
  generalize accR2 [] es = E at *
  have hgE := row?_old hgt E
  have g2 := toG13 (Looks_ret hgE hP (by simp) hn0 hn hT.len hT.tv)
  obtain ⟨ol, g3, hol, hMK⟩ := Marks_ret hgE hP (by simp) hn0 hn hT.len hT.tv
  have g3 := toG13 g3
  have hP2 := IsP_app hP [.cells (nums .i64 ol)]
  have g4 := toG13 (Middle_ret (row?_old hgE [.cells (nums .i64 ol)]) hP2 (by simp) hn0 hn hT.len hT.tv)
  have hP3 := IsP_app hP2 [.mp []]
  obtain ⟨m1, d, g5, hok, hAsk⟩ := rlooks_ret hg hE hel hn (MM_new (n := n) (nx := nxI (flat es) es.length) (B := rows ++ E ++ [.cells (nums .i64 ol)])) hP3 hp.2 hp.1
  have g5 := toG13 g5
  have hset : (rows ++ E ++ [Row.cells (nums .i64 ol)] ++ [Row.mp []]).set (rows ++ E ++ [Row.cells (nums .i64 ol)]).length (.mp m1) = rows ++ E ++ [Row.cells (nums .i64 ol)] ++ [.mp m1] := by
    rw [rows_set0]; rfl
  rw [hset] at g5
  have hP4 := IsP_app hP2 [.mp m1]
  have g6 := toG13 (rmiddle_ret hg hE hP4 hel hn)
  have hAM := MK_AM hg hn0 hn hol hMK
  have hW := MK_worst hg hn hol hMK
  have hlol : IsL (rows ++ E ++ [Row.cells (nums .i64 ol)] ++ [.mp m1]) (.slice (rows ++ E).length 0 n (.at_ n)) ol := by
    have hrow : row? (rows ++ E ++ [Row.cells (nums .i64 ol)] ++ [.mp m1]) (rows ++ E).length = some (nums .i64 ol) := row?_old (by rw [row?_at0]; rfl) _
    have := IsL_mk (n := 0) (off := 0) (c := .at_ n) (l := ol) hrow (by rw [nums_all rfl])
    rwa [hol] at this
  have g7 := toG13 (rmarks_ret hg hE hP4 hel hn hlol)
  have g8 := toG13 (rworst_ret hlol (by omega))
  rw [hW] at g8
  have hdec : decide (AM (nxI (flat es) es.length) ol n) = true := by rw [decide_eq_true_iff]; exact hAM
  rw [hdec] at g7
  have ha := toG13 (hA (E ++ ([.cells (nums .i64 ol)] ++ [.mp m1])) (by
    have := map_under hok 0
    simp only [List.all_append, hu2, List.all_cons, List.all_nil, this]
    simp [Row.under, AV.under, nums]))
  have hlow : lowO rows.length d = rows.length := by
    rcases hAsk with ⟨rfl, _⟩ | rfl
    · rfl
    · exact lower_ge (by simp)
  have hpn0 : 0 < sB n := Nat.pow_pos (by omega)
  have hpn1 : sB n ≤ 1024 := by
    have : ∀ n, n < 11 → sB n ≤ 1024 := by decide
    exact this n (by omega)
  have w2 := w_shl (i := n) (by omega)
  have w4 : IntKind.i64.wrap ((sB n : Nat) - 1 : Int) = ((2 ^ n - 1 : Nat) : Int) := by
    rw [wrap64 (by omega) (by omega)]
    show ((sB n : Nat) : Int) - 1 = ((sB n - 1 : Nat) : Int)
    omega
  generalize mdl (WM (nxI (flat es) es.length) n) n n = md at *
  generalize LL n (nxI (flat es) es.length) (2 ^ n - 1) = L at *
  generalize 2 ^ n - 1 = s at *
  simp only [List.append_assoc, List.cons_append, List.nil_append, List.length_append, List.length_cons, List.length_nil] at g1 g2 g3 g4 g5 g6 g7 g8 ha
  refine Go.Abs.i13 more_at ?_
  simp [g1, g2, g3, g4, w2, w4, g5, g6, g7, g8, ha, hlow, show ¬ (n : Int) < 0 by omega, Nat.add_assoc, lowO_n, -lowO]
end
end Go.Abs

