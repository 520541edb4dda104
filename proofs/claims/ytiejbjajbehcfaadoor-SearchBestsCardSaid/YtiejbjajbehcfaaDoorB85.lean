/- The texts that the row uses, part 5. -/
import Derived.Test.YtiejbjajbehcfaaDoorB84
import Derived.AtR
import Derived.Orders
import Derived.KernelRfl
import Derived.Laws.Cells
import Derived.Laws.CopyRow
import Derived.Laws.Append
import Derived.Laws.AppendOwn
import Derived.Laws.Entries
import Derived.ArgAppend
import Derived.ChangeKeysEq
import Derived.WideLaws
import Derived.Laws.Small
import Derived.Laws.StructEq
import Derived.Laws.Cover3
import Derived.Laws.Tables
import Derived.Laws.Rows
import Derived.Below
import Derived.Laws.IdiomCopy
import Derived.RangeFuncNested
import Derived.Test.YtiejbjajbehcfaaDoorProg
import Derived.Test.YtiejbjajbehcfaaDoorRows
import Derived.ProofKit
import Derived.LaidMore
import Derived.OpenShut
import Derived.Stop.Joined
import Derived.ChangeSlices
import Derived.SizedLaws
import Derived.SevenTiedAt
import Derived.WalkKit
import Derived.ShutString
import Derived.ChangeOld
import Derived.Carry
set_option linter.unusedVariables false
set_option linter.unusedSimpArgs false
namespace Go.Abs
open Rd (Cp IsL_one IsL_cells IsL_tail lowO_n)
section
variable {rows : List Row}
theorem seg_nums (l : List Int) : seg (nums .i64 l) 0 l.length = some (nums .i64 l) := by
  unfold seg; simp [nums, List.take_of_length_le]
/-- slices.Grow of nothing. -/
theorem grow_ret {n : Nat} (h0 : 0 < n) (hn : n ≤ 1000000) : Ret F 98 [.nilslice, .int .i64 n] rows = some (.slice rows.length 0 0 (.op 1), rows ++ [.cells (nums .i64 (List.replicate n 0))], none) := by
  have e : nums .i64 (List.replicate n 0) = List.replicate n (AV.int .i64 0) := by
    simp [nums]
  have w0 : IntKind.i64.wrap 0 = 0 := by decide
  have hid : (List.replicate n (AV.int .i64 0)).all (fun v => v.ids.isEmpty) = true := by simp
  have hs : sliceV 1 (.slice rows.length 0 n (.op 1)) none (some (.int .i64 0)) none = some (.slice rows.length 0 0 (.op 1)) := by
    simp [sliceV, bound?]
  have hs0 : sliceV 1 .nilslice none (some (.int .i64 0)) none = some .nilslice := by
    simp [sliceV, bound?]
  have w : IntKind.i64.wrap (n : Int) = n := wrap64 (by omega) (by omega)
  have hcap : evP rows (.cap (.c .nilslice)) = some (.int .i64 0) := rfl
  refine i98 F98 ?_
  have h3 : ¬ ((n : Int) < 0) := by omega
  simp (disch := first | omega | (simp; done) | fail) [w, w0, h0, e, hs, hs0, hcap, show n ≤ lim from by simp [lim]; omega, h3]
  have := fin_slice (rows := rows) (L := [.cells (List.replicate n (AV.int .i64 0))]) (k := 0) (o := 0) (n := 0) (c := .op 1) rfl hid
  simpa using this
theorem concat_sizes {sv : AV} {ls : List (List Int)} (hl : IsLL rows sv ls) (hls : ls.length ≤ 1000) (hne : ls.flatten ≠ []) (htot : ls.flatten.length ≤ 1000000) {r : AV × List Row × Nat → Prop}
    (hn : Lc87l2 F (.fn [.t 2]) (.slice rows.length 0 0 (.op 1)) sv (.int .i64 ls.length) (.int .i64 0) (rows ++ [.cells (nums .i64 (List.replicate ls.flatten.length 0))]) rows.length r) : ∀ (n i : Nat), ls.length - i = n → i ≤ ls.length →
    Lc87l14 F (.fn [.t 2]) sv (.int .i64 (ls.take i).flatten.length) sv (.int .i64 ls.length) (.int .i64 i) rows rows.length r := by
  obtain ⟨vs, hv, hv2⟩ := hl
  have hvl : vs.length = ls.length := by simpa using El_len hv
  have hpos : 0 < ls.flatten.length := List.length_pos_iff.2 hne
  intro n
  induction n with
  | zero =>
    intro i hn0 hi
    have hi : i = ls.length := by omega
    have e : ls.take i = ls := List.take_of_length_le (by omega)
    have hlen := evP_lenE (El_app hv [.cells (nums .i64 (List.replicate ls.flatten.length 0))])
    rw [e]
    unfold Lc87l14
    have hg := grow_ret (rows := rows) hpos htot
    simp only [List.length_flatten] at hg hn hlen ⊢
    simp [hi, hg, lowO_n, hlen, -lowO]
    simpa using hn
  | succ n ih =>
    intro i hn0 hi
    have hi : i < ls.length := by omega
    have hvi := hv2 i hi
    have e1 : evP rows (.idxS 1 (.c sv) (.c (.int .i64 i))) = some (.ptr (sid sv) (soff sv + i)) := by
      simpa using evP_idxE hv (k := .i64) (i := i) (by omega) (by omega)
    have e2 : evP rows (.load1 (.c (.ptr (sid sv) (soff sv + i)))) = some (gA vs i) := by
      rw [evP_loadE hv (by omega), gA_get (by omega)]
    have hb : (ls.take (i + 1)).flatten.length ≤ ls.flatten.length := by
      have h := List.take_append_drop (i + 1) ls
      have : ls.flatten.length = (ls.take (i + 1) ++ ls.drop (i + 1)).flatten.length := by rw [h]
      rw [this, List.flatten_append, List.length_append]
      omega
    have e3 : (ls.take (i + 1)).flatten.length = (ls.take i).flatten.length + (gLL ls i).length := by
      rw [List.take_add_one, gLL_get hi]
      simp only [Option.toList_some, List.flatten_append, List.length_append, List.flatten_cons, List.flatten_nil, List.append_nil]
    have w : IntKind.i64.wrap ((i : Int) + 1) = i + 1 := wrap64 (by omega) (by omega)
    have w2 : IntKind.i64.wrap (((ls.take i).flatten.length : Int) + (gLL ls i).length) = (ls.take (i + 1)).flatten.length := by
      rw [e3]; push_cast; exact wrap64 (by omega) (by omega)
    have h3 : ¬ (((ls.take (i + 1)).flatten.length : Int) < 0) := by omega
    have := ih (i + 1) (by omega) (by omega)
    generalize hA : (ls.take i).flatten.length = A at *
    generalize hB : (ls.take (i + 1)).flatten.length = B at *
    unfold Lc87l14
    simp (disch := first | omega | (simp; done) | fail) [hi, e1, e2, lenL0 hvi, w, w2, h3]
    simpa using this
/-- The list so far: in a row of its own. -/
def Cur (T : List Row) (nv : AV) (rows : List Row) (acc : List Int) : Prop := ∃ j vs, nv = .slice (rows.length + j) 0 acc.length (.op 1) ∧ T[j]? = some (.cells vs) ∧ vs.all (·.ids.isEmpty) = true ∧ seg vs 0 acc.length = some (nums .i64 acc) ∧ (acc ≠ [] → vs = nums .i64 acc)
theorem concat_loop {sv : AV} {ls : List (List Int)} (hl : IsLL rows sv ls) (hls : ls.length ≤ 1000) (hne : ls.flatten ≠ []) (htot : ls.flatten.length ≤ 1000000) : ∀ (n i : Nat) (T : List Row) (nv : AV), ls.length - i = n → i ≤ ls.length → Cur T nv rows (ls.take i).flatten →
    Lc87l2 F (.fn [.t 2]) nv sv (.int .i64 ls.length) (.int .i64 i) (rows ++ T) rows.length (fun r => fin rows r.1 r.2.1 r.2.2 = newL rows ls.flatten) := by
  obtain ⟨vs, hv, hv2⟩ := hl
  have hvl : vs.length = ls.length := by simpa using El_len hv
  intro n
  induction n with
  | zero =>
    intro i T nv hn0 hi hcur
    have hi : i = ls.length := by omega
    have e : ls.take i = ls := List.take_of_length_le (by omega)
    rw [e] at hcur
    obtain ⟨j, us, rfl, hT, hid, hsg, hfull⟩ := hcur
    have hus := hfull hne
    subst hus
    have hf := fin_slice (rows := rows) (L := T) (k := j) (o := 0) (n := ls.flatten.length) (c := .op 1) hT hid
    unfold Lc87l2
    generalize hq : ls.flatten = q at *
    cases q with
    | nil => exact absurd rfl hne
    | cons x q =>
      simp only [List.length_cons] at hf
      simp [hi]
      simpa [newL] using hf
  | succ n ih =>
    intro i T nv hn0 hi hcur
    have hi : i < ls.length := by omega
    have hvi := hv2 i hi
    have e1 : ∀ L, evP (rows ++ L) (.idxS 1 (.c sv) (.c (.int .i64 i))) = some (.ptr (sid sv) (soff sv + i)) := fun L => by
      simpa using evP_idxE (El_app hv L) (k := .i64) (i := i) (by omega) (by omega)
    have e2 : ∀ L, evP (rows ++ L) (.load1 (.c (.ptr (sid sv) (soff sv + i)))) = some (gA vs i) := fun L => by
      rw [evP_loadE (El_app hv L) (by omega), gA_get (by omega)]
    have hb : (ls.take (i + 1)).flatten.length ≤ ls.flatten.length := by
      have h := List.take_append_drop (i + 1) ls
      have : ls.flatten.length = (ls.take (i + 1) ++ ls.drop (i + 1)).flatten.length := by rw [h]
      rw [this, List.flatten_append, List.length_append]
      omega
    have e3 : (ls.take (i + 1)).flatten = (ls.take i).flatten ++ gLL ls i := by
      rw [List.take_add_one, gLL_get hi]
      simp only [Option.toList_some, List.flatten_append, List.flatten_cons, List.flatten_nil, List.append_nil]
    have w : IntKind.i64.wrap ((i : Int) + 1) = i + 1 := wrap64 (by omega) (by omega)
    unfold Lc87l2
    simp (disch := first | omega | (simp; done) | fail) [hi, e1, e2, w]
    by_cases hz : gLL ls i = []
    · have hx : El (rows ++ T) 1 (gA vs i) (nums .i64 []) 0 := by
        have := IsL_app hvi T
        rw [hz] at this
        exact this
      obtain ⟨j, us, hnv, _⟩ := id hcur
      rw [app_0 hx (.inr ⟨_, _, _, _, hnv⟩)]
      simp only [bnd_some]
      have := ih (i + 1) T nv (by omega) (by omega) (by rw [e3, hz, List.append_nil]; exact hcur)
      simpa [w] using this
    · obtain ⟨j, us, rfl, hT, hid, hsg, _⟩ := hcur
      have hx : El (rows ++ T) 1 (gA vs i) (nums .i64 (gLL ls i)) (gLL ls i).length := IsL_app hvi T
      have hc : cells? (rows ++ T) (rows.length + j) = some us := by
        unfold cells?
        rw [List.getElem?_append_right (by omega), Nat.add_sub_cancel_left, hT]
      have hl1 : (ls.take (i + 1)).flatten.length = (ls.take i).flatten.length + (gLL ls i).length := by rw [e3, List.length_append]
      rw [app_op (low := rows.length) (b := 8) hc (by simpa using hsg) hx (List.length_pos_iff.2 hz) (by simp only [lim]; omega)]
      simp only [bnd_some]
      have hj : j < T.length := (List.getElem?_eq_some_iff.1 hT).1
      have e4 : (rows ++ T).set (rows.length + j) .dead ++ [.cells (nums .i64 (ls.take i).flatten ++ nums .i64 (gLL ls i))] = rows ++ (T.set j .dead ++ [.cells (nums .i64 (ls.take (i + 1)).flatten)]) := by
        rw [List.set_append_right _ _ (by omega), Nat.add_sub_cancel_left, List.append_assoc, e3]
        simp [nums]
      rw [e4]
      have := ih (i + 1) (T.set j .dead ++ [.cells (nums .i64 (ls.take (i + 1)).flatten)]) (.slice (rows.length + T.length) 0 (ls.take (i + 1)).flatten.length (.op 1)) (by omega) (by omega)
        ⟨T.length, nums .i64 (ls.take (i + 1)).flatten, rfl, by simp, nums_ids, seg_nums _, fun _ => rfl⟩
      simp only [lower_add]
      rw [hl1] at this
      simpa [w] using this
/-- slices.Concat. -/
theorem concat_ret {sv : AV} {ls : List (List Int)} (hl : IsLL rows sv ls) (hls : ls.length ≤ 1000) (hne : ls.flatten ≠ []) (htot : ls.flatten.length ≤ 1000000) : Ret F 87 [sv] rows = some (newL rows ls.flatten) := by
  have h2 := concat_loop hl hls hne htot _ 0 [.cells (nums .i64 (List.replicate ls.flatten.length 0))] (.slice rows.length 0 0 (.op 1)) rfl (by omega) ⟨0, _, rfl, rfl, nums_ids, by simp [seg, nums], fun h => absurd rfl h⟩
  have h1 := concat_sizes hl hls hne htot (by simpa using h2) _ 0 rfl (by omega)
  have h0 := lenLL hl []
  rw [List.append_nil] at h0
  refine i87 F87 ?_
  simp [h0]
  simpa using h1
end
end Go.Abs

set_option linter.unusedVariables false
set_option linter.unusedSimpArgs false
namespace Go.Abs
open Rd (Cp IsL_one IsL_cells IsL_tail lowO_n)
/-- A new list's value, and its row. -/
def nlV (n : Nat) (l : List Int) : AV := match l with
  | [] => .nilslice
  | x :: l => .slice n 0 (l.length + 1) (.op 1)
def nlK (l : List Int) : List Row := match l with
  | [] => []
  | x :: l => [.cells (nums .i64 (x :: l))]
theorem newL_eq (rows : List Row) (l : List Int) : newL rows l = (nlV rows.length l, rows ++ nlK l, none) := by
  cases l <;> simp [newL, nlV, nlK]
theorem nlV_one (n : Nat) (l : List Int) : (nlV n l).one = true := by cases l <;> rfl
theorem nlV_cells (n : Nat) (l : List Int) : (nlV n l).cells = [nlV n l] := by cases l <;> rfl
theorem nlV_IsL (B : List Row) (l : List Int) (L : List Row) : IsL (B ++ (nlK l ++ L)) (nlV B.length l) l := by
  cases l with
  | nil => exact IsL_nil
  | cons x l =>
    rw [← List.append_assoc]
    exact IsL_app (IsL_new (L := []) rfl) L
theorem nlK_under (l : List Int) : (nlK l).all (Row.under 0) = true := by
  cases l with
  | nil => rfl
  | cons x l => simp [nlK, Row.under, AV.under, nums]
/-- The gate of a part, in the table. -/
def gateT (T : List Int) (a b : Int) : Int := gI T (169 + 13 * a + b).toNat
def prT (T : List Int) (a b : Int) : Int := gI T (13 * a + b).toNat
/-- The plan of a table. -/
def tpl (T : List Int) : Nat → Int → Int → List Int
  | 0, _, _ => []
  | m + 1, a, b => if a = b then [] else gateT T a b :: (tpl T m a (gateT T a b) ++ tpl T m (gateT T a b + 1) b)
def GoodT (T : List Int) (n : Int) : Prop := ∀ a b, 0 ≤ a → a < b → b ≤ n → a ≤ gateT T a b ∧ gateT T a b < b
theorem tpl_len {T : List Int} {n : Int} (hT : GoodT T n) : ∀ (m : Nat) (a b : Int), 0 ≤ a → a ≤ b → b ≤ n → b - a ≤ m → (tpl T m a b).length = (b - a).toNat := by
  intro m
  induction m with
  | zero => intro a b h0 h1 h2 h3; simp [tpl]; omega
  | succ m ih =>
    intro a b h0 h1 h2 h3
    unfold tpl
    by_cases he : a = b
    · simp [he]
    · have hg := hT a b h0 (by omega) h2
      have e1 := ih a (gateT T a b) h0 hg.1 (by omega) (by omega)
      have e2 := ih (gateT T a b + 1) b (by omega) (by omega) h2 (by omega)
      simp only [he, if_false, List.length_cons, List.length_append, e1, e2]
      omega
theorem maskE_cons {b i : Nat} {r : Row} {l : List (Nat × Row)} : maskE b ((i, r) :: l) = (if b.testBit i then r else .dead) :: maskE b l := rfl
theorem maskE_app {b : Nat} {l l' : List (Nat × Row)} : maskE b (l ++ l') = maskE b l ++ maskE b l' := by simp [maskE]
theorem maskE_map {b i : Nat} {X : List Row} : maskE b (X.map fun x => (i, x)) = if b.testBit i then X else X.map fun _ => .dead := by
  unfold maskE
  by_cases h : b.testBit i <;> simp [h, Function.comp_def]
theorem drop_app {rows L : List Row} {k : Nat} : List.drop (rows.length + k) (rows ++ L) = L.drop k := by simp [List.drop_append]
theorem drop_mapp {α : Type} {rows : List Row} {f : Row → α} {L : List α} {k : Nat} : List.drop (rows.length + k) (List.map f rows ++ L) = L.drop k := by
  rw [List.drop_append]; simp
theorem concat3 {R : List Row} {i : Nat} {v1 v2 v3 : AV} {g : Int} {l1 l2 : List Int} (hr : row? R i = some [v1, v2, v3]) (h1 : IsL R v1 [g]) (h2 : IsL R v2 l1) (h3 : IsL R v3 l2) (hl1 : l1.length ≤ 1000) (hl2 : l2.length ≤ 1000) : Ret F 87 [.slice i 0 3 (.at_ 3)] R = some (newL R (g :: (l1 ++ l2))) := by
  have hE : El R 1 (.slice i 0 3 (.at_ 3)) [v1, v2, v3] 3 := by
    unfold El elems
    simp only [hr]
    rfl
  have := concat_ret (rows := R) (sv := .slice i 0 3 (.at_ 3)) (ls := [[g], l1, l2]) ⟨[v1, v2, v3], hE, fun j hj => by
    match j, hj with
    | 0, _ => exact h1
    | 1, _ => exact h2
    | 2, _ => exact h3
    | n + 3, h => exact absurd h (by simp)⟩ (by simp) (by simp) (by simp; omega)
  simpa using this
theorem fin59 {rows K : List Row} {i : Nat} {v1 v2 v3 : AV} {g : Int} {l1 l2 l : List Int} (hl : l = g :: (l1 ++ l2)) (hr : row? (rows ++ K) i = some [v1, v2, v3]) (h1 : IsL (rows ++ K) v1 [g]) (h2 : IsL (rows ++ K) v2 l1) (h3 : IsL (rows ++ K) v3 l2) (hl1 : l1.length ≤ 1000) (hl2 : l2.length ≤ 1000) :
    bnd (Ret F 87 [.slice i 0 3 (.at_ 3)] (rows ++ K)) fun q => fin rows q.1 q.2.1 (lowO rows.length q.2.2) = newL rows l := by
  subst hl
  rw [concat3 hr h1 h2 h3 hl1 hl2]
  have := fin_slice (rows := rows) (L := K ++ [.cells (nums .i64 (g :: (l1 ++ l2)))]) (k := K.length) (o := 0) (n := (l1 ++ l2).length + 1) (c := .op 1) (vs := nums .i64 (g :: (l1 ++ l2))) (by simp) nums_ids
  simpa [newL, lowO] using this
theorem isl1 {rows L : List Row} {A : Row} {g : Int} : IsL (rows ++ A :: .cells [.int .i64 g] :: L) (.slice (rows.length + 1) 0 1 (.at_ 1)) [g] :=
  IsL_mk (n := 0) (l := [g]) (vs := [.int .i64 g]) (by unfold row?; simp) (by simp [seg, nums])
theorem isl2 {rows L : List Row} {A B : Row} {x : Int} {l : List Int} : IsL (rows ++ A :: B :: .cells (nums .i64 (x :: l)) :: L) (.slice (rows.length + 2) 0 (l.length + 1) (.op 1)) (x :: l) :=
  IsL_mk (n := 0) (l := x :: l) (vs := nums .i64 (x :: l)) (by unfold row?; simp) (seg_nums _)
theorem isl3 {rows L : List Row} {A B C : Row} {x : Int} {l : List Int} : IsL (rows ++ A :: B :: C :: .cells (nums .i64 (x :: l)) :: L) (.slice (rows.length + 3) 0 (l.length + 1) (.op 1)) (x :: l) :=
  IsL_mk (n := 0) (l := x :: l) (vs := nums .i64 (x :: l)) (by unfold row?; simp) (seg_nums _)
/-- best.plan. -/
theorem bplan_ret {T : List Int} {n : Int} {bid : Nat} (hlen : T.length = 338) (hn : n ≤ 12) (hT : GoodT T n) : ∀ (m : Nat) (rows : List Row) (a b : Int), 0 ≤ a → a ≤ b → b ≤ n → b - a ≤ m → row? rows bid = some (nums .i64 T) →
    Ret F 59 [.ptr bid 0, pt a b] rows = some (newL rows (tpl T m a b)) := by
  intro m
  induction m with
  | zero =>
    intro rows a b h0 h1 h2 h3 hr
    have : a = b := by omega
    subst this
    refine i59 F59 ?_
    simp [one_ret, tpl, newL, seg, -uc59s3, jc59s3]
  | succ m ih =>
    intro rows a b h0 h1 h2 h3 hr
    by_cases he : a = b
    · subst he
      refine i59 F59 ?_
      simp [one_ret, tpl, newL, seg, -uc59s3, jc59s3]
    · have hg := hT a b h0 (by omega) h2
      have e1 : idx? a 13 = some a.toNat := idx?_ok (by omega) (by omega)
      have e2 : idx? b 13 = some b.toNat := idx?_ok (by omega) (by omega)
      have e3 : (nums .i64 T)[169 + a.toNat * 13 + b.toNat]? = some (.int .i64 (gateT T a b)) := by
        have : (169 + 13 * a + b).toNat = 169 + a.toNat * 13 + b.toNat := by omega
        unfold gateT
        rw [this, nums_get, gI_get (by omega)]; rfl
      have hr2 : ∀ L, row? (rows ++ L) bid = some (nums .i64 T) := fun L => row?_old hr L
      have i1 := fun L => ih (rows ++ L) a (gateT T a b) h0 hg.1 (by omega) (by omega) (hr2 L)
      have i2 := fun L => ih (rows ++ L) (gateT T a b + 1) b (by omega) (by omega) h2 (by omega) (hr2 L)
      generalize hgt : gateT T a b = g at *
      refine i59 F59 ?_
      simp [one_ret, tpl, he, seg, -uc59s3, jc59s3]
      unfold Jc59s3
      simp (disch := first | omega | (simp; done) | fail) [seg, hr2, e1, e2, e3, -uc59k0]
      rw [uc59k0]
      simp (disch := first | omega | (simp; done) | fail) only [maskE_nil, List.append_nil, bnd_some, List.length_nil, Nat.add_zero, List.drop_left, List.map_cons, List.map_nil, List.nil_append, true_and]
      have t24 : (24 : Nat).testBit 1 = false := by decide
      have t60 : (60 : Nat).testBit 1 = false := by decide
      have t892a : (892 : Nat).testBit 1 = false := by decide
      have t892b : (892 : Nat).testBit 6 = true := by decide
      have t2044a : (2044 : Nat).testBit 1 = false := by decide
      have t2044b : (2044 : Nat).testBit 6 = true := by decide
      simp only [newL_eq] at i1 i2
      simp only [pt] at i1 i2
      simp (disch := first | omega | (simp; done) | fail) [fillA, splice, seg, left_ret, right_ret, i1, i2, maskE_cons, maskE_app, maskE_map, t24, t60, t892a, t892b, t2044a, t2044b, drop_app, drop_mapp, Nat.add_assoc, nlV_one, nlV_cells, -lowO, lowO_n]
      have hl1 := tpl_len hT m a g h0 hg.1 (by omega) (by omega)
      have hl2 := tpl_len hT m (g + 1) b (by omega) (by omega) h2 (by omega)
      rw [hgt]
      generalize tpl T m a g = l1 at *
      generalize tpl T m (g + 1) b = l2 at *
      cases l1 with
      | nil =>
        cases l2 with
        | nil =>
          simp [nlK, nlV, maskE_cons, -lowO]
          exact fin59 (l1 := []) (l2 := []) rfl (by unfold row?; simp) isl1 IsL_nil IsL_nil (by simp) (by simp)
        | cons y l2 =>
          simp [nlK, nlV, maskE_cons, -lowO]
          exact fin59 (l1 := []) (l2 := y :: l2) rfl (by unfold row?; simp) isl1 IsL_nil isl2 (by simp) (by rw [hl2]; omega)
      | cons x l1 =>
        cases l2 with
        | nil =>
          simp [nlK, nlV, maskE_cons, -lowO]
          exact fin59 (l1 := x :: l1) (l2 := []) (by simp) (by unfold row?; simp) isl1 isl2 IsL_nil (by rw [hl1]; omega) (by simp)
        | cons y l2 =>
          simp [nlK, nlV, maskE_cons, -lowO]
          exact fin59 (l1 := x :: l1) (l2 := y :: l2) (by simp) (by unfold row?; simp) isl1 isl2 isl3 (by rw [hl1]; omega) (by rw [hl2]; omega)
end Go.Abs

set_option linter.unusedVariables false
set_option linter.unusedSimpArgs false
namespace Go.Abs
open Rd (Cp IsL_one IsL_cells IsL_tail lowO_n)
/-- The reference's 'opened'. -/
def opn (p : List Int) : Nat → Nat → Int → Int → Option (List (List Int) × Nat)
  | m, at_, a, b =>
    if a = b then some ([[]], at_) else
    match m with
    | 0 => none
    | m + 1 =>
      if at_ < p.length ∧ a ≤ gI p at_ ∧ gI p at_ < b then
        match opn p m (at_ + 1) a (gI p at_) with
        | none => none
        | some (x, n1) =>
          match opn p m n1 (gI p at_ + 1) b with
          | none => none
          | some (y, n2) => some ((x ++ y).map (gI p at_ :: ·), n2)
      else none
theorem opn_len {p : List Int} : ∀ (m at_ : Nat) (a b : Int) (ls : List (List Int)) (n : Nat), opn p m at_ a b = some (ls, n) → a ≤ b → at_ ≤ p.length → at_ ≤ n ∧ n ≤ p.length ∧ (ls.length : Int) = b - a + 1 ∧ ∀ l ∈ ls, (l.length : Int) ≤ b - a ∧ ∀ g ∈ l, a ≤ g ∧ g < b := by
  intro m
  induction m with
  | zero =>
    intro at_ a b ls n h hab hat
    unfold opn at h
    by_cases he : a = b
    · subst he
      simp only [if_true, Option.some.injEq, Prod.mk.injEq] at h
      obtain ⟨rfl, rfl⟩ := h
      refine ⟨by omega, hat, by simp, fun l hl => ?_⟩
      simp only [List.mem_singleton] at hl
      subst hl
      simp
    · simp [he] at h
  | succ m ih =>
    intro at_ a b ls n h hab hat
    unfold opn at h
    by_cases he : a = b
    · subst he
      simp only [if_true, Option.some.injEq, Prod.mk.injEq] at h
      obtain ⟨rfl, rfl⟩ := h
      refine ⟨by omega, hat, by simp, fun l hl => ?_⟩
      simp only [List.mem_singleton] at hl
      subst hl
      simp
    · simp only [he, if_false] at h
      split at h
      · rename_i hc
        cases hx : opn p m (at_ + 1) a (gI p at_) with
        | none => simp [hx] at h
        | some q1 =>
          obtain ⟨x, n1⟩ := q1
          simp only [hx] at h
          cases hy : opn p m n1 (gI p at_ + 1) b with
          | none => simp [hy] at h
          | some q2 =>
            obtain ⟨y, n2⟩ := q2
            simp only [hy, Option.some.injEq, Prod.mk.injEq] at h
            obtain ⟨rfl, rfl⟩ := h
            have i1 := ih _ _ _ _ _ hx hc.2.1 (by omega)
            have i2 := ih _ _ _ _ _ hy (by omega) i1.2.1
            refine ⟨by omega, i2.2.1, by simp; omega, fun l hl => ?_⟩
            obtain ⟨l', hl', rfl⟩ := List.mem_map.1 hl
            rcases List.mem_append.1 hl' with hl' | hl'
            · have := i1.2.2.2 l' hl'
              refine ⟨by simp; omega, fun g hg => ?_⟩
              rcases List.mem_cons.1 hg with rfl | hg
              · exact ⟨by omega, by omega⟩
              · have := this.2 g hg; omega
            · have := i2.2.2.2 l' hl'
              refine ⟨by simp; omega, fun g hg => ?_⟩
              rcases List.mem_cons.1 hg with rfl | hg
              · exact ⟨by omega, by omega⟩
              · have := this.2 g hg; omega
      · simp at h
end Go.Abs

set_option linter.unusedVariables false
set_option linter.unusedSimpArgs false
namespace Go.Abs
open Rd (Cp IsL_one IsL_cells IsL_tail lowO_n)
theorem IsL_set {R : List Row} {v : AV} {l : List Int} (h : IsL R v l) (hl : l ≠ []) {id : Nat} {vs : List AV} (hr : row? R id = some vs) (hv : ∀ x ∈ vs, ∀ k n, x ≠ .int k n) : IsL (R.set id .dead) v l := by
  rcases El_cases h with ⟨_, h0, _⟩ | ⟨id', off, c, us, rfl, hr', hs⟩
  · cases l with
    | nil => exact absurd rfl hl
    | cons x l => simp [nums] at h0
  · by_cases he : id' = id
    · subst he
      rw [hr] at hr'
      injection hr' with hr'
      subst hr'
      cases l with
      | nil => exact absurd rfl hl
      | cons x l =>
        exfalso
        have hm : AV.int .i64 x ∈ vs := by
          unfold seg at hs
          split at hs
          · injection hs with hs
            have : AV.int .i64 x ∈ (vs.drop off).take ((x :: l).length * 1) := by rw [hs]; simp [nums]
            exact List.mem_of_mem_drop (List.mem_of_mem_take this)
          · simp at hs
        exact hv _ hm _ _ rfl
    · have : row? (R.set id .dead) id' = some us := by
        unfold row? at hr' ⊢
        rw [List.getElem?_set_ne (fun e => he e.symm)]
        exact hr'
      exact IsL_mk (n := 0) this (by simpa using hs)
theorem IsL_under {R : List Row} {v : AV} {l : List Int} (h : IsL R v l) : v.under R.length = true := by
  rcases El_cases h with ⟨rfl, _, _⟩ | ⟨id', off, c, us, rfl, hr', hs⟩
  · rfl
  · have := row?_lt hr'
    simp [AV.under, this]
theorem IsL_slice {R : List Row} {v : AV} {l : List Int} (h : IsL R v l) (hl : l ≠ []) : ∀ k n, v ≠ .int k n := by
  rcases El_cases h with ⟨rfl, _, _⟩ | ⟨id', off, c, us, rfl, hr', hs⟩
  · intro k n e; cases e
  · intro k n e; cases e
/-- A list with one number ahead. -/
theorem row_app {R : List Row} {v : AV} {l : List Int} {g : Int} {low : Nat} (h : IsL R v l) (hl : l.length ≤ 1000) : ∃ rv H1, evE (R ++ [.cells [.int .i64 g]]) low (.app 1 8 (.c (.slice R.length 0 1 (.at_ 1))) (.c v)) = some (rv, R ++ H1, low) ∧ IsL (R ++ H1) rv (g :: l) ∧ H1.all (Row.under 0) = true := by
  have hrow : row? (R ++ [.cells [.int .i64 g]]) R.length = some [.int .i64 g] := by unfold row?; simp
  cases l with
  | nil =>
    refine ⟨.slice R.length 0 1 (.at_ 1), [.cells [.int .i64 g]], ?_, ?_, by simp [Row.under, AV.under]⟩
    · rw [app_0 (ys := nums .i64 []) (show El _ 1 v (nums .i64 []) 0 from IsL_app h _) (.inr ⟨_, _, _, _, rfl⟩)]
    · exact IsL_mk (n := 0) (l := [g]) hrow (by simp [seg, nums])
  | cons x l =>
    have hx : El (R ++ [.cells [.int .i64 g]]) 1 v (nums .i64 (x :: l)) (x :: l).length := IsL_app h _
    refine ⟨.slice (R.length + 1) 0 (1 + (x :: l).length) (.op 1), [.cells [.int .i64 g], .cells (nums .i64 (g :: x :: l))], ?_, ?_, by simp [Row.under, AV.under, nums]⟩
    · rw [app_at (n := 1) (xs := [.int .i64 g]) hrow (by simp [seg]) hx (by simp) (by simp [lim] at *; omega) (by simp)]
      simp [nums]
    · have : IsL (R ++ [.cells [.int .i64 g], .cells (nums .i64 (g :: x :: l))]) (.slice (R.length + 1) 0 (g :: x :: l).length (.op 1)) (g :: x :: l) :=
        IsL_mk (n := 0) (vs := nums .i64 (g :: x :: l)) (by unfold row?; simp) (seg_nums _)
      rwa [show (g :: x :: l).length = 1 + (x :: l).length from by simp; omega] at this
/-- The lists so far. -/
def Acc (B H : List Row) (ov : AV) (acc : List (List Int)) : Prop :=
  (acc = [] ∧ ov = .nilslice) ∨ ∃ j vs, ov = .slice (B.length + j) 0 acc.length (.op 1) ∧ H[j]? = some (.cells vs) ∧ vs.length = acc.length ∧ acc ≠ [] ∧ ∀ i, i < acc.length → IsL (B ++ H) (gA vs i) (gLL acc i) ∧ gLL acc i ≠ []
def Und (B H : List Row) : Prop := ∀ y ∈ H, y.under (B.length + H.length) = true
theorem und_mono {y : Row} {a b : Nat} (h : y.under a = true) (hab : a ≤ b) : y.under b = true := Sh.runder_mono hab h
theorem acc_step {B H H1 : List Row} {ov rv : AV} {acc : List (List Int)} {l : List Int} {low : Nat} (ha : Acc B H ov acc) (hu : Und B H) (hu1 : H1.all (Row.under 0) = true) (hrv : IsL (B ++ (H ++ H1)) rv l) (hl : l ≠ []) (hlow : low ≤ B.length) (hlen : acc.length ≤ 1000) :
    ∃ ov' H', evE (B ++ (H ++ H1) ++ [.cells [rv]]) low (.app 1 24 (.c ov) (.c (.slice (B ++ (H ++ H1)).length 0 1 (.at_ 1)))) = some (ov', B ++ H', low) ∧ Acc B H' ov' (acc ++ [l]) ∧ Und B H' := by
  have htmp : El (B ++ (H ++ H1) ++ [.cells [rv]]) 1 (.slice (B ++ (H ++ H1)).length 0 1 (.at_ 1)) [rv] 1 := by
    have : row? (B ++ (H ++ H1) ++ [.cells [rv]]) (B ++ (H ++ H1)).length = some [rv] := by unfold row?; simp
    unfold El elems
    simp only [this]
    rfl
  have hru := IsL_under hrv
  rcases ha with ⟨rfl, rfl⟩ | ⟨j, vs, rfl, hj, hvl, hne, hvs⟩
  · refine ⟨.slice (B.length + (H.length + H1.length + 1)) 0 1 (.op 1), H ++ H1 ++ [.cells [rv], .cells [rv]], ?_, .inr ⟨H.length + H1.length + 1, [rv], rfl, ?_, rfl, by simp, ?_⟩, ?_⟩
    · rw [app_nil htmp (by omega) (by simp [lim])]
      simp [Nat.add_assoc]
    · rw [List.getElem?_append_right (by simp <;> omega)]
      simp [show H.length + H1.length + 1 - (H.length + H1.length) = 1 from by omega]
    · intro i hi
      have : i = 0 := by simpa using hi
      subst this
      refine ⟨?_, hl⟩
      have := IsL_app hrv [.cells [rv], .cells [rv]]
      simpa [gA, gLL] using this
    · intro y hy
      simp only [List.mem_append, List.mem_cons, List.not_mem_nil, or_false] at hy
      rcases hy with (hy | hy) | hy
      · exact und_mono (hu y hy) (by simp <;> omega)
      · exact und_mono (List.all_eq_true.1 hu1 y hy) (by omega)
      · have hy : y = .cells [rv] := by rcases hy with h | h <;> exact h
        subst hy
        refine und_mono (a := (B ++ (H ++ H1)).length) ?_ (by simp)
        simp [Row.under, hru]
        simpa using hru
  · have hvi : ∀ x ∈ vs, ∀ k n, x ≠ .int k n := by
      intro x hx
      obtain ⟨i, hi⟩ := List.mem_iff_getElem?.1 hx
      have hi' : i < vs.length := (List.getElem?_eq_some_iff.1 hi).1
      have := hvs i (by omega)
      rw [gA_get hi'] at hi
      injection hi with hi
      rw [← hi]
      exact IsL_slice this.1 this.2
    have hjl : j < H.length := (List.getElem?_eq_some_iff.1 hj).1
    have hcell : cells? (B ++ (H ++ H1) ++ [.cells [rv]]) (B.length + j) = some vs := by
      unfold cells?
      rw [List.append_assoc, List.getElem?_append_right (by omega), Nat.add_sub_cancel_left, List.append_assoc, List.getElem?_append_left hjl, hj]
    have hrow : row? (B ++ (H ++ H1) ++ [.cells [rv]]) (B.length + j) = some vs := cells?_row hcell
    have hsv : seg vs 0 (acc.length * 1) = some vs := by
      unfold seg; rw [if_pos (by omega)]; simp [List.take_of_length_le, hvl]
    have hkeep : ∀ {v : AV} {q : List Int}, IsL (B ++ (H ++ H1)) v q → q ≠ [] → IsL (B ++ ((H ++ H1 ++ [Row.cells [rv]]).set j .dead ++ [.cells (vs ++ [rv])])) v q := by
      intro v q hq hq0
      have h1 := IsL_set (IsL_app hq [.cells [rv]]) hq0 hrow hvi
      have h2 := IsL_app h1 [.cells (vs ++ [rv])]
      have e : (B ++ (H ++ H1) ++ [Row.cells [rv]]).set (B.length + j) .dead ++ [.cells (vs ++ [rv])] = B ++ ((H ++ H1 ++ [Row.cells [rv]]).set j .dead ++ [.cells (vs ++ [rv])]) := by
        rw [List.append_assoc B, List.set_append_right _ _ (by omega), Nat.add_sub_cancel_left, List.append_assoc]
      rwa [e] at h2
    refine ⟨.slice (B.length + (H.length + H1.length + 1)) 0 (acc.length + 1) (.op 1), (H ++ H1 ++ [Row.cells [rv]]).set j .dead ++ [.cells (vs ++ [rv])], ?_, .inr ⟨H.length + H1.length + 1, vs ++ [rv], by simp, ?_, by simp [hvl], by simp, ?_⟩, ?_⟩
    · rw [app_op hcell hsv htmp (by omega) (by simp [lim]; omega), lower_ge (by omega)]
      rw [List.append_assoc B, List.set_append_right _ _ (by omega), Nat.add_sub_cancel_left]
      simp [Nat.add_assoc]
    · rw [List.getElem?_append_right (by simp <;> omega)]
      simp [Nat.add_assoc]
    · intro i hi
      simp only [List.length_append, List.length_singleton] at hi
      by_cases hi2 : i < acc.length
      · have h3 := hvs i hi2
        have e1 : gA (vs ++ [rv]) i = gA vs i := by simp [gA, List.getElem?_append_left (show i < vs.length by omega)]
        have e2 : gLL (acc ++ [l]) i = gLL acc i := by simp [gLL, List.getElem?_append_left hi2]
        rw [e1, e2]
        refine ⟨hkeep ?_ h3.2, h3.2⟩
        have := IsL_app h3.1 H1
        rwa [List.append_assoc] at this
      · have : i = acc.length := by omega
        subst this
        have e1 : gA (vs ++ [rv]) acc.length = rv := by simp [gA, ← hvl]
        have e2 : gLL (acc ++ [l]) acc.length = l := by simp [gLL]
        rw [e1, e2]
        exact ⟨hkeep hrv hl, hl⟩
    · have hvu : ∀ x ∈ vs, x.under (B.length + H.length) = true := by
        have := hu _ (List.mem_of_getElem? hj)
        simp only [Row.under, List.all_eq_true] at this
        exact this
      have hlenH : ((H ++ H1 ++ [Row.cells [rv]]).set j .dead ++ [Row.cells (vs ++ [rv])]).length = H.length + H1.length + 2 := by simp; omega
      intro y hy
      rw [hlenH]
      rcases List.mem_append.1 hy with hy | hy
      · rcases List.mem_or_eq_of_mem_set hy with hy | rfl
        · simp only [List.mem_append, List.mem_singleton] at hy
          rcases hy with (hy | hy) | rfl
          · exact und_mono (hu y hy) (by omega)
          · exact und_mono (List.all_eq_true.1 hu1 y hy) (by omega)
          · refine und_mono (a := (B ++ (H ++ H1)).length) ?_ (by simp <;> omega)
            simp [Row.under]
            simpa using hru
        · rfl
      · rw [List.mem_singleton] at hy
        subst hy
        simp only [Row.under, List.all_eq_true, List.mem_append, List.mem_singleton]
        rintro x (hx | rfl)
        · exact Sh.under_mono (by omega) (hvu x hx)
        · exact Sh.under_mono (b := (B ++ (H ++ H1)).length) (by simp <;> omega) hru
end Go.Abs

set_option linter.unusedVariables false
set_option linter.unusedSimpArgs false
namespace Go.Abs
open Rd (Cp IsL_one IsL_cells IsL_tail lowO_n)
section
variable {B : List Row} {low : Nat} {xv yv ev : AV} {x y : List (List Int)} {g : Int} {r : AV × List Row × Nat → Prop}
theorem opened_loop (hlow : low ≤ B.length) (hx : IsLL B xv x) (hy : IsLL B yv y) (hn : x.length + y.length ≤ 100) (hxl : ∀ l ∈ x, l.length ≤ 1000) (hyl : ∀ l ∈ y, l.length ≤ 1000)
    (hend : ∀ H' ov', Acc B H' ov' ((x ++ y).map (g :: ·)) → Und B H' → r (.tup [ov', ev, .bool true], B ++ H', low)) : ∀ (n i : Nat) (H : List Row) (ov : AV), x.length + y.length - i = n → i ≤ x.length + y.length → Acc B H ov (((x ++ y).take i).map (g :: ·)) → Und B H →
    Lc64l2 F (.fn [.t 8, .t 9, .t 10]) (.int .i64 g) xv yv ev ov (.int .i64 i) (B ++ H) low r := by
  have hlx := lenLL hx
  have hly := lenLL hy
  obtain ⟨xs, hxE, hxI⟩ := hx
  obtain ⟨ys, hyE, hyI⟩ := hy
  have hxsl : xs.length = x.length := by simpa using El_len hxE
  have hysl : ys.length = y.length := by simpa using El_len hyE
  have ws : IntKind.i64.wrap ((x.length : Int) + y.length) = x.length + y.length := wrap64 (by omega) (by omega)
  intro n
  induction n with
  | zero =>
    intro i H ov hn0 hi ha hu
    have e : (x ++ y).take i = x ++ y := List.take_of_length_le (by simp; omega)
    rw [e] at ha
    have h3 : ¬ ((i : Int) < x.length + y.length) := by omega
    unfold Lc64l2
    simp [hlx, hly, ws, h3]
    exact hend H ov ha hu
  | succ n ih =>
    intro i H ov hn0 hi ha hu
    have hi : i < x.length + y.length := by omega
    have h3 : (i : Int) < x.length + y.length := by omega
    have w : IntKind.i64.wrap ((i : Int) + 1) = i + 1 := wrap64 (by omega) (by omega)
    have hacc : (((x ++ y).take i).map (g :: ·)).length ≤ 1000 := by simp; omega
    have htake : ∀ l, (x ++ y)[i]? = some l → ((x ++ y).take i).map (g :: ·) ++ [g :: l] = ((x ++ y).take (i + 1)).map (g :: ·) := by
      intro l hl
      rw [List.take_add_one, hl]; simp
    have step : ∀ {v : AV} {l : List Int}, IsL B v l → (x ++ y)[i]? = some l → l.length ≤ 1000 → ∃ rv H1 ov' H', evE (B ++ (H ++ [.cells [.int .i64 g]])) low (.app 1 8 (.c (.slice (B.length + H.length) 0 1 (.at_ 1))) (.c v)) = some (rv, B ++ (H ++ H1), low) ∧ rv.one = true ∧ rv.cells = [rv] ∧
        evE (B ++ (H ++ (H1 ++ [.cells [rv]]))) low (.app 1 24 (.c ov) (.c (.slice (B.length + (H.length + H1.length)) 0 1 (.at_ 1)))) = some (ov', B ++ H', low) ∧ Acc B H' ov' (((x ++ y).take (i + 1)).map (g :: ·)) ∧ Und B H' := by
      intro v l hv hl hll
      obtain ⟨rv, H1, h1, h2, h4⟩ := row_app (R := B ++ H) (g := g) (low := low) (IsL_app hv H) hll
      have h2' : IsL (B ++ (H ++ H1)) rv (g :: l) := by rwa [List.append_assoc] at h2
      obtain ⟨ov', H', h5, h6, h7⟩ := acc_step ha hu h4 h2' (by simp) hlow hacc
      refine ⟨rv, H1, ov', H', by simpa using h1, IsL_one h2, IsL_cells h2, by simpa using h5, ?_, h7⟩
      rw [← htake l hl]; exact h6
    unfold Lc64l2
    by_cases hix : i < x.length
    · have e1 : ∀ L, evP (B ++ L) (.idxS 1 (.c xv) (.c (.int .i64 i))) = some (.ptr (sid xv) (soff xv + i)) := fun L => by
        simpa using evP_idxE (El_app hxE L) (k := .i64) (i := i) (by omega) (by omega)
      have e2 : ∀ L, evP (B ++ L) (.load1 (.c (.ptr (sid xv) (soff xv + i)))) = some (gA xs i) := fun L => by
        rw [evP_loadE (El_app hxE L) (by omega), gA_get (by omega)]
      obtain ⟨rv, H1, ov', H', h1, h2, h2c, h4, h5, h6⟩ := step (hxI i hix) (by rw [List.getElem?_append_left hix, gLL_get hix]) (hxl _ (gLL_mem hix))
      simp (disch := first | omega | (simp; done) | fail) [hlx, hly, ws, h3, hix, w, fillA, splice, e1, e2, h1, h2, h2c, h4]
      have := ih (i + 1) H' ov' (by omega) (by omega) h5 h6
      simpa [w] using this
    · have w3 : IntKind.i64.wrap ((i : Int) - x.length) = ((i - x.length : Nat) : Int) := by rw [wrap64 (by omega) (by omega)]; omega
      have e1 : ∀ L, evP (B ++ L) (.idxS 1 (.c yv) (.c (.int .i64 ((i - x.length : Nat) : Int)))) = some (.ptr (sid yv) (soff yv + (i - x.length))) := fun L => by
        simpa using evP_idxE (El_app hyE L) (k := .i64) (i := ((i - x.length : Nat) : Int)) (by omega) (by omega)
      have e2 : ∀ L, evP (B ++ L) (.load1 (.c (.ptr (sid yv) (soff yv + (i - x.length))))) = some (gA ys (i - x.length)) := fun L => by
        rw [evP_loadE (El_app hyE L) (by omega), gA_get (by omega)]
      obtain ⟨rv, H1, ov', H', h1, h2, h2c, h4, h5, h6⟩ := step (hyI (i - x.length) (by omega)) (by rw [List.getElem?_append_right (by omega), gLL_get (by omega)]) (hyl _ (gLL_mem (by omega)))
      simp (disch := first | omega | (simp; done) | fail) [hlx, hly, ws, h3, hix, w, w3, fillA, splice, e1, e2, h1, h2, h2c, h4]
      have := ih (i + 1) H' ov' (by omega) (by omega) h5 h6
      simpa [w] using this
end
end Go.Abs

set_option linter.unusedVariables false
set_option linter.unusedSimpArgs false
namespace Go.Abs
open Rd (Cp IsL_one IsL_cells IsL_tail lowO_n)
theorem Acc_LL {B H : List Row} {ov : AV} {acc : List (List Int)} (h : Acc B H ov acc) : IsLL (B ++ H) ov acc := by
  rcases h with ⟨rfl, rfl⟩ | ⟨j, vs, rfl, hj, hvl, hne, hvs⟩
  · exact ⟨[], rfl, fun i hi => by simp at hi⟩
  · refine ⟨vs, ?_, fun i hi => (hvs i hi).1⟩
    have hr : row? (B ++ H) (B.length + j) = some vs := by
      refine cells?_row ?_
      unfold cells?
      rw [List.getElem?_append_right (by omega), Nat.add_sub_cancel_left, hj]
    unfold El elems
    simp only [hr]
    unfold seg
    rw [if_pos (by omega)]
    simp [List.take_of_length_le, hvl]
theorem Acc_fin {rows X H : List Row} {ov : AV} {acc : List (List Int)} (h : Acc (rows ++ X) H ov acc) (hne : acc ≠ []) {k : IntKind} {e : Int} {t : Bool} : fin rows (.tup [ov, .int k e, .bool t]) (rows ++ X ++ H) rows.length = (.tup [ov, .int k e, .bool t], rows ++ (X ++ H), none) := by
  rcases h with ⟨rfl, rfl⟩ | ⟨j, vs, rfl, hj, hvl, _, hvs⟩
  · exact absurd rfl hne
  · have hpos : 0 < acc.length := List.length_pos_iff.2 hne
    have h0 := hvs 0 hpos
    have hall : vs.all (·.ids.isEmpty) = false := by
      rw [List.all_eq_false]
      refine ⟨gA vs 0, List.mem_of_getElem? (gA_get (by omega)), ?_⟩
      rcases El_cases h0.1 with ⟨_, h1, _⟩ | ⟨id', off, c, us, e, _, _⟩
      · cases hq : gLL acc 0 with
        | nil => exact absurd hq h0.2
        | cons z q => rw [hq] at h1; simp [nums] at h1
      · rw [e]; simp [AV.ids]
    have hr : (rows ++ (X ++ H))[rows.length + (X.length + j)]? = some (.cells vs) := by
      rw [List.getElem?_append_right (by omega), Nat.add_sub_cancel_left, List.getElem?_append_right (by omega), Nat.add_sub_cancel_left, hj]
    unfold fin
    simp [AV.ids, AV.ids.idsL, hr, hall, Nat.add_assoc]
    intro hh; omega
theorem Und_app {rows X H : List Row} (h1 : Und rows X) (h2 : Und (rows ++ X) H) : Und rows (X ++ H) := by
  intro y hy
  rcases List.mem_append.1 hy with hy | hy
  · exact und_mono (h1 y hy) (by simp <;> omega)
  · exact und_mono (h2 y hy) (by simp <;> omega)
/-- A slice in a new row. -/
def Shp (rows X : List Row) (lv : AV) : Prop := ∃ j n c vs, lv = .slice (rows.length + j) 0 n c ∧ X[j]? = some (.cells vs)
theorem Acc_Shp {rows X H : List Row} {ov : AV} {acc : List (List Int)} (h : Acc (rows ++ X) H ov acc) (hne : acc ≠ []) : Shp rows (X ++ H) ov := by
  rcases h with ⟨rfl, rfl⟩ | ⟨j, vs, rfl, hj, hvl, _, hvs⟩
  · exact absurd rfl hne
  · refine ⟨X.length + j, acc.length, .op 1, vs, by simp [Nat.add_assoc], ?_⟩
    rw [List.getElem?_append_right (by omega), Nat.add_sub_cancel_left, hj]
theorem fin_LL {rows X : List Row} {lv : AV} {ls : List (List Int)} {t : Bool} (hs : Shp rows X lv) (hl : IsLL (rows ++ X) lv ls) (hu : Und rows X) : ∃ lv' X', fin rows (.tup [lv, .bool t]) (rows ++ X) rows.length = (.tup [lv', .bool t], rows ++ X', none) ∧ IsLL (rows ++ X') lv' ls ∧ Und rows X' := by
  obtain ⟨j, n, c, vs, rfl, hj⟩ := hs
  have hr : (rows ++ X)[rows.length + j]? = some (.cells vs) := by
    rw [List.getElem?_append_right (by omega), Nat.add_sub_cancel_left, hj]
  by_cases hall : vs.all (·.ids.isEmpty) = true
  · refine ⟨.slice rows.length 0 n c, [.cells vs], ?_, ?_, ?_⟩
    · unfold fin
      simp [AV.ids, AV.ids.idsL, hr, hall, AV.plain1, AV.plain, AV.ren1, AV.ren]
    · obtain ⟨us, hE, hI⟩ := hl
      rcases El_cases hE with ⟨h0, _⟩ | ⟨id', off, c', ws, he, hrow, hseg⟩
      · cases h0
      · injection he with e1 e2 e3 e4
        subst e1 e2 e3 e4
        have : ws = vs := by
          have := cells?_row (rows := rows ++ X) (i := rows.length + j) (vs := vs) (by unfold cells?; rw [hr])
          rw [hrow] at this
          injection this
        subst this
        have hrow' : row? (rows ++ [.cells ws]) rows.length = some ws := by unfold row?; simp
        refine ⟨us, ?_, fun i hi => ?_⟩
        · unfold El elems
          simp only [hrow', hseg]
          rfl
        · have h1 := hI i hi
          have hmem : gA us i ∈ ws := by
            have hul := El_len hE
            have : gA us i ∈ us := List.mem_of_getElem? (gA_get (by omega))
            unfold seg at hseg
            split at hseg
            · injection hseg with hseg
              rw [show us = ((ws.drop 0).take (ls.length * 1)) from hseg.symm] at this ⊢
              exact List.mem_of_mem_drop (List.mem_of_mem_take this)
            · simp at hseg
          have hid := List.all_eq_true.1 hall _ hmem
          rcases El_cases h1 with ⟨e, e2, _⟩ | ⟨id', off, c', us', e, _, _⟩
          · have : gLL ls i = [] := by
              cases hq : gLL ls i with
              | nil => rfl
              | cons z q => rw [hq] at e2; simp [nums] at e2
            rw [e, this]; exact IsL_nil
          · rw [e] at hid; simp [AV.ids] at hid
    · intro y hy
      rw [List.mem_singleton] at hy
      subst hy
      have hy := hu _ (List.mem_of_getElem? hj)
      simp only [Row.under, List.all_eq_true] at hy ⊢
      intro x hx
      have hid := List.all_eq_true.1 hall x hx
      have hid : x.ids = [] := by simpa using hid
      simp [AV.under, hid]
  · have hall : vs.all (·.ids.isEmpty) = false := by simpa using hall
    refine ⟨.slice (rows.length + j) 0 n c, X, ?_, hl, hu⟩
    unfold fin
    simp [AV.ids, AV.ids.idsL, hr, hall]
    intro hh; omega
theorem opened_ret {p : List Int} (hpl : p.length < 4611686018427387904) {v : AV} : ∀ (m : Nat) (rows : List Row) (at_ : Nat) (a b : Int), IsL rows v p → 0 ≤ a → a ≤ b → b ≤ 12 → at_ ≤ p.length → b - a ≤ m →
    match opn p m at_ a b with
    | none => Ret F 64 [v, .int .i64 at_, .int .i64 a, .int .i64 b] rows = some (.tup [.nilslice, .int .i64 at_, .bool false], rows, none)
    | some (ls, n) => ∃ lv X, Ret F 64 [v, .int .i64 at_, .int .i64 a, .int .i64 b] rows = some (.tup [lv, .int .i64 n, .bool true], rows ++ X, none) ∧ IsLL (rows ++ X) lv ls ∧ Und rows X ∧ Shp rows X lv := by
  have base : ∀ (rows : List Row) (at_ : Nat) (a : Int), ∃ lv X, Ret F 64 [v, .int .i64 at_, .int .i64 a, .int .i64 a] rows = some (.tup [lv, .int .i64 at_, .bool true], rows ++ X, none) ∧ IsLL (rows ++ X) lv [[]] ∧ Und rows X ∧ Shp rows X lv := by
    intro rows at_ a
    refine ⟨.slice rows.length 0 1 (.at_ 1), [.cells [.nilslice]], ?_, ⟨[.nilslice], ?_, ?_⟩, ?_, ⟨0, 1, .at_ 1, _, rfl, rfl⟩⟩
    · refine i64 F64 ?_
      simp [-uc64s36, jc64s36, fillA, splice]
      simp [fin, AV.plain1, AV.plain, AV.ren1, AV.ren, AV.ids, AV.ids.idsL]
    · have : row? (rows ++ [.cells [.nilslice]]) rows.length = some [.nilslice] := by unfold row?; simp
      unfold El elems
      simp only [this]
      rfl
    · intro i hi
      have : i = 0 := by simpa using hi
      subst this
      exact IsL_nil
    · intro y hy
      rw [List.mem_singleton] at hy
      subst hy
      rfl
  intro m
  induction m with
  | zero =>
    intro rows at_ a b h h0 h1 h2 h3 h4
    have : a = b := by omega
    subst this
    unfold opn
    simp only [if_true]
    exact base rows at_ a
  | succ m ih =>
    intro rows at_ a b h h0 h1 h2 h3 h4
    unfold opn
    by_cases he : a = b
    · subst he
      simp only [if_true]
      exact base rows at_ a
    · simp only [he, if_false]
      by_cases hc : at_ < p.length ∧ a ≤ gI p at_ ∧ gI p at_ < b
      · rw [if_pos hc]
        have w1 : IntKind.i64.wrap ((at_ : Int) + 1) = (at_ : Int) + 1 := wrap64 (by omega) (by omega)
        have c1 : ((at_ + 1 : Nat) : Int) = (at_ : Int) + 1 := by omega
        have hs : ∀ {R : AV × List Row × Option Nat → Prop}, (Jc64s32 F (.fn [.t 8, .t 9, .t 10]) v (.int .i64 at_) (.int .i64 a) (.int .i64 b) rows rows.length fun r => R (fin rows r.1 r.2.1 r.2.2)) → ∃ q, Ret F 64 [v, .int .i64 at_, .int .i64 a, .int .i64 b] rows = some q ∧ R q := by
          intro R hq
          refine Ret_mk' F64 (show Ex F (.fn [.t 8, .t 9, .t 10]) [.code c64b] ⟨mk 113 [(0, v), (1, .int .i64 at_), (2, .int .i64 a), (3, .int .i64 b)], rows, rows.length⟩ (fun r => R (fin rows r.1 r.2.1 r.2.2)) from ?_)
          simp [-uc64s36, jc64s36, he]
          unfold Jc64s36
          simp (disch := first | omega | (simp; done) | fail) [-uc64s32, jc64s32, lenL0 h, idxL0 h, loadL0 h, hc.1, show ¬ (gI p at_ < a) from by omega, show ¬ (b ≤ gI p at_) from by omega, show ¬ (p.length ≤ at_) from by omega]
          exact hq
        have hL := ih rows (at_ + 1) a (gI p at_) h h0 hc.2.1 (by omega) (by omega) (by omega)
        cases hx : opn p m (at_ + 1) a (gI p at_) with
        | none =>
          simp only [hx] at hL
          rw [c1] at hL
          dsimp only
          obtain ⟨q, hq, rfl⟩ := hs (R := fun z => z = (.tup [.nilslice, .int .i64 at_, .bool false], rows, none)) (by
            unfold Jc64s32
            simp (disch := first | omega | (simp; done) | fail) [-uc64s24, jc64s24, lenL0 h, idxL0 h, loadL0 h, hc.1, w1]
            rw [hL]
            simp [-uc64s24, jc64s24])
          exact hq
        | some q1 =>
          obtain ⟨x, n1⟩ := q1
          simp only [hx] at hL
          rw [c1] at hL
          obtain ⟨xv, X1, e1, hxL, hu1, _⟩ := hL
          have l1 := opn_len _ _ _ _ _ _ hx hc.2.1 (by omega)
          have wg : IntKind.i64.wrap (gI p at_ + 1) = gI p at_ + 1 := wrap64 (by omega) (by omega)
          have hR := ih (rows ++ X1) n1 (gI p at_ + 1) b (IsL_app h X1) (by omega) (by omega) h2 l1.2.1 (by omega)
          have hs2 : ∀ {R : AV × List Row × Option Nat → Prop}, (Jc64s24 F (.fn [.t 8, .t 9, .t 10]) v (.int .i64 at_) (.int .i64 b) (.int .i64 (gI p at_)) xv (.int .i64 n1) (rows ++ X1) rows.length fun r => R (fin rows r.1 r.2.1 r.2.2)) → ∃ q, Ret F 64 [v, .int .i64 at_, .int .i64 a, .int .i64 b] rows = some q ∧ R q := by
            intro R hq
            refine hs ?_
            unfold Jc64s32
            simp (disch := first | omega | (simp; done) | fail) [-uc64s24, jc64s24, lenL0 h, idxL0 h, loadL0 h, hc.1, w1]
            rw [e1]
            simp [-uc64s24, jc64s24, -lowO, lowO_n]
            exact hq
          dsimp only
          cases hy : opn p m n1 (gI p at_ + 1) b with
          | none =>
            simp only [hy] at hR
            dsimp only
            obtain ⟨q, hq, rfl⟩ := hs2 (R := fun z => z = (.tup [.nilslice, .int .i64 at_, .bool false], rows, none)) (by
              unfold Jc64s24
              simp (disch := first | omega | (simp; done) | fail) [-uc64s18, jc64s18, wg]
              rw [hR]
              simp [-uc64s18, jc64s18, -lowO, lowO_n])
            exact hq
          | some q2 =>
            obtain ⟨y, n2⟩ := q2
            simp only [hy] at hR
            obtain ⟨yv, X2, e2, hyL, hu2, _⟩ := hR
            have l2 := opn_len _ _ _ _ _ _ hy (by omega) l1.2.1
            dsimp only
            have hlen : ((x ++ y).map (gI p at_ :: ·)) ≠ [] := by
              intro e
              have h5 := congrArg List.length e
              rw [List.length_map, List.length_append, List.length_nil] at h5
              have := l1.2.2.1
              omega
            have hU : Und rows (X1 ++ X2) := Und_app hu1 hu2
            obtain ⟨H', ov', hA, hU', hq⟩ : ∃ H' ov', Acc (rows ++ X1 ++ X2) H' ov' ((x ++ y).map (gI p at_ :: ·)) ∧ Und (rows ++ X1 ++ X2) H' ∧ Ret F 64 [v, .int .i64 at_, .int .i64 a, .int .i64 b] rows = some (.tup [ov', .int .i64 n2, .bool true], rows ++ (X1 ++ X2 ++ H'), none) := by
              have hxb := l1.2.2.2
              have hyb := l2.2.2.2
              have hlp := opened_loop (B := rows ++ X1 ++ X2) (low := rows.length) (xv := xv) (yv := yv) (ev := .int .i64 n2) (g := gI p at_) (r := fun r => (fun z : AV × List Row × Option Nat => ∃ H' ov', Acc (rows ++ X1 ++ X2) H' ov' ((x ++ y).map (gI p at_ :: ·)) ∧ Und (rows ++ X1 ++ X2) H' ∧ z = (.tup [ov', .int .i64 n2, .bool true], rows ++ (X1 ++ X2 ++ H'), none)) (fin rows r.1 r.2.1 r.2.2)) (by simp <;> omega) (IsLL_app hxL X2) hyL (by have := l1.2.2.1; have := l2.2.2.1; omega)
                (fun l hl => by have := (hxb l hl).1; omega) (fun l hl => by have := (hyb l hl).1; omega)
                (fun H' ov' hA hU' => ⟨H', ov', hA, hU', by
                  have hA2 := hA
                  rw [List.append_assoc rows] at hA2
                  have := Acc_fin hA2 hlen (k := .i64) (e := n2) (t := true)
                  rw [← List.append_assoc rows] at this
                  simpa using this⟩) _ 0 [] .nilslice rfl (by omega) (.inl ⟨by simp, rfl⟩) (fun y hy => by simp at hy)
              obtain ⟨q, hq, H', ov', hA, hU', rfl⟩ := hs2 (R := fun z : AV × List Row × Option Nat => ∃ H' ov', Acc (rows ++ X1 ++ X2) H' ov' ((x ++ y).map (gI p at_ :: ·)) ∧ Und (rows ++ X1 ++ X2) H' ∧ z = (.tup [ov', .int .i64 n2, .bool true], rows ++ (X1 ++ X2 ++ H'), none)) (by
                unfold Jc64s24
                simp (disch := first | omega | (simp; done) | fail) [-uc64s18, jc64s18, wg, -List.append_assoc]
                rw [e2]
                simp [-uc64s18, jc64s18, -lowO, lowO_n, -List.append_assoc]
                unfold Jc64s18
                simp [-List.append_assoc]
                simpa [-List.append_assoc] using hlp)
              exact ⟨H', ov', hA, hU', hq⟩
            rw [List.append_assoc rows] at hA hU'
            refine ⟨ov', X1 ++ X2 ++ H', hq, ?_, Und_app hU hU', Acc_Shp hA hlen⟩
            have := Acc_LL hA
            rwa [List.append_assoc] at this
      · rw [if_neg hc]
        refine i64 F64 ?_
        simp [-uc64s36, jc64s36, he]
        unfold Jc64s36
        by_cases h5 : at_ < p.length
        · by_cases h6 : gI p at_ < a
          · simp (disch := first | omega | (simp; done) | fail) [-uc64s32, jc64s32, lenL0 h, idxL0 h, loadL0 h, h5, h6, show ¬ (p.length ≤ at_) from by omega]
          · simp (disch := first | omega | (simp; done) | fail) [-uc64s32, jc64s32, lenL0 h, idxL0 h, loadL0 h, h5, h6, show ¬ (p.length ≤ at_) from by omega, show b ≤ gI p at_ from by omega]
        · simp (disch := first | omega | (simp; done) | fail) [-uc64s32, jc64s32, lenL0 h, h5, show p.length ≤ at_ from by omega]
theorem Opened_ret {p : List Int} (hpl : p.length < 4611686018427387904) {v : AV} {rows : List Row} {n : Nat} (h : IsL rows v p) (hn : n ≤ 12) :
    match opn p n 0 0 n with
    | none => Ret F 31 [.int .i64 n, v] rows = some (.tup [.nilslice, .bool false], rows, none)
    | some (ls, k) => ∃ lv X, Ret F 31 [.int .i64 n, v] rows = some (.tup [lv, .bool (decide (k = p.length))], rows ++ X, none) ∧ IsLL (rows ++ X) lv ls ∧ Und rows X := by
  have h1 := opened_ret hpl n rows 0 0 n h (by omega) (by omega) (by omega) (by omega) (by omega)
  cases ho : opn p n 0 0 n with
  | none =>
    simp only [ho] at h1
    refine i31 F31 ?_
    have h2 : Ret F 64 [v, .int .i64 0, .int .i64 0, .int .i64 n] rows = some (.tup [.nilslice, .int .i64 0, .bool false], rows, none) := h1
    simp [h2]
  | some q =>
    obtain ⟨ls, k⟩ := q
    simp only [ho] at h1
    obtain ⟨lv, X, h2, h3, h4, h5⟩ := h1
    have h2' : Ret F 64 [v, .int .i64 0, .int .i64 0, .int .i64 n] rows = some (.tup [lv, .int .i64 k, .bool true], rows ++ X, none) := h2
    obtain ⟨lv', X', h6, h7, h8⟩ := fin_LL (t := decide (k = p.length)) h5 h3 h4
    refine ⟨lv', X', ?_, h7, h8⟩
    refine i31 F31 ?_
    simp [h2', lenL h, -lowO, lowO_n, -decide_eq_decide]
    have e7 : decide ((k : Int) = p.length) = decide (k = p.length) := by simp only [decide_eq_decide]; omega
    rw [e7]
    simpa using h6
end Go.Abs

set_option linter.unusedVariables false
set_option linter.unusedSimpArgs false
namespace Go.Abs
open Rd (Cp IsL_one IsL_cells IsL_tail lowO_n)
section
variable {rows : List Row}
theorem gates_ret {a b : Int} : Ret F 83 [pt a b] rows = some (.func 97 [.ptr rows.length 0], rows ++ [.cells [.int .i64 a, .int .i64 b]], none) := by
  refine i83 F83 ?_
  simp
  simp [fin, AV.ids, AV.ids.idsL, AV.plain1, AV.plain, AV.ren1, AV.ren]
theorem wprice_ret {c : List Int} {cv : AV} {a b g l r : Int} {cid : Nat} (hc : IsL rows cv c) (hr : row? rows cid = some [cv]) (h0 : 0 ≤ g) (hg : g < c.length) (hb : 0 ≤ gI c g.toNat ∧ gI c g.toNat ≤ 1000) (hl : 0 ≤ l ∧ l ≤ 200000000) (hr2 : 0 ≤ r ∧ r ≤ 200000000) :
    Ret F 58 [pt a b, .int .i64 g, .int .i64 l, .int .i64 r, .ptr cid 0] rows = some (.int .i64 (gI c g.toNat + max l r), rows, none) := by
  have hr' : ∀ L, row? (rows ++ L) cid = some [cv] := fun L => row?_old hr L
  have w : IntKind.i64.wrap (gI c g.toNat + max l r) = gI c g.toNat + max l r := wrap64 (by omega) (by omega)
  have hgn : g.toNat < c.length := by omega
  refine i58 F58 ?_
  simp (disch := first | omega | (simp; done) | fail) [hr', idxL hc, loadL hc, h0, hg, hgn, w]
end
end Go.Abs

set_option linter.unusedVariables false
set_option linter.unusedSimpArgs false
namespace Go.Abs
theorem gates_loop {sl : List AV} {asg body : ICode} {d : Nat} {L N : Nat} {a b : Int} {Inv : Int → List Row → Nat → Prop} (h0 : 0 ≤ a) (hb : b ≤ 1000)
    (hloop : ∀ g R low, Inv g R low → R[N]? = some (.loop .ready none sl [d] asg body) ∧ row? R L = some [.int .i64 a, .int .i64 b])
    (hbody : ∀ g R low, a ≤ g → g < b → Inv g R low → Ex F (.round N) [.code asg, .rfBegin, .code body] ⟨putL sl [d] [.int .i64 g], R, R.length⟩ fun q => q.1 = .bool true ∧ Inv (g + 1) (gc R.length (lower low q.2.2) q.1 q.2.1) (lower low q.2.2))
    {r : AV × List Row × Nat → Prop} (hend : ∀ R low, Inv b R low → r (.tup [], R, low)) : ∀ (n : Nat) (g : Int) (R : List Row) (low : Nat), (b - g).toNat = n → a ≤ g → g ≤ b → Inv g R low →
    Lc97l0 F (.fn []) (.yield N) (.ptr L 0) (.int .i64 g) R low r := by
  intro n
  induction n with
  | zero =>
    intro g R low hn h1 h2 hI
    have : g = b := by omega
    subst this
    obtain ⟨e1, e2⟩ := hloop _ _ _ hI
    unfold Lc97l0
    simp [e2]
    exact hend R low hI
  | succ n ih =>
    intro g R low hn h1 h2 hI
    have hg : g < b := by omega
    obtain ⟨e1, e2⟩ := hloop _ _ _ hI
    have w : IntKind.i64.wrap (g + 1) = g + 1 := wrap64 (by omega) (by omega)
    unfold Lc97l0
    simp (disch := first | omega | (simp; done) | fail) [e2, hg, w]
    rw [callK_y e1 rfl]
    obtain ⟨m, q, e, hq1, hq2⟩ := hbody g R low h1 hg hI
    refine ⟨m, q, e, ?_⟩
    exact .inr ⟨hq1, ih (g + 1) _ _ (by omega) (by omega) (by omega) hq2⟩
/-- A range over the gates of a part. -/
theorem gates_rf {res : List RV} {f : Opd} {k : List Itm} {sl : List AV} {asg body : ICode} {d : Nat} {L : Nat} {a b : Int} {rows : List Row} {low : Nat} {Inv : Int → List Row → Nat → Prop} {r : AV × List Row × Nat → Prop} (h0 : 0 ≤ a) (hab : a ≤ b) (hb : b ≤ 1000) (hf : getO sl f = .func 97 [.ptr L 0])
    (hL : row? (rows ++ [.loop .ready none sl [d] asg body]) L = some [.int .i64 a, .int .i64 b])
    (hstart : Inv a (rows ++ [.loop .ready none sl [d] asg body]) (rows.length + 1))
    (hloop : ∀ g R low, Inv g R low → R[rows.length]? = some (.loop .ready none sl [d] asg body) ∧ row? R L = some [.int .i64 a, .int .i64 b])
    (hbody : ∀ g R low, a ≤ g → g < b → Inv g R low → Ex F (.round rows.length) [.code asg, .rfBegin, .code body] ⟨putL sl [d] [.int .i64 g], R, R.length⟩ fun q => q.1 = .bool true ∧ Inv (g + 1) (gc R.length (lower low q.2.2) q.1 q.2.1) (lower low q.2.2))
    (hend : ∀ R lw, Inv b R lw → ∃ z, afterLoop rows.length low (fin (rows ++ [.loop .ready none sl [d] asg body]) (.tup []) R lw).2.1 (fin (rows ++ [.loop .ready none sl [d] asg body]) (.tup []) R lw).2.2 = some z ∧ Ex F (.fn res) (z.1 ++ k) ⟨sl, z.2.1, z.2.2⟩ r) :
    Ex F (.fn res) (.code (.rf f [d] asg body) :: k) ⟨sl, rows, low⟩ r := by
  rw [Ex_rf]
  refine ⟨rfl, (97, [.yield rows.length, .ptr L 0]), by rw [hf]; rfl, ?_⟩
  generalize hR0 : rows ++ [Row.loop .ready none sl [d] asg body] = R0 at *
  have hlen : R0.length = rows.length + 1 := by rw [← hR0]; simp
  refine Ret_mk' F97 (R := fun q => ∃ z, afterLoop rows.length low q.2.1 q.2.2 = some z ∧ Ex F (.fn res) (z.1 ++ k) ⟨sl, z.2.1, z.2.2⟩ r) (show Ex F (.fn []) [.code c97b] ⟨mk 17 [(0, .yield rows.length), (1, .ptr L 0)], R0, R0.length⟩ _ from ?_)
  have := gates_loop (sl := sl) (asg := asg) (body := body) (d := d) (L := L) (N := rows.length) h0 hb hloop hbody (r := fun x => (fun q => ∃ z, afterLoop rows.length low q.2.1 q.2.2 = some z ∧ Ex F (.fn res) (z.1 ++ k) ⟨sl, z.2.1, z.2.2⟩ r) (fin R0 x.1 x.2.1 x.2.2)) (fun R lw hI => hend R lw hI) _ a R0 R0.length rfl (by omega) hab (by rw [hlen]; exact hstart)
  simp [hL]
  simpa using this
end Go.Abs

set_option linter.unusedVariables false
set_option linter.unusedSimpArgs false
namespace Go.Abs
/-- A part's price and gate are written. -/
def setT (T : List Int) (a b v g : Int) : List Int := (T.set (13 * a + b).toNat v).set (169 + 13 * a + b).toNat g
theorem setT_len (T : List Int) (a b v g : Int) : (setT T a b v g).length = T.length := by simp [setT]
theorem gI_set {l : List Int} {i j : Nat} {v : Int} (h : i < l.length) : gI (l.set i v) j = if j = i then v else gI l j := by
  unfold gI
  rw [List.getD_eq_getElem?_getD, List.getD_eq_getElem?_getD, List.getElem?_set]
  by_cases e : j = i
  · subst e; simp [h]
  · simp [e, show ¬ i = j from fun e' => e e'.symm]
theorem prT_set {T : List Int} {a b v g c d : Int} (hT : T.length = 338) (ha : 0 ≤ a ∧ a ≤ 12) (hb : 0 ≤ b ∧ b ≤ 12) (hc : 0 ≤ c ∧ c ≤ 12) (hd : 0 ≤ d ∧ d ≤ 12) : prT (setT T a b v g) c d = if c = a ∧ d = b then v else prT T c d := by
  unfold prT setT
  rw [gI_set (by simp; omega), if_neg (by omega), gI_set (by omega)]
  by_cases e : c = a ∧ d = b
  · rw [if_pos e, if_pos (by rw [e.1, e.2])]
  · rw [if_neg e, if_neg (by omega)]
theorem gateT_set {T : List Int} {a b v g c d : Int} (hT : T.length = 338) (ha : 0 ≤ a ∧ a ≤ 12) (hb : 0 ≤ b ∧ b ≤ 12) (hc : 0 ≤ c ∧ c ≤ 12) (hd : 0 ≤ d ∧ d ≤ 12) : gateT (setT T a b v g) c d = if c = a ∧ d = b then g else gateT T c d := by
  unfold gateT setT
  rw [gI_set (by simp; omega)]
  by_cases e : c = a ∧ d = b
  · rw [if_pos e, if_pos (by rw [e.1, e.2])]
  · rw [if_neg e, if_neg (by omega), gI_set (by omega), if_neg (by omega)]
/-- A part's price is the best one. -/
def BestAt (P : Int → Int → Int → Int → Int → Int) (T : List Int) (a b : Int) : Prop :=
  a ≤ gateT T a b ∧ gateT T a b < b ∧ prT T a b = P a b (gateT T a b) (prT T a (gateT T a b)) (prT T (gateT T a b + 1) b) ∧ ∀ g, a ≤ g → g < b → prT T a b ≤ P a b g (prT T a g) (prT T (g + 1) b)
/-- What is done: the parts shorter than m, and those of length m that begin before s. -/
def Done (P : Int → Int → Int → Int → Int → Int) (T : List Int) (n m s : Int) : Prop :=
  ∀ a b, 0 ≤ a → a ≤ b → b ≤ n → (b - a < m ∨ (b - a = m ∧ a < s)) → (a = b → prT T a b = 0) ∧ (a < b → BestAt P T a b)
theorem Done_Good {P : Int → Int → Int → Int → Int → Int} {T : List Int} {n : Int} (h : Done P T n (n + 1) 0) : GoodT T n := by
  intro a b h0 h1 h2
  have := (h a b h0 (by omega) h2 (.inl (by omega))).2 h1
  exact ⟨this.1, this.2.1⟩
theorem BestAt_set {P : Int → Int → Int → Int → Int → Int} {T : List Int} {a b v g c d : Int} (hT : T.length = 338) (ha : 0 ≤ a ∧ a ≤ 12) (hb : 0 ≤ b ∧ b ≤ 12) (hc : 0 ≤ c) (hd : d ≤ 12) (hlen : c < d) (hsh : d - c ≤ b - a) (hne : ¬ (c = a ∧ d = b)) (h : BestAt P T c d) : BestAt P (setT T a b v g) c d := by
  obtain ⟨h1, h2, h3, h4⟩ := h
  have e1 : gateT (setT T a b v g) c d = gateT T c d := by rw [gateT_set hT ha hb ⟨hc, by omega⟩ ⟨by omega, hd⟩, if_neg hne]
  have e2 : prT (setT T a b v g) c d = prT T c d := by rw [prT_set hT ha hb ⟨hc, by omega⟩ ⟨by omega, hd⟩, if_neg hne]
  have e3 : ∀ x, c ≤ x → x < d → prT (setT T a b v g) c x = prT T c x := fun x x1 x2 => by rw [prT_set hT ha hb ⟨hc, by omega⟩ ⟨by omega, by omega⟩, if_neg (by omega)]
  have e4 : ∀ x, c ≤ x → x < d → prT (setT T a b v g) (x + 1) d = prT T (x + 1) d := fun x x1 x2 => by rw [prT_set hT ha hb ⟨by omega, by omega⟩ ⟨by omega, hd⟩, if_neg (by omega)]
  refine ⟨by rw [e1]; exact h1, by rw [e1]; exact h2, ?_, fun x x1 x2 => ?_⟩
  · rw [e1, e2, e3 _ h1 h2, e4 _ h1 h2]; exact h3
  · rw [e2, e3 x x1 x2, e4 x x1 x2]; exact h4 x x1 x2
/-- Writing a part that is not done yet leaves what is done. -/
theorem Done_set {P : Int → Int → Int → Int → Int → Int} {T : List Int} {n m s v g : Int} (hT : T.length = 338) (hn : n ≤ 12) (hm : 1 ≤ m) (hs : 0 ≤ s) (hsn : s + m ≤ n) (h : Done P T n m s) : Done P (setT T s (s + m) v g) n m s := by
  intro a b h0 h1 h2 h3
  have hd := h a b h0 h1 h2 h3
  have hne : ¬ (a = s ∧ b = s + m) := by omega
  refine ⟨fun e => ?_, fun e => ?_⟩
  · rw [prT_set hT ⟨hs, by omega⟩ ⟨by omega, by omega⟩ ⟨h0, by omega⟩ ⟨by omega, by omega⟩, if_neg hne]
    exact hd.1 e
  · exact BestAt_set hT ⟨hs, by omega⟩ ⟨by omega, by omega⟩ h0 (by omega) e (by omega) hne (hd.2 e)
/-- One part more. -/
theorem Done_next {P : Int → Int → Int → Int → Int → Int} {T : List Int} {n m s : Int} (hm : 1 ≤ m) (h : Done P T n m s) (hb : BestAt P T s (s + m)) : Done P T n m (s + 1) := by
  intro a b h0 h1 h2 h3
  by_cases e : a = s ∧ b = s + m
  · obtain ⟨rfl, rfl⟩ := e
    exact ⟨fun e => by omega, fun _ => hb⟩
  · exact h a b h0 h1 h2 (by omega)
/-- All parts of a length. -/
theorem Done_len {P : Int → Int → Int → Int → Int → Int} {T : List Int} {n m s : Int} (hs : n < s + m) (h : Done P T n m s) : Done P T n (m + 1) 0 := by
  intro a b h0 h1 h2 h3
  exact h a b h0 h1 h2 (by omega)
theorem Done_0 {P : Int → Int → Int → Int → Int → Int} {n : Int} (hn : n ≤ 12) : Done P (List.replicate 338 0) n 1 0 := by
  intro a b h0 h1 h2 h3
  have : a = b := by omega
  subst this
  refine ⟨fun _ => ?_, fun e => by omega⟩
  unfold prT gI
  rw [List.getD_eq_getElem?_getD, List.getElem?_replicate, if_pos (by omega)]
  rfl
/-- The best of the gates before g. -/
def BestTo (P : Int → Int → Int → Int → Int → Int) (T : List Int) (a b g : Int) : Prop :=
  g = a ∨ (a ≤ gateT T a b ∧ gateT T a b < g ∧ prT T a b = P a b (gateT T a b) (prT T a (gateT T a b)) (prT T (gateT T a b + 1) b) ∧ ∀ x, a ≤ x → x < g → prT T a b ≤ P a b x (prT T a x) (prT T (x + 1) b))
theorem BestTo_end {P : Int → Int → Int → Int → Int → Int} {T : List Int} {a b : Int} (hab : a < b) (h : BestTo P T a b b) : BestAt P T a b := by
  rcases h with h | h
  · omega
  · exact h
/-- A gate that is better, or the first. -/
theorem BestTo_set {P : Int → Int → Int → Int → Int → Int} {T : List Int} {a b g : Int} (hT : T.length = 338) (h0 : 0 ≤ a) (hb : b ≤ 12) (hg : a ≤ g) (hgb : g < b) (h : BestTo P T a b g) (hbet : g = a ∨ P a b g (prT T a g) (prT T (g + 1) b) ≤ prT T a b) : BestTo P (setT T a b (P a b g (prT T a g) (prT T (g + 1) b)) g) a b (g + 1) := by
  have e1 : ∀ v, gateT (setT T a b v g) a b = g := fun v => by rw [gateT_set hT ⟨h0, by omega⟩ ⟨by omega, hb⟩ ⟨h0, by omega⟩ ⟨by omega, hb⟩, if_pos ⟨rfl, rfl⟩]
  have e2 : ∀ v, prT (setT T a b v g) a b = v := fun v => by rw [prT_set hT ⟨h0, by omega⟩ ⟨by omega, hb⟩ ⟨h0, by omega⟩ ⟨by omega, hb⟩, if_pos ⟨rfl, rfl⟩]
  have e3 : ∀ v x, a ≤ x → x < b → prT (setT T a b v g) a x = prT T a x := fun v x x1 x2 => by rw [prT_set hT ⟨h0, by omega⟩ ⟨by omega, hb⟩ ⟨h0, by omega⟩ ⟨by omega, by omega⟩, if_neg (by omega)]
  have e4 : ∀ v x, a ≤ x → x < b → prT (setT T a b v g) (x + 1) b = prT T (x + 1) b := fun v x x1 x2 => by rw [prT_set hT ⟨h0, by omega⟩ ⟨by omega, hb⟩ ⟨by omega, by omega⟩ ⟨by omega, hb⟩, if_neg (by omega)]
  refine .inr ⟨by rw [e1]; exact hg, by rw [e1]; omega, ?_, fun x x1 x2 => ?_⟩
  · rw [e1, e2, e3 _ g hg hgb, e4 _ g hg hgb]
  · rw [e2, e3 _ x x1 (by omega), e4 _ x x1 (by omega)]
    by_cases hx : x = g
    · subst hx; omega
    · rcases h with h | ⟨_, _, _, h⟩
      · omega
      · have := h x x1 (by omega)
        rcases hbet with hbet | hbet <;> omega
/-- A gate that is no better. -/
theorem BestTo_skip {P : Int → Int → Int → Int → Int → Int} {T : List Int} {a b g : Int} (hg : g ≠ a) (h : BestTo P T a b g) (hbet : prT T a b ≤ P a b g (prT T a g) (prT T (g + 1) b)) : BestTo P T a b (g + 1) := by
  rcases h with h | ⟨h1, h2, h3, h4⟩
  · exact absurd h hg
  · refine .inr ⟨h1, by omega, h3, fun x x1 x2 => ?_⟩
    by_cases hx : x = g
    · subst hx; exact hbet
    · exact h4 x x1 (by omega)
end Go.Abs

set_option linter.unusedVariables false
set_option linter.unusedSimpArgs false
namespace Go.Abs
open Rd (Cp IsL_one IsL_cells IsL_tail lowO_n)
/-- A group with one store, whose other operations read alone. -/
theorem Ex_grpwQ {E : Nat → Option IFn} {cx : Ctx} {k : List Itm} {r : AV × List Row × Nat → Prop} {rows : List Row} {low n : Nat} {a y : Opd} {sz : Option Nat} {g : List (IOpx × Nat)} {l : List Seg} {sl : List (Nat × AV)} (hp : purePs g = true) :
    Ex E cx (.ops (.grpw a y sz g :: l) :: k) ⟨mk n sl, rows, low⟩ r ↔ runL E (gO n) pO (rows.set (rowOf rows (mk n sl) g a) .dead) low (fun sl' => ∃ r', stored (mk n sl') rows (rowOf rows (mk n sl) g a) a y sz = some r' ∧
      Ex E cx (.ops l :: k) ⟨mk n sl', rows.set (rowOf rows (mk n sl) g a) r', lower low (rowOf rows (mk n sl) g a)⟩ r) g sl := by
  rw [Ex_grpwR]
  generalize rowOf rows (mk n sl) g a = R
  have h1 : (∃ q, evalG (Ret E) (rows.set R .dead) 0 g (mk n sl) [] = some q ∧ ∃ r', stored q.1 rows R a y sz = some r' ∧ Ex E cx (.ops l :: k) ⟨q.1, rows.set R r' ++ q.2.map (·.2), lower low R⟩ r) ↔
      bnd (evalG (Ret E) (rows.set R .dead) 0 g (mk n sl) []) fun q => (fun sl' rows' => ∃ r', stored sl' rows R a y sz = some r' ∧ Ex E cx (.ops l :: k) ⟨sl', rows.set R r' ++ List.drop (rows.set R .dead).length rows', lower low R⟩ r) q.1 (rows.set R .dead ++ q.2.map (·.2)) := by
    simp only [bnd, List.drop_left]
  rw [h1, runG_ok (K := fun sl' rows' => ∃ r', stored sl' rows R a y sz = some r' ∧ Ex E cx (Itm.ops l :: k) ⟨sl', rows.set R r' ++ List.drop (rows.set R Row.dead).length rows', lower low R⟩ r), runL_ok (low := low) g 0 _ hp]
  refine runL_tr (f := mk n) (gO_ok n) (pO_ok n) ?_ g sl
  intro t
  have : List.drop rows.length (rows.set R Row.dead) = [] := List.drop_of_length_le (by simp)
  simp [this]
/-- What 'filled' holds while it works. -/
def TB (rows : List Row) (pv : AV) (T : List Int) (B : List Row) : Prop := ∃ G, B = rows ++ (.cells [pv] :: .cells (nums .i64 T) :: .cells [.ptr (rows.length + 1) 0] :: G)
section
variable {rows B : List Row} {pv : AV} {T T' : List Int}
theorem TB.len (h : TB rows pv T B) : rows.length + 3 ≤ B.length := by obtain ⟨G, rfl⟩ := h; simp <;> omega
theorem TB.app (h : TB rows pv T B) (L : List Row) : TB rows pv T (B ++ L) := by obtain ⟨G, rfl⟩ := h; exact ⟨G ++ L, by simp⟩
theorem TB.g0 (h : TB rows pv T B) : row? B rows.length = some [pv] := by obtain ⟨G, rfl⟩ := h; simp
theorem TB.g1 (h : TB rows pv T B) : row? B (rows.length + 1) = some (nums .i64 T) := by obtain ⟨G, rfl⟩ := h; rw [row?_at]; rfl
theorem TB.g2 (h : TB rows pv T B) : row? B (rows.length + 2) = some [.ptr (rows.length + 1) 0] := by obtain ⟨G, rfl⟩ := h; rw [row?_at]; rfl
theorem TB.c1 (h : TB rows pv T B) : B[rows.length + 1]? = some (.cells (nums .i64 T)) := by obtain ⟨G, rfl⟩ := h; rw [rows_at]; rfl
theorem TB.set (h : TB rows pv T B) : TB rows pv T' (B.set (rows.length + 1) (.cells (nums .i64 T'))) := by obtain ⟨G, rfl⟩ := h; exact ⟨G, by rw [rows_set]; rfl⟩
theorem TB.setN (h : TB rows pv T B) {n : Nat} {x : Row} (hn : rows.length + 3 ≤ n) : TB rows pv T (B.set n x) := by
  obtain ⟨G, rfl⟩ := h
  obtain ⟨m, rfl⟩ : ∃ m, n = rows.length + (m + 3) := ⟨n - rows.length - 3, by omega⟩
  exact ⟨G.set m x, by rw [rows_set]; rfl⟩
theorem TB.take (h : TB rows pv T B) {n : Nat} (hn : rows.length + 3 ≤ n) : TB rows pv T (B.take n) := by
  obtain ⟨G, rfl⟩ := h
  obtain ⟨m, rfl⟩ : ∃ m, n = rows.length + (m + 3) := ⟨n - rows.length - 3, by omega⟩
  exact ⟨G.take m, by rw [List.take_append, List.take_of_length_le (by omega)]; simp⟩
theorem row?_ne {i j : Nat} {x : Row} (h : i ≠ j) : row? (B.set j x) i = row? B i := by
  unfold row?; rw [List.getElem?_set_ne (fun e => h e.symm)]
end
set_option maxHeartbeats 4000000 in
theorem k8_ok {rows R : List Row} {pv : AV} {T : List Int} {cx : Ctx} {k : List Itm} {r : AV × List Row × Nat → Prop} {sl : List (Nat × AV)} {low N8 : Nat} {a b v g : Int} (hTB : TB rows pv T R) (hT : T.length = 338) (h8 : row? R N8 = some [.int .i64 a, .int .i64 b]) (hN : N8 ≠ rows.length + 1)
    (s5 : lk sl 5 = .ptr (rows.length + 2) 0) (s8 : lk sl 8 = .ptr N8 0) (s13 : lk sl 13 = .int .i64 v) (s10 : lk sl 10 = .int .i64 g) (ha : 0 ≤ a ∧ a ≤ 12) (hb : 0 ≤ b ∧ b ≤ 12) :
    Ex F cx (.code c57k8 :: .code c57k7 :: k) ⟨mk 102 sl, R, low⟩ r ↔ bnd (evE (R.set (rows.length + 1) (.cells (nums .i64 (setT T a b v g)))) (lower low (rows.length + 1)) (.store1 (.c (lk sl 9)) (.c (.bool false)))) fun q0 => Ex F cx k ⟨mk 102 [(9, lk sl 9)], q0.2.1, q0.2.2⟩ r := by
  have e5 : row? (R.set (rows.length + 1) .dead) (rows.length + 2) = some [.ptr (rows.length + 1) 0] := by rw [row?_ne (by omega)]; exact hTB.g2
  have e8 : row? (R.set (rows.length + 1) .dead) N8 = some [.int .i64 a, .int .i64 b] := by rw [row?_ne hN]; exact h8
  have i1 : idx? a 13 = some a.toNat := idx?_ok (by omega) (by omega)
  have i2 : idx? b 13 = some b.toNat := idx?_ok (by omega) (by omega)
  have hrow : ∀ l, lk l 5 = .ptr (rows.length + 2) 0 → rowOf R (mk 102 l) [(⟨some 81, .load1 (.t 5), none⟩, 0), (⟨some 82, .fieldA 0 (.t 8), none⟩, 0), (⟨some 83, .load1 (.t 82), none⟩, 2), (⟨some 84, .fieldA 1 (.t 8), none⟩, 0), (⟨some 85, .load1 (.t 84), none⟩, 8), (⟨some 86, .load1 (.t 5), none⟩, 0), (⟨some 87, .fieldA 0 (.t 8), none⟩, 0), (⟨some 88, .load1 (.t 87), none⟩, 64), (⟨some 89, .fieldA 1 (.t 8), none⟩, 0), (⟨some 90, .load1 (.t 89), none⟩, 256), (⟨some 91, .mv (.t 13), none⟩, 0), (⟨some 92, .mv (.t 10), none⟩, 0), (⟨some 93, .nilck (.t 81), none⟩, 1), (⟨some 94, .fieldA 0 (.t 93), none⟩, 4097), (⟨some 95, .idxA 13 13 (.t 94) (.t 83), none⟩, 12295), (⟨some 96, .idxA 13 1 (.t 95) (.t 85), none⟩, 29727), (⟨none, .lenc 0, none⟩, 62495), (⟨some 97, .nilck (.t 86), none⟩, 32), (⟨some 98, .fieldA 169 (.t 97), none⟩, 131104), (⟨some 99, .idxA 13 13 (.t 98) (.t 88), none⟩, 393440)] (.t 96) = rows.length + 1 := by
    intro l hl
    simp [rowOf, rowV, hl, hTB.g2]
  rw [uc57k8, Ex_kill, kill_dead, Ex_ops, uc57r8, Ex_grpwQ rfl, hrow _ (by simpa using s5)]
  simp [runL, runO, IOp.pure, gO, subI, subO, e5, e8, s5, s8, s13, s10, i1, i2, Nat.ble]
  have k1 : a.toNat * 13 + b.toNat < 338 := by omega
  have k2 : 169 + a.toNat * 13 + b.toNat < 338 := by omega
  have k3 : (13 * a + b).toNat = a.toNat * 13 + b.toNat := by omega
  have k4 : (169 + 13 * a + b).toNat = 169 + a.toNat * 13 + b.toNat := by omega
  have hl1 : rows.length + 1 < R.length := by have := hTB.len; omega
  have hl2 : lower (lower low (rows.length + 1)) (rows.length + 1) = lower low (rows.length + 1) := lower_ge (lower_le_id _ _)
  have hc : ∀ vs, cells? (R.set (rows.length + 1) (.cells vs)) (rows.length + 1) = some vs := fun vs => by unfold cells?; rw [List.getElem?_set_self hl1]
  simp [stored, hTB.c1, hT, k1]
  rw [Ex_runQ rfl]
  simp [runQ, runP, runO, IOp.pure, gO, subI, subO, i2, Nat.ble, hc, k2, hT, k3, k4, setT, hl2]
end Go.Abs

set_option linter.unusedVariables false
set_option linter.unusedSimpArgs false
namespace Go.Abs
open Rd (Cp IsL_one IsL_cells IsL_tail lowO_n)

/-- What the price function is asked to be. -/
structure PF (rows : List Row) (pf : Nat) (pcs : List AV) (n : Int) (P : Int → Int → Int → Int → Int → Int) : Prop where
  ret : ∀ L a b g l r, 0 ≤ a → a ≤ g → g < b → b ≤ n → (0 ≤ l ∧ l ≤ 200000000) → (0 ≤ r ∧ r ≤ 200000000) → Ret F pf ([pt a b, .int .i64 g, .int .i64 l, .int .i64 r] ++ pcs) (rows ++ L) = some (.int .i64 (P a b g l r), rows ++ L, none)
  bd : ∀ a b g l r, 0 ≤ a → a ≤ g → g < b → b ≤ n → (0 ≤ l ∧ l ≤ 200000000) → (0 ≤ r ∧ r ≤ 200000000) → 0 ≤ P a b g l r ∧ P a b g l r ≤ 13000000 + l + r
def Bnd (T : List Int) : Prop := ∀ a b, 0 ≤ a → a ≤ b → b ≤ 12 → 0 ≤ prT T a b ∧ prT T a b ≤ 13000000 * (b - a)
theorem Bnd_0 : Bnd (List.replicate 338 0) := by
  intro a b h0 h1 h2
  have : prT (List.replicate 338 0) a b = 0 := by
    unfold prT gI
    rw [List.getD_eq_getElem?_getD, List.getElem?_replicate, if_pos (by omega)]
    rfl
  omega
theorem Bnd_set {T : List Int} {a b v g : Int} (hT : T.length = 338) (ha : 0 ≤ a) (hab : a ≤ b) (hb : b ≤ 12) (hv : 0 ≤ v ∧ v ≤ 13000000 * (b - a)) (h : Bnd T) : Bnd (setT T a b v g) := by
  intro c d h0 h1 h2
  rw [prT_set hT ⟨ha, by omega⟩ ⟨by omega, hb⟩ ⟨h0, by omega⟩ ⟨by omega, h2⟩]
  split
  · rename_i e; obtain ⟨rfl, rfl⟩ := e; exact hv
  · exact h c d h0 h1 h2
/-- The table while the gates before g are tried. -/
structure TG (P : Int → Int → Int → Int → Int → Int) (n m s : Int) (g : Int) (T : List Int) : Prop where
  len : T.length = 338
  done : Done P T n m s
  to : BestTo P T s (s + m) g
  bnd : Bnd T
theorem cells?_ne {R : List Row} {i j : Nat} {x : Row} (h : i ≠ j) : cells? (R.set j x) i = cells? R i := by
  unfold cells?; rw [List.getElem?_set_ne (fun e => h e.symm)]
theorem round_shape {B G X : List Row} {i : Nat} {p f q l x y z : Row} (hi : i < B.length) : ((((B ++ (p :: f :: q :: l :: G)) ++ X).set i x).set (B.length + 1) y).set (B.length + 3) z = B.set i x ++ (p :: y :: q :: z :: (G ++ X)) := by
  rw [List.append_assoc, List.set_append_left _ _ hi]
  have : B.length = (B.set i x).length := by simp
  rw [this, rows_set, rows_set]
  simp
theorem round_shape0 {B G X : List Row} {p f q l y z : Row} : (((B ++ (p :: f :: q :: l :: G)) ++ X).set (B.length + 1) y).set (B.length + 3) z = B ++ (p :: y :: q :: z :: (G ++ X)) := by
  rw [List.append_assoc, rows_set, rows_set]
  simp
def LRw (st : LoopState) (SL : List AV) : Row := .loop st none SL [35] c57f6a c57f6b
/-- The rows while the gates of a part are tried. -/
def RI (rows : List Row) (pv : AV) (P : Int → Int → Int → Int → Int → Int) (n m s : Int) (N : Nat) (SL : List AV) (g : Int) (R : List Row) (low : Nat) : Prop :=
  ∃ B T G, R = B ++ (.cells [.int .i64 s, .int .i64 (s + m)] :: .cells [.bool (decide (g = s))] :: .cells [.int .i64 s, .int .i64 (s + m)] :: LRw .ready SL :: G) ∧ B.length = N ∧ TB rows pv T B ∧ TG P n m s g T ∧ rows.length ≤ low ∧ (s < g → low ≤ N + 3)
set_option maxHeartbeats 8000000 in
theorem round_ok {rows : List Row} {pf N low : Nat} {pcs SL : List AV} {P : Int → Int → Int → Int → Int → Int} {n m s g : Int} {R : List Row} {sl : List (Nat × AV)} (hPF : PF rows pf pcs n P) (hn : n ≤ 12) (hm : 1 ≤ m) (hs : 0 ≤ s) (hsm : s + m ≤ n) (hg : s ≤ g) (hgm : g < s + m)
    (s3 : lk sl 3 = .ptr rows.length 0) (s5 : lk sl 5 = .ptr (rows.length + 2) 0) (s8 : lk sl 8 = .ptr N 0) (s9 : lk sl 9 = .ptr (N + 1) 0)
    (hI : RI rows (.func pf pcs) P n m s N SL g R low) : Ex F (.round (N + 3)) [.code c57f6a, .rfBegin, .code c57f6b] ⟨putL (mk 102 sl) [35] [.int .i64 g], R, R.length⟩ fun q => q.1 = .bool true ∧ RI rows (.func pf pcs) P n m s N SL (g + 1) (gc R.length (lower low q.2.2) q.1 q.2.1) (lower low q.2.2) := by
  obtain ⟨B, T, G, hR, hBN, hTB, hTG, hlow1, hlow2⟩ := hI
  have hB := hTB.len
  generalize hfb : decide (g = s) = fb at hR
  generalize hPr : Row.cells [AV.int .i64 s, AV.int .i64 (s + m)] = Pr at hR
  have hb1 := hTG.bnd s g (by omega) (by omega) (by omega)
  have hb2 := hTG.bnd (g + 1) (s + m) (by omega) (by omega) (by omega)
  have hb3 := hTG.bnd s (s + m) (by omega) (by omega) (by omega)
  have hbd := hPF.bd s (s + m) g (prT T s g) (prT T (g + 1) (s + m)) hs hg hgm hsm (by omega) (by omega)
  generalize hv : P s (s + m) g (prT T s g) (prT T (g + 1) (s + m)) = v at hbd
  have hret := fun L => hPF.ret L s (s + m) g (prT T s g) (prT T (g + 1) (s + m)) hs hg hgm hsm (by omega) (by omega)
  rw [hv] at hret
  -- the rows while the round runs
  generalize hRb : B ++ (Pr :: .cells [.bool fb] :: Pr :: LRw .busy SL :: G) = Rb
  have hTBb : TB rows (.func pf pcs) T Rb := by rw [← hRb]; exact hTB.app _
  have h8 : ∀ L, row? (Rb ++ L) N = some [.int .i64 s, .int .i64 (s + m)] := fun L => row?_old (by rw [← hRb, ← hBN, row?_at0, ← hPr]; rfl) L
  have h9 : ∀ L, row? (Rb ++ L) (N + 1) = some [.bool fb] := fun L => row?_old (by rw [← hRb, ← hBN, row?_at]; rfl) L
  have h5 : ∀ L, row? (Rb ++ L) (rows.length + 2) = some [.ptr (rows.length + 1) 0] := fun L => (hTBb.app L).g2
  have h3 : ∀ L, row? (Rb ++ L) rows.length = some [.func pf pcs] := fun L => (hTBb.app L).g0
  have h4 : ∀ L, row? (Rb ++ L) (rows.length + 1) = some (nums .i64 T) := fun L => (hTBb.app L).g1
  have hrt : ∀ L, Ret F pf ([pt s (s + m), .int .i64 g, .int .i64 (prT T s g), .int .i64 (prT T (g + 1) (s + m))] ++ pcs) (Rb ++ L) = some (.int .i64 v, Rb ++ L, none) := by
    intro L
    obtain ⟨Z, hZ⟩ := hTBb.app L
    rw [hZ]; exact hret _
  have i0 : idx? s 13 = some s.toNat := idx?_ok (by omega) (by omega)
  have i1 : idx? g 13 = some g.toNat := idx?_ok (by omega) (by omega)
  have i2 : idx? (g + 1) 13 = some (g + 1).toNat := idx?_ok (by omega) (by omega)
  have i3 : idx? (s + m) 13 = some (s + m).toNat := idx?_ok (by omega) (by omega)
  have hTl := hTG.len
  have q1 : (nums .i64 T)[s.toNat * 13 + g.toNat]? = some (.int .i64 (prT T s g)) := by
    unfold prT
    rw [show (13 * s + g).toNat = s.toNat * 13 + g.toNat from by omega, nums_get, gI_get (by omega)]; rfl
  have q2 : (nums .i64 T)[(g + 1).toNat * 13 + (s + m).toNat]? = some (.int .i64 (prT T (g + 1) (s + m))) := by
    unfold prT
    rw [show (13 * (g + 1) + (s + m)).toNat = (g + 1).toNat * 13 + (s + m).toNat from by omega, nums_get, gI_get (by omega)]; rfl
  have q3 : (nums .i64 T)[s.toNat * 13 + (s + m).toNat]? = some (.int .i64 (prT T s (s + m))) := by
    unfold prT
    rw [show (13 * s + (s + m)).toNat = s.toNat * 13 + (s + m).toNat from by omega, nums_get, gI_get (by omega)]; rfl
  have hrd := fun R => right_ret (rows := R) (a := s) (b := s + m) (g := g) (by omega)
  have hld := fun R => left_ret (rows := R) (a := s) (b := s + m) (g := g)
  simp only [pt] at hrt hrd hld
  simp only [mk_putL1, uc57f6a, uc57k15]
  rw [Ex_rfBegin]
  refine ⟨none, SL, [35], c57f6a, c57f6b, by rw [hR, ← hBN, rows_at]; rfl, ?_⟩
  have e1 : R.set (N + 3) (.loop .busy none SL [35] c57f6a c57f6b) = Rb := by rw [hR, ← hRb, ← hBN, rows_set]; rfl
  rw [e1]
  have hRl : R.length = Rb.length := by rw [← hRb, hR]; simp
  rw [show lower R.length (N + 3) = N + 3 from lower_lt (by rw [hR]; simp; omega)]
  have hRbl : N + 4 ≤ Rb.length := by rw [← hRb]; simp; omega
  have hll : ∀ k, lower (N + 3) (Rb.length + k) = N + 3 := fun k => lower_ge (by omega)
  have hll0 : lower (N + 3) Rb.length = N + 3 := lower_ge (by omega)
  have h80 := h8 []
  have h90 := h9 []
  have h50 := h5 []
  have h30 := h3 []
  have h40 := h4 []
  simp only [List.append_nil] at h80 h90 h50 h30 h40
  simp only [List.cons_append, List.nil_append] at hrt
  have hc9 : ∀ L, cells? (Rb ++ L) (N + 1) = some [.bool fb] := fun L => cells?_old (by rw [← hRb, ← hBN, cells?_at]; rfl) L
  have hlw1 : lower (N + 3) (N + 1) = N + 1 := lower_lt (by omega)
  have hlw2 : lower (N + 1) (N + 3) = N + 1 := lower_ge (by omega)
  have hlw3 : lower low (N + 1) ≤ N + 1 := lower_le_id _ _
  have hlw4 : rows.length ≤ lower low (N + 1) := by unfold lower; split <;> omega
  have hlw5 : lower (N + 3) (rows.length + 1) = rows.length + 1 := lower_lt (by omega)
  have hlw6 : lower (rows.length + 1) (N + 1) = rows.length + 1 := lower_ge (by omega)
  have hlw7 : lower (rows.length + 1) (N + 3) = rows.length + 1 := lower_ge (by omega)
  have hlw8 : lower low (rows.length + 1) ≤ N + 1 := Nat.le_trans (lower_le_id _ _) (by omega)
  have hlw9 : rows.length ≤ lower low (rows.length + 1) := by unfold lower; split <;> omega
  have hgs : decide (g + 1 = s) = false := decide_eq_false (by omega)
  have hRlen : R.length = N + 4 + G.length := by rw [hR]; simp; omega
  -- what is left when a round is over
  have fin1 : ∀ (B' : List Row) (T' : List Int) (X : List Row) (low' : Nat), B'.length = N → TB rows (.func pf pcs) T' B' → TG P n m s (g + 1) T' → rows.length ≤ low' → low' ≤ N + 3 →
      RI rows (.func pf pcs) P n m s N SL (g + 1) (gc R.length low' (.bool true) (B' ++ (Pr :: .cells [.bool false] :: Pr :: LRw .ready SL :: (G ++ X)))) low' := by
    intro B' T' X low' hB' hT' hG' hw1 hw2
    rcases gc_cases R.length low' (.bool true) (B' ++ (Pr :: .cells [.bool false] :: Pr :: LRw .ready SL :: (G ++ X))) with e | ⟨e, _⟩
    · rw [e]
      exact ⟨B', T', G ++ X, by rw [← hPr, hgs], hB', hT', hG', hw1, fun _ => hw2⟩
    · rw [e]
      refine ⟨B', T', G, ?_, hB', hT', hG', hw1, fun _ => hw2⟩
      rw [hgs, ← hPr, hRlen, List.take_append, List.take_of_length_le (by omega), show N + 4 + G.length - B'.length = G.length + 4 from by omega]
      simp
  have endB : ∀ X, TG P n m s (g + 1) T → Ex F (.round (N + 3)) [] ⟨mk 102 [(9, .ptr (N + 1) 0)], (Rb ++ X).set (N + 1) (.cells [.bool false]), N + 1⟩ fun q => q.1 = .bool true ∧ RI rows (.func pf pcs) P n m s N SL (g + 1) (gc R.length (lower low q.2.2) q.1 q.2.1) (lower low q.2.2) := by
    intro X hG'
    rw [Ex_nil]
    have e2 : ((Rb ++ X).set (N + 1) (Row.cells [AV.bool false]))[N + 3]? = some (.loop .busy none SL [35] c57f6a c57f6b) := by
      rw [List.getElem?_set_ne (by omega), ← hRb, ← hBN, List.append_assoc, rows_at]; rfl
    refine ⟨_, by unfold leaveV; simp only [e2]; rfl, ?_⟩
    have e3 : ((Rb ++ X).set (N + 1) (Row.cells [AV.bool false])).set (N + 3) (.loop .ready none SL [35] c57f6a c57f6b) = B ++ (Pr :: .cells [.bool false] :: Pr :: LRw .ready SL :: (G ++ X)) := by
      rw [← hRb, ← hBN]; exact round_shape0
    refine ⟨rfl, ?_⟩
    simp only [Option.isNone_none, if_true]
    rw [e3, hlw2]
    exact fin1 B T X _ hBN hTB hG' hlw4 (by omega)
  have endA : ∀ X, TG P n m s (g + 1) (setT T s (s + m) v g) → Ex F (.round (N + 3)) [] ⟨mk 102 [(9, .ptr (N + 1) 0)], ((Rb ++ X).set (rows.length + 1) (.cells (nums .i64 (setT T s (s + m) v g)))).set (N + 1) (.cells [.bool false]), rows.length + 1⟩ fun q => q.1 = .bool true ∧ RI rows (.func pf pcs) P n m s N SL (g + 1) (gc R.length (lower low q.2.2) q.1 q.2.1) (lower low q.2.2) := by
    intro X hG'
    rw [Ex_nil]
    have e2 : (((Rb ++ X).set (rows.length + 1) (.cells (nums .i64 (setT T s (s + m) v g)))).set (N + 1) (Row.cells [AV.bool false]))[N + 3]? = some (.loop .busy none SL [35] c57f6a c57f6b) := by
      rw [List.getElem?_set_ne (by omega), List.getElem?_set_ne (by omega), ← hRb, ← hBN, List.append_assoc, rows_at]; rfl
    refine ⟨_, by unfold leaveV; simp only [e2]; rfl, ?_⟩
    have e3 : (((Rb ++ X).set (rows.length + 1) (.cells (nums .i64 (setT T s (s + m) v g)))).set (N + 1) (Row.cells [AV.bool false])).set (N + 3) (.loop .ready none SL [35] c57f6a c57f6b) = B.set (rows.length + 1) (.cells (nums .i64 (setT T s (s + m) v g))) ++ (Pr :: .cells [.bool false] :: Pr :: LRw .ready SL :: (G ++ X)) := by
      rw [← hRb, ← hBN]; exact round_shape (by omega)
    refine ⟨rfl, ?_⟩
    simp only [Option.isNone_none, if_true]
    rw [e3, hlw7]
    exact fin1 _ _ X _ (by simp [hBN]) hTB.set hG' hlw9 (by omega)
  have hset : (fb = true ∨ v < prT T s (s + m)) → TG P n m s (g + 1) (setT T s (s + m) v g) := by
    intro hor
    refine ⟨by rw [setT_len]; exact hTl, Done_set hTl hn hm hs hsm hTG.done, ?_, Bnd_set hTl hs (by omega) (by omega) ⟨hbd.1, by omega⟩ hTG.bnd⟩
    rw [← hv]
    refine BestTo_set hTl hs (by omega) hg hgm hTG.to ?_
    rw [hv]
    rcases hor with h | h
    · left; rw [← hfb] at h; simpa using h
    · right; omega
  have hskip : fb = false → ¬ v < prT T s (s + m) → TG P n m s (g + 1) T := by
    intro h1 h2
    refine ⟨hTl, hTG.done, BestTo_skip ?_ hTG.to (by rw [hv]; omega), hTG.bnd⟩
    rw [← hfb] at h1; simpa using h1
  have k8 := fun (X : List Row) (l : List (Nat × AV)) (k : List Itm) (r : AV × List Row × Nat → Prop) (a1 : lk l 5 = .ptr (rows.length + 2) 0) (a2 : lk l 8 = .ptr N 0) (a3 : lk l 13 = .int .i64 v) (a4 : lk l 10 = .int .i64 g) => k8_ok (cx := .round (N + 3)) (k := k) (r := r) (sl := l) (low := N + 3) (hTBb.app X) hTl (h8 X) (by omega) a1 a2 a3 a4 (by omega) (by omega)
  cases fb with
  | true =>
    simp [s3, s5, s8, s9, seg, fillA, splice, h80, h8, h5, h50, h3, h4, hld, hrd, i0, i1, i2, i3, q1, q2, q3, hll, hll0, maskE_cons, h9, hrt, -uc57k8]
    rw [k8 _ _ _ _ (by simp) (by simp) (by simp) (by simp)]
    simp [hlw5, hlw6, cells?_ne (show N + 1 ≠ rows.length + 1 by omega), hc9]
    exact endA _ (hset (.inl rfl))
  | false =>
    by_cases hlt : v < prT T s (s + m)
    · simp [s3, s5, s8, s9, seg, fillA, splice, h80, h8, h5, h50, h3, h4, hld, hrd, i0, i1, i2, i3, q1, q2, q3, hll, hll0, maskE_cons, h9, hrt, hlt, -uc57k8]
      rw [k8 _ _ _ _ (by simp) (by simp) (by simp) (by simp)]
      simp [hlw5, hlw6, cells?_ne (show N + 1 ≠ rows.length + 1 by omega), hc9]
      exact endA _ (hset (.inr hlt))
    · simp [s3, s5, s8, s9, seg, fillA, splice, h80, h8, h5, h50, h3, h4, hld, hrd, i0, i1, i2, i3, q1, q2, q3, hll, hll0, maskE_cons, h9, hc9, hrt, hlt, hlw1, -uc57k8]
      exact endB _ (hskip rfl hlt)
end Go.Abs

set_option linter.unusedVariables false
set_option linter.unusedSimpArgs false
namespace Go.Abs
open Rd (Cp IsL_one IsL_cells IsL_tail lowO_n)
/-- All gates of a part are tried. -/
theorem part_ok {rows B : List Row} {pf : Nat} {pcs : List AV} {res : List RV} {P : Int → Int → Int → Int → Int → Int} {n m s : Int} {T : List Int} {sl : List (Nat × AV)} {k : List Itm} {r : AV × List Row × Nat → Prop} (hPF : PF rows pf pcs n P) (hn : n ≤ 12) (hm : 1 ≤ m) (hs : 0 ≤ s) (hsm : s + m ≤ n)
    (hTB : TB rows (.func pf pcs) T B) (hT : T.length = 338) (hD : Done P T n m s) (hBd : Bnd T)
    (s3 : lk sl 3 = .ptr rows.length 0) (s5 : lk sl 5 = .ptr (rows.length + 2) 0) (s8 : lk sl 8 = .ptr B.length 0) (s9 : lk sl 9 = .ptr (B.length + 1) 0) (s34 : lk sl 34 = .func 97 [.ptr (B.length + 2) 0])
    (hend : ∀ B' T', TB rows (.func pf pcs) T' B' → T'.length = 338 → Done P T' n m (s + 1) → Bnd T' → Ex F (.fn res) k ⟨mk 102 sl, B', rows.length⟩ r) :
    Ex F (.fn res) (.code (.rf (.t 34) [35] c57f6a c57f6b) :: k) ⟨mk 102 sl, B ++ [.cells [.int .i64 s, .int .i64 (s + m)], .cells [.bool true], .cells [.int .i64 s, .int .i64 (s + m)]], rows.length⟩ r := by
  have hB := hTB.len
  have hlen : (B ++ [Row.cells [.int .i64 s, .int .i64 (s + m)], .cells [.bool true], .cells [.int .i64 s, .int .i64 (s + m)]]).length = B.length + 3 := by simp
  refine gates_rf (L := B.length + 2) (a := s) (b := s + m) (Inv := RI rows (.func pf pcs) P n m s B.length (mk 102 sl)) hs (by omega) (by omega) (by rw [mk_getO _ _ _ (by omega)]; exact s34) ?_ ?_ ?_ ?_ ?_
  · rw [List.append_assoc, row?_at]; rfl
  · rw [hlen]
    exact ⟨B, T, [], by simp [LRw], rfl, hTB, ⟨hT, hD, .inl rfl, hBd⟩, by omega, fun h => by omega⟩
  · rintro g R low ⟨B', T', G, rfl, hBN, hTB', hTG, _⟩
    rw [hlen, ← hBN]
    exact ⟨by rw [rows_at]; rfl, by rw [row?_at]; rfl⟩
  · intro g R low hg1 hg2 hI
    rw [hlen]
    exact round_ok hPF hn hm hs hsm hg1 hg2 s3 s5 s8 s9 hI
  · rintro R lw ⟨B', T', G, hR, hBN, hTB', hTG, hw1, hw2⟩
    rw [hlen]
    have hw := hw2 (by omega)
    have hR0 : (B ++ [Row.cells [.int .i64 s, .int .i64 (s + m)], .cells [.bool true], .cells [.int .i64 s, .int .i64 (s + m)]] ++ [Row.loop .ready none (mk 102 sl) [35] c57f6a c57f6b]).length = B.length + 4 := by simp
    rw [fin_lt (by rw [hR0]; omega)]
    simp only [lowO]
    have hTR : TB rows (.func pf pcs) T' R := by rw [hR]; exact hTB'.app _
    have key : ∃ R1, gc (B ++ [Row.cells [.int .i64 s, .int .i64 (s + m)], .cells [.bool true], .cells [.int .i64 s, .int .i64 (s + m)]] ++ [Row.loop .ready none (mk 102 sl) [35] c57f6a c57f6b]).length lw (.tup []) R = R1 ∧ TB rows (.func pf pcs) T' R1 ∧ R1[B.length + 3]? = some (.loop .ready none (mk 102 sl) [35] c57f6a c57f6b) := by
      have hg : R[B.length + 3]? = some (.loop .ready none (mk 102 sl) [35] c57f6a c57f6b) := by rw [hR, ← hBN, rows_at]; rfl
      rcases gc_cases (B ++ [Row.cells [.int .i64 s, .int .i64 (s + m)], .cells [.bool true], .cells [.int .i64 s, .int .i64 (s + m)]] ++ [Row.loop .ready none (mk 102 sl) [35] c57f6a c57f6b]).length lw (.tup []) R with e | ⟨e, _⟩
      · exact ⟨R, e, hTR, hg⟩
      · refine ⟨_, e, hTR.take (by rw [hR0]; omega), ?_⟩
        rw [List.getElem?_take, if_pos (by rw [hR0]; omega)]; exact hg
    obtain ⟨R1, e1, h1, h2⟩ := key
    rw [e1]
    have hlw : lower rows.length lw = rows.length := lower_ge hw1
    refine ⟨_, by unfold afterLoop; simp only [h2]; rfl, ?_⟩
    simp only [lowO, hlw, jumpI, List.nil_append]
    have h3 := h1.setN (n := B.length + 3) (x := .dead) (by omega)
    have hD' : Done P T' n m (s + 1) := Done_next hm hTG.done (BestTo_end (by omega) hTG.to)
    rcases gc_cases (B.length + 3) rows.length (.tup []) (R1.set (B.length + 3) .dead) with e | ⟨e, _⟩
    · rw [e]; exact hend _ _ h3 hTG.len hD' hTG.bnd
    · rw [e]; exact hend _ _ (h3.take (by omega)) hTG.len hD' hTG.bnd
theorem filled_a {rows : List Row} {pf : Nat} {pcs : List AV} {P : Int → Int → Int → Int → Int → Int} {n m : Int} {r : AV × List Row × Nat → Prop} (hPF : PF rows pf pcs n P) (hn : n ≤ 12) (hm : 1 ≤ m) (hmn : m ≤ n)
    (hend : ∀ B' T', TB rows (.func pf pcs) T' B' → T'.length = 338 → Done P T' n (m + 1) 0 → Bnd T' → Lc57l2 F (.fn [.t 4]) (.int .i64 n) (.ptr rows.length 0) .nilptr (.ptr (rows.length + 2) 0) (.int .i64 (m + 1)) B' rows.length r) :
    ∀ (d : Nat) (s : Int) (B : List Row) (T : List Int), (n - m + 1 - s).toNat = d → 0 ≤ s → s ≤ n - m + 1 → TB rows (.func pf pcs) T B → T.length = 338 → Done P T n m s → Bnd T →
    Lc57l4 F (.fn [.t 4]) (.int .i64 n) (.ptr rows.length 0) .nilptr (.ptr (rows.length + 2) 0) (.int .i64 m) (.int .i64 s) B rows.length r := by
  have w1 : IntKind.i64.wrap (m + 1) = m + 1 := wrap64 (by omega) (by omega)
  intro d
  induction d with
  | zero =>
    intro s B T hd h0 h1 hTB hT hD hBd
    have w2 : IntKind.i64.wrap (s + m) = s + m := wrap64 (by omega) (by omega)
    unfold Lc57l4
    simp [w1, w2, show ¬ (s + m ≤ n) by omega]
    exact hend B T hTB hT (Done_len (by omega) hD) hBd
  | succ d ih =>
    intro s B T hd h0 h1 hTB hT hD hBd
    have w2 : IntKind.i64.wrap (s + m) = s + m := wrap64 (by omega) (by omega)
    have w3 : IntKind.i64.wrap (s + 1) = s + 1 := wrap64 (by omega) (by omega)
    have hB := hTB.len
    have hl : ∀ k, lower rows.length (B.length + k) = rows.length := fun k => lower_ge (by omega)
    have hl0 : lower rows.length B.length = rows.length := lower_ge (by omega)
    have hg := fun R => gates_ret (rows := R) (a := s) (b := s + m)
    simp only [pt] at hg
    unfold Lc57l4
    simp [w1, w2, show s + m ≤ n by omega, fillA, splice, seg, hg, hl, hl0]
    refine part_ok (T := T) hPF hn hm h0 (by omega) hTB hT hD hBd (by simp) (by simp) (by simp) (by simp) (by simp) ?_
    intro B' T' hTB' hT' hD' hBd'
    have := ih (s + 1) B' T' (by omega) (by omega) (by omega) hTB' hT' hD' hBd'
    simpa [w3] using this
theorem filled_m {rows : List Row} {pf : Nat} {pcs : List AV} {P : Int → Int → Int → Int → Int → Int} {n : Int} {r : AV × List Row × Nat → Prop} (hPF : PF rows pf pcs n P) (hn : n ≤ 12) (hn0 : 0 ≤ n)
    (hend : ∀ B' T', TB rows (.func pf pcs) T' B' → T'.length = 338 → Done P T' n (n + 1) 0 → Bnd T' → r (.ptr (rows.length + 1) 0, B', rows.length)) :
    ∀ (d : Nat) (m : Int) (B : List Row) (T : List Int), (n + 1 - m).toNat = d → 1 ≤ m → m ≤ n + 1 → TB rows (.func pf pcs) T B → T.length = 338 → Done P T n m 0 → Bnd T →
    Lc57l2 F (.fn [.t 4]) (.int .i64 n) (.ptr rows.length 0) .nilptr (.ptr (rows.length + 2) 0) (.int .i64 m) B rows.length r := by
  intro d
  induction d with
  | zero =>
    intro m B T hd h0 h1 hTB hT hD hBd
    have : m = n + 1 := by omega
    subst this
    unfold Lc57l2
    simp [show ¬ (n + 1 ≤ n) by omega, hTB.g2]
    exact hend B T hTB hT hD hBd
  | succ d ih =>
    intro m B T hd h0 h1 hTB hT hD hBd
    unfold Lc57l2
    simp [show m ≤ n by omega]
    have := filled_a (r := r) hPF hn h0 (by omega) (fun B' T' hTB' hT' hD' hBd' => ih (m + 1) B' T' (by omega) (by omega) (by omega) hTB' hT' hD' hBd') _ 0 B T rfl (Int.le_refl 0) (by omega) hTB hT hD hBd
    simpa using this
/-- filled. -/
theorem filled_ret {rows : List Row} {pf : Nat} {pcs : List AV} {P : Int → Int → Int → Int → Int → Int} {n : Int} (hPF : PF rows pf pcs n P) (hn : n ≤ 12) (hn0 : 0 ≤ n) :
    ∃ T, Ret F 57 [.int .i64 n, .func pf pcs] rows = some (.ptr rows.length 0, rows ++ [.cells (nums .i64 T)], none) ∧ T.length = 338 ∧ Done P T n (n + 1) 0 ∧ Bnd T := by
  have := Ret_mk' F57 (vs := [.int .i64 n, .func pf pcs]) (rows := rows) (R := fun q => ∃ T, q = (.ptr rows.length 0, rows ++ [.cells (nums .i64 T)], none) ∧ T.length = 338 ∧ Done P T n (n + 1) 0 ∧ Bnd T) (show Ex F (.fn [.t 4]) [.code c57b] ⟨mk 102 [(0, .int .i64 n), (1, .func pf pcs)], rows, rows.length⟩ _ from ?_)
  · obtain ⟨q, e, T, rfl, h⟩ := this
    exact ⟨T, e, h⟩
  · have := filled_m (r := fun r => ∃ T, fin rows r.1 r.2.1 r.2.2 = (.ptr rows.length 0, rows ++ [.cells (nums .i64 T)], none) ∧ T.length = 338 ∧ Done P T n (n + 1) 0 ∧ Bnd T) hPF hn hn0 (by
      intro B' T' hTB hT hD hBd
      refine ⟨T', ?_, hT, hD, hBd⟩
      have e := hTB.c1
      unfold fin
      simp [e, AV.plain1, AV.plain, AV.ren1, AV.ren]) _ 1 (rows ++ (.cells [.func pf pcs] :: .cells (nums .i64 (List.replicate 338 0)) :: .cells [.ptr (rows.length + 1) 0] :: [])) (List.replicate 338 0) rfl (Int.le_refl 1) (by omega) ⟨[], rfl⟩ List.length_replicate (Done_0 hn) Bnd_0
    have hz : evP (rows ++ [.cells [.func pf pcs]]) (.mkagg (List.replicate 338 (.int .i64 0)) []) = some (.agg (nums .i64 (List.replicate 338 0))) := by rw [← nums_rep]; rfl
    generalize List.replicate 338 (0 : Int) = T0 at this hz
    simp [hz, -evP_mkagg, -List.reduceReplicate]
    simpa using this
end Go.Abs

set_option linter.unusedVariables false
set_option linter.unusedSimpArgs false
namespace Go.Abs
open Rd (Cp IsL_one IsL_cells IsL_tail lowO_n)
/-- The price of a part by the worst piece. -/
def PW (c : List Int) : Int → Int → Int → Int → Int → Int := fun _ _ g l r => gI c g.toNat + max l r
theorem cost_bd {c : List Int} (hall : (c.all fun x => decide (1 ≤ x ∧ x ≤ 1000)) = true) {g : Nat} (hg : g < c.length) : 1 ≤ gI c g ∧ gI c g ≤ 1000 := by
  have := List.all_eq_true.1 hall _ (gI_mem hg)
  simpa using this
theorem PF_W {rows : List Row} {cv : AV} {c : List Int} (hc : IsL rows cv c) (hall : (c.all fun x => decide (1 ≤ x ∧ x ≤ 1000)) = true) : PF (rows ++ [.cells [cv]]) 58 [.ptr rows.length 0] c.length (PW c) := by
  refine ⟨fun L a b g l r h0 h1 h2 h3 hl hr => ?_, fun a b g l r h0 h1 h2 h3 hl hr => ?_⟩
  · have hb := cost_bd hall (g := g.toNat) (by omega)
    refine wprice_ret (IsL_app (IsL_app hc _) _) ?_ (by omega) (by omega) ⟨by omega, hb.2⟩ hl hr
    rw [List.append_assoc, row?_at0]; rfl
  · have hb := cost_bd hall (g := g.toNat) (by omega)
    unfold PW
    omega
theorem fin28 {rows : List Row} {a b : Row} {l : List Int} {p e : Int} : fin rows (.tup [.int .i64 p, nlV (rows.length + 2) l, .int .i64 e]) (rows ++ a :: b :: nlK l) rows.length = (.tup [.int .i64 p, nlV rows.length l, .int .i64 e], rows ++ nlK l, none) := by
  cases l with
  | nil => simp [fin, nlV, nlK]
  | cons x l =>
    have : ¬ rows.length + 2 < rows.length := by omega
    simp [fin, nlV, nlK, AV.plain1, AV.plain, AV.ren1, AV.ren, this]
set_option maxHeartbeats 4000000 in
/-- search.Worst, of costs that are right. -/
theorem Worst_ret {rows : List Row} {cv : AV} {c : List Int} (hc : IsL rows cv c) (hn : c.length ≤ 12) (hall : (c.all fun x => decide (1 ≤ x ∧ x ≤ 1000)) = true) :
    ∃ T, T.length = 338 ∧ Done (PW c) T c.length (c.length + 1) 0 ∧ Bnd T ∧ Ret F 28 [cv] rows = some (.tup [.int .i64 (prT T 0 c.length), nlV rows.length (tpl T c.length 0 c.length), .int .i64 0], rows ++ nlK (tpl T c.length 0 c.length), none) := by
  obtain ⟨T, hf, hT, hD, hB⟩ := filled_ret (PF_W hc hall) (n := c.length) (by omega) (by omega)
  refine ⟨T, hT, hD, hB, ?_⟩
  have hone := IsL_one hc
  have hcell := IsL_cells hc
  have h1 := fun L => Check_ret (IsL_app hc L) (by omega)
  rw [if_pos ⟨hn, hall⟩] at h1
  have hwh : ∀ L, Ret F 60 [cv] (rows ++ L) = some (pt 0 c.length, rows ++ L, none) := fun L => whole_ret (IsL_app hc L)
  have hbp := fun L => bplan_ret (bid := rows.length + 1) (rows := rows ++ .cells [cv] :: .cells (nums .i64 T) :: L) hT (show (c.length : Int) ≤ 12 by omega) (Done_Good hD) c.length 0 c.length (by omega) (by omega) (by omega) (by omega) (by rw [row?_at]; rfl)
  simp only [newL_eq] at hbp
  simp only [pt] at hwh hbp
  have i1 : idx? (c.length : Int) 13 = some c.length := by rw [idx?_ok (by omega) (by omega)]; simp
  have q1 : (nums .i64 T)[c.length]? = some (.int .i64 (prT T 0 c.length)) := by
    unfold prT
    rw [show (13 * 0 + (c.length : Int)).toNat = c.length from by omega, nums_get, gI_get (by omega)]; rfl
  have hf' : Ret F 57 [.int .i64 c.length, .func 58 [.ptr rows.length 0]] (rows ++ [.cells [cv]]) = some (.ptr (rows.length + 1) 0, rows ++ [.cells [cv], .cells (nums .i64 T)], none) := by
    rw [hf]; simp
  refine i28 F28 ?_
  simp [hone, hcell, h1, -uc28s3, jc28s3]
  unfold Jc28s3
  simp [lenL hc, hf', -uc28k0]
  rw [uc28k0]
  simp [lenL hc, hone, hcell, hwh, hbp, q1, maskE_cons, show idx? 0 13 = some 0 from rfl, show c.length < 13 by omega, Function.comp_def]
  exact fin28
end Go.Abs

set_option linter.unusedVariables false
set_option maxRecDepth 20000
set_option maxHeartbeats 4000000
namespace Go.Abs
variable {F : Nat → Option IFn} {cx : Ctx} {k : List Itm} {s : St} {l : List (Nat × AV)} {rows : List Row} {low : Nat} {r : AV × List Row × Nat → Prop}
@[simp] theorem uc34k0 : Ex F cx (.code c34k0 :: k) ⟨mk 39 l, rows, low⟩ r ↔ Ex F cx k ⟨mk 39 [(4, lk l 5), (38, lk l 5), (5, lk l 5)], rows, low⟩ r := reg (keep := [5]) (ops := c34r0) rfl (by kernel_rfl) (by kernel_rfl)
@[simp] theorem uc34s1 : Ex F cx (.code c34s1 :: k) s r ↔ Ex F cx (.code (.seq c34k0 .ret) :: k) s r := Iff.rfl
@[simp] theorem uc34k2 : Ex F cx (.code c34k2 :: k) ⟨mk 39 l, rows, low⟩ r ↔ bnd (evP rows (.idxS 1 (.c (lk l 5)) (.c (.int .i64 0)))) fun v0 => bnd (evE rows low (.store1 (.c v0) (.c (.int .i64 1)))) fun q1 => Ex F cx k ⟨mk 39 [(37, v0), (36, lk l 5), (5, lk l 5)], q1.2.1, q1.2.2⟩ r := reg (keep := [5]) (ops := c34r2) rfl (by kernel_rfl) (by kernel_rfl)
@[simp] theorem uc34s3 : Ex F cx (.code c34s3 :: k) s r ↔ Ex F cx (.code (.cond (.t 35) c34k2 .skip) :: k) s r := Iff.rfl
@[simp] theorem uc34k4 : Ex F cx (.code c34k4 :: k) ⟨mk 39 l, rows, low⟩ r ↔ bnd (evP rows (.un .not (.c (lk l 6)))) fun v0 => Ex F cx k ⟨mk 39 [(35, v0), (34, lk l 6), (5, lk l 5), (6, lk l 6)], rows, low⟩ r := reg (keep := [5, 6]) (ops := c34r4) rfl (by kernel_rfl) (by kernel_rfl)
@[simp] theorem uc34s5 : Ex F cx (.code c34s5 :: k) s r ↔ Ex F cx (.code (.seq (.seq c34k4 c34s3) c34s1) :: k) s r := Iff.rfl
@[simp] theorem uc34k7 : Ex F cx (.code c34k7 :: k) ⟨mk 39 l, rows, low⟩ r ↔ bnd (evP rows (.bin .add (.c (lk l 7)) (.c (.int .i64 1)))) fun v0 => Ex F cx k ⟨mk 39 [(7, v0), (13, v0), (12, lk l 7), (0, lk l 0), (1, lk l 1), (5, lk l 5), (6, lk l 6), (7, lk l 7)], rows, low⟩ r := reg (keep := [0, 1, 5, 6, 7]) (ops := c34r7) rfl (by kernel_rfl) (by kernel_rfl)
@[simp] theorem uc34k8 : Ex F cx (.code c34k8 :: k) ⟨mk 39 l, rows, low⟩ r ↔ bnd (evE rows low (.mkslice 1 [.int .i64 0] [(0, 1, (.c (lk l 8)))])) fun q0 => bnd (evE q0.2.1 q0.2.2 (.app 1 8 (.c (lk l 5)) (.c q0.1))) fun q1 => Ex F cx k ⟨mk 39 [(5, q1.1), (33, q1.1), (32, q0.1), (31, lk l 8), (30, lk l 5), (0, lk l 0), (1, lk l 1), (5, lk l 5), (6, lk l 6), (7, lk l 7), (8, lk l 8)], q1.2.1, q1.2.2⟩ r := reg (keep := [0, 1, 5, 6, 7, 8]) (ops := c34r8) rfl (by kernel_rfl) (by kernel_rfl)
@[simp] theorem uc34k9 : Ex F cx (.code c34k9 :: k) ⟨mk 39 l, rows, low⟩ r ↔ bnd (gv (lk l 6) false (evP rows (.mv (.c (lk l 8))))) fun v0 => bnd (gv (lk l 6) false (evP rows (.bin .gtr (.c v0) (.c (.int .i64 0))))) fun v1 => bnd (evP rows (.pick (.c (lk l 6)) (.c (.bool true)) (.c v1))) fun v2 => Ex F cx k ⟨mk 39 [(6, v2), (29, v2), (28, v1), (27, v0), (26, lk l 6), (25, lk l 6), (0, lk l 0), (1, lk l 1), (5, lk l 5), (6, lk l 6), (7, lk l 7), (8, lk l 8)], rows, low⟩ r := reg (keep := [0, 1, 5, 6, 7, 8]) (ops := c34r9) rfl (by kernel_rfl) (by kernel_rfl)
@[simp] theorem uc34s10 : Ex F cx (.code c34s10 :: k) s r ↔ Ex F cx (.code (.seq c34k9 c34k8) :: k) s r := Iff.rfl
@[simp] theorem uc34k11 : Ex F cx (.code c34k11 :: k) ⟨mk 39 l, rows, low⟩ r ↔ bnd (evP rows (.idxS 1 (.c (lk l 0)) (.c (lk l 7)))) fun v0 => bnd (evP rows (.load1 (.c v0))) fun v1 => bnd (evP rows (.conv .u64 (.c v1))) fun v2 => bnd (evP rows (.bin .rem (.c v2) (.c (.int .u64 1001)))) fun v3 => bnd (evP rows (.conv .i64 (.c v3))) fun v4 => Ex F cx k ⟨mk 39 [(8, v4), (24, v4), (23, v3), (22, v2), (21, v1), (20, v0), (19, lk l 7), (18, lk l 0), (0, lk l 0), (1, lk l 1), (5, lk l 5), (6, lk l 6), (7, lk l 7)], rows, low⟩ r := reg (keep := [0, 1, 5, 6, 7]) (ops := c34r11) rfl (by kernel_rfl) (by kernel_rfl)
@[simp] theorem uc34s12 : Ex F cx (.code c34s12 :: k) s r ↔ Ex F cx (.code (.cond (.t 17) c34k11 .skip) :: k) s r := Iff.rfl
@[simp] theorem uc34k13 : Ex F cx (.code c34k13 :: k) ⟨mk 39 l, rows, low⟩ r ↔ bnd (evP rows (.len 0 (.c (lk l 0)))) fun v0 => bnd (evP rows (.bin .lss (.c (lk l 7)) (.c v0))) fun v1 => Ex F cx k ⟨mk 39 [(17, v1), (16, v0), (15, lk l 0), (14, lk l 7), (0, lk l 0), (1, lk l 1), (5, lk l 5), (6, lk l 6), (7, lk l 7), (8, lk l 8)], rows, low⟩ r := reg (keep := [0, 1, 5, 6, 7, 8]) (ops := c34r13) rfl (by kernel_rfl) (by kernel_rfl)
@[simp] theorem uc34s14 : Ex F cx (.code c34s14 :: k) s r ↔ Ex F cx (.code (.seq (.seq c34k13 c34s12) c34s10) :: k) s r := Iff.rfl
@[simp] theorem uc34k15 : Ex F cx (.code c34k15 :: k) ⟨mk 39 l, rows, low⟩ r ↔ Ex F cx k ⟨mk 39 [(8, (.int .i64 0)), (0, lk l 0), (1, lk l 1), (5, lk l 5), (6, lk l 6), (7, lk l 7)], rows, low⟩ r := reg (keep := [0, 1, 5, 6, 7]) (ops := c34r15) rfl (by kernel_rfl) (by kernel_rfl)
@[simp] theorem uc34s16 : Ex F cx (.code c34s16 :: k) s r ↔ Ex F cx (.code (.seq (.block 1 (.seq c34k15 c34s14)) c34k7) :: k) s r := Iff.rfl
@[simp] theorem uc34s17 : Ex F cx (.code c34s17 :: k) s r ↔ Ex F cx (.code (.cond (.t 11) .skip (.exit 0)) :: k) s r := Iff.rfl
@[simp] theorem uc34k18 : Ex F cx (.code c34k18 :: k) ⟨mk 39 l, rows, low⟩ r ↔ bnd (evP rows (.bin .leq (.c (lk l 7)) (.c (lk l 1)))) fun v0 => Ex F cx k ⟨mk 39 [(11, v0), (10, lk l 1), (9, lk l 7), (0, lk l 0), (1, lk l 1), (5, lk l 5), (6, lk l 6), (7, lk l 7)], rows, low⟩ r := reg (keep := [0, 1, 5, 6, 7]) (ops := c34r18) rfl (by kernel_rfl) (by kernel_rfl)
@[simp] theorem uc34s19 : Ex F cx (.code c34s19 :: k) s r ↔ Ex F cx (.code (.block 0 (.loop c34l6)) :: k) s r := Iff.rfl
@[simp] theorem uc34k20 : Ex F cx (.code c34k20 :: k) ⟨mk 39 l, rows, low⟩ r ↔ Ex F cx k ⟨mk 39 [(7, (.int .i64 0)), (0, lk l 0), (1, lk l 1), (5, lk l 5), (6, lk l 6)], rows, low⟩ r := reg (keep := [0, 1, 5, 6]) (ops := c34r20) rfl (by kernel_rfl) (by kernel_rfl)
@[simp] theorem uc34s21 : Ex F cx (.code c34s21 :: k) s r ↔ Ex F cx (.code (.seq (.seq c34k20 c34s19) c34s5) :: k) s r := Iff.rfl
@[simp] theorem uc34k22 : Ex F cx (.code c34k22 :: k) ⟨mk 39 l, rows, low⟩ r ↔ Ex F cx k ⟨mk 39 [(6, (.bool false)), (0, lk l 0), (1, lk l 1), (5, lk l 5)], rows, low⟩ r := reg (keep := [0, 1, 5]) (ops := c34r22) rfl (by kernel_rfl) (by kernel_rfl)
@[simp] theorem uc34s23 : Ex F cx (.code c34s23 :: k) s r ↔ Ex F cx (.code (.seq c34k22 c34s21) :: k) s r := Iff.rfl
@[simp] theorem uc34k24 : Ex F cx (.code c34k24 :: k) ⟨mk 39 l, rows, low⟩ r ↔ Ex F cx k ⟨mk 39 [(5, .nilslice), (0, lk l 0), (1, lk l 1)], rows, low⟩ r := reg (keep := [0, 1]) (ops := c34r24) rfl (by kernel_rfl) (by kernel_rfl)
@[simp] theorem uc34s25 : Ex F cx (.code c34s25 :: k) s r ↔ Ex F cx (.code (.seq c34k24 c34s23) :: k) s r := Iff.rfl
@[simp] theorem uc34k26 : Ex F cx (.code c34k26 :: k) ⟨mk 39 l, rows, low⟩ r ↔ Ex F cx k ⟨mk 39 [(4, .nilslice), (0, lk l 0), (1, lk l 1)], rows, low⟩ r := reg (keep := [0, 1]) (ops := c34r26) rfl (by kernel_rfl) (by kernel_rfl)
def Jc34s1 (F : Nat → Option IFn) (cx : Ctx) (x5 : AV) (rows : List Row) (low : Nat) (r : AV × List Row × Nat → Prop) : Prop := Ex F cx (.code c34s1 :: []) ⟨mk 39 [(5, x5)], rows, low⟩ r
theorem jc34s1 : Ex F cx (.code c34s1 :: []) ⟨mk 39 l, rows, low⟩ r ↔ Jc34s1 F cx (lk l 5) rows low r := Ex_canon (keep := [5]) (by kernel_rfl)
def Jc34s10 (F : Nat → Option IFn) (cx : Ctx) (x0 x1 x5 x6 x7 x8 : AV) (rows : List Row) (low : Nat) (r : AV × List Row × Nat → Prop) : Prop := Ex F cx (.code c34s10 :: .inBlock 1 :: .code c34k7 :: .inLoop c34l6 :: .inBlock 0 :: .code c34s5 :: []) ⟨mk 39 [(0, x0), (1, x1), (5, x5), (6, x6), (7, x7), (8, x8)], rows, low⟩ r
theorem jc34s10 : Ex F cx (.code c34s10 :: .inBlock 1 :: .code c34k7 :: .inLoop c34l6 :: .inBlock 0 :: .code c34s5 :: []) ⟨mk 39 l, rows, low⟩ r ↔ Jc34s10 F cx (lk l 0) (lk l 1) (lk l 5) (lk l 6) (lk l 7) (lk l 8) rows low r := Ex_canon (keep := [0, 1, 5, 6, 7, 8]) (by kernel_rfl)
def Jc34s16 (F : Nat → Option IFn) (cx : Ctx) (x0 x1 x5 x6 x7 : AV) (rows : List Row) (low : Nat) (r : AV × List Row × Nat → Prop) : Prop := Ex F cx (.code c34s16 :: .inLoop c34l6 :: .inBlock 0 :: .code c34s5 :: []) ⟨mk 39 [(0, x0), (1, x1), (5, x5), (6, x6), (7, x7)], rows, low⟩ r
theorem jc34s16 : Ex F cx (.code c34s16 :: .inLoop c34l6 :: .inBlock 0 :: .code c34s5 :: []) ⟨mk 39 l, rows, low⟩ r ↔ Jc34s16 F cx (lk l 0) (lk l 1) (lk l 5) (lk l 6) (lk l 7) rows low r := Ex_canon (keep := [0, 1, 5, 6, 7]) (by kernel_rfl)
def Lc34l6 (F : Nat → Option IFn) (cx : Ctx) (x0 x1 x5 x6 x7 : AV) (rows : List Row) (low : Nat) (r : AV × List Row × Nat → Prop) : Prop := Ex F cx (.code c34l6 :: .inLoop c34l6 :: .inBlock 0 :: .code c34s5 :: []) ⟨mk 39 [(0, x0), (1, x1), (5, x5), (6, x6), (7, x7)], rows, low⟩ r
@[simp] theorem nc34l6 : Ex F cx (.inLoop c34l6 :: .inBlock 0 :: .code c34s5 :: []) ⟨mk 39 l, rows, low⟩ r ↔ Lc34l6 F cx (lk l 0) (lk l 1) (lk l 5) (lk l 6) (lk l 7) rows low r := loopN (keep := [0, 1, 5, 6, 7]) (by kernel_rfl)
@[simp] theorem ec34l6 : Ex F cx (.code (.loop c34l6) :: .inBlock 0 :: .code c34s5 :: []) ⟨mk 39 l, rows, low⟩ r ↔ Lc34l6 F cx (lk l 0) (lk l 1) (lk l 5) (lk l 6) (lk l 7) rows low r := loopE (keep := [0, 1, 5, 6, 7]) (by kernel_rfl)
@[simp] theorem uc34l6 : Ex F cx (.code c34l6 :: k) s r ↔ Ex F cx (.code (.seq (.seq c34k18 c34s17) c34s16) :: k) s r := Iff.rfl
@[simp] theorem uc34b : Ex F cx (.code c34b :: k) s r ↔ Ex F cx (.code (.seq c34k26 c34s25) :: k) s r := Iff.rfl
theorem i34 {x0 x1 : AV} (hF : F 34 = some c34) {q : AV × List Row × Option Nat} (h : Ex F (.fn [.t 4]) [.code c34b] ⟨mk 39 [(0, x0), (1, x1)], rows, rows.length⟩ fun r => fin rows r.1 r.2.1 r.2.2 = q) : Ret F 34 [x0, x1] rows = some q := Ret_mk hF h
@[simp] theorem uc35k0 : Ex F cx (.code c35k0 :: k) ⟨mk 31 l, rows, low⟩ r ↔ bnd (evP (rows ++ maskE 0 ([] : List (Nat × Row))) (.load1 (.c (lk l 2)))) fun v0 => bnd (evP (rows ++ maskE 2 ([] : List (Nat × Row))) (.len 0 (.c v0))) fun v1 => bnd (evP (rows ++ maskE 1 ([] : List (Nat × Row))) (.nilck (.c (lk l 8)))) fun v2 => bnd (evP (rows ++ maskE 9 ([] : List (Nat × Row))) (.fieldA 0 (.c v2))) fun v3 => bnd (evP (rows ++ maskE 25 ([] : List (Nat × Row))) (.idxA 13 13 (.c v3) (.c (.int .i64 0)))) fun v4 => bnd (evP (rows ++ maskE 63 ([] : List (Nat × Row))) (.idxA 13 1 (.c v4) (.c v1))) fun v5 => bnd (evP (rows ++ maskE 127 ([] : List (Nat × Row))) (.load1 (.c v5))) fun v6 => bnd (evP (rows ++ maskE 0 ([] : List (Nat × Row))) (.load1 (.c (lk l 2)))) fun v7 => bnd (opC F (rows ++ maskE 512 ([] : List (Nat × Row))) (rows.length + ([] : List (Nat × Row)).length) [v7] (.func 60 [])) fun q8 => q8.2.2 = rows.length + ([] : List (Nat × Row)).length ∧ bnd (some (([] : List (Nat × Row)) ++ List.map (fun (x : Row) => (10, x)) (q8.2.1.drop (rows.length + ([] : List (Nat × Row)).length)))) fun e8 => bnd (opC F (rows ++ maskE 1792 e8) (rows.length + e8.length) [lk l 8, q8.1] (.func 59 [])) fun q9 => q9.2.2 = rows.length + e8.length ∧ bnd (some (e8 ++ List.map (fun (x : Row) => (11, x)) (q9.2.1.drop (rows.length + e8.length)))) fun e9 => Ex F cx k ⟨mk 31 [(6, (.int .i64 0)), (5, q9.1), (4, v6), (30, q9.1), (29, q8.1), (28, v7), (27, lk l 8), (26, v6), (25, v5), (24, v4), (23, v3), (22, v2), (21, v1), (20, v0), (19, lk l 8), (2, lk l 2), (8, lk l 8)], (rows ++ List.map (fun (x : Nat × Row) => x.2) e9), low⟩ r := reg (keep := [2, 8]) (ops := c35r0) rfl (by kernel_rfl) (by kernel_rfl)
@[simp] theorem uc35s1 : Ex F cx (.code c35s1 :: k) s r ↔ Ex F cx (.code (.seq c35k0 .ret) :: k) s r := Iff.rfl
@[simp] theorem uc35k2 : Ex F cx (.code c35k2 :: k) ⟨mk 31 l, rows, low⟩ r ↔ bnd (evP rows (.load1 (.c (lk l 2)))) fun v0 => bnd (evP rows (.len 0 (.c v0))) fun v1 => bnd (evP rows (.mkfn 66 [(.c (lk l 2)), (.c (lk l 3))])) fun v2 => bnd (Ret F 57 [v1, v2] rows) fun q3 => Ex F cx k ⟨mk 31 [(8, q3.1), (18, q3.1), (17, v2), (16, v1), (15, v0), (2, lk l 2), (3, lk l 3)], q3.2.1, (lowO low q3.2.2)⟩ r := reg (keep := [2, 3]) (ops := c35r2) rfl (by kernel_rfl) (by kernel_rfl)
@[simp] theorem uc35s3 : Ex F cx (.code c35s3 :: k) s r ↔ Ex F cx (.code (.seq c35k2 c35s1) :: k) s r := Iff.rfl
@[simp] theorem uc35k4 : Ex F cx (.code c35k4 :: k) ⟨mk 31 l, rows, low⟩ r ↔ Ex F cx k ⟨mk 31 [(6, lk l 7), (5, .nilslice), (4, (.int .i64 0)), (14, lk l 7), (7, lk l 7)], rows, low⟩ r := reg (keep := [7]) (ops := c35r4) rfl (by kernel_rfl) (by kernel_rfl)
@[simp] theorem uc35s5 : Ex F cx (.code c35s5 :: k) s r ↔ Ex F cx (.code (.cond (.t 13) (.seq c35k4 .ret) .skip) :: k) s r := Iff.rfl
@[simp] theorem uc35k6 : Ex F cx (.code c35k6 :: k) ⟨mk 31 l, rows, low⟩ r ↔ bnd (evP rows (.bin .neq (.c (lk l 7)) (.c (.int .i64 0)))) fun v0 => Ex F cx k ⟨mk 31 [(13, v0), (12, lk l 7), (2, lk l 2), (3, lk l 3), (7, lk l 7)], rows, low⟩ r := reg (keep := [2, 3, 7]) (ops := c35r6) rfl (by kernel_rfl) (by kernel_rfl)
@[simp] theorem uc35s7 : Ex F cx (.code c35s7 :: k) s r ↔ Ex F cx (.code (.seq c35k6 c35s5) :: k) s r := Iff.rfl
@[simp] theorem uc35k8 : Ex F cx (.code c35k8 :: k) ⟨mk 31 l, rows, low⟩ r ↔ bnd (evP rows (.load1 (.c (lk l 2)))) fun v0 => bnd (evP rows (.load1 (.c (lk l 3)))) fun v1 => bnd (Ret F 65 [v0, v1] rows) fun q2 => Ex F cx k ⟨mk 31 [(7, q2.1), (11, q2.1), (10, v1), (9, v0), (2, lk l 2), (3, lk l 3)], q2.2.1, (lowO low q2.2.2)⟩ r := reg (keep := [2, 3]) (ops := c35r8) rfl (by kernel_rfl) (by kernel_rfl)
@[simp] theorem uc35s9 : Ex F cx (.code c35s9 :: k) s r ↔ Ex F cx (.code (.seq (.seq c35k8 c35s7) c35s3) :: k) s r := Iff.rfl
@[simp] theorem uc35k10 : Ex F cx (.code c35k10 :: k) ⟨mk 31 l, rows, low⟩ r ↔ bnd (evE rows low (.box (.c (lk l 0)))) fun q0 => bnd (evE q0.2.1 q0.2.2 (.box (.c (lk l 1)))) fun q1 => Ex F cx k ⟨mk 31 [(6, (.int .i64 0)), (5, .nilslice), (4, (.int .i64 0)), (3, q1.1), (2, q0.1), (0, lk l 0), (1, lk l 1)], q1.2.1, q1.2.2⟩ r := reg (keep := [0, 1]) (ops := c35r10) rfl (by kernel_rfl) (by kernel_rfl)
def Jc35s3 (F : Nat → Option IFn) (cx : Ctx) (x2 x3 : AV) (rows : List Row) (low : Nat) (r : AV × List Row × Nat → Prop) : Prop := Ex F cx (.code c35s3 :: []) ⟨mk 31 [(2, x2), (3, x3)], rows, low⟩ r
theorem jc35s3 : Ex F cx (.code c35s3 :: []) ⟨mk 31 l, rows, low⟩ r ↔ Jc35s3 F cx (lk l 2) (lk l 3) rows low r := Ex_canon (keep := [2, 3]) (by kernel_rfl)
@[simp] theorem uc35b : Ex F cx (.code c35b :: k) s r ↔ Ex F cx (.code (.seq c35k10 c35s9) :: k) s r := Iff.rfl
theorem i35 {x0 x1 : AV} (hF : F 35 = some c35) {q : AV × List Row × Option Nat} (h : Ex F (.fn [.t 4, .t 5, .t 6]) [.code c35b] ⟨mk 31 [(0, x0), (1, x1)], rows, rows.length⟩ fun r => fin rows r.1 r.2.1 r.2.2 = q) : Ret F 35 [x0, x1] rows = some q := Ret_mk hF h
@[simp] theorem uc36k0 : Ex F cx (.code c36k0 :: k) ⟨mk 142 l, rows, low⟩ r ↔ bnd (evP rows (.idxS 1 (.c (lk l 10)) (.c (lk l 2)))) fun v0 => bnd (evP rows (.load1 (.c v0))) fun v1 => bnd (evP rows (.idxS 1 (.c v1) (.c (lk l 3)))) fun v2 => bnd (evP rows (.load1 (.c v2))) fun v3 => Ex F cx k ⟨mk 142 [(8, v3), (141, v3), (140, v2), (139, lk l 3), (138, v1), (137, v0), (136, lk l 2), (135, lk l 10), (2, lk l 2), (3, lk l 3), (10, lk l 10)], rows, low⟩ r := reg (keep := [2, 3, 10]) (ops := c36r0) rfl (by kernel_rfl) (by kernel_rfl)
@[simp] theorem uc36s1 : Ex F cx (.code c36s1 :: k) s r ↔ Ex F cx (.code (.seq c36k0 .ret) :: k) s r := Iff.rfl
@[simp] theorem uc36k3 : Ex F cx (.code c36k3 :: k) ⟨mk 142 l, rows, low⟩ r ↔ bnd (evP rows (.bin .sub (.c (lk l 11)) (.c (.int .i64 1)))) fun v0 => Ex F cx k ⟨mk 142 [(11, v0), (26, v0), (25, lk l 11), (0, lk l 0), (1, lk l 1), (2, lk l 2), (3, lk l 3), (9, lk l 9), (10, lk l 10), (11, lk l 11)], rows, low⟩ r := reg (keep := [0, 1, 2, 3, 9, 10, 11]) (ops := c36r3) rfl (by kernel_rfl) (by kernel_rfl)
@[simp] theorem uc36k5 : Ex F cx (.code c36k5 :: k) ⟨mk 142 l, rows, low⟩ r ↔ bnd (evP rows (.bin .add (.c (lk l 13)) (.c (.int .i64 1)))) fun v0 => Ex F cx k ⟨mk 142 [(13, v0), (37, v0), (36, lk l 13), (0, lk l 0), (1, lk l 1), (2, lk l 2), (3, lk l 3), (9, lk l 9), (10, lk l 10), (11, lk l 11), (12, lk l 12), (13, lk l 13)], rows, low⟩ r := reg (keep := [0, 1, 2, 3, 9, 10, 11, 12, 13]) (ops := c36r5) rfl (by kernel_rfl) (by kernel_rfl)
@[simp] theorem uc36k7 : Ex F cx (.code c36k7 :: k) ⟨mk 142 l, rows, low⟩ r ↔ bnd (evP rows (.bin .add (.c (lk l 14)) (.c (.int .i64 1)))) fun v0 => Ex F cx k ⟨mk 142 [(14, v0), (61, v0), (60, lk l 14), (0, lk l 0), (1, lk l 1), (2, lk l 2), (3, lk l 3), (9, lk l 9), (10, lk l 10), (11, lk l 11), (12, lk l 12), (13, lk l 13), (14, lk l 14)], rows, low⟩ r := reg (keep := [0, 1, 2, 3, 9, 10, 11, 12, 13, 14]) (ops := c36r7) rfl (by kernel_rfl) (by kernel_rfl)
@[simp] theorem uc36k8 : Ex F cx (.code c36k8 :: k) ⟨mk 142 l, rows, low⟩ r ↔ bnd (evP rows (.idxS 1 (.c (lk l 10)) (.c (lk l 11)))) fun v0 => bnd (evP rows (.load1 (.c v0))) fun v1 => bnd (evP rows (.idxS 1 (.c v1) (.c (lk l 13)))) fun v2 => bnd (evE rows low (.store1 (.c v2) (.c (lk l 15)))) fun q3 => Ex F cx k ⟨mk 142 [(134, v2), (133, lk l 15), (132, lk l 13), (131, v1), (130, v0), (129, lk l 11), (128, lk l 10), (0, lk l 0), (1, lk l 1), (2, lk l 2), (3, lk l 3), (9, lk l 9), (10, lk l 10), (11, lk l 11), (12, lk l 12), (13, lk l 13), (14, lk l 14), (15, lk l 15)], q3.2.1, q3.2.2⟩ r := reg (keep := [0, 1, 2, 3, 9, 10, 11, 12, 13, 14, 15]) (ops := c36r8) rfl (by kernel_rfl) (by kernel_rfl)
@[simp] theorem uc36s9 : Ex F cx (.code c36s9 :: k) s r ↔ Ex F cx (.code (.cond (.t 127) c36k8 .skip) :: k) s r := Iff.rfl
@[simp] theorem uc36k10 : Ex F cx (.code c36k10 :: k) ⟨mk 142 l, rows, low⟩ r ↔ bnd (evP rows (.idxS 1 (.c (lk l 10)) (.c (lk l 11)))) fun v0 => bnd (evP rows (.load1 (.c v0))) fun v1 => bnd (evP rows (.idxS 1 (.c v1) (.c (lk l 13)))) fun v2 => bnd (evP rows (.load1 (.c v2))) fun v3 => bnd (evP rows (.bin .lss (.c v3) (.c (.int .i64 0)))) fun v4 => bnd (gv v4 false (evP rows (.mv (.c (lk l 15))))) fun v5 => bnd (gv v4 false (evP rows (.mv (.c (lk l 10))))) fun v6 => bnd (gv v4 false (evP rows (.mv (.c (lk l 11))))) fun v7 => bnd (gv v4 false (evP rows (.idxS 1 (.c v6) (.c v7)))) fun v8 => bnd (gv v4 false (evP rows (.load1 (.c v8)))) fun v9 => bnd (gv v4 false (evP rows (.mv (.c (lk l 13))))) fun v10 => bnd (gv v4 false (evP rows (.idxS 1 (.c v9) (.c v10)))) fun v11 => bnd (gv v4 false (evP rows (.load1 (.c v11)))) fun v12 => bnd (gv v4 false (evP rows (.bin .lss (.c v5) (.c v12)))) fun v13 => bnd (evP rows (.pick (.c v4) (.c (.bool true)) (.c v13))) fun v14 => Ex F cx k ⟨mk 142 [(127, v14), (126, v13), (125, v12), (124, v11), (123, v10), (122, v9), (121, v8), (120, v7), (119, v6), (118, v5), (117, v4), (116, v4), (115, v3), (114, v2), (113, lk l 13), (112, v1), (111, v0), (110, lk l 11), (109, lk l 10), (0, lk l 0), (1, lk l 1), (2, lk l 2), (3, lk l 3), (9, lk l 9), (10, lk l 10), (11, lk l 11), (12, lk l 12), (13, lk l 13), (14, lk l 14), (15, lk l 15)], rows, low⟩ r := reg (keep := [0, 1, 2, 3, 9, 10, 11, 12, 13, 14, 15]) (ops := c36r10) rfl (by kernel_rfl) (by kernel_rfl)
@[simp] theorem uc36s11 : Ex F cx (.code c36s11 :: k) s r ↔ Ex F cx (.code (.seq c36k10 c36s9) :: k) s r := Iff.rfl
@[simp] theorem uc36k12 : Ex F cx (.code c36k12 :: k) ⟨mk 142 l, rows, low⟩ r ↔ bnd (evP rows (.idxS 1 (.c (lk l 0)) (.c (lk l 14)))) fun v0 => bnd (evP rows (.load1 (.c v0))) fun v1 => bnd (evP rows (.bin .mul (.c (lk l 12)) (.c v1))) fun v2 => bnd (evP rows (.idxS 1 (.c (lk l 10)) (.c (lk l 11)))) fun v3 => bnd (evP rows (.load1 (.c v3))) fun v4 => bnd (evP rows (.idxS 1 (.c v4) (.c (lk l 14)))) fun v5 => bnd (evP rows (.load1 (.c v5))) fun v6 => bnd (evP rows (.bin .add (.c v2) (.c v6))) fun v7 => bnd (evP rows (.bin .add (.c (lk l 14)) (.c (.int .i64 1)))) fun v8 => bnd (evP rows (.idxS 1 (.c (lk l 10)) (.c v8))) fun v9 => bnd (evP rows (.load1 (.c v9))) fun v10 => bnd (evP rows (.idxS 1 (.c v10) (.c (lk l 13)))) fun v11 => bnd (evP rows (.load1 (.c v11))) fun v12 => bnd (evP rows (.bin .add (.c v7) (.c v12))) fun v13 => Ex F cx k ⟨mk 142 [(15, v13), (108, v13), (107, v12), (106, v11), (105, lk l 13), (104, v10), (103, v9), (102, v8), (101, lk l 14), (100, lk l 10), (99, v7), (98, v6), (97, v5), (96, lk l 14), (95, v4), (94, v3), (93, lk l 11), (92, lk l 10), (91, v2), (90, v1), (89, v0), (88, lk l 14), (87, lk l 0), (86, lk l 12), (0, lk l 0), (1, lk l 1), (2, lk l 2), (3, lk l 3), (9, lk l 9), (10, lk l 10), (11, lk l 11), (12, lk l 12), (13, lk l 13), (14, lk l 14)], rows, low⟩ r := reg (keep := [0, 1, 2, 3, 9, 10, 11, 12, 13, 14]) (ops := c36r12) rfl (by kernel_rfl) (by kernel_rfl)
@[simp] theorem uc36s13 : Ex F cx (.code c36s13 :: k) s r ↔ Ex F cx (.code (.cond (.t 85) c36k12 .skip) :: k) s r := Iff.rfl
@[simp] theorem uc36k14 : Ex F cx (.code c36k14 :: k) ⟨mk 142 l, rows, low⟩ r ↔ bnd (evP rows (.len 0 (.c (lk l 1)))) fun v0 => bnd (evP rows (.bin .gtr (.c v0) (.c (.int .i64 0)))) fun v1 => Ex F cx k ⟨mk 142 [(85, v1), (84, v0), (83, lk l 1), (0, lk l 0), (1, lk l 1), (2, lk l 2), (3, lk l 3), (9, lk l 9), (10, lk l 10), (11, lk l 11), (12, lk l 12), (13, lk l 13), (14, lk l 14), (15, lk l 15)], rows, low⟩ r := reg (keep := [0, 1, 2, 3, 9, 10, 11, 12, 13, 14, 15]) (ops := c36r14) rfl (by kernel_rfl) (by kernel_rfl)
@[simp] theorem uc36s15 : Ex F cx (.code c36s15 :: k) s r ↔ Ex F cx (.code (.seq (.seq c36k14 c36s13) c36s11) :: k) s r := Iff.rfl
@[simp] theorem uc36k16 : Ex F cx (.code c36k16 :: k) ⟨mk 142 l, rows, low⟩ r ↔ bnd (evP rows (.idxS 1 (.c (lk l 0)) (.c (lk l 14)))) fun v0 => bnd (evP rows (.load1 (.c v0))) fun v1 => bnd (evP rows (.idxS 1 (.c (lk l 10)) (.c (lk l 11)))) fun v2 => bnd (evP rows (.load1 (.c v2))) fun v3 => bnd (evP rows (.idxS 1 (.c v3) (.c (lk l 14)))) fun v4 => bnd (evP rows (.load1 (.c v4))) fun v5 => bnd (evP rows (.bin .add (.c (lk l 14)) (.c (.int .i64 1)))) fun v6 => bnd (evP rows (.idxS 1 (.c (lk l 10)) (.c v6))) fun v7 => bnd (evP rows (.load1 (.c v7))) fun v8 => bnd (evP rows (.idxS 1 (.c v8) (.c (lk l 13)))) fun v9 => bnd (evP rows (.load1 (.c v9))) fun v10 => bnd (evP rows (.mx [(.c v5), (.c v10)])) fun v11 => bnd (evP rows (.bin .add (.c v1) (.c v11))) fun v12 => Ex F cx k ⟨mk 142 [(15, v12), (82, v12), (81, v11), (80, v10), (79, v9), (78, lk l 13), (77, v8), (76, v7), (75, v6), (74, lk l 14), (73, lk l 10), (72, v5), (71, v4), (70, lk l 14), (69, v3), (68, v2), (67, lk l 11), (66, lk l 10), (65, v1), (64, v0), (63, lk l 14), (62, lk l 0), (0, lk l 0), (1, lk l 1), (2, lk l 2), (3, lk l 3), (9, lk l 9), (10, lk l 10), (11, lk l 11), (12, lk l 12), (13, lk l 13), (14, lk l 14)], rows, low⟩ r := reg (keep := [0, 1, 2, 3, 9, 10, 11, 12, 13, 14]) (ops := c36r16) rfl (by kernel_rfl) (by kernel_rfl)
@[simp] theorem uc36s17 : Ex F cx (.code c36s17 :: k) s r ↔ Ex F cx (.code (.seq (.block 5 (.seq c36k16 c36s15)) c36k7) :: k) s r := Iff.rfl
@[simp] theorem uc36s18 : Ex F cx (.code c36s18 :: k) s r ↔ Ex F cx (.code (.cond (.t 59) .skip (.exit 4)) :: k) s r := Iff.rfl
@[simp] theorem uc36k19 : Ex F cx (.code c36k19 :: k) ⟨mk 142 l, rows, low⟩ r ↔ bnd (evP rows (.bin .lss (.c (lk l 14)) (.c (lk l 13)))) fun v0 => Ex F cx k ⟨mk 142 [(59, v0), (58, lk l 13), (57, lk l 14), (0, lk l 0), (1, lk l 1), (2, lk l 2), (3, lk l 3), (9, lk l 9), (10, lk l 10), (11, lk l 11), (12, lk l 12), (13, lk l 13), (14, lk l 14)], rows, low⟩ r := reg (keep := [0, 1, 2, 3, 9, 10, 11, 12, 13, 14]) (ops := c36r19) rfl (by kernel_rfl) (by kernel_rfl)
@[simp] theorem uc36s20 : Ex F cx (.code c36s20 :: k) s r ↔ Ex F cx (.code (.block 4 (.loop c36l6)) :: k) s r := Iff.rfl
@[simp] theorem uc36k21 : Ex F cx (.code c36k21 :: k) ⟨mk 142 l, rows, low⟩ r ↔ Ex F cx k ⟨mk 142 [(14, lk l 11), (56, lk l 11), (0, lk l 0), (1, lk l 1), (2, lk l 2), (3, lk l 3), (9, lk l 9), (10, lk l 10), (11, lk l 11), (12, lk l 12), (13, lk l 13)], rows, low⟩ r := reg (keep := [0, 1, 2, 3, 9, 10, 11, 12, 13]) (ops := c36r21) rfl (by kernel_rfl) (by kernel_rfl)
@[simp] theorem uc36s22 : Ex F cx (.code c36s22 :: k) s r ↔ Ex F cx (.code (.seq c36k21 c36s20) :: k) s r := Iff.rfl
@[simp] theorem uc36k23 : Ex F cx (.code c36k23 :: k) ⟨mk 142 l, rows, low⟩ r ↔ bnd (evP rows (.idxS 1 (.c (lk l 10)) (.c (lk l 11)))) fun v0 => bnd (evP rows (.load1 (.c v0))) fun v1 => bnd (evP rows (.idxS 1 (.c v1) (.c (lk l 13)))) fun v2 => bnd (evE rows low (.store1 (.c v2) (.c (.int .i64 (-1))))) fun q3 => Ex F cx k ⟨mk 142 [(55, v2), (54, lk l 13), (53, v1), (52, v0), (51, lk l 11), (50, lk l 10), (0, lk l 0), (1, lk l 1), (2, lk l 2), (3, lk l 3), (9, lk l 9), (10, lk l 10), (11, lk l 11), (12, lk l 12), (13, lk l 13)], q3.2.1, q3.2.2⟩ r := reg (keep := [0, 1, 2, 3, 9, 10, 11, 12, 13]) (ops := c36r23) rfl (by kernel_rfl) (by kernel_rfl)
@[simp] theorem uc36s24 : Ex F cx (.code c36s24 :: k) s r ↔ Ex F cx (.code (.seq c36k23 c36s22) :: k) s r := Iff.rfl
@[simp] theorem uc36s25 : Ex F cx (.code c36s25 :: k) s r ↔ Ex F cx (.code (.cond (.t 49) (.exit 3) .skip) :: k) s r := Iff.rfl
@[simp] theorem uc36k26 : Ex F cx (.code c36k26 :: k) ⟨mk 142 l, rows, low⟩ r ↔ bnd (evP rows (.bin .eql (.c (lk l 13)) (.c (lk l 11)))) fun v0 => Ex F cx k ⟨mk 142 [(49, v0), (48, lk l 11), (47, lk l 13), (0, lk l 0), (1, lk l 1), (2, lk l 2), (3, lk l 3), (9, lk l 9), (10, lk l 10), (11, lk l 11), (12, lk l 12), (13, lk l 13)], rows, low⟩ r := reg (keep := [0, 1, 2, 3, 9, 10, 11, 12, 13]) (ops := c36r26) rfl (by kernel_rfl) (by kernel_rfl)
@[simp] theorem uc36s27 : Ex F cx (.code c36s27 :: k) s r ↔ Ex F cx (.code (.seq (.seq c36k26 c36s25) c36s24) :: k) s r := Iff.rfl
@[simp] theorem uc36k28 : Ex F cx (.code c36k28 :: k) ⟨mk 142 l, rows, low⟩ r ↔ bnd (evP rows (.idxS 1 (.c (lk l 1)) (.c (lk l 13)))) fun v0 => bnd (evP rows (.load1 (.c v0))) fun v1 => bnd (evP rows (.bin .add (.c (lk l 12)) (.c v1))) fun v2 => Ex F cx k ⟨mk 142 [(12, v2), (46, v2), (45, v1), (44, v0), (43, lk l 13), (42, lk l 1), (41, lk l 12), (0, lk l 0), (1, lk l 1), (2, lk l 2), (3, lk l 3), (9, lk l 9), (10, lk l 10), (11, lk l 11), (12, lk l 12), (13, lk l 13)], rows, low⟩ r := reg (keep := [0, 1, 2, 3, 9, 10, 11, 12, 13]) (ops := c36r28) rfl (by kernel_rfl) (by kernel_rfl)
@[simp] theorem uc36s29 : Ex F cx (.code c36s29 :: k) s r ↔ Ex F cx (.code (.cond (.t 40) c36k28 .skip) :: k) s r := Iff.rfl
@[simp] theorem uc36k30 : Ex F cx (.code c36k30 :: k) ⟨mk 142 l, rows, low⟩ r ↔ bnd (evP rows (.len 0 (.c (lk l 1)))) fun v0 => bnd (evP rows (.bin .gtr (.c v0) (.c (.int .i64 0)))) fun v1 => Ex F cx k ⟨mk 142 [(40, v1), (39, v0), (38, lk l 1), (0, lk l 0), (1, lk l 1), (2, lk l 2), (3, lk l 3), (9, lk l 9), (10, lk l 10), (11, lk l 11), (12, lk l 12), (13, lk l 13)], rows, low⟩ r := reg (keep := [0, 1, 2, 3, 9, 10, 11, 12, 13]) (ops := c36r30) rfl (by kernel_rfl) (by kernel_rfl)
@[simp] theorem uc36s31 : Ex F cx (.code c36s31 :: k) s r ↔ Ex F cx (.code (.seq (.block 3 (.seq (.seq c36k30 c36s29) c36s27)) c36k5) :: k) s r := Iff.rfl
@[simp] theorem uc36s32 : Ex F cx (.code c36s32 :: k) s r ↔ Ex F cx (.code (.cond (.t 35) .skip (.exit 2)) :: k) s r := Iff.rfl
@[simp] theorem uc36k33 : Ex F cx (.code c36k33 :: k) ⟨mk 142 l, rows, low⟩ r ↔ bnd (evP rows (.bin .lss (.c (lk l 13)) (.c (lk l 9)))) fun v0 => Ex F cx k ⟨mk 142 [(35, v0), (34, lk l 9), (33, lk l 13), (0, lk l 0), (1, lk l 1), (2, lk l 2), (3, lk l 3), (9, lk l 9), (10, lk l 10), (11, lk l 11), (12, lk l 12), (13, lk l 13)], rows, low⟩ r := reg (keep := [0, 1, 2, 3, 9, 10, 11, 12, 13]) (ops := c36r33) rfl (by kernel_rfl) (by kernel_rfl)
@[simp] theorem uc36s34 : Ex F cx (.code c36s34 :: k) s r ↔ Ex F cx (.code (.block 2 (.loop c36l4)) :: k) s r := Iff.rfl
@[simp] theorem uc36k35 : Ex F cx (.code c36k35 :: k) ⟨mk 142 l, rows, low⟩ r ↔ Ex F cx k ⟨mk 142 [(13, lk l 11), (32, lk l 11), (0, lk l 0), (1, lk l 1), (2, lk l 2), (3, lk l 3), (9, lk l 9), (10, lk l 10), (11, lk l 11), (12, lk l 12)], rows, low⟩ r := reg (keep := [0, 1, 2, 3, 9, 10, 11, 12]) (ops := c36r35) rfl (by kernel_rfl) (by kernel_rfl)
@[simp] theorem uc36s36 : Ex F cx (.code c36s36 :: k) s r ↔ Ex F cx (.code (.seq c36k35 c36s34) :: k) s r := Iff.rfl
@[simp] theorem uc36k37 : Ex F cx (.code c36k37 :: k) ⟨mk 142 l, rows, low⟩ r ↔ Ex F cx k ⟨mk 142 [(12, (.int .i64 0)), (0, lk l 0), (1, lk l 1), (2, lk l 2), (3, lk l 3), (9, lk l 9), (10, lk l 10), (11, lk l 11)], rows, low⟩ r := reg (keep := [0, 1, 2, 3, 9, 10, 11]) (ops := c36r37) rfl (by kernel_rfl) (by kernel_rfl)
@[simp] theorem uc36s38 : Ex F cx (.code c36s38 :: k) s r ↔ Ex F cx (.code (.seq c36k37 c36s36) :: k) s r := Iff.rfl
@[simp] theorem uc36k39 : Ex F cx (.code c36k39 :: k) ⟨mk 142 l, rows, low⟩ r ↔ bnd (evE rows low (.make [.int .i64 0] 8 (.c (lk l 9)) (.c (lk l 9)))) fun q0 => bnd (evP q0.2.1 (.idxS 1 (.c (lk l 10)) (.c (lk l 11)))) fun v1 => bnd (evE q0.2.1 q0.2.2 (.store1 (.c v1) (.c q0.1))) fun q2 => Ex F cx k ⟨mk 142 [(31, v1), (30, q0.1), (29, lk l 9), (28, lk l 11), (27, lk l 10), (0, lk l 0), (1, lk l 1), (2, lk l 2), (3, lk l 3), (9, lk l 9), (10, lk l 10), (11, lk l 11)], q2.2.1, q2.2.2⟩ r := reg (keep := [0, 1, 2, 3, 9, 10, 11]) (ops := c36r39) rfl (by kernel_rfl) (by kernel_rfl)
@[simp] theorem uc36s40 : Ex F cx (.code c36s40 :: k) s r ↔ Ex F cx (.code (.seq (.block 1 (.seq c36k39 c36s38)) c36k3) :: k) s r := Iff.rfl
@[simp] theorem uc36s41 : Ex F cx (.code c36s41 :: k) s r ↔ Ex F cx (.code (.cond (.t 24) .skip (.exit 0)) :: k) s r := Iff.rfl
@[simp] theorem uc36k42 : Ex F cx (.code c36k42 :: k) ⟨mk 142 l, rows, low⟩ r ↔ bnd (evP rows (.bin .geq (.c (lk l 11)) (.c (.int .i64 0)))) fun v0 => Ex F cx k ⟨mk 142 [(24, v0), (23, lk l 11), (0, lk l 0), (1, lk l 1), (2, lk l 2), (3, lk l 3), (9, lk l 9), (10, lk l 10), (11, lk l 11)], rows, low⟩ r := reg (keep := [0, 1, 2, 3, 9, 10, 11]) (ops := c36r42) rfl (by kernel_rfl) (by kernel_rfl)
@[simp] theorem uc36s43 : Ex F cx (.code c36s43 :: k) s r ↔ Ex F cx (.code (.block 0 (.loop c36l2)) :: k) s r := Iff.rfl
@[simp] theorem uc36k44 : Ex F cx (.code c36k44 :: k) ⟨mk 142 l, rows, low⟩ r ↔ bnd (evP rows (.bin .sub (.c (lk l 9)) (.c (.int .i64 1)))) fun v0 => Ex F cx k ⟨mk 142 [(11, v0), (22, v0), (21, lk l 9), (0, lk l 0), (1, lk l 1), (2, lk l 2), (3, lk l 3), (9, lk l 9), (10, lk l 10)], rows, low⟩ r := reg (keep := [0, 1, 2, 3, 9, 10]) (ops := c36r44) rfl (by kernel_rfl) (by kernel_rfl)
@[simp] theorem uc36s45 : Ex F cx (.code c36s45 :: k) s r ↔ Ex F cx (.code (.seq (.seq c36k44 c36s43) c36s1) :: k) s r := Iff.rfl
@[simp] theorem uc36k46 : Ex F cx (.code c36k46 :: k) ⟨mk 142 l, rows, low⟩ r ↔ bnd (evE rows low (.make [.nilslice] 24 (.c (lk l 9)) (.c (lk l 9)))) fun q0 => Ex F cx k ⟨mk 142 [(10, q0.1), (20, q0.1), (19, lk l 9), (0, lk l 0), (1, lk l 1), (2, lk l 2), (3, lk l 3), (9, lk l 9)], q0.2.1, q0.2.2⟩ r := reg (keep := [0, 1, 2, 3, 9]) (ops := c36r46) rfl (by kernel_rfl) (by kernel_rfl)
@[simp] theorem uc36s47 : Ex F cx (.code c36s47 :: k) s r ↔ Ex F cx (.code (.seq c36k46 c36s45) :: k) s r := Iff.rfl
@[simp] theorem uc36k48 : Ex F cx (.code c36k48 :: k) ⟨mk 142 l, rows, low⟩ r ↔ bnd (evP rows (.len 0 (.c (lk l 0)))) fun v0 => bnd (evP rows (.bin .add (.c v0) (.c (.int .i64 1)))) fun v1 => Ex F cx k ⟨mk 142 [(9, v1), (18, v1), (17, v0), (16, lk l 0), (0, lk l 0), (1, lk l 1), (2, lk l 2), (3, lk l 3)], rows, low⟩ r := reg (keep := [0, 1, 2, 3]) (ops := c36r48) rfl (by kernel_rfl) (by kernel_rfl)
@[simp] theorem uc36s49 : Ex F cx (.code c36s49 :: k) s r ↔ Ex F cx (.code (.seq c36k48 c36s47) :: k) s r := Iff.rfl
@[simp] theorem uc36k50 : Ex F cx (.code c36k50 :: k) ⟨mk 142 l, rows, low⟩ r ↔ Ex F cx k ⟨mk 142 [(8, (.int .i64 0)), (0, lk l 0), (1, lk l 1), (2, lk l 2), (3, lk l 3)], rows, low⟩ r := reg (keep := [0, 1, 2, 3]) (ops := c36r50) rfl (by kernel_rfl) (by kernel_rfl)
def Jc36s11 (F : Nat → Option IFn) (cx : Ctx) (x0 x1 x2 x3 x9 x10 x11 x12 x13 x14 x15 : AV) (rows : List Row) (low : Nat) (r : AV × List Row × Nat → Prop) : Prop := Ex F cx (.code c36s11 :: .inBlock 5 :: .code c36k7 :: .inLoop c36l6 :: .inBlock 4 :: .inBlock 3 :: .code c36k5 :: .inLoop c36l4 :: .inBlock 2 :: .inBlock 1 :: .code c36k3 :: .inLoop c36l2 :: .inBlock 0 :: .code c36s1 :: []) ⟨mk 142 [(0, x0), (1, x1), (2, x2), (3, x3), (9, x9), (10, x10), (11, x11), (12, x12), (13, x13), (14, x14), (15, x15)], rows, low⟩ r
theorem jc36s11 : Ex F cx (.code c36s11 :: .inBlock 5 :: .code c36k7 :: .inLoop c36l6 :: .inBlock 4 :: .inBlock 3 :: .code c36k5 :: .inLoop c36l4 :: .inBlock 2 :: .inBlock 1 :: .code c36k3 :: .inLoop c36l2 :: .inBlock 0 :: .code c36s1 :: []) ⟨mk 142 l, rows, low⟩ r ↔ Jc36s11 F cx (lk l 0) (lk l 1) (lk l 2) (lk l 3) (lk l 9) (lk l 10) (lk l 11) (lk l 12) (lk l 13) (lk l 14) (lk l 15) rows low r := Ex_canon (keep := [0, 1, 2, 3, 9, 10, 11, 12, 13, 14, 15]) (by kernel_rfl)
def Jc36s17 (F : Nat → Option IFn) (cx : Ctx) (x0 x1 x2 x3 x9 x10 x11 x12 x13 x14 : AV) (rows : List Row) (low : Nat) (r : AV × List Row × Nat → Prop) : Prop := Ex F cx (.code c36s17 :: .inLoop c36l6 :: .inBlock 4 :: .inBlock 3 :: .code c36k5 :: .inLoop c36l4 :: .inBlock 2 :: .inBlock 1 :: .code c36k3 :: .inLoop c36l2 :: .inBlock 0 :: .code c36s1 :: []) ⟨mk 142 [(0, x0), (1, x1), (2, x2), (3, x3), (9, x9), (10, x10), (11, x11), (12, x12), (13, x13), (14, x14)], rows, low⟩ r
theorem jc36s17 : Ex F cx (.code c36s17 :: .inLoop c36l6 :: .inBlock 4 :: .inBlock 3 :: .code c36k5 :: .inLoop c36l4 :: .inBlock 2 :: .inBlock 1 :: .code c36k3 :: .inLoop c36l2 :: .inBlock 0 :: .code c36s1 :: []) ⟨mk 142 l, rows, low⟩ r ↔ Jc36s17 F cx (lk l 0) (lk l 1) (lk l 2) (lk l 3) (lk l 9) (lk l 10) (lk l 11) (lk l 12) (lk l 13) (lk l 14) rows low r := Ex_canon (keep := [0, 1, 2, 3, 9, 10, 11, 12, 13, 14]) (by kernel_rfl)
def Lc36l6 (F : Nat → Option IFn) (cx : Ctx) (x0 x1 x2 x3 x9 x10 x11 x12 x13 x14 : AV) (rows : List Row) (low : Nat) (r : AV × List Row × Nat → Prop) : Prop := Ex F cx (.code c36l6 :: .inLoop c36l6 :: .inBlock 4 :: .inBlock 3 :: .code c36k5 :: .inLoop c36l4 :: .inBlock 2 :: .inBlock 1 :: .code c36k3 :: .inLoop c36l2 :: .inBlock 0 :: .code c36s1 :: []) ⟨mk 142 [(0, x0), (1, x1), (2, x2), (3, x3), (9, x9), (10, x10), (11, x11), (12, x12), (13, x13), (14, x14)], rows, low⟩ r
@[simp] theorem nc36l6 : Ex F cx (.inLoop c36l6 :: .inBlock 4 :: .inBlock 3 :: .code c36k5 :: .inLoop c36l4 :: .inBlock 2 :: .inBlock 1 :: .code c36k3 :: .inLoop c36l2 :: .inBlock 0 :: .code c36s1 :: []) ⟨mk 142 l, rows, low⟩ r ↔ Lc36l6 F cx (lk l 0) (lk l 1) (lk l 2) (lk l 3) (lk l 9) (lk l 10) (lk l 11) (lk l 12) (lk l 13) (lk l 14) rows low r := loopN (keep := [0, 1, 2, 3, 9, 10, 11, 12, 13, 14]) (by kernel_rfl)
@[simp] theorem ec36l6 : Ex F cx (.code (.loop c36l6) :: .inBlock 4 :: .inBlock 3 :: .code c36k5 :: .inLoop c36l4 :: .inBlock 2 :: .inBlock 1 :: .code c36k3 :: .inLoop c36l2 :: .inBlock 0 :: .code c36s1 :: []) ⟨mk 142 l, rows, low⟩ r ↔ Lc36l6 F cx (lk l 0) (lk l 1) (lk l 2) (lk l 3) (lk l 9) (lk l 10) (lk l 11) (lk l 12) (lk l 13) (lk l 14) rows low r := loopE (keep := [0, 1, 2, 3, 9, 10, 11, 12, 13, 14]) (by kernel_rfl)
@[simp] theorem uc36l6 : Ex F cx (.code c36l6 :: k) s r ↔ Ex F cx (.code (.seq (.seq c36k19 c36s18) c36s17) :: k) s r := Iff.rfl
def Jc36s24 (F : Nat → Option IFn) (cx : Ctx) (x0 x1 x2 x3 x9 x10 x11 x12 x13 : AV) (rows : List Row) (low : Nat) (r : AV × List Row × Nat → Prop) : Prop := Ex F cx (.code c36s24 :: .inBlock 3 :: .code c36k5 :: .inLoop c36l4 :: .inBlock 2 :: .inBlock 1 :: .code c36k3 :: .inLoop c36l2 :: .inBlock 0 :: .code c36s1 :: []) ⟨mk 142 [(0, x0), (1, x1), (2, x2), (3, x3), (9, x9), (10, x10), (11, x11), (12, x12), (13, x13)], rows, low⟩ r
theorem jc36s24 : Ex F cx (.code c36s24 :: .inBlock 3 :: .code c36k5 :: .inLoop c36l4 :: .inBlock 2 :: .inBlock 1 :: .code c36k3 :: .inLoop c36l2 :: .inBlock 0 :: .code c36s1 :: []) ⟨mk 142 l, rows, low⟩ r ↔ Jc36s24 F cx (lk l 0) (lk l 1) (lk l 2) (lk l 3) (lk l 9) (lk l 10) (lk l 11) (lk l 12) (lk l 13) rows low r := Ex_canon (keep := [0, 1, 2, 3, 9, 10, 11, 12, 13]) (by kernel_rfl)
def Jc36s27 (F : Nat → Option IFn) (cx : Ctx) (x0 x1 x2 x3 x9 x10 x11 x12 x13 : AV) (rows : List Row) (low : Nat) (r : AV × List Row × Nat → Prop) : Prop := Ex F cx (.code c36s27 :: .inBlock 3 :: .code c36k5 :: .inLoop c36l4 :: .inBlock 2 :: .inBlock 1 :: .code c36k3 :: .inLoop c36l2 :: .inBlock 0 :: .code c36s1 :: []) ⟨mk 142 [(0, x0), (1, x1), (2, x2), (3, x3), (9, x9), (10, x10), (11, x11), (12, x12), (13, x13)], rows, low⟩ r
theorem jc36s27 : Ex F cx (.code c36s27 :: .inBlock 3 :: .code c36k5 :: .inLoop c36l4 :: .inBlock 2 :: .inBlock 1 :: .code c36k3 :: .inLoop c36l2 :: .inBlock 0 :: .code c36s1 :: []) ⟨mk 142 l, rows, low⟩ r ↔ Jc36s27 F cx (lk l 0) (lk l 1) (lk l 2) (lk l 3) (lk l 9) (lk l 10) (lk l 11) (lk l 12) (lk l 13) rows low r := Ex_canon (keep := [0, 1, 2, 3, 9, 10, 11, 12, 13]) (by kernel_rfl)
def Jc36s31 (F : Nat → Option IFn) (cx : Ctx) (x0 x1 x2 x3 x9 x10 x11 x12 x13 : AV) (rows : List Row) (low : Nat) (r : AV × List Row × Nat → Prop) : Prop := Ex F cx (.code c36s31 :: .inLoop c36l4 :: .inBlock 2 :: .inBlock 1 :: .code c36k3 :: .inLoop c36l2 :: .inBlock 0 :: .code c36s1 :: []) ⟨mk 142 [(0, x0), (1, x1), (2, x2), (3, x3), (9, x9), (10, x10), (11, x11), (12, x12), (13, x13)], rows, low⟩ r
theorem jc36s31 : Ex F cx (.code c36s31 :: .inLoop c36l4 :: .inBlock 2 :: .inBlock 1 :: .code c36k3 :: .inLoop c36l2 :: .inBlock 0 :: .code c36s1 :: []) ⟨mk 142 l, rows, low⟩ r ↔ Jc36s31 F cx (lk l 0) (lk l 1) (lk l 2) (lk l 3) (lk l 9) (lk l 10) (lk l 11) (lk l 12) (lk l 13) rows low r := Ex_canon (keep := [0, 1, 2, 3, 9, 10, 11, 12, 13]) (by kernel_rfl)
def Lc36l4 (F : Nat → Option IFn) (cx : Ctx) (x0 x1 x2 x3 x9 x10 x11 x12 x13 : AV) (rows : List Row) (low : Nat) (r : AV × List Row × Nat → Prop) : Prop := Ex F cx (.code c36l4 :: .inLoop c36l4 :: .inBlock 2 :: .inBlock 1 :: .code c36k3 :: .inLoop c36l2 :: .inBlock 0 :: .code c36s1 :: []) ⟨mk 142 [(0, x0), (1, x1), (2, x2), (3, x3), (9, x9), (10, x10), (11, x11), (12, x12), (13, x13)], rows, low⟩ r
@[simp] theorem nc36l4 : Ex F cx (.inLoop c36l4 :: .inBlock 2 :: .inBlock 1 :: .code c36k3 :: .inLoop c36l2 :: .inBlock 0 :: .code c36s1 :: []) ⟨mk 142 l, rows, low⟩ r ↔ Lc36l4 F cx (lk l 0) (lk l 1) (lk l 2) (lk l 3) (lk l 9) (lk l 10) (lk l 11) (lk l 12) (lk l 13) rows low r := loopN (keep := [0, 1, 2, 3, 9, 10, 11, 12, 13]) (by kernel_rfl)
@[simp] theorem ec36l4 : Ex F cx (.code (.loop c36l4) :: .inBlock 2 :: .inBlock 1 :: .code c36k3 :: .inLoop c36l2 :: .inBlock 0 :: .code c36s1 :: []) ⟨mk 142 l, rows, low⟩ r ↔ Lc36l4 F cx (lk l 0) (lk l 1) (lk l 2) (lk l 3) (lk l 9) (lk l 10) (lk l 11) (lk l 12) (lk l 13) rows low r := loopE (keep := [0, 1, 2, 3, 9, 10, 11, 12, 13]) (by kernel_rfl)
@[simp] theorem uc36l4 : Ex F cx (.code c36l4 :: k) s r ↔ Ex F cx (.code (.seq (.seq c36k33 c36s32) c36s31) :: k) s r := Iff.rfl
def Jc36s40 (F : Nat → Option IFn) (cx : Ctx) (x0 x1 x2 x3 x9 x10 x11 : AV) (rows : List Row) (low : Nat) (r : AV × List Row × Nat → Prop) : Prop := Ex F cx (.code c36s40 :: .inLoop c36l2 :: .inBlock 0 :: .code c36s1 :: []) ⟨mk 142 [(0, x0), (1, x1), (2, x2), (3, x3), (9, x9), (10, x10), (11, x11)], rows, low⟩ r
theorem jc36s40 : Ex F cx (.code c36s40 :: .inLoop c36l2 :: .inBlock 0 :: .code c36s1 :: []) ⟨mk 142 l, rows, low⟩ r ↔ Jc36s40 F cx (lk l 0) (lk l 1) (lk l 2) (lk l 3) (lk l 9) (lk l 10) (lk l 11) rows low r := Ex_canon (keep := [0, 1, 2, 3, 9, 10, 11]) (by kernel_rfl)
def Lc36l2 (F : Nat → Option IFn) (cx : Ctx) (x0 x1 x2 x3 x9 x10 x11 : AV) (rows : List Row) (low : Nat) (r : AV × List Row × Nat → Prop) : Prop := Ex F cx (.code c36l2 :: .inLoop c36l2 :: .inBlock 0 :: .code c36s1 :: []) ⟨mk 142 [(0, x0), (1, x1), (2, x2), (3, x3), (9, x9), (10, x10), (11, x11)], rows, low⟩ r
@[simp] theorem nc36l2 : Ex F cx (.inLoop c36l2 :: .inBlock 0 :: .code c36s1 :: []) ⟨mk 142 l, rows, low⟩ r ↔ Lc36l2 F cx (lk l 0) (lk l 1) (lk l 2) (lk l 3) (lk l 9) (lk l 10) (lk l 11) rows low r := loopN (keep := [0, 1, 2, 3, 9, 10, 11]) (by kernel_rfl)
@[simp] theorem ec36l2 : Ex F cx (.code (.loop c36l2) :: .inBlock 0 :: .code c36s1 :: []) ⟨mk 142 l, rows, low⟩ r ↔ Lc36l2 F cx (lk l 0) (lk l 1) (lk l 2) (lk l 3) (lk l 9) (lk l 10) (lk l 11) rows low r := loopE (keep := [0, 1, 2, 3, 9, 10, 11]) (by kernel_rfl)
@[simp] theorem uc36l2 : Ex F cx (.code c36l2 :: k) s r ↔ Ex F cx (.code (.seq (.seq c36k42 c36s41) c36s40) :: k) s r := Iff.rfl
@[simp] theorem uc36b : Ex F cx (.code c36b :: k) s r ↔ Ex F cx (.code (.seq c36k50 c36s49) :: k) s r := Iff.rfl
theorem i36 {x0 x1 x2 x3 : AV} (hF : F 36 = some c36) {q : AV × List Row × Option Nat} (h : Ex F (.fn [.t 8]) [.code c36b] ⟨mk 142 [(0, x0), (1, x1), (2, x2), (3, x3)], rows, rows.length⟩ fun r => fin rows r.1 r.2.1 r.2.2 = q) : Ret F 36 [x0, x1, x2, x3] rows = some q := Ret_mk hF h
@[simp] theorem uc38k0 : Ex F cx (.code c38k0 :: k) ⟨mk 25 l, rows, low⟩ r ↔ Ex F cx k ⟨mk 25 [(4, lk l 5), (24, lk l 5), (5, lk l 5)], rows, low⟩ r := reg (keep := [5]) (ops := c38r0) rfl (by kernel_rfl) (by kernel_rfl)
@[simp] theorem uc38s1 : Ex F cx (.code c38s1 :: k) s r ↔ Ex F cx (.code (.seq c38k0 .ret) :: k) s r := Iff.rfl
@[simp] theorem uc38k3 : Ex F cx (.code c38k3 :: k) ⟨mk 25 l, rows, low⟩ r ↔ bnd (evP rows (.bin .add (.c (lk l 6)) (.c (.int .i64 1)))) fun v0 => Ex F cx k ⟨mk 25 [(6, v0), (12, v0), (11, lk l 6), (0, lk l 0), (1, lk l 1), (5, lk l 5), (6, lk l 6)], rows, low⟩ r := reg (keep := [0, 1, 5, 6]) (ops := c38r3) rfl (by kernel_rfl) (by kernel_rfl)
@[simp] theorem uc38k4 : Ex F cx (.code c38k4 :: k) ⟨mk 25 l, rows, low⟩ r ↔ bnd (evP rows (.idxS 1 (.c (lk l 0)) (.c (lk l 6)))) fun v0 => bnd (evP rows (.load1 (.c v0))) fun v1 => bnd (evP rows (.idxS 1 (.c (lk l 1)) (.c (lk l 6)))) fun v2 => bnd (evP rows (.load1 (.c v2))) fun v3 => bnd (evP rows (.bin .mul (.c v1) (.c v3))) fun v4 => bnd (evP rows (.bin .add (.c (lk l 5)) (.c v4))) fun v5 => Ex F cx k ⟨mk 25 [(5, v5), (23, v5), (22, v4), (21, v3), (20, v2), (19, lk l 6), (18, lk l 1), (17, v1), (16, v0), (15, lk l 6), (14, lk l 0), (13, lk l 5), (0, lk l 0), (1, lk l 1), (5, lk l 5), (6, lk l 6)], rows, low⟩ r := reg (keep := [0, 1, 5, 6]) (ops := c38r4) rfl (by kernel_rfl) (by kernel_rfl)
@[simp] theorem uc38s5 : Ex F cx (.code c38s5 :: k) s r ↔ Ex F cx (.code (.seq (.block 1 c38k4) c38k3) :: k) s r := Iff.rfl
@[simp] theorem uc38s6 : Ex F cx (.code c38s6 :: k) s r ↔ Ex F cx (.code (.cond (.t 10) .skip (.exit 0)) :: k) s r := Iff.rfl
@[simp] theorem uc38k7 : Ex F cx (.code c38k7 :: k) ⟨mk 25 l, rows, low⟩ r ↔ bnd (evP rows (.len 0 (.c (lk l 1)))) fun v0 => bnd (evP rows (.bin .lss (.c (lk l 6)) (.c v0))) fun v1 => Ex F cx k ⟨mk 25 [(10, v1), (9, v0), (8, lk l 1), (7, lk l 6), (0, lk l 0), (1, lk l 1), (5, lk l 5), (6, lk l 6)], rows, low⟩ r := reg (keep := [0, 1, 5, 6]) (ops := c38r7) rfl (by kernel_rfl) (by kernel_rfl)
@[simp] theorem uc38s8 : Ex F cx (.code c38s8 :: k) s r ↔ Ex F cx (.code (.block 0 (.loop c38l2)) :: k) s r := Iff.rfl
@[simp] theorem uc38k9 : Ex F cx (.code c38k9 :: k) ⟨mk 25 l, rows, low⟩ r ↔ Ex F cx k ⟨mk 25 [(6, (.int .i64 0)), (0, lk l 0), (1, lk l 1), (5, lk l 5)], rows, low⟩ r := reg (keep := [0, 1, 5]) (ops := c38r9) rfl (by kernel_rfl) (by kernel_rfl)
@[simp] theorem uc38s10 : Ex F cx (.code c38s10 :: k) s r ↔ Ex F cx (.code (.seq (.seq c38k9 c38s8) c38s1) :: k) s r := Iff.rfl
@[simp] theorem uc38k11 : Ex F cx (.code c38k11 :: k) ⟨mk 25 l, rows, low⟩ r ↔ Ex F cx k ⟨mk 25 [(5, (.int .i64 0)), (0, lk l 0), (1, lk l 1)], rows, low⟩ r := reg (keep := [0, 1]) (ops := c38r11) rfl (by kernel_rfl) (by kernel_rfl)
@[simp] theorem uc38s12 : Ex F cx (.code c38s12 :: k) s r ↔ Ex F cx (.code (.seq c38k11 c38s10) :: k) s r := Iff.rfl
@[simp] theorem uc38k13 : Ex F cx (.code c38k13 :: k) ⟨mk 25 l, rows, low⟩ r ↔ Ex F cx k ⟨mk 25 [(4, (.int .i64 0)), (0, lk l 0), (1, lk l 1)], rows, low⟩ r := reg (keep := [0, 1]) (ops := c38r13) rfl (by kernel_rfl) (by kernel_rfl)
def Jc38s5 (F : Nat → Option IFn) (cx : Ctx) (x0 x1 x5 x6 : AV) (rows : List Row) (low : Nat) (r : AV × List Row × Nat → Prop) : Prop := Ex F cx (.code c38s5 :: .inLoop c38l2 :: .inBlock 0 :: .code c38s1 :: []) ⟨mk 25 [(0, x0), (1, x1), (5, x5), (6, x6)], rows, low⟩ r
theorem jc38s5 : Ex F cx (.code c38s5 :: .inLoop c38l2 :: .inBlock 0 :: .code c38s1 :: []) ⟨mk 25 l, rows, low⟩ r ↔ Jc38s5 F cx (lk l 0) (lk l 1) (lk l 5) (lk l 6) rows low r := Ex_canon (keep := [0, 1, 5, 6]) (by kernel_rfl)
def Lc38l2 (F : Nat → Option IFn) (cx : Ctx) (x0 x1 x5 x6 : AV) (rows : List Row) (low : Nat) (r : AV × List Row × Nat → Prop) : Prop := Ex F cx (.code c38l2 :: .inLoop c38l2 :: .inBlock 0 :: .code c38s1 :: []) ⟨mk 25 [(0, x0), (1, x1), (5, x5), (6, x6)], rows, low⟩ r
@[simp] theorem nc38l2 : Ex F cx (.inLoop c38l2 :: .inBlock 0 :: .code c38s1 :: []) ⟨mk 25 l, rows, low⟩ r ↔ Lc38l2 F cx (lk l 0) (lk l 1) (lk l 5) (lk l 6) rows low r := loopN (keep := [0, 1, 5, 6]) (by kernel_rfl)
@[simp] theorem ec38l2 : Ex F cx (.code (.loop c38l2) :: .inBlock 0 :: .code c38s1 :: []) ⟨mk 25 l, rows, low⟩ r ↔ Lc38l2 F cx (lk l 0) (lk l 1) (lk l 5) (lk l 6) rows low r := loopE (keep := [0, 1, 5, 6]) (by kernel_rfl)
@[simp] theorem uc38l2 : Ex F cx (.code c38l2 :: k) s r ↔ Ex F cx (.code (.seq (.seq c38k7 c38s6) c38s5) :: k) s r := Iff.rfl
@[simp] theorem uc38b : Ex F cx (.code c38b :: k) s r ↔ Ex F cx (.code (.seq c38k13 c38s12) :: k) s r := Iff.rfl
theorem i38 {x0 x1 : AV} (hF : F 38 = some c38) {q : AV × List Row × Option Nat} (h : Ex F (.fn [.t 4]) [.code c38b] ⟨mk 25 [(0, x0), (1, x1)], rows, rows.length⟩ fun r => fin rows r.1 r.2.1 r.2.2 = q) : Ret F 38 [x0, x1] rows = some q := Ret_mk hF h
@[simp] theorem uc65k0 : Ex F cx (.code c65k0 :: k) ⟨mk 27 l, rows, low⟩ r ↔ Ex F cx k ⟨mk 27 [(4, (.int .i64 0))], rows, low⟩ r := reg (keep := []) (ops := c65r0) rfl (by kernel_rfl) (by kernel_rfl)
@[simp] theorem uc65s1 : Ex F cx (.code c65s1 :: k) s r ↔ Ex F cx (.code (.seq c65k0 .ret) :: k) s r := Iff.rfl
@[simp] theorem uc65k2 : Ex F cx (.code c65k2 :: k) ⟨mk 27 l, rows, low⟩ r ↔ Ex F cx k ⟨mk 27 [(4, (.int .i64 1))], rows, low⟩ r := reg (keep := []) (ops := c65r2) rfl (by kernel_rfl) (by kernel_rfl)
@[simp] theorem uc65s3 : Ex F cx (.code c65s3 :: k) s r ↔ Ex F cx (.code (.cond (.t 26) (.seq c65k2 .ret) .skip) :: k) s r := Iff.rfl
@[simp] theorem uc65k4 : Ex F cx (.code c65k4 :: k) ⟨mk 27 l, rows, low⟩ r ↔ bnd (evP rows (.len 0 (.c (lk l 1)))) fun v0 => bnd (evP rows (.len 0 (.c (lk l 0)))) fun v1 => bnd (evP rows (.bin .add (.c v1) (.c (.int .i64 1)))) fun v2 => bnd (evP rows (.bin .neq (.c v0) (.c v2))) fun v3 => bnd (gv v3 false (evP rows (.mv (.c (lk l 1))))) fun v4 => gcall F v3 false rows low [(.int .i64 0), (.int .i64 1000), v4] (.func 55 []) fun v5 R5 L5 => bnd (gv v3 false (evP R5 (.un .not (.c v5)))) fun v6 => bnd (evP R5 (.pick (.c v3) (.c (.bool true)) (.c v6))) fun v7 => bnd (gv v7 false (evP R5 (.mv (.c (lk l 1))))) fun v8 => gcall F v7 false R5 L5 [v8] (.func 90 []) fun v9 R9 L9 => bnd (gv v7 false (evP R9 (.bin .eql (.c v9) (.c (.int .i64 0))))) fun v10 => bnd (evP R9 (.pick (.c v7) (.c (.bool true)) (.c v10))) fun v11 => Ex F cx k ⟨mk 27 [(26, v11), (25, v10), (24, v9), (23, v8), (22, v7), (21, v7), (20, v6), (19, v5), (18, v4), (17, v3), (16, v3), (15, v2), (14, v1), (13, lk l 0), (12, v0), (11, lk l 1), (0, lk l 0), (1, lk l 1)], R9, L9⟩ r := reg (keep := [0, 1]) (ops := c65r4) rfl (by kernel_rfl) (by kernel_rfl)
@[simp] theorem uc65s5 : Ex F cx (.code c65s5 :: k) s r ↔ Ex F cx (.code (.seq (.seq c65k4 c65s3) c65s1) :: k) s r := Iff.rfl
@[simp] theorem uc65k6 : Ex F cx (.code c65k6 :: k) ⟨mk 27 l, rows, low⟩ r ↔ Ex F cx k ⟨mk 27 [(4, lk l 5), (10, lk l 5), (5, lk l 5)], rows, low⟩ r := reg (keep := [5]) (ops := c65r6) rfl (by kernel_rfl) (by kernel_rfl)
@[simp] theorem uc65s7 : Ex F cx (.code c65s7 :: k) s r ↔ Ex F cx (.code (.cond (.t 9) (.seq c65k6 .ret) .skip) :: k) s r := Iff.rfl
@[simp] theorem uc65k8 : Ex F cx (.code c65k8 :: k) ⟨mk 27 l, rows, low⟩ r ↔ bnd (evP rows (.bin .neq (.c (lk l 5)) (.c (.int .i64 0)))) fun v0 => Ex F cx k ⟨mk 27 [(9, v0), (8, lk l 5), (0, lk l 0), (1, lk l 1), (5, lk l 5)], rows, low⟩ r := reg (keep := [0, 1, 5]) (ops := c65r8) rfl (by kernel_rfl) (by kernel_rfl)
@[simp] theorem uc65s9 : Ex F cx (.code c65s9 :: k) s r ↔ Ex F cx (.code (.seq c65k8 c65s7) :: k) s r := Iff.rfl
@[simp] theorem uc65k10 : Ex F cx (.code c65k10 :: k) ⟨mk 27 l, rows, low⟩ r ↔ bnd (Ret F 46 [lk l 0] rows) fun q0 => Ex F cx k ⟨mk 27 [(5, q0.1), (7, q0.1), (6, lk l 0), (0, lk l 0), (1, lk l 1)], q0.2.1, (lowO low q0.2.2)⟩ r := reg (keep := [0, 1]) (ops := c65r10) rfl (by kernel_rfl) (by kernel_rfl)
@[simp] theorem uc65s11 : Ex F cx (.code c65s11 :: k) s r ↔ Ex F cx (.code (.seq (.seq c65k10 c65s9) c65s5) :: k) s r := Iff.rfl
@[simp] theorem uc65k12 : Ex F cx (.code c65k12 :: k) ⟨mk 27 l, rows, low⟩ r ↔ Ex F cx k ⟨mk 27 [(4, (.int .i64 0)), (0, lk l 0), (1, lk l 1)], rows, low⟩ r := reg (keep := [0, 1]) (ops := c65r12) rfl (by kernel_rfl) (by kernel_rfl)
def Jc65s1 (F : Nat → Option IFn) (cx : Ctx) (rows : List Row) (low : Nat) (r : AV × List Row × Nat → Prop) : Prop := Ex F cx (.code c65s1 :: []) ⟨mk 27 [], rows, low⟩ r
theorem jc65s1 : Ex F cx (.code c65s1 :: []) ⟨mk 27 l, rows, low⟩ r ↔ Jc65s1 F cx  rows low r := Ex_canon (keep := []) (by kernel_rfl)
def Jc65s5 (F : Nat → Option IFn) (cx : Ctx) (x0 x1 : AV) (rows : List Row) (low : Nat) (r : AV × List Row × Nat → Prop) : Prop := Ex F cx (.code c65s5 :: []) ⟨mk 27 [(0, x0), (1, x1)], rows, low⟩ r
theorem jc65s5 : Ex F cx (.code c65s5 :: []) ⟨mk 27 l, rows, low⟩ r ↔ Jc65s5 F cx (lk l 0) (lk l 1) rows low r := Ex_canon (keep := [0, 1]) (by kernel_rfl)
@[simp] theorem uc65b : Ex F cx (.code c65b :: k) s r ↔ Ex F cx (.code (.seq c65k12 c65s11) :: k) s r := Iff.rfl
theorem i65 {x0 x1 : AV} (hF : F 65 = some c65) {q : AV × List Row × Option Nat} (h : Ex F (.fn [.t 4]) [.code c65b] ⟨mk 27 [(0, x0), (1, x1)], rows, rows.length⟩ fun r => fin rows r.1 r.2.1 r.2.2 = q) : Ret F 65 [x0, x1] rows = some q := Ret_mk hF h
@[simp] theorem uc66k0 : Ex F cx (.code c66k0 :: k) ⟨mk 28 l, rows, low⟩ r ↔ bnd (evP (rows ++ maskE 0 ([] : List (Nat × Row))) (.load1 (.c (lk l 4)))) fun v0 => bnd (evP (rows ++ maskE 3 ([] : List (Nat × Row))) (.idxS 1 (.c v0) (.c (lk l 1)))) fun v1 => bnd (evP (rows ++ maskE 7 ([] : List (Nat × Row))) (.load1 (.c v1))) fun v2 => bnd (evP (rows ++ maskE 0 ([] : List (Nat × Row))) (.load1 (.c (lk l 5)))) fun v3 => bnd (evP (rows ++ maskE 0 ([] : List (Nat × Row))) (.fieldA 0 (.c (lk l 6)))) fun v4 => bnd (evP (rows ++ maskE 32 ([] : List (Nat × Row))) (.load1 (.c v4))) fun v5 => bnd (evP (rows ++ maskE 0 ([] : List (Nat × Row))) (.fieldA 1 (.c (lk l 6)))) fun v6 => bnd (evP (rows ++ maskE 128 ([] : List (Nat × Row))) (.load1 (.c v6))) fun v7 => bnd (evP (rows ++ maskE 384 ([] : List (Nat × Row))) (.bin .add (.c v7) (.c (.int .i64 1)))) fun v8 => bnd (evP (rows ++ maskE 1008 ([] : List (Nat × Row))) (.sliceS 1 (.c v3) (some (.c v5)) (some (.c v8)) none)) fun v9 => bnd (opC F (rows ++ maskE 2032 ([] : List (Nat × Row))) (rows.length + ([] : List (Nat × Row)).length) [v9] (.func 67 [])) fun q10 => q10.2.2 = rows.length + ([] : List (Nat × Row)).length ∧ bnd (some (([] : List (Nat × Row)) ++ List.map (fun (x : Row) => (11, x)) (q10.2.1.drop (rows.length + ([] : List (Nat × Row)).length)))) fun e10 => bnd (evP (rows ++ maskE 4095 e10) (.bin .mul (.c v2) (.c q10.1))) fun v11 => bnd (evP (rows ++ maskE 16383 e10) (.bin .add (.c v11) (.c (lk l 2)))) fun v12 => bnd (evP (rows ++ List.map (fun (x : Nat × Row) => x.2) e10) (.bin .add (.c v12) (.c (lk l 3)))) fun v13 => Ex F cx k ⟨mk 28 [(10, v13), (27, v13), (26, lk l 3), (25, v12), (24, lk l 2), (23, v11), (22, q10.1), (21, v9), (20, v8), (19, v7), (18, v6), (17, v5), (16, v4), (15, v3), (14, v2), (13, v1), (12, lk l 1), (11, v0), (1, lk l 1), (2, lk l 2), (3, lk l 3), (4, lk l 4), (5, lk l 5), (6, lk l 6)], (rows ++ List.map (fun (x : Nat × Row) => x.2) e10), low⟩ r := reg (keep := [1, 2, 3, 4, 5, 6]) (ops := c66r0) rfl (by kernel_rfl) (by kernel_rfl)
@[simp] theorem uc66s1 : Ex F cx (.code c66s1 :: k) s r ↔ Ex F cx (.code (.seq c66k0 .ret) :: k) s r := Iff.rfl
@[simp] theorem uc66k2 : Ex F cx (.code c66k2 :: k) ⟨mk 28 l, rows, low⟩ r ↔ bnd (evE rows low (.box (.c (lk l 0)))) fun q0 => Ex F cx k ⟨mk 28 [(10, (.int .i64 0)), (6, q0.1), (0, lk l 0), (1, lk l 1), (2, lk l 2), (3, lk l 3), (4, lk l 4), (5, lk l 5)], q0.2.1, q0.2.2⟩ r := reg (keep := [0, 1, 2, 3, 4, 5]) (ops := c66r2) rfl (by kernel_rfl) (by kernel_rfl)
@[simp] theorem uc66b : Ex F cx (.code c66b :: k) s r ↔ Ex F cx (.code (.seq c66k2 c66s1) :: k) s r := Iff.rfl
theorem i66 {x0 x1 x2 x3 x4 x5 : AV} (hF : F 66 = some c66) {q : AV × List Row × Option Nat} (h : Ex F (.fn [.t 10]) [.code c66b] ⟨mk 28 [(0, x0), (1, x1), (2, x2), (3, x3), (4, x4), (5, x5)], rows, rows.length⟩ fun r => fin rows r.1 r.2.1 r.2.2 = q) : Ret F 66 [x0, x1, x2, x3, x4, x5] rows = some q := Ret_mk hF h
@[simp] theorem uc67k0 : Ex F cx (.code c67k0 :: k) ⟨mk 17 l, rows, low⟩ r ↔ Ex F cx k ⟨mk 17 [(2, lk l 3), (16, lk l 3), (3, lk l 3)], rows, low⟩ r := reg (keep := [3]) (ops := c67r0) rfl (by kernel_rfl) (by kernel_rfl)
@[simp] theorem uc67s1 : Ex F cx (.code c67s1 :: k) s r ↔ Ex F cx (.code (.seq c67k0 .ret) :: k) s r := Iff.rfl
@[simp] theorem uc67k3 : Ex F cx (.code c67k3 :: k) ⟨mk 17 l, rows, low⟩ r ↔ bnd (evP rows (.bin .add (.c (lk l 8)) (.c (.int .i64 1)))) fun v0 => Ex F cx k ⟨mk 17 [(8, v0), (15, v0), (3, lk l 3), (6, lk l 6), (7, lk l 7), (8, lk l 8)], rows, low⟩ r := reg (keep := [3, 6, 7, 8]) (ops := c67r3) rfl (by kernel_rfl) (by kernel_rfl)
@[simp] theorem uc67k4 : Ex F cx (.code c67k4 :: k) ⟨mk 17 l, rows, low⟩ r ↔ bnd (evP rows (.bin .add (.c (lk l 3)) (.c (lk l 5)))) fun v0 => Ex F cx k ⟨mk 17 [(3, v0), (14, v0), (13, lk l 5), (12, lk l 3), (3, lk l 3), (5, lk l 5), (6, lk l 6), (7, lk l 7), (8, lk l 8)], rows, low⟩ r := reg (keep := [3, 5, 6, 7, 8]) (ops := c67r4) rfl (by kernel_rfl) (by kernel_rfl)
@[simp] theorem uc67k5 : Ex F cx (.code c67k5 :: k) ⟨mk 17 l, rows, low⟩ r ↔ bnd (evP rows (.idxS 1 (.c (lk l 6)) (.c (lk l 8)))) fun v0 => bnd (evP rows (.load1 (.c v0))) fun v1 => Ex F cx k ⟨mk 17 [(5, v1), (11, v1), (10, v0), (3, lk l 3), (6, lk l 6), (7, lk l 7), (8, lk l 8)], rows, low⟩ r := reg (keep := [3, 6, 7, 8]) (ops := c67r5) rfl (by kernel_rfl) (by kernel_rfl)
@[simp] theorem uc67s6 : Ex F cx (.code c67s6 :: k) s r ↔ Ex F cx (.code (.seq (.block 1 (.seq c67k5 c67k4)) c67k3) :: k) s r := Iff.rfl
@[simp] theorem uc67s7 : Ex F cx (.code c67s7 :: k) s r ↔ Ex F cx (.code (.seq (.cond (.t 9) .skip (.exit 0)) c67s6) :: k) s r := Iff.rfl
@[simp] theorem uc67k8 : Ex F cx (.code c67k8 :: k) ⟨mk 17 l, rows, low⟩ r ↔ bnd (evP rows (.bin .lss (.c (lk l 8)) (.c (lk l 7)))) fun v0 => Ex F cx k ⟨mk 17 [(9, v0), (3, lk l 3), (6, lk l 6), (7, lk l 7), (8, lk l 8)], rows, low⟩ r := reg (keep := [3, 6, 7, 8]) (ops := c67r8) rfl (by kernel_rfl) (by kernel_rfl)
@[simp] theorem uc67s9 : Ex F cx (.code c67s9 :: k) s r ↔ Ex F cx (.code (.block 0 (.loop c67l2)) :: k) s r := Iff.rfl
@[simp] theorem uc67k10 : Ex F cx (.code c67k10 :: k) ⟨mk 17 l, rows, low⟩ r ↔ bnd (evP rows (.len 0 (.c (lk l 0)))) fun v0 => Ex F cx k ⟨mk 17 [(8, (.int .i64 0)), (7, v0), (6, lk l 0), (0, lk l 0), (3, lk l 3)], rows, low⟩ r := reg (keep := [0, 3]) (ops := c67r10) rfl (by kernel_rfl) (by kernel_rfl)
@[simp] theorem uc67s11 : Ex F cx (.code c67s11 :: k) s r ↔ Ex F cx (.code (.seq (.seq c67k10 c67s9) c67s1) :: k) s r := Iff.rfl
@[simp] theorem uc67k12 : Ex F cx (.code c67k12 :: k) ⟨mk 17 l, rows, low⟩ r ↔ Ex F cx k ⟨mk 17 [(3, (.int .i64 0)), (0, lk l 0)], rows, low⟩ r := reg (keep := [0]) (ops := c67r12) rfl (by kernel_rfl) (by kernel_rfl)
@[simp] theorem uc67s13 : Ex F cx (.code c67s13 :: k) s r ↔ Ex F cx (.code (.seq c67k12 c67s11) :: k) s r := Iff.rfl
@[simp] theorem uc67k14 : Ex F cx (.code c67k14 :: k) ⟨mk 17 l, rows, low⟩ r ↔ Ex F cx k ⟨mk 17 [(2, (.int .i64 0)), (0, lk l 0)], rows, low⟩ r := reg (keep := [0]) (ops := c67r14) rfl (by kernel_rfl) (by kernel_rfl)
def Jc67s6 (F : Nat → Option IFn) (cx : Ctx) (x3 x6 x7 x8 : AV) (rows : List Row) (low : Nat) (r : AV × List Row × Nat → Prop) : Prop := Ex F cx (.code c67s6 :: .inLoop c67l2 :: .inBlock 0 :: .code c67s1 :: []) ⟨mk 17 [(3, x3), (6, x6), (7, x7), (8, x8)], rows, low⟩ r
theorem jc67s6 : Ex F cx (.code c67s6 :: .inLoop c67l2 :: .inBlock 0 :: .code c67s1 :: []) ⟨mk 17 l, rows, low⟩ r ↔ Jc67s6 F cx (lk l 3) (lk l 6) (lk l 7) (lk l 8) rows low r := Ex_canon (keep := [3, 6, 7, 8]) (by kernel_rfl)
def Lc67l2 (F : Nat → Option IFn) (cx : Ctx) (x3 x6 x7 x8 : AV) (rows : List Row) (low : Nat) (r : AV × List Row × Nat → Prop) : Prop := Ex F cx (.code c67l2 :: .inLoop c67l2 :: .inBlock 0 :: .code c67s1 :: []) ⟨mk 17 [(3, x3), (6, x6), (7, x7), (8, x8)], rows, low⟩ r
@[simp] theorem nc67l2 : Ex F cx (.inLoop c67l2 :: .inBlock 0 :: .code c67s1 :: []) ⟨mk 17 l, rows, low⟩ r ↔ Lc67l2 F cx (lk l 3) (lk l 6) (lk l 7) (lk l 8) rows low r := loopN (keep := [3, 6, 7, 8]) (by kernel_rfl)
@[simp] theorem ec67l2 : Ex F cx (.code (.loop c67l2) :: .inBlock 0 :: .code c67s1 :: []) ⟨mk 17 l, rows, low⟩ r ↔ Lc67l2 F cx (lk l 3) (lk l 6) (lk l 7) (lk l 8) rows low r := loopE (keep := [3, 6, 7, 8]) (by kernel_rfl)
@[simp] theorem uc67l2 : Ex F cx (.code c67l2 :: k) s r ↔ Ex F cx (.code (.seq c67k8 c67s7) :: k) s r := Iff.rfl
@[simp] theorem uc67b : Ex F cx (.code c67b :: k) s r ↔ Ex F cx (.code (.seq c67k14 c67s13) :: k) s r := Iff.rfl
theorem i67 {x0 : AV} (hF : F 67 = some c67) {q : AV × List Row × Option Nat} (h : Ex F (.fn [.t 2]) [.code c67b] ⟨mk 17 [(0, x0)], rows, rows.length⟩ fun r => fin rows r.1 r.2.1 r.2.2 = q) : Ret F 67 [x0] rows = some q := Ret_mk hF h
@[simp] theorem uc90k0 : Ex F cx (.code c90k0 :: k) ⟨mk 25 l, rows, low⟩ r ↔ Ex F cx k ⟨mk 25 [(2, lk l 3), (24, lk l 3), (3, lk l 3)], rows, low⟩ r := reg (keep := [3]) (ops := c90r0) rfl (by kernel_rfl) (by kernel_rfl)
@[simp] theorem uc90s1 : Ex F cx (.code c90s1 :: k) s r ↔ Ex F cx (.code (.seq c90k0 .ret) :: k) s r := Iff.rfl
@[simp] theorem uc90k3 : Ex F cx (.code c90k3 :: k) ⟨mk 25 l, rows, low⟩ r ↔ bnd (evP rows (.bin .add (.c (lk l 4)) (.c (.int .i64 1)))) fun v0 => Ex F cx k ⟨mk 25 [(4, v0), (17, v0), (16, lk l 4), (0, lk l 0), (3, lk l 3), (4, lk l 4)], rows, low⟩ r := reg (keep := [0, 3, 4]) (ops := c90r3) rfl (by kernel_rfl) (by kernel_rfl)
@[simp] theorem uc90k4 : Ex F cx (.code c90k4 :: k) ⟨mk 25 l, rows, low⟩ r ↔ bnd (evP rows (.idxS 1 (.c (lk l 0)) (.c (lk l 4)))) fun v0 => bnd (evP rows (.load1 (.c v0))) fun v1 => bnd (evP rows (.mx [(.c (lk l 3)), (.c v1)])) fun v2 => Ex F cx k ⟨mk 25 [(3, v2), (23, v2), (22, v1), (21, v0), (20, lk l 4), (19, lk l 0), (18, lk l 3), (0, lk l 0), (3, lk l 3), (4, lk l 4)], rows, low⟩ r := reg (keep := [0, 3, 4]) (ops := c90r4) rfl (by kernel_rfl) (by kernel_rfl)
@[simp] theorem uc90s5 : Ex F cx (.code c90s5 :: k) s r ↔ Ex F cx (.code (.seq (.block 1 c90k4) c90k3) :: k) s r := Iff.rfl
@[simp] theorem uc90s6 : Ex F cx (.code c90s6 :: k) s r ↔ Ex F cx (.code (.cond (.t 15) .skip (.exit 0)) :: k) s r := Iff.rfl
@[simp] theorem uc90k7 : Ex F cx (.code c90k7 :: k) ⟨mk 25 l, rows, low⟩ r ↔ bnd (evP rows (.len 0 (.c (lk l 0)))) fun v0 => bnd (evP rows (.bin .lss (.c (lk l 4)) (.c v0))) fun v1 => Ex F cx k ⟨mk 25 [(15, v1), (14, v0), (13, lk l 0), (12, lk l 4), (0, lk l 0), (3, lk l 3), (4, lk l 4)], rows, low⟩ r := reg (keep := [0, 3, 4]) (ops := c90r7) rfl (by kernel_rfl) (by kernel_rfl)
@[simp] theorem uc90s8 : Ex F cx (.code c90s8 :: k) s r ↔ Ex F cx (.code (.block 0 (.loop c90l2)) :: k) s r := Iff.rfl
@[simp] theorem uc90k9 : Ex F cx (.code c90k9 :: k) ⟨mk 25 l, rows, low⟩ r ↔ Ex F cx k ⟨mk 25 [(4, (.int .i64 1)), (0, lk l 0), (3, lk l 3)], rows, low⟩ r := reg (keep := [0, 3]) (ops := c90r9) rfl (by kernel_rfl) (by kernel_rfl)
@[simp] theorem uc90s10 : Ex F cx (.code c90s10 :: k) s r ↔ Ex F cx (.code (.seq (.seq c90k9 c90s8) c90s1) :: k) s r := Iff.rfl
@[simp] theorem uc90k11 : Ex F cx (.code c90k11 :: k) ⟨mk 25 l, rows, low⟩ r ↔ bnd (evP rows (.idxS 1 (.c (lk l 0)) (.c (.int .i64 0)))) fun v0 => bnd (evP rows (.load1 (.c v0))) fun v1 => Ex F cx k ⟨mk 25 [(3, v1), (11, v1), (10, v0), (9, lk l 0), (0, lk l 0)], rows, low⟩ r := reg (keep := [0]) (ops := c90r11) rfl (by kernel_rfl) (by kernel_rfl)
@[simp] theorem uc90s12 : Ex F cx (.code c90s12 :: k) s r ↔ Ex F cx (.code (.seq c90k11 c90s10) :: k) s r := Iff.rfl
@[simp] theorem uc90k13 : Ex F cx (.code c90k13 :: k) ⟨mk 25 l, rows, low⟩ r ↔ bnd (evP rows (.mkif 9 (.c (.str ⟨#[115, 108, 105, 99, 101, 115, 46, 77, 97, 120, 58, 32, 101, 109, 112, 116, 121, 32, 108, 105, 115, 116]⟩)))) fun v0 => bnd (evE rows low (.bad)) fun q1 => Ex F cx k ⟨mk 25 [(8, v0), (0, lk l 0)], q1.2.1, q1.2.2⟩ r := reg (keep := [0]) (ops := c90r13) rfl (by kernel_rfl) (by kernel_rfl)
@[simp] theorem uc90s14 : Ex F cx (.code c90s14 :: k) s r ↔ Ex F cx (.code (.cond (.t 7) c90k13 .skip) :: k) s r := Iff.rfl
@[simp] theorem uc90k15 : Ex F cx (.code c90k15 :: k) ⟨mk 25 l, rows, low⟩ r ↔ bnd (evP rows (.len 0 (.c (lk l 0)))) fun v0 => bnd (evP rows (.bin .lss (.c v0) (.c (.int .i64 1)))) fun v1 => Ex F cx k ⟨mk 25 [(7, v1), (6, v0), (5, lk l 0), (0, lk l 0)], rows, low⟩ r := reg (keep := [0]) (ops := c90r15) rfl (by kernel_rfl) (by kernel_rfl)
@[simp] theorem uc90s16 : Ex F cx (.code c90s16 :: k) s r ↔ Ex F cx (.code (.seq (.seq c90k15 c90s14) c90s12) :: k) s r := Iff.rfl
@[simp] theorem uc90k17 : Ex F cx (.code c90k17 :: k) ⟨mk 25 l, rows, low⟩ r ↔ Ex F cx k ⟨mk 25 [(2, (.int .i64 0)), (0, lk l 0)], rows, low⟩ r := reg (keep := [0]) (ops := c90r17) rfl (by kernel_rfl) (by kernel_rfl)
def Jc90s5 (F : Nat → Option IFn) (cx : Ctx) (x0 x3 x4 : AV) (rows : List Row) (low : Nat) (r : AV × List Row × Nat → Prop) : Prop := Ex F cx (.code c90s5 :: .inLoop c90l2 :: .inBlock 0 :: .code c90s1 :: []) ⟨mk 25 [(0, x0), (3, x3), (4, x4)], rows, low⟩ r
theorem jc90s5 : Ex F cx (.code c90s5 :: .inLoop c90l2 :: .inBlock 0 :: .code c90s1 :: []) ⟨mk 25 l, rows, low⟩ r ↔ Jc90s5 F cx (lk l 0) (lk l 3) (lk l 4) rows low r := Ex_canon (keep := [0, 3, 4]) (by kernel_rfl)
def Lc90l2 (F : Nat → Option IFn) (cx : Ctx) (x0 x3 x4 : AV) (rows : List Row) (low : Nat) (r : AV × List Row × Nat → Prop) : Prop := Ex F cx (.code c90l2 :: .inLoop c90l2 :: .inBlock 0 :: .code c90s1 :: []) ⟨mk 25 [(0, x0), (3, x3), (4, x4)], rows, low⟩ r
@[simp] theorem nc90l2 : Ex F cx (.inLoop c90l2 :: .inBlock 0 :: .code c90s1 :: []) ⟨mk 25 l, rows, low⟩ r ↔ Lc90l2 F cx (lk l 0) (lk l 3) (lk l 4) rows low r := loopN (keep := [0, 3, 4]) (by kernel_rfl)
@[simp] theorem ec90l2 : Ex F cx (.code (.loop c90l2) :: .inBlock 0 :: .code c90s1 :: []) ⟨mk 25 l, rows, low⟩ r ↔ Lc90l2 F cx (lk l 0) (lk l 3) (lk l 4) rows low r := loopE (keep := [0, 3, 4]) (by kernel_rfl)
@[simp] theorem uc90l2 : Ex F cx (.code c90l2 :: k) s r ↔ Ex F cx (.code (.seq (.seq c90k7 c90s6) c90s5) :: k) s r := Iff.rfl
def Jc90s12 (F : Nat → Option IFn) (cx : Ctx) (x0 : AV) (rows : List Row) (low : Nat) (r : AV × List Row × Nat → Prop) : Prop := Ex F cx (.code c90s12 :: []) ⟨mk 25 [(0, x0)], rows, low⟩ r
theorem jc90s12 : Ex F cx (.code c90s12 :: []) ⟨mk 25 l, rows, low⟩ r ↔ Jc90s12 F cx (lk l 0) rows low r := Ex_canon (keep := [0]) (by kernel_rfl)
@[simp] theorem uc90b : Ex F cx (.code c90b :: k) s r ↔ Ex F cx (.code (.seq c90k17 c90s16) :: k) s r := Iff.rfl
theorem i90 {x0 : AV} (hF : F 90 = some c90) {q : AV × List Row × Option Nat} (h : Ex F (.fn [.t 2]) [.code c90b] ⟨mk 25 [(0, x0)], rows, rows.length⟩ fun r => fin rows r.1 r.2.1 r.2.2 = q) : Ret F 90 [x0] rows = some q := Ret_mk hF h
end Go.Abs

set_option linter.unusedVariables false
set_option linter.unusedSimpArgs false
namespace Go.Abs
open Rd (Cp IsL_one IsL_cells IsL_tail lowO_n)
theorem IsL_mid {rows : List Row} {v : AV} {l : List Int} (h : IsL rows v l) (hc : Cp 1 v) {a b : Nat} (hab : a ≤ b) (hb : b ≤ l.length) : ∃ v', sliceV 1 v (some (.int .i64 a)) (some (.int .i64 b)) none = some v' ∧ IsL rows v' ((l.drop a).take (b - a)) ∧ Cp 1 v' := by
  rcases El_cases h with ⟨rfl, _, h0⟩ | ⟨id, off, c, vs, rfl, hr, hs⟩
  · have h1 : b = 0 := by omega
    have h2 : a = 0 := by omega
    subst h1 h2
    refine ⟨.nilslice, by simp [sliceV, bound?], ?_, trivial⟩
    simpa using IsL_nil
  · have hl := seg_len hs
    simp only [Nat.mul_one] at hl
    have hlen : ((l.drop a).take (b - a)).length = b - a := by simp; omega
    have hs' : seg vs (off + a) ((l.drop a).take (b - a)).length = some (nums .i64 ((l.drop a).take (b - a))) := by
      have := seg_seg (j := a) (m := b - a) hs (by omega)
      rw [hlen, this]
      unfold seg
      rw [if_pos (by simp; omega)]
      simp [nums, List.map_take, List.map_drop]
    have fin1 : ∀ c' o, seg vs o ((l.drop a).take (b - a)).length = some (nums .i64 ((l.drop a).take (b - a))) → IsL rows (.slice id o (b - a) c') ((l.drop a).take (b - a)) := by
      intro c' o h
      have := IsL_mk (n := 0) (c := c') hr h
      rwa [hlen] at this
    cases c with
    | at_ m =>
      simp only [Cp] at hc
      by_cases hm : m = a
      · refine ⟨.slice id off (b - a) (.at_ (m - a)), ?_, ?_, by simp only [Cp]; omega⟩
        · simp only [sliceV, bound?]
          rw [if_pos (by omega)]
          simp
          rw [if_pos (by omega)]
          simp [hm]
        · refine fin1 _ _ ?_
          have e : b - a = 0 := by omega
          have e2 : (l.drop a).take (b - a) = [] := by rw [e]; simp
          rw [e2]
          unfold seg; rw [if_pos (by simp; omega)]; simp [nums]
      · refine ⟨.slice id (off + a) (b - a) (.at_ (m - a)), ?_, fin1 _ _ hs', by simp only [Cp]; omega⟩
        simp only [sliceV, bound?]
        rw [if_pos (by omega)]
        simp
        rw [if_pos (by omega)]
        simp [hm]
    | op sz =>
      simp only [Cp] at hc
      subst hc
      refine ⟨.slice id (off + a) (b - a) (.op 1), ?_, fin1 _ _ hs', rfl⟩
      simp only [sliceV, bound?]
      rw [if_pos (by omega)]
      simp
      rw [if_pos (by omega)]
theorem sum_bd {m : Int} : ∀ {l : List Int}, (∀ x ∈ l, 0 ≤ x ∧ x ≤ m) → 0 ≤ l.sum ∧ l.sum ≤ m * l.length
  | [], _ => by simp
  | x :: l, h => by
    have h1 := sum_bd (l := l) fun y hy => h y (List.mem_cons_of_mem _ hy)
    have h2 := h x List.mem_cons_self
    simp only [List.sum_cons, List.length_cons, Int.natCast_add, Int.mul_add, Int.cast_ofNat_Int, Int.mul_one]
    omega
theorem sum_take {l : List Int} {i : Nat} (h : i < l.length) : (l.take (i + 1)).sum = (l.take i).sum + gI l i := by
  rw [List.take_add_one, gI_get h]; simp
section
variable {rows : List Row}
theorem sum_loop {v : AV} {l : List Int} (h : IsL rows v l) (hb : ∀ x ∈ l, 0 ≤ x ∧ x ≤ 1000000000) (hl : l.length ≤ 1000) : ∀ (n i : Nat), l.length - i = n → i ≤ l.length →
    Lc67l2 F (.fn [.t 2]) (.int .i64 (l.take i).sum) v (.int .i64 l.length) (.int .i64 i) rows rows.length (fun r => fin rows r.1 r.2.1 r.2.2 = (.int .i64 l.sum, rows, none)) := by
  intro n
  induction n with
  | zero =>
    intro i hn h1
    have e : l.take i = l := List.take_of_length_le (by omega)
    unfold Lc67l2
    simp [show ¬ (i < l.length) by omega, e]
  | succ n ih =>
    intro i hn h1
    have hi : i < l.length := by omega
    have hs := sum_bd (l := l.take (i + 1)) (m := 1000000000) fun x hx => hb x (List.mem_of_mem_take hx)
    have hs2 : (l.take (i + 1)).length ≤ 1000 := by simp; omega
    have w1 : IntKind.i64.wrap ((i : Int) + 1) = i + 1 := wrap64 (by omega) (by omega)
    have w2 : IntKind.i64.wrap ((l.take i).sum + gI l i) = (l.take (i + 1)).sum := by
      rw [← sum_take hi]
      exact wrap64 (by omega) (by omega)
    have := ih (i + 1) (by omega) (by omega)
    unfold Lc67l2
    simp (disch := first | omega | (simp; done) | fail) [hi, idxL0 h, loadL0 h, w1, w2]
    simpa using this
/-- sum. -/
theorem sum_ret {v : AV} {l : List Int} (h : IsL rows v l) (hb : ∀ x ∈ l, 0 ≤ x ∧ x ≤ 1000000000) (hl : l.length ≤ 1000) : Ret F 67 [v] rows = some (.int .i64 l.sum, rows, none) := by
  refine i67 F67 ?_
  have := sum_loop h hb hl _ 0 rfl (by omega)
  simp [lenL0 h]
  simpa using this
/-- The greatest number of a list. -/
def fmax (l : List Int) : Int := l.foldl max (gI l 0)
theorem foldl_max_ge : ∀ (l : List Int) (a : Int), a ≤ l.foldl max a ∧ (∀ x ∈ l, x ≤ l.foldl max a) ∧ (l.foldl max a = a ∨ l.foldl max a ∈ l)
  | [], a => by simp
  | x :: l, a => by
    obtain ⟨h1, h2, h3⟩ := foldl_max_ge l (max a x)
    simp only [List.foldl_cons, List.mem_cons]
    refine ⟨by omega, ?_, ?_⟩
    · rintro y (rfl | hy)
      · omega
      · exact h2 y hy
    · rcases h3 with h3 | h3
      · rw [h3]; omega
      · exact .inr (.inr h3)
theorem fmax_ge {l : List Int} : ∀ x ∈ l, x ≤ fmax l := fun x hx => (foldl_max_ge l _).2.1 x hx
theorem fmax_take {l : List Int} {a : Int} {i : Nat} (h : i < l.length) : (l.take (i + 1)).foldl max a = max ((l.take i).foldl max a) (gI l i) := by
  rw [List.take_add_one, gI_get h]; simp
theorem max_loop {v : AV} {l : List Int} (h : IsL rows v l) (hl : l.length ≤ 1000) : ∀ (n i : Nat), l.length - i = n → i ≤ l.length →
    Lc90l2 F (.fn [.t 2]) v (.int .i64 ((l.take i).foldl max (gI l 0))) (.int .i64 i) rows rows.length (fun r => fin rows r.1 r.2.1 r.2.2 = (.int .i64 (fmax l), rows, none)) := by
  intro n
  induction n with
  | zero =>
    intro i hn h1
    have e : l.take i = l := List.take_of_length_le (by omega)
    unfold Lc90l2
    simp [lenL0 h, show ¬ (i < l.length) by omega, e, fmax]
  | succ n ih =>
    intro i hn h1
    have hi : i < l.length := by omega
    have w1 : IntKind.i64.wrap ((i : Int) + 1) = i + 1 := wrap64 (by omega) (by omega)
    have := ih (i + 1) (by omega) (by omega)
    rw [fmax_take hi] at this
    unfold Lc90l2
    simp (disch := first | omega | (simp; done) | fail) [hi, lenL0 h, idxL0 h, loadL0 h, w1]
    simpa using this
/-- slices.Max. -/
theorem max_ret {v : AV} {l : List Int} (h : IsL rows v l) (h0 : l ≠ []) (hl : l.length ≤ 1000) : Ret F 90 [v] rows = some (.int .i64 (fmax l), rows, none) := by
  have hp : 0 < l.length := List.length_pos_iff.2 h0
  have hm := max_loop h hl _ 1 rfl (by omega)
  have e : (l.take 1).foldl max (gI l 0) = gI l 0 := by
    have := fmax_take (l := l) (a := gI l 0) hp
    simpa using this
  rw [e] at hm
  refine i90 F90 ?_
  simp (disch := first | omega | (simp; done) | fail) [lenL0 h, idxL0 h (i := 0), loadL00 h, hp, show (1 : Int) ≤ l.length by omega, show ¬ (l.length < 1) by omega, h0]
  simpa using hm
/-- Weights that are right. -/
def wOK (n : Nat) (u : List Int) : Prop := u.length = n + 1 ∧ (u.all fun x => decide (0 ≤ x ∧ x ≤ 1000)) = true ∧ fmax u ≠ 0
instance (n : Nat) (u : List Int) : Decidable (wOK n u) := by unfold wOK; infer_instance
/-- openWeights, of costs that are right. -/
theorem openWeights_ret {cv uv : AV} {c u : List Int} (hc : IsL rows cv c) (hn : c.length ≤ 12) (hall : (c.all fun x => decide (1 ≤ x ∧ x ≤ 1000)) = true) (hu : IsL rows uv u) (hul : u.length < 4611686018427387904) : Ret F 65 [cv, uv] rows = some (.int .i64 (if wOK c.length u then 0 else 1), rows, none) := by
  have h1 := Check_ret hc (by omega)
  rw [if_pos ⟨hn, hall⟩] at h1
  have h2 := are_ret hu hul (lo := 0) (hi := 1000)
  have w1 : IntKind.i64.wrap ((c.length : Int) + 1) = c.length + 1 := wrap64 (by omega) (by omega)
  refine i65 F65 ?_
  by_cases e1 : u.length = c.length + 1
  · have e1' : (u.length : Int) = c.length + 1 := by omega
    have hne : u ≠ [] := by intro e; rw [e] at e1; simp at e1
    have h3 := max_ret hu hne (by omega)
    by_cases e2 : (u.all fun x => decide (0 ≤ x ∧ x ≤ 1000)) = true
    · rw [e2] at h2
      by_cases e3 : fmax u = 0
      · rw [e3] at h3
        rw [if_neg (by unfold wOK; simp [e3])]
        simp [h1, lenL0 hc, lenL0 hu, w1, e1', h2, h3]
      · rw [if_pos ⟨e1, e2, e3⟩]
        simp [h1, lenL0 hc, lenL0 hu, w1, e1', h2, h3, e3]
    · rw [Bool.not_eq_true] at e2
      rw [e2] at h2
      rw [if_neg (by unfold wOK; rw [e2]; simp)]
      simp [h1, lenL0 hc, lenL0 hu, w1, e1', h2]
  · have e1' : ¬ (u.length : Int) = c.length + 1 := by omega
    rw [if_neg (by unfold wOK; simp [e1])]
    simp [h1, lenL0 hc, lenL0 hu, w1, e1']
end
end Go.Abs

set_option linter.unusedVariables false
set_option linter.unusedSimpArgs false
namespace Go.Abs
open Rd (Cp IsL_one IsL_cells IsL_tail lowO_n)
def wst (x : Int) : Int := IntKind.i64.wrap ((IntKind.u64.wrap x).tmod 1001)
theorem wst_ok (x : Int) : 0 ≤ wst x ∧ wst x ≤ 1000 := by
  obtain ⟨u, hu, hu1⟩ := umodI (x := x) (m := 1001) (by omega) (by omega)
  unfold wst; rw [hu]; omega
/-- The weight at a place. -/
def wAt (l : List Int) (i : Nat) : Int := if i < l.length then wst (gI l i) else 0
def wl (l : List Int) (k : Nat) : List Int := (List.range k).map (wAt l)
@[simp] theorem wl_len {l : List Int} {k : Nat} : (wl l k).length = k := by simp [wl]
theorem wl_succ {l : List Int} {k : Nat} : wl l (k + 1) = wl l k ++ [wAt l k] := by simp [wl, List.range_succ]
theorem wAt_ok (l : List Int) (i : Nat) : 0 ≤ wAt l i ∧ wAt l i ≤ 1000 := by
  unfold wAt
  split
  · exact wst_ok _
  · omega
def wAny (l : List Int) (k : Nat) : Bool := (wl l k).any fun x => decide (0 < x)
theorem wAny_succ {l : List Int} {k : Nat} : wAny l (k + 1) = (wAny l k || decide (0 < wAt l k)) := by
  unfold wAny; rw [wl_succ, List.any_append]; simp
/-- weights. -/
def wts (l : List Int) (n : Nat) : List Int := if wAny l (n + 1) = true then wl l (n + 1) else (wl l (n + 1)).set 0 1
theorem wts_len (l : List Int) (n : Nat) : (wts l n).length = n + 1 := by unfold wts; split <;> simp
theorem wts_ok (l : List Int) (n : Nat) : wOK n (wts l n) := by
  have h1 : ∀ x ∈ wl l (n + 1), 0 ≤ x ∧ x ≤ 1000 := by
    intro x hx
    obtain ⟨i, _, rfl⟩ := List.mem_map.1 hx
    exact wAt_ok l i
  refine ⟨wts_len l n, ?_, ?_⟩
  · rw [List.all_eq_true]
    intro x hx
    have : 0 ≤ x ∧ x ≤ 1000 := by
      unfold wts at hx
      split at hx
      · exact h1 x hx
      · rcases List.mem_or_eq_of_mem_set hx with hx | rfl
        · exact h1 x hx
        · omega
    simp [this]
  · unfold wts
    split
    · rename_i h
      unfold wAny at h
      rw [List.any_eq_true] at h
      obtain ⟨x, hx, h2⟩ := h
      have := fmax_ge x hx
      simp at h2
      omega
    · have hm : (1 : Int) ∈ (wl l (n + 1)).set 0 1 := List.mem_of_getElem? (i := 0) (by rw [List.getElem?_set_self (by simp)])
      have := fmax_ge _ hm
      omega
section
variable {rows : List Row}
theorem weights_loop {v : AV} {l : List Int} (h : IsL rows v l) {n : Nat} (hn : n ≤ 1000) : ∀ (d i : Nat) (H : List Row), n + 1 - i = d → i ≤ n + 1 →
    Lc34l6 F (.fn [.t 4]) v (.int .i64 n) (accV rows H (wl l i)) (.bool (wAny l i)) (.int .i64 i) (rows ++ accR H (wl l i)) rows.length (fun r => fin rows r.1 r.2.1 r.2.2 = newL rows (wts l n)) := by
  intro d
  induction d with
  | zero =>
    intro i H hd h1
    have : i = n + 1 := by omega
    subst this
    unfold Lc34l6
    cases hb : wAny l (n + 1) with
    | true =>
      have e : wts l n = wl l (n + 1) := by unfold wts; rw [if_pos hb]
      rw [e]
      simp [show ¬ ((n : Int) + 1 ≤ n) by omega]
      exact acc_fin
    | false =>
      have e : wts l n = (wl l (n + 1)).set 0 1 := by unfold wts; rw [if_neg (by rw [hb]; simp)]
      have hl := wl_len (l := l) (k := n + 1)
      rw [e]
      generalize wl l (n + 1) = w at hl
      cases w with
      | nil => simp at hl
      | cons x w =>
        have i0 : idx? 0 (w.length + 1) = some 0 := by rw [idx?_ok (by omega) (by omega)]; rfl
        simp [show ¬ ((n : Int) + 1 ≤ n) by omega, accV, accR, nums, i0]
        have := acc_fin (rows := rows) (H := H) (l := 1 :: w)
        simpa [accV, accR, nums] using this
  | succ d ih =>
    intro i H hd h1
    have hi : (i : Int) ≤ n := by omega
    have w1 : IntKind.i64.wrap ((i : Int) + 1) = i + 1 := wrap64 (by omega) (by omega)
    obtain ⟨H', hap⟩ := acc_app (rows := rows) (H := H) (l := wl l i) (x := wAt l i) (by simp; omega)
    have hk := ih (i + 1) H' (by omega) (by omega)
    rw [wl_succ, wAny_succ] at hk
    have hw := wAt_ok l i
    unfold Lc34l6
    by_cases hil : i < l.length
    · have ew : IntKind.i64.wrap ((IntKind.u64.wrap (gI l i)).tmod 1001) = wAt l i := by unfold wAt; rw [if_pos hil]; rfl
      cases hb : wAny l i with
      | true =>
        rw [hb] at hk
        simp (disch := first | omega | (simp; done) | fail) [hi, hil, lenL h, idxL h, loadL h, w1, ew, fillA, splice, hap]
        simpa using hk
      | false =>
        rw [hb] at hk
        simp (disch := first | omega | (simp; done) | fail) [hi, hil, lenL h, idxL h, loadL h, w1, ew, fillA, splice, hap]
        simpa using hk
    · have ew : wAt l i = 0 := by unfold wAt; rw [if_neg hil]
      rw [ew] at hap hk
      cases hb : wAny l i with
      | true =>
        rw [hb] at hk
        simp (disch := first | omega | (simp; done) | fail) [hi, hil, lenL h, w1, fillA, splice, hap]
        simpa using hk
      | false =>
        rw [hb] at hk
        simp (disch := first | omega | (simp; done) | fail) [hi, hil, lenL h, w1, fillA, splice, hap]
        simpa using hk
/-- weights. -/
theorem weights_ret {v : AV} {l : List Int} (h : IsL rows v l) {n : Nat} (hn : n ≤ 1000) : Ret F 34 [v, .int .i64 n] rows = some (newL rows (wts l n)) := by
  refine i34 F34 ?_
  have := weights_loop h hn _ 0 [] rfl (by omega)
  simp
  simpa [accV, accR, wl, wAny] using this
theorem rworst_loop {v : AV} {l : List Int} (h : IsL rows v l) (hl : l.length ≤ 1000) : ∀ (n i : Nat), l.length - i = n → i ≤ l.length →
    Lc37l2 F (.fn [.t 2]) v (.int .i64 ((l.take i).foldl max 0)) (.int .i64 i) rows rows.length (fun r => fin rows r.1 r.2.1 r.2.2 = (.int .i64 (l.foldl max 0), rows, none)) := by
  intro n
  induction n with
  | zero =>
    intro i hn h1
    have e : l.take i = l := List.take_of_length_le (by omega)
    unfold Lc37l2
    simp [lenL0 h, show ¬ (i < l.length) by omega, e]
  | succ n ih =>
    intro i hn h1
    have hi : i < l.length := by omega
    have w1 : IntKind.i64.wrap ((i : Int) + 1) = i + 1 := wrap64 (by omega) (by omega)
    have := ih (i + 1) (by omega) (by omega)
    rw [fmax_take hi] at this
    unfold Lc37l2
    simp (disch := first | omega | (simp; done) | fail) [hi, lenL0 h, idxL0 h, loadL0 h, w1]
    simpa using this
/-- R.Worst. -/
theorem rworst_ret {v : AV} {l : List Int} (h : IsL rows v l) (hl : l.length ≤ 1000) : Ret F 37 [v] rows = some (.int .i64 (l.foldl max 0), rows, none) := by
  refine i37 F37 ?_
  have := rworst_loop h hl _ 0 rfl (by omega)
  simp
  simpa using this
/-- The sum of products. -/
def dot (w l : List Int) : Nat → Int
  | 0 => 0
  | k + 1 => dot w l k + gI w k * gI l k
theorem dot_bd {w l : List Int} : ∀ (k : Nat), (∀ i, i < k → 0 ≤ gI w i * gI l i ∧ gI w i * gI l i ≤ 1000000000) → 0 ≤ dot w l k ∧ dot w l k ≤ 1000000000 * k
  | 0, _ => by simp [dot]
  | k + 1, h => by
    have h1 := dot_bd k fun i hi => h i (by omega)
    have h2 := h k (by omega)
    simp only [dot]
    omega
theorem rweighed_loop {wv lv : AV} {w l : List Int} (hw : IsL rows wv w) (hl : IsL rows lv l) (hlen : l.length ≤ w.length) (hb : ∀ i, i < l.length → 0 ≤ gI w i * gI l i ∧ gI w i * gI l i ≤ 1000000000) (hl1 : l.length ≤ 1000) : ∀ (n i : Nat), l.length - i = n → i ≤ l.length →
    Lc38l2 F (.fn [.t 4]) wv lv (.int .i64 (dot w l i)) (.int .i64 i) rows rows.length (fun r => fin rows r.1 r.2.1 r.2.2 = (.int .i64 (dot w l l.length), rows, none)) := by
  intro n
  induction n with
  | zero =>
    intro i hn h1
    have e : i = l.length := by omega
    subst e
    unfold Lc38l2
    simp [lenL0 hl]
  | succ n ih =>
    intro i hn h1
    have hi : i < l.length := by omega
    have w1 : IntKind.i64.wrap ((i : Int) + 1) = i + 1 := wrap64 (by omega) (by omega)
    have hd := dot_bd (w := w) (l := l) (i + 1) fun j hj => hb j (by omega)
    have hp := hb i hi
    have w2 : IntKind.i64.wrap (gI w i * gI l i) = gI w i * gI l i := wrap64 (by omega) (by omega)
    have w3 : IntKind.i64.wrap (dot w l i + gI w i * gI l i) = dot w l (i + 1) := by
      show IntKind.i64.wrap (dot w l (i + 1)) = _
      exact wrap64 (by omega) (by omega)
    have := ih (i + 1) (by omega) (by omega)
    unfold Lc38l2
    simp (disch := first | omega | (simp; done) | fail) [hi, lenL0 hl, idxL0 hl, loadL0 hl, idxL0 hw, loadL0 hw, w1, w2, w3]
    simpa using this
/-- R.Weighed. -/
theorem rweighed_ret {wv lv : AV} {w l : List Int} (hw : IsL rows wv w) (hl : IsL rows lv l) (hlen : l.length ≤ w.length) (hb : ∀ i, i < l.length → 0 ≤ gI w i * gI l i ∧ gI w i * gI l i ≤ 1000000000) (hl1 : l.length ≤ 1000) : Ret F 38 [wv, lv] rows = some (.int .i64 (dot w l l.length), rows, none) := by
  refine i38 F38 ?_
  have := rweighed_loop hw hl hlen hb hl1 _ 0 rfl (by omega)
  simp
  simpa [dot] using this
end
end Go.Abs

set_option linter.unusedVariables false
set_option linter.unusedSimpArgs false
namespace Go.Abs
open Rd (Cp IsL_one IsL_cells IsL_tail lowO_n)
/-- The weights of the pieces from a to b. -/
def swt (u : List Int) (a b : Int) : Int := ((u.drop a.toNat).take (b.toNat + 1 - a.toNat)).sum
/-- The price of a part by weights. -/
def PQ (c u : List Int) : Int → Int → Int → Int → Int → Int := fun a b g l r => gI c g.toNat * swt u a b + l + r
theorem swt_bd {u : List Int} {n : Nat} (hu : wOK n u) (hn : n ≤ 12) {a b : Int} (h0 : 0 ≤ a) (h1 : a ≤ b) (h2 : b ≤ n) : 0 ≤ swt u a b ∧ swt u a b ≤ 13000 := by
  have h := sum_bd (l := (u.drop a.toNat).take (b.toNat + 1 - a.toNat)) (m := 1000) (fun x hx => by
    have := List.all_eq_true.1 hu.2.1 x (List.mem_of_mem_drop (List.mem_of_mem_take hx))
    simpa using this)
  have hl : ((u.drop a.toNat).take (b.toNat + 1 - a.toNat)).length ≤ 13 := by
    have := hu.1
    simp
    omega
  unfold swt
  omega
theorem mul_bd {x y m n : Int} (hx : 0 ≤ x ∧ x ≤ m) (hy : 0 ≤ y ∧ y ≤ n) : 0 ≤ x * y ∧ x * y ≤ m * n :=
  ⟨Int.mul_nonneg hx.1 hy.1, Int.mul_le_mul hx.2 hy.2 hy.1 (by omega)⟩
set_option maxHeartbeats 2000000 in
theorem qprice_ret {rows : List Row} {cv uv : AV} {c u : List Int} {n : Nat} {a b g l r : Int} {cid uid : Nat} (hc : IsL rows cv c) (hu : IsL rows uv u) (hcu : Cp 1 uv) (hr : row? rows cid = some [cv]) (hr2 : row? rows uid = some [uv]) (hw : wOK n u) (hn : n ≤ 12) (ha : 0 ≤ a) (hab : a ≤ b) (hb : b ≤ n)
    (h0 : 0 ≤ g) (hg : g < c.length) (hbd : 0 ≤ gI c g.toNat ∧ gI c g.toNat ≤ 1000) (hl : 0 ≤ l ∧ l ≤ 200000000) (hr3 : 0 ≤ r ∧ r ≤ 200000000) :
    Ret F 66 [pt a b, .int .i64 g, .int .i64 l, .int .i64 r, .ptr cid 0, .ptr uid 0] rows = some (.int .i64 (PQ c u a b g l r), rows, none) := by
  have hr' : ∀ L, row? (rows ++ L) cid = some [cv] := fun L => row?_old hr L
  have hr2' : ∀ L, row? (rows ++ L) uid = some [uv] := fun L => row?_old hr2 L
  have hs := swt_bd hw hn ha hab hb
  have hp := mul_bd hbd hs
  have hul := hw.1
  have wb : IntKind.i64.wrap (b + 1) = b + 1 := wrap64 (by omega) (by omega)
  have wa : a = (a.toNat : Int) := by omega
  have w1 : IntKind.i64.wrap (gI c g.toNat * swt u a b) = gI c g.toNat * swt u a b := wrap64 (by omega) (by omega)
  have w2 : IntKind.i64.wrap (gI c g.toNat * swt u a b + l) = gI c g.toNat * swt u a b + l := wrap64 (by omega) (by omega)
  have w3 : IntKind.i64.wrap (gI c g.toNat * swt u a b + l + r) = PQ c u a b g l r := wrap64 (by omega) (by omega)
  obtain ⟨v', e1, e2, _⟩ := IsL_mid (a := a.toNat) (b := b.toNat + 1) hu hcu (by omega) (by omega)
  rw [← wa, show ((b.toNat + 1 : Nat) : Int) = b + 1 from by omega] at e1
  have e3 := fun L => sum_ret (IsL_app e2 L) (fun x hx => by
    have := List.all_eq_true.1 hw.2.1 x (List.mem_of_mem_drop (List.mem_of_mem_take hx))
    simp at this
    omega) (by simp; omega)
  have hgn : g.toNat < c.length := by omega
  refine i66 F66 ?_
  simp only [show ((u.drop a.toNat).take (b.toNat + 1 - a.toNat)).sum = swt u a b from rfl] at e3
  simp (disch := first | omega | (simp; done) | fail) [hr', hr2', idxL hc, loadL hc, h0, hg, hgn, wb, e1, e3, w1, w2, w3]
theorem PF_Q {rows : List Row} {cv uv : AV} {c u : List Int} (hc : IsL rows cv c) (hn : c.length ≤ 12) (hall : (c.all fun x => decide (1 ≤ x ∧ x ≤ 1000)) = true) (hu : IsL rows uv u) (hcu : Cp 1 uv) (hw : wOK c.length u) : PF (rows ++ [.cells [cv], .cells [uv]]) 66 [.ptr rows.length 0, .ptr (rows.length + 1) 0] c.length (PQ c u) := by
  refine ⟨fun L a b g l r h0 h1 h2 h3 hl hr => ?_, fun a b g l r h0 h1 h2 h3 hl hr => ?_⟩
  · have hb := cost_bd hall (g := g.toNat) (by omega)
    refine qprice_ret (IsL_app (IsL_app hc _) _) (IsL_app (IsL_app hu _) _) hcu ?_ ?_ hw hn h0 (by omega) h3 (by omega) (by omega) ⟨by omega, hb.2⟩ hl hr
    · rw [List.append_assoc, row?_at0]; rfl
    · rw [List.append_assoc, row?_at]; rfl
  · have hb := cost_bd hall (g := g.toNat) (by omega)
    have hs := swt_bd hw hn h0 (show a ≤ b by omega) h3
    have hp := mul_bd (x := gI c g.toNat) (m := 1000) ⟨by omega, hb.2⟩ hs
    unfold PQ
    omega
theorem fin35 {rows : List Row} {a b d : Row} {l : List Int} {p e : Int} : fin rows (.tup [.int .i64 p, nlV (rows.length + 3) l, .int .i64 e]) (rows ++ a :: b :: d :: nlK l) rows.length = (.tup [.int .i64 p, nlV rows.length l, .int .i64 e], rows ++ nlK l, none) := by
  cases l with
  | nil => simp [fin, nlV, nlK]
  | cons x l =>
    have : ¬ rows.length + 3 < rows.length := by omega
    simp [fin, nlV, nlK, AV.plain1, AV.plain, AV.ren1, AV.ren, this]
set_option maxHeartbeats 4000000 in
/-- search.Weighed, of what is right. -/
theorem Weighed_ret {rows : List Row} {cv uv : AV} {c u : List Int} (hc : IsL rows cv c) (hn : c.length ≤ 12) (hall : (c.all fun x => decide (1 ≤ x ∧ x ≤ 1000)) = true) (hu : IsL rows uv u) (hcu : Cp 1 uv) (hw : wOK c.length u) :
    ∃ T, T.length = 338 ∧ Done (PQ c u) T c.length (c.length + 1) 0 ∧ Bnd T ∧ Ret F 35 [cv, uv] rows = some (.tup [.int .i64 (prT T 0 c.length), nlV rows.length (tpl T c.length 0 c.length), .int .i64 0], rows ++ nlK (tpl T c.length 0 c.length), none) := by
  obtain ⟨T, hf, hT, hD, hB⟩ := filled_ret (PF_Q hc hn hall hu hcu hw) (n := c.length) (by omega) (by omega)
  refine ⟨T, hT, hD, hB, ?_⟩
  have hone := IsL_one hc
  have hcell := IsL_cells hc
  have hone2 := IsL_one hu
  have hcell2 := IsL_cells hu
  have hul := hw.1
  have h1 := fun L => openWeights_ret (IsL_app hc L) hn hall (IsL_app hu L) (by omega)
  rw [if_pos hw] at h1
  have hwh : ∀ L, Ret F 60 [cv] (rows ++ L) = some (pt 0 c.length, rows ++ L, none) := fun L => whole_ret (IsL_app hc L)
  have hbp := fun L => bplan_ret (bid := rows.length + 2) (rows := rows ++ .cells [cv] :: .cells [uv] :: .cells (nums .i64 T) :: L) hT (show (c.length : Int) ≤ 12 by omega) (Done_Good hD) c.length 0 c.length (by omega) (by omega) (by omega) (by omega) (by rw [row?_at]; rfl)
  simp only [newL_eq] at hbp
  simp only [pt] at hwh hbp
  have q1 : (nums .i64 T)[c.length]? = some (.int .i64 (prT T 0 c.length)) := by
    unfold prT
    rw [show (13 * 0 + (c.length : Int)).toNat = c.length from by omega, nums_get, gI_get (by omega)]; rfl
  have hf' : Ret F 57 [.int .i64 c.length, .func 66 [.ptr rows.length 0, .ptr (rows.length + 1) 0]] (rows ++ [.cells [cv], .cells [uv]]) = some (.ptr (rows.length + 2) 0, rows ++ [.cells [cv], .cells [uv], .cells (nums .i64 T)], none) := by
    rw [hf]; simp
  refine i35 F35 ?_
  simp [hone, hcell, hone2, hcell2, h1, -uc35s3, jc35s3]
  unfold Jc35s3
  simp [lenL hc, hf', -uc35k0]
  rw [uc35k0]
  simp [lenL hc, hone, hcell, hwh, hbp, q1, maskE_cons, show idx? 0 13 = some 0 from rfl, show c.length < 13 by omega, Function.comp_def]
  exact fin35
end Go.Abs

set_option linter.unusedVariables false
set_option linter.unusedSimpArgs false
namespace Go.Abs
open Rd (Cp IsL_one IsL_cells IsL_tail lowO_n)
/-- A part's price is the least one. -/
def BN (P : Int → Int → Int → Int → Int → Int) (f : Nat → Nat → Int) (a b : Nat) : Prop := (a = b → f a b = 0) ∧ (a < b → (∃ g : Nat, a ≤ g ∧ g < b ∧ f a b = P a b g (f a g) (f (g + 1) b)) ∧ ∀ g : Nat, a ≤ g → g < b → f a b ≤ P a b g (f a g) (f (g + 1) b))
theorem BN_unique {P : Int → Int → Int → Int → Int → Int} {f f' : Nat → Nat → Int} {n : Nat} (h : ∀ a b, a ≤ b → b ≤ n → BN P f a b) (h' : ∀ a b, a ≤ b → b ≤ n → BN P f' a b) : ∀ (d a b : Nat), b - a ≤ d → a ≤ b → b ≤ n → f a b = f' a b := by
  intro d
  induction d with
  | zero =>
    intro a b hd h1 h2
    have : a = b := by omega
    rw [(h a b h1 h2).1 this, (h' a b h1 h2).1 this]
  | succ d ih =>
    intro a b hd h1 h2
    by_cases e : a = b
    · rw [(h a b h1 h2).1 e, (h' a b h1 h2).1 e]
    · obtain ⟨⟨g, g1, g2, g3⟩, g4⟩ := (h a b h1 h2).2 (by omega)
      obtain ⟨⟨k, k1, k2, k3⟩, k4⟩ := (h' a b h1 h2).2 (by omega)
      have e1 := g4 k k1 k2
      have e2 := k4 g g1 g2
      rw [ih a k (by omega) k1 (by omega), ih (k + 1) b (by omega) (by omega) h2, ← k3] at e1
      rw [← ih a g (by omega) g1 (by omega), ← ih (g + 1) b (by omega) (by omega) h2, ← g3] at e2
      omega
theorem Done_BN {P : Int → Int → Int → Int → Int → Int} {T : List Int} {n : Nat} (h : Done P T n (n + 1) 0) : ∀ a b : Nat, a ≤ b → b ≤ n → BN P (fun a b => prT T a b) a b := by
  intro a b h1 h2
  obtain ⟨d1, d2⟩ := h a b (by omega) (by omega) (by omega) (.inl (by omega))
  refine ⟨fun e => d1 (by omega), fun e => ?_⟩
  obtain ⟨b1, b2, b3, b4⟩ := d2 (by omega)
  refine ⟨⟨(gateT T a b).toNat, by omega, by omega, ?_⟩, fun g g1 g2 => ?_⟩
  · dsimp only
    rw [show (((gateT T a b).toNat + 1 : Nat) : Int) = gateT T a b + 1 from by omega, show (((gateT T a b).toNat : Nat) : Int) = gateT T a b from by omega]
    exact b3
  · have := b4 g (by omega) (by omega)
    dsimp only
    rw [show ((g + 1 : Nat) : Int) = g + 1 from by omega]
    exact this
def oR (base n i : Nat) : List AV := (List.range n).map fun j => if j < i then .nilslice else .slice (base + (n - j)) 0 n (.at_ n)
def Rw (n i : Nat) (f : Nat → Nat → Int) : List Row := (List.range (n - i)).map fun t => .cells (nums .i64 (tab n (f (n - 1 - t))))
def LR (rows : List Row) (n i : Nat) (f : Nat → Nat → Int) : List Row := rows ++ (.cells (oR rows.length n i) :: Rw n i f)
def upd (f : Nat → Nat → Int) (i k : Nat) (v : Int) : Nat → Nat → Int := fun a b => if a = i ∧ b = k then v else f a b
section
variable {rows : List Row} {n i j k : Nat} {f : Nat → Nat → Int}
@[simp] theorem oR_len {base : Nat} : (oR base n i).length = n := by simp [oR]
theorem oR_get {base : Nat} (h1 : i ≤ j) (h2 : j < n) : (oR base n i)[j]? = some (.slice (base + (n - j)) 0 n (.at_ n)) := by
  unfold oR
  rw [List.getElem?_map, List.getElem?_range h2]
  simp [show ¬ (j < i) by omega]
theorem LR_len (h : i ≤ n) : (LR rows n i f).length = rows.length + (1 + (n - i)) := by simp [LR, Rw]; omega
theorem LR_outer : row? (LR rows n i f) rows.length = some (oR rows.length n i) := by simp [LR]
theorem LR_outerC : cells? (LR rows n i f) rows.length = some (oR rows.length n i) := by simp [LR]
theorem LR_at (h1 : i ≤ j) (h2 : j < n) : (LR rows n i f)[rows.length + (n - j)]? = some (.cells (nums .i64 (tab n (f j)))) := by
  unfold LR
  rw [rows_at, show n - j = (n - 1 - j) + 1 from by omega, List.getElem?_cons_succ]
  unfold Rw
  rw [List.getElem?_map, List.getElem?_range (by omega)]
  simp [show n - 1 - (n - 1 - j) = j by omega]
theorem LR_row (h1 : i ≤ j) (h2 : j < n) : row? (LR rows n i f) (rows.length + (n - j)) = some (nums .i64 (tab n (f j))) := by unfold row?; rw [LR_at h1 h2]
theorem LR_cells (h1 : i ≤ j) (h2 : j < n) : cells? (LR rows n i f) (rows.length + (n - j)) = some (nums .i64 (tab n (f j))) := by unfold cells?; rw [LR_at h1 h2]
theorem LR_set {v : Int} (h1 : i < n) : (LR rows n i f).set (rows.length + (n - i)) (.cells (nums .i64 ((tab n (f i)).set k v))) = LR rows n i (upd f i k v) := by
  unfold LR
  rw [rows_set, show n - i = (n - 1 - i) + 1 from by omega, List.set_cons_succ]
  congr 2
  unfold Rw
  apply List.ext_getElem?
  intro t
  rw [List.getElem?_set, List.getElem?_map, List.getElem?_map]
  by_cases ht : t < n - i
  · rw [List.getElem?_range ht]
    by_cases e : n - 1 - i = t
    · subst e
      have e2 : n - 1 - (n - 1 - i) = i := by omega
      simp only [if_true, List.length_map, List.length_range, if_pos ht, Option.map_some, e2]
      rw [tab_set]
      congr 3
      apply tab_congr
      intro x _
      simp [upd]
    · have e2 : ¬ (n - 1 - t = i) := by omega
      simp only [if_neg e, Option.map_some]
      congr 3
      apply tab_congr
      intro x _
      simp [upd, e2]
  · rw [List.getElem?_eq_none (by simp; omega)]
    by_cases e : n - 1 - i = t
    · subst e
      simp [ht]
    · simp [e]
theorem LR_new (h : i < n) : (LR rows n (i + 1) f ++ [Row.cells (nums .i64 (List.replicate n 0))]).set rows.length (.cells ((oR rows.length n (i + 1)).set i (.slice (rows.length + (n - i)) 0 n (.at_ n)))) = LR rows n i (fun a b => if a = i then 0 else f a b) := by
  unfold LR
  rw [List.append_assoc, List.cons_append, rows_set0, List.set_cons_zero]
  congr 2
  · congr 1
    unfold oR
    apply List.ext_getElem?
    intro t
    rw [List.getElem?_set, List.getElem?_map, List.getElem?_map]
    by_cases ht : t < n
    · rw [List.getElem?_range ht]
      by_cases e : i = t
      · subst e; simp [ht]
      · have : (t < i + 1) ↔ (t < i) := by omega
        simp [e, this]
    · rw [List.getElem?_eq_none (by simp; omega)]
      by_cases e : i = t
      · subst e; simp [ht]
      · simp [e]
  · unfold Rw
    apply List.ext_getElem?
    intro t
    by_cases ht : t < n - i
    · rw [List.getElem?_map, List.getElem?_range ht]
      by_cases e : t < n - (i + 1)
      · rw [List.getElem?_append_left (by simpa using e), List.getElem?_map, List.getElem?_range e]
        simp only [Option.map_some]
        congr 3
        apply tab_congr
        intro x _
        rw [if_neg (by omega)]
      · have e1 : t = n - (i + 1) := by omega
        subst e1
        rw [List.getElem?_append_right (by simp)]
        simp only [List.length_map, List.length_range, Nat.sub_self, Option.map_some, List.getElem?_cons_zero]
        have e2 : n - 1 - (n - (i + 1)) = i := by omega
        congr 3
        rw [e2]
        unfold tab
        simp [List.map_const']
    · rw [List.getElem?_eq_none (by simp; omega), List.getElem?_eq_none (by simp; omega)]
theorem LR_0 : rows ++ [Row.cells (List.replicate n .nilslice)] = LR rows n n f := by
  unfold LR Rw oR
  simp
  apply List.ext_getElem?
  intro t
  rw [List.getElem?_map]
  by_cases ht : t < n
  · rw [List.getElem?_range ht]; simp [ht]
  · rw [List.getElem?_eq_none (by simp; omega), List.getElem?_eq_none (by simp; omega)]; rfl
end
end Go.Abs

set_option linter.unusedVariables false
set_option linter.unusedSimpArgs false
namespace Go.Abs
open Rd (Cp IsL_one IsL_cells IsL_tail lowO_n)
/-- The price that is meant: by the worst piece, or by weights. -/
def Mode (c u : List Int) (P : Int → Int → Int → Int → Int → Int) : Prop := (u = [] ∧ P = PW c) ∨ (wOK c.length u ∧ P = PQ c u)
def Pbd (n : Nat) (P : Int → Int → Int → Int → Int → Int) : Prop := ∀ a b g l r : Int, 0 ≤ a → a ≤ g → g < b → b ≤ n → (0 ≤ l ∧ l ≤ 200000000) → (0 ≤ r ∧ r ≤ 200000000) → 0 ≤ P a b g l r ∧ P a b g l r ≤ 13000000 + l + r
/-- What is known of the parts behind (i, k). -/
def Bef (P : Int → Int → Int → Int → Int → Int) (f : Nat → Nat → Int) (n i k : Nat) : Prop := ∀ a b, a ≤ b → b < n → (i < a ∨ (a = i ∧ b < k)) → BN P f a b ∧ 0 ≤ f a b ∧ f a b ≤ 13000000 * ((b : Int) - a)
def CurL (P : Int → Int → Int → Int → Int → Int) (f : Nat → Nat → Int) (i k g : Nat) : Prop :=
  (g = i ∧ f i k = -1) ∨ (i < g ∧ 0 ≤ f i k ∧ f i k ≤ 13000000 * ((k : Int) - i) ∧ (∃ x : Nat, i ≤ x ∧ x < g ∧ f i k = P i k x (f i x) (f (x + 1) k)) ∧ ∀ x : Nat, i ≤ x → x < g → f i k ≤ P i k x (f i x) (f (x + 1) k))
theorem upd_ne {f : Nat → Nat → Int} {i k a b : Nat} {v : Int} (h : ¬ (a = i ∧ b = k)) : upd f i k v a b = f a b := by unfold upd; rw [if_neg h]
theorem upd_eq {f : Nat → Nat → Int} {i k : Nat} {v : Int} : upd f i k v i k = v := by unfold upd; rw [if_pos ⟨rfl, rfl⟩]
theorem BN_upd {P : Int → Int → Int → Int → Int → Int} {f : Nat → Nat → Int} {i k a b : Nat} {v : Int} (hi : i < a ∨ (a = i ∧ b < k)) (h : BN P f a b) : BN P (upd f i k v) a b := by
  obtain ⟨h1, h2⟩ := h
  have e0 : upd f i k v a b = f a b := upd_ne (by omega)
  have e1 : ∀ x, x ≤ b → upd f i k v a x = f a x := fun x hx => upd_ne (by omega)
  have e2 : ∀ x, a < x → upd f i k v x b = f x b := fun x hx => upd_ne (by omega)
  refine ⟨fun e => by rw [e0]; exact h1 e, fun e => ?_⟩
  obtain ⟨⟨g, g1, g2, g3⟩, g4⟩ := h2 e
  refine ⟨⟨g, g1, g2, by rw [e0, e1 g (by omega), e2 (g + 1) (by omega)]; exact g3⟩, fun x x1 x2 => ?_⟩
  rw [e0, e1 x (by omega), e2 (x + 1) (by omega)]; exact g4 x x1 x2
theorem Bef_upd {P : Int → Int → Int → Int → Int → Int} {f : Nat → Nat → Int} {n i k : Nat} {v : Int} (h : Bef P f n i k) : Bef P (upd f i k v) n i k := by
  intro a b h1 h2 h3
  obtain ⟨x1, x2⟩ := h a b h1 h2 h3
  have e0 : upd f i k v a b = f a b := upd_ne (by omega)
  exact ⟨BN_upd h3 x1, by rw [e0]; exact x2⟩
theorem Cur_step {P : Int → Int → Int → Int → Int → Int} {f : Nat → Nat → Int} {n i k g : Nat} {p : Int} (hB : Bef P f n i k) (hk : k < n) (hig : i ≤ g) (hgk : g < k) (hp : P i k g (f i g) (f (g + 1) k) = p) (hp0 : 0 ≤ p ∧ p ≤ 13000000 * ((k : Int) - i)) (hC : CurL P f i k g) :
    ((f i k < 0 ∨ p < f i k) → CurL P (upd f i k p) i k (g + 1)) ∧ (¬ (f i k < 0 ∨ p < f i k) → CurL P f i k (g + 1)) := by
  have e1 : ∀ x, x < k → upd f i k p i x = f i x := fun x hx => upd_ne (by omega)
  have e2 : ∀ x, i ≤ x → upd f i k p (x + 1) k = f (x + 1) k := fun x hx => upd_ne (by omega)
  constructor
  · intro h
    refine .inr ⟨by omega, by rw [upd_eq]; exact hp0.1, by rw [upd_eq]; exact hp0.2, ⟨g, hig, by omega, by rw [upd_eq, e1 g hgk, e2 g hig, hp]⟩, fun x x1 x2 => ?_⟩
    rw [upd_eq, e1 x (by omega), e2 x x1]
    by_cases e : x = g
    · subst e; omega
    · rcases hC with ⟨c1, c2⟩ | ⟨c1, c2, c3, c4, c5⟩
      · omega
      · have := c5 x x1 (by omega); omega
  · intro h
    rcases hC with ⟨c1, c2⟩ | ⟨c1, c2, c3, ⟨y, y1, y2, y3⟩, c5⟩
    · omega
    · refine .inr ⟨by omega, c2, c3, ⟨y, y1, by omega, y3⟩, fun x x1 x2 => ?_⟩
      by_cases e : x = g
      · subst e; omega
      · exact c5 x x1 (by omega)
theorem Cur_end {P : Int → Int → Int → Int → Int → Int} {f : Nat → Nat → Int} {n i k : Nat} (hik : i < k) (hB : Bef P f n i k) (hC : CurL P f i k k) : Bef P f n i (k + 1) := by
  intro a b h1 h2 h3
  by_cases e : a = i ∧ b = k
  · obtain ⟨rfl, rfl⟩ := e
    rcases hC with ⟨c1, c2⟩ | ⟨c1, c2, c3, c4, c5⟩
    · omega
    · exact ⟨⟨fun e => by omega, fun _ => ⟨c4, c5⟩⟩, c2, c3⟩
  · exact hB a b h1 h2 (by omega)
section
variable {rows : List Row} {cv uv : AV} {c u : List Int} {P : Int → Int → Int → Int → Int → Int} {av bv : AV} {r : AV × List Row × Nat → Prop} {n : Nat}
set_option maxHeartbeats 8000000 in
theorem least_g (hc : IsL rows cv c) (hu : IsL rows uv u) (hn : c.length + 1 = n) (hn2 : n ≤ 13) (hall : (c.all fun x => decide (1 ≤ x ∧ x ≤ 1000)) = true) (hm : Mode c u P) (hP : Pbd c.length P) {i k : Nat} (hik : i < k) (hk : k < n) {al : Int} (hal : u ≠ [] → al = swt u i k)
    (hkk : ∀ f, Bef P f n i (k + 1) → Lc36l4 F (.fn [.t 8]) cv uv av bv (.int .i64 n) (.slice rows.length 0 n (.at_ n)) (.int .i64 i) (.int .i64 al) (.int .i64 ((k + 1 : Nat) : Int)) (LR rows n i f) rows.length r) :
    ∀ (d g : Nat) (f : Nat → Nat → Int), k - g = d → i ≤ g → g ≤ k → Bef P f n i k → CurL P f i k g →
    Lc36l6 F (.fn [.t 8]) cv uv av bv (.int .i64 n) (.slice rows.length 0 n (.at_ n)) (.int .i64 i) (.int .i64 al) (.int .i64 k) (.int .i64 g) (LR rows n i f) rows.length r := by
  have w0 : IntKind.i64.wrap ((k : Int) + 1) = k + 1 := wrap64 (by omega) (by omega)
  intro d
  induction d with
  | zero =>
    intro g f hd h1 h2 hB hC
    have : g = k := by omega
    subst this
    have := hkk f (Cur_end hik hB hC)
    unfold Lc36l6
    simp [w0]
    simpa using this
  | succ d ih =>
    intro g f hd h1 h2 hB hC
    have hg : g < k := by omega
    have w1 : IntKind.i64.wrap ((g : Int) + 1) = g + 1 := wrap64 (by omega) (by omega)
    have b1 := (hB i g h1 (by omega) (.inr ⟨rfl, hg⟩)).2
    have b2 := (hB (g + 1) k (by omega) hk (.inl (by omega))).2
    have hcb := cost_bd hall (g := g) (by omega)
    have hpb := hP i k g (f i g) (f (g + 1) k) (by omega) (by omega) (by omega) (by omega) (by omega) (by omega)
    generalize hp : P i k g (f i g) (f (g + 1) k) = p at hpb
    obtain ⟨s1, s2⟩ := Cur_step hB hk h1 hg hp ⟨hpb.1, by omega⟩ hC
    have hcur : -1 ≤ f i k ∧ f i k ≤ 200000000 := by
      rcases hC with ⟨c1, c2⟩ | ⟨c1, c2, c3, _⟩ <;> omega
    have r0 : row? (LR rows n i f) rows.length = some (oR rows.length n i) := LR_outer
    have o1 : ∀ h, (oR rows.length n i)[i]'h = .slice (rows.length + (n - i)) 0 n (.at_ n) := fun h => Option.some.inj ((List.getElem?_eq_getElem h).symm.trans (oR_get (Nat.le_refl i) (by omega)))
    have o2 : ∀ h, (oR rows.length n i)[g + 1]'h = .slice (rows.length + (n - (g + 1))) 0 n (.at_ n) := fun h => Option.some.inj ((List.getElem?_eq_getElem h).symm.trans (oR_get (by omega) (by omega)))
    have r1 := LR_row (rows := rows) (i := i) (j := i) (n := n) (f := f) (Nat.le_refl i) (by omega)
    have r2 := LR_row (rows := rows) (i := i) (j := g + 1) (n := n) (f := f) (by omega) (by omega)
    have rc := LR_cells (rows := rows) (i := i) (j := i) (n := n) (f := f) (Nat.le_refl i) (by omega)
    have hLi : ∀ z, evP (LR rows n i f) (.idxS 1 (.c cv) (.c (.int .i64 z))) = evP (LR rows n i f) (.idxS 1 (.c cv) (.c (.int .i64 z))) := fun _ => rfl
    have l1 : evP (LR rows n i f) (.idxS 1 (.c cv) (.c (.int .i64 g))) = some (.ptr (sid cv) (soff cv + g)) := by
      have := idxL hc (.cells (oR rows.length n i) :: Rw n i f) (k := .i64) (i := (g : Int)) (by omega) (by omega)
      rw [Int.toNat_natCast] at this
      exact this
    have l2 : evP (LR rows n i f) (.load1 (.c (.ptr (sid cv) (soff cv + g)))) = some (.int .i64 (gI c g)) := loadL hc (.cells (oR rows.length n i) :: Rw n i f) (by omega)
    have l3 : evP (LR rows n i f) (.len 0 (.c uv)) = some (.int .i64 u.length) := lenL hu _
    have t1 : (nums .i64 (tab n (f i)))[g]? = some (.int .i64 (f i g)) := by rw [nums_get, tab_get (by omega)]; rfl
    have t2 : (nums .i64 (tab n (f (g + 1))))[k]? = some (.int .i64 (f (g + 1) k)) := by rw [nums_get, tab_get (by omega)]; rfl
    have t3 : (nums .i64 (tab n (f i)))[k]? = some (.int .i64 (f i k)) := by rw [nums_get, tab_get (by omega)]; rfl
    have wW : IntKind.i64.wrap (gI c g + max (f i g) (f (g + 1) k)) = gI c g + max (f i g) (f (g + 1) k) := wrap64 (by omega) (by omega)
    have i1 : g < n := by omega
    have i2 : g + 1 < n := by omega
    have i3 : i < n := by omega
    have x2 : idx? ((g : Int) + 1) n = some (g + 1) := by rw [idx?_ok (by omega) (by omega)]; congr 1
    have hset : ∀ v, (LR rows n i f).set (rows.length + (n - i)) (.cells (nums .i64 ((tab n (f i)).set k v))) = LR rows n i (upd f i k v) := fun v => LR_set i3
    have ihA := fun f' => ih (g + 1) f' (by omega) (by omega) (by omega)
    rcases hm with ⟨rfl, rfl⟩ | ⟨hw, rfl⟩
    · have ep : gI c g + max (f i g) (f (g + 1) k) = p := hp
      rw [ep] at wW
      by_cases hlt : f i k < 0 ∨ p < f i k
      · have := ihA _ (Bef_upd hB) (s1 hlt)
        unfold Lc36l6
        rcases hlt with hlt | hlt
        · simp [hg, hk, i1, i2, i3, r0, o1, o2, r1, r2, rc, l1, l2, l3, t1, t2, t3, w1, x2, ep, wW, hlt, hset]
          simpa using this
        · by_cases h0 : f i k < 0
          · simp [hg, hk, i1, i2, i3, r0, o1, o2, r1, r2, rc, l1, l2, l3, t1, t2, t3, w1, x2, ep, wW, h0, hset]
            simpa using this
          · simp [hg, hk, i1, i2, i3, r0, o1, o2, r1, r2, rc, l1, l2, l3, t1, t2, t3, w1, x2, ep, wW, hlt, h0, hset]
            simpa using this
      · have := ihA _ hB (s2 hlt)
        unfold Lc36l6
        simp [hg, hk, i1, i2, i3, r0, o1, o2, r1, r2, rc, l1, l2, l3, t1, t2, t3, w1, x2, ep, wW, show ¬ f i k < 0 by omega, show ¬ p < f i k by omega, hset]
        simpa using this
    · have hune : u ≠ [] := by intro e; rw [e] at hw; have := hw.1; simp at this
      have hul := hw.1
      have eal := hal hune
      have hsb := swt_bd hw (by omega) (a := i) (b := k) (by omega) (by omega) (by omega)
      have hmb := mul_bd (x := gI c g) (m := 1000) ⟨by omega, hcb.2⟩ hsb
      have ep : gI c g * swt u i k + f i g + f (g + 1) k = p := hp
      rw [← eal] at ep hsb hmb
      have hcomm : al * gI c g = gI c g * al := Int.mul_comm _ _
      have wQ1 : IntKind.i64.wrap (al * gI c g) = gI c g * al := by rw [hcomm]; exact wrap64 (by omega) (by omega)
      have wQ2 : IntKind.i64.wrap (gI c g * al + f i g) = gI c g * al + f i g := wrap64 (by omega) (by omega)
      have wQ3 : IntKind.i64.wrap (gI c g * al + f i g + f (g + 1) k) = p := by rw [ep]; exact wrap64 (by omega) (by omega)
      have lu : (0 : Int) < u.length := by omega
      have lu2 : 0 < u.length := by omega
      by_cases hlt : f i k < 0 ∨ p < f i k
      · have := ihA _ (Bef_upd hB) (s1 hlt)
        unfold Lc36l6
        rcases hlt with hlt | hlt
        · simp [hg, hk, i1, i2, i3, r0, o1, o2, r1, r2, rc, l1, l2, l3, t1, t2, t3, w1, x2, lu, lu2, wQ1, wQ2, wQ3, wW, hlt, hset]
          simpa using this
        · by_cases h0 : f i k < 0
          · simp [hg, hk, i1, i2, i3, r0, o1, o2, r1, r2, rc, l1, l2, l3, t1, t2, t3, w1, x2, lu, lu2, wQ1, wQ2, wQ3, wW, h0, hset]
            simpa using this
          · simp [hg, hk, i1, i2, i3, r0, o1, o2, r1, r2, rc, l1, l2, l3, t1, t2, t3, w1, x2, lu, lu2, wQ1, wQ2, wQ3, wW, hlt, h0, hset]
            simpa using this
      · have := ihA _ hB (s2 hlt)
        unfold Lc36l6
        simp [hg, hk, i1, i2, i3, r0, o1, o2, r1, r2, rc, l1, l2, l3, t1, t2, t3, w1, x2, lu, lu2, wQ1, wQ2, wQ3, wW, show ¬ f i k < 0 by omega, show ¬ p < f i k by omega, hset]
        simpa using this
/-- The weights from i on, before k. -/
def swS (u : List Int) (i k : Nat) : Int := ((u.drop i).take (k - i)).sum
theorem swS_step {u : List Int} {i k : Nat} (hik : i ≤ k) (hk : k < u.length) : swS u i k + gI u k = swS u i (k + 1) := by
  unfold swS
  rw [show k + 1 - i = (k - i) + 1 from by omega, List.take_add_one, List.getElem?_drop, show i + (k - i) = k from by omega, gI_get hk]
  simp
theorem swS_swt {u : List Int} {i k : Nat} : swS u i (k + 1) = swt u i k := by unfold swS swt; simp
set_option maxHeartbeats 4000000 in
theorem least_k (hc : IsL rows cv c) (hu : IsL rows uv u) (hn : c.length + 1 = n) (hn2 : n ≤ 13) (hall : (c.all fun x => decide (1 ≤ x ∧ x ≤ 1000)) = true) (hm : Mode c u P) (hP : Pbd c.length P) {i : Nat} (hi : i < n)
    (hkk : ∀ f, Bef P f n i n → Lc36l2 F (.fn [.t 8]) cv uv av bv (.int .i64 n) (.slice rows.length 0 n (.at_ n)) (.int .i64 ((i : Int) - 1)) (LR rows n i f) rows.length r) :
    ∀ (d k : Nat) (f : Nat → Nat → Int), n - k = d → i ≤ k → k ≤ n → Bef P f n i k → (k = i → f i i = 0) →
    Lc36l4 F (.fn [.t 8]) cv uv av bv (.int .i64 n) (.slice rows.length 0 n (.at_ n)) (.int .i64 i) (.int .i64 (if u = [] then 0 else swS u i k)) (.int .i64 k) (LR rows n i f) rows.length r := by
  have w0 : IntKind.i64.wrap ((i : Int) - 1) = i - 1 := wrap64 (by omega) (by omega)
  intro d
  induction d with
  | zero =>
    intro k f hd h1 h2 hB h0
    have : k = n := by omega
    subst this
    have := hkk f hB
    unfold Lc36l4
    simp [w0]
    exact this
  | succ d ih =>
    intro k f hd h1 h2 hB h0
    have hk : k < n := by omega
    have w1 : IntKind.i64.wrap ((k : Int) + 1) = k + 1 := wrap64 (by omega) (by omega)
    have l3 : evP (LR rows n i f) (.len 0 (.c uv)) = some (.int .i64 u.length) := lenL hu _
    have r0 : row? (LR rows n i f) rows.length = some (oR rows.length n i) := LR_outer
    have o1 : ∀ h, (oR rows.length n i)[i]'h = .slice (rows.length + (n - i)) 0 n (.at_ n) := fun h => Option.some.inj ((List.getElem?_eq_getElem h).symm.trans (oR_get (Nat.le_refl i) (by omega)))
    have rc := LR_cells (rows := rows) (i := i) (j := i) (n := n) (f := f) (Nat.le_refl i) (by omega)
    have hset : ∀ v, (LR rows n i f).set (rows.length + (n - i)) (.cells (nums .i64 ((tab n (f i)).set k v))) = LR rows n i (upd f i k v) := fun v => LR_set hi
    -- the weights so far
    have hsum : ∀ al, al = (if u = [] then 0 else swS u i k) → (u ≠ [] → evP (LR rows n i f) (.idxS 1 (.c uv) (.c (.int .i64 k))) = some (.ptr (sid uv) (soff uv + k)) ∧ evP (LR rows n i f) (.load1 (.c (.ptr (sid uv) (soff uv + k)))) = some (.int .i64 (gI u k)) ∧ IntKind.i64.wrap (al + gI u k) = swS u i (k + 1) ∧ 0 < u.length) := by
      intro al hal hu0
      rcases hm with ⟨e, _⟩ | ⟨hw, _⟩
      · exact absurd e hu0
      · have hul := hw.1
        rw [if_neg hu0] at hal
        have hsb := swt_bd hw (by omega) (a := i) (b := k) (by omega) (by omega) (by omega)
        rw [← swS_swt] at hsb
        have hst := swS_step (u := u) h1 (by omega)
        refine ⟨?_, loadL hu (.cells (oR rows.length n i) :: Rw n i f) (by omega), ?_, by omega⟩
        · have := idxL hu (.cells (oR rows.length n i) :: Rw n i f) (k := .i64) (i := (k : Int)) (by omega) (by omega)
          rw [Int.toNat_natCast] at this
          exact this
        · rw [hal, hst]
          exact wrap64 (by omega) (by omega)
    have hsum := hsum _ rfl
    by_cases hik : k = i
    · have hB' : Bef P f n i (k + 1) := by
        intro a b x1 x2 x3
        by_cases e : a = i ∧ b = k
        · obtain ⟨rfl, rfl⟩ := e
          subst hik
          have := h0 rfl
          exact ⟨⟨fun _ => this, fun e => by omega⟩, by omega, by omega⟩
        · exact hB a b x1 x2 (by omega)
      have := ih (k + 1) f (by omega) (by omega) (by omega) hB' (fun e => by omega)
      have hki : (k : Int) = i := by omega
      unfold Lc36l4
      by_cases hu0 : u = []
      · subst hu0
        simp only [if_true] at this ⊢
        simp [hk, l3, hik, hi, w1]
        rw [hki] at w1
        simpa [hik, w1] using this
      · obtain ⟨m1, m2, m3, m4⟩ := hsum hu0
        simp only [if_neg hu0] at this m3 ⊢
        simp [hk, l3, m1, m2, m3, m4, hik, hi]
        simp only [hik] at m1 m2 m3 this
        rw [hki] at w1
        simpa [hik, w1, m1, m2, m3] using this
    · have hik' : i < k := by omega
      have hki : ¬ (k : Int) = i := by omega
      have hB2 : Bef P (upd f i k (-1)) n i k := Bef_upd hB
      have hC : CurL P (upd f i k (-1)) i k i := .inl ⟨rfl, upd_eq⟩
      unfold Lc36l4
      by_cases hu0 : u = []
      · subst hu0
        have := least_g (al := 0) (av := av) (bv := bv) (r := r) hc hu hn hn2 hall hm hP hik' hk (fun e => absurd rfl e) (fun f' hf' => by
          have := ih (k + 1) f' (by omega) (by omega) (by omega) hf' (fun e => by omega)
          simpa using this) _ i _ rfl (Nat.le_refl _) (by omega) hB2 hC
        simp only [if_true] at this ⊢
        simp [hk, l3, hki, hi, r0, o1, rc, hset]
        exact this
      · obtain ⟨m1, m2, m3, m4⟩ := hsum hu0
        have := least_g (al := swS u i (k + 1)) (av := av) (bv := bv) (r := r) hc hu hn hn2 hall hm hP hik' hk (fun e => swS_swt) (fun f' hf' => by
          have := ih (k + 1) f' (by omega) (by omega) (by omega) hf' (fun e => by omega)
          rw [if_neg hu0] at this
          exact this) _ i _ rfl (Nat.le_refl _) (by omega) hB2 hC
        simp only [if_neg hu0] at m3 ⊢
        simp [hk, l3, m1, m2, m3, m4, hki, hi, r0, o1, rc, hset]
        exact this
theorem BN_new {f : Nat → Nat → Int} {i a b : Nat} (hi : i < a) (h : BN P f a b) : BN P (fun a b => if a = i then 0 else f a b) a b := by
  obtain ⟨h1, h2⟩ := h
  refine ⟨fun e => ?_, fun e => ?_⟩
  · dsimp only; rw [if_neg (by omega)]; exact h1 e
  · obtain ⟨⟨g, g1, g2, g3⟩, g4⟩ := h2 e
    refine ⟨⟨g, g1, g2, ?_⟩, fun x x1 x2 => ?_⟩
    · dsimp only; rw [if_neg (by omega), if_neg (by omega), if_neg (by omega)]; exact g3
    · dsimp only; rw [if_neg (by omega), if_neg (by omega), if_neg (by omega)]; exact g4 x x1 x2
set_option maxHeartbeats 4000000 in
theorem least_i (hc : IsL rows cv c) (hu : IsL rows uv u) (hn : c.length + 1 = n) (hn2 : n ≤ 13) (hall : (c.all fun x => decide (1 ≤ x ∧ x ≤ 1000)) = true) (hm : Mode c u P) (hP : Pbd c.length P)
    (hend : ∀ f, (∀ a b, a ≤ b → b < n → BN P f a b) → r (.int .i64 (f 0 c.length), LR rows n 0 f, rows.length)) :
    ∀ (m : Nat) (f : Nat → Nat → Int), m ≤ n → (∀ a b, m ≤ a → a ≤ b → b < n → BN P f a b ∧ 0 ≤ f a b ∧ f a b ≤ 13000000 * ((b : Int) - a)) →
    Lc36l2 F (.fn [.t 8]) cv uv (.int .i64 0) (.int .i64 c.length) (.int .i64 n) (.slice rows.length 0 n (.at_ n)) (.int .i64 ((m : Int) - 1)) (LR rows n m f) rows.length r := by
  intro m
  induction m with
  | zero =>
    intro f h1 hB
    have := hend f fun a b x1 x2 => (hB a b (Nat.zero_le _) x1 x2).1
    have r0 : row? (LR rows n 0 f) rows.length = some (oR rows.length n 0) := LR_outer
    have o1 : ∀ h, (oR rows.length n 0)[0]'h = .slice (rows.length + n) 0 n (.at_ n) := fun h => Option.some.inj ((List.getElem?_eq_getElem h).symm.trans (by have := oR_get (base := rows.length) (i := 0) (j := 0) (n := n) (Nat.le_refl 0) (by omega); rwa [Nat.sub_zero] at this))
    have r1 := LR_row (rows := rows) (i := 0) (j := 0) (n := n) (f := f) (Nat.le_refl 0) (by omega)
    rw [Nat.sub_zero] at r1
    have i0 : idx? 0 n = some 0 := by rw [idx?_ok (by omega) (by omega)]; rfl
    have hcn : c.length < n := by omega
    unfold Lc36l2
    simp [r0, o1, r1, i0, hcn, show 0 < n by omega]
    exact this
  | succ i ih =>
    intro f h1 hB
    have hi : i < n := by omega
    have hnl : (n : Int) ≤ 1073741824 := by omega
    have hB' : Bef P (fun a b => if a = i then 0 else f a b) n i i := by
      intro a b x1 x2 x3
      have : i < a := by omega
      obtain ⟨y1, y2⟩ := hB a b (by omega) x1 x2
      refine ⟨BN_new this y1, ?_⟩
      dsimp only
      rw [if_neg (by omega)]
      exact y2
    have hk := least_k (av := .int .i64 0) (bv := .int .i64 c.length) (r := r) hc hu hn hn2 hall hm hP hi (fun f' hf' => ih f' (by omega) (fun a b x1 x2 x3 => hf' a b x2 x3 (by omega))) _ i _ rfl (Nat.le_refl i) (by omega) hB' (fun _ => by simp)
    have hs0 : (if u = [] then (0 : Int) else swS u i i) = 0 := by unfold swS; simp
    rw [hs0] at hk
    have e1 : ((i + 1 : Nat) : Int) - 1 = i := by omega
    have hl := LR_len (rows := rows) (f := f) (show i + 1 ≤ n by omega)
    have hl2 : (LR rows n (i + 1) f).length = rows.length + (n - i) := by rw [hl]; omega
    have rc : cells? (LR rows n (i + 1) f ++ [Row.cells (nums .i64 (List.replicate n 0))]) rows.length = some (oR rows.length n (i + 1)) := cells?_old LR_outerC _
    have hnew := LR_new (rows := rows) (f := f) hi
    have hlw : lower rows.length rows.length = rows.length := lower_self
    rw [e1]
    unfold Lc36l2
    simp [hnl, lim, hi, nums_rep, rc, hl2, hnew]
    exact hk
/-- R.Least. -/
theorem least_ret (hc : IsL rows cv c) (hu : IsL rows uv u) (hn : c.length ≤ 12) (hall : (c.all fun x => decide (1 ≤ x ∧ x ≤ 1000)) = true) (hm : Mode c u P) (hP : Pbd c.length P) :
    ∃ f, Ret F 36 [cv, uv, .int .i64 0, .int .i64 c.length] rows = some (.int .i64 (f 0 c.length), rows, none) ∧ ∀ a b, a ≤ b → b ≤ c.length → BN P f a b := by
  have := Ret_mk' F36 (vs := [cv, uv, .int .i64 0, .int .i64 c.length]) (rows := rows) (R := fun q => ∃ f, q = (.int .i64 (f 0 c.length), rows, none) ∧ ∀ a b, a ≤ b → b ≤ c.length → BN P f a b) (show Ex F (.fn [.t 8]) [.code c36b] ⟨mk 142 [(0, cv), (1, uv), (2, .int .i64 0), (3, .int .i64 c.length)], rows, rows.length⟩ _ from ?_)
  · obtain ⟨q, e, f, rfl, h⟩ := this
    exact ⟨f, e, h⟩
  · have := least_i (r := fun r => ∃ f, fin rows r.1 r.2.1 r.2.2 = (.int .i64 (f 0 c.length), rows, none) ∧ ∀ a b, a ≤ b → b ≤ c.length → BN P f a b) hc hu rfl (by omega) hall hm hP (by
      intro f hf
      exact ⟨f, by simp, fun a b x1 x2 => hf a b x1 (by omega)⟩) (c.length + 1) (fun _ _ => 0) (Nat.le_refl _) (fun a b x1 x2 x3 => by omega)
    have w1 : IntKind.i64.wrap ((c.length : Int) + 1) = c.length + 1 := wrap64 (by omega) (by omega)
    have w2 : IntKind.i64.wrap (c.length : Int) = c.length := wrap64 (by omega) (by omega)
    have hnl : (c.length : Int) + 1 ≤ 1073741824 := by omega
    rw [← LR_0] at this
    simp [lenL0 hc, w1, w2, lim, hnl, show (0 : Int) ≤ (c.length : Int) + 1 by omega]
    simpa using this
end
end Go.Abs

set_option linter.unusedVariables false
set_option linter.unusedSimpArgs false
namespace Go.Abs
open Rd (Cp IsL_one IsL_cells IsL_tail lowO_n)
/-- The gates that are opened by a table's plan. -/
def lsT (T : List Int) : Nat → Int → Int → List (List Int)
  | 0, _, _ => [[]]
  | m + 1, a, b => if a = b then [[]] else (lsT T m a (gateT T a b) ++ lsT T m (gateT T a b + 1) b).map (gateT T a b :: ·)
theorem opn_tpl {T : List Int} {n : Int} (hT : GoodT T n) {p : List Int} : ∀ (m at_ : Nat) (a b : Int) (rest : List Int), 0 ≤ a → a ≤ b → b ≤ n → b - a ≤ m → p.drop at_ = tpl T m a b ++ rest → opn p m at_ a b = some (lsT T m a b, at_ + (tpl T m a b).length) := by
  intro m
  induction m with
  | zero =>
    intro at_ a b rest h0 h1 h2 h3 hd
    have : a = b := by omega
    subst this
    simp [opn, lsT, tpl]
  | succ m ih =>
    intro at_ a b rest h0 h1 h2 h3 hd
    by_cases he : a = b
    · subst he
      simp [opn, lsT, tpl]
    · have hg := hT a b h0 (by omega) h2
      simp only [tpl, he, if_false, List.cons_append] at hd
      have hat : at_ < p.length := by
        rcases Nat.lt_or_ge at_ p.length with h | h
        · exact h
        · rw [List.drop_eq_nil_of_le h] at hd; simp at hd
      have hgi : gI p at_ = gateT T a b := by
        have h4 : p[at_]? = some (gateT T a b) := by
          have := congrArg (·[0]?) hd
          simpa using this
        rw [gI_get hat] at h4
        exact Option.some.inj h4
      have hd1 : p.drop (at_ + 1) = tpl T m a (gateT T a b) ++ (tpl T m (gateT T a b + 1) b ++ rest) := by
        have := congrArg (List.drop 1) hd
        simpa [List.drop_drop, Nat.add_comm] using this
      have e1 := ih (at_ + 1) a (gateT T a b) _ h0 hg.1 (by omega) (by omega) hd1
      have hd2 : p.drop (at_ + 1 + (tpl T m a (gateT T a b)).length) = tpl T m (gateT T a b + 1) b ++ rest := by
        have := congrArg (List.drop (tpl T m a (gateT T a b)).length) hd1
        simpa [List.drop_drop] using this
      have e2 := ih (at_ + 1 + (tpl T m a (gateT T a b)).length) (gateT T a b + 1) b rest (by omega) (by omega) h2 (by omega) hd2
      unfold opn
      simp only [he, if_false, hgi]
      rw [if_pos ⟨hat, hg.1, hg.2⟩, e1]
      simp only
      rw [e2]
      simp only [tpl, lsT, he, if_false, List.length_cons, List.length_append]
      congr 2
      omega
theorem lsT_len {T : List Int} {n : Int} (hT : GoodT T n) : ∀ (m : Nat) (a b : Int), 0 ≤ a → a ≤ b → b ≤ n → b - a ≤ m → ((lsT T m a b).length : Int) = b - a + 1 := by
  intro m
  induction m with
  | zero => intro a b h0 h1 h2 h3; simp [lsT]; omega
  | succ m ih =>
    intro a b h0 h1 h2 h3
    unfold lsT
    by_cases he : a = b
    · simp [he]
    · have hg := hT a b h0 (by omega) h2
      have e1 := ih a (gateT T a b) h0 hg.1 (by omega) (by omega)
      have e2 := ih (gateT T a b + 1) b (by omega) (by omega) h2 (by omega)
      simp only [he, if_false, List.length_map, List.length_append]
      omega
/-- The prices of a part's pieces. -/
def psT (c T : List Int) (m : Nat) (a b : Int) : List Int := (lsT T m a b).map (sumG c)
theorem psT_succ {c T : List Int} {m : Nat} {a b : Int} (h : a ≠ b) : psT c T (m + 1) a b = (psT c T m a (gateT T a b) ++ psT c T m (gateT T a b + 1) b).map (gI c (gateT T a b).toNat + ·) := by
  unfold psT
  simp only [lsT, h, if_false, List.map_map, List.map_append]
  congr 1 <;> (apply List.map_congr_left; intro l _; simp [sumG])
theorem psT_len {c T : List Int} {n : Int} (hT : GoodT T n) {m : Nat} {a b : Int} (h0 : 0 ≤ a) (h1 : a ≤ b) (h2 : b ≤ n) (h3 : b - a ≤ m) : ((psT c T m a b).length : Int) = b - a + 1 := by
  unfold psT
  rw [List.length_map]
  exact lsT_len hT m a b h0 h1 h2 h3
theorem foldl_max_app (l1 l2 : List Int) (h2 : ∀ x ∈ l2, 0 ≤ x) : (l1 ++ l2).foldl max 0 = max (l1.foldl max 0) (l2.foldl max 0) := by
  rw [List.foldl_append]
  have : ∀ (l : List Int) (a : Int), 0 ≤ a → l.foldl max a = max a (l.foldl max 0) := by
    intro l
    induction l with
    | nil => intro a ha; simp; omega
    | cons x l ih =>
      intro a ha
      simp only [List.foldl_cons]
      rw [ih (max a x) (by omega), ih (max 0 x) (by omega)]
      omega
  exact this l2 _ (foldl_max_ge l1 0).1
theorem foldl_max_add {c : Int} (hc : 0 ≤ c) : ∀ (l : List Int), l ≠ [] → (∀ x ∈ l, 0 ≤ x) → (l.map (c + ·)).foldl max 0 = c + l.foldl max 0 := by
  have hh : ∀ (l : List Int) (a : Int), (l.map (c + ·)).foldl max (c + a) = c + l.foldl max a := by
    intro l
    induction l with
    | nil => intro a; rfl
    | cons x l ih =>
      intro a
      simp only [List.map_cons, List.foldl_cons]
      rw [show max (c + a) (c + x) = c + max a x from by omega]
      exact ih _
  intro l hl hx
  cases l with
  | nil => exact absurd rfl hl
  | cons x l =>
    have := hx x List.mem_cons_self
    simp only [List.map_cons, List.foldl_cons]
    rw [show max 0 (c + x) = c + max 0 x from by omega]
    exact hh _ _
theorem psT_nn {c T : List Int} {n : Int} (hT : GoodT T n) (hn : n ≤ c.length) (hc : ∀ g : Nat, g < c.length → 0 ≤ gI c g ∧ gI c g ≤ 1000) : ∀ (m : Nat) (a b : Int), 0 ≤ a → a ≤ b → b ≤ n → b - a ≤ m → ∀ x ∈ psT c T m a b, 0 ≤ x ∧ x ≤ 1000 * (b - a) := by
  intro m
  induction m with
  | zero => intro a b h0 h1 h2 h3 x hx; simp [psT, lsT, sumG] at hx; omega
  | succ m ih =>
    intro a b h0 h1 h2 h3 x hx
    by_cases he : a = b
    · subst he; simp [psT, lsT, sumG] at hx; omega
    · have hg := hT a b h0 (by omega) h2
      have hcg := hc (gateT T a b).toNat (by omega)
      rw [psT_succ he] at hx
      obtain ⟨y, hy, rfl⟩ := List.mem_map.1 hx
      rcases List.mem_append.1 hy with hy | hy
      · have := ih a (gateT T a b) h0 hg.1 (by omega) (by omega) y hy; omega
      · have := ih (gateT T a b + 1) b (by omega) (by omega) h2 (by omega) y hy; omega
/-- The worst price of a table's plan. -/
theorem psT_worst {c T : List Int} {n : Int} (hD : Done (PW c) T n (n + 1) 0) (hn : n ≤ c.length) (hc : ∀ g : Nat, g < c.length → 0 ≤ gI c g ∧ gI c g ≤ 1000) : ∀ (m : Nat) (a b : Int), 0 ≤ a → a ≤ b → b ≤ n → b - a ≤ m → (psT c T m a b).foldl max 0 = prT T a b := by
  have hT := Done_Good hD
  intro m
  induction m with
  | zero =>
    intro a b h0 h1 h2 h3
    have : a = b := by omega
    subst this
    rw [(hD a a h0 h1 h2 (.inl (by omega))).1 rfl]
    simp [psT, lsT, sumG]
  | succ m ih =>
    intro a b h0 h1 h2 h3
    by_cases he : a = b
    · subst he
      rw [(hD a a h0 h1 h2 (.inl (by omega))).1 rfl]
      simp [psT, lsT, sumG]
    · have hg := hT a b h0 (by omega) h2
      obtain ⟨_, _, hp, _⟩ := (hD a b h0 h1 h2 (.inl (by omega))).2 (by omega)
      have hcg := hc (gateT T a b).toNat (by omega)
      have n1 := psT_nn hT hn hc m a (gateT T a b) h0 hg.1 (by omega) (by omega)
      have n2 := psT_nn hT hn hc m (gateT T a b + 1) b (by omega) (by omega) h2 (by omega)
      have l1 := psT_len (c := c) hT (m := m) h0 hg.1 (show gateT T a b ≤ n by omega) (by omega)
      rw [psT_succ he, foldl_max_add hcg.1, foldl_max_app _ _ (fun x hx => (n2 x hx).1), ih a _ h0 hg.1 (by omega) (by omega), ih _ b (by omega) (by omega) h2 (by omega), hp]
      · rfl
      · intro e
        rw [List.append_eq_nil_iff] at e
        rw [e.1] at l1
        simp at l1
        omega
      · intro x hx
        rcases List.mem_append.1 hx with hx | hx
        · exact (n1 x hx).1
        · exact (n2 x hx).1
/-- A sum of products from a place on. -/
def wso (u : List Int) : Nat → List Int → Int
  | _, [] => 0
  | a, x :: l => gI u a * x + wso u (a + 1) l
def su (u : List Int) : Nat → Nat → Int
  | _, 0 => 0
  | a, k + 1 => gI u a + su u (a + 1) k
theorem wso_app {u : List Int} : ∀ (l1 l2 : List Int) (a : Nat), wso u a (l1 ++ l2) = wso u a l1 + wso u (a + l1.length) l2
  | [], l2, a => by simp [wso]
  | x :: l1, l2, a => by
    simp only [List.cons_append, wso, List.length_cons]
    rw [wso_app l1 l2 (a + 1), show a + 1 + l1.length = a + (l1.length + 1) from by omega]
    omega
theorem wso_add {u : List Int} {c : Int} : ∀ (l : List Int) (a : Nat), wso u a (l.map (c + ·)) = c * su u a l.length + wso u a l
  | [], a => by simp [wso, su]
  | x :: l, a => by
    simp only [List.map_cons, wso, List.length_cons, su]
    rw [wso_add l (a + 1), Int.mul_add, Int.mul_add, Int.mul_comm (gI u a) c]
    omega
theorem su_swt {u : List Int} : ∀ (k a : Nat), a + k ≤ u.length → su u a k = ((u.drop a).take k).sum
  | 0, a, h => by simp [su]
  | k + 1, a, h => by
    have hd : u.drop a = gI u a :: u.drop (a + 1) := by
      rw [List.drop_eq_getElem_cons (by omega), gI_eq (by omega)]
    simp only [su]
    rw [su_swt k (a + 1) (by omega), hd]
    simp
theorem dot_wso {u l : List Int} : ∀ (k : Nat), k ≤ l.length → dot u l k = wso u 0 (l.take k)
  | 0, _ => by simp [dot, wso]
  | k + 1, h => by
    rw [List.take_add_one, gI_get (by omega)]
    simp only [dot, Option.toList_some]
    rw [wso_app, dot_wso k (by omega)]
    simp [wso, Nat.min_eq_left (show k ≤ l.length by omega)]
/-- The weighed price of a table's plan. -/
theorem psT_weighed {c u T : List Int} {n : Nat} (hD : Done (PQ c u) T n (n + 1) 0) (hu : u.length = n + 1) : ∀ (m : Nat) (a b : Int), 0 ≤ a → a ≤ b → b ≤ n → b - a ≤ m → wso u a.toNat (psT c T m a b) = prT T a b := by
  have hT := Done_Good hD
  intro m
  induction m with
  | zero =>
    intro a b h0 h1 h2 h3
    have : a = b := by omega
    subst this
    rw [(hD a a h0 h1 h2 (.inl (by omega))).1 rfl]
    simp [psT, lsT, sumG, wso]
  | succ m ih =>
    intro a b h0 h1 h2 h3
    by_cases he : a = b
    · subst he
      rw [(hD a a h0 h1 h2 (.inl (by omega))).1 rfl]
      simp [psT, lsT, sumG, wso]
    · have hg := hT a b h0 (by omega) h2
      obtain ⟨_, _, hp, _⟩ := (hD a b h0 h1 h2 (.inl (by omega))).2 (by omega)
      have l1 := psT_len (c := c) hT (m := m) h0 hg.1 (show gateT T a b ≤ n by omega) (by omega)
      have l2 := psT_len (c := c) hT (m := m) (a := gateT T a b + 1) (b := b) (by omega) (by omega) h2 (by omega)
      rw [psT_succ he, wso_add, wso_app, ih a _ h0 hg.1 (by omega) (by omega), show a.toNat + (psT c T m a (gateT T a b)).length = (gateT T a b + 1).toNat from by omega, ih _ b (by omega) (by omega) h2 (by omega), hp]
      have e : su u a.toNat (psT c T m a (gateT T a b) ++ psT c T m (gateT T a b + 1) b).length = swt u a b := by
        rw [su_swt _ _ (by rw [List.length_append]; omega)]
        unfold swt
        rw [show (psT c T m a (gateT T a b) ++ psT c T m (gateT T a b + 1) b).length = b.toNat + 1 - a.toNat from by rw [List.length_append]; omega]
      rw [e]
      unfold PQ
      omega
end Go.Abs

set_option linter.unusedVariables false
set_option linter.unusedSimpArgs false
namespace Go.Abs
open Rd (Cp IsL_one IsL_cells IsL_tail lowO_n)
def bls (l : List Bool) : List AV := l.map .bool
@[simp] theorem bls_len {l : List Bool} : (bls l).length = l.length := by simp [bls]
@[simp] theorem bls_set {l : List Bool} {i : Nat} {b : Bool} : (bls l).set i (.bool b) = bls (l.set i b) := by simp [bls, List.map_set]
def usedT (n : Nat) (s : List Int) : List Bool := (List.range n).map fun (j : Nat) => decide ((j : Int) ∈ s)
@[simp] theorem usedT_len {n : Nat} {s : List Int} : (usedT n s).length = n := by simp [usedT]
section
variable {R3 H1 : List Row} {low : Nat} {r : AV × List Row × Nat → Prop}
theorem newL_shape (rows : List Row) (l : List Int) : ∃ v K, newL rows l = (v, rows ++ K, none) ∧ IsL (rows ++ K) v l ∧ Cp 1 v ∧ K.all (Row.under 0) = true := by
  have h := newL_IsL (rows := rows) l
  cases l with
  | nil => exact ⟨.nilslice, [], by simp [newL], by simpa [newL] using h.1, h.2, rfl⟩
  | cons x l => exact ⟨_, [.cells (nums .i64 (x :: l))], rfl, h.1, h.2, by simp [Row.under, AV.under, nums]⟩
end
end Go.Abs

set_option linter.unusedVariables false
set_option maxRecDepth 20000
set_option maxHeartbeats 4000000
namespace Go.Abs
variable {F : Nat → Option IFn} {cx : Ctx} {k : List Itm} {s : St} {l : List (Nat × AV)} {rows : List Row} {low : Nat} {r : AV × List Row × Nat → Prop}
def c8r0 : List Seg := [
  .one ⟨some 50, .mv (.t 9), none⟩,
  .one ⟨some 51, .bin .eql (.t 50) (.c (.int .i64 0)), none⟩,
  .one ⟨some 52, .mv (.t 51), none⟩,
  .one ⟨some 53, .mv (.t 12), some (52, true)⟩,
  .one ⟨some 54, .bin .eql (.t 53) (.c (.int .i64 0)), some (52, true)⟩,
  .one ⟨some 55, .pick (.t 52) (.t 54) (.c (.bool false)), none⟩,
  .one ⟨some 56, .mv (.t 55), none⟩,
  .one ⟨some 57, .mv (.t 14), some (56, true)⟩,
  .one ⟨some 58, .pick (.t 56) (.t 57) (.c (.bool false)), none⟩,
  .one ⟨some 59, .mv (.t 58), none⟩,
  .one ⟨some 60, .mv (.t 16), some (59, true)⟩,
  .one ⟨some 61, .pick (.t 59) (.t 60) (.c (.bool false)), none⟩,
  .one ⟨some 62, .mv (.t 61), none⟩,
  .one ⟨some 63, .mv (.t 7), some (62, true)⟩,
  .one ⟨some 64, .mv (.t 5), some (62, true)⟩,
  .one ⟨some 65, .mv (.t 5), some (62, true)⟩,
  .one ⟨some 66, .len 0 (.t 65), some (62, true)⟩,
  .one ⟨some 67, .call (.c (.func 36 [])) [(.t 64), (.c .nilslice), (.c (.int .i64 0)), (.t 66)], some (62, true)⟩,
  .one ⟨some 68, .bin .eql (.t 63) (.t 67), some (62, true)⟩,
  .one ⟨some 69, .pick (.t 62) (.t 68) (.c (.bool false)), none⟩,
  .one ⟨some 70, .mv (.t 69), none⟩,
  .one ⟨some 71, .mv (.t 7), some (70, true)⟩,
  .one ⟨some 72, .mv (.t 5), some (70, true)⟩,
  .one ⟨some 73, .mv (.t 13), some (70, true)⟩,
  .one ⟨some 74, .call (.c (.func 33 [])) [(.t 72), (.t 73)], some (70, true)⟩,
  .one ⟨some 75, .call (.c (.func 37 [])) [(.t 74)], some (70, true)⟩,
  .one ⟨some 76, .bin .eql (.t 71) (.t 75), some (70, true)⟩,
  .one ⟨some 77, .pick (.t 70) (.t 76) (.c (.bool false)), none⟩,
  .one ⟨some 78, .mv (.t 77), none⟩,
  .one ⟨some 79, .mv (.t 10), some (78, true)⟩,
  .one ⟨some 80, .mv (.t 5), some (78, true)⟩,
  .one ⟨some 81, .mv (.t 6), some (78, true)⟩,
  .one ⟨some 82, .mv (.t 5), some (78, true)⟩,
  .one ⟨some 83, .len 0 (.t 82), some (78, true)⟩,
  .one ⟨some 84, .call (.c (.func 36 [])) [(.t 80), (.t 81), (.c (.int .i64 0)), (.t 83)], some (78, true)⟩,
  .one ⟨some 85, .bin .eql (.t 79) (.t 84), some (78, true)⟩,
  .one ⟨some 86, .pick (.t 78) (.t 85) (.c (.bool false)), none⟩,
  .one ⟨some 87, .mv (.t 86), none⟩,
  .one ⟨some 88, .mv (.t 10), some (87, true)⟩,
  .one ⟨some 89, .mv (.t 6), some (87, true)⟩,
  .one ⟨some 90, .mv (.t 5), some (87, true)⟩,
  .one ⟨some 91, .mv (.t 15), some (87, true)⟩,
  .one ⟨some 92, .call (.c (.func 33 [])) [(.t 90), (.t 91)], some (87, true)⟩,
  .one ⟨some 93, .call (.c (.func 38 [])) [(.t 89), (.t 92)], some (87, true)⟩,
  .one ⟨some 94, .bin .eql (.t 88) (.t 93), some (87, true)⟩,
  .one ⟨some 95, .pick (.t 87) (.t 94) (.c (.bool false)), none⟩,
  .one ⟨some 96, .mv (.t 95), none⟩,
  .one ⟨some 97, .call (.c (.func 22 [])) [], some (96, true)⟩,
  .one ⟨some 98, .pick (.t 96) (.t 97) (.c (.bool false)), none⟩,
  .one ⟨some 4, .mv (.t 98), none⟩]
def c8k0 : ICode := .kill (dead 99 [5, 6, 7, 9, 10, 12, 13, 14, 15, 16]) (.ops c8r0)
@[simp] theorem uc8k0 : Ex F cx (.code c8k0 :: k) ⟨mk 99 l, rows, low⟩ r ↔ bnd (evP rows (.bin .eql (.c (lk l 9)) (.c (.int .i64 0)))) fun v0 => bnd (gv v0 true (evP rows (.mv (.c (lk l 12))))) fun v1 => bnd (gv v0 true (evP rows (.bin .eql (.c v1) (.c (.int .i64 0))))) fun v2 => bnd (evP rows (.pick (.c v0) (.c v2) (.c (.bool false)))) fun v3 => bnd (gv v3 true (evP rows (.mv (.c (lk l 14))))) fun v4 => bnd (evP rows (.pick (.c v3) (.c v4) (.c (.bool false)))) fun v5 => bnd (gv v5 true (evP rows (.mv (.c (lk l 16))))) fun v6 => bnd (evP rows (.pick (.c v5) (.c v6) (.c (.bool false)))) fun v7 => bnd (gv v7 true (evP rows (.mv (.c (lk l 7))))) fun v8 => bnd (gv v7 true (evP rows (.mv (.c (lk l 5))))) fun v9 => bnd (gv v7 true (evP rows (.mv (.c (lk l 5))))) fun v10 => bnd (gv v7 true (evP rows (.len 0 (.c v10)))) fun v11 => gcall F v7 true rows low [v9, .nilslice, (.int .i64 0), v11] (.func 36 []) fun v12 R12 L12 => bnd (gv v7 true (evP R12 (.bin .eql (.c v8) (.c v12)))) fun v13 => bnd (evP R12 (.pick (.c v7) (.c v13) (.c (.bool false)))) fun v14 => bnd (gv v14 true (evP R12 (.mv (.c (lk l 7))))) fun v15 => bnd (gv v14 true (evP R12 (.mv (.c (lk l 5))))) fun v16 => bnd (gv v14 true (evP R12 (.mv (.c (lk l 13))))) fun v17 => gcall F v14 true R12 L12 [v16, v17] (.func 33 []) fun v18 R18 L18 => gcall F v14 true R18 L18 [v18] (.func 37 []) fun v19 R19 L19 => bnd (gv v14 true (evP R19 (.bin .eql (.c v15) (.c v19)))) fun v20 => bnd (evP R19 (.pick (.c v14) (.c v20) (.c (.bool false)))) fun v21 => bnd (gv v21 true (evP R19 (.mv (.c (lk l 10))))) fun v22 => bnd (gv v21 true (evP R19 (.mv (.c (lk l 5))))) fun v23 => bnd (gv v21 true (evP R19 (.mv (.c (lk l 6))))) fun v24 => bnd (gv v21 true (evP R19 (.mv (.c (lk l 5))))) fun v25 => bnd (gv v21 true (evP R19 (.len 0 (.c v25)))) fun v26 => gcall F v21 true R19 L19 [v23, v24, (.int .i64 0), v26] (.func 36 []) fun v27 R27 L27 => bnd (gv v21 true (evP R27 (.bin .eql (.c v22) (.c v27)))) fun v28 => bnd (evP R27 (.pick (.c v21) (.c v28) (.c (.bool false)))) fun v29 => bnd (gv v29 true (evP R27 (.mv (.c (lk l 10))))) fun v30 => bnd (gv v29 true (evP R27 (.mv (.c (lk l 6))))) fun v31 => bnd (gv v29 true (evP R27 (.mv (.c (lk l 5))))) fun v32 => bnd (gv v29 true (evP R27 (.mv (.c (lk l 15))))) fun v33 => gcall F v29 true R27 L27 [v32, v33] (.func 33 []) fun v34 R34 L34 => gcall F v29 true R34 L34 [v31, v34] (.func 38 []) fun v35 R35 L35 => bnd (gv v29 true (evP R35 (.bin .eql (.c v30) (.c v35)))) fun v36 => bnd (evP R35 (.pick (.c v29) (.c v36) (.c (.bool false)))) fun v37 => gcall F v37 true R35 L35 [] (.func 22 []) fun v38 R38 L38 => bnd (evP R38 (.pick (.c v37) (.c v38) (.c (.bool false)))) fun v39 => Ex F cx k ⟨mk 99 [(4, v39), (98, v39), (97, v38), (96, v37), (95, v37), (94, v36), (93, v35), (92, v34), (91, v33), (90, v32), (89, v31), (88, v30), (87, v29), (86, v29), (85, v28), (84, v27), (83, v26), (82, v25), (81, v24), (80, v23), (79, v22), (78, v21), (77, v21), (76, v20), (75, v19), (74, v18), (73, v17), (72, v16), (71, v15), (70, v14), (69, v14), (68, v13), (67, v12), (66, v11), (65, v10), (64, v9), (63, v8), (62, v7), (61, v7), (60, v6), (59, v5), (58, v5), (57, v4), (56, v3), (55, v3), (54, v2), (53, v1), (52, v0), (51, v0), (50, lk l 9), (5, lk l 5), (6, lk l 6), (7, lk l 7), (9, lk l 9), (10, lk l 10), (12, lk l 12), (13, lk l 13), (14, lk l 14), (15, lk l 15), (16, lk l 16)], R38, L38⟩ r := reg (keep := [5, 6, 7, 9, 10, 12, 13, 14, 15, 16]) (ops := c8r0) rfl (by kernel_rfl) (by kernel_rfl)
def c8s1 : ICode := (.seq c8k0 .ret)
@[simp] theorem uc8s1 : Ex F cx (.code c8s1 :: k) s r ↔ Ex F cx (.code (.seq c8k0 .ret) :: k) s r := Iff.rfl
def c8r2 : List Seg := [
  .one ⟨some 44, .mv (.t 5), none⟩,
  .one ⟨some 45, .len 0 (.t 44), none⟩,
  .one ⟨some 46, .mv (.t 11), none⟩,
  .one ⟨some 47, .call (.c (.func 31 [])) [(.t 45), (.t 46)], none⟩,
  .one ⟨some 43, .mv (.t 47), none⟩,
  .one ⟨some 48, .ext (.t 43) 0, none⟩,
  .one ⟨some 49, .ext (.t 43) 1, none⟩,
  .one ⟨some 15, .mv (.t 48), none⟩,
  .one ⟨some 16, .mv (.t 49), none⟩]
def c8k2 : ICode := .kill (dead 99 [5, 6, 7, 9, 10, 11, 12, 13, 14]) (.ops c8r2)
@[simp] theorem uc8k2 : Ex F cx (.code c8k2 :: k) ⟨mk 99 l, rows, low⟩ r ↔ bnd (evP rows (.len 0 (.c (lk l 5)))) fun v0 => bnd (Ret F 31 [v0, lk l 11] rows) fun q1 => bnd (evP q1.2.1 (.ext (.c q1.1) 0)) fun v2 => bnd (evP q1.2.1 (.ext (.c q1.1) 1)) fun v3 => Ex F cx k ⟨mk 99 [(16, v3), (15, v2), (49, v3), (48, v2), (43, q1.1), (47, q1.1), (46, lk l 11), (45, v0), (44, lk l 5), (5, lk l 5), (6, lk l 6), (7, lk l 7), (9, lk l 9), (10, lk l 10), (11, lk l 11), (12, lk l 12), (13, lk l 13), (14, lk l 14)], q1.2.1, (lowO low q1.2.2)⟩ r := reg (keep := [5, 6, 7, 9, 10, 11, 12, 13, 14]) (ops := c8r2) rfl (by kernel_rfl) (by kernel_rfl)
def c8s3 : ICode := (.seq c8k2 c8s1)
@[simp] theorem uc8s3 : Ex F cx (.code c8s3 :: k) s r ↔ Ex F cx (.code (.seq c8k2 c8s1) :: k) s r := Iff.rfl
def c8r4 : List Seg := [
  .one ⟨some 37, .mv (.t 5), none⟩,
  .one ⟨some 38, .len 0 (.t 37), none⟩,
  .one ⟨some 39, .mv (.t 8), none⟩,
  .one ⟨some 40, .call (.c (.func 31 [])) [(.t 38), (.t 39)], none⟩,
  .one ⟨some 36, .mv (.t 40), none⟩,
  .one ⟨some 41, .ext (.t 36) 0, none⟩,
  .one ⟨some 42, .ext (.t 36) 1, none⟩,
  .one ⟨some 13, .mv (.t 41), none⟩,
  .one ⟨some 14, .mv (.t 42), none⟩]
def c8k4 : ICode := .kill (dead 99 [5, 6, 7, 8, 9, 10, 11, 12]) (.ops c8r4)
@[simp] theorem uc8k4 : Ex F cx (.code c8k4 :: k) ⟨mk 99 l, rows, low⟩ r ↔ bnd (evP rows (.len 0 (.c (lk l 5)))) fun v0 => bnd (Ret F 31 [v0, lk l 8] rows) fun q1 => bnd (evP q1.2.1 (.ext (.c q1.1) 0)) fun v2 => bnd (evP q1.2.1 (.ext (.c q1.1) 1)) fun v3 => Ex F cx k ⟨mk 99 [(14, v3), (13, v2), (42, v3), (41, v2), (36, q1.1), (40, q1.1), (39, lk l 8), (38, v0), (37, lk l 5), (5, lk l 5), (6, lk l 6), (7, lk l 7), (8, lk l 8), (9, lk l 9), (10, lk l 10), (11, lk l 11), (12, lk l 12)], q1.2.1, (lowO low q1.2.2)⟩ r := reg (keep := [5, 6, 7, 8, 9, 10, 11, 12]) (ops := c8r4) rfl (by kernel_rfl) (by kernel_rfl)
def c8s5 : ICode := (.seq c8k4 c8s3)
@[simp] theorem uc8s5 : Ex F cx (.code c8s5 :: k) s r ↔ Ex F cx (.code (.seq c8k4 c8s3) :: k) s r := Iff.rfl
def c8r6 : List Seg := [
  .one ⟨some 30, .mv (.t 5), none⟩,
  .one ⟨some 31, .mv (.t 6), none⟩,
  .one ⟨some 32, .call (.c (.func 35 [])) [(.t 30), (.t 31)], none⟩,
  .one ⟨some 29, .mv (.t 32), none⟩,
  .one ⟨some 33, .ext (.t 29) 0, none⟩,
  .one ⟨some 34, .ext (.t 29) 1, none⟩,
  .one ⟨some 35, .ext (.t 29) 2, none⟩,
  .one ⟨some 10, .mv (.t 33), none⟩,
  .one ⟨some 11, .mv (.t 34), none⟩,
  .one ⟨some 12, .mv (.t 35), none⟩]
def c8k6 : ICode := .kill (dead 99 [5, 6, 7, 8, 9]) (.ops c8r6)
@[simp] theorem uc8k6 : Ex F cx (.code c8k6 :: k) ⟨mk 99 l, rows, low⟩ r ↔ bnd (Ret F 35 [lk l 5, lk l 6] rows) fun q0 => bnd (evP q0.2.1 (.ext (.c q0.1) 0)) fun v1 => bnd (evP q0.2.1 (.ext (.c q0.1) 1)) fun v2 => bnd (evP q0.2.1 (.ext (.c q0.1) 2)) fun v3 => Ex F cx k ⟨mk 99 [(12, v3), (11, v2), (10, v1), (35, v3), (34, v2), (33, v1), (29, q0.1), (32, q0.1), (31, lk l 6), (30, lk l 5), (5, lk l 5), (6, lk l 6), (7, lk l 7), (8, lk l 8), (9, lk l 9)], q0.2.1, (lowO low q0.2.2)⟩ r := reg (keep := [5, 6, 7, 8, 9]) (ops := c8r6) rfl (by kernel_rfl) (by kernel_rfl)
def c8s7 : ICode := (.seq c8k6 c8s5)
@[simp] theorem uc8s7 : Ex F cx (.code c8s7 :: k) s r ↔ Ex F cx (.code (.seq c8k6 c8s5) :: k) s r := Iff.rfl
def c8r8 : List Seg := [
  .one ⟨some 24, .mv (.t 5), none⟩,
  .one ⟨some 25, .call (.c (.func 28 [])) [(.t 24)], none⟩,
  .one ⟨some 23, .mv (.t 25), none⟩,
  .one ⟨some 26, .ext (.t 23) 0, none⟩,
  .one ⟨some 27, .ext (.t 23) 1, none⟩,
  .one ⟨some 28, .ext (.t 23) 2, none⟩,
  .one ⟨some 7, .mv (.t 26), none⟩,
  .one ⟨some 8, .mv (.t 27), none⟩,
  .one ⟨some 9, .mv (.t 28), none⟩]
def c8k8 : ICode := .kill (dead 99 [5, 6]) (.ops c8r8)
@[simp] theorem uc8k8 : Ex F cx (.code c8k8 :: k) ⟨mk 99 l, rows, low⟩ r ↔ bnd (Ret F 28 [lk l 5] rows) fun q0 => bnd (evP q0.2.1 (.ext (.c q0.1) 0)) fun v1 => bnd (evP q0.2.1 (.ext (.c q0.1) 1)) fun v2 => bnd (evP q0.2.1 (.ext (.c q0.1) 2)) fun v3 => Ex F cx k ⟨mk 99 [(9, v3), (8, v2), (7, v1), (28, v3), (27, v2), (26, v1), (23, q0.1), (25, q0.1), (24, lk l 5), (5, lk l 5), (6, lk l 6)], q0.2.1, (lowO low q0.2.2)⟩ r := reg (keep := [5, 6]) (ops := c8r8) rfl (by kernel_rfl) (by kernel_rfl)
def c8s9 : ICode := (.seq c8k8 c8s7)
@[simp] theorem uc8s9 : Ex F cx (.code c8s9 :: k) s r ↔ Ex F cx (.code (.seq c8k8 c8s7) :: k) s r := Iff.rfl
def c8r10 : List Seg := [
  .one ⟨some 19, .mv (.t 1), none⟩,
  .one ⟨some 20, .mv (.t 5), none⟩,
  .one ⟨some 21, .len 0 (.t 20), none⟩,
  .one ⟨some 22, .call (.c (.func 34 [])) [(.t 19), (.t 21)], none⟩,
  .one ⟨some 6, .mv (.t 22), none⟩]
def c8k10 : ICode := .kill (dead 99 [1, 5]) (.ops c8r10)
@[simp] theorem uc8k10 : Ex F cx (.code c8k10 :: k) ⟨mk 99 l, rows, low⟩ r ↔ bnd (evP rows (.len 0 (.c (lk l 5)))) fun v0 => bnd (Ret F 34 [lk l 1, v0] rows) fun q1 => Ex F cx k ⟨mk 99 [(6, q1.1), (22, q1.1), (21, v0), (20, lk l 5), (19, lk l 1), (1, lk l 1), (5, lk l 5)], q1.2.1, (lowO low q1.2.2)⟩ r := reg (keep := [1, 5]) (ops := c8r10) rfl (by kernel_rfl) (by kernel_rfl)
def c8s11 : ICode := (.seq c8k10 c8s9)
@[simp] theorem uc8s11 : Ex F cx (.code c8s11 :: k) s r ↔ Ex F cx (.code (.seq c8k10 c8s9) :: k) s r := Iff.rfl
def c8r12 : List Seg := [
  .one ⟨some 17, .mv (.t 0), none⟩,
  .one ⟨some 18, .call (.c (.func 25 [])) [(.t 17)], none⟩,
  .one ⟨some 5, .mv (.t 18), none⟩]
def c8k12 : ICode := .kill (dead 99 [0, 1]) (.ops c8r12)
@[simp] theorem uc8k12 : Ex F cx (.code c8k12 :: k) ⟨mk 99 l, rows, low⟩ r ↔ bnd (Ret F 25 [lk l 0] rows) fun q0 => Ex F cx k ⟨mk 99 [(5, q0.1), (18, q0.1), (17, lk l 0), (0, lk l 0), (1, lk l 1)], q0.2.1, (lowO low q0.2.2)⟩ r := reg (keep := [0, 1]) (ops := c8r12) rfl (by kernel_rfl) (by kernel_rfl)
def c8s13 : ICode := (.seq c8k12 c8s11)
@[simp] theorem uc8s13 : Ex F cx (.code c8s13 :: k) s r ↔ Ex F cx (.code (.seq c8k12 c8s11) :: k) s r := Iff.rfl
def c8r14 : List Seg := [
  .one ⟨some 4, .mv (.c (.bool false)), none⟩]
def c8k14 : ICode := .kill (dead 99 [0, 1]) (.ops c8r14)
@[simp] theorem uc8k14 : Ex F cx (.code c8k14 :: k) ⟨mk 99 l, rows, low⟩ r ↔ Ex F cx k ⟨mk 99 [(4, (.bool false)), (0, lk l 0), (1, lk l 1)], rows, low⟩ r := reg (keep := [0, 1]) (ops := c8r14) rfl (by kernel_rfl) (by kernel_rfl)
def c8b : ICode := (.seq c8k14 c8s13)
@[simp] theorem uc8b : Ex F cx (.code c8b :: k) s r ↔ Ex F cx (.code (.seq c8k14 c8s13) :: k) s r := Iff.rfl
def c8 : IFn := ⟨99, [.t 4], c8b⟩
def h8 : List (Nat × List Nat) := [(0, dead 99 [0, 1]), (1, dead 99 [0, 1]), (2, dead 99 [1, 5]), (3, dead 99 [5, 6]), (4, dead 99 [5, 6, 7, 8, 9]), (5, dead 99 [5, 6, 7, 8, 9, 10, 11, 12]), (6, dead 99 [5, 6, 7, 9, 10, 11, 12, 13, 14]), (7, dead 99 [5, 6, 7, 9, 10, 12, 13, 14, 15, 16])]
theorem i8 {x0 x1 : AV} (hF : F 8 = some c8) {q : AV × List Row × Option Nat} (h : Ex F (.fn [.t 4]) [.code c8b] ⟨mk 99 [(0, x0), (1, x1)], rows, rows.length⟩ fun r => fin rows r.1 r.2.1 r.2.2 = q) : Ret F 8 [x0, x1] rows = some q := Ret_mk hF h
end Go.Abs

set_option linter.unusedVariables false
set_option linter.unusedSimpArgs false
namespace Go.Abs
open Rd (Cp IsL_one IsL_cells IsL_tail lowO_n)
abbrev G8 : Nat → Option IFn := more F 8 c8
theorem toG8 {f : Nat} {vs : List AV} {rows : List Row} {q : AV × List Row × Option Nat} (h : Ret F f vs rows = some q) : Ret G8 f vs rows = some q := Ret_ext (more_ext (by kernel_rfl)) h
/-- The plan of a table: what it opens. -/
theorem opened_tpl {T : List Int} {n : Nat} (hT : GoodT T n) (hn : n ≤ 12) {rows : List Row} {v : AV} (h : IsL rows v (tpl T n 0 n)) :
    ∃ lv X, Ret F 31 [.int .i64 n, v] rows = some (.tup [lv, .bool true], rows ++ X, none) ∧ IsLL (rows ++ X) lv (lsT T n 0 n) ∧ Und rows X := by
  have hl := tpl_len hT n 0 n (by omega) (by omega) (by omega) (by omega)
  have := Opened_ret (p := tpl T n 0 n) (by omega) h hn
  rw [opn_tpl hT n 0 0 n [] (by omega) (by omega) (by omega) (by omega) (by simp)] at this
  simp only [Nat.zero_add, decide_true] at this
  exact this
theorem lsT_all {T : List Int} {n : Nat} (hT : GoodT T n) (hn : n ≤ 12) : ∀ l ∈ lsT T n 0 n, l.length ≤ 1000 ∧ ∀ g ∈ l, 0 ≤ g ∧ g < n := by
  have e := opn_tpl hT (p := tpl T n 0 n) n 0 0 n [] (by omega) (by omega) (by omega) (by omega) (by simp)
  have := opn_len _ _ _ _ _ _ e (by omega) (by omega)
  intro l hl
  have := this.2.2.2 l hl
  exact ⟨by omega, this.2⟩
set_option maxHeartbeats 8000000 in
/-- SearchBests, if 'awake' is true. -/
theorem bests_ret {rows : List Row} (hA : ∀ H, Und rows H → Ret F 22 [] (rows ++ H) = some (.bool true, rows ++ H, none)) {v0 v1 : AV} {l w : List Int} (h0 : IsL rows v0 l) (h1 : IsL rows v1 w) : Ret G8 8 [v0, v1] rows = some (.bool true, rows, none) := by
  have hcs := costs_ret h0
  generalize hcl : (l.take 12).map cst = c at hcs
  have hn : c.length ≤ 12 := by rw [← hcl]; simp; omega
  have hall : (c.all fun x => decide (1 ≤ x ∧ x ≤ 1000)) = true := by
    rw [List.all_eq_true]
    intro x hx
    rw [← hcl] at hx
    obtain ⟨y, _, rfl⟩ := List.mem_map.1 hx
    simpa using cst_ok y
  have hcg : ∀ g : Nat, g < c.length → 0 ≤ gI c g ∧ gI c g ≤ 1000 := fun g hg => by have := cost_bd hall hg; omega
  have hcx : ∀ x ∈ c, 0 ≤ x ∧ x ≤ 1000 := fun x hx => by have := List.all_eq_true.1 hall x hx; simp at this; omega
  obtain ⟨x5, K5, e5, i5, c5, u5⟩ := newL_shape rows c
  rw [e5] at hcs
  have hws := weights_ret (IsL_app h1 K5) (n := c.length) (by omega)
  have hwok := wts_ok w c.length
  generalize wts w c.length = u at hws hwok
  obtain ⟨x6, K6, e6, i6, c6, u6⟩ := newL_shape (rows ++ K5) u
  rw [e6] at hws
  generalize hR : rows ++ K5 ++ K6 = R at *
  have j5 : IsL R x5 c := by rw [← hR]; exact IsL_app i5 K6
  have hul := hwok.1
  have hur : ∃ K : List Row, R = rows ++ K ∧ Und rows K := by
    refine ⟨K5 ++ K6, by rw [← hR]; simp, ?_⟩
    intro y hy
    rcases List.mem_append.1 hy with hy | hy
    · exact und_mono (List.all_eq_true.1 u5 y hy) (Nat.zero_le _)
    · exact und_mono (List.all_eq_true.1 u6 y hy) (Nat.zero_le _)
  obtain ⟨T, hTl, hD, hB, hW⟩ := Worst_ret j5 hn hall
  have hG := Done_Good hD
  generalize hpl : tpl T c.length 0 c.length = pl at hW
  obtain ⟨T2, hTl2, hD2, hB2, hW2⟩ := Weighed_ret (IsL_app j5 (nlK pl)) hn hall (IsL_app i6 (nlK pl)) c6 hwok
  have hG2 := Done_Good hD2
  generalize hql : tpl T2 c.length 0 c.length = ql at hW2
  have ip : IsL (R ++ nlK pl ++ nlK ql) (nlV R.length pl) pl := by
    have := nlV_IsL R pl (nlK ql)
    rwa [← List.append_assoc] at this
  have iq : IsL (R ++ nlK pl ++ nlK ql) (nlV (R ++ nlK pl).length ql) ql := by
    have := nlV_IsL (R ++ nlK pl) ql []
    rwa [List.append_nil] at this
  obtain ⟨xv, X, o1, o2, o3⟩ := opened_tpl hG hn (by rw [hpl]; exact ip)
  obtain ⟨yv, Y, o4, o5, o6⟩ := opened_tpl hG2 hn (by rw [hql]; exact IsL_app iq X)
  generalize hR2 : R ++ nlK pl ++ nlK ql ++ X ++ Y = R2 at o4 o5
  -- at the end nothing but new rows
  have hext : ∃ L, R2 = R ++ L := ⟨nlK pl ++ (nlK ql ++ (X ++ Y)), by rw [← hR2]; simp⟩
  have k5 : IsL R2 x5 c := by obtain ⟨L, hL⟩ := hext; rw [hL]; exact IsL_app j5 L
  have k6 : IsL R2 x6 u := by obtain ⟨L, hL⟩ := hext; rw [hL]; exact IsL_app i6 L
  have kx : IsLL R2 xv (lsT T c.length 0 c.length) := by rw [← hR2]; exact IsLL_app o2 Y
  have pw : Pbd c.length (PW c) := (PF_W j5 hall).bd
  have pq : Pbd c.length (PQ c u) := (PF_Q j5 hn hall i6 c6 hwok).bd
  obtain ⟨f1, q1, q2⟩ := least_ret (uv := .nilslice) (u := []) k5 IsL_nil hn hall (.inl ⟨rfl, rfl⟩) pw
  have q3 : f1 0 c.length = prT T 0 c.length := BN_unique q2 (Done_BN hD) c.length 0 c.length (by omega) (by omega) (by omega)
  rw [q3] at q1
  -- R.Prices, R.Worst
  have hpW := psT_worst hD (by omega) hcg c.length 0 c.length (by omega) (by omega) (by omega) (by omega)
  have hlp := psT_len (c := c) hG (m := c.length) (a := 0) (b := c.length) (by omega) (by omega) (by omega) (by omega)
  have r1 := rprices_ret (cs := c) k5 kx hcx (by have := lsT_len hG c.length 0 c.length (by omega) (by omega) (by omega) (by omega); omega) (lsT_all hG hn)
  obtain ⟨z1, Z1, y1, y2, _, y3⟩ := newL_shape R2 (psT c T c.length 0 c.length)
  have r1' : Ret F 33 [x5, xv] R2 = some (z1, R2 ++ Z1, none) := r1.trans (congrArg some y1)
  have r2 := rworst_ret y2 (by omega)
  rw [hpW] at r2
  obtain ⟨f2, q4, q5⟩ := least_ret (IsL_app k5 Z1) (IsL_app k6 Z1) hn hall (.inr ⟨hwok, rfl⟩) pq
  have q6 : f2 0 c.length = prT T2 0 c.length := BN_unique q5 (Done_BN hD2) c.length 0 c.length (by omega) (by omega) (by omega)
  rw [q6] at q4
  have hpQ := psT_weighed hD2 hul c.length 0 c.length (by omega) (by omega) (by omega) (by omega)
  have hlq := psT_len (c := c) hG2 (m := c.length) (a := 0) (b := c.length) (by omega) (by omega) (by omega) (by omega)
  have hnq := psT_nn (c := c) hG2 (by omega) hcg c.length 0 c.length (by omega) (by omega) (by omega) (by omega)
  have r3 := rprices_ret (cs := c) (IsL_app k5 Z1) (IsLL_app o5 Z1) hcx (by have := lsT_len hG2 c.length 0 c.length (by omega) (by omega) (by omega) (by omega); omega) (lsT_all hG2 hn)
  obtain ⟨z2, Z2, y4, y5, _, y6⟩ := newL_shape (R2 ++ Z1) (psT c T2 c.length 0 c.length)
  have r3' : Ret F 33 [x5, yv] (R2 ++ Z1) = some (z2, R2 ++ Z1 ++ Z2, none) := r3.trans (congrArg some y4)
  have r4 := rweighed_ret (IsL_app (IsL_app k6 Z1) Z2) y5 (by omega) (by
    intro i hi
    have a1 := hnq _ (gI_mem hi)
    have a2 := List.all_eq_true.1 hwok.2.1 _ (gI_mem (l := u) (i := i) (by omega))
    simp only [decide_eq_true_eq] at a2
    have := mul_bd (x := gI u i) (m := 1000) a2 (n := 12000) (y := gI (psT c T2 c.length 0 c.length) i) ⟨a1.1, by omega⟩
    omega) (by omega)
  rw [dot_wso _ (Nat.le_refl _), List.take_of_length_le (Nat.le_refl _)] at r4
  have hpQ' : wso u 0 (psT c T2 c.length 0 c.length) = prT T2 0 c.length := hpQ
  rw [hpQ'] at r4
  obtain ⟨K, hK, hUK⟩ := hur
  have ha := hA (K ++ (nlK pl ++ (nlK ql ++ (X ++ (Y ++ (Z1 ++ Z2)))))) (by
    subst hK
    intro y hy
    simp only [List.mem_append] at hy
    rcases hy with hy | hy | hy | hy | hy | hy | hy
    · exact und_mono (hUK y hy) (by simp)
    · exact und_mono (List.all_eq_true.1 (nlK_under pl) y hy) (Nat.zero_le _)
    · exact und_mono (List.all_eq_true.1 (nlK_under ql) y hy) (Nat.zero_le _)
    · exact und_mono (o3 y hy) (by simp; omega)
    · exact und_mono (o6 y hy) (by simp; omega)
    · exact und_mono (List.all_eq_true.1 y3 y hy) (Nat.zero_le _)
    · exact und_mono (List.all_eq_true.1 y6 y hy) (Nat.zero_le _))
  have hRe : rows ++ (K ++ (nlK pl ++ (nlK ql ++ (X ++ (Y ++ (Z1 ++ Z2)))))) = R2 ++ Z1 ++ Z2 := by rw [← hR2, hK]; simp
  rw [hRe] at ha
  have g1 := toG8 hcs
  have g2 := toG8 hws
  have g3 := toG8 hW
  have g4 := toG8 hW2
  have g5 := toG8 o1
  have g6 := toG8 o4
  have g7 := toG8 q1
  have g8 := toG8 r1'
  have g9 := toG8 r2
  have g10 := toG8 q4
  have g11 := toG8 r3'
  have g12 := toG8 r4
  have g13 := toG8 ha
  have l5 := lenL0 i5
  have l52 := lenL0 (IsL_app (IsL_app j5 (nlK pl)) (nlK ql))
  have l53 := lenL0 (IsL_app (IsL_app (IsL_app j5 (nlK pl)) (nlK ql)) X)
  have l54 := lenL0 k5
  have l55 := lenL0 (IsL_app k5 Z1)
  refine Go.Abs.i8 more_at ?_
  simp [g1, l5, g2, g3, g4, l52, g5, l53, g6, -List.append_assoc, -List.length_append]
  simp [l54, g7, g8, g9, l55, g10, g11, g12, g13, hR2, -List.append_assoc, -List.length_append]
end Go.Abs

set_option linter.unusedVariables false
set_option linter.unusedSimpArgs false
namespace Go.Abs
theorem awake_u (l : List (Option ArgS)) : ∀ H, Und (aRows l) H → Ret F 22 [] (aRows l ++ H) = some (.bool true, aRows l ++ H, none) := by
  intro H hH
  have := awake_any (X := l.map argRow ++ H) (by
    rw [List.all_eq_true]
    intro y hy
    rw [List.mem_append] at hy
    rcases hy with hy | hy
    · refine Sh.runder_mono (Nat.zero_le _) ?_
      obtain ⟨a, _, rfl⟩ := List.mem_map.1 hy
      cases a <;> simp [argRow, Row.under, AV.under, nums]
    · refine Sh.runder_mono ?_ (hH y hy)
      simp [aRows, gRows]
      omega)
  simpa [aRows] using this
end Go.Abs

