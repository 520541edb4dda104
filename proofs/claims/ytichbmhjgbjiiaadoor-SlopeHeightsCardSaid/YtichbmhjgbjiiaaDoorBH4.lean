/- The texts that the row uses, part 4. -/
import Derived.Test.YtichbmhjgbjiiaaDoorBH3
import Derived.AtR
import Derived.Orders
import Derived.KernelRfl
import Derived.Laws.Cells
import Derived.Laws.CopyRow
import Derived.Laws.Append
import Derived.Laws.AppendOwn
import Derived.Laws.Entries
import Derived.ArgAppend
import Derived.ChangeKeysEq
import Derived.WideLaws
import Derived.Laws.Small
import Derived.Laws.StructEq
import Derived.Laws.Cover3
import Derived.Laws.Tables
import Derived.Laws.Rows
import Derived.Below
import Derived.Laws.IdiomCopy
import Derived.RangeFuncNested
import Derived.Test.YtichbmhjgbjiiaaDoorProg
import Derived.Test.YtichbmhjgbjiiaaDoorRows
import Derived.ProofKit
import Derived.LaidMore
import Derived.OpenShut
import Derived.Stop.Joined
import Derived.ChangeSlices
import Derived.SizedLaws
import Derived.SevenTiedAt
import Derived.WalkKit
import Derived.ShutString
import Derived.ChangeOld
import Derived.Carry
set_option linter.unusedVariables false
set_option linter.unusedSimpArgs false
namespace Go.Abs
structure Sh where
 g : Nat
 X : List Row
namespace Sh
variable (S : Sh)
def n (i : Nat) : Nat := if i < S.g then i else i + S.X.length
def v : AV → AV
 | .ptr id off => .ptr (S.n id) off
 | .slice id off len c => .slice (S.n id) off len c
 | .map id => .map (S.n id)
 | .yield id => .yield (S.n id)
 | .func f cs => .func f (vL cs)
 | .iface t x => .iface t (v x)
 | .agg l => .agg (vL l)
 | .tup l => .tup (vL l)
 | x => x
where vL : List AV → List AV
 | [] => []
 | x :: l => v x :: vL l
theorem vL_map : ∀ l : List AV, v.vL S l = l.map S.v
 | [] => rfl
 | x :: l => by simp [v.vL, vL_map l]
theorem v_func (f : Nat) (cs : List AV) : S.v (.func f cs) = .func f (cs.map S.v) := by simp [v, vL_map]
theorem v_agg (l : List AV) : S.v (.agg l) = .agg (l.map S.v) := by simp [v, vL_map]
theorem v_tup (l : List AV) : S.v (.tup l) = .tup (l.map S.v) := by simp [v, vL_map]
theorem n_lt {i j : Nat} : S.n i < S.n j ↔ i < j := by unfold n; split <;> split <;> omega
theorem n_inj {i j : Nat} : S.n i = S.n j ↔ i = j := by unfold n; split <;> split <;> omega
theorem n_ge {i : Nat} (h : S.g ≤ i) : S.n i = i + S.X.length := by unfold n; rw [if_neg (by omega)]
theorem n_lo {i : Nat} (h : i < S.g) : S.n i = i := by unfold n; rw [if_pos h]
mutual
theorem ids : ∀ x : AV, (S.v x).ids = x.ids.map S.n
 | .ptr .. => by simp [v, AV.ids]
 | .slice .. => by simp [v, AV.ids]
 | .map .. => by simp [v, AV.ids]
 | .yield .. => by simp [v, AV.ids]
 | .func f cs => by simp only [v, AV.ids]; exact idsL cs
 | .iface t x => by simp only [v, AV.ids]; exact ids x
 | .agg l => by simp only [v, AV.ids]; exact idsL l
 | .tup l => by simp only [v, AV.ids]; exact idsL l
 | .bool _ => by simp [v, AV.ids]
 | .int .. => by simp [v, AV.ids]
 | .str _ => by simp [v, AV.ids]
 | .nilptr => by simp [v, AV.ids]
 | .nilslice => by simp [v, AV.ids]
 | .nilmap => by simp [v, AV.ids]
 | .nilfunc => by simp [v, AV.ids]
 | .niliface => by simp [v, AV.ids]
 | .any => by simp [v, AV.ids]
theorem idsL : ∀ l : List AV, AV.ids.idsL (v.vL S l) = (AV.ids.idsL l).map S.n
 | [] => by simp [v.vL, AV.ids.idsL]
 | x :: l => by simp only [v.vL, AV.ids.idsL, List.map_append, ids x, idsL l]
end
@[simp] theorem one (x : AV) : (S.v x).one = x.one := by cases x <;> simp [v, AV.one]
@[simp] theorem cells (x : AV) : (S.v x).cells = x.cells.map S.v := by cases x <;> simp [v, AV.cells, vL_map]
theorem all_one (l : List AV) : (l.map S.v).all AV.one = l.all AV.one := by simp [List.all_map, Function.comp_def]

def o : Opd → Opd
 | .t i => .t i
 | .c x => .c (S.v x)
def oo (x : Option Opd) : Option Opd := x.map S.o
def ps (l : List (Nat × Nat × Opd)) : List (Nat × Nat × Opd) := l.map fun p => (p.1, p.2.1, S.o p.2.2)
def i : IOp → IOp
 | .mv x => .mv (S.o x)
 | .pick c a b => .pick (S.o c) (S.o a) (S.o b)
 | .box x => .box (S.o x)
 | .load1 a => .load1 (S.o a)
 | .loadN k a => .loadN k (S.o a)
 | .store1 a x => .store1 (S.o a) (S.o x)
 | .storeN k a x => .storeN k (S.o a) (S.o x)
 | .nilck x => .nilck (S.o x)
 | .bin op x y => .bin op (S.o x) (S.o y)
 | .eqv neg kd x y => .eqv neg kd (S.o x) (S.o y)
 | .un op x => .un op (S.o x)
 | .conv k x => .conv k (S.o x)
 | .part1 off x => .part1 off (S.o x)
 | .partN off k x => .partN off k (S.o x)
 | .idxV len sz ag x j => .idxV len sz ag (S.o x) (S.o j)
 | .fieldA off x => .fieldA off (S.o x)
 | .idxA len sz x j => .idxA len sz (S.o x) (S.o j)
 | .idxS sz x j => .idxS sz (S.o x) (S.o j)
 | .mkagg zero l => .mkagg (zero.map S.v) (S.ps l)
 | .mkslice len zero l => .mkslice len (zero.map S.v) (S.ps l)
 | .make zero b l c => .make (zero.map S.v) b (S.o l) (S.o c)
 | .sliceS sz x lo hi mx => .sliceS sz (S.o x) (S.oo lo) (S.oo hi) (S.oo mx)
 | .sliceA k sz x lo hi mx => .sliceA k sz (S.o x) (S.oo lo) (S.oo hi) (S.oo mx)
 | .mkfn f cs => .mkfn f (cs.map S.o)
 | .bind f cs => .bind f (cs.map S.o)
 | .mkmap => .mkmap
 | .look z ok m k => .look (S.v z) ok (S.o m) (S.o k)
 | .mset m k x => .mset (S.o m) (S.o k) (S.o x)
 | .lenc k => .lenc k
 | .len kd x => .len kd (S.o x)
 | .cap x => .cap (S.o x)
 | .mx xs => .mx (xs.map S.o)
 | .mn xs => .mn (xs.map S.o)
 | .app sz b s x => .app sz b (S.o s) (S.o x)
 | .appz z s x => .appz (z.map S.v) (S.o s) (S.o x)
 | .ext x j => .ext (S.o x) j
 | .mkif t x => .mkif t (S.o x)
 | .call tab f args => .call tab (S.o f) (args.map S.o)
 | .bad => .bad
def x (a : IOpx) : IOpx := ⟨a.dst, S.i a.op, a.g⟩
def gl (l : List (IOpx × Nat)) : List (IOpx × Nat) := l.map fun p => (S.x p.1, p.2)
def s : Seg → Seg
 | .one a => .one (S.x a)
 | .grp l => .grp (S.gl l)
 | .grpw a y k b l => .grpw (S.o a) (S.o y) k b (S.gl l)
 | .stop => .stop
def c : ICode → ICode
 | .skip => .skip
 | .ret => .ret
 | .exit id => .exit id
 | .seq a b => .seq (c a) (c b)
 | .cond y a b => .cond (S.o y) (c a) (c b)
 | .block id a => .block id (c a)
 | .loop a => .loop (c a)
 | .scope a => .scope (c a)
 | .ops l => .ops (l.map S.s)
 | .rf f pl a b => .rf (S.o f) pl (c a) (c b)
 | .kill m l a => .kill m l (c a)
 | .stop => .stop
def t : Itm → Itm
 | .code a => .code (S.c a)
 | .inBlock id => .inBlock id
 | .inLoop a => .inLoop (S.c a)
 | .inScope a => .inScope (S.c a)
 | .ops l => .ops (l.map S.s)
 | .rfBegin => .rfBegin
def e (p : AV × AV) : AV × AV := (S.v p.1, S.v p.2)
def r : Row → Row
 | .cells vs => .cells (vs.map S.v)
 | .ro vs => .ro (vs.map S.v)
 | .mp es => .mp (es.map S.e)
 | .loop st pend sl pl asg body => .loop st pend (sl.map S.v) pl (S.c asg) (S.c body)
 | .mark => .mark
 | .dead => .dead
def h (rows : List Row) : List Row := (rows.take S.g).map S.r ++ S.X ++ (rows.drop S.g).map S.r
def x3 (q : AV × List Row × Nat) : AV × List Row × Nat := (S.v q.1, S.h q.2.1, S.n q.2.2)
def x3o (q : AV × List Row × Option Nat) : AV × List Row × Option Nat := (S.v q.1, S.h q.2.1, q.2.2.map S.n)

variable {S}
theorem h_len {rows : List Row} (hg : S.g ≤ rows.length) : (S.h rows).length = S.n rows.length := by
 rw [S.n_ge hg]
 simp [h]
 omega
theorem h_get {rows : List Row} (hg : S.g ≤ rows.length) (id : Nat) : (S.h rows)[S.n id]? = (rows[id]?).map S.r := by
 unfold h
 have hl : ((rows.take S.g).map S.r).length = S.g := by simp; omega
 by_cases hid : id < S.g
 ·rw [S.n_lo hid, List.append_assoc, List.getElem?_append_left (by omega), List.getElem?_map, List.getElem?_take, if_pos hid]
 ·rw [S.n_ge (by omega), List.getElem?_append_right (by simp; omega), List.getElem?_map, List.getElem?_drop]
  simp only [List.length_append, hl]
  congr 2
  omega
theorem h_set {rows : List Row} (hg : S.g ≤ rows.length) (id : Nat) (x : Row) : (S.h rows).set (S.n id) (S.r x) = S.h (rows.set id x) := by
 unfold h
 have hl : ((rows.take S.g).map S.r).length = S.g := by simp; omega
 by_cases hid : id < S.g
 ·rw [S.n_lo hid, List.append_assoc, List.set_append_left _ _ (by omega), ← List.map_set, List.take_set, List.drop_set_of_lt hid, List.append_assoc]
 ·rw [S.n_ge (by omega), List.set_append_right _ _ (by simp; omega), ← List.map_set]
  simp only [List.length_append, hl]
  rw [List.take_set_of_le (by omega), List.drop_set, if_neg (by omega)]
  congr 3
  omega
theorem h_app {rows L : List Row} (hg : S.g ≤ rows.length) : S.h (rows ++ L) = S.h rows ++ L.map S.r := by
 unfold h
 rw [List.take_append_of_le_length hg, List.drop_append_of_le_length hg, List.map_append]
 simp only [List.append_assoc]
theorem h_row? {rows : List Row} (hg : S.g ≤ rows.length) (id : Nat) : row? (S.h rows) (S.n id) = (row? rows id).map (·.map S.v) := by
 unfold row?
 rw [h_get hg]
 cases rows[id]? with
 | none => rfl
 | some y => cases y <;> rfl

variable (S)
theorem getO_ok (sl : List AV) (x : Opd) : getO (sl.map S.v) (S.o x) = S.v (getO sl x) := by
 cases x with
 |
  t i =>
  simp only [o, getO, List.getD_eq_getElem?_getD, List.getElem?_map]
  cases sl[i]? <;> simp [v]
 | c y => rfl
theorem seg_ok (l : List AV) (a b : Nat) : seg (l.map S.v) a b = (seg l a b).map (·.map S.v) := by
 unfold seg
 rw [List.length_map]
 split <;> simp
theorem splice_ok (l m : List AV) (a : Nat) : splice (l.map S.v) a (m.map S.v) = (splice l a m).map S.v := by simp [splice]
theorem fill_ok {gg gg' : Opd → AV} (hgg : ∀ x, gg' (S.o x) = S.v (gg x)) : ∀ (l : List (Nat × Nat × Opd)) (cs : List AV), fillA gg' (S.ps l) (cs.map S.v) = (fillA gg l cs).map (·.map S.v)
 | [], cs => rfl
 |
  (a, b, x) :: l, cs => by
  simp only [ps, List.map_cons, fillA, hgg, cells, List.length_map, all_one]
  split
  ·rw [splice_ok]
   exact fill_ok hgg l _
  ·rfl
theorem bin_ok (op : BinOp) (a b : AV) : binA op (S.v a) (S.v b) = (binA op a b).map S.v := by
 cases a <;> first
  | (simp only [v, binA]; rfl)
  | (cases b <;> first
    | (simp only [v, binA]; rfl)
    | (
      simp only [v, binA]
      split
      ·cases op <;> simp [shiftI] <;> split <;> simp [v]
      ·split
       ·cases op <;> simp only [binI] <;> first | rfl | (split <;> rfl)
       ·rfl))
theorem eqInts_ok : ∀ xs ys : List AV, eqInts (xs.map S.v) (ys.map S.v) = eqInts xs ys
 | [], [] => rfl
 | [], _ :: _ => by simp [eqInts]
 | _ :: _, [] => by simp [eqInts]
 |
  a :: xs, b :: ys => by
  cases a <;> cases b <;> simp only [List.map_cons, v, eqInts]
  rw [eqInts_ok xs ys]
theorem eqIfc_ok (t n t1 t2 : Nat) (a b : AV) : eqIfc t n t1 t2 (S.v a) (S.v b) = eqIfc t n t1 t2 a b := by
 cases a <;> cases b <;> first | rfl | simp only [v, eqIfc]
 simp only [vL_map, List.length_map, eqInts_ok]
theorem eq_ok (kd : EqK) (a b : AV) : eqA kd (S.v a) (S.v b) = eqA kd a b := by
 cases kd <;> cases a <;> cases b <;> first | rfl | simp only [v, eqA]
 ·simp only [vL_map, List.length_map, eqInts_ok]
 ·exact eqIfc_ok S _ _ _ _ _ _
theorem un_ok (op : UnOp) (a : AV) : unA op (S.v a) = (unA op a).map S.v := by
 cases a <;> cases op <;> simp only [v, unA] <;> rfl
theorem fold_ok {f : AV → AV → Option AV} (hf : ∀ a b, f (S.v a) (S.v b) = (f a b).map S.v) : ∀ (l : List AV) (a : AV), foldA f (S.v a) (l.map S.v) = (foldA f a l).map S.v
 | [], a => rfl
 |
  x :: l, a => by
  simp only [List.map_cons, foldA, hf]
  cases f a x with
  | none => rfl
  | some b => exact fold_ok hf l b
theorem mx_ok (a b : AV) : mxA (S.v a) (S.v b) = (mxA a b).map S.v := by
 cases a <;> cases b <;> first | rfl | (simp only [v, mxA]; split <;> rfl)
theorem mn_ok (a b : AV) : mnA (S.v a) (S.v b) = (mnA a b).map S.v := by
 cases a <;> cases b <;> first | rfl | (simp only [v, mnA]; split <;> rfl)
theorem bound_ok (y : Option AV) (d k : Nat) : bound? (y.map S.v) d k = bound? y d k := by
 cases y with
 | none => rfl
 | some a => cases a <;> rfl
theorem slice_ok (sz : Nat) (a : AV) (lo hi mx : Option AV) : sliceV sz (S.v a) (lo.map S.v) (hi.map S.v) (mx.map S.v) = (sliceV sz a lo hi mx).map S.v := by
 have e1 : ∀ y : Option AV, (y.map S.v).isSome = y.isSome := fun y => by cases y <;> rfl
 have e2 : ∀ y : Option AV, (y.map S.v).isNone = y.isNone := fun y => by cases y <;> rfl
 cases a <;> try rfl
 case slice id off len cp =>
  cases cp with
  |
   at_ k =>
   simp only [v, sliceV, bound_ok, e1, e2]
   cases bound? mx k k with
   | none => rfl
   |
    some q =>
    simp only
    cases bound? hi len q with
    | none => rfl
    |
     some w =>
     simp only
     cases bound? lo 0 w with
     | none => rfl
     | some u => simp only; split <;> rfl
  |
   op k =>
   cases mx with
   |
    none =>
    simp only [v, sliceV, bound_ok, e1, e2, Option.map_none]
    cases bound? hi len len with
    | none => rfl
    |
     some w =>
     simp only
     cases bound? lo 0 w with
     | none => rfl
     | some u => simp only; split <;> rfl
   |
    some y =>
    have e3 := bound_ok S (some y) len len
    simp only [Option.map_some] at e3
    simp only [v, sliceV, bound_ok, e1, e2, Option.map_some, e3]
    cases bound? (some y) len len with
    | none => rfl
    |
     some q =>
     simp only
     cases bound? hi len q with
     | none => rfl
     |
      some w =>
      simp only
      cases bound? lo 0 w with
      | none => rfl
      |
       some u =>
       simp only
       by_cases z1 : hi.isNone = true
       ·simp [z1]
       ·by_cases z2 : k = sz <;> simp [z1, z2, v]
 case nilslice =>
  simp only [v, sliceV, bound_ok, e1, e2]
  cases bound? mx 0 0 <;> cases bound? hi 0 0 <;> cases bound? lo 0 0 <;> simp only <;> first | rfl | (split <;> rfl)
theorem key_ok (a b : AV) : keyEq (S.v a) (S.v b) = keyEq a b := by cases a <;> cases b <;> rfl
theorem find_ok (k : AV) : ∀ (es : List (AV × AV)) (j : Nat), findK (S.v k) (es.map S.e) j = (findK k es j).map fun q => q.map fun p => (p.1, S.v p.2)
 | [], j => rfl
 |
  p :: es, j => by
  simp only [List.map_cons, findK, e, key_ok]
  cases keyEq k p.1 with
  | none => rfl
  |
   some b =>
   cases b
   ·exact find_ok k es (j + 1)
   ·rfl
end Sh
end Go.Abs
namespace Go.Abs
namespace Sh
variable (S : Sh)
theorem map_ok {gg gg' : Opd → AV} (hgg : ∀ y, gg' (S.o y) = S.v (gg y)) (l : List Opd) : (l.map S.o).map gg' = (l.map gg).map S.v := by
 simp [hgg, Function.comp_def]
theorem mapo_ok {gg gg' : Opd → AV} (hgg : ∀ y, gg' (S.o y) = S.v (gg y)) (l : Option Opd) : (S.oo l).map gg' = (l.map gg).map S.v := by
 cases l <;> simp [oo, hgg]
theorem evalP_ok {gg gg' : Opd → AV} (hgg : ∀ y, gg' (S.o y) = S.v (gg y)) {rows : List Row} (hg : S.g ≤ rows.length) (op : IOp) : evalP (S.h rows) gg' (S.i op) = (evalP rows gg op).map S.v := by
 cases op with
 | mv y => simp only [i, evalP, hgg, Option.map_some]
 |
  pick y a b =>
  simp only [i, evalP, hgg]
  cases gg y <;> try rfl
  simp only [v, Option.map_some]; split <;> rfl
 |
  load1 a =>
  simp only [i, evalP, hgg]
  cases gg a <;> try rfl
  simp only [v, h_row? hg]
  cases row? rows _ with
  | none => rfl
  | some vs => simp
 |
  loadN k a =>
  simp only [i, evalP, hgg]
  cases gg a <;> try rfl
  simp only [v, h_row? hg]
  cases row? rows _ with
  | none => rfl
  |
   some vs =>
   simp only [Option.map_some, seg_ok]
   cases seg vs _ _ <;> simp [v_agg]
 |
  nilck y =>
  simp only [i, evalP, hgg]
  cases gg y <;> rfl
 | bin op a b => simp only [i, evalP, hgg, bin_ok]
 |
  eqv neg kd a b =>
  simp only [i, evalP, hgg, eq_ok]
  cases eqA kd (gg a) (gg b) <;> rfl
 | un op a => simp only [i, evalP, hgg, un_ok]
 |
  conv k a =>
  simp only [i, evalP, hgg]
  cases gg a <;> rfl
 |
  part1 off a =>
  simp only [i, evalP, hgg]
  cases gg a <;> try rfl
  simp [v_agg]
 |
  partN off k a =>
  simp only [i, evalP, hgg]
  cases gg a <;> try rfl
  simp only [v_agg, seg_ok]
  cases seg _ off k <;> simp [v_agg]
 |
  idxV len sz ag a j =>
  simp only [i, evalP, hgg]
  cases gg a <;> try rfl
  cases gg j <;> try rfl
  simp only [v_agg, v, vL_map]
  cases idx? _ len with
  | none => rfl
  |
   some q =>
   simp only
   split
   ·rw [seg_ok]; cases seg _ _ _ <;> simp [v_agg]
   ·simp
 |
  fieldA off a =>
  simp only [i, evalP, hgg]
  cases gg a <;> rfl
 |
  idxA len sz a j =>
  simp only [i, evalP, hgg]
  cases gg a <;> try rfl
  cases gg j <;> try rfl
  simp only [v]
  cases idx? _ len <;> rfl
 |
  idxS sz a j =>
  simp only [i, evalP, hgg]
  cases gg a <;> try rfl
  cases gg j <;> try rfl
  simp only [v]
  cases idx? _ _ <;> rfl
 |
  mkagg z l =>
  simp only [i, evalP, fill_ok S hgg]
  cases fillA gg l z <;> simp [v_agg]
 | sliceS sz a lo hi mx => simp only [i, evalP, hgg, mapo_ok S hgg, slice_ok]
 |
  sliceA k sz a lo hi mx =>
  simp only [i, evalP, hgg, mapo_ok S hgg]
  cases gg a <;> try rfl
  rename_i id off
  exact slice_ok S sz (.slice id off k (.at_ k)) (lo.map gg) (hi.map gg) (mx.map gg)
 | mkfn f cs => simp only [i, evalP, map_ok S hgg, Option.map_some, v_func]
 | bind f cs => simp only [i, evalP, map_ok S hgg, Option.map_some, v, vL_map, List.map_cons]
 |
  look z ok a b =>
  simp only [i, evalP, hgg]
  cases gg a <;> try rfl
  ·rename_i id
   simp only [v, h_get hg]
   cases rows[id]? with
   | none => rfl
   |
    some y =>
    cases y <;> try rfl
    simp only [Option.map_some, r, find_ok]
    cases findK (gg b) _ 0 with
    | none => rfl
    |
     some q =>
     cases q with
     | none => simp only [Option.map_some, Option.map_none]; cases ok <;> simp [v_tup, v]
     | some p => simp only [Option.map_some]; cases ok <;> simp [v_tup, v]
  ·simp only [v, key_ok]
   cases keyEq (gg b) (gg b) with
   | none => rfl
   | some q => simp only; cases ok <;> simp [v, vL_map]
 | lenc k => rfl
 |
  len kd a =>
  simp only [i, evalP, hgg]
  cases gg a <;> (try (rcases kd with _ | _ | _ | kd <;> rfl))
  rcases kd with _ | _ | _ | kd <;> try rfl
  rename_i id
  simp only [v, h_get hg]
  cases rows[id]? with
  | none => rfl
  | some y => cases y <;> simp [r, v]
 |
  cap a =>
  simp only [i, evalP, hgg]
  cases gg a <;> try rfl
  rename_i c
  cases c <;> rfl
 |
  mx xs =>
  simp only [i, evalP, map_ok S hgg]
  cases xs.map gg with
  | nil => rfl
  | cons a l => exact fold_ok S (mx_ok S) l a
 |
  mn xs =>
  simp only [i, evalP, map_ok S hgg]
  cases xs.map gg with
  | nil => rfl
  | cons a l => exact fold_ok S (mn_ok S) l a
 |
  ext a j =>
  simp only [i, evalP, hgg]
  cases gg a <;> try rfl
  simp [v_tup]
 | mkif ty a => simp [i, evalP, hgg, v]
 | _ => rfl

theorem lower_ok (low id : Nat) : lower (S.n low) (S.n id) = S.n (lower low id) := by
 unfold lower
 by_cases h : id < low
 ·rw [if_pos h, if_pos (S.n_lt.2 h)]
 ·rw [if_neg h, if_neg (fun e => h (S.n_lt.1 e))]
theorem elems_ok {rows : List Row} (hg : S.g ≤ rows.length) (sz : Nat) (a : AV) : elems (S.h rows) sz (S.v a) = (elems rows sz a).map fun p => (p.1.map S.v, p.2) := by
 cases a <;> try rfl
 simp only [v, elems, h_row? hg]
 cases row? rows _ with
 | none => rfl
 |
  some vs =>
  simp only [Option.map_some, seg_ok]
  cases seg vs _ _ <;> simp
theorem rep_ok (k : Nat) (z : List AV) : (List.replicate k (z.map S.v)).flatten = ((List.replicate k z).flatten).map S.v := by
 induction k with
 | zero => rfl
 | succ k ih => rw [List.replicate_succ, List.replicate_succ, List.flatten_cons, List.flatten_cons, ih, List.map_append]
theorem cells_ok (l : List AV) : S.r (.cells l) = .cells (l.map S.v) := rfl
theorem tup0 : S.v (.tup []) = .tup [] := by rw [v_tup]; rfl

theorem evalE_ok {gg gg' : Opd → AV} (hgg : ∀ y, gg' (S.o y) = S.v (gg y)) {rows : List Row} (hg : S.g ≤ rows.length) (low : Nat) (op : IOp) : evalE gg' (S.h rows) (S.n low) (S.i op) = (evalE gg rows low op).map S.x3 ∧ ∀ q, evalE gg rows low op = some q → rows.length ≤ q.2.1.length := by
 have hP : ∀ op : IOp, (evalP (S.h rows) gg' (S.i op)).map (fun w => (w, S.h rows, S.n low)) = ((evalP rows gg op).map fun w => (w, rows, low)).map S.x3 := by
  intro op
  rw [evalP_ok S hgg hg]
  cases evalP rows gg op <;> rfl
 have hP2 : ∀ op : IOp, ∀ q, ((evalP rows gg op).map fun w => (w, rows, low)) = some q → rows.length ≤ q.2.1.length := by
  intro op q e
  rw [Option.map_eq_some_iff] at e
  obtain ⟨w, _, rfl⟩ := e
  exact Nat.le_refl _
 have hlen : (S.h rows).length = S.n rows.length := h_len hg
 cases op with
 |
  box y =>
  simp only [i, evalE, hgg, cells, all_one]
  by_cases h1 : (gg y).cells.all AV.one = true
  ·rw [if_pos h1, if_pos h1]
   refine ⟨?_, fun q e => ?_⟩
   ·simp only [Option.map_some, x3, v, hlen, h_app hg, List.map_cons, List.map_nil, cells_ok, List.map_append]
   ·injection e with e; subst e; simp
  ·rw [if_neg h1, if_neg h1]
   exact ⟨rfl, fun q e => by simp at e⟩
 |
  store1 a y =>
  simp only [i, evalE, hgg]
  cases gg a <;> try exact ⟨rfl, fun q e => by simp at e⟩
  rename_i id off
  simp only [v, h_get hg]
  cases hr : rows[id]? with
  | none => exact ⟨rfl, fun q e => by simp at e⟩
  |
   some w =>
   cases w <;> try exact ⟨rfl, fun q e => by simp at e⟩
   rename_i vs
   simp only [Option.map_some, r, List.length_map, one]
   by_cases h1 : off < vs.length ∧ (gg y).one = true
   ·rw [if_pos h1, if_pos h1]
    refine ⟨?_, fun q e => ?_⟩
    ·simp only [Option.map_some, x3, tup0, lower_ok, ← h_set hg, cells_ok, List.map_set]
    ·injection e with e; subst e; simp
   ·rw [if_neg h1, if_neg h1]
    exact ⟨rfl, fun q e => by simp at e⟩
 |
  storeN k a y =>
  simp only [i, evalE, hgg]
  cases gg a <;> try exact ⟨rfl, fun q e => by simp at e⟩
  rename_i id off
  cases gg y <;> try exact ⟨rfl, fun q e => by simp at e⟩
  rename_i l
  simp only [v, vL_map, h_get hg]
  cases hr : rows[id]? with
  | none => exact ⟨rfl, fun q e => by simp at e⟩
  |
   some w =>
   cases w <;> try exact ⟨rfl, fun q e => by simp at e⟩
   rename_i vs
   simp only [Option.map_some, r, List.length_map, all_one]
   by_cases h1 : l.length = k ∧ off + k ≤ vs.length ∧ l.all AV.one = true
   ·rw [if_pos h1, if_pos h1]
    refine ⟨?_, fun q e => ?_⟩
    ·simp only [Option.map_some, x3, tup0, lower_ok, ← h_set hg, cells_ok, splice_ok]
    ·injection e with e; subst e; simp
   ·rw [if_neg h1, if_neg h1]
    exact ⟨rfl, fun q e => by simp at e⟩
 |
  mkslice k z l =>
  simp only [i, evalE, fill_ok S hgg]
  cases fillA gg l z with
  | none => exact ⟨rfl, fun q e => by simp at e⟩
  |
   some cs =>
   refine ⟨?_, fun q e => ?_⟩
   ·simp only [Option.map_some, x3, v, hlen, h_app hg, List.map_cons, List.map_nil, cells_ok, List.map_append]
   ·simp only [Option.some.injEq] at e; subst e; simp
 |
  make z b l cp =>
  simp only [i, evalE, hgg]
  cases gg l <;> try exact ⟨rfl, fun q e => by simp at e⟩
  cases gg cp <;> try exact ⟨rfl, fun q e => by simp at e⟩
  simp only [v]
  split
  ·refine ⟨?_, fun q e => ?_⟩
   ·simp only [Option.map_some, x3, v, hlen, h_app hg, List.map_cons, List.map_nil, cells_ok, rep_ok]
   ·injection e with e; subst e; simp
  ·exact ⟨rfl, fun q e => by simp at e⟩
 |
  appz z a y =>
  simp only [i, evalE, hgg]
  cases gg a <;> try exact ⟨rfl, fun q e => by simp at e⟩
  cases gg y <;> try exact ⟨rfl, fun q e => by simp at e⟩
  simp only [v]
  split
  ·refine ⟨?_, fun q e => ?_⟩
   ·simp only [Option.map_some, x3, v, hlen, h_app hg, List.map_cons, List.map_nil, cells_ok, rep_ok]
   ·injection e with e; subst e; simp
  ·exact ⟨rfl, fun q e => by simp at e⟩
 |
  mkmap =>
  refine ⟨?_, fun q e => ?_⟩
  ·simp [i, evalE, x3, v, hlen, h_app hg, r]
  ·simp only [evalE, Option.some.injEq] at e; subst e; simp
 |
  mset a k y =>
  simp only [i, evalE, hgg]
  cases gg a <;> try exact ⟨rfl, fun q e => by simp at e⟩
  rename_i id
  simp only [v, h_get hg]
  cases hr : rows[id]? with
  | none => exact ⟨rfl, fun q e => by simp at e⟩
  |
   some w =>
   cases w <;> try exact ⟨rfl, fun q e => by simp at e⟩
   rename_i es
   simp only [Option.map_some, r, find_ok]
   cases findK (gg k) es 0 with
   | none => exact ⟨rfl, fun q e => by simp at e⟩
   |
    some q =>
    cases q with
    |
     none =>
     simp only [Option.map_some, Option.map_none, key_ok]
     split
     ·refine ⟨?_, fun q e => ?_⟩
      ·simp only [Option.map_some, x3, tup0, lower_ok, ← h_set hg, r, List.map_append, List.map_cons, List.map_nil, Sh.e]
      ·injection e with e; subst e; simp
     ·exact ⟨rfl, fun q e => by simp at e⟩
    |
     some p =>
     obtain ⟨j, w⟩ := p
     simp only [Option.map_some]
     refine ⟨?_, fun q e => ?_⟩
     ·simp only [x3, tup0, lower_ok, ← h_set hg, r, List.map_set, Sh.e]
     ·injection e with e; subst e; simp
 |
  app sz b a y =>
  simp only [i, evalE, hgg, elems_ok S hg]
  cases elems rows sz (gg y) with
  | none => exact ⟨rfl, fun q e => by simp at e⟩
  |
   some p =>
   obtain ⟨ys, m⟩ := p
   simp only [Option.map_some]
   by_cases hm : m = 0
   ·rw [if_pos hm, if_pos hm]
    cases hga : gg a with
    | nilslice => exact ⟨rfl, fun q e => by injection e with e; subst e; exact Nat.le_refl _⟩
    | slice => exact ⟨rfl, fun q e => by injection e with e; subst e; exact Nat.le_refl _⟩
    | _ => exact ⟨rfl, fun q e => by simp at e⟩
   ·rw [if_neg hm, if_neg hm]
    by_cases hm2 : lim < m
    ·rw [if_pos hm2, if_pos hm2]; exact ⟨rfl, fun q e => by simp at e⟩
    ·rw [if_neg hm2, if_neg hm2]
     cases gg a <;> try exact ⟨rfl, fun q e => by simp at e⟩
     ·rename_i id off k cp
      cases cp with
      |
       at_ c =>
       simp only [v]
       by_cases h1 : lim < k + m
       ·rw [if_pos h1, if_pos h1]; exact ⟨rfl, fun q e => by simp at e⟩
       ·rw [if_neg h1, if_neg h1]
        by_cases h2 : k + m ≤ c
        ·rw [if_pos h2, if_pos h2, h_get hg]
         cases hr : rows[id]? with
         | none => exact ⟨rfl, fun q e => by simp at e⟩
         |
          some w =>
          cases w <;> try exact ⟨rfl, fun q e => by simp at e⟩
          rename_i vs
          simp only [Option.map_some, r, List.length_map]
          split
          ·refine ⟨?_, fun q e => ?_⟩
           ·simp only [Option.map_some, x3, lower_ok, ← h_set hg, cells_ok, splice_ok, v]
           ·injection e with e; subst e; simp
          ·exact ⟨rfl, fun q e => by simp at e⟩
        ·rw [if_neg h2, if_neg h2, h_row? hg]
         cases row? rows id with
         | none => exact ⟨rfl, fun q e => by simp at e⟩
         |
          some vs =>
          simp only [Option.map_some, seg_ok]
          cases seg vs off (k * sz) with
          | none => exact ⟨rfl, fun q e => by simp at e⟩
          |
           some xs =>
           refine ⟨?_, fun q e => ?_⟩
           ·simp only [Option.map_some, x3, v, hlen, h_app hg, List.map_cons, List.map_nil, cells_ok, List.map_append]
           ·injection e with e; subst e; simp
      |
       op sz' =>
       simp only [v]
       by_cases h1 : lim < k + m ∨ sz' ≠ sz
       ·rw [if_pos h1, if_pos h1]; exact ⟨rfl, fun q e => by simp at e⟩
       ·rw [if_neg h1, if_neg h1, h_get hg]
        cases hr : rows[id]? with
        | none => exact ⟨rfl, fun q e => by simp at e⟩
        |
         some w =>
         cases w <;> try exact ⟨rfl, fun q e => by simp at e⟩
         rename_i vs
         simp only [Option.map_some, r, seg_ok]
         cases seg vs off (k * sz) with
         | none => exact ⟨rfl, fun q e => by simp at e⟩
         |
          some xs =>
          refine ⟨?_, fun q e => ?_⟩
          ·have hg' : S.g ≤ (rows.set id .dead).length := by simpa using hg
           have e1 : (S.h rows).set (S.n id) .dead = S.h (rows.set id .dead) := h_set (S := S) hg id .dead
           simp only [Option.map_some, x3, lower_ok, e1, v, hlen, h_app hg', List.map_cons, List.map_nil, cells_ok, List.map_append]
          ·injection e with e; subst e; simp
     ·refine ⟨?_, fun q e => ?_⟩
      ·simp only [Option.map_some, x3, v, hlen, h_app hg, List.map_cons, List.map_nil, cells_ok, List.map_append]
      ·injection e with e; subst e; simp
 | call f args => exact ⟨rfl, fun q e => by simp [evalE, evalP] at e⟩
 | bad => exact ⟨rfl, fun q e => by simp [evalE, evalP] at e⟩
 | mv y => exact ⟨hP (.mv y), hP2 (.mv y)⟩
 | mkfn f cs => exact ⟨hP (.mkfn f cs), hP2 (.mkfn f cs)⟩
 | bind f cs => exact ⟨hP (.bind f cs), hP2 (.bind f cs)⟩
 | lenc k => exact ⟨hP (.lenc k), hP2 (.lenc k)⟩
 | mkif ty y => exact ⟨hP (.mkif ty y), hP2 (.mkif ty y)⟩
 | _ => exact ⟨hP _, hP2 _⟩
end Sh
end Go.Abs
namespace Go.Abs
namespace Sh
variable (S : Sh)
theorem any_ok : S.v .any = .any := by simp [v]
theorem getT (sl : List AV) (t : Nat) : (sl.map S.v).getD t .any = S.v (sl.getD t .any) := getO_ok S sl (.t t)
theorem h_take {rows : List Row} {b : Nat} (h1 : S.g ≤ b) (h2 : b ≤ rows.length) : (S.h rows).take (S.n b) = S.h (rows.take b) := by
 have hg : S.g ≤ rows.length := by omega
 have e := h_app (S := S) (rows := rows.take b) (L := rows.drop b) (by simp; omega)
 rw [List.take_append_drop] at e
 have hl : (S.h (rows.take b)).length = S.n b := by
  rw [h_len (by simp; omega)]; congr 1; simp; omega
 rw [e, List.take_append_of_le_length (by omega), List.take_of_length_le (by omega)]
theorem h_drop {rows : List Row} {b : Nat} (h1 : S.g ≤ b) (h2 : b ≤ rows.length) : (S.h rows).drop (S.n b) = (rows.drop b).map S.r := by
 have e := h_app (S := S) (rows := rows.take b) (L := rows.drop b) (by simp; omega)
 rw [List.take_append_drop] at e
 have hl : (S.h (rows.take b)).length = S.n b := by
  rw [h_len (by simp; omega)]; congr 1; simp; omega
 rw [e, List.drop_append_of_le_length (by omega), List.drop_of_length_le (by omega), List.nil_append]
theorem lt_ok (b : Nat) (l : List Nat) : (l.map S.n).all (fun i => decide (i < S.n b)) = l.all fun i => decide (i < b) := by
 simp only [List.all_map, Function.comp_def, S.n_lt]
theorem under_ok (b : Nat) (a : AV) : (S.v a).under (S.n b) = a.under b := by
 unfold AV.under
 rw [ids]
 exact lt_ok S b a.ids
theorem underL_ok (b : Nat) (l : List AV) : (l.map S.v).all (AV.under (S.n b)) = l.all (AV.under b) := by
 simp only [List.all_map, Function.comp_def, under_ok]
theorem runder_ok (b : Nat) (y : Row) : (S.r y).under (S.n b) = y.under b := by
 cases y <;> simp only [r, Row.under, underL_ok]
 rename_i es
 simp only [List.all_map, Function.comp_def, Sh.e, under_ok]
theorem runders_ok (b : Nat) (l : List Row) : (l.map S.r).all (Row.under (S.n b)) = l.all (Row.under b) := by
 simp only [List.all_map, Function.comp_def, runder_ok]
theorem under_mono {b b' : Nat} (h : b ≤ b') {a : AV} (ha : a.under b = true) : a.under b' = true := by
 unfold AV.under at *
 rw [List.all_eq_true] at *
 intro x hx
 have := ha x hx
 simp at *
 omega
theorem runder_mono {b b' : Nat} (h : b ≤ b') {y : Row} (hy : y.under b = true) : y.under b' = true := by
 have hL : ∀ l : List AV, l.all (AV.under b) = true → l.all (AV.under b') = true := by
  intro l hl
  rw [List.all_eq_true] at *
  exact fun x hx => under_mono h (hl x hx)
 cases y <;> simp only [Row.under] at * <;> try exact hL _ hy
 rw [List.all_eq_true] at *
 intro x hx
 have := hy x hx
 rw [Bool.and_eq_true] at *
 exact ⟨under_mono h this.1, under_mono h this.2⟩

variable (hX : ∀ y ∈ S.X, y.under (S.g + S.X.length) = true)
include hX in
theorem gc_ok {b low : Nat} {a : AV} {rows : List Row} (h1 : S.g ≤ b) (h2 : b ≤ rows.length) : gc (S.n b) (S.n low) (S.v a) (S.h rows) = S.h (gc b low a rows) ∧ b ≤ (gc b low a rows).length := by
 have hall : (((S.h rows).take (S.n b)).drop (S.n low)).all (Row.under (S.n b)) = ((rows.take b).drop low).all (Row.under b) := by
  rw [h_take S h1 h2]
  have hl : S.g ≤ (rows.take b).length := by simp; omega
  generalize rows.take b = R at hl ⊢
  by_cases hlow : S.g ≤ low
  ·by_cases hlR : low ≤ R.length
   ·rw [h_drop S hlow hlR, runders_ok]
   ·rw [List.drop_of_length_le (by rw [h_len hl, S.n_ge hl, S.n_ge hlow]; omega), List.drop_of_length_le (by omega)]
    rfl
  ·rw [S.n_lo (by omega)]
   unfold h
   rw [List.append_assoc, List.drop_append_of_le_length (by simp; omega), ← List.map_drop, List.all_append, List.all_append, runders_ok, runders_ok]
   have hx : S.X.all (Row.under (S.n b)) = true := by
    rw [List.all_eq_true]
    exact fun y hy => runder_mono (by rw [S.n_ge h1]; omega) (hX y hy)
   rw [hx, Bool.true_and, ← List.all_append]
   congr 1
   rw [← List.drop_append_of_le_length (by simp; omega), List.take_append_drop]
 unfold gc
 rw [under_ok, hall]
 split
 ·rw [h_take S h1 h2]
  exact ⟨rfl, by simp; omega⟩
 ·exact ⟨rfl, h2⟩
theorem plain_ok (a : AV) : (S.v a).plain = a.plain := by
 cases a <;> simp only [v, AV.plain] <;> first
  | rfl
  | (rename_i x; have := ids S (.func _ x); simp only [v] at this; simp [this])
  | skip
 all_goals
  first
  | (rename_i f cs; have e := ids S (.func f cs); simp only [v] at e; rw [e]; simp)
  | (rename_i f cs; have e := ids S (.iface f cs); simp only [v] at e; rw [e]; simp)
  | (rename_i f; have e := ids S (.map f); simp only [v] at e; rw [e]; simp)
  | (rename_i f; have e := ids S (.yield f); simp only [v] at e; rw [e]; simp)
  | (rename_i f; have e := ids S (.agg f); simp only [v] at e; rw [e]; simp)
  | (rename_i f; have e := ids S (.tup f); simp only [v] at e; rw [e]; simp)
theorem ntup {a : AV} (h : ∀ l, a ≠ .tup l) : ∀ l, S.v a ≠ .tup l := by
 intro l
 cases a <;> simp [v]
 exact absurd rfl (h _)
theorem plain1_eq {a : AV} (h : ∀ l, a ≠ .tup l) : a.plain1 = a.plain := by
 cases a <;> first | rfl | exact absurd rfl (h _)
theorem ren1_eq {a : AV} (p q : Nat) (h : ∀ l, a ≠ .tup l) : a.ren1 p q = a.ren p q := by
 cases a <;> first | rfl | exact absurd rfl (h _)
theorem plain1_ok (a : AV) : (S.v a).plain1 = a.plain1 := by
 by_cases ht : ∃ l, a = .tup l
 ·obtain ⟨l, rfl⟩ := ht
  rw [v_tup]; simp only [AV.plain1, List.all_map, Function.comp_def, plain_ok]
 ·have h1 : ∀ l, a ≠ .tup l := fun l e => ht ⟨l, e⟩
  rw [plain1_eq h1, plain1_eq (ntup S h1), plain_ok]
theorem ren_ok (p q : Nat) (a : AV) : (S.v a).ren (S.n p) (S.n q) = S.v (a.ren p q) := by
 cases a <;> simp only [v, AV.ren, S.n_inj] <;> first | rfl | (split <;> rfl)
theorem ren1_ok (p q : Nat) (a : AV) : (S.v a).ren1 (S.n p) (S.n q) = S.v (a.ren1 p q) := by
 by_cases ht : ∃ l, a = .tup l
 ·obtain ⟨l, rfl⟩ := ht
  rw [v_tup]
  simp only [AV.ren1, v_tup, List.map_map]
  congr 1
  apply List.map_congr_left
  intro x _
  exact ren_ok S p q x
 ·have h1 : ∀ l, a ≠ .tup l := fun l e => ht ⟨l, e⟩
  rw [ren1_eq _ _ h1, ren1_eq _ _ (ntup S h1), ren_ok]
include hX in
theorem fin_ok {rows rows' : List Row} {low : Nat} {a : AV} (h1 : S.g ≤ rows.length) (h2 : rows.length ≤ rows'.length) : fin (S.h rows) (S.v a) (S.h rows') (S.n low) = S.x3o (fin rows a rows' low) ∧ rows.length ≤ (fin rows a rows' low).2.1.length := by
 have hlen : (S.h rows).length = S.n rows.length := h_len h1
 unfold fin
 rw [hlen]
 simp only [S.n_inj]
 by_cases hl : low = rows.length
 ·rw [if_pos hl, if_pos hl, ids, lt_ok]
  by_cases ha : (a.ids.all fun x => decide (x < rows.length)) = true
  ·rw [if_pos ha, if_pos ha]
   exact ⟨rfl, Nat.le_refl _⟩
  ·rw [if_neg ha, if_neg ha]
   cases hi : a.ids with
   | nil => exact ⟨rfl, h2⟩
   |
    cons p l =>
    cases l with
    | cons _ _ => exact ⟨rfl, h2⟩
    |
     nil =>
     simp only [List.map_cons, List.map_nil, h_get (Nat.le_trans h1 h2)]
     cases rows'[p]? with
     | none => exact ⟨rfl, h2⟩
     |
      some y =>
      cases y <;> try exact ⟨rfl, h2⟩
      rename_i vs
      simp only [Option.map_some, r, plain1_ok]
      have e : (vs.map S.v).all (fun x => x.ids.isEmpty) = vs.all fun x => x.ids.isEmpty := by
       simp only [List.all_map, Function.comp_def, ids, List.isEmpty_map]
      rw [e]
      split
      ·refine ⟨?_, by simp⟩
       simp only [x3o, ren1_ok, h_app h1, List.map_cons, List.map_nil, cells_ok, Option.map_none]
      ·exact ⟨rfl, h2⟩
 ·rw [if_neg hl, if_neg hl]
  have := gc_ok S hX (low := low) (a := a) h1 h2
  refine ⟨?_, this.2⟩
  simp only [x3o, this.1, Option.map_some]

theorem resV_ok {rows : List Row} (hg : S.g ≤ rows.length) (sl : List AV) (y : RV) : resV (S.h rows) (sl.map S.v) y = (resV rows sl y).map S.v := by
 cases y with
 | t k => simp only [resV, getT, Option.map_some]
 | cell1 k => exact evalP_ok S (getO_ok S sl) hg (.load1 (.t k))
 | cellN k sz => exact evalP_ok S (getO_ok S sl) hg (.loadN sz (.t k))
theorem resVs_ok {rows : List Row} (hg : S.g ≤ rows.length) (sl : List AV) : ∀ l : List RV, resVs (S.h rows) (sl.map S.v) l = (resVs rows sl l).map (·.map S.v)
 | [] => rfl
 |
  y :: l => by
  simp only [resVs, resV_ok S hg, resVs_ok hg sl l]
  cases resV rows sl y <;> cases resVs rows sl l <;> simp
theorem results_ok {rows : List Row} (hg : S.g ≤ rows.length) (sl : List AV) (l : List RV) : results (S.h rows) (sl.map S.v) l = (results rows sl l).map S.v := by
 unfold results
 rw [resVs_ok S hg]
 cases resVs rows sl l with
 | none => rfl
 |
  some q =>
  match q with
  | [] => simp [tup0]
  | [a] => rfl
  | a :: b :: l => simp [v_tup]

def cx : Ctx → Ctx
 | .fn res => .fn res
 | .round id => .round (S.n id)
theorem leave_ok {cx : Ctx} {j : Option Jump} {sl : List AV} {rows : List Row} {low : Nat} (hg : S.g ≤ rows.length) {q : AV × List Row × Nat} (h : leaveV cx j ⟨sl, rows, low⟩ = some q) : leaveV (S.cx cx) j ⟨sl.map S.v, S.h rows, S.n low⟩ = some (S.x3 q) ∧ rows.length ≤ q.2.1.length := by
 cases cx with
 |
  fn res =>
  simp only [leaveV, Sh.cx] at h ⊢
  split at h
  ·simp at h
  ·rename_i hj
   rw [Option.map_eq_some_iff] at h
   obtain ⟨w, hw, rfl⟩ := h
   rw [results_ok S hg, hw]
   exact ⟨rfl, Nat.le_refl _⟩
 |
  round id =>
  simp only [leaveV, Sh.cx] at h ⊢
  rw [h_get hg]
  split at h
  ·rename_i hr
   rw [hr]
   injection h with h
   subst h
   simp only [Option.map_some, r]
   refine ⟨?_, by simp⟩
   simp only [x3, v, lower_ok, ← h_set hg, r]
  ·simp at h

theorem want_ok (sl : List AV) (gd : Option (Nat × Bool)) : want (sl.map S.v) gd = want sl gd := by
 cases gd with
 | none => rfl
 |
  some p =>
  obtain ⟨t, b⟩ := p
  simp only [want, getT]
  generalize sl.getD t AV.any = y
  cases y <;> simp only [v]
  rename_i l
  cases l <;> simp [v.vL]

def CallSh (call call' : CallF) : Prop := ∀ f vs rows q, call f vs rows = some q → S.g ≤ rows.length → call' f (vs.map S.v) (S.h rows) = some (S.x3o q) ∧ rows.length ≤ q.2.1.length

theorem target_ok (a : AV) (args : List AV) : target (S.v a) (args.map S.v) = (target a args).map fun p => (p.1, p.2.map S.v) := by
 cases a <;> simp only [v, target] <;> try rfl
 simp [vL_map]
theorem boundOf_ok (t : Nat) (a : AV) : boundOf t (S.v a) = (boundOf t a).map fun p => (p.1, p.2.map S.v) := by
 cases a with
 |
  agg l =>
  cases l with
  | nil => simp [v, v.vL, boundOf]
  |
   cons x l =>
   cases x with
   |
    int k f =>
    cases k <;> simp only [v, v.vL, boundOf, Option.map_none]
    by_cases h : t = bd
    ·simp [h, vL_map]
    ·simp [h]
   | _ => simp [v, v.vL, boundOf]
 | _ => simp [v, boundOf]
theorem targetC_ok (tab : List (Nat × Nat)) (a : AV) (args : List AV) : targetC tab (S.v a) (args.map S.v) = (targetC tab a args).map fun p => (p.1, p.2.map S.v) := by
 cases tab with
 |
  nil =>
  cases a <;> simp only [v, targetC] <;> try rfl
  ·simp [vL_map]
  ·rw [boundOf_ok]
   cases boundOf _ _ <;> simp
 |
  cons p tab =>
  cases a <;> simp only [v, targetC] <;> try rfl
  split
  ·rfl
  ·cases (p :: tab).lookup _ <;> simp
theorem lowO_ok (low : Nat) (d : Option Nat) : lowO (S.n low) (d.map S.n) = S.n (lowO low d) := by
 cases d with
 | none => rfl
 | some k => exact lower_ok S low k
theorem put_ok (sl : List AV) (d : Option Nat) (a : AV) : putO (sl.map S.v) d (S.v a) = (putO sl d a).map S.v := by
 cases d <;> simp [putO]

theorem opR_ok {call call' : CallF} (hc : S.CallSh call call') {sl : List AV} {rows : List Row} {low : Nat} {o : IOpx} (hg : S.g ≤ rows.length) {q : AV × List Row × Nat} (h : opR call sl rows low o = some q) : opR call' (sl.map S.v) (S.h rows) (S.n low) (S.x o) = some (S.x3 q) ∧ rows.length ≤ q.2.1.length := by
 unfold opR at h ⊢
 simp only [Sh.x, want_ok]
 split at h
 ·simp at h
 ·injection h with h
  subst h
  exact ⟨by simp only [x3, tup0], Nat.le_refl _⟩
 ·split at h
  ·rename_i tab f args ho
   rw [ho]
   simp only [i, getO_ok, map_ok S (getO_ok S sl), targetC_ok]
   split at h
   ·rename_i fid vs ht
    rw [ht]
    simp only [Option.map_some]
    split at h
    ·rename_i a rows' d hcall
     injection h with h
     subst h
     obtain ⟨e1, e2⟩ := hc _ _ _ _ hcall hg
     simp only [e1, x3o, x3, lowO_ok]
     exact ⟨trivial, e2⟩
    ·simp at h
   ·simp at h
  ·rename_i op hne
   have e := evalE_ok S (getO_ok S sl) hg low o.op
   have e2 := e.2 q h
   have e1 := e.1
   rw [h] at e1
   refine ⟨?_, e2⟩
   cases hop : o.op <;> first
    | (rw [hop] at e1; exact e1)
    | (exact absurd hop (hne _ _ _))

def ge (ext : List (Nat × Row)) : List (Nat × Row) := ext.map fun p => (p.1, S.r p.2)
theorem mask_ok (b : Nat) (ext : List (Nat × Row)) : maskE b (S.ge ext) = (maskE b ext).map S.r := by
 simp only [maskE, ge, List.map_map]
 apply List.map_congr_left
 intro p _
 simp only [Function.comp_def]
 split <;> rfl
theorem evalG_ok {call call' : CallF} (hc : S.CallSh call call') {B : Nat → List Row} (hg : ∀ p, S.g ≤ (B p).length) : ∀ (l : List (IOpx × Nat)) (j : Nat) (sl : List AV) (ext : List (Nat × Row)) (q : List AV × List (Nat × Row)), evalG call B j l sl ext = some q → evalG call' (fun p => S.h (B p)) j (S.gl l) (sl.map S.v) (S.ge ext) = some (q.1.map S.v, S.ge q.2)
 |
  [], j, sl, ext, q, h => by
  simp only [evalG, Option.some.injEq] at h
  subst h
  rfl
 |
  (o, b) :: l, j, sl, ext, q, h => by
  simp only [evalG] at h
  simp only [gl, List.map_cons, evalG, mask_ok]
  have hgl : (S.ge ext).length = ext.length := by simp [ge]
  have hlen : ((B j) ++ maskE b ext).length = (B j).length + ext.length := by simp [maskE]
  have e0 : S.h (B j) ++ (maskE b ext).map S.r = S.h ((B j) ++ maskE b ext) := (h_app (hg j)).symm
  have e1 : (S.h (B j)).length + (S.ge ext).length = S.n ((B j).length + ext.length) := by
   rw [h_len (hg j), hgl, S.n_ge (hg j), S.n_ge (by have := hg j; omega)]; omega
  rw [e0, e1]
  split at h
  ·rename_i a rows' low' hop
   obtain ⟨r1, r2⟩ := opR_ok S hc (by have := hg j; omega) hop
   rw [r1]
   simp only [x3, S.n_inj]
   split at h
   ·rename_i hl
    rw [if_pos hl]
    have e2 : (S.h rows').drop (S.n ((B j).length + ext.length)) = (rows'.drop ((B j).length + ext.length)).map S.r := h_drop S (by have := hg j; omega) (by simp only at r2; omega)
    rw [e2]
    have := evalG_ok hc hg l (j + 1) _ _ q h
    simp only [gl, put_ok, ge, List.map_append, List.map_map, Function.comp_def] at this ⊢
    simpa [Sh.x, put_ok, Function.comp_def] using this
   ·simp at h
  ·simp at h

theorem maskR_ok {rows : List Row} (hg : S.g ≤ rows.length) (R off k : Nat) : maskR (S.h rows) (S.n R) off k = S.h (maskR rows R off k) := by
 unfold maskR
 rw [h_get hg]
 cases rows[R]? with
 | none => rfl
 |
  some w =>
  cases w <;> try rfl
  rename_i vs
  simp only [Option.map_some, r]
  rw [← h_set hg]
  have : List.replicate k AV.any = (List.replicate k AV.any).map S.v := by simp [v]
  rw [this, splice_ok, ← this]
  rfl
theorem maskR_len (rows : List Row) (R off n : Nat) : (maskR rows R off n).length = rows.length := Abs.maskR_len rows R off n
theorem stored_ok {rows : List Row} (hg : S.g ≤ rows.length) (sl : List AV) (R off : Nat) (a y : Opd) (k : Option Nat) : stored (sl.map S.v) (S.h rows) (S.n R) off (S.o a) (S.o y) k = (stored sl rows R off a y k).map S.r := by
 unfold stored
 rw [getO_ok]
 cases getO sl a <;> try rfl
 rename_i id off
 simp only [v, S.n_inj, h_get hg]
 split
 ·cases rows[id]? with
  | none => rfl
  |
   some w =>
   cases w <;> try rfl
   rename_i vs
   simp only [Option.map_some, r]
   cases k with
   |
    none =>
    simp only [getO_ok, one, List.length_map]
    split
    ·simp [r]
    ·rfl
   |
    some m =>
    simp only [getO_ok]
    cases getO sl y <;> try rfl
    rename_i ll
    simp only [v, vL_map, List.length_map, all_one]
    split
    ·simp [r, splice_ok]
    ·rfl
 ·rfl
end Sh
end Go.Abs
namespace Go.Abs
namespace Sh
variable (S : Sh) {F : Nat → Option IFn}
def f (fn : IFn) : IFn := ⟨fn.ns, fn.res, S.c fn.body⟩
def F' (F : Nat → Option IFn) : Nat → Option IFn := fun k => (F k).map S.f
theorem pop_ok (id : Nat) : ∀ k : List Itm, popTo id (k.map S.t) = (popTo id k).map (·.map S.t)
 | [] => rfl
 |
  .inBlock j :: k => by
  simp only [List.map_cons, t, popTo]
  split
  ·rfl
  ·exact pop_ok id k
 | .code _ :: k => by simp only [List.map_cons, t, popTo]; exact pop_ok id k
 | .inLoop _ :: k => by simp only [List.map_cons, t, popTo]; exact pop_ok id k
 | .inScope _ :: k => by simp only [List.map_cons, t, popTo]; exact pop_ok id k
 | .ops _ :: k => by simp only [List.map_cons, t, popTo]; exact pop_ok id k
 | .rfBegin :: k => by simp only [List.map_cons, t, popTo]; exact pop_ok id k
theorem yield_ok (sl : List AV) (o : IOpx) : yieldOf (sl.map S.v) (S.x o) = (yieldOf sl o).map fun p => (S.n p.1, p.2.map S.v) := by
 obtain ⟨d, op, gd⟩ := o
 cases op <;> try rfl
 rename_i tab fo args
 cases tab with
 | cons p tab => rfl
 | nil =>
 simp only [yieldOf, Sh.x, i, getO_ok, want_ok, map_ok S (getO_ok S sl)]
 cases getO sl fo <;> simp only [v] <;> first
  | (
    cases want sl gd with
    | none => rfl
    | some b => cases b <;> rfl)
theorem putL_ok (ps : List Nat) : ∀ (sl vs : List AV), putL (sl.map S.v) ps (vs.map S.v) = (putL sl ps vs).map S.v := by
 unfold putL
 induction ps with
 | nil => intro sl vs; simp
 |
  cons p ps ih =>
  intro sl vs
  cases vs with
  | nil => simp
  |
   cons a vs =>
   simp only [List.map_cons, List.zip_cons_cons, List.foldl_cons]
   rw [← List.map_set]
   exact ih _ _
theorem rfOk_ok {rows : List Row} (hg : S.g ≤ rows.length) (cx : Ctx) : rfOk (S.cx cx) (S.h rows) = rfOk cx rows := by
 cases cx with
 | fn res => rfl
 |
  round id =>
  simp only [rfOk, Sh.cx, h_get hg]
  cases rows[id]? with
  | none => rfl
  | some y => cases y <;> rfl
theorem kill_ok : ∀ (l : List Nat) (sl : List AV), killS (sl.map S.v) l = (killS sl l).map S.v
 | [], sl => rfl
 |
  d :: l, sl => by
  simp only [killS]
  rw [← kill_ok l, List.map_set, any_ok]
theorem init_ok (fn : IFn) (vs : List AV) {rows : List Row} (hg : S.g ≤ rows.length) : init (S.f fn) (vs.map S.v) (S.h rows) = ⟨(init fn vs rows).sl.map S.v, S.h rows, S.n rows.length⟩ := by
 simp [init, f, any_ok, h_len hg]
theorem jump_ok (j : Option Jump) : (jumpI j).map S.t = jumpI j := by
 cases j with
 | none => rfl
 | some j => cases j <;> rfl
variable (hX : ∀ y ∈ S.X, y.under (S.g + S.X.length) = true)
include hX in
theorem after_ok {b low : Nat} {rows : List Row} {d : Option Nat} (h1 : S.g ≤ b) (h2 : b ≤ rows.length) {q : List Itm × List Row × Nat} (h : afterLoop b low rows d = some q) : afterLoop (S.n b) (S.n low) (S.h rows) (d.map S.n) = some (q.1.map S.t, S.h q.2.1, S.n q.2.2) ∧ b ≤ q.2.1.length := by
 unfold afterLoop at h ⊢
 rw [h_get (by omega)]
 split at h
 ·rename_i hr
  rw [hr]
  simp only [Option.map_some, r]
  split at h
  ·simp at h
  ·rename_i hb
   rw [if_neg hb]
   injection h with h
   subst h
   have e : (S.h rows).set (S.n b) .dead = S.h (rows.set b .dead) := h_set (S := S) (by omega) b .dead
   have := gc_ok S hX (b := b) (low := lowO low d) (a := .tup []) (rows := rows.set b .dead) h1 (by simpa using h2)
   rw [tup0] at this
   rw [e, lowO_ok, this.1]
   exact ⟨by simp only [jump_ok], this.2⟩
 ·simp at h
include hX in
theorem call_ok {n : Nat} (ih : ∀ (cx : Ctx) (k : List Itm) (s : St) (q : AV × List Row × Nat), exec F n cx k s = some q → S.g ≤ s.rows.length → exec (S.F' F) n (S.cx cx) (k.map S.t) ⟨s.sl.map S.v, S.h s.rows, S.n s.low⟩ = some (S.x3 q) ∧ s.rows.length ≤ q.2.1.length) : S.CallSh (callBy F (exec F n)) (callBy (S.F' F) (exec (S.F' F) n)) := by
 intro fid vs rows q h hg
 unfold callBy at h ⊢
 unfold Sh.F'
 split at h
 ·rename_i fn hfn
  rw [hfn]
  simp only [Option.map_some]
  unfold callR at h
  split at h
  ·rename_i a rows' low' hx
   obtain ⟨e1, e2⟩ := ih _ _ _ _ hx (by simpa [init] using hg)
   injection h with h
   subst h
   have e3 := fin_ok S hX (low := low') (a := a) hg (by simpa [init] using e2)
   refine ⟨?_, e3.2⟩
   rw [init_ok S fn vs hg]
   have e4 : exec (S.F' F) n (.fn (S.f fn).res) [.code (S.f fn).body] ⟨(init fn vs rows).sl.map S.v, S.h rows, S.n rows.length⟩ = some (S.x3 (a, rows', low')) := e1
   unfold Sh.F' at e4
   rw [e4]
   simp only [callR, x3, e3.1]
  ·simp at h
 ·simp at h

include hX in
theorem exec_ok : ∀ (n : Nat) (cx : Ctx) (k : List Itm) (s : St) (q : AV × List Row × Nat), exec F n cx k s = some q → S.g ≤ s.rows.length → exec (S.F' F) n (S.cx cx) (k.map S.t) ⟨s.sl.map S.v, S.h s.rows, S.n s.low⟩ = some (S.x3 q) ∧ s.rows.length ≤ q.2.1.length := by
 intro n
 induction n with
 | zero => intro cx k s q h; simp [exec] at h
 |
  succ n ih =>
  intro cx k s q h hg
  have hc := call_ok S hX ih
  obtain ⟨sl, rows, low⟩ := s
  replace hg : S.g ≤ rows.length := hg
  cases k with
  |
   nil =>
   rw [exec] at h
   rw [List.map_nil, exec]
   exact leave_ok S hg h
  |
   cons y k =>
   rw [List.map_cons]
   cases y with
   | inBlock id => rw [exec] at h; rw [t, exec]; exact ih _ _ _ _ h hg
   | inScope c => rw [exec] at h; rw [t, exec]; exact ih _ _ _ _ h hg
   | inLoop c => rw [exec, St.force_eq] at h; rw [t, exec, St.force_eq]; exact ih _ _ _ _ h hg
   |
    rfBegin =>
    cases cx with
    | fn res => simp [exec] at h
    |
     round id =>
     rw [exec] at h
     rw [t, Sh.cx, exec]
     simp only [h_get hg] at h ⊢
     cases hr : rows[id]? with
     | none => simp [hr] at h
     |
      some w =>
      simp only [hr] at h
      cases w <;> try (simp at h; done)
      rename_i st pend sl1 ps asg body
      cases st <;> try (simp at h; done)
      simp only at h
      obtain ⟨e1, e2⟩ := ih _ _ _ _ h (by simpa using hg)
      refine ⟨?_, by simpa using e2⟩
      simp only [Option.map_some, r, lower_ok]
      rw [← h_set hg] at e1
      exact e1
   |
    ops l =>
    cases l with
    | nil => rw [exec] at h; rw [t, List.map_nil, exec]; exact ih _ _ _ _ h hg
    |
     cons sg l =>
     cases sg with
     |
      one o =>
      rw [exec] at h
      rw [t, List.map_cons, s, exec]
      simp only [yield_ok] at h ⊢
      cases hy : yieldOf sl o with
      |
       some p =>
       obtain ⟨id, vs⟩ := p
       rw [hy] at h
       simp only [Option.map_some, h_get hg] at h ⊢
       cases hr : rows[id]? with
       | none => rw [hr] at h; simp at h
       |
        some w =>
        rw [hr] at h
        cases w <;> try (simp at h; done)
        rename_i st pend sl1 ps asg body
        simp only [Option.map_some, r, List.length_map] at h ⊢
        split at h
        ·rename_i hl
         rw [if_pos hl]
         split at h
         ·rename_i a rows' low' hx
          obtain ⟨e1, e2⟩ := ih _ _ _ _ hx hg
          simp only at e2
          have e3 := gc_ok S hX (b := rows.length) (low := lower low low') (a := a) (rows := rows') hg e2
          obtain ⟨e4, e5⟩ := ih _ _ _ _ h (by simp only; omega)
          simp only at e4 e5
          refine ⟨?_, by omega⟩
          have e6 : exec (S.F' F) n (.round (S.n id)) [.code (S.c asg), .rfBegin, .code (S.c body)] ⟨putL (sl1.map S.v) ps (vs.map S.v), S.h rows, (S.h rows).length⟩ = some (S.x3 (a, rows', low')) := by
           rw [putL_ok, h_len hg]
           exact e1
          rw [e6]
          simp only [x3, h_len hg, lower_ok, e3.1, put_ok]
          exact e4
         ·simp at h
        ·simp at h
      |
       none =>
       rw [hy] at h
       simp only [Option.map_none] at h ⊢
       split at h
       ·rename_i a rows' low' hop
        obtain ⟨e1, e2⟩ := opR_ok S hc hg hop
        rw [e1]
        simp only [x3] at e2 ⊢
        obtain ⟨e4, e5⟩ := ih _ _ _ _ h (by simp only; omega)
        simp only at e4 e5
        refine ⟨?_, by omega⟩
        rw [show (S.x o).dst = o.dst from rfl, put_ok]
        exact e4
       ·simp at h
     |
      grp g =>
      rw [exec] at h
      rw [t, List.map_cons, s, exec]
      simp only at h ⊢
      split at h
      ·rename_i sl' ext hop
       have e1 := evalG_ok S hc (fun _ => hg) _ _ _ _ _ hop
       rw [show S.ge [] = [] from rfl] at e1
       rw [e1]
       obtain ⟨e4, e5⟩ := ih _ _ _ _ h (by simp; omega)
       simp only at e4 e5
       refine ⟨?_, by simp at e5; omega⟩
       rw [h_app hg, List.map_map] at e4
       simp only [ge, List.map_map]
       exact e4
      ·simp at h
     |
      grpw a w z bb g =>
      rw [exec] at h
      rw [t, List.map_cons, s, exec]
      simp only at h ⊢
      split at h
      ·rename_i sl0 ext0 hop0
       have e0 := evalG_ok S hc (fun _ => hg) _ _ _ _ _ hop0
       rw [show S.ge [] = [] from rfl] at e0
       rw [e0]
       simp only [getO_ok]
       split at h
       ·rename_i R off hR
        rw [hR]
        simp only [v, forceRs_eq] at h ⊢
        split at h
        ·rename_i sl' ext hop
         have e1 := evalG_ok S hc (B := baseW rows (maskR rows R off (z.getD 1)) bb) (fun p => by unfold baseW; split; exact hg; rw [maskR_len]; exact hg) _ _ _ _ _ hop
         rw [show S.ge [] = [] from rfl] at e1
         have eB : baseW (S.h rows) (maskR (S.h rows) (S.n R) off (z.getD 1)) bb = fun p => S.h (baseW rows (maskR rows R off (z.getD 1)) bb p) := by
          funext p
          unfold baseW
          rw [maskR_ok S hg]
          split <;> rfl
         rw [eB, e1]
         simp only [stored_ok S hg]
         split at h
         ·rename_i r' hr
          rw [hr]
          simp only [Option.map_some]
          obtain ⟨e4, e5⟩ := ih _ _ _ _ h (by simp; omega)
          simp only at e4 e5
          refine ⟨?_, by simp at e5; omega⟩
          rw [h_app (by simpa using hg), ← h_set hg, List.map_map] at e4
          simp only [ge, List.map_map, lower_ok]
          exact e4
         ·simp at h
        ·simp at h
       ·simp at h
      ·simp at h
     | stop => simp [exec] at h
   |
    code cc =>
    rw [t]
    cases cc with
    | skip => rw [exec] at h; rw [c, exec]; exact ih _ _ _ _ h hg
    | ret => rw [exec] at h; rw [c, exec]; exact leave_ok S hg h
    |
     exit id =>
     rw [exec] at h
     rw [c, exec]
     simp only [pop_ok] at h ⊢
     cases hp : popTo id k with
     | some k' => rw [hp] at h; simp only [Option.map_some] at h ⊢; exact ih _ _ _ _ h hg
     | none => rw [hp] at h; simp only [Option.map_none] at h ⊢; exact leave_ok S hg h
    | seq a b => rw [exec] at h; rw [c, exec]; exact ih _ _ _ _ h hg
    |
     cond y a b =>
     rw [exec] at h
     rw [c, exec]
     simp only [getO_ok] at h ⊢
     cases hy : getO sl y <;> rw [hy] at h <;> try (simp at h; done)
     rename_i tt
     simp only [v] at h ⊢
     have e := ih _ _ _ _ h hg
     cases tt <;> exact e
    | block id a => rw [exec] at h; rw [c, exec]; exact ih _ _ _ _ h hg
    | loop a => rw [exec] at h; rw [c, exec]; exact ih _ _ _ _ h hg
    | scope a => rw [exec] at h; rw [c, exec]; exact ih _ _ _ _ h hg
    | ops l => simp only [exec, St.forceS_eq] at h; simp only [c, exec, St.forceS_eq]; exact ih _ _ _ _ h hg
    |
     rf fo ps a b =>
     rw [exec] at h
     rw [c, exec]
     simp only [rfOk_ok S hg] at h ⊢
     split at h
     ·rename_i hok
      rw [if_pos hok]
      split at h
      ·rename_i fid vs ht
       have e0 : target (getO (sl.map S.v) (S.o fo)) [.yield (S.h rows).length] = some (fid, vs.map S.v) := by
        have := target_ok S (getO sl fo) [.yield rows.length]
        rw [ht] at this
        rw [getO_ok, h_len hg]
        exact this
       rw [e0]
       simp only
       split at h
       ·rename_i a' rows' d hop
        obtain ⟨e1, e2⟩ := hc _ _ _ _ hop (by simp; omega)
        rw [h_app hg] at e1
        have e1' : callBy (S.F' F) (exec (S.F' F) n) fid (vs.map S.v) (S.h rows ++ [.loop .ready none (sl.map S.v) ps (c S a) (c S b)]) = some (S.x3o (a', rows', d)) := e1
        rw [e1']
        simp only [x3o]
        split at h
        ·rename_i k0 rows2 low2 ha
         simp at e2
         obtain ⟨e3, e4⟩ := after_ok S hX hg (by omega) ha
         rw [h_len hg, e3]
         simp only
         obtain ⟨e5, e6⟩ := ih _ _ _ _ h (by simp only at e4 ⊢; omega)
         simp only at e4 e5 e6
         refine ⟨?_, by omega⟩
         rw [List.map_append] at e5
         exact e5
        ·simp at h
       ·simp at h
      ·simp at h
     ·simp at h
    |
     kill m l a =>
     rw [exec] at h
     rw [c, exec]
     obtain ⟨e1, e2⟩ := ih _ _ _ _ h hg
     refine ⟨?_, e2⟩
     simp only [kill_ok]
     exact e1
    | stop => simp [exec] at h

include hX in
theorem ret_ok (hF : S.F' F = F) {fid : Nat} {vs : List AV} {rows : List Row} {q : AV × List Row × Option Nat} (hg : S.g ≤ rows.length) (h : Ret F fid vs rows = some q) : Ret F fid (vs.map S.v) (S.h rows) = some (S.x3o q) := by
 obtain ⟨n, hn⟩ := Ret_iff.1 h
 obtain ⟨e1, _⟩ := call_ok S hX (exec_ok S hX n) _ _ _ _ hn hg
 rw [hF] at e1
 exact Ret_of (n := n) e1
end Sh
end Go.Abs

namespace Go.Abs
def shX (X : List Row) : Sh := ⟨1, X⟩
set_option maxRecDepth 100000 in
theorem tab_sh (X : List Row) : tabF.map (fun p => (p.1, (shX X).f p.2)) = tabF := by kernel_rfl
theorem lookup_map {α : Type} (g : α → α) (k : Nat) : ∀ l : List (Nat × α), (l.map fun p => (p.1, g p.2)).lookup k = (l.lookup k).map g
 | [] => rfl
 |
  (a, b) :: l => by
  simp only [List.map_cons, List.lookup_cons]
  split
  ·rfl
  ·exact lookup_map g k l
theorem F_sh (X : List Row) : (shX X).F' F = F := by
 funext k
 unfold Sh.F' F
 rw [← lookup_map, tab_sh]
theorem awake_any {X : List Row} (hX : X.all (Row.under (1 + X.length)) = true) : Ret F 19 [] (gRows ++ X) = some (.bool true, gRows ++ X, none) := by
 have h := Sh.ret_ok (shX X) (fun y hy => List.all_eq_true.1 hX y hy) (F_sh X) (rows := gRows) (Nat.le_refl 1) awake_g
 have e1 : (shX X).h gRows = gRows ++ X := by
  have e : ∀ l : List Int, (nums .i64 l).map (shX X).v = nums .i64 l := fun l => by simp [nums, Sh.v, Function.comp_def]
  simp [Sh.h, shX, gRows]
  simp [Sh.r]
  exact e _
 rw [e1] at h
 simpa [Sh.x3o, e1, Sh.v] using h
end Go.Abs

namespace Go.Abs
theorem umodI {x m : Int} (h : 0 < m) (hm : m ≤ 9223372036854775807) : ∃ r : Nat, IntKind.i64.wrap ((IntKind.u64.wrap x).tmod m) = r ∧ (r : Int) < m := by
 have h0 : 0 ≤ IntKind.u64.wrap x := by
  simp [IntKind.wrap, IntKind.min, IntKind.max, IntKind.signed, IntKind.bits]
  omega
 have h1 := Int.tmod_lt_of_pos (IntKind.u64.wrap x) h
 have h2 := Int.tmod_nonneg m h0
 refine ⟨((IntKind.u64.wrap x).tmod m).toNat, ?_, ?_⟩
 ·rw [wrap64 (by omega) (by omega)]; omega
 ·omega
def Cp (sz : Nat) : AV → Prop
 | .slice _ _ n (.at_ c) => n ≤ c
 | .slice _ _ _ (.op s) => s = sz
 | _ => True
theorem lower_ge' {low id : Nat} (h : low ≤ id) : lower low id = low := by unfold lower; split <;> omega

def Und (B H : List Row) : Prop := ∀ y ∈ H, y.under (B.length + H.length) = true
theorem und_mono {y : Row} {a b : Nat} (h : y.under a = true) (hab : a ≤ b) : y.under b = true := Sh.runder_mono hab h
theorem Und_app {rows X H : List Row} (h1 : Und rows X) (h2 : Und (rows ++ X) H) : Und rows (X ++ H) := by
 intro y hy
 rcases List.mem_append.1 hy with hy | hy
 ·exact und_mono (h1 y hy) (by simp <;> omega)
 ·exact und_mono (h2 y hy) (by simp <;> omega)
theorem Und_nil {rows : List Row} : Und rows [] := fun y hy => by simp at hy
theorem Und_0 {rows H : List Row} (h : H.all (Row.under 0) = true) : Und rows H := fun y hy => und_mono (List.all_eq_true.1 h y hy) (Nat.zero_le _)
@[simp] theorem nums_und {k : IntKind} {l : List Int} {b : Nat} : (Row.cells (nums k l)).under b = true := by simp [Row.under, AV.under, nums]

section
variable {rows : List Row} {sz n : Nat} {v : AV} {cs : List AV} {fl : List Int}
theorem El_num_len (h : El rows sz v (nums .i64 fl) n) : fl.length = n * sz := by have := El_len h; simpa [nums] using this
theorem lenW (h : El rows sz v cs n) : evP rows (.len 0 (.c v)) = some (.int .i64 n) := evP_lenE h
theorem idxW (h : El rows sz v cs n) {i : Nat} (hi : i < n) : evP rows (.idxS sz (.c v) (.c (.int .i64 i))) = some (.ptr (sid v) (soff v + i * sz)) := by
 rw [evP_idxE h (by omega) (by omega), Int.toNat_natCast]
theorem ldW1 (h : El rows sz v (nums .i64 fl) n) {j : Nat} (hj : j < fl.length) : evP rows (.load1 (.c (.ptr (sid v) (soff v + j)))) = some (.int .i64 (gI fl j)) := by
 rw [evP_loadE h (by simpa [nums] using hj), nums_get, get_at hj]; rfl
theorem seg_nums {l : List Int} {j m : Nat} (h : j + m ≤ l.length) : seg (nums .i64 l) j m = some (nums .i64 ((l.drop j).take m)) := by
 unfold seg
 rw [if_pos (by simpa [nums] using h)]
 simp [nums, List.map_drop, List.map_take]
theorem ldWN (h : El rows sz v (nums .i64 fl) n) {j m : Nat} (hj : j + m ≤ fl.length) (hm : 0 < m) : evP rows (.loadN m (.c (.ptr (sid v) (soff v + j)))) = some (.agg (nums .i64 ((fl.drop j).take m))) := by
 rw [evP_loadNE h (by simpa [nums] using hj) hm, seg_nums hj]; rfl
theorem take2 {l : List Int} {j : Nat} (h : j + 2 ≤ l.length) : (l.drop j).take 2 = [gI l j, gI l (j + 1)] := by
 rw [List.drop_eq_getElem_cons (by omega), List.drop_eq_getElem_cons (by omega), gI_eq (by omega), gI_eq (by omega)]
 rfl
theorem take3 {l : List Int} {j : Nat} (h : j + 3 ≤ l.length) : (l.drop j).take 3 = [gI l j, gI l (j + 1), gI l (j + 2)] := by
 rw [List.drop_eq_getElem_cons (by omega), List.drop_eq_getElem_cons (by omega), List.drop_eq_getElem_cons (by omega), gI_eq (by omega), gI_eq (by omega), gI_eq (by omega)]
 rfl
theorem ldW2 (h : El rows 2 v (nums .i64 fl) n) {i : Nat} (hi : i < n) : evP rows (.loadN 2 (.c (.ptr (sid v) (soff v + i * 2)))) = some (.agg [.int .i64 (gI fl (i * 2)), .int .i64 (gI fl (i * 2 + 1))]) := by
 have hl := El_num_len h
 rw [ldWN h (by omega) (by omega), take2 (by omega)]; rfl
theorem ldW3 (h : El rows 3 v (nums .i64 fl) n) {i : Nat} (hi : i < n) : evP rows (.loadN 3 (.c (.ptr (sid v) (soff v + i * 3)))) = some (.agg [.int .i64 (gI fl (i * 3)), .int .i64 (gI fl (i * 3 + 1)), .int .i64 (gI fl (i * 3 + 2))]) := by
 have hl := El_num_len h
 rw [ldWN h (by omega) (by omega), take3 (by omega)]; rfl
theorem IsL_W (h : El rows sz v (nums .i64 fl) n) {i : Nat} (hi : i < n) {c : Cap} : IsL rows (.slice (sid v) (soff v + i * sz) sz c) ((fl.drop (i * sz)).take sz) := by
 have hl := El_num_len h
 have hle : i * sz + sz ≤ n * sz := by
  have := Nat.mul_le_mul_right sz (show i + 1 ≤ n from hi)
  rw [Nat.add_mul, Nat.one_mul] at this
  exact this
 have hlen : ((fl.drop (i * sz)).take sz).length = sz := by simp; omega
 rcases El_cases h with ⟨rfl, h1, h0⟩ | ⟨id, off, c', vs, rfl, hr, hs⟩
 ·omega
 ·have h2 := seg_seg (j := i * sz) (m := sz) hs (by omega)
  rw [seg_nums (by omega)] at h2
  have := IsL_mk (n := 0) (c := c) (l := (fl.drop (i * sz)).take sz) (off := off + i * sz) hr (by rw [hlen]; exact h2)
  rw [hlen] at this
  exact this
def accV (rows H : List Row) (sz : Nat) (cs : List AV) (n : Nat) : AV := match cs with
 | [] => .nilslice
 | _ => .slice (rows.length + H.length) 0 n (.op sz)
def accR (H : List Row) (cs : List AV) : List Row := match cs with
 | [] => H
 | _ => H ++ [.cells cs]
def newW (rows : List Row) (sz : Nat) (cs : List AV) (n : Nat) : AV × List Row × Option Nat := (accV rows [] sz cs n, rows ++ accR [] cs, none)
@[simp] theorem accV_nil {H : List Row} : accV rows H sz [] n = .nilslice := rfl
@[simp] theorem accR_nil {H : List Row} : accR H [] = H := rfl
@[simp] theorem accV_cons {H : List Row} {x : AV} : accV rows H sz (x :: cs) n = .slice (rows.length + H.length) 0 n (.op sz) := rfl
@[simp] theorem accR_cons {H : List Row} {x : AV} : accR H (x :: cs) = H ++ [.cells (x :: cs)] := rfl
theorem acc_El {H : List Row} (hn : cs.length = n * sz) (hsz : 0 < sz) : El (rows ++ accR H cs) sz (accV rows H sz cs n) cs n ∧ Cp sz (accV rows H sz cs n) := by
 cases cs with
 |
  nil =>
  have : n = 0 := by
   rcases Nat.mul_eq_zero.1 (show n * sz = 0 from hn.symm) with h | h
   ·exact h
   ·omega
  subst this
  exact ⟨El_nil, trivial⟩
 |
  cons x cs =>
  refine ⟨?_, rfl⟩
  have hr : row? (rows ++ accR H (x :: cs)) (rows.length + H.length) = some (x :: cs) := by
   unfold accR row?; simp
  show elems _ _ _ = _
  unfold accV elems
  simp only [hr]
  unfold seg
  rw [if_pos (by omega), ← hn]
  simp
theorem acc_und {H : List Row} (hH : H.all (Row.under 0) = true) (hc : (Row.cells cs).under 0 = true) : (accR H cs).all (Row.under 0) = true := by
 cases cs with
 | nil => exact hH
 | cons x cs => simp only [accR_cons, List.all_append, hH, List.all_cons, hc]; rfl
theorem acc_more {H : List Row} {x : List AV} {low b : Nat} (hn : cs.length = n * sz) (hx : x.length = sz) (hsz : 0 < sz) (hl : n < 1000000000) (hlow : low ≤ rows.length) (hH : H.all (Row.under 0) = true) (hc : (Row.cells cs).under 0 = true) (hxu : (Row.cells x).under 0 = true) :
  ∃ H', H'.all (Row.under 0) = true ∧ evE (rows ++ (accR H cs ++ [.cells x])) low (.app sz b (.c (accV rows H sz cs n)) (.c (.slice (rows.length + (accR H cs).length) 0 1 (.at_ 1)))) = some (accV rows H' sz (cs ++ x) (n + 1), rows ++ accR H' (cs ++ x), low) := by
 have hr : row? (rows ++ (accR H cs ++ [.cells x])) (rows.length + (accR H cs).length) = some x := by
  unfold row?; simp
 have htmp : El (rows ++ (accR H cs ++ [.cells x])) sz (.slice (rows.length + (accR H cs).length) 0 1 (.at_ 1)) x 1 := by
  unfold El elems
  simp only [hr]
  unfold seg
  rw [if_pos (by omega)]
  simp only [List.drop_zero, Option.map_some, Nat.one_mul]
  rw [List.take_of_length_le (by omega)]
 cases cs with
 |
  nil =>
  have h0 : n = 0 := by
   rcases Nat.mul_eq_zero.1 (show n * sz = 0 from hn.symm) with h | h
   ·exact h
   ·omega
  subst h0
  refine ⟨H ++ [.cells x], by simp only [List.all_append, hH, List.all_cons, hxu]; rfl, ?_⟩
  simp only [accR_nil, accV_nil] at htmp ⊢
  rw [app_nil htmp (by omega) (by simp [lim])]
  cases x with
  | nil => simp at hx; omega
  | cons y x => simp
 |
  cons y cs =>
  have hn' : n * sz = (y :: cs).length := hn.symm
  have hcell : cells? (rows ++ (accR H (y :: cs) ++ [.cells x])) (rows.length + H.length) = some (y :: cs) := by
   unfold cells?; simp
  refine ⟨H ++ [.dead, .cells x], by simp only [List.all_append, hH, List.all_cons, hxu]; rfl, ?_⟩
  rw [accV_cons, app_op hcell (xs := y :: cs) (by unfold seg; rw [hn', if_pos (by omega)]; simp) htmp (by omega) (by simp [lim]; omega)]
  simp [lower_ge' (show low ≤ rows.length + H.length by omega)]
theorem cells_ids (hc : (Row.cells cs).under 0 = true) : cs.all (·.ids.isEmpty) = true := by
 simp only [Row.under, List.all_eq_true] at hc ⊢
 intro x hx
 have := hc x hx
 cases h : x.ids with
 | nil => rfl
 | cons i is => simp [AV.under, h] at this
theorem acc_fin {H : List Row} (hc : (Row.cells cs).under 0 = true) : fin rows (accV rows H sz cs n) (rows ++ accR H cs) rows.length = newW rows sz cs n := by
 cases cs with
 | nil => simp [newW]
 |
  cons y cs =>
  simp only [accV_cons, accR_cons, newW]
  have := fin_slice (rows := rows) (L := H ++ [.cells (y :: cs)]) (k := H.length) (o := 0) (n := n) (c := .op sz) (vs := y :: cs) (by simp) (cells_ids hc)
  simpa using this
theorem app_copy {x : AV} {low b : Nat} (h : El rows sz x cs n) (hsz : 0 < sz) (hn : n ≤ 1000000000) : evE rows low (.app sz b (.c .nilslice) (.c x)) = some (accV rows [] sz cs n, rows ++ accR [] cs, low) := by
 have hl := El_len h
 cases n with
 |
  zero =>
  have : cs = [] := by simpa using hl
  subst this
  rw [app_0 h (.inl rfl)]
  simp
 |
  succ n =>
  rw [app_nil h (by omega) (by simp [lim]; omega)]
  cases cs with
  |
   nil =>
   have := Nat.mul_pos (show 0 < n + 1 by omega) hsz
   rw [← hl] at this
   simp at this
  | cons y cs => simp
end
end Go.Abs

set_option maxRecDepth 10000
namespace Go.Abs
open Go.Proofs Go.RowKit Go.ChangeShapes Go.WideShapes Go.ChangeAt Go.WideElems
structure ArgS where
 b : Nat
 o : Nat
 len : Nat
 cap : Nat
 zs : List Int
def argCl (W : World) : Option ArgS → Prop
 | none => True
 | some a => (∀ (i : Nat) (x : Int), a.zs[i]? = some x → W.cell? ⟨a.b, a.o + i, none⟩ = some (.int .i64 x)) ∧ a.b < W.heap.size
def argW (w : Nat) : Option ArgS → Prop
 | none => True
 | some a => a.len ≤ a.cap ∧ a.cap ≤ maxLen ∧ a.zs.length = a.cap * w
def argRow : Option ArgS → Row
 | none => .dead
 | some a => .ro (nums .i64 a.zs)
def argAV (k : Nat) : Option ArgS → AV
 | none => .nilslice
 | some a => .slice k 0 a.len (.at_ a.cap)
def argVal : Option ArgS → Value
 | none => .slice none 0 0
 | some a => .slice (some ⟨a.b, a.o, none⟩) a.len a.cap
def argLen : Option ArgS → Nat
 | none => 0
 | some a => a.len
def argList (w : Nat) : Option ArgS → List Int
 | none => []
 | some a => a.zs.take (a.len * w)
def argLoc : Option ArgS → Option Loc
 | none => none
 | some a => some ⟨a.b, a.o, 0⟩
def aRows (l : List (Option ArgS)) : List Row := gRows ++ l.map argRow
def aTh (l : List (Option ArgS)) : Th := fun id => if id < 1 then gTh id else (l[id - 1]?).bind argLoc
theorem aHRel {κ : KRel} {W : World} {l : List (Option ArgS)} (h : laidMetH Tryd.prog laidL W) (hl : ∀ a ∈ l, argCl W a) : HRel κ (aTh l) (aRows l) W := by
 have hg := gHRel (κ := κ) h
 have hge : ∀ id L, 1 ≤ id → aTh l id = some L → ∃ a, l[id - 1]? = some (some a) ∧ L = ⟨a.b, a.o, 0⟩ := by
  intro id L h2 e
  unfold aTh at e
  rw [if_neg (by omega)] at e
  cases hx : l[id - 1]? with
  | none => rw [hx] at e; simp at e
  |
   some y =>
   rw [hx] at e
   cases y with
   | none => simp [argLoc] at e
   | some a => simp [argLoc] at e; exact ⟨a, rfl, e.symm⟩
 refine ⟨?_, ?_, ?_, ?_⟩
 ·intro id L e
  simp only [aRows, gRows, List.length_append, List.length_cons, List.length_nil, List.length_map]
  by_cases h2 : id < 1
  ·omega
  ·obtain ⟨a, ha, _⟩ := hge id L (by omega) e
   have := (List.getElem?_eq_some_iff.1 ha).1
   omega
 ·intro id L e
  by_cases h2 : id < 1
  ·unfold aTh at e
   rw [if_pos h2] at e
   exact hg.blk id L e
  ·obtain ⟨a, ha, rfl⟩ := hge id L (by omega) e
   exact (hl _ (List.mem_of_getElem? ha)).2
 ·intro id r e
  by_cases h2 : id < 1
  ·have e2 : gRows[id]? = some r := by
    unfold aRows at e
    rwa [List.getElem?_append_left (by simp [gRows]; omega)] at e
   have := hg.row id r e2
   have ht : aTh l id = gTh id := by unfold aTh; rw [if_pos h2]
   match id, h2 with
   |
    0, _ =>
    injection e2 with e2; subst e2
    obtain ⟨L, hL, hc⟩ := this
    refine ⟨L, ht.trans hL, fun j x hx => ?_⟩
    rw [nums_get] at hx
    obtain ⟨n, hn, rfl⟩ := Option.map_eq_some_iff.1 hx
    obtain ⟨x', h1, h3, h4⟩ := hc j (.int .i64 n) (by rw [nums_get, hn]; rfl)
    cases h3
    exact ⟨_, h1, .int _ _, h4⟩
  ·unfold aRows at e
   rw [List.getElem?_append_right (by simp [gRows]; omega), show gRows.length = 1 from rfl, List.getElem?_map] at e
   obtain ⟨y, hy, rfl⟩ := Option.map_eq_some_iff.1 e
   cases y with
   | none => trivial
   |
    some a =>
    refine ⟨⟨a.b, a.o, 0⟩, ?_, fun j x hx => ?_⟩
    ·unfold aTh
     rw [if_neg (by omega), hy]
     rfl
    ·rw [nums_get] at hx
     obtain ⟨n, hn, rfl⟩ := Option.map_eq_some_iff.1 hx
     exact ⟨_, (hl _ (List.mem_of_getElem? hy)).1 j n hn, .int _ _, rfl⟩
 ·intro i j r s L L' hij hr ho
  exfalso
  have hm := List.mem_of_getElem? hr
  unfold aRows at hm
  rw [List.mem_append] at hm
  rcases hm with hm | hm
  ·simp [gRows] at hm
   rcases hm with rfl | rfl <;> simp [Row.owned] at ho
  ·obtain ⟨y, _, rfl⟩ := List.mem_map.1 hm
   cases y <;> simp [argRow, Row.owned] at ho
theorem aGRel {l : List (Option ArgS)} : GRel (aTh l) [0] := by
 intro i g e
 match i, e with
 | 0, e => injection e with e; subst e; exact ⟨⟨0, 0, 0⟩, rfl, rfl, rfl⟩
 | n + 1, e => simp at e
theorem aV {l : List (Option ArgS)} {w k : Nat} {a : Option ArgS} (ha : l[k]? = some a) (hok : argW w a) : V (aTh l) (argAV (1 + k) a) (argVal a) := by
 cases a with
 | none => exact .nilslice
 |
  some a =>
  have e : aTh l (1 + k) = some ⟨a.b, a.o, 0⟩ := by
   unfold aTh
   rw [if_neg (by omega), show 1 + k - 1 = k from by omega, ha]
   rfl
  exact .sliceAt e (fun _ => rfl) hok.1
theorem argLen_le {w : Nat} {a : Option ArgS} (hok : argW w a) : argLen a ≤ 9223372036854775807 := by
 cases a with
 | none => exact Nat.zero_le _
 |
  some a =>
  obtain ⟨h1, h2, _⟩ := hok
  have : maxLen = 9223372036854775807 := rfl
  show a.len ≤ _
  omega
theorem argList_len {w : Nat} {a : Option ArgS} (hok : argW w a) : (argList w a).length = argLen a * w := by
 cases a with
 | none => simp [argList, argLen]
 |
  some a =>
  obtain ⟨h1, h2, h3⟩ := hok
  have := Nat.mul_le_mul_right w h1
  simp only [argList, argLen, List.length_take]
  omega
theorem aEl {l : List (Option ArgS)} {w k : Nat} {a : Option ArgS} (ha : l[k]? = some a) (hok : argW w a) : El (aRows l) w (argAV (1 + k) a) (nums .i64 (argList w a)) (argLen a) := by
 have hlen := argList_len hok
 cases a with
 | none => exact rfl
 |
  some a =>
  obtain ⟨h1, h2, h3⟩ := hok
  have := Nat.mul_le_mul_right w h1
  have hr : row? (aRows l) (1 + k) = some (nums .i64 a.zs) := by
   unfold row? aRows
   rw [List.getElem?_append_right (by simp [gRows]), show 1 + k - gRows.length = k from by simp [gRows], List.getElem?_map, ha]
   rfl
  unfold El elems argAV
  simp only [hr, argList, argLen]
  have : seg (nums .i64 a.zs) 0 (a.len * w) = some (nums .i64 (a.zs.take (a.len * w))) := by
   rw [nums_seg, if_pos (by omega)]
   simp
  rw [this]
  rfl
theorem aIsL {l : List (Option ArgS)} {k : Nat} {a : Option ArgS} (ha : l[k]? = some a) (hok : argW 1 a) : IsL (aRows l) (argAV (1 + k) a) (argList 1 a) := by
 have := aEl ha hok
 unfold IsL
 rw [argList_len hok, Nat.mul_one]
 exact this
theorem awake_u (l : List (Option ArgS)) : ∀ H, Und (aRows l) H → Ret F 19 [] (aRows l ++ H) = some (.bool true, aRows l ++ H, none) := by
 intro H hH
 have := awake_any (X := l.map argRow ++ H) (by
  rw [List.all_eq_true]
  intro y hy
  rw [List.mem_append] at hy
  rcases hy with hy | hy
  ·refine Sh.runder_mono (Nat.zero_le _) ?_
   obtain ⟨a, _, rfl⟩ := List.mem_map.1 hy
   cases a <;> simp [argRow, Row.under, AV.under, nums]
  ·refine Sh.runder_mono ?_ (hH y hy)
   simp [aRows, gRows]
   omega)
 simpa [aRows] using this
theorem slice_cells {P : Program} {W : World} {H : Type} {enc : TypeId × Value → H} {spare held : _} {fuel w : Nat} {t e : TypeId} {v : Value} {x : _} (ht : P.underlying t = some (.slice e)) (hc : P.cellsOf e = w) (hw : 0 < w)
  (hel0 : ∀ n cs z, DataW.trod enc P W 0 spare held n e cs = some z → ∀ i, i < w → ∃ p : Int, cs[i]? = some (.int .i64 p))
  (hspt : ∀ y l c, v = .slice (some y) l c → y.spot = none ∧ y.block < W.heap.size)
  (hs : ∀ b, spare b = true) (h : DataW.trod enc P W 0 spare held fuel t [v] = some x) : ∃ a : Option ArgS, v = argVal a ∧ argCl W a ∧ argW w a := by
 rcases DataW.trod_slice ht h with ⟨h0, _⟩ | ⟨y, l, c, elems, rest, n, _, hcs, rfl, _, hl, hm, hlen, hel, hsp, _⟩
 ·simp at h0
  exact ⟨none, h0, trivial, trivial⟩
 ·simp at hcs
  subst hcs
  obtain ⟨hrl, hr⟩ := hsp (hs _)
  obtain ⟨hspt, hb⟩ := hspt _ _ _ rfl
  obtain ⟨b, o, sp⟩ := y
  subst hspt
  have ad : ∀ (b o i : Nat), (⟨b, o, none⟩ : Addr).add i = (⟨b, o + i, none⟩ : Addr) := by
   intro b o i
   unfold Addr.add
   split
   ·rename_i h0; subst h0; rfl
   ·rfl
  have each : ∀ j, j < c → ∀ i, i < w → ∃ p : Int, W.cell? ⟨b, o + j * w + i, none⟩ = some (.int .i64 p) := by
   intro j hj i hi
   have hb : ∃ z, (W.cells? 0 ((⟨b, o, none⟩ : Addr).add (j * w)) w).bind (DataW.trod enc P W 0 spare held n e) = some z := by
    by_cases h1 : j < l
    ·have := hel j h1
     rw [hc] at this
     rw [this]
     exact ⟨_, List.getElem?_eq_getElem (by omega)⟩
    ·have := hr (j - l) (by omega)
     rw [hc, show l + (j - l) = j by omega] at this
     rw [this]
     exact ⟨_, List.getElem?_eq_getElem (by omega)⟩
   obtain ⟨z, hz⟩ := hb
   rw [Option.bind_eq_some_iff] at hz
   obtain ⟨cs, hcs, hz⟩ := hz
   obtain ⟨p, hp⟩ := hel0 _ _ _ hz i hi
   have := (World.cells?_some hcs).2.2 i hi
   rw [hp, ad, ad] at this
   exact ⟨p, this⟩
  have hcell : ∀ i, i < c * w → ∃ p : Int, W.cell? ⟨b, o + i, none⟩ = some (.int .i64 p) := by
   intro i hi
   obtain ⟨p, h1⟩ := each (i / w) ((Nat.div_lt_iff_lt_mul hw).2 hi) (i % w) (Nat.mod_lt _ hw)
   rw [Nat.add_assoc, show i / w * w + i % w = i from by rw [Nat.mul_comm]; exact Nat.div_add_mod _ _] at h1
   exact ⟨p, h1⟩
  let f : Nat → Int := fun i => match W.cell? ⟨b, o + i, none⟩ with
   | some (.int .i64 p) => p
   | _ => 0
  refine ⟨some ⟨b, o, l, c, (List.range (c * w)).map f⟩, rfl, ⟨?_, hb⟩, hl, hm, by simp⟩
  intro i x hx
  have hi : i < c * w := by have := (List.getElem?_eq_some_iff.1 hx).1; simpa using this
  obtain ⟨p, hp⟩ := hcell i hi
  have : x = p := by
   have h2 : f i = p := by show (match W.cell? ⟨b, o + i, none⟩ with | some (.int .i64 p) => p | _ => 0) = p; rw [hp]
   simp [hi] at hx
   rw [← hx, h2]
  rw [this]
  exact hp
theorem el_int {P : Program} {W : World} {H : Type} {enc : TypeId × Value → H} {spare held : _} {e : TypeId} (he : P.underlying e = some (.int .i64)) :
  ∀ n cs z, DataW.trod enc P W 0 spare held n e cs = some z → ∀ i, i < 1 → ∃ p : Int, cs[i]? = some (.int .i64 p) := by
 intro n cs z h i hi
 obtain ⟨p, hp, _⟩ := DataW.trod_int he h
 subst hp
 obtain rfl : i = 0 := by omega
 exact ⟨p, rfl⟩
theorem el_arr {P : Program} {W : World} {H : Type} {enc : TypeId × Value → H} {spare held : _} {e i : TypeId} {w : Nat} (he : P.underlying e = some (.array w i)) (hi : P.underlying i = some (.int .i64)) (hc1 : P.cellsOf i = 1) (hcw : P.cellsOf e = w) :
  ∀ n cs z, DataW.trod enc P W 0 spare held n e cs = some z → ∀ k, k < w → ∃ p : Int, cs[k]? = some (.int .i64 p) := by
 intro n cs z h k hk
 obtain ⟨xs, m, _, _, hcl, hxl, hx⟩ := DataW.trod_array he h
 have h0 := hx k hk
 rw [hc1, List.getElem?_eq_getElem (by omega)] at h0
 obtain ⟨p, hp, _⟩ := DataW.trod_int hi h0
 refine ⟨p, ?_⟩
 have h1 : ((cs.drop (k * 1)).take 1)[0]? = some (.int .i64 p) := by rw [hp]; rfl
 rw [List.getElem?_take_of_lt (by omega), List.getElem?_drop] at h1
 simpa using h1
theorem spot_cell {P : Program} {W : World} {t e : TypeId} {b0 : Nat} {v : Value} (ht : P.underlying t = some (.slice e)) (hv : Cell.okWide P W .any b0 t v) : ∀ y l c, v = .slice (some y) l c → y.spot = none ∧ y.block < W.heap.size := by
 intro y l c e
 subst e
 simp only [ht, Cell.okWide, Cell.ok] at hv
 obtain ⟨_, _, _, hsp, row, cells, hsh, _⟩ := hv
 refine ⟨hsp, ?_⟩
 unfold World.shape? at hsh
 by_cases hlt : y.block < W.heap.size
 ·exact hlt
 ·rw [show W.heap[y.block]? = none from Array.getElem?_eq_none (by omega)] at hsh
  simp at hsh
theorem slice_argI {P : Program} {W : World} {H : Type} {enc : TypeId × Value → H} {spare held : _} {fuel : Nat} {t e : TypeId} {v : Value} {x : _} {b0 : Nat} (ht : P.underlying t = some (.slice e)) (he : P.underlying e = some (.int .i64)) (hc : P.cellsOf e = 1) (hv : Value.okWide P W .any b0 t v)
  (hs : ∀ b, spare b = true) (h : DataW.trod enc P W 0 spare held fuel t [v] = some x) : ∃ a : Option ArgS, v = argVal a ∧ argCl W a ∧ argW 1 a := by
 have hv' : Cell.okWide P W .any b0 t v := by
  unfold Value.okWide at hv
  rw [ht] at hv
  exact hv
 exact slice_cells ht hc (by omega) (el_int he) (spot_cell ht hv') hs h
theorem ground_arg {P : Program} {W : World} {H : Type} {enc : TypeId × Value → H} {spare held : _} {fuel : Nat} {t ti t2 t3 e2 e3 : TypeId} {fs : Array Field} {f0 f1 f2 : Field} {cs : Array Value} {x : _} {b0 : Nat} (ht : P.underlying t = some (.struct fs)) (hf0 : fs[0]? = some f0) (hf1 : fs[1]? = some f1) (hf2 : fs[2]? = some f2)
  (h0 : f0.type = ti ∧ f0.offset = 0) (h1 : f1.type = t2 ∧ f1.offset = 1) (h2 : f2.type = t3 ∧ f2.offset = 2)
  (hi : P.underlying ti = some (.int .i64)) (hci : P.cellsOf ti = 1) (ht2 : P.underlying t2 = some (.slice e2)) (hct2 : P.cellsOf t2 = 1) (ht3 : P.underlying t3 = some (.slice e3)) (hct3 : P.cellsOf t3 = 1)
  (he2 : P.underlying e2 = some (.array 2 ti)) (hc2 : P.cellsOf e2 = 2) (he3 : P.underlying e3 = some (.array 3 ti)) (hc3 : P.cellsOf e3 = 3) (hct : P.cellsOf t = 3)
  (hcts : P.cellTypes P.depth t = some [ti, t2, t3])
  (hv : Value.okWide P W .any b0 t (.agg cs)) (hs : ∀ b, spare b = true) (h : DataW.trod enc P W 0 spare held fuel t cs.toList = some x) :
  ∃ (n : Int) (a b : Option ArgS), cs = #[.int .i64 n, argVal a, argVal b] ∧ argCl W a ∧ argCl W b ∧ argW 2 a ∧ argW 3 b := by
 unfold Value.okWide at hv
 rw [ht] at hv
 obtain ⟨cs', e, hsz, ts, hts, _, hcell⟩ := hv
 simp only [Value.agg.injEq] at e
 subst e
 rw [hcts] at hts
 injection hts with hts
 subst hts
 rw [hct] at hsz
 obtain ⟨xs, m, _, _, hcl, hxl, hx⟩ := DataW.trod_struct ht h
 have hx0 := hx 0 f0 hf0
 have hx1 := hx 1 f1 hf1
 have hx2 := hx 2 f2 hf2
 rw [h0.1, h0.2, hci] at hx0
 rw [h1.1, h1.2, hct2] at hx1
 rw [h2.1, h2.2, hct3] at hx2
 obtain ⟨l⟩ := cs
 match l, hsz with
 |
  [u0, u1, u2], _ =>
  simp only [List.drop_zero, List.drop_succ_cons, List.take_succ_cons, List.take_zero] at hx0 hx1 hx2
  have c1 : Cell.okWide P W .any b0 t2 u1 := by
   obtain ⟨u, hu, hok⟩ := hcell 1 u1 rfl
   injection hu with hu
   subst hu
   exact hok
  have c2 : Cell.okWide P W .any b0 t3 u2 := by
   obtain ⟨u, hu, hok⟩ := hcell 2 u2 rfl
   injection hu with hu
   subst hu
   exact hok
  have hxl3 : 2 < xs.length := by
   have := (Array.getElem?_eq_some_iff.1 hf2).1
   omega
  rw [List.getElem?_eq_getElem (by omega)] at hx0 hx1 hx2
  obtain ⟨n, hn, _⟩ := DataW.trod_int hi hx0
  simp only [List.cons.injEq, and_true] at hn
  subst hn
  obtain ⟨a, rfl, ha1, ha2⟩ := slice_cells ht2 hc2 (by omega) (el_arr he2 hi hci hc2) (spot_cell ht2 c1) hs hx1
  obtain ⟨b, rfl, hb1, hb2⟩ := slice_cells ht3 hc3 (by omega) (el_arr he3 hi hci hc3) (spot_cell ht3 c2) hs hx2
  exact ⟨n, a, b, rfl, ha1, hb1, ha2, hb2⟩
end Go.Abs

set_option maxRecDepth 20000
set_option maxHeartbeats 4000000
namespace Go.Abs
variable {F : Nat → Option IFn} {cx : Ctx} {k : List Itm} {s : St} {l : List (Nat × AV)} {rows : List Row} {low : Nat} {r : AV × List Row × Nat → Prop}
@[simp] theorem uc15k0 : Ex F cx (.code c15k0 :: k) ⟨mk 164 l, rows, low⟩ r ↔ bnd (evP rows (.loadN 3 (.c (lk l 3)))) fun v0 => bnd (evE rows low (.storeN 3 (.c (lk l 2)) (.c v0))) fun q1 => Ex F cx k ⟨mk 164 [(163, v0), (2, lk l 2), (3, lk l 3)], q1.2.1, q1.2.2⟩ r := rg [2, 3] c15r0 rfl (by kernel_rfl)
@[simp] theorem uc15s1 : Ex F cx (.code c15s1 :: k) s r ↔ Ex F cx (.code (.seq c15k0 .ret) :: k) s r := Iff.rfl
@[simp] theorem uc15k3 : Ex F cx (.code c15k3 :: k) ⟨mk 164 l, rows, low⟩ r ↔ bnd (evP rows (.bin .add (.c (lk l 12)) (.c (.int .i64 1)))) fun v0 => Ex F cx k ⟨mk 164 [(12, v0), (102, v0), (101, lk l 12), (1, lk l 1), (2, lk l 2), (3, lk l 3), (12, lk l 12)], rows, low⟩ r := rg [1, 2, 3, 12] c15r3 rfl (by kernel_rfl)
@[simp] theorem uc15k5 : Ex F cx (.code c15k5 :: k) ⟨mk 164 l, rows, low⟩ r ↔ bnd (evP rows (.bin .add (.c (lk l 13)) (.c (.int .i64 1)))) fun v0 => Ex F cx k ⟨mk 164 [(13, v0), (110, v0), (109, lk l 13), (1, lk l 1), (2, lk l 2), (3, lk l 3), (12, lk l 12), (13, lk l 13)], rows, low⟩ r := rg [1, 2, 3, 12, 13] c15r5 rfl (by kernel_rfl)
@[simp] theorem uc15k7 : Ex F cx (.code c15k7 :: k) ⟨mk 164 l, rows, low⟩ r ↔ bnd (evP rows (.bin .add (.c (lk l 14)) (.c (.int .i64 1)))) fun v0 => Ex F cx k ⟨mk 164 [(14, v0), (118, v0), (117, lk l 14), (1, lk l 1), (2, lk l 2), (3, lk l 3), (12, lk l 12), (13, lk l 13), (14, lk l 14)], rows, low⟩ r := rg [1, 2, 3, 12, 13, 14] c15r7 rfl (by kernel_rfl)
@[simp] theorem uc15k8 : Ex F cx (.code c15k8 :: k) ⟨mk 164 l, rows, low⟩ r ↔ bnd (evP rows (.mkagg [.int .i64 0, .int .i64 0, .int .i64 0] [(0, 1, (.c (lk l 12))), (1, 1, (.c (lk l 13))), (2, 1, (.c (lk l 14)))])) fun v0 => bnd (evE rows low (.mkslice 1 [.int .i64 0, .int .i64 0, .int .i64 0] [(0, 3, (.c v0))])) fun q1 => bnd (evE q1.2.1 q1.2.2 (.app 3 24 (.c (lk l 15)) (.c q1.1))) fun q2 => bnd (evP q2.2.1 (.fieldA 2 (.c (lk l 3)))) fun v3 => bnd (evE q2.2.1 q2.2.2 (.store1 (.c v3) (.c q2.1))) fun q4 => Ex F cx k ⟨mk 164 [(162, v3), (161, q2.1), (160, q1.1), (159, v0), (158, lk l 14), (157, lk l 13), (156, lk l 12), (155, lk l 15), (1, lk l 1), (2, lk l 2), (3, lk l 3), (12, lk l 12), (13, lk l 13), (14, lk l 14), (15, lk l 15)], q4.2.1, q4.2.2⟩ r := rg [1, 2, 3, 12, 13, 14, 15] c15r8 rfl (by kernel_rfl)
@[simp] theorem uc15s9 : Ex F cx (.code c15s9 :: k) s r ↔ Ex F cx (.code (.cond (.t 154) c15k8 .skip) :: k) s r := Iff.rfl
@[simp] theorem uc15k10 : Ex F cx (.code c15k10 :: k) ⟨mk 164 l, rows, low⟩ r ↔ bnd (evP rows (.loadN 3 (.c (lk l 3)))) fun v0 => bnd (Ret F 60 [v0, lk l 12, lk l 13] rows) fun q1 => bnd (evP q1.2.1 (.bin .geq (.c q1.1) (.c (.int .i64 0)))) fun v2 => bnd (gv v2 true (evP q1.2.1 (.loadN 3 (.c (lk l 3))))) fun v3 => bnd (gv v2 true (evP q1.2.1 (.mv (.c (lk l 12))))) fun v4 => bnd (gv v2 true (evP q1.2.1 (.mv (.c (lk l 14))))) fun v5 => gcall F v2 true q1.2.1 (lowO low q1.2.2) [v3, v4, v5] [] (.func 60 []) fun v6 R6 L6 => bnd (gv v2 true (evP R6 (.bin .geq (.c v6) (.c (.int .i64 0))))) fun v7 => bnd (evP R6 (.pick (.c v2) (.c v7) (.c (.bool false)))) fun v8 => bnd (gv v8 true (evP R6 (.loadN 3 (.c (lk l 3))))) fun v9 => bnd (gv v8 true (evP R6 (.mv (.c (lk l 13))))) fun v10 => bnd (gv v8 true (evP R6 (.mv (.c (lk l 14))))) fun v11 => gcall F v8 true R6 L6 [v9, v10, v11] [] (.func 60 []) fun v12 R12 L12 => bnd (gv v8 true (evP R12 (.bin .geq (.c v12) (.c (.int .i64 0))))) fun v13 => bnd (evP R12 (.pick (.c v8) (.c v13) (.c (.bool false)))) fun v14 => bnd (gv v14 true (evP R12 (.mv (.c (lk l 15))))) fun v15 => bnd (gv v14 true (evP R12 (.len 0 (.c v15)))) fun v16 => bnd (gv v14 true (evP R12 (.bin .lss (.c v16) (.c (.int .i64 6))))) fun v17 => bnd (evP R12 (.pick (.c v14) (.c v17) (.c (.bool false)))) fun v18 => bnd (gv v18 true (evP R12 (.fieldA 2 (.c (lk l 1))))) fun v19 => bnd (gv v18 true (evP R12 (.load1 (.c v19)))) fun v20 => bnd (gv v18 true (evP R12 (.mv (.c (lk l 12))))) fun v21 => bnd (gv v18 true (evP R12 (.mv (.c (lk l 13))))) fun v22 => bnd (gv v18 true (evP R12 (.bin .add (.c v21) (.c v22)))) fun v23 => bnd (gv v18 true (evP R12 (.mv (.c (lk l 14))))) fun v24 => bnd (gv v18 true (evP R12 (.bin .add (.c v23) (.c v24)))) fun v25 => gcall F v18 true R12 L12 [v20, v25] [] (.func 61 []) fun v26 R26 L26 => bnd (evP R26 (.pick (.c v18) (.c v26) (.c (.bool false)))) fun v27 => Ex F cx k ⟨mk 164 [(154, v27), (153, v26), (152, v25), (151, v24), (150, v23), (149, v22), (148, v21), (147, v20), (146, v19), (145, v18), (144, v18), (143, v17), (142, v16), (141, v15), (140, v14), (139, v14), (138, v13), (137, v12), (136, v11), (135, v10), (134, v9), (133, v8), (132, v8), (131, v7), (130, v6), (129, v5), (128, v4), (127, v3), (126, v2), (125, v2), (124, q1.1), (123, lk l 13), (122, lk l 12), (121, v0), (1, lk l 1), (2, lk l 2), (3, lk l 3), (12, lk l 12), (13, lk l 13), (14, lk l 14), (15, lk l 15)], R26, L26⟩ r := rg [1, 2, 3, 12, 13, 14, 15] c15r10 rfl (by kernel_rfl)
@[simp] theorem uc15s11 : Ex F cx (.code c15s11 :: k) s r ↔ Ex F cx (.code (.seq c15k10 c15s9) :: k) s r := Iff.rfl
@[simp] theorem uc15k12 : Ex F cx (.code c15k12 :: k) ⟨mk 164 l, rows, low⟩ r ↔ bnd (evP rows (.fieldA 2 (.c (lk l 3)))) fun v0 => bnd (evP rows (.load1 (.c v0))) fun v1 => Ex F cx k ⟨mk 164 [(15, v1), (120, v1), (119, v0), (1, lk l 1), (2, lk l 2), (3, lk l 3), (12, lk l 12), (13, lk l 13), (14, lk l 14)], rows, low⟩ r := rg [1, 2, 3, 12, 13, 14] c15r12 rfl (by kernel_rfl)
@[simp] theorem uc15s13 : Ex F cx (.code c15s13 :: k) s r ↔ Ex F cx (.code (.seq (.block 9 (.seq c15k12 c15s11)) c15k7) :: k) s r := Iff.rfl
@[simp] theorem uc15s14 : Ex F cx (.code c15s14 :: k) s r ↔ Ex F cx (.code (.cond (.t 116) .skip (.exit 8)) :: k) s r := Iff.rfl
@[simp] theorem uc15k15 : Ex F cx (.code c15k15 :: k) ⟨mk 164 l, rows, low⟩ r ↔ bnd (evP rows (.fieldA 0 (.c (lk l 3)))) fun v0 => bnd (evP rows (.load1 (.c v0))) fun v1 => bnd (evP rows (.bin .lss (.c (lk l 14)) (.c v1))) fun v2 => Ex F cx k ⟨mk 164 [(116, v2), (115, v1), (114, v0), (113, lk l 14), (1, lk l 1), (2, lk l 2), (3, lk l 3), (12, lk l 12), (13, lk l 13), (14, lk l 14)], rows, low⟩ r := rg [1, 2, 3, 12, 13, 14] c15r15 rfl (by kernel_rfl)
@[simp] theorem uc15s16 : Ex F cx (.code c15s16 :: k) s r ↔ Ex F cx (.code (.block 8 (.loop c15l6)) :: k) s r := Iff.rfl
@[simp] theorem uc15k17 : Ex F cx (.code c15k17 :: k) ⟨mk 164 l, rows, low⟩ r ↔ bnd (evP rows (.bin .add (.c (lk l 13)) (.c (.int .i64 1)))) fun v0 => Ex F cx k ⟨mk 164 [(14, v0), (112, v0), (111, lk l 13), (1, lk l 1), (2, lk l 2), (3, lk l 3), (12, lk l 12), (13, lk l 13)], rows, low⟩ r := rg [1, 2, 3, 12, 13] c15r17 rfl (by kernel_rfl)
@[simp] theorem uc15s18 : Ex F cx (.code c15s18 :: k) s r ↔ Ex F cx (.code (.seq (.block 7 (.seq c15k17 c15s16)) c15k5) :: k) s r := Iff.rfl
@[simp] theorem uc15s19 : Ex F cx (.code c15s19 :: k) s r ↔ Ex F cx (.code (.cond (.t 108) .skip (.exit 6)) :: k) s r := Iff.rfl
@[simp] theorem uc15k20 : Ex F cx (.code c15k20 :: k) ⟨mk 164 l, rows, low⟩ r ↔ bnd (evP rows (.fieldA 0 (.c (lk l 3)))) fun v0 => bnd (evP rows (.load1 (.c v0))) fun v1 => bnd (evP rows (.bin .lss (.c (lk l 13)) (.c v1))) fun v2 => Ex F cx k ⟨mk 164 [(108, v2), (107, v1), (106, v0), (105, lk l 13), (1, lk l 1), (2, lk l 2), (3, lk l 3), (12, lk l 12), (13, lk l 13)], rows, low⟩ r := rg [1, 2, 3, 12, 13] c15r20 rfl (by kernel_rfl)
@[simp] theorem uc15s21 : Ex F cx (.code c15s21 :: k) s r ↔ Ex F cx (.code (.block 6 (.loop c15l4)) :: k) s r := Iff.rfl
@[simp] theorem uc15k22 : Ex F cx (.code c15k22 :: k) ⟨mk 164 l, rows, low⟩ r ↔ bnd (evP rows (.bin .add (.c (lk l 12)) (.c (.int .i64 1)))) fun v0 => Ex F cx k ⟨mk 164 [(13, v0), (104, v0), (103, lk l 12), (1, lk l 1), (2, lk l 2), (3, lk l 3), (12, lk l 12)], rows, low⟩ r := rg [1, 2, 3, 12] c15r22 rfl (by kernel_rfl)
@[simp] theorem uc15s23 : Ex F cx (.code c15s23 :: k) s r ↔ Ex F cx (.code (.seq (.block 5 (.seq c15k22 c15s21)) c15k3) :: k) s r := Iff.rfl
@[simp] theorem uc15s24 : Ex F cx (.code c15s24 :: k) s r ↔ Ex F cx (.code (.cond (.t 100) .skip (.exit 4)) :: k) s r := Iff.rfl
@[simp] theorem uc15k25 : Ex F cx (.code c15k25 :: k) ⟨mk 164 l, rows, low⟩ r ↔ bnd (evP rows (.fieldA 0 (.c (lk l 3)))) fun v0 => bnd (evP rows (.load1 (.c v0))) fun v1 => bnd (evP rows (.bin .lss (.c (lk l 12)) (.c v1))) fun v2 => Ex F cx k ⟨mk 164 [(100, v2), (99, v1), (98, v0), (97, lk l 12), (1, lk l 1), (2, lk l 2), (3, lk l 3), (12, lk l 12)], rows, low⟩ r := rg [1, 2, 3, 12] c15r25 rfl (by kernel_rfl)
@[simp] theorem uc15s26 : Ex F cx (.code c15s26 :: k) s r ↔ Ex F cx (.code (.block 4 (.loop c15l2)) :: k) s r := Iff.rfl
@[simp] theorem uc15k27 : Ex F cx (.code c15k27 :: k) ⟨mk 164 l, rows, low⟩ r ↔ Ex F cx k ⟨mk 164 [(12, (.int .i64 0)), (1, lk l 1), (2, lk l 2), (3, lk l 3)], rows, low⟩ r := rg [1, 2, 3] c15r27 rfl (by kernel_rfl)
@[simp] theorem uc15s28 : Ex F cx (.code c15s28 :: k) s r ↔ Ex F cx (.code (.seq (.seq c15k27 c15s26) c15s1) :: k) s r := Iff.rfl
@[simp] theorem uc15k30 : Ex F cx (.code c15k30 :: k) ⟨mk 164 l, rows, low⟩ r ↔ bnd (evP rows (.bin .add (.c (lk l 10)) (.c (.int .i64 1)))) fun v0 => Ex F cx k ⟨mk 164 [(10, v0), (82, v0), (81, lk l 10), (1, lk l 1), (2, lk l 2), (3, lk l 3), (4, lk l 4), (10, lk l 10)], rows, low⟩ r := rg [1, 2, 3, 4, 10] c15r30 rfl (by kernel_rfl)
@[simp] theorem uc15k31 : Ex F cx (.code c15k31 :: k) ⟨mk 164 l, rows, low⟩ r ↔ bnd (evP rows (.bin .quo (.c (lk l 10)) (.c (.int .i64 6)))) fun v0 => bnd (evP rows (.bin .rem (.c (lk l 10)) (.c (.int .i64 6)))) fun v1 => bnd (evP rows (.mkagg [.int .i64 0, .int .i64 0] [(0, 1, (.c v0)), (1, 1, (.c v1))])) fun v2 => bnd (evE rows low (.mkslice 1 [.int .i64 0, .int .i64 0] [(0, 2, (.c v2))])) fun q3 => bnd (evE q3.2.1 q3.2.2 (.app 2 16 (.c (lk l 11)) (.c q3.1))) fun q4 => bnd (evP q4.2.1 (.fieldA 1 (.c (lk l 3)))) fun v5 => bnd (evE q4.2.1 q4.2.2 (.store1 (.c v5) (.c q4.1))) fun q6 => Ex F cx k ⟨mk 164 [(96, v5), (95, q4.1), (94, q3.1), (93, v2), (92, v1), (91, lk l 10), (90, v0), (89, lk l 10), (88, lk l 11), (1, lk l 1), (2, lk l 2), (3, lk l 3), (4, lk l 4), (10, lk l 10), (11, lk l 11)], q6.2.1, q6.2.2⟩ r := rg [1, 2, 3, 4, 10, 11] c15r31 rfl (by kernel_rfl)
@[simp] theorem uc15s32 : Ex F cx (.code c15s32 :: k) s r ↔ Ex F cx (.code (.cond (.t 87) c15k31 .skip) :: k) s r := Iff.rfl
@[simp] theorem uc15k33 : Ex F cx (.code c15k33 :: k) ⟨mk 164 l, rows, low⟩ r ↔ bnd (evP rows (.idxA 36 1 (.c (lk l 4)) (.c (lk l 10)))) fun v0 => bnd (evP rows (.load1 (.c v0))) fun v1 => Ex F cx k ⟨mk 164 [(87, v1), (86, v0), (85, lk l 10), (1, lk l 1), (2, lk l 2), (3, lk l 3), (4, lk l 4), (10, lk l 10), (11, lk l 11)], rows, low⟩ r := rg [1, 2, 3, 4, 10, 11] c15r33 rfl (by kernel_rfl)
@[simp] theorem uc15s34 : Ex F cx (.code c15s34 :: k) s r ↔ Ex F cx (.code (.seq c15k33 c15s32) :: k) s r := Iff.rfl
@[simp] theorem uc15k35 : Ex F cx (.code c15k35 :: k) ⟨mk 164 l, rows, low⟩ r ↔ bnd (evP rows (.fieldA 1 (.c (lk l 3)))) fun v0 => bnd (evP rows (.load1 (.c v0))) fun v1 => Ex F cx k ⟨mk 164 [(11, v1), (84, v1), (83, v0), (1, lk l 1), (2, lk l 2), (3, lk l 3), (4, lk l 4), (10, lk l 10)], rows, low⟩ r := rg [1, 2, 3, 4, 10] c15r35 rfl (by kernel_rfl)
@[simp] theorem uc15s36 : Ex F cx (.code c15s36 :: k) s r ↔ Ex F cx (.code (.seq (.block 3 (.seq c15k35 c15s34)) c15k30) :: k) s r := Iff.rfl
@[simp] theorem uc15s37 : Ex F cx (.code c15s37 :: k) s r ↔ Ex F cx (.code (.cond (.t 80) .skip (.exit 2)) :: k) s r := Iff.rfl
@[simp] theorem uc15k38 : Ex F cx (.code c15k38 :: k) ⟨mk 164 l, rows, low⟩ r ↔ bnd (evP rows (.bin .lss (.c (lk l 10)) (.c (.int .i64 36)))) fun v0 => Ex F cx k ⟨mk 164 [(80, v0), (79, lk l 10), (1, lk l 1), (2, lk l 2), (3, lk l 3), (4, lk l 4), (10, lk l 10)], rows, low⟩ r := rg [1, 2, 3, 4, 10] c15r38 rfl (by kernel_rfl)
@[simp] theorem uc15s39 : Ex F cx (.code c15s39 :: k) s r ↔ Ex F cx (.code (.block 2 (.loop c15l29)) :: k) s r := Iff.rfl
@[simp] theorem uc15k40 : Ex F cx (.code c15k40 :: k) ⟨mk 164 l, rows, low⟩ r ↔ Ex F cx k ⟨mk 164 [(10, (.int .i64 0)), (1, lk l 1), (2, lk l 2), (3, lk l 3), (4, lk l 4)], rows, low⟩ r := rg [1, 2, 3, 4] c15r40 rfl (by kernel_rfl)
@[simp] theorem uc15s41 : Ex F cx (.code c15s41 :: k) s r ↔ Ex F cx (.code (.seq (.seq c15k40 c15s39) c15s28) :: k) s r := Iff.rfl
@[simp] theorem uc15k43 : Ex F cx (.code c15k43 :: k) ⟨mk 164 l, rows, low⟩ r ↔ bnd (evP rows (.bin .add (.c (lk l 6)) (.c (.int .i64 1)))) fun v0 => Ex F cx k ⟨mk 164 [(6, v0), (33, v0), (32, lk l 6), (1, lk l 1), (2, lk l 2), (3, lk l 3), (4, lk l 4), (5, lk l 5), (6, lk l 6)], rows, low⟩ r := rg [1, 2, 3, 4, 5, 6] c15r43 rfl (by kernel_rfl)
@[simp] theorem uc15k44 : Ex F cx (.code c15k44 :: k) ⟨mk 164 l, rows, low⟩ r ↔ bnd (evP rows (.bin .add (.c (lk l 5)) (.c (.int .i64 1)))) fun v0 => Ex F cx k ⟨mk 164 [(5, v0), (78, v0), (77, lk l 5), (1, lk l 1), (2, lk l 2), (3, lk l 3), (4, lk l 4), (5, lk l 5), (6, lk l 6)], rows, low⟩ r := rg [1, 2, 3, 4, 5, 6] c15r44 rfl (by kernel_rfl)
@[simp] theorem uc15k45 : Ex F cx (.code c15k45 :: k) ⟨mk 164 l, rows, low⟩ r ↔ bnd (evP rows (.idxA 36 1 (.c (lk l 4)) (.c (lk l 9)))) fun v0 => bnd (evE rows low (.store1 (.c v0) (.c (.bool true)))) fun q1 => Ex F cx k ⟨mk 164 [(76, v0), (75, lk l 9), (1, lk l 1), (2, lk l 2), (3, lk l 3), (4, lk l 4), (5, lk l 5), (6, lk l 6), (9, lk l 9)], q1.2.1, q1.2.2⟩ r := rg [1, 2, 3, 4, 5, 6, 9] c15r45 rfl (by kernel_rfl)
@[simp] theorem uc15s46 : Ex F cx (.code c15s46 :: k) s r ↔ Ex F cx (.code (.cond (.t 74) (.seq c15k45 c15k44) .skip) :: k) s r := Iff.rfl
@[simp] theorem uc15k47 : Ex F cx (.code c15k47 :: k) ⟨mk 164 l, rows, low⟩ r ↔ bnd (evP rows (.bin .neq (.c (lk l 7)) (.c (lk l 8)))) fun v0 => bnd (gv v0 true (evP rows (.mv (.c (lk l 9))))) fun v1 => bnd (gv v0 true (evP rows (.idxA 36 1 (.c (lk l 4)) (.c v1)))) fun v2 => bnd (gv v0 true (evP rows (.load1 (.c v2)))) fun v3 => bnd (gv v0 true (evP rows (.un .not (.c v3)))) fun v4 => bnd (evP rows (.pick (.c v0) (.c v4) (.c (.bool false)))) fun v5 => Ex F cx k ⟨mk 164 [(74, v5), (73, v4), (72, v3), (71, v2), (70, v1), (69, v0), (68, v0), (67, lk l 8), (66, lk l 7), (1, lk l 1), (2, lk l 2), (3, lk l 3), (4, lk l 4), (5, lk l 5), (6, lk l 6), (7, lk l 7), (8, lk l 8), (9, lk l 9)], rows, low⟩ r := rg [1, 2, 3, 4, 5, 6, 7, 8, 9] c15r47 rfl (by kernel_rfl)
@[simp] theorem uc15s48 : Ex F cx (.code c15s48 :: k) s r ↔ Ex F cx (.code (.seq c15k47 c15s46) :: k) s r := Iff.rfl
@[simp] theorem uc15k49 : Ex F cx (.code c15k49 :: k) ⟨mk 164 l, rows, low⟩ r ↔ bnd (evP rows (.mn [(.c (lk l 7)), (.c (lk l 8))])) fun v0 => bnd (evP rows (.bin .mul (.c v0) (.c (.int .i64 6)))) fun v1 => bnd (evP rows (.mx [(.c (lk l 7)), (.c (lk l 8))])) fun v2 => bnd (evP rows (.bin .add (.c v1) (.c v2))) fun v3 => Ex F cx k ⟨mk 164 [(9, v3), (65, v3), (64, v2), (63, lk l 8), (62, lk l 7), (61, v1), (60, v0), (59, lk l 8), (58, lk l 7), (1, lk l 1), (2, lk l 2), (3, lk l 3), (4, lk l 4), (5, lk l 5), (6, lk l 6), (7, lk l 7), (8, lk l 8)], rows, low⟩ r := rg [1, 2, 3, 4, 5, 6, 7, 8] c15r49 rfl (by kernel_rfl)
@[simp] theorem uc15s50 : Ex F cx (.code c15s50 :: k) s r ↔ Ex F cx (.code (.seq c15k49 c15s48) :: k) s r := Iff.rfl
@[simp] theorem uc15k51 : Ex F cx (.code c15k51 :: k) ⟨mk 164 l, rows, low⟩ r ↔ bnd (evP rows (.fieldA 1 (.c (lk l 1)))) fun v0 => bnd (evP rows (.load1 (.c v0))) fun v1 => bnd (evP rows (.idxS 2 (.c v1) (.c (lk l 6)))) fun v2 => bnd (evP rows (.idxA 2 1 (.c v2) (.c (.int .i64 0)))) fun v3 => bnd (evP rows (.load1 (.c v3))) fun v4 => bnd (evP rows (.conv .u64 (.c v4))) fun v5 => bnd (evP rows (.fieldA 0 (.c (lk l 3)))) fun v6 => bnd (evP rows (.load1 (.c v6))) fun v7 => bnd (evP rows (.conv .u64 (.c v7))) fun v8 => bnd (evP rows (.bin .rem (.c v5) (.c v8))) fun v9 => bnd (evP rows (.conv .i64 (.c v9))) fun v10 => bnd (evP rows (.fieldA 1 (.c (lk l 1)))) fun v11 => bnd (evP rows (.load1 (.c v11))) fun v12 => bnd (evP rows (.idxS 2 (.c v12) (.c (lk l 6)))) fun v13 => bnd (evP rows (.idxA 2 1 (.c v13) (.c (.int .i64 1)))) fun v14 => bnd (evP rows (.load1 (.c v14))) fun v15 => bnd (evP rows (.conv .u64 (.c v15))) fun v16 => bnd (evP rows (.fieldA 0 (.c (lk l 3)))) fun v17 => bnd (evP rows (.load1 (.c v17))) fun v18 => bnd (evP rows (.conv .u64 (.c v18))) fun v19 => bnd (evP rows (.bin .rem (.c v16) (.c v19))) fun v20 => bnd (evP rows (.conv .i64 (.c v20))) fun v21 => Ex F cx k ⟨mk 164 [(8, v21), (7, v10), (57, v21), (56, v20), (55, v19), (54, v18), (53, v17), (52, v16), (51, v15), (50, v14), (49, v13), (48, lk l 6), (47, v12), (46, v11), (45, v10), (44, v9), (43, v8), (42, v7), (41, v6), (40, v5), (39, v4), (38, v3), (37, v2), (36, lk l 6), (35, v1), (34, v0), (1, lk l 1), (2, lk l 2), (3, lk l 3), (4, lk l 4), (5, lk l 5), (6, lk l 6)], rows, low⟩ r := rg [1, 2, 3, 4, 5, 6] c15r51 rfl (by kernel_rfl)
@[simp] theorem uc15s52 : Ex F cx (.code c15s52 :: k) s r ↔ Ex F cx (.code (.seq (.block 1 (.seq c15k51 c15s50)) c15k43) :: k) s r := Iff.rfl
@[simp] theorem uc15s53 : Ex F cx (.code c15s53 :: k) s r ↔ Ex F cx (.code (.cond (.t 31) .skip (.exit 0)) :: k) s r := Iff.rfl
@[simp] theorem uc15k54 : Ex F cx (.code c15k54 :: k) ⟨mk 164 l, rows, low⟩ r ↔ bnd (evP rows (.fieldA 1 (.c (lk l 1)))) fun v0 => bnd (evP rows (.load1 (.c v0))) fun v1 => bnd (evP rows (.len 0 (.c v1))) fun v2 => bnd (evP rows (.bin .lss (.c (lk l 6)) (.c v2))) fun v3 => bnd (gv v3 true (evP rows (.mv (.c (lk l 5))))) fun v4 => bnd (gv v3 true (evP rows (.bin .lss (.c v4) (.c (.int .i64 10))))) fun v5 => bnd (evP rows (.pick (.c v3) (.c v5) (.c (.bool false)))) fun v6 => Ex F cx k ⟨mk 164 [(31, v6), (30, v5), (29, v4), (28, v3), (27, v3), (26, v2), (25, v1), (24, v0), (23, lk l 6), (1, lk l 1), (2, lk l 2), (3, lk l 3), (4, lk l 4), (5, lk l 5), (6, lk l 6)], rows, low⟩ r := rg [1, 2, 3, 4, 5, 6] c15r54 rfl (by kernel_rfl)
@[simp] theorem uc15s55 : Ex F cx (.code c15s55 :: k) s r ↔ Ex F cx (.code (.block 0 (.loop c15l42)) :: k) s r := Iff.rfl
@[simp] theorem uc15k56 : Ex F cx (.code c15k56 :: k) ⟨mk 164 l, rows, low⟩ r ↔ Ex F cx k ⟨mk 164 [(6, (.int .i64 0)), (1, lk l 1), (2, lk l 2), (3, lk l 3), (4, lk l 4), (5, lk l 5)], rows, low⟩ r := rg [1, 2, 3, 4, 5] c15r56 rfl (by kernel_rfl)
@[simp] theorem uc15s57 : Ex F cx (.code c15s57 :: k) s r ↔ Ex F cx (.code (.seq (.seq c15k56 c15s55) c15s41) :: k) s r := Iff.rfl
@[simp] theorem uc15k58 : Ex F cx (.code c15k58 :: k) ⟨mk 164 l, rows, low⟩ r ↔ Ex F cx k ⟨mk 164 [(5, (.int .i64 0)), (1, lk l 1), (2, lk l 2), (3, lk l 3), (4, lk l 4)], rows, low⟩ r := rg [1, 2, 3, 4] c15r58 rfl (by kernel_rfl)
@[simp] theorem uc15s59 : Ex F cx (.code c15s59 :: k) s r ↔ Ex F cx (.code (.seq c15k58 c15s57) :: k) s r := Iff.rfl
@[simp] theorem uc15k60 : Ex F cx (.code c15k60 :: k) ⟨mk 164 l, rows, low⟩ r ↔ bnd (evE rows low (.box (.c (.agg (List.replicate 36 (.bool false)))))) fun q0 => Ex F cx k ⟨mk 164 [(4, q0.1), (1, lk l 1), (2, lk l 2), (3, lk l 3)], q0.2.1, q0.2.2⟩ r := rg [1, 2, 3] c15r60 rfl (by kernel_rfl)
@[simp] theorem uc15s61 : Ex F cx (.code c15s61 :: k) s r ↔ Ex F cx (.code (.seq c15k60 c15s59) :: k) s r := Iff.rfl
@[simp] theorem uc15k62 : Ex F cx (.code c15k62 :: k) ⟨mk 164 l, rows, low⟩ r ↔ bnd (evP rows (.fieldA 0 (.c (lk l 1)))) fun v0 => bnd (evP rows (.load1 (.c v0))) fun v1 => bnd (evP rows (.conv .u64 (.c v1))) fun v2 => bnd (evP rows (.bin .rem (.c v2) (.c (.int .u64 6)))) fun v3 => bnd (evP rows (.conv .i64 (.c v3))) fun v4 => bnd (evP rows (.bin .add (.c (.int .i64 1)) (.c v4))) fun v5 => bnd (evP rows (.mkagg [.int .i64 0, .nilslice, .nilslice] [(0, 1, (.c v5))])) fun v6 => bnd (evE rows low (.box (.c (.agg [.int .i64 0, .nilslice, .nilslice])))) fun q7 => bnd (evE q7.2.1 q7.2.2 (.storeN 3 (.c q7.1) (.c v6))) fun q8 => Ex F cx k ⟨mk 164 [(3, q7.1), (22, v6), (21, v5), (20, v4), (19, v3), (18, v2), (17, v1), (16, v0), (1, lk l 1), (2, lk l 2)], q8.2.1, q8.2.2⟩ r := rg [1, 2] c15r62 rfl (by kernel_rfl)
@[simp] theorem uc15s63 : Ex F cx (.code c15s63 :: k) s r ↔ Ex F cx (.code (.seq c15k62 c15s61) :: k) s r := Iff.rfl
@[simp] theorem uc15k64 : Ex F cx (.code c15k64 :: k) ⟨mk 164 l, rows, low⟩ r ↔ bnd (evE rows low (.box (.c (lk l 0)))) fun q0 => bnd (evE q0.2.1 q0.2.2 (.box (.c (.agg [.int .i64 0, .nilslice, .nilslice])))) fun q1 => Ex F cx k ⟨mk 164 [(2, q1.1), (1, q0.1), (0, lk l 0)], q1.2.1, q1.2.2⟩ r := rg [0] c15r64 rfl (by kernel_rfl)
def Jc15s13 (F : Nat → Option IFn) (cx : Ctx) (x1 x2 x3 x12 x13 x14 : AV) (rows : List Row) (low : Nat) (r : AV × List Row × Nat → Prop) : Prop := Ex F cx (.code c15s13 :: .inLoop c15l6 :: .inBlock 8 :: .inBlock 7 :: .code c15k5 :: .inLoop c15l4 :: .inBlock 6 :: .inBlock 5 :: .code c15k3 :: .inLoop c15l2 :: .inBlock 4 :: .code c15s1 :: []) ⟨mk 164 [(1, x1), (2, x2), (3, x3), (12, x12), (13, x13), (14, x14)], rows, low⟩ r
def Lc15l6 (F : Nat → Option IFn) (cx : Ctx) (x1 x2 x3 x12 x13 x14 : AV) (rows : List Row) (low : Nat) (r : AV × List Row × Nat → Prop) : Prop := Ex F cx (.code c15l6 :: .inLoop c15l6 :: .inBlock 8 :: .inBlock 7 :: .code c15k5 :: .inLoop c15l4 :: .inBlock 6 :: .inBlock 5 :: .code c15k3 :: .inLoop c15l2 :: .inBlock 4 :: .code c15s1 :: []) ⟨mk 164 [(1, x1), (2, x2), (3, x3), (12, x12), (13, x13), (14, x14)], rows, low⟩ r
@[simp] theorem nc15l6 : Ex F cx (.inLoop c15l6 :: .inBlock 8 :: .inBlock 7 :: .code c15k5 :: .inLoop c15l4 :: .inBlock 6 :: .inBlock 5 :: .code c15k3 :: .inLoop c15l2 :: .inBlock 4 :: .code c15s1 :: []) ⟨mk 164 l, rows, low⟩ r ↔ Lc15l6 F cx (lk l 1) (lk l 2) (lk l 3) (lk l 12) (lk l 13) (lk l 14) rows low r := loopN (keep := [1, 2, 3, 12, 13, 14]) (by kernel_rfl)
@[simp] theorem ec15l6 : Ex F cx (.code (.loop c15l6) :: .inBlock 8 :: .inBlock 7 :: .code c15k5 :: .inLoop c15l4 :: .inBlock 6 :: .inBlock 5 :: .code c15k3 :: .inLoop c15l2 :: .inBlock 4 :: .code c15s1 :: []) ⟨mk 164 l, rows, low⟩ r ↔ Lc15l6 F cx (lk l 1) (lk l 2) (lk l 3) (lk l 12) (lk l 13) (lk l 14) rows low r := loopE (keep := [1, 2, 3, 12, 13, 14]) (by kernel_rfl)
@[simp] theorem uc15l6 : Ex F cx (.code c15l6 :: k) s r ↔ Ex F cx (.code (.seq (.seq c15k15 c15s14) c15s13) :: k) s r := Iff.rfl
def Jc15s18 (F : Nat → Option IFn) (cx : Ctx) (x1 x2 x3 x12 x13 : AV) (rows : List Row) (low : Nat) (r : AV × List Row × Nat → Prop) : Prop := Ex F cx (.code c15s18 :: .inLoop c15l4 :: .inBlock 6 :: .inBlock 5 :: .code c15k3 :: .inLoop c15l2 :: .inBlock 4 :: .code c15s1 :: []) ⟨mk 164 [(1, x1), (2, x2), (3, x3), (12, x12), (13, x13)], rows, low⟩ r
def Lc15l4 (F : Nat → Option IFn) (cx : Ctx) (x1 x2 x3 x12 x13 : AV) (rows : List Row) (low : Nat) (r : AV × List Row × Nat → Prop) : Prop := Ex F cx (.code c15l4 :: .inLoop c15l4 :: .inBlock 6 :: .inBlock 5 :: .code c15k3 :: .inLoop c15l2 :: .inBlock 4 :: .code c15s1 :: []) ⟨mk 164 [(1, x1), (2, x2), (3, x3), (12, x12), (13, x13)], rows, low⟩ r
@[simp] theorem nc15l4 : Ex F cx (.inLoop c15l4 :: .inBlock 6 :: .inBlock 5 :: .code c15k3 :: .inLoop c15l2 :: .inBlock 4 :: .code c15s1 :: []) ⟨mk 164 l, rows, low⟩ r ↔ Lc15l4 F cx (lk l 1) (lk l 2) (lk l 3) (lk l 12) (lk l 13) rows low r := loopN (keep := [1, 2, 3, 12, 13]) (by kernel_rfl)
@[simp] theorem ec15l4 : Ex F cx (.code (.loop c15l4) :: .inBlock 6 :: .inBlock 5 :: .code c15k3 :: .inLoop c15l2 :: .inBlock 4 :: .code c15s1 :: []) ⟨mk 164 l, rows, low⟩ r ↔ Lc15l4 F cx (lk l 1) (lk l 2) (lk l 3) (lk l 12) (lk l 13) rows low r := loopE (keep := [1, 2, 3, 12, 13]) (by kernel_rfl)
@[simp] theorem uc15l4 : Ex F cx (.code c15l4 :: k) s r ↔ Ex F cx (.code (.seq (.seq c15k20 c15s19) c15s18) :: k) s r := Iff.rfl
def Jc15s23 (F : Nat → Option IFn) (cx : Ctx) (x1 x2 x3 x12 : AV) (rows : List Row) (low : Nat) (r : AV × List Row × Nat → Prop) : Prop := Ex F cx (.code c15s23 :: .inLoop c15l2 :: .inBlock 4 :: .code c15s1 :: []) ⟨mk 164 [(1, x1), (2, x2), (3, x3), (12, x12)], rows, low⟩ r
def Lc15l2 (F : Nat → Option IFn) (cx : Ctx) (x1 x2 x3 x12 : AV) (rows : List Row) (low : Nat) (r : AV × List Row × Nat → Prop) : Prop := Ex F cx (.code c15l2 :: .inLoop c15l2 :: .inBlock 4 :: .code c15s1 :: []) ⟨mk 164 [(1, x1), (2, x2), (3, x3), (12, x12)], rows, low⟩ r
@[simp] theorem nc15l2 : Ex F cx (.inLoop c15l2 :: .inBlock 4 :: .code c15s1 :: []) ⟨mk 164 l, rows, low⟩ r ↔ Lc15l2 F cx (lk l 1) (lk l 2) (lk l 3) (lk l 12) rows low r := loopN (keep := [1, 2, 3, 12]) (by kernel_rfl)
@[simp] theorem ec15l2 : Ex F cx (.code (.loop c15l2) :: .inBlock 4 :: .code c15s1 :: []) ⟨mk 164 l, rows, low⟩ r ↔ Lc15l2 F cx (lk l 1) (lk l 2) (lk l 3) (lk l 12) rows low r := loopE (keep := [1, 2, 3, 12]) (by kernel_rfl)
@[simp] theorem uc15l2 : Ex F cx (.code c15l2 :: k) s r ↔ Ex F cx (.code (.seq (.seq c15k25 c15s24) c15s23) :: k) s r := Iff.rfl
def Jc15s36 (F : Nat → Option IFn) (cx : Ctx) (x1 x2 x3 x4 x10 : AV) (rows : List Row) (low : Nat) (r : AV × List Row × Nat → Prop) : Prop := Ex F cx (.code c15s36 :: .inLoop c15l29 :: .inBlock 2 :: .code c15s28 :: []) ⟨mk 164 [(1, x1), (2, x2), (3, x3), (4, x4), (10, x10)], rows, low⟩ r
def Lc15l29 (F : Nat → Option IFn) (cx : Ctx) (x1 x2 x3 x4 x10 : AV) (rows : List Row) (low : Nat) (r : AV × List Row × Nat → Prop) : Prop := Ex F cx (.code c15l29 :: .inLoop c15l29 :: .inBlock 2 :: .code c15s28 :: []) ⟨mk 164 [(1, x1), (2, x2), (3, x3), (4, x4), (10, x10)], rows, low⟩ r
@[simp] theorem nc15l29 : Ex F cx (.inLoop c15l29 :: .inBlock 2 :: .code c15s28 :: []) ⟨mk 164 l, rows, low⟩ r ↔ Lc15l29 F cx (lk l 1) (lk l 2) (lk l 3) (lk l 4) (lk l 10) rows low r := loopN (keep := [1, 2, 3, 4, 10]) (by kernel_rfl)
@[simp] theorem ec15l29 : Ex F cx (.code (.loop c15l29) :: .inBlock 2 :: .code c15s28 :: []) ⟨mk 164 l, rows, low⟩ r ↔ Lc15l29 F cx (lk l 1) (lk l 2) (lk l 3) (lk l 4) (lk l 10) rows low r := loopE (keep := [1, 2, 3, 4, 10]) (by kernel_rfl)
@[simp] theorem uc15l29 : Ex F cx (.code c15l29 :: k) s r ↔ Ex F cx (.code (.seq (.seq c15k38 c15s37) c15s36) :: k) s r := Iff.rfl
def Jc15s52 (F : Nat → Option IFn) (cx : Ctx) (x1 x2 x3 x4 x5 x6 : AV) (rows : List Row) (low : Nat) (r : AV × List Row × Nat → Prop) : Prop := Ex F cx (.code c15s52 :: .inLoop c15l42 :: .inBlock 0 :: .code c15s41 :: []) ⟨mk 164 [(1, x1), (2, x2), (3, x3), (4, x4), (5, x5), (6, x6)], rows, low⟩ r
def Lc15l42 (F : Nat → Option IFn) (cx : Ctx) (x1 x2 x3 x4 x5 x6 : AV) (rows : List Row) (low : Nat) (r : AV × List Row × Nat → Prop) : Prop := Ex F cx (.code c15l42 :: .inLoop c15l42 :: .inBlock 0 :: .code c15s41 :: []) ⟨mk 164 [(1, x1), (2, x2), (3, x3), (4, x4), (5, x5), (6, x6)], rows, low⟩ r
@[simp] theorem nc15l42 : Ex F cx (.inLoop c15l42 :: .inBlock 0 :: .code c15s41 :: []) ⟨mk 164 l, rows, low⟩ r ↔ Lc15l42 F cx (lk l 1) (lk l 2) (lk l 3) (lk l 4) (lk l 5) (lk l 6) rows low r := loopN (keep := [1, 2, 3, 4, 5, 6]) (by kernel_rfl)
@[simp] theorem ec15l42 : Ex F cx (.code (.loop c15l42) :: .inBlock 0 :: .code c15s41 :: []) ⟨mk 164 l, rows, low⟩ r ↔ Lc15l42 F cx (lk l 1) (lk l 2) (lk l 3) (lk l 4) (lk l 5) (lk l 6) rows low r := loopE (keep := [1, 2, 3, 4, 5, 6]) (by kernel_rfl)
@[simp] theorem uc15l42 : Ex F cx (.code c15l42 :: k) s r ↔ Ex F cx (.code (.seq (.seq c15k54 c15s53) c15s52) :: k) s r := Iff.rfl
@[simp] theorem uc15b : Ex F cx (.code c15b :: k) s r ↔ Ex F cx (.code (.seq c15k64 c15s63) :: k) s r := Iff.rfl
theorem i15 {x0 : AV} (hF : F 15 = some c15) {q : AV × List Row × Option Nat} (h : Ex F (.fn [.cellN 2 3]) [.code c15b] ⟨mk 164 [(0, x0)], rows, rows.length⟩ fun r => fin rows r.1 r.2.1 r.2.2 = q) : Ret F 15 [x0] rows = some q := Ret_mk hF h
@[simp] theorem uc17k0 : Ex F cx (.code c17k0 :: k) ⟨mk 16 l, rows, low⟩ r ↔ bnd (evP (rows ++ maskE 0 ([] : List (Nat × Row))) (.fieldA 0 (.c (lk l 1)))) fun v0 => bnd (evP (rows ++ maskE 1 ([] : List (Nat × Row))) (.load1 (.c v0))) fun v1 => bnd (evP (rows ++ maskE 0 ([] : List (Nat × Row))) (.fieldA 1 (.c (lk l 1)))) fun v2 => bnd (evP (rows ++ maskE 8 ([] : List (Nat × Row))) (.load1 (.c v2))) fun v3 => bnd (evE (rows ++ maskE 28 ([] : List (Nat × Row))) (rows.length + ([] : List (Nat × Row)).length) (.app 2 16 (.c (lk l 3)) (.c v3))) fun q4 => q4.2.2 = rows.length + ([] : List (Nat × Row)).length ∧ bnd (some (([] : List (Nat × Row)) ++ List.map (fun (x : Row) => (5, x)) (q4.2.1.drop (rows.length + ([] : List (Nat × Row)).length)))) fun e4 => bnd (evP (rows ++ maskE 0 e4) (.fieldA 2 (.c (lk l 1)))) fun v5 => bnd (evP (rows ++ maskE 128 e4) (.load1 (.c v5))) fun v6 => bnd (evE (rows ++ maskE 508 e4) (rows.length + e4.length) (.app 3 24 (.c (lk l 4)) (.c v6))) fun q7 => q7.2.2 = rows.length + e4.length ∧ bnd (some (e4 ++ List.map (fun (x : Row) => (9, x)) (q7.2.1.drop (rows.length + e4.length)))) fun e7 => bnd (evP (rows ++ List.map (fun (x : Nat × Row) => x.2) e7) (.mkagg [.int .i64 0, .nilslice, .nilslice] [(0, 1, (.c v1)), (1, 1, (.c q4.1)), (2, 1, (.c q7.1))])) fun v8 => bnd (evE (rows ++ List.map (fun (x : Nat × Row) => x.2) e7) low (.storeN 3 (.c (lk l 2)) (.c v8))) fun q9 => Ex F cx k ⟨mk 16 [(15, v8), (14, q7.1), (13, v6), (12, v5), (11, lk l 4), (10, q4.1), (9, v3), (8, v2), (7, lk l 3), (6, v1), (5, v0), (1, lk l 1), (2, lk l 2), (3, lk l 3), (4, lk l 4)], q9.2.1, q9.2.2⟩ r := rg [1, 2, 3, 4] c17r0 rfl (by kernel_rfl)
@[simp] theorem uc17s1 : Ex F cx (.code c17s1 :: k) s r ↔ Ex F cx (.code (.seq c17k0 .ret) :: k) s r := Iff.rfl
@[simp] theorem uc17k2 : Ex F cx (.code c17k2 :: k) ⟨mk 16 l, rows, low⟩ r ↔ Ex F cx k ⟨mk 16 [(4, .nilslice), (1, lk l 1), (2, lk l 2), (3, lk l 3)], rows, low⟩ r := rg [1, 2, 3] c17r2 rfl (by kernel_rfl)
@[simp] theorem uc17s3 : Ex F cx (.code c17s3 :: k) s r ↔ Ex F cx (.code (.seq c17k2 c17s1) :: k) s r := Iff.rfl
@[simp] theorem uc17k4 : Ex F cx (.code c17k4 :: k) ⟨mk 16 l, rows, low⟩ r ↔ Ex F cx k ⟨mk 16 [(3, .nilslice), (1, lk l 1), (2, lk l 2)], rows, low⟩ r := rg [1, 2] c17r4 rfl (by kernel_rfl)
@[simp] theorem uc17s5 : Ex F cx (.code c17s5 :: k) s r ↔ Ex F cx (.code (.seq c17k4 c17s3) :: k) s r := Iff.rfl
@[simp] theorem uc17k6 : Ex F cx (.code c17k6 :: k) ⟨mk 16 l, rows, low⟩ r ↔ bnd (evE rows low (.box (.c (lk l 0)))) fun q0 => bnd (evE q0.2.1 q0.2.2 (.box (.c (.agg [.int .i64 0, .nilslice, .nilslice])))) fun q1 => Ex F cx k ⟨mk 16 [(2, q1.1), (1, q0.1), (0, lk l 0)], q1.2.1, q1.2.2⟩ r := rg [0] c17r6 rfl (by kernel_rfl)
@[simp] theorem uc17b : Ex F cx (.code c17b :: k) s r ↔ Ex F cx (.code (.seq c17k6 c17s5) :: k) s r := Iff.rfl
theorem i17 {x0 : AV} (hF : F 17 = some c17) {q : AV × List Row × Option Nat} (h : Ex F (.fn [.cellN 2 3]) [.code c17b] ⟨mk 16 [(0, x0)], rows, rows.length⟩ fun r => fin rows r.1 r.2.1 r.2.2 = q) : Ret F 17 [x0] rows = some q := Ret_mk hF h
@[simp] theorem uc20k0 : Ex F cx (.code c20k0 :: k) ⟨mk 30 l, rows, low⟩ r ↔ Ex F cx k ⟨mk 30 [(4, lk l 5), (29, lk l 5), (5, lk l 5)], rows, low⟩ r := rg [5] c20r0 rfl (by kernel_rfl)
@[simp] theorem uc20s1 : Ex F cx (.code c20s1 :: k) s r ↔ Ex F cx (.code (.seq c20k0 .ret) :: k) s r := Iff.rfl
@[simp] theorem uc20k3 : Ex F cx (.code c20k3 :: k) ⟨mk 30 l, rows, low⟩ r ↔ bnd (evP rows (.bin .add (.c (lk l 6)) (.c (.int .i64 1)))) fun v0 => Ex F cx k ⟨mk 30 [(6, v0), (12, v0), (11, lk l 6), (0, lk l 0), (1, lk l 1), (5, lk l 5), (6, lk l 6)], rows, low⟩ r := rg [0, 1, 5, 6] c20r3 rfl (by kernel_rfl)
@[simp] theorem uc20k4 : Ex F cx (.code c20k4 :: k) ⟨mk 30 l, rows, low⟩ r ↔ bnd (evE rows low (.mkslice 1 [.int .i64 0] [(0, 1, (.c (lk l 7)))])) fun q0 => bnd (evE q0.2.1 q0.2.2 (.app 1 8 (.c (lk l 5)) (.c q0.1))) fun q1 => Ex F cx k ⟨mk 30 [(5, q1.1), (28, q1.1), (27, q0.1), (26, lk l 7), (25, lk l 5), (0, lk l 0), (1, lk l 1), (5, lk l 5), (6, lk l 6), (7, lk l 7)], q1.2.1, q1.2.2⟩ r := rg [0, 1, 5, 6, 7] c20r4 rfl (by kernel_rfl)
@[simp] theorem uc20k5 : Ex F cx (.code c20k5 :: k) ⟨mk 30 l, rows, low⟩ r ↔ bnd (evP rows (.idxS 1 (.c (lk l 0)) (.c (lk l 6)))) fun v0 => bnd (evP rows (.load1 (.c v0))) fun v1 => bnd (evP rows (.conv .u64 (.c v1))) fun v2 => bnd (evP rows (.bin .rem (.c v2) (.c (.int .u64 201)))) fun v3 => bnd (evP rows (.conv .i64 (.c v3))) fun v4 => bnd (evP rows (.bin .sub (.c v4) (.c (.int .i64 100)))) fun v5 => Ex F cx k ⟨mk 30 [(7, v5), (24, v5), (23, v4), (22, v3), (21, v2), (20, v1), (19, v0), (18, lk l 6), (17, lk l 0), (0, lk l 0), (1, lk l 1), (5, lk l 5), (6, lk l 6)], rows, low⟩ r := rg [0, 1, 5, 6] c20r5 rfl (by kernel_rfl)
@[simp] theorem uc20s6 : Ex F cx (.code c20s6 :: k) s r ↔ Ex F cx (.code (.cond (.t 16) c20k5 .skip) :: k) s r := Iff.rfl
@[simp] theorem uc20k7 : Ex F cx (.code c20k7 :: k) ⟨mk 30 l, rows, low⟩ r ↔ bnd (evP rows (.len 0 (.c (lk l 0)))) fun v0 => bnd (evP rows (.bin .lss (.c (lk l 6)) (.c v0))) fun v1 => Ex F cx k ⟨mk 30 [(16, v1), (15, v0), (14, lk l 0), (13, lk l 6), (0, lk l 0), (1, lk l 1), (5, lk l 5), (6, lk l 6), (7, lk l 7)], rows, low⟩ r := rg [0, 1, 5, 6, 7] c20r7 rfl (by kernel_rfl)
@[simp] theorem uc20s8 : Ex F cx (.code c20s8 :: k) s r ↔ Ex F cx (.code (.seq (.seq c20k7 c20s6) c20k4) :: k) s r := Iff.rfl
@[simp] theorem uc20k9 : Ex F cx (.code c20k9 :: k) ⟨mk 30 l, rows, low⟩ r ↔ Ex F cx k ⟨mk 30 [(7, (.int .i64 0)), (0, lk l 0), (1, lk l 1), (5, lk l 5), (6, lk l 6)], rows, low⟩ r := rg [0, 1, 5, 6] c20r9 rfl (by kernel_rfl)
@[simp] theorem uc20s10 : Ex F cx (.code c20s10 :: k) s r ↔ Ex F cx (.code (.seq (.block 1 (.seq c20k9 c20s8)) c20k3) :: k) s r := Iff.rfl
@[simp] theorem uc20s11 : Ex F cx (.code c20s11 :: k) s r ↔ Ex F cx (.code (.cond (.t 10) .skip (.exit 0)) :: k) s r := Iff.rfl
@[simp] theorem uc20k12 : Ex F cx (.code c20k12 :: k) ⟨mk 30 l, rows, low⟩ r ↔ bnd (evP rows (.bin .lss (.c (lk l 6)) (.c (lk l 1)))) fun v0 => Ex F cx k ⟨mk 30 [(10, v0), (9, lk l 1), (8, lk l 6), (0, lk l 0), (1, lk l 1), (5, lk l 5), (6, lk l 6)], rows, low⟩ r := rg [0, 1, 5, 6] c20r12 rfl (by kernel_rfl)
@[simp] theorem uc20s13 : Ex F cx (.code c20s13 :: k) s r ↔ Ex F cx (.code (.block 0 (.loop c20l2)) :: k) s r := Iff.rfl
@[simp] theorem uc20k14 : Ex F cx (.code c20k14 :: k) ⟨mk 30 l, rows, low⟩ r ↔ Ex F cx k ⟨mk 30 [(6, (.int .i64 0)), (0, lk l 0), (1, lk l 1), (5, lk l 5)], rows, low⟩ r := rg [0, 1, 5] c20r14 rfl (by kernel_rfl)
@[simp] theorem uc20s15 : Ex F cx (.code c20s15 :: k) s r ↔ Ex F cx (.code (.seq (.seq c20k14 c20s13) c20s1) :: k) s r := Iff.rfl
@[simp] theorem uc20k16 : Ex F cx (.code c20k16 :: k) ⟨mk 30 l, rows, low⟩ r ↔ Ex F cx k ⟨mk 30 [(5, .nilslice), (0, lk l 0), (1, lk l 1)], rows, low⟩ r := rg [0, 1] c20r16 rfl (by kernel_rfl)
@[simp] theorem uc20s17 : Ex F cx (.code c20s17 :: k) s r ↔ Ex F cx (.code (.seq c20k16 c20s15) :: k) s r := Iff.rfl
@[simp] theorem uc20k18 : Ex F cx (.code c20k18 :: k) ⟨mk 30 l, rows, low⟩ r ↔ Ex F cx k ⟨mk 30 [(4, .nilslice), (0, lk l 0), (1, lk l 1)], rows, low⟩ r := rg [0, 1] c20r18 rfl (by kernel_rfl)
def Jc20s10 (F : Nat → Option IFn) (cx : Ctx) (x0 x1 x5 x6 : AV) (rows : List Row) (low : Nat) (r : AV × List Row × Nat → Prop) : Prop := Ex F cx (.code c20s10 :: .inLoop c20l2 :: .inBlock 0 :: .code c20s1 :: []) ⟨mk 30 [(0, x0), (1, x1), (5, x5), (6, x6)], rows, low⟩ r
def Lc20l2 (F : Nat → Option IFn) (cx : Ctx) (x0 x1 x5 x6 : AV) (rows : List Row) (low : Nat) (r : AV × List Row × Nat → Prop) : Prop := Ex F cx (.code c20l2 :: .inLoop c20l2 :: .inBlock 0 :: .code c20s1 :: []) ⟨mk 30 [(0, x0), (1, x1), (5, x5), (6, x6)], rows, low⟩ r
@[simp] theorem nc20l2 : Ex F cx (.inLoop c20l2 :: .inBlock 0 :: .code c20s1 :: []) ⟨mk 30 l, rows, low⟩ r ↔ Lc20l2 F cx (lk l 0) (lk l 1) (lk l 5) (lk l 6) rows low r := loopN (keep := [0, 1, 5, 6]) (by kernel_rfl)
@[simp] theorem ec20l2 : Ex F cx (.code (.loop c20l2) :: .inBlock 0 :: .code c20s1 :: []) ⟨mk 30 l, rows, low⟩ r ↔ Lc20l2 F cx (lk l 0) (lk l 1) (lk l 5) (lk l 6) rows low r := loopE (keep := [0, 1, 5, 6]) (by kernel_rfl)
@[simp] theorem uc20l2 : Ex F cx (.code c20l2 :: k) s r ↔ Ex F cx (.code (.seq (.seq c20k12 c20s11) c20s10) :: k) s r := Iff.rfl
@[simp] theorem uc20b : Ex F cx (.code c20b :: k) s r ↔ Ex F cx (.code (.seq c20k18 c20s17) :: k) s r := Iff.rfl
theorem i20 {x0 x1 : AV} (hF : F 20 = some c20) {q : AV × List Row × Option Nat} (h : Ex F (.fn [.t 4]) [.code c20b] ⟨mk 30 [(0, x0), (1, x1)], rows, rows.length⟩ fun r => fin rows r.1 r.2.1 r.2.2 = q) : Ret F 20 [x0, x1] rows = some q := Ret_mk hF h
@[simp] theorem uc27k0 : Ex F cx (.code c27k0 :: k) ⟨mk 26 l, rows, low⟩ r ↔ Ex F cx k ⟨mk 26 [(4, (.bool true))], rows, low⟩ r := rg [] c27r0 rfl (by kernel_rfl)
@[simp] theorem uc27s1 : Ex F cx (.code c27s1 :: k) s r ↔ Ex F cx (.code (.seq c27k0 .ret) :: k) s r := Iff.rfl
@[simp] theorem uc27k3 : Ex F cx (.code c27k3 :: k) ⟨mk 26 l, rows, low⟩ r ↔ bnd (evP rows (.bin .add (.c (lk l 5)) (.c (.int .i64 1)))) fun v0 => Ex F cx k ⟨mk 26 [(5, v0), (16, v0), (15, lk l 5), (0, lk l 0), (1, lk l 1), (5, lk l 5)], rows, low⟩ r := rg [0, 1, 5] c27r3 rfl (by kernel_rfl)
@[simp] theorem uc27k4 : Ex F cx (.code c27k4 :: k) ⟨mk 26 l, rows, low⟩ r ↔ Ex F cx k ⟨mk 26 [(4, (.bool false))], rows, low⟩ r := rg [] c27r4 rfl (by kernel_rfl)
@[simp] theorem uc27s5 : Ex F cx (.code c27s5 :: k) s r ↔ Ex F cx (.code (.cond (.t 25) (.seq c27k4 .ret) .skip) :: k) s r := Iff.rfl
@[simp] theorem uc27k6 : Ex F cx (.code c27k6 :: k) ⟨mk 26 l, rows, low⟩ r ↔ bnd (evP rows (.idxS 1 (.c (lk l 0)) (.c (lk l 5)))) fun v0 => bnd (evP rows (.load1 (.c v0))) fun v1 => bnd (evP rows (.idxS 1 (.c (lk l 1)) (.c (lk l 5)))) fun v2 => bnd (evP rows (.load1 (.c v2))) fun v3 => bnd (evP rows (.bin .neq (.c v1) (.c v3))) fun v4 => Ex F cx k ⟨mk 26 [(25, v4), (24, v3), (23, v2), (22, lk l 5), (21, lk l 1), (20, v1), (19, v0), (18, lk l 5), (17, lk l 0), (0, lk l 0), (1, lk l 1), (5, lk l 5)], rows, low⟩ r := rg [0, 1, 5] c27r6 rfl (by kernel_rfl)
@[simp] theorem uc27s7 : Ex F cx (.code c27s7 :: k) s r ↔ Ex F cx (.code (.seq (.block 1 (.seq c27k6 c27s5)) c27k3) :: k) s r := Iff.rfl
@[simp] theorem uc27s8 : Ex F cx (.code c27s8 :: k) s r ↔ Ex F cx (.code (.cond (.t 14) .skip (.exit 0)) :: k) s r := Iff.rfl
@[simp] theorem uc27k9 : Ex F cx (.code c27k9 :: k) ⟨mk 26 l, rows, low⟩ r ↔ bnd (evP rows (.len 0 (.c (lk l 0)))) fun v0 => bnd (evP rows (.bin .lss (.c (lk l 5)) (.c v0))) fun v1 => Ex F cx k ⟨mk 26 [(14, v1), (13, v0), (12, lk l 0), (11, lk l 5), (0, lk l 0), (1, lk l 1), (5, lk l 5)], rows, low⟩ r := rg [0, 1, 5] c27r9 rfl (by kernel_rfl)
@[simp] theorem uc27s10 : Ex F cx (.code c27s10 :: k) s r ↔ Ex F cx (.code (.block 0 (.loop c27l2)) :: k) s r := Iff.rfl
@[simp] theorem uc27k11 : Ex F cx (.code c27k11 :: k) ⟨mk 26 l, rows, low⟩ r ↔ Ex F cx k ⟨mk 26 [(5, (.int .i64 0)), (0, lk l 0), (1, lk l 1)], rows, low⟩ r := rg [0, 1] c27r11 rfl (by kernel_rfl)
@[simp] theorem uc27s12 : Ex F cx (.code c27s12 :: k) s r ↔ Ex F cx (.code (.seq (.seq c27k11 c27s10) c27s1) :: k) s r := Iff.rfl
@[simp] theorem uc27k13 : Ex F cx (.code c27k13 :: k) ⟨mk 26 l, rows, low⟩ r ↔ Ex F cx k ⟨mk 26 [(4, (.bool false))], rows, low⟩ r := rg [] c27r13 rfl (by kernel_rfl)
@[simp] theorem uc27s14 : Ex F cx (.code c27s14 :: k) s r ↔ Ex F cx (.code (.cond (.t 10) (.seq c27k13 .ret) .skip) :: k) s r := Iff.rfl
@[simp] theorem uc27k15 : Ex F cx (.code c27k15 :: k) ⟨mk 26 l, rows, low⟩ r ↔ bnd (evP rows (.len 0 (.c (lk l 0)))) fun v0 => bnd (evP rows (.len 0 (.c (lk l 1)))) fun v1 => bnd (evP rows (.bin .neq (.c v0) (.c v1))) fun v2 => Ex F cx k ⟨mk 26 [(10, v2), (9, v1), (8, lk l 1), (7, v0), (6, lk l 0), (0, lk l 0), (1, lk l 1)], rows, low⟩ r := rg [0, 1] c27r15 rfl (by kernel_rfl)
@[simp] theorem uc27s16 : Ex F cx (.code c27s16 :: k) s r ↔ Ex F cx (.code (.seq (.seq c27k15 c27s14) c27s12) :: k) s r := Iff.rfl
@[simp] theorem uc27k17 : Ex F cx (.code c27k17 :: k) ⟨mk 26 l, rows, low⟩ r ↔ Ex F cx k ⟨mk 26 [(4, (.bool false)), (0, lk l 0), (1, lk l 1)], rows, low⟩ r := rg [0, 1] c27r17 rfl (by kernel_rfl)
def Jc27s7 (F : Nat → Option IFn) (cx : Ctx) (x0 x1 x5 : AV) (rows : List Row) (low : Nat) (r : AV × List Row × Nat → Prop) : Prop := Ex F cx (.code c27s7 :: .inLoop c27l2 :: .inBlock 0 :: .code c27s1 :: []) ⟨mk 26 [(0, x0), (1, x1), (5, x5)], rows, low⟩ r
def Lc27l2 (F : Nat → Option IFn) (cx : Ctx) (x0 x1 x5 : AV) (rows : List Row) (low : Nat) (r : AV × List Row × Nat → Prop) : Prop := Ex F cx (.code c27l2 :: .inLoop c27l2 :: .inBlock 0 :: .code c27s1 :: []) ⟨mk 26 [(0, x0), (1, x1), (5, x5)], rows, low⟩ r
@[simp] theorem nc27l2 : Ex F cx (.inLoop c27l2 :: .inBlock 0 :: .code c27s1 :: []) ⟨mk 26 l, rows, low⟩ r ↔ Lc27l2 F cx (lk l 0) (lk l 1) (lk l 5) rows low r := loopN (keep := [0, 1, 5]) (by kernel_rfl)
@[simp] theorem ec27l2 : Ex F cx (.code (.loop c27l2) :: .inBlock 0 :: .code c27s1 :: []) ⟨mk 26 l, rows, low⟩ r ↔ Lc27l2 F cx (lk l 0) (lk l 1) (lk l 5) rows low r := loopE (keep := [0, 1, 5]) (by kernel_rfl)
@[simp] theorem uc27l2 : Ex F cx (.code c27l2 :: k) s r ↔ Ex F cx (.code (.seq (.seq c27k9 c27s8) c27s7) :: k) s r := Iff.rfl
def Jc27s12 (F : Nat → Option IFn) (cx : Ctx) (x0 x1 : AV) (rows : List Row) (low : Nat) (r : AV × List Row × Nat → Prop) : Prop := Ex F cx (.code c27s12 :: []) ⟨mk 26 [(0, x0), (1, x1)], rows, low⟩ r
@[simp] theorem uc27b : Ex F cx (.code c27b :: k) s r ↔ Ex F cx (.code (.seq c27k17 c27s16) :: k) s r := Iff.rfl
theorem i27 {x0 x1 : AV} (hF : F 27 = some c27) {q : AV × List Row × Option Nat} (h : Ex F (.fn [.t 4]) [.code c27b] ⟨mk 26 [(0, x0), (1, x1)], rows, rows.length⟩ fun r => fin rows r.1 r.2.1 r.2.2 = q) : Ret F 27 [x0, x1] rows = some q := Ret_mk hF h
@[simp] theorem uc37k0 : Ex F cx (.code c37k0 :: k) ⟨mk 76 l, rows, low⟩ r ↔ Ex F cx k ⟨mk 76 [(7, (.bool true)), (6, lk l 9), (75, lk l 9), (9, lk l 9)], rows, low⟩ r := rg [9] c37r0 rfl (by kernel_rfl)
@[simp] theorem uc37s1 : Ex F cx (.code c37s1 :: k) s r ↔ Ex F cx (.code (.seq c37k0 .ret) :: k) s r := Iff.rfl
@[simp] theorem uc37k3 : Ex F cx (.code c37k3 :: k) ⟨mk 76 l, rows, low⟩ r ↔ bnd (evP rows (.bin .add (.c (lk l 10)) (.c (.int .i64 1)))) fun v0 => Ex F cx k ⟨mk 76 [(10, v0), (29, v0), (28, lk l 10), (1, lk l 1), (2, lk l 2), (3, lk l 3), (8, lk l 8), (9, lk l 9), (10, lk l 10)], rows, low⟩ r := rg [1, 2, 3, 8, 9, 10] c37r3 rfl (by kernel_rfl)
@[simp] theorem uc37k4 : Ex F cx (.code c37k4 :: k) ⟨mk 76 l, rows, low⟩ r ↔ Ex F cx k ⟨mk 76 [(7, (.bool false)), (6, (.int .i64 0))], rows, low⟩ r := rg [] c37r4 rfl (by kernel_rfl)
@[simp] theorem uc37k5 : Ex F cx (.code c37k5 :: k) ⟨mk 76 l, rows, low⟩ r ↔ bnd (evP rows (.idxS 1 (.c (lk l 1)) (.c (lk l 14)))) fun v0 => bnd (evP rows (.load1 (.c v0))) fun v1 => bnd (evP rows (.bin .add (.c (lk l 9)) (.c v1))) fun v2 => Ex F cx k ⟨mk 76 [(9, v2), (74, v2), (73, v1), (72, v0), (71, lk l 14), (70, lk l 1), (69, lk l 9), (1, lk l 1), (2, lk l 2), (3, lk l 3), (8, lk l 8), (9, lk l 9), (10, lk l 10), (14, lk l 14)], rows, low⟩ r := rg [1, 2, 3, 8, 9, 10, 14] c37r5 rfl (by kernel_rfl)
@[simp] theorem uc37k6 : Ex F cx (.code c37k6 :: k) ⟨mk 76 l, rows, low⟩ r ↔ bnd (evP rows (.idxS 1 (.c (lk l 1)) (.c (lk l 14)))) fun v0 => bnd (evP rows (.load1 (.c v0))) fun v1 => bnd (evP rows (.bin .sub (.c (lk l 9)) (.c v1))) fun v2 => Ex F cx k ⟨mk 76 [(9, v2), (61, v2), (60, v1), (59, v0), (58, lk l 14), (57, lk l 1), (56, lk l 9), (1, lk l 1), (2, lk l 2), (3, lk l 3), (8, lk l 8), (9, lk l 9), (10, lk l 10), (14, lk l 14)], rows, low⟩ r := rg [1, 2, 3, 8, 9, 10, 14] c37r6 rfl (by kernel_rfl)
@[simp] theorem uc37s7 : Ex F cx (.code c37s7 :: k) s r ↔ Ex F cx (.code (.cond (.t 65) c37k5 c37k6) :: k) s r := Iff.rfl
@[simp] theorem uc37k8 : Ex F cx (.code c37k8 :: k) ⟨mk 76 l, rows, low⟩ r ↔ bnd (evP rows (.bin .lss (.c (lk l 11)) (.c (lk l 12)))) fun v0 => Ex F cx k ⟨mk 76 [(65, v0), (68, v0), (67, lk l 12), (66, lk l 11), (1, lk l 1), (2, lk l 2), (3, lk l 3), (8, lk l 8), (9, lk l 9), (10, lk l 10), (11, lk l 11), (12, lk l 12), (14, lk l 14)], rows, low⟩ r := rg [1, 2, 3, 8, 9, 10, 11, 12, 14] c37r8 rfl (by kernel_rfl)
@[simp] theorem uc37s9 : Ex F cx (.code c37s9 :: k) s r ↔ Ex F cx (.code (.cond (.t 62) (.seq c37k4 .ret) (.seq c37k8 c37s7)) :: k) s r := Iff.rfl
@[simp] theorem uc37k10 : Ex F cx (.code c37k10 :: k) ⟨mk 76 l, rows, low⟩ r ↔ bnd (evP rows (.bin .lss (.c (lk l 14)) (.c (.int .i64 0)))) fun v0 => Ex F cx k ⟨mk 76 [(62, v0), (64, v0), (63, lk l 14), (1, lk l 1), (2, lk l 2), (3, lk l 3), (8, lk l 8), (9, lk l 9), (10, lk l 10), (11, lk l 11), (12, lk l 12), (14, lk l 14)], rows, low⟩ r := rg [1, 2, 3, 8, 9, 10, 11, 12, 14] c37r10 rfl (by kernel_rfl)
@[simp] theorem uc37s11 : Ex F cx (.code c37s11 :: k) s r ↔ Ex F cx (.code (.block 4 (.seq c37k10 c37s9)) :: k) s r := Iff.rfl
@[simp] theorem uc37k12 : Ex F cx (.code c37k12 :: k) ⟨mk 76 l, rows, low⟩ r ↔ bnd (evP rows (.loadN 3 (.c (lk l 3)))) fun v0 => bnd (Ret F 60 [v0, lk l 11, lk l 12] rows) fun q1 => Ex F cx k ⟨mk 76 [(14, q1.1), (55, q1.1), (54, lk l 12), (53, lk l 11), (52, v0), (1, lk l 1), (2, lk l 2), (3, lk l 3), (8, lk l 8), (9, lk l 9), (10, lk l 10), (11, lk l 11), (12, lk l 12)], q1.2.1, (lowO low q1.2.2)⟩ r := rg [1, 2, 3, 8, 9, 10, 11, 12] c37r12 rfl (by kernel_rfl)
@[simp] theorem uc37s13 : Ex F cx (.code c37s13 :: k) s r ↔ Ex F cx (.code (.seq c37k12 c37s11) :: k) s r := Iff.rfl
@[simp] theorem uc37k15 : Ex F cx (.code c37k15 :: k) ⟨mk 76 l, rows, low⟩ r ↔ bnd (evP rows (.bin .add (.c (lk l 13)) (.c (.int .i64 1)))) fun v0 => Ex F cx k ⟨mk 76 [(13, v0), (45, v0), (44, lk l 13), (1, lk l 1), (2, lk l 2), (3, lk l 3), (8, lk l 8), (9, lk l 9), (10, lk l 10), (11, lk l 11), (12, lk l 12), (13, lk l 13)], rows, low⟩ r := rg [1, 2, 3, 8, 9, 10, 11, 12, 13] c37r15 rfl (by kernel_rfl)
@[simp] theorem uc37k16 : Ex F cx (.code c37k16 :: k) ⟨mk 76 l, rows, low⟩ r ↔ Ex F cx k ⟨mk 76 [(7, (.bool false)), (6, (.int .i64 0))], rows, low⟩ r := rg [] c37r16 rfl (by kernel_rfl)
@[simp] theorem uc37s17 : Ex F cx (.code c37s17 :: k) s r ↔ Ex F cx (.code (.cond (.t 51) (.seq c37k16 .ret) .skip) :: k) s r := Iff.rfl
@[simp] theorem uc37k18 : Ex F cx (.code c37k18 :: k) ⟨mk 76 l, rows, low⟩ r ↔ bnd (evP rows (.idxS 1 (.c (lk l 2)) (.c (lk l 13)))) fun v0 => bnd (evP rows (.load1 (.c v0))) fun v1 => bnd (evP rows (.bin .eql (.c v1) (.c (lk l 11)))) fun v2 => Ex F cx k ⟨mk 76 [(51, v2), (50, lk l 11), (49, v1), (48, v0), (47, lk l 13), (46, lk l 2), (1, lk l 1), (2, lk l 2), (3, lk l 3), (8, lk l 8), (9, lk l 9), (10, lk l 10), (11, lk l 11), (12, lk l 12), (13, lk l 13)], rows, low⟩ r := rg [1, 2, 3, 8, 9, 10, 11, 12, 13] c37r18 rfl (by kernel_rfl)
@[simp] theorem uc37s19 : Ex F cx (.code c37s19 :: k) s r ↔ Ex F cx (.code (.seq (.block 3 (.seq c37k18 c37s17)) c37k15) :: k) s r := Iff.rfl
@[simp] theorem uc37s20 : Ex F cx (.code c37s20 :: k) s r ↔ Ex F cx (.code (.cond (.t 43) .skip (.exit 2)) :: k) s r := Iff.rfl
@[simp] theorem uc37k21 : Ex F cx (.code c37k21 :: k) ⟨mk 76 l, rows, low⟩ r ↔ bnd (evP rows (.bin .lss (.c (lk l 13)) (.c (lk l 10)))) fun v0 => Ex F cx k ⟨mk 76 [(43, v0), (42, lk l 10), (41, lk l 13), (1, lk l 1), (2, lk l 2), (3, lk l 3), (8, lk l 8), (9, lk l 9), (10, lk l 10), (11, lk l 11), (12, lk l 12), (13, lk l 13)], rows, low⟩ r := rg [1, 2, 3, 8, 9, 10, 11, 12, 13] c37r21 rfl (by kernel_rfl)
@[simp] theorem uc37s22 : Ex F cx (.code c37s22 :: k) s r ↔ Ex F cx (.code (.block 2 (.loop c37l14)) :: k) s r := Iff.rfl
@[simp] theorem uc37k23 : Ex F cx (.code c37k23 :: k) ⟨mk 76 l, rows, low⟩ r ↔ Ex F cx k ⟨mk 76 [(13, (.int .i64 0)), (1, lk l 1), (2, lk l 2), (3, lk l 3), (8, lk l 8), (9, lk l 9), (10, lk l 10), (11, lk l 11), (12, lk l 12)], rows, low⟩ r := rg [1, 2, 3, 8, 9, 10, 11, 12] c37r23 rfl (by kernel_rfl)
@[simp] theorem uc37s24 : Ex F cx (.code c37s24 :: k) s r ↔ Ex F cx (.code (.seq (.seq c37k23 c37s22) c37s13) :: k) s r := Iff.rfl
@[simp] theorem uc37k25 : Ex F cx (.code c37k25 :: k) ⟨mk 76 l, rows, low⟩ r ↔ bnd (evP rows (.idxS 1 (.c (lk l 2)) (.c (lk l 10)))) fun v0 => bnd (evP rows (.load1 (.c v0))) fun v1 => bnd (evP rows (.bin .add (.c (lk l 10)) (.c (.int .i64 1)))) fun v2 => bnd (evP rows (.bin .rem (.c v2) (.c (lk l 8)))) fun v3 => bnd (evP rows (.idxS 1 (.c (lk l 2)) (.c v3))) fun v4 => bnd (evP rows (.load1 (.c v4))) fun v5 => Ex F cx k ⟨mk 76 [(12, v5), (11, v1), (40, v5), (39, v4), (38, v3), (37, lk l 8), (36, v2), (35, lk l 10), (34, lk l 2), (33, v1), (32, v0), (31, lk l 10), (30, lk l 2), (1, lk l 1), (2, lk l 2), (3, lk l 3), (8, lk l 8), (9, lk l 9), (10, lk l 10)], rows, low⟩ r := rg [1, 2, 3, 8, 9, 10] c37r25 rfl (by kernel_rfl)
@[simp] theorem uc37s26 : Ex F cx (.code c37s26 :: k) s r ↔ Ex F cx (.code (.seq (.block 1 (.seq c37k25 c37s24)) c37k3) :: k) s r := Iff.rfl
@[simp] theorem uc37s27 : Ex F cx (.code c37s27 :: k) s r ↔ Ex F cx (.code (.cond (.t 27) .skip (.exit 0)) :: k) s r := Iff.rfl
@[simp] theorem uc37k28 : Ex F cx (.code c37k28 :: k) ⟨mk 76 l, rows, low⟩ r ↔ bnd (evP rows (.bin .lss (.c (lk l 10)) (.c (lk l 8)))) fun v0 => Ex F cx k ⟨mk 76 [(27, v0), (26, lk l 8), (25, lk l 10), (1, lk l 1), (2, lk l 2), (3, lk l 3), (8, lk l 8), (9, lk l 9), (10, lk l 10)], rows, low⟩ r := rg [1, 2, 3, 8, 9, 10] c37r28 rfl (by kernel_rfl)
@[simp] theorem uc37s29 : Ex F cx (.code c37s29 :: k) s r ↔ Ex F cx (.code (.block 0 (.loop c37l2)) :: k) s r := Iff.rfl
@[simp] theorem uc37k30 : Ex F cx (.code c37k30 :: k) ⟨mk 76 l, rows, low⟩ r ↔ Ex F cx k ⟨mk 76 [(10, (.int .i64 0)), (1, lk l 1), (2, lk l 2), (3, lk l 3), (8, lk l 8), (9, lk l 9)], rows, low⟩ r := rg [1, 2, 3, 8, 9] c37r30 rfl (by kernel_rfl)
@[simp] theorem uc37s31 : Ex F cx (.code c37s31 :: k) s r ↔ Ex F cx (.code (.seq (.seq c37k30 c37s29) c37s1) :: k) s r := Iff.rfl
@[simp] theorem uc37k32 : Ex F cx (.code c37k32 :: k) ⟨mk 76 l, rows, low⟩ r ↔ Ex F cx k ⟨mk 76 [(9, (.int .i64 0)), (1, lk l 1), (2, lk l 2), (3, lk l 3), (8, lk l 8)], rows, low⟩ r := rg [1, 2, 3, 8] c37r32 rfl (by kernel_rfl)
@[simp] theorem uc37s33 : Ex F cx (.code c37s33 :: k) s r ↔ Ex F cx (.code (.seq c37k32 c37s31) :: k) s r := Iff.rfl
@[simp] theorem uc37k34 : Ex F cx (.code c37k34 :: k) ⟨mk 76 l, rows, low⟩ r ↔ Ex F cx k ⟨mk 76 [(7, (.bool false)), (6, (.int .i64 0))], rows, low⟩ r := rg [] c37r34 rfl (by kernel_rfl)
@[simp] theorem uc37s35 : Ex F cx (.code c37s35 :: k) s r ↔ Ex F cx (.code (.cond (.t 24) (.seq c37k34 .ret) .skip) :: k) s r := Iff.rfl
@[simp] theorem uc37k36 : Ex F cx (.code c37k36 :: k) ⟨mk 76 l, rows, low⟩ r ↔ bnd (evP rows (.bin .lss (.c (lk l 8)) (.c (.int .i64 3)))) fun v0 => bnd (gv v0 false (evP rows (.mv (.c (lk l 8))))) fun v1 => bnd (gv v0 false (evP rows (.fieldA 0 (.c (lk l 3))))) fun v2 => bnd (gv v0 false (evP rows (.load1 (.c v2)))) fun v3 => bnd (gv v0 false (evP rows (.bin .gtr (.c v1) (.c v3)))) fun v4 => bnd (evP rows (.pick (.c v0) (.c (.bool true)) (.c v4))) fun v5 => Ex F cx k ⟨mk 76 [(24, v5), (23, v4), (22, v3), (21, v2), (20, v1), (19, v0), (18, v0), (17, lk l 8), (1, lk l 1), (2, lk l 2), (3, lk l 3), (8, lk l 8)], rows, low⟩ r := rg [1, 2, 3, 8] c37r36 rfl (by kernel_rfl)
@[simp] theorem uc37s37 : Ex F cx (.code c37s37 :: k) s r ↔ Ex F cx (.code (.seq (.seq c37k36 c37s35) c37s33) :: k) s r := Iff.rfl
@[simp] theorem uc37k38 : Ex F cx (.code c37k38 :: k) ⟨mk 76 l, rows, low⟩ r ↔ bnd (evP rows (.len 0 (.c (lk l 2)))) fun v0 => Ex F cx k ⟨mk 76 [(8, v0), (16, v0), (15, lk l 2), (1, lk l 1), (2, lk l 2), (3, lk l 3)], rows, low⟩ r := rg [1, 2, 3] c37r38 rfl (by kernel_rfl)
@[simp] theorem uc37s39 : Ex F cx (.code c37s39 :: k) s r ↔ Ex F cx (.code (.seq c37k38 c37s37) :: k) s r := Iff.rfl
@[simp] theorem uc37k40 : Ex F cx (.code c37k40 :: k) ⟨mk 76 l, rows, low⟩ r ↔ bnd (evE rows low (.box (.c (lk l 0)))) fun q0 => Ex F cx k ⟨mk 76 [(7, (.bool false)), (6, (.int .i64 0)), (3, q0.1), (0, lk l 0), (1, lk l 1), (2, lk l 2)], q0.2.1, q0.2.2⟩ r := rg [0, 1, 2] c37r40 rfl (by kernel_rfl)
def Jc37s19 (F : Nat → Option IFn) (cx : Ctx) (x1 x2 x3 x8 x9 x10 x11 x12 x13 : AV) (rows : List Row) (low : Nat) (r : AV × List Row × Nat → Prop) : Prop := Ex F cx (.code c37s19 :: .inLoop c37l14 :: .inBlock 2 :: .code c37s13 :: .inBlock 1 :: .code c37k3 :: .inLoop c37l2 :: .inBlock 0 :: .code c37s1 :: []) ⟨mk 76 [(1, x1), (2, x2), (3, x3), (8, x8), (9, x9), (10, x10), (11, x11), (12, x12), (13, x13)], rows, low⟩ r
def Lc37l14 (F : Nat → Option IFn) (cx : Ctx) (x1 x2 x3 x8 x9 x10 x11 x12 x13 : AV) (rows : List Row) (low : Nat) (r : AV × List Row × Nat → Prop) : Prop := Ex F cx (.code c37l14 :: .inLoop c37l14 :: .inBlock 2 :: .code c37s13 :: .inBlock 1 :: .code c37k3 :: .inLoop c37l2 :: .inBlock 0 :: .code c37s1 :: []) ⟨mk 76 [(1, x1), (2, x2), (3, x3), (8, x8), (9, x9), (10, x10), (11, x11), (12, x12), (13, x13)], rows, low⟩ r
@[simp] theorem nc37l14 : Ex F cx (.inLoop c37l14 :: .inBlock 2 :: .code c37s13 :: .inBlock 1 :: .code c37k3 :: .inLoop c37l2 :: .inBlock 0 :: .code c37s1 :: []) ⟨mk 76 l, rows, low⟩ r ↔ Lc37l14 F cx (lk l 1) (lk l 2) (lk l 3) (lk l 8) (lk l 9) (lk l 10) (lk l 11) (lk l 12) (lk l 13) rows low r := loopN (keep := [1, 2, 3, 8, 9, 10, 11, 12, 13]) (by kernel_rfl)
@[simp] theorem ec37l14 : Ex F cx (.code (.loop c37l14) :: .inBlock 2 :: .code c37s13 :: .inBlock 1 :: .code c37k3 :: .inLoop c37l2 :: .inBlock 0 :: .code c37s1 :: []) ⟨mk 76 l, rows, low⟩ r ↔ Lc37l14 F cx (lk l 1) (lk l 2) (lk l 3) (lk l 8) (lk l 9) (lk l 10) (lk l 11) (lk l 12) (lk l 13) rows low r := loopE (keep := [1, 2, 3, 8, 9, 10, 11, 12, 13]) (by kernel_rfl)
@[simp] theorem uc37l14 : Ex F cx (.code c37l14 :: k) s r ↔ Ex F cx (.code (.seq (.seq c37k21 c37s20) c37s19) :: k) s r := Iff.rfl
def Jc37s26 (F : Nat → Option IFn) (cx : Ctx) (x1 x2 x3 x8 x9 x10 : AV) (rows : List Row) (low : Nat) (r : AV × List Row × Nat → Prop) : Prop := Ex F cx (.code c37s26 :: .inLoop c37l2 :: .inBlock 0 :: .code c37s1 :: []) ⟨mk 76 [(1, x1), (2, x2), (3, x3), (8, x8), (9, x9), (10, x10)], rows, low⟩ r
def Lc37l2 (F : Nat → Option IFn) (cx : Ctx) (x1 x2 x3 x8 x9 x10 : AV) (rows : List Row) (low : Nat) (r : AV × List Row × Nat → Prop) : Prop := Ex F cx (.code c37l2 :: .inLoop c37l2 :: .inBlock 0 :: .code c37s1 :: []) ⟨mk 76 [(1, x1), (2, x2), (3, x3), (8, x8), (9, x9), (10, x10)], rows, low⟩ r
@[simp] theorem nc37l2 : Ex F cx (.inLoop c37l2 :: .inBlock 0 :: .code c37s1 :: []) ⟨mk 76 l, rows, low⟩ r ↔ Lc37l2 F cx (lk l 1) (lk l 2) (lk l 3) (lk l 8) (lk l 9) (lk l 10) rows low r := loopN (keep := [1, 2, 3, 8, 9, 10]) (by kernel_rfl)
@[simp] theorem ec37l2 : Ex F cx (.code (.loop c37l2) :: .inBlock 0 :: .code c37s1 :: []) ⟨mk 76 l, rows, low⟩ r ↔ Lc37l2 F cx (lk l 1) (lk l 2) (lk l 3) (lk l 8) (lk l 9) (lk l 10) rows low r := loopE (keep := [1, 2, 3, 8, 9, 10]) (by kernel_rfl)
@[simp] theorem uc37l2 : Ex F cx (.code c37l2 :: k) s r ↔ Ex F cx (.code (.seq (.seq c37k28 c37s27) c37s26) :: k) s r := Iff.rfl
def Jc37s33 (F : Nat → Option IFn) (cx : Ctx) (x1 x2 x3 x8 : AV) (rows : List Row) (low : Nat) (r : AV × List Row × Nat → Prop) : Prop := Ex F cx (.code c37s33 :: []) ⟨mk 76 [(1, x1), (2, x2), (3, x3), (8, x8)], rows, low⟩ r
@[simp] theorem uc37b : Ex F cx (.code c37b :: k) s r ↔ Ex F cx (.code (.seq c37k40 c37s39) :: k) s r := Iff.rfl
theorem i37 {x0 x1 x2 : AV} (hF : F 37 = some c37) {q : AV × List Row × Option Nat} (h : Ex F (.fn [.t 6, .t 7]) [.code c37b] ⟨mk 76 [(0, x0), (1, x1), (2, x2)], rows, rows.length⟩ fun r => fin rows r.1 r.2.1 r.2.2 = q) : Ret F 37 [x0, x1, x2] rows = some q := Ret_mk hF h
@[simp] theorem uc59k0 : Ex F cx (.code c59k0 :: k) ⟨mk 133 l, rows, low⟩ r ↔ Ex F cx k ⟨mk 133 [(2, (.int .i64 0))], rows, low⟩ r := rg [] c59r0 rfl (by kernel_rfl)
@[simp] theorem uc59s1 : Ex F cx (.code c59s1 :: k) s r ↔ Ex F cx (.code (.seq c59k0 .ret) :: k) s r := Iff.rfl
@[simp] theorem uc59k3 : Ex F cx (.code c59k3 :: k) ⟨mk 133 l, rows, low⟩ r ↔ bnd (evP rows (.bin .add (.c (lk l 73)) (.c (.int .i64 1)))) fun v0 => Ex F cx k ⟨mk 133 [(73, v0), (132, v0), (1, lk l 1), (71, lk l 71), (72, lk l 72), (73, lk l 73)], rows, low⟩ r := rg [1, 71, 72, 73] c59r3 rfl (by kernel_rfl)
@[simp] theorem uc59k5 : Ex F cx (.code c59k5 :: k) ⟨mk 133 l, rows, low⟩ r ↔ bnd (evP rows (.bin .add (.c (lk l 122)) (.c (.int .i64 1)))) fun v0 => Ex F cx k ⟨mk 133 [(122, v0), (131, v0), (1, lk l 1), (71, lk l 71), (72, lk l 72), (73, lk l 73), (120, lk l 120), (121, lk l 121), (122, lk l 122)], rows, low⟩ r := rg [1, 71, 72, 73, 120, 121, 122] c59r5 rfl (by kernel_rfl)
@[simp] theorem uc59k6 : Ex F cx (.code c59k6 :: k) ⟨mk 133 l, rows, low⟩ r ↔ Ex F cx k ⟨mk 133 [(2, (.int .i64 30))], rows, low⟩ r := rg [] c59r6 rfl (by kernel_rfl)
@[simp] theorem uc59s7 : Ex F cx (.code c59s7 :: k) s r ↔ Ex F cx (.code (.cond (.t 130) (.seq c59k6 .ret) .skip) :: k) s r := Iff.rfl
@[simp] theorem uc59k8 : Ex F cx (.code c59k8 :: k) ⟨mk 133 l, rows, low⟩ r ↔ bnd (evP rows (.fieldA 1 (.c (lk l 1)))) fun v0 => bnd (evP rows (.load1 (.c v0))) fun v1 => bnd (evP rows (.loadN 2 (.c (lk l 8)))) fun v2 => bnd (Ret F 92 [v1, v2] rows) fun q3 => bnd (evP q3.2.1 (.un .not (.c q3.1))) fun v4 => Ex F cx k ⟨mk 133 [(130, v4), (129, q3.1), (128, v2), (127, v1), (126, v0), (1, lk l 1), (8, lk l 8), (71, lk l 71), (72, lk l 72), (73, lk l 73), (120, lk l 120), (121, lk l 121), (122, lk l 122)], q3.2.1, (lowO low q3.2.2)⟩ r := rg [1, 8, 71, 72, 73, 120, 121, 122] c59r8 rfl (by kernel_rfl)
@[simp] theorem uc59s9 : Ex F cx (.code c59s9 :: k) s r ↔ Ex F cx (.code (.seq c59k8 c59s7) :: k) s r := Iff.rfl
@[simp] theorem uc59k10 : Ex F cx (.code c59k10 :: k) ⟨mk 133 l, rows, low⟩ r ↔ bnd (evP rows (.idxS 2 (.c (lk l 120)) (.c (lk l 122)))) fun v0 => bnd (evP rows (.loadN 2 (.c v0))) fun v1 => bnd (evE rows low (.box (.c (.agg [.int .i64 0, .int .i64 0])))) fun q2 => bnd (evE q2.2.1 q2.2.2 (.storeN 2 (.c q2.1) (.c v1))) fun q3 => Ex F cx k ⟨mk 133 [(8, q2.1), (125, v1), (124, v0), (1, lk l 1), (71, lk l 71), (72, lk l 72), (73, lk l 73), (120, lk l 120), (121, lk l 121), (122, lk l 122)], q3.2.1, q3.2.2⟩ r := rg [1, 71, 72, 73, 120, 121, 122] c59r10 rfl (by kernel_rfl)
@[simp] theorem uc59s11 : Ex F cx (.code c59s11 :: k) s r ↔ Ex F cx (.code (.seq (.block 5 (.seq c59k10 c59s9)) c59k5) :: k) s r := Iff.rfl
@[simp] theorem uc59s12 : Ex F cx (.code c59s12 :: k) s r ↔ Ex F cx (.code (.seq (.cond (.t 123) .skip (.exit 4)) c59s11) :: k) s r := Iff.rfl
@[simp] theorem uc59k13 : Ex F cx (.code c59k13 :: k) ⟨mk 133 l, rows, low⟩ r ↔ bnd (evP rows (.bin .lss (.c (lk l 122)) (.c (lk l 121)))) fun v0 => Ex F cx k ⟨mk 133 [(123, v0), (1, lk l 1), (71, lk l 71), (72, lk l 72), (73, lk l 73), (120, lk l 120), (121, lk l 121), (122, lk l 122)], rows, low⟩ r := rg [1, 71, 72, 73, 120, 121, 122] c59r13 rfl (by kernel_rfl)
@[simp] theorem uc59s14 : Ex F cx (.code c59s14 :: k) s r ↔ Ex F cx (.code (.block 4 (.loop c59l4)) :: k) s r := Iff.rfl
@[simp] theorem uc59k15 : Ex F cx (.code c59k15 :: k) ⟨mk 133 l, rows, low⟩ r ↔ bnd (evP rows (.idxA 3 1 (.c (lk l 6)) (.c (.int .i64 0)))) fun v0 => bnd (evP rows (.load1 (.c v0))) fun v1 => bnd (evP rows (.idxA 3 1 (.c (lk l 6)) (.c (.int .i64 1)))) fun v2 => bnd (evP rows (.load1 (.c v2))) fun v3 => bnd (evP rows (.mkagg [.int .i64 0, .int .i64 0] [(0, 1, (.c v1)), (1, 1, (.c v3))])) fun v4 => bnd (evP rows (.idxA 3 1 (.c (lk l 6)) (.c (.int .i64 0)))) fun v5 => bnd (evP rows (.load1 (.c v5))) fun v6 => bnd (evP rows (.idxA 3 1 (.c (lk l 6)) (.c (.int .i64 2)))) fun v7 => bnd (evP rows (.load1 (.c v7))) fun v8 => bnd (evP rows (.mkagg [.int .i64 0, .int .i64 0] [(0, 1, (.c v6)), (1, 1, (.c v8))])) fun v9 => bnd (evP rows (.idxA 3 1 (.c (lk l 6)) (.c (.int .i64 1)))) fun v10 => bnd (evP rows (.load1 (.c v10))) fun v11 => bnd (evP rows (.idxA 3 1 (.c (lk l 6)) (.c (.int .i64 2)))) fun v12 => bnd (evP rows (.load1 (.c v12))) fun v13 => bnd (evP rows (.mkagg [.int .i64 0, .int .i64 0] [(0, 1, (.c v11)), (1, 1, (.c v13))])) fun v14 => bnd (evE rows low (.mkslice 3 [.int .i64 0, .int .i64 0, .int .i64 0, .int .i64 0, .int .i64 0, .int .i64 0] [(0, 2, (.c v4)), (2, 2, (.c v9)), (4, 2, (.c v14))])) fun q15 => bnd (evP q15.2.1 (.len 0 (.c q15.1))) fun v16 => Ex F cx k ⟨mk 133 [(122, (.int .i64 0)), (121, v16), (120, q15.1), (119, v14), (118, v13), (117, v12), (116, v11), (115, v10), (114, v9), (113, v8), (112, v7), (111, v6), (110, v5), (109, v4), (108, v3), (107, v2), (106, v1), (105, v0), (1, lk l 1), (6, lk l 6), (71, lk l 71), (72, lk l 72), (73, lk l 73)], q15.2.1, q15.2.2⟩ r := rg [1, 6, 71, 72, 73] c59r15 rfl (by kernel_rfl)
@[simp] theorem uc59s16 : Ex F cx (.code c59s16 :: k) s r ↔ Ex F cx (.code (.seq c59k15 c59s14) :: k) s r := Iff.rfl
@[simp] theorem uc59k17 : Ex F cx (.code c59k17 :: k) ⟨mk 133 l, rows, low⟩ r ↔ Ex F cx k ⟨mk 133 [(2, (.int .i64 30))], rows, low⟩ r := rg [] c59r17 rfl (by kernel_rfl)
@[simp] theorem uc59s18 : Ex F cx (.code c59s18 :: k) s r ↔ Ex F cx (.code (.cond (.t 104) (.seq c59k17 .ret) .skip) :: k) s r := Iff.rfl
@[simp] theorem uc59k19 : Ex F cx (.code c59k19 :: k) ⟨mk 133 l, rows, low⟩ r ↔ bnd (evP rows (.idxA 3 1 (.c (lk l 6)) (.c (.int .i64 0)))) fun v0 => bnd (evP rows (.load1 (.c v0))) fun v1 => bnd (evP rows (.idxA 3 1 (.c (lk l 6)) (.c (.int .i64 1)))) fun v2 => bnd (evP rows (.load1 (.c v2))) fun v3 => bnd (evP rows (.bin .geq (.c v1) (.c v3))) fun v4 => bnd (gv v4 false (evP rows (.idxA 3 1 (.c (lk l 6)) (.c (.int .i64 1))))) fun v5 => bnd (gv v4 false (evP rows (.load1 (.c v5)))) fun v6 => bnd (gv v4 false (evP rows (.idxA 3 1 (.c (lk l 6)) (.c (.int .i64 2))))) fun v7 => bnd (gv v4 false (evP rows (.load1 (.c v7)))) fun v8 => bnd (gv v4 false (evP rows (.bin .geq (.c v6) (.c v8)))) fun v9 => bnd (evP rows (.pick (.c v4) (.c (.bool true)) (.c v9))) fun v10 => bnd (gv v10 false (evP rows (.mv (.c (lk l 5))))) fun v11 => bnd (gv v10 false (evP rows (.bin .gtr (.c v11) (.c (.int .i64 0))))) fun v12 => bnd (gv v10 false (evP rows (.mv (.c v12)))) fun v13 => bnd (gv v13 true (evP rows (.fieldA 2 (.c (lk l 1))))) fun v14 => bnd (gv v13 true (evP rows (.load1 (.c v14)))) fun v15 => bnd (gv v13 true (evP rows (.mv (.c (lk l 5))))) fun v16 => bnd (gv v13 true (evP rows (.bin .sub (.c v16) (.c (.int .i64 1))))) fun v17 => bnd (gv v13 true (evP rows (.idxS 3 (.c v15) (.c v17)))) fun v18 => bnd (gv v13 true (evP rows (.sliceA 3 1 (.c v18) none none none))) fun v19 => bnd (gv v13 true (evP rows (.sliceA 3 1 (.c (lk l 6)) none none none))) fun v20 => gcall F v13 true rows low [v19, v20] [] (.func 91 []) fun v21 R21 L21 => bnd (gv v13 true (evP R21 (.bin .geq (.c v21) (.c (.int .i64 0))))) fun v22 => bnd (gv v10 false (evP R21 (.pick (.c v13) (.c v22) (.c (.bool false))))) fun v23 => bnd (evP R21 (.pick (.c v10) (.c (.bool true)) (.c v23))) fun v24 => Ex F cx k ⟨mk 133 [(104, v24), (103, v23), (102, v22), (101, v21), (100, v20), (99, v19), (98, v18), (97, v17), (96, v16), (95, v15), (94, v14), (93, v13), (92, v12), (91, v11), (90, v10), (89, v10), (88, v9), (87, v8), (86, v7), (85, v6), (84, v5), (83, v4), (82, v4), (81, v3), (80, v2), (79, v1), (78, v0), (1, lk l 1), (5, lk l 5), (6, lk l 6), (71, lk l 71), (72, lk l 72), (73, lk l 73)], R21, L21⟩ r := rg [1, 5, 6, 71, 72, 73] c59r19 rfl (by kernel_rfl)
@[simp] theorem uc59s20 : Ex F cx (.code c59s20 :: k) s r ↔ Ex F cx (.code (.seq (.seq c59k19 c59s18) c59s16) :: k) s r := Iff.rfl
@[simp] theorem uc59k21 : Ex F cx (.code c59k21 :: k) ⟨mk 133 l, rows, low⟩ r ↔ bnd (evP rows (.idxS 3 (.c (lk l 71)) (.c (lk l 73)))) fun v0 => bnd (evP rows (.loadN 3 (.c v0))) fun v1 => bnd (evE rows low (.box (.c (.agg [.int .i64 0, .int .i64 0, .int .i64 0])))) fun q2 => bnd (evE q2.2.1 q2.2.2 (.storeN 3 (.c q2.1) (.c v1))) fun q3 => Ex F cx k ⟨mk 133 [(5, lk l 73), (6, q2.1), (77, v1), (76, v0), (75, lk l 73), (1, lk l 1), (71, lk l 71), (72, lk l 72), (73, lk l 73)], q3.2.1, q3.2.2⟩ r := rg [1, 71, 72, 73] c59r21 rfl (by kernel_rfl)
@[simp] theorem uc59s22 : Ex F cx (.code c59s22 :: k) s r ↔ Ex F cx (.code (.seq (.block 3 (.seq c59k21 c59s20)) c59k3) :: k) s r := Iff.rfl
@[simp] theorem uc59s23 : Ex F cx (.code c59s23 :: k) s r ↔ Ex F cx (.code (.seq (.cond (.t 74) .skip (.exit 2)) c59s22) :: k) s r := Iff.rfl
@[simp] theorem uc59k24 : Ex F cx (.code c59k24 :: k) ⟨mk 133 l, rows, low⟩ r ↔ bnd (evP rows (.bin .lss (.c (lk l 73)) (.c (lk l 72)))) fun v0 => Ex F cx k ⟨mk 133 [(74, v0), (1, lk l 1), (71, lk l 71), (72, lk l 72), (73, lk l 73)], rows, low⟩ r := rg [1, 71, 72, 73] c59r24 rfl (by kernel_rfl)
@[simp] theorem uc59s25 : Ex F cx (.code c59s25 :: k) s r ↔ Ex F cx (.code (.block 2 (.loop c59l2)) :: k) s r := Iff.rfl
@[simp] theorem uc59k26 : Ex F cx (.code c59k26 :: k) ⟨mk 133 l, rows, low⟩ r ↔ bnd (evP rows (.fieldA 2 (.c (lk l 1)))) fun v0 => bnd (evP rows (.load1 (.c v0))) fun v1 => bnd (evP rows (.len 0 (.c v1))) fun v2 => Ex F cx k ⟨mk 133 [(73, (.int .i64 0)), (72, v2), (71, v1), (70, v0), (1, lk l 1)], rows, low⟩ r := rg [1] c59r26 rfl (by kernel_rfl)
@[simp] theorem uc59s27 : Ex F cx (.code c59s27 :: k) s r ↔ Ex F cx (.code (.seq (.seq c59k26 c59s25) c59s1) :: k) s r := Iff.rfl
@[simp] theorem uc59k29 : Ex F cx (.code c59k29 :: k) ⟨mk 133 l, rows, low⟩ r ↔ bnd (evP rows (.bin .add (.c (lk l 32)) (.c (.int .i64 1)))) fun v0 => Ex F cx k ⟨mk 133 [(32, v0), (69, v0), (1, lk l 1), (30, lk l 30), (31, lk l 31), (32, lk l 32)], rows, low⟩ r := rg [1, 30, 31, 32] c59r29 rfl (by kernel_rfl)
@[simp] theorem uc59k30 : Ex F cx (.code c59k30 :: k) ⟨mk 133 l, rows, low⟩ r ↔ Ex F cx k ⟨mk 133 [(2, (.int .i64 30))], rows, low⟩ r := rg [] c59r30 rfl (by kernel_rfl)
@[simp] theorem uc59s31 : Ex F cx (.code c59s31 :: k) s r ↔ Ex F cx (.code (.cond (.t 68) (.seq c59k30 .ret) .skip) :: k) s r := Iff.rfl
@[simp] theorem uc59k32 : Ex F cx (.code c59k32 :: k) ⟨mk 133 l, rows, low⟩ r ↔ bnd (evP rows (.idxA 2 1 (.c (lk l 4)) (.c (.int .i64 0)))) fun v0 => bnd (evP rows (.load1 (.c v0))) fun v1 => bnd (evP rows (.bin .lss (.c v1) (.c (.int .i64 0)))) fun v2 => bnd (gv v2 false (evP rows (.idxA 2 1 (.c (lk l 4)) (.c (.int .i64 0))))) fun v3 => bnd (gv v2 false (evP rows (.load1 (.c v3)))) fun v4 => bnd (gv v2 false (evP rows (.idxA 2 1 (.c (lk l 4)) (.c (.int .i64 1))))) fun v5 => bnd (gv v2 false (evP rows (.load1 (.c v5)))) fun v6 => bnd (gv v2 false (evP rows (.bin .geq (.c v4) (.c v6)))) fun v7 => bnd (evP rows (.pick (.c v2) (.c (.bool true)) (.c v7))) fun v8 => bnd (gv v8 false (evP rows (.idxA 2 1 (.c (lk l 4)) (.c (.int .i64 1))))) fun v9 => bnd (gv v8 false (evP rows (.load1 (.c v9)))) fun v10 => bnd (gv v8 false (evP rows (.fieldA 0 (.c (lk l 1))))) fun v11 => bnd (gv v8 false (evP rows (.load1 (.c v11)))) fun v12 => bnd (gv v8 false (evP rows (.bin .geq (.c v10) (.c v12)))) fun v13 => bnd (evP rows (.pick (.c v8) (.c (.bool true)) (.c v13))) fun v14 => bnd (gv v14 false (evP rows (.mv (.c (lk l 3))))) fun v15 => bnd (gv v14 false (evP rows (.bin .gtr (.c v15) (.c (.int .i64 0))))) fun v16 => bnd (gv v14 false (evP rows (.mv (.c v16)))) fun v17 => bnd (gv v17 true (evP rows (.fieldA 1 (.c (lk l 1))))) fun v18 => bnd (gv v17 true (evP rows (.load1 (.c v18)))) fun v19 => bnd (gv v17 true (evP rows (.mv (.c (lk l 3))))) fun v20 => bnd (gv v17 true (evP rows (.bin .sub (.c v20) (.c (.int .i64 1))))) fun v21 => bnd (gv v17 true (evP rows (.idxS 2 (.c v19) (.c v21)))) fun v22 => bnd (gv v17 true (evP rows (.sliceA 2 1 (.c v22) none none none))) fun v23 => bnd (gv v17 true (evP rows (.sliceA 2 1 (.c (lk l 4)) none none none))) fun v24 => gcall F v17 true rows low [v23, v24] [] (.func 91 []) fun v25 R25 L25 => bnd (gv v17 true (evP R25 (.bin .geq (.c v25) (.c (.int .i64 0))))) fun v26 => bnd (gv v14 false (evP R25 (.pick (.c v17) (.c v26) (.c (.bool false))))) fun v27 => bnd (evP R25 (.pick (.c v14) (.c (.bool true)) (.c v27))) fun v28 => Ex F cx k ⟨mk 133 [(68, v28), (67, v27), (66, v26), (65, v25), (64, v24), (63, v23), (62, v22), (61, v21), (60, v20), (59, v19), (58, v18), (57, v17), (56, v16), (55, v15), (54, v14), (53, v14), (52, v13), (51, v12), (50, v11), (49, v10), (48, v9), (47, v8), (46, v8), (45, v7), (44, v6), (43, v5), (42, v4), (41, v3), (40, v2), (39, v2), (38, v1), (37, v0), (1, lk l 1), (3, lk l 3), (4, lk l 4), (30, lk l 30), (31, lk l 31), (32, lk l 32)], R25, L25⟩ r := rg [1, 3, 4, 30, 31, 32] c59r32 rfl (by kernel_rfl)
@[simp] theorem uc59s33 : Ex F cx (.code c59s33 :: k) s r ↔ Ex F cx (.code (.seq c59k32 c59s31) :: k) s r := Iff.rfl
@[simp] theorem uc59k34 : Ex F cx (.code c59k34 :: k) ⟨mk 133 l, rows, low⟩ r ↔ bnd (evP rows (.idxS 2 (.c (lk l 30)) (.c (lk l 32)))) fun v0 => bnd (evP rows (.loadN 2 (.c v0))) fun v1 => bnd (evE rows low (.box (.c (.agg [.int .i64 0, .int .i64 0])))) fun q2 => bnd (evE q2.2.1 q2.2.2 (.storeN 2 (.c q2.1) (.c v1))) fun q3 => Ex F cx k ⟨mk 133 [(3, lk l 32), (4, q2.1), (36, v1), (35, v0), (34, lk l 32), (1, lk l 1), (30, lk l 30), (31, lk l 31), (32, lk l 32)], q3.2.1, q3.2.2⟩ r := rg [1, 30, 31, 32] c59r34 rfl (by kernel_rfl)
@[simp] theorem uc59s35 : Ex F cx (.code c59s35 :: k) s r ↔ Ex F cx (.code (.seq (.block 1 (.seq c59k34 c59s33)) c59k29) :: k) s r := Iff.rfl
@[simp] theorem uc59s36 : Ex F cx (.code c59s36 :: k) s r ↔ Ex F cx (.code (.seq (.cond (.t 33) .skip (.exit 0)) c59s35) :: k) s r := Iff.rfl
@[simp] theorem uc59k37 : Ex F cx (.code c59k37 :: k) ⟨mk 133 l, rows, low⟩ r ↔ bnd (evP rows (.bin .lss (.c (lk l 32)) (.c (lk l 31)))) fun v0 => Ex F cx k ⟨mk 133 [(33, v0), (1, lk l 1), (30, lk l 30), (31, lk l 31), (32, lk l 32)], rows, low⟩ r := rg [1, 30, 31, 32] c59r37 rfl (by kernel_rfl)
@[simp] theorem uc59s38 : Ex F cx (.code c59s38 :: k) s r ↔ Ex F cx (.code (.block 0 (.loop c59l28)) :: k) s r := Iff.rfl
@[simp] theorem uc59k39 : Ex F cx (.code c59k39 :: k) ⟨mk 133 l, rows, low⟩ r ↔ bnd (evP rows (.fieldA 1 (.c (lk l 1)))) fun v0 => bnd (evP rows (.load1 (.c v0))) fun v1 => bnd (evP rows (.len 0 (.c v1))) fun v2 => Ex F cx k ⟨mk 133 [(32, (.int .i64 0)), (31, v2), (30, v1), (29, v0), (1, lk l 1)], rows, low⟩ r := rg [1] c59r39 rfl (by kernel_rfl)
@[simp] theorem uc59s40 : Ex F cx (.code c59s40 :: k) s r ↔ Ex F cx (.code (.seq (.seq c59k39 c59s38) c59s27) :: k) s r := Iff.rfl
@[simp] theorem uc59k41 : Ex F cx (.code c59k41 :: k) ⟨mk 133 l, rows, low⟩ r ↔ Ex F cx k ⟨mk 133 [(2, (.int .i64 30))], rows, low⟩ r := rg [] c59r41 rfl (by kernel_rfl)
@[simp] theorem uc59s42 : Ex F cx (.code c59s42 :: k) s r ↔ Ex F cx (.code (.cond (.t 28) (.seq c59k41 .ret) .skip) :: k) s r := Iff.rfl
@[simp] theorem uc59k43 : Ex F cx (.code c59k43 :: k) ⟨mk 133 l, rows, low⟩ r ↔ bnd (evP rows (.fieldA 0 (.c (lk l 1)))) fun v0 => bnd (evP rows (.load1 (.c v0))) fun v1 => bnd (evP rows (.bin .lss (.c v1) (.c (.int .i64 1)))) fun v2 => bnd (gv v2 false (evP rows (.fieldA 0 (.c (lk l 1))))) fun v3 => bnd (gv v2 false (evP rows (.load1 (.c v3)))) fun v4 => bnd (gv v2 false (evP rows (.bin .gtr (.c v4) (.c (.int .i64 6))))) fun v5 => bnd (evP rows (.pick (.c v2) (.c (.bool true)) (.c v5))) fun v6 => bnd (gv v6 false (evP rows (.fieldA 1 (.c (lk l 1))))) fun v7 => bnd (gv v6 false (evP rows (.load1 (.c v7)))) fun v8 => bnd (gv v6 false (evP rows (.len 0 (.c v8)))) fun v9 => bnd (gv v6 false (evP rows (.bin .gtr (.c v9) (.c (.int .i64 10))))) fun v10 => bnd (evP rows (.pick (.c v6) (.c (.bool true)) (.c v10))) fun v11 => bnd (gv v11 false (evP rows (.fieldA 2 (.c (lk l 1))))) fun v12 => bnd (gv v11 false (evP rows (.load1 (.c v12)))) fun v13 => bnd (gv v11 false (evP rows (.len 0 (.c v13)))) fun v14 => bnd (gv v11 false (evP rows (.bin .gtr (.c v14) (.c (.int .i64 6))))) fun v15 => bnd (evP rows (.pick (.c v11) (.c (.bool true)) (.c v15))) fun v16 => Ex F cx k ⟨mk 133 [(28, v16), (27, v15), (26, v14), (25, v13), (24, v12), (23, v11), (22, v11), (21, v10), (20, v9), (19, v8), (18, v7), (17, v6), (16, v6), (15, v5), (14, v4), (13, v3), (12, v2), (11, v2), (10, v1), (9, v0), (1, lk l 1)], rows, low⟩ r := rg [1] c59r43 rfl (by kernel_rfl)
@[simp] theorem uc59s44 : Ex F cx (.code c59s44 :: k) s r ↔ Ex F cx (.code (.seq (.seq c59k43 c59s42) c59s40) :: k) s r := Iff.rfl
@[simp] theorem uc59k45 : Ex F cx (.code c59k45 :: k) ⟨mk 133 l, rows, low⟩ r ↔ bnd (evE rows low (.box (.c (lk l 0)))) fun q0 => Ex F cx k ⟨mk 133 [(2, (.int .i64 0)), (1, q0.1), (0, lk l 0)], q0.2.1, q0.2.2⟩ r := rg [0] c59r45 rfl (by kernel_rfl)
def Jc59s11 (F : Nat → Option IFn) (cx : Ctx) (x1 x71 x72 x73 x120 x121 x122 : AV) (rows : List Row) (low : Nat) (r : AV × List Row × Nat → Prop) : Prop := Ex F cx (.code c59s11 :: .inLoop c59l4 :: .inBlock 4 :: .inBlock 3 :: .code c59k3 :: .inLoop c59l2 :: .inBlock 2 :: .code c59s1 :: []) ⟨mk 133 [(1, x1), (71, x71), (72, x72), (73, x73), (120, x120), (121, x121), (122, x122)], rows, low⟩ r
def Lc59l4 (F : Nat → Option IFn) (cx : Ctx) (x1 x71 x72 x73 x120 x121 x122 : AV) (rows : List Row) (low : Nat) (r : AV × List Row × Nat → Prop) : Prop := Ex F cx (.code c59l4 :: .inLoop c59l4 :: .inBlock 4 :: .inBlock 3 :: .code c59k3 :: .inLoop c59l2 :: .inBlock 2 :: .code c59s1 :: []) ⟨mk 133 [(1, x1), (71, x71), (72, x72), (73, x73), (120, x120), (121, x121), (122, x122)], rows, low⟩ r
@[simp] theorem nc59l4 : Ex F cx (.inLoop c59l4 :: .inBlock 4 :: .inBlock 3 :: .code c59k3 :: .inLoop c59l2 :: .inBlock 2 :: .code c59s1 :: []) ⟨mk 133 l, rows, low⟩ r ↔ Lc59l4 F cx (lk l 1) (lk l 71) (lk l 72) (lk l 73) (lk l 120) (lk l 121) (lk l 122) rows low r := loopN (keep := [1, 71, 72, 73, 120, 121, 122]) (by kernel_rfl)
@[simp] theorem ec59l4 : Ex F cx (.code (.loop c59l4) :: .inBlock 4 :: .inBlock 3 :: .code c59k3 :: .inLoop c59l2 :: .inBlock 2 :: .code c59s1 :: []) ⟨mk 133 l, rows, low⟩ r ↔ Lc59l4 F cx (lk l 1) (lk l 71) (lk l 72) (lk l 73) (lk l 120) (lk l 121) (lk l 122) rows low r := loopE (keep := [1, 71, 72, 73, 120, 121, 122]) (by kernel_rfl)
@[simp] theorem uc59l4 : Ex F cx (.code c59l4 :: k) s r ↔ Ex F cx (.code (.seq c59k13 c59s12) :: k) s r := Iff.rfl
def Jc59s16 (F : Nat → Option IFn) (cx : Ctx) (x1 x6 x71 x72 x73 : AV) (rows : List Row) (low : Nat) (r : AV × List Row × Nat → Prop) : Prop := Ex F cx (.code c59s16 :: .inBlock 3 :: .code c59k3 :: .inLoop c59l2 :: .inBlock 2 :: .code c59s1 :: []) ⟨mk 133 [(1, x1), (6, x6), (71, x71), (72, x72), (73, x73)], rows, low⟩ r
theorem jc59s16 : Ex F cx (.code c59s16 :: .inBlock 3 :: .code c59k3 :: .inLoop c59l2 :: .inBlock 2 :: .code c59s1 :: []) ⟨mk 133 l, rows, low⟩ r ↔ Jc59s16 F cx (lk l 1) (lk l 6) (lk l 71) (lk l 72) (lk l 73) rows low r := Ex_canon (keep := [1, 6, 71, 72, 73]) (by kernel_rfl)
def Jc59s22 (F : Nat → Option IFn) (cx : Ctx) (x1 x71 x72 x73 : AV) (rows : List Row) (low : Nat) (r : AV × List Row × Nat → Prop) : Prop := Ex F cx (.code c59s22 :: .inLoop c59l2 :: .inBlock 2 :: .code c59s1 :: []) ⟨mk 133 [(1, x1), (71, x71), (72, x72), (73, x73)], rows, low⟩ r
def Lc59l2 (F : Nat → Option IFn) (cx : Ctx) (x1 x71 x72 x73 : AV) (rows : List Row) (low : Nat) (r : AV × List Row × Nat → Prop) : Prop := Ex F cx (.code c59l2 :: .inLoop c59l2 :: .inBlock 2 :: .code c59s1 :: []) ⟨mk 133 [(1, x1), (71, x71), (72, x72), (73, x73)], rows, low⟩ r
@[simp] theorem nc59l2 : Ex F cx (.inLoop c59l2 :: .inBlock 2 :: .code c59s1 :: []) ⟨mk 133 l, rows, low⟩ r ↔ Lc59l2 F cx (lk l 1) (lk l 71) (lk l 72) (lk l 73) rows low r := loopN (keep := [1, 71, 72, 73]) (by kernel_rfl)
@[simp] theorem ec59l2 : Ex F cx (.code (.loop c59l2) :: .inBlock 2 :: .code c59s1 :: []) ⟨mk 133 l, rows, low⟩ r ↔ Lc59l2 F cx (lk l 1) (lk l 71) (lk l 72) (lk l 73) rows low r := loopE (keep := [1, 71, 72, 73]) (by kernel_rfl)
@[simp] theorem uc59l2 : Ex F cx (.code c59l2 :: k) s r ↔ Ex F cx (.code (.seq c59k24 c59s23) :: k) s r := Iff.rfl
def Jc59s35 (F : Nat → Option IFn) (cx : Ctx) (x1 x30 x31 x32 : AV) (rows : List Row) (low : Nat) (r : AV × List Row × Nat → Prop) : Prop := Ex F cx (.code c59s35 :: .inLoop c59l28 :: .inBlock 0 :: .code c59s27 :: []) ⟨mk 133 [(1, x1), (30, x30), (31, x31), (32, x32)], rows, low⟩ r
def Lc59l28 (F : Nat → Option IFn) (cx : Ctx) (x1 x30 x31 x32 : AV) (rows : List Row) (low : Nat) (r : AV × List Row × Nat → Prop) : Prop := Ex F cx (.code c59l28 :: .inLoop c59l28 :: .inBlock 0 :: .code c59s27 :: []) ⟨mk 133 [(1, x1), (30, x30), (31, x31), (32, x32)], rows, low⟩ r
@[simp] theorem nc59l28 : Ex F cx (.inLoop c59l28 :: .inBlock 0 :: .code c59s27 :: []) ⟨mk 133 l, rows, low⟩ r ↔ Lc59l28 F cx (lk l 1) (lk l 30) (lk l 31) (lk l 32) rows low r := loopN (keep := [1, 30, 31, 32]) (by kernel_rfl)
@[simp] theorem ec59l28 : Ex F cx (.code (.loop c59l28) :: .inBlock 0 :: .code c59s27 :: []) ⟨mk 133 l, rows, low⟩ r ↔ Lc59l28 F cx (lk l 1) (lk l 30) (lk l 31) (lk l 32) rows low r := loopE (keep := [1, 30, 31, 32]) (by kernel_rfl)
@[simp] theorem uc59l28 : Ex F cx (.code c59l28 :: k) s r ↔ Ex F cx (.code (.seq c59k37 c59s36) :: k) s r := Iff.rfl
def Jc59s40 (F : Nat → Option IFn) (cx : Ctx) (x1 : AV) (rows : List Row) (low : Nat) (r : AV × List Row × Nat → Prop) : Prop := Ex F cx (.code c59s40 :: []) ⟨mk 133 [(1, x1)], rows, low⟩ r
@[simp] theorem uc59b : Ex F cx (.code c59b :: k) s r ↔ Ex F cx (.code (.seq c59k45 c59s44) :: k) s r := Iff.rfl
theorem i59 {x0 : AV} (hF : F 59 = some c59) {q : AV × List Row × Option Nat} (h : Ex F (.fn [.t 2]) [.code c59b] ⟨mk 133 [(0, x0)], rows, rows.length⟩ fun r => fin rows r.1 r.2.1 r.2.2 = q) : Ret F 59 [x0] rows = some q := Ret_mk hF h
@[simp] theorem uc60k0 : Ex F cx (.code c60k0 :: k) ⟨mk 29 l, rows, low⟩ r ↔ Ex F cx k ⟨mk 29 [(6, (.int .i64 (-1)))], rows, low⟩ r := rg [] c60r0 rfl (by kernel_rfl)
@[simp] theorem uc60s1 : Ex F cx (.code c60s1 :: k) s r ↔ Ex F cx (.code (.seq c60k0 .ret) :: k) s r := Iff.rfl
@[simp] theorem uc60k3 : Ex F cx (.code c60k3 :: k) ⟨mk 29 l, rows, low⟩ r ↔ bnd (evP rows (.bin .add (.c (lk l 7)) (.c (.int .i64 1)))) fun v0 => Ex F cx k ⟨mk 29 [(7, v0), (14, v0), (13, lk l 7), (1, lk l 1), (2, lk l 2), (3, lk l 3), (7, lk l 7)], rows, low⟩ r := rg [1, 2, 3, 7] c60r3 rfl (by kernel_rfl)
@[simp] theorem uc60k4 : Ex F cx (.code c60k4 :: k) ⟨mk 29 l, rows, low⟩ r ↔ Ex F cx k ⟨mk 29 [(6, lk l 7), (28, lk l 7), (7, lk l 7)], rows, low⟩ r := rg [7] c60r4 rfl (by kernel_rfl)
@[simp] theorem uc60s5 : Ex F cx (.code c60s5 :: k) s r ↔ Ex F cx (.code (.cond (.t 27) (.seq c60k4 .ret) .skip) :: k) s r := Iff.rfl
@[simp] theorem uc60k6 : Ex F cx (.code c60k6 :: k) ⟨mk 29 l, rows, low⟩ r ↔ bnd (evP rows (.fieldA 1 (.c (lk l 3)))) fun v0 => bnd (evP rows (.load1 (.c v0))) fun v1 => bnd (evP rows (.idxS 2 (.c v1) (.c (lk l 7)))) fun v2 => bnd (evP rows (.loadN 2 (.c v2))) fun v3 => bnd (evP rows (.mn [(.c (lk l 1)), (.c (lk l 2))])) fun v4 => bnd (evP rows (.mx [(.c (lk l 1)), (.c (lk l 2))])) fun v5 => bnd (evP rows (.mkagg [.int .i64 0, .int .i64 0] [(0, 1, (.c v4)), (1, 1, (.c v5))])) fun v6 => bnd (evP rows (.eqv false (.ints 2) (.c v3) (.c v6))) fun v7 => Ex F cx k ⟨mk 29 [(27, v7), (26, v6), (25, v5), (24, lk l 2), (23, lk l 1), (22, v4), (21, lk l 2), (20, lk l 1), (19, v3), (18, v2), (17, lk l 7), (16, v1), (15, v0), (1, lk l 1), (2, lk l 2), (3, lk l 3), (7, lk l 7)], rows, low⟩ r := rg [1, 2, 3, 7] c60r6 rfl (by kernel_rfl)
@[simp] theorem uc60s7 : Ex F cx (.code c60s7 :: k) s r ↔ Ex F cx (.code (.seq (.block 1 (.seq c60k6 c60s5)) c60k3) :: k) s r := Iff.rfl
@[simp] theorem uc60s8 : Ex F cx (.code c60s8 :: k) s r ↔ Ex F cx (.code (.cond (.t 12) .skip (.exit 0)) :: k) s r := Iff.rfl
@[simp] theorem uc60k9 : Ex F cx (.code c60k9 :: k) ⟨mk 29 l, rows, low⟩ r ↔ bnd (evP rows (.fieldA 1 (.c (lk l 3)))) fun v0 => bnd (evP rows (.load1 (.c v0))) fun v1 => bnd (evP rows (.len 0 (.c v1))) fun v2 => bnd (evP rows (.bin .lss (.c (lk l 7)) (.c v2))) fun v3 => Ex F cx k ⟨mk 29 [(12, v3), (11, v2), (10, v1), (9, v0), (8, lk l 7), (1, lk l 1), (2, lk l 2), (3, lk l 3), (7, lk l 7)], rows, low⟩ r := rg [1, 2, 3, 7] c60r9 rfl (by kernel_rfl)
@[simp] theorem uc60s10 : Ex F cx (.code c60s10 :: k) s r ↔ Ex F cx (.code (.block 0 (.loop c60l2)) :: k) s r := Iff.rfl
@[simp] theorem uc60k11 : Ex F cx (.code c60k11 :: k) ⟨mk 29 l, rows, low⟩ r ↔ Ex F cx k ⟨mk 29 [(7, (.int .i64 0)), (1, lk l 1), (2, lk l 2), (3, lk l 3)], rows, low⟩ r := rg [1, 2, 3] c60r11 rfl (by kernel_rfl)
@[simp] theorem uc60s12 : Ex F cx (.code c60s12 :: k) s r ↔ Ex F cx (.code (.seq (.seq c60k11 c60s10) c60s1) :: k) s r := Iff.rfl
@[simp] theorem uc60k13 : Ex F cx (.code c60k13 :: k) ⟨mk 29 l, rows, low⟩ r ↔ bnd (evE rows low (.box (.c (lk l 0)))) fun q0 => Ex F cx k ⟨mk 29 [(6, (.int .i64 0)), (3, q0.1), (0, lk l 0), (1, lk l 1), (2, lk l 2)], q0.2.1, q0.2.2⟩ r := rg [0, 1, 2] c60r13 rfl (by kernel_rfl)
def Jc60s7 (F : Nat → Option IFn) (cx : Ctx) (x1 x2 x3 x7 : AV) (rows : List Row) (low : Nat) (r : AV × List Row × Nat → Prop) : Prop := Ex F cx (.code c60s7 :: .inLoop c60l2 :: .inBlock 0 :: .code c60s1 :: []) ⟨mk 29 [(1, x1), (2, x2), (3, x3), (7, x7)], rows, low⟩ r
def Lc60l2 (F : Nat → Option IFn) (cx : Ctx) (x1 x2 x3 x7 : AV) (rows : List Row) (low : Nat) (r : AV × List Row × Nat → Prop) : Prop := Ex F cx (.code c60l2 :: .inLoop c60l2 :: .inBlock 0 :: .code c60s1 :: []) ⟨mk 29 [(1, x1), (2, x2), (3, x3), (7, x7)], rows, low⟩ r
@[simp] theorem nc60l2 : Ex F cx (.inLoop c60l2 :: .inBlock 0 :: .code c60s1 :: []) ⟨mk 29 l, rows, low⟩ r ↔ Lc60l2 F cx (lk l 1) (lk l 2) (lk l 3) (lk l 7) rows low r := loopN (keep := [1, 2, 3, 7]) (by kernel_rfl)
@[simp] theorem ec60l2 : Ex F cx (.code (.loop c60l2) :: .inBlock 0 :: .code c60s1 :: []) ⟨mk 29 l, rows, low⟩ r ↔ Lc60l2 F cx (lk l 1) (lk l 2) (lk l 3) (lk l 7) rows low r := loopE (keep := [1, 2, 3, 7]) (by kernel_rfl)
@[simp] theorem uc60l2 : Ex F cx (.code c60l2 :: k) s r ↔ Ex F cx (.code (.seq (.seq c60k9 c60s8) c60s7) :: k) s r := Iff.rfl
@[simp] theorem uc60b : Ex F cx (.code c60b :: k) s r ↔ Ex F cx (.code (.seq c60k13 c60s12) :: k) s r := Iff.rfl
theorem i60 {x0 x1 x2 : AV} (hF : F 60 = some c60) {q : AV × List Row × Option Nat} (h : Ex F (.fn [.t 6]) [.code c60b] ⟨mk 29 [(0, x0), (1, x1), (2, x2)], rows, rows.length⟩ fun r => fin rows r.1 r.2.1 r.2.2 = q) : Ret F 60 [x0, x1, x2] rows = some q := Ret_mk hF h
@[simp] theorem uc61k0 : Ex F cx (.code c61k0 :: k) ⟨mk 39 l, rows, low⟩ r ↔ Ex F cx k ⟨mk 39 [(4, (.bool false))], rows, low⟩ r := rg [] c61r0 rfl (by kernel_rfl)
@[simp] theorem uc61s1 : Ex F cx (.code c61s1 :: k) s r ↔ Ex F cx (.code (.seq c61k0 .ret) :: k) s r := Iff.rfl
@[simp] theorem uc61k3 : Ex F cx (.code c61k3 :: k) ⟨mk 39 l, rows, low⟩ r ↔ bnd (evP rows (.bin .add (.c (lk l 5)) (.c (.int .i64 1)))) fun v0 => Ex F cx k ⟨mk 39 [(5, v0), (15, v0), (14, lk l 5), (0, lk l 0), (1, lk l 1), (5, lk l 5)], rows, low⟩ r := rg [0, 1, 5] c61r3 rfl (by kernel_rfl)
@[simp] theorem uc61k4 : Ex F cx (.code c61k4 :: k) ⟨mk 39 l, rows, low⟩ r ↔ Ex F cx k ⟨mk 39 [(4, (.bool true))], rows, low⟩ r := rg [] c61r4 rfl (by kernel_rfl)
@[simp] theorem uc61s5 : Ex F cx (.code c61s5 :: k) s r ↔ Ex F cx (.code (.cond (.t 38) (.seq c61k4 .ret) .skip) :: k) s r := Iff.rfl
@[simp] theorem uc61k6 : Ex F cx (.code c61k6 :: k) ⟨mk 39 l, rows, low⟩ r ↔ bnd (evP rows (.idxS 3 (.c (lk l 0)) (.c (lk l 5)))) fun v0 => bnd (evP rows (.idxA 3 1 (.c v0) (.c (.int .i64 0)))) fun v1 => bnd (evP rows (.load1 (.c v1))) fun v2 => bnd (evP rows (.idxS 3 (.c (lk l 0)) (.c (lk l 5)))) fun v3 => bnd (evP rows (.idxA 3 1 (.c v3) (.c (.int .i64 1)))) fun v4 => bnd (evP rows (.load1 (.c v4))) fun v5 => bnd (evP rows (.bin .add (.c v2) (.c v5))) fun v6 => bnd (evP rows (.idxS 3 (.c (lk l 0)) (.c (lk l 5)))) fun v7 => bnd (evP rows (.idxA 3 1 (.c v7) (.c (.int .i64 2)))) fun v8 => bnd (evP rows (.load1 (.c v8))) fun v9 => bnd (evP rows (.bin .add (.c v6) (.c v9))) fun v10 => bnd (evP rows (.conv .u64 (.c v10))) fun v11 => bnd (evP rows (.bin .rem (.c v11) (.c (.int .u64 4)))) fun v12 => bnd (evP rows (.conv .u64 (.c (lk l 1)))) fun v13 => bnd (evP rows (.bin .rem (.c v13) (.c (.int .u64 4)))) fun v14 => bnd (evP rows (.bin .eql (.c v12) (.c v14))) fun v15 => Ex F cx k ⟨mk 39 [(38, v15), (37, v14), (36, v13), (35, lk l 1), (34, v12), (33, v11), (32, v10), (31, v9), (30, v8), (29, v7), (28, lk l 5), (27, lk l 0), (26, v6), (25, v5), (24, v4), (23, v3), (22, lk l 5), (21, lk l 0), (20, v2), (19, v1), (18, v0), (17, lk l 5), (16, lk l 0), (0, lk l 0), (1, lk l 1), (5, lk l 5)], rows, low⟩ r := rg [0, 1, 5] c61r6 rfl (by kernel_rfl)
@[simp] theorem uc61s7 : Ex F cx (.code c61s7 :: k) s r ↔ Ex F cx (.code (.seq (.block 1 (.seq c61k6 c61s5)) c61k3) :: k) s r := Iff.rfl
@[simp] theorem uc61s8 : Ex F cx (.code c61s8 :: k) s r ↔ Ex F cx (.code (.cond (.t 13) .skip (.exit 0)) :: k) s r := Iff.rfl
@[simp] theorem uc61k9 : Ex F cx (.code c61k9 :: k) ⟨mk 39 l, rows, low⟩ r ↔ bnd (evP rows (.len 0 (.c (lk l 0)))) fun v0 => bnd (evP rows (.bin .lss (.c (lk l 5)) (.c v0))) fun v1 => bnd (gv v1 true (evP rows (.mv (.c (lk l 5))))) fun v2 => bnd (gv v1 true (evP rows (.bin .lss (.c v2) (.c (.int .i64 10))))) fun v3 => bnd (evP rows (.pick (.c v1) (.c v3) (.c (.bool false)))) fun v4 => Ex F cx k ⟨mk 39 [(13, v4), (12, v3), (11, v2), (10, v1), (9, v1), (8, v0), (7, lk l 0), (6, lk l 5), (0, lk l 0), (1, lk l 1), (5, lk l 5)], rows, low⟩ r := rg [0, 1, 5] c61r9 rfl (by kernel_rfl)
@[simp] theorem uc61s10 : Ex F cx (.code c61s10 :: k) s r ↔ Ex F cx (.code (.block 0 (.loop c61l2)) :: k) s r := Iff.rfl
@[simp] theorem uc61k11 : Ex F cx (.code c61k11 :: k) ⟨mk 39 l, rows, low⟩ r ↔ Ex F cx k ⟨mk 39 [(5, (.int .i64 0)), (0, lk l 0), (1, lk l 1)], rows, low⟩ r := rg [0, 1] c61r11 rfl (by kernel_rfl)
@[simp] theorem uc61s12 : Ex F cx (.code c61s12 :: k) s r ↔ Ex F cx (.code (.seq (.seq c61k11 c61s10) c61s1) :: k) s r := Iff.rfl
@[simp] theorem uc61k13 : Ex F cx (.code c61k13 :: k) ⟨mk 39 l, rows, low⟩ r ↔ Ex F cx k ⟨mk 39 [(4, (.bool false)), (0, lk l 0), (1, lk l 1)], rows, low⟩ r := rg [0, 1] c61r13 rfl (by kernel_rfl)
def Jc61s7 (F : Nat → Option IFn) (cx : Ctx) (x0 x1 x5 : AV) (rows : List Row) (low : Nat) (r : AV × List Row × Nat → Prop) : Prop := Ex F cx (.code c61s7 :: .inLoop c61l2 :: .inBlock 0 :: .code c61s1 :: []) ⟨mk 39 [(0, x0), (1, x1), (5, x5)], rows, low⟩ r
def Lc61l2 (F : Nat → Option IFn) (cx : Ctx) (x0 x1 x5 : AV) (rows : List Row) (low : Nat) (r : AV × List Row × Nat → Prop) : Prop := Ex F cx (.code c61l2 :: .inLoop c61l2 :: .inBlock 0 :: .code c61s1 :: []) ⟨mk 39 [(0, x0), (1, x1), (5, x5)], rows, low⟩ r
@[simp] theorem nc61l2 : Ex F cx (.inLoop c61l2 :: .inBlock 0 :: .code c61s1 :: []) ⟨mk 39 l, rows, low⟩ r ↔ Lc61l2 F cx (lk l 0) (lk l 1) (lk l 5) rows low r := loopN (keep := [0, 1, 5]) (by kernel_rfl)
@[simp] theorem ec61l2 : Ex F cx (.code (.loop c61l2) :: .inBlock 0 :: .code c61s1 :: []) ⟨mk 39 l, rows, low⟩ r ↔ Lc61l2 F cx (lk l 0) (lk l 1) (lk l 5) rows low r := loopE (keep := [0, 1, 5]) (by kernel_rfl)
@[simp] theorem uc61l2 : Ex F cx (.code c61l2 :: k) s r ↔ Ex F cx (.code (.seq (.seq c61k9 c61s8) c61s7) :: k) s r := Iff.rfl
@[simp] theorem uc61b : Ex F cx (.code c61b :: k) s r ↔ Ex F cx (.code (.seq c61k13 c61s12) :: k) s r := Iff.rfl
theorem i61 {x0 x1 : AV} (hF : F 61 = some c61) {q : AV × List Row × Option Nat} (h : Ex F (.fn [.t 4]) [.code c61b] ⟨mk 39 [(0, x0), (1, x1)], rows, rows.length⟩ fun r => fin rows r.1 r.2.1 r.2.2 = q) : Ret F 61 [x0, x1] rows = some q := Ret_mk hF h
@[simp] theorem uc66k0 : Ex F cx (.code c66k0 :: k) ⟨mk 22 l, rows, low⟩ r ↔ Ex F cx k ⟨mk 22 [(6, (.int .i64 0))], rows, low⟩ r := rg [] c66r0 rfl (by kernel_rfl)
@[simp] theorem uc66s1 : Ex F cx (.code c66s1 :: k) s r ↔ Ex F cx (.code (.seq c66k0 .ret) :: k) s r := Iff.rfl
@[simp] theorem uc66k2 : Ex F cx (.code c66k2 :: k) ⟨mk 22 l, rows, low⟩ r ↔ Ex F cx k ⟨mk 22 [(6, (.int .i64 1))], rows, low⟩ r := rg [] c66r2 rfl (by kernel_rfl)
@[simp] theorem uc66s3 : Ex F cx (.code c66s3 :: k) s r ↔ Ex F cx (.code (.cond (.t 21) (.seq c66k2 .ret) .skip) :: k) s r := Iff.rfl
@[simp] theorem uc66k4 : Ex F cx (.code c66k4 :: k) ⟨mk 22 l, rows, low⟩ r ↔ bnd (evP rows (.len 0 (.c (lk l 1)))) fun v0 => callK F rows low [] (fun v1 R1 L1 => bnd (evP R1 (.bin .neq (.c v0) (.c v1))) fun v2 => bnd (gv v2 false (evP R1 (.mv (.c (lk l 1))))) fun v3 => gcall F v2 false R1 L1 [v3, (.func 94 [])] [] (.func 83 []) fun v4 R4 L4 => bnd (evP R4 (.pick (.c v2) (.c (.bool true)) (.c v4))) fun v5 => Ex F cx k ⟨mk 22 [(21, v5), (20, v4), (19, v3), (18, v2), (17, v2), (16, v1), (15, lk l 2), (14, v0), (13, lk l 1), (1, lk l 1), (2, lk l 2)], R4, L4⟩ r) [] (lk l 2) := rg [1, 2] c66r4 rfl (by kernel_rfl)
@[simp] theorem uc66s5 : Ex F cx (.code c66s5 :: k) s r ↔ Ex F cx (.code (.seq (.seq c66k4 c66s3) c66s1) :: k) s r := Iff.rfl
@[simp] theorem uc66k6 : Ex F cx (.code c66k6 :: k) ⟨mk 22 l, rows, low⟩ r ↔ Ex F cx k ⟨mk 22 [(6, lk l 7), (12, lk l 7), (7, lk l 7)], rows, low⟩ r := rg [7] c66r6 rfl (by kernel_rfl)
@[simp] theorem uc66s7 : Ex F cx (.code c66s7 :: k) s r ↔ Ex F cx (.code (.cond (.t 11) (.seq c66k6 .ret) .skip) :: k) s r := Iff.rfl
@[simp] theorem uc66k8 : Ex F cx (.code c66k8 :: k) ⟨mk 22 l, rows, low⟩ r ↔ bnd (evP rows (.bin .neq (.c (lk l 7)) (.c (.int .i64 0)))) fun v0 => Ex F cx k ⟨mk 22 [(11, v0), (10, lk l 7), (1, lk l 1), (2, lk l 2), (7, lk l 7)], rows, low⟩ r := rg [1, 2, 7] c66r8 rfl (by kernel_rfl)
@[simp] theorem uc66s9 : Ex F cx (.code c66s9 :: k) s r ↔ Ex F cx (.code (.seq c66k8 c66s7) :: k) s r := Iff.rfl
@[simp] theorem uc66k10 : Ex F cx (.code c66k10 :: k) ⟨mk 22 l, rows, low⟩ r ↔ bnd (evP rows (.loadN 3 (.c (lk l 3)))) fun v0 => bnd (Ret F 59 [v0] rows) fun q1 => Ex F cx k ⟨mk 22 [(7, q1.1), (9, q1.1), (8, v0), (1, lk l 1), (2, lk l 2), (3, lk l 3)], q1.2.1, (lowO low q1.2.2)⟩ r := rg [1, 2, 3] c66r10 rfl (by kernel_rfl)
@[simp] theorem uc66s11 : Ex F cx (.code c66s11 :: k) s r ↔ Ex F cx (.code (.seq (.seq c66k10 c66s9) c66s5) :: k) s r := Iff.rfl
@[simp] theorem uc66k12 : Ex F cx (.code c66k12 :: k) ⟨mk 22 l, rows, low⟩ r ↔ bnd (evE rows low (.box (.c (lk l 0)))) fun q0 => Ex F cx k ⟨mk 22 [(6, (.int .i64 0)), (3, q0.1), (0, lk l 0), (1, lk l 1), (2, lk l 2)], q0.2.1, q0.2.2⟩ r := rg [0, 1, 2] c66r12 rfl (by kernel_rfl)
def Jc66s1 (F : Nat → Option IFn) (cx : Ctx) (rows : List Row) (low : Nat) (r : AV × List Row × Nat → Prop) : Prop := Ex F cx (.code c66s1 :: []) ⟨mk 22 [], rows, low⟩ r
def Jc66s5 (F : Nat → Option IFn) (cx : Ctx) (x1 x2 : AV) (rows : List Row) (low : Nat) (r : AV × List Row × Nat → Prop) : Prop := Ex F cx (.code c66s5 :: []) ⟨mk 22 [(1, x1), (2, x2)], rows, low⟩ r
@[simp] theorem uc66b : Ex F cx (.code c66b :: k) s r ↔ Ex F cx (.code (.seq c66k12 c66s11) :: k) s r := Iff.rfl
theorem i66 {x0 x1 x2 : AV} (hF : F 66 = some c66) {q : AV × List Row × Option Nat} (h : Ex F (.fn [.t 6]) [.code c66b] ⟨mk 22 [(0, x0), (1, x1), (2, x2)], rows, rows.length⟩ fun r => fin rows r.1 r.2.1 r.2.2 = q) : Ret F 66 [x0, x1, x2] rows = some q := Ret_mk hF h
@[simp] theorem uc67k0 : Ex F cx (.code c67k0 :: k) ⟨mk 6 l, rows, low⟩ r ↔ bnd (evP rows (.fieldA 1 (.c (lk l 1)))) fun v0 => bnd (evP rows (.load1 (.c v0))) fun v1 => bnd (evP rows (.len 0 (.c v1))) fun v2 => Ex F cx k ⟨mk 6 [(2, v2), (5, v2), (4, v1), (3, v0), (1, lk l 1)], rows, low⟩ r := rg [1] c67r0 rfl (by kernel_rfl)
@[simp] theorem uc67s1 : Ex F cx (.code c67s1 :: k) s r ↔ Ex F cx (.code (.seq c67k0 .ret) :: k) s r := Iff.rfl
@[simp] theorem uc67k2 : Ex F cx (.code c67k2 :: k) ⟨mk 6 l, rows, low⟩ r ↔ bnd (evE rows low (.box (.c (lk l 0)))) fun q0 => Ex F cx k ⟨mk 6 [(2, (.int .i64 0)), (1, q0.1), (0, lk l 0)], q0.2.1, q0.2.2⟩ r := rg [0] c67r2 rfl (by kernel_rfl)
@[simp] theorem uc67b : Ex F cx (.code c67b :: k) s r ↔ Ex F cx (.code (.seq c67k2 c67s1) :: k) s r := Iff.rfl
theorem i67 {x0 : AV} (hF : F 67 = some c67) {q : AV × List Row × Option Nat} (h : Ex F (.fn [.t 2]) [.code c67b] ⟨mk 6 [(0, x0)], rows, rows.length⟩ fun r => fin rows r.1 r.2.1 r.2.2 = q) : Ret F 67 [x0] rows = some q := Ret_mk hF h
@[simp] theorem uc75k0 : Ex F cx (.code c75k0 :: k) ⟨mk 19 l, rows, low⟩ r ↔ Ex F cx k ⟨mk 19 [(4, (.int .i64 (-1)))], rows, low⟩ r := rg [] c75r0 rfl (by kernel_rfl)
@[simp] theorem uc75s1 : Ex F cx (.code c75s1 :: k) s r ↔ Ex F cx (.code (.seq c75k0 .ret) :: k) s r := Iff.rfl
@[simp] theorem uc75k3 : Ex F cx (.code c75k3 :: k) ⟨mk 19 l, rows, low⟩ r ↔ bnd (evP rows (.bin .add (.c (lk l 8)) (.c (.int .i64 1)))) fun v0 => Ex F cx k ⟨mk 19 [(8, v0), (18, v0), (0, lk l 0), (3, lk l 3), (7, lk l 7), (8, lk l 8)], rows, low⟩ r := rg [0, 3, 7, 8] c75r3 rfl (by kernel_rfl)
@[simp] theorem uc75k4 : Ex F cx (.code c75k4 :: k) ⟨mk 19 l, rows, low⟩ r ↔ Ex F cx k ⟨mk 19 [(4, lk l 5), (17, lk l 5), (5, lk l 5)], rows, low⟩ r := rg [5] c75r4 rfl (by kernel_rfl)
@[simp] theorem uc75s5 : Ex F cx (.code c75s5 :: k) s r ↔ Ex F cx (.code (.cond (.t 16) (.seq c75k4 .ret) .skip) :: k) s r := Iff.rfl
@[simp] theorem uc75k6 : Ex F cx (.code c75k6 :: k) ⟨mk 19 l, rows, low⟩ r ↔ bnd (evP rows (.loadN 2 (.c (lk l 3)))) fun v0 => bnd (evP rows (.idxS 2 (.c (lk l 0)) (.c (lk l 5)))) fun v1 => bnd (evP rows (.loadN 2 (.c v1))) fun v2 => bnd (evP rows (.eqv false (.ints 2) (.c v0) (.c v2))) fun v3 => Ex F cx k ⟨mk 19 [(16, v3), (15, v2), (14, v1), (13, lk l 5), (12, lk l 0), (11, v0), (0, lk l 0), (3, lk l 3), (5, lk l 5), (7, lk l 7), (8, lk l 8)], rows, low⟩ r := rg [0, 3, 5, 7, 8] c75r6 rfl (by kernel_rfl)
@[simp] theorem uc75s7 : Ex F cx (.code c75s7 :: k) s r ↔ Ex F cx (.code (.seq c75k6 c75s5) :: k) s r := Iff.rfl
@[simp] theorem uc75k8 : Ex F cx (.code c75k8 :: k) ⟨mk 19 l, rows, low⟩ r ↔ Ex F cx k ⟨mk 19 [(5, lk l 8), (10, lk l 8), (0, lk l 0), (3, lk l 3), (7, lk l 7), (8, lk l 8)], rows, low⟩ r := rg [0, 3, 7, 8] c75r8 rfl (by kernel_rfl)
@[simp] theorem uc75s9 : Ex F cx (.code c75s9 :: k) s r ↔ Ex F cx (.code (.seq (.block 1 (.seq c75k8 c75s7)) c75k3) :: k) s r := Iff.rfl
@[simp] theorem uc75s10 : Ex F cx (.code c75s10 :: k) s r ↔ Ex F cx (.code (.seq (.cond (.t 9) .skip (.exit 0)) c75s9) :: k) s r := Iff.rfl
@[simp] theorem uc75k11 : Ex F cx (.code c75k11 :: k) ⟨mk 19 l, rows, low⟩ r ↔ bnd (evP rows (.bin .lss (.c (lk l 8)) (.c (lk l 7)))) fun v0 => Ex F cx k ⟨mk 19 [(9, v0), (0, lk l 0), (3, lk l 3), (7, lk l 7), (8, lk l 8)], rows, low⟩ r := rg [0, 3, 7, 8] c75r11 rfl (by kernel_rfl)
@[simp] theorem uc75s12 : Ex F cx (.code c75s12 :: k) s r ↔ Ex F cx (.code (.block 0 (.loop c75l2)) :: k) s r := Iff.rfl
@[simp] theorem uc75k13 : Ex F cx (.code c75k13 :: k) ⟨mk 19 l, rows, low⟩ r ↔ bnd (evP rows (.len 0 (.c (lk l 0)))) fun v0 => Ex F cx k ⟨mk 19 [(8, (.int .i64 0)), (7, v0), (6, lk l 0), (0, lk l 0), (3, lk l 3)], rows, low⟩ r := rg [0, 3] c75r13 rfl (by kernel_rfl)
@[simp] theorem uc75s14 : Ex F cx (.code c75s14 :: k) s r ↔ Ex F cx (.code (.seq (.seq c75k13 c75s12) c75s1) :: k) s r := Iff.rfl
@[simp] theorem uc75k15 : Ex F cx (.code c75k15 :: k) ⟨mk 19 l, rows, low⟩ r ↔ bnd (evE rows low (.box (.c (lk l 1)))) fun q0 => Ex F cx k ⟨mk 19 [(4, (.int .i64 0)), (3, q0.1), (0, lk l 0), (1, lk l 1)], q0.2.1, q0.2.2⟩ r := rg [0, 1] c75r15 rfl (by kernel_rfl)
def Jc75s9 (F : Nat → Option IFn) (cx : Ctx) (x0 x3 x7 x8 : AV) (rows : List Row) (low : Nat) (r : AV × List Row × Nat → Prop) : Prop := Ex F cx (.code c75s9 :: .inLoop c75l2 :: .inBlock 0 :: .code c75s1 :: []) ⟨mk 19 [(0, x0), (3, x3), (7, x7), (8, x8)], rows, low⟩ r
def Lc75l2 (F : Nat → Option IFn) (cx : Ctx) (x0 x3 x7 x8 : AV) (rows : List Row) (low : Nat) (r : AV × List Row × Nat → Prop) : Prop := Ex F cx (.code c75l2 :: .inLoop c75l2 :: .inBlock 0 :: .code c75s1 :: []) ⟨mk 19 [(0, x0), (3, x3), (7, x7), (8, x8)], rows, low⟩ r
@[simp] theorem nc75l2 : Ex F cx (.inLoop c75l2 :: .inBlock 0 :: .code c75s1 :: []) ⟨mk 19 l, rows, low⟩ r ↔ Lc75l2 F cx (lk l 0) (lk l 3) (lk l 7) (lk l 8) rows low r := loopN (keep := [0, 3, 7, 8]) (by kernel_rfl)
@[simp] theorem ec75l2 : Ex F cx (.code (.loop c75l2) :: .inBlock 0 :: .code c75s1 :: []) ⟨mk 19 l, rows, low⟩ r ↔ Lc75l2 F cx (lk l 0) (lk l 3) (lk l 7) (lk l 8) rows low r := loopE (keep := [0, 3, 7, 8]) (by kernel_rfl)
@[simp] theorem uc75l2 : Ex F cx (.code c75l2 :: k) s r ↔ Ex F cx (.code (.seq c75k11 c75s10) :: k) s r := Iff.rfl
@[simp] theorem uc75b : Ex F cx (.code c75b :: k) s r ↔ Ex F cx (.code (.seq c75k15 c75s14) :: k) s r := Iff.rfl
theorem i75 {x0 x1 : AV} (hF : F 75 = some c75) {q : AV × List Row × Option Nat} (h : Ex F (.fn [.t 4]) [.code c75b] ⟨mk 19 [(0, x0), (1, x1)], rows, rows.length⟩ fun r => fin rows r.1 r.2.1 r.2.2 = q) : Ret F 75 [x0, x1] rows = some q := Ret_mk hF h
@[simp] theorem uc83k0 : Ex F cx (.code c83k0 :: k) ⟨mk 9 l, rows, low⟩ r ↔ bnd (Ret F 103 [lk l 0, lk l 1] rows) fun q0 => bnd (evP q0.2.1 (.bin .geq (.c q0.1) (.c (.int .i64 0)))) fun v1 => Ex F cx k ⟨mk 9 [(4, v1), (8, v1), (7, q0.1), (6, lk l 1), (5, lk l 0), (0, lk l 0), (1, lk l 1)], q0.2.1, (lowO low q0.2.2)⟩ r := rg [0, 1] c83r0 rfl (by kernel_rfl)
@[simp] theorem uc83s1 : Ex F cx (.code c83s1 :: k) s r ↔ Ex F cx (.code (.seq c83k0 .ret) :: k) s r := Iff.rfl
@[simp] theorem uc83k2 : Ex F cx (.code c83k2 :: k) ⟨mk 9 l, rows, low⟩ r ↔ Ex F cx k ⟨mk 9 [(4, (.bool false)), (0, lk l 0), (1, lk l 1)], rows, low⟩ r := rg [0, 1] c83r2 rfl (by kernel_rfl)
@[simp] theorem uc83b : Ex F cx (.code c83b :: k) s r ↔ Ex F cx (.code (.seq c83k2 c83s1) :: k) s r := Iff.rfl
theorem i83 {x0 x1 : AV} (hF : F 83 = some c83) {q : AV × List Row × Option Nat} (h : Ex F (.fn [.t 4]) [.code c83b] ⟨mk 9 [(0, x0), (1, x1)], rows, rows.length⟩ fun r => fin rows r.1 r.2.1 r.2.2 = q) : Ret F 83 [x0, x1] rows = some q := Ret_mk hF h
@[simp] theorem uc91k0 : Ex F cx (.code c91k0 :: k) ⟨mk 36 l, rows, low⟩ r ↔ Ex F cx k ⟨mk 36 [(4, (.int .i64 0))], rows, low⟩ r := rg [] c91r0 rfl (by kernel_rfl)
@[simp] theorem uc91s1 : Ex F cx (.code c91s1 :: k) s r ↔ Ex F cx (.code (.seq c91k0 .ret) :: k) s r := Iff.rfl
@[simp] theorem uc91k2 : Ex F cx (.code c91k2 :: k) ⟨mk 36 l, rows, low⟩ r ↔ Ex F cx k ⟨mk 36 [(4, (.int .i64 (-1)))], rows, low⟩ r := rg [] c91r2 rfl (by kernel_rfl)
@[simp] theorem uc91s3 : Ex F cx (.code c91s3 :: k) s r ↔ Ex F cx (.code (.cond (.t 35) (.seq c91k2 .ret) .skip) :: k) s r := Iff.rfl
@[simp] theorem uc91k4 : Ex F cx (.code c91k4 :: k) ⟨mk 36 l, rows, low⟩ r ↔ bnd (evP rows (.len 0 (.c (lk l 0)))) fun v0 => bnd (evP rows (.len 0 (.c (lk l 1)))) fun v1 => bnd (evP rows (.bin .lss (.c v0) (.c v1))) fun v2 => Ex F cx k ⟨mk 36 [(35, v2), (34, v1), (33, lk l 1), (32, v0), (31, lk l 0), (0, lk l 0), (1, lk l 1)], rows, low⟩ r := rg [0, 1] c91r4 rfl (by kernel_rfl)
@[simp] theorem uc91s5 : Ex F cx (.code c91s5 :: k) s r ↔ Ex F cx (.code (.seq (.seq c91k4 c91s3) c91s1) :: k) s r := Iff.rfl
@[simp] theorem uc91k7 : Ex F cx (.code c91k7 :: k) ⟨mk 36 l, rows, low⟩ r ↔ bnd (evP rows (.bin .add (.c (lk l 11)) (.c (.int .i64 1)))) fun v0 => Ex F cx k ⟨mk 36 [(11, v0), (30, v0), (0, lk l 0), (1, lk l 1), (9, lk l 9), (10, lk l 10), (11, lk l 11)], rows, low⟩ r := rg [0, 1, 9, 10, 11] c91r7 rfl (by kernel_rfl)
@[simp] theorem uc91k8 : Ex F cx (.code c91k8 :: k) ⟨mk 36 l, rows, low⟩ r ↔ Ex F cx k ⟨mk 36 [(4, lk l 8), (29, lk l 8), (8, lk l 8)], rows, low⟩ r := rg [8] c91r8 rfl (by kernel_rfl)
@[simp] theorem uc91s9 : Ex F cx (.code c91s9 :: k) s r ↔ Ex F cx (.code (.cond (.t 28) (.seq c91k8 .ret) .skip) :: k) s r := Iff.rfl
@[simp] theorem uc91k10 : Ex F cx (.code c91k10 :: k) ⟨mk 36 l, rows, low⟩ r ↔ bnd (evP rows (.bin .neq (.c (lk l 8)) (.c (.int .i64 0)))) fun v0 => Ex F cx k ⟨mk 36 [(28, v0), (27, lk l 8), (0, lk l 0), (1, lk l 1), (8, lk l 8), (9, lk l 9), (10, lk l 10), (11, lk l 11)], rows, low⟩ r := rg [0, 1, 8, 9, 10, 11] c91r10 rfl (by kernel_rfl)
@[simp] theorem uc91s11 : Ex F cx (.code c91s11 :: k) s r ↔ Ex F cx (.code (.seq c91k10 c91s9) :: k) s r := Iff.rfl
@[simp] theorem uc91k12 : Ex F cx (.code c91k12 :: k) ⟨mk 36 l, rows, low⟩ r ↔ bnd (Ret F 105 [lk l 6, lk l 7] rows) fun q0 => Ex F cx k ⟨mk 36 [(8, q0.1), (26, q0.1), (25, lk l 7), (24, lk l 6), (0, lk l 0), (1, lk l 1), (6, lk l 6), (7, lk l 7), (9, lk l 9), (10, lk l 10), (11, lk l 11)], q0.2.1, (lowO low q0.2.2)⟩ r := rg [0, 1, 6, 7, 9, 10, 11] c91r12 rfl (by kernel_rfl)
@[simp] theorem uc91s13 : Ex F cx (.code c91s13 :: k) s r ↔ Ex F cx (.code (.seq c91k12 c91s11) :: k) s r := Iff.rfl
@[simp] theorem uc91k14 : Ex F cx (.code c91k14 :: k) ⟨mk 36 l, rows, low⟩ r ↔ bnd (evP rows (.idxS 1 (.c (lk l 1)) (.c (lk l 5)))) fun v0 => bnd (evP rows (.load1 (.c v0))) fun v1 => Ex F cx k ⟨mk 36 [(7, v1), (23, v1), (22, v0), (21, lk l 5), (20, lk l 1), (0, lk l 0), (1, lk l 1), (5, lk l 5), (6, lk l 6), (9, lk l 9), (10, lk l 10), (11, lk l 11)], rows, low⟩ r := rg [0, 1, 5, 6, 9, 10, 11] c91r14 rfl (by kernel_rfl)
@[simp] theorem uc91s15 : Ex F cx (.code c91s15 :: k) s r ↔ Ex F cx (.code (.seq c91k14 c91s13) :: k) s r := Iff.rfl
@[simp] theorem uc91k16 : Ex F cx (.code c91k16 :: k) ⟨mk 36 l, rows, low⟩ r ↔ Ex F cx k ⟨mk 36 [(4, (.int .i64 1))], rows, low⟩ r := rg [] c91r16 rfl (by kernel_rfl)
@[simp] theorem uc91s17 : Ex F cx (.code c91s17 :: k) s r ↔ Ex F cx (.code (.cond (.t 19) (.seq c91k16 .ret) .skip) :: k) s r := Iff.rfl
@[simp] theorem uc91k18 : Ex F cx (.code c91k18 :: k) ⟨mk 36 l, rows, low⟩ r ↔ bnd (evP rows (.len 0 (.c (lk l 1)))) fun v0 => bnd (evP rows (.bin .geq (.c (lk l 5)) (.c v0))) fun v1 => Ex F cx k ⟨mk 36 [(19, v1), (18, v0), (17, lk l 1), (16, lk l 5), (0, lk l 0), (1, lk l 1), (5, lk l 5), (6, lk l 6), (9, lk l 9), (10, lk l 10), (11, lk l 11)], rows, low⟩ r := rg [0, 1, 5, 6, 9, 10, 11] c91r18 rfl (by kernel_rfl)
@[simp] theorem uc91s19 : Ex F cx (.code c91s19 :: k) s r ↔ Ex F cx (.code (.seq (.seq c91k18 c91s17) c91s15) :: k) s r := Iff.rfl
@[simp] theorem uc91k20 : Ex F cx (.code c91k20 :: k) ⟨mk 36 l, rows, low⟩ r ↔ bnd (evP rows (.idxS 1 (.c (lk l 9)) (.c (lk l 11)))) fun v0 => bnd (evP rows (.load1 (.c v0))) fun v1 => Ex F cx k ⟨mk 36 [(6, v1), (5, lk l 11), (15, v1), (14, v0), (13, lk l 11), (0, lk l 0), (1, lk l 1), (9, lk l 9), (10, lk l 10), (11, lk l 11)], rows, low⟩ r := rg [0, 1, 9, 10, 11] c91r20 rfl (by kernel_rfl)
@[simp] theorem uc91s21 : Ex F cx (.code c91s21 :: k) s r ↔ Ex F cx (.code (.seq (.block 1 (.seq c91k20 c91s19)) c91k7) :: k) s r := Iff.rfl
@[simp] theorem uc91s22 : Ex F cx (.code c91s22 :: k) s r ↔ Ex F cx (.code (.seq (.cond (.t 12) .skip (.exit 0)) c91s21) :: k) s r := Iff.rfl
@[simp] theorem uc91k23 : Ex F cx (.code c91k23 :: k) ⟨mk 36 l, rows, low⟩ r ↔ bnd (evP rows (.bin .lss (.c (lk l 11)) (.c (lk l 10)))) fun v0 => Ex F cx k ⟨mk 36 [(12, v0), (0, lk l 0), (1, lk l 1), (9, lk l 9), (10, lk l 10), (11, lk l 11)], rows, low⟩ r := rg [0, 1, 9, 10, 11] c91r23 rfl (by kernel_rfl)
@[simp] theorem uc91s24 : Ex F cx (.code c91s24 :: k) s r ↔ Ex F cx (.code (.block 0 (.loop c91l6)) :: k) s r := Iff.rfl
@[simp] theorem uc91k25 : Ex F cx (.code c91k25 :: k) ⟨mk 36 l, rows, low⟩ r ↔ bnd (evP rows (.len 0 (.c (lk l 0)))) fun v0 => Ex F cx k ⟨mk 36 [(11, (.int .i64 0)), (10, v0), (9, lk l 0), (0, lk l 0), (1, lk l 1)], rows, low⟩ r := rg [0, 1] c91r25 rfl (by kernel_rfl)
@[simp] theorem uc91s26 : Ex F cx (.code c91s26 :: k) s r ↔ Ex F cx (.code (.seq (.seq c91k25 c91s24) c91s5) :: k) s r := Iff.rfl
@[simp] theorem uc91k27 : Ex F cx (.code c91k27 :: k) ⟨mk 36 l, rows, low⟩ r ↔ Ex F cx k ⟨mk 36 [(4, (.int .i64 0)), (0, lk l 0), (1, lk l 1)], rows, low⟩ r := rg [0, 1] c91r27 rfl (by kernel_rfl)
def Jc91s1 (F : Nat → Option IFn) (cx : Ctx) (rows : List Row) (low : Nat) (r : AV × List Row × Nat → Prop) : Prop := Ex F cx (.code c91s1 :: []) ⟨mk 36 [], rows, low⟩ r
def Jc91s15 (F : Nat → Option IFn) (cx : Ctx) (x0 x1 x5 x6 x9 x10 x11 : AV) (rows : List Row) (low : Nat) (r : AV × List Row × Nat → Prop) : Prop := Ex F cx (.code c91s15 :: .inBlock 1 :: .code c91k7 :: .inLoop c91l6 :: .inBlock 0 :: .code c91s5 :: []) ⟨mk 36 [(0, x0), (1, x1), (5, x5), (6, x6), (9, x9), (10, x10), (11, x11)], rows, low⟩ r
def Jc91s21 (F : Nat → Option IFn) (cx : Ctx) (x0 x1 x9 x10 x11 : AV) (rows : List Row) (low : Nat) (r : AV × List Row × Nat → Prop) : Prop := Ex F cx (.code c91s21 :: .inLoop c91l6 :: .inBlock 0 :: .code c91s5 :: []) ⟨mk 36 [(0, x0), (1, x1), (9, x9), (10, x10), (11, x11)], rows, low⟩ r
def Lc91l6 (F : Nat → Option IFn) (cx : Ctx) (x0 x1 x9 x10 x11 : AV) (rows : List Row) (low : Nat) (r : AV × List Row × Nat → Prop) : Prop := Ex F cx (.code c91l6 :: .inLoop c91l6 :: .inBlock 0 :: .code c91s5 :: []) ⟨mk 36 [(0, x0), (1, x1), (9, x9), (10, x10), (11, x11)], rows, low⟩ r
@[simp] theorem nc91l6 : Ex F cx (.inLoop c91l6 :: .inBlock 0 :: .code c91s5 :: []) ⟨mk 36 l, rows, low⟩ r ↔ Lc91l6 F cx (lk l 0) (lk l 1) (lk l 9) (lk l 10) (lk l 11) rows low r := loopN (keep := [0, 1, 9, 10, 11]) (by kernel_rfl)
@[simp] theorem ec91l6 : Ex F cx (.code (.loop c91l6) :: .inBlock 0 :: .code c91s5 :: []) ⟨mk 36 l, rows, low⟩ r ↔ Lc91l6 F cx (lk l 0) (lk l 1) (lk l 9) (lk l 10) (lk l 11) rows low r := loopE (keep := [0, 1, 9, 10, 11]) (by kernel_rfl)
@[simp] theorem uc91l6 : Ex F cx (.code c91l6 :: k) s r ↔ Ex F cx (.code (.seq c91k23 c91s22) :: k) s r := Iff.rfl
@[simp] theorem uc91b : Ex F cx (.code c91b :: k) s r ↔ Ex F cx (.code (.seq c91k27 c91s26) :: k) s r := Iff.rfl
theorem i91 {x0 x1 : AV} (hF : F 91 = some c91) {q : AV × List Row × Option Nat} (h : Ex F (.fn [.t 4]) [.code c91b] ⟨mk 36 [(0, x0), (1, x1)], rows, rows.length⟩ fun r => fin rows r.1 r.2.1 r.2.2 = q) : Ret F 91 [x0, x1] rows = some q := Ret_mk hF h
@[simp] theorem uc92k0 : Ex F cx (.code c92k0 :: k) ⟨mk 9 l, rows, low⟩ r ↔ bnd (evP rows (.loadN 2 (.c (lk l 3)))) fun v0 => bnd (Ret F 75 [lk l 0, v0] rows) fun q1 => bnd (evP q1.2.1 (.bin .geq (.c q1.1) (.c (.int .i64 0)))) fun v2 => Ex F cx k ⟨mk 9 [(4, v2), (8, v2), (7, q1.1), (6, v0), (5, lk l 0), (0, lk l 0), (3, lk l 3)], q1.2.1, (lowO low q1.2.2)⟩ r := rg [0, 3] c92r0 rfl (by kernel_rfl)
@[simp] theorem uc92s1 : Ex F cx (.code c92s1 :: k) s r ↔ Ex F cx (.code (.seq c92k0 .ret) :: k) s r := Iff.rfl
@[simp] theorem uc92k2 : Ex F cx (.code c92k2 :: k) ⟨mk 9 l, rows, low⟩ r ↔ bnd (evE rows low (.box (.c (lk l 1)))) fun q0 => Ex F cx k ⟨mk 9 [(4, (.bool false)), (3, q0.1), (0, lk l 0), (1, lk l 1)], q0.2.1, q0.2.2⟩ r := rg [0, 1] c92r2 rfl (by kernel_rfl)
@[simp] theorem uc92b : Ex F cx (.code c92b :: k) s r ↔ Ex F cx (.code (.seq c92k2 c92s1) :: k) s r := Iff.rfl
theorem i92 {x0 x1 : AV} (hF : F 92 = some c92) {q : AV × List Row × Option Nat} (h : Ex F (.fn [.t 4]) [.code c92b] ⟨mk 9 [(0, x0), (1, x1)], rows, rows.length⟩ fun r => fin rows r.1 r.2.1 r.2.2 = q) : Ret F 92 [x0, x1] rows = some q := Ret_mk hF h
@[simp] theorem uc94k0 : Ex F cx (.code c94k0 :: k) ⟨mk 9 l, rows, low⟩ r ↔ bnd (evP rows (.bin .lss (.c (lk l 0)) (.c (.int .i64 (-100))))) fun v0 => bnd (gv v0 false (evP rows (.mv (.c (lk l 0))))) fun v1 => bnd (gv v0 false (evP rows (.bin .gtr (.c v1) (.c (.int .i64 100))))) fun v2 => bnd (evP rows (.pick (.c v0) (.c (.bool true)) (.c v2))) fun v3 => Ex F cx k ⟨mk 9 [(2, v3), (8, v3), (7, v2), (6, v1), (5, v0), (4, v0), (3, lk l 0), (0, lk l 0)], rows, low⟩ r := rg [0] c94r0 rfl (by kernel_rfl)
@[simp] theorem uc94s1 : Ex F cx (.code c94s1 :: k) s r ↔ Ex F cx (.code (.seq c94k0 .ret) :: k) s r := Iff.rfl
@[simp] theorem uc94k2 : Ex F cx (.code c94k2 :: k) ⟨mk 9 l, rows, low⟩ r ↔ Ex F cx k ⟨mk 9 [(2, (.bool false)), (0, lk l 0)], rows, low⟩ r := rg [0] c94r2 rfl (by kernel_rfl)
@[simp] theorem uc94b : Ex F cx (.code c94b :: k) s r ↔ Ex F cx (.code (.seq c94k2 c94s1) :: k) s r := Iff.rfl
theorem i94 {x0 : AV} (hF : F 94 = some c94) {q : AV × List Row × Option Nat} (h : Ex F (.fn [.t 2]) [.code c94b] ⟨mk 9 [(0, x0)], rows, rows.length⟩ fun r => fin rows r.1 r.2.1 r.2.2 = q) : Ret F 94 [x0] rows = some q := Ret_mk hF h
@[simp] theorem uc103k0 : Ex F cx (.code c103k0 :: k) ⟨mk 19 l, rows, low⟩ r ↔ Ex F cx k ⟨mk 19 [(4, (.int .i64 (-1)))], rows, low⟩ r := rg [] c103r0 rfl (by kernel_rfl)
@[simp] theorem uc103s1 : Ex F cx (.code c103s1 :: k) s r ↔ Ex F cx (.code (.seq c103k0 .ret) :: k) s r := Iff.rfl
@[simp] theorem uc103k3 : Ex F cx (.code c103k3 :: k) ⟨mk 19 l, rows, low⟩ r ↔ bnd (evP rows (.bin .add (.c (lk l 8)) (.c (.int .i64 1)))) fun v0 => Ex F cx k ⟨mk 19 [(8, v0), (18, v0), (0, lk l 0), (1, lk l 1), (7, lk l 7), (8, lk l 8)], rows, low⟩ r := rg [0, 1, 7, 8] c103r3 rfl (by kernel_rfl)
@[simp] theorem uc103k4 : Ex F cx (.code c103k4 :: k) ⟨mk 19 l, rows, low⟩ r ↔ Ex F cx k ⟨mk 19 [(4, lk l 5), (17, lk l 5), (5, lk l 5)], rows, low⟩ r := rg [5] c103r4 rfl (by kernel_rfl)
@[simp] theorem uc103s5 : Ex F cx (.code c103s5 :: k) s r ↔ Ex F cx (.code (.cond (.t 16) (.seq c103k4 .ret) .skip) :: k) s r := Iff.rfl
@[simp] theorem uc103k6 : Ex F cx (.code c103k6 :: k) ⟨mk 19 l, rows, low⟩ r ↔ bnd (evP rows (.idxS 1 (.c (lk l 0)) (.c (lk l 5)))) fun v0 => bnd (evP rows (.load1 (.c v0))) fun v1 => callK F rows low [v1] (fun v2 R2 L2 => Ex F cx k ⟨mk 19 [(16, v2), (15, v1), (14, v0), (13, lk l 5), (12, lk l 0), (11, lk l 1), (0, lk l 0), (1, lk l 1), (5, lk l 5), (7, lk l 7), (8, lk l 8)], R2, L2⟩ r) [] (lk l 1) := rg [0, 1, 5, 7, 8] c103r6 rfl (by kernel_rfl)
@[simp] theorem uc103s7 : Ex F cx (.code c103s7 :: k) s r ↔ Ex F cx (.code (.seq c103k6 c103s5) :: k) s r := Iff.rfl
@[simp] theorem uc103k8 : Ex F cx (.code c103k8 :: k) ⟨mk 19 l, rows, low⟩ r ↔ Ex F cx k ⟨mk 19 [(5, lk l 8), (10, lk l 8), (0, lk l 0), (1, lk l 1), (7, lk l 7), (8, lk l 8)], rows, low⟩ r := rg [0, 1, 7, 8] c103r8 rfl (by kernel_rfl)
@[simp] theorem uc103s9 : Ex F cx (.code c103s9 :: k) s r ↔ Ex F cx (.code (.seq (.block 1 (.seq c103k8 c103s7)) c103k3) :: k) s r := Iff.rfl
@[simp] theorem uc103s10 : Ex F cx (.code c103s10 :: k) s r ↔ Ex F cx (.code (.seq (.cond (.t 9) .skip (.exit 0)) c103s9) :: k) s r := Iff.rfl
@[simp] theorem uc103k11 : Ex F cx (.code c103k11 :: k) ⟨mk 19 l, rows, low⟩ r ↔ bnd (evP rows (.bin .lss (.c (lk l 8)) (.c (lk l 7)))) fun v0 => Ex F cx k ⟨mk 19 [(9, v0), (0, lk l 0), (1, lk l 1), (7, lk l 7), (8, lk l 8)], rows, low⟩ r := rg [0, 1, 7, 8] c103r11 rfl (by kernel_rfl)
@[simp] theorem uc103s12 : Ex F cx (.code c103s12 :: k) s r ↔ Ex F cx (.code (.block 0 (.loop c103l2)) :: k) s r := Iff.rfl
@[simp] theorem uc103k13 : Ex F cx (.code c103k13 :: k) ⟨mk 19 l, rows, low⟩ r ↔ bnd (evP rows (.len 0 (.c (lk l 0)))) fun v0 => Ex F cx k ⟨mk 19 [(8, (.int .i64 0)), (7, v0), (6, lk l 0), (0, lk l 0), (1, lk l 1)], rows, low⟩ r := rg [0, 1] c103r13 rfl (by kernel_rfl)
@[simp] theorem uc103s14 : Ex F cx (.code c103s14 :: k) s r ↔ Ex F cx (.code (.seq (.seq c103k13 c103s12) c103s1) :: k) s r := Iff.rfl
@[simp] theorem uc103k15 : Ex F cx (.code c103k15 :: k) ⟨mk 19 l, rows, low⟩ r ↔ Ex F cx k ⟨mk 19 [(4, (.int .i64 0)), (0, lk l 0), (1, lk l 1)], rows, low⟩ r := rg [0, 1] c103r15 rfl (by kernel_rfl)
def Jc103s9 (F : Nat → Option IFn) (cx : Ctx) (x0 x1 x7 x8 : AV) (rows : List Row) (low : Nat) (r : AV × List Row × Nat → Prop) : Prop := Ex F cx (.code c103s9 :: .inLoop c103l2 :: .inBlock 0 :: .code c103s1 :: []) ⟨mk 19 [(0, x0), (1, x1), (7, x7), (8, x8)], rows, low⟩ r
def Lc103l2 (F : Nat → Option IFn) (cx : Ctx) (x0 x1 x7 x8 : AV) (rows : List Row) (low : Nat) (r : AV × List Row × Nat → Prop) : Prop := Ex F cx (.code c103l2 :: .inLoop c103l2 :: .inBlock 0 :: .code c103s1 :: []) ⟨mk 19 [(0, x0), (1, x1), (7, x7), (8, x8)], rows, low⟩ r
@[simp] theorem nc103l2 : Ex F cx (.inLoop c103l2 :: .inBlock 0 :: .code c103s1 :: []) ⟨mk 19 l, rows, low⟩ r ↔ Lc103l2 F cx (lk l 0) (lk l 1) (lk l 7) (lk l 8) rows low r := loopN (keep := [0, 1, 7, 8]) (by kernel_rfl)
@[simp] theorem ec103l2 : Ex F cx (.code (.loop c103l2) :: .inBlock 0 :: .code c103s1 :: []) ⟨mk 19 l, rows, low⟩ r ↔ Lc103l2 F cx (lk l 0) (lk l 1) (lk l 7) (lk l 8) rows low r := loopE (keep := [0, 1, 7, 8]) (by kernel_rfl)
@[simp] theorem uc103l2 : Ex F cx (.code c103l2 :: k) s r ↔ Ex F cx (.code (.seq c103k11 c103s10) :: k) s r := Iff.rfl
@[simp] theorem uc103b : Ex F cx (.code c103b :: k) s r ↔ Ex F cx (.code (.seq c103k15 c103s14) :: k) s r := Iff.rfl
theorem i103 {x0 x1 : AV} (hF : F 103 = some c103) {q : AV × List Row × Option Nat} (h : Ex F (.fn [.t 4]) [.code c103b] ⟨mk 19 [(0, x0), (1, x1)], rows, rows.length⟩ fun r => fin rows r.1 r.2.1 r.2.2 = q) : Ret F 103 [x0, x1] rows = some q := Ret_mk hF h
@[simp] theorem uc105k0 : Ex F cx (.code c105k0 :: k) ⟨mk 20 l, rows, low⟩ r ↔ Ex F cx k ⟨mk 20 [(4, (.int .i64 0))], rows, low⟩ r := rg [] c105r0 rfl (by kernel_rfl)
@[simp] theorem uc105s1 : Ex F cx (.code c105s1 :: k) s r ↔ Ex F cx (.code (.seq c105k0 .ret) :: k) s r := Iff.rfl
@[simp] theorem uc105k2 : Ex F cx (.code c105k2 :: k) ⟨mk 20 l, rows, low⟩ r ↔ Ex F cx k ⟨mk 20 [(4, (.int .i64 1))], rows, low⟩ r := rg [] c105r2 rfl (by kernel_rfl)
@[simp] theorem uc105s3 : Ex F cx (.code c105s3 :: k) s r ↔ Ex F cx (.code (.cond (.t 19) (.seq c105k2 .ret) .skip) :: k) s r := Iff.rfl
@[simp] theorem uc105k4 : Ex F cx (.code c105k4 :: k) ⟨mk 20 l, rows, low⟩ r ↔ bnd (evP rows (.bin .gtr (.c (lk l 0)) (.c (lk l 1)))) fun v0 => Ex F cx k ⟨mk 20 [(19, v0), (18, lk l 1), (17, lk l 0), (0, lk l 0), (1, lk l 1)], rows, low⟩ r := rg [0, 1] c105r4 rfl (by kernel_rfl)
@[simp] theorem uc105s5 : Ex F cx (.code c105s5 :: k) s r ↔ Ex F cx (.code (.seq (.seq c105k4 c105s3) c105s1) :: k) s r := Iff.rfl
@[simp] theorem uc105k6 : Ex F cx (.code c105k6 :: k) ⟨mk 20 l, rows, low⟩ r ↔ Ex F cx k ⟨mk 20 [(4, (.int .i64 (-1)))], rows, low⟩ r := rg [] c105r6 rfl (by kernel_rfl)
@[simp] theorem uc105s7 : Ex F cx (.code c105s7 :: k) s r ↔ Ex F cx (.code (.cond (.t 16) (.seq c105k6 .ret) .skip) :: k) s r := Iff.rfl
@[simp] theorem uc105k8 : Ex F cx (.code c105k8 :: k) ⟨mk 20 l, rows, low⟩ r ↔ bnd (evP rows (.bin .lss (.c (lk l 0)) (.c (lk l 1)))) fun v0 => Ex F cx k ⟨mk 20 [(16, v0), (15, lk l 1), (14, lk l 0), (0, lk l 0), (1, lk l 1)], rows, low⟩ r := rg [0, 1] c105r8 rfl (by kernel_rfl)
@[simp] theorem uc105s9 : Ex F cx (.code c105s9 :: k) s r ↔ Ex F cx (.code (.seq (.seq c105k8 c105s7) c105s5) :: k) s r := Iff.rfl
@[simp] theorem uc105s11 : Ex F cx (.code c105s11 :: k) s r ↔ Ex F cx (.code (.cond (.t 13) (.seq c105k10 .ret) .skip) :: k) s r := Iff.rfl
@[simp] theorem uc105k12 : Ex F cx (.code c105k12 :: k) ⟨mk 20 l, rows, low⟩ r ↔ Ex F cx k ⟨mk 20 [(13, lk l 6), (0, lk l 0), (1, lk l 1), (6, lk l 6)], rows, low⟩ r := rg [0, 1, 6] c105r12 rfl (by kernel_rfl)
@[simp] theorem uc105s13 : Ex F cx (.code c105s13 :: k) s r ↔ Ex F cx (.code (.seq (.seq c105k12 c105s11) c105s9) :: k) s r := Iff.rfl
@[simp] theorem uc105s15 : Ex F cx (.code c105s15 :: k) s r ↔ Ex F cx (.code (.seq c105k14 .ret) :: k) s r := Iff.rfl
@[simp] theorem uc105s17 : Ex F cx (.code c105s17 :: k) s r ↔ Ex F cx (.code (.cond (.t 12) (.seq c105k16 .ret) .skip) :: k) s r := Iff.rfl
@[simp] theorem uc105s19 : Ex F cx (.code c105s19 :: k) s r ↔ Ex F cx (.code (.cond (.t 11) (.seq (.seq c105k18 c105s17) c105s15) .skip) :: k) s r := Iff.rfl
@[simp] theorem uc105k20 : Ex F cx (.code c105k20 :: k) ⟨mk 20 l, rows, low⟩ r ↔ Ex F cx k ⟨mk 20 [(11, lk l 5), (0, lk l 0), (1, lk l 1), (5, lk l 5), (6, lk l 6)], rows, low⟩ r := rg [0, 1, 5, 6] c105r20 rfl (by kernel_rfl)
@[simp] theorem uc105s21 : Ex F cx (.code c105s21 :: k) s r ↔ Ex F cx (.code (.seq (.seq c105k20 c105s19) c105s13) :: k) s r := Iff.rfl
@[simp] theorem uc105k22 : Ex F cx (.code c105k22 :: k) ⟨mk 20 l, rows, low⟩ r ↔ bnd (Ret F 107 [lk l 1] rows) fun q0 => Ex F cx k ⟨mk 20 [(6, q0.1), (10, q0.1), (9, lk l 1), (0, lk l 0), (1, lk l 1), (5, lk l 5)], q0.2.1, (lowO low q0.2.2)⟩ r := rg [0, 1, 5] c105r22 rfl (by kernel_rfl)
@[simp] theorem uc105s23 : Ex F cx (.code c105s23 :: k) s r ↔ Ex F cx (.code (.seq c105k22 c105s21) :: k) s r := Iff.rfl
@[simp] theorem uc105k24 : Ex F cx (.code c105k24 :: k) ⟨mk 20 l, rows, low⟩ r ↔ bnd (Ret F 107 [lk l 0] rows) fun q0 => Ex F cx k ⟨mk 20 [(5, q0.1), (8, q0.1), (7, lk l 0), (0, lk l 0), (1, lk l 1)], q0.2.1, (lowO low q0.2.2)⟩ r := rg [0, 1] c105r24 rfl (by kernel_rfl)
@[simp] theorem uc105s25 : Ex F cx (.code c105s25 :: k) s r ↔ Ex F cx (.code (.seq c105k24 c105s23) :: k) s r := Iff.rfl
@[simp] theorem uc105k26 : Ex F cx (.code c105k26 :: k) ⟨mk 20 l, rows, low⟩ r ↔ Ex F cx k ⟨mk 20 [(4, (.int .i64 0)), (0, lk l 0), (1, lk l 1)], rows, low⟩ r := rg [0, 1] c105r26 rfl (by kernel_rfl)
def Jc105s1 (F : Nat → Option IFn) (cx : Ctx) (rows : List Row) (low : Nat) (r : AV × List Row × Nat → Prop) : Prop := Ex F cx (.code c105s1 :: []) ⟨mk 20 [], rows, low⟩ r
def Jc105s5 (F : Nat → Option IFn) (cx : Ctx) (x0 x1 : AV) (rows : List Row) (low : Nat) (r : AV × List Row × Nat → Prop) : Prop := Ex F cx (.code c105s5 :: []) ⟨mk 20 [(0, x0), (1, x1)], rows, low⟩ r
def Jc105s9 (F : Nat → Option IFn) (cx : Ctx) (x0 x1 : AV) (rows : List Row) (low : Nat) (r : AV × List Row × Nat → Prop) : Prop := Ex F cx (.code c105s9 :: []) ⟨mk 20 [(0, x0), (1, x1)], rows, low⟩ r
def Jc105s13 (F : Nat → Option IFn) (cx : Ctx) (x0 x1 x6 : AV) (rows : List Row) (low : Nat) (r : AV × List Row × Nat → Prop) : Prop := Ex F cx (.code c105s13 :: []) ⟨mk 20 [(0, x0), (1, x1), (6, x6)], rows, low⟩ r
def Jc105s15 (F : Nat → Option IFn) (cx : Ctx) (rows : List Row) (low : Nat) (r : AV × List Row × Nat → Prop) : Prop := Ex F cx (.code c105s15 :: .code c105s13 :: []) ⟨mk 20 [], rows, low⟩ r
@[simp] theorem uc105b : Ex F cx (.code c105b :: k) s r ↔ Ex F cx (.code (.seq c105k26 c105s25) :: k) s r := Iff.rfl
theorem i105 {x0 x1 : AV} (hF : F 105 = some c105) {q : AV × List Row × Option Nat} (h : Ex F (.fn [.t 4]) [.code c105b] ⟨mk 20 [(0, x0), (1, x1)], rows, rows.length⟩ fun r => fin rows r.1 r.2.1 r.2.2 = q) : Ret F 105 [x0, x1] rows = some q := Ret_mk hF h
@[simp] theorem uc107k0 : Ex F cx (.code c107k0 :: k) ⟨mk 6 l, rows, low⟩ r ↔ bnd (evP rows (.bin .neq (.c (lk l 0)) (.c (lk l 0)))) fun v0 => Ex F cx k ⟨mk 6 [(2, v0), (5, v0), (4, lk l 0), (3, lk l 0), (0, lk l 0)], rows, low⟩ r := rg [0] c107r0 rfl (by kernel_rfl)
@[simp] theorem uc107s1 : Ex F cx (.code c107s1 :: k) s r ↔ Ex F cx (.code (.seq c107k0 .ret) :: k) s r := Iff.rfl
@[simp] theorem uc107k2 : Ex F cx (.code c107k2 :: k) ⟨mk 6 l, rows, low⟩ r ↔ Ex F cx k ⟨mk 6 [(2, (.bool false)), (0, lk l 0)], rows, low⟩ r := rg [0] c107r2 rfl (by kernel_rfl)
@[simp] theorem uc107b : Ex F cx (.code c107b :: k) s r ↔ Ex F cx (.code (.seq c107k2 c107s1) :: k) s r := Iff.rfl
theorem i107 {x0 : AV} (hF : F 107 = some c107) {q : AV × List Row × Option Nat} (h : Ex F (.fn [.t 2]) [.code c107b] ⟨mk 6 [(0, x0)], rows, rows.length⟩ fun r => fin rows r.1 r.2.1 r.2.2 = q) : Ret F 107 [x0] rows = some q := Ret_mk hF h
end Go.Abs

namespace Go.Abs
section
variable {rows : List Row}
def nmb (x : Int) : Int := IntKind.i64.wrap ((IntKind.u64.wrap x).tmod 201) - 100
theorem nmb_ok (x : Int) : -100 ≤ nmb x ∧ nmb x ≤ 100 := by
 obtain ⟨r, h1, h2⟩ := umodI (x := x) (m := 201) (by omega) (by omega)
 unfold nmb
 rw [h1]
 omega
def nmbAt (l : List Int) (i : Nat) : Int := if i < l.length then nmb (gI l i) else 0
theorem nmbAt_ok (l : List Int) (i : Nat) : -100 ≤ nmbAt l i ∧ nmbAt l i ≤ 100 := by
 unfold nmbAt
 split
 ·exact nmb_ok _
 ·omega
def nmbs (l : List Int) (n : Nat) : List Int := (List.range n).map (nmbAt l)
@[simp] theorem nmbs_len {l : List Int} {n : Nat} : (nmbs l n).length = n := by simp [nmbs]
theorem nmbs_succ {l : List Int} {n : Nat} : nmbs l (n + 1) = nmbs l n ++ [nmbAt l n] := by simp [nmbs, List.range_succ]
theorem nmbs_ok {l : List Int} {n : Nat} : ∀ x ∈ nmbs l n, -100 ≤ x ∧ x ≤ 100 := by
 intro x hx
 obtain ⟨i, _, rfl⟩ := List.mem_map.1 hx
 exact nmbAt_ok l i
theorem nums_len' {k : IntKind} {a : List Int} : (nums k a).length = a.length := by simp [nums]
set_option maxHeartbeats 4000000 in
theorem numbers_loop {v : AV} {l : List Int} {m : Nat} (h : IsL rows v l) (hm : m ≤ 100) {q : AV × List Row × Option Nat} (hq : newW rows 1 (nums .i64 (nmbs l m)) m = q) : ∀ (d i : Nat) (H : List Row), m - i = d → i ≤ m → H.all (Row.under 0) = true →
  Lc20l2 F (.fn [.t 4]) v (.int .i64 m) (accV rows H 1 (nums .i64 (nmbs l i)) i) (.int .i64 i) (rows ++ accR H (nums .i64 (nmbs l i))) rows.length (fun r => fin rows r.1 r.2.1 r.2.2 = q) := by
 intro d
 induction d with
 |
  zero =>
  intro i H hd h1 hH
  have hi : i = m := by omega
  subst hi
  unfold Lc20l2
  simp
  rw [acc_fin nums_und]
  exact hq
 |
  succ d ih =>
  intro i H hd h1 hH
  have hi : i < m := by omega
  obtain ⟨H', hH', e⟩ := acc_more (rows := rows) (H := H) (sz := 1) (n := i) (cs := nums .i64 (nmbs l i)) (x := [.int .i64 (nmbAt l i)]) (low := rows.length) (b := 8) (by simp [nums]) rfl (by omega) (by omega) (Nat.le_refl _) hH nums_und (by simp [Row.under, AV.under, AV.ids])
  have := ih (i + 1) H' (by omega) (by omega) hH'
  rw [nmbs_succ, ← nums_app] at this
  have hw : IntKind.i64.wrap ((i : Int) + 1) = ((i + 1 : Nat) : Int) := by rw [wrap64 (by omega) (by omega)]; omega
  have h' := IsL_app h (accR H (nums .i64 (nmbs l i)))
  unfold Lc20l2
  by_cases hl : i < l.length
  ·have e1 : nmbAt l i = nmb (gI l i) := by unfold nmbAt; rw [if_pos hl]
   have hb := nmb_ok (gI l i)
   have hw2 : IntKind.i64.wrap (IntKind.i64.wrap ((IntKind.u64.wrap (gI l i)).tmod 201) - 100) = nmb (gI l i) := by
    have : IntKind.i64.wrap ((IntKind.u64.wrap (gI l i)).tmod 201) - 100 = nmb (gI l i) := rfl
    rw [this, wrap64 (by omega) (by omega)]
   rw [e1] at e this
   simp (disch := first | omega | (simp; done) | fail) [hi, lenL0 h', idxL0 h', loadL0 h', hl, hw2, fillA, splice, e, hw]
   simpa [nums] using this
  ·have e1 : nmbAt l i = 0 := by unfold nmbAt; rw [if_neg hl]
   rw [e1] at e this
   simp (disch := first | omega | (simp; done) | fail) [hi, lenL0 h', hl, fillA, splice, e, hw]
   simpa [nums] using this
theorem numbers_ret {v : AV} {l : List Int} {m : Nat} (h : IsL rows v l) (hm : m ≤ 100) : Ret F 20 [v, .int .i64 m] rows = some (newW rows 1 (nums .i64 (nmbs l m)) m) := by
 refine i20 F20 ?_
 have := numbers_loop h hm rfl m 0 [] (by omega) (by omega) rfl
 simp [nmbs] at this ⊢
 simpa [nmbs, nums] using this
end
end Go.Abs

namespace Go.Abs
section
variable {rows : List Row}
theorem isNaN_ret {k : IntKind} {n : Int} : Ret F 107 [.int k n] rows = some (.bool false, rows, none) := by
 refine i107 F107 ?_
 simp
theorem cmp_ret {a b : Int} : Ret F 105 [.int .i64 a, .int .i64 b] rows = some (.int .i64 (if a < b then -1 else if b < a then 1 else 0), rows, none) := by
 refine i105 F105 ?_
 by_cases h1 : a < b
 ·simp [isNaN_ret, h1]
 ·by_cases h2 : b < a <;> simp [isNaN_ret, h1, h2]
def cmpL : List Int → List Int → Int
 | [], [] => 0
 | [], _ :: _ => -1
 | _ :: _, [] => 1
 | a :: l, b :: m => if a < b then -1 else if b < a then 1 else cmpL l m
set_option maxHeartbeats 4000000 in
theorem Compare_loop {v w : AV} {l m : List Int} (h : IsL rows v l) (h2 : IsL rows w m) (hl : l.length ≤ 1000) (hm : m.length ≤ 1000) {q : AV × List Row × Option Nat} (hq : (.int .i64 (cmpL l m), rows, none) = q) : ∀ (d i : Nat), l.length - i = d → i ≤ l.length → i ≤ m.length → cmpL (l.drop i) (m.drop i) = cmpL l m →
  Lc91l6 F (.fn [.t 4]) v w v (.int .i64 l.length) (.int .i64 i) rows rows.length (fun r => fin rows r.1 r.2.1 r.2.2 = q) := by
 intro d
 induction d with
 |
  zero =>
  intro i hd h1 h3 he
  have hi : i = l.length := by omega
  subst hi
  rw [List.drop_of_length_le (Nat.le_refl _)] at he
  unfold Lc91l6
  by_cases hlt : l.length < m.length
  ·have e : cmpL l m = -1 := by
    rw [← he, List.drop_eq_getElem_cons hlt]; rfl
   simp [lenL0 h, lenL0 h2, hlt]
   rw [← hq, e]
  ·have e : cmpL l m = 0 := by
    rw [← he, List.drop_of_length_le (by omega)]; rfl
   simp [lenL0 h, lenL0 h2, hlt]
   rw [← hq, e]
 |
  succ d ih =>
  intro i hd h1 h3 he
  have hi : i < l.length := by omega
  have hw : IntKind.i64.wrap ((i : Int) + 1) = ((i + 1 : Nat) : Int) := by rw [wrap64 (by omega) (by omega)]; omega
  rw [List.drop_eq_getElem_cons hi] at he
  unfold Lc91l6
  by_cases hlt : i < m.length
  ·rw [List.drop_eq_getElem_cons hlt] at he
   simp only [cmpL] at he
   have g1 := gI_eq hi
   have g2 := gI_eq hlt
   rw [← g1, ← g2] at he
   by_cases c1 : gI l i < gI m i
   ·rw [if_pos c1] at he
    simp (disch := first | omega | (simp; done) | fail) [hi, idxL0 h, loadL0 h, lenL0 h2, hlt, idxL0 h2, loadL0 h2, cmp_ret, c1, show ¬ ((m.length : Int) ≤ i) by omega]
    rw [← hq, ← he]
   ·rw [if_neg c1] at he
    by_cases c2 : gI m i < gI l i
    ·rw [if_pos c2] at he
     simp (disch := first | omega | (simp; done) | fail) [hi, idxL0 h, loadL0 h, lenL0 h2, hlt, idxL0 h2, loadL0 h2, cmp_ret, c1, c2, show ¬ ((m.length : Int) ≤ i) by omega]
     rw [← hq, ← he]
    ·rw [if_neg c2] at he
     simp (disch := first | omega | (simp; done) | fail) [hi, idxL0 h, loadL0 h, lenL0 h2, hlt, idxL0 h2, loadL0 h2, cmp_ret, c1, c2, hw, show ¬ ((m.length : Int) ≤ i) by omega]
     exact ih (i + 1) (by omega) (by omega) (by omega) he
  ·have e : cmpL l m = 1 := by
    rw [← he, show m.drop i = [] from List.drop_of_length_le (by omega)]; rfl
   simp (disch := first | omega | (simp; done) | fail) [hi, idxL0 h, loadL0 h, lenL0 h2, hlt, show ((m.length : Int) ≤ i) by omega]
   rw [← hq, e]
theorem Compare_ret {v w : AV} {l m : List Int} (h : IsL rows v l) (h2 : IsL rows w m) (hl : l.length ≤ 1000) (hm : m.length ≤ 1000) : Ret F 91 [v, w] rows = some (.int .i64 (cmpL l m), rows, none) := by
 refine i91 F91 ?_
 simp [lenL0 h]
 exact Compare_loop h h2 hl hm rfl _ 0 rfl (by omega) (by omega) rfl

def pix (fl : List Int) (a b : Int) : Nat → Nat → Int
 | 0, _ => -1
 | d + 1, i => if gI fl (i * 2) = a ∧ gI fl (i * 2 + 1) = b then i else pix fl a b d (i + 1)
theorem pix_s {fl : List Int} {a b : Int} {d i : Nat} : pix fl a b (d + 1) i = if gI fl (i * 2) = a ∧ gI fl (i * 2 + 1) = b then (i : Int) else pix fl a b d (i + 1) := rfl
theorem Index2_loop {v : AV} {fl : List Int} {n : Nat} (h : El rows 2 v (nums .i64 fl) n) (hn : n ≤ 1000000) {a b : Int} {q : AV × List Row × Option Nat} (hq : (.int .i64 (pix fl a b n 0), rows, none) = q) : ∀ (d i : Nat), n - i = d → i ≤ n → pix fl a b d i = pix fl a b n 0 →
  Lc75l2 F (.fn [.t 4]) v (.ptr rows.length 0) (.int .i64 n) (.int .i64 i) (rows ++ [.cells [.int .i64 a, .int .i64 b]]) rows.length (fun r => fin rows r.1 r.2.1 r.2.2 = q) := by
 have h' := El_app h [.cells [.int .i64 a, .int .i64 b]]
 intro d
 induction d with
 |
  zero =>
  intro i hd h1 he
  have hi : i = n := by omega
  subst hi
  unfold Lc75l2
  simp
  rw [← hq, ← he]; rfl
 |
  succ d ih =>
  intro i hd h1 he
  have hi : i < n := by omega
  have hw : IntKind.i64.wrap ((i : Int) + 1) = ((i + 1 : Nat) : Int) := by rw [wrap64 (by omega) (by omega)]; omega
  rw [pix_s] at he
  unfold Lc75l2
  by_cases hc : gI fl (i * 2) = a ∧ gI fl (i * 2 + 1) = b
  ·rw [if_pos hc] at he
   obtain ⟨c1, c2⟩ := hc
   simp (disch := first | omega | (simp; done) | fail) [hi, idxW h', ldW2 h', seg, eqA, eqInts, c1, c2]
   rw [← hq, ← he]
  ·rw [if_neg hc] at he
   have hne : (a == gI fl (i * 2) && b == gI fl (i * 2 + 1)) = false := by
    cases e : (a == gI fl (i * 2) && b == gI fl (i * 2 + 1)) with
    | false => rfl
    | true => simp at e; exact absurd ⟨e.1.symm, e.2.symm⟩ hc
   simp (disch := first | omega | (simp; done) | fail) [hi, idxW h', ldW2 h', seg, eqA, eqInts, hne, hw, -Bool.and_eq_true]
   exact ih (i + 1) (by omega) (by omega) he
theorem Index2_ret {v : AV} {fl : List Int} {n : Nat} (h : El rows 2 v (nums .i64 fl) n) (hn : n ≤ 1000000) {a b : Int} : Ret F 75 [v, .agg [.int .i64 a, .int .i64 b]] rows = some (.int .i64 (pix fl a b n 0), rows, none) := by
 refine i75 F75 ?_
 have h' := El_app h [.cells [.int .i64 a, .int .i64 b]]
 simp [lenW h']
 exact Index2_loop h hn rfl _ 0 rfl (by omega) rfl
theorem Contains2_ret {v : AV} {fl : List Int} {n : Nat} (h : El rows 2 v (nums .i64 fl) n) (hn : n ≤ 1000000) {a b : Int} : Ret F 92 [v, .agg [.int .i64 a, .int .i64 b]] rows = some (.bool (decide (0 ≤ pix fl a b n 0)), rows, none) := by
 refine i92 F92 ?_
 have h' := El_app h [.cells [.int .i64 a, .int .i64 b]]
 simp [seg, Index2_ret h' hn]

end
end Go.Abs

namespace Go.Abs
def eC (ks : List Nat) : List Int := ks.flatMap fun k => [((k / 6 : Nat) : Int), ((k % 6 : Nat) : Int)]
def pC (ps : List Nat) : List Int := ps.flatMap fun p => [((p / 36 : Nat) : Int), ((p / 6 % 6 : Nat) : Int), ((p % 6 : Nat) : Int)]
def gN (l : List Nat) (i : Nat) : Nat := l.getD i 0
theorem gN_eq {l : List Nat} {i : Nat} (h : i < l.length) : gN l i = l[i] := by simp [gN, h]
theorem gN_mem {l : List Nat} {i : Nat} (h : i < l.length) : gN l i ∈ l := by rw [gN_eq h]; exact List.getElem_mem h
theorem eC_app {a b : List Nat} : eC (a ++ b) = eC a ++ eC b := by simp [eC]
theorem pC_app {a b : List Nat} : pC (a ++ b) = pC a ++ pC b := by simp [pC]
theorem eC_len : ∀ ks : List Nat, (eC ks).length = ks.length * 2
 | [] => rfl
 |
  k :: ks => by
  have := eC_len ks
  simp only [eC, List.flatMap_cons, List.length_append, List.length_cons, List.length_nil] at *
  omega
theorem pC_len : ∀ ps : List Nat, (pC ps).length = ps.length * 3
 | [] => rfl
 |
  k :: ks => by
  have := pC_len ks
  simp only [pC, List.flatMap_cons, List.length_append, List.length_cons, List.length_nil] at *
  omega
theorem gI_cons_succ {x : Int} {l : List Int} {i : Nat} : gI (x :: l) (i + 1) = gI l i := by simp [gI]
theorem eC_a : ∀ {ks : List Nat} {i : Nat}, i < ks.length → gI (eC ks) (i * 2) = (gN ks i / 6 : Nat) ∧ gI (eC ks) (i * 2 + 1) = (gN ks i % 6 : Nat)
 | [], i, h => by simp at h
 |
  k :: ks, 0, h => by
  constructor <;> rfl
 |
  k :: ks, i + 1, h => by
  have ih := eC_a (ks := ks) (i := i) (by simpa using h)
  have e : gN (k :: ks) (i + 1) = gN ks i := by simp [gN]
  rw [e]
  have e2 : eC (k :: ks) = ((k / 6 : Nat) : Int) :: ((k % 6 : Nat) : Int) :: eC ks := rfl
  rw [e2, show (i + 1) * 2 = i * 2 + 1 + 1 from by omega, gI_cons_succ, gI_cons_succ, show i * 2 + 1 + 1 + 1 = (i * 2 + 1) + 1 + 1 from rfl, gI_cons_succ, gI_cons_succ]
  exact ih
theorem pC_a : ∀ {ps : List Nat} {i : Nat}, i < ps.length → gI (pC ps) (i * 3) = (gN ps i / 36 : Nat) ∧ gI (pC ps) (i * 3 + 1) = (gN ps i / 6 % 6 : Nat) ∧ gI (pC ps) (i * 3 + 2) = (gN ps i % 6 : Nat)
 | [], i, h => by simp at h
 | k :: ks, 0, h => ⟨rfl, rfl, rfl⟩
 |
  k :: ks, i + 1, h => by
  have ih := pC_a (ps := ks) (i := i) (by simpa using h)
  have e : gN (k :: ks) (i + 1) = gN ks i := by simp [gN]
  rw [e]
  have e2 : pC (k :: ks) = ((k / 36 : Nat) : Int) :: ((k / 6 % 6 : Nat) : Int) :: ((k % 6 : Nat) : Int) :: pC ks := rfl
  rw [e2, show (i + 1) * 3 = i * 3 + 1 + 1 + 1 from by omega, gI_cons_succ, gI_cons_succ, gI_cons_succ, show i * 3 + 1 + 1 + 1 + 1 = (i * 3 + 1) + 1 + 1 + 1 from rfl, gI_cons_succ, gI_cons_succ, gI_cons_succ,
   show i * 3 + 1 + 1 + 1 + 2 = (i * 3 + 2) + 1 + 1 + 1 from rfl, gI_cons_succ, gI_cons_succ, gI_cons_succ]
  exact ih
theorem pix_eC {ks : List Nat} {a b : Nat} (hb : b < 6) : ∀ d i, i + d = ks.length → (0 ≤ pix (eC ks) a b d i ↔ a * 6 + b ∈ ks.drop i)
 |
  0, i, h => by
  rw [List.drop_of_length_le (by omega)]
  simp [pix]
 |
  d + 1, i, h => by
  have hi : i < ks.length := by omega
  have ih := pix_eC (ks := ks) (a := a) hb d (i + 1) (by omega)
  obtain ⟨e1, e2⟩ := eC_a hi
  rw [List.drop_eq_getElem_cons hi, List.mem_cons, ← ih, ← gN_eq hi, pix_s, e1, e2]
  split
  ·rename_i e
   constructor
   ·intro _; left; omega
   ·intro _; omega
  ·rename_i e
   constructor
   ·intro h; exact .inr h
   ·rintro (h | h)
    ·exfalso; apply e; constructor <;> omega
    ·exact h
theorem pix_in {ks : List Nat} {a b : Nat} (hb : b < 6) : 0 ≤ pix (eC ks) a b ks.length 0 ↔ a * 6 + b ∈ ks := by
 have := pix_eC (ks := ks) (a := a) hb ks.length 0 (by omega)
 rwa [List.drop_zero] at this
theorem pix_hit {fl : List Int} {a b : Int} : ∀ d i, 0 ≤ pix fl a b d i → ∃ k : Nat, pix fl a b d i = k ∧ i ≤ k ∧ k < i + d ∧ gI fl (k * 2) = a ∧ gI fl (k * 2 + 1) = b
 | 0, i, h => by simp [pix] at h
 |
  d + 1, i, h => by
  rw [pix_s] at h ⊢
  split
  ·rename_i e
   exact ⟨i, rfl, Nat.le_refl _, by omega, e.1, e.2⟩
  ·rename_i e
   rw [if_neg e] at h
   obtain ⟨k, h1, h2, h3, h4⟩ := pix_hit d (i + 1) h
   exact ⟨k, h1, by omega, by omega, h4⟩
structure GOK (N : Nat) (ks ps : List Nat) : Prop where
 n1 : 1 ≤ N
 n6 : N ≤ 6
 ek : ks.length ≤ 10
 es : ks.Pairwise (· < ·)
 ee : ∀ k ∈ ks, k / 6 < k % 6 ∧ k % 6 < N
 pk : ps.length ≤ 6
 psd : ps.Pairwise (· < ·)
 pe : ∀ p ∈ ps, p / 36 < p / 6 % 6 ∧ p / 6 % 6 < p % 6 ∧ p < 216 ∧ p / 36 * 6 + p / 6 % 6 ∈ ks ∧ p / 36 * 6 + p % 6 ∈ ks ∧ p / 6 % 6 * 6 + p % 6 ∈ ks
structure GRd (rows : List Row) (g : AV) (N : Nat) (ks ps : List Nat) : Prop where
 ok : GOK N ks ps
 eq : ∃ ev pv, g = .agg [.int .i64 N, ev, pv] ∧ El rows 2 ev (nums .i64 (eC ks)) ks.length ∧ El rows 3 pv (nums .i64 (pC ps)) ps.length ∧ Cp 2 ev ∧ Cp 3 pv
theorem GRd.app {rows : List Row} {g : AV} {N : Nat} {ks ps : List Nat} (h : GRd rows g N ks ps) (L : List Row) : GRd (rows ++ L) g N ks ps := by
 obtain ⟨ev, pv, e, h1, h2, h3⟩ := h.eq
 exact ⟨h.ok, ev, pv, e, El_app h1 L, El_app h2 L, h3⟩
section
variable {rows : List Row}
theorem Edge_loop {n0 : AV} {ev pv : AV} {fl : List Int} {m : Nat} (h : El rows 2 ev (nums .i64 fl) m) (hm : m ≤ 1000000) {a b : Int} {q : AV × List Row × Option Nat} (hq : (.int .i64 (pix fl (min a b) (max a b) m 0), rows, none) = q) : ∀ (d i : Nat), m - i = d → i ≤ m → pix fl (min a b) (max a b) d i = pix fl (min a b) (max a b) m 0 →
  Lc60l2 F (.fn [.t 6]) (.int .i64 a) (.int .i64 b) (.ptr rows.length 0) (.int .i64 i) (rows ++ [.cells [n0, ev, pv]]) rows.length (fun r => fin rows r.1 r.2.1 r.2.2 = q) := by
 have h' := El_app h [.cells [n0, ev, pv]]
 intro d
 induction d with
 |
  zero =>
  intro i hd h1 he
  have hi : i = m := by omega
  subst hi
  unfold Lc60l2
  simp [lenW h']
  rw [← hq, ← he]; rfl
 |
  succ d ih =>
  intro i hd h1 he
  have hi : i < m := by omega
  have hw : IntKind.i64.wrap ((i : Int) + 1) = ((i + 1 : Nat) : Int) := by rw [wrap64 (by omega) (by omega)]; omega
  rw [pix_s] at he
  unfold Lc60l2
  by_cases hc : gI fl (i * 2) = min a b ∧ gI fl (i * 2 + 1) = max a b
  ·rw [if_pos hc] at he
   obtain ⟨c1, c2⟩ := hc
   simp (disch := first | omega | (simp; done) | fail) [hi, lenW h', idxW h', ldW2 h', seg, eqA, eqInts, c1, c2, fillA, splice]
   rw [← hq, ← he]
  ·rw [if_neg hc] at he
   have hne : (gI fl (i * 2) == min a b && gI fl (i * 2 + 1) == max a b) = false := by
    cases e : (gI fl (i * 2) == min a b && gI fl (i * 2 + 1) == max a b) with
    | false => rfl
    | true => simp at e; exact absurd e hc
   simp (disch := first | omega | (simp; done) | fail) [hi, lenW h', idxW h', ldW2 h', seg, eqA, eqInts, hne, hw, fillA, splice, -Bool.and_eq_true]
   exact ih (i + 1) (by omega) (by omega) he
theorem Edge_ret {n0 : AV} {ev pv : AV} {fl : List Int} {m : Nat} (h : El rows 2 ev (nums .i64 fl) m) (hm : m ≤ 1000000) (hone : n0.one = true ∧ ev.one = true ∧ pv.one = true) {a b : Int} : Ret F 60 [.agg [n0, ev, pv], .int .i64 a, .int .i64 b] rows = some (.int .i64 (pix fl (min a b) (max a b) m 0), rows, none) := by
 refine i60 F60 ?_
 have h' := El_app h [.cells [n0, ev, pv]]
 simp [AV.cells, hone.1, hone.2.1, hone.2.2]
 exact Edge_loop h hm rfl _ 0 rfl (by omega) rfl
theorem El_one {sz n : Nat} {v : AV} {cs : List AV} (h : El rows sz v cs n) : v.one = true := by
 rcases El_cases h with ⟨rfl, _⟩ | ⟨_, _, _, _, rfl, _⟩ <;> rfl
theorem wanted_loop {v : AV} {fl : List Int} {n : Nat} (h : El rows 3 v (nums .i64 fl) n) (hn : n ≤ 9223372036854775807) {s : Int} : ∀ (d i : Nat), n - i = d → i ≤ n → ∃ b : Bool,
  Lc61l2 F (.fn [.t 4]) v (.int .i64 s) (.int .i64 i) rows rows.length (fun r => fin rows r.1 r.2.1 r.2.2 = (.bool b, rows, none)) := by
 intro d
 induction d with
 |
  zero =>
  intro i hd h1
  have hi : i = n := by omega
  subst hi
  refine ⟨false, ?_⟩
  unfold Lc61l2
  simp [lenW h]
 |
  succ d ih =>
  intro i hd h1
  have hi : i < n := by omega
  have hl := El_num_len h
  have hw : IntKind.i64.wrap ((i : Int) + 1) = ((i + 1 : Nat) : Int) := by rw [wrap64 (by omega) (by omega)]; omega
  obtain ⟨b, hb⟩ := ih (i + 1) (by omega) (by omega)
  have l0 := ldW1 h (j := i * 3) (by omega)
  have l1 := ldW1 h (j := i * 3 + 1) (by omega)
  have l2 := ldW1 h (j := i * 3 + 2) (by omega)
  simp only [← Nat.add_assoc] at l1 l2
  have x0 : idx? 0 3 = some 0 := rfl
  have x1 : idx? 1 3 = some 1 := rfl
  have x2 : idx? 2 3 = some 2 := rfl
  by_cases h10 : i < 10
  ·by_cases hc : (IntKind.u64.wrap (IntKind.i64.wrap (IntKind.i64.wrap (gI fl (i * 3) + gI fl (i * 3 + 1)) + gI fl (i * 3 + 2)))).tmod 4 = (IntKind.u64.wrap s).tmod 4
   ·refine ⟨true, ?_⟩
    unfold Lc61l2
    simp (disch := first | omega | (simp; done) | fail) [hi, lenW h, idxW h, x0, x1, x2, l0, l1, l2, h10, hc, show ((i : Int) < 10) by omega]
   ·refine ⟨b, ?_⟩
    unfold Lc61l2
    simp (disch := first | omega | (simp; done) | fail) [hi, lenW h, idxW h, x0, x1, x2, l0, l1, l2, h10, hc, hw, show ((i : Int) < 10) by omega]
    exact hb
  ·refine ⟨false, ?_⟩
   unfold Lc61l2
   simp (disch := first | omega | (simp; done) | fail) [hi, lenW h, show ¬ ((i : Int) < 10) by omega]
theorem wanted_ret {v : AV} {fl : List Int} {n : Nat} (h : El rows 3 v (nums .i64 fl) n) (hn : n ≤ 9223372036854775807) (s : Int) : ∃ b : Bool, Ret F 61 [v, .int .i64 s] rows = some (.bool b, rows, none) := by
 obtain ⟨b, hb⟩ := wanted_loop h hn (s := s) _ 0 rfl (by omega)
 refine ⟨b, i61 F61 ?_⟩
 simp
 exact hb
end
end Go.Abs

namespace Go.Abs
def bl (f : Nat → Bool) : List AV := (List.range 36).map fun k => .bool (f k)
@[simp] theorem bl_len {f : Nat → Bool} : (bl f).length = 36 := by simp [bl]
theorem bl_get {f : Nat → Bool} {k : Nat} (h : k < 36) : (bl f)[k]? = some (.bool (f k)) := by simp [bl, h]
theorem bl_set {f : Nat → Bool} {k : Nat} : (bl f).set k (.bool true) = bl fun j => if j = k then true else f j := by
 apply List.ext_getElem?
 intro j
 simp only [bl, List.getElem?_set, List.getElem?_map, List.length_map, List.length_range]
 by_cases h : k = j
 ·subst h
  by_cases hk : k < 36 <;> simp [hk]
 ·rw [if_neg h]
  by_cases hj : j < 36
  ·have e : j ≠ k := fun e => h e.symm
   simp [List.getElem?_range hj, e]
  ·simp [hj]
def cnt (f : Nat → Bool) (n : Nat) : Nat := ((List.range n).filter f).length
theorem cnt_set {f : Nat → Bool} {k : Nat} (hk : f k = false) : ∀ n, cnt (fun j => if j = k then true else f j) n = cnt f n + if k < n then 1 else 0
 | 0 => by simp [cnt]
 |
  n + 1 => by
  have ih := cnt_set hk n
  simp only [cnt, List.range_succ, List.filter_append, List.length_append] at *
  rw [ih]
  by_cases e : n = k
  ·subst e
   simp [hk]
  ·rw [show (if k < n + 1 then 1 else 0) = (if k < n then 1 else 0) by
    by_cases h : k < n
    ·rw [if_pos h, if_pos (by omega)]
    ·rw [if_neg h, if_neg (by omega)]]
   cases hf : f n <;> simp [e, hf] <;> omega
structure MkOK (N : Nat) (f : Nat → Bool) (many : Nat) : Prop where
 e : ∀ k, f k = true → k < 36 ∧ k / 6 < k % 6 ∧ k % 6 < N
 c : cnt f 36 = many
 m : many ≤ 10
def accN (b : Nat) (H : List Row) (sz : Nat) (cs : List AV) (n : Nat) : AV := match cs with
 | [] => .nilslice
 | _ => .slice (b + H.length) 0 n (.op sz)
theorem accV_N {rows H : List Row} {sz n : Nat} {cs : List AV} : accV rows H sz cs n = accN rows.length H sz cs n := by cases cs <;> rfl
abbrev tR (rows : List Row) (G Z : Row) (N : Nat) (E P : AV) (f : Nat → Bool) (T : List Row) : List Row := rows ++ G :: Z :: .cells [.int .i64 N, E, P] :: .cells (bl f) :: T
section
variable {rows : List Row} {gn ev pv : AV} {fe fp : List Int} {m0 k0 N : Nat} {Z : Row} {r : AV × List Row × Nat → Prop}
abbrev tG (gn ev pv : AV) : Row := .cells [gn, ev, pv]
set_option maxHeartbeats 8000000 in
theorem mark_loop (he : El rows 2 ev (nums .i64 fe) m0) (hm0 : m0 ≤ 9223372036854775807) (hN : 1 ≤ N ∧ N ≤ 6)
  (hk : ∀ (sl : List (Nat × AV)) (f : Nat → Bool) (many : Nat), MkOK N f many → lk sl 1 = .ptr rows.length 0 → lk sl 2 = .ptr (rows.length + 1) 0 → lk sl 3 = .ptr (rows.length + 2) 0 → lk sl 4 = .ptr (rows.length + 3) 0 → Ex F (.fn [.cellN 2 3]) [.code c15s41] ⟨mk 164 sl, tR rows (tG gn ev pv) Z N .nilslice .nilslice f [], rows.length⟩ r) :
  ∀ (d i : Nat) (f : Nat → Bool) (many : Nat), m0 - i = d → i ≤ m0 → MkOK N f many →
  Lc15l42 F (.fn [.cellN 2 3]) (.ptr rows.length 0) (.ptr (rows.length + 1) 0) (.ptr (rows.length + 2) 0) (.ptr (rows.length + 3) 0) (.int .i64 many) (.int .i64 i) (tR rows (tG gn ev pv) Z N .nilslice .nilslice f []) rows.length r := by
 have x0 : idx? 0 2 = some 0 := rfl
 have x1 : idx? 1 2 = some 1 := rfl
 intro d
 induction d with
 |
  zero =>
  intro i f many hd h1 hM
  have hi : i = m0 := by omega
  subst hi
  have h' := El_app he (tG gn ev pv :: Z :: .cells [.int .i64 N, .nilslice, .nilslice] :: .cells (bl f) :: [])
  unfold Lc15l42
  simp [lenW h', -uc15s41]
  refine hk _ f many hM ?_ ?_ ?_ ?_ <;> simp
 |
  succ d ih =>
  intro i f many hd h1 hM
  have hi : i < m0 := by omega
  have h' := El_app he (tG gn ev pv :: Z :: .cells [.int .i64 N, .nilslice, .nilslice] :: .cells (bl f) :: [])
  have hl := El_num_len he
  have hw : IntKind.i64.wrap ((i : Int) + 1) = ((i + 1 : Nat) : Int) := by rw [wrap64 (by omega) (by omega)]; omega
  by_cases h10 : many < 10
  ·have wN : IntKind.u64.wrap (N : Int) = N := wrapU64 (by omega) (by omega)
   obtain ⟨a, ha, haN⟩ := umodI (x := gI fe (i * 2)) (m := N) (by omega) (by omega)
   obtain ⟨b, hb, hbN⟩ := umodI (x := gI fe (i * 2 + 1)) (m := N) (by omega) (by omega)
   have hN0 : ¬ (N = 0) := by omega
   have h10i : (many : Int) < 10 := by omega
   have h10j : ¬ (10 ≤ (many : Int)) := by omega
   have l0 := ldW1 h' (j := i * 2) (by omega)
   have l1 := ldW1 h' (j := i * 2 + 1) (by omega)
   simp only [← Nat.add_assoc] at l1
   obtain ⟨mi, hmi⟩ : ∃ mi : Nat, min (a : Int) b = mi := ⟨min a b, by omega⟩
   obtain ⟨mx, hmx⟩ : ∃ mx : Nat, max (a : Int) b = mx := ⟨max a b, by omega⟩
   have w1 : IntKind.i64.wrap ((mi : Int) * 6) = (mi : Int) * 6 := wrap64 (by omega) (by omega)
   have w2 : IntKind.i64.wrap ((mi : Int) * 6 + mx) = (mi : Int) * 6 + mx := wrap64 (by omega) (by omega)
   have w3 : IntKind.i64.wrap ((many : Int) + 1) = ((many + 1 : Nat) : Int) := by rw [wrap64 (by omega) (by omega)]; omega
   have ik : idx? ((mi : Int) * 6 + mx) 36 = some (mi * 6 + mx) := by
    rw [idx?_ok (by omega) (by omega)]
    first | rfl | (congr 1; omega)
   by_cases hab : a = b
   ·unfold Lc15l42
    simp (disch := first | omega | (simp; done) | fail) [lenW h', hi, h10i, h10j, idxW h', x0, x1, l0, l1, wN, ha, hb, hN0, hmi, hmx, w1, w2, hab, hw, -uc15s41]
    simpa using ih (i + 1) f many (by omega) (by omega) hM
   ·have hkk : mi * 6 + mx < 36 := by omega
    have bg := bl_get (f := f) hkk
    cases hf : f (mi * 6 + mx) with
    |
     true =>
     rw [hf] at bg
     unfold Lc15l42
     simp (disch := first | omega | (simp; done) | fail) [lenW h', hi, h10i, h10j, idxW h', x0, x1, l0, l1, wN, ha, hb, hN0, hmi, hmx, w1, w2, show ¬ ((a : Int) = b) by omega, hw, ik, bg, -uc15s41]
     simpa using ih (i + 1) f many (by omega) (by omega) hM
    |
     false =>
     rw [hf] at bg
     have hM' : MkOK N (fun j => if j = mi * 6 + mx then true else f j) (many + 1) := by
      refine ⟨fun k hk => ?_, ?_, by omega⟩
      ·by_cases e : k = mi * 6 + mx
       ·subst e
        refine ⟨hkk, ?_, ?_⟩ <;> omega
       ·simp only [e, if_false] at hk
        exact hM.e k hk
      ·have := cnt_set hf 36
       rw [hM.c, if_pos hkk] at this
       exact this
     have := ih (i + 1) _ (many + 1) (by omega) (by omega) hM'
     unfold Lc15l42
     simp (disch := first | omega | (simp; done) | fail) [lenW h', hi, h10i, h10j, idxW h', x0, x1, l0, l1, wN, ha, hb, hN0, hmi, hmx, w1, w2, w3, show ¬ ((a : Int) = b) by omega, hw, ik, bg, hkk, bl_set, AV.one, lower_ge', -uc15s41]
     simpa using this
  ·unfold Lc15l42
   simp (disch := first | omega | (simp; done) | fail) [lenW h', hi, show ¬ ((many : Int) < 10) by omega, show 10 ≤ (many : Int) by omega, -uc15s41]
   refine hk _ f many hM ?_ ?_ ?_ ?_ <;> simp

def ksOf (f : Nat → Bool) (k : Nat) : List Nat := (List.range k).filter f
theorem ksOf_succ {f : Nat → Bool} {k : Nat} : ksOf f (k + 1) = ksOf f k ++ if f k then [k] else [] := by
 unfold ksOf
 rw [List.range_succ, List.filter_append]
 cases h : f k <;> simp [h]
theorem ksOf_len {f : Nat → Bool} {k : Nat} (hk : k ≤ 36) : (ksOf f k).length ≤ cnt f 36 := by
 unfold ksOf cnt
 rw [show (36 : Nat) = k + (36 - k) by omega, List.range_add, List.filter_append, List.length_append]
 omega
abbrev eA (f : Nat → Bool) (k : Nat) : List AV := nums .i64 (eC (ksOf f k))
theorem accN_one {b sz n : Nat} {H : List Row} {cs : List AV} : (accN b H sz cs n).one = true := by cases cs <;> rfl
theorem acc_more4 {H : List Row} {a b c d : Row} {x cs : List AV} {sz n low bb : Nat} (hn : cs.length = n * sz) (hx : x.length = sz) (hsz : 0 < sz) (hl : n < 1000000000) (hlow : low ≤ rows.length) (hH : H.all (Row.under 0) = true) (hc : (Row.cells cs).under 0 = true) (hxu : (Row.cells x).under 0 = true) :
  ∃ H', H'.all (Row.under 0) = true ∧ evE (rows ++ a :: b :: c :: d :: (accR H cs ++ [.cells x])) low (.app sz bb (.c (accN (rows.length + 4) H sz cs n)) (.c (.slice (rows.length + ((accR H cs).length + 1 + 1 + 1 + 1)) 0 1 (.at_ 1)))) = some (accN (rows.length + 4) H' sz (cs ++ x) (n + 1), rows ++ a :: b :: c :: d :: accR H' (cs ++ x), low) := by
 obtain ⟨H', hH', e⟩ := acc_more (rows := rows ++ [a, b, c, d]) (H := H) (sz := sz) (n := n) (cs := cs) (x := x) (low := low) (b := bb) hn hx hsz hl (by simp; omega) hH hc hxu
 refine ⟨H', hH', ?_⟩
 have h2 : (rows ++ [a, b, c, d]).length = rows.length + 4 := by simp
 have h3 : rows.length + 4 + (accR H cs).length = rows.length + ((accR H cs).length + 1 + 1 + 1 + 1) := by omega
 rw [accV_N, accV_N, h2, h3, List.append_assoc, List.append_assoc] at e
 exact e
set_option maxHeartbeats 8000000 in
theorem edge_loop {f : Nat → Bool} {many : Nat} (hM : MkOK N f many) {G : Row}
  (hk : ∀ (sl : List (Nat × AV)) (H : List Row), H.all (Row.under 0) = true → lk sl 1 = .ptr rows.length 0 → lk sl 2 = .ptr (rows.length + 1) 0 → lk sl 3 = .ptr (rows.length + 2) 0 → Ex F (.fn [.cellN 2 3]) [.code c15s28] ⟨mk 164 sl, tR rows G Z N (accN (rows.length + 4) H 2 (eA f 36) (ksOf f 36).length) .nilslice f (accR H (eA f 36)), rows.length⟩ r) :
  ∀ (d k : Nat) (H : List Row), 36 - k = d → k ≤ 36 → H.all (Row.under 0) = true →
  Lc15l29 F (.fn [.cellN 2 3]) (.ptr rows.length 0) (.ptr (rows.length + 1) 0) (.ptr (rows.length + 2) 0) (.ptr (rows.length + 3) 0) (.int .i64 k) (tR rows G Z N (accN (rows.length + 4) H 2 (eA f k) (ksOf f k).length) .nilslice f (accR H (eA f k))) rows.length r := by
 intro d
 induction d with
 |
  zero =>
  intro k H hd h1 hH
  have hi : k = 36 := by omega
  subst hi
  unfold Lc15l29
  simp [-uc15s28]
  refine hk _ H hH ?_ ?_ ?_ <;> simp
 |
  succ d ih =>
  intro k H hd h1 hH
  have hi : k < 36 := by omega
  have hw : IntKind.i64.wrap ((k : Int) + 1) = ((k + 1 : Nat) : Int) := by rw [wrap64 (by omega) (by omega)]; omega
  have hs := ksOf_succ (f := f) (k := k)
  have hlen := ksOf_len (f := f) (k := k) (by omega)
  have hmc := hM.c
  have hmm := hM.m
  have bg := bl_get (f := f) hi
  have ik : idx? (k : Int) 36 = some k := by rw [idx?_ok (by omega) (by omega)]; rfl
  cases hf : f k with
  |
   false =>
   rw [hf] at bg
   rw [hf] at hs
   have := ih (k + 1) H (by omega) (by omega) hH
   simp only [eA, hs, Bool.false_eq_true, if_false, List.append_nil] at this
   unfold Lc15l29
   simp (disch := first | omega | (simp; done) | fail) [show ((k : Int) < 36) by omega, ik, bg, hw, -uc15s28]
   simpa using this
  |
   true =>
   rw [hf] at bg
   rw [hf] at hs
   have hq : IntKind.i64.wrap ((k : Int) / 6) = ((k / 6 : Nat) : Int) := by
    rw [wrap64 (by omega) (by omega)]; omega
   have hr : (k : Int).tmod 6 = ((k % 6 : Nat) : Int) := by
    rw [Int.tmod_eq_emod_of_nonneg (by omega)]; omega
   obtain ⟨H', hH', e⟩ := acc_more4 (rows := rows) (a := G) (b := Z) (c := .cells [.int .i64 N, accN (rows.length + 4) H 2 (eA f k) (ksOf f k).length, .nilslice]) (d := .cells (bl f)) (H := H) (sz := 2) (n := (ksOf f k).length) (cs := eA f k) (x := [.int .i64 ((k / 6 : Nat) : Int), .int .i64 ((k % 6 : Nat) : Int)]) (low := rows.length) (bb := 16) (by rw [nums_len', eC_len]) rfl (by omega) (by omega) (by simp) hH nums_und (by simp [Row.under, AV.under, AV.ids])
   have := ih (k + 1) H' (by omega) (by omega) hH'
   have e2 : eA f k ++ [.int .i64 ((k / 6 : Nat) : Int), .int .i64 ((k % 6 : Nat) : Int)] = eA f (k + 1) := by
    simp only [eA, hs, if_true, eC_app, ← nums_app]
    rfl
   have e3 : (ksOf f (k + 1)).length = (ksOf f k).length + 1 := by rw [hs]; simp
   rw [e2] at e
   rw [e3] at this
   generalize hQ : ((k / 6 : Nat) : Int) = Q at *
   generalize hR : ((k % 6 : Nat) : Int) = R at *
   unfold Lc15l29
   simp (disch := first | omega | (simp; done) | fail) [show ((k : Int) < 36) by omega, ik, bg, hw, hq, hr, fillA, splice, e, accN_one, lower_ge', -uc15s28]
   simpa using this
end
end Go.Abs

namespace Go.Abs
structure PInv (N : Nat) (ks ps : List Nat) (c : Nat) : Prop where
 s : ps.Pairwise (· < ·)
 k : ps.length ≤ 6
 e : ∀ p ∈ ps, p < c ∧ p / 36 < p / 6 % 6 ∧ p / 6 % 6 < p % 6 ∧ p < 216 ∧ p / 36 * 6 + p / 6 % 6 ∈ ks ∧ p / 36 * 6 + p % 6 ∈ ks ∧ p / 6 % 6 * 6 + p % 6 ∈ ks
theorem PInv.mono {N : Nat} {ks ps : List Nat} {c c' : Nat} (h : PInv N ks ps c) (hc : c ≤ c') : PInv N ks ps c' :=
 ⟨h.s, h.k, fun p hp => by have := h.e p hp; exact ⟨by omega, this.2⟩⟩
theorem PInv.add {N i j k : Nat} {ks ps : List Nat} (h : PInv N ks ps (i * 36 + j * 6 + k)) (hij : i < j) (hjk : j < k) (hk : k < 6) (hl : ps.length < 6) (h1 : i * 6 + j ∈ ks) (h2 : i * 6 + k ∈ ks) (h3 : j * 6 + k ∈ ks) : PInv N ks (ps ++ [i * 36 + j * 6 + k]) (i * 36 + j * 6 + k + 1) := by
 have e1 : (i * 36 + j * 6 + k) / 36 = i := by omega
 have e2 : (i * 36 + j * 6 + k) / 6 % 6 = j := by omega
 have e3 : (i * 36 + j * 6 + k) % 6 = k := by omega
 refine ⟨?_, by simp; omega, fun p hp => ?_⟩
 ·rw [List.pairwise_append]
  refine ⟨h.s, by simp, fun a ha b hb => ?_⟩
  have : b = i * 36 + j * 6 + k := by simpa using hb
  subst this
  exact (h.e a ha).1
 ·rcases List.mem_append.1 hp with hp | hp
  ·have := h.e p hp
   exact ⟨by omega, this.2⟩
  ·have : p = i * 36 + j * 6 + k := by simpa using hp
   subst this
   rw [e1, e2, e3]
   exact ⟨by omega, hij, hjk, by omega, h1, h2, h3⟩
section
variable {rows : List Row} {gn ev pv : AV} {fe fp : List Int} {m0 k0 N : Nat} {Z : Row} {r : AV × List Row × Nat → Prop}
theorem acc_more4T {H T : List Row} {a b c d : Row} {x cs : List AV} {sz n low bb : Nat} (hn : cs.length = n * sz) (hx : x.length = sz) (hsz : 0 < sz) (hl : n < 1000000000) (hlow : low ≤ rows.length) (hH : H.all (Row.under 0) = true) (hc : (Row.cells cs).under 0 = true) (hxu : (Row.cells x).under 0 = true) :
  ∃ H', H'.all (Row.under 0) = true ∧ evE (rows ++ a :: b :: c :: d :: (T ++ (accR H cs ++ [.cells x]))) low (.app sz bb (.c (accN (rows.length + 4 + T.length) H sz cs n)) (.c (.slice (rows.length + (T.length + (accR H cs).length + 1 + 1 + 1 + 1)) 0 1 (.at_ 1)))) = some (accN (rows.length + 4 + T.length) H' sz (cs ++ x) (n + 1), rows ++ a :: b :: c :: d :: (T ++ accR H' (cs ++ x)), low) := by
 obtain ⟨H', hH', e⟩ := acc_more (rows := rows ++ [a, b, c, d] ++ T) (H := H) (sz := sz) (n := n) (cs := cs) (x := x) (low := low) (b := bb) hn hx hsz hl (by simp; omega) hH hc hxu
 refine ⟨H', hH', ?_⟩
 have h2 : (rows ++ [a, b, c, d] ++ T).length = rows.length + 4 + T.length := by simp; omega
 have h3 : rows.length + 4 + T.length + (accR H cs).length = rows.length + (T.length + (accR H cs).length + 1 + 1 + 1 + 1) := by omega
 rw [accV_N, accV_N, h2, h3] at e
 simp only [List.append_assoc, List.cons_append, List.nil_append] at e
 exact e
abbrev pA (ps : List Nat) : List AV := nums .i64 (pC ps)
variable {ks : List Nat} {f : Nat → Bool} {E : AV} {T : List Row}
abbrev pR (rows : List Row) (gn ev pv : AV) (Z : Row) (N : Nat) (E : AV) (f : Nat → Bool) (T : List Row) (ps : List Nat) (H : List Row) : List Row :=
 tR rows (tG gn ev pv) Z N E (accN (rows.length + 4 + T.length) H 3 (pA ps) ps.length) f (T ++ accR H (pA ps))
set_option maxHeartbeats 16000000 in
theorem k_loop (hp0 : El rows 3 pv (nums .i64 fp) k0) (hk0 : k0 ≤ 9223372036854775807) (hN : 1 ≤ N ∧ N ≤ 6) (hks : ks.length ≤ 36)
  (hE : ∀ P (L : List Row), El (rows ++ tG gn ev pv :: Z :: .cells [.int .i64 N, E, P] :: .cells (bl f) :: (T ++ L)) 2 E (nums .i64 (eC ks)) ks.length) {i j : Nat} (hij : i < j) (hj : j < N)
  (hk : ∀ (ps : List Nat) (H : List Row), H.all (Row.under 0) = true → PInv N ks ps (i * 36 + (j + 1) * 6) → Lc15l4 F (.fn [.cellN 2 3]) (.ptr rows.length 0) (.ptr (rows.length + 1) 0) (.ptr (rows.length + 2) 0) (.int .i64 i) (.int .i64 ((j + 1 : Nat) : Int)) (pR rows gn ev pv Z N E f T ps H) rows.length r) :
  ∀ (d k : Nat) (ps : List Nat) (H : List Row), N - k = d → k ≤ N → j < k → H.all (Row.under 0) = true → PInv N ks ps (i * 36 + j * 6 + k) →
  Lc15l6 F (.fn [.cellN 2 3]) (.ptr rows.length 0) (.ptr (rows.length + 1) 0) (.ptr (rows.length + 2) 0) (.int .i64 i) (.int .i64 j) (.int .i64 k) (pR rows gn ev pv Z N E f T ps H) rows.length r := by
 intro d
 induction d with
 |
  zero =>
  intro k ps H hd h1 hjk hH hP
  have hkN : k = N := by omega
  subst hkN
  have := hk ps H hH (hP.mono (by omega))
  have hw : IntKind.i64.wrap ((j : Int) + 1) = ((j + 1 : Nat) : Int) := by rw [wrap64 (by omega) (by omega)]; omega
  unfold Lc15l6
  simp [hw]
  simpa using this
 |
  succ d ih =>
  intro k ps H hd h1 hjk hH hP
  have hkN : k < N := by omega
  have hw : IntKind.i64.wrap ((k : Int) + 1) = ((k + 1 : Nat) : Int) := by rw [wrap64 (by omega) (by omega)]; omega
  have hR := hE (accN (rows.length + 4 + T.length) H 3 (pA ps) ps.length) (accR H (pA ps))
  have one3 : (AV.int IntKind.i64 N).one = true ∧ E.one = true ∧ (accN (rows.length + 4 + T.length) H 3 (pA ps) ps.length).one = true := ⟨rfl, El_one hR, accN_one⟩
  have e1 := Edge_ret (n0 := .int .i64 N) hR (by omega) one3 (a := i) (b := j)
  have e2 := Edge_ret (n0 := .int .i64 N) hR (by omega) one3 (a := i) (b := k)
  have e3 := Edge_ret (n0 := .int .i64 N) hR (by omega) one3 (a := j) (b := k)
  rw [show min (i : Int) j = i by omega, show max (i : Int) j = j by omega] at e1
  rw [show min (i : Int) k = i by omega, show max (i : Int) k = k by omega] at e2
  rw [show min (j : Int) k = j by omega, show max (j : Int) k = k by omega] at e3
  have m1 := pix_in (ks := ks) (a := i) (b := j) (by omega)
  have m2 := pix_in (ks := ks) (a := i) (b := k) (by omega)
  have m3 := pix_in (ks := ks) (a := j) (b := k) (by omega)
  generalize pix (eC ks) i j ks.length 0 = y1 at e1 m1
  generalize pix (eC ks) i k ks.length 0 = y2 at e2 m2
  generalize pix (eC ks) j k ks.length 0 = y3 at e3 m3
  have hlP : ∀ L, evP (pR rows gn ev pv Z N E f T ps H ++ L) (.len 0 (.c (accN (rows.length + 4 + T.length) H 3 (pA ps) ps.length))) = some (.int .i64 ps.length) := fun L => by
   have := acc_El (rows := rows ++ [tG gn ev pv, Z, .cells [.int .i64 N, E, accN (rows.length + 4 + T.length) H 3 (pA ps) ps.length], .cells (bl f)] ++ T) (H := H) (cs := pA ps) (n := ps.length) (sz := 3) (by rw [nums_len', pC_len]) (by omega)
   have h := lenW (El_app this.1 L)
   have h2 : (rows ++ [tG gn ev pv, Z, .cells [.int .i64 N, E, accN (rows.length + 4 + T.length) H 3 (pA ps) ps.length], .cells (bl f)] ++ T).length = rows.length + 4 + T.length := by simp; omega
   rw [accV_N, h2] at h
   simpa using h
  have hlP := hlP []
  rw [List.append_nil] at hlP
  have wij : IntKind.i64.wrap ((i : Int) + j) = (i : Int) + j := wrap64 (by omega) (by omega)
  have wijk : IntKind.i64.wrap ((i : Int) + j + k) = (i : Int) + j + k := wrap64 (by omega) (by omega)
  have next := ih (k + 1) ps H (by omega) (by omega) (by omega) hH (hP.mono (by omega))
  by_cases c1 : 0 ≤ y1
  ·by_cases c2 : 0 ≤ y2
   ·by_cases c3 : 0 ≤ y3
    ·by_cases c4 : ps.length < 6
     ·obtain ⟨bb, hb⟩ := wanted_ret (El_app hp0 (tG gn ev pv :: Z :: .cells [.int .i64 N, E, accN (rows.length + 4 + T.length) H 3 (pA ps) ps.length] :: .cells (bl f) :: (T ++ accR H (pA ps)))) hk0 ((i : Int) + j + k)
      cases bb with
      |
       false =>
       unfold Lc15l6
       simp [hkN, e1, e2, e3, c1, c2, c3, hlP, show ((ps.length : Int) < 6) by omega, wij, wijk, hb, hw, seg]
       simpa using next
      |
       true =>
       have hP' := hP.add hij hjk (by omega) c4 (m1.1 c1) (m2.1 c2) (m3.1 c3)
       obtain ⟨H', hH', e⟩ := acc_more4T (rows := rows) (a := tG gn ev pv) (b := Z) (c := .cells [.int .i64 N, E, accN (rows.length + 4 + T.length) H 3 (pA ps) ps.length]) (d := .cells (bl f)) (T := T) (H := H) (sz := 3) (n := ps.length) (cs := pA ps) (x := [.int .i64 i, .int .i64 j, .int .i64 k]) (low := rows.length) (bb := 24) (by rw [nums_len', pC_len]) rfl (by omega) (by omega) (by simp) hH nums_und (by simp [Row.under, AV.under, AV.ids])
       have e4 : pA ps ++ [.int .i64 i, .int .i64 j, .int .i64 k] = pA (ps ++ [i * 36 + j * 6 + k]) := by
        simp only [pA, pC_app, ← nums_app]
        congr 1
        have h1 : (i * 36 + j * 6 + k) / 36 = i := by omega
        have h2 : (i * 36 + j * 6 + k) / 6 % 6 = j := by omega
        have h3 : (i * 36 + j * 6 + k) % 6 = k := by omega
        simp only [pC, List.flatMap_cons, List.flatMap_nil, List.append_nil, h1, h2, h3]
        rfl
       have e5 : (ps ++ [i * 36 + j * 6 + k]).length = ps.length + 1 := by simp
       have := ih (k + 1) (ps ++ [i * 36 + j * 6 + k]) H' (by omega) (by omega) (by omega) hH' (by rw [show i * 36 + j * 6 + (k + 1) = i * 36 + j * 6 + k + 1 by omega]; exact hP')
       simp only [pR, e5] at this
       rw [e4] at e
       unfold Lc15l6
       simp [hkN, e1, e2, e3, c1, c2, c3, hlP, show ((ps.length : Int) < 6) by omega, wij, wijk, hb, hw, seg, fillA, splice, e, accN_one, lower_ge']
       simpa using this
     ·unfold Lc15l6
      simp [hkN, e1, e2, e3, c1, c2, c3, hlP, show ¬ ((ps.length : Int) < 6) by omega, hw, seg]
      simpa using next
    ·unfold Lc15l6
     simp [hkN, e1, e2, e3, c1, c2, c3, hw, seg]
     simpa using next
   ·unfold Lc15l6
    simp [hkN, e1, e2, c1, c2, hw, seg]
    simpa using next
  ·unfold Lc15l6
   simp [hkN, e1, c1, hw, seg]
   simpa using next
end
end Go.Abs

namespace Go.Abs
section
variable {rows : List Row} {gn ev pv : AV} {fe fp : List Int} {m0 k0 N : Nat} {Z : Row} {r : AV × List Row × Nat → Prop}
variable {ks : List Nat} {f : Nat → Bool} {E : AV} {T : List Row}
theorem j_loop (hp0 : El rows 3 pv (nums .i64 fp) k0) (hk0 : k0 ≤ 9223372036854775807) (hN : 1 ≤ N ∧ N ≤ 6) (hks : ks.length ≤ 36)
  (hE : ∀ P (L : List Row), El (rows ++ tG gn ev pv :: Z :: .cells [.int .i64 N, E, P] :: .cells (bl f) :: (T ++ L)) 2 E (nums .i64 (eC ks)) ks.length) {i : Nat} (hi : i < N)
  (hk : ∀ (ps : List Nat) (H : List Row), H.all (Row.under 0) = true → PInv N ks ps ((i + 1) * 36) → Lc15l2 F (.fn [.cellN 2 3]) (.ptr rows.length 0) (.ptr (rows.length + 1) 0) (.ptr (rows.length + 2) 0) (.int .i64 ((i + 1 : Nat) : Int)) (pR rows gn ev pv Z N E f T ps H) rows.length r) :
  ∀ (d j : Nat) (ps : List Nat) (H : List Row), N - j = d → j ≤ N → i < j → H.all (Row.under 0) = true → PInv N ks ps (i * 36 + j * 6) →
  Lc15l4 F (.fn [.cellN 2 3]) (.ptr rows.length 0) (.ptr (rows.length + 1) 0) (.ptr (rows.length + 2) 0) (.int .i64 i) (.int .i64 j) (pR rows gn ev pv Z N E f T ps H) rows.length r := by
 intro d
 induction d with
 |
  zero =>
  intro j ps H hd h1 hij hH hP
  have hjN : j = N := by omega
  subst hjN
  have := hk ps H hH (hP.mono (by omega))
  have hw : IntKind.i64.wrap ((i : Int) + 1) = ((i + 1 : Nat) : Int) := by rw [wrap64 (by omega) (by omega)]; omega
  unfold Lc15l4
  simp [hw]
  simpa using this
 |
  succ d ih =>
  intro j ps H hd h1 hij hH hP
  have hjN : j < N := by omega
  have hw : IntKind.i64.wrap ((j : Int) + 1) = ((j + 1 : Nat) : Int) := by rw [wrap64 (by omega) (by omega)]; omega
  have := k_loop (r := r) hp0 hk0 hN hks hE hij hjN (fun ps H hH hP => ih (j + 1) ps H (by omega) (by omega) (by omega) hH hP) _ (j + 1) ps H rfl (by omega) (by omega) hH (hP.mono (by omega))
  unfold Lc15l4
  simp [hjN, hw]
  simpa using this
theorem i_loop (hp0 : El rows 3 pv (nums .i64 fp) k0) (hk0 : k0 ≤ 9223372036854775807) (hN : 1 ≤ N ∧ N ≤ 6) (hks : ks.length ≤ 36)
  (hE : ∀ P (L : List Row), El (rows ++ tG gn ev pv :: Z :: .cells [.int .i64 N, E, P] :: .cells (bl f) :: (T ++ L)) 2 E (nums .i64 (eC ks)) ks.length)
  (hk : ∀ (sl : List (Nat × AV)) (ps : List Nat) (H : List Row), H.all (Row.under 0) = true → PInv N ks ps 1000 → lk sl 2 = .ptr (rows.length + 1) 0 → lk sl 3 = .ptr (rows.length + 2) 0 → Ex F (.fn [.cellN 2 3]) [.code c15s1] ⟨mk 164 sl, pR rows gn ev pv Z N E f T ps H, rows.length⟩ r) :
  ∀ (d i : Nat) (ps : List Nat) (H : List Row), N - i = d → i ≤ N → H.all (Row.under 0) = true → PInv N ks ps (i * 36) →
  Lc15l2 F (.fn [.cellN 2 3]) (.ptr rows.length 0) (.ptr (rows.length + 1) 0) (.ptr (rows.length + 2) 0) (.int .i64 i) (pR rows gn ev pv Z N E f T ps H) rows.length r := by
 intro d
 induction d with
 |
  zero =>
  intro i ps H hd h1 hH hP
  have hiN : i = N := by omega
  subst hiN
  unfold Lc15l2
  simp [-uc15s1]
  refine hk _ ps H hH (hP.mono (by omega)) ?_ ?_ <;> simp
 |
  succ d ih =>
  intro i ps H hd h1 hH hP
  have hiN : i < N := by omega
  have hw : IntKind.i64.wrap ((i : Int) + 1) = ((i + 1 : Nat) : Int) := by rw [wrap64 (by omega) (by omega)]; omega
  have := j_loop (r := r) hp0 hk0 hN hks hE hiN (fun ps H hH hP => ih (i + 1) ps H (by omega) (by omega) hH hP) _ (i + 1) ps H rfl (by omega) (by omega) hH (hP.mono (by omega))
  unfold Lc15l2
  simp [hiN, hw]
  simpa using this
theorem fin_agg {l : List AV} {X : List Row} : fin rows (.agg l) (rows ++ X) rows.length = (.agg l, rows ++ X, none) ∨ (fin rows (.agg l) (rows ++ X) rows.length = (.agg l, rows, none) ∧ (AV.agg l).ids.all (· < rows.length) = true) := by
 unfold fin
 rw [if_pos rfl]
 split
 ·rename_i h; exact .inr ⟨rfl, h⟩
 ·rename_i hn
  left
  split
  ·rename_i i e
   split
   ·rw [if_neg]
    intro h
    simp only [Bool.and_eq_true] at h
    have h2 : (AV.agg l).plain = true := h.2
    have h3 : (AV.agg l).ids.isEmpty = true := h2
    rw [e] at h3
    simp at h3
   ·rfl
  ·rfl
theorem ids_accN {b sz n : Nat} {H : List Row} {cs : List AV} {x : Nat} (h : (accN b H sz cs n).ids.all (· < x) = true) (hx : x ≤ b) : cs = [] := by
 cases cs with
 | nil => rfl
 |
  cons y cs =>
  simp [accN, AV.ids] at h
  omega
@[simp] theorem one_nil : AV.nilslice.one = true := rfl
theorem pR_nil : pR rows gn ev pv Z N E f T [] [] = tR rows (tG gn ev pv) Z N E .nilslice f T := by
 simp [pA, pC, nums, accN]
set_option maxHeartbeats 8000000 in
theorem tame_ret {x : Int} (he : El rows 2 ev (nums .i64 fe) m0) (hm0 : m0 ≤ 9223372036854775807) (hp0 : El rows 3 pv (nums .i64 fp) k0) (hk0 : k0 ≤ 9223372036854775807) (hu : ev.under rows.length = true ∧ pv.under rows.length = true) :
  ∃ N ks ps g X, Ret F 15 [.agg [.int .i64 x, ev, pv]] rows = some (g, rows ++ X, none) ∧ Und rows X ∧ GRd (rows ++ X) g N ks ps := by
 obtain ⟨n, hn, hn6⟩ := umodI (x := x) (m := 6) (by omega) (by omega)
 let N := 1 + n
 have hN : 1 ≤ N ∧ N ≤ 6 := by simp only [N]; omega
 have wN : IntKind.i64.wrap (1 + (n : Int)) = (N : Int) := by rw [wrap64 (by omega) (by omega)]; simp [N]
 let Z : Row := .cells [.int .i64 0, .nilslice, .nilslice]
 -- what is left
 let Q : AV × List Row × Nat → Prop := fun r => ∃ ks ps g X, fin rows r.1 r.2.1 r.2.2 = (g, rows ++ X, none) ∧ Und rows X ∧ GRd (rows ++ X) g N ks ps
 have main : Ex F (.fn [.cellN 2 3]) [.code c15b] ⟨mk 164 [(0, .agg [.int .i64 x, ev, pv])], rows, rows.length⟩ Q := by
  have hml := mark_loop (rows := rows) (gn := .int .i64 x) (ev := ev) (pv := pv) (Z := Z) (r := Q) he hm0 hN (by
   intro sl f many hM s1 s2 s3 s4
   have hel := edge_loop (rows := rows) (Z := Z) (r := Q) (G := tG (.int .i64 x) ev pv) hM (by
    intro sl2 H hH t1 t2 t3
    have hlen := ksOf_len (f := f) (k := 36) (by omega)
    have hc := hM.c
    have hmm := hM.m
    have hcs : (eA f 36).length = (ksOf f 36).length * 2 := by rw [nums_len', eC_len]
    have hE : ∀ P (L : List Row), El (rows ++ tG (.int .i64 x) ev pv :: Z :: .cells [.int .i64 N, accN (rows.length + 4) H 2 (eA f 36) (ksOf f 36).length, P] :: .cells (bl f) :: (accR H (eA f 36) ++ L)) 2 (accN (rows.length + 4) H 2 (eA f 36) (ksOf f 36).length) (nums .i64 (eC (ksOf f 36))) (ksOf f 36).length := fun P L => by
     have := (acc_El (rows := rows ++ [tG (.int .i64 x) ev pv, Z, .cells [.int .i64 N, accN (rows.length + 4) H 2 (eA f 36) (ksOf f 36).length, P], .cells (bl f)]) (H := H) (cs := eA f 36) (n := (ksOf f 36).length) (sz := 2) hcs (by omega)).1
     have h2 : (rows ++ [tG (.int .i64 x) ev pv, Z, .cells [.int .i64 N, accN (rows.length + 4) H 2 (eA f 36) (ksOf f 36).length, P], .cells (bl f)]).length = rows.length + 4 := by simp
     rw [accV_N, h2] at this
     have h3 := El_app this L
     simpa using h3
    have hil := i_loop (rows := rows) (gn := .int .i64 x) (Z := Z) (f := f) (T := accR H (eA f 36)) (r := Q) hp0 hk0 hN (ks := ksOf f 36) (by omega) hE (by
     intro sl3 ps H2 hH2 hP u2 u3
     -- the result
     have hone : (accN (rows.length + 4) H 2 (eA f 36) (ksOf f 36).length).one = true := accN_one
     have hone2 : (accN (rows.length + 4 + (accR H (eA f 36)).length) H2 3 (pA ps) ps.length).one = true := accN_one
     have hH1 := acc_und (cs := eA f 36) hH nums_und
     have hH3 := acc_und (cs := pA ps) hH2 nums_und
     generalize hEE : accN (rows.length + 4) H 2 (eA f 36) (ksOf f 36).length = E at *
     generalize hPP : accN (rows.length + 4 + (accR H (eA f 36)).length) H2 3 (pA ps) ps.length = P at *
     have hGO : GOK N (ksOf f 36) ps := by
      refine ⟨hN.1, hN.2, by omega, ?_, fun k hk => ?_, hP.k, hP.s, fun p hp => (hP.e p hp).2⟩
      ·exact List.Pairwise.filter _ List.pairwise_lt_range
      ·have := (List.mem_filter.1 hk).2
       exact (hM.e k this).2
     let X : List Row := [tG (.int .i64 x) ev pv, .cells [.int .i64 N, E, P], .cells [.int .i64 N, E, P], .cells (bl f)] ++ (accR H (eA f 36) ++ accR H2 (pA ps))
     have hXl : rows.length + X.length = rows.length + 4 + (accR H (eA f 36)).length + (accR H2 (pA ps)).length := by simp [X]; omega
     have hPel : El (rows ++ X) 3 P (nums .i64 (pC ps)) ps.length ∧ Cp 3 P := by
      have := acc_El (rows := rows ++ [tG (.int .i64 x) ev pv, .cells [.int .i64 N, E, P], .cells [.int .i64 N, E, P], .cells (bl f)] ++ accR H (eA f 36)) (H := H2) (cs := pA ps) (n := ps.length) (sz := 3) (by rw [nums_len', pC_len]) (by omega)
      have h2 : (rows ++ [tG (.int .i64 x) ev pv, .cells [.int .i64 N, E, P], .cells [.int .i64 N, E, P], .cells (bl f)] ++ accR H (eA f 36)).length = rows.length + 4 + (accR H (eA f 36)).length := by simp; omega
      rw [accV_N, h2, hPP] at this
      refine ⟨?_, this.2⟩
      have h3 := this.1
      simpa [X] using h3
     have hEel : El (rows ++ X) 2 E (nums .i64 (eC (ksOf f 36))) (ksOf f 36).length ∧ Cp 2 E := by
      have := acc_El (rows := rows ++ [tG (.int .i64 x) ev pv, .cells [.int .i64 N, E, P], .cells [.int .i64 N, E, P], .cells (bl f)]) (H := H) (cs := eA f 36) (n := (ksOf f 36).length) (sz := 2) hcs (by omega)
      have h2 : (rows ++ [tG (.int .i64 x) ev pv, .cells [.int .i64 N, E, P], .cells [.int .i64 N, E, P], .cells (bl f)]).length = rows.length + 4 := by simp
      rw [accV_N, h2, hEE] at this
      refine ⟨?_, this.2⟩
      have h3 := El_app this.1 (accR H2 (pA ps))
      simpa [X] using h3
     have uE : E.under (rows.length + X.length) = true := by
      rcases El_cases hEel.1 with ⟨rfl, _⟩ | ⟨id, off, c, vs, rfl, hr, _⟩
      ·rfl
      ·have := row?_lt hr
       simp [AV.under, AV.ids]
       simpa using this
     have uP : P.under (rows.length + X.length) = true := by
      rcases El_cases hPel.1 with ⟨rfl, _⟩ | ⟨id, off, c, vs, rfl, hr, _⟩
      ·rfl
      ·have := row?_lt hr
       simp [AV.under, AV.ids]
       simpa using this
     have hUX : Und rows X := by
      intro y hy
      have und3 : ∀ a : AV, a.ids = [] → (Row.cells [a, E, P]).under (rows.length + X.length) = true := fun a ha => by
       simp [Row.under, uE, uP, AV.under, ha]
       exact ⟨by simpa [AV.under] using uE, by simpa [AV.under] using uP⟩
      simp only [X, List.mem_append, List.mem_cons, List.not_mem_nil, or_false] at hy
      rcases hy with (hy | hy | hy | hy) | hy | hy
      ·subst hy
       have h1 := Sh.runder_mono (y := tG (.int .i64 x) ev pv) (show rows.length ≤ rows.length + X.length by omega) (by
        simp [Row.under, AV.under, AV.ids]
        exact ⟨by simpa [AV.under] using hu.1, by simpa [AV.under] using hu.2⟩)
       exact h1
      ·subst hy; exact und3 _ rfl
      ·subst hy; exact und3 _ rfl
      ·subst hy
       refine und_mono (a := 0) ?_ (Nat.zero_le _)
       simp [Row.under, bl, AV.under, AV.ids]
      ·exact und_mono (List.all_eq_true.1 hH1 y hy) (Nat.zero_le _)
      ·exact und_mono (List.all_eq_true.1 hH3 y hy) (Nat.zero_le _)
     have hfin := fin_agg (rows := rows) (l := [.int .i64 N, E, P]) (X := X)
     simp [u2, u3, seg, splice, hone, hone2, hPP, Z, lower_ge']
     have hQ : Q (.agg [.int .i64 N, E, P], rows ++ X, rows.length) := by
      rcases hfin with h | ⟨h, hids⟩
      ·exact ⟨_, _, _, X, h, hUX, hGO, E, P, rfl, hEel.1, hPel.1, hEel.2, hPel.2⟩
      ·simp only [AV.ids, AV.ids.idsL, List.nil_append, List.all_append, Bool.and_eq_true, List.append_nil] at hids
       rw [← hEE] at hids
       rw [← hPP] at hids
       have c1 := ids_accN hids.1 (by omega)
       have c2 := ids_accN hids.2 (by omega)
       have k1 : ksOf f 36 = [] := by
        have := eC_len (ksOf f 36)
        rw [show eC (ksOf f 36) = [] by simpa [nums] using c1] at this
        exact List.eq_nil_of_length_eq_zero (by simp only [List.length_nil] at this; omega)
       have k2 : ps = [] := by
        have := pC_len ps
        rw [show pC ps = [] by simpa [pA, nums] using c2] at this
        exact List.eq_nil_of_length_eq_zero (by simp only [List.length_nil] at this; omega)
       have hE0 : E = .nilslice := by rw [← hEE, c1]; rfl
       have hP0 : P = .nilslice := by rw [← hPP, c2]; rfl
       subst hE0 hP0
       refine ⟨_, _, _, [], by rw [List.append_nil]; exact h, Und_nil, hGO, .nilslice, .nilslice, rfl, ?_, ?_, trivial, trivial⟩
       ·rw [k1]; exact El_nil
       ·rw [k2]; exact El_nil
     simpa [X] using hQ) _ 0 [] [] rfl (by omega) rfl ⟨List.Pairwise.nil, by simp, fun p hp => by simp at hp⟩
    rw [pR_nil] at hil
    simp [t1, t2, t3]
    simpa using hil) _ 0 [] rfl (by omega) rfl
   simp only [eA, ksOf, List.range_zero, List.filter_nil, eC, List.flatMap_nil, nums, List.map_nil, accN, accR_nil] at hel
   simp [s1, s2, s3, s4]
   simpa using hel) _ 0 (fun _ => false) 0 rfl (by omega) ⟨fun k hk => by simp at hk, by simp [cnt], by omega⟩
  have hone1 : ev.one = true ∧ pv.one = true := ⟨El_one he, El_one hp0⟩
  have hbl : List.replicate 36 (AV.bool false) = bl fun _ => false := by rfl
  have hb2 : (∀ x, x ∈ (bl fun _ => false) → x.one = true) = True := eq_true fun x hx => by
   obtain ⟨k, _, rfl⟩ := List.mem_map.1 hx
   rfl
  simp [AV.cells, hone1.1, hone1.2, seg, splice, fillA, hn, wN, hbl, hb2, lower_ge', Nat.add_assoc]
  simpa [Z] using hml
 obtain ⟨n1, q, e, ks, ps, g, X, h1, h2, h3⟩ := main
 exact ⟨N, ks, ps, g, X, i15 F15 ⟨n1, q, e, h1⟩, h2, h3⟩
end
end Go.Abs

namespace Go.Abs
section
variable {rows : List Row} {N : Nat} {ks ps : List Nat}
theorem nil_or {l : List AV} : l = [] ∨ ∃ x m, l = x :: m := by cases l <;> simp
theorem El_under {sz n : Nat} {v : AV} {cs : List AV} (h : El rows sz v cs n) : v.under rows.length = true := by
 rcases El_cases h with ⟨rfl, _⟩ | ⟨id, off, c, vs, rfl, hr, _⟩
 ·rfl
 ·have := row?_lt hr
  simpa [AV.under, AV.ids] using this
theorem tb5 : Nat.testBit 508 5 = true := by decide
theorem drop_mapL {β : Type} {f : Row → β} {M : List β} {k : Nat} : List.drop (rows.length + k) (rows.map f ++ M) = M.drop k := by
 have := List.drop_length_add_append (l₁ := rows.map f) (l₂ := M) (i := k)
 simpa using this
set_option maxHeartbeats 8000000 in
theorem given_ret {g : AV} (h : GRd rows g N ks ps) : ∃ g' X, Ret F 17 [g] rows = some (g', rows ++ X, none) ∧ Und rows X ∧ GRd (rows ++ X) g' N ks ps := by
 obtain ⟨ev, pv, rfl, he, hp, ce, cp⟩ := h.eq
 have hok := h.ok
 have hks := hok.ek
 have hps := hok.pk
 have one1 := El_one he
 have one2 := El_one hp
 let G : Row := .cells [.int .i64 N, ev, pv]
 have uG : ∀ b, rows.length ≤ b → G.under b = true := fun b hb => und_mono (a := rows.length) (by
  have u1 := El_under he
  have u2 := El_under hp
  simp [G, Row.under, AV.under, AV.ids]
  exact ⟨by simpa [AV.under] using u1, by simpa [AV.under] using u2⟩) hb
 have ecl : (nums .i64 (eC ks)).length = ks.length * 2 := by rw [nums_len', eC_len]
 have pcl : (nums .i64 (pC ps)).length = ps.length * 3 := by rw [nums_len', pC_len]
 -- the result, by its parts
 have fin0 : ∀ (E P : AV) (T : List Row), El (rows ++ (G :: .cells [.int .i64 N, E, P] :: T)) 2 E (nums .i64 (eC ks)) ks.length → El (rows ++ (G :: .cells [.int .i64 N, E, P] :: T)) 3 P (nums .i64 (pC ps)) ps.length → Cp 2 E → Cp 3 P → T.all (Row.under 0) = true →
   ((∃ x, E.ids = [x] ∧ rows.length ≤ x) ∨ E = .nilslice) → ((∃ x, P.ids = [x] ∧ rows.length ≤ x) ∨ P = .nilslice) →
   ∃ g' X, fin rows (.agg [.int .i64 N, E, P]) (rows ++ (G :: .cells [.int .i64 N, E, P] :: T)) rows.length = (g', rows ++ X, none) ∧ Und rows X ∧ GRd (rows ++ X) g' N ks ps := by
  intro E P T hE hP cE cP hT iE iP
  have uE := El_under hE
  have uP := El_under hP
  have hU : Und rows (G :: .cells [.int .i64 N, E, P] :: T) := by
   intro y hy
   simp only [List.mem_cons] at hy
   rcases hy with hy | hy | hy
   ·subst hy; exact uG _ (by omega)
   ·subst hy
    simp only [List.length_append] at uE uP
    simp [Row.under, AV.under, AV.ids]
    exact ⟨by simpa [AV.under] using uE, by simpa [AV.under] using uP⟩
   ·exact und_mono (List.all_eq_true.1 hT y hy) (Nat.zero_le _)
  rcases fin_agg (rows := rows) (l := [.int .i64 N, E, P]) (X := G :: .cells [.int .i64 N, E, P] :: T) with hf | ⟨hf, hids⟩
  ·exact ⟨_, _, hf, hU, hok, E, P, rfl, hE, hP, cE, cP⟩
  ·simp only [AV.ids, AV.ids.idsL, List.nil_append, List.all_append, Bool.and_eq_true, List.append_nil] at hids
   have k1 : E = .nilslice := by
    rcases iE with ⟨x, e, hx⟩ | e
    ·rw [e] at hids; simp at hids; omega
    ·exact e
   have k2 : P = .nilslice := by
    rcases iP with ⟨x, e, hx⟩ | e
    ·rw [e] at hids; simp at hids; omega
    ·exact e
   subst k1 k2
   have h1 := hE
   have h2 := hP
   rcases El_cases h1 with ⟨_, c1, n1⟩ | ⟨_, _, _, _, e, _⟩
   ·rcases El_cases h2 with ⟨_, c2, n2⟩ | ⟨_, _, _, _, e, _⟩
    ·refine ⟨_, [], by rw [List.append_nil]; exact hf, Und_nil, hok, .nilslice, .nilslice, rfl, ?_, ?_, trivial, trivial⟩
     ·rw [c1, n1]; exact El_nil
     ·rw [c2, n2]; exact El_nil
    ·simp at e
   ·simp at e
 have hc1 : ∀ L, evE (rows ++ L) (rows ++ L).length (.app 2 16 (.c .nilslice) (.c ev)) = some (accV (rows ++ L) [] 2 (nums .i64 (eC ks)) ks.length, rows ++ L ++ accR [] (nums .i64 (eC ks)), (rows ++ L).length) := fun L => app_copy (El_app he L) (by omega) (by omega)
 have hc2 : ∀ L low, evE (rows ++ L) low (.app 3 24 (.c .nilslice) (.c pv)) = some (accV (rows ++ L) [] 3 (nums .i64 (pC ps)) ps.length, rows ++ L ++ accR [] (nums .i64 (pC ps)), low) := fun L low => app_copy (El_app hp L) (by omega) (by omega)
 let Z : Row := .cells [.int .i64 0, .nilslice, .nilslice]
 have c1 := hc1 [G, Z]
 have und0 : ∀ {x : AV} {m : List AV} {l : List Int}, nums .i64 l = x :: m → (Row.cells (x :: m)).under 0 = true := fun e => by rw [← e]; exact nums_und
 let Q : AV × List Row × Nat → Prop := fun r => ∃ g' X, fin rows r.1 r.2.1 r.2.2 = (g', rows ++ X, none) ∧ Und rows X ∧ GRd (rows ++ X) g' N ks ps
 have main : Ex F (.fn [.cellN 2 3]) [.code c17b] ⟨mk 16 [(0, .agg [.int .i64 N, ev, pv])], rows, rows.length⟩ Q := by
  rcases nil_or (l := nums .i64 (eC ks)) with h1 | ⟨x, m, h1⟩
  ·rcases nil_or (l := nums .i64 (pC ps)) with h2 | ⟨y, m2, h2⟩
   ·have c2 := hc2 [G, Z] (rows ++ [G, Z]).length
    have f := fin0 .nilslice .nilslice [] (by
     have : ks.length = 0 := by rw [h1] at ecl; simp at ecl; omega
     rw [h1, this]; exact El_nil) (by
     have : ps.length = 0 := by rw [h2] at pcl; simp at pcl; omega
     rw [h2, this]; exact El_nil) trivial trivial rfl (.inr rfl) (.inr rfl)
    rw [h1] at c1
    rw [h2] at c2
    simp [G, Z] at c1 c2
    simp [AV.cells, one1, one2, maskE, c1, c2, seg, splice, fillA, lower_ge', drop_mapL, Nat.add_assoc, tb5]
    exact f
   ·have c2 := hc2 [G, Z] (rows ++ [G, Z]).length
    have hP := acc_El (rows := rows ++ [G, .cells [.int .i64 N, .nilslice, .slice (rows.length + 2) 0 ps.length (.op 3)]]) (H := []) (cs := nums .i64 (pC ps)) (n := ps.length) (sz := 3) pcl (by omega)
    rw [h2] at hP
    have f := fin0 .nilslice (.slice (rows.length + 2) 0 ps.length (.op 3)) [.cells (y :: m2)] (by
     have : ks.length = 0 := by rw [h1] at ecl; simp at ecl; omega
     rw [h1, this]; exact El_nil) (by rw [h2]; simpa using hP.1) trivial (by simpa using hP.2) (by simp [und0 h2]) (.inr rfl) (.inl ⟨_, rfl, by omega⟩)
    rw [h1] at c1
    rw [h2] at c2
    simp [G, Z] at c1 c2
    simp [AV.cells, one1, one2, maskE, c1, c2, seg, splice, fillA, lower_ge', drop_mapL, Nat.add_assoc, tb5]
    exact f
  ·rcases nil_or (l := nums .i64 (pC ps)) with h2 | ⟨y, m2, h2⟩
   ·have c2 := hc2 [G, Z, .cells (x :: m)] (rows ++ [G, Z, .cells (x :: m)]).length
    have c2d := hc2 [G, Z, .dead] (rows ++ [G, Z, .dead]).length
    have hE := acc_El (rows := rows ++ [G, .cells [.int .i64 N, .slice (rows.length + 2) 0 ks.length (.op 2), .nilslice]]) (H := []) (cs := nums .i64 (eC ks)) (n := ks.length) (sz := 2) ecl (by omega)
    rw [h1] at hE
    have f := fin0 (.slice (rows.length + 2) 0 ks.length (.op 2)) .nilslice [.cells (x :: m)] (by rw [h1]; simpa using hE.1) (by
     have : ps.length = 0 := by rw [h2] at pcl; simp at pcl; omega
     rw [h2, this]; exact El_nil) (by simpa using hE.2) trivial (by simp [und0 h1]) (.inl ⟨_, rfl, by omega⟩) (.inr rfl)
    rw [h1] at c1
    rw [h2] at c2 c2d
    simp [G, Z] at c1 c2 c2d
    simp [AV.cells, one1, one2, maskE, c1, c2, c2d, seg, splice, fillA, lower_ge', drop_mapL, Nat.add_assoc, tb5]
    exact f
   ·have c2 := hc2 [G, Z, .cells (x :: m)] (rows ++ [G, Z, .cells (x :: m)]).length
    have c2d := hc2 [G, Z, .dead] (rows ++ [G, Z, .dead]).length
    have hE := acc_El (rows := rows ++ [G, .cells [.int .i64 N, .slice (rows.length + 2) 0 ks.length (.op 2), .slice (rows.length + 3) 0 ps.length (.op 3)]]) (H := []) (cs := nums .i64 (eC ks)) (n := ks.length) (sz := 2) ecl (by omega)
    have hP := acc_El (rows := rows ++ [G, .cells [.int .i64 N, .slice (rows.length + 2) 0 ks.length (.op 2), .slice (rows.length + 3) 0 ps.length (.op 3)], .cells (x :: m)]) (H := []) (cs := nums .i64 (pC ps)) (n := ps.length) (sz := 3) pcl (by omega)
    rw [h1] at hE
    rw [h2] at hP
    have hE1 := El_app hE.1 [.cells (y :: m2)]
    have f := fin0 (.slice (rows.length + 2) 0 ks.length (.op 2)) (.slice (rows.length + 3) 0 ps.length (.op 3)) [.cells (x :: m), .cells (y :: m2)] (by rw [h1]; simpa using hE1) (by rw [h2]; simpa using hP.1) (by simpa using hE.2) (by simpa using hP.2) (by simp [und0 h1, und0 h2]) (.inl ⟨_, rfl, by omega⟩) (.inl ⟨_, rfl, by omega⟩)
    rw [h1] at c1
    rw [h2] at c2 c2d
    simp [G, Z] at c1 c2 c2d
    simp [AV.cells, one1, one2, maskE, c1, c2, c2d, seg, splice, fillA, lower_ge', drop_mapL, Nat.add_assoc, tb5]
    exact f
 obtain ⟨n1, q, e, g', X, h1, h2, h3⟩ := main
 exact ⟨g', X, i17 F17 ⟨n1, q, e, h1⟩, h2, h3⟩
end
end Go.Abs

