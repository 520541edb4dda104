/- A call that was evaluated at one heap holds at a heap with more rows. -/
import Derived.Test.YtiejbjajbehcfaaDoorM4
set_option linter.unusedVariables false
set_option linter.unusedSimpArgs false
/- A call at a heap with more rows: values, operations. -/
namespace Go.Abs
/-- Rows are put behind the first ones. -/
structure Sh where
  g : Nat
  X : List Row
namespace Sh
variable (S : Sh)
def n (i : Nat) : Nat := if i < S.g then i else i + S.X.length
def v : AV → AV
  | .ptr id off => .ptr (S.n id) off
  | .slice id off len c => .slice (S.n id) off len c
  | .map id => .map (S.n id)
  | .yield id => .yield (S.n id)
  | .func f cs => .func f (vL cs)
  | .iface t x => .iface t (v x)
  | .agg l => .agg (vL l)
  | .tup l => .tup (vL l)
  | x => x
where vL : List AV → List AV
  | [] => []
  | x :: l => v x :: vL l
theorem vL_map : ∀ l : List AV, v.vL S l = l.map S.v
  | [] => rfl
  | x :: l => by simp [v.vL, vL_map l]
theorem v_func (f : Nat) (cs : List AV) : S.v (.func f cs) = .func f (cs.map S.v) := by simp [v, vL_map]
theorem v_agg (l : List AV) : S.v (.agg l) = .agg (l.map S.v) := by simp [v, vL_map]
theorem v_tup (l : List AV) : S.v (.tup l) = .tup (l.map S.v) := by simp [v, vL_map]
theorem n_lt {i j : Nat} : S.n i < S.n j ↔ i < j := by unfold n; split <;> split <;> omega
theorem n_inj {i j : Nat} : S.n i = S.n j ↔ i = j := by unfold n; split <;> split <;> omega
theorem n_ge {i : Nat} (h : S.g ≤ i) : S.n i = i + S.X.length := by unfold n; rw [if_neg (by omega)]
theorem n_lo {i : Nat} (h : i < S.g) : S.n i = i := by unfold n; rw [if_pos h]
mutual
theorem ids : ∀ x : AV, (S.v x).ids = x.ids.map S.n
  | .ptr .. => by simp [v, AV.ids]
  | .slice .. => by simp [v, AV.ids]
  | .map .. => by simp [v, AV.ids]
  | .yield .. => by simp [v, AV.ids]
  | .func f cs => by simp only [v, AV.ids]; exact idsL cs
  | .iface t x => by simp only [v, AV.ids]; exact ids x
  | .agg l => by simp only [v, AV.ids]; exact idsL l
  | .tup l => by simp only [v, AV.ids]; exact idsL l
  | .bool _ => by simp [v, AV.ids]
  | .int .. => by simp [v, AV.ids]
  | .str _ => by simp [v, AV.ids]
  | .nilptr => by simp [v, AV.ids]
  | .nilslice => by simp [v, AV.ids]
  | .nilmap => by simp [v, AV.ids]
  | .nilfunc => by simp [v, AV.ids]
  | .niliface => by simp [v, AV.ids]
  | .any => by simp [v, AV.ids]
theorem idsL : ∀ l : List AV, AV.ids.idsL (v.vL S l) = (AV.ids.idsL l).map S.n
  | [] => by simp [v.vL, AV.ids.idsL]
  | x :: l => by simp only [v.vL, AV.ids.idsL, List.map_append, ids x, idsL l]
end
@[simp] theorem one (x : AV) : (S.v x).one = x.one := by cases x <;> simp [v, AV.one]
@[simp] theorem cells (x : AV) : (S.v x).cells = x.cells.map S.v := by cases x <;> simp [v, AV.cells, vL_map]
theorem all_one (l : List AV) : (l.map S.v).all AV.one = l.all AV.one := by simp [List.all_map, Function.comp_def]

def o : Opd → Opd
  | .t i => .t i
  | .c x => .c (S.v x)
def oo (x : Option Opd) : Option Opd := x.map S.o
def ps (l : List (Nat × Nat × Opd)) : List (Nat × Nat × Opd) := l.map fun p => (p.1, p.2.1, S.o p.2.2)
def i : IOp → IOp
  | .mv x => .mv (S.o x)
  | .pick c a b => .pick (S.o c) (S.o a) (S.o b)
  | .box x => .box (S.o x)
  | .load1 a => .load1 (S.o a)
  | .loadN k a => .loadN k (S.o a)
  | .store1 a x => .store1 (S.o a) (S.o x)
  | .storeN k a x => .storeN k (S.o a) (S.o x)
  | .nilck x => .nilck (S.o x)
  | .bin op x y => .bin op (S.o x) (S.o y)
  | .eqv neg kd x y => .eqv neg kd (S.o x) (S.o y)
  | .un op x => .un op (S.o x)
  | .conv k x => .conv k (S.o x)
  | .part1 off x => .part1 off (S.o x)
  | .partN off k x => .partN off k (S.o x)
  | .idxV len sz ag x j => .idxV len sz ag (S.o x) (S.o j)
  | .fieldA off x => .fieldA off (S.o x)
  | .idxA len sz x j => .idxA len sz (S.o x) (S.o j)
  | .idxS sz x j => .idxS sz (S.o x) (S.o j)
  | .mkagg zero l => .mkagg (zero.map S.v) (S.ps l)
  | .mkslice len zero l => .mkslice len (zero.map S.v) (S.ps l)
  | .make zero b l c => .make (zero.map S.v) b (S.o l) (S.o c)
  | .sliceS sz x lo hi mx => .sliceS sz (S.o x) (S.oo lo) (S.oo hi) (S.oo mx)
  | .sliceA k sz x lo hi mx => .sliceA k sz (S.o x) (S.oo lo) (S.oo hi) (S.oo mx)
  | .mkfn f cs => .mkfn f (cs.map S.o)
  | .mkmap => .mkmap
  | .look z ok m k => .look (S.v z) ok (S.o m) (S.o k)
  | .mset m k x => .mset (S.o m) (S.o k) (S.o x)
  | .lenc k => .lenc k
  | .len kd x => .len kd (S.o x)
  | .cap x => .cap (S.o x)
  | .mx xs => .mx (xs.map S.o)
  | .mn xs => .mn (xs.map S.o)
  | .app sz b s x => .app sz b (S.o s) (S.o x)
  | .appz z s x => .appz (z.map S.v) (S.o s) (S.o x)
  | .ext x j => .ext (S.o x) j
  | .mkif t x => .mkif t (S.o x)
  | .call f args => .call (S.o f) (args.map S.o)
  | .bad => .bad
def x (a : IOpx) : IOpx := ⟨a.dst, S.i a.op, a.g⟩
def gl (l : List (IOpx × Nat)) : List (IOpx × Nat) := l.map fun p => (S.x p.1, p.2)
def s : Seg → Seg
  | .one a => .one (S.x a)
  | .grp l => .grp (S.gl l)
  | .grpw a y k l => .grpw (S.o a) (S.o y) k (S.gl l)
  | .stop => .stop
def c : ICode → ICode
  | .skip => .skip
  | .ret => .ret
  | .exit id => .exit id
  | .seq a b => .seq (c a) (c b)
  | .cond y a b => .cond (S.o y) (c a) (c b)
  | .block id a => .block id (c a)
  | .loop a => .loop (c a)
  | .scope a => .scope (c a)
  | .ops l => .ops (l.map S.s)
  | .rf f pl a b => .rf (S.o f) pl (c a) (c b)
  | .kill l a => .kill l (c a)
  | .stop => .stop
def t : Itm → Itm
  | .code a => .code (S.c a)
  | .inBlock id => .inBlock id
  | .inLoop a => .inLoop (S.c a)
  | .inScope a => .inScope (S.c a)
  | .ops l => .ops (l.map S.s)
  | .rfBegin => .rfBegin
def e (p : AV × AV) : AV × AV := (S.v p.1, S.v p.2)
def r : Row → Row
  | .cells vs => .cells (vs.map S.v)
  | .ro vs => .ro (vs.map S.v)
  | .mp es => .mp (es.map S.e)
  | .loop st pend sl pl asg body => .loop st pend (sl.map S.v) pl (S.c asg) (S.c body)
  | .mark => .mark
  | .dead => .dead
def h (rows : List Row) : List Row := (rows.take S.g).map S.r ++ S.X ++ (rows.drop S.g).map S.r
def x3 (q : AV × List Row × Nat) : AV × List Row × Nat := (S.v q.1, S.h q.2.1, S.n q.2.2)
def x3o (q : AV × List Row × Option Nat) : AV × List Row × Option Nat := (S.v q.1, S.h q.2.1, q.2.2.map S.n)

/-! ### Rows -/
variable {S}
theorem h_len {rows : List Row} (hg : S.g ≤ rows.length) : (S.h rows).length = S.n rows.length := by
  rw [S.n_ge hg]
  simp [h]
  omega
theorem h_get {rows : List Row} (hg : S.g ≤ rows.length) (id : Nat) : (S.h rows)[S.n id]? = (rows[id]?).map S.r := by
  unfold h
  have hl : ((rows.take S.g).map S.r).length = S.g := by simp; omega
  by_cases hid : id < S.g
  · rw [S.n_lo hid, List.append_assoc, List.getElem?_append_left (by omega), List.getElem?_map, List.getElem?_take, if_pos hid]
  · rw [S.n_ge (by omega), List.getElem?_append_right (by simp; omega), List.getElem?_map, List.getElem?_drop]
    simp only [List.length_append, hl]
    congr 2
    omega
theorem h_set {rows : List Row} (hg : S.g ≤ rows.length) (id : Nat) (x : Row) : (S.h rows).set (S.n id) (S.r x) = S.h (rows.set id x) := by
  unfold h
  have hl : ((rows.take S.g).map S.r).length = S.g := by simp; omega
  by_cases hid : id < S.g
  · rw [S.n_lo hid, List.append_assoc, List.set_append_left _ _ (by omega), ← List.map_set, List.take_set, List.drop_set_of_lt hid, List.append_assoc]
  · rw [S.n_ge (by omega), List.set_append_right _ _ (by simp; omega), ← List.map_set]
    simp only [List.length_append, hl]
    rw [List.take_set_of_le (by omega), List.drop_set, if_neg (by omega)]
    congr 3
    omega
theorem h_app {rows L : List Row} (hg : S.g ≤ rows.length) : S.h (rows ++ L) = S.h rows ++ L.map S.r := by
  unfold h
  rw [List.take_append_of_le_length hg, List.drop_append_of_le_length hg, List.map_append]
  simp only [List.append_assoc]
theorem h_row? {rows : List Row} (hg : S.g ≤ rows.length) (id : Nat) : row? (S.h rows) (S.n id) = (row? rows id).map (·.map S.v) := by
  unfold row?
  rw [h_get hg]
  cases rows[id]? with
  | none => rfl
  | some y => cases y <;> rfl

variable (S)
theorem getO_ok (sl : List AV) (x : Opd) : getO (sl.map S.v) (S.o x) = S.v (getO sl x) := by
  cases x with
  | t i =>
    simp only [o, getO, List.getD_eq_getElem?_getD, List.getElem?_map]
    cases sl[i]? <;> simp [v]
  | c y => rfl
theorem seg_ok (l : List AV) (a b : Nat) : seg (l.map S.v) a b = (seg l a b).map (·.map S.v) := by
  unfold seg
  rw [List.length_map]
  split <;> simp
theorem splice_ok (l m : List AV) (a : Nat) : splice (l.map S.v) a (m.map S.v) = (splice l a m).map S.v := by simp [splice]
theorem fill_ok {gg gg' : Opd → AV} (hgg : ∀ x, gg' (S.o x) = S.v (gg x)) : ∀ (l : List (Nat × Nat × Opd)) (cs : List AV), fillA gg' (S.ps l) (cs.map S.v) = (fillA gg l cs).map (·.map S.v)
  | [], cs => rfl
  | (a, b, x) :: l, cs => by
    simp only [ps, List.map_cons, fillA, hgg, cells, List.length_map, all_one]
    split
    · rw [splice_ok]
      exact fill_ok hgg l _
    · rfl
theorem bin_ok (op : BinOp) (a b : AV) : binA op (S.v a) (S.v b) = (binA op a b).map S.v := by
  cases a <;> first
    | (simp only [v, binA]; rfl)
    | (cases b <;> first
        | (simp only [v, binA]; rfl)
        | (simp only [v, binA]
           split
           · cases op <;> simp [shiftI] <;> split <;> simp [v]
           · split
             · cases op <;> simp only [binI] <;> first | rfl | (split <;> rfl)
             · rfl))
theorem eqInts_ok : ∀ xs ys : List AV, eqInts (xs.map S.v) (ys.map S.v) = eqInts xs ys
  | [], [] => rfl
  | [], _ :: _ => by simp [eqInts]
  | _ :: _, [] => by simp [eqInts]
  | a :: xs, b :: ys => by
    cases a <;> cases b <;> simp only [List.map_cons, v, eqInts]
    rw [eqInts_ok xs ys]
theorem eq_ok (kd : EqK) (a b : AV) : eqA kd (S.v a) (S.v b) = eqA kd a b := by
  cases kd <;> cases a <;> cases b <;> first | rfl | simp only [v, eqA]
  simp only [vL_map, List.length_map, eqInts_ok]
theorem un_ok (op : UnOp) (a : AV) : unA op (S.v a) = (unA op a).map S.v := by
  cases a <;> cases op <;> simp only [v, unA] <;> rfl
theorem fold_ok {f : AV → AV → Option AV} (hf : ∀ a b, f (S.v a) (S.v b) = (f a b).map S.v) : ∀ (l : List AV) (a : AV), foldA f (S.v a) (l.map S.v) = (foldA f a l).map S.v
  | [], a => rfl
  | x :: l, a => by
    simp only [List.map_cons, foldA, hf]
    cases f a x with
    | none => rfl
    | some b => exact fold_ok hf l b
theorem mx_ok (a b : AV) : mxA (S.v a) (S.v b) = (mxA a b).map S.v := by
  cases a <;> cases b <;> first | rfl | (simp only [v, mxA]; split <;> rfl)
theorem mn_ok (a b : AV) : mnA (S.v a) (S.v b) = (mnA a b).map S.v := by
  cases a <;> cases b <;> first | rfl | (simp only [v, mnA]; split <;> rfl)
theorem bound_ok (y : Option AV) (d k : Nat) : bound? (y.map S.v) d k = bound? y d k := by
  cases y with
  | none => rfl
  | some a => cases a <;> rfl
theorem slice_ok (sz : Nat) (a : AV) (lo hi mx : Option AV) : sliceV sz (S.v a) (lo.map S.v) (hi.map S.v) (mx.map S.v) = (sliceV sz a lo hi mx).map S.v := by
  have e1 : ∀ y : Option AV, (y.map S.v).isSome = y.isSome := fun y => by cases y <;> rfl
  have e2 : ∀ y : Option AV, (y.map S.v).isNone = y.isNone := fun y => by cases y <;> rfl
  cases a <;> try rfl
  case slice id off len cp =>
    cases cp with
    | at_ k =>
      simp only [v, sliceV, bound_ok, e1, e2]
      cases bound? mx k k with
      | none => rfl
      | some q =>
        simp only
        cases bound? hi len q with
        | none => rfl
        | some w =>
          simp only
          cases bound? lo 0 w with
          | none => rfl
          | some u => simp only; split <;> rfl
    | op k =>
      cases mx with
      | none =>
        simp only [v, sliceV, bound_ok, e1, e2, Option.map_none]
        cases bound? hi len len with
        | none => rfl
        | some w =>
          simp only
          cases bound? lo 0 w with
          | none => rfl
          | some u => simp only; split <;> rfl
      | some y =>
        have e3 := bound_ok S (some y) len len
        simp only [Option.map_some] at e3
        simp only [v, sliceV, bound_ok, e1, e2, Option.map_some, e3]
        cases bound? (some y) len len with
        | none => rfl
        | some q =>
          simp only
          cases bound? hi len q with
          | none => rfl
          | some w =>
            simp only
            cases bound? lo 0 w with
            | none => rfl
            | some u =>
              simp only
              by_cases z1 : hi.isNone = true
              · simp [z1]
              · by_cases z2 : k = sz <;> simp [z1, z2, v]
  case nilslice =>
    simp only [v, sliceV, bound_ok, e1, e2]
    cases bound? mx 0 0 <;> cases bound? hi 0 0 <;> cases bound? lo 0 0 <;> simp only <;> first | rfl | (split <;> rfl)
theorem key_ok (a b : AV) : keyEq (S.v a) (S.v b) = keyEq a b := by cases a <;> cases b <;> rfl
theorem find_ok (k : AV) : ∀ (es : List (AV × AV)) (j : Nat), findK (S.v k) (es.map S.e) j = (findK k es j).map fun q => q.map fun p => (p.1, S.v p.2)
  | [], j => rfl
  | p :: es, j => by
    simp only [List.map_cons, findK, e, key_ok]
    cases keyEq k p.1 with
    | none => rfl
    | some b =>
      cases b
      · exact find_ok k es (j + 1)
      · rfl
end Sh
end Go.Abs
/- A call at a heap with more rows: operations on the heap. -/
namespace Go.Abs
namespace Sh
variable (S : Sh)
theorem map_ok {gg gg' : Opd → AV} (hgg : ∀ y, gg' (S.o y) = S.v (gg y)) (l : List Opd) : (l.map S.o).map gg' = (l.map gg).map S.v := by
  simp [hgg, Function.comp_def]
theorem mapo_ok {gg gg' : Opd → AV} (hgg : ∀ y, gg' (S.o y) = S.v (gg y)) (l : Option Opd) : (S.oo l).map gg' = (l.map gg).map S.v := by
  cases l <;> simp [oo, hgg]
theorem evalP_ok {gg gg' : Opd → AV} (hgg : ∀ y, gg' (S.o y) = S.v (gg y)) {rows : List Row} (hg : S.g ≤ rows.length) (op : IOp) : evalP (S.h rows) gg' (S.i op) = (evalP rows gg op).map S.v := by
  cases op with
  | mv y => simp only [i, evalP, hgg, Option.map_some]
  | pick y a b =>
    simp only [i, evalP, hgg]
    cases gg y <;> try rfl
    simp only [v, Option.map_some]; split <;> rfl
  | load1 a =>
    simp only [i, evalP, hgg]
    cases gg a <;> try rfl
    simp only [v, h_row? hg]
    cases row? rows _ with
    | none => rfl
    | some vs => simp
  | loadN k a =>
    simp only [i, evalP, hgg]
    cases gg a <;> try rfl
    simp only [v, h_row? hg]
    cases row? rows _ with
    | none => rfl
    | some vs =>
      simp only [Option.map_some, seg_ok]
      cases seg vs _ _ <;> simp [v_agg]
  | nilck y =>
    simp only [i, evalP, hgg]
    cases gg y <;> rfl
  | bin op a b => simp only [i, evalP, hgg, bin_ok]
  | eqv neg kd a b =>
    simp only [i, evalP, hgg, eq_ok]
    cases eqA kd (gg a) (gg b) <;> rfl
  | un op a => simp only [i, evalP, hgg, un_ok]
  | conv k a =>
    simp only [i, evalP, hgg]
    cases gg a <;> rfl
  | part1 off a =>
    simp only [i, evalP, hgg]
    cases gg a <;> try rfl
    simp [v_agg]
  | partN off k a =>
    simp only [i, evalP, hgg]
    cases gg a <;> try rfl
    simp only [v_agg, seg_ok]
    cases seg _ off k <;> simp [v_agg]
  | idxV len sz ag a j =>
    simp only [i, evalP, hgg]
    cases gg a <;> try rfl
    cases gg j <;> try rfl
    simp only [v_agg, v, vL_map]
    cases idx? _ len with
    | none => rfl
    | some q =>
      simp only
      split
      · rw [seg_ok]; cases seg _ _ _ <;> simp [v_agg]
      · simp
  | fieldA off a =>
    simp only [i, evalP, hgg]
    cases gg a <;> rfl
  | idxA len sz a j =>
    simp only [i, evalP, hgg]
    cases gg a <;> try rfl
    cases gg j <;> try rfl
    simp only [v]
    cases idx? _ len <;> rfl
  | idxS sz a j =>
    simp only [i, evalP, hgg]
    cases gg a <;> try rfl
    cases gg j <;> try rfl
    simp only [v]
    cases idx? _ _ <;> rfl
  | mkagg z l =>
    simp only [i, evalP, fill_ok S hgg]
    cases fillA gg l z <;> simp [v_agg]
  | sliceS sz a lo hi mx => simp only [i, evalP, hgg, mapo_ok S hgg, slice_ok]
  | sliceA k sz a lo hi mx =>
    simp only [i, evalP, hgg, mapo_ok S hgg]
    cases gg a <;> try rfl
    rename_i id off
    exact slice_ok S sz (.slice id off k (.at_ k)) (lo.map gg) (hi.map gg) (mx.map gg)
  | mkfn f cs => simp only [i, evalP, map_ok S hgg, Option.map_some, v_func]
  | look z ok a b =>
    simp only [i, evalP, hgg]
    cases gg a <;> try rfl
    · rename_i id
      simp only [v, h_get hg]
      cases rows[id]? with
      | none => rfl
      | some y =>
        cases y <;> try rfl
        simp only [Option.map_some, r, find_ok]
        cases findK (gg b) _ 0 with
        | none => rfl
        | some q =>
          cases q with
          | none => simp only [Option.map_some, Option.map_none]; cases ok <;> simp [v_tup, v]
          | some p => simp only [Option.map_some]; cases ok <;> simp [v_tup, v]
    · simp only [v, key_ok]
      cases keyEq (gg b) (gg b) with
      | none => rfl
      | some q => simp only; cases ok <;> simp [v, vL_map]
  | lenc k => rfl
  | len kd a =>
    simp only [i, evalP, hgg]
    cases gg a <;> (try (rcases kd with _ | _ | _ | kd <;> rfl))
    rcases kd with _ | _ | _ | kd <;> try rfl
    rename_i id
    simp only [v, h_get hg]
    cases rows[id]? with
    | none => rfl
    | some y => cases y <;> simp [r, v]
  | cap a =>
    simp only [i, evalP, hgg]
    cases gg a <;> try rfl
    rename_i c
    cases c <;> rfl
  | mx xs =>
    simp only [i, evalP, map_ok S hgg]
    cases xs.map gg with
    | nil => rfl
    | cons a l => exact fold_ok S (mx_ok S) l a
  | mn xs =>
    simp only [i, evalP, map_ok S hgg]
    cases xs.map gg with
    | nil => rfl
    | cons a l => exact fold_ok S (mn_ok S) l a
  | ext a j =>
    simp only [i, evalP, hgg]
    cases gg a <;> try rfl
    simp [v_tup]
  | mkif ty a => simp [i, evalP, hgg, v]
  | _ => rfl

theorem lower_ok (low id : Nat) : lower (S.n low) (S.n id) = S.n (lower low id) := by
  unfold lower
  by_cases h : id < low
  · rw [if_pos h, if_pos (S.n_lt.2 h)]
  · rw [if_neg h, if_neg (fun e => h (S.n_lt.1 e))]
theorem elems_ok {rows : List Row} (hg : S.g ≤ rows.length) (sz : Nat) (a : AV) : elems (S.h rows) sz (S.v a) = (elems rows sz a).map fun p => (p.1.map S.v, p.2) := by
  cases a <;> try rfl
  simp only [v, elems, h_row? hg]
  cases row? rows _ with
  | none => rfl
  | some vs =>
    simp only [Option.map_some, seg_ok]
    cases seg vs _ _ <;> simp
theorem rep_ok (k : Nat) (z : List AV) : (List.replicate k (z.map S.v)).flatten = ((List.replicate k z).flatten).map S.v := by
  induction k with
  | zero => rfl
  | succ k ih => rw [List.replicate_succ, List.replicate_succ, List.flatten_cons, List.flatten_cons, ih, List.map_append]
theorem dead_ok : S.r .dead = .dead := rfl
theorem cells_ok (l : List AV) : S.r (.cells l) = .cells (l.map S.v) := rfl
theorem tup0 : S.v (.tup []) = .tup [] := by rw [v_tup]; rfl

/-- An operation that makes or writes; the heap never loses its first rows. -/
theorem evalE_ok {gg gg' : Opd → AV} (hgg : ∀ y, gg' (S.o y) = S.v (gg y)) {rows : List Row} (hg : S.g ≤ rows.length) (low : Nat) (op : IOp) : evalE gg' (S.h rows) (S.n low) (S.i op) = (evalE gg rows low op).map S.x3 ∧ ∀ q, evalE gg rows low op = some q → rows.length ≤ q.2.1.length := by
  have hP : ∀ op : IOp, (evalP (S.h rows) gg' (S.i op)).map (fun w => (w, S.h rows, S.n low)) = ((evalP rows gg op).map fun w => (w, rows, low)).map S.x3 := by
    intro op
    rw [evalP_ok S hgg hg]
    cases evalP rows gg op <;> rfl
  have hP2 : ∀ op : IOp, ∀ q, ((evalP rows gg op).map fun w => (w, rows, low)) = some q → rows.length ≤ q.2.1.length := by
    intro op q e
    rw [Option.map_eq_some_iff] at e
    obtain ⟨w, _, rfl⟩ := e
    exact Nat.le_refl _
  have hlen : (S.h rows).length = S.n rows.length := h_len hg
  cases op with
  | box y =>
    simp only [i, evalE, hgg, cells, all_one]
    by_cases h1 : (gg y).cells.all AV.one = true
    · rw [if_pos h1, if_pos h1]
      refine ⟨?_, fun q e => ?_⟩
      · simp only [Option.map_some, x3, v, hlen, h_app hg, List.map_cons, List.map_nil, cells_ok, List.map_append]
      · injection e with e; subst e; simp
    · rw [if_neg h1, if_neg h1]
      exact ⟨rfl, fun q e => by simp at e⟩
  | store1 a y =>
    simp only [i, evalE, hgg]
    cases gg a <;> try exact ⟨rfl, fun q e => by simp at e⟩
    rename_i id off
    simp only [v, h_get hg]
    cases hr : rows[id]? with
    | none => exact ⟨rfl, fun q e => by simp at e⟩
    | some w =>
      cases w <;> try exact ⟨rfl, fun q e => by simp at e⟩
      rename_i vs
      simp only [Option.map_some, r, List.length_map, one]
      by_cases h1 : off < vs.length ∧ (gg y).one = true
      · rw [if_pos h1, if_pos h1]
        refine ⟨?_, fun q e => ?_⟩
        · simp only [Option.map_some, x3, tup0, lower_ok, ← h_set hg, cells_ok, List.map_set]
        · injection e with e; subst e; simp
      · rw [if_neg h1, if_neg h1]
        exact ⟨rfl, fun q e => by simp at e⟩
  | storeN k a y =>
    simp only [i, evalE, hgg]
    cases gg a <;> try exact ⟨rfl, fun q e => by simp at e⟩
    rename_i id off
    cases gg y <;> try exact ⟨rfl, fun q e => by simp at e⟩
    rename_i l
    simp only [v, vL_map, h_get hg]
    cases hr : rows[id]? with
    | none => exact ⟨rfl, fun q e => by simp at e⟩
    | some w =>
      cases w <;> try exact ⟨rfl, fun q e => by simp at e⟩
      rename_i vs
      simp only [Option.map_some, r, List.length_map, all_one]
      by_cases h1 : l.length = k ∧ off + k ≤ vs.length ∧ l.all AV.one = true
      · rw [if_pos h1, if_pos h1]
        refine ⟨?_, fun q e => ?_⟩
        · simp only [Option.map_some, x3, tup0, lower_ok, ← h_set hg, cells_ok, splice_ok]
        · injection e with e; subst e; simp
      · rw [if_neg h1, if_neg h1]
        exact ⟨rfl, fun q e => by simp at e⟩
  | mkslice k z l =>
    simp only [i, evalE, fill_ok S hgg]
    cases fillA gg l z with
    | none => exact ⟨rfl, fun q e => by simp at e⟩
    | some cs =>
      refine ⟨?_, fun q e => ?_⟩
      · simp only [Option.map_some, x3, v, hlen, h_app hg, List.map_cons, List.map_nil, cells_ok, List.map_append]
      · simp only [Option.some.injEq] at e; subst e; simp
  | make z b l cp =>
    simp only [i, evalE, hgg]
    cases gg l <;> try exact ⟨rfl, fun q e => by simp at e⟩
    cases gg cp <;> try exact ⟨rfl, fun q e => by simp at e⟩
    simp only [v]
    split
    · refine ⟨?_, fun q e => ?_⟩
      · simp only [Option.map_some, x3, v, hlen, h_app hg, List.map_cons, List.map_nil, cells_ok, rep_ok]
      · injection e with e; subst e; simp
    · exact ⟨rfl, fun q e => by simp at e⟩
  | appz z a y =>
    simp only [i, evalE, hgg]
    cases gg a <;> try exact ⟨rfl, fun q e => by simp at e⟩
    cases gg y <;> try exact ⟨rfl, fun q e => by simp at e⟩
    simp only [v]
    split
    · refine ⟨?_, fun q e => ?_⟩
      · simp only [Option.map_some, x3, v, hlen, h_app hg, List.map_cons, List.map_nil, cells_ok, rep_ok]
      · injection e with e; subst e; simp
    · exact ⟨rfl, fun q e => by simp at e⟩
  | mkmap =>
    refine ⟨?_, fun q e => ?_⟩
    · simp [i, evalE, x3, v, hlen, h_app hg, r]
    · simp only [evalE, Option.some.injEq] at e; subst e; simp
  | mset a k y =>
    simp only [i, evalE, hgg]
    cases gg a <;> try exact ⟨rfl, fun q e => by simp at e⟩
    rename_i id
    simp only [v, h_get hg]
    cases hr : rows[id]? with
    | none => exact ⟨rfl, fun q e => by simp at e⟩
    | some w =>
      cases w <;> try exact ⟨rfl, fun q e => by simp at e⟩
      rename_i es
      simp only [Option.map_some, r, find_ok]
      cases findK (gg k) es 0 with
      | none => exact ⟨rfl, fun q e => by simp at e⟩
      | some q =>
        cases q with
        | none =>
          simp only [Option.map_some, Option.map_none, key_ok]
          split
          · refine ⟨?_, fun q e => ?_⟩
            · simp only [Option.map_some, x3, tup0, lower_ok, ← h_set hg, r, List.map_append, List.map_cons, List.map_nil, Sh.e]
            · injection e with e; subst e; simp
          · exact ⟨rfl, fun q e => by simp at e⟩
        | some p =>
          obtain ⟨j, w⟩ := p
          simp only [Option.map_some]
          refine ⟨?_, fun q e => ?_⟩
          · simp only [x3, tup0, lower_ok, ← h_set hg, r, List.map_set, Sh.e]
          · injection e with e; subst e; simp
  | app sz b a y =>
    simp only [i, evalE, hgg, elems_ok S hg]
    cases elems rows sz (gg y) with
    | none => exact ⟨rfl, fun q e => by simp at e⟩
    | some p =>
      obtain ⟨ys, m⟩ := p
      simp only [Option.map_some]
      by_cases hm : m = 0
      · rw [if_pos hm, if_pos hm]
        cases hga : gg a with
        | nilslice => exact ⟨rfl, fun q e => by injection e with e; subst e; exact Nat.le_refl _⟩
        | slice => exact ⟨rfl, fun q e => by injection e with e; subst e; exact Nat.le_refl _⟩
        | _ => exact ⟨rfl, fun q e => by simp at e⟩
      · rw [if_neg hm, if_neg hm]
        by_cases hm2 : lim < m
        · rw [if_pos hm2, if_pos hm2]; exact ⟨rfl, fun q e => by simp at e⟩
        · rw [if_neg hm2, if_neg hm2]
          cases gg a <;> try exact ⟨rfl, fun q e => by simp at e⟩
          · rename_i id off k cp
            cases cp with
            | at_ c =>
              simp only [v]
              by_cases h1 : lim < k + m
              · rw [if_pos h1, if_pos h1]; exact ⟨rfl, fun q e => by simp at e⟩
              · rw [if_neg h1, if_neg h1]
                by_cases h2 : k + m ≤ c
                · rw [if_pos h2, if_pos h2, h_get hg]
                  cases hr : rows[id]? with
                  | none => exact ⟨rfl, fun q e => by simp at e⟩
                  | some w =>
                    cases w <;> try exact ⟨rfl, fun q e => by simp at e⟩
                    rename_i vs
                    simp only [Option.map_some, r, List.length_map]
                    split
                    · refine ⟨?_, fun q e => ?_⟩
                      · simp only [Option.map_some, x3, lower_ok, ← h_set hg, cells_ok, splice_ok, v]
                      · injection e with e; subst e; simp
                    · exact ⟨rfl, fun q e => by simp at e⟩
                · rw [if_neg h2, if_neg h2, h_row? hg]
                  cases row? rows id with
                  | none => exact ⟨rfl, fun q e => by simp at e⟩
                  | some vs =>
                    simp only [Option.map_some, seg_ok]
                    cases seg vs off (k * sz) with
                    | none => exact ⟨rfl, fun q e => by simp at e⟩
                    | some xs =>
                      refine ⟨?_, fun q e => ?_⟩
                      · simp only [Option.map_some, x3, v, hlen, h_app hg, List.map_cons, List.map_nil, cells_ok, List.map_append]
                      · injection e with e; subst e; simp
            | op sz' =>
              simp only [v]
              by_cases h1 : lim < k + m ∨ sz' ≠ sz
              · rw [if_pos h1, if_pos h1]; exact ⟨rfl, fun q e => by simp at e⟩
              · rw [if_neg h1, if_neg h1, h_get hg]
                cases hr : rows[id]? with
                | none => exact ⟨rfl, fun q e => by simp at e⟩
                | some w =>
                  cases w <;> try exact ⟨rfl, fun q e => by simp at e⟩
                  rename_i vs
                  simp only [Option.map_some, r, seg_ok]
                  cases seg vs off (k * sz) with
                  | none => exact ⟨rfl, fun q e => by simp at e⟩
                  | some xs =>
                    refine ⟨?_, fun q e => ?_⟩
                    · have hg' : S.g ≤ (rows.set id .dead).length := by simpa using hg
                      have e1 : (S.h rows).set (S.n id) .dead = S.h (rows.set id .dead) := h_set (S := S) hg id .dead
                      simp only [Option.map_some, x3, lower_ok, e1, v, hlen, h_app hg', List.map_cons, List.map_nil, cells_ok, List.map_append]
                    · injection e with e; subst e; simp
          · refine ⟨?_, fun q e => ?_⟩
            · simp only [Option.map_some, x3, v, hlen, h_app hg, List.map_cons, List.map_nil, cells_ok, List.map_append]
            · injection e with e; subst e; simp
  | call f args => exact ⟨rfl, fun q e => by simp [evalE, evalP] at e⟩
  | bad => exact ⟨rfl, fun q e => by simp [evalE, evalP] at e⟩
  | mv y => exact ⟨hP (.mv y), hP2 (.mv y)⟩
  | mkfn f cs => exact ⟨hP (.mkfn f cs), hP2 (.mkfn f cs)⟩
  | lenc k => exact ⟨hP (.lenc k), hP2 (.lenc k)⟩
  | mkif ty y => exact ⟨hP (.mkif ty y), hP2 (.mkif ty y)⟩
  | _ => exact ⟨hP _, hP2 _⟩
end Sh
end Go.Abs
/- A call at a heap with more rows: the evaluator. -/
namespace Go.Abs
namespace Sh
variable (S : Sh)
theorem any_ok : S.v .any = .any := by simp [v]
theorem getT (sl : List AV) (t : Nat) : (sl.map S.v).getD t .any = S.v (sl.getD t .any) := getO_ok S sl (.t t)
theorem h_take {rows : List Row} {b : Nat} (h1 : S.g ≤ b) (h2 : b ≤ rows.length) : (S.h rows).take (S.n b) = S.h (rows.take b) := by
  have hg : S.g ≤ rows.length := by omega
  have e := h_app (S := S) (rows := rows.take b) (L := rows.drop b) (by simp; omega)
  rw [List.take_append_drop] at e
  have hl : (S.h (rows.take b)).length = S.n b := by
    rw [h_len (by simp; omega)]; congr 1; simp; omega
  rw [e, List.take_append_of_le_length (by omega), List.take_of_length_le (by omega)]
theorem h_drop {rows : List Row} {b : Nat} (h1 : S.g ≤ b) (h2 : b ≤ rows.length) : (S.h rows).drop (S.n b) = (rows.drop b).map S.r := by
  have e := h_app (S := S) (rows := rows.take b) (L := rows.drop b) (by simp; omega)
  rw [List.take_append_drop] at e
  have hl : (S.h (rows.take b)).length = S.n b := by
    rw [h_len (by simp; omega)]; congr 1; simp; omega
  rw [e, List.drop_append_of_le_length (by omega), List.drop_of_length_le (by omega), List.nil_append]
theorem lt_ok (b : Nat) (l : List Nat) : (l.map S.n).all (fun i => decide (i < S.n b)) = l.all fun i => decide (i < b) := by
  simp only [List.all_map, Function.comp_def, S.n_lt]
theorem under_ok (b : Nat) (a : AV) : (S.v a).under (S.n b) = a.under b := by
  unfold AV.under
  rw [ids]
  exact lt_ok S b a.ids
theorem underL_ok (b : Nat) (l : List AV) : (l.map S.v).all (AV.under (S.n b)) = l.all (AV.under b) := by
  simp only [List.all_map, Function.comp_def, under_ok]
theorem runder_ok (b : Nat) (y : Row) : (S.r y).under (S.n b) = y.under b := by
  cases y <;> simp only [r, Row.under, underL_ok]
  rename_i es
  simp only [List.all_map, Function.comp_def, Sh.e, under_ok]
theorem runders_ok (b : Nat) (l : List Row) : (l.map S.r).all (Row.under (S.n b)) = l.all (Row.under b) := by
  simp only [List.all_map, Function.comp_def, runder_ok]
theorem under_mono {b b' : Nat} (h : b ≤ b') {a : AV} (ha : a.under b = true) : a.under b' = true := by
  unfold AV.under at *
  rw [List.all_eq_true] at *
  intro x hx
  have := ha x hx
  simp at *
  omega
theorem runder_mono {b b' : Nat} (h : b ≤ b') {y : Row} (hy : y.under b = true) : y.under b' = true := by
  have hL : ∀ l : List AV, l.all (AV.under b) = true → l.all (AV.under b') = true := by
    intro l hl
    rw [List.all_eq_true] at *
    exact fun x hx => under_mono h (hl x hx)
  cases y <;> simp only [Row.under] at * <;> try exact hL _ hy
  rw [List.all_eq_true] at *
  intro x hx
  have := hy x hx
  rw [Bool.and_eq_true] at *
  exact ⟨under_mono h this.1, under_mono h this.2⟩

variable (hX : ∀ y ∈ S.X, y.under (S.g + S.X.length) = true)
include hX in
theorem gc_ok {b low : Nat} {a : AV} {rows : List Row} (h1 : S.g ≤ b) (h2 : b ≤ rows.length) : gc (S.n b) (S.n low) (S.v a) (S.h rows) = S.h (gc b low a rows) ∧ b ≤ (gc b low a rows).length := by
  have hall : (((S.h rows).take (S.n b)).drop (S.n low)).all (Row.under (S.n b)) = ((rows.take b).drop low).all (Row.under b) := by
    rw [h_take S h1 h2]
    have hl : S.g ≤ (rows.take b).length := by simp; omega
    generalize rows.take b = R at hl ⊢
    by_cases hlow : S.g ≤ low
    · by_cases hlR : low ≤ R.length
      · rw [h_drop S hlow hlR, runders_ok]
      · rw [List.drop_of_length_le (by rw [h_len hl, S.n_ge hl, S.n_ge hlow]; omega), List.drop_of_length_le (by omega)]
        rfl
    · rw [S.n_lo (by omega)]
      unfold h
      rw [List.append_assoc, List.drop_append_of_le_length (by simp; omega), ← List.map_drop, List.all_append, List.all_append, runders_ok, runders_ok]
      have hx : S.X.all (Row.under (S.n b)) = true := by
        rw [List.all_eq_true]
        exact fun y hy => runder_mono (by rw [S.n_ge h1]; omega) (hX y hy)
      rw [hx, Bool.true_and, ← List.all_append]
      congr 1
      rw [← List.drop_append_of_le_length (by simp; omega), List.take_append_drop]
  unfold gc
  rw [under_ok, hall]
  split
  · rw [h_take S h1 h2]
    exact ⟨rfl, by simp; omega⟩
  · exact ⟨rfl, h2⟩
theorem plain_ok (a : AV) : (S.v a).plain = a.plain := by
  cases a <;> simp only [v, AV.plain] <;> first
    | rfl
    | (rename_i x; have := ids S (.func _ x); simp only [v] at this; simp [this])
    | skip
  all_goals
    first
    | (rename_i f cs; have e := ids S (.func f cs); simp only [v] at e; rw [e]; simp)
    | (rename_i f cs; have e := ids S (.iface f cs); simp only [v] at e; rw [e]; simp)
    | (rename_i f; have e := ids S (.map f); simp only [v] at e; rw [e]; simp)
    | (rename_i f; have e := ids S (.yield f); simp only [v] at e; rw [e]; simp)
    | (rename_i f; have e := ids S (.agg f); simp only [v] at e; rw [e]; simp)
    | (rename_i f; have e := ids S (.tup f); simp only [v] at e; rw [e]; simp)
theorem ntup {a : AV} (h : ∀ l, a ≠ .tup l) : ∀ l, S.v a ≠ .tup l := by
  intro l
  cases a <;> simp [v]
  exact absurd rfl (h _)
theorem plain1_eq {a : AV} (h : ∀ l, a ≠ .tup l) : a.plain1 = a.plain := by
  cases a <;> first | rfl | exact absurd rfl (h _)
theorem ren1_eq {a : AV} (p q : Nat) (h : ∀ l, a ≠ .tup l) : a.ren1 p q = a.ren p q := by
  cases a <;> first | rfl | exact absurd rfl (h _)
theorem plain1_ok (a : AV) : (S.v a).plain1 = a.plain1 := by
  by_cases ht : ∃ l, a = .tup l
  · obtain ⟨l, rfl⟩ := ht
    rw [v_tup]; simp only [AV.plain1, List.all_map, Function.comp_def, plain_ok]
  · have h1 : ∀ l, a ≠ .tup l := fun l e => ht ⟨l, e⟩
    rw [plain1_eq h1, plain1_eq (ntup S h1), plain_ok]
theorem ren_ok (p q : Nat) (a : AV) : (S.v a).ren (S.n p) (S.n q) = S.v (a.ren p q) := by
  cases a <;> simp only [v, AV.ren, S.n_inj] <;> first | rfl | (split <;> rfl)
theorem ren1_ok (p q : Nat) (a : AV) : (S.v a).ren1 (S.n p) (S.n q) = S.v (a.ren1 p q) := by
  by_cases ht : ∃ l, a = .tup l
  · obtain ⟨l, rfl⟩ := ht
    rw [v_tup]
    simp only [AV.ren1, v_tup, List.map_map]
    congr 1
    apply List.map_congr_left
    intro x _
    exact ren_ok S p q x
  · have h1 : ∀ l, a ≠ .tup l := fun l e => ht ⟨l, e⟩
    rw [ren1_eq _ _ h1, ren1_eq _ _ (ntup S h1), ren_ok]
include hX in
theorem fin_ok {rows rows' : List Row} {low : Nat} {a : AV} (h1 : S.g ≤ rows.length) (h2 : rows.length ≤ rows'.length) : fin (S.h rows) (S.v a) (S.h rows') (S.n low) = S.x3o (fin rows a rows' low) ∧ rows.length ≤ (fin rows a rows' low).2.1.length := by
  have hlen : (S.h rows).length = S.n rows.length := h_len h1
  unfold fin
  rw [hlen]
  simp only [S.n_inj]
  by_cases hl : low = rows.length
  · rw [if_pos hl, if_pos hl, ids, lt_ok]
    by_cases ha : (a.ids.all fun x => decide (x < rows.length)) = true
    · rw [if_pos ha, if_pos ha]
      exact ⟨rfl, Nat.le_refl _⟩
    · rw [if_neg ha, if_neg ha]
      cases hi : a.ids with
      | nil => exact ⟨rfl, h2⟩
      | cons p l =>
        cases l with
        | cons _ _ => exact ⟨rfl, h2⟩
        | nil =>
          simp only [List.map_cons, List.map_nil, h_get (Nat.le_trans h1 h2)]
          cases rows'[p]? with
          | none => exact ⟨rfl, h2⟩
          | some y =>
            cases y <;> try exact ⟨rfl, h2⟩
            rename_i vs
            simp only [Option.map_some, r, plain1_ok]
            have e : (vs.map S.v).all (fun x => x.ids.isEmpty) = vs.all fun x => x.ids.isEmpty := by
              simp only [List.all_map, Function.comp_def, ids, List.isEmpty_map]
            rw [e]
            split
            · refine ⟨?_, by simp⟩
              simp only [x3o, ren1_ok, h_app h1, List.map_cons, List.map_nil, cells_ok, Option.map_none]
            · exact ⟨rfl, h2⟩
  · rw [if_neg hl, if_neg hl]
    have := gc_ok S hX (low := low) (a := a) h1 h2
    refine ⟨?_, this.2⟩
    simp only [x3o, this.1, Option.map_some]

theorem resV_ok {rows : List Row} (hg : S.g ≤ rows.length) (sl : List AV) (y : RV) : resV (S.h rows) (sl.map S.v) y = (resV rows sl y).map S.v := by
  cases y with
  | t k => simp only [resV, getT, Option.map_some]
  | cell1 k => exact evalP_ok S (getO_ok S sl) hg (.load1 (.t k))
  | cellN k sz => exact evalP_ok S (getO_ok S sl) hg (.loadN sz (.t k))
theorem resVs_ok {rows : List Row} (hg : S.g ≤ rows.length) (sl : List AV) : ∀ l : List RV, resVs (S.h rows) (sl.map S.v) l = (resVs rows sl l).map (·.map S.v)
  | [] => rfl
  | y :: l => by
    simp only [resVs, resV_ok S hg, resVs_ok hg sl l]
    cases resV rows sl y <;> cases resVs rows sl l <;> simp
theorem results_ok {rows : List Row} (hg : S.g ≤ rows.length) (sl : List AV) (l : List RV) : results (S.h rows) (sl.map S.v) l = (results rows sl l).map S.v := by
  unfold results
  rw [resVs_ok S hg]
  cases resVs rows sl l with
  | none => rfl
  | some q =>
    match q with
    | [] => simp [tup0]
    | [a] => rfl
    | a :: b :: l => simp [v_tup]

def cx : Ctx → Ctx
  | .fn res => .fn res
  | .round id => .round (S.n id)
theorem leave_ok {cx : Ctx} {j : Option Jump} {sl : List AV} {rows : List Row} {low : Nat} (hg : S.g ≤ rows.length) {q : AV × List Row × Nat} (h : leaveV cx j ⟨sl, rows, low⟩ = some q) : leaveV (S.cx cx) j ⟨sl.map S.v, S.h rows, S.n low⟩ = some (S.x3 q) ∧ rows.length ≤ q.2.1.length := by
  cases cx with
  | fn res =>
    simp only [leaveV, Sh.cx] at h ⊢
    split at h
    · simp at h
    · rename_i hj
      rw [Option.map_eq_some_iff] at h
      obtain ⟨w, hw, rfl⟩ := h
      rw [results_ok S hg, hw]
      exact ⟨rfl, Nat.le_refl _⟩
  | round id =>
    simp only [leaveV, Sh.cx] at h ⊢
    rw [h_get hg]
    split at h
    · rename_i hr
      rw [hr]
      injection h with h
      subst h
      simp only [Option.map_some, r]
      refine ⟨?_, by simp⟩
      simp only [x3, v, lower_ok, ← h_set hg, r]
    · simp at h

theorem want_ok (sl : List AV) (gd : Option (Nat × Bool)) : want (sl.map S.v) gd = want sl gd := by
  cases gd with
  | none => rfl
  | some p =>
    obtain ⟨t, b⟩ := p
    simp only [want, getT]
    generalize sl.getD t AV.any = y
    cases y <;> simp only [v]
    rename_i l
    cases l <;> simp [v.vL]

/-- A way to call, and the same at the longer heap. -/
def CallSh (call call' : CallF) : Prop := ∀ f vs rows q, call f vs rows = some q → S.g ≤ rows.length → call' f (vs.map S.v) (S.h rows) = some (S.x3o q) ∧ rows.length ≤ q.2.1.length

theorem target_ok (a : AV) (args : List AV) : target (S.v a) (args.map S.v) = (target a args).map fun p => (p.1, p.2.map S.v) := by
  cases a <;> simp only [v, target] <;> try rfl
  simp [vL_map]
theorem lowO_ok (low : Nat) (d : Option Nat) : lowO (S.n low) (d.map S.n) = S.n (lowO low d) := by
  cases d with
  | none => rfl
  | some k => exact lower_ok S low k
theorem put_ok (sl : List AV) (d : Option Nat) (a : AV) : putO (sl.map S.v) d (S.v a) = (putO sl d a).map S.v := by
  cases d <;> simp [putO]

theorem opR_ok {call call' : CallF} (hc : S.CallSh call call') {sl : List AV} {rows : List Row} {low : Nat} {o : IOpx} (hg : S.g ≤ rows.length) {q : AV × List Row × Nat} (h : opR call sl rows low o = some q) : opR call' (sl.map S.v) (S.h rows) (S.n low) (S.x o) = some (S.x3 q) ∧ rows.length ≤ q.2.1.length := by
  unfold opR at h ⊢
  simp only [Sh.x, want_ok]
  split at h
  · simp at h
  · injection h with h
    subst h
    exact ⟨by simp only [x3, tup0], Nat.le_refl _⟩
  · split at h
    · rename_i f args ho
      rw [ho]
      simp only [i, getO_ok, map_ok S (getO_ok S sl), target_ok]
      split at h
      · rename_i fid vs ht
        rw [ht]
        simp only [Option.map_some]
        split at h
        · rename_i a rows' d hcall
          injection h with h
          subst h
          obtain ⟨e1, e2⟩ := hc _ _ _ _ hcall hg
          simp only [e1, x3o, x3, lowO_ok]
          exact ⟨trivial, e2⟩
        · simp at h
      · simp at h
    · rename_i op hne
      have e := evalE_ok S (getO_ok S sl) hg low o.op
      have e2 := e.2 q h
      have e1 := e.1
      rw [h] at e1
      refine ⟨?_, e2⟩
      cases hop : o.op <;> first
        | (rw [hop] at e1; exact e1)
        | (exact absurd hop (hne _ _))

def ge (ext : List (Nat × Row)) : List (Nat × Row) := ext.map fun p => (p.1, S.r p.2)
theorem mask_ok (b : Nat) (ext : List (Nat × Row)) : maskE b (S.ge ext) = (maskE b ext).map S.r := by
  simp only [maskE, ge, List.map_map]
  apply List.map_congr_left
  intro p _
  simp only [Function.comp_def]
  split <;> rfl
theorem evalG_ok {call call' : CallF} (hc : S.CallSh call call') {rows : List Row} (hg : S.g ≤ rows.length) : ∀ (l : List (IOpx × Nat)) (j : Nat) (sl : List AV) (ext : List (Nat × Row)) (q : List AV × List (Nat × Row)), evalG call rows j l sl ext = some q → evalG call' (S.h rows) j (S.gl l) (sl.map S.v) (S.ge ext) = some (q.1.map S.v, S.ge q.2)
  | [], j, sl, ext, q, h => by
    simp only [evalG, Option.some.injEq] at h
    subst h
    rfl
  | (o, b) :: l, j, sl, ext, q, h => by
    simp only [evalG] at h
    simp only [gl, List.map_cons, evalG, mask_ok]
    have hgl : (S.ge ext).length = ext.length := by simp [ge]
    have hlen : (rows ++ maskE b ext).length = rows.length + ext.length := by simp [maskE]
    have e0 : S.h rows ++ (maskE b ext).map S.r = S.h (rows ++ maskE b ext) := (h_app hg).symm
    have e1 : (S.h rows).length + (S.ge ext).length = S.n (rows.length + ext.length) := by
      rw [h_len hg, hgl, S.n_ge hg, S.n_ge (by omega)]; omega
    rw [e0, e1]
    split at h
    · rename_i a rows' low' hop
      obtain ⟨r1, r2⟩ := opR_ok S hc (by omega) hop
      rw [r1]
      simp only [x3, S.n_inj]
      split at h
      · rename_i hl
        rw [if_pos hl]
        have e2 : (S.h rows').drop (S.n (rows.length + ext.length)) = (rows'.drop (rows.length + ext.length)).map S.r := h_drop S (by omega) (by simp only at r2; omega)
        rw [e2]
        have := evalG_ok hc hg l (j + 1) _ _ q h
        simp only [gl, put_ok, ge, List.map_append, List.map_map, Function.comp_def] at this ⊢
        simpa [Sh.x, put_ok, Function.comp_def] using this
      · simp at h
    · simp at h

theorem rowV_ok {rows : List Row} (hg : S.g ≤ rows.length) (sl : List AV) (l : List (IOpx × Nat)) : ∀ (k : Nat) (y : Opd), rowV (S.h rows) (sl.map S.v) (S.gl l) k (S.o y) = S.v (rowV rows sl l k y)
  | 0, y => by simp only [rowV, getO_ok]
  | k + 1, .c y => rfl
  | k + 1, .t t => by
    have ih := rowV_ok hg sl l k
    have hf : (S.gl l).find? (fun o => o.1.dst == some t) = (l.find? fun o => o.1.dst == some t).map fun p => (S.x p.1, p.2) := by
      simp only [gl, List.find?_map, Function.comp_def, Sh.x]
    show rowV (S.h rows) (sl.map S.v) (S.gl l) (k + 1) (.t t) = _
    simp only [rowV, hf]
    cases l.find? (fun o => o.1.dst == some t) with
    | none => exact getO_ok S sl (.t t)
    | some p =>
      obtain ⟨o, b⟩ := p
      simp only [Option.map_some, Sh.x]
      cases o.op <;> simp only [i] <;> try exact any_ok S
      · exact ih _
      · rw [ih]
        cases rowV rows sl l k _ <;> simp only [v] <;> try exact any_ok S
        rename_i id off
        rw [h_row? hg]
        cases row? rows id with
        | none => simp [v]
        | some vs =>
          simp only [Option.map_some, Option.bind_some, List.getElem?_map]
          cases vs[off]? <;> simp [v]
      · exact ih _
      · rw [ih]; cases rowV rows sl l k _ <;> rfl
      · exact ih _
      · rw [ih]; cases rowV rows sl l k _ <;> rfl
theorem rowOf_ok {rows : List Row} (hg : S.g ≤ rows.length) (sl : List AV) (l : List (IOpx × Nat)) (y : Opd) : rowOf (S.h rows) (sl.map S.v) (S.gl l) (S.o y) = S.n (rowOf rows sl l y) := by
  unfold rowOf
  rw [show (S.gl l).length = l.length from by simp [gl], rowV_ok S hg]
  cases rowV rows sl l l.length y <;> first | exact h_len hg | rfl
theorem stored_ok {rows : List Row} (hg : S.g ≤ rows.length) (sl : List AV) (R : Nat) (a y : Opd) (k : Option Nat) : stored (sl.map S.v) (S.h rows) (S.n R) (S.o a) (S.o y) k = (stored sl rows R a y k).map S.r := by
  unfold stored
  rw [getO_ok]
  cases getO sl a <;> try rfl
  rename_i id off
  simp only [v, S.n_inj, h_get hg]
  split
  · cases rows[id]? with
    | none => rfl
    | some w =>
      cases w <;> try rfl
      rename_i vs
      simp only [Option.map_some, r]
      cases k with
      | none =>
        simp only [getO_ok, one, List.length_map]
        split
        · simp [r]
        · rfl
      | some m =>
        simp only [getO_ok]
        cases getO sl y <;> try rfl
        rename_i ll
        simp only [v, vL_map, List.length_map, all_one]
        split
        · simp [r, splice_ok]
        · rfl
  · rfl
end Sh
end Go.Abs
/- A call at a heap with more rows: the theorem. -/
namespace Go.Abs
namespace Sh
variable (S : Sh) {F : Nat → Option IFn}
def f (fn : IFn) : IFn := ⟨fn.ns, fn.res, S.c fn.body⟩
def F' (F : Nat → Option IFn) : Nat → Option IFn := fun k => (F k).map S.f
theorem pop_ok (id : Nat) : ∀ k : List Itm, popTo id (k.map S.t) = (popTo id k).map (·.map S.t)
  | [] => rfl
  | .inBlock j :: k => by
    simp only [List.map_cons, t, popTo]
    split
    · rfl
    · exact pop_ok id k
  | .code _ :: k => by simp only [List.map_cons, t, popTo]; exact pop_ok id k
  | .inLoop _ :: k => by simp only [List.map_cons, t, popTo]; exact pop_ok id k
  | .inScope _ :: k => by simp only [List.map_cons, t, popTo]; exact pop_ok id k
  | .ops _ :: k => by simp only [List.map_cons, t, popTo]; exact pop_ok id k
  | .rfBegin :: k => by simp only [List.map_cons, t, popTo]; exact pop_ok id k
theorem yield_ok (sl : List AV) (o : IOpx) : yieldOf (sl.map S.v) (S.x o) = (yieldOf sl o).map fun p => (S.n p.1, p.2.map S.v) := by
  obtain ⟨d, op, gd⟩ := o
  cases op <;> try rfl
  rename_i fo args
  simp only [yieldOf, Sh.x, i, getO_ok, want_ok, map_ok S (getO_ok S sl)]
  cases getO sl fo <;> simp only [v] <;> first
    | (cases want sl gd with
       | none => rfl
       | some b => cases b <;> rfl)
theorem putL_ok (ps : List Nat) : ∀ (sl vs : List AV), putL (sl.map S.v) ps (vs.map S.v) = (putL sl ps vs).map S.v := by
  unfold putL
  induction ps with
  | nil => intro sl vs; simp
  | cons p ps ih =>
    intro sl vs
    cases vs with
    | nil => simp
    | cons a vs =>
      simp only [List.map_cons, List.zip_cons_cons, List.foldl_cons]
      rw [← List.map_set]
      exact ih _ _
theorem rfOk_ok {rows : List Row} (hg : S.g ≤ rows.length) (cx : Ctx) : rfOk (S.cx cx) (S.h rows) = rfOk cx rows := by
  cases cx with
  | fn res => rfl
  | round id =>
    simp only [rfOk, Sh.cx, h_get hg]
    cases rows[id]? with
    | none => rfl
    | some y => cases y <;> rfl
theorem kill_ok : ∀ (l : List Nat) (sl : List AV), killS (sl.map S.v) l = (killS sl l).map S.v
  | [], sl => rfl
  | d :: l, sl => by
    simp only [killS]
    rw [← kill_ok l, List.map_set, any_ok]
theorem init_ok (fn : IFn) (vs : List AV) {rows : List Row} (hg : S.g ≤ rows.length) : init (S.f fn) (vs.map S.v) (S.h rows) = ⟨(init fn vs rows).sl.map S.v, S.h rows, S.n rows.length⟩ := by
  simp [init, f, any_ok, h_len hg]
theorem jump_ok (j : Option Jump) : (jumpI j).map S.t = jumpI j := by
  cases j with
  | none => rfl
  | some j => cases j <;> rfl
variable (hX : ∀ y ∈ S.X, y.under (S.g + S.X.length) = true)
include hX in
theorem after_ok {b low : Nat} {rows : List Row} {d : Option Nat} (h1 : S.g ≤ b) (h2 : b ≤ rows.length) {q : List Itm × List Row × Nat} (h : afterLoop b low rows d = some q) : afterLoop (S.n b) (S.n low) (S.h rows) (d.map S.n) = some (q.1.map S.t, S.h q.2.1, S.n q.2.2) ∧ b ≤ q.2.1.length := by
  unfold afterLoop at h ⊢
  rw [h_get (by omega)]
  split at h
  · rename_i hr
    rw [hr]
    simp only [Option.map_some, r]
    split at h
    · simp at h
    · rename_i hb
      rw [if_neg hb]
      injection h with h
      subst h
      have e : (S.h rows).set (S.n b) .dead = S.h (rows.set b .dead) := h_set (S := S) (by omega) b .dead
      have := gc_ok S hX (b := b) (low := lowO low d) (a := .tup []) (rows := rows.set b .dead) h1 (by simpa using h2)
      rw [tup0] at this
      rw [e, lowO_ok, this.1]
      exact ⟨by simp only [jump_ok], this.2⟩
  · simp at h
include hX in
theorem call_ok {n : Nat} (ih : ∀ (cx : Ctx) (k : List Itm) (s : St) (q : AV × List Row × Nat), exec F n cx k s = some q → S.g ≤ s.rows.length → exec (S.F' F) n (S.cx cx) (k.map S.t) ⟨s.sl.map S.v, S.h s.rows, S.n s.low⟩ = some (S.x3 q) ∧ s.rows.length ≤ q.2.1.length) : S.CallSh (callBy F (exec F n)) (callBy (S.F' F) (exec (S.F' F) n)) := by
  intro fid vs rows q h hg
  unfold callBy at h ⊢
  unfold Sh.F'
  split at h
  · rename_i fn hfn
    rw [hfn]
    simp only [Option.map_some]
    unfold callR at h
    split at h
    · rename_i a rows' low' hx
      obtain ⟨e1, e2⟩ := ih _ _ _ _ hx (by simpa [init] using hg)
      injection h with h
      subst h
      have e3 := fin_ok S hX (low := low') (a := a) hg (by simpa [init] using e2)
      refine ⟨?_, e3.2⟩
      rw [init_ok S fn vs hg]
      have e4 : exec (S.F' F) n (.fn (S.f fn).res) [.code (S.f fn).body] ⟨(init fn vs rows).sl.map S.v, S.h rows, S.n rows.length⟩ = some (S.x3 (a, rows', low')) := e1
      unfold Sh.F' at e4
      rw [e4]
      simp only [callR, x3, e3.1]
    · simp at h
  · simp at h

include hX in
theorem exec_ok : ∀ (n : Nat) (cx : Ctx) (k : List Itm) (s : St) (q : AV × List Row × Nat), exec F n cx k s = some q → S.g ≤ s.rows.length → exec (S.F' F) n (S.cx cx) (k.map S.t) ⟨s.sl.map S.v, S.h s.rows, S.n s.low⟩ = some (S.x3 q) ∧ s.rows.length ≤ q.2.1.length := by
  intro n
  induction n with
  | zero => intro cx k s q h; simp [exec] at h
  | succ n ih =>
    intro cx k s q h hg
    have hc := call_ok S hX ih
    obtain ⟨sl, rows, low⟩ := s
    replace hg : S.g ≤ rows.length := hg
    cases k with
    | nil =>
      rw [exec] at h
      rw [List.map_nil, exec]
      exact leave_ok S hg h
    | cons y k =>
      rw [List.map_cons]
      cases y with
      | inBlock id => rw [exec] at h; rw [t, exec]; exact ih _ _ _ _ h hg
      | inScope c => rw [exec] at h; rw [t, exec]; exact ih _ _ _ _ h hg
      | inLoop c => rw [exec, St.force_eq] at h; rw [t, exec, St.force_eq]; exact ih _ _ _ _ h hg
      | rfBegin =>
        cases cx with
        | fn res => simp [exec] at h
        | round id =>
          rw [exec] at h
          rw [t, Sh.cx, exec]
          simp only [h_get hg] at h ⊢
          cases hr : rows[id]? with
          | none => simp [hr] at h
          | some w =>
            simp only [hr] at h
            cases w <;> try (simp at h; done)
            rename_i st pend sl1 ps asg body
            cases st <;> try (simp at h; done)
            simp only at h
            obtain ⟨e1, e2⟩ := ih _ _ _ _ h (by simpa using hg)
            refine ⟨?_, by simpa using e2⟩
            simp only [Option.map_some, r, lower_ok]
            rw [← h_set hg] at e1
            exact e1
      | ops l =>
        cases l with
        | nil => rw [exec] at h; rw [t, List.map_nil, exec]; exact ih _ _ _ _ h hg
        | cons sg l =>
          cases sg with
          | one o =>
            rw [exec] at h
            rw [t, List.map_cons, s, exec]
            simp only [yield_ok] at h ⊢
            cases hy : yieldOf sl o with
            | some p =>
              obtain ⟨id, vs⟩ := p
              rw [hy] at h
              simp only [Option.map_some, h_get hg] at h ⊢
              cases hr : rows[id]? with
              | none => rw [hr] at h; simp at h
              | some w =>
                rw [hr] at h
                cases w <;> try (simp at h; done)
                rename_i st pend sl1 ps asg body
                simp only [Option.map_some, r, List.length_map] at h ⊢
                split at h
                · rename_i hl
                  rw [if_pos hl]
                  split at h
                  · rename_i a rows' low' hx
                    obtain ⟨e1, e2⟩ := ih _ _ _ _ hx hg
                    simp only at e2
                    have e3 := gc_ok S hX (b := rows.length) (low := lower low low') (a := a) (rows := rows') hg e2
                    obtain ⟨e4, e5⟩ := ih _ _ _ _ h (by simp only; omega)
                    simp only at e4 e5
                    refine ⟨?_, by omega⟩
                    have e6 : exec (S.F' F) n (.round (S.n id)) [.code (S.c asg), .rfBegin, .code (S.c body)] ⟨putL (sl1.map S.v) ps (vs.map S.v), S.h rows, (S.h rows).length⟩ = some (S.x3 (a, rows', low')) := by
                      rw [putL_ok, h_len hg]
                      exact e1
                    rw [e6]
                    simp only [x3, h_len hg, lower_ok, e3.1, put_ok]
                    exact e4
                  · simp at h
                · simp at h
            | none =>
              rw [hy] at h
              simp only [Option.map_none] at h ⊢
              split at h
              · rename_i a rows' low' hop
                obtain ⟨e1, e2⟩ := opR_ok S hc hg hop
                rw [e1]
                simp only [x3] at e2 ⊢
                obtain ⟨e4, e5⟩ := ih _ _ _ _ h (by simp only; omega)
                simp only at e4 e5
                refine ⟨?_, by omega⟩
                rw [show (S.x o).dst = o.dst from rfl, put_ok]
                exact e4
              · simp at h
          | grp g =>
            rw [exec] at h
            rw [t, List.map_cons, s, exec]
            simp only at h ⊢
            split at h
            · rename_i sl' ext hop
              have e1 := evalG_ok S hc hg _ _ _ _ _ hop
              rw [show S.ge [] = [] from rfl] at e1
              rw [e1]
              obtain ⟨e4, e5⟩ := ih _ _ _ _ h (by simp; omega)
              simp only at e4 e5
              refine ⟨?_, by simp at e5; omega⟩
              rw [h_app hg, List.map_map] at e4
              simp only [ge, List.map_map]
              exact e4
            · simp at h
          | grpw a w z g =>
            rw [exec] at h
            rw [t, List.map_cons, s, exec]
            simp only [rowOf_ok S hg] at h ⊢
            have e0 : (S.h rows).set (S.n (rowOf rows sl g a)) .dead = S.h (rows.set (rowOf rows sl g a) .dead) := h_set (S := S) hg _ .dead
            rw [e0]
            split at h
            · rename_i sl' ext hop
              have e1 := evalG_ok S hc (by simpa using hg) _ _ _ _ _ hop
              rw [show S.ge [] = [] from rfl] at e1
              rw [e1]
              simp only [stored_ok S hg]
              split at h
              · rename_i r' hr
                rw [hr]
                simp only [Option.map_some]
                obtain ⟨e4, e5⟩ := ih _ _ _ _ h (by simp; omega)
                simp only at e4 e5
                refine ⟨?_, by simp at e5; omega⟩
                rw [h_app (by simpa using hg), ← h_set hg, List.map_map] at e4
                simp only [ge, List.map_map, lower_ok]
                exact e4
              · simp at h
            · simp at h
          | stop => simp [exec] at h
      | code cc =>
        rw [t]
        cases cc with
        | skip => rw [exec] at h; rw [c, exec]; exact ih _ _ _ _ h hg
        | ret => rw [exec] at h; rw [c, exec]; exact leave_ok S hg h
        | exit id =>
          rw [exec] at h
          rw [c, exec]
          simp only [pop_ok] at h ⊢
          cases hp : popTo id k with
          | some k' => rw [hp] at h; simp only [Option.map_some] at h ⊢; exact ih _ _ _ _ h hg
          | none => rw [hp] at h; simp only [Option.map_none] at h ⊢; exact leave_ok S hg h
        | seq a b => rw [exec] at h; rw [c, exec]; exact ih _ _ _ _ h hg
        | cond y a b =>
          rw [exec] at h
          rw [c, exec]
          simp only [getO_ok] at h ⊢
          cases hy : getO sl y <;> rw [hy] at h <;> try (simp at h; done)
          rename_i tt
          simp only [v] at h ⊢
          have e := ih _ _ _ _ h hg
          cases tt <;> exact e
        | block id a => rw [exec] at h; rw [c, exec]; exact ih _ _ _ _ h hg
        | loop a => rw [exec] at h; rw [c, exec]; exact ih _ _ _ _ h hg
        | scope a => rw [exec] at h; rw [c, exec]; exact ih _ _ _ _ h hg
        | ops l => simp only [exec, St.forceS_eq] at h; simp only [c, exec, St.forceS_eq]; exact ih _ _ _ _ h hg
        | rf fo ps a b =>
          rw [exec] at h
          rw [c, exec]
          simp only [rfOk_ok S hg] at h ⊢
          split at h
          · rename_i hok
            rw [if_pos hok]
            split at h
            · rename_i fid vs ht
              have e0 : target (getO (sl.map S.v) (S.o fo)) [.yield (S.h rows).length] = some (fid, vs.map S.v) := by
                have := target_ok S (getO sl fo) [.yield rows.length]
                rw [ht] at this
                rw [getO_ok, h_len hg]
                exact this
              rw [e0]
              simp only
              split at h
              · rename_i a' rows' d hop
                obtain ⟨e1, e2⟩ := hc _ _ _ _ hop (by simp; omega)
                rw [h_app hg] at e1
                have e1' : callBy (S.F' F) (exec (S.F' F) n) fid (vs.map S.v) (S.h rows ++ [.loop .ready none (sl.map S.v) ps (c S a) (c S b)]) = some (S.x3o (a', rows', d)) := e1
                rw [e1']
                simp only [x3o]
                split at h
                · rename_i k0 rows2 low2 ha
                  simp at e2
                  obtain ⟨e3, e4⟩ := after_ok S hX hg (by omega) ha
                  rw [h_len hg, e3]
                  simp only
                  obtain ⟨e5, e6⟩ := ih _ _ _ _ h (by simp only at e4 ⊢; omega)
                  simp only at e4 e5 e6
                  refine ⟨?_, by omega⟩
                  rw [List.map_append] at e5
                  exact e5
                · simp at h
              · simp at h
            · simp at h
          · simp at h
        | kill l a =>
          rw [exec] at h
          rw [c, exec]
          obtain ⟨e1, e2⟩ := ih _ _ _ _ h hg
          refine ⟨?_, e2⟩
          simp only [kill_ok]
          exact e1
        | stop => simp [exec] at h

include hX in
/-- A call at a heap with more rows. -/
theorem ret_ok (hF : S.F' F = F) {fid : Nat} {vs : List AV} {rows : List Row} {q : AV × List Row × Option Nat} (hg : S.g ≤ rows.length) (h : Ret F fid vs rows = some q) : Ret F fid (vs.map S.v) (S.h rows) = some (S.x3o q) := by
  obtain ⟨n, hn⟩ := Ret_iff.1 h
  obtain ⟨e1, _⟩ := call_ok S hX (exec_ok S hX n) _ _ _ _ hn hg
  rw [hF] at e1
  exact Ret_of (n := n) e1
end Sh
end Go.Abs
