/- The abstract interpreter: values, operations, code, the evaluator, and the compiler from the model's code. -/
import Derived.AtR
import Derived.Orders
import Derived.KernelRfl
namespace Go.Abs

inductive Cap where
  | at_ (n : Nat)
  | op (sz : Nat)
  deriving DecidableEq

inductive AV where
  | bool (b : Bool)
  | int (k : IntKind) (n : Int)
  | str (s : ByteArray)
  | ptr (id off : Nat)
  | nilptr
  | slice (id off len : Nat) (cap : Cap)
  | nilslice
  | map (id : Nat)
  | nilmap
  | func (f : Nat) (cs : List AV)
  | yield (id : Nat)
  | nilfunc
  | niliface
  | iface (t : Nat) (v : AV)
  | agg (l : List AV)
  | tup (l : List AV)
  | any
  deriving Inhabited

inductive Opd where
  | t (n : Nat)
  | c (v : AV)
  deriving Inhabited

/-- What kinds of values are compared. -/
inductive EqK where
  | bool
  | slice
  | func
  | ptr
  | ints (n : Nat)
  deriving Inhabited

inductive IOp where
  | mv (x : Opd)
  | pick (c a b : Opd)
  | box (x : Opd)
  | load1 (a : Opd)
  | loadN (n : Nat) (a : Opd)
  | store1 (a x : Opd)
  | storeN (n : Nat) (a x : Opd)
  | nilck (x : Opd)
  | bin (op : BinOp) (x y : Opd)
  | eqv (neg : Bool) (kd : EqK) (x y : Opd)
  | un (op : UnOp) (x : Opd)
  | conv (k : IntKind) (x : Opd)
  | part1 (off : Nat) (x : Opd)
  | partN (off n : Nat) (x : Opd)
  | idxV (len sz : Nat) (ag : Bool) (x i : Opd)
  | fieldA (off : Nat) (x : Opd)
  | idxA (len sz : Nat) (x i : Opd)
  | idxS (sz : Nat) (x i : Opd)
  | mkagg (zero : List AV) (ps : List (Nat × Nat × Opd))
  | mkslice (len : Nat) (zero : List AV) (ps : List (Nat × Nat × Opd))
  | make (zero : List AV) (bytes : Nat) (len cap : Opd)
  | sliceS (sz : Nat) (x : Opd) (lo hi mx : Option Opd)
  | sliceA (n sz : Nat) (x : Opd) (lo hi mx : Option Opd)
  | mkfn (f : Nat) (cs : List Opd)
  | mkmap
  | look (zero : AV) (ok : Bool) (m k : Opd)
  | mset (m k v : Opd)
  | lenc (n : Nat)
  | len (kd : Nat) (x : Opd)
  | cap (x : Opd)
  | mx (xs : List Opd)
  | mn (xs : List Opd)
  | app (sz bytes : Nat) (s x : Opd)
  | appz (zero : List AV) (s x : Opd)
  | ext (x : Opd) (i : Nat)
  | mkif (t : Nat) (x : Opd)
  | call (f : Opd) (args : List Opd)
  | bad
  deriving Inhabited

structure IOpx where
  dst : Option Nat
  op : IOp
  g : Option (Nat × Bool)
  deriving Inhabited

/-- A piece of a region: one operation, or some whose order is drawn. -/
inductive Seg where
  | one (o : IOpx)
  | grp (l : List (IOpx × Nat))
  | grpw (a x : Opd) (n : Option Nat) (l : List (IOpx × Nat))
  | stop
  deriving Inhabited

inductive ICode where
  | skip
  | ret
  | exit (id : Nat)
  | seq (a b : ICode)
  | cond (c : Opd) (a b : ICode)
  | block (id : Nat) (c : ICode)
  | loop (c : ICode)
  | scope (c : ICode)
  | ops (l : List Seg)
  | rf (f : Opd) (ps : List Nat) (asg body : ICode)
  | kill (l : List Nat) (c : ICode)
  | stop
  deriving Inhabited

inductive Jump where
  | ret
  | exit (id : Nat)

inductive Row where
  | cells (vs : List AV)
  | ro (vs : List AV)
  | mp (es : List (AV × AV))
  | loop (st : LoopState) (pend : Option Jump) (sl : List AV) (ps : List Nat) (asg body : ICode)
  | mark
  | dead
  deriving Inhabited

inductive RV where
  | t (n : Nat)
  | cell1 (n : Nat)
  | cellN (n sz : Nat)

structure IFn where
  ns : Nat
  res : List RV
  body : ICode

structure St where
  sl : List AV
  rows : List Row
  low : Nat

/-! ### Values -/
def AV.cells : AV → List AV
  | .agg l => l
  | v => [v]

/-- A value of one cell. -/
def AV.one : AV → Bool
  | .agg _ | .tup _ | .any => false
  | _ => true

def getO (sl : List AV) : Opd → AV
  | .t n => sl.getD n .any
  | .c v => v

def row? (rows : List Row) (id : Nat) : Option (List AV) :=
  match rows[id]? with
  | some (.cells vs) => some vs
  | some (.ro vs) => some vs
  | _ => none

def seg (vs : List AV) (off n : Nat) : Option (List AV) :=
  if off + n ≤ vs.length then some ((vs.drop off).take n) else none

def splice (vs : List AV) (off : Nat) (l : List AV) : List AV := vs.take off ++ l ++ vs.drop (off + l.length)

def idx? (i : Int) (len : Nat) : Option Nat := if 0 ≤ i ∧ i < len then some i.toNat else none

def bvop (op : BinOp) (n : Nat) (a b : Int) : Nat :=
  match op with
  | .and => (BitVec.ofInt n a &&& BitVec.ofInt n b).toNat
  | .or => (BitVec.ofInt n a ||| BitVec.ofInt n b).toNat
  | .xor => (BitVec.ofInt n a ^^^ BitVec.ofInt n b).toNat
  | _ => (BitVec.ofInt n a &&& ~~~(BitVec.ofInt n b)).toNat

def binI (op : BinOp) (k : IntKind) (a b : Int) : Option AV :=
  match op with
  | .add => some (.int k (k.wrap (a + b)))
  | .sub => some (.int k (k.wrap (a - b)))
  | .mul => some (.int k (k.wrap (a * b)))
  | .quo => if b = 0 then none else some (.int k (k.wrap (a.tdiv b)))
  | .rem => if b = 0 then none else some (.int k (a.tmod b))
  | .and => some (.int k (k.wrap (bvop .and k.bits a b)))
  | .or => some (.int k (k.wrap (bvop .or k.bits a b)))
  | .xor => some (.int k (k.wrap (bvop .xor k.bits a b)))
  | .andNot => some (.int k (k.wrap (bvop .andNot k.bits a b)))
  | .eql => some (.bool (a == b))
  | .neq => some (.bool (a != b))
  | .lss => some (.bool (decide (a < b)))
  | .leq => some (.bool (decide (a ≤ b)))
  | .gtr => some (.bool (decide (a > b)))
  | .geq => some (.bool (decide (a ≥ b)))
  | _ => none

def shiftI (op : BinOp) (k : IntKind) (a b : Int) : Option AV :=
  if b < 0 then none else
  match op with
  | .shl => some (.int k (k.wrap (a * 2 ^ (min b.toNat k.bits))))
  | .shr => some (.int k (a.fdiv (2 ^ (min b.toNat k.bits))))
  | _ => none

def isShift : BinOp → Bool
  | .shl | .shr => true
  | _ => false

def binA (op : BinOp) : AV → AV → Option AV
  | .int k a, .int k' b => if isShift op then shiftI op k a b else if k = k' then binI op k a b else none
  | _, _ => none

/-- Lists of whole numbers, equal or not; 'none' where something else stands in them. -/
def eqInts : List AV → List AV → Option Bool
  | [], [] => some true
  | .int k a :: xs, .int k' b :: ys => if k = k' then (eqInts xs ys).map fun r => a == b && r else none
  | _, _ => none

def eqA : EqK → AV → AV → Option Bool
  | .bool, .bool a, .bool b => some (a == b)
  | .ints n, .agg xs, .agg ys => if xs.length = n ∧ ys.length = n then eqInts xs ys else none
  | .slice, .nilslice, .nilslice => some true
  | .slice, .slice .., .nilslice => some false
  | .slice, .nilslice, .slice .. => some false
  | .func, .nilfunc, .nilfunc => some true
  | .func, .func .., .nilfunc => some false
  | .ptr, .nilptr, .nilptr => some true
  | .ptr, .ptr .., .nilptr => some false
  | _, _, _ => none

def unA (op : UnOp) : AV → Option AV
  | .bool b => match op with | .not => some (.bool !b) | _ => none
  | .int k n => match op with | .neg => some (.int k (k.wrap (0 - n))) | _ => none
  | _ => none

def mxA : AV → AV → Option AV
  | .int k x, .int k' y => if k = k' then some (.int k (if y > x then y else x)) else none
  | _, _ => none
def mnA : AV → AV → Option AV
  | .int k x, .int k' y => if k = k' then some (.int k (if y < x then y else x)) else none
  | _, _ => none

def foldA (f : AV → AV → Option AV) : AV → List AV → Option AV
  | a, [] => some a
  | a, x :: xs => match f a x with
    | some b => foldA f b xs
    | none => none

def bound? (o : Option AV) (d top : Nat) : Option Nat :=
  match o with
  | none => some d
  | some (.int _ i) => if 0 ≤ i ∧ i ≤ top then some i.toNat else none
  | some _ => none

/-- Slicing 'x[lo:hi:mx]' of a slice. -/
def sliceV (sz : Nat) (x : AV) (lo hi mx : Option AV) : Option AV :=
  match x with
  | .slice id off len (.at_ c) =>
    match bound? mx c c with
    | none => none
    | some m => match bound? hi len m with
      | none => none
      | some h => match bound? lo 0 h with
        | none => none
        | some l => if mx.isSome && hi.isNone then none else some (.slice id (if m = l then off else off + l * sz) (h - l) (.at_ (m - l)))
  | .slice id off len (.op sz') =>
    match mx with
    | none => match bound? hi len len with
      | none => none
      | some h => match bound? lo 0 h with
        | none => none
        | some l => if sz' = sz then some (.slice id (off + l * sz) (h - l) (.op sz)) else none
    | some _ => match bound? mx len len with
      | none => none
      | some m => match bound? hi len m with
        | none => none
        | some h => match bound? lo 0 h with
          | none => none
          | some l => if hi.isNone then none else if sz' = sz then some (.slice id (if m = l then off else off + l * sz) (h - l) (.at_ (m - l))) else none
  | .nilslice =>
    match bound? mx 0 0, bound? hi 0 0, bound? lo 0 0 with
    | some _, some _, some _ => if mx.isSome && hi.isNone then none else some .nilslice
    | _, _, _ => none
  | _ => none

def sliceAV (n sz : Nat) (x : AV) (lo hi mx : Option AV) : Option AV :=
  match x with
  | .ptr id off => sliceV sz (.slice id off n (.at_ n)) lo hi mx
  | _ => none

def keyEq : AV → AV → Option Bool
  | .int k a, .int k' b => if k = k' then some (a == b) else none
  | _, _ => none

def findK (k : AV) : List (AV × AV) → Nat → Option (Option (Nat × AV))
  | [], _ => some none
  | e :: es, i => match keyEq k e.1 with
    | some true => some (some (i, e.2))
    | some false => findK k es (i + 1)
    | none => none

def fillA (g : Opd → AV) : List (Nat × Nat × Opd) → List AV → Option (List AV)
  | [], cs => some cs
  | (off, size, x) :: r, cs =>
    if (g x).cells.length = size ∧ off + size ≤ cs.length ∧ (g x).cells.all AV.one = true then fillA g r (splice cs off (g x).cells) else none

/-- The operations that touch no memory, or read it alone. -/
def evalP (rows : List Row) (g : Opd → AV) : IOp → Option AV
  | .mv x => some (g x)
  | .pick c a b => match g c with
    | .bool t => some (if t then g a else g b)
    | _ => none
  | .load1 a => match g a with
    | .ptr id off => match row? rows id with
      | some vs => vs[off]?
      | none => none
    | _ => none
  | .loadN n a => match g a with
    | .ptr id off => match row? rows id with
      | some vs => (seg vs off n).map .agg
      | none => none
    | _ => none
  | .nilck x => match g x with
    | .ptr id off => some (.ptr id off)
    | .func f cs => some (.func f cs)
    | .yield l => some (.yield l)
    | _ => none
  | .bin op x y => binA op (g x) (g y)
  | .eqv neg kd x y => (eqA kd (g x) (g y)).map fun b => .bool (if neg then !b else b)
  | .un op x => unA op (g x)
  | .conv k x => match g x with
    | .int _ n => some (.int k (k.wrap n))
    | _ => none
  | .part1 off x => match g x with
    | .agg l => l[off]?
    | _ => none
  | .partN off n x => match g x with
    | .agg l => (seg l off n).map .agg
    | _ => none
  | .idxV len sz ag x i => match g x, g i with
    | .agg l, .int _ n => match idx? n len with
      | some j => if ag then (seg l (j * sz) sz).map .agg else l[j * sz]?
      | none => none
    | _, _ => none
  | .fieldA d x => match g x with
    | .ptr id off => some (.ptr id (off + d))
    | _ => none
  | .idxA len sz x i => match g x, g i with
    | .ptr id off, .int _ n => match idx? n len with
      | some j => some (.ptr id (off + j * sz))
      | none => none
    | _, _ => none
  | .idxS sz x i => match g x, g i with
    | .slice id off len _, .int _ n => match idx? n len with
      | some j => some (.ptr id (off + j * sz))
      | none => none
    | _, _ => none
  | .mkagg zero ps => (fillA g ps zero).map .agg
  | .sliceS sz x lo hi mx => sliceV sz (g x) (lo.map g) (hi.map g) (mx.map g)
  | .sliceA n sz x lo hi mx => sliceAV n sz (g x) (lo.map g) (hi.map g) (mx.map g)
  | .mkfn f cs => some (.func f (cs.map g))
  | .look zero ok m k => match g m with
    | .map id => match rows[id]? with
      | some (.mp es) => match findK (g k) es 0 with
        | some (some (_, v)) => some (if ok then .tup [v, .bool true] else v)
        | some none => some (if ok then .tup [zero, .bool false] else zero)
        | none => none
      | _ => none
    | .nilmap => match keyEq (g k) (g k) with
      | some _ => some (if ok then .tup [zero, .bool false] else zero)
      | none => none
    | _ => none
  | .lenc n => some (.int .i64 n)
  | .len kd x => match kd, g x with
    | 0, .slice _ _ n _ => some (.int .i64 n)
    | 0, .nilslice => some (.int .i64 0)
    | 1, .str s => some (.int .i64 s.size)
    | 2, .map id => match rows[id]? with
      | some (.mp es) => some (.int .i64 es.length)
      | _ => none
    | _, _ => none
  | .cap x => match g x with
    | .slice _ _ _ (.at_ n) => some (.int .i64 n)
    | .nilslice => some (.int .i64 0)
    | _ => none
  | .mx xs => match xs.map g with
    | x :: r => foldA mxA x r
    | [] => none
  | .mn xs => match xs.map g with
    | x :: r => foldA mnA x r
    | [] => none
  | .ext x i => match g x with
    | .tup l => l[i]?
    | _ => none
  | .mkif t x => some (.iface t (g x))
  | _ => none

def lim : Nat := 1073741824

def lower (low id : Nat) : Nat := if id < low then id else low

/-- What a slice's elements are, as cells. -/
def elems (rows : List Row) (sz : Nat) : AV → Option (List AV × Nat)
  | .nilslice => some ([], 0)
  | .slice id off n _ => match row? rows id with
    | some vs => (seg vs off (n * sz)).map fun l => (l, n)
    | none => none
  | _ => none

/-- The operations that make or write memory: the value, the rows, the least row touched. -/
def evalE (g : Opd → AV) (rows : List Row) (low : Nat) : IOp → Option (AV × List Row × Nat)
  | .box x => if (g x).cells.all AV.one then some (.ptr rows.length 0, rows ++ [.cells (g x).cells], low) else none
  | .store1 a x => match g a with
    | .ptr id off => match rows[id]? with
      | some (.cells vs) => if off < vs.length ∧ (g x).one then some (.tup [], rows.set id (.cells (vs.set off (g x))), lower low id) else none
      | _ => none
    | _ => none
  | .storeN n a x => match g a, g x with
    | .ptr id off, .agg l => match rows[id]? with
      | some (.cells vs) => if l.length = n ∧ off + n ≤ vs.length ∧ l.all AV.one then some (.tup [], rows.set id (.cells (splice vs off l)), lower low id) else none
      | _ => none
    | _, _ => none
  | .mkslice len zero ps => match fillA g ps zero with
    | some cs => some (.slice rows.length 0 len (.at_ len), rows ++ [.cells cs], low)
    | none => none
  | .make zero _ len cap => match g len, g cap with
    | .int _ l, .int _ c => if 0 ≤ l ∧ l ≤ c ∧ c ≤ lim then
        some (.slice rows.length 0 l.toNat (.at_ c.toNat), rows ++ [.cells ((List.replicate c.toNat zero).flatten)], low) else none
    | _, _ => none
  | .appz zero s x => match g s, g x with
    | .nilslice, .int _ n => if 0 < n ∧ n ≤ lim then some (.slice rows.length 0 n.toNat (.op 1), rows ++ [.cells ((List.replicate n.toNat zero).flatten)], low) else none
    | _, _ => none
  | .mkmap => some (.map rows.length, rows ++ [.mp []], low)
  | .mset m k v => match g m with
    | .map id => match rows[id]? with
      | some (.mp es) => match findK (g k) es 0 with
        | some (some (i, _)) => some (.tup [], rows.set id (.mp (es.set i (g k, g v))), lower low id)
        | some none => if (keyEq (g k) (g k)).isSome then some (.tup [], rows.set id (.mp (es ++ [(g k, g v)])), lower low id) else none
        | none => none
      | _ => none
    | _ => none
  | .app sz _ s x => match elems rows sz (g x) with
    | none => none
    | some (ys, m) =>
      if m = 0 then (match g s with
        | .nilslice => some (.nilslice, rows, low)
        | .slice id off n c => some (.slice id off n c, rows, low)
        | _ => none)
      else if lim < m then none
      else match g s with
        | .nilslice => some (.slice rows.length 0 m (.op sz), rows ++ [.cells ys], low)
        | .slice id off n (.at_ c) =>
          if lim < n + m then none
          else if n + m ≤ c then match rows[id]? with
            | some (.cells vs) => if off + n * sz + ys.length ≤ vs.length then some (.slice id off (n + m) (.at_ c), rows.set id (.cells (splice vs (off + n * sz) ys)), lower low id) else none
            | _ => none
          else match row? rows id with
            | some vs => match seg vs off (n * sz) with
              | some xs => some (.slice rows.length 0 (n + m) (.op sz), rows ++ [.cells (xs ++ ys)], low)
              | none => none
            | none => none
        | .slice id off n (.op sz') =>
          if lim < n + m ∨ sz' ≠ sz then none
          else match rows[id]? with
            | some (.cells vs) => match seg vs off (n * sz) with
              | some xs => some (.slice rows.length 0 (n + m) (.op sz), rows.set id .dead ++ [.cells (xs ++ ys)], lower low id)
              | none => none
            | _ => none
        | _ => none
  | o => (evalP rows g o).map fun v => (v, rows, low)

/-! ### The evaluator -/
def putO (sl : List AV) (d : Option Nat) (v : AV) : List AV :=
  match d with
  | some d => sl.set d v
  | none => sl

/-- Is a guarded operation wanted? 'none': not known. -/
def want (sl : List AV) : Option (Nat × Bool) → Option Bool
  | none => some true
  | some (t, b) => match sl.getD t .any with
    | .bool c => some (c == b)
    | .tup [] => some false
    | _ => none

inductive Itm where
  | code (c : ICode)
  | inBlock (id : Nat)
  | inLoop (c : ICode)
  | inScope (c : ICode)
  | ops (l : List Seg)
  | rfBegin

inductive Ctx where
  | fn (res : List RV)
  | round (id : Nat)

def popTo (id : Nat) : List Itm → Option (List Itm)
  | .inBlock id' :: k => if id' = id then some k else popTo id k
  | _ :: k => popTo id k
  | [] => none

def resV (rows : List Row) (sl : List AV) : RV → Option AV
  | .t n => some (sl.getD n .any)
  | .cell1 n => evalP rows (getO sl) (.load1 (.t n))
  | .cellN n sz => evalP rows (getO sl) (.loadN sz (.t n))

def resVs (rows : List Row) (sl : List AV) : List RV → Option (List AV)
  | [] => some []
  | r :: rs => match resV rows sl r, resVs rows sl rs with
    | some v, some vs => some (v :: vs)
    | _, _ => none

def results (rows : List Row) (sl : List AV) (res : List RV) : Option AV :=
  match resVs rows sl res with
  | some [v] => some v
  | some vs => some (.tup vs)
  | none => none

/-- The rows that a value leads to at once. -/
def AV.ids : AV → List Nat
  | .ptr id _ | .slice id _ _ _ | .map id | .yield id => [id]
  | .func _ cs => idsL cs
  | .iface _ v => v.ids
  | .agg l | .tup l => idsL l
  | _ => []
where idsL : List AV → List Nat
  | [] => []
  | v :: vs => v.ids ++ idsL vs

/-- A value with one row's number turned: of the kinds that a result has. -/
def AV.ren (i j : Nat) : AV → AV
  | .ptr id off => .ptr (if id = i then j else id) off
  | .slice id off n c => .slice (if id = i then j else id) off n c
  | v => v
def AV.ren1 (i j : Nat) : AV → AV
  | .tup l => .tup (l.map (AV.ren i j))
  | v => v.ren i j
/-- Is every row's number of a value at its top, or just below a tuple? -/
def AV.plain : AV → Bool
  | .ptr .. | .slice .. => true
  | v => v.ids.isEmpty
def AV.plain1 : AV → Bool
  | .tup l => l.all AV.plain
  | v => v.plain

/-- Does a row lead to the first rows alone? -/
def AV.under (b : Nat) (v : AV) : Bool := v.ids.all (· < b)
def Row.under (b : Nat) : Row → Bool
  | .cells vs | .ro vs => vs.all (AV.under b)
  | .mp es => es.all fun e => e.1.under b && e.2.under b
  | .loop _ _ sl _ _ _ => sl.all (AV.under b)
  | .mark | .dead => true
/-- The rows behind the first ones are dropped, where nothing leads to them. -/
def gc (base low : Nat) (v : AV) (rows : List Row) : List Row :=
  if v.under base && ((rows.take base).drop low).all (Row.under base) then rows.take base else rows

/-- What is left behind a call: what it made and nobody holds is dropped; a lone new row comes next to the old ones. -/
def fin (rows : List Row) (v : AV) (rows' : List Row) (low : Nat) : AV × List Row × Option Nat :=
  if low = rows.length then
    if v.ids.all (· < rows.length) then (v, rows, none)
    else match v.ids with
      | [i] => match rows'[i]? with
        | some (.cells vs) => if vs.all (·.ids.isEmpty) && v.plain1 then (v.ren1 i rows.length, rows ++ [.cells vs], none) else (v, rows', none)
        | _ => (v, rows', none)
      | _ => (v, rows', none)
  else (v, gc rows.length low v rows', some low)

def killS (sl : List AV) : List Nat → List AV
  | [] => sl
  | d :: ds => killS (sl.set d .any) ds

def lowO (low : Nat) : Option Nat → Nat
  | none => low
  | some i => lower low i

/-- Whom a call enters. -/
def target (f : AV) (args : List AV) : Option (Nat × List AV) :=
  match f with
  | .func f cs => some (f, args ++ cs)
  | _ => none

/-- The rows that a group has made, with the place of the operation that made each: those that an operation may know. -/
def maskE (b : Nat) (ext : List (Nat × Row)) : List Row := ext.map fun p => if b.testBit p.1 then p.2 else .dead

/-- One operation. -/
def opR (call : Nat → List AV → List Row → Option (AV × List Row × Option Nat)) (sl : List AV) (rows : List Row) (low : Nat) (o : IOpx) : Option (AV × List Row × Nat) :=
  match want sl o.g with
  | none => none
  | some false => some (.tup [], rows, low)
  | some true =>
    match o.op with
    | .call f args => match target (getO sl f) (args.map (getO sl)) with
      | some (fid, vs) => match call fid vs rows with
        | some (v, rows', d) => some (v, rows', lowO low d)
        | none => none
      | none => none
    | op => evalE (getO sl) rows low op

/-- A group of operations that are done in an order that is not known: they make rows, and write none. Each one knows of the rows made before it by those that it surely follows. -/
def evalG (call : Nat → List AV → List Row → Option (AV × List Row × Option Nat)) (rows : List Row) : Nat → List (IOpx × Nat) → List AV → List (Nat × Row) → Option (List AV × List (Nat × Row))
  | _, [], sl, ext => some (sl, ext)
  | i, (o, b) :: r, sl, ext =>
    match opR call sl (rows ++ maskE b ext) (rows.length + ext.length) o with
    | some (v, rows', low') => if low' = rows.length + ext.length then evalG call rows (i + 1) r (putO sl o.dst v) (ext ++ (rows'.drop (rows.length + ext.length)).map fun x => (i, x)) else none
    | none => none

/-- The row that an address within a group leads to. -/
def rowV (rows : List Row) (sl : List AV) (l : List (IOpx × Nat)) : Nat → Opd → AV
  | 0, x => getO sl x
  | n + 1, .t t => match l.find? fun o => o.1.dst == some t with
    | none => getO sl (.t t)
    | some o => match o.1.op with
      | .mv y | .nilck y => rowV rows sl l n y
      | .fieldA d y => match rowV rows sl l n y with
        | .ptr id off => .ptr id (off + d)
        | v => v
      | .idxA _ _ y _ => rowV rows sl l n y
      | .idxS _ y _ => match rowV rows sl l n y with
        | .slice id off _ _ => .ptr id off
        | v => v
      | .load1 y => match rowV rows sl l n y with
        | .ptr id off => ((row? rows id).bind (·[off]?)).getD .any
        | v => v
      | _ => .any
  | _ + 1, .c v => v
def rowOf (rows : List Row) (sl : List AV) (l : List (IOpx × Nat)) (x : Opd) : Nat :=
  match rowV rows sl l l.length x with
  | .ptr id _ => id
  | _ => rows.length

/-- What a row becomes by a store. -/
def stored (sl : List AV) (rows : List Row) (R : Nat) (a x : Opd) (n : Option Nat) : Option Row :=
  match getO sl a with
  | .ptr id off => if id = R then
      match rows[id]? with
      | some (.cells vs) => match n with
        | none => if off < vs.length ∧ (getO sl x).one then some (.cells (vs.set off (getO sl x))) else none
        | some n => match getO sl x with
          | .agg l => if l.length = n ∧ off + n ≤ vs.length ∧ l.all AV.one then some (.cells (splice vs off l)) else none
          | _ => none
      | _ => none
    else none
  | _ => none

def init (fn : IFn) (vs : List AV) (rows : List Row) : St := ⟨vs ++ List.replicate (fn.ns - vs.length) .any, rows, rows.length⟩

def leaveV (cx : Ctx) (j : Option Jump) (s : St) : Option (AV × List Row × Nat) :=
  match cx with
  | .fn res => match j with
    | some (.exit _) => none
    | _ => (results s.rows s.sl res).map fun v => (v, s.rows, s.low)
  | .round id => match s.rows[id]? with
    | some (.loop .busy _ sl ps asg body) => some (.bool j.isNone, s.rows.set id (.loop (if j.isNone then .ready else .done) j sl ps asg body), lower s.low id)
    | _ => none

/-- What a call comes to, out of what its body comes to. -/
def callR (rows : List Row) : Option (AV × List Row × Nat) → Option (AV × List Row × Option Nat)
  | some (v, rows', low') => some (fin rows v rows' low')
  | none => none

def putL (sl : List AV) (ps : List Nat) (vs : List AV) : List AV := (ps.zip vs).foldl (fun sl p => sl.set p.1 p.2) sl

/-- A call of a loop's yield. -/
def yieldOf (sl : List AV) (o : IOpx) : Option (Nat × List AV) :=
  match o.op with
  | .call f args => match getO sl f, want sl o.g with
    | .yield id, some true => some (id, args.map (getO sl))
    | _, _ => none
  | _ => none

/-- May a range over a function stand here? -/
def rfOk (cx : Ctx) (rows : List Row) : Bool :=
  match cx with
  | .fn _ => true
  | .round id => match rows[id]? with
    | some (.loop ..) => true
    | _ => false

def jumpI : Option Jump → List Itm
  | none => []
  | some .ret => [.code .ret]
  | some (.exit id) => [.code (.exit id)]

/-- Behind a range over a function. -/
def afterLoop (base low : Nat) (rows : List Row) (d : Option Nat) : Option (List Itm × List Row × Nat) :=
  match rows[base]? with
  | some (.loop st pend _ _ _ _) => if st == .busy then none else some (jumpI pend, gc base (lowO low d) (.tup []) (rows.set base .dead), lowO low d)
  | _ => none

def St.put (s : St) (d : Option Nat) (v : AV) : St := { s with sl := putO s.sl d v }

abbrev CallF := Nat → List AV → List Row → Option (AV × List Row × Option Nat)
/-- The calls, out of what runs a body. -/
def callBy (F : Nat → Option IFn) (ex : Ctx → List Itm → St → Option (AV × List Row × Nat)) : CallF := fun f vs rows =>
  match F f with
  | some fn => callR rows (ex (.fn fn.res) [.code fn.body] (init fn vs rows))
  | none => none

/-! For the kernel: a state is worked out before the next round. -/
section
variable {β : Type}
def forceN (n : Nat) (k : Nat → β) : β := match n with
  | 0 => k 0
  | m + 1 => k (m + 1)
def forceI (n : Int) (k : Int → β) : β := match n with
  | .ofNat m => forceN m fun m => k (.ofNat m)
  | .negSucc m => forceN m fun m => k (.negSucc m)
def forceB (b : Bool) (k : Bool → β) : β := match b with
  | true => k true
  | false => k false
def forceV (v : AV) (k : AV → β) : β := match v with
  | .bool b => forceB b fun b => k (.bool b)
  | .int kd n => forceI n fun n => k (.int kd n)
  | .ptr i o => forceN i fun i => forceN o fun o => k (.ptr i o)
  | .slice i o l c => forceN i fun i => forceN o fun o => forceN l fun l => k (.slice i o l c)
  | v => k v
def forceL (l : List AV) (k : List AV → β) : β := match l with
  | [] => k []
  | v :: l => forceV v fun v => forceL l fun l => k (v :: l)
def forceW (v : AV) (k : AV → β) : β := match v with
  | .agg l => forceL l fun l => k (.agg l)
  | .tup l => forceL l fun l => k (.tup l)
  | v => forceV v k
def forceS (l : List AV) (k : List AV → β) : β := match l with
  | [] => k []
  | v :: l => forceW v fun v => forceS l fun l => k (v :: l)
def forceR (r : Row) (k : Row → β) : β := match r with
  | .cells vs => forceL vs fun vs => k (.cells vs)
  | r => k r
def forceRs (l : List Row) (k : List Row → β) : β := match l with
  | [] => k []
  | r :: l => forceR r fun r => forceRs l fun l => k (r :: l)
theorem forceN_eq (n : Nat) (k : Nat → β) : forceN n k = k n := by cases n <;> rfl
theorem forceI_eq (n : Int) (k : Int → β) : forceI n k = k n := by cases n <;> simp [forceI, forceN_eq]
theorem forceB_eq (n : Bool) (k : Bool → β) : forceB n k = k n := by cases n <;> rfl
theorem forceV_eq (v : AV) (k : AV → β) : forceV v k = k v := by cases v <;> simp [forceV, forceN_eq, forceI_eq, forceB_eq]
theorem forceL_eq : ∀ (l : List AV) (k : List AV → β), forceL l k = k l
  | [], k => rfl
  | v :: l, k => by simp [forceL, forceV_eq, forceL_eq l]
theorem forceW_eq (v : AV) (k : AV → β) : forceW v k = k v := by cases v <;> simp [forceW, forceL_eq, forceV_eq]
theorem forceS_eq : ∀ (l : List AV) (k : List AV → β), forceS l k = k l
  | [], k => rfl
  | v :: l, k => by simp [forceS, forceW_eq, forceS_eq l]
theorem forceR_eq (r : Row) (k : Row → β) : forceR r k = k r := by cases r <;> simp [forceR, forceL_eq]
theorem forceRs_eq : ∀ (l : List Row) (k : List Row → β), forceRs l k = k l
  | [], k => rfl
  | v :: l, k => by simp [forceRs, forceR_eq, forceRs_eq l]
def St.force (s : St) (k : St → β) : β := match s with
  | ⟨sl, rows, low⟩ => forceS sl fun sl => forceRs rows fun rows => forceN low fun low => k ⟨sl, rows, low⟩
def St.forceS (s : St) (k : St → β) : β := match s with
  | ⟨sl, rows, low⟩ => Abs.forceS sl fun sl => k ⟨sl, rows, low⟩
theorem St.force_eq (s : St) (k : St → β) : s.force k = k s := by cases s; simp [St.force, Abs.forceS_eq, forceRs_eq, forceN_eq]
theorem St.forceS_eq (s : St) (k : St → β) : s.forceS k = k s := by cases s; simp [St.forceS, Abs.forceS_eq]
end

def exec (F : Nat → Option IFn) : Nat → Ctx → List Itm → St → Option (AV × List Row × Nat)
  | 0, _, _, _ => none
  | _ + 1, cx, [], s => leaveV cx none s
  | n + 1, cx, .inBlock _ :: k, s => exec F n cx k s
  | n + 1, cx, .inScope _ :: k, s => exec F n cx k s
  | n + 1, cx, .inLoop c :: k, s => s.force fun s => exec F n cx (.code c :: .inLoop c :: k) s
  | n + 1, cx, .rfBegin :: k, s =>
    match cx with
    | .round id => match s.rows[id]? with
      | some (.loop .ready pend sl ps asg body) => exec F n cx k { s with rows := s.rows.set id (.loop .busy pend sl ps asg body), low := lower s.low id }
      | _ => none
    | _ => none
  | n + 1, cx, .ops [] :: k, s => exec F n cx k s
  | n + 1, cx, .ops (.one o :: r) :: k, s =>
    match yieldOf s.sl o with
    | some (id, vs) => match s.rows[id]? with
      | some (.loop _ _ sl ps asg body) =>
        if ps.length = vs.length then
          match exec F n (.round id) [.code asg, .rfBegin, .code body] ⟨putL sl ps vs, s.rows, s.rows.length⟩ with
          | some (v, rows', low') => exec F n cx (.ops r :: k) ⟨putO s.sl o.dst v, gc s.rows.length (lower s.low low') v rows', lower s.low low'⟩
          | none => none
        else none
      | _ => none
    | none =>
    match opR (callBy F (exec F n)) s.sl s.rows s.low o with
    | some (v, rows', low') => exec F n cx (.ops r :: k) ⟨putO s.sl o.dst v, rows', low'⟩
    | none => none
  | n + 1, cx, .ops (.grp l :: r) :: k, s =>
    match evalG (callBy F (exec F n)) s.rows 0 l s.sl [] with
    | some (sl', ext) => exec F n cx (.ops r :: k) { s with sl := sl', rows := s.rows ++ ext.map (·.2) }
    | none => none
  | n + 1, cx, .ops (.grpw a x sz l :: r) :: k, s =>
    match evalG (callBy F (exec F n)) (s.rows.set (rowOf s.rows s.sl l a) .dead) 0 l s.sl [] with
    | some (sl', ext) => match stored sl' s.rows (rowOf s.rows s.sl l a) a x sz with
      | some r' => exec F n cx (.ops r :: k) ⟨sl', s.rows.set (rowOf s.rows s.sl l a) r' ++ ext.map (·.2), lower s.low (rowOf s.rows s.sl l a)⟩
      | none => none
    | none => none
  | _ + 1, _, .ops (.stop :: _) :: _, _ => none
  | n + 1, cx, .code c :: k, s =>
    match c with
    | .skip => exec F n cx k s
    | .ret => leaveV cx (some .ret) s
    | .exit id => match popTo id k with
      | some k' => exec F n cx k' s
      | none => leaveV cx (some (.exit id)) s
    | .seq a b => exec F n cx (.code a :: .code b :: k) s
    | .cond c a b => match getO s.sl c with
      | .bool t => exec F n cx (.code (if t then a else b) :: k) s
      | _ => none
    | .block id c => exec F n cx (.code c :: .inBlock id :: k) s
    | .loop c => exec F n cx (.code c :: .inLoop c :: k) s
    | .scope c => exec F n cx (.code c :: .inScope c :: k) s
    | .ops l => s.forceS fun s => exec F n cx (.ops l :: k) s
    | .rf f ps asg body =>
      if rfOk cx s.rows then
        match target (getO s.sl f) [.yield s.rows.length] with
        | some (fid, vs) =>
          match callBy F (exec F n) fid vs (s.rows ++ [.loop .ready none s.sl ps asg body]) with
          | some (_, rows', d) => match afterLoop s.rows.length s.low rows' d with
            | some (k0, rows2, low2) => exec F n cx (k0 ++ k) ⟨s.sl, rows2, low2⟩
            | none => none
          | none => none
        | none => none
      else none
    | .kill l c => exec F n cx (.code c :: k) { s with sl := killS s.sl l }
    | .stop => none

/-- What a call of a function comes to. -/
def call (F : Nat → Option IFn) (n : Nat) (f : Nat) (vs : List AV) (rows : List Row) : Option (AV × List Row × Option Nat) := callBy F (exec F n) f vs rows

/-! ### The compiler -/
def cv1 : Value → AV
  | .bool b => .bool b
  | .int k n => .int k n
  | .string s => .str s
  | .pointer none => .nilptr
  | .slice none 0 0 => .nilslice
  | .map none => .nilmap
  | .nilFunc => .nilfunc
  | .nilIface => .niliface
  | .func (.func f) fi cs => if fi.size = 0 ∧ cs.size = 0 then .func f [] else .any
  | _ => .any
def cv : Value → AV
  | .agg cs => .agg (cs.toList.map cv1)
  | .tuple vs => if vs.size = 0 then .tup [] else .any
  | v => cv1 v

def co (gl : List Nat) : Operand → Opd
  | .tmp t => .t t
  | .const v => .c (cv v)
  | .func f => .c (.func f [])
  | .global g => match gl.idxOf? g with
    | some i => .c (.ptr i 0)
    | none => .c .any

section
variable (P : Program) (gl : List Nat)
def szT (t : TypeId) : Option Nat := (P.info? t).map (·.size)
def bytesT (t : TypeId) : Option Nat := (P.info? t).map (·.bytes)
def zeroT (t : TypeId) : Option AV := (P.info? t).bind fun i => i.zero.map cv
def aggT (t : TypeId) : Option Bool := match P.underlying t with
  | some (.struct _) | some (.array ..) => some true
  | some _ => some false
  | none => none

def placesT (fs : Array Field) : Option (List (Nat × Nat)) := fs.toList.mapM (fun f => (P.info? f.type).map fun i => (f.offset, i.size))
def cplaces (pl : List (Nat × Nat)) : List (Nat × Operand) → Option (List (Nat × Nat × Opd))
  | [] => some []
  | (i, x) :: r => match pl[i]?, cplaces pl r with
    | some p, some l => some ((p.1, p.2, co gl x) :: l)
    | _, _ => none
def eplaces (n : Nat) : List (Nat × Operand) → List (Nat × Nat × Opd)
  | [] => []
  | (i, x) :: r => (i * n, n, co gl x) :: eplaces n r

/-- Is the type one of so many whole numbers, each a cell? -/
def intsT (t : TypeId) : Option Nat :=
  match P.underlying t with
  | some (.array n e) => match P.underlying e with
    | some (.int _) => if szT P e = some 1 then some n else none
    | _ => none
  | some (.struct fs) => if !P.stoodInHeld t && fs.toList.zipIdx.all (fun f => f.1.name != "_" && f.1.offset == f.2 && (match P.underlying f.1.type with | some (.int _) => szT P f.1.type == some 1 | _ => false)) then some fs.size else none
  | _ => none

def cop (o : Oper) : Option IOp :=
  match o.op with
  | .move x | .assign x => some (.mv (co gl x))
  | .pick c a b => some (.pick (co gl c) (co gl a) (co gl b))
  | .alloc t => (zeroT P t).map fun z => .box (.c z)
  | .box _ x => some (.box (co gl x))
  | .build t ps => match zeroT P t, P.underlying t with
    | some z, some (.struct fs) => match placesT P fs with
      | some pl => if z.cells.all AV.one then (cplaces gl pl ps.toList).map fun l => .mkagg z.cells l else none
      | none => none
    | some z, some (.array _ e) => match szT P e with
      | some n => if z.cells.all AV.one then some (.mkagg z.cells (eplaces gl n ps.toList)) else none
      | none => none
    | _, _ => none
  | .buildSlice t len ps => match P.underlying t with
    | some (.slice e) => match szT P e, zeroT P e with
      | some n, some z => if len * n ≤ 4096 ∧ z.cells.length = n ∧ 0 < n ∧ z.cells.all AV.one = true then some (.mkslice len ((List.replicate len z.cells).flatten) (eplaces gl n ps.toList)) else none
      | _, _ => none
    | _ => none
  | .load t a => match aggT P t, szT P t with
    | some true, some n => some (.loadN n (co gl a))
    | some false, some _ => some (.load1 (co gl a))
    | _, _ => none
  | .store t a x => match aggT P t, szT P t with
    | some true, some n => some (.storeN n (co gl a) (co gl x))
    | some false, some n => if n = 1 then some (.store1 (co gl a) (co gl x)) else none
    | _, _ => none
  | .nilCheck x => some (.nilck (co gl x))
  | .binOp op t x y _ => match op with
    | .eql | .neq => match P.underlying t with
      | some (.int _) => some (.bin op (co gl x) (co gl y))
      | some .bool => some (.eqv (op == .neq) .bool (co gl x) (co gl y))
      | some (.slice _) => some (.eqv (op == .neq) .slice (co gl x) (co gl y))
      | some (.func ..) => some (.eqv (op == .neq) .func (co gl x) (co gl y))
      | some (.pointer _) => some (.eqv (op == .neq) .ptr (co gl x) (co gl y))
      | some (.array ..) | some (.struct _) => match intsT P t with
        | some n => if P.eqGuardType P.depth t then none else some (.eqv (op == .neq) (.ints n) (co gl x) (co gl y))
        | none => none
      | _ => none
    | _ => some (.bin op (co gl x) (co gl y))
  | .unOp op _ x => some (.un op (co gl x))
  | .convert s d x => match P.underlying s, P.underlying d with
    | some (.int _), some (.int k) => some (.conv k (co gl x))
    | _, _ => none
  | .field t x f => match P.underlying t with
    | some (.struct fs) => match fs[f]? with
      | some fd => match aggT P fd.type, szT P fd.type with
        | some true, some n => some (.partN fd.offset n (co gl x))
        | some false, some _ => some (.part1 fd.offset (co gl x))
        | _, _ => none
      | none => none
    | _ => none
  | .index t x i => match P.underlying t with
    | some (.array len e) => match aggT P e, szT P e with
      | some ag, some n => some (.idxV len n ag (co gl x) (co gl i))
      | _, _ => none
    | _ => none
  | .fieldAddr t x f => match P.underlying t with
    | some (.struct fs) => match fs[f]? with
      | some fd => match szT P fd.type with
        | some n => if n = 0 then none else some (.fieldA fd.offset (co gl x))
        | none => none
      | none => none
    | _ => none
  | .indexAddr t x i => match P.underlying t with
    | some (.array len e) => (szT P e).map fun n => .idxA len n (co gl x) (co gl i)
    | some (.slice e) => (szT P e).map fun n => .idxS n (co gl x) (co gl i)
    | _ => none
  | .makeSlice t l c => match P.underlying t with
    | some (.slice e) => match szT P e, zeroT P e, bytesT P e with
      | some n, some z, some b => if z.cells.length = n ∧ n = 1 ∧ z.cells.all AV.one ∧ b ≤ 1024 then some (.make z.cells b (co gl l) (co gl c)) else none
      | _, _, _ => none
    | _ => none
  | .slice t x lo hi mx => match P.underlying t with
    | some (.slice e) => (szT P e).map fun n => .sliceS n (co gl x) (lo.map (co gl)) (hi.map (co gl)) (mx.map (co gl))
    | some (.array n e) => (szT P e).map fun m => .sliceA n m (co gl x) (lo.map (co gl)) (hi.map (co gl)) (mx.map (co gl))
    | _ => none
  | .makeFunc (.func f) fi cs => if fi.size = 0 then some (.mkfn f (cs.toList.map (co gl))) else none
  | .makeMap _ none => some .mkmap
  | .lookup t m k ok => match P.underlying t with
    | some (.map kt e) => match P.underlying kt, zeroT P e with
      | some (.int _), some z => if z.one then some (.look z ok (co gl m) (co gl k)) else none
      | _, _ => none
    | _ => none
  | .mapUpdate t m k v => match P.underlying t with
    | some (.map kt _) => match P.underlying kt with
      | some (.int _) => some (.mset (co gl m) (co gl k) (co gl v))
      | _ => none
    | _ => none
  | .extract x i => some (.ext (co gl x) i)
  | .makeInterface t x => match P.underlying t with
    | some (.interface _) => none
    | some _ => some (.mkif t (co gl x))
    | none => none
  | .call c => match c.callee with
    | .value f => some (.call (co gl f) (c.args.toList.map (co gl)))
    | .builtin .len => match c.argTypes[0]?, c.args[0]? with
      | some t, some x => match P.underlying t with
        | some (.array n _) => some (.lenc n)
        | some (.slice _) => some (.len 0 (co gl x))
        | some .string => some (.len 1 (co gl x))
        | some (.map ..) => some (.len 2 (co gl x))
        | _ => none
      | _, _ => none
    | .builtin .cap => match c.argTypes[0]?, c.args[0]? with
      | some t, some x => match P.underlying t with
        | some (.slice _) => some (.cap (co gl x))
        | _ => none
      | _, _ => none
    | .builtin .max => some (.mx (c.args.toList.map (co gl)))
    | .builtin .min => some (.mn (c.args.toList.map (co gl)))
    | .builtin .append => match c.argTypes[0]?, c.argTypes[1]?, c.args[0]?, c.args[1]? with
      | some t, some u, some s, some x => match P.underlying t, P.underlying u with
        | some (.slice e), some (.slice _) => if t ≠ u then none else match szT P e, bytesT P e, zeroT P e with
          | some n, some b, some z => if b ≤ 1024 ∧ 0 < n ∧ z.cells.length = n ∧ z.cells.all AV.one = true then some (.app n b (co gl s) (co gl x)) else none
          | _, _, _ => none
        | some (.slice e), some (.int _) => match szT P e, bytesT P e, zeroT P e with
          | some n, some b, some z => if b ≤ 1024 ∧ n = 1 ∧ z.cells.length = 1 ∧ z.cells.all AV.one = true then some (.appz z.cells (co gl s) (co gl x)) else none
          | _, _, _ => none
        | _, _ => none
      | _, _, _, _ => none
    | _ => none
  | _ => none

def cguard (ops : Array Oper) : Option (Nat × Bool) → Option (Option (Nat × Bool))
  | none => some none
  | some (j, b) => match (ops[j]?).bind (·.dst) with
    | some t => some (some (t, b))
    | none => none

def copx (ops : Array Oper) (o : Oper) : IOpx :=
  match cguard ops o.guard, cop P gl o with
  | some g, some i => ⟨o.dst, i, g⟩
  | some g, none => ⟨o.dst, .bad, g⟩
  | none, _ => ⟨o.dst, .bad, none⟩

def Opd.tmps : Opd → List Nat
  | .t n => [n]
  | .c _ => []
def IOp.opds : IOp → List Opd
  | .mv x | .box x | .load1 x | .loadN _ x | .nilck x | .un _ x | .conv _ x | .part1 _ x | .partN _ _ x | .fieldA _ x | .len _ x | .cap x | .ext x _ | .mkif _ x => [x]
  | .pick c a b => [c, a, b]
  | .store1 a x | .storeN _ a x | .bin _ a x | .eqv _ _ a x | .idxV _ _ _ a x | .idxA _ _ a x | .idxS _ a x | .look _ _ a x | .app _ _ a x | .appz _ a x | .make _ _ a x => [a, x]
  | .mset m k v => [m, k, v]
  | .mkagg _ ps | .mkslice _ _ ps => ps.map (·.2.2)
  | .sliceS _ x lo hi to | .sliceA _ _ x lo hi to => x :: (lo.toList ++ hi.toList ++ to.toList)
  | .mkfn _ cs => cs
  | .mx xs | .mn xs => xs
  | .call f args => f :: args
  | .mkmap | .lenc _ | .bad => []
def IOpx.looks (o : IOpx) : List Nat := o.op.opds.flatMap Opd.tmps ++ (match o.g with | some (t, _) => [t] | none => [])
def apartI (x y : IOpx) : Bool :=
  (match x.dst with | some d => !y.looks.contains d && y.dst != some d | none => true) && (match y.dst with | some d => !x.looks.contains d | none => true)

/-- Does each operation from c on wait for all before c? -/
def isBound (b : List Nat) (c : Nat) : Bool := (b.drop c).all fun x => x &&& (2 ^ c - 1) == 2 ^ c - 1
def bounds (b : List Nat) : List Nat := ((List.range b.length).map (· + 1)).filter (isBound b)

/-- Each slot that two operations of a group name, one of them writing it, is named by them in a fixed order. -/
def pairsOk : List (IOpx × Nat) → Nat → Bool
  | [], _ => true
  | (o, _) :: r, i => (r.all fun p => p.2.testBit i || apartI o p.1) && pairsOk r (i + 1)
/-- The group from c to b, its bits counted from c. -/
def piece (lb : List (IOpx × Nat)) (c b : Nat) : List (IOpx × Nat) := ((lb.drop c).take (b - c)).map fun o => (o.1, o.2 >>> c)
def chkB (lb : List (IOpx × Nat)) (bl : List Nat) (c : Nat) : List Nat → Bool
  | [] => c == lb.length
  | b :: bs => decide (c < b) && decide (b ≤ lb.length) && isBound bl b && pairsOk (piece lb c b) 0 && chkB lb bl b bs
/-- No operation waits for a later one. -/
def edgesOk (ops : Array Oper) : Bool := (List.range ops.size).all fun j => (ops.getD j default).after.all fun e => !Region.binds .any e || e.on < j

/-- A group's one store, which nothing in the group follows. -/
def isStore : IOp → Option (Opd × Opd × Option Nat)
  | .store1 a x => some (a, x, none)
  | .storeN n a x => some (a, x, some n)
  | _ => none
def noop : IOpx := ⟨none, .lenc 0, none⟩
def cgrp (l : List (IOpx × Nat)) : Seg :=
  match l.findIdx? fun o => (isStore o.1.op).isSome with
  | none => .grp l
  | some i => match isStore (l.getD i (noop, 0)).1.op with
    | none => .stop
    | some (a, x, n) => if (l.getD i (noop, 0)).1.dst = none ∧ (l.getD i (noop, 0)).1.g = none ∧ l.all (fun o => !o.2.testBit i) = true then .grpw a x n (l.set i (noop, (l.getD i (noop, 0)).2)) else .stop
def csegs (lb : List (IOpx × Nat)) : Nat → List Nat → List Seg
  | _, [] => []
  | c, b :: bs => (if b = c + 1 then .one (lb.getD c (noop, 0)).1 else cgrp (piece lb c b)) :: csegs lb b bs
def lbits (ops : Array Oper) : List (IOpx × Nat) := (ops.toList.map (copx P gl ops)).zip (Region.before ops).toList

def cc (hint : Nat → List Nat) : Code → ICode
  | .skip | .label _ => .skip
  | .ret => .ret
  | .exit id => .exit id
  | .seq a b => .seq (cc hint a) (cc hint b)
  | .cond c a b => .cond (co gl c) (cc hint a) (cc hint b)
  | .block id c => .block id (cc hint c)
  | .loop c => .loop (cc hint c)
  | .scope c => .scope (cc hint c)
  | .region id ops false => match hint id with
    | [] => .ops (ops.toList.map fun o => .one (copx P gl ops o))
    | l => .kill l (.ops (ops.toList.map fun o => .one (copx P gl ops o)))
  | .region id ops true => if chkB (lbits P gl ops) (Region.before ops).toList 0 (bounds (Region.before ops).toList) && edgesOk ops && P.follows .mixedOrders then
      (match hint id with
      | [] => .ops (csegs (lbits P gl ops) 0 (bounds (Region.before ops).toList))
      | l => .kill l (.ops (csegs (lbits P gl ops) 0 (bounds (Region.before ops).toList)))) else .stop
  | .rangeFunc f ps x y => .rf (co gl f) ps.toList (cc hint x) (cc hint y)
  | .goto _ => .stop
  | .refuse _ => .stop

def cres : List ResultVar → Option (List RV)
  | [] => some []
  | .tmp t :: r => (cres r).map (.t t :: ·)
  | .cell a t :: r => match aggT P t, szT P t, cres r with
    | some true, some n, some l => some (.cellN a n :: l)
    | some false, some _, some l => some (.cell1 a :: l)
    | _, _, _ => none

def cfn (hint : Nat → List Nat) (fn : Func) : Option IFn :=
  match fn.body, cres P fn.results.toList with
  | some c, some res => some ⟨fn.ntmps, res, cc P gl hint c⟩
  | _, _ => none
end
end Go.Abs
