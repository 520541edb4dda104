/- The texts that the row uses, part 1. -/
import Derived.AtR
import Derived.Orders
import Derived.KernelRfl
import Derived.Laws.Cells
import Derived.Laws.CopyRow
import Derived.Laws.Append
import Derived.Laws.AppendOwn
import Derived.Laws.Entries
import Derived.ArgAppend
import Derived.ChangeKeysEq
import Derived.WideLaws
import Derived.Laws.Small
import Derived.Laws.StructEq
import Derived.Laws.Cover3
import Derived.Laws.Tables
import Derived.Laws.Rows
import Derived.Below
import Derived.Laws.IdiomCopy
import Derived.RangeFuncNested
import Derived.Test.YtichbmhjgbjiiaaDoorProg
import Derived.Test.YtichbmhjgbjiiaaDoorRows
import Derived.ProofKit
import Derived.LaidMore
import Derived.OpenShut
import Derived.Stop.Joined
import Derived.ChangeSlices
import Derived.SizedLaws
import Derived.SevenTiedAt
import Derived.WalkKit
import Derived.ShutString
import Derived.ChangeOld
import Derived.Carry
set_option linter.unusedVariables false
set_option linter.unusedSimpArgs false
set_option maxHeartbeats 32000000
set_option maxRecDepth 100000
namespace Go.Abs
theorem AcD:type_of% @List.getElem?_append_left:=List.getElem?_append_left
theorem AcE:type_of% @Nat.le_refl:=Nat.le_refl
theorem AcF:type_of% @List.getElem?_eq_some_iff:=List.getElem?_eq_some_iff
theorem AcG:type_of% @List.getElem?_append_right:=List.getElem?_append_right
theorem AcH:type_of% @List.getElem?_set_ne:=List.getElem?_set_ne
theorem AcI:type_of% @Option.some.injEq:=Option.some.injEq
theorem AcJ:type_of% @List.forall_mem_cons:=List.forall_mem_cons
theorem AcK:type_of% @Option.map_eq_some_iff:=Option.map_eq_some_iff
theorem AcL:type_of% @List.append_assoc:=List.append_assoc
theorem AcM:type_of% @List.getElem?_set_self:=List.getElem?_set_self
theorem AcN:type_of% @Option.map_some:=Option.map_some
theorem AcO:type_of% @List.length_append:=List.length_append
theorem AcP:type_of% @Nat.le_trans:=Nat.le_trans
theorem AcQ:type_of% @Prod.mk.injEq:=Prod.mk.injEq
theorem AcR:type_of% @List.getElem?_eq_getElem:=List.getElem?_eq_getElem
theorem AcS:type_of% @Nat.add_sub_cancel_left:=Nat.add_sub_cancel_left
theorem AcT:type_of% @List.all_eq_true:=List.all_eq_true
theorem AcU:type_of% @List.length_cons:=List.length_cons
theorem AcV:type_of% @List.append_nil:=List.append_nil
theorem AcW:type_of% @List.set_append_right:=List.set_append_right
theorem AcX:type_of% @Nat.zero_le:=Nat.zero_le
theorem AcY:type_of% @List.map_cons:=List.map_cons
theorem AcZ:type_of% @List.getElem?_take_of_lt:=List.getElem?_take_of_lt
theorem Ac0:type_of% @List.getElem?_eq_none:=List.getElem?_eq_none
theorem Ac1:type_of% @Nat.mul_le_mul:=Nat.mul_le_mul
theorem Ac2:type_of% @List.mem_append:=List.mem_append
theorem Ac3:type_of% @Bool.and_eq_true:=Bool.and_eq_true
theorem Ac4:type_of% @Option.bind_some:=Option.bind_some
theorem Ac5:type_of% @List.mem_of_getElem?:=List.mem_of_getElem?
theorem Ac6:type_of% @Int.natAbs_mul:=Int.natAbs_mul
theorem Ac7:type_of% @List.length_nil:=List.length_nil
theorem Ac8:type_of% @Nat.sub_self:=Nat.sub_self
theorem Ac9:type_of% @List.getElem?_map:=List.getElem?_map
theorem Ada:type_of% @Rat.intCast_le_intCast:=Rat.intCast_le_intCast
theorem Adb:type_of% @Nat.add_assoc:=Nat.add_assoc
theorem Adc:type_of% @Nat.lt_or_ge:=Nat.lt_or_ge
theorem Add:type_of% @Nat.mul_one:=Nat.mul_one
theorem Ade:type_of% @List.mem_cons:=List.mem_cons
theorem Adf:type_of% @Int.toNat_natCast:=Int.toNat_natCast
theorem Adg:type_of% @Int.natCast_mul:=Int.natCast_mul
theorem Adh:type_of% @List.length_set:=List.length_set
theorem Adi:type_of% @Rat.intCast_mul:=Rat.intCast_mul
theorem Adk:type_of% @Nat.mul_div_cancel_left:=Nat.mul_div_cancel_left
theorem Adl:type_of% @Nat.lt_of_lt_of_le:=Nat.lt_of_lt_of_le
theorem Adm:type_of% @List.mem_range:=List.mem_range
theorem Adn:type_of% @List.map_nil:=List.map_nil
theorem Ado:type_of% @List.mem_singleton:=List.mem_singleton
theorem Adp:type_of% @List.drop_eq_getElem_cons:=List.drop_eq_getElem_cons
theorem Adq:type_of% @List.take_of_length_le:=List.take_of_length_le
theorem Adr:type_of% @List.getElem?_drop:=List.getElem?_drop
theorem Ads:type_of% @Nat.zero_add:=Nat.zero_add
theorem Adt:type_of% @List.length_map:=List.length_map
theorem Adu:type_of% @List.getElem?_set:=List.getElem?_set
theorem Adv:type_of% @List.drop_eq_nil_of_le:=List.drop_eq_nil_of_le
theorem Adw:type_of% @List.mem_append_left:=List.mem_append_left
theorem Adx:type_of% @List.ext_getElem?:=List.ext_getElem?
theorem Ady:type_of% @Nat.mul_le_mul_right:=Nat.mul_le_mul_right
theorem Adz:type_of% @List.mem_cons_of_mem:=List.mem_cons_of_mem
theorem AdA:type_of% @List.drop_of_length_le:=List.drop_of_length_le
theorem AdB:type_of% @List.map_append:=List.map_append
theorem AdC:type_of% @List.length_eq_zero_iff:=List.length_eq_zero_iff
theorem AdD:type_of% @List.getD_eq_getElem?_getD:=List.getD_eq_getElem?_getD
theorem AdE:type_of% @Int.natAbs_neg:=Int.natAbs_neg
theorem AdF:type_of% @Bool.false_eq_true:=Bool.false_eq_true
theorem AdG:type_of% @List.take_append_of_le_length:=List.take_append_of_le_length
theorem AdH:type_of% @List.all_cons:=List.all_cons
theorem AdI:type_of% @List.nil_append:=List.nil_append
theorem AdJ:type_of% @Nat.eq_or_lt_of_le:=Nat.eq_or_lt_of_le
theorem AdK:type_of% @Rat.mul_comm:=Rat.mul_comm
theorem AdL:type_of% @List.getElem?_range:=List.getElem?_range
theorem AdM:type_of% @List.map_congr_left:=List.map_congr_left
theorem AdN:type_of% @Rat.den_intCast:=Rat.den_intCast
theorem AdO:type_of% @List.length_replicate:=List.length_replicate
theorem AdP:type_of% @List.drop_append_of_le_length:=List.drop_append_of_le_length
theorem AdQ:type_of% @List.length_take:=List.length_take
theorem AdR:type_of% @Nat.mul_comm:=Nat.mul_comm
theorem AdS:type_of% @Rat.div_def:=Rat.div_def
theorem AdT:type_of% @Int.gcd_pos_of_ne_zero_right:=Int.gcd_pos_of_ne_zero_right
theorem AdU:type_of% @List.getElem?_replicate:=List.getElem?_replicate
theorem AdV:type_of% @Nat.le_mul_of_pos_right:=Nat.le_mul_of_pos_right
theorem AdW:type_of% @List.all_append:=List.all_append
theorem AdX:type_of% @Nat.le_max_left:=Nat.le_max_left
theorem AdY:type_of% @Rat.intCast_add:=Rat.intCast_add
theorem AdZ:type_of% @List.replicate_succ:=List.replicate_succ
theorem Ad0:type_of% @List.mem_map:=List.mem_map
theorem Ad1:type_of% @Nat.mul_pos:=Nat.mul_pos
theorem Ad2:type_of% @List.length_drop:=List.length_drop
theorem Ad3:type_of% @Nat.le_max_right:=Nat.le_max_right
theorem Ad4:type_of% @List.mem_cons_self:=List.mem_cons_self
theorem Ad5:type_of% @List.set_set:=List.set_set
theorem Ad6:type_of% @Int.ofNat_eq_natCast:=Int.ofNat_eq_natCast
theorem Ad7:type_of% @List.mem_filter:=List.mem_filter
theorem Ad8:type_of% @List.mem_iff_getElem:=List.mem_iff_getElem
theorem Ad9:type_of% @Rat.num_intCast:=Rat.num_intCast
theorem Aea:type_of% @Rat.mul_le_mul_of_nonneg_right:=Rat.mul_le_mul_of_nonneg_right
theorem Aeb:type_of% @List.length_range:=List.length_range
theorem Aec:type_of% @Nat.lt_trichotomy:=Nat.lt_trichotomy
theorem Aed:type_of% @List.eq_nil_of_length_eq_zero:=List.eq_nil_of_length_eq_zero
theorem Aee:type_of% @List.cons_append:=List.cons_append
theorem Aef:type_of% @List.not_mem_nil:=List.not_mem_nil
theorem Aeg:type_of% @List.drop_zero:=List.drop_zero
theorem Aeh:type_of% @List.map_set:=List.map_set
theorem Aei:type_of% @List.filter_append:=List.filter_append
theorem Aej:type_of% @Rat.num_divInt_den:=Rat.num_divInt_den
theorem Aek:type_of% @List.foldl_cons:=List.foldl_cons
theorem Ael:type_of% @Bool.or_eq_true:=Bool.or_eq_true
theorem Aem:type_of% @Nat.eq_of_beq_eq_true:=Nat.eq_of_beq_eq_true
theorem Aen:type_of% @Option.map_none:=Option.map_none
theorem Aeo:type_of% @List.range_succ:=List.range_succ
theorem Aep:type_of% @Nat.le_of_dvd:=Nat.le_of_dvd
theorem Aeq:type_of% @Nat.add_zero:=Nat.add_zero
theorem Aer:type_of% @List.getElem_mem:=List.getElem_mem
theorem Aes:type_of% @List.all_nil:=List.all_nil
theorem Aet:type_of% @Nat.mul_le_mul_left:=Nat.mul_le_mul_left
theorem Aeu:type_of% @Bool.and_true:=Bool.and_true
theorem Aev:type_of% @List.getElem?_take:=List.getElem?_take
theorem Aew:type_of% @Nat.mul_eq_zero:=Nat.mul_eq_zero
theorem Aex:type_of% @Nat.add_mul:=Nat.add_mul
theorem Aey:type_of% @Rat.neg_den:=Rat.neg_den
theorem Aez:type_of% @List.flatten_cons:=List.flatten_cons
theorem AeA:type_of% @Nat.gcd_dvd_right:=Nat.gcd_dvd_right
theorem AeB:type_of% @Nat.succ_mul:=Nat.succ_mul
theorem AeC:type_of% @List.mem_iff_getElem?:=List.mem_iff_getElem?
theorem AeD:type_of% @Nat.le_of_ble_eq_true:=Nat.le_of_ble_eq_true
theorem AeE:type_of% @List.all_map:=List.all_map
theorem AeF:type_of% @List.map_map:=List.map_map
theorem AeG:type_of% @Rat.le_trans:=Rat.le_trans
theorem AeH:type_of% @Rat.mul_eq_zero:=Rat.mul_eq_zero
theorem AeI:type_of% @Nat.zero_mul:=Nat.zero_mul
theorem AeJ:type_of% @Rat.mul_nonneg:=Rat.mul_nonneg
inductive Cap where
 |at_ (n:Nat)
 |op (sz:Nat)
 deriving DecidableEq
inductive AV where
 |bool (b:Bool)
 |int (k:IntKind) (n:Int)
 |str (s:ByteArray)
 |ptr (id off:Nat)
 |nilptr
 |slice (id off len:Nat) (cap:Cap)
 |nilslice
 |map (id:Nat)
 |nilmap
 |func (f:Nat) (cs:List AV)
 |yield (id:Nat)
 |nilfunc
 |niliface
 |iface (t:Nat) (v:AV)
 |agg (l:List AV)
 |tup (l:List AV)
 |any
 deriving Inhabited
inductive Opd where
 |t (n:Nat)
 |c (v:AV)
 deriving Inhabited
def bd:Nat:=1000000000
inductive EqK where
 |bool
 |slice
 |func
 |ptr
 |ints (n:Nat)
 |ifc (t n:Nat)
 deriving Inhabited
inductive IOp where
 |mv (x:Opd)
 |pick (c a b:Opd)
 |box (x:Opd)
 |load1 (a:Opd)
 |loadN (n:Nat) (a:Opd)
 |store1 (a x:Opd)
 |storeN (n:Nat) (a x:Opd)
 |nilck (x:Opd)
 |bin (op:BinOp) (x y:Opd)
 |eqv (neg:Bool) (kd:EqK) (x y:Opd)
 |un (op:UnOp) (x:Opd)
 |conv (k:IntKind) (x:Opd)
 |part1 (off:Nat) (x:Opd)
 |partN (off n:Nat) (x:Opd)
 |idxV (len sz:Nat) (ag:Bool) (x i:Opd)
 |fieldA (off:Nat) (x:Opd)
 |idxA (len sz:Nat) (x i:Opd)
 |idxS (sz:Nat) (x i:Opd)
 |mkagg (zero:List AV) (ps:List (Nat×Nat×Opd))
 |mkslice (len:Nat) (zero:List AV) (ps:List (Nat×Nat×Opd))
 |make (zero:List AV) (bytes:Nat) (len cap:Opd)
 |sliceS (sz:Nat) (x:Opd) (lo hi mx:Option Opd)
 |sliceA (n sz:Nat) (x:Opd) (lo hi mx:Option Opd)
 |mkfn (f:Nat) (cs:List Opd)
 |bind (f:Nat) (cs:List Opd)
 |mkmap
 |look (zero:AV) (ok:Bool) (m k:Opd)
 |mset (m k v:Opd)
 |lenc (n:Nat)
 |len (kd:Nat) (x:Opd)
 |cap (x:Opd)
 |mx (xs:List Opd)
 |mn (xs:List Opd)
 |app (sz bytes:Nat) (s x:Opd)
 |appz (zero:List AV) (s x:Opd)
 |ext (x:Opd) (i:Nat)
 |mkif (t:Nat) (x:Opd)
 |call (tab:List (Nat×Nat)) (f:Opd) (args:List Opd)
 |bad
 deriving Inhabited
structure IOpx where
 dst:Option Nat
 op:IOp
 g:Option (Nat×Bool)
 deriving Inhabited
inductive Seg where
 |one (o:IOpx)
 |grp (l:List (IOpx×Nat))
 |grpw (a x:Opd) (n:Option Nat) (b:Nat) (l:List (IOpx×Nat))
 |stop
 deriving Inhabited
inductive ICode where
 |skip
 |ret
 |exit (id:Nat)
 |seq (a b:ICode)
 |cond (c:Opd) (a b:ICode)
 |block (id:Nat) (c:ICode)
 |loop (c:ICode)
 |scope (c:ICode)
 |ops (l:List Seg)
 |rf (f:Opd) (ps:List Nat) (asg body:ICode)
 |kill (n:Nat) (ks:List Nat) (c:ICode)
 |stop
 deriving Inhabited
inductive Jump where
 |ret
 |exit (id:Nat)
inductive Row where
 |cells (vs:List AV)
 |ro (vs:List AV)
 |mp (es:List (AV×AV))
 |loop (st:LoopState) (pend:Option Jump) (sl:List AV) (ps:List Nat) (asg body:ICode)
 |mark
 |dead
 deriving Inhabited
inductive RV where
 |t (n:Nat)
 |cell1 (n:Nat)
 |cellN (n sz:Nat)
structure IFn where
 ns:Nat
 res:List RV
 body:ICode
structure St where
 sl:List AV
 rows:List Row
 low:Nat
def AV.cells:AV->List AV
 |.agg l=>l
 |v=>[v]
def AV.one:AV->Bool
 |.agg _|.tup _|.any=>false
 |_=>true
def Ak(sl:List AV):Opd->AV
 |.t n=>sl.getD n .any
 |.c v=>v
def Ae(rows:List Row)(id:Nat):Option (List AV):=
 match rows[id]? with
 |some (.cells vs)=>some vs
 |some (.ro vs)=>some vs
 |_=>none
def seg(vs:List AV)(off n:Nat):Option (List AV):=
 if off+n<=vs.length then some ((vs.drop off).take n)else none
def splice(vs:List AV)(off:Nat)(l:List AV):List AV:=vs.take off++l++vs.drop (off+l.length)
def AI(i:Int)(len:Nat):Option Nat:=if 0<=i/\i<len then some i.toNat else none
def Y7(op:BinOp)(n:Nat)(a b:Int):Nat:=
 match op with
 |.and=>(BitVec.ofInt n a &&& BitVec.ofInt n b).toNat
 |.or=>(BitVec.ofInt n a ||| BitVec.ofInt n b).toNat
 |.xor=>(BitVec.ofInt n a ^^^ BitVec.ofInt n b).toNat
 |_=>(BitVec.ofInt n a &&& ~~~(BitVec.ofInt n b)).toNat
def Jx(op:BinOp)(k:IntKind)(a b:Int):Option AV:=
 match op with
 |.add=>some (.int k (k.wrap (a+b)))
 |.sub=>some (.int k (k.wrap (a-b)))
 |.mul=>some (.int k (k.wrap (a*b)))
 |.quo=>if b=0 then none else some (.int k (k.wrap (a.tdiv b)))
 |.rem=>if b=0 then none else some (.int k (a.tmod b))
 |.and=>some (.int k (k.wrap (Y7 .and k.bits a b)))
 |.or=>some (.int k (k.wrap (Y7 .or k.bits a b)))
 |.xor=>some (.int k (k.wrap (Y7 .xor k.bits a b)))
 |.andNot=>some (.int k (k.wrap (Y7 .andNot k.bits a b)))
 |.eql=>some (.bool (a==b))
 |.neq=>some (.bool (a != b))
 |.lss=>some (.bool (decide (a<b)))
 |.leq=>some (.bool (decide (a<=b)))
 |.gtr=>some (.bool (decide (a>b)))
 |.geq=>some (.bool (decide (a>=b)))
 |_=>none
def Ll(op:BinOp)(k:IntKind)(a b:Int):Option AV:=
 if b<0 then none else
 match op with
 |.shl=>some (.int k (k.wrap (a*2^(min b.toNat k.bits))))
 |.shr=>some (.int k (a.fdiv (2^(min b.toNat k.bits))))
 |_=>none
def Bo:BinOp->Bool
 |.shl|.shr=>true
 |_=>false
def Cy(op:BinOp):AV->AV->Option AV
 |.int k a,.int k' b=>if Bo op then Ll op k a b else if k=k' then Jx op k a b else none
 |_,_=>none
def Aq:List AV->List AV->Option Bool
 |[],[]=>some true
 |.int k a::xs,.int k' b::ys=>if k=k' then(Aq xs ys).map fun r=>a==b&&r else none
 |_,_=>none
def N5(t n t1 t2:Nat):AV->AV->Option Bool
 |.agg xs,.agg ys=>if t1=t/\t2=t/\t<bd/\xs.length=n/\ys.length=n then Aq xs ys else none
 |_,_=>none
def eqA:EqK->AV->AV->Option Bool
 |.bool,.bool a,.bool b=>some (a==b)
 |.ints n,.agg xs,.agg ys=>if xs.length=n/\ys.length=n then Aq xs ys else none
 |.ifc t n,.iface t1 x,.iface t2 y=>N5 t n t1 t2 x y
 |.slice,.nilslice,.nilslice=>some true
 |.slice,.slice ..,.nilslice=>some false
 |.slice,.nilslice,.slice ..=>some false
 |.func,.nilfunc,.nilfunc=>some true
 |.func,.func ..,.nilfunc=>some false
 |.ptr,.nilptr,.nilptr=>some true
 |.ptr,.ptr ..,.nilptr=>some false
 |_,_,_=>none
def unA(op:UnOp):AV->Option AV
 |.bool b=>match op with|.not=>some (.bool !b)|_=>none
 |.int k n=>match op with|.neg=>some (.int k (k.wrap (0-n)))|_=>none
 |_=>none
def mxA:AV->AV->Option AV
 |.int k x,.int k' y=>if k=k' then some (.int k (if y>x then y else x))else none
 |_,_=>none
def mnA:AV->AV->Option AV
 |.int k x,.int k' y=>if k=k' then some (.int k (if y<x then y else x))else none
 |_,_=>none
def C0(f:AV->AV->Option AV):AV->List AV->Option AV
 |a,[]=>some a
 |
  a,x::xs=>match f a x with
  |some b=>C0 f b xs
  |none=>none
def Aj(o:Option AV)(d top:Nat):Option Nat:=
 match o with
 |none=>some d
 |some (.int _ i)=>if 0<=i/\i<=top then some i.toNat else none
 |some _=>none
def A8(sz:Nat)(x:AV)(lo hi mx:Option AV):Option AV:=
 match x with
 |.slice id off len (.at_ c)=>
  match Aj mx c c with
  |none=>none
  |
   some m=>match Aj hi len m with
   |none=>none
   |
    some h=>match Aj lo 0 h with
    |none=>none
    |some l=>if mx.isSome&&hi.isNone then none else some (.slice id (if m=l then off else off+l*sz) (h-l) (.at_ (m-l)))
 |.slice id off len (.op sz')=>
  match mx with
  |
   none=>match Aj hi len len with
   |none=>none
   |
    some h=>match Aj lo 0 h with
    |none=>none
    |some l=>if sz'=sz then some (.slice id (off+l*sz) (h-l) (.op sz))else none
  |
   some _=>match Aj mx len len with
   |none=>none
   |
    some m=>match Aj hi len m with
    |none=>none
    |
     some h=>match Aj lo 0 h with
     |none=>none
     |some l=>if hi.isNone then none else if sz'=sz then some (.slice id (if m=l then off else off+l*sz) (h-l) (.at_ (m-l)))else none
 |.nilslice=>
  match Aj mx 0 0,Aj hi 0 0,Aj lo 0 0 with
  |some _,some _,some _=>if mx.isSome&&hi.isNone then none else some .nilslice
  |_,_,_=>none
 |_=>none
def BR(n sz:Nat)(x:AV)(lo hi mx:Option AV):Option AV:=
 match x with
 |.ptr id off=>A8 sz (.slice id off n (.at_ n)) lo hi mx
 |_=>none
def Cx:AV->AV->Option Bool
 |.int k a,.int k' b=>if k=k' then some (a==b)else none
 |_,_=>none
def CC(k:AV):List (AV×AV)->Nat->Option (Option (Nat×AV))
 |[],_=>some none
 |
  e::es,i=>match Cx k e.1 with
  |some true=>some (some (i,e.2))
  |some false=>CC k es (i+1)
  |none=>none
def Ap(g:Opd->AV):List (Nat×Nat×Opd)->List AV->Option (List AV)
 |[],cs=>some cs
 |(off,size,x)::r,cs=>
  if(g x).cells.length=size/\off+size<=cs.length/\(g x).cells.all AV.one=true then Ap g r (splice cs off (g x).cells)else none
def Af(rows:List Row)(g:Opd->AV):IOp->Option AV
 |.mv x=>some (g x)
 |
  .pick c a b=>match g c with
  |.bool t=>some (if t then g a else g b)
  |_=>none
 |
  .load1 a=>match g a with
  |
   .ptr id off=>match Ae rows id with
   |some vs=>vs[off]?
   |none=>none
  |_=>none
 |
  .loadN n a=>match g a with
  |
   .ptr id off=>match Ae rows id with
   |some vs=>(seg vs off n).map .agg
   |none=>none
  |_=>none
 |
  .nilck x=>match g x with
  |.ptr id off=>some (.ptr id off)
  |.func f cs=>some (.func f cs)
  |.yield l=>some (.yield l)
  |_=>none
 |.bin op x y=>Cy op (g x) (g y)
 |.eqv neg kd x y=>(eqA kd (g x) (g y)).map fun b=>.bool (if neg then !b else b)
 |.un op x=>unA op (g x)
 |
  .conv k x=>match g x with
  |.int _ n=>some (.int k (k.wrap n))
  |_=>none
 |
  .part1 off x=>match g x with
  |.agg l=>l[off]?
  |_=>none
 |
  .partN off n x=>match g x with
  |.agg l=>(seg l off n).map .agg
  |_=>none
 |
  .idxV len sz ag x i=>match g x,g i with
  |
   .agg l,.int _ n=>match AI n len with
   |some j=>if ag then(seg l (j*sz) sz).map .agg else l[j*sz]?
   |none=>none
  |_,_=>none
 |
  .fieldA d x=>match g x with
  |.ptr id off=>some (.ptr id (off+d))
  |_=>none
 |
  .idxA len sz x i=>match g x,g i with
  |
   .ptr id off,.int _ n=>match AI n len with
   |some j=>some (.ptr id (off+j*sz))
   |none=>none
  |_,_=>none
 |
  .idxS sz x i=>match g x,g i with
  |
   .slice id off len _,.int _ n=>match AI n len with
   |some j=>some (.ptr id (off+j*sz))
   |none=>none
  |_,_=>none
 |.mkagg zero ps=>(Ap g ps zero).map .agg
 |.sliceS sz x lo hi mx=>A8 sz (g x) (lo.map g) (hi.map g) (mx.map g)
 |.sliceA n sz x lo hi mx=>BR n sz (g x) (lo.map g) (hi.map g) (mx.map g)
 |.mkfn f cs=>some (.func f (cs.map g))
 |.bind f cs=>some (.iface bd (.agg (.int .u64 f::cs.map g)))
 |
  .look zero ok m k=>match g m with
  |
   .map id=>match rows[id]? with
   |
    some (.mp es)=>match CC (g k) es 0 with
    |some (some (_,v))=>some (if ok then .tup [v,.bool true]else v)
    |some none=>some (if ok then .tup [zero,.bool false]else zero)
    |none=>none
   |_=>none
  |
   .nilmap=>match Cx (g k) (g k)with
   |some _=>some (if ok then .tup [zero,.bool false]else zero)
   |none=>none
  |_=>none
 |.lenc n=>some (.int .i64 n)
 |
  .len kd x=>match kd,g x with
  |0,.slice _ _ n _=>some (.int .i64 n)
  |0,.nilslice=>some (.int .i64 0)
  |1,.str s=>some (.int .i64 s.size)
  |
   2,.map id=>match rows[id]? with
   |some (.mp es)=>some (.int .i64 es.length)
   |_=>none
  |_,_=>none
 |
  .cap x=>match g x with
  |.slice _ _ _ (.at_ n)=>some (.int .i64 n)
  |.nilslice=>some (.int .i64 0)
  |_=>none
 |
  .mx xs=>match xs.map g with
  |x::r=>C0 mxA x r
  |[]=>none
 |
  .mn xs=>match xs.map g with
  |x::r=>C0 mnA x r
  |[]=>none
 |
  .ext x i=>match g x with
  |.tup l=>l[i]?
  |_=>none
 |.mkif t x=>some (.iface t (g x))
 |_=>none
def lim:Nat:=1073741824
def Ab(low id:Nat):Nat:=if id<low then id else low
def A5(rows:List Row)(sz:Nat):AV->Option (List AV×Nat)
 |.nilslice=>some ([],0)
 |
  .slice id off n _=>match Ae rows id with
  |some vs=>(seg vs off (n*sz)).map fun l=>(l,n)
  |none=>none
 |_=>none
def Au(g:Opd->AV)(rows:List Row)(low:Nat):IOp->Option (AV×List Row×Nat)
 |.box x=>if(g x).cells.all AV.one then some (.ptr rows.length 0,rows++[.cells (g x).cells],low)else none
 |
  .store1 a x=>match g a with
  |
   .ptr id off=>match rows[id]? with
   |some (.cells vs)=>if off<vs.length/\(g x).one then some (.tup [],rows.set id (.cells (vs.set off (g x))),Ab low id)else none
   |_=>none
  |_=>none
 |
  .storeN n a x=>match g a,g x with
  |
   .ptr id off,.agg l=>match rows[id]? with
   |some (.cells vs)=>if l.length=n/\off+n<=vs.length/\l.all AV.one then some (.tup [],rows.set id (.cells (splice vs off l)),Ab low id)else none
   |_=>none
  |_,_=>none
 |
  .mkslice len zero ps=>match Ap g ps zero with
  |some cs=>some (.slice rows.length 0 len (.at_ len),rows++[.cells cs],low)
  |none=>none
 |
  .make zero _ len cap=>match g len,g cap with
  |.int _ l,.int _ c=>if 0<=l/\l<=c/\c<=lim then
    some (.slice rows.length 0 l.toNat (.at_ c.toNat),rows++[.cells ((List.replicate c.toNat zero).flatten)],low)else none
  |_,_=>none
 |
  .appz zero s x=>match g s,g x with
  |.nilslice,.int _ n=>if 0<n/\n<=lim then some (.slice rows.length 0 n.toNat (.op 1),rows++[.cells ((List.replicate n.toNat zero).flatten)],low)else none
  |_,_=>none
 |.mkmap=>some (.map rows.length,rows++[.mp []],low)
 |
  .mset m k v=>match g m with
  |
   .map id=>match rows[id]? with
   |
    some (.mp es)=>match CC (g k) es 0 with
    |some (some (i,_))=>some (.tup [],rows.set id (.mp (es.set i (g k,g v))),Ab low id)
    |some none=>if(Cx (g k) (g k)).isSome then some (.tup [],rows.set id (.mp (es++[(g k,g v)])),Ab low id)else none
    |none=>none
   |_=>none
  |_=>none
 |
  .app sz _ s x=>match A5 rows sz (g x)with
  |none=>none
  |some (ys,m)=>
   if m=0 then(match g s with
    |.nilslice=>some (.nilslice,rows,low)
    |.slice id off n c=>some (.slice id off n c,rows,low)
    |_=>none)
   else if lim<m then none
   else match g s with
    |.nilslice=>some (.slice rows.length 0 m (.op sz),rows++[.cells ys],low)
    |.slice id off n (.at_ c)=>
     if lim<n+m then none
     else if n+m<=c then match rows[id]? with
      |some (.cells vs)=>if off+n*sz+ys.length<=vs.length then some (.slice id off (n+m) (.at_ c),rows.set id (.cells (splice vs (off+n*sz) ys)),Ab low id)else none
      |_=>none
     else match Ae rows id with
      |
       some vs=>match seg vs off (n*sz)with
       |some xs=>some (.slice rows.length 0 (n+m) (.op sz),rows++[.cells (xs++ys)],low)
       |none=>none
      |none=>none
    |.slice id off n (.op sz')=>
     if lim<n+m\/sz'≠sz then none
     else match rows[id]? with
      |
       some (.cells vs)=>match seg vs off (n*sz)with
       |some xs=>some (.slice rows.length 0 (n+m) (.op sz),rows.set id .dead++[.cells (xs++ys)],Ab low id)
       |none=>none
      |_=>none
    |_=>none
 |o=>(Af rows g o).map fun v=>(v,rows,low)
def BE(sl:List AV)(d:Option Nat)(v:AV):List AV:=
 match d with
 |some d=>sl.set d v
 |none=>sl
def BL(sl:List AV):Option (Nat×Bool)->Option Bool
 |none=>some true
 |
  some (t,b)=>match sl.getD t .any with
  |.bool c=>some (c==b)
  |.tup []=>some false
  |_=>none
inductive Itm where
 |code (c:ICode)
 |inBlock (id:Nat)
 |inLoop (c:ICode)
 |inScope (c:ICode)
 |ops (l:List Seg)
 |rfBegin
inductive Ctx where
 |fn (res:List RV)
 |round (id:Nat)
def BB(id:Nat):List Itm->Option (List Itm)
 |.inBlock id'::k=>if id'=id then some k else BB id k
 |_::k=>BB id k
 |[]=>none
def Ib(rows:List Row)(sl:List AV):RV->Option AV
 |.t n=>some (sl.getD n .any)
 |.cell1 n=>Af rows (Ak sl) (.load1 (.t n))
 |.cellN n sz=>Af rows (Ak sl) (.loadN sz (.t n))
def C6(rows:List Row)(sl:List AV):List RV->Option (List AV)
 |[]=>some []
 |
  r::rs=>match Ib rows sl r,C6 rows sl rs with
  |some v,some vs=>some (v::vs)
  |_,_=>none
def results(rows:List Row)(sl:List AV)(res:List RV):Option AV:=
 match C6 rows sl res with
 |some [v]=>some v
 |some vs=>some (.tup vs)
 |none=>none
def AV.ids:AV->List Nat
 |.ptr id _|.slice id _ _ _|.map id|.yield id=>[id]
 |.func _ cs=>idsL cs
 |.iface _ v=>v.ids
 |.agg l|.tup l=>idsL l
 |_=>[]
where idsL:List AV->List Nat
 |[]=>[]
 |v::vs=>v.ids++idsL vs
def AV.ren(i j:Nat):AV->AV
 |.ptr id off=>.ptr (if id=i then j else id) off
 |.slice id off n c=>.slice (if id=i then j else id) off n c
 |v=>v
def AV.ren1(i j:Nat):AV->AV
 |.tup l=>.tup (l.map (AV.ren i j))
 |v=>v.ren i j
def AV.plain:AV->Bool
 |.ptr .. | .slice ..=>true
 |v=>v.ids.isEmpty
def AV.plain1:AV->Bool
 |.tup l=>l.all AV.plain
 |v=>v.plain
def AV.under(b:Nat)(v:AV):Bool:=v.ids.all (· < b)
def Row.under(b:Nat):Row->Bool
 |.cells vs|.ro vs=>vs.all (AV.under b)
 |.mp es=>es.all fun e=>e.1.under b&&e.2.under b
 |.loop _ _ sl _ _ _=>sl.all (AV.under b)
 |.mark|.dead=>true
def gc(base low:Nat)(v:AV)(rows:List Row):List Row:=
 if v.under base&&((rows.take base).drop low).all (Row.under base)then rows.take base else rows
def fin(rows:List Row)(v:AV)(rows':List Row)(low:Nat):AV×List Row×Option Nat:=
 if low=rows.length then
  if v.ids.all (· < rows.length)then(v,rows,none)
  else match v.ids with
   |
    [i]=>match rows'[i]? with
    |some (.cells vs)=>if vs.all (·.ids.isEmpty)&&v.plain1 then(v.ren1 i rows.length,rows++[.cells vs],none)else(v,rows',none)
    |_=>(v,rows',none)
   |_=>(v,rows',none)
 else(v,gc rows.length low v rows',some low)
def dead(n:Nat)(keep:List Nat):List Nat:=(List.range n).filter fun i=>!keep.contains i
def Cr(sl:List AV):List Nat->List AV
 |[]=>sl
 |d::ds=>Cr (sl.set d .any) ds
def AC(low:Nat):Option Nat->Nat
 |none=>low
 |some i=>Ab low i
def target(f:AV)(args:List AV):Option (Nat×List AV):=
 match f with
 |.func f cs=>some (f,args++cs)
 |_=>none
def AG(t:Nat)(v:AV):Option (Nat×List AV):=
 match v with
 |.agg (.int .u64 f::cs)=>if t=bd then some (f.toNat,cs)else none
 |_=>none
theorem Iu{t:Nat}{v:AV}{p:Nat×List AV}(h:AG t v=some p):∃f:Int,t=bd/\v = .agg (.int .u64 f::p.2)/\p.1=f.toNat:=by
 unfold AG at h
 split at h
 ·split at h
  ·rename_i f cs ht
   injection h with h
   subst h;exact⟨f,ht,rfl,rfl⟩
  ·simp at h
 ·simp at h
def Aw:List (Nat×Nat)->AV->List AV->Option (Nat×List AV)
 |[],.func f cs,args=>some (f,args++cs)
 |[],.iface t v,args=>(AG t v).map fun p=>(p.1,p.2++args)
 |p::tab,.iface t v,args=>if t=bd then none else((p::tab).lookup t).map fun f=>(f,v::args)
 |_,_,_=>none
def Ai(b:Nat)(ext:List (Nat×Row)):List Row:=ext.map fun p=>if b.testBit p.1 then p.2 else .dead
def opR(call:Nat->List AV->List Row->Option (AV×List Row×Option Nat))(sl:List AV)(rows:List Row)(low:Nat)(o:IOpx):Option (AV×List Row×Nat):=
 match BL sl o.g with
 |none=>none
 |some false=>some (.tup [],rows,low)
 |some true=>
  match o.op with
  |
   .call tab f args=>match Aw tab (Ak sl f) (args.map (Ak sl))with
   |
    some (fid,vs)=>match call fid vs rows with
    |some (v,rows',d)=>some (v,rows',AC low d)
    |none=>none
   |none=>none
  |op=>Au (Ak sl) rows low op
def At(call:Nat->List AV->List Row->Option (AV×List Row×Option Nat))(B:Nat->List Row):Nat->List (IOpx×Nat)->List AV->List (Nat×Row)->Option (List AV×List (Nat×Row))
 |_,[],sl,ext=>some (sl,ext)
 |i,(o,b)::r,sl,ext=>
  match opR call sl (B i++Ai b ext) ((B i).length+ext.length) o with
  |some (v,rows',low')=>if low'=(B i).length+ext.length then At call B (i+1) r (BE sl o.dst v) (ext++(rows'.drop ((B i).length+ext.length)).map fun x=>(i,x))else none
  |none=>none
def Bf(rows:List Row)(R off n:Nat):List Row:=
 match rows[R]? with
 |some (.cells vs)=>rows.set R (.cells (splice vs off (List.replicate n .any)))
 |_=>rows
def BT(rows rm:List Row)(b:Nat)(p:Nat):List Row:=if b.testBit p then rows else rm
def CG(sl:List AV)(rows:List Row)(R off:Nat)(a x:Opd)(n:Option Nat):Option Row:=
 match Ak sl a with
 |.ptr id off'=>if id=R/\off'=off then
   match rows[id]? with
   |
    some (.cells vs)=>match n with
    |none=>if off<vs.length/\(Ak sl x).one then some (.cells (vs.set off (Ak sl x)))else none
    |
     some n=>match Ak sl x with
     |.agg l=>if l.length=n/\off+n<=vs.length/\l.all AV.one then some (.cells (splice vs off l))else none
     |_=>none
   |_=>none
  else none
 |_=>none
def Me(fn:IFn)(vs:List AV)(rows:List Row):St:=⟨vs++List.replicate (fn.ns-vs.length) .any,rows,rows.length⟩
def AU(cx:Ctx)(j:Option Jump)(s:St):Option (AV×List Row×Nat):=
 match cx with
 |
  .fn res=>match j with
  |some (.exit _)=>none
  |_=>(results s.rows s.sl res).map fun v=>(v,s.rows,s.low)
 |
  .round id=>match s.rows[id]? with
  |some (.loop .busy _ sl ps asg body)=>some (.bool j.isNone,s.rows.set id (.loop (if j.isNone then .ready else .done) j sl ps asg body),Ab s.low id)
  |_=>none
def Dw(rows:List Row):Option (AV×List Row×Nat)->Option (AV×List Row×Option Nat)
 |some (v,rows',low')=>some (fin rows v rows' low')
 |none=>none
def putL(sl:List AV)(ps:List Nat)(vs:List AV):List AV:=(ps.zip vs).foldl (fun sl p=>sl.set p.1 p.2) sl
def AJ(sl:List AV)(o:IOpx):Option (Nat×List AV):=
 match o.op with
 |
  .call [] f args=>match Ak sl f,BL sl o.g with
  |.yield id,some true=>some (id,args.map (Ak sl))
  |_,_=>none
 |_=>none
def KZ(cx:Ctx)(rows:List Row):Bool:=
 match cx with
 |.fn _=>true
 |
  .round id=>match rows[id]? with
  |some (.loop ..)=>true
  |_=>false
def RC:Option Jump->List Itm
 |none=>[]
 |some .ret=>[.code .ret]
 |some (.exit id)=>[.code (.exit id)]
def AL(base low:Nat)(rows:List Row)(d:Option Nat):Option (List Itm×List Row×Nat):=
 match rows[base]? with
 |some (.loop st pend _ _ _ _)=>if st == .busy then none else some (RC pend,gc base (AC low d) (.tup []) (rows.set base .dead),AC low d)
 |_=>none
def St.put(s:St)(d:Option Nat)(v:AV):St:={s with sl:=BE s.sl d v}
abbrev C4:=Nat->List AV->List Row->Option (AV×List Row×Option Nat)
def AE(F:Nat->Option IFn)(ex:Ctx->List Itm->St->Option (AV×List Row×Nat)):C4:=fun f vs rows=>
 match F f with
 |some fn=>Dw rows (ex (.fn fn.res) [.code fn.body] (Me fn vs rows))
 |none=>none
section
variable {β:Type}
def A1(n:Nat)(k:Nat->β):β:=match n with
 |0=>k 0
 |m+1=>k (m+1)
def LM(n:Int)(k:Int->β):β:=match n with
 |.ofNat m=>A1 m fun m=>k (.ofNat m)
 |.negSucc m=>A1 m fun m=>k (.negSucc m)
def Ow(b:Bool)(k:Bool->β):β:=match b with
 |true=>k true
 |false=>k false
def Lp(v:AV)(k:AV->β):β:=match v with
 |.bool b=>Ow b fun b=>k (.bool b)
 |.int kd n=>LM n fun n=>k (.int kd n)
 |.ptr i o=>A1 i fun i=>A1 o fun o=>k (.ptr i o)
 |.slice i o l c=>A1 i fun i=>A1 o fun o=>A1 l fun l=>k (.slice i o l c)
 |v=>k v
def GE(l:List AV)(k:List AV->β):β:=match l with
 |[]=>k []
 |v::l=>Lp v fun v=>GE l fun l=>k (v::l)
def OE(v:AV)(k:AV->β):β:=match v with
 |.agg l=>GE l fun l=>k (.agg l)
 |.tup l=>GE l fun l=>k (.tup l)
 |v=>Lp v k
def forceS(l:List AV)(k:List AV->β):β:=match l with
 |[]=>k []
 |v::l=>OE v fun v=>forceS l fun l=>k (v::l)
def OW(r:Row)(k:Row->β):β:=match r with
 |.cells vs=>GE vs fun vs=>k (.cells vs)
 |r=>k r
def Fy(l:List Row)(k:List Row->β):β:=match l with
 |[]=>k []
 |r::l=>OW r fun r=>Fy l fun l=>k (r::l)
theorem Bi(n:Nat)(k:Nat->β):A1 n k=k n:=by cases n<;>rfl
theorem Ju(n:Int)(k:Int->β):LM n k=k n:=by cases n<;>simp[LM,Bi]
theorem IY(n:Bool)(k:Bool->β):Ow n k=k n:=by cases n<;>rfl
theorem IQ(v:AV)(k:AV->β):Lp v k=k v:=by cases v<;>simp[Lp,Bi,Ju,IY]
theorem Fi:∀(l:List AV) (k:List AV->β),GE l k=k l
 |[],k=>rfl
 |v::l,k=>by simp[GE,IQ,Fi l]
theorem Pe(v:AV)(k:AV->β):OE v k=k v:=by cases v<;>simp[OE,Fi,IQ]
theorem forceS_eq:∀(l:List AV) (k:List AV->β),forceS l k=k l
 |[],k=>rfl
 |v::l,k=>by simp[forceS,Pe,forceS_eq l]
theorem Pk(r:Row)(k:Row->β):OW r k=k r:=by cases r<;>simp[OW,Fi]
theorem A6:∀(l:List Row) (k:List Row->β),Fy l k=k l
 |[],k=>rfl
 |v::l,k=>by simp[Fy,Pk,A6 l]
def St.force(s:St)(k:St->β):β:=match s with
 |⟨sl,rows,low⟩=>forceS sl fun sl=>Fy rows fun rows=>A1 low fun low=>k ⟨sl,rows,low⟩
def St.forceS(s:St)(k:St->β):β:=match s with
 |⟨sl,rows,low⟩=>Abs.forceS sl fun sl=>k ⟨sl,rows,low⟩
theorem St.force_eq(s:St)(k:St->β):s.force k=k s:=by cases s;simp[St.force,Abs.forceS_eq,A6,Bi]
theorem St.forceS_eq(s:St)(k:St->β):s.forceS k=k s:=by cases s;simp[St.forceS,Abs.forceS_eq]
end
def exec(F:Nat->Option IFn):Nat->Ctx->List Itm->St->Option (AV×List Row×Nat)
 |0,_,_,_=>none
 |_+1,cx,[],s=>AU cx none s
 |n+1,cx,.inBlock _::k,s=>exec F n cx k s
 |n+1,cx,.inScope _::k,s=>exec F n cx k s
 |n+1,cx,.inLoop c::k,s=>s.force fun s=>exec F n cx (.code c::.inLoop c::k) s
 |n+1,cx,.rfBegin::k,s=>
  match cx with
  |
   .round id=>match s.rows[id]? with
   |some (.loop .ready pend sl ps asg body)=>exec F n cx k {s with rows:=s.rows.set id (.loop .busy pend sl ps asg body),low:=Ab s.low id}
   |_=>none
  |_=>none
 |n+1,cx,.ops []::k,s=>exec F n cx k s
 |n+1,cx,.ops (.one o::r)::k,s=>
  match AJ s.sl o with
  |
   some (id,vs)=>match s.rows[id]? with
   |some (.loop _ _ sl ps asg body)=>
    if ps.length=vs.length then
     match exec F n (.round id) [.code asg,.rfBegin,.code body] ⟨putL sl ps vs,s.rows,s.rows.length⟩with
     |some (v,rows',low')=>exec F n cx (.ops r::k) ⟨BE s.sl o.dst v,gc s.rows.length (Ab s.low low') v rows',Ab s.low low'⟩
     |none=>none
    else none
   |_=>none
  |none=>
  match opR (AE F (exec F n)) s.sl s.rows s.low o with
  |some (v,rows',low')=>exec F n cx (.ops r::k) ⟨BE s.sl o.dst v,rows',low'⟩
  |none=>none
 |n+1,cx,.ops (.grp l::r)::k,s=>
  match At (AE F (exec F n)) (fun _=>s.rows) 0 l s.sl []with
  |some (sl',ext)=>exec F n cx (.ops r::k) {s with sl:=sl',rows:=s.rows++ext.map (·.2)}
  |none=>none
 |n+1,cx,.ops (.grpw a x sz b l::r)::k,s=>
  match At (AE F (exec F n)) (fun _=>s.rows) 0 l s.sl []with
  |
   some (sl0,_)=>match Ak sl0 a with
   |.ptr R off=>Fy (Bf s.rows R off (sz.getD 1)) fun rm=>
    match At (AE F (exec F n)) (BT s.rows rm b) 0 l s.sl []with
    |
     some (sl',ext)=>match CG sl' s.rows R off a x sz with
     |some r'=>exec F n cx (.ops r::k) ⟨sl',s.rows.set R r'++ext.map (·.2),Ab s.low R⟩
     |none=>none
    |none=>none
   |_=>none
  |none=>none
 |_+1,_,.ops (.stop::_)::_,_=>none
 |n+1,cx,.code c::k,s=>
  match c with
  |.skip=>exec F n cx k s
  |.ret=>AU cx (some .ret) s
  |
   .exit id=>match BB id k with
   |some k'=>exec F n cx k' s
   |none=>AU cx (some (.exit id)) s
  |.seq a b=>exec F n cx (.code a::.code b::k) s
  |
   .cond c a b=>match Ak s.sl c with
   |.bool t=>exec F n cx (.code (if t then a else b)::k) s
   |_=>none
  |.block id c=>exec F n cx (.code c::.inBlock id::k) s
  |.loop c=>exec F n cx (.code c::.inLoop c::k) s
  |.scope c=>exec F n cx (.code c::.inScope c::k) s
  |.ops l=>s.forceS fun s=>exec F n cx (.ops l::k) s
  |.rf f ps asg body=>
   if KZ cx s.rows then
    match target (Ak s.sl f) [.yield s.rows.length]with
    |some (fid,vs)=>
     match AE F (exec F n) fid vs (s.rows++[.loop .ready none s.sl ps asg body])with
     |
      some (_,rows',d)=>match AL s.rows.length s.low rows' d with
      |some (k0,rows2,low2)=>exec F n cx (k0++k) ⟨s.sl,rows2,low2⟩
      |none=>none
     |none=>none
    |none=>none
   else none
  |.kill m ks c=>exec F n cx (.code c::k) {s with sl:=Cr s.sl (dead m ks)}
  |.stop=>none
def call(F:Nat->Option IFn)(n:Nat)(f:Nat)(vs:List AV)(rows:List Row):Option (AV×List Row×Option Nat):=AE F (exec F n) f vs rows
def cv1:Value->AV
 |.bool b=>.bool b
 |.int k n=>.int k n
 |.string s=>.str s
 |.pointer none=>.nilptr
 |.slice none 0 0=>.nilslice
 |.map none=>.nilmap
 |.nilFunc=>.nilfunc
 |.nilIface=>.niliface
 |.func (.func f) fi cs=>if fi.size=0/\cs.size=0 then .func f []else .any
 |_=>.any
def cv:Value->AV
 |.agg cs=>.agg (cs.toList.map cv1)
 |.tuple vs=>if vs.size=0 then .tup []else .any
 |v=>cv1 v
def co(gl:List Nat):Operand->Opd
 |.tmp t=>.t t
 |.const v=>.c (cv v)
 |.func f=>.c (.func f [])
 |
  .global g=>match gl.idxOf? g with
  |some i=>.c (.ptr i 0)
  |none=>.c .any
section
variable (P:Program)(gl:List Nat)
def szT(t:TypeId):Option Nat:=(P.info? t).map (·.size)
def GG(t:TypeId):Option Nat:=(P.info? t).map (·.bytes)
def EL(t:TypeId):Option AV:=(P.info? t).bind fun i=>i.zero.map cv
def L8(t:TypeId):Option Bool:=match P.underlying t with
 |some (.struct _)|some (.array ..)=>some true
 |some _=>some false
 |none=>none
def OY(fs:Array Field):Option (List (Nat×Nat)):=fs.toList.mapM (fun f=>(P.info? f.type).map fun i=>(f.offset,i.size))
def D9(pl:List (Nat×Nat)):List (Nat×Operand)->Option (List (Nat×Nat×Opd))
 |[]=>some []
 |
  (i,x)::r=>match pl[i]?,D9 pl r with
  |some p,some l=>some ((p.1,p.2,co gl x)::l)
  |_,_=>none
def FD(n:Nat):List (Nat×Operand)->List (Nat×Nat×Opd)
 |[]=>[]
 |(i,x)::r=>(i*n,n,co gl x)::FD n r
def OI(t:TypeId):Option Nat:=
 match P.underlying t with
 |
  some (.array n e)=>match P.underlying e with
  |some (.int _)=>if szT P e=some 1 then some n else none
  |_=>none
 | some (.struct fs) => if !P.stoodInHeld t && fs.toList.zipIdx.all (fun f => f.1.name != "_" && f.1.offset == f.2 && (match P.underlying f.1.type with | some (.int _) => szT P f.1.type == some 1 | _ => false)) then some fs.size else none
 |_=>none
def H9(t:TypeId):Option Nat:=
 match OI P t with
 |some n=>some n
 |
  none=>match P.underlying t with
  |
   some (.array n e)=>match OI P e with
   |some m=>if szT P e=some m/\L8 P e=some true then some (n*m)else none
   |none=>none
  |_=>none
def Acq:Option (Nat×Nat):=
 (List.range P.types.size).findSome? fun t=>match P.info? t with
  |
   some i=>match i.desc with
   |
    .named ..=>match P.underlying t with
    |some (.struct _)=>if i.comparable then(H9 P t).map fun n=>(t,n)else none
    |_=>none
   |_=>none
  |none=>none
def UU(t:TypeId)(m:String):Option Nat:=
 match P.info? t with
 |
  some i=>match i.methods.find? (·.name==m)with
  |
   some me=>if me.path.isEmpty then(match me.func with
   |
    some (f,pr)=>match P.underlying t with
    |some (.pointer _)=>if pr then some f else none
    |some _=>if pr then none else some f
    |none=>none
   |none=>none)else none
  |none=>none
 |none=>none
def Kn(m:String):List (Nat×Nat):=(List.range P.types.size).filterMap fun t=>(UU P t m).map fun f=>(t,f)
def cop(o:Oper):Option IOp:=
 match o.op with
 |.move x|.assign x=>some (.mv (co gl x))
 |.pick c a b=>some (.pick (co gl c) (co gl a) (co gl b))
 |.alloc t=>(EL P t).map fun z=>.box (.c z)
 |.box _ x=>some (.box (co gl x))
 |
  .build t ps=>match EL P t,P.underlying t with
  |
   some z,some (.struct fs)=>match OY P fs with
   |some pl=>if z.cells.all AV.one then(D9 gl pl ps.toList).map fun l=>.mkagg z.cells l else none
   |none=>none
  |
   some z,some (.array _ e)=>match szT P e with
   |some n=>if z.cells.all AV.one then some (.mkagg z.cells (FD gl n ps.toList))else none
   |none=>none
  |_,_=>none
 |
  .buildSlice t len ps=>match P.underlying t with
  |
   some (.slice e)=>match szT P e,EL P e with
   |some n,some z=>if len*n<=4096/\z.cells.length=n/\0<n/\z.cells.all AV.one=true then some (.mkslice len ((List.replicate len z.cells).flatten) (FD gl n ps.toList))else none
   |_,_=>none
  |_=>none
 |
  .load t a=>match L8 P t,szT P t with
  |some true,some n=>some (.loadN n (co gl a))
  |some false,some _=>some (.load1 (co gl a))
  |_,_=>none
 |
  .store t a x=>match L8 P t,szT P t with
  |some true,some n=>some (.storeN n (co gl a) (co gl x))
  |some false,some n=>if n=1 then some (.store1 (co gl a) (co gl x))else none
  |_,_=>none
 |.nilCheck x=>some (.nilck (co gl x))
 |
  .binOp op t x y _=>match op with
  |
   .eql|.neq=>match P.underlying t with
   |some (.int _)=>some (.bin op (co gl x) (co gl y))
   |some .bool=>some (.eqv (op == .neq) .bool (co gl x) (co gl y))
   |some (.slice _)=>some (.eqv (op == .neq) .slice (co gl x) (co gl y))
   |some (.func ..)=>some (.eqv (op == .neq) .func (co gl x) (co gl y))
   |some (.pointer _)=>some (.eqv (op == .neq) .ptr (co gl x) (co gl y))
   |
    some (.interface _)=>match Acq P with
    |
     some (t',n)=>match P.info? t' with
     |some i=>if i.comparable/\H9 P t'=some n then some (.eqv (op == .neq) (.ifc t' n) (co gl x) (co gl y))else none
     |none=>none
    |none=>none
   |
    some (.array ..)|some (.struct _)=>match H9 P t with
    |some n=>if P.eqGuardType P.depth t then none else some (.eqv (op == .neq) (.ints n) (co gl x) (co gl y))
    |none=>none
   |_=>none
  |_=>some (.bin op (co gl x) (co gl y))
 |.unOp op _ x=>some (.un op (co gl x))
 |
  .convert s d x=>match P.underlying s,P.underlying d with
  |some (.int _),some (.int k)=>some (.conv k (co gl x))
  |_,_=>none
 |
  .field t x f=>match P.underlying t with
  |
   some (.struct fs)=>match fs[f]? with
   |
    some fd=>match L8 P fd.type,szT P fd.type with
    |some true,some n=>some (.partN fd.offset n (co gl x))
    |some false,some _=>some (.part1 fd.offset (co gl x))
    |_,_=>none
   |none=>none
  |_=>none
 |
  .index t x i=>match P.underlying t with
  |
   some (.array len e)=>match L8 P e,szT P e with
   |some ag,some n=>some (.idxV len n ag (co gl x) (co gl i))
   |_,_=>none
  |_=>none
 |
  .fieldAddr t x f=>match P.underlying t with
  |
   some (.struct fs)=>match fs[f]? with
   |
    some fd=>match szT P fd.type with
    |some n=>if n=0 then none else some (.fieldA fd.offset (co gl x))
    |none=>none
   |none=>none
  |_=>none
 |
  .indexAddr t x i=>match P.underlying t with
  |some (.array len e)=>(szT P e).map fun n=>.idxA len n (co gl x) (co gl i)
  |some (.slice e)=>(szT P e).map fun n=>.idxS n (co gl x) (co gl i)
  |_=>none
 |
  .makeSlice t l c=>match P.underlying t with
  |
   some (.slice e)=>match szT P e,EL P e,GG P e with
   |some n,some z,some b=>if z.cells.length=n/\1<=n/\z.cells.all AV.one/\b<=1024 then some (.make z.cells b (co gl l) (co gl c))else none
   |_,_,_=>none
  |_=>none
 |
  .slice t x lo hi mx=>match P.underlying t with
  |some (.slice e)=>(szT P e).map fun n=>.sliceS n (co gl x) (lo.map (co gl)) (hi.map (co gl)) (mx.map (co gl))
  |some (.array n e)=>(szT P e).map fun m=>.sliceA n m (co gl x) (lo.map (co gl)) (hi.map (co gl)) (mx.map (co gl))
  |_=>none
 |.makeFunc (.func f) fi cs=>if fi.size=0 then some (.mkfn f (cs.toList.map (co gl)))else if cs.size=0 then some (.bind f (fi.toList.map (co gl)))else none
 |.makeMap _ none=>some .mkmap
 |
  .lookup t m k ok=>match P.underlying t with
  |
   some (.map kt e)=>match P.underlying kt,EL P e with
   |some (.int _),some z=>if z.one then some (.look z ok (co gl m) (co gl k))else none
   |_,_=>none
  |_=>none
 |
  .mapUpdate t m k v=>match P.underlying t with
  |
   some (.map kt _)=>match P.underlying kt with
   |some (.int _)=>some (.mset (co gl m) (co gl k) (co gl v))
   |_=>none
  |_=>none
 |.extract x i=>some (.ext (co gl x) i)
 |
  .makeInterface t x=>match P.underlying t with
  |some (.interface _)=>none
  |some _=>if t<bd then some (.mkif t (co gl x))else none
  |none=>none
 |
  .call c=>match c.callee with
  |.value f=>some (.call [] (co gl f) (c.args.toList.map (co gl)))
  |
   .invoke r m=>match Kn P m with
   |[]=>none
   |p::tab=>some (.call (p::tab) (co gl r) (c.args.toList.map (co gl)))
  |
   .builtin .len=>match c.argTypes[0]?,c.args[0]? with
   |
    some t,some x=>match P.underlying t with
    |some (.array n _)=>some (.lenc n)
    |some (.slice _)=>some (.len 0 (co gl x))
    |some .string=>some (.len 1 (co gl x))
    |some (.map ..)=>some (.len 2 (co gl x))
    |_=>none
   |_,_=>none
  |
   .builtin .cap=>match c.argTypes[0]?,c.args[0]? with
   |
    some t,some x=>match P.underlying t with
    |some (.slice _)=>some (.cap (co gl x))
    |_=>none
   |_,_=>none
  |.builtin .max=>some (.mx (c.args.toList.map (co gl)))
  |.builtin .min=>some (.mn (c.args.toList.map (co gl)))
  |
   .builtin .append=>match c.argTypes[0]?,c.argTypes[1]?,c.args[0]?,c.args[1]? with
   |
    some t,some u,some s,some x=>match P.underlying t,P.underlying u with
    |
     some (.slice e),some (.slice _)=>if t≠u then none else match szT P e,GG P e,EL P e with
     |some n,some b,some z=>if b<=1024/\0<n/\z.cells.length=n/\z.cells.all AV.one=true then some (.app n b (co gl s) (co gl x))else none
     |_,_,_=>none
    |
     some (.slice e),some (.int _)=>match szT P e,GG P e,EL P e with
     |some n,some b,some z=>if b<=1024/\n=1/\z.cells.length=1/\z.cells.all AV.one=true then some (.appz z.cells (co gl s) (co gl x))else none
     |_,_,_=>none
    |_,_=>none
   |_,_,_,_=>none
  |_=>none
 |_=>none
def Lc(ops:Array Oper):Option (Nat×Bool)->Option (Option (Nat×Bool))
 |none=>some none
 |
  some (j,b)=>match (ops[j]?).bind (·.dst)with
  |some t=>some (some (t,b))
  |none=>none
def DN(ops:Array Oper)(o:Oper):IOpx:=
 match Lc ops o.guard,cop P gl o with
 |some g,some i=>⟨o.dst,i,g⟩
 |some g,none=>⟨o.dst,.bad,g⟩
 |none,_=>⟨o.dst,.bad,none⟩
def Opd.tmps:Opd->List Nat
 |.t n=>[n]
 |.c _=>[]
def IOp.opds:IOp->List Opd
 |.mv x|.box x|.load1 x|.loadN _ x|.nilck x|.un _ x|.conv _ x|.part1 _ x|.partN _ _ x|.fieldA _ x|.len _ x|.cap x|.ext x _|.mkif _ x=>[x]
 |.pick c a b=>[c,a,b]
 |.store1 a x|.storeN _ a x|.bin _ a x|.eqv _ _ a x|.idxV _ _ _ a x|.idxA _ _ a x|.idxS _ a x|.look _ _ a x|.app _ _ a x|.appz _ a x|.make _ _ a x=>[a,x]
 |.mset m k v=>[m,k,v]
 |.mkagg _ ps|.mkslice _ _ ps=>ps.map (·.2.2)
 |.sliceS _ x lo hi to|.sliceA _ _ x lo hi to=>x::(lo.toList++hi.toList++to.toList)
 |.mkfn _ cs|.bind _ cs=>cs
 |.mx xs|.mn xs=>xs
 |.call _ f args=>f::args
 |.mkmap|.lenc _|.bad=>[]
def IOpx.looks(o:IOpx):List Nat:=o.op.opds.flatMap Opd.tmps++(match o.g with|some (t,_)=>[t]|none=>[])
def C7(x y:IOpx):Bool:=
 (match x.dst with|some d=>!y.looks.contains d&&y.dst != some d|none=>true)&&(match y.dst with|some d=>!x.looks.contains d|none=>true)
def HT(b:List Nat)(c:Nat):Bool:=(b.drop c).all fun x=>x &&& (2^c-1)==2^c-1
def Jp(b:List Nat):List Nat:=((List.range b.length).map (· + 1)).filter (HT b)
def D3:List (IOpx×Nat)->Nat->Bool
 |[],_=>true
 |(o,_)::r,i=>(r.all fun p=>p.2.testBit i||C7 o p.1)&&D3 r (i+1)
def Cv(lb:List (IOpx×Nat))(c b:Nat):List (IOpx×Nat):=((lb.drop c).take (b-c)).map fun o=>(o.1,o.2 >>> c)
def Wj(lb:List (IOpx×Nat))(bl:List Nat)(c:Nat):List Nat->Bool
 |[]=>c==lb.length
 |b::bs=>decide (c<b)&&decide (b<=lb.length)&&HT bl b&&D3 (Cv lb c b) 0&&Wj lb bl b bs
def Hr(ops:Array Oper):Bool:=(List.range ops.size).all fun j=>(ops.getD j default).after.all fun e=>!Region.binds .any e||e.on<j
def AZ:IOp->Option (Opd×Opd×Option Nat)
 |.store1 a x=>some (a,x,none)
 |.storeN n a x=>some (a,x,some n)
 |_=>none
def Is:IOpx:=⟨none,.lenc 0,none⟩
def Aby(l:List (IOpx×Nat)):Seg:=
 match l.findIdx? fun o=>(AZ o.1.op).isSome with
 |none=>.grp l
 |
  some i=>match AZ (l.getD i (Is,0)).1.op with
  |none=>.stop
  |some (a,x,n)=>if(l.getD i (Is,0)).1.dst=none/\(l.getD i (Is,0)).1.g=none/\l.all (fun o=>!o.2.testBit i)=true then .grpw a x n (l.getD i (Is,0)).2 (l.set i (Is,(l.getD i (Is,0)).2))else .stop
def J5(lb:List (IOpx×Nat)):Nat->List Nat->List Seg
 |_,[]=>[]
 |c,b::bs=>(if b=c+1 then .one (lb.getD c (Is,0)).1 else Aby (Cv lb c b))::J5 lb b bs
def Bw(ops:Array Oper):List (IOpx×Nat):=(ops.toList.map (DN P gl ops)).zip (Region.before ops).toList
def cc(hint:Nat->Option (Nat×List Nat)):Code->ICode
 |.skip|.label _=>.skip
 |.ret=>.ret
 |.exit id=>.exit id
 |.seq a b=>.seq (cc hint a) (cc hint b)
 |.cond c a b=>.cond (co gl c) (cc hint a) (cc hint b)
 |.block id c=>.block id (cc hint c)
 |.loop c=>.loop (cc hint c)
 |.scope c=>.scope (cc hint c)
 |
  .region id ops false=>match hint id with
  |none=>.ops (ops.toList.map fun o=>.one (DN P gl ops o))
  |some h=>.kill h.1 h.2 (.ops (ops.toList.map fun o=>.one (DN P gl ops o)))
 |.region id ops true=>if Wj (Bw P gl ops) (Region.before ops).toList 0 (Jp (Region.before ops).toList)&&Hr ops&&P.follows .mixedOrders then
   (match hint id with
   |none=>.ops (J5 (Bw P gl ops) 0 (Jp (Region.before ops).toList))
   |some h=>.kill h.1 h.2 (.ops (J5 (Bw P gl ops) 0 (Jp (Region.before ops).toList))))else .stop
 |.rangeFunc f ps x y=>.rf (co gl f) ps.toList (cc hint x) (cc hint y)
 |.goto _=>.stop
 |.refuse _=>.stop
def RX:List ResultVar->Option (List RV)
 |[]=>some []
 |.tmp t::r=>(RX r).map (.t t :: ·)
 |
  .cell a t::r=>match L8 P t,szT P t,RX r with
  |some true,some n,some l=>some (.cellN a n::l)
  |some false,some _,some l=>some (.cell1 a::l)
  |_,_,_=>none
def cfn(hint:Nat->Option (Nat×List Nat))(fn:Func):Option IFn:=
 match fn.body,RX P fn.results.toList with
 |some c,some res=>some ⟨fn.ntmps,res,cc P gl hint c⟩
 |_,_=>none
end
structure Loc where
 b:Nat
 d:Nat
 top:Nat
abbrev Th:=Nat->Option Loc
abbrev Fw:=ICode->Code->Prop
def KP(P:Program)(gl:List Nat):Fw:=fun ic c=>∃hint,ic=cc P gl hint c
variable {κ:Fw}
def Jump.code:Jump->Code
 |.ret=>.ret
 |.exit id=>.exit id
inductive V(θ:Th):AV->Value->Prop
 |bool (b:Bool):V θ (.bool b) (.bool b)
 |int (k:IntKind) (n:Int):V θ (.int k n) (.int k n)
 |str (s:ByteArray):V θ (.str s) (.string s)
 |ptr {id off:Nat} {L:Loc}:θ id=some L->V θ (.ptr id off) (.pointer (some ⟨L.b,L.d+off,none⟩))
 |nilptr:V θ .nilptr (.pointer none)
 |sliceAt {id off len c o:Nat} {L:Loc}:θ id=some L->(0<c->o=L.d+off)->len<=c->V θ (.slice id off len (.at_ c)) (.slice (some ⟨L.b,o,none⟩) len c)
 |sliceOp {id off len sz c o:Nat} {L:Loc}:θ id=some L->(0<len->o=L.d+off)->o+c*sz<=L.top->len<=c->
   V θ (.slice id off len (.op sz)) (.slice (some ⟨L.b,o,none⟩) len c)
 |nilslice:V θ .nilslice (.slice none 0 0)
 |map {id:Nat} {L:Loc}:θ id=some L->V θ (.map id) (.map (some L.b))
 |nilmap:V θ .nilmap (.map none)
 |func {f:Nat} {l:List AV} {l':List Value}:l.length=l'.length->(∀(i:Nat) (x:AV) (x':Value),l[i]?=some x->l'[i]?=some x'->V θ x x')->V θ (.func f l) (.func (.func f) #[] l'.toArray)
 |yield {id:Nat} {L:Loc}:θ id=some L->V θ (.yield id) (.func (.yield L.b) #[] #[])
 |nilfunc:V θ .nilfunc .nilFunc
 |niliface:V θ .niliface .nilIface
 |iface {t:Nat} {v:AV} {v':Value}:t<bd->V θ v v'->V θ (.iface t v) (.iface t v')
 |bound {f:Nat} {l:List AV} {l':List Value}:l.length=l'.length->(∀(i:Nat) (x:AV) (x':Value),l[i]?=some x->l'[i]?=some x'->V θ x x')->V θ (.iface bd (.agg (.int .u64 f::l))) (.func (.func f) l'.toArray #[])
 |agg {l:List AV} {l':List Value}:l.length=l'.length->(∀(i:Nat) (x:AV) (x':Value),l[i]?=some x->l'[i]?=some x'->V θ x x')->V θ (.agg l) (.agg l'.toArray)
 |tup {l:List AV} {l':List Value}:l.length=l'.length->(∀(i:Nat) (x:AV) (x':Value),l[i]?=some x->l'[i]?=some x'->V θ x x')->V θ (.tup l) (.tuple l'.toArray)
 |any (v':Value):V θ .any v'
def VL(θ:Th)(l:List AV)(l':List Value):Prop:=l.length=l'.length/\∀(i:Nat) (x:AV) (x':Value),l[i]?=some x->l'[i]?=some x'->V θ x x'
def Ext(θ θ':Th):Prop:=∀id L,θ id=some L->θ' id=some L
theorem Ext.refl(θ:Th):Ext θ θ:=fun _ _ h=>h
theorem Ext.trans{a b c:Th}(h:Ext a b)(k:Ext b c):Ext a c:=fun id L e=>k id L (h id L e)
theorem V.mono{θ θ':Th}(h:Ext θ θ'){v:AV}{v':Value}(hv:V θ v v'):V θ' v v':=by
 induction hv with
 |bool b=>exact .bool b
 |int k n=>exact .int k n
 |str s=>exact .str s
 |ptr e=>exact .ptr (h _ _ e)
 |nilptr=>exact .nilptr
 |sliceAt e a b=>exact .sliceAt (h _ _ e) a b
 |sliceOp e a b c=>exact .sliceOp (h _ _ e) a b c
 |nilslice=>exact .nilslice
 |map e=>exact .map (h _ _ e)
 |nilmap=>exact .nilmap
 |func a _ ih=>exact .func a ih
 |yield e=>exact .yield (h _ _ e)
 |nilfunc=>exact .nilfunc
 |niliface=>exact .niliface
 |iface h0 _ ih=>exact .iface h0 ih
 |bound a _ ih=>exact .bound a ih
 |agg a _ ih=>exact .agg a ih
 |tup a _ ih=>exact .tup a ih
 |any v'=>exact .any v'
theorem VL.mono{θ θ':Th}(h:Ext θ θ'){l:List AV}{l':List Value}(hv:VL θ l l'):VL θ' l l':=⟨hv.1,fun i x x' a b=>(hv.2 i x x' a b).mono h⟩
theorem VL.nil(θ:Th):VL θ [] []:=⟨rfl,fun i x x' h=>by simp at h⟩
theorem VL.cons{θ:Th}{x:AV}{x':Value}{l:List AV}{l':List Value}(h:V θ x x')(hl:VL θ l l'):VL θ (x::l) (x'::l'):=
 ⟨by simp[hl.1],fun i y y' a b=>by
  cases i with
  |zero=>simp at a b;subst a;subst b;exact h
  |succ i=>exact hl.2 i y y' (by simpa using a) (by simpa using b)⟩
theorem VL.get{θ:Th}{l:List AV}{l':List Value}(h:VL θ l l'){i:Nat}{x:AV}(hx:l[i]?=some x):∃x',l'[i]?=some x'/\V θ x x':=by
 have hi:i<l.length:=(AcF.1 hx).1;have hi':i<l'.length:=h.1 ▸ hi;exact⟨l'[i],AcR hi',h.2 i x _ hx (AcR hi')⟩
theorem VL.of_cons{θ:Th}{x:AV}{l:List AV}{l':List Value}(h:VL θ (x::l) l'):∃x' r',l'=x'::r'/\V θ x x'/\VL θ l r':=by
 cases l' with
 |nil=>have:=h.1;simp at this
 |cons x' r'=>
  refine⟨x',r',rfl,h.2 0 _ _ rfl rfl,by have:=h.1;simpa using this,fun i y y' a b=>h.2 (i+1) y y' (by simpa using a) (by simpa using b)⟩
theorem VL.append{θ:Th}{l m:List AV}{l' m':List Value}(h:VL θ l l')(k:VL θ m m'):VL θ (l++m) (l'++m'):=by
 refine⟨by simp[h.1,k.1],fun i x x' a b=>?_⟩
 by_cases hi:i<l.length
 ·rw[AcD hi]at a
  rw[AcD (h.1 ▸ hi)]at b;exact h.2 i x x' a b
 ·rw[AcG (by omega)]at a
  rw[AcG (by have:=h.1;omega),<-h.1]at b;exact k.2 _ x x' a b
theorem VL.drop{θ:Th}{l:List AV}{l':List Value}(h:VL θ l l')(n:Nat):VL θ (l.drop n) (l'.drop n):=
 ⟨by simp[h.1],fun i x x' a b=>h.2 (n+i) x x' (by simpa using a) (by simpa using b)⟩
theorem VL.take{θ:Th}{l:List AV}{l':List Value}(h:VL θ l l')(n:Nat):VL θ (l.take n) (l'.take n):=
 ⟨by simp[h.1],fun i x x' a b=>by
  rw[Aev]at a b
  split at a
  ·exact h.2 i x x' a (by simpa[*]using b)
  ·simp at a⟩
structure SRel(θ:Th)(sl:List AV)(tmps:Array Value):Prop where
 size:sl.length=tmps.size
 at_:∀(i:Nat) (x:AV) (x':Value),sl[i]?=some x->tmps[i]?=some x'->V θ x x'
theorem SRel.mono{θ θ':Th}(h:Ext θ θ'){sl:List AV}{t:Array Value}(hs:SRel θ sl t):SRel θ' sl t:=⟨hs.size,fun i x x' a b=>(hs.at_ i x x' a b).mono h⟩
theorem SRel.get{θ:Th}{sl:List AV}{t:Array Value}(hs:SRel θ sl t)(i:Nat):V θ (sl.getD i .any) (t.getD i undef):=by
 by_cases hi:i<sl.length
 ·have hi':i<t.size:=hs.size ▸ hi
  have:=hs.at_ i sl[i] t[i] (AcR hi) (Array.getElem?_eq_getElem hi');simpa[List.getD,AcR hi,Array.getD,hi']using this
 ·simp only[List.getD,Ac0 (Nat.le_of_not_lt hi),Option.getD_none]
  exact .any _
theorem SRel.put{θ:Th}{sl:List AV}{a:Act}(hs:SRel θ sl a.tmps)(d:Option Nat){v:AV}{v':Value}(hv:V θ v v'):SRel θ (BE sl d v) (a.put d v').tmps:=by
 cases d with
 |none=>exact hs
 |some d=>
  refine⟨by simp[BE,Act.put,hs.size],fun i x x' p q=>?_⟩;simp only[BE,Act.put]at p q;rw[Adu]at p;rw[Array.getElem?_setIfInBounds]at q
  split at p
  ·rename_i hn
   subst hn;simp only[if_true]at q
   split at p
   ·rw[if_pos (by rw[<-hs.size];assumption)]at q
    injection p with p;injection q with q;subst p;subst q;exact hv
   ·simp at p
  ·rename_i hn
   rw[if_neg hn]at q;exact hs.at_ i x x' p q
def GRel(θ:Th)(gl:List Nat):Prop:=∀(i g:Nat),gl[i]?=some g->∃L,θ i=some L/\L.b=g/\L.d=0
theorem GRel.mono{θ θ':Th}(h:Ext θ θ'){gl:List Nat}(hg:GRel θ gl):GRel θ' gl:=fun i g e=>let ⟨L,a,b⟩:=hg i g e;⟨L,h _ _ a,b⟩
def Row.owned:Row->Bool
 |.cells _|.mp _|.loop .. | .mark=>true
 |_=>false
def Row.live:Row->Bool
 |.dead=>false
 |_=>true
def CellsRel(θ:Th)(L:Loc)(vs:List AV)(c:Array Value):Prop:=
 L.d+vs.length<=c.size/\L.top=c.size/\∀(j:Nat) (x:AV),vs[j]?=some x->∃x',c[L.d+j]?=some x'/\V θ x x'/\x'.oneCell'=true
def RowRel(κ:Fw)(θ:Th)(id:Nat)(w:World):Row->Prop
 |.cells vs=>∃L c T,θ id=some L/\w.heap[L.b]?=some (.cells c T (0,0))/\CellsRel θ L vs c
 |.ro vs=>∃L,θ id=some L/\∀(j:Nat) (x:AV),vs[j]?=some x->∃x',w.cell? ⟨L.b,L.d+j,none⟩=some x'/\V θ x x'/\x'.oneCell'=true
 |.mp es=>∃L es' clock,θ id=some L/\w.heap[L.b]?=some (.map es' clock)/\es'.size=es.length/\∀(i:Nat) (e:AV×AV),es[i]?=some e->∃e',es'[i]?=some e'/\V θ e.1 e'.key/\V θ e.2 e'.val
 |.loop st pend sl ps asg body=>∃L r,θ id=some L/\w.heap[L.b]?=some (.loop r)/\r.state=st/\r.pending=pend.map Jump.code/\VL θ sl r.tmps.toList/\r.params.toList=ps/\κ asg r.assign/\κ body r.body
 |.mark=>False
 |.dead=>True
structure HRel(κ:Fw)(θ:Th)(rows:List Row)(w:World):Prop where
 dom:∀id L,θ id=some L->id<rows.length
 blk:∀id L,θ id=some L->L.b<w.heap.size
 row:∀id r,rows[id]?=some r->RowRel κ θ id w r
 inj:∀i j r s L L',i≠j->rows[i]?=some r->r.owned=true->rows[j]?=some s->s.live=true->θ i=some L->θ j=some L'->L.b≠L'.b
theorem HRel.read{θ:Th}{rows:List Row}{w:World}(h:HRel κ θ rows w){id:Nat}{vs:List AV}(hr:Ae rows id=some vs){L:Loc}(hL:θ id=some L){j:Nat}{x:AV}(hx:vs[j]?=some x):
  ∃x',w.cell? ⟨L.b,L.d+j,none⟩=some x'/\V θ x x'/\x'.oneCell'=true:=by
 unfold Ae at hr
 split at hr
 ·rename_i vs' e
  injection hr with hr;subst hr
  obtain⟨L',c,T,hL',hb,hc⟩:=h.row id _ e;rw[hL]at hL';injection hL' with hL';subst hL'
  obtain⟨x',hx',hv⟩:=hc.2.2 j x hx;exact⟨x',by simp[World.cell?,hb,hx'],hv⟩
 ·rename_i vs' e
  injection hr with hr;subst hr
  obtain⟨L',hL',hc⟩:=h.row id _ e;rw[hL]at hL';injection hL' with hL';subst hL'
  exact hc j x hx
 ·simp at hr
theorem HRel.readSeg{θ:Th}{rows:List Row}{w:World}(h:HRel κ θ rows w){id:Nat}{vs:List AV}(hr:Ae rows id=some vs){L:Loc}(hL:θ id=some L){off n:Nat}{l:List AV}(hl:seg vs off n=some l):
  ∃l',VL θ l l'/\l'.length=n/\(∀j v,l'[j]?=some v->w.cell? ((⟨L.b,L.d+off,none⟩:Addr).add j)=some v)/\∀v∈l',v.oneCell'=true:=by
 unfold seg at hl
 split at hl
 case isFalse=>simp at hl
 rename_i hle;injection hl with hl;subst hl
 have key:∀j,j<n->∃x',w.cell? ⟨L.b,L.d+(off+j),none⟩=some x'/\V θ (vs.getD (off+j) .any) x'/\x'.oneCell'=true:=fun j hj=>by
  have:off+j<vs.length:=by omega
  obtain⟨x',a,b,o⟩:=h.read hr hL (AcR this);exact⟨x',a,by simpa[List.getD,AcR this]using b,o⟩
 refine⟨(List.range n).map fun j=>(w.cell? ⟨L.b,L.d+(off+j),none⟩).getD undef,⟨by simp;omega,fun i x x' a b=>?_⟩,by simp,fun j v hv=>?_,fun v hv=>?_⟩
 ·have hi:i<n:=by
   have:=(AcF.1 b).1;simpa using this
  obtain⟨y,p,q,_⟩:=key i hi;simp[Ac9,AdL hi,p]at b;subst b;rw[AcZ hi,Adr]at a;simpa[List.getD,a]using q
 ·have hi:j<n:=by
   have:=(AcF.1 hv).1;simpa using this
  obtain⟨y,p,q,_⟩:=key j hi;simp[Ac9,AdL hi,p]at hv;subst hv;rw[show((⟨L.b,L.d+off,none⟩:Addr).add j)=⟨L.b,L.d+(off+j),none⟩from by unfold Addr.add;split<;>simp_all;omega];exact p
 ·obtain⟨j,hj,e⟩:=Ad0.1 hv
  obtain⟨y,p,q,o⟩:=key j (by simpa using hj);rw[p]at e;simp at e;rw[<-e];exact o
theorem XX(θ:Th)(v:Value):V θ (cv1 v) v:=by
 unfold cv1
 split<;>first
  |constructor
  |skip
 ·split
  ·rename_i f fi cs h
   obtain⟨h1,h2⟩:=h;have e1:fi = #[]:=by simpa using h1
   have e2:cs = #[]:=by simpa using h2
   subst e1;subst e2;exact V.func (l':=[]) rfl (fun i x x' h=>by simp at h)
  ·exact .any _
theorem Zm(θ:Th)(v:Value):V θ (cv v) v:=by
 unfold cv
 split
 ·rename_i cs
  have:=V.agg (θ:=θ) (l:=cs.toList.map cv1) (l':=cs.toList) (by simp) (fun i x x' a b=>by
   simp only[Ac9]at a;rw[b]at a;simp at a;subst a
   exact XX θ _)
  simpa using this
 ·split
  ·rename_i vs h
   have e:vs = #[]:=by simpa using h
   subst e;exact V.tup (l':=[]) rfl (fun i x x' h=>by simp at h)
  ·exact .any _
 ·exact XX θ v
section ops
variable {P:Program}{gl:List Nat}{θ:Th}{rows:List Row}{w:World}{sl:List AV}{a:Act}
theorem AD(hg:GRel θ gl)(hs:SRel θ sl a.tmps)(x:Operand):V θ (Ak sl (co gl x)) (a.eval x):=by
 cases x with
 |tmp t=>exact hs.get t
 |const v=>exact Zm θ v
 |func f=>exact V.func (l':=[]) rfl (fun i x x' h=>by simp at h)
 |global g=>
  simp only[co];cases h:gl.idxOf? g with
  |none=>exact .any _
  |some i=>
   have hi:gl[i]?=some g:=by
    have:=List.idxOf?_eq_some_iff.1 h;obtain⟨hlt,e,_⟩:=this;rw[AcR hlt,e]
   obtain⟨L,hL,e1,e2⟩:=hg i g hi;have:=V.ptr (off:=0) hL;rw[e1,e2]at this;exact this
theorem Tq(hg:GRel θ gl)(hs:SRel θ sl a.tmps)(xs:List Operand):VL θ ((xs.map (co gl)).map (Ak sl)) (xs.map a.eval):=by
 induction xs with
 |nil=>exact VL.nil _
 |cons x xs ih=>exact VL.cons (AD hg hs x) ih
theorem Ds{t:TypeId}{b:Bool}(h:L8 P t=some b)(w:World):(isAgg t).run P w = .ok b w:=by
 unfold L8 at h;cases hu:P.underlying t with
 |none=>simp[hu]at h
 |some d=>
  rw[hu]at h;cases d<;>simp at h<;>subst h<;>simp[isAgg,run_underlying hu]
theorem AX{t:TypeId}{n:Nat}(h:szT P t=some n)(w:World):(sizeOf t).run P w = .ok n w:=by
 unfold szT at h;cases hi:P.info? t with
 |none=>simp[hi]at h
 |some i=>simp[hi]at h;subst h;simp[sizeOf,typeInfo,hi]
theorem DR{t:TypeId}{n:Nat}(h:szT P t=some n):∃i,P.info? t=some i/\i.size=n:=by
 unfold szT at h;cases hi:P.info? t with
 |none=>simp[hi]at h
 |some i=>simp[hi]at h;exact⟨i,rfl,h⟩
theorem Bn{t:TypeId}{z:AV}(h:EL P t=some z):∃i v,P.info? t=some i/\i.zero=some v/\z=cv v:=by
 unfold EL at h;cases hi:P.info? t with
 |none=>simp[hi]at h
 |some i=>
  simp[hi]at h;obtain⟨v,hv,e⟩:=h;exact⟨i,v,rfl,hv,e.symm⟩
theorem NK{t:TypeId}{z:AV}(h:EL P t=some z)(w:World):∃v,(zeroValue t).run P w = .ok v w/\V θ z v:=by
 obtain⟨i,v,hi,hv,rfl⟩:=Bn h;exact⟨v,by simp[zeroValue,typeInfo,hi,hv],Zm θ v⟩
theorem V.cells{v:AV}{v':Value}(h:V θ v v')(hne:v.cells.all AV.one=true):VL θ v.cells v'.cells.toList:=by
 have single:∀{x:AV} {x':Value},V θ x x'->VL θ [x] [x']:=fun h=>VL.cons h (VL.nil _)
 cases h<;>first
  |exact single (by constructor<;>assumption)
  |exact single (by constructor)
  |(simp[AV.cells,AV.one]at hne;done)
  |(refine⟨?_,?_⟩<;>simpa[AV.cells,Value.cells]using by assumption)
theorem V.oneCell{v:AV}{v':Value}(h:V θ v v')(h1:v.one=true):v'.oneCell'=true/\v'.cells = #[v']:=by
 cases h<;>first|(simp[AV.one]at h1;done)|exact⟨rfl,rfl⟩
end ops
end Go.Abs
namespace Go.Abs
variable {κ:Fw}
section ops
variable {P:Program}{gl:List Nat}{θ:Th}{rows:List Row}{w:World}{sl:List AV}{a:Act}
def Yld(P:Program)(θ:Th)(w:World)(a:Act)(o:Oper)(v:AV):Prop:=∃v',(execOp a.eval o).run P w = .ok (.value v') w/\V θ v v'
theorem Br(b d n:Nat):(⟨b,d,none⟩:Addr).add n=⟨b,d+n,none⟩:=by unfold Addr.add;split<;>simp_all
theorem IZ(hr:HRel κ θ rows w){t:TypeId}{x:AV}{x':Value}(hx:V θ x x')(hag:L8 P t=some false){id off:Nat}(he:x = .ptr id off){vs:List AV}(hrow:Ae rows id=some vs){v:AV}(hv:vs[off]?=some v):
  ∃v',(Instr.loadAt t x').run P w = .ok v' w/\V θ v v':=by
 subst he;cases hx with
 |ptr hL=>
  obtain⟨v',hc,hV,_⟩:=hr.read hrow hL hv;exact⟨v',by simp[Instr.loadAt,Instr.sureAddr,loadVar,Ds hag,hc],hV⟩
theorem IV(hr:HRel κ θ rows w){t:TypeId}{x:AV}{x':Value}(hx:V θ x x')(hag:L8 P t=some true){n:Nat}(hn:szT P t=some n){id off:Nat}(he:x = .ptr id off){vs:List AV}(hrow:Ae rows id=some vs){l:List AV}(hl:seg vs off n=some l):
  ∃v',(Instr.loadAt t x').run P w = .ok v' w/\V θ (.agg l) v':=by
 subst he;cases hx with
 |ptr hL=>
  obtain⟨l',hV,hlen,hc,_⟩:=hr.readSeg hrow hL hl;have:=run_loadCells_list (P:=P) w _ l' hc;rw[hlen]at this;exact⟨.agg l'.toArray,by simp[Instr.loadAt,Instr.sureAddr,loadVar,Ds hag,AX hn,this],.agg hV.1 hV.2⟩
theorem FQ{i:Int}{len j:Nat}(h:AI i len=some j):0<=i/\i<len/\i.toNat=j:=by
 unfold AI at h
 split at h
 ·rename_i hh
  injection h with h
  exact⟨hh.1,hh.2,h⟩
 ·simp at h
theorem MV{op:BinOp}{k:IntKind}{m n:Int}{v:AV}(h:Jx op k m n=some v)(hsh:Bo op=false){t:TypeId}(w:World):
  ∃v',(binOp op t (.int k m) (.int k n)).run P w = .ok v' w/\V θ v v':=by
 cases op<;>simp only[Jx,reduceCtorEq]at h
 case quo|rem=>
  split at h
  ·simp at h
  ·rename_i h0
   injection h with h;subst h
   exact⟨_,by simp only[binOp,ne_eq,not_true_eq_false,↓reduceIte,Op.intDiv,if_neg h0];rfl,.int _ _⟩
 case eql|neq|lss|leq|gtr|geq=>injection h with h;subst h;exact⟨_,by simp only[binOp,ne_eq,not_true_eq_false,↓reduceIte];rfl,.bool _⟩
 all_goals (injection h with h;subst h;exact⟨_,by simp only[binOp,ne_eq,not_true_eq_false,↓reduceIte];rfl,.int _ _⟩)
theorem IP{op:BinOp}{k k':IntKind}{m n:Int}{v:AV}(h:Ll op k m n=some v){t:TypeId}(w:World):
  ∃v',(binOp op t (.int k m) (.int k' n)).run P w = .ok v' w/\V θ v v':=by
 unfold Ll at h
 split at h
 ·simp at h
 ·rename_i h0
  cases op<;>simp at h
  ·subst h;refine⟨_,by simp[binOp,Op.shift,h0];rfl,?_⟩;exact .int _ _
  ·subst h;refine⟨_,by simp[binOp,Op.shift,h0];rfl,?_⟩;exact .int _ _
theorem MF{op:BinOp}{x y v:AV}(h:Cy op x y=some v){x' y':Value}(hx:V θ x x')(hy:V θ y y'){t:TypeId}(w:World):
  ∃v',(binOp op t x' y').run P w = .ok v' w/\V θ v v':=by
 unfold Cy at h
 split at h
 ·rename_i k m k' n
  cases hx;cases hy
  split at h
  ·exact IP h w
  ·rename_i hsh
   split at h
   ·rename_i hk
    subst hk;exact MV h (by simpa using hsh) w
   ·simp at h
 ·simp at h
theorem Jf(op:BinOp)(t:TypeId)(x y:Operand)(k k':IntKind)(m n:Int)(w:World):(eqGuard op t x y (.int k m) (.int k' n)).run P w = .ok () w:=by
 cases op<;>simp[eqGuard]
theorem UG{op:BinOp}{t ty:TypeId}{x y:Operand}(hg:GRel θ gl)(hs:SRel θ sl a.tmps){v:AV}(he:Cy op (Ak sl (co gl x)) (Ak sl (co gl y))=some v):
  ∃v',(do eqGuard op t x y (a.eval x) (a.eval y);binOp op t (a.eval x) (a.eval y):Sem Value).run P w = .ok v' w/\V θ v v':=by
 have hx:=AD hg hs x;have hy:=AD hg hs y;obtain⟨v',hv,hV⟩:=MF (P:=P) (t:=t) he hx hy w;refine⟨v',?_,hV⟩;unfold Cy at he
 split at he
 ·rename_i k m k' n e1 e2
  rw[e1]at hx;rw[e2]at hy;generalize a.eval x=x' at *;generalize a.eval y=y' at *;cases hx;cases hy;simp[Jf,hv]
 ·simp at he
theorem Dm{α β:Type}{s:Sem α}{f:α->Sem β}{w w':World}{x:α}(h:s.run P w = .ok x w'):(s >>= f).run P w=(f x).run P w':=by
 rw[Sem.run_bind,h];rfl
theorem Nt{op:UnOp}{x v:AV}(h:unA op x=some v){x':Value}(hx:V θ x x')(w:World):
  ∃v',(Op.unary op x').run P w = .ok v' w/\V θ v v':=by
 unfold unA at h
 split at h
 ·cases hx
  cases op<;>simp only[reduceCtorEq]at h;injection h with h;subst h;exact⟨_,rfl,.bool _⟩
 ·cases hx
  cases op<;>simp only[reduceCtorEq]at h;injection h with h;subst h;exact⟨_,rfl,.int _ _⟩
 ·simp at h
theorem EF:∀(xs:List AV) (x:AV) (v:AV) (xs':List Value) (x':Value),C0 mxA x xs=some v->VL θ xs xs'->V θ x x'->
  ∃v',(xs'.foldlM Builtin.max2 x').run P w = .ok v' w/\V θ v v'
 |
  [],x,v,xs',x',h,hl,hx=>by
  have:xs'=[]:=by have:=hl.1;simp at this;exact AdC.1 this.symm
  subst this;simp[C0]at h;subst h;exact⟨x',rfl,hx⟩
 |
  y::ys,x,v,xs',x',h,hl,hx=>by
  obtain⟨y',r',rfl,hy,hr⟩:=hl.of_cons;simp only[C0]at h
  split at h
  ·rename_i b hb
   unfold mxA at hb
   split at hb
   ·split at hb
    ·rename_i hk
     subst hk;cases hx;cases hy;injection hb with hb;subst hb
     obtain⟨v',hv,hV⟩:=EF ys _ v r' _ h hr (.int _ _);exact⟨v',by rw[List.foldlM_cons];simpa[Builtin.max2]using hv,hV⟩
    ·simp at hb
   ·simp at hb
  ·simp at h
theorem Ew:∀(xs:List AV) (x:AV) (v:AV) (xs':List Value) (x':Value),C0 mnA x xs=some v->VL θ xs xs'->V θ x x'->
  ∃v',(xs'.foldlM Builtin.min2 x').run P w = .ok v' w/\V θ v v'
 |
  [],x,v,xs',x',h,hl,hx=>by
  have:xs'=[]:=by have:=hl.1;simp at this;exact AdC.1 this.symm
  subst this;simp[C0]at h;subst h;exact⟨x',rfl,hx⟩
 |
  y::ys,x,v,xs',x',h,hl,hx=>by
  obtain⟨y',r',rfl,hy,hr⟩:=hl.of_cons;simp only[C0]at h
  split at h
  ·rename_i b hb
   unfold mnA at hb
   split at hb
   ·split at hb
    ·rename_i hk
     subst hk;cases hx;cases hy;injection hb with hb;subst hb
     obtain⟨v',hv,hV⟩:=Ew ys _ v r' _ h hr (.int _ _);exact⟨v',by rw[List.foldlM_cons];simpa[Builtin.min2]using hv,hV⟩
    ·simp at hb
   ·simp at hb
  ·simp at h
end ops
end Go.Abs
namespace Go.Abs
variable {κ:Fw}
section ops
variable {P:Program}{gl:List Nat}{θ:Th}{rows:List Row}{w:World}{sl:List AV}{a:Act}
theorem BU{t:TypeId}{k:IntKind}(hu:P.underlying t=some (.int k))(xs:Array Value)(off:Nat)(x:Value)(hx:xs[off]?=some x)(w:World):(part t xs off).run P w = .ok x w:=by
 simp[part,isAgg,run_underlying hu,hx]
theorem Cs(d:Nat){t:TypeId}{k:IntKind}(hu:P.underlying t=some (.int k))(j:IntKind)(m n:Int)(w:World):
  (Op.equalIn (d+1) t (.int j m) (.int j n)).run P w = .ok (m==n) w:=by
 simp[Op.equalIn,run_underlying hu]
theorem Ch{x y:AV}{xs ys:List AV}{r:Bool}(h:Aq (x::xs) (y::ys)=some r):∃k m n r',x = .int k m/\y = .int k n/\Aq xs ys=some r'/\r=(m==n&&r'):=by
 cases x<;>cases y<;>simp only[Aq,reduceCtorEq]at h;rename_i k m k' n
 split at h
 ·rename_i hk
  subst hk;cases h':Aq xs ys with
  |none=>rw[h']at h;simp at h
  |some r'=>
   rw[h']at h;simp only[AcN,AcI]at h;exact⟨k,m,n,r',rfl,rfl,rfl,h.symm⟩
 ·simp at h
theorem FU{θ:Th}:∀{xs ys:List AV} {r:Bool},Aq xs ys=some r->∀{xs' ys':List Value},VL θ xs xs'->VL θ ys ys'->
  ∀(d:Nat) (e:TypeId) (k:IntKind),P.underlying e=some (.int k)->∀(X Y:Array Value) (s:Nat),(∀j u,xs'[j]?=some u->X[s+j]?=some u)->(∀j u,ys'[j]?=some u->Y[s+j]?=some u)->
  ∀w,(Op.eqItems (d+1) e 1 X Y (List.range' s xs.length)).run P w = .ok r w
 |
  [],[],r,h,xs',ys',hx,hy,d,e,k,hu,X,Y,s,hX,hY,w=>by
  simp[Aq]at h;subst h;simp[Op.eqItems]
 |
  x::xs,y::ys,r,h,xs',ys',hx,hy,d,e,k,hu,X,Y,s,hX,hY,w=>by
  obtain⟨x',u,rfl,hx1,hx2⟩:=hx.of_cons;obtain⟨y',v,rfl,hy1,hy2⟩:=hy.of_cons;obtain⟨k1,m,n,r',rfl,rfl,h',e'⟩:=Ch h;cases hx1;cases hy1;have ih:=FU h' hx2 hy2 d e k hu X Y (s+1) (fun j u hj=>by have:=hX (j+1) u (by simpa using hj);rwa[show s+(j+1)=s+1+j from by omega]at this)
   (fun j u hj=>by have:=hY (j+1) u (by simpa using hj);rwa[show s+(j+1)=s+1+j from by omega]at this) w
  have p1:=BU hu X s (.int k1 m) (by simpa using hX 0 _ rfl) w;have p2:=BU hu Y s (.int k1 n) (by simpa using hY 0 _ rfl) w;simp only[AcU,List.range'_succ,Op.eqItems,Add,Sem.run_bind,p1,p2,Result.andThen_ok,Cs d hu];cases hmn:(m==n)
  ·rw[hmn]at e'
   rw[e'];simp
  ·rw[hmn]at e'
   rw[e'];simpa using ih
 |[],y::ys,r,h,_,_,_,_,_,_,_,_,_,_,_,_,_,_=>by simp[Aq]at h
 |x::xs,[],r,h,_,_,_,_,_,_,_,_,_,_,_,_,_,_=>by simp[Aq]at h
theorem Dv{θ:Th}:∀{xs ys:List AV} {r:Bool},Aq xs ys=some r->∀{xs' ys':List Value},VL θ xs xs'->VL θ ys ys'->
  ∀ (d : Nat) (fs : List Field) (s : Nat), fs.length = xs.length → (∀ j f, fs[j]? = some f → f.name ≠ "_" ∧ f.offset = s + j ∧ ∃ k, P.underlying f.type = some (.int k)) →
  ∀(X Y:Array Value),(∀j u,xs'[j]?=some u->X[s+j]?=some u)->(∀j u,ys'[j]?=some u->Y[s+j]?=some u)->
  ∀w,(Op.eqFields (d+1) X Y fs).run P w = .ok r w
 |
  [],[],r,h,xs',ys',hx,hy,d,fs,s,hl,hf,X,Y,hX,hY,w=>by
  have:fs=[]:=AdC.1 hl;subst this;simp[Aq]at h;subst h;simp[Op.eqFields]
 |x::xs,y::ys,r,h,xs',ys',hx,hy,d,[],s,hl,hf,X,Y,hX,hY,w=>by simp at hl
 |
  x::xs,y::ys,r,h,xs',ys',hx,hy,d,f::fs,s,hl,hf,X,Y,hX,hY,w=>by
  obtain⟨x',u,rfl,hx1,hx2⟩:=hx.of_cons;obtain⟨y',v,rfl,hy1,hy2⟩:=hy.of_cons;obtain⟨k1,m,n,r',rfl,rfl,h',e'⟩:=Ch h;cases hx1;cases hy1;obtain⟨hn,ho,k,hu⟩:=hf 0 f rfl;have ih:=Dv h' hx2 hy2 d fs (s+1) (by simpa using hl) (fun j g hg=>by obtain⟨p,q,r⟩:=hf (j+1) g (by simpa using hg);exact⟨p,by omega,r⟩) X Y
   (fun j u hj=>by have:=hX (j+1) u (by simpa using hj);rwa[show s+(j+1)=s+1+j from by omega]at this)
   (fun j u hj=>by have:=hY (j+1) u (by simpa using hj);rwa[show s+(j+1)=s+1+j from by omega]at this) w
  have p1:=BU hu X f.offset (.int k1 m) (by rw[ho];simpa using hX 0 _ rfl) w;have p2:=BU hu Y f.offset (.int k1 n) (by rw[ho];simpa using hY 0 _ rfl) w;simp only[Op.eqFields,ne_eq,hn,not_false_eq_true,if_true,Sem.run_bind,p1,p2,Result.andThen_ok,Cs d hu];cases hmn:(m==n)
  ·rw[hmn]at e'
   rw[e'];simp
  ·rw[hmn]at e'
   rw[e'];simpa using ih
 |[],y::ys,r,h,_,_,_,_,_,_,_,_,_,_,_,_,_,_=>by simp[Aq]at h
 |x::xs,[],r,h,_,_,_,_,_,_,_,_,_,_,_,_,_,_=>by simp[Aq]at h
theorem DG(d:Nat){t:TypeId}{n:Nat}(h:OI P t=some n){xs ys:List AV}{r:Bool}(he:Aq xs ys=some r)(hlx:xs.length=n){xs' ys':List Value}(hx:VL θ xs xs')(hy:VL θ ys ys')(w:World):
  (Op.equalIn (d+2) t (.agg xs'.toArray) (.agg ys'.toArray)).run P w = .ok r w:=by
 unfold OI at h
 split at h
 ·rename_i m e hu
  split at h
  ·rename_i k hk
   split at h
   ·rename_i hs
    injection h with h
    subst h;obtain⟨i,hi,hsz⟩:=DR hs;rw[run_equalIn_array w (d+1) _ _ hu hi,show P.cellsOf e=1 from by simp[Program.cellsOf,hi,hsz],List.range_eq_range',<-hlx];exact FU he hx hy d e k hk _ _ 0 (fun j u hj=>by simpa using hj) (fun j u hj=>by simpa using hj) w
   ·simp at h
  ·simp at h
 ·rename_i fs hu
  split at h
  ·rename_i hc
   injection h with h
   simp only[Ac3,Bool.not_eq_true',AcT]at hc;obtain⟨hp,hf⟩:=hc;have hfs:P.fieldsOf t=fs:=by simp[Program.fieldsOf,hu]
   rw[run_equalIn_struct w (d+1) t _ _ (by rw[hfs];exact hu) hp,hfs];refine Dv he hx hy d fs.toList 0 (by simp[h,hlx]) (fun j f hj=>?_) _ _ (fun j u hj=>by simpa using hj) (fun j u hj=>by simpa using hj) w;have hz:(f,j)∈fs.toList.zipIdx:=by
    rw[List.mem_zipIdx_iff_getElem?];exact hj
   have:=hf _ hz;simp only[Ac3,bne_iff_ne,ne_eq,beq_iff_eq]at this;obtain⟨⟨h1,h2⟩,h3⟩:=this;refine⟨h1,by omega,?_⟩
   split at h3
   ·rename_i k hk;exact⟨k,hk⟩
   ·simp at h3
  ·simp at h
 ·simp at h
theorem EH:∀(m:Nat) {xs ys:List AV} {r:Bool},Aq xs ys=some r->m<=xs.length->∃r1 r2,Aq (xs.take m) (ys.take m)=some r1/\Aq (xs.drop m) (ys.drop m)=some r2/\r=(r1&&r2)
 |0,xs,ys,r,h,_=>⟨true,r,by simp[Aq],by simpa using h,by simp⟩
 |m+1,[],ys,r,h,hm=>by simp at hm
 |m+1,x::xs,[],r,h,hm=>by simp[Aq]at h
 |
  m+1,x::xs,y::ys,r,h,hm=>by
  obtain⟨k,a,b,r',rfl,rfl,h',e⟩:=Ch h;obtain⟨r1,r2,h1,h2,h3⟩:=EH m h' (by simpa using hm);refine⟨a==b&&r1,r2,?_,by simpa using h2,by rw[e,h3,Bool.and_assoc]⟩;simp[Aq,h1]
theorem GO:∀{xs ys:List AV} {r:Bool},Aq xs ys=some r->xs.length=ys.length
 |[],[],_,_=>rfl
 |
  x::xs,y::ys,r,h=>by
  obtain⟨_,_,_,_,_,_,h',_⟩:=Ch h;simp[GO h']
 |[],y::ys,r,h=>by simp[Aq]at h
 |x::xs,[],r,h=>by simp[Aq]at h
theorem EZ{θ:Th}(d:Nat){e:TypeId}{m:Nat}(h:OI P e=some m)(hs:szT P e=some m)(ha:L8 P e=some true){xs ys:List AV}{xs' ys':List Value}(hx:VL θ xs xs')(hy:VL θ ys ys')(w:World):
  ∀(c s:Nat) {r:Bool},Aq (xs.drop (s*m)) (ys.drop (s*m))=some r->xs.length=(s+c)*m->(Op.eqItems (d+2) e m xs'.toArray ys'.toArray (List.range' s c)).run P w = .ok r w
 |
  0,s,r,he,hl=>by
  have e1:xs.drop (s*m)=[]:=Adv (by rw[hl];simp);have e2:ys.drop (s*m)=[]:=AdC.1 (by rw[<-GO he,e1];rfl);rw[e1,e2]at he;simp[Aq]at he;subst he;simp[Op.eqItems]
 |
  c+1,s,r,he,hl=>by
  have hlm:(s+(c+1))*m=s*m+m+c*m:=by rw[Aex,Aex];omega
  have hsm:(s+1)*m=s*m+m:=AeB s m;obtain⟨r1,r2,h1,h2,h3⟩:=EH m he (by rw[Ad2,hl,hlm];omega);have hv1:=(hx.drop (s*m)).take m;have hv2:=(hy.drop (s*m)).take m;have hln:((xs.drop (s*m)).take m).length=m:=by rw[AdQ,Ad2,hl,hlm];omega
  have q:=DG d h h1 hln hv1 hv2 w;have p1:∀zs:List Value,(part e zs.toArray (s*m)).run P w = .ok (.agg ((zs.drop (s*m)).take m).toArray) w:=fun zs=>by
   simp[part,Ds ha,AX hs,List.extract_toArray,List.extract_eq_take_drop]
  rw[List.drop_drop,List.drop_drop]at h2;have ih:=EZ d h hs ha hx hy w c (s+1) (r:=r2) (by rw[hsm];exact h2) (by rw[hl];congr 1;omega);simp only[List.range'_succ,Op.eqItems,Sem.run_bind,p1,q,Result.andThen_ok];cases r1
  ·rw[h3]
   simp
  ·rw[h3]
   simpa using ih
theorem Eu(d:Nat){t:TypeId}{n:Nat}(h:H9 P t=some n){xs ys:List AV}{r:Bool}(he:Aq xs ys=some r)(hlx:xs.length=n){xs' ys':List Value}(hx:VL θ xs xs')(hy:VL θ ys ys')(w:World):
  (Op.equalIn (d+3) t (.agg xs'.toArray) (.agg ys'.toArray)).run P w = .ok r w:=by
 unfold H9 at h
 split at h
 ·rename_i n' h1
  injection h with h
  subst h;exact DG (d+1) h1 he hlx hx hy w
 ·split at h
  ·rename_i c e hu
   split at h
   ·rename_i m hm
    split at h
    ·rename_i hc
     injection h with h
     subst h;obtain⟨i,hi,hsz⟩:=DR hc.1;rw[run_equalIn_array w (d+2) _ _ hu hi,show P.cellsOf e=m from by simp[Program.cellsOf,hi,hsz],List.range_eq_range'];exact EZ d hm hc.1 hc.2 hx hy w c 0 (by simpa using he) (by simpa using hlx)
    ·simp at h
   ·simp at h
  ·simp at h
theorem MG{t:TypeId}{n:Nat}(h:H9 P t=some n){xs ys:List AV}{r:Bool}(he:Aq xs ys=some r)(hlx:xs.length=n){xs' ys':List Value}(hx:VL θ xs xs')(hy:VL θ ys ys')(w:World):
  (Op.equal t (.agg xs'.toArray) (.agg ys'.toArray)).run P w = .ok r w:=Eu 9997 h he hlx hx hy w
theorem Oa{t t':TypeId}{ms:_}{i:TypeInfo}{n:Nat}(hu:P.underlying t=some (.interface ms))(hi:P.info? t'=some i)(hc:i.comparable=true)(h:H9 P t'=some n){xs ys:List AV}{r:Bool}(he:Aq xs ys=some r)(hlx:xs.length=n){xs' ys':List Value}(hx:VL θ xs xs')(hy:VL θ ys ys')(w:World):
  (Op.equal t (.iface t' (.agg xs'.toArray)) (.iface t' (.agg ys'.toArray))).run P w = .ok r w:=by
 have:=Eu 9996 h he hlx hx hy w;have step:∀(d:Nat) (a b:Value),(Op.equalIn (d+1) t (.iface t' a) (.iface t' b)).run P w=(Op.equalIn d t' a b).run P w:=by
  intro d a b
  conv=>lhs;unfold Op.equalIn
  simp[run_underlying hu,typeInfo,hi,hc]
 show(Op.equalIn (9999+1) t _ _).run P w=_;rw[step 9999];exact this
theorem Cl(d:Nat){t e:TypeId}(hu:P.underlying t=some (.slice e))(p:Option Addr)(l c:Nat)(w:World):(Op.equalIn (d+1) t (.slice p l c) (.slice none 0 0)).run P w = .ok p.isNone w:=by
 cases p<;>simp[Op.equalIn,run_underlying hu]
theorem DO(d:Nat){t e:TypeId}(hu:P.underlying t=some (.slice e))(p:Option Addr)(l c:Nat)(w:World):(Op.equalIn (d+1) t (.slice none 0 0) (.slice p l c)).run P w = .ok p.isNone w:=by
 simp[Op.equalIn,run_underlying hu]
theorem Fq(d:Nat){t e:TypeId}(hu:P.underlying t=some (.pointer e))(p:Option Addr)(w:World):(Op.equalIn (d+1) t (.pointer p) (.pointer none)).run P w = .ok p.isNone w:=by
 cases p<;>simp[Op.equalIn,run_underlying hu]
theorem IL(d:Nat){t:TypeId}{p r:Array TypeId}{v:Bool}(hu:P.underlying t=some (.func p r v))(fn:Fn)(x y:Array Value)(w:World):(Op.equalIn (d+1) t (.func fn x y) .nilFunc).run P w = .ok false w:=by
 simp[Op.equalIn,run_underlying hu]
theorem IB(d:Nat){t:TypeId}{p r:Array TypeId}{v:Bool}(hu:P.underlying t=some (.func p r v))(w:World):(Op.equalIn (d+1) t .nilFunc .nilFunc).run P w = .ok true w:=by
 simp[Op.equalIn,run_underlying hu]
def AbO(P:Program)(t:TypeId):EqK->Prop
 |.bool=>P.underlying t=some .bool
 |.slice=>∃e,P.underlying t=some (.slice e)
 |.func=>∃p r v,P.underlying t=some (.func p r v)
 |.ptr=>∃e,P.underlying t=some (.pointer e)
 |.ints n=>H9 P t=some n/\P.eqGuardType P.depth t=false
 |.ifc t' n=>(∃ms,P.underlying t=some (.interface ms))/\H9 P t'=some n/\∃i,P.info? t'=some i/\i.comparable=true
theorem NY{t:TypeId}{kd:EqK}(hk:AbO P t kd){x y:AV}{r:Bool}(he:eqA kd x y=some r){x' y':Value}(hx:V θ x x')(hy:V θ y y')(ox oy:Operand)(op:BinOp)(hop:op = .eql\/op = .neq)(w:World):
  (do eqGuard op t ox oy x' y';binOp op t x' y':Sem Value).run P w = .ok (.bool (if op = .neq then !r else r)) w:=by
 have key:(eqGuard op t ox oy x' y').run P w = .ok () w/\(Op.equal t x' y').run P w = .ok r w/\(binOp .eql t x' y'=do pure (.bool (<-Op.equal t x' y')))/\(binOp .neq t x' y'=do pure (.bool (!(<-Op.equal t x' y')))):=by
  unfold eqA at he
  split at he<;>first
   |(simp at he;done)
   |skip
  ·cases hx;cases hy
   injection he with he;subst he
   refine⟨by rcases hop with rfl|rfl<;>simp[eqGuard],run_equal_bool w t _ _ hk,rfl,rfl⟩
  ·split at he
   ·rename_i hl
    cases hx with
    |agg hx1 hx2=>
     cases hy with
     |agg hy1 hy2=>
      refine⟨?_,MG hk.1 he hl.1 ⟨hx1,hx2⟩ ⟨hy1,hy2⟩ w,rfl,rfl⟩;rcases hop with rfl|rfl<;>simp[eqGuard,hk.2]
   ·simp at he
  ·unfold N5 at he
   split at he
   ·split at he
    ·rename_i hl
     obtain⟨rfl,h2,h3,h4,h5⟩:=hl;subst h2;obtain⟨⟨ms,hu⟩,hin,i,hi,hcm⟩:=hk;cases hx with
     |iface _ hx=>
      cases hy with
      |iface _ hy=>
       cases hx with
       |agg hx1 hx2=>
        cases hy with
        |agg hy1 hy2=>
         exact⟨by rcases hop with rfl|rfl<;>simp[eqGuard],Oa hu hi hcm hin he h4 ⟨hx1,hx2⟩ ⟨hy1,hy2⟩ w,rfl,rfl⟩
      |bound=>omega
     |bound=>omega
    ·simp at he
   ·simp at he
  all_goals (injection he with he;subst he;cases hx<;>cases hy)
  ·obtain⟨e,hu⟩:=hk
   exact⟨by rcases hop with rfl|rfl<;>simp[eqGuard],Cl 9999 hu _ _ _ w,rfl,rfl⟩
  ·obtain⟨e,hu⟩:=hk
   exact⟨by rcases hop with rfl|rfl<;>simp[eqGuard],Cl 9999 hu _ _ _ w,rfl,rfl⟩
  ·obtain⟨e,hu⟩:=hk
   exact⟨by rcases hop with rfl|rfl<;>simp[eqGuard],Cl 9999 hu _ _ _ w,rfl,rfl⟩
  ·obtain⟨e,hu⟩:=hk
   exact⟨by rcases hop with rfl|rfl<;>simp[eqGuard],DO 9999 hu _ _ _ w,rfl,rfl⟩
  ·obtain⟨e,hu⟩:=hk
   exact⟨by rcases hop with rfl|rfl<;>simp[eqGuard],DO 9999 hu _ _ _ w,rfl,rfl⟩
  ·obtain⟨p,r,v,hu⟩:=hk
   exact⟨by rcases hop with rfl|rfl<;>simp[eqGuard],IB 9999 hu w,rfl,rfl⟩
  ·obtain⟨p,r,v,hu⟩:=hk
   exact⟨by rcases hop with rfl|rfl<;>simp[eqGuard],IL 9999 hu _ _ _ w,rfl,rfl⟩
  ·obtain⟨e,hu⟩:=hk
   exact⟨by rcases hop with rfl|rfl<;>simp[eqGuard],Fq 9999 hu _ w,rfl,rfl⟩
  ·obtain⟨e,hu⟩:=hk
   exact⟨by rcases hop with rfl|rfl<;>simp[eqGuard],Fq 9999 hu _ w,rfl,rfl⟩
 obtain⟨h1,h2,h3,h4⟩:=key;rw[Dm h1];rcases hop with rfl|rfl
 ·rw[h3,Dm h2];rfl
 ·rw[h4,Dm h2];rfl
end ops
end Go.Abs
namespace Go.Abs
variable {κ:Fw}
section ops
variable {P:Program}{gl:List Nat}{θ:Th}{rows:List Row}{w:World}{sl:List AV}{a:Act}
theorem VL.seg{l:List AV}{l':List Value}(h:VL θ l l'){off n:Nat}{m:List AV}(hm:seg l off n=some m):VL θ m ((l'.drop off).take n):=by
 unfold Abs.seg at hm
 split at hm
 ·injection hm with hm;subst hm
  exact(h.drop off).take n
 ·simp at hm
theorem KS{t:TypeId}{ag:Bool}{n:Nat}(hag:L8 P t=some ag)(hn:szT P t=some n){l:List AV}{l':List Value}(hl:VL θ l l')(off:Nat){v:AV}(he:(if ag then(seg l off n).map .agg else l[off]?)=some v):
  ∃v',(part t l'.toArray off).run P w = .ok v' w/\V θ v v':=by
 cases ag with
 |true=>
  simp only[if_true,AcK]at he;obtain⟨m,hm,rfl⟩:=he;have:=hl.seg hm;refine⟨.agg ((l'.drop off).take n).toArray,?_,.agg this.1 this.2⟩;simp[part,Ds hag,AX hn,List.extract_toArray,List.extract_eq_take_drop]
 |false=>
  simp only[AdF,if_false]at he;obtain⟨v',hv,hV⟩:=hl.get he;exact⟨v',by simp[part,Ds hag,hv],hV⟩
theorem DQ{o:Option AV}{o':Option Value}(ho:∀x,o=some x->∃x',o'=some x'/\V θ x x')(hn:o=none->o'=none){d top n:Nat}(h:Aj o d top=some n){top':Nat}(htop:top<=top')(code:BoundsCode)(w:World):
  (match o' with|some v=>Instr.sliceBound v top' code|none=>pure d).run P w = .ok n w:=by
 cases o with
 |none=>
  rw[hn rfl];simp only[Aj,AcI]at h;simp[h]
 |some x=>
  obtain⟨x',rfl,hx⟩:=ho x rfl;unfold Aj at h
  split at h
  ·simp at *
  ·rename_i k i e
   injection e with e;subst e
   cases hx
   split at h
   ·rename_i hb
    injection h with h
    have:0<=i/\i<=(top':Int):=by omega
    simp[Instr.sliceBound,asIntOf,this,h]
   ·simp at h
  ·simp at h
def VO(θ:Th)(o:Option AV)(o':Option Value):Prop:=(∀x,o=some x->∃x',o'=some x'/\V θ x x')/\(o=none->o'=none)
theorem G5(hg:GRel θ gl)(hs:SRel θ sl a.tmps)(x:Option Operand):VO θ ((x.map (co gl)).map (Ak sl)) (x.map a.eval):=by
 cases x with
 |none=>exact⟨fun x h=>by simp at h,fun _=>rfl⟩
 |some x=>exact⟨fun y h=>by simp at h;subst h;exact⟨_,rfl,AD hg hs x⟩,fun h=>by simp at h⟩
theorem Cc(isS:Bool){lo hi mx:Option AV}{lo' hi' mx':Option Value}(hlo:VO θ lo lo')(hhi:VO θ hi hi')(hmx:VO θ mx mx'){len cap0 len' cap' m h l:Nat}
  (e1:mx.isSome=true->Aj mx cap0 cap0=some m/\cap0<=cap') (e1':mx.isSome=false->m=cap') (e2:∃top,Aj hi len top=some h/\top<=m) (hlen:hi=none->len=len') (e3:Aj lo 0 h=some l) (e4:(mx.isSome&&hi.isNone)=false) (w:World):
  (Instr.sliceBounds isS len' cap' lo' hi' mx').run P w = .ok (l,h,m) w:=by
 obtain⟨top,e2,htop⟩:=e2;have r3:=DQ (P:=P) hlo.1 hlo.2 e3 (AcE _) (if mx'.isSome then BoundsCode.slice3C else .sliceB) w;cases mx with
 |none=>
  have hmx0:=hmx.2 rfl;subst hmx0;have hm:m=cap':=e1' rfl;subst hm;cases hi with
  |none=>
   have hhi0:=hhi.2 rfl;subst hhi0;simp only[Aj,AcI]at e2;have hl:=hlen rfl;subst hl;subst e2;simp only[Instr.sliceBounds,Sem.run_bind,Sem.run_pure,Result.andThen_ok];cases lo with
   |none=>
    have hlo0:=hlo.2 rfl;subst hlo0;simp only[Aj,AcI]at e3;subst e3;simp
   |some u=>
    obtain⟨u',rfl,hu⟩:=hlo.1 u rfl;simp only at r3;simp only[Sem.run_bind];rw[r3]
    rfl
  |some y=>
   obtain⟨y',rfl,hy⟩:=hhi.1 y rfl;have r2:=DQ (P:=P) hhi.1 hhi.2 e2 htop (if isS then .sliceAcap else .sliceAlen) w;simp only at r2;simp only[Instr.sliceBounds,Sem.run_bind,Sem.run_pure,Result.andThen_ok];rw[r2];simp only[Result.andThen_ok];cases lo with
   |none=>
    have hlo0:=hlo.2 rfl;subst hlo0;simp only[Aj,AcI]at e3;subst e3;simp
   |some u=>
    obtain⟨u',rfl,hu⟩:=hlo.1 u rfl;simp only at r3;simp only[Sem.run_bind];rw[r3]
    rfl
 |some z=>
  obtain⟨z',rfl,hz⟩:=hmx.1 z rfl;obtain⟨e1,hcap⟩:=e1 rfl;have r1:=DQ (P:=P) hmx.1 hmx.2 e1 hcap (if isS then .slice3Acap else .slice3Alen) w;simp only at r1;cases hi with
  |none=>simp at e4
  |some y=>
   obtain⟨y',rfl,hy⟩:=hhi.1 y rfl;have r2:=DQ (P:=P) hhi.1 hhi.2 e2 htop .slice3B w;simp only at r2;simp only[Instr.sliceBounds,Sem.run_bind];rw[r1];simp only[Result.andThen_ok];rw[r2];simp only[Result.andThen_ok];cases lo with
   |none=>
    have hlo0:=hlo.2 rfl;subst hlo0;simp only[Aj,AcI]at e3;subst e3;simp
   |some u=>
    obtain⟨u',rfl,hu⟩:=hlo.1 u rfl;simp only at r3;simp only[Sem.run_bind];rw[r3]
    rfl
theorem A0{o:Option AV}{d top n:Nat}(h:Aj o d top=some n)(hd:d<=top):n<=top:=by
 unfold Aj at h
 split at h
 ·injection h with h;omega
 ·split at h
  ·rename_i hb;injection h with h;omega
  ·simp at h
 ·simp at h
theorem IW{t e:TypeId}{sz:Nat}(hu:P.underlying t=some (.slice e))(hsz:szT P e=some sz){x v:AV}{lo hi mx:Option AV}(he:A8 sz x lo hi mx=some v)
  {x':Value} (hx:V θ x x') {lo' hi' mx':Option Value} (hlo:VO θ lo lo') (hhi:VO θ hi hi') (hmx:VO θ mx mx') (w:World):
  ∃v',(Instr.slice t x' lo' hi' mx').run P w = .ok v' w/\V θ v v':=by
 unfold A8 at he
 split at he
 ·rename_i id off len c
  cases hx with
  |sliceAt hL ho hlc=>
  rename_i L o
  split at he
  ·simp at he
  rename_i m hm
  split at he
  ·simp at he
  rename_i h hh
  split at he
  ·simp at he
  rename_i l hl
  split at he
  ·simp at he
  rename_i hc;injection he with he
  subst he;have hmc:m<=c:=A0 hm (AcE _);have r:=Cc (P:=P) true hlo hhi hmx (cap':=c) (len':=len) (fun _=>⟨hm,AcE _⟩) (fun e=>by cases mx<;>simp[Aj]at hm e;exact hm.symm) ⟨m,hh,AcE _⟩ (fun _=>rfl) hl (by cases hi<;>simp at hc ⊢<;>simp[hc]) w;refine⟨_,by simp[Instr.slice,run_underlying hu,r,AX hsz];rfl,?_⟩
  by_cases hml:m=l
  ·simp only[hml,if_true]
   exact .sliceAt hL (fun h=>by omega) (by
    have:h<=m:=by
     cases hi with
     |none=>simp only[Aj,AcI]at hh;cases mx with|none=>simp only[Aj,AcI]at hm;omega|some z=>simp at hc
     |some y=>exact(by unfold Aj at hh;split at hh<;>first|(simp at *;done)|(split at hh<;>simp at hh;omega))
    omega)
  ·simp only[hml,if_false,Br]
   have hlh:l<=h:=A0 hl (AcX _);have:h<=m:=by
    cases hi with
    |none=>simp only[Aj,AcI]at hh;cases mx with|none=>simp only[Aj,AcI]at hm;omega|some z=>simp at hc
    |some y=>exact(by unfold Aj at hh;split at hh<;>first|(simp at *;done)|(split at hh<;>simp at hh;omega))
   exact .sliceAt hL (fun h=>by have:=ho (by omega);omega) (by omega)
 ·rename_i id off len sz'
  cases hx with
  |sliceOp hL ho hto hlc=>
  rename_i c o L
  split at he
  ·split at he
   ·simp at he
   rename_i h hh
   split at he
   ·simp at he
   rename_i l hl
   split at he
   case isFalse=>simp at he
   rename_i hs;injection he with he
   subst he;subst hs;have r:=Cc (P:=P) true hlo hhi hmx (cap0:=0) (cap':=c) (len':=len) (m:=c) (fun e=>by simp at e) (fun _=>rfl) ⟨len,hh,hlc⟩ (fun _=>rfl) hl (by simp) w;have hhl:h<=len:=A0 hh (AcE _);have hlh:l<=h:=A0 hl (AcX _);refine⟨_,by simp[Instr.slice,run_underlying hu,r,AX hsz];rfl,?_⟩
   by_cases hcl:c=l
   ·simp only[hcl,if_true]
    exact .sliceOp hL (fun h=>by omega) (by simp;omega) (by omega)
   ·simp only[hcl,if_false,Br]
    refine .sliceOp hL (fun h=>by have:=ho (by omega);omega) ?_ (by omega);have:l*sz'+(c-l)*sz'=c*sz':=by rw[<-Nat.add_mul];congr 1;omega
    omega
  ·rename_i z
   split at he
   ·simp at he
   rename_i m hm
   split at he
   ·simp at he
   rename_i h hh
   split at he
   ·simp at he
   rename_i l hl
   split at he
   ·simp at he
   rename_i hc
   split at he
   case isFalse=>simp at he
   rename_i hs;injection he with he
   subst he;subst hs;have hmc:m<=len:=A0 hm (AcE _);have r:=Cc (P:=P) true hlo hhi hmx (cap0:=len) (cap':=c) (len':=len) (fun _=>⟨hm,hlc⟩) (fun e=>by simp at e) ⟨m,hh,AcE _⟩ (fun _=>rfl) hl (by cases hi<;>simp at hc ⊢) w;have hlh:l<=h:=A0 hl (AcX _);have hhm:h<=m:=by
    cases hi with
    |none=>simp at hc
    |some y=>exact(by unfold Aj at hh;split at hh<;>first|(simp at *;done)|(split at hh<;>simp at hh;omega))
   refine⟨_,by simp[Instr.slice,run_underlying hu,r,AX hsz];rfl,?_⟩
   by_cases hml:m=l
   ·simp only[hml,if_true]
    exact .sliceAt hL (fun h=>by omega) (by omega)
   ·simp only[hml,if_false,Br]
    exact .sliceAt hL (fun h=>by have:=ho (by omega);omega) (by omega)
 ·cases hx
  split at he
  case h_2=>simp at he
  rename_i m h l hm hh hl
  split at he
  ·simp at he
  rename_i hc;injection he with he
  subst he;have hm0:m=0:=by have:=A0 hm (AcE _);omega
  have hh0:h=0:=by have:=A0 hh (AcE _);omega
  have hl0:l=0:=by have:=A0 hl (AcE _);omega
  subst hm0;subst hh0;subst hl0;have r:=Cc (P:=P) true hlo hhi hmx (len:=0) (cap0:=0) (cap':=0) (len':=0) (m:=0) (fun _=>⟨hm,AcE _⟩) (fun e=>rfl) ⟨0,hh,AcE _⟩ (fun _=>rfl) hl (by cases hi<;>simp at hc ⊢<;>simp[hc]) w;exact⟨_,by simp[Instr.slice,run_underlying hu,r,AX hsz],.nilslice⟩
 ·simp at he
theorem Hy{t e:TypeId}{n sz:Nat}(hu:P.underlying t=some (.array n e))(hsz:szT P e=some sz){x v:AV}{lo hi mx:Option AV}(he:BR n sz x lo hi mx=some v)
  {x':Value} (hx:V θ x x') {lo' hi' mx':Option Value} (hlo:VO θ lo lo') (hhi:VO θ hi hi') (hmx:VO θ mx mx') (w:World):
  ∃v',(Instr.sliceAt t x' lo' hi' mx').run P w = .ok v' w/\V θ v v':=by
 unfold BR at he
 split at he
 case h_2=>simp at he
 rename_i id off;cases hx with
 |ptr hL=>
 rename_i L;unfold A8 at he;simp only at he
 split at he
 ·simp at he
 rename_i m hm
 split at he
 ·simp at he
 rename_i h hh
 split at he
 ·simp at he
 rename_i l hl
 split at he
 ·simp at he
 rename_i hc;injection he with he
 subst he;have hmc:m<=n:=A0 hm (AcE _);have hlh:l<=h:=A0 hl (AcX _);have hhm:h<=m:=by
  cases hi with
  |none=>simp only[Aj,AcI]at hh;cases mx with|none=>simp only[Aj,AcI]at hm;omega|some z=>simp at hc
  |some y=>exact(by unfold Aj at hh;split at hh<;>first|(simp at *;done)|(split at hh<;>simp at hh;omega))
 have r:=Cc (P:=P) false hlo hhi hmx (cap':=n) (len':=n) (fun _=>⟨hm,AcE _⟩) (fun e=>by cases mx<;>simp[Aj]at hm e;exact hm.symm) ⟨m,hh,AcE _⟩ (fun _=>rfl) hl (by cases hi<;>simp at hc ⊢<;>simp[hc]) w;refine⟨_,by simp[Instr.sliceAt,Instr.sureAddr,run_underlying hu,r,AX hsz];rfl,?_⟩
 by_cases hml:m=l
 ·simp only[hml,if_true]
  exact .sliceAt hL (fun h=>by omega) (by omega)
 ·simp only[hml,if_false,Br]
  exact .sliceAt hL (fun h=>by omega) (by omega)
end ops
end Go.Abs
namespace Go.Abs
variable {κ:Fw}
section ops
variable {P:Program}{gl:List Nat}{θ:Th}{rows:List Row}{w:World}{sl:List AV}{a:Act}
theorem Cu(off:Nat):∀(l:List Value) (k:Nat) (cells:Array Value),off+k+l.length<=cells.size->
  (l.zipIdx k).foldl (fun(cs:Array Value) (p:Value×Nat)=>cs.setIfInBounds (off+p.2) p.1) cells=(cells.toList.take (off+k)++l++cells.toList.drop (off+k+l.length)).toArray
 |[],k,cells,h=>by simp
 |
  c::l,k,cells,h=>by
  simp only[AcU]at h;have hk:off+k<cells.size:=by omega
  rw[List.zipIdx_cons,Aek,Cu off l (k+1) _ (by simp;omega)];congr 1;have hk':off+k<cells.toList.length:=by simpa using hk
  rw[Array.toList_setIfInBounds,<-Nat.add_assoc,List.take_add_one,AcM hk',List.take_set_of_le (AcE _),List.drop_set_of_lt (by omega)];simp only[Option.toList_some,AcU,AcL,List.singleton_append,Aee,AdI];congr 4;omega
theorem Kr(v cells:Array Value)(off:Nat)(h:off+v.size<=cells.size):
  v.zipIdx.foldl (fun cs (c,j)=>cs.setIfInBounds (off+j) c) cells=(cells.toList.take off++v.toList++cells.toList.drop (off+v.size)).toArray:=by
 have:=Cu off v.toList 0 cells (by simpa using h);simp only[Aeq,Array.length_toList]at this;rw[<-this,<-Array.foldl_toList,Array.toList_zipIdx]
theorem VL.splice{vs l:List AV}{vs' l':List Value}(h:VL θ vs vs')(hl:VL θ l l')(off:Nat):VL θ (splice vs off l) (vs'.take off++l'++vs'.drop (off+l'.length)):=by
 have:=((h.take off).append hl).append (h.drop (off+l.length));rw[hl.1]at this;unfold Abs.splice;rw[hl.1];exact this
def PL(gl:List Nat)(place:Nat->Option (Nat×Nat)):List (Nat×Nat×Opd)->List (Nat×Operand)->Prop
 |[],[]=>True
 |p::ps,q::qs=>place q.1=some (p.1,p.2.1)/\p.2.2=co gl q.2/\PL gl place ps qs
 |_,_=>False
theorem Ci(hg:GRel θ gl)(hs:SRel θ sl a.tmps)(place:Nat->Option (Nat×Nat)):∀(ps:List (Nat×Nat×Opd)) (qs:List (Nat×Operand)) (zs cs:List AV) (zs':Array Value),PL gl place ps qs->
  Ap (Ak sl) ps zs=some cs->VL θ zs zs'.toList->∃cs',Instr.fill place zs' (qs.map fun(i,x)=>(i,a.eval x))=some cs'/\VL θ cs cs'.toList
 |
  [],[],zs,cs,zs',hp,hf,hz=>by
  simp only[Ap,AcI]at hf;subst hf;exact⟨zs',rfl,hz⟩
 |
  p::ps,q::qs,zs,cs,zs',hp,hf,hz=>by
  obtain⟨off,size,x⟩:=p;obtain⟨i,y⟩:=q;obtain⟨h1,h2,h3⟩:=hp;simp only at h1 h2;subst h2;simp only[Ap]at hf
  split at hf
  case isFalse=>simp at hf
  rename_i hc;obtain⟨c1,c2,c3⟩:=hc;have hv:=V.cells (AD hg hs y) c3;have hsz:(a.eval y).cells.size=size:=by have:=hv.1;simp at this;omega
  have hzs:zs'.size=zs.length:=by have:=hz.1;simp at this;omega
  have hle:off+(a.eval y).cells.size<=zs'.size:=by omega
  obtain⟨cs',e1,e2⟩:=Ci hg hs place ps qs _ cs ((zs'.toList.take off++(a.eval y).cells.toList++zs'.toList.drop (off+(a.eval y).cells.size)).toArray) h3 hf (by
   have:=hz.splice hv off
   simpa using this)
  refine⟨cs',?_,e2⟩;simp only[AcY,Instr.fill,h1];rw[if_neg (by simp[hsz];omega),Kr _ _ _ hle];exact e1
 |[],q::qs,zs,cs,zs',hp,hf,hz=>hp.elim
 |p::ps,[],zs,cs,zs',hp,hf,hz=>hp.elim
theorem GW(pl:List (Nat×Nat)):∀(qs:List (Nat×Operand)) (ps:List (Nat×Nat×Opd)),D9 gl pl qs=some ps->PL gl (pl.toArray[·]?) ps qs
 |[],ps,h=>by simp only[D9,AcI]at h;subst h;exact trivial
 |
  (i,x)::qs,ps,h=>by
  simp only[D9]at h
  split at h
  ·rename_i p l e1 e2
   injection h with h
   subst h;exact⟨by simpa using e1,rfl,GW pl qs l e2⟩
  ·simp at h
theorem En(n:Nat):∀(qs:List (Nat×Operand)),PL gl (fun i=>some (i*n,n)) (FD gl n qs) qs
 |[]=>trivial
 |(i,x)::qs=>⟨rfl,rfl,En n qs⟩
theorem DL(v:Value)(h:(cv v).cells.all AV.one=true):VL θ (cv v).cells v.cells.toList:=V.cells (Zm θ v) h
theorem Je{t:TypeId}{ps:Array (Nat×Operand)}{z:AV}(hz:EL P t=some z)(hg:GRel θ gl)(hs:SRel θ sl a.tmps)(hzo:z.cells.all AV.one=true){io:List (Nat×Nat×Opd)}{cs:List AV}(he:Ap (Ak sl) io z.cells=some cs)
  (hk:(∃fs pl,P.underlying t=some (.struct fs)/\OY P fs=some pl/\D9 gl pl ps.toList=some io)\/(∃m e n,P.underlying t=some (.array m e)/\szT P e=some n/\io=FD gl n ps.toList)):
  ∃v',(Instr.build t (ps.map fun(i,x)=>(i,a.eval x))).run P w = .ok v' w/\V θ (.agg cs) v':=by
 obtain⟨i,v,hi,hv,rfl⟩:=Bn hz;have hcells:=DL (θ:=θ) v hzo;rcases hk with ⟨fs,pl,hu,hp,hc⟩|⟨m,e,n,hu,hn,rfl⟩
 ·obtain⟨cs',e1,e2⟩:=Ci hg hs _ io ps.toList _ cs v.cells (GW pl _ _ hc) he hcells
  refine⟨.agg cs',?_,?_⟩
  ·have hpl:=run_places (P:=P) w fs.toList pl hp
   simp[Instr.build,run_underlying hu,typeInfo,zeroValue,hi,hv,Array.mapM_eq_mapM_toList,hpl];simp at e1;rw[e1]
   rfl
  ·have:=V.agg (θ:=θ) e2.1 e2.2
   simpa using this
 ·obtain⟨cs',e1,e2⟩:=Ci hg hs _ _ ps.toList _ cs v.cells (En n _) he hcells
  refine⟨.agg cs',?_,?_⟩
  ·simp[Instr.build,run_underlying hu,typeInfo,zeroValue,hi,hv,AX hn]
   simp at e1;rw[e1]
   rfl
  ·have:=V.agg (θ:=θ) e2.1 e2.2
   simpa using this
end ops
end Go.Abs
namespace Go.Abs
variable {κ:Fw}
section ops
variable {P:Program}{gl:List Nat}{θ:Th}{rows:List Row}{w:World}{sl:List AV}{a:Act}
theorem BD{s:Sem Value}{v':Value}(h:s.run P w = .ok v' w):(do pure (Next.value (<-s)):Sem Next).run P w = .ok (.value v') w:=by
 rw[Sem.run_bind,h];rfl
theorem Js{k q:AV}{b:Bool}(h:Cx k q=some b):∃ik x y,k = .int ik x/\q = .int ik y/\b=(x==y):=by
 unfold Cx at h
 split at h
 ·rename_i k1 x k2 y
  split at h
  ·rename_i hk
   subst hk;injection h with h
   exact⟨_,_,_,rfl,rfl,h.symm⟩
  ·simp at h
 ·simp at h
theorem Do{kt:TypeDesc}{ik:IntKind}(hk:kt = .int ik){k:AV}{k':Value}(hkV:V θ k k'):∀(es:List (AV×AV)) (es':List MapEntry) (i:Nat) (r:Option (Nat×AV)),
  es'.length=es.length->(∀(j:Nat) (e:AV×AV),es[j]?=some e->∃e',es'[j]?=some e'/\V θ e.1 e'.key/\V θ e.2 e'.val)->CC k es i=some r->
  (
   match r with
   |none=>Instr.findNow kt k' es' i=some none
   |some (j,v)=>∃v',Instr.findNow kt k' es' i=some (some (j,v'))/\V θ v v'/\i<=j/\j<i+es.length/\(∃ik n,k' = .int ik n)/\∃e',es'[j-i]?=some e'/\e'.key=k')
 |
  [],es',i,r,hl,hes,h=>by
  have:es'=[]:=AdC.1 hl;subst this;simp only[CC,AcI]at h;subst h
  rfl
 |e::es,[],i,r,hl,hes,h=>by simp at hl
 |
  e::es,e'::es',i,r,hl,hes,h=>by
  obtain⟨e1,h1,h2,h3⟩:=hes 0 e rfl;simp only[List.getElem?_cons_zero,AcI]at h1;subst h1;simp only[CC]at h
  split at h
  ·rename_i hq
   injection h with h
   subst h;obtain⟨k1,x,y,e1,e2,e3⟩:=Js hq;subst e1;rw[e2]at h2;have hkey:e'.key = .int k1 y:=by generalize e'.key=key at *;cases h2;rfl
   cases hkV;refine⟨e'.val,?_,h3,AcE _,by simp,⟨_,_,rfl⟩,e',by simp,by rw[hkey];congr 1;exact(by simpa using e3.symm:x=y).symm⟩;subst hk;simp[Instr.findNow,Instr.sameNow,hkey,<-e3]
  ·rename_i hq
   have ih:=Do hk hkV es es' (i+1) r (by simpa using hl) (fun j f hf=>by simpa using hes (j+1) f (by simpa using hf)) h;obtain⟨k1,x,y,e1,e2,e3⟩:=Js hq;subst e1;rw[e2]at h2;have hkey:e'.key = .int k1 y:=by generalize e'.key=key at *;cases h2;rfl
   cases hkV;have hstep:Instr.findNow kt (.int k1 x) (e'::es') i=Instr.findNow kt (.int k1 x) es' (i+1):=by
    subst hk;simp[Instr.findNow,Instr.sameNow,hkey,<-e3]
   cases r with
   |none=>rw[hstep];exact ih
   |some p=>
    obtain⟨j,v⟩:=p;obtain⟨v',i1,i2,i3,i4,i5,e2,i6,i7⟩:=ih;exact⟨v',by rw[hstep];exact i1,i2,by omega,by simp;omega,i5,e2,by rw[show j-i=(j-(i+1))+1 from by omega];simpa using i6,i7⟩
  ·simp at h
theorem MS{k:AV}{b:Bool}(h:Cx k k=some b):∃ik n,k = .int ik n:=by
 unfold Cx at h
 split at h
 ·exact⟨_,_,rfl⟩
 ·simp at h
theorem RP{t kt e:TypeId}{ik:IntKind}(hu:P.underlying t=some (.map kt e))(hk:P.underlying kt=some (.int ik)){z:AV}(hz:EL P e=some z)(hr:HRel κ θ rows w){ok:Bool}{m k v:AV}{m' k':Value}
  (hm:V θ m m') (hkV:V θ k k') (he:Af rows (fun|.t 0=>m|_=>k) (.look z ok (.t 0) (.t 1))=some v):∃v',(Instr.lookup t m' k' ok).run P w = .ok v' w/\V θ v v':=by
 obtain⟨z',hz1,hz2⟩:=NK (θ:=θ) hz w;have pair:∀{x:AV} {x':Value} (b:Bool),V θ x x'->V θ (if ok then .tup [x,.bool b]else x) (if ok then .tuple #[x',.bool b]else x'):=fun b h=>by
  cases ok
  ·exact h
  ·have:=VL.cons h (VL.cons (V.bool (θ:=θ) b) (VL.nil θ))
   simpa using V.tup this.1 this.2
 simp only[Af]at he
 split at he
 ·rename_i id
  cases hm with
  |map hL=>
  rename_i L
  split at he
  case h_2=>simp at he
  rename_i es hrow;obtain⟨L',es',clock,hL',hb,hsz,hes⟩:=hr.row id _ hrow;rw[hL]at hL';injection hL' with hL';subst hL'
  have key:=fun r hf=>Do (θ:=θ) rfl hkV es es'.toList 0 r (by simpa using hsz) (fun j e h=>by simpa using hes j e h) hf (kt:=.int ik)
  have hchk:(Instr.checkKey es'.isEmpty 10000 kt k').run P w = .ok () w:=by
   have:∀d,(Instr.checkKey es'.isEmpty (d+1) kt k').run P w = .ok () w:=fun d=>by simp[Instr.checkKey,run_underlying hk]
   exact this 9999
  split at he
  ·rename_i j v1 hf
   obtain⟨v',f1,f2,_⟩:=key _ hf;injection he with he
   subst he;refine⟨_,?_,pair true f2⟩;simp[Instr.lookup,run_underlying hu,getObj,Sem.run,hb,hchk,Instr.findKey,run_underlying hk,f1]
  ·rename_i hf
   have f1:=key _ hf;injection he with he
   subst he;refine⟨_,?_,pair false hz2⟩;simp[Instr.lookup,run_underlying hu,getObj,Sem.run,hb,hchk,Instr.findKey,run_underlying hk,f1,hz1]
  ·simp at he
 ·cases hm
  split at he
  ·rename_i b hq
   obtain⟨ik',n,rfl⟩:=MS hq;cases hkV;injection he with he
   subst he;refine⟨_,?_,pair false hz2⟩;have hchk:∀d,(Instr.checkKey true (d+1) kt (.int ik' n)).run P w = .ok () w:=fun d=>by simp[Instr.checkKey,run_underlying hk]
   simp[Instr.lookup,run_underlying hu,hchk 9999,Instr.findKey,run_underlying hk,Instr.findNow,hz1]
  ·simp at he
 ·simp at he
end ops
end Go.Abs
namespace Go.Abs
variable {κ:Fw}
section ops
variable {P:Program}{gl:List Nat}{θ:Th}{rows:List Row}{w:World}{sl:List AV}{a:Act}
theorem FX(hg:GRel θ gl)(hs:SRel θ sl a.tmps)(xs:Array Operand):VL θ ((xs.toList.map (co gl)).map (Ak sl)) (xs.map a.eval).toList:=by
 have:=Tq (a:=a) hg hs xs.toList;simpa using this
theorem Kc{o:Oper}{io:IOp}(hc:cop P gl o=some io){v:AV}(he:Af rows (Ak sl) io=some v)(hr:HRel κ θ rows w)(hg:GRel θ gl)(hs:SRel θ sl a.tmps):
  Yld P θ w a o v:=by
 obtain⟨dst,op,ty,pos,aft,gd⟩:=o;unfold Yld;cases op<;>simp only[cop,reduceCtorEq]at hc
 case move x=>
  injection hc with hc;subst hc
  simp only[Af,AcI]at he;subst he;exact⟨_,rfl,AD hg hs x⟩
 case assign x=>
  injection hc with hc;subst hc
  simp only[Af,AcI]at he;subst he;exact⟨_,rfl,AD hg hs x⟩
 case pick c x y=>
  injection hc with hc;subst hc
  simp only[Af]at he;have hcV:=AD hg hs c
  split at he
  ·rename_i t e
   rw[e]at hcV;injection he with he;subst he
   have:a.eval c = .bool t:=by generalize a.eval c=z at *;cases hcV;rfl
   cases t
   ·exact⟨a.eval y,by simp[execOp,this,asBool],AD hg hs y⟩
   ·exact⟨a.eval x,by simp[execOp,this,asBool],AD hg hs x⟩
  ·simp at he
 case alloc t=>simp only[AcK]at hc;obtain⟨z,_,rfl⟩:=hc;simp[Af]at he
 case box t x=>injection hc with hc;subst hc;simp[Af]at he
 case build t ps=>
  split at hc
  ·rename_i z fs hz hu
   split at hc
   ·rename_i pl hpl
    split at hc
    ·rename_i hzo
     simp only[AcK]at hc;obtain⟨l,hl,rfl⟩:=hc;simp only[Af,AcK]at he;obtain⟨cs,hcs,rfl⟩:=he;obtain⟨v',h1,h2⟩:=Je (P:=P) (w:=w) hz hg hs hzo hcs (.inl ⟨fs,pl,hu,hpl,hl⟩);exact⟨v',BD h1,h2⟩
    ·simp at hc
   ·simp at hc
  ·rename_i z m e hz hu
   split at hc
   ·rename_i n hn
    split at hc
    ·rename_i hzo
     injection hc with hc;subst hc
     simp only[Af,AcK]at he;obtain⟨cs,hcs,rfl⟩:=he;obtain⟨v',h1,h2⟩:=Je (P:=P) (w:=w) hz hg hs hzo hcs (.inr ⟨m,e,n,hu,hn,rfl⟩);exact⟨v',BD h1,h2⟩
    ·simp at hc
   ·simp at hc
  ·simp at hc
 case buildSlice t len ps=>
  split at hc
  ·split at hc
   ·split at hc
    ·injection hc with hc;subst hc;simp[Af]at he
    ·simp at hc
   ·simp at hc
  ·simp at hc
 case load t x=>
  split at hc
  ·rename_i n hag hn
   injection hc with hc;subst hc
   simp only[Af]at he
   split at he
   ·rename_i id off e
    split at he
    ·rename_i vs hrow
     simp only[AcK]at he;obtain⟨l,hl,rfl⟩:=he;obtain⟨v',h1,h2⟩:=IV (P:=P) hr (AD hg hs x) hag hn e hrow hl;exact⟨v',BD h1,h2⟩
    ·simp at he
   ·simp at he
  ·rename_i n hag hn
   injection hc with hc;subst hc
   simp only[Af]at he
   split at he
   ·rename_i id off e
    split at he
    ·rename_i vs hrow
     obtain⟨v',h1,h2⟩:=IZ (P:=P) hr (AD hg hs x) hag e hrow he;exact⟨v',BD h1,h2⟩
    ·simp at he
   ·simp at he
  ·simp at hc
 case store t x y=>
  split at hc
  ·injection hc with hc;subst hc;simp[Af]at he
  ·split at hc
   ·injection hc with hc;subst hc;simp[Af]at he
   ·simp at hc
  ·simp at hc
 case nilCheck x=>
  injection hc with hc;subst hc
  simp only[Af]at he;have hx:=AD hg hs x
  split at he<;>first|(simp at he;done)|skip
  all_goals
   rename_i e;rw[e]at hx;injection he with he;subst he
   refine⟨a.eval x,?_,hx⟩;generalize hq:a.eval x=z at *;cases hx;simp[execOp,hq]
 case binOp op t x y ty2=>
  have hx:=AD hg hs x;have hy:=AD hg hs y;have eqcase:∀(kd:EqK),AbO P t kd->(op = .eql\/op = .neq)->Af rows (Ak sl) (.eqv (op == .neq) kd (co gl x) (co gl y))=some v->∃v',(execOp a.eval ⟨dst,.binOp op t x y ty2,ty,pos,aft,gd⟩).run P w = .ok (.value v') w/\V θ v v':=by
   intro kd hk hop he;simp only[Af,AcK]at he;obtain⟨r,hr1,rfl⟩:=he;have:=NY hk hr1 hx hy x y op hop w;exact⟨_,BD this,by rcases hop with rfl|rfl<;>simpa using V.bool _⟩
  have bincase:Af rows (Ak sl) (.bin op (co gl x) (co gl y))=some v->∃v',(execOp a.eval ⟨dst,.binOp op t x y ty2,ty,pos,aft,gd⟩).run P w = .ok (.value v') w/\V θ v v':=by
   intro he;obtain⟨v',h1,h2⟩:=UG (P:=P) (w:=w) (t:=t) (ty:=ty) hg hs (show Cy op (Ak sl (co gl x)) (Ak sl (co gl y))=some v from he);exact⟨v',BD h1,h2⟩
  split at hc
  ·split at hc<;>first|(simp at hc;done)|skip
   ·injection hc with hc;subst hc;exact bincase he
   ·rename_i hu;injection hc with hc;subst hc;exact eqcase .bool hu (.inl rfl) he
   ·rename_i hu;injection hc with hc;subst hc;exact eqcase .slice ⟨_,hu⟩ (.inl rfl) he
   ·rename_i hu;injection hc with hc;subst hc;exact eqcase .func ⟨_,_,_,hu⟩ (.inl rfl) he
   ·rename_i hu;injection hc with hc;subst hc;exact eqcase .ptr ⟨_,hu⟩ (.inl rfl) he
   ·rename_i ms hu
    split at hc
    case h_2=>simp at hc
    rename_i t' n hif
    split at hc
    case h_2=>simp at hc
    rename_i i hi
    split at hc
    case isFalse=>simp at hc
    rename_i hq;injection hc with hc;subst hc;exact eqcase (.ifc t' n) ⟨⟨_,hu⟩,hq.2,i,hi,hq.1⟩ (.inl rfl) he
   all_goals
    split at hc
    ·rename_i n hn
     split at hc
     ·simp at hc
     ·rename_i hq;injection hc with hc;subst hc;exact eqcase (.ints n) ⟨hn,by simpa using hq⟩ (.inl rfl) he
    ·simp at hc
  ·split at hc<;>first|(simp at hc;done)|skip
   ·injection hc with hc;subst hc;exact bincase he
   ·rename_i hu;injection hc with hc;subst hc;exact eqcase .bool hu (.inr rfl) he
   ·rename_i hu;injection hc with hc;subst hc;exact eqcase .slice ⟨_,hu⟩ (.inr rfl) he
   ·rename_i hu;injection hc with hc;subst hc;exact eqcase .func ⟨_,_,_,hu⟩ (.inr rfl) he
   ·rename_i hu;injection hc with hc;subst hc;exact eqcase .ptr ⟨_,hu⟩ (.inr rfl) he
   ·rename_i ms hu
    split at hc
    case h_2=>simp at hc
    rename_i t' n hif
    split at hc
    case h_2=>simp at hc
    rename_i i hi
    split at hc
    case isFalse=>simp at hc
    rename_i hq;injection hc with hc;subst hc;exact eqcase (.ifc t' n) ⟨⟨_,hu⟩,hq.2,i,hi,hq.1⟩ (.inr rfl) he
   all_goals
    split at hc
    ·rename_i n hn
     split at hc
     ·simp at hc
     ·rename_i hq;injection hc with hc;subst hc;exact eqcase (.ints n) ⟨hn,by simpa using hq⟩ (.inr rfl) he
    ·simp at hc
  ·injection hc with hc;subst hc;exact bincase he
 case unOp op t x=>
  injection hc with hc;subst hc
  obtain⟨v',h1,h2⟩:=Nt (P:=P) (show unA op _=some v from he) (AD hg hs x) w;exact⟨v',BD h1,h2⟩
 case convert s d x=>
  split at hc
  ·rename_i k1 k h1 h2
   injection hc with hc;subst hc
   simp only[Af]at he;have hx:=AD hg hs x
   split at he
   ·rename_i k2 n e
    rw[e]at hx;injection he with he;subst he
    refine⟨.int k (k.wrap n),?_,.int _ _⟩;generalize hq:a.eval x=z at *;cases hx;simp[execOp,convert,run_underlying h1,run_underlying h2,hq,Conv.intToInt]
   ·simp at he
  ·simp at hc
 case makeInterface t x=>
  split at hc
  ·simp at hc
  ·rename_i d hd hu
   split at hc
   case isFalse=>simp at hc
   rename_i hbd;injection hc with hc;subst hc
   simp only[Af,AcI]at he;subst he;refine⟨.iface t (a.eval x),?_,.iface hbd (AD hg hs x)⟩;cases d<;>first|exact(hd _ rfl).elim|simp[execOp,Instr.makeInterface,run_underlying hu]
  ·simp at hc
 case makeFunc fn fi cs=>
  cases fn<;>simp only[reduceCtorEq]at hc;rename_i f
  split at hc
  ·rename_i h0
   injection hc with hc;subst hc
   simp only[Af,AcI]at he;subst he;have hv:=FX (a:=a) hg hs cs;have h0':fi = #[]:=by simpa using h0
   subst h0';refine⟨.func (.func f) #[] (cs.map a.eval),by simp[execOp,Instr.makeFunc],?_⟩;have:=V.func (f:=f) hv.1 hv.2;rw[Array.toArray_toList]at this;exact this
  ·split at hc
   ·rename_i h0
    injection hc with hc;subst hc
    simp only[Af,AcI]at he;subst he;have hv:=FX (a:=a) hg hs fi;have h0':cs = #[]:=by simpa using h0
    subst h0';refine⟨.func (.func f) (fi.map a.eval) #[],by simp[execOp,Instr.makeFunc],?_⟩;have:=V.bound (f:=f) hv.1 hv.2;rw[Array.toArray_toList]at this;exact this
   ·simp at hc
 case makeMap t r=>
  cases r with
  |none=>injection hc with hc;subst hc;simp[Af]at he
  |some r=>simp at hc
 case makeSlice t l c=>
  split at hc
  ·split at hc
   ·split at hc
    ·injection hc with hc;subst hc;simp[Af]at he
    ·simp at hc
   ·simp at hc
  ·simp at hc
 case slice t x lo hi mx=>
  split at hc
  ·rename_i e hu
   simp only[AcK]at hc;obtain⟨n,hn,rfl⟩:=hc;obtain⟨v',h1,h2⟩:=IW (P:=P) hu hn (show A8 n _ _ _ _=some v from he) (AD hg hs x) (G5 hg hs lo) (G5 hg hs hi) (G5 hg hs mx) w;exact⟨v',BD (by simp only[Instr.sliceAt,Sem.run_bind,run_underlying hu,Result.andThen_ok];exact h1),h2⟩
  ·rename_i m e hu
   simp only[AcK]at hc;obtain⟨n,hn,rfl⟩:=hc;obtain⟨v',h1,h2⟩:=Hy (P:=P) hu hn (show BR m n _ _ _ _=some v from he) (AD hg hs x) (G5 hg hs lo) (G5 hg hs hi) (G5 hg hs mx) w;exact⟨v',BD h1,h2⟩
  ·simp at hc
 case fieldAddr t x f=>
  split at hc
  ·rename_i fs hu
   split at hc
   ·rename_i fd hfd
    split at hc
    ·rename_i n hn
     split at hc
     ·simp at hc
     ·rename_i h0
      injection hc with hc;subst hc
      simp only[Af]at he;have hx:=AD hg hs x
      split at he
      ·rename_i id off e
       rw[e]at hx;injection he with he;subst he
       generalize hq:a.eval x=z at *;cases hx with
       |ptr hL=>
       rename_i L;refine⟨.pointer (some ⟨L.b,L.d+(off+fd.offset),none⟩),?_,.ptr hL⟩;have hfd':fs[f]?=some fd:=hfd;simp[execOp,hq,Instr.fieldAt,run_underlying hu,hfd',Instr.sureAddr,fieldPlace,AX hn,h0,Br,Adb]
      ·simp at he
    ·simp at hc
   ·simp at hc
  ·simp at hc
 case field t x f=>
  split at hc
  ·rename_i fs hu
   split at hc
   ·rename_i fd hfd
    have hfd':fs[f]?=some fd:=hfd;have hx:=AD hg hs x;have main:∀(ag:Bool) (n:Nat),L8 P fd.type=some ag->szT P fd.type=some n->∀l,Ak sl (co gl x) = .agg l->(if ag then(seg l fd.offset n).map .agg else l[fd.offset]?)=some v->
      ∃v',(execOp a.eval ⟨dst,.field t x f,ty,pos,aft,gd⟩).run P w = .ok (.value v') w/\V θ v v':=by
     intro ag n h1 h2 l e h3;rw[e]at hx;generalize hq:a.eval x=z at *;cases hx with
     |agg p q=>
     obtain⟨v',r1,r2⟩:=KS (P:=P) (w:=w) h1 h2 ⟨p,q⟩ fd.offset h3;exact⟨v',BD (by simp[hq,Instr.field,run_underlying hu,hfd',asAgg,r1]),r2⟩
    split at hc
    ·rename_i n h1 h2
     injection hc with hc;subst hc
     simp only[Af]at he
     split at he
     ·rename_i l e;exact main true n h1 h2 l e he
     ·simp at he
    ·rename_i n h1 h2
     injection hc with hc;subst hc
     simp only[Af]at he
     split at he
     ·rename_i l e;exact main false n h1 h2 l e he
     ·simp at he
    ·simp at hc
   ·simp at hc
  ·simp at hc
 case indexAddr t x i=>
  have hx:=AD hg hs x;have hi:=AD hg hs i
  split at hc
  ·rename_i len e hu
   simp only[AcK]at hc;obtain⟨n,hn,rfl⟩:=hc;simp only[Af]at he
   split at he
   ·rename_i id off k m e1 e2
    rw[e1]at hx;rw[e2]at hi
    split at he
    ·rename_i j hj
     injection he with he;subst he
     obtain⟨b1,b2,b3⟩:=FQ hj;generalize hq:a.eval x=z at *;generalize hq2:a.eval i=z2 at *;cases hi;cases hx with
     |ptr hL=>
     rename_i L;refine⟨.pointer (some ⟨L.b,L.d+(off+j*n),none⟩),BD ?_,.ptr hL⟩;simp[hq,hq2,Instr.indexAt,asIntOf,run_underlying hu,Instr.sureAddr,b1,b2,AX hn,Br,b3,Adb]
    ·simp at he
   ·simp at he
  ·rename_i e hu
   simp only[AcK]at hc;obtain⟨n,hn,rfl⟩:=hc;simp only[Af]at he
   split at he
   ·rename_i id off len c k m e1 e2
    rw[e1]at hx;rw[e2]at hi
    split at he
    ·rename_i j hj
     injection he with he;subst he
     obtain⟨b1,b2,b3⟩:=FQ hj;generalize hq:a.eval x=z at *;generalize hq2:a.eval i=z2 at *;cases hi;cases hx with
     |sliceAt hL ho hlc=>
      rename_i o L;have:=ho (by omega);subst this;refine⟨.pointer (some ⟨L.b,L.d+(off+j*n),none⟩),BD ?_,.ptr hL⟩;simp[hq,hq2,Instr.indexAt,asIntOf,run_underlying hu,b1,b2,AX hn,Br,b3,Adb]
     |sliceOp hL ho hto hlc=>
      rename_i cc o L;have:=ho (by omega);subst this;refine⟨.pointer (some ⟨L.b,L.d+(off+j*n),none⟩),BD ?_,.ptr hL⟩;simp[hq,hq2,Instr.indexAt,asIntOf,run_underlying hu,b1,b2,AX hn,Br,b3,Adb]
    ·simp at he
   ·simp at he
  ·simp at hc
 case index t x i=>
  have hx:=AD hg hs x;have hi:=AD hg hs i
  split at hc
  ·rename_i len e hu
   split at hc
   ·rename_i ag n h1 h2
    injection hc with hc;subst hc
    simp only[Af]at he
    split at he
    ·rename_i l k m e1 e2
     rw[e1]at hx;rw[e2]at hi
     split at he
     ·rename_i j hj
      obtain⟨b1,b2,b3⟩:=FQ hj;generalize hq:a.eval x=z at *;generalize hq2:a.eval i=z2 at *;cases hi;cases hx with
      |agg p q=>
      obtain⟨v',r1,r2⟩:=KS (P:=P) (w:=w) h1 h2 ⟨p,q⟩ (j*n) he;exact⟨v',BD (by simp[hq,hq2,Instr.index,asIntOf,run_underlying hu,b1,b2,b3,AX h2,r1]),r2⟩
     ·simp at he
    ·simp at he
   ·simp at hc
  ·simp at hc
 case lookup t m k ok=>
  split at hc
  ·rename_i kt e hu
   split at hc
   ·rename_i ik z hk hz
    split at hc
    ·injection hc with hc;subst hc
     have hm:=AD hg hs m;have hkV:=AD hg hs k;obtain⟨v',h1,h2⟩:=RP (P:=P) (v:=v) hu hk hz hr (ok:=ok) hm hkV (by simpa only[Af]using he);exact⟨v',BD h1,h2⟩
    ·simp at hc
   ·simp at hc
  ·simp at hc
 case mapUpdate t m k x=>
  split at hc
  ·split at hc
   ·injection hc with hc;subst hc;simp[Af]at he
   ·simp at hc
  ·simp at hc
 case extract x i=>
  injection hc with hc;subst hc
  simp only[Af]at he;have hx:=AD hg hs x
  split at he
  ·rename_i l e
   rw[e]at hx;generalize hq:a.eval x=z at *;cases hx with
   |tup p q=>
   rename_i l';obtain⟨v',r1,r2⟩:=VL.get ⟨p,q⟩ he;exact⟨v',BD (by simp[hq,Instr.extract,r1]),r2⟩
  ·simp at he
 case call c=>
  obtain⟨callee,args,ats⟩:=c;cases callee with
  |value f=>simp only[AcI]at hc;subst hc;simp[Af]at he
  |invoke r m=>
   simp only at hc
   split at hc<;>first|(simp at hc;done)|(injection hc with hc;subst hc;simp[Af]at he;done)
  |builtin b=>
   cases b<;>simp only[reduceCtorEq]at hc
   case len=>
    split at hc
    ·rename_i t x ht hx0
     have hx:=AD hg hs x
     split at hc
     ·rename_i n e hu
      injection hc with hc;subst hc
      simp only[Af,AcI]at he;subst he;exact⟨_,by simp[execOp,resolve,invoke,builtin,Builtin.len_,ht,hx0,run_underlying hu,goInt],.int _ _⟩
     ·rename_i e hu
      injection hc with hc;subst hc
      simp only[Af]at he
      split at he<;>first|(simp at he;done)|skip
      all_goals (rename_i h0 e1;first|(simp at h0;done)|skip)
      all_goals
       rw[e1]at hx;injection he with he;subst he
       generalize hq:a.eval x=z at *;cases hx<;>exact⟨_,by simp[execOp,resolve,invoke,builtin,Builtin.len_,ht,hx0,hq,run_underlying hu,goInt],.int _ _⟩
     ·rename_i hu
      injection hc with hc;subst hc
      simp only[Af]at he
      split at he<;>first|(simp at he;done)|skip
      all_goals (rename_i h0 e1;first|(simp at h0;done)|skip)
      rw[e1]at hx;injection he with he;subst he
      generalize hq:a.eval x=z at *;cases hx;exact⟨_,by simp[execOp,resolve,invoke,builtin,Builtin.len_,ht,hx0,hq,run_underlying hu,goInt],.int _ _⟩
     ·rename_i kt e hu
      injection hc with hc;subst hc
      simp only[Af]at he
      split at he<;>first|(simp at he;done)|skip
      all_goals (rename_i h0 e1;first|(simp at h0;done)|skip)
      split at he
      case h_2=>simp at he
      rename_i es hrow;rw[e1]at hx;injection he with he;subst he
      generalize hq:a.eval x=z at *;cases hx with
      |map hL=>
      obtain⟨L',es',clock,hL',hb,hsz,hes⟩:=hr.row _ _ hrow;rw[hL]at hL';injection hL' with hL';subst hL'
      refine⟨.int .i64 es'.size,by simp[execOp,resolve,invoke,builtin,Builtin.len_,ht,hx0,hq,run_underlying hu,goInt,getObj,Sem.run,hb],?_⟩;rw[hsz];exact .int _ _
     ·simp at hc
    ·simp at hc
   case cap=>
    split at hc
    ·rename_i t x ht hx0
     have hx:=AD hg hs x
     split at hc
     ·rename_i e hu
      injection hc with hc;subst hc
      simp only[Af]at he
      split at he<;>first|(simp at he;done)|skip
      all_goals
       rename_i e1;rw[e1]at hx;injection he with he;subst he
       generalize hq:a.eval x=z at *;cases hx<;>exact⟨_,by simp[execOp,resolve,invoke,builtin,Builtin.cap_,ht,hx0,hq,run_underlying hu,goInt],.int _ _⟩
     ·simp at hc
    ·simp at hc
   case max=>
    injection hc with hc;subst hc
    simp only[Af]at he;have hv:=FX (a:=a) hg hs args
    split at he
    ·rename_i x r e
     rw[e]at hv;obtain⟨x',r',e',h1,h2⟩:=hv.of_cons;obtain⟨v',k1,k2⟩:=EF (P:=P) (w:=w) r x v r' x' he h2 h1;refine⟨v',?_,k2⟩;have e'':(args.map a.eval).toList=x'::r':=e';simp only[execOp,resolve,invoke,builtin,Sem.run_bind,Sem.run_pure,Result.andThen_ok,Builtin.max_,e'',k1]
    ·simp at he
   case min=>
    injection hc with hc;subst hc
    simp only[Af]at he;have hv:=FX (a:=a) hg hs args
    split at he
    ·rename_i x r e
     rw[e]at hv;obtain⟨x',r',e',h1,h2⟩:=hv.of_cons;obtain⟨v',k1,k2⟩:=Ew (P:=P) (w:=w) r x v r' x' he h2 h1;refine⟨v',?_,k2⟩;have e'':(args.map a.eval).toList=x'::r':=e';simp only[execOp,resolve,invoke,builtin,Sem.run_bind,Sem.run_pure,Result.andThen_ok,Builtin.min_,e'',k1]
    ·simp at he
   case append=>
    split at hc
    ·split at hc
     ·split at hc
      ·simp at hc
      split at hc
      ·split at hc
       ·injection hc with hc;subst hc;simp[Af]at he
       ·simp at hc
      ·simp at hc
     ·split at hc
      ·split at hc
       ·injection hc with hc;subst hc;simp[Af]at he
       ·simp at hc
      ·simp at hc
     ·simp at hc
    ·simp at hc
end ops
end Go.Abs
namespace Go.Abs
variable {κ:Fw}
def Th.add(θ:Th)(id:Nat)(L:Loc):Th:=fun i=>if i=id then some L else θ i
theorem Th.add_self(θ:Th)(id:Nat)(L:Loc):(θ.add id L) id=some L:=by simp[Th.add]
theorem Th.add_ne(θ:Th){id i:Nat}(L:Loc)(h:i≠id):(θ.add id L) i=θ i:=by simp[Th.add,h]
theorem Th.ext_add{θ:Th}{id:Nat}(h:θ id=none)(L:Loc):Ext θ (θ.add id L):=fun i K e=>by
 rw[Th.add_ne];exact e
 rintro rfl
 rw[h]at e;simp at e
theorem CellsRel.mono{θ θ':Th}(h:Ext θ θ'){L:Loc}{vs:List AV}{c:Array Value}(hc:CellsRel θ L vs c):CellsRel θ' L vs c:=
 ⟨hc.1,hc.2.1,fun j x hx=>let ⟨x',a,b,o⟩:=hc.2.2 j x hx;⟨x',a,b.mono h,o⟩⟩
theorem RowRel.mono{θ θ':Th}{id:Nat}{w w':World}{r:Row}(hr:RowRel κ θ id w r)(hE:Ext θ θ')(hb:∀L,θ id=some L->w'.heap[L.b]?=w.heap[L.b]?):RowRel κ θ' id w' r:=by
 cases r with
 |cells vs=>
  obtain⟨L,c,T,h1,h2,h3⟩:=hr;exact⟨L,c,T,hE _ _ h1,by rw[hb L h1];exact h2,h3.mono hE⟩
 |ro vs=>
  obtain⟨L,h1,h2⟩:=hr;refine⟨L,hE _ _ h1,fun j x hx=>?_⟩;obtain⟨x',a,b,o⟩:=h2 j x hx;refine⟨x',?_,b.mono hE,o⟩;have:=hb L h1;simp only[World.cell?]at a ⊢;rw[this];exact a
 |mp es=>
  obtain⟨L,es',cl,h1,h2,h3,h4⟩:=hr;refine⟨L,es',cl,hE _ _ h1,by rw[hb L h1];exact h2,h3,fun i e he=>?_⟩;obtain⟨e',a,b,c⟩:=h4 i e he;exact⟨e',a,b.mono hE,c.mono hE⟩
 |loop st pend sl ps asg body=>
  obtain⟨L,r,h1,h2,h3,h4,h5,h6,h7,h8⟩:=hr;exact⟨L,r,hE _ _ h1,by rw[hb L h1];exact h2,h3,h4,h5.mono hE,h6,h7,h8⟩
 |mark=>exact hr
 |dead=>trivial
theorem RowRel.loc{θ:Th}{id:Nat}{w:World}{r:Row}(hr:RowRel κ θ id w r)(hl:r.live=true):∃L,θ id=some L:=by
 cases r with
 |cells vs=>obtain⟨L,c,T,h1,_⟩:=hr;exact⟨L,h1⟩
 |ro vs=>obtain⟨L,h1,_⟩:=hr;exact⟨L,h1⟩
 |mp es=>obtain⟨L,_,_,h1,_⟩:=hr;exact⟨L,h1⟩
 |loop=>obtain⟨L,_,h1,_⟩:=hr;exact⟨L,h1⟩
 |mark=>exact hr.elim
 |dead=>simp[Row.live]at hl
theorem Row.live_of_owned{r:Row}(h:r.owned=true):r.live=true:=by cases r<;>simp_all[Row.owned,Row.live]
structure Fr(κ:Fw)(θ θ':Th)(rows rows':List Row)(low low':Nat)(w w':World):Prop where
 ext:Ext θ θ'
 rel:HRel κ θ' rows' w'
 len:rows.length<=rows'.length
 low:low'<=low
 os:w'.os=w.os
 tape:w'.tape=w.tape
 output:w'.output=w.output
 size:w.heap.size<=w'.heap.size
 keepA:∀id,id<low'->rows'[id]?=rows[id]?
 keepB:∀b,b<w.heap.size->(∀id r L,rows[id]?=some r->r.owned=true->low'<=id->θ id=some L->L.b≠b)->w'.heap[b]?=w.heap[b]?
 own:∀id r,rows'[id]?=some r->r.owned=true->id<rows.length->∃r0,rows[id]?=some r0/\r0.owned=true
 alive:∀id r,rows'[id]?=some r->r.live=true->id<rows.length->∃r0,rows[id]?=some r0/\r0.live=true
 fresh:∀id L,θ' id=some L->θ id=none->rows.length<=id/\(w.heap.size<=L.b\/∃j r L',rows[j]?=some r/\r.owned=true/\low'<=j/\θ j=some L'/\L'.b=L.b)
theorem Fr.refl{θ:Th}{rows:List Row}{w:World}(h:HRel κ θ rows w)(low:Nat):Fr κ θ θ rows rows low low w w:=
 ⟨Ext.refl _,h,AcE _,AcE _,rfl,rfl,rfl,AcE _,fun _ _=>rfl,fun _ _ _=>rfl,fun id r a b _=>⟨r,a,b⟩,fun id r a b _=>⟨r,a,b⟩,fun id L a b=>by rw[a]at b;simp at b⟩
theorem Fr.trans{θ θ1 θ2:Th}{rows rows1 rows2:List Row}{low low1 low2:Nat}{w w1 w2:World}(hr:HRel κ θ rows w)(h:Fr κ θ θ1 rows rows1 low low1 w w1)(k:Fr κ θ1 θ2 rows1 rows2 low1 low2 w1 w2):
  Fr κ θ θ2 rows rows2 low low2 w w2 where
 ext:=h.ext.trans k.ext
 rel:=k.rel
 len:=AcP h.len k.len
 low:=AcP k.low h.low
 os:=k.os.trans h.os
 tape:=k.tape.trans h.tape
 output:=k.output.trans h.output
 size:=AcP h.size k.size
 keepA:=fun id hi=>(k.keepA id hi).trans (h.keepA id (Adl hi k.low))
 keepB:=fun b hb hn=>by
  have h1:=h.keepB b hb (fun id r L a o c d=>hn id r L a o (AcP k.low c) d);rw[<-h1];refine k.keepB b (Adl hb h.size) (fun id r L a o c d=>?_);cases e:θ id with
  |some L0=>
   have:L0=L:=by have:=h.ext id L0 e;rw[this]at d;injection d
   subst this;obtain⟨r0,p,q⟩:=h.own id r a o (hr.dom id L0 e);exact hn id r0 L0 p q c e
  |none=>
   rcases(h.fresh id L d e).2 with f|⟨j,r',L',p,q,s,t,u⟩
   ·omega
   ·rw[<-u];exact hn j r' L' p q (AcP k.low s) t
 own:=fun id r a o hi=>by
  obtain⟨r1,p,q⟩:=k.own id r a o (Adl hi h.len);exact h.own id r1 p q hi
 alive:=fun id r a o hi=>by
  obtain⟨r1,p,q⟩:=k.alive id r a o (Adl hi h.len);exact h.alive id r1 p q hi
 fresh:=fun id L a e=>by
  cases d:θ1 id with
  |some L1=>
   have:L1=L:=by have:=k.ext id L1 d;rw[this]at a;injection a
   subst this;obtain⟨p,q⟩:=h.fresh id L1 d e;refine⟨p,q.imp (fun x=>x) (fun⟨j,r,L',a,b,c,d⟩=>⟨j,r,L',a,b,AcP k.low c,d⟩)⟩
  |none=>
   obtain⟨p,q⟩:=k.fresh id L a d;refine⟨AcP h.len p,?_⟩;rcases q with q|⟨j,r,L',q1,q2,q3,q4,q5⟩
   ·exact .inl (AcP h.size q)
   ·cases f:θ j with
    |some L0=>
     have:L0=L':=by have:=h.ext j L0 f;rw[this]at q4;injection q4
     subst this;obtain⟨r0,s,t⟩:=h.own j r q1 q2 (hr.dom j L0 f);exact .inr ⟨j,r0,L0,s,t,q3,f,q5⟩
    |none=>
     rcases(h.fresh j L' q4 f).2 with g|⟨j',r',L'',a1,a2,a3,a4,a5⟩
     ·exact .inl (by omega)
     ·exact .inr ⟨j',r',L'',a1,a2,AcP k.low a3,a4,a5.trans q5⟩
theorem HRel.none_len{θ:Th}{rows:List Row}{w:World}(h:HRel κ θ rows w):θ rows.length=none:=by
 cases e:θ rows.length with
 |none=>rfl
 |some L=>exact absurd (h.dom _ _ e) (Nat.lt_irrefl _)
theorem As{α:Type}(l:List α)(x:α)(i:Nat):(l++[x])[i]?=if i=l.length then some x else l[i]?:=by
 split
 ·rename_i h;subst h;simp
 ·rename_i h
  rcases Adc i l.length with hl|hl
  ·rw[AcD hl]
  ·rw[AcG hl,Ac0 (by simp;omega),Ac0 hl]
theorem Fr.push{θ:Th}{rows:List Row}{w w':World}(h:HRel κ θ rows w)(low:Nat)(hlow:low<=rows.length)(o:Obj)(hheap:w'.heap=w.heap.push o)(hos:w'.os=w.os)(htape:w'.tape=w.tape)(hout:w'.output=w.output)
  (d top:Nat) (r:Row) (hr:RowRel κ (θ.add rows.length ⟨w.heap.size,d,top⟩) rows.length w' r) (hro:r.owned=true):
  Fr κ θ (θ.add rows.length ⟨w.heap.size,d,top⟩) rows (rows++[r]) low low w w':=by
 have hE:=Th.ext_add h.none_len ⟨w.heap.size,d,top⟩;have hold:∀b,b<w.heap.size->w'.heap[b]?=w.heap[b]?:=fun b hb=>by
  rw[hheap,Array.getElem?_push_lt hb,Array.getElem?_eq_getElem hb]
 refine⟨hE,⟨?_,?_,?_,?_⟩,by simp,AcE _,hos,htape,hout,by rw[hheap];simp,?_,fun b hb _=>hold b hb,?_,?_,?_⟩
 ·intro id L e
  by_cases hi:id=rows.length
  ·subst hi;simp
  ·rw[Th.add_ne _ _ hi]at e
   have:=h.dom id L e;simp;omega
 ·intro id L e
  by_cases hi:id=rows.length
  ·subst hi;rw[Th.add_self]at e;injection e with e;subst e;rw[hheap];simp
  ·rw[Th.add_ne _ _ hi]at e
   have:=h.blk id L e;rw[hheap];simp;omega
 ·intro id s e
  rw[As]at e
  split at e
  ·rename_i hi;subst hi;injection e with e;subst e;exact hr
  ·exact(h.row id s e).mono hE (fun L hL=>hold _ (h.blk id L hL))
 ·intro i j r1 s L L' hne hi ho hj hl hL hL'
  rw[As]at hi hj
  by_cases e1:i=rows.length
  ·subst e1
   rw[Th.add_self]at hL;injection hL with hL;subst hL
   have e2:j≠rows.length:=fun e=>hne e.symm
   rw[Th.add_ne _ _ e2]at hL';have:=h.blk j L' hL';simp only;omega
  ·rw[Th.add_ne _ _ e1]at hL
   rw[if_neg e1]at hi
   by_cases e2:j=rows.length
   ·subst e2
    rw[Th.add_self]at hL';injection hL' with hL';subst hL'
    have:=h.blk i L hL;simp only;omega
   ·rw[Th.add_ne _ _ e2]at hL'
    rw[if_neg e2]at hj;exact h.inj i j r1 s L L' hne hi ho hj hl hL hL'
 ·intro id hi
  rw[As,if_neg (by omega)]
 ·intro id s e o hi
  rw[As,if_neg (by omega)]at e;exact⟨s,e,o⟩
 ·intro id s e o hi
  rw[As,if_neg (by omega)]at e;exact⟨s,e,o⟩
 ·intro id L e hn
  by_cases hi:id=rows.length
  ·subst hi;rw[Th.add_self]at e;injection e with e;subst e;exact⟨AcE _,.inl (AcE _)⟩
  ·rw[Th.add_ne _ _ hi,hn]at e;simp at e
theorem AW(low id:Nat):Ab low id<=low:=by unfold Ab;split<;>omega
theorem AK(low id:Nat):Ab low id<=id:=by unfold Ab;split<;>omega
theorem Fr.setrow{θ:Th}{rows:List Row}{w w':World}(h:HRel κ θ rows w)(low:Nat){id:Nat}{r:Row}(hid:rows[id]?=some r)(ho:r.owned=true){L:Loc}(hL:θ id=some L)
  (hsz:w'.heap.size=w.heap.size) (hoth:∀k,k≠L.b->w'.heap[k]?=w.heap[k]?) (hos:w'.os=w.os) (htape:w'.tape=w.tape) (hout:w'.output=w.output)
  (r':Row) (hr':RowRel κ θ id w' r') (ho':r'.owned=true):Fr κ θ θ rows (rows.set id r') low (Ab low id) w w':=by
 have hlt:id<rows.length:=(AcF.1 hid).1;have hget:∀i s,(rows.set id r')[i]?=some s->(i=id/\s=r')\/(i≠id/\rows[i]?=some s):=fun i s e=>by
  rw[Adu]at e
  split at e
  ·rename_i q;subst q;injection e with e;exact .inl ⟨rfl,e.symm⟩
  ·rename_i q;exact .inr ⟨fun k=>q k.symm,e⟩
 refine⟨Ext.refl _,⟨fun i K e=>by simpa using h.dom i K e,fun i K e=>by rw[hsz];exact h.blk i K e,?_,?_⟩,by simp,AW _ _,hos,htape,hout,by omega,?_,?_,?_,?_,?_⟩
 ·intro i s e
  rcases hget i s e with ⟨rfl,rfl⟩|⟨hne,e⟩
  ·exact hr'
  ·by_cases hd:s.live=true
   ·exact(h.row i s e).mono (Ext.refl _) (fun K hK=>hoth _ (fun hb=>h.inj id i r s L K (fun q=>hne q.symm) hid ho e hd hL hK hb.symm))
   ·cases s<;>first|(simp[Row.live]at hd;done)|trivial
 ·intro i j s t K K' hne hi hio hj hjl hK hK'
  have hi':∃s0,rows[i]?=some s0/\s0.owned=true:=by
   rcases hget i s hi with ⟨rfl,rfl⟩|⟨_,e⟩
   ·exact⟨r,hid,ho⟩
   ·exact⟨s,e,hio⟩
  have hj':∃t0,rows[j]?=some t0/\t0.live=true:=by
   rcases hget j t hj with ⟨rfl,rfl⟩|⟨_,e⟩
   ·exact⟨r,hid,Row.live_of_owned ho⟩
   ·exact⟨t,e,hjl⟩
  obtain⟨s0,a1,a2⟩:=hi';obtain⟨t0,b1,b2⟩:=hj';exact h.inj i j s0 t0 K K' hne a1 a2 b1 b2 hK hK'
 ·intro i hi
  rw[AcH];have:=AK low id;omega
 ·intro b hb hn
  exact hoth b (fun e=>hn id r L hid ho (AK _ _) hL e.symm)
 ·intro i s e hs hi
  rcases hget i s e with ⟨rfl,rfl⟩|⟨_,e⟩
  ·exact⟨r,hid,ho⟩
  ·exact⟨s,e,hs⟩
 ·intro i s e hs hi
  rcases hget i s e with ⟨rfl,rfl⟩|⟨_,e⟩
  ·exact⟨r,hid,Row.live_of_owned ho⟩
  ·exact⟨s,e,hs⟩
 ·intro i K a b;rw[a]at b;simp at b
theorem Fr.kill{θ:Th}{rows:List Row}{w:World}(h:HRel κ θ rows w)(low:Nat)(id:Nat):Fr κ θ θ rows (rows.set id .dead) low (Ab low id) w w:=by
 have hget:∀i s,(rows.set id .dead)[i]?=some s->(i=id/\s = .dead)\/(i≠id/\rows[i]?=some s):=fun i s e=>by
  rw[Adu]at e
  split at e
  ·rename_i q;subst q;split at e
   ·injection e with e;exact .inl ⟨rfl,e.symm⟩
   ·simp at e
  ·rename_i q;exact .inr ⟨fun k=>q k.symm,e⟩
 refine⟨Ext.refl _,⟨fun i K e=>by simpa using h.dom i K e,h.blk,?_,?_⟩,by simp,AW _ _,rfl,rfl,rfl,AcE _,?_,fun _ _ _=>rfl,?_,?_,?_⟩
 ·intro i s e
  rcases hget i s e with ⟨rfl,rfl⟩|⟨hne,e⟩
  ·trivial
  ·exact h.row i s e
 ·intro i j s t K K' hne hi hio hj hjl hK hK'
  rcases hget i s hi with ⟨rfl,rfl⟩|⟨_,a⟩
  ·simp[Row.owned]at hio
  rcases hget j t hj with ⟨rfl,rfl⟩|⟨_,b⟩
  ·simp[Row.live]at hjl
  exact h.inj i j s t K K' hne a hio b hjl hK hK'
 ·intro i hi
  rw[AcH];have:=AK low id;omega
 ·intro i s e hs hi
  rcases hget i s e with ⟨rfl,rfl⟩|⟨_,e⟩
  ·simp[Row.owned]at hs
  ·exact⟨s,e,hs⟩
 ·intro i s e hs hi
  rcases hget i s e with ⟨rfl,rfl⟩|⟨_,e⟩
  ·simp[Row.live]at hs
  ·exact⟨s,e,hs⟩
 ·intro i K a b;rw[a]at b;simp at b
theorem Fr.turn{θ:Th}{rows:List Row}{w w':World}(h:HRel κ θ rows w)(low:Nat)(hlow:low<=rows.length){id:Nat}{r:Row}(hid:rows[id]?=some r)(ho:r.owned=true){L:Loc}(hL:θ id=some L)
  (hsz:w'.heap.size=w.heap.size) (hoth:∀k,k≠L.b->w'.heap[k]?=w.heap[k]?) (hos:w'.os=w.os) (htape:w'.tape=w.tape) (hout:w'.output=w.output)
  (d top:Nat) (r':Row) (hr':RowRel κ (θ.add rows.length ⟨L.b,d,top⟩) rows.length w' r') (ho':r'.owned=true):
  Fr κ θ (θ.add rows.length ⟨L.b,d,top⟩) rows (rows.set id .dead++[r']) low (Ab low id) w w':=by
 have hlt:id<rows.length:=(AcF.1 hid).1;have hE:=Th.ext_add h.none_len ⟨L.b,d,top⟩;have hget:∀i s,(rows.set id .dead++[r'])[i]?=some s->(i=rows.length/\s=r')\/(i=id/\s = .dead)\/(i≠id/\i≠rows.length/\rows[i]?=some s):=fun i s e=>by
  rw[As,Adh]at e
  split at e
  ·rename_i q;injection e with e;exact .inl ⟨q,e.symm⟩
  ·rename_i q1
   rw[Adu]at e
   split at e
   ·rename_i q;subst q;injection e with e;exact .inr (.inl ⟨rfl,e.symm⟩)
   ·rename_i q;exact .inr (.inr ⟨fun k=>q k.symm,q1,e⟩)
 refine⟨hE,⟨?_,?_,?_,?_⟩,by simp,AW _ _,hos,htape,hout,by omega,?_,?_,?_,?_,?_⟩
 ·intro i K e
  by_cases hi:i=rows.length
  ·subst hi;simp
  ·rw[Th.add_ne _ _ hi]at e
   have:=h.dom i K e;simp;omega
 ·intro i K e
  rw[hsz]
  by_cases hi:i=rows.length
  ·subst hi;rw[Th.add_self]at e;injection e with e;subst e;exact h.blk id L hL
  ·rw[Th.add_ne _ _ hi]at e;exact h.blk i K e
 ·intro i s e
  rcases hget i s e with ⟨rfl,rfl⟩|⟨rfl,rfl⟩|⟨hne,hne2,e⟩
  ·exact hr'
  ·trivial
  ·by_cases hd:s.live=true
   ·exact(h.row i s e).mono hE (fun K hK=>hoth _ (fun hb=>h.inj id i r s L K (fun q=>hne q.symm) hid ho e hd hL hK hb.symm))
   ·cases s<;>first|(simp[Row.live]at hd;done)|trivial
 ·intro i j s t K K' hne hi hio hj hjl hK hK'
  rcases hget i s hi with ⟨rfl,rfl⟩|⟨rfl,rfl⟩|⟨i1,i2,e⟩
  ·rw[Th.add_self]at hK;injection hK with hK;subst hK
   rcases hget j t hj with ⟨rfl,rfl⟩|⟨rfl,rfl⟩|⟨j1,j2,f⟩
   ·exact absurd rfl hne
   ·simp[Row.live]at hjl
   ·rw[Th.add_ne _ _ j2]at hK'
    exact h.inj id j r t L K' (fun q=>j1 q.symm) hid ho f hjl hL hK'
  ·simp[Row.owned]at hio
  ·rw[Th.add_ne _ _ i2]at hK
   rcases hget j t hj with ⟨rfl,rfl⟩|⟨rfl,rfl⟩|⟨j1,j2,f⟩
   ·rw[Th.add_self]at hK';injection hK' with hK';subst hK'
    exact h.inj i id s r K L i1 e hio hid (Row.live_of_owned ho) hK hL
   ·simp[Row.live]at hjl
   ·rw[Th.add_ne _ _ j2]at hK'
    exact h.inj i j s t K K' hne e hio f hjl hK hK'
 ·intro i hi
  have:=AK low id;rw[As,Adh,if_neg (by omega),AcH (by omega)]
 ·intro b hb hn
  exact hoth b (fun e=>hn id r L hid ho (AK _ _) hL e.symm)
 ·intro i s e hs hi
  rcases hget i s e with ⟨rfl,rfl⟩|⟨rfl,rfl⟩|⟨_,_,e⟩
  ·omega
  ·simp[Row.owned]at hs
  ·exact⟨s,e,hs⟩
 ·intro i s e hs hi
  rcases hget i s e with ⟨rfl,rfl⟩|⟨rfl,rfl⟩|⟨_,_,e⟩
  ·omega
  ·simp[Row.live]at hs
  ·exact⟨s,e,hs⟩
 ·intro i K e hn
  by_cases hi:i=rows.length
  ·subst hi;rw[Th.add_self]at e;injection e with e;subst e;exact⟨AcE _,.inr ⟨id,r,L,hid,ho,AK _ _,hL,rfl⟩⟩
  ·rw[Th.add_ne _ _ hi,hn]at e;simp at e
instance (n:Nat):OfNat Opd n:=⟨.t n⟩
abbrev kk(n:Nat)(l:List Nat)(o:List Seg):ICode:=.kill n l (.ops o)
abbrev sQ(a b:ICode):ICode:=.seq a b
@[simp] abbrev ci(n:Int):Opd:=.c (.int .i64 n)
abbrev zm(a b:Nat):Seg:=.one ⟨some a,.mv (.t b),none⟩
abbrev zo(a:Nat)(o:IOp):Seg:=.one ⟨some a,o,none⟩
abbrev zn(a b:Nat):IOpx:=⟨some a,.mv (.t b),none⟩
abbrev zp(a:Nat)(o:IOp):IOpx:=⟨some a,o,none⟩
@[simp] abbrev qq0:List Nat:=[0,1,2,3]
@[simp] abbrev qq1:List Nat:=[0,1,2]
@[simp] abbrev qq2:List Nat:=[0,1,3]
@[simp] abbrev qq3:List Nat:=[0,1,4,5,6]
@[simp] abbrev qq4:List Nat:=[0,1,4,5]
@[simp] abbrev qq5:List Nat:=[0,1,4]
@[simp] abbrev qq6:List Nat:=[0,1,5,12,13]
@[simp] abbrev qq7:List Nat:=[0,1,5,6,12,13]
@[simp] abbrev qq8:List Nat:=[0,1,5,6,7,8]
@[simp] abbrev qq9:List Nat:=[0,1,5,6,7]
@[simp] abbrev Wt:List Nat:=[0,1,5,6,9,10,11]
@[simp] abbrev EC:List Nat:=[0,1,5,6]
@[simp] abbrev Qd:List Nat:=[0,1,5,7,23,24]
@[simp] abbrev Abd:List Nat:=[0,1,5,7,8,23,24]
@[simp] abbrev AbH:List Nat:=[0,1,5,7,8]
@[simp] abbrev Aaa:List Nat:=[0,1,5,7,9]
@[simp] abbrev Wo:List Nat:=[0,1,5,7]
@[simp] abbrev Cw:List Nat:=[0,1,5]
@[simp] abbrev Aah:List Nat:=[0,1,6,7,9,10,11]
@[simp] abbrev Abi:List Nat:=[0,1,6]
@[simp] abbrev Qj:List Nat:=[0,1,7,8]
@[simp] abbrev Abg:List Nat:=[0,1,8,9,10,11]
@[simp] abbrev Qa:List Nat:=[0,1,9,10,11]
@[simp] abbrev Az:List Nat:=[0,1]
@[simp] abbrev Ab8:List Nat:=[0,2]
@[simp] abbrev Abx:List Nat:=[0,3,5,7,8]
@[simp] abbrev Qc:List Nat:=[0,3,7,8]
@[simp] abbrev WJ:List Nat:=[0,3]
@[simp] abbrev Qh:List Nat:=[0,4,14,15,16]
@[simp] abbrev WH:List Nat:=[0,4,5,14,15,16]
@[simp] abbrev AaI:List Nat:=[0,4,5,6,14,15,16]
@[simp] abbrev Z2:List Nat:=[0,4,5,6,7,14,15,16]
@[simp] abbrev Re:List Nat:=[0,4,5,7,14,15,16,21]
@[simp] abbrev ZD:List Nat:=[0,4,5,7,14,15,16]
@[simp] abbrev M9:List Nat:=[0,5,7,9,10,11,31,32]
@[simp] abbrev Aav:List Nat:=[0,5,7,9,10,12,13,14,31,32,80,81]
@[simp] abbrev Qk:List Nat:=[0,5,7,9,10,12,13,31,32,80,81]
@[simp] abbrev AbA:List Nat:=[0,5,7,9,10,12,13,31,32]
@[simp] abbrev AbD:List Nat:=[0,5,7,9,10,12,15,16,31,32,95,96,97]
@[simp] abbrev AaJ:List Nat:=[0,5,7,9,10,12,16,17,18,31,32,95,96,97,118,119]
@[simp] abbrev P5:List Nat:=[0,5,7,9,10,12,16,17,31,32,95,96,97,118,119]
@[simp] abbrev ZY:List Nat:=[0,5,7,9,10,12,16,17,31,32,95,96,97]
@[simp] abbrev Aau:List Nat:=[0,5,7,9,10,12,16,31,32,95,96,97]
@[simp] abbrev P7:List Nat:=[0,5,7,9,10,12,31,32,95,96,97]
@[simp] abbrev Wl:List Nat:=[0,5,7,9,10,12,31,32]
@[simp] abbrev Qv:List Nat:=[0,5,7,9,10,31,32]
@[simp] abbrev LW:List Nat:=[0,5,7,9,31,32]
@[simp] abbrev Ace:List Nat:=[1,11,13,61,62,63]
@[simp] abbrev Ab7:List Nat:=[1,11,14]
@[simp] abbrev SR:List Nat:=[1,11,61,62,63]
@[simp] abbrev Ab5:List Nat:=[1,11]
@[simp] abbrev Wm:List Nat:=[1,2,3,12,13,14,15]
@[simp] abbrev P8:List Nat:=[1,2,3,12,13,14]
@[simp] abbrev P9:List Nat:=[1,2,3,12,13]
@[simp] abbrev Qn:List Nat:=[1,2,3,12]
@[simp] abbrev WI:List Nat:=[1,2,3,4,10,11]
@[simp] abbrev Qm:List Nat:=[1,2,3,4,10]
@[simp] abbrev AaV:List Nat:=[1,2,3,4,5,6,7,8,9]
@[simp] abbrev AaN:List Nat:=[1,2,3,4,5,6,7,8]
@[simp] abbrev AbF:List Nat:=[1,2,3,4,5,6,9]
@[simp] abbrev Mz:List Nat:=[1,2,3,4,5,6]
@[simp] abbrev AaY:List Nat:=[1,2,3,4,5]
@[simp] abbrev OM:List Nat:=[1,2,3,4]
@[simp] abbrev Wz:List Nat:=[1,2,3,5,23,24]
@[simp] abbrev Aca:List Nat:=[1,2,3,5,6,23,24]
@[simp] abbrev Wn:List Nat:=[1,2,3,5,6,7,23,24,32,33]
@[simp] abbrev ZI:List Nat:=[1,2,3,5,6,7,23,24]
@[simp] abbrev Acf:List Nat:=[1,2,3,5,6,7,8,23,24,32,33]
@[simp] abbrev Ab6:List Nat:=[1,2,3,5,6,7,8,9,10,11]
@[simp] abbrev Ab0:List Nat:=[1,2,3,5,6,7,8,9]
@[simp] abbrev AbL:List Nat:=[1,2,3,5,6]
@[simp] abbrev AbV:List Nat:=[1,2,3,5,7,23,24]
@[simp] abbrev Ab2:List Nat:=[1,2,3,5]
@[simp] abbrev Qg:List Nat:=[1,2,3,7]
@[simp] abbrev FM:List Nat:=[1,2,3]
@[simp] abbrev Qb:List Nat:=[1,2,4,5,11,19,113,114]
@[simp] abbrev AaK:List Nat:=[1,2,4,5,11,19,20,113,114]
@[simp] abbrev WG:List Nat:=[1,2,4,5,11,19]
@[simp] abbrev Aa7:List Nat:=[1,2,4,5,11]
@[simp] abbrev P6:List Nat:=[1,2,4,5,19,126,127,128]
@[simp] abbrev Aa9:List Nat:=[1,2,4,5,19,21,22,126,127,128]
@[simp] abbrev Qf:List Nat:=[1,2,4,5,6,31,32,33]
@[simp] abbrev AaD:List Nat:=[1,2,4,5,6,8,31,32,33]
@[simp] abbrev Z9:List Nat:=[1,2,4,5,6]
@[simp] abbrev WC:List Nat:=[1,2,4,5,9,11,12,13,62,63]
@[simp] abbrev AaM:List Nat:=[1,2,4,5,9,11,12,62,63]
@[simp] abbrev Abw:List Nat:=[1,2,4,5,9,11,13,62,63]
@[simp] abbrev Ql:List Nat:=[1,2,4,5,9,11,62,63]
@[simp] abbrev Aag:List Nat:=[1,2,4,5,9,11]
@[simp] abbrev Aa5:List Nat:=[1,2,4,5,9]
@[simp] abbrev Wv:List Nat:=[1,2,4,5]
@[simp] abbrev Abk:List Nat:=[1,2,4,6]
@[simp] abbrev Aal:List Nat:=[1,2,4,7]
@[simp] abbrev QL:List Nat:=[1,2,4]
@[simp] abbrev Qe:List Nat:=[1,2,5,6,20,21]
@[simp] abbrev JK:List Nat:=[1,2,5,6,7,20,21]
@[simp] abbrev TQ:List Nat:=[1,2,5,6,8,20,21]
@[simp] abbrev Aai:List Nat:=[1,2,5,6,8,9,10,11,12,13,14,15,20,21,53,54,55,60]
@[simp] abbrev Aaw:List Nat:=[1,2,5,6,8,9,10,11,12,20,21,53,54,55,60]
@[simp] abbrev Vl:List Nat:=[1,2,5,6,8,9,10,11,13,14,15,20,21,53,54,55,60]
@[simp] abbrev Ob:List Nat:=[1,2,5,6,8,9,10,11,14,15,20,21,53,54,55,60]
@[simp] abbrev Ub:List Nat:=[1,2,5,6,8,9,10,11,14,20,21,53,54,55,60]
@[simp] abbrev F9:List Nat:=[1,2,5,6,8,9,10,11,20,21,53,54,55,60]
@[simp] abbrev Vc:List Nat:=[1,2,5,6,8,9,10,11,20,21,53,54,55]
@[simp] abbrev Ga:List Nat:=[1,2,5,6,8,9,20,21,53,54,55]
@[simp] abbrev MA:List Nat:=[1,2,5,6,8,9,20,21]
@[simp] abbrev V5:List Nat:=[1,2,5,6]
@[simp] abbrev Mb:List Nat:=[1,2,5]
@[simp] abbrev Il:List Nat:=[1,2,6]
@[simp] abbrev XP:List Nat:=[1,2,7,8]
@[simp] abbrev Eh:List Nat:=[1,2,7]
@[simp] abbrev MI:List Nat:=[1,2,8,23,24,25]
@[simp] abbrev YS:List Nat:=[1,2,8,9,10,23,24,25]
@[simp] abbrev Xn:List Nat:=[1,2,8]
@[simp] abbrev Bs:List Nat:=[1,2]
@[simp] abbrev U7:List Nat:=[1,3,4,30,31,32]
@[simp] abbrev F6:List Nat:=[1,3,4]
@[simp] abbrev Vi:List Nat:=[1,3,5,6,7,8,9]
@[simp] abbrev Un:List Nat:=[1,3,5,6,7,8]
@[simp] abbrev Vq:List Nat:=[1,3,5,6,8,9]
@[simp] abbrev F2:List Nat:=[1,3,5,6]
@[simp] abbrev Ge:List Nat:=[1,3,5]
@[simp] abbrev Gd:List Nat:=[1,30,31,32]
@[simp] abbrev Q8:List Nat:=[1,3]
@[simp] abbrev LV:List Nat:=[1,4,5,19]
@[simp] abbrev Xa:List Nat:=[1,4]
@[simp] abbrev W8:List Nat:=[1,5,11]
@[simp] abbrev VK:List Nat:=[1,5,6,71,72,73]
@[simp] abbrev Gi:List Nat:=[1,5,7,36,37]
@[simp] abbrev Gr:List Nat:=[1,5,7,48,49,50]
@[simp] abbrev Vy:List Nat:=[1,5,7,8,36,37]
@[simp] abbrev ML:List Nat:=[1,5,7,9,10,48,49,50]
@[simp] abbrev LY:List Nat:=[1,5,7]
@[simp] abbrev QC:List Nat:=[1,5]
@[simp] abbrev R8:List Nat:=[1,6,71,72,73]
@[simp] abbrev F8:List Nat:=[1,7,19,20,21]
@[simp] abbrev F5:List Nat:=[1,7,22,23,24]
@[simp] abbrev MO:List Nat:=[1,7,8,9,22,23,24]
@[simp] abbrev Uv:List Nat:=[1,7,9,19,20,21]
@[simp] abbrev Gu:List Nat:=[1,71,72,73,120,121,122]
@[simp] abbrev F7:List Nat:=[1,71,72,73]
@[simp] abbrev TC:List Nat:=[1,8,71,72,73,120,121,122]
@[simp] abbrev V1:List Nat:=[13,14,15,16,17,18]
@[simp] abbrev UX:List Nat:=[13,14,15,16,17,82]
@[simp] abbrev TV:List Nat:=[13,14,15,16,81,82]
@[simp] abbrev UF:List Nat:=[13,15,16,18]
@[simp] abbrev U6:List Nat:=[19,22,136,137]
@[simp] abbrev V7:List Nat:=[19,22,23,137]
@[simp] abbrev Up:List Nat:=[19,22,23,24]
@[simp] abbrev Ul:List Nat:=[2,13,14,15,16,74,75]
@[simp] abbrev Gp:List Nat:=[2,13,14,15,74,75]
@[simp] abbrev Ut:List Nat:=[2,13,14,15]
@[simp] abbrev TH:List Nat:=[2,13,14,71]
@[simp] abbrev U8:List Nat:=[2,13,70,71]
@[simp] abbrev TS:List Nat:=[2,3,4,5,6]
@[simp] abbrev F1:List Nat:=[2,3,4,5,7,22,23]
@[simp] abbrev T1:List Nat:=[2,3,4,5,7,8,22,23]
@[simp] abbrev TR:List Nat:=[2,3,4,5,7,8,9,22,23]
@[simp] abbrev Vw:List Nat:=[2,3,4,5,7,9,22,23]
@[simp] abbrev Wc:List Nat:=[2,3,4,5,7]
@[simp] abbrev EM:List Nat:=[2,3,4,5]
@[simp] abbrev Bm:List Nat:=[2,3,4]
@[simp] abbrev YU:List Nat:=[2,3,5,6,7,8,9,10,11,12]
@[simp] abbrev Yj:List Nat:=[2,3,5,6,7,8,9,10,11,13,14]
@[simp] abbrev QU:List Nat:=[2,3]
@[simp] abbrev Uf:List Nat:=[2,5,13]
@[simp] abbrev MW:List Nat:=[2,5,14,15,16,17,86,87,97,98]
@[simp] abbrev F3:List Nat:=[2,5,14,15,16,86,87,97,98]
@[simp] abbrev TM:List Nat:=[2,5,14,15,16,86,87]
@[simp] abbrev Mg:List Nat:=[2,5,14,15,86,87]
@[simp] abbrev Vm:List Nat:=[2,5,14,16,86,87]
@[simp] abbrev Gk:List Nat:=[2,5,14,86,87]
@[simp] abbrev UC:List Nat:=[2,5,14]
@[simp] abbrev F4:List Nat:=[2,5,6,25,26]
@[simp] abbrev Ux:List Nat:=[2,5,6,8,25,26]
@[simp] abbrev Ie:List Nat:=[2,5,6,8,9,11,12,25,26,31,32,33,37]
@[simp] abbrev Gt:List Nat:=[2,5,6,8,9,11,25,26,31,32,33,37]
@[simp] abbrev Vr:List Nat:=[2,5,6,8,9,11,25,26,31,32,33]
@[simp] abbrev Gb:List Nat:=[2,5,6,8,9,25,26,31,32,33]
@[simp] abbrev M2:List Nat:=[2,5,6,8,9,25,26]
@[simp] abbrev UO:List Nat:=[2,5,6,9,25,26]
@[simp] abbrev UP:List Nat:=[2,5,6]
@[simp] abbrev Q3:List Nat:=[2,5]
@[simp] abbrev Yp:List Nat:=[2,7,8,9,10,11,12,13]
@[simp] abbrev Yv:List Nat:=[2,7,8,9,10,11]
@[simp] abbrev Hu:List Nat:=[2,7,8,9,10,12,14,15,16,17]
@[simp] abbrev Qw:List Nat:=[2,7,8,9,10,12,14,15,16]
@[simp] abbrev Kw:List Nat:=[2,7,8,9,10,12,14,15]
@[simp] abbrev XG:List Nat:=[2,7,8,9,10,12,14]
@[simp] abbrev Q9:List Nat:=[2,7,8,9,10,12]
@[simp] abbrev XI:List Nat:=[2,7,8,9]
@[simp] abbrev YR:List Nat:=[2,8]
@[simp] abbrev Aad:List Nat:=[20,21]
@[simp] abbrev TF:List Nat:=[3,5,6,7,8]
@[simp] abbrev Gf:List Nat:=[3,6,7,8]
@[simp] abbrev T2:List Nat:=[3,9,10,11]
@[simp] abbrev T7:List Nat:=[3,9,10,30]
@[simp] abbrev Vh:List Nat:=[3,9,29,30]
@[simp] abbrev Gc:List Nat:=[4,5,19,153,154,155]
@[simp] abbrev Vz:List Nat:=[4,5,19,25,26,153,154,155]
@[simp] abbrev UB:List Nat:=[4,5,6]
@[simp] abbrev Xe:List Nat:=[4,5]
@[simp] abbrev Yn:List Nat:=[4,6]
@[simp] abbrev Gn:List Nat:=[4,7,21,22]
@[simp] abbrev TD:List Nat:=[4,7,8,9,21,22]
@[simp] abbrev YL:List Nat:=[4,7]
@[simp] abbrev YN:List Nat:=[7,44,45]
@[simp] abbrev Y6:List Nat:=[7,9,10,12,18,19]
@[simp] abbrev Ys:List Nat:=[7,9,10,12,18,20,21,22,23,24]
@[simp] abbrev M3:List Nat:=[7,9,10,12,18,20,21,22,25]
@[simp] abbrev HB:List Nat:=[7,9,10,12,18,20,21,22]
@[simp] abbrev YX:List Nat:=[7,9,10,12,18,20,21]
@[simp] abbrev Yr:List Nat:=[7,9,10,12,18]
@[simp] abbrev XH:List Nat:=[7,9,10]
@[simp] abbrev Xj:List Nat:=[7,9,45]
end Go.Abs
namespace Go.Abs
variable {κ:Fw}
section ops
variable {P:Program}{gl:List Nat}{θ:Th}{rows:List Row}{w:World}{sl:List AV}{a:Act}{low:Nat}
def Eff(κ:Fw)(P:Program)(θ:Th)(rows:List Row)(low:Nat)(w:World)(a:Act)(o:Oper)(v:AV)(rows':List Row)(low':Nat):Prop:=
 ∃θ' w' nv v',(execOp a.eval o).run P w = .ok nv w'/\(nv = .value v'\/(nv = .skip/\v'=undef))/\V θ' v v'/\Fr κ θ θ' rows rows' low low' w w'
theorem PF(θ:Th):V θ (.tup []) undef:=V.tup (l':=[]) rfl (fun i x x' h=>by simp at h)
theorem CellsRel.of_VL{θ:Th}{vs:List AV}{c:Array Value}{b:Nat}(h:VL θ vs c.toList)(h1:∀v∈c.toList,v.oneCell'=true):CellsRel θ ⟨b,0,c.size⟩ vs c:=
 ⟨by have:=h.1;simp at this;simp;omega,rfl,fun j x hx=>by
  obtain⟨x',a,b⟩:=h.get hx
  exact⟨x',by simpa using a,b,h1 _ (Ac5 a)⟩⟩
theorem Fb(hr:HRel κ θ rows w)(hlow:low<=rows.length){vs:List AV}{c:Array Value}(hv:VL θ vs c.toList)(h1:∀v∈c.toList,v.oneCell'=true)(T:TypeId):
  Fr κ θ (θ.add rows.length ⟨w.heap.size,0,c.size⟩) rows (rows++[.cells vs]) low low w {w with heap:=w.heap.push (.cells c T)}:=
 Fr.push (w':={w with heap:=w.heap.push (.cells c T)}) hr low hlow (.cells c T) rfl rfl rfl rfl 0 c.size (.cells vs)
  ⟨_,c,T,Th.add_self _ _ _,by simp,CellsRel.of_VL (hv.mono (Th.ext_add hr.none_len _)) h1⟩ rfl
theorem Bk(n:Nat)(z:List AV):((List.replicate n z).flatten).length=n*z.length:=by
 induction n with
 |zero=>simp
 |succ n ih=>simp[AdZ,ih,AeB];omega
theorem Kf{α:Type}(z:List α)(n i:Nat)(h:i<n*z.length):((List.replicate n z).flatten)[i]?=z[i%z.length]?:=by
 induction n generalizing i with
 |zero=>simp at h
 |succ n ih=>
  rw[AdZ,Aez];rcases Adc i z.length with hi|hi
  ·rw[AcD hi,Nat.mod_eq_of_lt hi]
  ·rw[AcG hi,ih (i-z.length) (by rw[AeB]at h;omega)]
   congr 1;exact(Nat.mod_eq_sub_mod hi).symm
theorem JR{z:AV}{zv:Value}(hz:VL θ z.cells zv.cells.toList)(n:Nat)(hpos:0<z.cells.length):
  VL θ ((List.replicate n z.cells).flatten) (((Array.range (n*z.cells.length)).map (zv.cells[· % zv.cells.size]!)).toList):=by
 have hsz:zv.cells.size=z.cells.length:=by have:=hz.1;simp at this;exact this.symm
 refine⟨by simp[Bk],fun i x x' a b=>?_⟩;have hi:i<n*z.cells.length:=by
  have:=(AcF.1 a).1;rwa[Bk]at this
 rw[Kf _ _ _ hi]at a;obtain⟨y,p,q⟩:=hz.get a;have:x'=y:=by
  simp only[Array.toList_map,Array.toList_range,Ac9,AdL hi,AcN,AcI]at b;rw[<-b,hsz];have hlt:i%z.cells.length<zv.cells.size:=by rw[hsz];exact Nat.mod_lt _ hpos
  rw[getElem!_pos zv.cells _ hlt];have:=p;simp at this;rw[Array.getElem?_eq_getElem hlt]at this;injection this
 rw[this];exact q
theorem Ea{l:List AV}{l':List Value}(h:VL θ l l')(h1:l.all AV.one=true):∀v∈l',v.oneCell'=true:=fun v hv=>by
 obtain⟨i,hi⟩:=AeC.1 hv;have hlt:i<l.length:=by have:=(AcF.1 hi).1;have:=h.1;omega
 have hV:=h.2 i _ v (AcR hlt) hi;exact(V.oneCell hV (AcT.1 h1 _ (Aer hlt))).1
theorem NX(hr:HRel κ θ rows w)(hlow:low<=rows.length){x:AV}{x':Value}(hx:V θ x x')(h1:x.cells.all AV.one=true)(t:TypeId):
  ∃θ' w',(Instr.box t x').run P w = .ok (.pointer (some ⟨w.heap.size,0,none⟩)) w'/\V θ' (.ptr rows.length 0) (.pointer (some ⟨w.heap.size,0,none⟩))/\Fr κ θ θ' rows (rows++[.cells x.cells]) low low w w':=by
 refine⟨_,_,?_,?_,Fb hr hlow (V.cells hx h1) (Ea (V.cells hx h1) h1) t⟩
 ·simp[Instr.box,newVar,newRow,newObj,Sem.run]
 ·have:=V.ptr (off:=0) (Th.add_self θ rows.length ⟨w.heap.size,0,x'.cells.size⟩)
  simpa using this
theorem I4(hr:HRel κ θ rows w){id:Nat}{vs:List AV}(hid:rows[id]?=some (.cells vs)){L:Loc}(hL:θ id=some L){c c':Array Value}{T:TypeId}(hb:w.heap[L.b]?=some (.cells c T (0,0)))
  {vs':List AV} (hc:CellsRel θ L vs' c'):Fr κ θ θ rows (rows.set id (.cells vs')) low (Ab low id) w (w.setRow L.b c'):=
 Fr.setrow hr low hid rfl hL (by simp) (fun k hk=>setRow_other w L.b k c' hk) rfl rfl rfl (.cells vs') ⟨L,c',T,hL,setRow_heap w L.b c c' T (0,0) hb,hc⟩ rfl
theorem CellsRel.splice{L:Loc}{vs l:List AV}{l':List Value}{c:Array Value}(hc:CellsRel θ L vs c)(hl:VL θ l l')(hone:∀v∈l',v.oneCell'=true){off:Nat}(hle:off+l.length<=vs.length):
  CellsRel θ L (Abs.splice vs off l) (c.toList.take (L.d+off)++(l'++c.toList.drop (L.d+off+l'.length))).toArray:=by
 have hlen:l'.length=l.length:=hl.1.symm;have h2:=hc.1;have h1:=hc.2.1;refine⟨by simp[Abs.splice];omega,by simp;omega,?_⟩;intro j x hx;unfold Abs.splice at hx;have e1:(List.take (L.d+off) c.toList).length=L.d+off:=by simp;omega
 have e0:(List.take off vs).length=off:=by simp;omega
 rw[AcL]at hx;rw[List.getElem?_toArray];rcases Adc j off with h|h
 ·rw[AcD (by omega),AcZ h]at hx
  obtain⟨x',p,q,o⟩:=hc.2.2 j x hx;refine⟨x',?_,q,o⟩;rw[AcD (by omega),AcZ (by omega)];simpa using p
 ·rw[AcG (by omega),e0]at hx
  rw[AcG (by omega),e1,show L.d+j-(L.d+off)=j-off from by omega];rcases Adc j (off+l.length)with h'|h'
  ·rw[AcD (by omega)]at hx
   obtain⟨x',p,q⟩:=hl.get hx;exact⟨x',by rw[AcD (by omega)];exact p,q,hone _ (Ac5 p)⟩
  ·rw[AcG (by omega),Adr,show off+l.length+(j-off-l.length)=j from by omega]at hx
   obtain⟨x',p,q,o⟩:=hc.2.2 j x hx;refine⟨x',?_,q,o⟩;rw[AcG (by omega),Adr,show L.d+off+l'.length+(j-off-l'.length)=L.d+j from by omega];simpa using p
theorem Gy(hr:HRel κ θ rows w){t:TypeId}{p:AV}{p' x':Value}(hp:V θ p p'){id off:Nat}(ep:p = .ptr id off){l:List AV}{l':List Value}(hl:VL θ l l')(hcells:x'.cells.toList=l')(hsz:szT P t=some l.length)
  {vs:List AV} (hid:rows[id]?=some (.cells vs)) (hle:off+l.length<=vs.length) (hone:∀v∈l',v.oneCell'=true):
  ∃w',(Instr.storeAt t p' x').run P w = .ok () w'/\Fr κ θ θ rows (rows.set id (.cells (splice vs off l))) low (Ab low id) w w':=by
 subst ep;cases hp with
 |ptr hL=>
 rename_i L;obtain⟨L',c,T,hL',hb,hc⟩:=hr.row id _ hid;rw[hL]at hL';injection hL' with hL';subst hL'
 have hlen:l'.length=l.length:=hl.1.symm;have hcs:x'.cells.size=l.length:=by rw[<-hlen,<-hcells];simp
 have hst:=run_storeCells_at (P:=P) L.b (L.d+off) T l' 0 c w hb (by have:=hc.1;omega) hone;simp only[Aeq,AcL]at hst;refine⟨_,?_,I4 hr hid hL hb (hc.splice hl hone hle)⟩;simp only[Instr.storeAt,Instr.sureAddr,storeVar,Sem.run_bind,Sem.run_pure,Result.andThen_ok,AX hsz,hcs,hcells];simp[hst]
theorem GK{t:TypeId}{p' x':Value}{id off:Nat}(hp:V θ (.ptr id off) p'){l:List AV}{l':List Value}(hl:VL θ l l')(hcells:x'.cells.toList=l')(hsz:szT P t=some l.length)
  {vs:List AV} {L:Loc} (hL:θ id=some L) (hrow:RowRel κ θ id w (.cells vs)) (hle:off+l.length<=vs.length) (hone:∀v∈l',v.oneCell'=true):
  ∃w',(Instr.storeAt t p' x').run P w = .ok () w'/\RowRel κ θ id w' (.cells (splice vs off l))/\w'.heap.size=w.heap.size/\(∀k,k≠L.b->w'.heap[k]?=w.heap[k]?)/\w'.os=w.os/\w'.tape=w.tape/\w'.output=w.output:=by
 cases hp with
 |ptr hL1=>
 rename_i L1;rw[hL]at hL1;injection hL1 with hL1;subst hL1
 obtain⟨L',c,T,hL',hb,hc⟩:=hrow;rw[hL]at hL';injection hL' with hL';subst hL'
 have hlen:l'.length=l.length:=hl.1.symm;have hcs:x'.cells.size=l.length:=by rw[<-hlen,<-hcells];simp
 have hst:=run_storeCells_at (P:=P) L.b (L.d+off) T l' 0 c w hb (by have:=hc.1;omega) hone;simp only[Aeq,AcL]at hst;refine⟨_,?_,⟨L,_,T,hL,setRow_heap w L.b c _ T (0,0) hb,hc.splice hl hone hle⟩,by simp,fun k hk=>setRow_other w L.b k _ hk,rfl,rfl,rfl⟩;simp only[Instr.storeAt,Instr.sureAddr,storeVar,Sem.run_bind,Sem.run_pure,Result.andThen_ok,AX hsz,hcs,hcells];simp[hst]
end ops
end Go.Abs
namespace Go.Abs
variable {κ:Fw}
section ops
variable {P:Program}{gl:List Nat}{θ:Th}{rows:List Row}{w:World}{sl:List AV}{a:Act}{low:Nat}
theorem EE{t ty e:TypeId}{i:TypeInfo}(ht:P.underlying t=some (.slice e))(hi:P.info? e=some i)
  (b off sLen sCap:Nat) (p:Addr) (m c:Nat) (news:List Value) (hl:news.length=m*i.size) (hnews:∀j u,news[j]?=some u->w.cell? (p.add j)=some u) (h1:∀u∈news,u.oneCell'=true)
  (hroom:sLen+m<=sCap) {cur:Array Value} {T:TypeId} (hb:w.heap[b]?=some (.cells cur T (0,0))) (hfit:off+sLen*i.size+news.length<=cur.size):
  (Builtin.append_ #[t,t] ty #[.slice (some ⟨b,off,none⟩) sLen sCap,.slice (some p) m c]).run P w=
   .ok (.slice (some ⟨b,off,none⟩) (sLen+m) sCap) (w.setRow b (cur.toList.take (off+sLen*i.size)++(news++cur.toList.drop (off+sLen*i.size+news.length))).toArray):=by
 have hfc:=run_firstCells_some (P:=P) w i.size m p m c news hl hnews;have hst:=run_storeCells_at (P:=P) b (off+sLen*i.size) T news 0 cur w hb (by omega) h1;simp only[Aeq,AcL]at hst;simp[Builtin.append_,run_underlying ht,sizeOf,typeInfo,hi,Builtin.lenOf,hroom,hfc,Br,hst]
theorem CH{t ty e:TypeId}{i:TypeInfo}(ht:P.underlying t=some (.slice e))(hi:P.info? e=some i)(p q:Option Addr)(n cap c:Nat)(hn:n<=cap):
  (Builtin.append_ #[t,t] ty #[.slice p n cap,.slice q 0 c]).run P w = .ok (.slice p n cap) w:=by
 cases p<;>cases q<;>simp[Builtin.append_,run_underlying ht,sizeOf,typeInfo,hi,Builtin.lenOf,hn,Builtin.firstCells,loadCells,loadCellsFrom,storeCells]
theorem JW(hr:HRel κ θ rows w){x:AV}{x':Value}(hx:V θ x x'){sz:Nat}{ys:List AV}{m:Nat}(he:A5 rows sz x=some (ys,m)):
  (m=0/\∃q c,x' = .slice q 0 c)\/(0<m/\∃p c ys',x' = .slice (some p) m c/\VL θ ys ys'/\ys'.length=m*sz/\(∀j u,ys'[j]?=some u->w.cell? (p.add j)=some u)/\∀u∈ys',u.oneCell'=true):=by
 unfold A5 at he
 split at he
 ·injection he with he
  simp only[AcQ]at he;cases hx;exact .inl ⟨he.2.symm,_,_,rfl⟩
 ·rename_i id off n cap
  split at he
  case h_2=>simp at he
  rename_i vs hrow;simp only[AcK,AcQ]at he;obtain⟨l,hl,rfl,rfl⟩:=he;rcases Nat.eq_zero_or_pos n with h0|h0
  ·subst h0
   cases hx<;>exact .inl ⟨rfl,_,_,rfl⟩
  ·refine .inr ⟨h0,?_⟩
   cases hx with
   |sliceAt hL ho hlc=>
    rename_i o L;have:=ho (by omega);subst this;obtain⟨l',h1,h2,h3,h4⟩:=hr.readSeg hrow hL hl;exact⟨_,_,l',rfl,h1,h2,h3,h4⟩
   |sliceOp hL ho hto hlc=>
    rename_i cc o L;have:=ho (by omega);subst this;obtain⟨l',h1,h2,h3,h4⟩:=hr.readSeg hrow hL hl;exact⟨_,_,l',rfl,h1,h2,h3,h4⟩
 ·simp at he
theorem EY(hr:HRel κ θ rows w)(hlow:low<=rows.length){vs:List AV}{vs':List Value}(hv:VL θ vs vs')(hone:∀u∈vs',u.oneCell'=true)(rest:Array Value)(T:TypeId)(c:Array Value)(hc:c.toList=vs'++rest.toList):
  Fr κ θ (θ.add rows.length ⟨w.heap.size,0,c.size⟩) rows (rows++[.cells vs]) low low w (w.drew.alloc (.cells c T)):=by
 refine Fr.push (w':=w.drew.alloc (.cells c T)) hr low hlow (.cells c T) rfl rfl rfl rfl 0 c.size (.cells vs) ⟨_,c,T,Th.add_self _ _ _,heap_alloc_new w.drew _,⟨?_,rfl,?_⟩⟩ rfl
 ·have:c.size=vs'.length+rest.size:=by rw[<-Array.length_toList,hc];simp
  have:=hv.1;simp only[Ads];omega
 ·intro j x hx
  obtain⟨x',p,q⟩:=hv.get hx;refine⟨x',?_,q.mono (Th.ext_add hr.none_len _),hone _ (Ac5 p)⟩;have hj:j<vs'.length:=(AcF.1 p).1;rw[Ads,<-Array.getElem?_toList,hc,AcD hj];exact p
theorem Ha{n m sz c:Nat}{θ:Th}{rows:List Row}{B top:Nat}(hcap:n+m<=c)(hsz:c*sz<=top):
  V (θ.add rows.length ⟨B,0,top⟩) (.slice rows.length 0 (n+m) (.op sz)) (.slice (some ⟨B,0,none⟩) (n+m) c):=
 .sliceOp (L:=⟨B,0,top⟩) (Th.add_self _ _ _) (fun _=>rfl) (by simpa using hsz) hcap
theorem Ec{z:Value}{sz:Nat}(hz:z.cells.size=sz){need cap:Nat}(h:need<=cap){l:List Value}(hl:l.length=need*sz){A:Array Value}(hA:A.toList=l++(Builtin.zeroCells z.cells (cap-need)).toList):A.size=cap*sz:=by
 have:=congrArg List.length hA;rw[Array.length_toList (xs:=A),AcO,Array.length_toList (xs:=Builtin.zeroCells z.cells (cap-need)),size_zeroCells,hz,hl,<-Nat.add_mul]at this;rw[this];congr 1;omega
theorem N4{n b:Nat}(h:¬lim<n)(hb:b<=1024):(n:Int)<=9223372036854775807/\n*b<=140737488355328:=by
 unfold lim at h;refine⟨by omega,?_⟩;have:n*b<=1073741824*1024:=Ac1 (by omega) hb;omega
theorem VV(hr:HRel κ θ rows w)(hlow:low<=rows.length){t ty e:TypeId}(hu:P.underlying t=some (.slice e)){i:TypeInfo}(hi:P.info? e=some i){z:Value}(hz:i.zero=some z)(hzs:z.cells.size=i.size)(hpos:0<i.size)(hby:i.bytes<=1024)
  {s x:Opd} {g:Opd->AV} {s' x':Value} (hs:V θ (g s) s') (hx:V θ (g x) x') {v:AV} {rows':List Row} {low':Nat} {by_:Nat} (he:Au g rows low (.app i.size by_ s x)=some (v,rows',low')):
  ∃θ' w' v',(Builtin.append_ #[t,t] ty #[s',x']).run P w = .ok v' w'/\V θ' v v'/\Fr κ θ θ' rows rows' low low' w w':=by
 simp only[Au]at he
 split at he
 ·simp at he
 rename_i ys m hel;have hE:=JW hr hx hel
 split at he
 ·rename_i hm
  rcases hE with ⟨_,q,c,rfl⟩|⟨h,_⟩
  case inr=>omega
  split at he<;>first|(simp at he;done)|skip
  ·rename_i e1
   rw[e1]at hs;simp only[AcI,AcQ]at he;obtain⟨rfl,rfl,rfl⟩:=he;cases hs;exact⟨θ,w,_,CH hu hi _ _ _ _ _ (AcE _),.nilslice,Fr.refl hr low⟩
  ·rename_i id off n cap e1
   rw[e1]at hs;simp only[AcI,AcQ]at he;obtain⟨rfl,rfl,rfl⟩:=he;have hs0:=hs;cases hs with
   |sliceAt hL ho hlc=>exact⟨θ,w,_,CH hu hi _ _ _ _ _ hlc,hs0,Fr.refl hr low⟩
   |sliceOp hL ho hto hlc=>exact⟨θ,w,_,CH hu hi _ _ _ _ _ hlc,hs0,Fr.refl hr low⟩
 ·rename_i hm
  rcases hE with ⟨h,_⟩|⟨hm0,p,c,ys',rfl,hy,hyl,hyc,hy1⟩
  ·omega
  split at he
  ·simp at he
  rename_i hlim
  split at he
  ·-- a nil slice
   rename_i e1;rw[e1]at hs;simp only[AcI,AcQ]at he;obtain⟨rfl,rfl,rfl⟩:=he;cases hs;obtain⟨l1,l2⟩:=N4 hlim hby;have hrun:=run_append_nil (P:=P) w t ty e i z hu hi hz p m c ys' hyl hyc hm0 l1 (by omega);have hge:=grownCap_ge w m 0 e;refine⟨_,_,_,hrun,?_,EY hr hlow hy hy1 (Builtin.zeroCells z.cells (grownCap w m 0 e-m)) e _ (by simp)⟩;have hsz:=Ec (z:=z) hzs hge hyl (A:=ys'.toArray++Builtin.zeroCells z.cells (grownCap w m 0 e-m)) (by rw[Array.toList_append]);have:=Ha (θ:=θ) (rows:=rows) (B:=w.heap.size) (n:=0) (m:=m) (sz:=i.size) (c:=grownCap w m 0 e) (top:=(ys'.toArray++Builtin.zeroCells z.cells (grownCap w m 0 e-m)).size) (by omega) (by omega);simpa using this
  ·-- a capacity that is known
   rename_i id off n cap e1;rw[e1]at hs;cases hs with
   |sliceAt hL ho hlc=>
   rename_i o L
   split at he
   ·simp at he
   rename_i hlim2
   split at he
   ·rename_i hroom
    split at he
    case h_2=>simp at he
    rename_i vs hid
    split at he
    case isFalse=>simp at he
    rename_i hfit;simp only[AcI,AcQ]at he;obtain⟨rfl,rfl,rfl⟩:=he;have:=ho (by omega);subst this;obtain⟨L',c0,T,hL',hb,hc⟩:=hr.row id _ hid;rw[hL]at hL';injection hL' with hL';subst hL'
    have hyy:ys.length=ys'.length:=hy.1;have h2:=hc.1;have hrun:=EE (P:=P) (w:=w) (ty:=ty) hu hi L.b (L.d+off) n cap p m c ys' hyl hyc hy1 hroom hb (by omega);refine⟨θ,_,_,hrun,.sliceAt hL (fun _=>rfl) hroom,I4 hr hid hL hb ?_⟩;have:=hc.splice hy hy1 (off:=off+n*i.size) (by omega);rw[<-Nat.add_assoc]at this;exact this
   ·rename_i hroom
    split at he
    case h_2=>simp at he
    rename_i vs hrow
    split at he
    case h_2=>simp at he
    rename_i xs hxs;simp only[AcI,AcQ]at he;obtain⟨rfl,rfl,rfl⟩:=he;obtain⟨l1,l2⟩:=N4 hlim2 hby;obtain⟨xs',hxV,hxl,hxc,hx1⟩:=hr.readSeg hrow hL hxs;have hxc':∀j u,xs'[j]?=some u->w.cell? ((⟨L.b,o,none⟩:Addr).add j)=some u:=fun j u hj=>by
     have hjl:j<xs'.length:=(AcF.1 hj).1;have hn0:0<n:=by
      rcases Nat.eq_zero_or_pos n with h|h
      ·subst h;simp at hxl;subst hxl;simp at hjl
      ·exact h
     have:=ho (by omega);subst this;exact hxc j u hj
    have hrun:=run_append_grow (P:=P) w t ty e i z hu hi hz ⟨L.b,o,none⟩ n cap xs' hxl hxc' p m c ys' hyl hyc (by omega) (by omega) (growslice_fits (by omega) l2);have hge:=grownCap_ge w (n+m) cap e;have hlist:(xs'.toArray++ys'.toArray++Builtin.zeroCells z.cells (grownCap w (n+m) cap e-(n+m))).toList=(xs'++ys')++(Builtin.zeroCells z.cells (grownCap w (n+m) cap e-(n+m))).toList:=by rw[Array.toList_append,Array.toList_append]
    refine⟨_,_,_,hrun,?_,EY hr hlow (hxV.append hy) (fun u hu=>by rcases Ac2.1 hu with h|h;exact hx1 u h;exact hy1 u h) _ e _ hlist⟩;have hsz:=Ec (z:=z) hzs hge (l:=xs'++ys') (by rw[AcO,hxl,hyl,Aex]) hlist;exact Ha hge (Nat.le_of_eq hsz.symm)
  ·-- a capacity that is not known
   rename_i id off n sz' e1;rw[e1]at hs;cases hs with
   |sliceOp hL ho hto hlc=>
   rename_i cc o L
   split at he
   ·simp at he
   rename_i hlim2;have hsz':sz'=i.size:=by
    rcases Nat.decEq sz' i.size with h|h
    ·exact absurd (.inr h) hlim2
    ·exact h
   subst hsz';have hlim3:¬lim<n+m:=fun h=>hlim2 (.inl h)
   split at he
   case h_2=>simp at he
   rename_i vs hid
   split at he
   case h_2=>simp at he
   rename_i xs hxs;simp only[AcI,AcQ]at he;obtain⟨rfl,rfl,rfl⟩:=he;obtain⟨l1,l2⟩:=N4 hlim3 hby;have hrow:Ae rows id=some vs:=by simp[Ae,hid]
   obtain⟨xs',hxV,hxl,hxc,hx1⟩:=hr.readSeg hrow hL hxs;obtain⟨L',c0,T,hL',hb,hc⟩:=hr.row id _ hid;rw[hL]at hL';injection hL' with hL';subst hL'
   have hxc':∀j u,xs'[j]?=some u->w.cell? ((⟨L.b,o,none⟩:Addr).add j)=some u:=fun j u hj=>by
    have hjl:j<xs'.length:=(AcF.1 hj).1;have hn0:0<n:=by
     rcases Nat.eq_zero_or_pos n with h|h
     ·subst h;simp at hxl;subst hxl;simp at hjl
     ·exact h
    have:=ho (by omega);subst this;exact hxc j u hj
   have hone:∀u∈xs'++ys',u.oneCell'=true:=fun u hu=>by rcases Ac2.1 hu with h|h;exact hx1 u h;exact hy1 u h
   by_cases hroom:n+m<=cc
   ·have htop:=hc.2.1
    have hfit:o+n*i.size+ys'.length<=c0.size:=by
     have:(n+m)*i.size<=cc*i.size:=Ady _ hroom;rw[Aex]at this;omega
    have hrun:=EE (P:=P) (w:=w) (ty:=ty) hu hi L.b o n cc p m c ys' hyl hyc hy1 hroom hb hfit;refine⟨θ.add rows.length ⟨L.b,o,L.top⟩,_,_,hrun,?_,Fr.turn hr low hlow hid rfl hL (by simp) (fun k hk=>setRow_other w L.b k _ hk) rfl rfl rfl o L.top (.cells (xs++ys)) ⟨⟨L.b,o,L.top⟩,_,T,Th.add_self _ _ _,setRow_heap w L.b c0 _ T (0,0) hb,⟨?_,?_,?_⟩⟩ rfl⟩
    ·exact .sliceOp (L:=⟨L.b,o,L.top⟩) (Th.add_self _ _ _) (fun _=>rfl) hto hroom
    ·have:=hxV.1;have:=hy.1
     simp;omega
    ·simp;omega
    ·intro j x hx
     have e1:(List.take (o+n*i.size) c0.toList).length=o+n*i.size:=by simp;omega
     rw[List.getElem?_toArray];simp only;rcases Adc j xs.length with h|h
     ·rw[AcD h]at hx
      obtain⟨x',q1,q2⟩:=hxV.get hx;have:=hxV.1;refine⟨x',?_,q2.mono (Th.ext_add hr.none_len _),hx1 _ (Ac5 q1)⟩;rw[AcD (by omega),AcZ (by omega)];have:=hxc' j x' q1;rw[Br]at this;simpa[World.cell?,hb]using this
     ·rw[AcG h]at hx
      obtain⟨x',q1,q2⟩:=hy.get hx;have:=hxV.1;have hjl:=(AcF.1 q1).1;refine⟨x',?_,q2.mono (Th.ext_add hr.none_len _),hy1 _ (Ac5 q1)⟩;rw[AcG (by omega),e1,AcD (by omega),show o+j-(o+n*i.size)=j-xs.length from by omega];exact q1
   ·have hrun:=run_append_grow (P:=P) w t ty e i z hu hi hz ⟨L.b,o,none⟩ n cc xs' hxl hxc' p m c ys' hyl hyc (by omega) (by omega) (growslice_fits (by omega) l2)
    have hge:=grownCap_ge w (n+m) cc e;have hlist:(xs'.toArray++ys'.toArray++Builtin.zeroCells z.cells (grownCap w (n+m) cc e-(n+m))).toList=(xs'++ys')++(Builtin.zeroCells z.cells (grownCap w (n+m) cc e-(n+m))).toList:=by rw[Array.toList_append,Array.toList_append]
    have hk:=Fr.kill hr low id;have hg:=EY (low:=Ab low id) hk.rel (by simp;exact AcP (AW _ _) hlow) (hxV.append hy) hone _ e _ hlist;simp only[Adh]at hg;refine⟨_,_,_,hrun,?_,Fr.trans hr hk hg⟩;have hsz:=Ec (z:=z) hzs hge (l:=xs'++ys') (by rw[AcO,hxl,hyl,Aex]) hlist;exact Ha hge (Nat.le_of_eq hsz.symm)
  ·simp at he
theorem Ru(hr:HRel κ θ rows w)(hlow:low<=rows.length){t u ty e:TypeId}(hu:P.underlying t=some (.slice e)){k:IntKind}(hu2:P.underlying u=some (.int k)){i:TypeInfo}(hi:P.info? e=some i){z:Value}(hz:i.zero=some z)(hzs:(cv z).cells.length=1)(hz1:(cv z).cells.all AV.one=true)(hsz:i.size=1)(hby:i.bytes<=1024)
  {s x:Opd} {g:Opd->AV} {s' x':Value} (hs:V θ (g s) s') (hx:V θ (g x) x') {v:AV} {rows':List Row} {low':Nat} (he:Au g rows low (.appz (cv z).cells s x)=some (v,rows',low')):
  ∃θ' w' v',(Builtin.append_ #[t,u] ty #[s',x']).run P w = .ok v' w'/\V θ' v v'/\Fr κ θ θ' rows rows' low low' w w':=by
 simp only[Au]at he
 split at he
 case h_2=>simp at he
 rename_i k' n e1 e2
 split at he
 case isFalse=>simp at he
 rename_i hc;obtain⟨h0,h1⟩:=hc;simp only[AcI,AcQ]at he;obtain⟨rfl,rfl,rfl⟩:=he;rw[e1]at hs;rw[e2]at hx;cases hs;cases hx;have hzV:=DL (θ:=θ) z hz1;have hzl:z.cells.size=1:=by have:=hzV.1;simp at this;omega
 have hn1:n<=1073741824:=by unfold lim at h1;omega
 have w1:IntKind.i64.wrap n=n:=by simp[IntKind.wrap,IntKind.min,IntKind.max,IntKind.signed,IntKind.bits];omega
 obtain⟨m,rfl⟩:∃m:Nat,n=m:=⟨n.toNat,by omega⟩
 have hm0:m≠0:=by omega
 have hm:0<m:=by omega
 have hge:=grownCap_ge w m 0 e;have hb:m*i.bytes<=1073741824*1024:=Ac1 (by omega) hby;have hb2:¬(281474976710656<(m:Int)*(i.bytes:Int)):=by
  have:(m:Int)*(i.bytes:Int)=((m*i.bytes:Nat):Int):=by simp
  omega
 have h48:¬(281474976710656<Builtin.nextslicecap m 0*i.bytes):=by rw[nextslicecap_zero hm];omega
 have h63:¬(9223372036854775807<(m:Int)):=by omega
 have hrun:(Builtin.append_ #[t,u] ty #[.slice none 0 0,.int k' m]).run P w=
   .ok (.slice (some ⟨w.heap.size,0,none⟩) m (grownCap w m 0 e)) (w.drew.alloc (.cells (Builtin.zeroCells z.cells m++Builtin.zeroCells z.cells (grownCap w m 0 e-m)) e)):=by
  simp[Builtin.append_,run_underlying hu,run_underlying hu2,sizeOf,typeInfo,zeroValue,hi,hz,hsz,asInt,asIntOf,w1,hm0,hb2,h48,h63,Question.forced,run_firstCells_none,newRow,grownCap];intro h;omega
 have hzc:Builtin.zeroCells z.cells m=(Array.range (m*(cv z).cells.length)).map (z.cells[· % z.cells.size]!):=by
  unfold Builtin.zeroCells;rw[hzl,hzs]
 have hvl:=JR hzV m (by omega);rw[<-hzc]at hvl;have hall:((List.replicate m (cv z).cells).flatten).all AV.one=true:=by
  refine AcT.2 fun x hx=>?_
  obtain⟨l,hl,hx⟩:=List.mem_flatten.1 hx;rw[(List.mem_replicate.1 hl).2]at hx;exact AcT.1 hz1 x hx
 refine⟨_,_,_,hrun,?_,EY hr hlow hvl (Ea hvl hall) (Builtin.zeroCells z.cells (grownCap w m 0 e-m)) e _ (by simp)⟩;have hsz2:(Builtin.zeroCells z.cells m++Builtin.zeroCells z.cells (grownCap w m 0 e-m)).size=grownCap w m 0 e*1:=by
  rw[Array.size_append,size_zeroCells,size_zeroCells,hzl];omega
 have:=Ha (θ:=θ) (rows:=rows) (B:=w.heap.size) (n:=0) (m:=m) (sz:=1) (c:=grownCap w m 0 e) (top:=(Builtin.zeroCells z.cells m++Builtin.zeroCells z.cells (grownCap w m 0 e-m)).size) (by omega) (by omega);simpa using this
end ops
end Go.Abs
namespace Go.Abs
variable {κ:Fw}
section ops
variable {P:Program}{gl:List Nat}{θ:Th}{rows:List Row}{w:World}{sl:List AV}{a:Act}{low:Nat}
theorem Em(vs:List AV)(off:Nat)(x:AV)(h:off<vs.length):splice vs off [x]=vs.set off x:=by
 unfold splice;rw[List.set_eq_take_append_cons_drop,if_pos h];simp
theorem Hd(k:IntKind)(n:Int):Instr.sameBits 10000 (.int k n) (.int k n)=true:=by simp[Instr.sameBits]
theorem Ld(hr:HRel κ θ rows w){t kt e:TypeId}{ik:IntKind}(hu:P.underlying t=some (.map kt e))(hk:P.underlying kt=some (.int ik)){m k x:AV}{m' k' x':Value}(hm:V θ m m')(hkV:V θ k k')(hx:V θ x x')
  {id:Nat} (em:m = .map id) {es:List (AV×AV)} (hid:rows[id]?=some (.mp es)) {r:Option (Nat×AV)} (hf:CC k es 0=some r) (hself:r=none->(Cx k k).isSome=true):
  ∃w',(Instr.mapUpdate t m' k' x').run P w = .ok () w'/\Fr κ θ θ rows (rows.set id (.mp (match r with|some (i,_)=>es.set i (k,x)|none=>es++[(k,x)]))) low (Ab low id) w w':=by
 subst em;cases hm with
 |map hL=>
 rename_i L;obtain⟨L',es',clock,hL',hb,hsz,hes⟩:=hr.row id _ hid;rw[hL]at hL';injection hL' with hL';subst hL'
 have key:=Do (θ:=θ) (kt:=.int ik) rfl hkV es es'.toList 0 r (by simpa using hsz) (fun j e h=>by simpa using hes j e h) hf;have hchk:(Instr.checkKey false 10000 kt k').run P w = .ok () w:=by
  have:∀d,(Instr.checkKey false (d+1) kt k').run P w = .ok () w:=fun d=>by simp[Instr.checkKey,run_underlying hk]
  exact this 9999
 have hlt:L.b<w.heap.size:=hr.blk id L hL;have fr:∀(es2:Array MapEntry) (cl2:Nat) (l2:List (AV×AV)),es2.size=l2.length->(∀(i:Nat) (e:AV×AV),l2[i]?=some e->∃e',es2[i]?=some e'/\V θ e.1 e'.key/\V θ e.2 e'.val)->
   Fr κ θ θ rows (rows.set id (.mp l2)) low (Ab low id) w {w with heap:=w.heap.setIfInBounds L.b (.map es2 cl2)}:=fun es2 cl2 l2 h1 h2=>
  Fr.setrow (w':={w with heap:=w.heap.setIfInBounds L.b (.map es2 cl2)}) hr low hid rfl hL (by simp) (fun k hk=>by simp only;rw[Array.getElem?_setIfInBounds,if_neg (fun h=>hk h.symm)]) rfl rfl rfl (.mp l2)
   ⟨L,es2,cl2,hL,by simp[Array.getElem?_setIfInBounds,hlt],h1,h2⟩ rfl
 cases r with
 |some p=>
  obtain⟨j,v1⟩:=p;obtain⟨v',f1,f2,_,f3,⟨ik2,n,hk2⟩,e',f4,f5⟩:=key;simp only[Nat.sub_zero]at f4;have f4':es'[j]?=some e':=by simpa using f4
  refine⟨_,?_,fr (es'.modify j fun e=>{e with key:=k',val:=x'}) clock (es.set j (k,x)) (by simp[hsz]) ?_⟩
  ·subst hk2
   simp[Instr.mapUpdate,run_underlying hu,getObj,setObj,Sem.run,hb,hchk,Instr.findKey,run_underlying hk,f1,f4',f5,Instr.keyThatStays,Hd]
  ·intro i e he
   rw[Adu]at he;rw[Array.getElem?_modify]
   split at he
   ·rename_i q
    subst q
    split at he
    ·injection he with he
     subst he;exact⟨_,by simp[f4'];rfl,hkV,hx⟩
    ·simp at he
   ·rename_i q
    obtain⟨e2,g1,g2,g3⟩:=hes i e he;exact⟨e2,by simp[q,g1],g2,g3⟩
 |none=>
  obtain⟨b,hb2⟩:=Option.isSome_iff_exists.1 (hself rfl);refine⟨_,?_,fr (es'.push {key:=k',val:=x',born:=clock}) (clock+1) (es++[(k,x)]) (by simp[hsz]) ?_⟩
  ·simp only[]at key
   simp[Instr.mapUpdate,run_underlying hu,getObj,setObj,Sem.run,hb,hchk,Instr.findKey,run_underlying hk,key]
  ·intro i e he
   rw[As]at he;rw[Array.getElem?_push,hsz]
   split at he
   ·rename_i q
    injection he with he
    subst he;exact⟨_,by simp[q];rfl,hkV,hx⟩
   ·rename_i q
    obtain⟨e2,g1,g2,g3⟩:=hes i e he;exact⟨e2,by rw[if_neg q];exact g1,g2,g3⟩
theorem BK{s:Sem Value}{o:Oper}(he:execOp a.eval o=(do pure (Next.value (<-s)))){θ':Th}{w':World}{v':Value}{v:AV}{rows':List Row}{low':Nat}(h:s.run P w = .ok v' w')(hv:V θ' v v')(hf:Fr κ θ θ' rows rows' low low' w w'):Eff κ P θ rows low w a o v rows' low':=
 ⟨θ',w',.value v',v',by rw[he,Sem.run_bind,h];rfl,.inl rfl,hv,hf⟩
theorem EU{s:Sem Unit}{o:Oper}(he:execOp a.eval o=(do s;pure Next.skip)){w':World}{rows':List Row}{low':Nat}(h:s.run P w = .ok () w')(hf:Fr κ θ θ rows rows' low low' w w'):Eff κ P θ rows low w a o (.tup []) rows' low':=
 ⟨θ,w',.skip,undef,by rw[he,Sem.run_bind,h];rfl,.inr ⟨rfl,rfl⟩,PF θ,hf⟩
theorem J2{o:Oper}{io:IOp}(hc:cop P gl o=some io)(hne:∀tab f args,io ≠ .call tab f args){v:AV}{rows':List Row}{low':Nat}(he:Au (Ak sl) rows low io=some (v,rows',low'))(hr:HRel κ θ rows w)(hg:GRel θ gl)(hs:SRel θ sl a.tmps)
  (hlow:low<=rows.length):Eff κ P θ rows low w a o v rows' low':=by
 have pure_case:Au (Ak sl) rows low io=(Af rows (Ak sl) io).map (fun v=>(v,rows,low))->Eff κ P θ rows low w a o v rows' low':=by
  intro h;rw[h]at he;simp only[AcK,AcQ]at he;obtain⟨v0,h0,rfl,rfl,rfl⟩:=he;obtain⟨v',h1,h2⟩:=Kc hc h0 hr hg hs;exact⟨θ,w,_,v',h1,.inl rfl,h2,Fr.refl hr low⟩
 obtain⟨dst,op,ty,pos,aft,gd⟩:=o;cases op<;>simp only[cop,reduceCtorEq]at hc
 case alloc t=>
  simp only[AcK]at hc;obtain⟨z,hz,rfl⟩:=hc;simp only[Au]at he
  split at he
  case isFalse=>simp at he
  rename_i h1;simp only[AcI,AcQ]at he;obtain⟨rfl,rfl,rfl⟩:=he;obtain⟨i,z',hi,hzz,rfl⟩:=Bn hz;simp only[Ak]at h1;obtain⟨θ',w',r1,r2,r3⟩:=NX (P:=P) hr hlow (Zm θ z') h1 t;refine BK (s:=Instr.alloc t true (.tuple #[])) rfl ?_ r2 r3;simpa[Instr.alloc,Instr.box,zeroValue,typeInfo,hi,hzz]using r1
 case box t x=>
  injection hc with hc;subst hc
  simp only[Au]at he
  split at he
  case isFalse=>simp at he
  rename_i h1;simp only[AcI,AcQ]at he;obtain⟨rfl,rfl,rfl⟩:=he;obtain⟨θ',w',r1,r2,r3⟩:=NX (P:=P) hr hlow (AD hg hs x) h1 t;exact BK (s:=Instr.box t (a.eval x)) rfl r1 r2 r3
 case buildSlice t len ps=>
  split at hc
  ·rename_i e hu
   split at hc
   ·rename_i n z hn hz
    split at hc
    ·rename_i hcond
     obtain⟨c1,c2,c3,c4⟩:=hcond;injection hc with hc;subst hc
     simp only[Au]at he
     split at he
     case h_2=>simp at he
     rename_i cs hcs;simp only[AcI,AcQ]at he;obtain⟨rfl,rfl,rfl⟩:=he;obtain⟨i,z',hi,hzz,rfl⟩:=Bn hz;have hzV:=DL (θ:=θ) z' c4;have hzl:z'.cells.size=n:=by have:=hzV.1;simp at this;omega
     have hz0:=JR hzV len (by omega);obtain⟨cs',f1,f2⟩:=Ci hg hs _ _ ps.toList _ cs _ (En (gl:=gl) n ps.toList) hcs hz0;have hone:∀u∈cs'.toList,u.oneCell'=true:=by
      have hall:cs.all AV.one=true:=by
       have gen:∀(l:List (Nat×Nat×Opd)) (z0 c0:List AV),z0.all AV.one=true->Ap (Ak sl) l z0=some c0->c0.all AV.one=true:=by
        intro l
        induction l with
        |nil=>intro z0 c0 h0 h1;simp only[Ap,AcI]at h1;subst h1;exact h0
        |cons p l ih=>
         intro z0 c0 h0 h1;obtain⟨off,size,x⟩:=p;simp only[Ap]at h1
         split at h1
         ·rename_i hq
          refine ih _ _ ?_ h1;unfold splice;simp only[AdW,Ac3];refine⟨⟨?_,hq.2.2⟩,?_⟩
          ·exact AcT.2 fun x hx=>AcT.1 h0 x (List.mem_of_mem_take hx)
          ·exact AcT.2 fun x hx=>AcT.1 h0 x (List.mem_of_mem_drop hx)
         ·simp at h1
       refine gen _ _ _ ?_ hcs;refine AcT.2 fun x hx=>?_
       obtain⟨l,hl,hx⟩:=List.mem_flatten.1 hx;rw[(List.mem_replicate.1 hl).2]at hx;exact AcT.1 c4 x hx
      exact Ea f2 hall
     refine BK (θ':=θ.add rows.length ⟨w.heap.size,0,cs'.size⟩) (w':={w with heap:=w.heap.push (.cells cs' e)}) (s:=Instr.buildSlice t len (ps.map fun(i,x)=>(i,a.eval x))) rfl (v':=.slice (some ⟨w.heap.size,0,none⟩) len len) ?_ ?_ (Fb hr hlow f2 hone e)
     ·have hsz:¬(16777216<len*n):=by omega
      rw[c2]at f1
      by_cases h0:len*n=0
      ·have hl0:len=0:=by
        rcases Aew.1 h0 with h|h
        ·exact h
        ·omega
       subst hl0;have hr0:Array.range 0 = #[]:=rfl;simp[hr0]at f1;simp[Instr.buildSlice,run_underlying hu,AX hn,newRow,newObj,Sem.run,hr0,f1]
      ·simp at f1
       simp[Instr.buildSlice,run_underlying hu,AX hn,hsz,h0,zeroValue,typeInfo,hi,hzz,newRow,newObj,Sem.run,f1]
     ·have:=V.sliceAt (id:=rows.length) (off:=0) (len:=len) (c:=len) (o:=0) (Th.add_self θ rows.length ⟨w.heap.size,0,cs'.size⟩) (fun _=>rfl) (AcE _)
      simpa using this
    ·simp at hc
   ·simp at hc
  ·simp at hc
 case store t x y=>
  split at hc
  ·rename_i n hag hn
   injection hc with hc;subst hc
   simp only[Au]at he
   split at he
   case h_2=>simp at he
   rename_i id off l ex ey
   split at he
   case h_2=>simp at he
   rename_i vs hid
   split at he
   case isFalse=>simp at he
   rename_i hcond;obtain⟨c1,c2,c3⟩:=hcond;simp only[AcI,AcQ]at he;obtain⟨rfl,rfl,rfl⟩:=he;have hx:=AD hg hs x;have hy:=AD hg hs y;rw[ey]at hy;generalize hq:a.eval y=y' at *;cases hy with
   |agg p q=>
   rename_i l';have hl:VL θ l l':=⟨p,q⟩
   obtain⟨w',r1,r2⟩:=Gy (P:=P) (low:=low) hr hx ex hl (x':=.agg l'.toArray) (by simp[Value.cells]) (by rw[c1];exact hn) hid (by omega) (Ea hl c3);exact EU (s:=Instr.storeAt t (a.eval x) (a.eval y)) rfl (by rw[hq];exact r1) r2
  ·rename_i n hag hn
   split at hc
   ·rename_i hn1
    subst hn1;injection hc with hc;subst hc
    simp only[Au]at he
    split at he
    case h_2=>simp at he
    rename_i id off ex
    split at he
    case h_2=>simp at he
    rename_i vs hid
    split at he
    case isFalse=>simp at he
    rename_i hcond;obtain⟨c1,c2⟩:=hcond;simp only[AcI,AcQ]at he;obtain⟨rfl,rfl,rfl⟩:=he;have hx:=AD hg hs x;have hy:=AD hg hs y;obtain⟨o1,o2⟩:=V.oneCell hy c2;have hl:VL θ [Ak sl (co gl y)] [a.eval y]:=VL.cons hy (VL.nil θ);obtain⟨w',r1,r2⟩:=Gy (P:=P) (low:=low) hr hx ex hl (by rw[o2]) hn hid (by simp;omega) (by simpa using o1);rw[Em _ _ _ c1]at r2;exact EU (s:=Instr.storeAt t (a.eval x) (a.eval y)) rfl r1 r2
   ·simp at hc
  ·simp at hc
 case makeMap t r=>
  cases r with
  |some r=>simp at hc
  |none=>
   injection hc with hc;subst hc
   simp only[Au,AcI,AcQ]at he;obtain⟨rfl,rfl,rfl⟩:=he;have hf:=Fr.push (w':={w with heap:=w.heap.push (.map #[] 0)}) hr low hlow (.map #[] 0) rfl rfl rfl rfl 0 0 (.mp []) ⟨_,#[],0,Th.add_self _ _ _,by simp,rfl,fun i e h=>by simp at h⟩ rfl;refine BK (s:=Instr.makeMap t none) rfl (v':=.map (some w.heap.size)) ?_ ?_ hf
   ·simp[Instr.makeMap,newObj,Sem.run]
   ·exact V.map (Th.add_self θ rows.length ⟨w.heap.size,0,0⟩)
 case makeSlice t l c=>
  split at hc
  ·rename_i e hu
   split at hc
   ·rename_i n z b hn hz hb
    split at hc
    ·rename_i hcond
     obtain⟨c1,c2,c3,c4⟩:=hcond;injection hc with hc;subst hc
     simp only[Au]at he
     split at he
     case h_2=>simp at he
     rename_i k1 m1 k2 m2 e1 e2
     split at he
     case isFalse=>simp at he
     rename_i hcc;obtain⟨d1,d2,d3⟩:=hcc;simp only[AcI,AcQ]at he;obtain⟨rfl,rfl,rfl⟩:=he;have hl:=AD hg hs l;have hcV:=AD hg hs c;rw[e1]at hl;rw[e2]at hcV;obtain⟨i,z',hi,hzz,rfl⟩:=Bn hz;have hzV:=DL (θ:=θ) z' c3;have hz0:=JR hzV m2.toNat (by omega);have hsz:i.size=n:=by obtain⟨j,hj,hjs⟩:=DR hn;rw[hi]at hj;injection hj with hj;rw[hj];exact hjs
     have hby:i.bytes=b:=by
      unfold GG at hb;simp[hi]at hb;exact hb
     have hall:((List.replicate m2.toNat (cv z').cells).flatten).all AV.one=true:=by
      refine AcT.2 fun x hx=>?_
      obtain⟨l,hl,hx⟩:=List.mem_flatten.1 hx;rw[(List.mem_replicate.1 hl).2]at hx;exact AcT.1 c3 x hx
     refine BK (s:=Instr.makeSlice t (a.eval l) (a.eval c)) rfl (v':=.slice (some ⟨w.heap.size,0,none⟩) m1.toNat m2.toNat) ?_ ?_ (Fb hr hlow hz0 (Ea hz0 hall) e)
     ·generalize hq1:a.eval l=l' at *
      generalize hq2:a.eval c=c' at *;cases hl;cases hcV;have hm2:m2<=1073741824:=by unfold lim at d3;omega
      have w1:IntKind.i64.wrap m1=m1:=by simp[IntKind.wrap,IntKind.min,IntKind.max,IntKind.signed,IntKind.bits];omega
      have w2:IntKind.i64.wrap m2=m2:=by simp[IntKind.wrap,IntKind.min,IntKind.max,IntKind.signed,IntKind.bits];omega
      have hb2:(i.bytes:Int)*m2<=281474976710656:=by
       have h1:(i.bytes:Int)*m2<=1024*m2:=Int.mul_le_mul_of_nonneg_right (by omega) (by omega);omega
      have hb1:(i.bytes:Int)*m1<=281474976710656:=by
       have h1:(i.bytes:Int)*m1<=1024*m1:=Int.mul_le_mul_of_nonneg_right (by omega) (by omega);omega
      have hroom:¬(roomBytes<m2.toNat*i.bytes):=by
       have:m2.toNat*i.bytes<=1073741824*1024:=Ac1 (by omega) (by omega);unfold roomBytes;omega
      have hz1:z'.cells.size=n:=by have:=hzV.1;simp at this;omega
      have hn1:i.size=z'.cells.size:=by omega
      by_cases hm0:m2.toNat=0
      ·have e0:m2=0:=by omega
       subst e0;have e0:m1=0:=by omega
       subst e0;simp[Instr.makeSlice,run_underlying hu,asInt,asIntOf,typeInfo,hi,w1,askRoom,roomBytes,sizeOf,newRow,newObj,Sem.run,show Array.range 0 = #[]from rfl]
      ·simp[Instr.makeSlice,run_underlying hu,asInt,asIntOf,typeInfo,hi,w1,w2,d1,d2,hb1,hb2,askRoom,hroom,sizeOf,hn1,hm0,zeroValue,hzz,newRow,newObj,Sem.run,c1,c2]
       have hm3:¬m2.toNat*z'.cells.size=0:=by
        have h1:0<m2.toNat:=by omega
        have h2:0<z'.cells.size:=by omega
        have:=Ad1 h1 h2;omega
       rw[if_neg (by omega),if_neg hm3,hz1]
     ·have:=V.sliceAt (id:=rows.length) (off:=0) (len:=m1.toNat) (c:=m2.toNat) (o:=0) (Th.add_self θ rows.length ⟨w.heap.size,0,((Array.range (m2.toNat*(cv z').cells.length)).map (z'.cells[· % z'.cells.size]!)).size⟩) (fun _=>rfl) (by omega)
      simpa using this
    ·simp at hc
   ·simp at hc
  ·simp at hc
 case mapUpdate t m k x=>
  split at hc
  ·rename_i kt e hu
   split at hc
   ·rename_i ik hk
    injection hc with hc;subst hc
    simp only[Au]at he
    split at he
    case h_2=>simp at he
    rename_i id em
    split at he
    case h_2=>simp at he
    rename_i es hid;have hm:=AD hg hs m;have hkV:=AD hg hs k;have hx:=AD hg hs x
    split at he
    ·rename_i i v1 hf
     simp only[AcI,AcQ]at he;obtain⟨rfl,rfl,rfl⟩:=he;obtain⟨w',r1,r2⟩:=Ld (P:=P) (low:=low) hr hu hk hm hkV hx em hid hf (fun h=>by simp at h);exact EU (s:=Instr.mapUpdate t (a.eval m) (a.eval k) (a.eval x)) rfl r1 r2
    ·rename_i hf
     split at he
     case isFalse=>simp at he
     rename_i hself;simp only[AcI,AcQ]at he;obtain⟨rfl,rfl,rfl⟩:=he;obtain⟨w',r1,r2⟩:=Ld (P:=P) (low:=low) hr hu hk hm hkV hx em hid hf (fun _=>hself);exact EU (s:=Instr.mapUpdate t (a.eval m) (a.eval k) (a.eval x)) rfl r1 r2
    ·simp at he
   ·simp at hc
  ·simp at hc
 case call c=>
  obtain⟨callee,args,ats⟩:=c;cases callee with
  |value f=>simp only[AcI]at hc;subst hc;exact absurd rfl (hne _ _ _)
  |invoke r m=>
   simp only at hc
   split at hc<;>first|(simp at hc;done)|(injection hc with hc;exact absurd hc.symm (hne _ _ _))
  |builtin b=>
   cases b<;>simp only[reduceCtorEq]at hc
   case append=>
    split at hc
    ·rename_i t u s x ht hu0 hs0 hx0
     split at hc
     ·rename_i e e2 hu hu2
      split at hc
      ·simp at hc
      rename_i htu;have htu:t=u:=by simpa using htu
      subst htu
      split at hc
      ·rename_i n b z hn hb hz
       split at hc
       ·rename_i hcond
        obtain⟨c1,c2,c3,c4⟩:=hcond;injection hc with hc;subst hc
        obtain⟨i,z',hi,hzz,rfl⟩:=Bn hz;have hsz:i.size=n:=by obtain⟨j,hj,hjs⟩:=DR hn;rw[hi]at hj;injection hj with hj;rw[hj];exact hjs
        have hby:i.bytes=b:=by
         unfold GG at hb;simp[hi]at hb;exact hb
        have hzV:=DL (θ:=θ) z' c4;have hzs:z'.cells.size=i.size:=by have:=hzV.1;simp at this;omega
        subst hsz;obtain⟨θ',w',v',r1,r2,r3⟩:=VV (P:=P) (ty:=ty) hr hlow hu hi hzz hzs c2 (by omega) (AD hg hs s) (AD hg hs x) he;refine BK (s:=Builtin.append_ ats ty (args.map a.eval)) (by simp[execOp,resolve,invoke,builtin]) ?_ r2 r3;have e1:(args.map a.eval)[0]?=some (a.eval s):=by simp[hs0]
        have e2:(args.map a.eval)[1]?=some (a.eval x):=by simp[hx0]
        rw[<-r1];unfold Builtin.append_;rw[ht,hu0,e1,e2]
        rfl
       ·simp at hc
      ·simp at hc
     ·rename_i e k2 hu hu2
      split at hc
      ·rename_i n b z hn hb hz
       split at hc
       ·rename_i hcond
        obtain⟨c1,c2,c3,c4⟩:=hcond;injection hc with hc;subst hc
        obtain⟨i,z',hi,hzz,rfl⟩:=Bn hz;have hsz:i.size=n:=by obtain⟨j,hj,hjs⟩:=DR hn;rw[hi]at hj;injection hj with hj;rw[hj];exact hjs
        have hby:i.bytes=b:=by
         unfold GG at hb;simp[hi]at hb;exact hb
        obtain⟨θ',w',v',r1,r2,r3⟩:=Ru (P:=P) (ty:=ty) hr hlow hu hu2 hi hzz c3 c4 (by omega) (by omega) (AD hg hs s) (AD hg hs x) he;refine BK (s:=Builtin.append_ ats ty (args.map a.eval)) (by simp[execOp,resolve,invoke,builtin]) ?_ r2 r3;have e1:(args.map a.eval)[0]?=some (a.eval s):=by simp[hs0]
        have e2:(args.map a.eval)[1]?=some (a.eval x):=by simp[hx0]
        rw[<-r1];unfold Builtin.append_;rw[ht,hu0,e1,e2]
        rfl
       ·simp at hc
      ·simp at hc
     ·simp at hc
    ·simp at hc
   all_goals
    refine pure_case ?_
    repeat' split at hc
    all_goals first
     |(simp at hc;done)
     |(injection hc with hc;subst hc;rfl)
     |(simp only[AcK]at hc;obtain⟨_,_,rfl⟩:=hc;rfl)
 case makeFunc fn fi cs=>
  cases fn<;>simp only[reduceCtorEq]at hc
  split at hc
  ·injection hc with hc;subst hc;exact pure_case rfl
  ·split at hc
   ·injection hc with hc;subst hc;exact pure_case rfl
   ·simp at hc
 all_goals
  refine pure_case ?_
  repeat' split at hc
  all_goals first
   |(simp at hc;done)
   |(injection hc with hc;subst hc;rfl)
   |(simp only[AcK]at hc;obtain⟨_,_,rfl⟩:=hc;rfl)
end ops
end Go.Abs
namespace Go.Abs
variable {κ:Fw}
theorem Dt{l:List AV}{i:Nat}{x:AV}(h:l[i]?=some x){j:Nat}(hj:j∈x.ids):j∈AV.ids.idsL l:=by
 induction l generalizing i with
 |nil=>simp at h
 |cons y l ih=>
  simp only[AV.ids.idsL,Ac2];cases i with
  |zero=>simp at h;subst h;exact .inl hj
  |succ i=>exact .inr (ih (by simpa using h))
theorem V.to{θ θ':Th}{v:AV}{v':Value}(h:V θ v v'):(∀id∈v.ids,∀L,θ id=some L->θ' id=some L)->V θ' v v':=by
 induction h with
 |bool b=>intro _;exact .bool b
 |int k n=>intro _;exact .int k n
 |str s=>intro _;exact .str s
 |ptr e=>intro h;exact .ptr (h _ (by simp[AV.ids]) _ e)
 |nilptr=>intro _;exact .nilptr
 |sliceAt e a b=>intro h;exact .sliceAt (h _ (by simp[AV.ids]) _ e) a b
 |sliceOp e a b c=>intro h;exact .sliceOp (h _ (by simp[AV.ids]) _ e) a b c
 |nilslice=>intro _;exact .nilslice
 |map e=>intro h;exact .map (h _ (by simp[AV.ids]) _ e)
 |nilmap=>intro _;exact .nilmap
 |func a _ ih=>intro h;exact .func a (fun i x x' p q=>ih i x x' p q (fun id hid=>h id (by simp only[AV.ids];exact Dt p hid)))
 |yield e=>intro h;exact .yield (h _ (by simp[AV.ids]) _ e)
 |nilfunc=>intro _;exact .nilfunc
 |niliface=>intro _;exact .niliface
 |iface h0 _ ih=>intro h;exact .iface h0 (ih h)
 |bound a _ ih=>intro h;exact .bound a (fun i x x' p q=>ih i x x' p q (fun id hid=>h id (by simp only[AV.ids,AV.ids.idsL,AdI];exact Dt p hid)))
 |agg a _ ih=>intro h;exact .agg a (fun i x x' p q=>ih i x x' p q (fun id hid=>h id (by simp only[AV.ids];exact Dt p hid)))
 |tup a _ ih=>intro h;exact .tup a (fun i x x' p q=>ih i x x' p q (fun id hid=>h id (by simp only[AV.ids];exact Dt p hid)))
 |any v'=>intro _;exact .any v'
theorem Fr.weaken{θ θ':Th}{rows rows':List Row}{low low' low2 low2':Nat}{w w':World}(h:Fr κ θ θ' rows rows' low low' w w')(h1:low2'<=low')(h2:low2'<=low2):Fr κ θ θ' rows rows' low2 low2' w w' where
 ext:=h.ext
 rel:=h.rel
 len:=h.len
 low:=h2
 os:=h.os
 tape:=h.tape
 output:=h.output
 size:=h.size
 keepA:=fun id hi=>h.keepA id (Adl hi h1)
 keepB:=fun b hb hn=>h.keepB b hb (fun id r L a o c d=>hn id r L a o (AcP h1 c) d)
 own:=h.own
 alive:=h.alive
 fresh:=fun id L a e=>let ⟨p,q⟩:=h.fresh id L a e
  ⟨p,q.imp (fun x=>x) (fun⟨j,r,L',a,b,c,d⟩=>⟨j,r,L',a,b,AcP h1 c,d⟩)⟩
section
variable {θ θ':Th}{rows rows':List Row}{w w':World}
theorem Fr.clean(hr:HRel κ θ rows w)(h:Fr κ θ θ' rows rows' rows.length rows.length w w')(b:Nat)(hb:b<w.heap.size):w'.heap[b]?=w.heap[b]?:=
 h.keepB b hb (fun id r L a o c d=>by
  have:=(AcF.1 a).1
  omega)
theorem Fr.drop(hr:HRel κ θ rows w)(h:Fr κ θ θ' rows rows' rows.length rows.length w w')(low:Nat):Fr κ θ θ rows rows low low w w' where
 ext:=Ext.refl _
 rel:=⟨hr.dom,fun id L e=>Adl (hr.blk id L e) h.size,fun id r e=>(hr.row id r e).mono (Ext.refl _) (fun L hL=>Fr.clean hr h _ (hr.blk id L hL)),hr.inj⟩
 len:=AcE _
 low:=AcE _
 os:=h.os
 tape:=h.tape
 output:=h.output
 size:=h.size
 keepA:=fun _ _=>rfl
 keepB:=fun b hb _=>Fr.clean hr h b hb
 own:=fun id r a b _=>⟨r,a,b⟩
 alive:=fun id r a b _=>⟨r,a,b⟩
 fresh:=fun id L a b=>by rw[a]at b;simp at b
theorem Hn(hr:HRel κ θ rows w){low low':Nat}(h:Fr κ θ θ' rows rows' low low' w w'){id:Nat}(hid:id<rows.length){L:Loc}(hL:θ' id=some L):θ id=some L:=by
 cases e:θ id with
 |some L0=>
  have:=h.ext id L0 e;rw[hL]at this;exact this.symm
 |none=>
  have:=(h.fresh id L hL e).1;omega
theorem V.ren_top{θ θ2:Th}{i j:Nat}(hθ:∀L,θ i=some L->θ2 j=some L){v:AV}{v':Value}(hv:V θ v v')(hp:v.plain=true)(hin:∀id∈v.ids,id=i):V θ2 (v.ren i j) v':=by
 cases hv with
 | @ptr id off L e=>
  have:=hin id (by simp[AV.ids]);subst this;simp only[AV.ren,if_true];exact .ptr (hθ _ e)
 | @sliceAt id off len c o L e a b=>
  have:=hin id (by simp[AV.ids]);subst this;simp only[AV.ren,if_true];exact .sliceAt (hθ _ e) a b
 | @sliceOp id off len sz c o L e a b c'=>
  have:=hin id (by simp[AV.ids]);subst this;simp only[AV.ren,if_true];exact .sliceOp (hθ _ e) a b c'
 |bool b=>exact .bool b
 |int k n=>exact .int k n
 |str s=>exact .str s
 |nilptr=>exact .nilptr
 |nilslice=>exact .nilslice
 |map e=>simp[AV.plain,AV.ids]at hp
 |nilmap=>exact .nilmap
 |yield e=>simp[AV.plain,AV.ids]at hp
 |nilfunc=>exact .nilfunc
 |niliface=>exact .niliface
 |any v'=>exact .any v'
 | @func f l l' a b=>
  have h0:AV.ids.idsL l=[]:=by simpa[AV.plain,AV.ids]using hp
  exact V.to (.func a b) (fun id hid2=>by have hid3:id∈AV.ids.idsL l:=hid2;rw[h0]at hid3;simp at hid3)
 | @iface t v v' a0 a=>
  have h0:AV.ids v=[]:=by simpa[AV.plain,AV.ids]using hp
  exact V.to (.iface a0 a) (fun id hid2=>by have hid3:id∈v.ids:=hid2;rw[h0]at hid3;simp at hid3)
 | @bound f l l' a b=>
  have h0:AV.ids (.iface bd (.agg (.int .u64 f::l)))=[]:=by simpa[AV.plain,AV.ids]using hp
  exact V.to (.bound a b) (fun id hid2=>by have hid3:id∈AV.ids (.iface bd (.agg (.int .u64 f::l))):=hid2;rw[h0]at hid3;simp at hid3)
 | @agg l l' a b=>
  have h0:AV.ids.idsL l=[]:=by simpa[AV.plain,AV.ids]using hp
  exact V.to (.agg a b) (fun id hid2=>by have hid3:id∈AV.ids.idsL l:=hid2;rw[h0]at hid3;simp at hid3)
 | @tup l l' a b=>
  have h0:AV.ids.idsL l=[]:=by simpa[AV.plain,AV.ids]using hp
  exact V.to (.tup a b) (fun id hid2=>by have hid3:id∈AV.ids.idsL l:=hid2;rw[h0]at hid3;simp at hid3)
theorem V.ren1_top{θ θ2:Th}{i j:Nat}(hθ:∀L,θ i=some L->θ2 j=some L){v:AV}{v':Value}(hv:V θ v v')(hp:v.plain1=true)(hin:∀id∈v.ids,id=i):V θ2 (v.ren1 i j) v':=by
 cases v with
 |tup l=>
  cases hv with
  |tup a b=>
  rename_i l';refine .tup (by simpa using a) (fun k x x' p q=>?_);simp only[Ac9,AcK]at p;obtain⟨y,p,rfl⟩:=p;refine V.ren_top hθ (b k y x' p q) ?_ (fun id h=>hin id (by simp only[AV.ids];exact Dt p h));simp only[AV.plain1,AcT]at hp;exact hp y (Ac5 p)
 |_=>exact V.ren_top hθ hv hp hin
theorem V.back{b:Nat}(hθ:∀id,id<b->∀L,θ' id=some L->θ id=some L){v:AV}{v':Value}(hv:V θ' v v')(hu:v.under b=true):V θ v v':=
 hv.to fun id hid L hL=>hθ id (by simpa using AcT.1 hu id hid) L hL
theorem VL.back{b:Nat}(hθ:∀id,id<b->∀L,θ' id=some L->θ id=some L){l:List AV}{l':List Value}(hv:VL θ' l l')(hu:l.all (AV.under b)=true):VL θ l l':=
 ⟨hv.1,fun i x x' a c=>(hv.2 i x x' a c).back hθ (AcT.1 hu x (Ac5 a))⟩
theorem RowRel.back{b:Nat}(hθ:∀id,id<b->∀L,θ' id=some L->θ id=some L){id:Nat}{r:Row}(h:RowRel κ θ' id w r)(hu:r.under b=true)(hid:id<b):RowRel κ θ id w r:=by
 cases r with
 |cells vs=>
  obtain⟨L,c,T,h1,h2,h3⟩:=h;refine⟨L,c,T,hθ _ hid _ h1,h2,h3.1,h3.2.1,fun j x hx=>?_⟩;obtain⟨x',p1,p2,p3⟩:=h3.2.2 j x hx;exact⟨x',p1,p2.back hθ (AcT.1 hu x (Ac5 hx)),p3⟩
 |ro vs=>
  obtain⟨L,h1,h2⟩:=h;refine⟨L,hθ _ hid _ h1,fun j x hx=>?_⟩;obtain⟨x',p1,p2,p3⟩:=h2 j x hx;exact⟨x',p1,p2.back hθ (AcT.1 hu x (Ac5 hx)),p3⟩
 |mp es=>
  obtain⟨L,es',cl,h1,h2,h3,h4⟩:=h;refine⟨L,es',cl,hθ _ hid _ h1,h2,h3,fun i e he=>?_⟩;obtain⟨e',p1,p2,p3⟩:=h4 i e he;have:=AcT.1 hu e (Ac5 he);simp only[Ac3]at this;exact⟨e',p1,p2.back hθ this.1,p3.back hθ this.2⟩
 |loop st pend sl ps asg body=>
  obtain⟨L,r,h1,h2,h3,h4,h5,h6,h7,h8⟩:=h;exact⟨L,r,hθ _ hid _ h1,h2,h3,h4,h5.back hθ hu,h6,h7,h8⟩
 |mark=>exact h
 |dead=>trivial
theorem HD(hr:HRel κ θ rows w){low low':Nat}(h:Fr κ θ θ' rows rows' low low' w w'){v:AV}{v':Value}(hv:V θ' v v'):
  ∃θ2,V θ2 v v'/\Fr κ θ θ2 rows (gc rows.length low' v rows') low low' w w':=by
 unfold gc
 split
 case isFalse=>exact⟨θ',hv,h⟩
 rename_i hc;simp only[Ac3]at hc;obtain⟨hc1,hc2⟩:=hc;have hθ:∀id,id<rows.length->∀L,θ' id=some L->θ id=some L:=fun id hid L hL=>Hn hr h hid hL
 have hget:∀id r,(rows'.take rows.length)[id]?=some r->id<rows.length/\rows'[id]?=some r:=fun id r e=>by
  rw[Aev]at e
  split at e
  ·exact⟨by assumption,e⟩
  ·simp at e
 refine⟨θ,hv.back hθ hc1,Ext.refl _,⟨fun id L e=>?_,fun id L e=>Adl (hr.blk id L e) h.size,fun id r e=>?_,fun i j r s L L' hne hi ho hj hl hL hL'=>?_⟩,?_,h.low,h.os,h.tape,h.output,h.size,fun id hid=>?_,h.keepB,fun id r a o hi=>h.own id r (hget id r a).2 o hi,fun id r a o hi=>h.alive id r (hget id r a).2 o hi,fun id L a b=>by rw[a]at b;simp at b⟩
 ·have:=hr.dom id L e
  have:=h.len;simp;omega
 ·obtain⟨h1,h2⟩:=hget id r e
  rcases Adc id low' with hlt|hge
  ·have hold:rows[id]?=some r:=by rw[<-h.keepA id hlt];exact h2
   by_cases hd:r.live=true
   ·exact(hr.row id r hold).mono (Ext.refl _) (fun L hL=>h.keepB _ (hr.blk id L hL) (fun j s K a o c d hb=>hr.inj j id s r K L (by omega) a o hold hd d hL hb))
   ·have hdead:r = .dead:=by cases r<;>simp_all[Row.live]
    subst hdead;trivial
  ·refine(h.rel.row id r h2).back hθ ?_ h1
   refine AcT.1 hc2 r ?_;refine AeC.2 ⟨id-low',?_⟩;rw[Adr,show low'+(id-low')=id from by omega];exact e
 ·exact h.rel.inj i j r s L L' hne (hget i r hi).2 ho (hget j s hj).2 hl (h.ext _ _ hL) (h.ext _ _ hL')
 ·have:=h.len;simp;omega
 ·rw[<-h.keepA id hid,Aev]
  split
  ·rfl
  ·rename_i hge
   have:=h.len;have h0:rows[id]?=none:=Ac0 (by omega);rw[h.keepA id hid,h0]
theorem Ni(hr:HRel κ θ rows w){low low':Nat}(hlow:low<=rows.length)(h:Fr κ θ θ' rows rows' rows.length low' w w'){v:AV}{v':Value}(hv:V θ' v v'):
  ∃θ2,V θ2 (fin rows v rows' low').1 v'/\Fr κ θ θ2 rows (fin rows v rows' low').2.1 low (AC low (fin rows v rows' low').2.2) w w':=by
 unfold fin
 split
 ·rename_i hl
  subst hl;have keep:∃θ2,V θ2 v v'/\Fr κ θ θ2 rows rows' low low w w':=⟨θ',hv,h.weaken hlow (AcE _)⟩
  split
  ·rename_i hall
   refine⟨θ,hv.to (fun id hid L hL=>Hn hr h ?_ hL),Fr.drop hr h low⟩;simpa using AcT.1 hall id hid
  ·rename_i hall
   split
   ·rename_i i hi
    split
    ·rename_i vs hvs
     split
     ·rename_i hc
      simp only[Ac3]at hc;obtain⟨hc1,hc2⟩:=hc;have hge:rows.length<=i:=by
       rw[hi]at hall;simpa using hall
      obtain⟨L,c,T,hL,hb,hcr⟩:=h.rel.row i _ hvs;have hnone:θ i=none:=by
       cases e:θ i with
       |none=>rfl
       |some K=>have:=hr.dom i K e;omega
      have hnew:w.heap.size<=L.b:=by
       rcases(h.fresh i L hL hnone).2 with f|⟨j,r,L',a,_,b,_⟩
       ·exact f
       ·have:=(AcF.1 a).1
        omega
      have hE:Ext θ (θ.add rows.length L):=Th.ext_add hr.none_len L;refine⟨θ.add rows.length L,?_,?_⟩
      ·refine V.ren1_top (θ:=θ') (fun K hK=>?_) hv hc2 (fun id hid=>by rw[hi]at hid;simpa using hid)
       rw[hL]at hK;injection hK with hK;subst hK;exact Th.add_self _ _ _
      ·have hold:∀b,b<w.heap.size->w'.heap[b]?=w.heap[b]?:=fun b hb=>Fr.clean hr h b hb
       refine⟨hE,⟨?_,?_,?_,?_⟩,by simp,AcE _,h.os,h.tape,h.output,h.size,?_,fun b hb _=>hold b hb,?_,?_,?_⟩
       ·intro id K e
        by_cases hi2:id=rows.length
        ·subst hi2;simp
        ·rw[Th.add_ne _ _ hi2]at e
         have:=hr.dom id K e;simp;omega
       ·intro id K e
        by_cases hi2:id=rows.length
        ·subst hi2;rw[Th.add_self]at e;injection e with e;subst e;exact h.rel.blk i L hL
        ·rw[Th.add_ne _ _ hi2]at e
         exact Adl (hr.blk id K e) h.size
       ·intro id r e
        rw[As]at e
        split at e
        ·rename_i hi2
         subst hi2;injection e with e
         subst e;refine⟨L,c,T,Th.add_self _ _ _,hb,hcr.1,hcr.2.1,fun j x hx=>?_⟩;obtain⟨x',p1,p2,p3⟩:=hcr.2.2 j x hx;refine⟨x',p1,p2.to (fun id hid=>?_),p3⟩;have hx0:x.ids=[]:=by
          have:=AcT.1 hc1 x (Ac5 hx);simpa using this
         rw[hx0]at hid;simp at hid
        ·exact(hr.row id r e).mono hE (fun K hK=>hold _ (hr.blk id K hK))
       ·intro p q r s K K' hne hp hpo hq hql hK hK'
        rw[As]at hp hq
        by_cases e1:p=rows.length
        ·subst e1
         rw[Th.add_self]at hK;injection hK with hK;subst hK
         have e2:q≠rows.length:=fun e=>hne e.symm
         rw[Th.add_ne _ _ e2]at hK';have:=hr.blk q K' hK';omega
        ·rw[Th.add_ne _ _ e1]at hK
         rw[if_neg e1]at hp
         by_cases e2:q=rows.length
         ·subst e2
          rw[Th.add_self]at hK';injection hK' with hK';subst hK'
          have:=hr.blk p K hK;omega
         ·rw[Th.add_ne _ _ e2]at hK'
          rw[if_neg e2]at hq;exact hr.inj p q r s K K' hne hp hpo hq hql hK hK'
       ·intro id hid
        have:id<low:=hid;rw[As,if_neg (by omega)]
       ·intro id s e o hid
        rw[As,if_neg (by omega)]at e;exact⟨s,e,o⟩
       ·intro id s e o hid
        rw[As,if_neg (by omega)]at e;exact⟨s,e,o⟩
       ·intro id K e hn
        by_cases hi2:id=rows.length
        ·subst hi2;rw[Th.add_self]at e;injection e with e;subst e;exact⟨AcE _,.inl hnew⟩
        ·rw[Th.add_ne _ _ hi2,hn]at e;simp at e
     ·exact keep
    ·exact keep
   ·exact keep
 ·rename_i hl
  obtain⟨θ2,p,q⟩:=HD hr h hv;exact⟨θ2,p,q.weaken (AK _ _) (AW _ _)⟩
end
end Go.Abs
namespace Go.Abs
theorem Gw{sl sl':List AV}{x:Opd}(h:∀t∈x.tmps,sl.getD t .any=sl'.getD t .any):Ak sl x=Ak sl' x:=by
 cases x with
 |t n=>exact h n (by simp[Opd.tmps])
 |c v=>rfl
theorem Dh{g g':Opd->AV}:∀(ps:List (Nat×Nat×Opd)) (cs:List AV),(∀p∈ps,g p.2.2=g' p.2.2)->Ap g ps cs=Ap g' ps cs
 |[],_,_=>rfl
 |
  (off,size,x)::ps,cs,h=>by
  have h0:g x=g' x:=h (off,size,x) (by simp);simp only[Ap,h0]
  split
  ·exact Dh ps _ (fun p hp=>h p (by simp[hp]))
  ·rfl
theorem Bb{g g':Opd->AV}{o:Option Opd}(h:∀x∈o.toList,g x=g' x):o.map g=o.map g':=by
 cases o with
 |none=>rfl
 |some x=>simp[h x (by simp)]
theorem Kk{g g':Opd->AV}(rows:List Row)(low:Nat)(io:IOp)(h:∀x∈io.opds,g x=g' x):Au g rows low io=Au g' rows low io:=by
 cases io
 case mkagg z ps=>simp only[Au,Af,Dh ps z (fun p hp=>h p.2.2 (Ad0.2 ⟨p,hp,rfl⟩))]
 case mkslice n z ps=>simp only[Au,Dh ps z (fun p hp=>h p.2.2 (Ad0.2 ⟨p,hp,rfl⟩))]
 case mkfn f cs=>
  have:cs.map g=cs.map g':=AdM fun x hx=>h x hx
  simp only[Au,Af,this]
 case bind f cs=>
  have:cs.map g=cs.map g':=AdM fun x hx=>h x hx
  simp only[Au,Af,this]
 case mx cs=>
  have:cs.map g=cs.map g':=AdM fun x hx=>h x hx
  simp only[Au,Af,this]
 case mn cs=>
  have:cs.map g=cs.map g':=AdM fun x hx=>h x hx
  simp only[Au,Af,this]
 case sliceS sz x lo hi m=>
  have h0:g x=g' x:=h x (by simp[IOp.opds]);have h1:lo.map g=lo.map g':=Bb fun y hy=>h y (by simp only[IOp.opds,Ade,Ac2];exact .inr (.inl (.inl hy)))
  have h2:hi.map g=hi.map g':=Bb fun y hy=>h y (by simp only[IOp.opds,Ade,Ac2];exact .inr (.inl (.inr hy)))
  have h3:m.map g=m.map g':=Bb fun y hy=>h y (by simp only[IOp.opds,Ade,Ac2];exact .inr (.inr hy))
  simp only[Au,Af,h0,h1,h2,h3]
 case sliceA n sz x lo hi m=>
  have h0:g x=g' x:=h x (by simp[IOp.opds]);have h1:lo.map g=lo.map g':=Bb fun y hy=>h y (by simp only[IOp.opds,Ade,Ac2];exact .inr (.inl (.inl hy)))
  have h2:hi.map g=hi.map g':=Bb fun y hy=>h y (by simp only[IOp.opds,Ade,Ac2];exact .inr (.inl (.inr hy)))
  have h3:m.map g=m.map g':=Bb fun y hy=>h y (by simp only[IOp.opds,Ade,Ac2];exact .inr (.inr hy))
  simp only[Au,Af,h0,h1,h2,h3]
 all_goals
  simp only[IOp.opds,Ade,Aef,or_false,forall_eq_or_imp,forall_eq]at h
  first
   |rfl
   |(simp only[Au,Af,h];done)
   |(obtain⟨h1,h2⟩:=h;simp only[Au,Af,h1,h2];done)
   |(obtain⟨h1,h2,h3⟩:=h;simp only[Au,Af,h1,h2,h3];done)
theorem Mt{sl sl':List AV}{g:Option (Nat×Bool)}(h:∀t b,g=some (t,b)->sl.getD t .any=sl'.getD t .any):BL sl g=BL sl' g:=by
 cases g with
 |none=>rfl
 |some p=>obtain⟨t,b⟩:=p;simp only[BL,h t b rfl]
theorem FB{o:IOpx}{x:Opd}(hx:x∈o.op.opds){t:Nat}(ht:t∈x.tmps):t∈o.looks:=by
 unfold IOpx.looks;exact Ac2.2 (.inl (List.mem_flatMap.2 ⟨x,hx,ht⟩))
theorem J6{o:IOpx}{t:Nat}{b:Bool}(h:o.g=some (t,b)):t∈o.looks:=by
 unfold IOpx.looks;rw[h];simp
theorem BP{x y:IOpx}(h:C7 x y=true):(∀d,x.dst=some d->d∉y.looks)/\(∀d,x.dst=some d->y.dst≠some d)/\(∀d,y.dst=some d->d∉x.looks):=by
 refine⟨fun d hd=>?_,fun d hd=>?_,fun d hd=>?_⟩<;>simp[C7,hd]at h
 ·exact h.1.1
 ·exact h.1.2
 ·exact h.2
theorem B0(l:List Oper):∀(acc:Array Nat) (j i:Nat),
  let fold:=fun(acc:Array Nat) (o:Oper)=>acc.push (o.after.foldl (fun s e=>if Region.binds .any e then s ||| 2^e.on ||| acc.getD e.on 0 else s) 0)
  (∀k,k<acc.size->(l.foldl fold acc).getD k 0=acc.getD k 0)/\(l.foldl fold acc).size=acc.size+l.length:=by
 induction l with
 |nil=>intro acc j i;simp
 |cons o l ih=>
  intro acc j i;have:=ih (acc.push (o.after.foldl (fun s e=>if Region.binds .any e then s ||| 2^e.on ||| acc.getD e.on 0 else s) 0)) j i;refine⟨fun k hk=>?_,?_⟩
  ·have h1:=this.1 k (by simp;omega)
   rw[Aek,h1];simp[Array.getD,hk,show k<acc.size+1 from by omega,Array.getElem_push,hk]
  ·rw[Aek,this.2];simp;omega
theorem GU(acc:Array Nat)(i:Nat):∀(es:List Edge) (s:Nat),(es.foldl (fun s e=>if Region.binds .any e then s ||| 2^e.on ||| acc.getD e.on 0 else s) s).testBit i=true->
  s.testBit i=true\/∃e∈es,Region.binds .any e=true/\(e.on=i\/(acc.getD e.on 0).testBit i=true)
 |[],s,h=>.inl h
 |
  e::es,s,h=>by
  rw[Aek]at h;rcases GU acc i es _ h with h|⟨e',h1,h2⟩
  ·split at h
   ·rename_i hb
    simp only[Nat.testBit_or,Ael,Nat.testBit_two_pow,decide_eq_true_eq]at h;rcases h with (h|h)|h
    ·exact .inl h
    ·exact .inr ⟨e,by simp,hb,.inl h⟩
    ·exact .inr ⟨e,by simp,hb,.inr h⟩
   ·exact .inl h
  ·exact .inr ⟨e',by simp[h1],h2⟩
theorem Ef(ops:Array Oper)(hlt:∀j o,ops[j]?=some o->∀e∈o.after,Region.binds .any e=true->e.on<j){j i:Nat}(h:((Region.before ops).getD j 0).testBit i=true):
  ∃o,ops[j]?=some o/\∃e∈o.after,Region.binds .any e=true/\(e.on=i\/((Region.before ops).getD e.on 0).testBit i=true):=by
 have key:∀(l:List Oper) (acc:Array Nat),(∀k o,l[k]?=some o->∀e∈o.after,Region.binds .any e=true->e.on<acc.size+k)->∀j,acc.size<=j->
   ((l.foldl (fun(acc:Array Nat) (o:Oper)=>acc.push (o.after.foldl (fun s e=>if Region.binds .any e then s ||| 2^e.on ||| acc.getD e.on 0 else s) 0)) acc).getD j 0).testBit i=true->
   ∃o,l[j-acc.size]?=some o/\∃e∈o.after,Region.binds .any e=true/\(e.on=i\/((l.foldl (fun(acc:Array Nat) (o:Oper)=>acc.push (o.after.foldl (fun s e=>if Region.binds .any e then s ||| 2^e.on ||| acc.getD e.on 0 else s) 0)) acc).getD e.on 0).testBit i=true):=by
  intro l
  induction l with
  |nil=>
   intro acc _ j hj h;simp[Array.getD,show ¬j<acc.size from by omega]at h
  |cons o l ih=>
   intro acc he j hj h;rw[Aek]at h ⊢;have hst:=B0 l (acc.push (o.after.foldl (fun s e=>if Region.binds .any e then s ||| 2^e.on ||| acc.getD e.on 0 else s) 0)) j i;rcases AdJ hj with hj|hj
   ·subst hj
    refine⟨o,by simp,?_⟩;rw[hst.1 _ (by simp)]at h;simp only[Array.getD,Array.size_push,Nat.lt_add_one,dif_pos,Array.getInternal_eq_getElem,Array.getElem_push_eq]at h;rw[<-Array.foldl_toList]at h;rcases GU acc i _ _ h with h|⟨e,h1,h2,h3⟩
    ·simp at h
    ·refine⟨e,by simpa using h1,h2,?_⟩
     rcases h3 with h3|h3
     ·exact .inl h3
     ·refine .inr ?_
      have hlt:e.on<acc.size:=by have:=he 0 o rfl e (by simpa using h1) h2;omega
      rw[hst.1 _ (by simp;omega)];simp only[Array.getD,Array.size_push,show e.on<acc.size+1 from by omega,dif_pos,Array.getInternal_eq_getElem,Array.getElem_push_lt hlt];simpa[Array.getD,hlt]using h3
   ·obtain⟨o',h1,h2⟩:=ih _ (fun k o' hk e he' hb=>by
     have:=he (k+1) o' (by simpa using hk) e he' hb
     simp;omega) j (by simp;omega) h
    refine⟨o',?_,h2⟩;rw[Array.size_push]at h1;rw[show j-acc.size=(j-(acc.size+1))+1 from by omega];simpa using h1
 have:=key ops.toList #[] (fun k o hk e he hb=>by simpa using hlt k o (by simpa using hk) e he hb) j (by simp) (by
  unfold Region.before at h;rw[<-Array.foldl_toList]at h
  exact h)
 obtain⟨o,h1,e,h2,h3,h4⟩:=this;refine⟨o,by simpa using h1,e,h2,h3,?_⟩;rcases h4 with h4|h4
 ·exact .inl h4
 ·refine .inr ?_
  unfold Region.before;rw[<-Array.foldl_toList];exact h4
section
variable {P:Program}{gl:List Nat}
def Jd(P:Program)(gl:List Nat)(call:Nat->List AV->List Row->Option (AV×List Row×Option Nat)):Prop:=
 ∀(f:Nat) (vs:List AV) (rows:List Row) (v:AV) (rows':List Row) (d:Option Nat),call f vs rows=some (v,rows',d)->∀(θ:Th) (w:World) (args:Array Value) (cs:List Frame) (low:Nat),
  HRel (KP P gl) θ rows w->GRel θ gl->VL θ vs args.toList->low<=rows.length->
  (∃ func, P.funcs[f]? = some func ∧ func.body.isNone = false ∧ (func.name == "runtime.NumGoroutine") = false) ∧
  ∃θ' w' fr v',Steps P (lone (Frame.enter P f args .normal) cs w) (lone fr cs w')/\fr.leaving P w' (.returned v')/\V θ' v v'/\Fr (KP P gl) θ θ' rows rows' low (AC low d) w w'
theorem VD(low:Nat)(d:Option Nat):AC low d<=low:=by cases d<;>simp[AC,AW]
theorem SRel.lt{θ:Th}{sl:List AV}{t:Array Value}(hs:SRel θ sl t){i:Nat}(h:sl.getD i .any ≠ .any):i<t.size:=by
 rw[<-hs.size];rcases Adc i sl.length with hi|hi
 ·exact hi
 ·exact absurd (by simp[List.getD,Ac0 hi]) h
theorem Cb{θ:Th}{sl:List AV}{a:Act}(hs:SRel θ sl a.tmps){ops:Array Oper}{o:Oper}{g:Option (Nat×Bool)}(hg:Lc ops o.guard=some g){c:Bool}(hw:BL sl g=some c):
  Region.wanted o (yielded ops a.tmps)=c:=by
 unfold Lc at hg
 split at hg
 ·rename_i e
  injection hg with hg
  subst hg;simp only[BL,AcI]at hw;subst hw;simp[Region.wanted,e]
 ·rename_i j b e
  split at hg
  case h_2=>simp at hg
  rename_i t ht;injection hg with hg
  subst hg;have hV:=hs.get t;simp only[BL]at hw
  split at hw
  ·rename_i c' e'
   injection hw with hw
   subst hw;have hlt:=hs.lt (i:=t) (by rw[e'];simp);rw[e']at hV;have:a.tmps[t]?=some (.bool c'):=by
    rw[Array.getElem?_eq_getElem hlt];simp only[Array.getD,hlt,dif_pos,Array.getInternal_eq_getElem]at hV;generalize a.tmps[t]=z at *;cases hV;rfl
   simp[Region.wanted,e,yielded,ht,this]
  ·rename_i e'
   injection hw with hw
   subst hw;have hlt:=hs.lt (i:=t) (by rw[e'];simp);rw[e']at hV;have:a.tmps[t]?=some (.tuple #[]):=by
    rw[Array.getElem?_eq_getElem hlt];simp only[Array.getD,hlt,dif_pos,Array.getInternal_eq_getElem]at hV;generalize a.tmps[t]=z at *;cases hV with
    | @tup l l' p q=>
     have:l'=[]:=AdC.1 p.symm;subst this
     rfl
   simp[Region.wanted,e,yielded,ht,this]
  ·simp at hw
theorem HX{o:Oper}{r:Option Nat}{ρ:Operand->Value}(h:∀c,o.op ≠ .defer c):o.semAt r ρ=execOp ρ o:=by
 unfold Oper.semAt;cases r with
 |none=>rfl
 |some l=>cases ho:o.op<;>first|rfl|exact absurd ho (h _)
theorem Jl{o:Oper}{io:IOp}(h:cop P gl o=some io):∀c,o.op ≠ .defer c:=by
 intro c e;obtain⟨dst,op,ty,pos,aft,gd⟩:=o;simp only at e;subst e;simp[cop]at h
theorem GL{b:Frame}{a:Act}{k:List Item}{cs:List Frame}{w w':World}{ops:Array Oper}{i:Nat}{rest:List Nat}{o:Oper}(ho:ops[i]?=some o)(hw:Region.wanted o (yielded ops a.tmps)=true)
  (hd:∀c,o.op ≠ .defer c) {nv:Next} {v':Value} (hrun:(execOp a.eval o).run P w = .ok nv w') (hnv:nv = .value v'\/(nv = .skip/\v'=undef)):
  step P (lone (b.atR a (.inRegion ops (i::rest)::k)) cs w) = .next (lone (b.atR (a.put o.dst v') (.inRegion ops rest::k)) cs w'):=by
 have hg:=stepGR_op (P:=P) (b:=b) (a:=a) (k:=k) (cs:=cs) (w:=w) (rest:=rest) ho hw;rw[HX hd]at hg;have hfin:∀v,(b.atR a (.inRegion ops (i::rest)::k)).finish v=b.atR (a.put o.dst v) (.inRegion ops rest::k):=by
  intro v;rw[Frame.finish_atR,ho];rfl
 refine step_lone_go ?_;rw[hg,<-hfin];rcases hnv with rfl|⟨rfl,rfl⟩
 ·simp[stepG.apply,hrun,Sem.runT_eq]
 ·simp[stepG.apply,hrun,Sem.runT_eq]
theorem Mu{b:Frame}{a:Act}{k:List Item}{cs:List Frame}{w w':World}{ops:Array Oper}{i:Nat}{rest:List Nat}{o:Oper}(ho:ops[i]?=some o)(hw:Region.wanted o (yielded ops a.tmps)=true)
  (hd:∀c,o.op ≠ .defer c) {f:FuncId} {args:Array Value} (hrun:(execOp a.eval o).run P w = .ok (.enter f args) w'):
  step P (lone (b.atR a (.inRegion ops (i::rest)::k)) cs w) = .next (lone (Frame.enter P f args .normal) (b.atR a (.inRegion ops (i::rest)::k)::cs) w'):=by
 have hg:=stepGR_op (P:=P) (b:=b) (a:=a) (k:=k) (cs:=cs) (w:=w) (rest:=rest) ho hw;rw[HX hd]at hg;refine step_lone_go ?_;rw[hg];simp[stepG.apply,hrun,Sem.runT_eq,Frame.atR]
theorem Im{ops:Array Oper}{o:Oper}(h:(DN P gl ops o).op ≠ .bad):∃g,Lc ops o.guard=some g/\cop P gl o=some (DN P gl ops o).op/\(DN P gl ops o).g=g/\(DN P gl ops o).dst=o.dst:=by
 unfold DN at h ⊢
 split at h
 ·rename_i g i e1 e2
  exact⟨g,e1,e2,rfl,rfl⟩
 ·exact absurd rfl h
 ·exact absurd rfl h
theorem KO{ops:Array Oper}{o:Oper}:(DN P gl ops o).dst=o.dst:=by
 unfold DN;split<;>rfl
theorem Jc{o:Oper}{tab:List (Nat×Nat)}{f:Opd}{args:List Opd}(h2:cop P gl o=some (.call tab f args)):
  ∃c,o.op = .call c/\args=c.args.toList.map (co gl)/\((tab=[]/\∃ff,c.callee = .value ff/\f=co gl ff)\/∃r m,c.callee = .invoke r m/\f=co gl r/\tab=Kn P m/\tab≠[]):=by
 obtain⟨dst,op,ty,pos,aft,gd⟩:=o;cases op<;>simp only[cop,reduceCtorEq]at h2
 case call c=>
  obtain⟨callee,cargs,ats⟩:=c;cases callee with
  |value ff=>
   simp only[AcI,IOp.call.injEq]at h2;exact⟨_,rfl,h2.2.2.symm,.inl ⟨h2.1.symm,ff,rfl,h2.2.1.symm⟩⟩
  |invoke r m=>
   simp only at h2
   split at h2
   ·simp at h2
   ·rename_i p tab' e
    simp only[AcI,IOp.call.injEq]at h2;exact⟨_,rfl,h2.2.2.symm,.inr ⟨r,m,rfl,h2.2.1.symm,by rw[e];exact h2.1.symm,by rw[<-h2.1];simp⟩⟩
  |builtin bb=>
   cases bb<;>simp only[reduceCtorEq]at h2
   all_goals
    repeat' split at h2
    all_goals first
     |(simp at h2;done)
     |(simp only[AcK]at h2;obtain⟨_,_,h2⟩:=h2;simp at h2;done)
 case makeFunc fn fi cs=>
  cases fn<;>simp only[reduceCtorEq]at h2
  split at h2
  ·simp at h2
  ·split at h2<;>simp at h2
 all_goals
  repeat' split at h2
  all_goals first
   |(simp at h2;done)
   |(simp only[AcK]at h2;obtain⟨_,_,h2⟩:=h2;simp at h2;done)
   |contradiction
theorem E0{α:Type}{n:Nat}{c:α}:∀{l:List (Nat×α)},l.lookup n=some c->(n,c)∈l
 |[],h=>by simp at h
 |
  (m,d)::l,h=>by
  rw[List.lookup_cons]at h
  split at h
  ·rename_i e
   injection h with h
   subst h;rw[beq_iff_eq]at e;subst e;exact Ad4
  ·exact Adz _ (E0 h)
theorem Mx{t:TypeId}{m:String}{f:Nat}(h:UU P t m=some f)(n:Nat)(v:Value)(w:World):(method (n+1) t v m).run P w = .ok (f,v) w:=by
 unfold UU at h
 split at h
 case h_2=>simp at h
 rename_i i hi
 split at h
 case h_2=>simp at h
 rename_i me hm
 split at h
 case isFalse=>simp at h
 rename_i hp
 split at h
 case h_2=>simp at h
 rename_i f' pr hf;have hpl:me.path.toList=[]:=by
  have:me.path = #[]:=by simpa using hp
  rw[this]
 split at h
 ·rename_i e hu
  split at h
  case isFalse=>simp at h
  rename_i hpr;injection h with h
  subst h;subst hpr;simp[method,typeInfo,hi,hm,hpl,follow,hf,receiverAt,run_underlying hu,Place.get]
 ·rename_i d hne hu
  split at h
  ·simp at h
  rename_i hpr;injection h with h
  subst h;have hpr':pr=false:=by simpa using hpr
  subst hpr';cases d<;>first
   |(exact(hne _ rfl).elim)
   |simp[method,typeInfo,hi,hm,hpl,follow,hf,receiverAt,run_underlying hu,Place.get]
 ·simp at h
theorem LU{θ:Th}{sl:List AV}{a:Act}{w:World}(hg:GRel θ gl)(hs:SRel θ sl a.tmps){o:Oper}{tab:List (Nat×Nat)}{f:Opd}{args:List Opd}(h2:cop P gl o=some (.call tab f args)){fid:Nat}{vs:List AV}
  (ht:Aw tab (Ak sl f) (args.map (Ak sl))=some (fid,vs)):
  ∃ args' : Array Value, VL θ vs args'.toList ∧ ∀ func : Func, P.funcs[fid]? = some func → func.body.isNone = false → (func.name == "runtime.NumGoroutine") = false → (execOp a.eval o).run P w = .ok (.enter fid args') w := by
 obtain⟨c,ho,rfl,hcase⟩:=Jc h2;obtain⟨callee,cargs,ats⟩:=c;obtain⟨dst,op,ty,pos,aft,gd⟩:=o;simp only at ho hcase;subst ho;have hargs:=FX (a:=a) hg hs cargs;unfold Aw at ht
 split at ht
 ·-- a function
  rename_i f' caps e;rcases hcase with ⟨_,ff,rfl,rfl⟩|⟨r,m,_,_,_,hne⟩
  case inr=>exact absurd rfl hne
  simp only[AcI,AcQ]at ht;obtain⟨rfl,rfl⟩:=ht;have hV:=AD hg hs ff;rw[e]at hV;generalize hq:a.eval ff=z at *;cases hV with
  | @func f l l' p q=>
  refine⟨cargs.map a.eval++l'.toArray,by simpa using hargs.append ⟨p,q⟩,fun func hfu hb hn=>?_⟩;simp[execOp,resolve,hq,Deferred.ofValue,invoke,callFunc,hfu];rw[if_neg (by simpa using hn),if_neg (by intro h;rw[h]at hb;simp at hb)]
 ·-- bound arguments
  rename_i t v e;rcases hcase with ⟨_,ff,rfl,rfl⟩|⟨r,m,_,_,_,hne⟩
  case inr=>exact absurd rfl hne
  obtain⟨⟨f',caps⟩,hbo,hp⟩:=AcK.1 ht;obtain⟨fi,rfl,rfl,hf'⟩:=Iu hbo;simp only[AcQ]at hp hf';obtain⟨rfl,rfl⟩:=hp;subst hf';have hV:=AD hg hs ff;rw[e]at hV;generalize hq:a.eval ff=z at *;cases hV with
  |iface h0 _=>omega
  | @bound f l l' p q=>
  refine⟨l'.toArray++cargs.map a.eval,by simpa using VL.append ⟨p,q⟩ hargs,fun func hfu hb hn=>?_⟩;rw[Adf]at hfu;simp[execOp,resolve,hq,Deferred.ofValue,invoke,callFunc,hfu];rw[if_neg (by simpa using hn),if_neg (by intro h;rw[h]at hb;simp at hb)]
 ·-- a method
  rename_i p tab' t v e;rcases hcase with ⟨h0,_⟩|⟨r,m,rfl,rfl,htab,_⟩
  ·simp at h0
  split at ht
  ·simp at ht
  rename_i htb;obtain⟨f',hlk,hp⟩:=AcK.1 ht;simp only[AcQ]at hp;obtain⟨rfl,rfl⟩:=hp;rw[htab]at hlk;have hm:=E0 hlk;simp only[Kn,List.mem_filterMap,AcK,AcQ]at hm;obtain⟨t',_,f2,hm,h3,h4⟩:=hm;subst h3;subst h4;have hV:=AD hg hs r;rw[e]at hV;generalize hq:a.eval r=z at *;cases hV with
  |bound=>exact absurd rfl htb
  | @iface _ _ v' _ hv=>
  refine⟨#[v']++cargs.map a.eval,by simpa using VL.cons hv hargs,fun func hfu hb hn=>?_⟩;have hme:=Mx (P:=P) hm (P.types.size+Made.depth-1) v' w;rw[show P.types.size+Made.depth-1+1=P.types.size+Made.depth from by simp[Made.depth]]at hme;have hmm:(method (P.types.size+Made.depth) t' v' m).run P w = .ok (f2,v') w:=hme;have hcf:∀xs:Array Value,(callFunc f2 xs).run P w = .ok (.enter f2 xs) w:=fun xs=>by
   simp[callFunc,hfu];rw[if_neg (by simpa using hn),if_neg (by intro h;rw[h]at hb;simp at hb)]
  have hcm:∀xs:Array Value,(callMethod (.iface t' v') m xs).run P w = .ok (.enter f2 (#[v']++xs)) w:=fun xs=>by
   simp[callMethod,hmm,hcf]
  have e0:(#[Value.iface t' v']++cargs.map a.eval)[0]?=some (.iface t' v'):=by
   rw[Array.getElem?_append_left (by simp)];rfl
  have e1:(#[Value.iface t' v']++cargs.map a.eval).extract 1 (#[Value.iface t' v']++cargs.map a.eval).size=cargs.map a.eval:=by
   apply Array.ext';simp;rw[Adq (by simp)]
  have hinv:(invoke (.fn (.method m) #[]) (#[Value.iface t' v']++cargs.map a.eval)).run P w = .ok (.enter f2 (#[v']++cargs.map a.eval)) w:=by
   simp only[invoke,e0,e1,hcm]
  simp only[execOp,resolve,hq,Sem.run_bind,Sem.run_pure,Result.andThen_ok,hinv]
 ·simp at ht
theorem OX{call:Nat->List AV->List Row->Option (AV×List Row×Option Nat)}(hcall:Jd P gl call){ops:Array Oper}{i:Nat}{o:Oper}(ho:ops[i]?=some o){θ:Th}{sl:List AV}{rows:List Row}{low:Nat}{w:World}{a:Act}{v:AV}{rows':List Row}{low':Nat}
  (hop:opR call sl rows low (DN P gl ops o)=some (v,rows',low')) (hr:HRel (KP P gl) θ rows w) (hg:GRel θ gl) (hs:SRel θ sl a.tmps) (hlow:low<=rows.length) (b:Frame) (rest:List Nat) (k:List Item) (cs:List Frame):
  ∃θ' w' v',Steps P (lone (b.atR a (.inRegion ops (i::rest)::k)) cs w) (lone (b.atR (a.put o.dst v') (.inRegion ops rest::k)) cs w')/\V θ' v v'/\Fr (KP P gl) θ θ' rows rows' low low' w w':=by
 unfold opR at hop
 split at hop
 ·simp at hop
 ·rename_i hw
  simp only[AcI,AcQ]at hop;obtain⟨rfl,rfl,rfl⟩:=hop;have hwr:Region.wanted o (yielded ops a.tmps)=false:=by
   unfold DN at hw
   split at hw
   ·rename_i g i' e1 e2;exact Cb hs e1 hw
   ·rename_i g e1 e2;exact Cb hs e1 hw
   ·simp[BL]at hw
  have hst:=stepR_op_skip (P:=P) (b:=b) (a:=a) (k:=k) (cs:=cs) (w:=w) (ops:=ops) (i:=i) (rest:=rest) (by simp[ho,hwr]);simp only[ho,Ac4]at hst;exact⟨θ,w,undef,.one hst,PF θ,Fr.refl hr low⟩
 ·rename_i hw
  have hbad:(DN P gl ops o).op ≠ .bad:=by
   intro e;rw[e]at hop;simp[Au,Af]at hop
  obtain⟨g,h1,h2,h3,h4⟩:=Im hbad;rw[h3]at hw;have hwr:=Cb hs h1 hw;have hd:=Jl h2
  split at hop
  ·rename_i tab f args e
   rw[e]at h2
   split at hop
   ·rename_i fid vs ht
    split at hop
    ·rename_i v0 rows0 d hc
     simp only[AcI,AcQ]at hop;obtain⟨rfl,rfl,rfl⟩:=hop;obtain⟨args',hv,hrun⟩:=LU (P:=P) (w:=w) hg hs h2 ht;obtain⟨⟨func,f1,f2,f3⟩,θ',w',fr,v',s1,s2,s3,s4⟩:=hcall fid vs rows v0 rows0 d hc θ w args' (b.atR a (.inRegion ops (i::rest)::k)::cs) low hr hg hv hlow;have henter:=Mu (P:=P) (b:=b) (k:=k) (cs:=cs) (rest:=rest) ho hwr hd (hrun func f1 f2 f3);have hfin:(b.atR a (.inRegion ops (i::rest)::k)).finish v'=b.atR (a.put o.dst v') (.inRegion ops rest::k):=by
      rw[Frame.finish_atR,ho];rfl
     refine⟨θ',w',v',.head henter (s1.trans (.one ?_)),s3,s4⟩;rw[<-hfin];exact step_leave_returned s2
    ·simp at hop
   ·simp at hop
  ·rename_i hne
   obtain⟨θ',w',nv,v',r1,r2,r3,r4⟩:=J2 h2 (fun tab f args e=>hne tab f args e) hop hr hg hs hlow;exact⟨θ',w',v',.one (GL ho hwr hd r1 r2),r3,r4⟩
end
variable {κ:Fw}
structure Tr(call:Nat->List AV->List Row->Option (AV×List Row×Option Nat))(B:Nat->List Row)(N:Nat)(L:Nat->IOpx×Nat)(i m:Nat)(SL:Nat->List AV)(EX:Nat->List (Nat×Row))(v:Nat->AV)(rw_:Nat->List Row):Prop where
 op:∀p,i<=p->p<m->opR call (SL p) (B p++Ai (L p).2 (EX p)) (N+(EX p).length) (L p).1=some (v p,rw_ p,N+(EX p).length)
 sl:∀p,i<=p->p<m->SL (p+1)=BE (SL p) (L p).1.dst (v p)
 ex:∀p,i<=p->p<m->EX (p+1)=EX p++((rw_ p).drop (N+(EX p).length)).map fun x=>(p,x)
theorem De{call:Nat->List AV->List Row->Option (AV×List Row×Option Nat)}{B:Nat->List Row}{N:Nat}(hB:∀p,(B p).length=N):∀(l:List (IOpx×Nat)) (i:Nat) (sl:List AV) (ext:List (Nat×Row)) (slm:List AV) (extm:List (Nat×Row)) (L:Nat->IOpx×Nat),(∀p q,l[p]?=some q->L (i+p)=q)->
  At call B i l sl ext=some (slm,extm)->∃SL EX v rw_,SL i=sl/\EX i=ext/\SL (i+l.length)=slm/\EX (i+l.length)=extm/\Tr call B N L i (i+l.length) SL EX v rw_
 |
  [],i,sl,ext,slm,extm,L,hL,h=>by
  simp only[At,AcI,AcQ]at h;obtain⟨rfl,rfl⟩:=h;exact⟨fun _=>sl,fun _=>ext,fun _=>.any,fun _=>[],rfl,rfl,rfl,rfl,⟨fun p a b=>by simp at b;omega,fun p a b=>by simp at b;omega,fun p a b=>by simp at b;omega⟩⟩
 |
  (o,b)::l,i,sl,ext,slm,extm,L,hL,h=>by
  simp only[At,hB]at h
  split at h
  case h_2=>simp at h
  rename_i v0 rows' low' hop
  split at h
  case isFalse=>simp at h
  rename_i hlow;subst hlow
  obtain⟨SL,EX,v,rw_,h1,h2,h3,h4,h5⟩:=De hB l (i+1) _ _ slm extm L (fun p q hp=>by
   have:=hL (p+1) q (by simpa using hp)
   rwa[show i+(p+1)=i+1+p from by omega]at this) h
  have hLi:L i=(o,b):=by have:=hL 0 (o,b) rfl;simpa using this
  refine⟨fun q=>if q=i then sl else SL q,fun q=>if q=i then ext else EX q,fun q=>if q=i then v0 else v q,fun q=>if q=i then rows' else rw_ q,by simp,by simp,?_,?_,⟨?_,?_,?_⟩⟩
  ·simp only[AcU]
   rw[if_neg (by omega),<-h3];congr 1;omega
  ·simp only[AcU]
   rw[if_neg (by omega),<-h4];congr 1;omega
  ·intro p hp hm
   simp only[AcU]at hm
   by_cases e:p=i
   ·subst e
    simp only[if_true,hLi];exact hop
   ·simp only[if_neg e]
    exact h5.op p (by omega) (by omega)
  ·intro p hp hm
   simp only[AcU]at hm
   by_cases e:p=i
   ·subst e
    simp only[if_true,hLi];rw[if_neg (by omega),h1]
   ·simp only[if_neg e]
    rw[if_neg (by omega)];exact h5.sl p (by omega) (by omega)
  ·intro p hp hm
   simp only[AcU]at hm
   by_cases e:p=i
   ·subst e
    simp only[if_true];rw[if_neg (by omega),h2]
   ·simp only[if_neg e]
    rw[if_neg (by omega)];exact h5.ex p (by omega) (by omega)
def AQ(sl0:List AV)(n0:Nat)(L:Nat->IOpx×Nat)(v:Nat->AV)(n:Nat->Nat)(S:Nat->Bool):Nat->Nat->AV×Nat
 |0,t=>(sl0.getD t .any,n0)
 |j+1,t=>if S j=true/\(L j).1.dst=some t then(v j,n (j+1))else AQ sl0 n0 L v n S j t
section
variable {sl0:List AV}{n0:Nat}{L:Nat->IOpx×Nat}{v:Nat->AV}{n:Nat->Nat}
theorem A3{S S':Nat->Bool}{t:Nat}:∀(m:Nat),(∀j,j<m->(L j).1.dst=some t->S j=S' j)->AQ sl0 n0 L v n S m t=AQ sl0 n0 L v n S' m t
 |0,_=>rfl
 |
  m+1,h=>by
  simp only[AQ]
  by_cases hd:(L m).1.dst=some t
  ·rw[h m (by omega) hd,A3 m (fun j hj=>h j (by omega))]
  ·rw[if_neg (fun e=>hd e.2),if_neg (fun e=>hd e.2),A3 m (fun j hj=>h j (by omega))]
theorem Cm{S:Nat->Bool}{t i:Nat}:∀(m:Nat),i<=m->(∀j,i<=j->j<m->(L j).1.dst=some t->S j=false)->AQ sl0 n0 L v n S m t=AQ sl0 n0 L v n S i t
 |0,hi,_=>by
          have:i=0:=by omega
          subst this;rfl
 |
  m+1,hi,h=>by
  rcases AdJ hi with e|e
  ·rw[e]
  ·simp only[AQ]
   rw[if_neg (fun q=>by have:=h m (by omega) (by omega) q.2;rw[this]at q;simp at q),Cm m (by omega) (fun j a b=>h j a (by omega))]
theorem ED{S:Nat->Bool}{t B:Nat}:∀(m:Nat),n0<=B->(∀j,j<m->(L j).1.dst=some t->S j=true->n (j+1)<=B)->(AQ sl0 n0 L v n S m t).2<=B
 |0,h,_=>h
 |
  m+1,h,k=>by
  simp only[AQ]
  split
  ·rename_i q;exact k m (by omega) q.2 q.1
  ·exact ED m h (fun j hj=>k j (by omega))
theorem Cj{call:Nat->List AV->List Row->Option (AV×List Row×Option Nat)}{B:Nat->List Row}{rows:List Row}{m:Nat}{SL:Nat->List AV}{EX:Nat->List (Nat×Row)}{rw_:Nat->List Row}(h:Tr call B rows.length L 0 m SL EX v rw_)(h0:SL 0=sl0){t:Nat}(ht:t<sl0.length):
  ∀(i:Nat),i<=m->(AQ sl0 n0 L v n (fun _=>true) i t).1=(SL i).getD t .any/\(SL i).length=sl0.length
 |0,_=>by rw[h0];exact⟨rfl,rfl⟩
 |
  i+1,hi=>by
  obtain⟨ih1,ih2⟩:=Cj h h0 ht i (by omega);rw[h.sl i (by omega) (by omega)];cases hd:(L i).1.dst with
  |none=>
   simp only[AQ,hd,BE];rw[if_neg (by simp)];exact⟨ih1,ih2⟩
  |some d=>
   simp only[AQ,hd,BE,AcI,true_and,Adh];refine⟨?_,ih2⟩
   split
   ·rename_i e
    subst e;simp only[List.getD,Adu,if_true];rw[if_pos (by omega)]
    rfl
   ·rename_i e
    rw[ih1];simp only[List.getD,Adu,if_neg e]
end
theorem Nl{call:Nat->List AV->List Row->Option (AV×List Row×Option Nat)}{sl sl':List AV}(rows:List Row)(low:Nat){o:IOpx}(h:∀t∈o.looks,sl.getD t .any=sl'.getD t .any):opR call sl rows low o=opR call sl' rows low o:=by
 have hO:∀x∈o.op.opds,Ak sl x=Ak sl' x:=fun x hx=>Gw fun t ht=>h t (FB hx ht)
 have hw:BL sl o.g=BL sl' o.g:=Mt fun t b e=>h t (J6 e)
 have hE:=Kk rows low o.op hO;unfold opR;rw[hw]
 split<;>first|rfl|skip
 split
 ·rename_i f args e
  have h1:Ak sl f=Ak sl' f:=hO f (by rw[e];simp[IOp.opds]);have h2:args.map (Ak sl)=args.map (Ak sl'):=AdM fun x hx=>hO x (by rw[e];simp[IOp.opds,hx])
  rw[h1,h2]
 ·exact hE
def Th.upto(θ:Th)(n:Nat):Th:=fun id=>if id<n then θ id else none
theorem Th.upto_some{θ:Th}{n id:Nat}{L:Loc}:(θ.upto n) id=some L↔id<n/\θ id=some L:=by
 unfold Th.upto
 split
 ·rename_i h;simp[h]
 ·rename_i h;simp[h]
theorem Th.upto_ext(θ:Th)(n:Nat):Ext (θ.upto n) θ:=fun id L h=>(Th.upto_some.1 h).2
theorem Th.upto_mono{θ θ':Th}{n n':Nat}(h:Ext θ θ')(hn:n<=n'):Ext (θ.upto n) (θ'.upto n'):=fun id L e=>by
 obtain⟨a,b⟩:=Th.upto_some.1 e;exact Th.upto_some.2 ⟨by omega,h _ _ b⟩
structure Inv(κ:Fw)(X:Nat->Prop)(θ0:Th)(B:Nat->List Row)(rows:List Row)(sl0:List AV)(m:Nat)(L:Nat->IOpx×Nat)(v:Nat->AV)(EX:Nat->List (Nat×Row))(w0:World)(S:Nat->Bool)(θ:Th)(tmps:Array Value)(w:World):Prop where
 size:tmps.size=sl0.length
 slots:∀t x',tmps[t]?=some x'->V (θ.upto (AQ sl0 rows.length L v (fun j=>rows.length+(EX j).length) S m t).2) (AQ sl0 rows.length L v (fun j=>rows.length+(EX j).length) S m t).1 x'
 rows_:∀p q r,(EX m)[p]?=some (q,r)->S q=true->RowRel κ (θ.upto (rows.length+(EX (q+1)).length)) (rows.length+p) w r
 base:HRel κ θ0 rows w
 baseB:∀p,p<m->S p=false->HRel κ θ0 (B p) w
 ext:Ext θ0 θ
 dom:∀id K,θ id=some K->θ0 id=some K\/(w0.heap.size<=K.b/\∃p q r,id=rows.length+p/\(EX m)[p]?=some (q,r)/\S q=true)
 inj:∀p p' q q' r r' K K',p≠p'->(EX m)[p]?=some (q,r)->S q=true->r.owned=true->(EX m)[p']?=some (q',r')->S q'=true->r'.live=true->θ (rows.length+p)=some K->θ (rows.length+p')=some K'->K.b≠K'.b
 blk:∀id K,θ id=some K->K.b<w.heap.size
 os:w.os=w0.os
 tape:w.tape=w0.tape
 output:w.output=w0.output
 wsize:w0.heap.size<=w.heap.size
 heap:∀b,b<w0.heap.size->¬X b->w.heap[b]?=w0.heap[b]?
 base0:∀id K,θ0 id=some K->K.b<w0.heap.size
end Go.Abs
namespace Go.Abs
section
variable {P:Program}{gl:List Nat}{call:Nat->List AV->List Row->Option (AV×List Row×Option Nat)}{B:Nat->List Row}{rows:List Row}{sl0:List AV}{m:Nat}{L:Nat->IOpx×Nat}{v:Nat->AV}{EX:Nat->List (Nat×Row)}{SL:Nat->List AV}{rw_:Nat->List Row}{θ0:Th}{w0:World}{X:Nat->Prop}
theorem HRel.later{θ:Th}{rows:List Row}{w w':World}(h:HRel (KP P gl) θ rows w)(hsz:w.heap.size<=w'.heap.size)(hb:∀b,b<w.heap.size->w'.heap[b]?=w.heap[b]?):HRel (KP P gl) θ rows w':=
 ⟨h.dom,fun id K e=>Adl (h.blk id K e) hsz,fun id r e=>(h.row id r e).mono (Ext.refl _) (fun K hK=>hb _ (h.blk id K hK)),h.inj⟩
theorem Tr.ex_len(h:Tr call B rows.length L 0 m SL EX v rw_){i j:Nat}(hij:i<=j)(hj:j<=m):(EX i).length<=(EX j).length:=by
 induction j with
 |zero=>
      have:i=0:=by omega
      subst this;exact AcE _
 |succ j ih=>
  rcases AdJ hij with e|e
  ·rw[e];exact AcE _
  ·have:=ih (by omega) (by omega)
   rw[h.ex j (by omega) (by omega)];simp;omega
theorem Tr.ex_prefix(h:Tr call B rows.length L 0 m SL EX v rw_){i j:Nat}(hij:i<=j)(hj:j<=m){p:Nat}(hp:p<(EX i).length):(EX j)[p]?=(EX i)[p]?:=by
 induction j with
 |zero=>
      have:i=0:=by omega
      subst this;rfl
 |succ j ih=>
  rcases AdJ hij with e|e
  ·rw[e]
  ·have h1:=h.ex_len (i:=i) (j:=j) (by omega) (by omega)
   rw[h.ex j (by omega) (by omega),AcD (by omega)];exact ih (by omega) (by omega)
theorem Tr.sl_len(h:Tr call B rows.length L 0 m SL EX v rw_)(h0:SL 0=sl0):∀(i:Nat),i<=m->(SL i).length=sl0.length
 |0,_=>by rw[h0]
 |
  i+1,hi=>by
  rw[h.sl i (by omega) (by omega)];cases(L i).1.dst<;>simp[BE,Tr.sl_len h h0 i (by omega)]
theorem Tr.owner(h:Tr call B rows.length L 0 m SL EX v rw_)(h0:EX 0=[]){p q:Nat}{r:Row}:∀{i:Nat},i<=m->(EX i)[p]?=some (q,r)->q<i/\(EX q).length<=p/\p<(EX (q+1)).length/\(rw_ q)[rows.length+p]?=some r
 |0,_,e=>by rw[h0]at e;simp at e
 |
  i+1,hi,e=>by
  have hx:=h.ex i (by omega) (by omega);rw[hx]at e
  by_cases hp:p<(EX i).length
  ·rw[AcD hp]at e
   obtain⟨a,b⟩:=Tr.owner h h0 (by omega) e;exact⟨by omega,b⟩
  ·rw[AcG (by omega)]at e
   simp only[Ac9,AcK,AcQ]at e;obtain⟨x,e1,e2,e3⟩:=e;subst e2;subst e3;rw[Adr]at e1;have hlt:=(AcF.1 e1).1;refine⟨by omega,by omega,?_,?_⟩
   ·rw[hx];simp;omega
   ·rw[<-e1];congr 1;omega
theorem Inv.start(h0:EX 0=[]){a:Act}(hr:HRel (KP P gl) θ0 rows w0)(hrB:∀p,HRel (KP P gl) θ0 (B p) w0)(hs:SRel θ0 sl0 a.tmps):Inv (KP P gl) X θ0 B rows sl0 m L v EX w0 (fun _=>false) θ0 a.tmps w0 where
 size:=hs.size.symm
 slots:=fun t x' hx=>by
  have e:=Cm (sl0:=sl0) (n0:=rows.length) (L:=L) (v:=v) (n:=fun j=>rows.length+(EX j).length) (S:=fun _=>false) (t:=t) (i:=0) m (AcX _) (fun j _ _ _=>rfl);rw[e];simp only[AQ];have hV:V θ0 (sl0.getD t .any) x':=by
   have:=hs.get t;simpa[Array.getD_eq_getD_getElem?,hx]using this
  exact hV.to fun id _ K hK=>Th.upto_some.2 ⟨hr.dom id K hK,hK⟩
 rows_:=fun p q r _ hS=>by simp at hS
 base:=hr.later (AcE _) (fun _ _=>rfl)
 baseB:=fun p _ _=>hrB p
 ext:=Ext.refl _
 dom:=fun id K h=>.inl h
 inj:=fun p p' q q' r r' K K' _ _ hS=>by simp at hS
 blk:=hr.blk
 os:=rfl
 tape:=rfl
 output:=rfl
 wsize:=AcE _
 heap:=fun _ _ _=>rfl
 base0:=hr.blk
theorem PC(b:Nat)(ext:List (Nat×Row))(p:Nat):(Ai b ext)[p]?=(ext[p]?).map fun e=>if b.testBit e.1 then e.2 else .dead:=by
 simp[Ai]
theorem Inv.masked(hBl:∀p,(B p).length=rows.length)(htr:Tr call B rows.length L 0 m SL EX v rw_)(h0:EX 0=[]){S:Nat->Bool}{θ:Th}{tmps:Array Value}{w:World}(hI:Inv (KP P gl) X θ0 B rows sl0 m L v EX w0 S θ tmps w){i:Nat}(hi:i<m)(hSi:S i=false){bits:Nat}(hready:∀q,bits.testBit q=true->S q=true):
  HRel (KP P gl) (θ.upto (rows.length+(EX i).length)) (B i++Ai bits (EX i)) w:=by
 have hBi:=hI.baseB i hi hSi;have hl0:=hBl i;have hlen:(Ai bits (EX i)).length=(EX i).length:=by simp[Ai]
 have hbase:∀id K,id<rows.length->θ id=some K->θ0 id=some K:=fun id K hid hK=>by
  rcases hI.dom id K hK with h|⟨_,p,q,r,e,_⟩
  ·exact h
  ·omega
 have hE0:Ext θ0 (θ.upto (rows.length+(EX i).length)):=fun id K hK=>Th.upto_some.2 ⟨by have:=hI.base.dom id K hK;omega,hI.ext _ _ hK⟩
 -- a row of the masked rows is an old one, or a new one that may be known
 have hget:∀id r,(B i++Ai bits (EX i))[id]?=some r->r.live=true->(id<rows.length/\(B i)[id]?=some r)\/∃p q,id=rows.length+p/\p<(EX i).length/\(EX m)[p]?=some (q,r)/\S q=true/\q<i:=fun id r e hl=>by
  rcases Adc id rows.length with h|h
  ·rw[AcD (by omega)]at e
   exact .inl ⟨h,e⟩
  ·rw[AcG (by omega),PC,hl0]at e
   simp only[AcK]at e;obtain⟨⟨q,r0⟩,e1,e2⟩:=e;simp only at e2
   split at e2
   ·rename_i hb
    subst e2;have hp:id-rows.length<(EX i).length:=(AcF.1 e1).1;obtain⟨o1,_⟩:=Tr.owner htr h0 (i:=i) (by omega) e1;exact .inr ⟨id-rows.length,q,by omega,hp,by rw[htr.ex_prefix (i:=i) (j:=m) (by omega) (AcE _) hp];exact e1,hready q hb,o1⟩
   ·subst e2;simp[Row.live]at hl
 refine⟨fun id K e=>?_,fun id K e=>hI.blk id K (Th.upto_some.1 e).2,fun id r e=>?_,fun p p' r s K K' hne hp hpo hq hql hK hK'=>?_⟩
 ·have:=(Th.upto_some.1 e).1
  simp[hlen,hl0];omega
 ·by_cases hl:r.live=true
  ·rcases hget id r e hl with ⟨a,b⟩|⟨p,q,rfl,c1,c2,c3,c4⟩
   ·exact(hBi.row id r b).mono hE0 (fun _ _=>rfl)
   ·refine(hI.rows_ p q r c2 c3).mono (Th.upto_mono (Ext.refl _) ?_) (fun _ _=>rfl)
    have:=htr.ex_len (i:=q+1) (j:=i) (by omega) (by omega);omega
  ·cases r<;>first|(simp[Row.live]at hl;done)|trivial
 ·have hK:=(Th.upto_some.1 hK).2
  have hK':=(Th.upto_some.1 hK').2;rcases hget p r hp (Row.live_of_owned hpo)with ⟨a,b⟩|⟨x,q,rfl,c1,c2,c3,c4⟩
  ·rcases hget p' s hq hql with ⟨a',b'⟩|⟨x',q',rfl,d1,d2,d3,d4⟩
   ·exact hBi.inj p p' r s K K' hne b hpo b' hql (hbase p K a hK) (hbase p' K' a' hK')
   ·have h1:=hI.base0 p K (hbase p K a hK)
    rcases hI.dom _ K' hK' with h|⟨h2,_⟩
    ·have:=hI.base.dom _ K' h;omega
    ·omega
  ·rcases hget p' s hq hql with ⟨a',b'⟩|⟨x',q',rfl,d1,d2,d3,d4⟩
   ·have h1:=hI.base0 p' K' (hbase p' K' a' hK')
    rcases hI.dom _ K hK with h|⟨h2,_⟩
    ·have:=hI.base.dom _ K h;omega
    ·omega
   ·exact hI.inj x x' q q' r s K K' (fun e=>hne (by omega)) c2 c3 hpo d2 d3 hql hK hK'
theorem Inv.step(hBl:∀p,(B p).length=rows.length)(hcall:Jd P gl call)(htr:Tr call B rows.length L 0 m SL EX v rw_)(hS0:SL 0=sl0)(h0:EX 0=[])(hg:GRel θ0 gl){S:Nat->Bool}{θ:Th}{a:Act}{w:World}(hI:Inv (KP P gl) X θ0 B rows sl0 m L v EX w0 S θ a.tmps w){i:Nat}(hi:i<m)(hSi:S i=false)
  (hap:∀j,j<m->∀k,k<j->(L j).2.testBit k=true\/C7 (L k).1 (L j).1=true) (hclosed:∀j,S j=true->j<m->∀q,(L j).2.testBit q=true->S q=true) (hready:∀q,(L i).2.testBit q=true->S q=true)
  {ops:Array Oper} {o:Oper} {ii:Nat} (ho:ops[ii]?=some o) (hLo:(L i).1=DN P gl ops o) (b:Frame) (rest:List Nat) (k:List Item) (cs:List Frame):
  ∃θ' w' v',Steps P (lone (b.atR a (.inRegion ops (ii::rest)::k)) cs w) (lone (b.atR (a.put o.dst v') (.inRegion ops rest::k)) cs w')/\Inv (KP P gl) X θ0 B rows sl0 m L v EX w0 (fun j=>S j||j==i) θ' (a.put o.dst v').tmps w'/\Ext θ θ'/\∀b,b<w.heap.size->w'.heap[b]?=w.heap[b]?:=by
 have hrel:=hI.masked hBl htr h0 hi hSi (bits:=(L i).2) hready;have hlen:(B i++Ai (L i).2 (EX i)).length=rows.length+(EX i).length:=by simp[Ai,hBl]
 -- the slots that it looks at
 have hlook:∀t∈(L i).1.looks,AQ sl0 rows.length L v (fun j=>rows.length+(EX j).length) S m t=AQ sl0 rows.length L v (fun j=>rows.length+(EX j).length) S i t/\
   AQ sl0 rows.length L v (fun j=>rows.length+(EX j).length) S i t=AQ sl0 rows.length L v (fun j=>rows.length+(EX j).length) (fun _=>true) i t:=fun t ht=>by
  refine⟨Cm m (by omega) (fun j hj hjm hd=>?_),A3 i (fun j hj hd=>?_)⟩
  ·rcases AdJ hj with e|e
   ·rw[<-e];exact hSi
   ·cases hSj:S j with
    |false=>rfl
    |true=>
     rcases hap j hjm i e with h|h
     ·have:=hclosed j hSj hjm i h
      rw[hSi]at this;simp at this
     ·exact absurd ht ((BP h).2.2 t hd)
  ·rcases hap i hi j hj with h|h
   ·rw[hready j h]
   ·exact absurd ht ((BP h).1 t hd)
 let X:List AV:=(List.range sl0.length).map fun t=>if t∈(L i).1.looks then(SL i).getD t .any else .any
 have hX:SRel (θ.upto (rows.length+(EX i).length)) X a.tmps:=by
  refine⟨by simp[X,hI.size],fun t x x' hx hx'=>?_⟩;have htl:t<sl0.length:=by have:=(AcF.1 hx).1;simpa[X]using this
  simp only[X,Ac9,AdL htl,AcN,AcI]at hx;subst hx
  split
  ·rename_i ht
   obtain⟨e1,e2⟩:=hlook t ht;have hV:=hI.slots t x' hx';rw[e1]at hV
   have hB:=ED (sl0:=sl0) (n0:=rows.length) (L:=L) (v:=v) (n:=fun j=>rows.length+(EX j).length) (S:=S) (t:=t) (B:=rows.length+(EX i).length) i (by omega) (fun j hj _ _=>by
    have:=htr.ex_len (i:=j+1) (j:=i) (by omega) (by omega)
    omega)
   rw[e2,(Cj (sl0:=sl0) htr hS0 htl i (by omega)).1,<-e2]at hV;exact hV.mono (Th.upto_mono (Ext.refl _) hB)
  ·exact .any _
 have hop:=htr.op i (by omega) hi;have hcg:opR call X (B i++Ai (L i).2 (EX i)) (rows.length+(EX i).length) (L i).1=some (v i,rw_ i,rows.length+(EX i).length):=by
  rw[Nl (sl':=SL i) _ _ (fun t ht=>?_)]
  ·exact hop
  ·rcases Adc t sl0.length with htl|htl
   ·simp only[X,List.getD,Ac9,AdL htl,AcN,Option.getD_some,if_pos ht]
   ·have hL':=htr.sl_len hS0 i (by omega)
    rw[List.getD,List.getD,Ac0 (l:=X) (by simp only[X,Adt,Aeb];exact htl),Ac0 (l:=SL i) (by omega)]
 rw[hLo]at hcg;have hgθ:GRel (θ.upto (rows.length+(EX i).length)) gl:=fun x g e=>by
  obtain⟨K,a1,a2⟩:=hg x g e;exact⟨K,Th.upto_some.2 ⟨by have:=hI.base.dom x K a1;omega,hI.ext _ _ a1⟩,a2⟩
 obtain⟨θi,w',v',st,hv',hF⟩:=OX hcall ho hcg hrel hgθ hX (by omega) b rest k cs;have hF2:Fr (KP P gl) (θ.upto (rows.length+(EX i).length)) θi (B i++Ai (L i).2 (EX i)) (rw_ i) (B i++Ai (L i).2 (EX i)).length (B i++Ai (L i).2 (EX i)).length w w':=by rw[hlen];exact hF
 have hclean:=fun b hb=>Fr.clean hrel hF2 b hb
 have hlenR:rows.length+(EX i).length<=(rw_ i).length:=by have:=hF.len;omega
 have hex:=htr.ex i (by omega) hi;have hn1:rows.length+(EX (i+1)).length=(rw_ i).length:=by rw[hex];simp;omega
 let θ':Th:=fun id=>if rows.length+(EX i).length<=id/\id<(rw_ i).length then θi id else θ id
 have hnone:∀id,rows.length+(EX i).length<=id->id<(rw_ i).length->θ id=none:=fun id h1 h2=>by
  cases e:θ id with
  |none=>rfl
  |some K=>
   rcases hI.dom id K e with h|⟨_,p,q,r,e1,e2,e3⟩
   ·have:=hI.base.dom id K h;omega
   ·obtain⟨o1,o2,o3,_⟩:=Tr.owner htr h0 (i:=m) (AcE _) e2
    have hq:q=i:=by
     rcases Aec q i with h|h|h
     ·have:=htr.ex_len (i:=q+1) (j:=i) (by omega) (by omega);omega
     ·exact h
     ·have:=htr.ex_len (i:=i+1) (j:=q) (by omega) (by omega);omega
    rw[hq,hSi]at e3;simp at e3
 have hEx:Ext θ θ':=fun id K e=>by
  simp only[θ'];rw[if_neg]
  ·exact e
  ·rintro ⟨h1,h2⟩
   rw[hnone id h1 h2]at e;simp at e
 have hEi:Ext θi (θ'.upto (rw_ i).length):=fun id K e=>by
  have hlt:=hF.rel.dom id K e;refine Th.upto_some.2 ⟨hlt,?_⟩;simp only[θ']
  split
  ·exact e
  ·rename_i hh
   have hid:id<(B i++Ai (L i).2 (EX i)).length:=by omega
   exact(Th.upto_some.1 (Hn hrel hF hid e)).2
 have hnew:∀id K,rows.length+(EX i).length<=id->θi id=some K->w.heap.size<=K.b:=fun id K h1 e=>by
  have hn:(θ.upto (rows.length+(EX i).length)) id=none:=by unfold Th.upto;rw[if_neg (by omega)]
  rcases(hF.fresh id K e hn).2 with h|⟨j,r,L',a1,_,a2,_⟩
  ·exact h
  ·have:=(AcF.1 a1).1
   omega
 have hown:∀p q r,(EX m)[p]?=some (q,r)->(q=i↔(rows.length+(EX i).length<=rows.length+p/\rows.length+p<(rw_ i).length)):=fun p q r e2=>by
  obtain⟨o1,o2,o3,_⟩:=Tr.owner htr h0 (i:=m) (AcE _) e2;constructor
  ·rintro rfl;omega
  ·rintro ⟨h1,h2⟩
   rcases Aec q i with h|h|h
   ·have:=htr.ex_len (i:=q+1) (j:=i) (by omega) (by omega);omega
   ·exact h
   ·have:=htr.ex_len (i:=i+1) (j:=q) (by omega) (by omega);omega
 refine⟨θ',w',v',st,?_,hEx,hclean⟩;have hos:w'.os=w.os:=hF.os;refine⟨?_,?_,?_,hI.base.later hF.size hclean,fun p hp hS=>(hI.baseB p hp (by simp only[Bool.or_eq_false_iff]at hS;exact hS.1)).later hF.size hclean,hI.ext.trans hEx,?_,?_,?_,hF.os.trans hI.os,hF.tape.trans hI.tape,hF.output.trans hI.output,AcP hI.wsize hF.size,?_,hI.base0⟩
 ·cases o.dst<;>simp[Act.put,hI.size]
 ·intro t x' hx'
  have htl:t<sl0.length:=by
   have:=(Array.getElem?_eq_some_iff.1 hx').1;have h2:(a.put o.dst v').tmps.size=sl0.length:=by cases o.dst<;>simp[Act.put,hI.size]
   omega
  have hdst:(L i).1.dst=o.dst:=by rw[hLo];exact KO
  by_cases hd:o.dst=some t
  ·have e1:AQ sl0 rows.length L v (fun j=>rows.length+(EX j).length) (fun j=>S j||j==i) m t=(v i,rows.length+(EX (i+1)).length):=by
    rw[Cm (i:=i+1) m (by omega) (fun j hj hjm hdj=>?_)]
    ·simp only[AQ]
     rw[if_pos ⟨by simp,by rw[hdst];exact hd⟩]
    ·have hne:(j==i)=false:=by simp;omega
     simp only[hne,Bool.or_false];cases hSj:S j with
     |false=>rfl
     |true=>
      rcases hap j hjm i (by omega)with h|h
      ·have:=hclosed j hSj hjm i h
       rw[hSi]at this;simp at this
      ·exact absurd hdj ((BP h).2.1 t (by rw[hdst];exact hd))
   rw[e1];simp only;have hx:x'=v':=by
    rw[hd]at hx';simp only[Act.put]at hx';rw[Array.getElem?_setIfInBounds_self]at hx'
    split at hx'
    ·injection hx' with hx';exact hx'.symm
    ·simp at hx'
   rw[hx,hn1];exact hv'.mono hEi
  ·have e1:AQ sl0 rows.length L v (fun j=>rows.length+(EX j).length) (fun j=>S j||j==i) m t=AQ sl0 rows.length L v (fun j=>rows.length+(EX j).length) S m t:=
    A3 m (fun j hj hdj=>by
     by_cases hji:j=i
     ·subst hji;rw[hdst]at hdj;exact absurd hdj hd
     ·have:(j==i)=false:=by simpa using hji
      simp[this])
   rw[e1];have hx2:a.tmps[t]?=some x':=by
    cases hod:o.dst with
    |none=>rw[hod]at hx';exact hx'
    |some d=>
     rw[hod]at hx';simp only[Act.put]at hx';rw[Array.getElem?_setIfInBounds_ne (by rintro rfl;exact hd hod)]at hx';exact hx'
   exact(hI.slots t x' hx2).mono (Th.upto_mono hEx (AcE _))
 ·intro p q r e hS'
  by_cases hq:q=i
  ·subst hq
   obtain⟨o1,o2,o3,o4⟩:=Tr.owner htr h0 (i:=m) (AcE _) e;rw[hn1];exact(hF.rel.row _ r o4).mono hEi (fun _ _=>rfl)
  ·have hSq:S q=true:=by
    have:(q==i)=false:=by simpa using hq
    simpa[this]using hS'
   exact(hI.rows_ p q r e hSq).mono (Th.upto_mono hEx (AcE _)) (fun K hK=>hclean _ (hI.blk _ K (Th.upto_some.1 hK).2))
 ·intro id K e
  simp only[θ']at e
  split at e
  ·rename_i hh
   refine .inr ⟨AcP hI.wsize (hnew id K hh.1 e),?_⟩;have hpl:id-rows.length<(EX (i+1)).length:=by omega
   have hge:(EX i).length<=id-rows.length:=by omega
   have hg2:=htr.ex_prefix (i:=i+1) (j:=m) (by omega) (AcE _) hpl;rw[hex,AcG hge]at hg2;have hlt2:id-rows.length-(EX i).length<(((rw_ i).drop (rows.length+(EX i).length)).map fun x=>(i,x)).length:=by simp;omega
   rw[AcR hlt2]at hg2;exact⟨id-rows.length,i,((rw_ i).drop (rows.length+(EX i).length))[id-rows.length-(EX i).length]'(by simpa using hlt2),by omega,by rw[hg2];simp,by simp⟩
  ·rcases hI.dom id K e with h|⟨h1,p,q,r,h2,h3,h4⟩
   ·exact .inl h
   ·exact .inr ⟨h1,p,q,r,h2,h3,by simp[h4]⟩
 ·intro p p' q q' r r' K K' hne e hS1 ho1 e' hS2 hl2 hK hK'
  simp only[θ']at hK hK'
  by_cases hq:q=i
  ·subst hq
   rw[if_pos ((hown p q r e).1 rfl)]at hK;obtain⟨_,b2,_,b4⟩:=Tr.owner htr h0 (i:=m) (AcE _) e
   by_cases hq':q'=q
   ·subst hq'
    rw[if_pos ((hown p' q' r' e').1 rfl)]at hK';obtain⟨_,_,_,b4'⟩:=Tr.owner htr h0 (i:=m) (AcE _) e';exact hF.rel.inj _ _ r r' K K' (by omega) b4 ho1 b4' hl2 hK hK'
   ·rw[if_neg (fun h=>hq' ((hown p' q' r' e').2 h))]at hK'
    have h1:=hnew _ K (by omega) hK;have h2:=hI.blk _ K' hK';omega
  ·rw[if_neg (fun h=>hq ((hown p q r e).2 h))]at hK
   by_cases hq':q'=i
   ·subst hq'
    rw[if_pos ((hown p' q' r' e').1 rfl)]at hK';obtain⟨_,b2,_,b4⟩:=Tr.owner htr h0 (i:=m) (AcE _) e';have h1:=hnew _ K' (by omega) hK';have h2:=hI.blk _ K hK;omega
   ·rw[if_neg (fun h=>hq' ((hown p' q' r' e').2 h))]at hK'
    have c1:S q=true:=by
                  have:(q==i)=false:=by simpa using hq
                  simpa[this]using hS1
    have c2:S q'=true:=by
                  have:(q'==i)=false:=by simpa using hq'
                  simpa[this]using hS2
    exact hI.inj p p' q q' r r' K K' hne e c1 ho1 e' c2 hl2 hK hK'
 ·intro id K e
  simp only[θ']at e
  split at e
  ·exact hF.rel.blk id K e
  ·exact Adl (hI.blk id K e) hF.size
 ·intro b hb hx
  rw[hclean b (Adl hb hI.wsize)];exact hI.heap b hb hx
end
end Go.Abs