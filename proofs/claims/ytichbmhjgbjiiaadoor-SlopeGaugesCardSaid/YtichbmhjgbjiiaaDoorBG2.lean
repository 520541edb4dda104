/- The texts that the row uses, part 2. -/
import Derived.Test.YtichbmhjgbjiiaaDoorBG1
import Derived.AtR
import Derived.Orders
import Derived.KernelRfl
import Derived.Laws.Cells
import Derived.Laws.CopyRow
import Derived.Laws.Append
import Derived.Laws.AppendOwn
import Derived.Laws.Entries
import Derived.ArgAppend
import Derived.ChangeKeysEq
import Derived.WideLaws
import Derived.Laws.Small
import Derived.Laws.StructEq
import Derived.Laws.Cover3
import Derived.Laws.Tables
import Derived.Laws.Rows
import Derived.Below
import Derived.Laws.IdiomCopy
import Derived.RangeFuncNested
import Derived.Test.YtichbmhjgbjiiaaDoorProg
import Derived.Test.YtichbmhjgbjiiaaDoorRows
import Derived.ProofKit
import Derived.LaidMore
import Derived.OpenShut
import Derived.Stop.Joined
import Derived.ChangeSlices
import Derived.SizedLaws
import Derived.SevenTiedAt
import Derived.WalkKit
import Derived.ShutString
import Derived.ChangeOld
import Derived.Carry
set_option linter.unusedVariables false
set_option linter.unusedSimpArgs false
namespace Go.Abs
section
variable {P:Program}{gl:List Nat}{call:Nat->List AV->List Row->Option (AV×List Row×Option Nat)}{B:Nat->List Row}{rows:List Row}{sl0:List AV}{m:Nat}{L:Nat->IOpx×Nat}{v:Nat->AV}{EX:Nat->List (Nat×Row)}{SL:Nat->List AV}{rw_:Nat->List Row}{θ0:Th}{w0:World}{X:Nat->Prop}
theorem Inv.rel(htr:Tr call B rows.length L 0 m SL EX v rw_)(hS0:SL 0=sl0)(h0:EX 0=[]){S:Nat->Bool}{θ:Th}{a:Act}{w:World}(hI:Inv (KP P gl) X θ0 B rows sl0 m L v EX w0 S θ a.tmps w)(hS:∀j,j<m->S j=true):
  SRel θ (SL m) a.tmps/\HRel (KP P gl) θ (rows++(EX m).map (·.2)) w:=by
 have hbase:∀id K,id<rows.length->θ id=some K->θ0 id=some K:=fun id K hid hK=>by
  rcases hI.dom id K hK with h|⟨_,p,q,r,e,_⟩
  ·exact h
  ·omega
 have hget:∀id r,(rows++(EX m).map (·.2))[id]?=some r->(id<rows.length/\rows[id]?=some r)\/∃p q,id=rows.length+p/\(EX m)[p]?=some (q,r)/\S q=true:=fun id r e=>by
  rcases Nat.lt_or_ge id rows.length with h|h
  ·rw[List.getElem?_append_left h]at e
   exact .inl ⟨h,e⟩
  ·rw[List.getElem?_append_right h]at e
   simp only[List.getElem?_map,Option.map_eq_some_iff]at e
   obtain⟨⟨q,r0⟩,e1,e2⟩:=e
   simp only at e2
   subst e2
   obtain⟨o1,_⟩:=Tr.owner htr h0 (i:=m) (Nat.le_refl _) e1
   exact .inr ⟨id-rows.length,q,by omega,e1,hS q o1⟩
 refine⟨⟨by rw[htr.sl_len hS0 m (Nat.le_refl _),hI.size],fun t x x' hx hx'=>?_⟩,⟨fun id K e=>?_,hI.blk,fun id r e=>?_,fun p p' r s K K' hne hp hpo hq hql hK hK'=>?_⟩⟩
 ·have htl:t<sl0.length:=by
   have:=(List.getElem?_eq_some_iff.1 hx).1
   rw[htr.sl_len hS0 m (Nat.le_refl _)]at this
   exact this
  have hV:=hI.slots t x' hx'
  have e1:slotAt sl0 rows.length L v (fun j=>rows.length+(EX j).length) S m t=slotAt sl0 rows.length L v (fun j=>rows.length+(EX j).length) (fun _=>true) m t:=slotAt_congr m (fun j hj _=>hS j hj)
  rw[e1,(slotAt_text (sl0:=sl0) htr hS0 htl m (Nat.le_refl _)).1]at hV
  have:(SL m).getD t .any=x:=by simp[List.getD,hx]
  rw[this]at hV
  exact hV.mono (Th.upto_ext _ _)
 ·rcases hI.dom id K e with h|⟨_,p,q,r,h2,h3,_⟩
  ·have:=hI.base.dom id K h
   simp;omega
  ·have:=(List.getElem?_eq_some_iff.1 h3).1
   simp;omega
 ·rcases hget id r e with ⟨a,b⟩|⟨p,q,rfl,c1,c2⟩
  ·exact(hI.base.row id r b).mono hI.ext (fun _ _=>rfl)
  ·exact(hI.rows_ p q r c1 c2).mono (Th.upto_ext _ _) (fun _ _=>rfl)
 ·rcases hget p r hp with ⟨a,b⟩|⟨x,q,rfl,c1,c2⟩
  ·rcases hget p' s hq with ⟨a',b'⟩|⟨x',q',rfl,d1,d2⟩
   ·exact hI.base.inj p p' r s K K' hne b hpo b' hql (hbase p K a hK) (hbase p' K' a' hK')
   ·have h1:=hI.base0 p K (hbase p K a hK)
    rcases hI.dom _ K' hK' with h|⟨h2,_⟩
    ·have:=hI.base.dom _ K' h;omega
    ·omega
  ·rcases hget p' s hq with ⟨a',b'⟩|⟨x',q',rfl,d1,d2⟩
   ·have h1:=hI.base0 p' K' (hbase p' K' a' hK')
    rcases hI.dom _ K hK with h|⟨h2,_⟩
    ·have:=hI.base.dom _ K h;omega
    ·omega
   ·exact hI.inj x x' q q' r s K K' (fun e=>hne (by omega)) c1 c2 hpo d1 d2 hql hK hK'
theorem Inv.done(htr:Tr call B rows.length L 0 m SL EX v rw_)(hS0:SL 0=sl0)(h0:EX 0=[]){S:Nat->Bool}{θ:Th}{a:Act}{w:World}(hI:Inv (KP P gl) (fun _=>False) θ0 B rows sl0 m L v EX w0 S θ a.tmps w)(hS:∀j,j<m->S j=true)(low:Nat)(hlow:low<=rows.length):
  SRel θ (SL m) a.tmps/\Fr (KP P gl) θ0 θ rows (rows++(EX m).map (·.2)) low low w0 w:=by
 obtain⟨r1,r2⟩:=hI.rel htr hS0 h0 hS
 refine⟨r1,hI.ext,r2,by simp,Nat.le_refl _,hI.os,hI.tape,hI.output,hI.wsize,fun id hid=>?_,fun b hb _=>hI.heap b hb (fun h=>h),fun id r e o hid=>?_,fun id r e o hid=>?_,fun id K e hn=>?_⟩
 ·rw[List.getElem?_append_left (by omega)]
 ·rw[List.getElem?_append_left hid]at e
  exact⟨r,e,o⟩
 ·rw[List.getElem?_append_left hid]at e
  exact⟨r,e,o⟩
 ·rcases hI.dom id K e with h|⟨h1,p,q,r,h2,h3,_⟩
  ·rw[h]at hn;simp at hn
  ·exact⟨by omega,.inl h1⟩
theorem Inv.doneW{R:Nat}{r0 r':Row}{LR:Loc}(htr:Tr call B (rows.set R .dead).length L 0 m SL EX v rw_)(hS0:SL 0=sl0)(h0:EX 0=[]){S:Nat->Bool}{θ:Th}{a:Act}{w:World}(hI:Inv (KP P gl) (fun b=>b=LR.b) θ0 B (rows.set R .dead) sl0 m L v EX w0 S θ a.tmps w)(hS:∀j,j<m->S j=true)
  (hr:HRel (KP P gl) θ0 rows w0) (hR:rows[R]?=some r0) (ho:r0.owned=true) (hLR:θ0 R=some LR) (hrow:RowRel (KP P gl) θ R w r') (ho':r'.owned=true) (low:Nat) (hlow:low<=rows.length):
  SRel θ (SL m) a.tmps/\Fr (KP P gl) θ0 θ rows (rows.set R r'++(EX m).map (·.2)) low (lower low R) w0 w:=by
 obtain⟨r1,r2⟩:=hI.rel htr hS0 h0 hS
 have hRl:R<rows.length:=(List.getElem?_eq_some_iff.1 hR).1
 have hget:∀id r,(rows.set R r'++(EX m).map (·.2))[id]?=some r->(id=R/\r=r')\/(id≠R/\(rows.set R .dead++(EX m).map (·.2))[id]?=some r):=fun id r e=>by
  by_cases hid:id=R
  ·subst hid
   rw[List.getElem?_append_left (by simpa using hRl),List.getElem?_set_self (by simpa using hRl)]at e
   injection e with e
   exact .inl ⟨rfl,e.symm⟩
  ·refine .inr ⟨hid,?_⟩
   rcases Nat.lt_or_ge id rows.length with h|h
   ·rw[List.getElem?_append_left (by simpa using h),List.getElem?_set_ne (Ne.symm hid)]at e ⊢
    exact e
   ·rw[List.getElem?_append_right (by simpa using h)]at e ⊢
    simpa using e
 -- no other live row has the written row's block
 have hsole:∀id r K,id≠R->(rows.set R .dead++(EX m).map (·.2))[id]?=some r->r.live=true->θ id=some K->LR.b≠K.b:=fun id r K hne e hl hK=>by
  rcases hI.dom id K hK with h|⟨h1,p,q,s,h2,h3,_⟩
  ·have hid:=hr.dom id K h
   rw[List.getElem?_append_left (by simpa using hid),List.getElem?_set_ne (Ne.symm hne)]at e
   exact hr.inj R id r0 r LR K (Ne.symm hne) hR ho e hl hLR h
  ·have:=hI.base0 R LR hLR
   omega
 have hθR:θ R=some LR:=hI.ext _ _ hLR
 refine⟨r1,hI.ext,⟨fun id K e=>?_,r2.blk,fun id r e=>?_,fun p p' r s K K' hne hp hpo hq hql hK hK'=>?_⟩,by simp,lower_le _ _,hI.os,hI.tape,hI.output,hI.wsize,fun id hid=>?_,fun b hb hn=>?_,fun id r e o hid=>?_,fun id r e o hid=>?_,fun id K e hn=>?_⟩
 ·have:=r2.dom id K e
  simpa using this
 ·rcases hget id r e with ⟨rfl,rfl⟩|⟨hne,e2⟩
  ·exact hrow
  ·exact r2.row id r e2
 ·rcases hget p r hp with ⟨rfl,rfl⟩|⟨n1,e1⟩
  ·rcases hget p' s hq with ⟨rfl,rfl⟩|⟨n2,e2⟩
   ·exact absurd rfl hne
   ·rw[hθR]at hK;injection hK with hK;subst hK
    exact hsole p' s K' n2 e2 hql hK'
  ·rcases hget p' s hq with ⟨rfl,rfl⟩|⟨n2,e2⟩
   ·rw[hθR]at hK';injection hK' with hK';subst hK'
    exact fun h=>hsole p r K n1 e1 (Row.live_of_owned hpo) hK h.symm
   ·exact r2.inj p p' r s K K' hne e1 hpo e2 hql hK hK'
 ·have:=lower_le_id low R
  have:=lower_le low R
  rw[List.getElem?_append_left (by simp;omega),List.getElem?_set_ne (by omega)]
 ·exact hI.heap b hb (fun h=>hn R r0 LR hR ho (lower_le_id _ _) hLR h.symm)
 ·rcases hget id r e with ⟨rfl,rfl⟩|⟨hne,e2⟩
  ·exact⟨r0,hR,ho⟩
  ·rw[List.getElem?_append_left (by simpa using hid),List.getElem?_set_ne (Ne.symm hne)]at e2
   exact⟨r,e2,o⟩
 ·rcases hget id r e with ⟨rfl,rfl⟩|⟨hne,e2⟩
  ·exact⟨r0,hR,Row.live_of_owned ho⟩
  ·rw[List.getElem?_append_left (by simpa using hid),List.getElem?_set_ne (Ne.symm hne)]at e2
   exact⟨r,e2,o⟩
 ·rcases hI.dom id K e with h|⟨h1,p,q,r,h2,h3,_⟩
  ·rw[h]at hn;simp at hn
  ·have:(rows.set R Row.dead).length=rows.length:=by simp
   exact⟨by omega,.inl h1⟩
structure DrawSt(ops:Array Oper)(c fuel:Nat)(listed:Array Bool):Prop where
 size:listed.size=ops.size
 at_:∀j,listed.getD j false=decide (j<c)
 closed:∀j,listed.getD j false=true->∀q,((Region.before ops).getD j 0).testBit q=true->listed.getD q false=true
 fuel:listed.toList.countP (fun x=>!x)<=fuel
def EdgesOK(ops:Array Oper):Prop:=∀j o,ops[j]?=some o->∀e∈o.after,Region.binds .any e=true->e.on<j
theorem listed_get{ops:Array Oper}{listed:Array Bool}(hsz:listed.size=ops.size){i:Nat}(hi:i<ops.size)(b:Bool):listed.getD i false=b↔listed[i]?=some b:=by
 have:i<listed.size:=by omega
 simp[Array.getD,this,Array.getElem?_eq_getElem this]
theorem go_done{ops:Array Oper}{fuel:Nat}{listed:Array Bool}(h:DrawSt ops ops.size fuel listed)(t:Nat):Region.linearise.go .any ops fuel t listed []=[]:=by
 cases fuel with
 |zero=>rfl
 |
  succ fuel=>
  have hready:Region.ready .any ops listed=[]:=by
   match hq:Region.ready .any ops listed with
   |[]=>rfl
   |
    x::r=>
    have hx:x∈Region.ready .any ops listed:=by rw[hq];simp
    obtain⟨h1,o,ho,h2⟩:=mem_ready.1 hx
    have hj:x<ops.size:=(Array.getElem?_eq_some_iff.1 ho).1
    have h3:=h.at_ x
    simp only[hj,decide_true]at h3
    simp only[Array.getD,h.size,hj,dif_pos]at h1 h3
    exact absurd (h3.symm.trans h1) (by simp)
  simp only[Region.linearise.go]
  change (match (Region.ready .any ops listed)[t%(Region.ready .any ops listed).length]? with
   |some i=>Region.linearise.go .any ops fuel (t/(Region.ready .any ops listed).length) (listed.setIfInBounds i true) [i]
   |none=>[].reverse)=_
  rw[hready]
  rfl
theorem count_set{ops:Array Oper}{listed:Array Bool}(hsz:listed.size=ops.size){i:Nat}(hi:i<ops.size)(hu:listed.getD i false=false){fuel:Nat}(h:listed.toList.countP (fun x=>!x)<=fuel+1):(listed.setIfInBounds i true).toList.countP (fun x=>!x)<=fuel:=by
 have hlt2:i<listed.toList.length:=by simp;omega
 rw[Array.toList_setIfInBounds,List.countP_set hlt2]
 have hfi:listed.toList[i]=false:=by
  simp only[Array.getD,hsz,hi,dif_pos]at hu
  simpa using hu
 rw[hfi]
 simp only[Bool.not_false,Bool.not_true,if_true,Bool.false_eq_true,if_false]
 omega
theorem go_one{ops:Array Oper}(hed:EdgesOK ops){c fuel:Nat}{listed:Array Bool}(h:DrawSt ops c fuel listed)(hc:c<ops.size)(hend:∀j,c+1<=j->j<ops.size->∀q,q<c+1->((Region.before ops).getD j 0).testBit q=true)(t:Nat):
  ∃fuel' t' listed',Region.linearise.go .any ops fuel t listed []=c::Region.linearise.go .any ops fuel' t' listed' []/\DrawSt ops (c+1) fuel' listed':=by
 have hun:listed.getD c false=false:=by rw[h.at_];simp
 have hpos:0<fuel:=by
  refine Nat.lt_of_lt_of_le ?_ h.fuel
  rw[List.countP_pos_iff]
  have:c<listed.toList.length:=by have:=h.size;simp;omega
  refine⟨false,?_,rfl⟩
  rw[listed_get h.size hc]at hun
  have:=List.mem_iff_getElem?.2 ⟨c,by rw[Array.getElem?_toList];exact hun⟩
  exact this
 obtain⟨fuel,rfl⟩:∃n,fuel=n+1:=⟨fuel-1,by omega⟩
 have hmem:∀j,j∈Region.ready .any ops listed↔j=c:=by
  intro j
  rw[mem_ready]
  constructor
  ·rintro ⟨h1,o,ho,h2⟩
   have hj:j<ops.size:=(Array.getElem?_eq_some_iff.1 ho).1
   have h1':listed.getD j false=false:=by
    simp only[Array.getD,h.size,hj,dif_pos]at h1 ⊢
    exact h1
   have hjc:c<=j:=by
    rw[h.at_ j]at h1'
    simpa using h1'
   rcases Nat.eq_or_lt_of_le hjc with e|e
   ·exact e.symm
   ·exfalso
    have hb:=hend j (by omega) hj c (by omega)
    obtain⟨o',ho',e',he1,he2,he3⟩:=before_bit ops hed hb
    rw[ho]at ho';injection ho' with ho';subst ho'
    have hle:=h2 e' he1 he2
    rcases he3 with he3|he3
    ·rw[he3,h.at_ c]at hle;simp at hle
    ·have:=h.closed _ hle c he3
     rw[h.at_ c]at this;simp at this
  ·rintro rfl
   refine⟨?_,ops[j],Array.getElem?_eq_getElem hc,fun e he hb=>?_⟩
   ·simp only[Array.getD,h.size,hc,dif_pos]at hun ⊢
    exact hun
   ·have:=hed j _ (Array.getElem?_eq_getElem hc) e he hb
    rw[h.at_];simpa using this
 have hready:Region.ready .any ops listed=[c]:=by
  have hnd:(Region.ready .any ops listed).Nodup:=by unfold Region.ready;exact List.Pairwise.filter _ List.nodup_range
  have h1:c∈Region.ready .any ops listed:=(hmem c).2 rfl
  match hq:Region.ready .any ops listed with
  |[]=>rw[hq]at h1;simp at h1
  |[x]=>rw[hq]at h1;simp at h1;rw[h1]
  |
   x::y::r=>
   rw[hq]at hnd
   have hx:=(hmem x).1 (by rw[hq];simp)
   have hy:=(hmem y).1 (by rw[hq];simp)
   rw[hx,hy]at hnd
   simp at hnd
 refine⟨fuel,t/1,listed.setIfInBounds c true,?_,by simp[h.size],fun j=>?_,fun j hj q hq=>?_,count_set h.size hc hun h.fuel⟩
 ·simp only[Region.linearise.go]
  change (match (Region.ready .any ops listed)[t%(Region.ready .any ops listed).length]? with
   |some i=>Region.linearise.go .any ops fuel (t/(Region.ready .any ops listed).length) (listed.setIfInBounds i true) [i]
   |none=>[].reverse)=_
  rw[hready]
  simp only[List.length_singleton,Nat.mod_one,List.getElem?_cons_zero]
  rw[linearise_go_acc]
  rfl
 ·by_cases e:c=j
  ·subst e
   simp[h.size,hc]
  ·rw[getD_set_ne false e,h.at_ j]
   congr 1
   exact propext ⟨fun h=>by omega,fun h=>by omega⟩
 ·by_cases e:c=j
  ·subst e
   refine getD_set_true ?_
   obtain⟨o',ho',e',he1,he2,he3⟩:=before_bit ops hed hq
   have hon:=hed _ _ ho' e' he1 he2
   have hlon:listed.getD e'.on false=true:=by rw[h.at_];simpa using hon
   rcases he3 with he3|he3
   ·rw[<-he3];exact hlon
   ·exact h.closed _ hlon q he3
  ·rw[getD_set_ne false e]at hj
   exact getD_set_true (h.closed j hj q hq)
theorem draw_loop(J:(Nat->Bool)->Th->Array Value->World->Prop){ops:Array Oper}{c:Nat}(hm:c+m<=ops.size)(b:Frame)(k:List Item)(cs:List Frame)
  (hstep:∀(S:Nat->Bool) (θ:Th) (a:Act) (w:World) (i:Nat) (o:Oper) (rest:List Nat),J S θ a.tmps w->i<m->S i=false->(∀j,S j=true->j<m->∀q,((Region.before ops).getD (c+j) 0).testBit (c+q)=true->S q=true)->(∀q,((Region.before ops).getD (c+i) 0).testBit (c+q)=true->S q=true)->ops[c+i]?=some o->
   ∃θ' w' v',Steps P (lone (b.atR a (.inRegion ops ((c+i)::rest)::k)) cs w) (lone (b.atR (a.put o.dst v') (.inRegion ops rest::k)) cs w')/\J (fun j=>S j||j==i) θ' (a.put o.dst v').tmps w')
  (hed:EdgesOK ops) (hend:∀j,c+m<=j->j<ops.size->∀q,q<c+m->((Region.before ops).getD j 0).testBit q=true):
  ∀(fuel t:Nat) (listed:Array Bool) (θ:Th) (a:Act) (w:World),listed.size=ops.size->(∀j,j<c->listed.getD j false=true)->J (fun j=>listed.getD (c+j) false) θ a.tmps w->(∀j,c+m<=j->listed.getD j false=false)->
   (∀j,listed.getD j false=true->∀q,((Region.before ops).getD j 0).testBit q=true->listed.getD q false=true)->listed.toList.countP (fun x=>!x)<=fuel->
   ∃θ' w' a' fuel' t' listed',Steps P (lone (b.atR a (.inRegion ops (Region.linearise.go .any ops fuel t listed [])::k)) cs w) (lone (b.atR a' (.inRegion ops (Region.linearise.go .any ops fuel' t' listed' [])::k)) cs w')/\a'.defers=a.defers/\DrawSt ops (c+m) fuel' listed'/\
    ∃S,(∀j,j<m->S j=true)/\J S θ' a'.tmps w':=by
 intro fuel
 induction fuel with
 |
  zero=>
  intro t listed θ a w hsz hlo hI hun hcl hcnt
  have hall:∀j,j<ops.size->listed.getD j false=true:=fun j hj=>by
   have h0':listed.toList.countP (fun x=>!x)=0:=by omega
   rw[List.countP_eq_zero]at h0'
   have:=h0' (listed[j]'(by omega)) (by simp)
   simp only[Array.getD,hsz,hj,dif_pos]
   simpa using this
  have hmn:c+m=ops.size:=by
   rcases Nat.eq_or_lt_of_le hm with e|e
   ·exact e
   ·have h1:=hun (c+m) (Nat.le_refl _)
    rw[hall (c+m) e]at h1;simp at h1
  refine⟨θ,w,a,0,t,listed,Steps.refl _ _,rfl,⟨hsz,fun j=>?_,hcl,hcnt⟩,_,fun j hj=>hall (c+j) (by omega),hI⟩
  by_cases hj:j<c+m
  ·rw[hall j (by omega)];simp[hj]
  ·rw[hun j (by omega)];simp[hj]
 |
  succ fuel ih=>
  intro t listed θ a w hsz hlo hI hun hcl hcnt
  by_cases hdone:∀j,j<c+m->listed.getD j false=true
  ·refine⟨θ,w,a,fuel+1,t,listed,Steps.refl _ _,rfl,⟨hsz,fun j=>?_,hcl,hcnt⟩,_,fun j hj=>hdone (c+j) (by omega),hI⟩
   by_cases hj:j<c+m
   ·rw[hdone j hj];simp[hj]
   ·rw[hun j (by omega)];simp[hj]
  ·-- some operation of the group is still to come
   have hne:∃j,j<c+m/\listed.getD j false=false:=by
    refine Classical.byContradiction fun h=>hdone fun j hj=>?_
    cases e:listed.getD j false with
    |true=>rfl
    |false=>exact absurd ⟨j,hj,e⟩ h
   have hrdy:Region.ready .any ops listed≠[]:=by
    obtain⟨j0,hj0,hu0⟩:=hne
    have:∃j,listed.getD j false=false/\∀j',j'<j->listed.getD j' false=true:=by
     have key:∀n,(∃j,j<n/\listed.getD j false=false)->∃j,listed.getD j false=false/\∀j',j'<j->listed.getD j' false=true:=by
      intro n
      induction n with
      |zero=>rintro ⟨j,hj,_⟩;omega
      |
       succ n ihn=>
       rintro ⟨j,hj,hu⟩
       by_cases hex:∃j,j<n/\listed.getD j false=false
       ·exact ihn hex
       ·have hjn:j=n:=by
         rcases Nat.lt_or_ge j n with h|h
         ·exact absurd ⟨j,h,hu⟩ hex
         ·omega
        subst hjn
        refine⟨j,hu,fun j' hj'=>?_⟩
        cases e:listed.getD j' false with
        |true=>rfl
        |false=>exact absurd ⟨j',hj',e⟩ hex
     exact key (c+m) ⟨j0,hj0,hu0⟩
    obtain⟨j,hu,hmin⟩:=this
    have hjs:j<ops.size:=by
     rcases Nat.lt_or_ge j ops.size with h|h
     ·exact h
     ·have:=hmin j0 (by omega)
      rw[hu0]at this;simp at this
    intro hnil
    have hin:j∈Region.ready .any ops listed:=by
     rw[mem_ready]
     refine⟨?_,ops[j],Array.getElem?_eq_getElem hjs,fun e he hb=>hmin _ (hed j _ (Array.getElem?_eq_getElem hjs) e he hb)⟩
     simp only[Array.getD,hsz,hjs,dif_pos]at hu ⊢
     exact hu
    rw[hnil]at hin
    simp at hin
   simp only[Region.linearise.go]
   change ∃θ' w' a' fuel' t' listed',Steps P (lone (b.atR a (.inRegion ops (match (Region.ready .any ops listed)[t%(Region.ready .any ops listed).length]? with
    |some i=>Region.linearise.go .any ops fuel (t/(Region.ready .any ops listed).length) (listed.setIfInBounds i true) [i]
    |none=>[].reverse)::k)) cs w) _/\_
   have hlt:t%(Region.ready .any ops listed).length<(Region.ready .any ops listed).length:=Nat.mod_lt _ (List.length_pos_iff.2 hrdy)
   rw[List.getElem?_eq_getElem hlt]
   simp only
   generalize hi:(Region.ready .any ops listed)[t%(Region.ready .any ops listed).length]=ii
   have hmem:ii∈Region.ready .any ops listed:=by rw[<-hi];exact List.getElem_mem hlt
   obtain⟨h1,o,ho,h2⟩:=mem_ready.1 hmem
   have his:ii<ops.size:=(Array.getElem?_eq_some_iff.1 ho).1
   have hui:listed.getD ii false=false:=by
    simp only[Array.getD,hsz,his,dif_pos]at h1 ⊢
    exact h1
   have hbits:∀q,((Region.before ops).getD ii 0).testBit q=true->listed.getD q false=true:=fun q hq=>by
    obtain⟨o',ho',e',he1,he2,he3⟩:=before_bit ops hed hq
    rw[ho]at ho';injection ho' with ho';subst ho'
    have hle:=h2 e' he1 he2
    rcases he3 with he3|he3
    ·rw[<-he3];exact hle
    ·exact hcl _ hle q he3
   have him:ii<c+m:=by
    rcases Nat.lt_or_ge ii (c+m)with h|h
    ·exact h
    ·obtain⟨j0,hj0,hu0⟩:=hne
     have:=hbits j0 (hend ii h his j0 hj0)
     rw[hu0]at this;simp at this
   have hic:c<=ii:=by
    rcases Nat.lt_or_ge ii c with h|h
    ·rw[hlo ii h]at hui;simp at hui
    ·exact h
   obtain⟨i,rfl⟩:∃i,ii=c+i:=⟨ii-c,by omega⟩
   rw[linearise_go_acc,List.reverse_singleton,List.singleton_append]
   obtain⟨θ1,w1,v1,st,hI1⟩:=hstep _ θ a w i o (Region.linearise.go .any ops fuel (t/(Region.ready .any ops listed).length) (listed.setIfInBounds (c+i) true) []) hI (by omega) hui (fun j hj _ q hq=>hcl _ hj _ hq) (fun q hq=>hbits _ hq) ho
   have hSeq:(fun j=>(listed.getD (c+j) false)||j==i)=fun j=>(listed.setIfInBounds (c+i) true).getD (c+j) false:=by
    funext j
    by_cases e:i=j
    ·subst e
     simp[hsz,his]
    ·rw[getD_set_ne false (by omega)]
     have:(j==i)=false:=by simpa using fun h=>e h.symm
     simp[this]
   rw[hSeq]at hI1
   obtain⟨θ',w',a',fuel',t',listed',st2,hdef,hst,S,hS,hI2⟩:=ih (t/(Region.ready .any ops listed).length) (listed.setIfInBounds (c+i) true) θ1 (a.put o.dst v1) w1 (by simp[hsz]) (fun j hj=>by rw[getD_set_ne false (by omega)];exact hlo j hj) hI1 (fun j hj=>by rw[getD_set_ne false (by omega)];exact hun j hj)
    (fun j hj q hq=>by
     by_cases e:c+i=j
     ·subst e;exact getD_set_true (hbits q hq)
     ·rw[getD_set_ne false e]at hj
      exact getD_set_true (hcl j hj q hq)) (count_set hsz his hui hcnt)
   refine⟨θ',w',a',fuel',t',listed',st.trans st2,?_,hst,S,hS,hI2⟩
   rw[hdef]
   cases o.dst<;>rfl
theorem DrawSt.start(ops:Array Oper):DrawSt ops 0 ops.size (Array.replicate ops.size false):=
 ⟨by simp,fun j=>by simp[Array.getD],fun j hj=>by simp[Array.getD]at hj,by
  have:=List.countP_le_length (l:=(Array.replicate ops.size false).toList) (p:=fun x=>!x)
  simpa using this⟩
end
end Go.Abs
namespace Go.Abs
section
variable {P:Program}{gl:List Nat}
theorem pairsOk_spec:∀(l:List (IOpx×Nat)) (i:Nat),pairsOk l i=true->∀(j k:Nat) (p q:IOpx×Nat),k<j->l[k]?=some p->l[j]?=some q->q.2.testBit (i+k)=true\/apartI p.1 q.1=true
 |[],i,_,j,k,p,q,_,h,_=>by simp at h
 |
  (o,bb)::r,i,h,j,k,p,q,hjk,hk,hj=>by
  simp only[pairsOk,Bool.and_eq_true,List.all_eq_true,Bool.or_eq_true]at h
  cases j with
  |zero=>omega
  |
   succ j=>
   have hj':r[j]?=some q:=by simpa using hj
   cases k with
   |
    zero=>
    simp at hk
    subst hk
    simpa using h.1 q (List.mem_of_getElem? hj')
   |
    succ k=>
    have:=pairsOk_spec r (i+1) h.2 j k p q (by omega) (by simpa using hk) hj'
    rw[show i+(k+1)=i+1+k from by omega]
    exact this
theorem isBound_spec{ops:Array Oper}{b:Nat}(h:isBound (Region.before ops).toList b=true):∀j,b<=j->j<ops.size->∀q,q<b->((Region.before ops).getD j 0).testBit q=true:=by
 intro j hj hjs q hq
 have hbs:(Region.before ops).size=ops.size:=by
  have:=(before_bit_aux ops.toList #[] 0 0).2
  unfold Region.before
  rw[<-Array.foldl_toList]
  simpa using this
 unfold isBound at h
 rw[List.all_eq_true]at h
 have hmem:(Region.before ops).getD j 0∈(Region.before ops).toList.drop b:=by
  refine List.mem_iff_getElem?.2 ⟨j-b,?_⟩
  rw[List.getElem?_drop,show b+(j-b)=j from by omega,Array.getElem?_toList,Array.getD_eq_getD_getElem?,Array.getElem?_eq_getElem (by omega)]
  rfl
 have:=h _ hmem
 simp only[beq_iff_eq]at this
 have h2:=congrArg (fun x=>Nat.testBit x q) this
 simp only[Nat.testBit_and,Nat.testBit_two_pow_sub_one,hq,decide_true,Bool.and_true]at h2
 exact h2
theorem edgesOk_spec{ops:Array Oper}(h:edgesOk ops=true):EdgesOK ops:=fun j o ho e he hb=>by
 have hj:j<ops.size:=(Array.getElem?_eq_some_iff.1 ho).1
 simp only[edgesOk,List.all_eq_true,List.mem_range,Array.all_eq_true_iff_forall_mem,Bool.or_eq_true,Bool.not_eq_true',decide_eq_true_eq]at h
 have:=h j hj e (by rw[Array.getD_eq_getD_getElem?,ho];exact he)
 rcases this with h|h
 ·rw[hb]at h;simp at h
 ·exact h
def Lat(P:Program)(gl:List Nat)(ops:Array Oper)(c j:Nat):IOpx×Nat:=((ops.map (copx P gl ops)).getD (c+j) default,(Region.before ops).getD (c+j) 0 >>> c)
theorem Lat_op{ops:Array Oper}{c j:Nat}{o:Oper}(ho:ops[c+j]?=some o):(Lat P gl ops c j).1=copx P gl ops o:=by
 simp only[Lat]
 rw[Array.getD_eq_getD_getElem?,Array.getElem?_map,ho]
 rfl
theorem Lat_bit{ops:Array Oper}{c j q:Nat}:(Lat P gl ops c j).2.testBit q=((Region.before ops).getD (c+j) 0).testBit (c+q):=by
 simp only[Lat,Nat.testBit_shiftRight]
theorem before_size(ops:Array Oper):(Region.before ops).size=ops.size:=by
 have:=(before_bit_aux ops.toList #[] 0 0).2
 unfold Region.before
 rw[<-Array.foldl_toList]
 simpa using this
theorem lbits_get{ops:Array Oper}{j:Nat}(hj:j<ops.size):(lbits P gl ops)[j]?=some ((ops.map (copx P gl ops)).getD j default,(Region.before ops).getD j 0):=by
 have hb:=before_size ops
 unfold lbits
 rw[List.getElem?_zip_eq_some]
 constructor
 ·simp[Array.getD,hj]
 ·simp[Array.getD,hj,hb]
theorem lbits_len{ops:Array Oper}:(lbits P gl ops).length=ops.size:=by
 have hb:=before_size ops
 simp[lbits,hb]
theorem piece_get{ops:Array Oper}{c m p:Nat}(hm:c+m<=ops.size)(hp:p<m):(piece (lbits P gl ops) c (c+m))[p]?=some (Lat P gl ops c p):=by
 unfold piece
 rw[List.getElem?_map,List.getElem?_take_of_lt (by omega),List.getElem?_drop,lbits_get (by omega)]
 rfl
theorem piece_len{ops:Array Oper}{c m:Nat}(hm:c+m<=ops.size):(piece (lbits P gl ops) c (c+m)).length=m:=by
 simp[piece,lbits_len];omega
theorem piece_L{ops:Array Oper}{c m:Nat}(hm:c+m<=ops.size){p:Nat}{q:IOpx×Nat}(h:(piece (lbits P gl ops) c (c+m))[p]?=some q):Lat P gl ops c p=q:=by
 have hp:p<m:=by have:=(List.getElem?_eq_some_iff.1 h).1;rw[piece_len hm]at this;exact this
 rw[piece_get hm hp]at h
 injection h
theorem Fr.drawn{θ:Th}{rows:List Row}{w:World}(h:HRel (KP P gl) θ rows w)(low n:Nat):Fr (KP P gl) θ θ rows rows low low w {w with drawn:=n}:=
 ⟨Ext.refl _,⟨h.dom,h.blk,fun id r e=>(h.row id r e).mono (Ext.refl _) (fun _ _=>rfl),h.inj⟩,Nat.le_refl _,Nat.le_refl _,rfl,rfl,rfl,Nat.le_refl _,fun _ _=>rfl,fun _ _ _=>rfl,fun id r a b _=>⟨r,a,b⟩,fun id r a b _=>⟨r,a,b⟩,fun id L a b=>by rw[a]at b;simp at b⟩
theorem grp_sound{call:Nat->List AV->List Row->Option (AV×List Row×Option Nat)}(hcall:CallOK P gl call){ops:Array Oper}(hed:EdgesOK ops){c m:Nat}(hm:c+m<=ops.size)(hend:∀j,c+m<=j->j<ops.size->∀q,q<c+m->((Region.before ops).getD j 0).testBit q=true)
  (hpairs:pairsOk (piece (lbits P gl ops) c (c+m)) 0=true) {rows:List Row} {sl sl':List AV} {ext:List (Nat×Row)}
  (hev:evalG call (fun _=>rows) 0 (piece (lbits P gl ops) c (c+m)) sl []=some (sl',ext)) {fuel:Nat} {listed:Array Bool} (hst:DrawSt ops c fuel listed) (t:Nat) {θ:Th} {w:World} {a:Act} (hr:HRel (KP P gl) θ rows w) (hg:GRel θ gl) (hs:SRel θ sl a.tmps) (low:Nat) (hlow:low<=rows.length) (b:Frame) (k:List Item) (cs:List Frame):
  ∃θ' w' a' fuel' t' listed',Steps P (lone (b.atR a (.inRegion ops (Region.linearise.go .any ops fuel t listed [])::k)) cs w) (lone (b.atR a' (.inRegion ops (Region.linearise.go .any ops fuel' t' listed' [])::k)) cs w')/\a'.defers=a.defers/\DrawSt ops (c+m) fuel' listed'/\SRel θ' sl' a'.tmps/\Fr (KP P gl) θ θ' rows (rows++ext.map (·.2)) low low w w':=by
 obtain⟨SL,EX,v,rw_,h1,h2,h3,h4,htr⟩:=evalG_trace (B:=fun _=>rows) (N:=rows.length) (fun _=>rfl) _ 0 sl [] sl' ext (Lat P gl ops c) (fun p q hp=>by rw[Nat.zero_add];exact piece_L hm hp) hev
 rw[piece_len hm,Nat.zero_add]at h3 h4 htr
 have hI:=Inv.start (X:=fun _=>False) (m:=m) (L:=Lat P gl ops c) (v:=v) (EX:=EX) (rows:=rows) (sl0:=sl) (w0:=w) (B:=fun _=>rows) h2 hr (fun _=>hr) hs
 have hSf:(fun _:Nat=>false)=fun j=>listed.getD (c+j) false:=by
  funext j
  rw[hst.at_];simp
 rw[hSf]at hI
 have hap:∀j,j<m->∀k,k<j->(Lat P gl ops c j).2.testBit k=true\/apartI (Lat P gl ops c k).1 (Lat P gl ops c j).1=true:=fun j hj k hk=>by
  have:=pairsOk_spec _ 0 hpairs j k _ _ hk (piece_get hm (by omega)) (piece_get hm hj)
  simpa using this
 obtain⟨θ',w',a',fuel',t',listed',st,hdef,hst',S,hS,hI2⟩:=draw_loop (P:=P) (fun S θ' tmps w'=>Inv (KP P gl) (fun _=>False) θ (fun _=>rows) rows sl m (Lat P gl ops c) v EX w S θ' tmps w') hm b k cs
  (fun S θ1 a1 w1 i o rest hJ him hui hcl hbits ho=>by
   obtain⟨θ2,w2,v2,q1,q2,_⟩:=Inv.step (fun _=>rfl) hcall htr h1 h2 hg hJ him hui hap (fun j hj hjm q hq=>by rw[Lat_bit]at hq;exact hcl j hj hjm q hq) (fun q hq=>by rw[Lat_bit]at hq;exact hbits q hq) ho (Lat_op ho) b rest k cs
   exact⟨θ2,w2,v2,q1,q2⟩) hed hend fuel t listed θ a w hst.size (fun j hj=>by rw[hst.at_];simpa using hj) hI (fun j hj=>by rw[hst.at_];simp;omega) hst.closed hst.fuel
 obtain⟨r1,r2⟩:=hI2.done htr h1 h2 hS low hlow
 rw[h3]at r1
 rw[h4]at r2
 exact⟨θ',w',a',fuel',t',listed',st,hdef,hst',r1,r2⟩
inductive IR(P:Program)(gl:List Nat):Itm->Item->Prop
 |code (hint:Nat->Option (Nat×List Nat)) (c:Code):IR P gl (.code (cc P gl hint c)) (.code c)
 |inBlock (id:Nat):IR P gl (.inBlock id) (.inBlock id)
 |inLoop (hint:Nat->Option (Nat×List Nat)) (c:Code):IR P gl (.inLoop (cc P gl hint c)) (.inLoop c)
 |inScope (hint:Nat->Option (Nat×List Nat)) (c:Code):IR P gl (.inScope (cc P gl hint c)) (.inScope c)
 |rfBegin:IR P gl .rfBegin .beginRound
 |ops (ops:Array Oper) (i:Nat):IR P gl (.ops ((ops.toList.map fun o=>Seg.one (copx P gl ops o)).drop i)) (.inRegion ops (List.range' i (ops.size-i)))
 |draws (ops:Array Oper) (c:Nat) (bs:List Nat) (fuel t:Nat) (listed:Array Bool):EdgesOK ops->chkB (lbits P gl ops) (Region.before ops).toList c bs=true->DrawSt ops c fuel listed->IR P gl (.ops (csegs (lbits P gl ops) c bs)) (.inRegion ops (Region.linearise.go .any ops fuel t listed []))
inductive KR(P:Program)(gl:List Nat):List Itm->List Item->Prop
 |nil:KR P gl [] []
 |cons {x:Itm} {y:Item} {k:List Itm} {t:List Item}:IR P gl x y->KR P gl k t->KR P gl (x::k) (y::t)
theorem popTo_sound(id:Nat):∀{k:List Itm} {t:List Item},KR P gl k t->∀{k':List Itm},popTo id k=some k'->∃t',exitTo id t=some t'/\KR P gl k' t'
 |_,_,.nil,k',h=>by simp[popTo]at h
 |
  _,_,.cons hx hk,k',h=>by
  cases hx with
  |
   inBlock id'=>
   simp only[popTo]at h
   split at h
   ·rename_i e
    injection h with h
    subst h
    exact⟨_,by simp[exitTo,e],hk⟩
   ·rename_i e
    obtain⟨t',h1,h2⟩:=popTo_sound id hk h
    exact⟨t',by
           have:(id'==id)=false:=by simpa using e
           simp[exitTo,this,h1],h2⟩
  |
   _=>
   simp only[popTo]at h
   obtain⟨t',h1,h2⟩:=popTo_sound id hk h
   exact⟨t',h1,h2⟩
theorem popTo_none(id:Nat):∀{k:List Itm} {t:List Item},KR P gl k t->popTo id k=none->exitTo id t=none
 |_,_,.nil,h=>rfl
 |
  _,_,.cons hx hk,h=>by
  cases hx with
  |
   inBlock id'=>
   simp only[popTo]at h
   split at h
   ·simp at h
   ·rename_i e
    have:(id'==id)=false:=by simpa using e
    simp[exitTo,this,popTo_none id hk h]
  |
   _=>
   simp only[popTo]at h
   simp[exitTo,popTo_none id hk h]
theorem SRel.kill{θ:Th}{t:Array Value}:∀(l:List Nat) {sl:List AV},SRel θ sl t->SRel θ (killS sl l) t
 |[],_,h=>h
 |
  d::ds,sl,h=>by
  refine SRel.kill ds ⟨by simp[h.size],fun i x x' hx hx'=>?_⟩
  rw[List.getElem?_set]at hx
  split at hx
  ·split at hx
   ·injection hx with hx;subst hx;exact .any _
   ·simp at hx
  ·exact h.at_ i x x' hx hx'
def getR(tmps:Array Value):ResultVar->Sem Value
 |.tmp t=>pure (tmps.getD t undef)
 |.cell a t=>do loadVar t (<-asAddr (tmps.getD a undef))
theorem results_eq(func:Func)(tmps:Array Value):Go.results func tmps=(do let vs <-func.results.mapM (getR tmps);pure (if h:vs.size=1 then vs[0]else .tuple vs)):=by
 have h:(fun(r:ResultVar)=>(match r with|.tmp t=>pure (tmps.getD t undef)|.cell a t=>do loadVar t (<-asAddr (tmps.getD a undef)):Sem Value))=getR tmps:=by
  funext r;cases r<;>rfl
 rw[<-h]
 rfl
theorem resV_sound{θ:Th}{rows:List Row}{w:World}{sl:List AV}{tmps:Array Value}(hr:HRel (KP P gl) θ rows w)(hs:SRel θ sl tmps):∀{rs:List ResultVar} {res:List RV} {vs:List AV},cres P rs=some res->resVs rows sl res=some vs->
  ∃vs':List Value,(rs.mapM (getR tmps)).run P w = .ok vs' w/\VL θ vs vs'
 |
  [],res,vs,h,k=>by
  simp only[cres,Option.some.injEq]at h
  subst h
  simp only[resVs,Option.some.injEq]at k
  subst k
  exact⟨[],by simp,VL.nil θ⟩
 |
  .tmp t::rs,res,vs,h,k=>by
  simp only[cres,Option.map_eq_some_iff]at h
  obtain⟨res',h,rfl⟩:=h
  simp only[resVs]at k
  split at k
  ·rename_i v vs1 e1 e2
   injection k with k
   subst k
   simp only[resV,Option.some.injEq]at e1
   subst e1
   obtain⟨vs',r1,r2⟩:=resV_sound hr hs h e2
   exact⟨_,by rw[List.mapM_cons];simp only[getR,Sem.run_bind,Sem.run_pure,Result.andThen_ok,r1],VL.cons (hs.get t) r2⟩
  ·simp at k
 |
  .cell c t::rs,res,vs,h,k=>by
  simp only[cres]at h
  split at h
  ·rename_i n l hag hn hl
   injection h with h
   subst h
   simp only[resVs]at k
   split at k
   ·rename_i v vs1 e1 e2
    injection k with k
    subst k
    obtain⟨vs',r1,r2⟩:=resV_sound hr hs hl e2
    simp only[resV,evalP,getO]at e1
    split at e1
    ·rename_i id off e
     split at e1
     ·rename_i xs hrow
      simp only[Option.map_eq_some_iff]at e1
      obtain⟨l0,hl0,rfl⟩:=e1
      have hV:=hs.get c
      rw[e]at hV
      obtain⟨v',q1,q2⟩:=snd_loadN (P:=P) hr hV hag hn rfl hrow hl0
      refine⟨_,?_,VL.cons q2 r2⟩
      rw[List.mapM_cons]
      have hq:(getR tmps (.cell c t)).run P w = .ok v' w:=by
       have hq2:∀z:Value,V θ (.ptr id off) z->(Instr.loadAt t z).run P w = .ok v' w->(do loadVar t (<-asAddr z):Sem Value).run P w = .ok v' w:=fun z hz hz1=>by
        cases hz
        simpa[Instr.loadAt,Instr.sureAddr,asAddr]using hz1
       exact hq2 _ hV q1
      simp only[Sem.run_bind,Result.andThen_ok]
      rw[hq]
      simp only[Result.andThen_ok,r1]
      rfl
     ·simp at e1
    ·simp at e1
   ·simp at k
  ·rename_i n l hag hn hl
   injection h with h
   subst h
   simp only[resVs]at k
   split at k
   ·rename_i v vs1 e1 e2
    injection k with k
    subst k
    obtain⟨vs',r1,r2⟩:=resV_sound hr hs hl e2
    simp only[resV,evalP,getO]at e1
    split at e1
    ·rename_i id off e
     split at e1
     ·rename_i xs hrow
      have hV:=hs.get c
      rw[e]at hV
      obtain⟨v',q1,q2⟩:=snd_load1 (P:=P) hr hV hag rfl hrow e1
      refine⟨_,?_,VL.cons q2 r2⟩
      rw[List.mapM_cons]
      have hq:(getR tmps (.cell c t)).run P w = .ok v' w:=by
       have hq2:∀z:Value,V θ (.ptr id off) z->(Instr.loadAt t z).run P w = .ok v' w->(do loadVar t (<-asAddr z):Sem Value).run P w = .ok v' w:=fun z hz hz1=>by
        cases hz
        simpa[Instr.loadAt,Instr.sureAddr,asAddr]using hz1
       exact hq2 _ hV q1
      simp only[Sem.run_bind,Result.andThen_ok]
      rw[hq]
      simp only[Result.andThen_ok,r1]
      rfl
     ·simp at e1
    ·simp at e1
   ·simp at k
  ·simp at h
theorem results_sound{θ:Th}{rows:List Row}{w:World}{sl:List AV}{tmps:Array Value}(hr:HRel (KP P gl) θ rows w)(hs:SRel θ sl tmps){func:Func}{res:List RV}(hres:cres P func.results.toList=some res){v:AV}(h:Abs.results rows sl res=some v):
  ∃v',(Go.results func tmps).run P w = .ok v' w/\V θ v v':=by
 unfold Abs.results at h
 have key:=fun vs e=>resV_sound (P:=P) hr hs (vs:=vs) hres e
 have run:∀vs',(func.results.toList.mapM (getR tmps)).run P w = .ok vs' w->(Go.results func tmps).run P w = .ok (if h:vs'.toArray.size=1 then vs'.toArray[0]else .tuple vs'.toArray) w:=fun vs' h=>by
  rw[results_eq,Array.mapM_eq_mapM_toList]
  simp only[Sem.run_bind,Sem.run_map]
  rw[h]
  rfl
 split at h
 ·rename_i x e
  injection h with h
  subst h
  obtain⟨vs',r1,r2⟩:=key _ e
  obtain⟨x',r',rfl,h1,h2⟩:=r2.of_cons
  have:r'=[]:=List.length_eq_zero_iff.1 h2.1.symm
  subst this
  exact⟨x',by rw[run _ r1];simp,h1⟩
 ·rename_i vs hne e
  injection h with h
  subst h
  obtain⟨vs',r1,r2⟩:=key _ e
  refine⟨.tuple vs'.toArray,?_,.tup r2.1 r2.2⟩
  rw[run _ r1,dif_neg]
  intro h1
  simp at h1
  have hl:=r2.1
  rw[h1]at hl
  match vs,hl with
  |[x],_=>exact hne x rfl
 ·simp at h
end
end Go.Abs
namespace Go.Abs
section
variable {P:Program}{gl:List Nat}
theorem cop_store{o:Oper}{io:IOp}(h:cop P gl o=some io){a x:Opd}{n:Option Nat}(hs:isStore io=some (a,x,n)):
  ∃t y z,o.op = .store t y z/\a=co gl y/\x=co gl z/\((n=none/\szT P t=some 1)\/∃k,n=some k/\szT P t=some k):=by
 obtain⟨dst,op,ty,pos,aft,gd⟩:=o
 cases op<;>simp only[cop,reduceCtorEq]at h
 case store t y z=>
  split at h
  ·rename_i k hag hn
   injection h with h
   subst h
   simp only[isStore,Option.some.injEq,Prod.mk.injEq]at hs
   obtain⟨rfl,rfl,rfl⟩:=hs
   exact⟨t,y,z,rfl,rfl,rfl,.inr ⟨k,rfl,hn⟩⟩
  ·rename_i k hag hn
   split at h
   ·rename_i hk
    subst hk
    injection h with h
    subst h
    simp only[isStore,Option.some.injEq,Prod.mk.injEq]at hs
    obtain⟨rfl,rfl,rfl⟩:=hs
    exact⟨t,y,z,rfl,rfl,rfl,.inl ⟨rfl,hn⟩⟩
   ·simp at h
  ·simp at h
 case call c=>
  obtain⟨callee,cargs,ats⟩:=c
  cases callee with
  |value ff=>simp only[Option.some.injEq]at h;subst h;simp[isStore]at hs
  |
   invoke r m=>
   simp only at h
   split at h<;>first|(simp at h;done)|(injection h with h;subst h;simp[isStore]at hs;done)
  |
   builtin bb=>
   cases bb<;>simp only[reduceCtorEq]at h
   all_goals
    repeat' split at h
    all_goals first
     |(simp at h;done)
     |(injection h with h;subst h;simp[isStore]at hs;done)
     |(simp only[Option.map_eq_some_iff]at h;obtain⟨_,_,rfl⟩:=h;simp[isStore]at hs;done)
 case makeFunc fn fi cs=>
  cases fn<;>simp only[reduceCtorEq]at h
  split at h
  ·injection h with h;subst h;simp[isStore]at hs
  ·split at h
   ·injection h with h;subst h;simp[isStore]at hs
   ·simp at h
 all_goals
  repeat' split at h
  all_goals first
   |(simp at h;done)
   |(injection h with h;subst h;simp[isStore]at hs;done)
   |(simp only[Option.map_eq_some_iff]at h;obtain⟨_,_,rfl⟩:=h;simp[isStore]at hs;done)
   |contradiction
theorem stored_spec{sl:List AV}{rows:List Row}{R off:Nat}{a x:Opd}{n:Option Nat}{r':Row}(h:stored sl rows R off a x n=some r'):
  ∃vs,getO sl a = .ptr R off/\rows[R]?=some (.cells vs)/\((n=none/\off<vs.length/\(getO sl x).one=true/\r' = .cells (vs.set off (getO sl x)))\/
   ∃l,n=some l.length/\getO sl x = .agg l/\off+l.length<=vs.length/\l.all AV.one=true/\r' = .cells (splice vs off l)):=by
 unfold stored at h
 split at h
 case h_2=>simp at h
 rename_i id off' ha
 split at h
 case isFalse=>simp at h
 rename_i hid
 obtain⟨h1,h2⟩:=hid
 subst h1;subst h2
 split at h
 case h_2=>simp at h
 rename_i vs hvs
 split at h
 ·split at h
  ·rename_i hc
   injection h with h
   exact⟨vs,ha,hvs,.inl ⟨rfl,hc.1,hc.2,h.symm⟩⟩
  ·simp at h
 ·rename_i k
  split at h
  ·rename_i l hl
   split at h
   ·rename_i hc
    injection h with h
    obtain⟨c1,c2,c3⟩:=hc
    subst c1
    exact⟨vs,ha,hvs,.inr ⟨l,rfl,hl,c2,c3,h.symm⟩⟩
   ·simp at h
  ·simp at h
theorem mask_row{κ:KRel}{θ:Th}{R:Nat}{w:World}{vs:List AV}{off n:Nat}(hle:off+n<=vs.length)(h:RowRel κ θ R w (.cells vs)):RowRel κ θ R w (.cells (splice vs off (List.replicate n .any))):=by
 obtain⟨L,c,T,h1,h2,h3⟩:=h
 refine⟨L,c,T,h1,h2,?_,h3.2.1,fun j x hx=>?_⟩
 ·have:=h3.1
  simp only[splice,List.length_append,List.length_take,List.length_replicate,List.length_drop]
  omega
 ·have hj:j<vs.length:=by
   have:=(List.getElem?_eq_some_iff.1 hx).1
   simp only[splice,List.length_append,List.length_take,List.length_replicate,List.length_drop]at this
   omega
  obtain⟨x',p,q,o⟩:=h3.2.2 j vs[j] (List.getElem?_eq_getElem hj)
  refine⟨x',p,?_,o⟩
  unfold splice at hx
  rcases Nat.lt_or_ge j off with h|h
  ·rw[List.getElem?_append_left (by simp;omega),List.getElem?_append_left (by simp;omega),List.getElem?_take_of_lt h,List.getElem?_eq_getElem hj]at hx
   injection hx with hx
   rw[<-hx];exact q
  ·rcases Nat.lt_or_ge j (off+n)with h'|h'
   ·rw[List.getElem?_append_left (by simp;omega),List.getElem?_append_right (by simp;omega),List.getElem?_replicate]at hx
    split at hx
    ·injection hx with hx;rw[<-hx];exact .any _
    ·simp at hx
   ·rw[List.getElem?_append_right (by simp;omega),List.getElem?_drop]at hx
    simp only[List.length_append,List.length_take,List.length_replicate]at hx
    rw[show off+n+(j-(min off vs.length+n))=j from by omega,List.getElem?_eq_getElem hj]at hx
    injection hx with hx
    rw[<-hx];exact q
theorem splice_splice{vs l m:List AV}{off:Nat}(hl:l.length=m.length)(hle:off+l.length<=vs.length):splice (splice vs off l) off m=splice vs off m:=by
 unfold splice
 have h1:(vs.take off++l++vs.drop (off+l.length)).take off=vs.take off:=by
  rw[List.append_assoc,List.take_append_of_le_length (by simp;omega),List.take_take,Nat.min_self]
 have h2:(vs.take off++l++vs.drop (off+l.length)).drop (off+m.length)=vs.drop (off+m.length):=by
  rw[<-hl]
  have:(vs.take off++l).length=off+l.length:=by simp;omega
  rw[<-this,List.drop_left]
 rw[h1,h2]
theorem maskR_len(rows:List Row)(R off n:Nat):(maskR rows R off n).length=rows.length:=by
 unfold maskR;split<;>simp
theorem noop_opR(call:Nat->List AV->List Row->Option (AV×List Row×Option Nat))(sl:List AV)(rows:List Row)(low:Nat):opR call sl rows low noop=some (.int .i64 0,rows,low):=rfl
theorem grpW_sound{call:Nat->List AV->List Row->Option (AV×List Row×Option Nat)}(hcall:CallOK P gl call){ops:Array Oper}(hed:EdgesOK ops){c m:Nat}(hm:c+m<=ops.size)(hend:∀j,c+m<=j->j<ops.size->∀q,q<c+m->((Region.before ops).getD j 0).testBit q=true)
  (hpairs:pairsOk (piece (lbits P gl ops) c (c+m)) 0=true) {rows:List Row} {sl sl':List AV} {ext:List (Nat×Row)} {i:Nat} {oi:IOpx×Nat} {a0 x0:Opd} {n0:Option Nat} {R off:Nat} {r':Row}
  (hi:(piece (lbits P gl ops) c (c+m))[i]?=some oi) (hst:isStore oi.1.op=some (a0,x0,n0)) (hdst:oi.1.dst=none) (hgn:oi.1.g=none)
  (hbits:∀q∈piece (lbits P gl ops) c (c+m),q.2.testBit i=false)
  (hev:evalG call (baseW rows (maskR rows R off (n0.getD 1)) oi.2) 0 ((piece (lbits P gl ops) c (c+m)).set i (noop,oi.2)) sl []=some (sl',ext)) (hsto:stored sl' rows R off a0 x0 n0=some r')
  {fuel:Nat} {listed:Array Bool} (hdst0:DrawSt ops c fuel listed) (t:Nat) {θ:Th} {w:World} {a:Act} (hr:HRel (KP P gl) θ rows w) (hg:GRel θ gl) (hs:SRel θ sl a.tmps) (low:Nat) (hlow:low<=rows.length) (b:Frame) (k:List Item) (cs:List Frame):
  ∃θ' w' a' fuel' t' listed',Steps P (lone (b.atR a (.inRegion ops (Region.linearise.go .any ops fuel t listed [])::k)) cs w) (lone (b.atR a' (.inRegion ops (Region.linearise.go .any ops fuel' t' listed' [])::k)) cs w')/\a'.defers=a.defers/\DrawSt ops (c+m) fuel' listed'/\SRel θ' sl' a'.tmps/\Fr (KP P gl) θ θ' rows (rows.set R r'++ext.map (·.2)) low (lower low R) w w':=by
 let L:Nat->IOpx×Nat:=Lat P gl ops c
 have hlen0:(piece (lbits P gl ops) c (c+m)).length=m:=piece_len hm
 have hget:∀p q,(piece (lbits P gl ops) c (c+m))[p]?=some q->L p=q:=fun p q hp=>piece_L hm hp
 have hap:∀j,j<m->∀k,k<j->(L j).2.testBit k=true\/apartI (L k).1 (L j).1=true:=fun j hj k hk=>by
  have:=pairsOk_spec _ 0 hpairs j k _ _ hk (piece_get hm (by omega)) (piece_get hm hj)
  simpa using this
 have him:i<m:=by have:=(List.getElem?_eq_some_iff.1 hi).1;omega
 have hLi:L i=oi:=hget i oi hi
 have hbit:∀j,j<m->(L j).2.testBit i=false:=fun j hj=>hbits _ (List.mem_of_getElem? (piece_get hm hj))
 let L':Nat->IOpx×Nat:=fun j=>if j=i then(noop,oi.2)else L j
 have hL'2:∀j,(L' j).2=(L j).2:=fun j=>by
  simp only[L']
  split
  ·rename_i e;subst e;rw[hLi]
  ·rfl
 have hL'n:∀j,j≠i->L' j=L j:=fun j hj=>by simp only[L'];rw[if_neg hj]
 have hL'i:L' i=(noop,oi.2):=by simp only[L'];rw[if_pos trivial]
 have hBl:∀p,(baseW rows (maskR rows R off (n0.getD 1)) oi.2 p).length=(rows.set R Row.dead).length:=fun p=>by
  unfold baseW;split<;>simp[maskR_len]
 obtain⟨SL,EX,v,rw_,h1,h2,h3,h4,htr⟩:=evalG_trace hBl _ 0 sl [] sl' ext L' (fun p q hp=>by
  rw[Nat.zero_add]
  rw[List.getElem?_set]at hp
  split at hp
  ·rename_i e
   subst e
   split at hp
   ·injection hp with hp;rw[hL'i];exact hp
   ·simp at hp
  ·rename_i e
   rw[hL'n p (fun h=>e h.symm)]
   exact hget p q hp) hev
 rw[show((piece (lbits P gl ops) c (c+m)).set i (noop,oi.2)).length=m from by rw[List.length_set,hlen0],Nat.zero_add]at h3 h4 htr
 -- the row
 obtain⟨vs,hpa,hR,hcase⟩:=stored_spec hsto
 obtain⟨LR,hLR⟩:=(hr.row R _ hR).loc rfl
 have hRb:=hr.blk R LR hLR
 have hRl:R<rows.length:=(List.getElem?_eq_some_iff.1 hR).1
 have hrD:HRel (KP P gl) θ (rows.set R .dead) w:=(Fr.kill hr low R).rel
 -- what is not known of the row
 have hwide:off+(n0.getD 1)<=vs.length:=by
  rcases hcase with ⟨e0,e1,_⟩|⟨l,e0,_,e2,_⟩<;>rw[e0]<;>simp<;>omega
 have hrm:maskR rows R off (n0.getD 1)=rows.set R (.cells (splice vs off (List.replicate (n0.getD 1) .any))):=by
  unfold maskR;rw[hR]
 have hmaskRel:∀{θ1:Th} {w1:World},HRel (KP P gl) θ1 (rows.set R .dead) w1->RowRel (KP P gl) θ1 R w1 (.cells (splice vs off (List.replicate (n0.getD 1) .any)))->(∀id r K,id≠R->rows[id]?=some r->r.live=true->θ1 id=some K->K.b≠LR.b)->θ1 R=some LR->HRel (KP P gl) θ1 (maskR rows R off (n0.getD 1)) w1:=fun{θ1 w1} hd hrow hsole hθ=>by
  rw[hrm]
  have hg2:∀id r,(rows.set R (.cells (splice vs off (List.replicate (n0.getD 1) .any))))[id]?=some r->(id=R/\r = .cells (splice vs off (List.replicate (n0.getD 1) .any)))\/(id≠R/\rows[id]?=some r/\(rows.set R Row.dead)[id]?=some r):=fun id r e=>by
   rw[List.getElem?_set]at e
   split at e
   ·rename_i q;subst q
    first|rw[if_pos hRl]at e|skip
    injection e with e
    exact .inl ⟨rfl,e.symm⟩
   ·rename_i q
    exact .inr ⟨fun h=>q h.symm,e,by rw[List.getElem?_set_ne q];exact e⟩
  refine⟨fun id K e=>by have:=hd.dom id K e;simpa using this,hd.blk,fun id r e=>?_,fun p p' r s K K' hne hp hpo hq hql hK hK'=>?_⟩
  ·rcases hg2 id r e with ⟨rfl,rfl⟩|⟨_,_,e2⟩
   ·exact hrow
   ·exact hd.row id r e2
  ·rcases hg2 p r hp with ⟨rfl,rfl⟩|⟨n1,e1,e1'⟩
   ·rcases hg2 p' s hq with ⟨rfl,rfl⟩|⟨n2,e2,e2'⟩
    ·exact absurd rfl hne
    ·rw[hθ]at hK;injection hK with hK;subst hK
     exact fun h=>hsole p' s K' n2 e2 hql hK' h.symm
   ·rcases hg2 p' s hq with ⟨rfl,rfl⟩|⟨n2,e2,e2'⟩
    ·rw[hθ]at hK';injection hK' with hK';subst hK'
     exact hsole p r K n1 e1 (Row.live_of_owned hpo) hK
    ·exact hd.inj p p' r s K K' hne e1' hpo e2' hql hK hK'
 have hsole0:∀id r K,id≠R->rows[id]?=some r->r.live=true->θ id=some K->K.b≠LR.b:=fun id r K hne e hl hK h=>hr.inj R id _ r LR K (Ne.symm hne) hR rfl e hl hLR hK h.symm
 have hmask0:HRel (KP P gl) θ (maskR rows R off (n0.getD 1)) w:=hmaskRel hrD (mask_row hwide (hr.row R _ hR)) hsole0 hLR
 have hI:=Inv.start (B:=baseW rows (maskR rows R off (n0.getD 1)) oi.2) (X:=fun b=>b=LR.b) (m:=m) (L:=L') (v:=v) (EX:=EX) (rows:=rows.set R .dead) (sl0:=sl) (w0:=w) h2 hrD (fun p=>by unfold baseW;split;exact hr;exact hmask0) hs
 have hSf:(fun _:Nat=>false)=fun j=>listed.getD (c+j) false:=by
  funext j
  rw[hdst0.at_];simp
 rw[hSf]at hI
 have hap':∀j,j<m->∀k,k<j->(L' j).2.testBit k=true\/apartI (L' k).1 (L' j).1=true:=fun j hj k hk=>by
  rw[hL'2]
  by_cases e1:j=i
  ·subst e1;right;rw[hL'i];simp[apartI,noop,IOpx.looks,IOp.opds]
   cases(L' k).1.dst<;>simp
  ·by_cases e2:k=i
   ·subst e2;right;rw[hL'i];simp[apartI,noop,IOpx.looks,IOp.opds]
    cases(L' j).1.dst<;>simp
   ·rw[hL'n j e1,hL'n k e2]
    exact hap j hj k hk
 obtain⟨θ',w',a',fuel',t',listed',st,hdef,hst',S,hS,hI2,hrow2⟩:=draw_loop (P:=P) (fun S θ' tmps w'=>Inv (KP P gl) (fun b=>b=LR.b) θ (baseW rows (maskR rows R off (n0.getD 1)) oi.2) (rows.set R .dead) sl m L' v EX w S θ' tmps w'/\RowRel (KP P gl) θ' R w' (if S i then r' else .cells vs)) hm b k cs
  (fun S θ1 a1 w1 j o rest hJ hjm huj hcl hbj ho=>by
   obtain⟨hJ,hJR⟩:=hJ
   have hLo1:(L j).1=copx P gl ops o:=Lat_op ho
   have hθR:θ1 R=some LR:=hJ.ext _ _ hLR
   by_cases hji:j=i
   ·-- the store
    subst hji
    rw[huj]at hJR
    simp only[Bool.false_eq_true,if_false]at hJR
    rw[hLi]at hLo1
    have hbad:(copx P gl ops o).op ≠ .bad:=by
     rw[<-hLo1];intro h;rw[h]at hst;simp[isStore]at hst
    obtain⟨g,c1,c2,c3,c4⟩:=copx_bad hbad
    rw[<-hLo1]at c2 c3 c4
    rw[hgn]at c3
    subst c3
    have hwr:=want_sound (sl:=List.replicate a1.tmps.size .any) (a:=a1) (θ:=θ1) (c:=true) ⟨by simp,fun i x x' hx _=>by
     rw[List.getElem?_replicate]at hx
     split at hx
     ·injection hx with hx;subst hx;exact .any _
     ·simp at hx⟩ c1 rfl
    obtain⟨t,y,z,d1,rfl,rfl,d4⟩:=cop_store c2 hst
    rw[hdst]at c4
    -- the slots that it looks at
    have hX:∀u,Opd.tmps (co gl u) ⊆ oi.1.looks->V θ1 (getO sl' (co gl u)) (a1.eval u):=fun u hu=>by
     have hgθ:GRel θ1 gl:=hg.mono hJ.ext
     let Y:List AV:=(List.range sl.length).map fun t=>if t∈oi.1.looks then(SL m).getD t .any else .any
     have hY:SRel θ1 Y a1.tmps:=by
      refine⟨by simp[Y,hJ.size],fun t x x' hx hx'=>?_⟩
      have htl:t<sl.length:=by have:=(List.getElem?_eq_some_iff.1 hx).1;simpa[Y]using this
      simp only[Y,List.getElem?_map,List.getElem?_range htl,Option.map_some,Option.some.injEq]at hx
      subst hx
      split
      ·rename_i ht
       have hV:=hJ.slots t x' hx'
       have e1:slotAt sl (rows.set R Row.dead).length L' v (fun j=>(rows.set R Row.dead).length+(EX j).length) S m t=slotAt sl (rows.set R Row.dead).length L' v (fun j=>(rows.set R Row.dead).length+(EX j).length) (fun _=>true) m t:=
        slotAt_congr m (fun q hq hd=>by
         by_cases e:q=j
         ·subst e;rw[hL'i]at hd;simp[noop]at hd
         ·rw[hL'n q e]at hd
          rcases Nat.lt_or_ge q j with h|h
          ·rcases hap j hjm q h with hh|hh
           ·exact hbj q (by rw[<-Lat_bit (P:=P) (gl:=gl)];exact hh)
           ·have:=(apartI_spec hh).1 t hd
            rw[hLi]at this
            exact absurd ht this
          ·rcases hap q hq j (by omega)with hh|hh
           ·have:=hbit q hq
            rw[hh]at this
            simp at this
           ·have:=(apartI_spec hh).2.2 t hd
            rw[hLi]at this
            exact absurd ht this)
       rw[e1,(slotAt_text (sl0:=sl) htr h1 htl m (Nat.le_refl _)).1]at hV
       exact hV.mono (Th.upto_ext _ _)
      ·exact .any _
     have hV:=opd_V (a:=a1) hgθ hY u
     have:getO Y (co gl u)=getO sl' (co gl u):=getO_congr fun t ht=>by
      rcases Nat.lt_or_ge t sl.length with htl|htl
      ·simp only[Y,List.getD,List.getElem?_map,List.getElem?_range htl,Option.map_some,Option.getD_some,if_pos (hu ht)]
       rw[h3]
      ·have hL':=htr.sl_len h1 m (Nat.le_refl _)
       rw[h3]at hL'
       rw[List.getD,List.getD,List.getElem?_eq_none (l:=Y) (by simp only[Y,List.length_map,List.length_range];exact htl),List.getElem?_eq_none (l:=sl') (by omega)]
     rw[<-this];exact hV
    have hVa:V θ1 (.ptr R off) (a1.eval y):=by
     rw[<-hpa]
     refine hX y fun t ht=>opd_looks (x:=co gl y) ?_ ht
     rcases oi with ⟨⟨dd,op,gg⟩,bb⟩
     cases op<;>simp[isStore]at hst<;>simp[IOp.opds,hst]
    have hVx:V θ1 (getO sl' (co gl z)) (a1.eval z):=by
     refine hX z fun t ht=>opd_looks (x:=co gl z) ?_ ht
     rcases oi with ⟨⟨dd,op,gg⟩,bb⟩
     cases op<;>simp[isStore]at hst<;>simp[IOp.opds,hst]
    have hcells:∃l l',VL θ1 l l'/\(a1.eval z).cells.toList=l'/\szT P t=some l.length/\off+l.length<=vs.length/\(∀v∈l',v.oneCell'=true)/\r' = .cells (splice vs off l)/\l.length=n0.getD 1:=by
     rcases hcase with ⟨e0,e1,e2,rfl⟩|⟨l,e0,e1,e2,e3,rfl⟩
     ·have hsz:szT P t=some 1:=by
       rcases d4 with ⟨_,d4⟩|⟨k,d4,_⟩
       ·exact d4
       ·rw[e0]at d4;simp at d4
      obtain⟨o1,o2⟩:=V.oneCell hVx e2
      have hl:VL θ1 [getO sl' (co gl z)] [a1.eval z]:=VL.cons hVx (VL.nil θ1)
      exact⟨_,_,hl,by rw[o2],hsz,by simp;omega,by simpa using o1,by rw[splice_one _ _ _ e1],by rw[e0];rfl⟩
     ·have hsz:szT P t=some l.length:=by
       rcases d4 with ⟨d4,_⟩|⟨k,d4,d5⟩
       ·rw[e0]at d4;simp at d4
       ·rw[e0]at d4;injection d4 with d4;rw[d4];exact d5
      rw[e1]at hVx
      generalize a1.eval z=z' at hVx ⊢
      cases hVx with
      |agg p q=>
      rename_i l'
      have hl:VL θ1 l l':=⟨p,q⟩
      exact⟨l,l',hl,by simp[Value.cells],hsz,e2,ones_of hl e3,rfl,by rw[e0];rfl⟩
    obtain⟨lc,lc',y1,y2,y3,y4,y5,y6,y7⟩:=hcells
    have hstore:∃w2,(Instr.storeAt t (a1.eval y) (a1.eval z)).run P w1 = .ok () w2/\RowRel (KP P gl) θ1 R w2 r'/\w2.heap.size=w1.heap.size/\(∀k,k≠LR.b->w2.heap[k]?=w1.heap[k]?)/\w2.os=w1.os/\w2.tape=w1.tape/\w2.output=w1.output:=by
     rw[y6]
     exact snd_storeR (P:=P) hVa y1 y2 y3 hθR hJR y4 y5
    obtain⟨w2,s1,s2,s3,s4,s5,s6,s7⟩:=hstore
    have hrun:(execOp a1.eval o).run P w1 = .ok .skip w2:=by
     have:execOp a1.eval o=(do Instr.storeAt t (a1.eval y) (a1.eval z);pure .skip):=by
      obtain⟨dst,op,ty,pos,aft,gd⟩:=o
      simp only at d1
      subst d1
      rfl
     rw[this,Sem.run_bind,s1];rfl
    have hod:o.dst=none:=c4.symm
    have hstep:=step_value (P:=P) (b:=b) (a:=a1) (k:=k) (cs:=cs) (rest:=rest) ho hwr (by rw[d1];intro c h;cases h) hrun (.inr ⟨rfl,rfl⟩)
    refine⟨θ1,w2,undef,.one hstep,?_,by simpa using s2⟩
    have htm:(a1.put o.dst undef).tmps=a1.tmps:=by rw[hod];rfl
    rw[htm]
    -- no row of the operation's own
    have hnew:(EX (j+1)).length=(EX j).length:=by
     have e1:=htr.op j (Nat.zero_le _) hjm
     rw[hL'i]at e1
     simp only[noop_opR,Option.some.injEq,Prod.mk.injEq]at e1
     have e2:=htr.ex j (Nat.zero_le _) hjm
     rw[<-e1.2.1]at e2
     have:((baseW rows (maskR rows R off (n0.getD 1)) oi.2 j++maskE (oi.2) (EX j)).drop ((rows.set R Row.dead).length+(EX j).length))=[]:=List.drop_eq_nil_of_le (by rw[List.length_append,hBl];simp[maskE])
     rw[this]at e2
     rw[e2];simp
    have hblk:∀id K,id≠R->θ1 id=some K->(∃r,(rows.set R .dead)[id]?=some r/\r.live=true)\/rows.length<=id->K.b≠LR.b:=fun id K hne hK hcase=>by
     rcases hJ.dom id K hK with h|⟨q1,p,q,s,q2,q3,q4⟩
     ·rcases hcase with ⟨r,c1,c2⟩|h2
      ·rw[List.getElem?_set_ne (Ne.symm hne)]at c1
       exact fun e=>hr.inj R id _ r LR K (Ne.symm hne) hR rfl c1 c2 hLR h e.symm
      ·have:=hr.dom id K h;omega
     ·omega
    have hbase2:HRel (KP P gl) θ (rows.set R .dead) w2:=⟨hJ.base.dom,fun id K e=>by rw[s3];exact hJ.base.blk id K e,fun id r e=>by
     by_cases hl:r.live=true
     ·have hid:id≠R:=by
       rintro rfl
       rw[List.getElem?_set_self (by simpa using hRl)]at e
       injection e with e
       subst e
       simp[Row.live]at hl
      exact(hJ.base.row id r e).mono (Ext.refl _) (fun K hK=>s4 _ (hblk id K hid (hJ.ext _ _ hK) (.inl ⟨r,e,hl⟩)))
     ·cases r<;>first|(simp[Row.live]at hl;done)|trivial,hJ.base.inj⟩
    have hbaseB:∀p,p<m->(S p||p==j)=false->HRel (KP P gl) θ (baseW rows (maskR rows R off (n0.getD 1)) oi.2 p) w2:=fun p hp hS=>by
     simp only[Bool.or_eq_false_iff]at hS
     have hold:=hJ.baseB p hp hS.1
     unfold baseW at hold ⊢
     split
     ·rename_i hb
      have:=hbj p (by rw[<-Lat_bit (P:=P) (gl:=gl)];rw[<-hLi]at hb;exact hb)
      rw[hS.1]at this;simp at this
     ·rename_i hb
      rw[if_neg hb]at hold
      have hrow0:RowRel (KP P gl) θ R w1 (.cells (splice vs off (List.replicate (n0.getD 1) .any))):=hold.row R _ (by rw[hrm,List.getElem?_set_self hRl])
      have hVa0:V θ (.ptr R off) (a1.eval y):=by
       generalize a1.eval y=z0 at hVa
       cases hVa with
       |
        ptr h1=>
        rw[hθR]at h1;injection h1 with h1;subst h1
        exact .ptr hLR
      have hlen1:lc'.length=n0.getD 1:=by have:=y1.1;omega
      have hspl:(splice vs off (List.replicate (n0.getD 1) .any)).length=vs.length:=by
       simp only[splice,List.length_append,List.length_take,List.length_replicate,List.length_drop]
       omega
      obtain⟨w3,z1,z2,_⟩:=snd_storeR (P:=P) hVa0 (l:=List.replicate (n0.getD 1) .any) (l':=lc') ⟨by simp[hlen1],fun i x x' hx _=>by
       rw[List.getElem?_replicate]at hx
       split at hx
       ·injection hx with hx;rw[<-hx];exact .any _
       ·simp at hx⟩ y2 (by rw[y3,List.length_replicate,y7]) hLR hrow0 (by rw[List.length_replicate,hspl];exact hwide) y5
      rw[s1]at z1
      injection z1 with _ z1
      subst z1
      rw[splice_splice (by simp) (by rw[List.length_replicate];exact hwide)]at z2
      exact hmaskRel hbase2 z2 hsole0 hLR
    refine⟨hJ.size,fun t x' hx=>?_,fun p q r e hS'=>?_,hbase2,hbaseB,hJ.ext,fun id K e=>?_,fun p p' q q' r s K K' hne e hS1 ho1 e' hS2 hl2 hK hK'=>?_,fun id K e=>by rw[s3];exact hJ.blk id K e,s5.trans hJ.os,s6.trans hJ.tape,s7.trans hJ.output,by rw[s3];exact hJ.wsize,fun b' hb' hx=>?_,hJ.base0⟩
    ·have e1:slotAt sl (rows.set R Row.dead).length L' v (fun j=>(rows.set R Row.dead).length+(EX j).length) (fun q=>S q||q==j) m t=slotAt sl (rows.set R Row.dead).length L' v (fun j=>(rows.set R Row.dead).length+(EX j).length) S m t:=
      slotAt_congr m (fun q hq hd=>by
       by_cases e:q=j
       ·subst e;rw[hL'i]at hd;simp[noop]at hd
       ·have:(q==j)=false:=by simpa using e
        simp[this])
     rw[e1]
     exact hJ.slots t x' hx
    ·have hq:q≠j:=by
      rintro rfl
      obtain⟨o1,o2,o3,_⟩:=Tr.owner htr h2 (i:=m) (Nat.le_refl _) e
      omega
     have hSq:S q=true:=by
      have:(q==j)=false:=by simpa using hq
      simpa[this]using hS'
     refine(hJ.rows_ p q r e hSq).mono (Ext.refl _) (fun K hK=>s4 _ ?_)
     refine hblk _ K ?_ (Th.upto_some.1 hK).2 (.inr ?_)
     ·simp;omega
     ·simp
    ·rcases hJ.dom id K e with h|⟨q1,p,q,r,q2,q3,q4⟩
     ·exact .inl h
     ·exact .inr ⟨q1,p,q,r,q2,q3,by simp[q4]⟩
    ·have hown:∀p q r,(EX m)[p]?=some (q,r)->q≠j:=fun p q r e=>by
      rintro rfl
      obtain⟨o1,o2,o3,_⟩:=Tr.owner htr h2 (i:=m) (Nat.le_refl _) e
      omega
     have d1:S q=true:=by
                   have:(q==j)=false:=by simpa using hown p q r e
                   simpa[this]using hS1
     have d2:S q'=true:=by
                   have:(q'==j)=false:=by simpa using hown p' q' s e'
                   simpa[this]using hS2
     exact hJ.inj p p' q q' r s K K' hne e d1 ho1 e' d2 hl2 hK hK'
    ·rw[s4 b' hx]
     exact hJ.heap b' hb' hx
   ·obtain⟨θ2,w2,v2,q1,q2,q3,q4⟩:=Inv.step hBl hcall htr h1 h2 hg hJ hjm huj hap' (fun j' hj hjm q hq=>by
     rw[hL'2,Lat_bit]at hq
     exact hcl j' hj hjm q hq) (fun q hq=>by rw[hL'2,Lat_bit]at hq;exact hbj q hq) ho (by rw[hL'n j hji];exact hLo1) b rest k cs
    refine⟨θ2,w2,v2,q1,q2,?_⟩
    have:(i==j)=false:=by simpa using fun h=>hji h.symm
    simp only[this,Bool.or_false]
    exact hJR.mono q3 (fun K hK=>by
     rw[hθR]at hK;injection hK with hK;subst hK
     exact q4 _ (hJ.blk R LR hθR))) hed hend fuel t listed θ a w hdst0.size (fun j hj=>by rw[hdst0.at_];simpa using hj) ⟨hI,by
    have:listed.getD (c+i) false=false:=by rw[hdst0.at_];simp
    simp only[this,Bool.false_eq_true,if_false]
    exact hr.row R _ hR⟩ (fun j hj=>by rw[hdst0.at_];simp;omega) hdst0.closed hdst0.fuel
 rw[hS i him]at hrow2
 obtain⟨r1,r2⟩:=hI2.doneW htr h1 h2 hS hr hR rfl hLR hrow2 (by rcases hcase with ⟨_,_,_,rfl⟩|⟨_,_,_,_,_,rfl⟩<;>rfl) low hlow
 rw[h3]at r1
 rw[h4]at r2
 exact⟨θ',w',a',fuel',t',listed',st,hdef,hst',r1,r2⟩
end
end Go.Abs
namespace Go.Abs
variable {κ:KRel}
section
variable {θ:Th}{rows:List Row}{w w':World}
theorem Fr.garbage(h:HRel κ θ rows w)(low:Nat)(o:Obj):Fr κ θ θ rows rows low low w (w.alloc o):=by
 have hold:∀b,b<w.heap.size->(w.alloc o).heap[b]?=w.heap[b]?:=fun b hb=>by
  show(w.heap.push o)[b]?=w.heap[b]?
  rw[Array.getElem?_push_lt hb,Array.getElem?_eq_getElem hb]
 exact⟨Ext.refl _,⟨h.dom,fun id L e=>by have:=h.blk id L e;show L.b<(w.heap.push o).size;simp;omega,fun id r e=>(h.row id r e).mono (Ext.refl _) (fun L hL=>hold _ (h.blk id L hL)),h.inj⟩,
  Nat.le_refl _,Nat.le_refl _,rfl,rfl,rfl,by show _<=(w.heap.push o).size;simp,fun _ _=>rfl,fun b hb _=>hold b hb,fun id r a b _=>⟨r,a,b⟩,fun id r a b _=>⟨r,a,b⟩,fun id L a b=>by rw[a]at b;simp at b⟩
theorem Fr.other{θ0:Th}{rows0:List Row}{low0 low:Nat}{w0:World}(h:Fr κ θ0 θ rows0 rows low0 low w0 w)(r:Nat)(o:Obj)(hr:w0.heap.size<=r)(hn:∀id L,θ id=some L->L.b≠r):
  Fr κ θ0 θ rows0 rows low0 low w0 (w.putObj r o):=by
 have hold:∀b,b≠r->(w.putObj r o).heap[b]?=w.heap[b]?:=fun b hb=>World.putObj_heap_other hb
 exact⟨h.ext,⟨h.rel.dom,fun id L e=>by rw[World.putObj_size];exact h.rel.blk id L e,fun id s e=>(h.rel.row id s e).mono (Ext.refl _) (fun L hL=>hold _ (hn id L hL)),h.rel.inj⟩,
  h.len,h.low,h.os,h.tape,h.output,by rw[World.putObj_size];exact h.size,h.keepA,fun b hb q=>by rw[hold b (by omega)];exact h.keepB b hb q,h.own,h.alive,h.fresh⟩
structure Marks(n0:Nat)(θ:Th)(w:World)(ds:List Deferred):Prop where
 all:∀d∈ds,∃r,d.target = .collected r/\n0<=r/\r<w.heap.size/\w.heap[r]?=some (.deferred (some []))/\∀id L,θ id=some L->L.b≠r
 nodup:(ds.map (·.target)).Nodup
theorem Marks.nil(n0:Nat)(θ:Th)(w:World):Marks n0 θ w []:=⟨fun d h=>by simp at h,List.nodup_nil⟩
theorem Marks.frame{n0:Nat}{θ':Th}{rows':List Row}{low low':Nat}{ds:List Deferred}(hr:HRel κ θ rows w)(h:Marks n0 θ w ds)(hF:Fr κ θ θ' rows rows' low low' w w'):Marks n0 θ' w' ds:=by
 refine⟨fun d hd=>?_,h.nodup⟩
 obtain⟨r,h1,h2,h3,h4,h5⟩:=h.all d hd
 refine⟨r,h1,h2,Nat.lt_of_lt_of_le h3 hF.size,?_,fun id L hL=>?_⟩
 ·rw[hF.keepB r h3 (fun id s L _ _ _ e=>h5 id L e)];exact h4
 ·cases e:θ id with
  |
   some L0=>
   have:=hF.ext id L0 e
   rw[hL]at this;injection this with this;subst this
   exact h5 id L e
  |
   none=>
   rcases(hF.fresh id L hL e).2 with f|⟨j,s,L',_,_,_,q,u⟩
   ·omega
   ·rw[<-u];exact h5 j L' q
theorem Marks.cons{n0:Nat}{ds:List Deferred}(h:Marks n0 θ w ds)(hn:n0<=w.heap.size)(hb:∀id L,θ id=some L->L.b<w.heap.size):
  Marks n0 θ (w.alloc (.deferred (some []))) ({target:=.collected w.heap.size,args:=#[]}::ds):=by
 have hsz:(w.alloc (.deferred (some []))).heap.size=w.heap.size+1:=by show(w.heap.push _).size=_;simp
 refine⟨fun d hd=>?_,?_⟩
 ·rw[List.mem_cons]at hd
  rcases hd with rfl|hd
  ·exact⟨w.heap.size,rfl,hn,by omega,World.alloc_heap_new w _,fun id L e=>by have:=hb id L e;omega⟩
  ·obtain⟨r,h1,h2,h3,h4,h5⟩:=h.all d hd
   refine⟨r,h1,h2,by omega,?_,h5⟩
   show(w.heap.push _)[r]?=_
   rw[Array.getElem?_push_lt h3,<-h4,Array.getElem?_eq_getElem h3]
 ·rw[List.map_cons,List.nodup_cons]
  refine⟨fun hm=>?_,h.nodup⟩
  obtain⟨d,hd,e⟩:=List.mem_map.1 hm
  obtain⟨r,h1,_,h3,_⟩:=h.all d hd
  rw[h1]at e
  injection e with e
  omega
theorem unwind_marks{P:Program}{θ0:Th}{rows0:List Row}{low0 low:Nat}{w0:World}(cs:List Frame):∀(ds:List Deferred) (w:World) (fr:Frame),fr.mode = .returning->fr.defers=ds->Marks w0.heap.size θ w ds->Fr κ θ0 θ rows0 rows low0 low w0 w->
  ∃w',Steps P (lone fr cs w) (lone {fr with defers:=[]} cs w')/\Fr κ θ0 θ rows0 rows low0 low w0 w'
 |[],w,fr,hm,hd,_,hF=>⟨w,by rw[<-hd];exact Steps.refl _ _,hF⟩
 |
  d::ds,w,fr,hm,hd,hM,hF=>by
  obtain⟨r,h1,h2,h3,h4,h5⟩:=hM.all d (by simp)
  have hst:=step_collected (P:=P) (cs:=cs) (fr:=fr) (by rw[hm];simp) hd h1 (run_takeDeferred h4)
  have hnd:=hM.nodup
  rw[List.map_cons,List.nodup_cons]at hnd
  have hM':Marks w0.heap.size θ (w.putObj r (.deferred none)) ds:=by
   refine⟨fun e he=>?_,hnd.2⟩
   obtain⟨q,q1,q2,q3,q4,q5⟩:=hM.all e (by simp[he])
   refine⟨q,q1,q2,by rw[World.putObj_size];exact q3,?_,q5⟩
   rw[World.putObj_heap_other]
   ·exact q4
   ·rintro rfl
    exact hnd.1 (by rw[h1,<-q1];exact List.mem_map_of_mem he)
  obtain⟨w',s1,s2⟩:=unwind_marks (P:=P) cs ds (w.putObj r (.deferred none)) {fr with defers:=ds} hm rfl hM' (hF.other r _ h2 h5)
  exact⟨w',.head (by simpa using hst) s1,s2⟩
end
section
variable {P:Program}{gl:List Nat}
theorem step_yield{b:Frame}{a:Act}{k:List Item}{cs:List Frame}{w:World}{ops:Array Oper}{i:Nat}{rest:List Nat}{o:Oper}(ho:ops[i]?=some o)(hw:Region.wanted o (yielded ops a.tmps)=true){c:Call}(hc:o.op = .call c){f:Operand}(hf:c.callee = .value f){l:Nat}
  (hv:a.eval f = .func (.yield l) #[] #[]) {r:Loop} (hr:w.heap[l]?=some (.loop r)) (hs:c.args.size=r.params.size):
  step P (lone (b.atR a (.inRegion ops (i::rest)::k)) cs w)=
   .next (lone (Frame.round l r.fn ((r.params.zip (c.args.map a.eval)).foldl (fun tmps (t,x)=>tmps.setIfInBounds t x) r.tmps) r.assign r.body .normal) (b.atR a (.inRegion ops (i::rest)::k)::cs) w):=by
 have hg:=stepGR_op (P:=P) (b:=b) (a:=a) (k:=k) (cs:=cs) (w:=w) (rest:=rest) ho hw
 rw[semAt_of (by rw[hc];intro c h;cases h)]at hg
 refine step_lone_go ?_
 rw[hg]
 obtain⟨callee,args,ats⟩:=c
 simp only at hf
 subst hf
 obtain⟨dst,op,ty,pos,aft,gd⟩:=o
 simp only at hc
 subst hc
 have hrun:(execOp a.eval {dst:=dst,op:=.call {callee:=.value f,args:=args,argTypes:=ats},type:=ty,pos:=pos,after:=aft,guard:=gd}).run P w=
   .ok (.round l r.fn ((r.params.zip (args.map a.eval)).foldl (fun tmps (t,x)=>tmps.setIfInBounds t x) r.tmps) r.assign r.body) w:=by
  simp only[execOp,resolve,hv,Deferred.ofValue,Sem.run_bind,Sem.run_pure,Result.andThen_ok,invoke]
  rw[Array.empty_append]
  exact run_yield (args:=args.map a.eval) hr (by simpa using hs)
 simp[stepG.apply,hrun,Sem.runT_eq,Frame.atR]
theorem SRel.putL{θ:Th}:∀(ps:List Nat) {vs:List AV} {xs:List Value} {sl:List AV} {t:Array Value},SRel θ sl t->VL θ vs xs->SRel θ (Abs.putL sl ps vs) ((ps.zip xs).foldl (fun tmps p=>tmps.setIfInBounds p.1 p.2) t)
 |[],vs,xs,sl,t,h,_=>by simpa[Abs.putL]using h
 |
  p::ps,vs,xs,sl,t,h,hv=>by
  cases vs with
  |
   nil=>
   have:xs=[]:=List.length_eq_zero_iff.1 hv.1.symm
   subst this
   simpa[Abs.putL]using h
  |
   cons v vs=>
   obtain⟨x,xs',rfl,h1,h2⟩:=hv.of_cons
   have:=SRel.putL ps (vs:=vs) (xs:=xs') (h.put (a:={tmps:=t,defers:=[]}) (some p) h1) h2
   simpa[Abs.putL,putO,Act.put]using this
theorem rows_under{θ:Th}{rows:List Row}{w:World}{id:Nat}{st:LoopState}{pend:Option Jump}{sl:List AV}{ps:List Nat}{asg body:ICode}(hr:HRel κ θ rows w)(h:rows[id]?=some (.loop st pend sl ps asg body)){L:Loc}(hL:θ id=some L):
  ∃r,w.heap[L.b]?=some (.loop r)/\r.state=st/\r.pending=pend.map Jump.code/\VL θ sl r.tmps.toList/\r.params.toList=ps/\κ asg r.assign/\κ body r.body:=by
 obtain⟨L',r,h1,h2⟩:=hr.row id _ h
 rw[hL]at h1
 injection h1 with h1
 subst h1
 exact⟨r,h2⟩
theorem SRel.of_VL{θ:Th}{sl:List AV}{t:Array Value}(h:VL θ sl t.toList):SRel θ sl t:=⟨by have:=h.1;simpa using this,fun i x x' a b=>h.2 i x x' a (by simpa using b)⟩
theorem SRel.VL{θ:Th}{sl:List AV}{t:Array Value}(h:SRel θ sl t):VL θ sl t.toList:=⟨by have:=h.size;simpa using this,fun i x x' a b=>h.at_ i x x' a (by simpa using b)⟩
theorem cop_call{o:Oper}{f:Opd}{args:List Opd}(h2:cop P gl o=some (.call [] f args)):∃c ff,o.op = .call c/\c.callee = .value ff/\f=co gl ff/\args=c.args.toList.map (co gl):=by
 obtain⟨c,h1,h3,⟨_,ff,h4,h5⟩|⟨_,_,_,_,_,h6⟩⟩:=cop_callI h2
 ·exact⟨c,ff,h1,h4,h5,h3⟩
 ·exact absurd rfl h6
def CxOK(P:Program)(θ:Th)(b:Frame):Ctx->Prop
 |.fn res=>b.roundOf=none/\∃func,P.funcs[b.fn]?=some func/\cres P func.results.toList=some res
 |.round id=>∃L,θ id=some L/\b.roundOf=some L.b
theorem CxOK.mono{θ θ':Th}(h:Ext θ θ'){b:Frame}:∀{cx:Ctx},CxOK P θ b cx->CxOK P θ' b cx
 |.fn _,k=>k
 |.round _,⟨L,a,c⟩=>⟨L,h _ _ a,c⟩
def DefsOK(cx:Ctx)(n0:Nat)(θ:Th)(w:World)(ds:List Deferred):Prop:=
 match cx with
 |.fn _=>Marks n0 θ w ds
 |.round _=>ds=[]
theorem DefsOK.frame{cx:Ctx}{n0:Nat}{θ θ':Th}{rows rows':List Row}{low low':Nat}{w w':World}{ds:List Deferred}(hr:HRel κ θ rows w)(h:DefsOK cx n0 θ w ds)(hF:Fr κ θ θ' rows rows' low low' w w'):DefsOK cx n0 θ' w' ds:=by
 cases cx with
 |fn res=>exact Marks.frame hr h hF
 |round id=>exact h
def Ends(P:Program)(cx:Ctx)(b:Frame)(m:Machine)(cs:List Frame)(w':World)(v':Value):Prop:=
 match cx with
 |.fn _=>∃fr,Steps P m (lone fr cs w')/\fr.fn=b.fn/\fr.leaving P w' (.returned v')
 |.round _=>∀c cs',cs=c::cs'->Steps P m (lone (c.finish v') cs' w')
theorem Ends.head{cx:Ctx}{b:Frame}{m m1:Machine}{cs:List Frame}{w':World}{v':Value}(h:Steps P m m1)(k:Ends P cx b m1 cs w' v'):Ends P cx b m cs w' v':=by
 cases cx with
 |fn res=>obtain⟨fr,a,c⟩:=k;exact⟨fr,h.trans a,c⟩
 |round id=>exact fun c cs' e=>h.trans (k c cs' e)
theorem rf_enter{cx:Ctx}{θ:Th}{rows:List Row}{w:World}{b:Frame}{a:Act}{n0:Nat}(hcx:CxOK P θ b cx)(hok:rfOk cx rows=true)(hr:HRel κ θ rows w)(low:Nat)(hD:DefsOK cx n0 θ w a.defers)(hn:n0<=w.heap.size)(ps:Array Tmp)(x y:Code):
  ∃wm mark dn,Fr κ θ θ rows rows low low w wm/\DefsOK cx n0 θ wm (mark++a.defers)/\
   (Instr.enterLoop b.fn a.tmps ps x y b.roundOf).run P w = .ok (wm.heap.size,mark) (wm.alloc (.loop {state:=.ready,pending:=none,fn:=b.fn,tmps:=a.tmps,params:=ps,assign:=x,body:=y,defers:=dn})):=by
 cases cx with
 |
  fn res=>
  refine⟨w.alloc (.deferred (some [])),[{target:=.collected w.heap.size,args:=#[]}],w.heap.size,Fr.garbage hr low _,Marks.cons hD hn hr.blk,?_⟩
  rw[hcx.1,run_enterLoop_outer,World.size_alloc]
 |
  round id=>
  obtain⟨L,h1,h2⟩:=hcx
  simp only[rfOk]at hok
  split at hok
  ·rename_i st pend sl ps' asg body e
   obtain⟨r,r1,_⟩:=rows_under hr e h1
   refine⟨w,[],r.defers,Fr.refl hr low,hD,?_⟩
   rw[h2,run_enterLoop_inner r1]
  ·simp at hok
end
end Go.Abs
namespace Go.Abs
section
variable {P:Program}{gl:List Nat}{F:Nat->Option IFn}
def FnOK(P:Program)(gl:List Nat)(F:Nat->Option IFn):Prop:=
 ∀ (f : Nat) (fn : IFn), F f = some fn → ∃ func hint, P.funcs[f]? = some func ∧ cfn P gl hint func = some fn ∧ (func.name == "runtime.NumGoroutine") = false
abbrev callN(F:Nat->Option IFn)(n:Nat):CallF:=callBy F (exec F n)
def Sim(P:Program)(gl:List Nat)(F:Nat->Option IFn)(n:Nat):Prop:=
 ∀(cx:Ctx) (k:List Itm) (s:St) (r:AV×List Row×Nat),exec F n cx k s=some r->∀(θ:Th) (w:World) (a:Act) (b:Frame) (todo:List Item) (cs:List Frame) (θ0:Th) (rows0:List Row) (low0:Nat) (w0:World),
  HRel (KP P gl) θ s.rows w->GRel θ gl->SRel θ s.sl a.tmps->s.low<=s.rows.length->KR P gl k todo->CxOK P θ b cx->b.kind = .normal->DefsOK cx w0.heap.size θ w a.defers->HRel (KP P gl) θ0 rows0 w0->Fr (KP P gl) θ0 θ rows0 s.rows low0 s.low w0 w->
  ∃θ' w' v',Ends P cx b (lone (b.atR a todo) cs w) cs w' v'/\V θ' r.1 v'/\Fr (KP P gl) θ0 θ' rows0 r.2.1 low0 r.2.2 w0 w'
theorem init_SRel{θ:Th}{vs:List AV}{args:Array Value}(h:VL θ vs args.toList){fn:IFn}{ntmps:Nat}(hn:fn.ns=ntmps)(rows:List Row):
  SRel θ (init fn vs rows).sl (args++Array.replicate (ntmps-args.size) undef):=by
 have hl:vs.length=args.size:=by have:=h.1;simpa using this
 refine⟨by simp[init,hl,hn],fun i x x' hx hx'=>?_⟩
 simp only[init]at hx
 by_cases hi:i<vs.length
 ·rw[List.getElem?_append_left hi]at hx
  rw[Array.getElem?_append_left (by omega)]at hx'
  exact h.2 i x x' hx (by simpa using hx')
 ·rw[List.getElem?_append_right (by omega)]at hx
  rw[List.getElem?_replicate]at hx
  split at hx
  ·injection hx with hx;subst hx;exact .any _
  ·simp at hx
theorem call_sim(hF:FnOK P gl F){n:Nat}(h:Sim P gl F n)(f:Nat)(vs:List AV)(rows:List Row)(v:AV)(rows':List Row)(d:Option Nat)(hc:callN F n f vs rows=some (v,rows',d))(θ:Th)(w:World)(args:Array Value)(cs:List Frame)(low:Nat)
  (hr:HRel (KP P gl) θ rows w) (hg:GRel θ gl) (hv:VL θ vs args.toList) (hlow:low<=rows.length):
  (∃ func, P.funcs[f]? = some func ∧ func.body.isNone = false ∧ (func.name == "runtime.NumGoroutine") = false) ∧
  ∃θ' w' fr v',Steps P (lone (Frame.enter P f args .normal) cs w) (lone fr cs w')/\(fr.fn=f/\fr.leaving P w' (.returned v'))/\V θ' v v'/\Fr (KP P gl) θ θ' rows rows' low (lowO low d) w w':=by
 unfold callN callBy at hc
 split at hc
 case h_2=>simp at hc
 rename_i fn hfn
 obtain⟨func,hint,h1,h2,h3⟩:=hF f fn hfn
 unfold cfn at h2
 split at h2
 case h_2=>simp at h2
 rename_i c res hb hres
 injection h2 with h2
 subst h2
 refine⟨⟨func,h1,by rw[hb];rfl,h3⟩,?_⟩
 unfold callR at hc
 split at hc
 case h_2=>simp at hc
 rename_i v0 rows0 low0 hex
 injection hc with hc
 let b:Frame:={fn:=f,tmps:=#[],todo:=[],defers:=[],mode:=.run,kind:=.normal}
 have henter:Frame.enter P f args .normal=b.atR {tmps:=args++Array.replicate (func.ntmps-args.size) undef,defers:=[]} [.code c]:=by
  simp[Frame.enter,Frame.atR,h1,hb,b]
 obtain⟨θ',w',v',⟨fr,s1,s2⟩,s3,s4⟩:=h (.fn res) _ _ _ hex θ w {tmps:=args++Array.replicate (func.ntmps-args.size) undef,defers:=[]} b [.code c] cs θ rows rows.length w hr hg (init_SRel hv rfl rows) (Nat.le_refl _) (.cons (.code hint c) .nil) ⟨rfl,func,h1,hres⟩ rfl (Marks.nil _ _ _) hr (Fr.refl hr _)
 obtain⟨θ2,f1,f2⟩:=fin_sound hr hlow s4 s3
 simp only at f1 f2
 rw[hc]at f1 f2
 exact⟨θ2,w',fr,v',by rw[henter];exact s1,s2,f1,f2⟩
theorem callOK_of_sim(hF:FnOK P gl F){n:Nat}(h:Sim P gl F n):CallOK P gl (callN F n):=by
 intro f vs rows v rows' d hc θ w args cs low hr hg hv hlow
 obtain⟨p,θ',w',fr,v',s1,s2,s3⟩:=call_sim hF h f vs rows v rows' d hc θ w args cs low hr hg hv hlow
 exact⟨p,θ',w',fr,v',s1,s2.2,s3⟩
theorem sim(hF:FnOK P gl F):∀n,Sim P gl F n:=by
 intro n
 induction n with
 |zero=>intro cx k s r h;simp[exec]at h
 |
  succ n ih=>
  have hcall:=callOK_of_sim hF ih
  intro cx k s r h θ w a b todo cs θ0 rows0 low0 w0 hr hg hs hlow hk hcx hkd hD hr0 hF0
  -- the frame is left
  have leaveFn:∀(res:List RV) (j:Option Jump) (todo':List Item),cx = .fn res->leaveV cx j s=some r->Steps P (lone (b.atR a todo) cs w) (lone {b.atR a todo' with mode:=.returning} cs w)->
    ∃θ' w' v',Ends P cx b (lone (b.atR a todo) cs w) cs w' v'/\V θ' r.1 v'/\Fr (KP P gl) θ0 θ' rows0 r.2.1 low0 r.2.2 w0 w':=by
   intro res j todo' hcx' hl st
   subst hcx'
   have hl2:(results s.rows s.sl res).map (fun v=>(v,s.rows,s.low))=some r:=by
    unfold leaveV at hl
    simp only at hl
    split at hl
    ·simp at hl
    ·exact hl
   simp only[Option.map_eq_some_iff]at hl2
   obtain⟨v,hv,rfl⟩:=hl2
   obtain⟨hb,func,hfu,hres⟩:=hcx
   obtain⟨w',s1,s2⟩:=unwind_marks (P:=P) cs a.defers w {b.atR a todo' with mode:=.returning} rfl rfl hD hF0
   obtain⟨v',q1,q2⟩:=results_sound (P:=P) s2.rel hs hres hv
   exact⟨θ,w',v',⟨_,st.trans s1,rfl,rfl,rfl,hkd,func,hfu,q1⟩,q2,s2⟩
  have leaveRound:∀(id:Nat) (j:Option Jump),cx = .round id->leaveV cx j s=some r->(∀(L:Nat) (w':World) (v:Value) (c:Frame) (cs':List Frame),b.roundOf=some L->(Instr.endRound L (j.map Jump.code)).run P w = .ok v w'->step P (lone (b.atR a todo) (c::cs') w) = .next (lone (c.finish v) cs' w'))->
    ∃θ' w' v',Ends P cx b (lone (b.atR a todo) cs w) cs w' v'/\V θ' r.1 v'/\Fr (KP P gl) θ0 θ' rows0 r.2.1 low0 r.2.2 w0 w':=by
   intro id j hcx' hl st
   subst hcx'
   obtain⟨L,hL,hb⟩:=hcx
   simp only[leaveV]at hl
   split at hl
   case h_2=>simp at hl
   rename_i pend sl ps asg body e
   injection hl with hl
   subst hl
   obtain⟨q,q1,q2,q3,q4,q5,q6,q7⟩:=rows_under hr e hL
   have hrun:=run_endRound (P:=P) (j.map Jump.code) q1
   have hlt:L.b<w.heap.size:=hr.blk id L hL
   have hjn:(j.map Jump.code).isNone=j.isNone:=by cases j<;>rfl
   rw[hjn]at hrun
   refine⟨θ,_,.bool j.isNone,fun c cs' e=>?_,.bool _,hF0.trans hr0 (Fr.setrow (w':=w.putObj L.b (.loop {q with state:=if j.isNone then .ready else .done,pending:=j.map Jump.code})) hr s.low e rfl hL World.putObj_size (fun k hk=>World.putObj_heap_other hk) rfl rfl rfl _ ?_ rfl)⟩
   ·subst e
    exact .one (st L.b _ _ c cs' hb hrun)
   ·exact⟨L,_,hL,World.putObj_heap_same hlt,rfl,rfl,q4,q5,q6,q7⟩
  -- one step of the machine that leaves all but the stack
  have go:∀(k':List Itm) (todo':List Item) (s':St),s'.rows=s.rows->s'.low=s.low->SRel θ s'.sl a.tmps->exec F n cx k' s'=some r->KR P gl k' todo'->Steps P (lone (b.atR a todo) cs w) (lone (b.atR a todo') cs w)->
    ∃θ' w' v',Ends P cx b (lone (b.atR a todo) cs w) cs w' v'/\V θ' r.1 v'/\Fr (KP P gl) θ0 θ' rows0 r.2.1 low0 r.2.2 w0 w':=by
   intro k' todo' s' e1 e2 e3 hex hk' st
   obtain⟨θ',w',v',s1,s2,s3⟩:=ih cx k' s' r hex θ w a b todo' cs θ0 rows0 low0 w0 (by rw[e1];exact hr) hg e3 (by rw[e1,e2];exact hlow) hk' hcx hkd hD hr0 (by rw[e1,e2];exact hF0)
   exact⟨θ',w',v',s1.head st,s2,s3⟩
  cases hk with
  |
   nil=>
   simp only[exec]at h
   cases hcx':cx with
   |fn res=>subst hcx';exact leaveFn res none [] rfl h (.one (stepR_end hcx.1))
   |round id=>subst hcx';exact leaveRound id none rfl h (fun L w' v c cs' hb hrun=>stepR_round_end hb hkd hrun)
  | @cons x y k t hx hkt=>
  -- one operation
  have oneStep:∀(ops:Array Oper) (i:Nat) (o:Oper) (rest:List Nat) (rs:List Seg),ops[i]?=some o->exec F (n+1) cx (.ops (.one (copx P gl ops o)::rs)::k) s=some r->KR P gl (.ops rs::k) (.inRegion ops rest::t)->
    (DefsOK cx w0.heap.size θ w a.defers)->∃θ' w' v',Ends P cx b (lone (b.atR a (.inRegion ops (i::rest)::t)) cs w) cs w' v'/\V θ' r.1 v'/\Fr (KP P gl) θ0 θ' rows0 r.2.1 low0 r.2.2 w0 w':=by
   intro ops i o rest rs hget h hkr hD
   simp only[exec]at h
   have cont:∀(θ1:Th) (w1:World) (v:AV) (v1:Value) (rows':List Row) (low':Nat),exec F n cx (.ops rs::k) ⟨putO s.sl (copx P gl ops o).dst v,rows',low'⟩=some r->V θ1 v v1->Fr (KP P gl) θ θ1 s.rows rows' s.low low' w w1->
     Steps P (lone (b.atR a (.inRegion ops (i::rest)::t)) cs w) (lone (b.atR (a.put (o).dst v1) (.inRegion ops (rest)::t)) cs w1)->
     ∃θ' w' v',Ends P cx b (lone (b.atR a (.inRegion ops (i::rest)::t)) cs w) cs w' v'/\V θ' r.1 v'/\Fr (KP P gl) θ0 θ' rows0 r.2.1 low0 r.2.2 w0 w':=by
    intro θ1 w1 v v1 rows' low' h hv1 hF1 st
    have hs1:SRel θ1 (putO s.sl (copx P gl ops o).dst v) (a.put (o).dst v1).tmps:=by
     rw[copx_dst];exact(hs.mono hF1.ext).put _ hv1
    have hdf:(a.put (o).dst v1).defers=a.defers:=by cases(o).dst<;>rfl
    obtain⟨θ',w',v',s1,s2,s3⟩:=ih cx _ _ r h θ1 w1 (a.put (o).dst v1) b (.inRegion ops (rest)::t) cs θ0 rows0 low0 w0 hF1.rel (hg.mono hF1.ext) hs1 (Nat.le_trans hF1.low (Nat.le_trans hlow hF1.len)) hkr (hcx.mono hF1.ext) hkd (by
     rw[hdf];exact hD.frame hr hF1) hr0 (hF0.trans hr0 hF1)
    exact⟨θ',w',v',s1.head st,s2,s3⟩
   split at h
   ·-- a yield
    rename_i id vs hy
    split at h
    case h_2=>simp at h
    rename_i st0 pend0 sl ps asg body e
    split at h
    case isFalse=>simp at h
    rename_i hlen
    split at h
    case h_2=>simp at h
    rename_i v rows' low' hex
    unfold yieldOf at hy
    split at hy
    case h_2=>simp at hy
    rename_i f args hop
    split at hy
    case h_2=>simp at hy
    rename_i id' hf hw
    simp only[Option.some.injEq,Prod.mk.injEq]at hy
    obtain⟨rfl,rfl⟩:=hy
    obtain⟨g,h1,h2,h3,h4⟩:=copx_bad (P:=P) (gl:=gl) (ops:=ops) (o:=o) (by rw[hop];simp)
    rw[h3]at hw
    have hwr:=want_sound hs h1 hw
    rw[hop]at h2
    obtain⟨c,ff,o1,o2,rfl,rfl⟩:=cop_call h2
    have hV:=opd_V (a:=a) hg hs ff
    rw[hf]at hV
    obtain⟨L,hL,hfv⟩:∃L,θ id'=some L/\a.eval ff = .func (.yield L.b) #[] #[]:=by
     generalize a.eval ff=z at hV
     cases hV with
     |yield hL=>exact⟨_,hL,rfl⟩
    obtain⟨q,q1,q2,q3,q4,q5,⟨hint1,q6⟩,⟨hint2,q7⟩⟩:=rows_under hr e hL
    have hargs:=opds_V (a:=a) hg hs c.args.toList
    have hsz:c.args.size=q.params.size:=by
     have e1:ps.length=q.params.size:=by rw[<-q5];simp
     rw[<-e1,hlen];simp
    have hst:=step_yield (P:=P) (b:=b) (k:=t) (cs:=cs) (rest:=rest) hget hwr o1 o2 hfv q1 hsz
    let br:Frame:={fn:=q.fn,tmps:=#[],todo:=[],defers:=[],mode:=.run,kind:=.normal,roundOf:=some L.b}
    have hround:Frame.round L.b q.fn ((q.params.zip (c.args.map a.eval)).foldl (fun tmps (t,x)=>tmps.setIfInBounds t x) q.tmps) q.assign q.body .normal=
      br.atR {tmps:=(ps.zip (c.args.toList.map a.eval)).foldl (fun tmps p=>tmps.setIfInBounds p.1 p.2) q.tmps,defers:=[]} [.code q.assign,.beginRound,.code q.body]:=by
     have e1:(q.params.zip (c.args.map a.eval)).foldl (fun tmps (x:Tmp×Value)=>tmps.setIfInBounds x.1 x.2) q.tmps=(ps.zip (c.args.toList.map a.eval)).foldl (fun tmps p=>tmps.setIfInBounds p.1 p.2) q.tmps:=by
      rw[<-Array.foldl_toList,Array.toList_zip,q5]
      simp
     rw[<-e1]
     simp[Frame.round,Frame.atR,br]
    rw[hround]at hst
    subst q6 q7
    obtain⟨θ1,w1,v1,s1,s2,s3⟩:=ih (.round id') _ _ _ hex θ w {tmps:=(ps.zip (c.args.toList.map a.eval)).foldl (fun tmps p=>tmps.setIfInBounds p.1 p.2) q.tmps,defers:=[]} br [.code q.assign,.beginRound,.code q.body] (b.atR a (.inRegion ops (i::rest)::t)::cs) θ s.rows s.rows.length w hr hg (SRel.putL ps (SRel.of_VL q4) hargs) (Nat.le_refl _) (.cons (.code hint1 _) (.cons .rfBegin (.cons (.code hint2 _) .nil))) ⟨L,hL,rfl⟩ rfl rfl hr (Fr.refl hr _)
    simp only at s2 s3
    have hF1:=s3.weaken (low2:=s.low) (lower_le_id _ _) (lower_le s.low low')
    obtain⟨θ2,g1,g2⟩:=gc_sound hr hF1 s2
    have hfin:(b.atR a (.inRegion ops (i::rest)::t)).finish v1=b.atR (a.put (o).dst v1) (.inRegion ops (rest)::t):=by
     rw[Frame.finish_atR,hget];rfl
    refine cont θ2 w1 v v1 _ _ h g1 g2 (.head hst ?_)
    rw[<-hfin]
    exact s1 _ cs rfl
   ·rename_i hny
    split at h
    case h_2=>simp at h
    rename_i v rows' low' hop
    obtain⟨θ1,w1,v1,st,hv1,hF1⟩:=op_step hcall hget (show opR (callN F n) s.sl s.rows s.low _=some (v,rows',low')from hop) hr hg hs hlow b (rest) t cs
    exact cont θ1 w1 v v1 rows' low' h hv1 hF1 st
  cases hx with
  |
   inBlock id=>
   simp only[exec]at h
   exact go k t s rfl rfl hs h hkt (.one stepR_inBlock)
  |
   inLoop hint c=>
   simp only[exec,St.force_eq]at h
   exact go _ (.code c::.inLoop c::t) s rfl rfl hs h (.cons (.code hint c) (.cons (.inLoop hint c) hkt)) (.one stepR_inLoop)
  |
   inScope hint c=>
   simp only[exec]at h
   exact go k t s rfl rfl hs h hkt (.one (step_lone_go (by simp[stepG,stepG.exec,Frame.atR])))
  |
   rfBegin=>
   simp only[exec]at h
   cases cx with
   |fn res=>simp at h
   |
    round id=>
    simp only at h
    split at h
    case h_2=>simp at h
    rename_i pend sl ps asg body e
    obtain⟨L,hL,hb⟩:=hcx
    obtain⟨q,q1,q2,q3,q4,q5,q6,q7⟩:=rows_under hr e hL
    have hlt:L.b<w.heap.size:=hr.blk id L hL
    have hF1:Fr (KP P gl) θ θ s.rows (s.rows.set id (.loop .busy pend sl ps asg body)) s.low (lower s.low id) w (w.putObj L.b (.loop {q with state:=.busy})):=
     Fr.setrow hr s.low e rfl hL World.putObj_size (fun k hk=>World.putObj_heap_other hk) rfl rfl rfl _ ⟨L,_,hL,World.putObj_heap_same hlt,rfl,q3,q4,q5,q6,q7⟩ rfl
    obtain⟨θ',w',v',s1,s2,s3⟩:=ih (.round id) k _ r h θ _ a b t cs θ0 rows0 low0 w0 hF1.rel hg hs (Nat.le_trans (lower_le _ _) (by simpa using hlow)) hkt ⟨L,hL,hb⟩ hkd hD hr0 (hF0.trans hr0 hF1)
    exact⟨θ',w',v',s1.head (.one (stepR_beginRound hb (run_beginRound q1 q2))),s2,s3⟩
  |
   ops ops i=>
   rcases Nat.lt_or_ge i ops.size with hi|hi
   ·have hdrop:(ops.toList.map fun o=>Seg.one (copx P gl ops o)).drop i = .one (copx P gl ops ops[i])::(ops.toList.map fun o=>Seg.one (copx P gl ops o)).drop (i+1):=by
     rw[List.drop_eq_getElem_cons (by simpa using hi)]
     simp
    have hrange:List.range' i (ops.size-i)=i::List.range' (i+1) (ops.size-(i+1)):=by
     rw[show ops.size-i=(ops.size-(i+1))+1 from by omega,List.range'_succ]
    rw[hdrop]at h
    rw[hrange]
    exact oneStep ops i ops[i] _ _ (Array.getElem?_eq_getElem hi) h (.cons (.ops ops (i+1)) hkt) hD
   ·have hdrop:(ops.toList.map fun o=>Seg.one (copx P gl ops o)).drop i=[]:=List.drop_eq_nil_of_le (by simpa using hi)
    have hrange:List.range' i (ops.size-i)=[]:=by rw[show ops.size-i=0 from by omega];rfl
    rw[hdrop]at h
    simp only[exec]at h
    rw[hrange]at go ⊢
    exact go k t s rfl rfl hs h hkt (.one stepR_region_end)
  |
   draws ops c bs fuel t0 listed hed hchk hst=>
   cases bs with
   |
    nil=>
    simp only[csegs,exec]at h
    simp only[chkB,lbits_len,beq_iff_eq]at hchk
    subst hchk
    rw[go_done hst]at go ⊢
    exact go k t s rfl rfl hs h hkt (.one stepR_region_end)
   |
    cons b0 bs=>
    simp only[chkB,Bool.and_eq_true,decide_eq_true_eq,lbits_len]at hchk
    obtain⟨⟨⟨⟨hc1,hc2⟩,hc3⟩,hc4⟩,hc5⟩:=hchk
    have hend:=isBound_spec hc3
    simp only[csegs]at h
    by_cases hb1:b0=c+1
    ·subst hb1
     rw[if_pos rfl]at h
     obtain⟨fuel',t',listed',e1,e2⟩:=go_one hed hst (by omega) hend t0
     rw[e1]
     have hget:ops[c]?=some (ops[c]'(by omega)):=Array.getElem?_eq_getElem (by omega)
     have hop:((lbits P gl ops).getD c (noop,0)).1=copx P gl ops (ops[c]'(by omega)):=by
      rw[List.getD,lbits_get (by omega)]
      simp[Array.getD,show c<ops.size from by omega]
     rw[hop]at h
     exact oneStep ops c _ _ _ hget h (.cons (.draws ops (c+1) bs fuel' t' listed' hed hc5 e2) hkt) hD
    ·rw[if_neg hb1]at h
     obtain⟨m,rfl⟩:∃m,b0=c+m:=⟨b0-c,by omega⟩
     generalize hcd:cgrp _=sg at h
     unfold cgrp at hcd
     have fin:∀(sl':List AV) (rows':List Row) (low':Nat) (θ1:Th) (w1:World) (a1:Act) (fuel' t':Nat) (listed':Array Bool),exec F n cx (.ops (csegs (lbits P gl ops) (c+m) bs)::k) ⟨sl',rows',low'⟩=some r->
       Steps P (lone (b.atR a (.inRegion ops (Region.linearise.go .any ops fuel t0 listed [])::t)) cs w) (lone (b.atR a1 (.inRegion ops (Region.linearise.go .any ops fuel' t' listed' [])::t)) cs w1)->a1.defers=a.defers->DrawSt ops (c+m) fuel' listed'->SRel θ1 sl' a1.tmps->Fr (KP P gl) θ θ1 s.rows rows' s.low low' w w1->
       ∃θ' w' v',Ends P cx b (lone (b.atR a (.inRegion ops (Region.linearise.go .any ops fuel t0 listed [])::t)) cs w) cs w' v'/\V θ' r.1 v'/\Fr (KP P gl) θ0 θ' rows0 r.2.1 low0 r.2.2 w0 w':=by
      intro sl' rows' low' θ1 w1 a1 fuel' t' listed' h st hd1 hst' hs1 hF1
      obtain⟨θ',w',v',s1,s2,s3⟩:=ih cx _ _ r h θ1 w1 a1 b _ cs θ0 rows0 low0 w0 hF1.rel (hg.mono hF1.ext) hs1 (Nat.le_trans hF1.low (Nat.le_trans hlow hF1.len)) (.cons (.draws ops (c+m) bs fuel' t' listed' hed hc5 hst') hkt) (hcx.mono hF1.ext) hkd (by rw[hd1];exact hD.frame hr hF1) hr0 (hF0.trans hr0 hF1)
      exact⟨θ',w',v',s1.head st,s2,s3⟩
     split at hcd
     ·rename_i hidx
      subst hcd
      simp only[exec]at h
      split at h
      case h_2=>simp at h
      rename_i sl' ext hev
      obtain⟨θ1,w1,a1,fuel',t',listed',st,hd1,hst',hs1,hF1⟩:=grp_sound hcall hed hc2 hend hc4 (show evalG (callN F n) _ _ _ _ _=some (sl',ext)from hev) hst t0 hr hg hs s.low hlow b t cs
      exact fin _ _ _ θ1 w1 a1 fuel' t' listed' h st hd1 hst' hs1 hF1
     ·rename_i i hidx
      obtain⟨hil,_⟩:=List.findIdx?_eq_some_iff_getElem.1 hidx
      have higet:=List.getElem?_eq_getElem hil
      have hgd:(piece (lbits P gl ops) c (c+m)).getD i (noop,0)=(piece (lbits P gl ops) c (c+m))[i]:=by simp[List.getD,higet]
      rw[hgd]at hcd
      split at hcd
      ·subst hcd;simp[exec]at h
      rename_i a0 x0 n0 hsto0
      split at hcd
      case isFalse=>subst hcd;simp[exec]at h
      rename_i hcond
      obtain⟨hq1,hq2,hq3⟩:=hcond
      subst hcd
      simp only[exec]at h
      split at h
      case h_2=>simp at h
      rename_i slp extp hevp
      split at h
      case h_2=>simp at h
      rename_i R off hap0
      rw[forceRs_eq]at h
      split at h
      case h_2=>simp at h
      rename_i sl' ext hev
      split at h
      case h_2=>simp at h
      rename_i r' hsto
      obtain⟨θ1,w1,a1,fuel',t',listed',st,hd1,hst',hs1,hF1⟩:=grpW_sound hcall hed hc2 hend hc4 higet hsto0 hq1 hq2 (fun q hq=>by simpa using List.all_eq_true.1 hq3 q hq) (show evalG (callN F n) _ _ _ _ _=some (sl',ext)from hev) hsto hst t0 hr hg hs s.low hlow b t cs
      exact fin _ _ _ θ1 w1 a1 fuel' t' listed' h st hd1 hst' hs1 hF1
  |
   code hint c=>
   simp only[exec,St.forceS_eq]at h
   cases c with
   |skip=>simp only[cc]at h;exact go k t s rfl rfl hs h hkt (.one stepR_skip)
   |label l=>simp only[cc]at h;exact go k t s rfl rfl hs h hkt (.one stepR_label)
   |
    ret=>
    simp only[cc]at h
    cases hcx':cx with
    |fn res=>subst hcx';exact leaveFn res (some .ret) _ rfl h (.one (stepR_ret hcx.1))
    |round id=>subst hcx';exact leaveRound id (some .ret) rfl h (fun L w' v c cs' hb hrun=>stepR_round_ret hb hkd hrun)
   |
    exit id=>
    simp only[cc]at h
    split at h
    ·rename_i k' hp
     obtain⟨t',e1,e2⟩:=popTo_sound id hkt hp
     exact go k' t' s rfl rfl hs h e2 (.one (stepR_exit e1))
    ·rename_i hp
     cases hcx':cx with
     |fn res=>subst hcx';simp[leaveV]at h
     |round rid=>subst hcx';exact leaveRound rid (some (.exit id)) rfl h (fun L w' v c cs' hb hrun=>stepR_round_exit hb hkd (popTo_none id hkt hp) hrun)
   |seq x y=>simp only[cc]at h;exact go _ _ s rfl rfl hs h (.cons (.code hint x) (.cons (.code hint y) hkt)) (.one stepR_seq)
   |
    cond c x y=>
    simp only[cc]at h
    split at h
    ·rename_i tt e
     have hV:=opd_V (a:=a) hg hs c
     rw[e]at hV
     have hc:a.eval c = .bool tt:=by generalize a.eval c=z at *;cases hV;rfl
     cases tt
     ·exact go _ _ s rfl rfl hs h (.cons (.code hint y) hkt) (.one (stepR_cond hc))
     ·exact go _ _ s rfl rfl hs h (.cons (.code hint x) hkt) (.one (stepR_cond hc))
    ·simp at h
   |block id c=>simp only[cc]at h;exact go _ _ s rfl rfl hs h (.cons (.code hint c) (.cons (.inBlock id) hkt)) (.one stepR_block)
   |loop c=>simp only[cc]at h;exact go _ _ s rfl rfl hs h (.cons (.code hint c) (.cons (.inLoop hint c) hkt)) (.one stepR_loop)
   |scope c=>simp only[cc]at h;exact go _ _ s rfl rfl hs h (.cons (.code hint c) (.cons (.inScope hint c) hkt)) (.one (step_lone_go (by simp[stepG,stepG.exec,Frame.atR])))
   |goto l=>simp[cc]at h
   |refuse why=>simp[cc]at h
   |
    rangeFunc g ps x y=>
    simp only[cc]at h
    split at h
    case isFalse=>simp at h
    rename_i hok
    split at h
    case h_2=>simp at h
    rename_i fid vs ht
    split at h
    case h_2=>simp at h
    rename_i vv rows' d hex
    split at h
    case h_2=>simp at h
    rename_i k0 rows2 low2 hal
    obtain⟨wm,mark,dn,hFm,hDm,hent⟩:=rf_enter (P:=P) hcx hok hr s.low hD hF0.size ps x y
    have hrm:=hFm.rel
    -- the record
    have hrow:RowRel (KP P gl) (θ.add s.rows.length ⟨wm.heap.size,0,0⟩) s.rows.length (wm.alloc (.loop {state:=.ready,pending:=none,fn:=b.fn,tmps:=a.tmps,params:=ps,assign:=x,body:=y,defers:=dn})) (.loop .ready none s.sl ps.toList (cc P gl hint x) (cc P gl hint y)):=
     ⟨⟨wm.heap.size,0,0⟩,_,Th.add_self _ _ _,World.alloc_heap_new _ _,rfl,rfl,(hs.mono (Th.ext_add hr.none_len _)).VL,rfl,⟨hint,rfl⟩,⟨hint,rfl⟩⟩
    have hF1:Fr (KP P gl) θ (θ.add s.rows.length ⟨wm.heap.size,0,0⟩) s.rows (s.rows++[.loop .ready none s.sl ps.toList (cc P gl hint x) (cc P gl hint y)]) s.low s.low wm (wm.alloc (.loop {state:=.ready,pending:=none,fn:=b.fn,tmps:=a.tmps,params:=ps,assign:=x,body:=y,defers:=dn})):=
     Fr.push (w':=wm.alloc (.loop {state:=.ready,pending:=none,fn:=b.fn,tmps:=a.tmps,params:=ps,assign:=x,body:=y,defers:=dn})) hrm s.low hlow _ rfl rfl rfl rfl 0 0 _ hrow rfl
    -- the call
    unfold target at ht
    split at ht
    case h_2=>simp at ht
    rename_i f' caps eg
    simp only[Option.some.injEq,Prod.mk.injEq]at ht
    obtain⟨rfl,rfl⟩:=ht
    have hV:=opd_V (a:=a) hg hs g
    rw[eg]at hV
    obtain⟨l',hgv,hcaps⟩:∃l':List Value,a.eval g = .func (.func f') #[] l'.toArray/\VL θ caps l':=by
     generalize a.eval g=z at hV
     cases hV with
     | @func f l l' p q=>exact⟨l',rfl,p,q⟩
    have hvl:VL (θ.add s.rows.length ⟨wm.heap.size,0,0⟩) ([AV.yield s.rows.length]++caps) (#[Value.func (.yield wm.heap.size) #[] #[]]++l'.toArray).toList:=by
     have:(#[Value.func (.yield wm.heap.size) #[] #[]]++l'.toArray).toList=Value.func (.yield wm.heap.size) #[] #[]::l':=by simp
     rw[this]
     exact VL.cons (V.yield (L:=⟨wm.heap.size,0,0⟩) (Th.add_self _ _ _)) (hcaps.mono hF1.ext)
    obtain⟨⟨func,f1,f2,f3⟩,θ2,w2,fr,v2,c1,c2,c3,c4⟩:=call_sim hF ih f' _ _ vv rows' d hex _ _ (#[Value.func (.yield wm.heap.size) #[] #[]]++l'.toArray) (b.atR {a with defers:=mark++a.defers} (.inRangeFunc wm.heap.size::t)::cs) s.low hF1.rel (hg.mono hF1.ext) hvl (by simp;omega)
    have hinv:∀w3:World,∃dd,(resolve a.eval (rangeCall g wm.heap.size) 0).run P w3 = .ok dd w3/\(invoke dd.target dd.args).run P w3 = .ok (.enter f' (#[Value.func (.yield wm.heap.size) #[] #[]]++l'.toArray)) w3:=by
     intro w3
     refine⟨{target:=.fn (.func f') l'.toArray,args:=#[Value.func (.yield wm.heap.size) #[] #[]]},?_,?_⟩
     ·have hconst:∀v,a.eval (.const v)=v:=fun v=>rfl
      simp[resolve,rangeCall,hgv,hconst,Deferred.ofValue]
     ·simp[invoke,callFunc,f1]
      rw[if_neg (by simpa using f3),if_neg (by intro h;rw[h]at f2;simp at f2)]
    obtain⟨dd,i1,i2⟩:=hinv (wm.alloc (.loop {state:=.ready,pending:=none,fn:=b.fn,tmps:=a.tmps,params:=ps,assign:=x,body:=y,defers:=dn}))
    have st1:=stepR_rangeFunc (P:=P) (b:=b) (k:=t) (cs:=cs) hent i1 i2
    -- the loop's end
    unfold afterLoop at hal
    split at hal
    case h_2=>simp at hal
    rename_i st2 pend2 sl2 ps2 asg2 body2 e2
    split at hal
    ·simp at hal
    rename_i hbusy
    simp only[Option.some.injEq,Prod.mk.injEq]at hal
    obtain⟨rfl,rfl,rfl⟩:=hal
    have hL2:θ2 s.rows.length=some ⟨wm.heap.size,0,0⟩:=c4.ext _ _ (Th.add_self _ _ _)
    obtain⟨q,q1,q2,q3,q4,q5,q6,q7⟩:=rows_under c4.rel e2 hL2
    have hlt:wm.heap.size<w2.heap.size:=c4.rel.blk _ _ hL2
    have hend:=run_endLoop (P:=P) q1 (by rw[q2];simpa using hbusy)
    have hF3:Fr (KP P gl) θ2 θ2 rows' (rows'.set s.rows.length (.loop .exhausted pend2 sl2 ps2 asg2 body2)) (lowO s.low d) (lower (lowO s.low d) s.rows.length) w2 (w2.putObj wm.heap.size (.loop {q with state:=.exhausted})):=
     Fr.setrow c4.rel (lowO s.low d) e2 rfl hL2 World.putObj_size (fun k hk=>World.putObj_heap_other hk) rfl rfl rfl _ ⟨_,_,hL2,World.putObj_heap_same hlt,rfl,q3,q4,q5,q6,q7⟩ rfl
    have hlo:lower (lowO s.low d) s.rows.length=lowO s.low d:=by
     have:=lowO_le s.low d
     unfold lower;split<;>omega
    have hF4:=Fr.kill hF3.rel (lower (lowO s.low d) s.rows.length) s.rows.length
    rw[List.set_set]at hF4
    rw[hlo]at hF3 hF4
    rw[hlo]at hF4
    have hall:=(hF1.trans hrm c4).trans hrm (hF3.trans c4.rel hF4)
    obtain⟨θ3,_,g2⟩:=gc_sound hrm hall (v:=.tup []) (v':=.tuple [].toArray) (.tup (l':=[]) rfl (fun i x x' h=>by simp at h))
    have hcode:KR P gl (jumpI pend2++k) ((q.pending.map Item.code).toList++t):=by
     rw[q3]
     cases pend2 with
     |none=>exact hkt
     |
      some j=>cases j with
      |ret=>exact .cons (.code hint .ret) hkt
      |exit id=>exact .cons (.code hint (.exit id)) hkt
    obtain⟨θ',w',v',s1,s2,s3⟩:=ih cx _ _ r h θ3 _ {a with defers:=mark++a.defers} b _ cs θ0 rows0 low0 w0 g2.rel (hg.mono g2.ext) (hs.mono g2.ext) (Nat.le_trans g2.low (Nat.le_trans hlow g2.len)) hcode (hcx.mono g2.ext) hkd (hDm.frame hrm g2) hr0 (hF0.trans hr0 (hFm.trans hr g2))
    refine⟨θ',w',v',s1.head (.head st1 (c1.trans (.head ?_ (.one (stepR_endRangeFunc hend))))),s2,s3⟩
    rw[<-finish_atR_inRangeFunc wm.heap.size v2]
    exact step_leave_returned c2.2
   |
    region id ops draw=>
    cases draw with
    |
     false=>
     simp only[cc]at h
     cases hh:hint id with
     |
      none=>
      rw[hh]at h
      have h0:KR P gl (.ops ((ops.toList.map fun o=>Seg.one (copx P gl ops o)).drop 0)::k) (.inRegion ops (List.range' 0 (ops.size-0))::t):=.cons (.ops ops 0) hkt
      simp only[List.drop_zero,Nat.sub_zero]at h0
      rw[<-List.range_eq_range']at h0
      exact go _ _ s rfl rfl hs h h0 (.one stepR_region)
     |
      some hp=>
      rw[hh]at h
      exact go _ _ {s with sl:=killS s.sl (dead hp.1 hp.2)} rfl rfl (hs.kill _) h (.cons (.code (fun _=>none) (.region id ops false)) hkt) (Steps.refl _ _)
    |
     true=>
     simp only[cc]at h
     by_cases hok0:(chkB (lbits P gl ops) (Region.before ops).toList 0 (bounds (Region.before ops).toList)&&edgesOk ops&&P.follows .mixedOrders)=true
     case neg=>rw[if_neg hok0]at h;simp at h
     rw[if_pos hok0]at h
     have hok:=hok0
     simp only[Bool.and_eq_true]at hok
     obtain⟨⟨hok1,hok2⟩,hmix⟩:=hok
     cases hh:hint id with
     |
      none=>
      rw[hh]at h
      simp only at h
      have hF1:=Fr.drawn (P:=P) (gl:=gl) hr s.low (w.drawn+1)
      obtain⟨θ',w',v',s1,s2,s3⟩:=ih cx _ _ r h θ {w with drawn:=w.drawn+1} a b _ cs θ0 rows0 low0 w0 hF1.rel hg hs hlow (.cons (.draws ops 0 (bounds (Region.before ops).toList) ops.size (w.tape w.drawn (.order b.fn id)) (Array.replicate ops.size false) (edgesOk_spec hok2) hok1 (DrawSt.start ops)) hkt) hcx hkd (hD.frame hr hF1) hr0 (hF0.trans hr0 hF1)
      have hst:=stepR_region_draw (P:=P) (b:=b) (a:=a) (k:=t) (cs:=cs) (w:=w) (ops:=ops) (id:=id)
      simp only[Region.schedule,hmix,Bool.true_or,if_true]at hst
      exact⟨θ',w',v',s1.head (.one hst),s2,s3⟩
     |
      some hp=>
      rw[hh]at h
      refine go _ _ {s with sl:=killS s.sl (dead hp.1 hp.2)} rfl rfl (hs.kill _) h ?_ (Steps.refl _ _)
      have:=KR.cons (IR.code (P:=P) (gl:=gl) (fun _=>none) (.region id ops true)) hkt
      simp only[cc,hok0,if_true]at this
      exact this
theorem call_sound(hF:FnOK P gl F){n f:Nat}{vs:List AV}{rows rows':List Row}{v:AV}{d:Option Nat}(hc:call F n f vs rows=some (v,rows',d)){θ:Th}{w:World}{args:Array Value}(hr:HRel (KP P gl) θ rows w)(hg:GRel θ gl)(hv:VL θ vs args.toList):
  Calls P f args w fun e w'=>∃θ' v',e = .returned v'/\V θ' v v'/\Fr (KP P gl) θ θ' rows rows' rows.length (lowO rows.length d) w w':=by
 intro cs
 obtain⟨_,θ',w',fr,v',s1,s2,s3,s4⟩:=call_sim hF (sim hF n) f vs rows v rows' d hc θ w args cs rows.length hr hg hv (Nat.le_refl _)
 exact⟨.returned v',w',fr,⟨θ',v',rfl,s3,s4⟩,s1,s2.1,s2.2⟩
end
end Go.Abs
namespace Go.Abs
def LeC(c c':CallF):Prop:=∀f vs rows r,c f vs rows=some r->c' f vs rows=some r
theorem opR_mono{c c':CallF}(h:LeC c c'){sl:List AV}{rows:List Row}{low:Nat}{o:IOpx}{r:AV×List Row×Nat}(e:opR c sl rows low o=some r):opR c' sl rows low o=some r:=by
 unfold opR at e ⊢
 split at e
 ·simp at e
 ·exact e
 ·split at e
  ·split at e
   ·split at e
    ·rename_i hc
     rw[h _ _ _ _ hc]
     exact e
    ·simp at e
   ·simp at e
  ·exact e
theorem evalG_mono{c c':CallF}(h:LeC c c'){rows:Nat->List Row}:∀(l:List (IOpx×Nat)) (i:Nat) (sl:List AV) (ext:List (Nat×Row)) (r:List AV×List (Nat×Row)),evalG c rows i l sl ext=some r->evalG c' rows i l sl ext=some r
 |[],i,sl,ext,r,e=>e
 |
  (o,b)::l,i,sl,ext,r,e=>by
  simp only[evalG]at e ⊢
  split at e
  ·rename_i hop
   rw[opR_mono h hop]
   simp only
   split at e
   ·rename_i hl
    rw[if_pos hl]
    exact evalG_mono h l _ _ _ _ e
   ·simp at e
  ·simp at e
section
variable {F:Nat->Option IFn}
abbrev cF(F:Nat->Option IFn)(n:Nat):CallF:=callBy F (exec F n)
theorem cF_mono{n n':Nat}(h:∀cx k s r,exec F n cx k s=some r->exec F n' cx k s=some r):LeC (cF F n) (cF F n'):=by
 intro f vs rows r e
 unfold cF callBy at e ⊢
 split at e
 ·rename_i fn hfn
  unfold callR at e
  split at e
  ·rename_i hx
   simp only[h _ _ _ _ hx,callR]
   exact e
  ·simp at e
 ·simp at e
theorem exec_succ:∀(n:Nat) (cx:Ctx) (k:List Itm) (s:St) (r:AV×List Row×Nat),exec F n cx k s=some r->exec F (n+1) cx k s=some r:=by
 intro n
 induction n with
 |zero=>intro cx k s r h;simp[exec]at h
 |
  succ n ih=>
  intro cx k s r h
  have hc:LeC (cF F n) (cF F (n+1)):=cF_mono ih
  cases k with
  |nil=>simp only[exec]at h ⊢;exact h
  |
   cons x k=>
   cases x with
   |inBlock id=>simp only[exec]at h ⊢;exact ih _ _ _ _ h
   |inScope c=>simp only[exec]at h ⊢;exact ih _ _ _ _ h
   |inLoop c=>simp only[exec,St.force_eq]at h;rw[exec,St.force_eq];exact ih _ _ _ _ h
   |
    rfBegin=>
    simp only[exec]at h ⊢
    split at h
    ·split at h
     ·exact ih _ _ _ _ h
     ·simp at h
    ·simp at h
   |
    ops l=>
    cases l with
    |nil=>simp only[exec]at h ⊢;exact ih _ _ _ _ h
    |
     cons sg l=>
     cases sg with
     |
      one o=>
      rw[exec]at h ⊢
      split at h
      ·rename_i id vs hy
       split at h
       ·split at h
        ·rename_i hl
         split at h
         ·rename_i hx
          simp only[if_pos hl,ih _ _ _ _ hx]
          exact ih _ _ _ _ h
         ·simp at h
        ·simp at h
       ·simp at h
      ·split at h
       ·rename_i hop
        rw[show opR (callBy F (exec F (n+1))) s.sl s.rows s.low o=_ from opR_mono hc hop]
        exact ih _ _ _ _ h
       ·simp at h
     |
      grp g=>
      rw[exec]at h ⊢
      split at h
      ·rename_i hop
       rw[show evalG (callBy F (exec F (n+1))) (fun _=>s.rows) 0 g s.sl []=_ from evalG_mono hc _ _ _ _ _ hop]
       exact ih _ _ _ _ h
      ·simp at h
     |
      grpw a x z b g=>
      rw[exec]at h ⊢
      split at h
      ·rename_i hop
       rw[show evalG (callBy F (exec F (n+1))) (fun _=>s.rows) 0 g s.sl []=_ from evalG_mono hc _ _ _ _ _ hop]
       simp only
       split at h
       ·rename_i R off hR
        simp only[forceRs_eq]at h ⊢
        split at h
        ·rename_i hop2
         rw[show evalG (callBy F (exec F (n+1))) (baseW s.rows (maskR s.rows R off (z.getD 1)) b) 0 g s.sl []=_ from evalG_mono hc _ _ _ _ _ hop2]
         simp only
         split at h
         ·exact ih _ _ _ _ h
         ·simp at h
        ·simp at h
       ·simp at h
      ·simp at h
     |stop=>simp[exec]at h
   |
    code c=>
    cases c with
    |skip=>simp only[exec]at h ⊢;exact ih _ _ _ _ h
    |ret=>simp only[exec]at h ⊢;exact h
    |
     exit id=>
     simp only[exec]at h ⊢
     split at h
     ·exact ih _ _ _ _ h
     ·exact h
    |seq a b=>rw[exec]at h ⊢;exact ih _ _ _ _ h
    |
     cond c a b=>
     rw[exec]at h ⊢
     split at h
     ·exact ih _ _ _ _ h
     ·simp at h
    |block id c=>rw[exec]at h ⊢;exact ih _ _ _ _ h
    |loop c=>rw[exec]at h ⊢;exact ih _ _ _ _ h
    |scope c=>rw[exec]at h ⊢;exact ih _ _ _ _ h
    |ops l=>simp only[exec,St.forceS_eq]at h ⊢;exact ih _ _ _ _ h
    |
     rf f ps a b=>
     rw[exec]at h ⊢
     split at h
     ·rename_i hok
      rw[if_pos hok]
      split at h
      ·split at h
       ·rename_i hop
        rw[show callBy F (exec F (n+1)) _ _ _=_ from hc _ _ _ _ hop]
        simp only
        split at h
        ·exact ih _ _ _ _ h
        ·simp at h
       ·simp at h
      ·simp at h
     ·simp at h
    |kill l ks c=>rw[exec]at h ⊢;exact ih _ _ _ _ h
    |stop=>simp[exec]at h
theorem exec_le{n n':Nat}(hn:n<=n'){cx:Ctx}{k:List Itm}{s:St}{r:AV×List Row×Nat}(h:exec F n cx k s=some r):exec F n' cx k s=some r:=by
 induction hn with
 |refl=>exact h
 |step _ ih=>exact exec_succ _ _ _ _ _ ih
def Ex(F:Nat->Option IFn)(cx:Ctx)(k:List Itm)(s:St)(R:AV×List Row×Nat->Prop):Prop:=∃n r,exec F n cx k s=some r/\R r
def Cl(F:Nat->Option IFn)(f:Nat)(vs:List AV)(rows:List Row)(R:AV×List Row×Option Nat->Prop):Prop:=∃n r,cF F n f vs rows=some r/\R r
theorem Cl.mk{f:Nat}{fn:IFn}{vs:List AV}{rows:List Row}{R:AV×List Row×Option Nat->Prop}(hf:F f=some fn)(h:Ex F (.fn fn.res) [.code fn.body] (init fn vs rows) fun r=>R (fin rows r.1 r.2.1 r.2.2)):Cl F f vs rows R:=by
 obtain⟨n,r,h,hr⟩:=h
 refine⟨n,_,?_,hr⟩
 unfold cF callBy
 rw[hf]
 simp only[h,callR]
theorem Cl.imp{f:Nat}{vs:List AV}{rows:List Row}{R R':AV×List Row×Option Nat->Prop}(h:Cl F f vs rows R)(k:∀r,R r->R' r):Cl F f vs rows R':=by
 obtain⟨n,r,a,b⟩:=h
 exact⟨n,r,a,k r b⟩
variable {cx:Ctx}{k:List Itm}{s:St}{r:AV×List Row×Nat->Prop}{sl:List AV}{rows:List Row}{low:Nat}
theorem Ex.imp{r':AV×List Row×Nat->Prop}(h:Ex F cx k s r)(hk:∀x,r x->r' x):Ex F cx k s r':=by
 obtain⟨n,x,a,b⟩:=h
 exact⟨n,x,a,hk x b⟩
theorem Ex.step{k':List Itm}{s':St}(e:∀n,exec F (n+1) cx k s=exec F n cx k' s'):Ex F cx k s r↔Ex F cx k' s' r:=by
 constructor
 ·rintro ⟨n,x,h,hx⟩
  cases n with
  |zero=>simp[exec]at h
  |succ n=>exact⟨n,x,by rw[<-e n];exact h,hx⟩
 ·rintro ⟨n,x,h,hx⟩
  exact⟨n+1,x,by rw[e n];exact h,hx⟩
theorem Ex.leave{j:Option Jump}(e:∀n,exec F (n+1) cx k s=leaveV cx j s):Ex F cx k s r↔∃x,leaveV cx j s=some x/\r x:=by
 constructor
 ·rintro ⟨n,x,h,hx⟩
  cases n with
  |zero=>simp[exec]at h
  |succ n=>exact⟨x,by rw[<-e n];exact h,hx⟩
 ·rintro ⟨x,h,hx⟩
  exact⟨1,x,by rw[e 0];exact h,hx⟩
theorem Ex.no(e:∀n,exec F (n+1) cx k s=none):¬Ex F cx k s r:=by
 rintro ⟨n,x,h,hx⟩
 cases n with
 |zero=>simp[exec]at h
 |succ n=>rw[e n]at h;simp at h
theorem Ex_nil:Ex F cx [] s r↔∃x,leaveV cx none s=some x/\r x:=Ex.leave fun n=>by rw[exec]
theorem Ex_ret:Ex F cx (.code .ret::k) s r↔∃x,leaveV cx (some .ret) s=some x/\r x:=Ex.leave fun n=>by rw[exec]
theorem Ex_inBlock{id:Nat}:Ex F cx (.inBlock id::k) s r↔Ex F cx k s r:=Ex.step fun n=>by rw[exec]
theorem Ex_inScope{c:ICode}:Ex F cx (.inScope c::k) s r↔Ex F cx k s r:=Ex.step fun n=>by rw[exec]
theorem Ex_inLoop{c:ICode}:Ex F cx (.inLoop c::k) s r↔Ex F cx (.code c::.inLoop c::k) s r:=Ex.step fun n=>by rw[exec,St.force_eq]
theorem Ex_skip:Ex F cx (.code .skip::k) s r↔Ex F cx k s r:=Ex.step fun n=>by rw[exec]
theorem Ex_seq{a b:ICode}:Ex F cx (.code (.seq a b)::k) s r↔Ex F cx (.code a::.code b::k) s r:=Ex.step fun n=>by rw[exec]
theorem Ex_block{id:Nat}{c:ICode}:Ex F cx (.code (.block id c)::k) s r↔Ex F cx (.code c::.inBlock id::k) s r:=Ex.step fun n=>by rw[exec]
theorem Ex_loop{c:ICode}:Ex F cx (.code (.loop c)::k) s r↔Ex F cx (.code c::.inLoop c::k) s r:=Ex.step fun n=>by rw[exec]
theorem Ex_scope{c:ICode}:Ex F cx (.code (.scope c)::k) s r↔Ex F cx (.code c::.inScope c::k) s r:=Ex.step fun n=>by rw[exec]
theorem Ex_ops{l:List Seg}:Ex F cx (.code (.ops l)::k) s r↔Ex F cx (.ops l::k) s r:=Ex.step fun n=>by simp only[exec,St.forceS_eq]
theorem Ex_kill{m:Nat}{l:List Nat}{c:ICode}:Ex F cx (.code (.kill m l c)::k) ⟨sl,rows,low⟩ r↔Ex F cx (.code c::k) ⟨killS sl (dead m l),rows,low⟩ r:=Ex.step fun n=>by rw[exec]
theorem Ex_opsNil:Ex F cx (.ops []::k) s r↔Ex F cx k s r:=Ex.step fun n=>by rw[exec]
theorem Ex_cond{c:Opd}{a b:ICode}:Ex F cx (.code (.cond c a b)::k) ⟨sl,rows,low⟩ r↔∃t,getO sl c = .bool t/\Ex F cx (.code (if t then a else b)::k) ⟨sl,rows,low⟩ r:=by
 cases h:getO sl c with
 |
  bool t=>
  rw[Ex.step (k':=.code (if t then a else b)::k) (s':=⟨sl,rows,low⟩) (fun n=>by rw[exec];simp only[h])]
  simp
 |
  _=>
  constructor
  ·intro e
   exact absurd e (Ex.no fun n=>by rw[exec];simp only[h])
  ·rintro ⟨t,e,_⟩;simp at e
theorem Ex_exit{id:Nat}:Ex F cx (.code (.exit id)::k) s r↔match popTo id k with|some k'=>Ex F cx k' s r|none=>∃x,leaveV cx (some (.exit id)) s=some x/\r x:=by
 split
 ·rename_i k' h
  exact Ex.step fun n=>by rw[exec];simp only[h]
 ·rename_i h
  exact Ex.leave fun n=>by rw[exec];simp only[h]
def IOp.plain:IOp->Bool
 |.call ..=>false
 |_=>true
theorem Ex_op{o:IOpx}{l:List Seg}(ho:o.op.plain=true):Ex F cx (.ops (.one o::l)::k) ⟨sl,rows,low⟩ r↔∃c,want sl o.g=some c/\
  (if c then ∃v rows' low',evalE (getO sl) rows low o.op=some (v,rows',low')/\Ex F cx (.ops l::k) ⟨putO sl o.dst v,rows',low'⟩ r else Ex F cx (.ops l::k) ⟨putO sl o.dst (.tup []),rows,low⟩ r):=by
 have hy:yieldOf sl o=none:=by
  unfold yieldOf
  split
  ·rename_i e;rw[e]at ho;simp[IOp.plain]at ho
  ·rfl
 have hop:∀call:CallF,opR call sl rows low o=match want sl o.g with|none=>none|some false=>some (.tup [],rows,low)|some true=>evalE (getO sl) rows low o.op:=fun call=>by
  unfold opR
  split
  ·simp[*]
  ·simp[*]
  ·rename_i hw
   rw[hw]
   simp only
   split
   ·rename_i e;rw[e]at ho;simp[IOp.plain]at ho
   ·rfl
 cases hw:want sl o.g with
 |
  none=>
  constructor
  ·intro e
   exact absurd e (Ex.no fun n=>by rw[exec];simp[hy,hop,hw])
  ·rintro ⟨c,e,_⟩;simp at e
 |
  some c=>
  cases c with
  |
   false=>
   rw[Ex.step (k':=.ops l::k) (s':=⟨putO sl o.dst (.tup []),rows,low⟩) (fun n=>by rw[exec];simp only[hy,hop,hw])]
   simp
  |
   true=>
   cases he:evalE (getO sl) rows low o.op with
   |
    none=>
    constructor
    ·intro e
     exact absurd e (Ex.no fun n=>by rw[exec];simp[hy,hop,hw,he])
    ·rintro ⟨c,e,h⟩
     injection e with e;subst e
     simp at h
   |
    some q=>
    obtain⟨v,rows',low'⟩:=q
    rw[Ex.step (k':=.ops l::k) (s':=⟨putO sl o.dst v,rows',low'⟩) (fun n=>by rw[exec];simp only[hy,hop,hw,he])]
    constructor
    ·intro h;exact⟨true,rfl,by rw[if_pos rfl];exact⟨v,rows',low',rfl,h⟩⟩
    ·rintro ⟨c,e,h⟩
     injection e with e;subst e
     rw[if_pos rfl]at h
     obtain⟨v1,r1,l1,e1,h⟩:=h
     simp only[Option.some.injEq,Prod.mk.injEq]at e1
     obtain⟨rfl,rfl,rfl⟩:=e1
     exact h
end
end Go.Abs
namespace Go.Abs
section
variable {F:Nat->Option IFn}
open Classical in
noncomputable def Ret(F:Nat->Option IFn):CallF:=fun f vs rows=>if h:∃q,∃n,cF F n f vs rows=some q then some h.choose else none
theorem cF_le{n m:Nat}(h:n<=m):LeC (cF F n) (cF F m):=cF_mono fun cx k s r e=>exec_le h e
theorem Ret_of{n f:Nat}{vs:List AV}{rows:List Row}{q:AV×List Row×Option Nat}(h:cF F n f vs rows=some q):Ret F f vs rows=some q:=by
 have hx:∃q,∃n,cF F n f vs rows=some q:=⟨q,n,h⟩
 unfold Ret
 rw[dif_pos hx]
 obtain⟨m,hm⟩:=hx.choose_spec
 have h1:=cF_le (F:=F) (Nat.le_max_left n m) _ _ _ _ h
 have h2:=cF_le (F:=F) (Nat.le_max_right n m) _ _ _ _ hm
 rw[h1]at h2
 exact h2.symm
theorem Ret_iff{f:Nat}{vs:List AV}{rows:List Row}{q:AV×List Row×Option Nat}:Ret F f vs rows=some q↔∃n,cF F n f vs rows=some q:=by
 constructor
 ·intro h
  unfold Ret at h
  split at h
  ·rename_i hx
   injection h with h
   subst h
   exact hx.choose_spec
  ·simp at h
 ·rintro ⟨n,h⟩;exact Ret_of h
theorem LeC_Ret(n:Nat):LeC (cF F n) (Ret F):=fun _ _ _ _ h=>Ret_of h
theorem opR_Ret{sl:List AV}{rows:List Row}{low:Nat}{o:IOpx}{q:AV×List Row×Nat}:opR (Ret F) sl rows low o=some q↔∃n,opR (cF F n) sl rows low o=some q:=by
 constructor
 ·intro h
  unfold opR at h
  split at h
  ·simp at h
  ·rename_i hw
   exact⟨0,by unfold opR;rw[hw];exact h⟩
  ·rename_i hw
   split at h
   ·rename_i f args ho
    split at h
    ·rename_i fid vs ht
     split at h
     ·rename_i v rows' d hc
      obtain⟨n,hn⟩:=Ret_iff.1 hc
      refine⟨n,?_⟩
      unfold opR
      rw[hw]
      simp only[ho,ht,hn]
      exact h
     ·simp at h
    ·simp at h
   ·rename_i op hne
    refine⟨0,?_⟩
    unfold opR
    rw[hw]
    simp only
    exact h
 ·rintro ⟨n,h⟩;exact opR_mono (LeC_Ret n) h
theorem evalG_Ret{rows:Nat->List Row}:∀{l:List (IOpx×Nat)} {i:Nat} {sl:List AV} {ext:List (Nat×Row)} {q:List AV×List (Nat×Row)},evalG (Ret F) rows i l sl ext=some q↔∃n,evalG (cF F n) rows i l sl ext=some q
 |[],i,sl,ext,q=>by simp[evalG]
 |
  (o,b)::l,i,sl,ext,q=>by
  constructor
  ·intro h
   simp only[evalG]at h
   split at h
   ·rename_i v rows' low' hop
    split at h
    ·rename_i hl
     obtain⟨n,hn⟩:=opR_Ret.1 hop
     obtain⟨m,hm⟩:=evalG_Ret.1 h
     refine⟨max n m,?_⟩
     simp only[evalG]
     rw[opR_mono (cF_le (Nat.le_max_left n m)) hn]
     simp only
     rw[if_pos hl]
     exact evalG_mono (cF_le (Nat.le_max_right n m)) _ _ _ _ _ hm
    ·simp at h
   ·simp at h
  ·rintro ⟨n,h⟩;exact evalG_mono (LeC_Ret n) _ _ _ _ _ h
variable {cx:Ctx}{k:List Itm}{s:St}{r:AV×List Row×Nat->Prop}{sl:List AV}{rows:List Row}{low:Nat}{l:List Seg}
theorem Ex_one{o:IOpx}(hy:yieldOf sl o=none):Ex F cx (.ops (.one o::l)::k) ⟨sl,rows,low⟩ r↔∃q,opR (Ret F) sl rows low o=some q/\Ex F cx (.ops l::k) ⟨putO sl o.dst q.1,q.2.1,q.2.2⟩ r:=by
 constructor
 ·rintro ⟨n,x,e,hx⟩
  cases n with
  |zero=>simp[exec]at e
  |
   succ n=>
   rw[exec]at e
   simp only[hy]at e
   split at e
   ·rename_i v rows' low' hop
    exact⟨_,opR_mono (LeC_Ret n) hop,n,x,e,hx⟩
   ·simp at e
 ·rintro ⟨⟨v,rows',low'⟩,ho,m,x,e,hx⟩
  obtain⟨n,hn⟩:=opR_Ret.1 ho
  refine⟨max n m+1,x,?_,hx⟩
  rw[exec]
  simp only[hy]
  rw[show opR (callBy F (exec F (max n m))) sl rows low o=_ from opR_mono (cF_le (Nat.le_max_left n m)) hn]
  exact exec_le (Nat.le_max_right n m) e
theorem Ex_yield{o:IOpx}{id:Nat}{vs:List AV}(hy:yieldOf sl o=some (id,vs)):Ex F cx (.ops (.one o::l)::k) ⟨sl,rows,low⟩ r↔∃st pd sl1 ps asg body,rows[id]?=some (.loop st pd sl1 ps asg body)/\ps.length=vs.length/\
  Ex F (.round id) [.code asg,.rfBegin,.code body] ⟨putL sl1 ps vs,rows,rows.length⟩ fun q=>Ex F cx (.ops l::k) ⟨putO sl o.dst q.1,gc rows.length (lower low q.2.2) q.1 q.2.1,lower low q.2.2⟩ r:=by
 constructor
 ·rintro ⟨n,x,e,hx⟩
  cases n with
  |zero=>simp[exec]at e
  |
   succ n=>
   rw[exec]at e
   simp only[hy]at e
   split at e
   ·rename_i st pd sl1 ps asg body hr
    split at e
    ·rename_i hl
     split at e
     ·rename_i v rows' low' hop
      exact⟨_,_,_,_,_,_,hr,hl,n,_,hop,n,x,e,hx⟩
     ·simp at e
    ·simp at e
   ·simp at e
 ·rintro ⟨st,pd,sl1,ps,asg,body,hr,hl,n,⟨v,rows',low'⟩,e1,m,x,e2,hx⟩
  refine⟨max n m+1,x,?_,hx⟩
  rw[exec]
  simp only[hy,hr,if_pos hl,exec_le (F:=F) (Nat.le_max_left n m) e1]
  exact exec_le (Nat.le_max_right n m) e2
theorem Ex_grpR{g:List (IOpx×Nat)}:Ex F cx (.ops (.grp g::l)::k) ⟨sl,rows,low⟩ r↔∃q,evalG (Ret F) (fun _=>rows) 0 g sl []=some q/\Ex F cx (.ops l::k) ⟨q.1,rows++q.2.map (·.2),low⟩ r:=by
 constructor
 ·rintro ⟨n,x,e,hx⟩
  cases n with
  |zero=>simp[exec]at e
  |
   succ n=>
   rw[exec]at e
   split at e
   ·rename_i sl' ext hop
    exact⟨_,evalG_mono (LeC_Ret n) _ _ _ _ _ hop,n,x,e,hx⟩
   ·simp at e
 ·rintro ⟨⟨sl',ext⟩,ho,m,x,e,hx⟩
  obtain⟨n,hn⟩:=evalG_Ret.1 ho
  refine⟨max n m+1,x,?_,hx⟩
  rw[exec]
  simp only
  rw[show evalG (callBy F (exec F (max n m))) (fun _=>rows) 0 g sl []=_ from evalG_mono (cF_le (Nat.le_max_left n m)) _ _ _ _ _ hn]
  exact exec_le (Nat.le_max_right n m) e
theorem Ex_grpwR{a y:Opd}{sz:Option Nat}{b:Nat}{g:List (IOpx×Nat)}:Ex F cx (.ops (.grpw a y sz b g::l)::k) ⟨sl,rows,low⟩ r↔∃p,evalG (Ret F) (fun _=>rows) 0 g sl []=some p/\∃R off,getO p.1 a = .ptr R off/\∃q,evalG (Ret F) (baseW rows (maskR rows R off (sz.getD 1)) b) 0 g sl []=some q/\
  ∃r',stored q.1 rows R off a y sz=some r'/\Ex F cx (.ops l::k) ⟨q.1,rows.set R r'++q.2.map (·.2),lower low R⟩ r:=by
 constructor
 ·rintro ⟨n,x,e,hx⟩
  cases n with
  |zero=>simp[exec]at e
  |
   succ n=>
   rw[exec]at e
   split at e
   ·rename_i sl0 ext0 hop
    split at e
    ·rename_i R off hR
     simp only[forceRs_eq]at e
     split at e
     ·rename_i sl' ext hop2
      split at e
      ·rename_i r' hr
       exact⟨_,evalG_mono (LeC_Ret n) _ _ _ _ _ hop,R,off,hR,_,evalG_mono (LeC_Ret n) _ _ _ _ _ hop2,r',hr,n,x,e,hx⟩
      ·simp at e
     ·simp at e
    ·simp at e
   ·simp at e
 ·rintro ⟨⟨sl0,ext0⟩,ho0,R,off,hR,⟨sl',ext⟩,ho,r',hr,m,x,e,hx⟩
  obtain⟨n,hn⟩:=evalG_Ret.1 ho
  obtain⟨n0,hn0⟩:=evalG_Ret.1 ho0
  refine⟨max (max n n0) m+1,x,?_,hx⟩
  rw[exec]
  simp only
  rw[show evalG (callBy F (exec F (max (max n n0) m))) (fun _=>rows) 0 g sl []=_ from evalG_mono (cF_le (Nat.le_trans (Nat.le_max_right n n0) (Nat.le_max_left _ m))) _ _ _ _ _ hn0]
  simp only at hR ⊢
  simp only[hR,forceRs_eq]
  rw[show evalG (callBy F (exec F (max (max n n0) m))) (baseW rows (maskR rows R off (sz.getD 1)) b) 0 g sl []=_ from evalG_mono (cF_le (Nat.le_trans (Nat.le_max_left n n0) (Nat.le_max_left _ m))) _ _ _ _ _ hn]
  simp only[hr]
  exact exec_le (Nat.le_max_right _ m) e
theorem Ex_rf{f:Opd}{ps:List Nat}{asg body:ICode}:Ex F cx (.code (.rf f ps asg body)::k) ⟨sl,rows,low⟩ r↔rfOk cx rows=true/\∃t,target (getO sl f) [.yield rows.length]=some t/\∃q,Ret F t.1 t.2 (rows++[.loop .ready none sl ps asg body])=some q/\
  ∃a,afterLoop rows.length low q.2.1 q.2.2=some a/\Ex F cx (a.1++k) ⟨sl,a.2.1,a.2.2⟩ r:=by
 constructor
 ·rintro ⟨n,x,e,hx⟩
  cases n with
  |zero=>simp[exec]at e
  |
   succ n=>
   rw[exec]at e
   simp only at e
   split at e
   ·rename_i hok
    split at e
    ·rename_i fid vs ht
     split at e
     ·rename_i v rows' d hc
      split at e
      ·rename_i k0 rows2 low2 ha
       exact⟨hok,_,ht,_,Ret_of hc,_,ha,n,x,e,hx⟩
      ·simp at e
     ·simp at e
    ·simp at e
   ·simp at e
 ·rintro ⟨hok,⟨fid,vs⟩,ht,⟨v,rows',d⟩,hq,⟨k0,rows2,low2⟩,ha,m,x,e,hx⟩
  obtain⟨n,hn⟩:=Ret_iff.1 hq
  refine⟨max n m+1,x,?_,hx⟩
  rw[exec]
  simp only
  rw[if_pos hok]
  simp only[ht]
  rw[show callBy F (exec F (max n m)) fid vs _=_ from cF_le (Nat.le_max_left n m) _ _ _ _ hn]
  simp only[ha]
  exact exec_le (Nat.le_max_right n m) e
theorem Ex_rfBegin{id:Nat}:Ex F (.round id) (.rfBegin::k) ⟨sl,rows,low⟩ r↔∃pd sl1 ps asg body,rows[id]?=some (.loop .ready pd sl1 ps asg body)/\Ex F (.round id) k ⟨sl,rows.set id (.loop .busy pd sl1 ps asg body),lower low id⟩ r:=by
 constructor
 ·rintro ⟨n,x,e,hx⟩
  cases n with
  |zero=>simp[exec]at e
  |
   succ n=>
   rw[exec]at e
   simp only at e
   split at e
   ·rename_i hr
    exact⟨_,_,_,_,_,hr,n,x,e,hx⟩
   ·simp at e
 ·rintro ⟨pd,sl1,ps,asg,body,hr,n,x,e,hx⟩
  refine⟨n+1,x,?_,hx⟩
  rw[exec]
  simp only[hr]
  exact e
def callD(F:Nat->Option IFn)(cx:Ctx)(d:Option Nat)(l:List Seg)(k:List Itm)(sl:List AV)(rows:List Row)(low:Nat)(r:AV×List Row×Nat->Prop)(args:List AV):List (Nat×Nat)->AV->Prop
 |[],.func f cs=>∃q,Ret F f (args++cs) rows=some q/\Ex F cx (.ops l::k) ⟨putO sl d q.1,q.2.1,lowO low q.2.2⟩ r
 |[],.iface t v=>∃p,boundOf t v=some p/\∃q,Ret F p.1 (p.2++args) rows=some q/\Ex F cx (.ops l::k) ⟨putO sl d q.1,q.2.1,lowO low q.2.2⟩ r
 |
  [],.yield id=>∃st pd sl1 ps asg body,rows[id]?=some (.loop st pd sl1 ps asg body)/\ps.length=args.length/\
  Ex F (.round id) [.code asg,.rfBegin,.code body] ⟨putL sl1 ps args,rows,rows.length⟩ fun q=>Ex F cx (.ops l::k) ⟨putO sl d q.1,gc rows.length (lower low q.2.2) q.1 q.2.1,lower low q.2.2⟩ r
 |p::tab,.iface t v=>t≠bd/\∃f,(p::tab).lookup t=some f/\∃q,Ret F f (v::args) rows=some q/\Ex F cx (.ops l::k) ⟨putO sl d q.1,q.2.1,lowO low q.2.2⟩ r
 |_,_=>False
theorem Ex_callD{d:Option Nat}{tab:List (Nat×Nat)}{f:Opd}{args:List Opd}:Ex F cx (.ops (.one ⟨d,.call tab f args,none⟩::l)::k) ⟨sl,rows,low⟩ r↔callD F cx d l k sl rows low r (args.map (getO sl)) tab (getO sl f):=by
 have fin:∀(fid:Nat) (vs:List AV),(∃q,(match Ret F fid vs rows with|some (v,rows',d)=>some (v,rows',lowO low d)|none=>none)=some q/\Ex F cx (.ops l::k) ⟨putO sl d q.1,q.2.1,q.2.2⟩ r)↔∃q,Ret F fid vs rows=some q/\Ex F cx (.ops l::k) ⟨putO sl d q.1,q.2.1,lowO low q.2.2⟩ r:=by
  intro fid vs
  constructor
  ·rintro ⟨q,e,h⟩
   split at e
   ·rename_i v rows' dd hc
    injection e with e
    subst e
    exact⟨_,hc,h⟩
   ·simp at e
  ·rintro ⟨⟨v,rows',dd⟩,e,h⟩
   exact⟨(v,rows',lowO low dd),by rw[e],h⟩
 cases tab with
 |
  cons p tab=>
  rw[Ex_one (by simp[yieldOf])]
  cases hf:getO sl f with
  |
   iface t v=>
   simp only[opR,want,targetC,hf,callD]
   by_cases ht:t=bd
   ·simp[ht]
   ·cases hl:(p::tab).lookup t with
    |none=>simp[ht]
    |
     some f'=>
     simp only[if_neg ht,Option.map_some,ne_eq,ht,not_false_eq_true,true_and,Option.some.injEq,exists_eq_left']
     exact fin _ _
  |_=>simp[opR,want,targetC,hf,callD]
 |nil=>
 cases hf:getO sl f with
 |
  yield id=>
  rw[Ex_yield (id:=id) (vs:=args.map (getO sl)) (by simp[yieldOf,hf,want])]
  simp only[callD]
 |
  func g cs=>
  rw[Ex_one (by simp[yieldOf,hf])]
  simp only[opR,want,targetC,hf,callD]
  exact fin _ _
 |
  iface t v=>
  rw[Ex_one (by simp[yieldOf,hf])]
  simp only[opR,want,targetC,hf,callD]
  cases hb:boundOf t v with
  |none=>simp
  |
   some p=>
   simp only[Option.map_some,Option.some.injEq,exists_eq_left']
   exact fin _ _
 |
  _=>
  rw[Ex_one (by simp[yieldOf,hf])]
  simp[opR,want,targetC,hf,callD]
theorem Ex_guard{d:Option Nat}{op:IOp}{t:Nat}{b:Bool}:Ex F cx (.ops (.one ⟨d,op,some (t,b)⟩::l)::k) ⟨sl,rows,low⟩ r↔∃c,want sl (some (t,b))=some c/\if c=true then Ex F cx (.ops (.one ⟨d,op,none⟩::l)::k) ⟨sl,rows,low⟩ r else Ex F cx (.ops l::k) ⟨putO sl d (.tup []),rows,low⟩ r:=by
 cases hw:want sl (some (t,b))with
 |
  none=>
  have hy:yieldOf sl ⟨d,op,some (t,b)⟩=none:=by
   unfold yieldOf
   split
   ·split
    ·rename_i e2 hw2;rw[hw]at hw2;simp at hw2
    ·rfl
   ·rfl
  rw[Ex_one hy]
  simp[opR,hw]
 |
  some c=>
  cases c with
  |
   false=>
   have hy:yieldOf sl ⟨d,op,some (t,b)⟩=none:=by
    unfold yieldOf
    split
    ·split
     ·rename_i e2 hw2;rw[hw]at hw2;simp at hw2
     ·rfl
    ·rfl
   rw[Ex_one hy]
   simp only[opR,hw,Option.some.injEq]
   constructor
   ·rintro ⟨q,rfl,h⟩;exact⟨false,rfl,by simpa using h⟩
   ·rintro ⟨c,rfl,h⟩;exact⟨_,rfl,by simpa using h⟩
  |
   true=>
   have e1:∀(q:AV×List Row×Nat),opR (Ret F) sl rows low ⟨d,op,some (t,b)⟩=some q↔opR (Ret F) sl rows low ⟨d,op,none⟩=some q:=fun q=>by
    have hn:want sl none=some true:=rfl
    unfold opR
    simp only[hw,hn]
   have hyy:yieldOf sl ⟨d,op,some (t,b)⟩=yieldOf sl ⟨d,op,none⟩:=by
    have hn:want sl none=some true:=rfl
    unfold yieldOf
    simp only[hw,hn]
   cases hy:yieldOf sl ⟨d,op,none⟩with
   |
    none=>
    rw[Ex_one (hyy.trans hy),Ex_one hy]
    simp only[e1,Option.some.injEq]
    constructor
    ·rintro ⟨q,e,h⟩;exact⟨true,rfl,by rw[if_pos rfl];exact⟨q,e,h⟩⟩
    ·rintro ⟨c,rfl,h⟩;rw[if_pos rfl]at h;exact h
   |
    some p=>
    obtain⟨id,vs⟩:=p
    rw[Ex_yield (hyy.trans hy),Ex_yield hy]
    simp only[Option.some.injEq]
    constructor
    ·intro h;exact⟨true,rfl,by rw[if_pos rfl];exact h⟩
    ·rintro ⟨c,rfl,h⟩;rw[if_pos rfl]at h;exact h
theorem Ret_mk{f:Nat}{fn:IFn}{vs:List AV}{q:AV×List Row×Option Nat}(hf:F f=some fn)(h:Ex F (.fn fn.res) [.code fn.body] (init fn vs rows) fun r=>fin rows r.1 r.2.1 r.2.2=q):Ret F f vs rows=some q:=by
 obtain⟨n,r,h,hr⟩:=h
 refine Ret_of (n:=n) ?_
 unfold cF callBy
 rw[hf]
 simp only[h,callR,hr]
theorem Ret_mk'{f:Nat}{fn:IFn}{vs:List AV}(hf:F f=some fn){R:AV×List Row×Option Nat->Prop}(h:Ex F (.fn fn.res) [.code fn.body] (init fn vs rows) fun r=>R (fin rows r.1 r.2.1 r.2.2)):∃q,Ret F f vs rows=some q/\R q:=by
 obtain⟨n,r,h,hr⟩:=h
 refine⟨_,Ret_of (n:=n) ?_,hr⟩
 unfold cF callBy
 rw[hf]
 simp only[h,callR]
end
end Go.Abs
namespace Go.Abs
def subO(g:Opd->AV)(x:Opd):Opd:=.c (g x)
def subI(g:Opd->AV):IOp->IOp
 |.mv x=>.mv (subO g x)
 |.pick c a b=>.pick (subO g c) (subO g a) (subO g b)
 |.box x=>.box (subO g x)
 |.load1 a=>.load1 (subO g a)
 |.loadN n a=>.loadN n (subO g a)
 |.store1 a x=>.store1 (subO g a) (subO g x)
 |.storeN n a x=>.storeN n (subO g a) (subO g x)
 |.nilck x=>.nilck (subO g x)
 |.bin op x y=>.bin op (subO g x) (subO g y)
 |.eqv neg kd x y=>.eqv neg kd (subO g x) (subO g y)
 |.un op x=>.un op (subO g x)
 |.conv k x=>.conv k (subO g x)
 |.part1 off x=>.part1 off (subO g x)
 |.partN off n x=>.partN off n (subO g x)
 |.idxV n sz ag x i=>.idxV n sz ag (subO g x) (subO g i)
 |.fieldA off x=>.fieldA off (subO g x)
 |.idxA n sz x i=>.idxA n sz (subO g x) (subO g i)
 |.idxS sz x i=>.idxS sz (subO g x) (subO g i)
 |.mkagg zero ps=>.mkagg zero (ps.map fun p=>(p.1,p.2.1,subO g p.2.2))
 |.mkslice n zero ps=>.mkslice n zero (ps.map fun p=>(p.1,p.2.1,subO g p.2.2))
 |.make zero b l c=>.make zero b (subO g l) (subO g c)
 |.sliceS sz x lo hi mx=>.sliceS sz (subO g x) (lo.map (subO g)) (hi.map (subO g)) (mx.map (subO g))
 |.sliceA n sz x lo hi mx=>.sliceA n sz (subO g x) (lo.map (subO g)) (hi.map (subO g)) (mx.map (subO g))
 |.mkfn f cs=>.mkfn f (cs.map (subO g))
 |.bind f cs=>.bind f (cs.map (subO g))
 |.mkmap=>.mkmap
 |.look z ok m k=>.look z ok (subO g m) (subO g k)
 |.mset m k v=>.mset (subO g m) (subO g k) (subO g v)
 |.lenc n=>.lenc n
 |.len kd x=>.len kd (subO g x)
 |.cap x=>.cap (subO g x)
 |.mx xs=>.mx (xs.map (subO g))
 |.mn xs=>.mn (xs.map (subO g))
 |.app sz b s x=>.app sz b (subO g s) (subO g x)
 |.appz z s x=>.appz z (subO g s) (subO g x)
 |.ext x i=>.ext (subO g x) i
 |.mkif t x=>.mkif t (subO g x)
 |.call tab f args=>.call tab (subO g f) (args.map (subO g))
 |.bad=>.bad
def evP(rows:List Row)(o:IOp):Option AV:=evalP rows (getO []) o
def evE(rows:List Row)(low:Nat)(o:IOp):Option (AV×List Row×Nat):=evalE (getO []) rows low o
theorem get_sub(g:Opd->AV)(x:Opd):getO [] (subO g x)=g x:=rfl
theorem fillA_sub(g:Opd->AV):∀(ps:List (Nat×Nat×Opd)) (cs:List AV),fillA (getO []) (ps.map fun p=>(p.1,p.2.1,subO g p.2.2)) cs=fillA g ps cs
 |[],cs=>rfl
 |
  p::ps,cs=>by
  simp only[List.map_cons,fillA,get_sub,fillA_sub g ps]
theorem map_sub(g:Opd->AV)(l:List Opd):(l.map (subO g)).map (getO [])=l.map g:=by simp[get_sub,Function.comp_def]
theorem mapo_sub(g:Opd->AV)(l:Option Opd):(l.map (subO g)).map (getO [])=l.map g:=by cases l<;>rfl
theorem evalP_sub(rows:List Row)(g:Opd->AV)(o:IOp):evalP rows g o=evP rows (subI g o):=by
 cases o<;>simp only[evP,subI,evalP,get_sub,fillA_sub,map_sub,mapo_sub]
theorem evalE_sub(rows:List Row)(low:Nat)(g:Opd->AV)(o:IOp):evalE g rows low o=evE rows low (subI g o):=by
 cases o<;>first|rfl|simp only[evE,subI,evalE,get_sub,fillA_sub,map_sub,mapo_sub,evalP]
def IOp.pure:IOp->Bool
 |.mv _|.pick .. | .load1 _|.loadN .. | .nilck _|.bin .. | .eqv .. | .un .. | .conv .. | .part1 .. | .partN .. | .idxV .. | .fieldA .. | .idxA .. | .idxS .. | .mkagg .. | .sliceS .. | .sliceA .. | .mkfn .. | .bind .. | .look .. | .lenc _|.len .. | .cap _|.mx _|.mn _|.ext .. | .mkif ..=>true
 |_=>false
theorem pure_plain{o:IOp}(h:o.pure=true):o.plain=true:=by cases o<;>first|rfl|simp[IOp.pure]at h
theorem evalE_pure{o:IOp}(h:o.pure=true)(g:Opd->AV)(rows:List Row)(low:Nat):evalE g rows low o=(evalP rows g o).map fun v=>(v,rows,low):=by
 cases o<;>first|rfl|simp[IOp.pure]at h
def bnd{α:Type}(o:Option α)(K:α->Prop):Prop:=∃a,o=some a/\K a
@[simp] theorem bnd_some{α:Type}(a:α)(K:α->Prop):bnd (some a) K↔K a:=by simp[bnd]
@[simp] theorem bnd_none{α:Type}(K:α->Prop):bnd none K↔False:=by simp[bnd]
@[congr] theorem bnd_congr{α:Type}{o o':Option α}{K:α->Prop}(h:o=o'):bnd o K=bnd o' K:=by rw[h]
theorem bnd_map{α β:Type}(o:Option α)(f:α->β)(K:β->Prop):bnd (o.map f) K↔bnd o fun a=>K (f a):=by cases o<;>simp
def gv(g:AV)(b:Bool)(e:Option AV):Option AV:=
 match g with
 |.bool c=>if c==b then e else some (.tup [])
 |.tup []=>some (.tup [])
 |_=>none
def gw(g:AV)(b:Bool)(K:Prop)(K':Prop):Prop:=
 match g with
 |.bool c=>if c==b then K else K'
 |.tup []=>K'
 |_=>False
section
variable (F:Nat->Option IFn)
def callK(rows:List Row)(low:Nat)(args:List AV)(K:AV->List Row->Nat->Prop):List (Nat×Nat)->AV->Prop
 |[],.func f cs=>bnd (Ret F f (args++cs) rows) fun q=>K q.1 q.2.1 (lowO low q.2.2)
 |[],.iface t v=>bnd (boundOf t v) fun p=>bnd (Ret F p.1 (p.2++args) rows) fun q=>K q.1 q.2.1 (lowO low q.2.2)
 |
  [],.yield id=>∃st pd sl1 ps asg body,rows[id]?=some (.loop st pd sl1 ps asg body)/\ps.length=args.length/\
  Ex F (.round id) [.code asg,.rfBegin,.code body] ⟨putL sl1 ps args,rows,rows.length⟩ fun q=>K q.1 (gc rows.length (lower low q.2.2) q.1 q.2.1) (lower low q.2.2)
 |p::tab,.iface t v=>t≠bd/\bnd ((p::tab).lookup t) fun f=>bnd (Ret F f (v::args) rows) fun q=>K q.1 q.2.1 (lowO low q.2.2)
 |_,_=>False
def gcall(g:AV)(b:Bool)(rows:List Row)(low:Nat)(args:List AV)(tab:List (Nat×Nat))(f:AV)(K:AV->List Row->Nat->Prop):Prop:=gw g b (callK F rows low args K tab f) (K (.tup []) rows low)
def geff(g:AV)(b:Bool)(rows:List Row)(low:Nat)(o:IOp)(K:AV->List Row->Nat->Prop):Prop:=gw g b (bnd (evE rows low o) fun q=>K q.1 q.2.1 q.2.2) (K (.tup []) rows low)
noncomputable def opC(rows:List Row)(low:Nat)(args:List AV)(tab:List (Nat×Nat))(f:AV):Option (AV×List Row×Nat):=
 match targetC tab f args with
 |some (fid,vs)=>(Ret F fid vs rows).map fun q=>(q.1,q.2.1,lowO low q.2.2)
 |none=>none
def go(g:AV)(b:Bool)(rows:List Row)(low:Nat)(e:Option (AV×List Row×Nat)):Option (AV×List Row×Nat):=
 match g with
 |.bool c=>if c==b then e else some (.tup [],rows,low)
 |.tup []=>some (.tup [],rows,low)
 |_=>none
variable {σ:Type}(get:σ->Opd->AV)(put:σ->Option Nat->AV->σ)
noncomputable def opG(sl:σ)(rows:List Row)(low:Nat)(o:IOpx):Option (AV×List Row×Nat):=
 match o with
 |⟨_,.call tab f args,none⟩=>opC F rows low (args.map (get sl)) tab (get sl f)
 |⟨_,.call tab f args,some (t,b)⟩=>go (get sl (.t t)) b rows low (opC F rows low (args.map (get sl)) tab (get sl f))
 |⟨_,op,none⟩=>evE rows low (subI (get sl) op)
 |⟨_,op,some (t,b)⟩=>go (get sl (.t t)) b rows low (evE rows low (subI (get sl) op))
def runO(o:IOpx)(sl:σ)(rows:List Row)(low:Nat)(K:σ->List Row->Nat->Prop):Prop:=
 match o with
 |⟨d,.mv x,none⟩=>K (put sl d (get sl x)) rows low
 |⟨d,.call [] (.c (.func f [])) args,none⟩=>bnd (Ret F f (args.map (get sl)) rows) fun q=>K (put sl d q.1) q.2.1 (lowO low q.2.2)
 |⟨d,.call tab f args,none⟩=>callK F rows low (args.map (get sl)) (fun v rows low=>K (put sl d v) rows low) tab (get sl f)
 |⟨d,.call tab f args,some (t,b)⟩=>gcall F (get sl (.t t)) b rows low (args.map (get sl)) tab (get sl f) (fun v rows low=>K (put sl d v) rows low)
 |⟨d,op,none⟩=>if op.pure then bnd (evP rows (subI (get sl) op)) fun v=>K (put sl d v) rows low else bnd (evE rows low (subI (get sl) op)) fun q=>K (put sl d q.1) q.2.1 q.2.2
 |⟨d,op,some (t,b)⟩=>if op.pure then bnd (gv (get sl (.t t)) b (evP rows (subI (get sl) op))) fun v=>K (put sl d v) rows low else geff (get sl (.t t)) b rows low (subI (get sl) op) fun v rows low=>K (put sl d v) rows low
def runL(rows:List Row)(low:Nat)(K:σ->Prop):List (IOpx×Nat)->σ->Prop
 |[],sl=>K sl
 |(o,_)::r,sl=>runO F get put o sl rows low fun sl _ _=>runL rows low K r sl
def purePs:List (IOpx×Nat)->Bool
 |[]=>true
 |(o,_)::r=>o.op.pure&&purePs r
def runG(rows:List Row)(K:σ->List Row->Prop):Nat->List (IOpx×Nat)->σ->List (Nat×Row)->Prop
 |_,[],sl,ext=>K sl (rows++ext.map (·.2))
 |
  i,(o,b)::r,sl,ext=>
  if o.op.pure then
   (match o with
   |⟨d,.mv x,none⟩=>runG rows K (i+1) r (put sl d (get sl x)) ext
   |⟨d,op,none⟩=>bnd (evP (rows++maskE b ext) (subI (get sl) op)) fun v=>runG rows K (i+1) r (put sl d v) ext
   |⟨d,op,some (t,c)⟩=>bnd (gv (get sl (.t t)) c (evP (rows++maskE b ext) (subI (get sl) op))) fun v=>runG rows K (i+1) r (put sl d v) ext)
  else bnd (opG F get sl (rows++maskE b ext) (rows.length+ext.length) o) fun q=>q.2.2=rows.length+ext.length/\
   bnd (some (ext++(q.2.1.drop (rows.length+ext.length)).map fun x=>(i,x))) fun e=>runG rows K (i+1) r (put sl o.dst q.1) e
def runP(E:σ->List Row->Nat->Prop):List Seg->σ->List Row->Nat->Prop
 |[],sl,rows,low=>E sl rows low
 |.one o::l,sl,rows,low=>runO F get put o sl rows low fun sl rows low=>runP E l sl rows low
 |.grp g::l,sl,rows,low=>if purePs g then runL F get put rows low (fun sl=>runP E l sl rows low) g sl else runG F get put rows (fun sl rows=>runP E l sl rows low) 0 g sl []
 |.grpw .. :: _,_,_,_=>False
 |.stop::_,_,_,_=>False
def noW:List Seg->Bool
 |[]=>true
 |.grpw .. :: _=>false
 |_::l=>noW l
end
section
variable {F:Nat->Option IFn}{cx:Ctx}{k:List Itm}{r:AV×List Row×Nat->Prop}{l:List Seg}
theorem callD_callK{d:Option Nat}{sl:List AV}{rows:List Row}{low:Nat}{args:List AV}{tab:List (Nat×Nat)}{v:AV}{P:List AV->List Row->Nat->Prop}(hP:∀sl rows low,Ex F cx (.ops l::k) ⟨sl,rows,low⟩ r↔P sl rows low):
  callD F cx d l k sl rows low r args tab v↔callK F rows low args (fun v rows low=>P (putO sl d v) rows low) tab v:=by
 cases tab<;>cases v<;>simp only[callD,callK,hP,bnd]
theorem runO_ok{o:IOpx}{sl:List AV}{rows:List Row}{low:Nat}{P:List AV->List Row->Nat->Prop}(hP:∀sl rows low,Ex F cx (.ops l::k) ⟨sl,rows,low⟩ r↔P sl rows low):
  Ex F cx (.ops (.one o::l)::k) ⟨sl,rows,low⟩ r↔runO F getO putO o sl rows low P:=by
 have plainN:∀(d:Option Nat) (op:IOp),op.plain=true->(Ex F cx (.ops (.one ⟨d,op,none⟩::l)::k) ⟨sl,rows,low⟩ r↔bnd (evE rows low (subI (getO sl) op)) fun q=>P (putO sl d q.1) q.2.1 q.2.2):=by
  intro d op ho
  rw[Ex_op ho]
  simp only[want,Option.some.injEq,exists_eq_left',if_true,hP,bnd,evalE_sub]
  constructor
  ·rintro ⟨v,a,b,e,h⟩;exact⟨_,e,h⟩
  ·rintro ⟨⟨v,a,b⟩,e,h⟩;exact⟨_,_,_,e,h⟩
 have pureN:∀(d:Option Nat) (op:IOp),op.pure=true->(Ex F cx (.ops (.one ⟨d,op,none⟩::l)::k) ⟨sl,rows,low⟩ r↔bnd (evP rows (subI (getO sl) op)) fun v=>P (putO sl d v) rows low):=by
  intro d op ho
  rw[plainN d op (pure_plain ho),<-evalE_sub,evalE_pure ho,bnd_map,evalP_sub]
 have want2:∀(t:Nat) (b:Bool) (K K':Prop),(∃c,want sl (some (t,b))=some c/\if c=true then K else K')↔gw (sl.getD t .any) b K K':=by
  intro t b K K'
  unfold want gw
  simp only
  generalize sl.getD t AV.any=gg
  split<;>simp
 have pureG:∀(d:Option Nat) (op:IOp) (t:Nat) (b:Bool),op.pure=true->(Ex F cx (.ops (.one ⟨d,op,some (t,b)⟩::l)::k) ⟨sl,rows,low⟩ r↔bnd (gv (sl.getD t .any) b (evP rows (subI (getO sl) op))) fun v=>P (putO sl d v) rows low):=by
  intro d op t b ho
  rw[Ex_guard,want2,pureN d op ho,hP]
  unfold gw gv
  generalize sl.getD t AV.any=gg
  split
  ·split<;>simp
  ·simp
  ·simp
 have effG:∀(d:Option Nat) (op:IOp) (t:Nat) (b:Bool),op.plain=true->(Ex F cx (.ops (.one ⟨d,op,some (t,b)⟩::l)::k) ⟨sl,rows,low⟩ r↔gw (sl.getD t .any) b (bnd (evE rows low (subI (getO sl) op)) fun q=>P (putO sl d q.1) q.2.1 q.2.2) (P (putO sl d (.tup [])) rows low)):=by
  intro d op t b ho
  rw[Ex_guard,want2,plainN d op ho,hP]
 obtain⟨d,op,g⟩:=o
 cases g with
 |
  none=>
  cases op with
  |
   mv x=>
   rw[pureN d _ rfl]
   simp only[subI,evP,evalP,get_sub,bnd_some,runO]
  |
   call tab f args=>
   have hd:=Ex_callD (F:=F) (cx:=cx) (k:=k) (r:=r) (l:=l) (sl:=sl) (rows:=rows) (low:=low) (d:=d) (tab:=tab) (f:=f) (args:=args)
   rw[hd,callD_callK hP]
   cases tab with
   |cons p tab=>rfl
   |nil=>
   cases f with
   |t n=>rfl
   |
    c v=>
    cases v with
    |
     func fid cs=>
     cases cs with
     |nil=>simp only[runO,getO,callK,List.append_nil]
     |cons a b=>rfl
    |_=>rfl
  |box x=>rw[plainN d _ rfl];rfl
  |store1 a x=>rw[plainN d _ rfl];rfl
  |storeN n a x=>rw[plainN d _ rfl];rfl
  |mkslice a b c=>rw[plainN d _ rfl];rfl
  |make a b x y=>rw[plainN d _ rfl];rfl
  |mkmap=>rw[plainN d _ rfl];rfl
  |mset m k v=>rw[plainN d _ rfl];rfl
  |app a b x y=>rw[plainN d _ rfl];rfl
  |appz a b x=>rw[plainN d _ rfl];rfl
  |bad=>rw[plainN d _ rfl];rfl
  |_=>rw[pureN d _ rfl];rfl
 |
  some p=>
  obtain⟨t,b⟩:=p
  cases op with
  |mv x=>rw[pureG d _ t b rfl];rfl
  |
   call tab f args=>
   rw[Ex_guard,want2,Ex_callD,callD_callK hP,hP]
   cases tab with
   |cons p tab=>rfl
   |nil=>
   cases f with
   |t n=>rfl
   |
    c v=>
    cases v with
    |func fid cs=>cases cs<;>rfl
    |_=>rfl
  |box x=>rw[effG d _ t b rfl];rfl
  |store1 a x=>rw[effG d _ t b rfl];rfl
  |storeN n a x=>rw[effG d _ t b rfl];rfl
  |mkslice a b' c=>rw[effG d _ t b rfl];rfl
  |make a b' x y=>rw[effG d _ t b rfl];rfl
  |mkmap=>rw[effG d _ t b rfl];rfl
  |mset m k v=>rw[effG d _ t b rfl];rfl
  |app a b' x y=>rw[effG d _ t b rfl];rfl
  |appz a b' x=>rw[effG d _ t b rfl];rfl
  |bad=>rw[effG d _ t b rfl];rfl
  |_=>rw[pureG d _ t b rfl];rfl
theorem opG_ok{o:IOpx}{sl:List AV}{rows:List Row}{low:Nat}:opR (Ret F) sl rows low o=opG F getO sl rows low o:=by
 have hC:∀(tab:List (Nat×Nat)) (f:Opd) (args:List Opd),(match targetC tab (getO sl f) (args.map (getO sl))with
   |
    some (fid,vs)=>match Ret F fid vs rows with
    |some (v,rows',d)=>some (v,rows',lowO low d)
    |none=>none
   |none=>none)=opC F rows low (args.map (getO sl)) tab (getO sl f):=by
  intro tab f args
  unfold opC
  split
  ·rename_i h
   cases Ret F _ _ rows<;>simp[*]
  ·rename_i h
   rfl
 obtain⟨d,op,g⟩:=o
 have hgo:∀(t:Nat) (b:Bool) (e:Option (AV×List Row×Nat)),(match want sl (some (t,b))with|none=>none|some false=>some (.tup [],rows,low)|some true=>e)=go (getO sl (.t t)) b rows low e:=by
  intro t b e
  show(match want sl (some (t,b))with|none=>none|some false=>some (.tup [],rows,low)|some true=>e)=go (sl.getD t .any) b rows low e
  unfold want go
  simp only
  generalize sl.getD t AV.any=gg
  cases gg with
  |bool c=>cases c<;>cases b<;>rfl
  |tup l=>cases l<;>rfl
  |_=>rfl
 cases g with
 |
  none=>
  have hn:want sl none=some true:=rfl
  cases op<;>first
   |(unfold opR opG;simp only[hn];exact hC _ _ _)
   |(unfold opR opG;simp only[hn];exact evalE_sub rows low (getO sl) _)
 |
  some p=>
  obtain⟨t,b⟩:=p
  cases op<;>first
   |(unfold opG;simp only;rw[<-hgo,<-hC];rfl)
   |(unfold opG;simp only;rw[<-hgo,<-evalE_sub];rfl)
theorem runL_ok{rows:List Row}{low:Nat}{K:List AV->List Row->Prop}:∀(g:List (IOpx×Nat)) (i:Nat) (sl:List AV),purePs g=true->(runG F getO putO rows K i g sl []↔runL F getO putO rows low (fun sl=>K sl rows) g sl)
 |[],i,sl,_=>by simp[runG,runL]
 |
  (o,b)::g,i,sl,h=>by
  simp only[purePs,Bool.and_eq_true]at h
  obtain⟨d,op,gd⟩:=o
  have ih:=fun sl=>runL_ok (K:=K) (low:=low) (rows:=rows) g (i+1) sl h.2
  cases gd with
  |
   none=>
   cases op<;>first
    |(have:=h.1;simp[IOp.pure]at this;done)
    |(simp only[runG,runL,runO,IOp.pure,if_true,maskE,List.map_nil,List.append_nil,ih];done)
  |
   some p=>
   obtain⟨t,c⟩:=p
   cases op<;>first
    |(have:=h.1;simp[IOp.pure]at this;done)
    |(simp only[runG,runL,runO,IOp.pure,if_true,maskE,List.map_nil,List.append_nil,ih];done)
theorem runG_ok{rows:List Row}{K:List AV->List Row->Prop}:∀(g:List (IOpx×Nat)) (i:Nat) (sl:List AV) (ext:List (Nat×Row)),(bnd (evalG (Ret F) (fun _=>rows) i g sl ext) fun q=>K q.1 (rows++q.2.map (·.2)))↔runG F getO putO rows K i g sl ext
 |[],i,sl,ext=>by simp[evalG,runG]
 |
  (o,b)::g,i,sl,ext=>by
  have step:(bnd (evalG (Ret F) (fun _=>rows) i ((o,b)::g) sl ext) fun q=>K q.1 (rows++q.2.map (·.2)))↔bnd (opG F getO sl (rows++maskE b ext) (rows.length+ext.length) o) fun q=>q.2.2=rows.length+ext.length/\
   runG F getO putO rows K (i+1) g (putO sl o.dst q.1) (ext++(q.2.1.drop (rows.length+ext.length)).map fun x=>(i,x)):=by
   simp only[evalG,<-opG_ok]
   cases hop:opR (Ret F) sl (rows++maskE b ext) (rows.length+ext.length) o with
   |none=>simp
   |
    some q=>
    obtain⟨v,rows',low'⟩:=q
    simp only[bnd_some]
    rw[<-runG_ok g]
    by_cases hl:low'=rows.length+ext.length
    ·simp[hl]
    ·simp[hl]
  rw[step]
  conv=>rhs;unfold runG
  split
  ·rename_i hp
   have hlen:(rows++maskE b ext).length=rows.length+ext.length:=by simp[maskE]
   have hpure:∀(d:Option Nat) (op:IOp) (gd:Option (Nat×Bool)),op.pure=true->opR (Ret F) sl (rows++maskE b ext) (rows.length+ext.length) ⟨d,op,gd⟩=match want sl gd with|none=>none|some false=>some (.tup [],rows++maskE b ext,rows.length+ext.length)|some true=>(evP (rows++maskE b ext) (subI (getO sl) op)).map fun v=>(v,rows++maskE b ext,rows.length+ext.length):=by
    intro d op gd ho
    cases hw:want sl gd with
    |none=>unfold opR;simp[hw]
    |
     some c=>
     unfold opR
     simp only[hw]
     cases c with
     |false=>rfl
     |
      true=>
      simp only
      split
      ·simp[IOp.pure]at ho
      ·rw[evalE_pure ho,evalP_sub]
   have hdrop:((rows++maskE b ext).drop (rows.length+ext.length)).map (fun x=>(i,x))=[]:=by
    rw[List.drop_of_length_le (by omega)];rfl
   rw[<-opG_ok]
   split
   ·rw[hpure _ _ _ rfl]
    simp only[want,subI,evP,evalP,get_sub,Option.map_some,bnd_some,hdrop,true_and,List.append_nil]
   ·rename_i d op h
    rw[hpure _ _ _ hp]
    simp only[want,bnd_map,hdrop,true_and,List.append_nil]
   ·rename_i d op t c
    rw[hpure _ _ _ hp]
    have hget:getO sl (.t t)=sl.getD t .any:=rfl
    unfold want gv
    simp only[hget]
    generalize sl.getD t AV.any=gg
    cases gg with
    |
     bool c'=>
     cases e:c'==c
     ·simp only[e,Bool.false_eq_true,if_false,bnd_some,hdrop,true_and,List.append_nil]
     ·simp only[e,if_true,bnd_map,hdrop,true_and,List.append_nil]
    |tup l=>cases l<;>simp only[bnd_some,bnd_none,hdrop,true_and,List.append_nil]
    |_=>simp only[bnd_none]
  ·simp only[bnd_some]
theorem Ex_runP:∀(l:List Seg) (sl:List AV) (rows:List Row) (low:Nat),noW l=true->(Ex F cx (.ops l::k) ⟨sl,rows,low⟩ r↔runP F getO putO (fun sl rows low=>Ex F cx k ⟨sl,rows,low⟩ r) l sl rows low)
 |[],sl,rows,low,_=>by rw[Ex_opsNil];rfl
 |
  .one o::l,sl,rows,low,h=>by
  rw[runO_ok (P:=fun sl rows low=>runP F getO putO (fun sl rows low=>Ex F cx k ⟨sl,rows,low⟩ r) l sl rows low) (fun sl rows low=>Ex_runP l sl rows low h)]
  rfl
 |
  .grp g::l,sl,rows,low,h=>by
  rw[Ex_grpR]
  simp only[runP]
  have h1:(∃q,evalG (Ret F) (fun _=>rows) 0 g sl []=some q/\Ex F cx (.ops l::k) ⟨q.1,rows++q.2.map (·.2),low⟩ r)↔runG F getO putO rows (fun sl rows=>runP F getO putO (fun sl rows low=>Ex F cx k ⟨sl,rows,low⟩ r) l sl rows low) 0 g sl []:=by
   rw[<-runG_ok]
   simp only[bnd,Ex_runP l _ _ _ h]
  rw[h1]
  split
  ·rename_i hp
   rw[runL_ok (low:=low) g 0 sl hp]
  ·rfl
 |.grpw .. :: l,sl,rows,low,h=>by simp[noW]at h
 |
  .stop::l,sl,rows,low,h=>by
  constructor
  ·rintro ⟨n,x,e,_⟩
   cases n with
   |zero=>simp[exec]at e
   |succ n=>simp[exec]at e
  ·intro h;exact h.elim
section
variable {σ τ:Type}{get:σ->Opd->AV}{put:σ->Option Nat->AV->σ}{get':τ->Opd->AV}{put':τ->Option Nat->AV->τ}{f:τ->σ}
theorem runO_tr(hg:∀t,get (f t)=get' t)(hp:∀t d v,put (f t) d v=f (put' t d v)){o:IOpx}{t:τ}{rows:List Row}{low:Nat}{K:σ->List Row->Nat->Prop}{K':τ->List Row->Nat->Prop}(hK:∀t rows low,K (f t) rows low↔K' t rows low):
  runO F get put o (f t) rows low K↔runO F get' put' o t rows low K':=by
 have hK':(fun t rows low=>K (f t) rows low)=K':=by funext t rows low;exact propext (hK t rows low)
 subst hK'
 obtain⟨d,op,g⟩:=o
 cases g with
 |
  none=>
  cases op with
  |
   call tab f args=>
   cases tab with
   |cons p tab=>simp only[runO,hg,hp]
   |nil=>
   cases f with
   |t n=>simp only[runO,hg,hp]
   |
    c v=>
    cases v with
    |func fid cs=>cases cs<;>simp only[runO,hg,hp]
    |_=>simp only[runO,hg,hp]
  |_=>simp only[runO,hg,hp]
 |some p=>cases op<;>simp only[runO,hg,hp]
theorem runL_tr(hg:∀t,get (f t)=get' t)(hp:∀t d v,put (f t) d v=f (put' t d v)){rows:List Row}{low:Nat}{K:σ->Prop}{K':τ->Prop}(hK:∀t,K (f t)↔K' t):∀(g:List (IOpx×Nat)) (t:τ),runL F get put rows low K g (f t)↔runL F get' put' rows low K' g t
 |[],t=>hK t
 |
  (o,b)::g,t=>by
  simp only[runL]
  exact runO_tr hg hp fun t _ _=>runL_tr hg hp hK g t
theorem opG_tr(hg:∀t,get (f t)=get' t){o:IOpx}{t:τ}{rows:List Row}{low:Nat}:opG F get (f t) rows low o=opG F get' t rows low o:=by
 obtain⟨d,op,g⟩:=o
 cases g<;>cases op<;>simp only[opG,hg]
theorem runG_tr(hg:∀t,get (f t)=get' t)(hp:∀t d v,put (f t) d v=f (put' t d v)){rows:List Row}{K:σ->List Row->Prop}{K':τ->List Row->Prop}(hK:∀t rows,K (f t) rows↔K' t rows):∀(g:List (IOpx×Nat)) (i:Nat) (t:τ) (ext:List (Nat×Row)),runG F get put rows K i g (f t) ext↔runG F get' put' rows K' i g t ext
 |[],i,t,ext=>hK t _
 |
  (o,b)::g,i,t,ext=>by
  have ih:=runG_tr (rows:=rows) hg hp hK g (i+1)
  obtain⟨d,op,gd⟩:=o
  cases gd with
  |none=>cases op<;>simp only[runG,IOp.pure,opG_tr hg,hg,hp,ih,if_true,if_false,Bool.false_eq_true,bnd_some]
  |some p=>cases op<;>simp only[runG,IOp.pure,opG_tr hg,hg,hp,ih,if_true,if_false,Bool.false_eq_true,bnd_some]
theorem runP_tr(hg:∀t,get (f t)=get' t)(hp:∀t d v,put (f t) d v=f (put' t d v)){E:σ->List Row->Nat->Prop}{E':τ->List Row->Nat->Prop}(hE:∀t rows low,E (f t) rows low↔E' t rows low):∀(l:List Seg) (t:τ) (rows:List Row) (low:Nat),runP F get put E l (f t) rows low↔runP F get' put' E' l t rows low
 |[],t,rows,low=>hE t rows low
 |
  .one o::l,t,rows,low=>by
  simp only[runP]
  exact runO_tr hg hp fun t rows low=>runP_tr hg hp hE l t rows low
 |
  .grp g::l,t,rows,low=>by
  simp only[runP]
  split
  ·exact runL_tr hg hp (fun t=>runP_tr hg hp hE l t rows low) g t
  ·exact runG_tr hg hp (fun t rows=>runP_tr hg hp hE l t rows low) g 0 t []
 |.grpw .. :: _,t,rows,low=>by simp only[runP]
 |.stop::_,t,rows,low=>by simp only[runP]
end
end
end Go.Abs
namespace Go.Abs
def fk:ICode->Option (List Nat)
 |.kill m l _=>some (dead m l)
 |
  .seq a b=>match a with
  |.skip=>fk b
  |a=>fk a
 |.block _ c=>fk c
 |.scope c=>fk c
 |_=>none
theorem killS_len:∀(l:List Nat) (sl:List AV),(killS sl l).length=sl.length
 |[],sl=>rfl
 |d::ds,sl=>by rw[killS,killS_len ds];simp
theorem killS_get:∀(l:List Nat) (sl:List AV) (i:Nat),(killS sl l)[i]?=if i∈l/\i<sl.length then some .any else sl[i]?
 |[],sl,i=>by simp[killS]
 |
  d::ds,sl,i=>by
  rw[killS,killS_get ds,List.getElem?_set,List.length_set]
  by_cases h1:i∈ds<;>by_cases h2:i<sl.length<;>by_cases h3:d=i<;>simp_all
  all_goals
   have h4:i≠d:=fun e=>h3 e.symm
   simp[h4]
theorem killS_twice(l:List Nat)(sl:List AV):killS (killS sl l) l=killS sl l:=by
 apply List.ext_getElem?
 intro i
 rw[killS_get,killS_len,killS_get]
 split<;>rfl
section
variable {F:Nat->Option IFn}{cx:Ctx}{r:AV×List Row×Nat->Prop}{rows:List Row}{low:Nat}
theorem Ex_fk{l:List Nat}{sl:List AV}:∀{c:ICode} {k:List Itm},fk c=some l->(Ex F cx (.code c::k) ⟨killS sl l,rows,low⟩ r↔Ex F cx (.code c::k) ⟨sl,rows,low⟩ r)
 |
  .kill m l' c,k,h=>by
  simp only[fk,Option.some.injEq]at h
  subst h
  rw[Ex_kill,Ex_kill,killS_twice]
 |
  .seq a b,k,h=>by
  rw[Ex_seq,Ex_seq]
  by_cases e:a = .skip
  ·subst e
   rw[Ex_skip,Ex_skip]
   exact Ex_fk (c:=b) h
  ·have h':fk a=some l:=by
    cases a<;>first|exact h|exact absurd rfl e
   exact Ex_fk (c:=a) h'
 |
  .block id c,k,h=>by
  rw[Ex_block,Ex_block]
  exact Ex_fk (c:=c) h
 |
  .scope c,k,h=>by
  rw[Ex_scope,Ex_scope]
  exact Ex_fk (c:=c) h
 |.skip,_,h=>by simp[fk]at h
 |.ret,_,h=>by simp[fk]at h
 |.exit _,_,h=>by simp[fk]at h
 |.cond ..,_,h=>by simp[fk]at h
 |.loop _,_,h=>by simp[fk]at h
 |.ops _,_,h=>by simp[fk]at h
 |.rf ..,_,h=>by simp[fk]at h
 |.stop,_,h=>by simp[fk]at h
end
def lk:List (Nat×AV)->Nat->AV
 |[],_=>.any
 |
  (i,v)::l,j=>match Nat.beq i j with
  |true=>v
  |false=>lk l j
def mk(n:Nat)(l:List (Nat×AV)):List AV:=(List.range n).map (lk l)
def only(l:List (Nat×AV)):List Nat->List (Nat×AV)
 |[]=>[]
 |i::is=>(i,lk l i)::only l is
@[simp] theorem lk_nil(j:Nat):lk [] j = .any:=rfl
@[simp] theorem lk_cons(i j:Nat)(v:AV)(l:List (Nat×AV)):lk ((i,v)::l) j=if i=j then v else lk l j:=by
 rw[lk]
 by_cases h:i=j
 ·subst h;simp
 ·rw[if_neg h,show Nat.beq i j=false from by
   cases e:Nat.beq i j
   ·rfl
   ·exact absurd (Nat.eq_of_beq_eq_true e) h]
@[simp] theorem mk_len(n:Nat)(l:List (Nat×AV)):(mk n l).length=n:=by simp[mk]
theorem mk_get(n:Nat)(l:List (Nat×AV))(i:Nat):(mk n l)[i]?=if i<n then some (lk l i)else none:=by
 unfold mk
 by_cases h:i<n<;>simp[h]
@[simp] theorem mk_getD(n:Nat)(l:List (Nat×AV))(i:Nat)(h:i<n):(mk n l).getD i .any=lk l i:=by
 rw[List.getD_eq_getElem?_getD,mk_get,if_pos h];rfl
@[simp] theorem mk_getO(n:Nat)(l:List (Nat×AV))(i:Nat)(h:i<n):getO (mk n l) (.t i)=lk l i:=mk_getD n l i h
@[simp] theorem mk_getC(n:Nat)(l:List (Nat×AV))(v:AV):getO (mk n l) (.c v)=v:=rfl
theorem mk_set(n:Nat)(l:List (Nat×AV))(i:Nat)(v:AV):(mk n l).set i v=mk n ((i,v)::l):=by
 apply List.ext_getElem?
 intro j
 rw[List.getElem?_set,mk_len,mk_get,mk_get]
 by_cases h:i=j
 ·subst h;simp
 ·simp[h]
@[simp] theorem mk_putL0(n:Nat)(l:List (Nat×AV)):putL (mk n l) [] []=mk n l:=rfl
@[simp] theorem mk_putL2(n:Nat)(l:List (Nat×AV))(i j:Nat)(v w:AV):putL (mk n l) [i,j] [v,w]=mk n ((j,w)::(i,v)::l):=by
 simp[putL,mk_set]
theorem lk_only(l:List (Nat×AV)):∀(ks:List Nat) (j:Nat),lk (only l ks) j=if j∈ks then lk l j else .any
 |[],j=>by simp[only]
 |
  i::is,j=>by
  simp only[only,lk_cons,lk_only l is,List.mem_cons]
  by_cases h:i=j
  ·subst h;simp
  ·have h':¬j=i:=fun e=>h e.symm
   simp[h,h']
theorem kill_dead(n:Nat)(l:List (Nat×AV))(keep:List Nat):killS (mk n l) (dead n keep)=mk n (only l keep):=by
 apply List.ext_getElem?
 intro j
 rw[killS_get,mk_len,mk_get,mk_get,lk_only]
 unfold dead
 by_cases h:j<n<;>by_cases h2:j∈keep<;>simp[h,h2]
def gO(n:Nat)(l:List (Nat×AV)):Opd->AV
 |
  .t i=>match Nat.ble (i+1) n with
  |true=>lk l i
  |false=>.any
 |.c v=>v
def pO(l:List (Nat×AV))(d:Option Nat)(v:AV):List (Nat×AV):=
 match d with
 |some d=>(d,v)::l
 |none=>l
theorem gO_ok(n:Nat)(l:List (Nat×AV)):getO (mk n l)=gO n l:=by
 funext x
 cases x with
 |
  t i=>
  by_cases h:i<n
  ·rw[mk_getO n l i h,gO,show Nat.ble (i+1) n=true from Nat.ble_eq_true_of_le h]
  ·show(mk n l).getD i .any=_
   rw[List.getD_eq_getElem?_getD,mk_get,if_neg h,gO,show Nat.ble (i+1) n=false from by
    cases e:Nat.ble (i+1) n
    ·rfl
    ·exact absurd (Nat.le_of_ble_eq_true e) h]
   rfl
 |c v=>rfl
theorem pO_ok(n:Nat)(l:List (Nat×AV))(d:Option Nat)(v:AV):putO (mk n l) d v=mk n (pO l d v):=by
 cases d with
 |none=>rfl
 |some d=>exact mk_set n l d v
section
variable {F:Nat->Option IFn}{cx:Ctx}{k:List Itm}{r:AV×List Row×Nat->Prop}{rows:List Row}{low:Nat}
abbrev runQ(F:Nat->Option IFn)(cx:Ctx)(k:List Itm)(r:AV×List Row×Nat->Prop)(n:Nat)(ops:List Seg)(l:List (Nat×AV))(rows:List Row)(low:Nat):Prop:=
 runP F (gO n) pO (fun l rows low=>Ex F cx k ⟨mk n l,rows,low⟩ r) ops l rows low
theorem Ex_runQ{n:Nat}{ops:List Seg}{l:List (Nat×AV)}(h:noW ops=true):Ex F cx (.ops ops::k) ⟨mk n l,rows,low⟩ r↔runQ F cx k r n ops l rows low:=by
 rw[Ex_runP _ _ _ _ h]
 exact runP_tr (f:=mk n) (gO_ok n) (pO_ok n) (fun _ _ _=>Iff.rfl) ops l rows low
theorem reg{c:ICode}{n:Nat}{keep:List Nat}{ops:List Seg}{l:List (Nat×AV)}{Q:Prop}(hc:c = .kill n keep (.ops ops))(hw:noW ops=true)(hq:runQ F cx k r n ops (only l keep) rows low=Q):Ex F cx (.code c::k) ⟨mk n l,rows,low⟩ r↔Q:=by
 rw[hc,Ex_kill,Ex_ops,kill_dead,Ex_runQ hw,hq]
theorem Ex_canon{n:Nat}{keep:List Nat}{c:ICode}{l:List (Nat×AV)}(h:fk c=some (dead n keep)):Ex F cx (.code c::k) ⟨mk n l,rows,low⟩ r↔Ex F cx (.code c::k) ⟨mk n (only l keep),rows,low⟩ r:=by
 rw[<-kill_dead,Ex_fk h]
theorem loopN{n:Nat}{keep:List Nat}{c:ICode}{l:List (Nat×AV)}(h:fk c=some (dead n keep)):Ex F cx (.inLoop c::k) ⟨mk n l,rows,low⟩ r↔Ex F cx (.code c::.inLoop c::k) ⟨mk n (only l keep),rows,low⟩ r:=by
 rw[Ex_inLoop,<-kill_dead,Ex_fk h]
theorem loopE{n:Nat}{keep:List Nat}{c:ICode}{l:List (Nat×AV)}(h:fk c=some (dead n keep)):Ex F cx (.code (.loop c)::k) ⟨mk n l,rows,low⟩ r↔Ex F cx (.code c::.inLoop c::k) ⟨mk n (only l keep),rows,low⟩ r:=by
 rw[Ex_loop,<-kill_dead,Ex_fk h]
end
end Go.Abs
namespace Go.Abs
section
variable {F:Nat->Option IFn}{cx:Ctx}{k:List Itm}{r:AV×List Row×Nat->Prop}{sl:List AV}{rows:List Row}{low:Nat}
attribute [simp] Ex_inBlock Ex_inScope Ex_skip Ex_seq Ex_block Ex_scope Ex_ops Ex_kill kill_dead only popTo lowO pO
@[simp] theorem Ex_condT{n i:Nat}{l:List (Nat×AV)}{a b:ICode}(h:i<n):Ex F cx (.code (.cond (.t i) a b)::k) ⟨mk n l,rows,low⟩ r↔∃t,lk l i = .bool t/\Ex F cx (.code (if t then a else b)::k) ⟨mk n l,rows,low⟩ r:=by
 rw[Ex_cond,mk_getO n l i h]
@[simp] theorem Ex_exit1{id:Nat}{s:St}:Ex F cx (.code (.exit id)::.inBlock id::k) s r↔Ex F cx k s r:=by rw[Ex_exit];simp[popTo]
@[simp] theorem Ex_exitL{id:Nat}{c:ICode}{s:St}:Ex F cx (.code (.exit id)::.inLoop c::k) s r↔Ex F cx (.code (.exit id)::k) s r:=by rw[Ex_exit,Ex_exit];simp only[popTo]
@[simp] theorem Ex_exitC{id:Nat}{c:ICode}{s:St}:Ex F cx (.code (.exit id)::.code c::k) s r↔Ex F cx (.code (.exit id)::k) s r:=by rw[Ex_exit,Ex_exit];simp only[popTo]
@[simp] theorem Ex_retF{res:List RV}{s:St}:Ex F (.fn res) (.code .ret::k) s r↔bnd (results s.rows s.sl res) fun v=>r (v,s.rows,s.low):=by
 rw[Ex_ret]
 simp only[leaveV,bnd]
 constructor
 ·rintro ⟨x,e,h⟩
  rw[Option.map_eq_some_iff]at e
  obtain⟨v,hv,rfl⟩:=e
  exact⟨v,hv,h⟩
 ·rintro ⟨v,e,h⟩
  exact⟨_,by rw[e];rfl,h⟩
@[simp] theorem Ex_nilF{res:List RV}{s:St}:Ex F (.fn res) [] s r↔bnd (results s.rows s.sl res) fun v=>r (v,s.rows,s.low):=by
 rw[Ex_nil]
 simp only[leaveV,bnd]
 constructor
 ·rintro ⟨x,e,h⟩
  rw[Option.map_eq_some_iff]at e
  obtain⟨v,hv,rfl⟩:=e
  exact⟨v,hv,h⟩
 ·rintro ⟨v,e,h⟩
  exact⟨_,by rw[e];rfl,h⟩
@[simp] theorem Ex_bad{b:Bool}{e:Option (AV×List Row×Nat)}:evE rows low .bad=none:=rfl
section
variable {n:Nat}{l:List (Nat×AV)}
@[simp] theorem resV_t{i:Nat}(h:i<n):resV rows (mk n l) (.t i)=some (lk l i):=by simp only[resV,mk_getD n l i h]
@[simp] theorem resV_cN{i m:Nat}(h:i<n):resV rows (mk n l) (.cellN i m)=evP rows (.loadN m (.c (lk l i))):=by
 rw[resV,evalP_sub];simp only[subI,subO,mk_getO n l i h]
@[simp] theorem results_0:results rows sl []=some (.tup []):=rfl
@[simp] theorem results_1{a:RV}:results rows sl [a]=resV rows sl a:=by
 unfold results
 simp only[resVs]
 cases resV rows sl a<;>rfl
@[simp] theorem results_2{a b:RV}:results rows sl [a,b]=(resV rows sl a).bind fun x=>(resV rows sl b).map fun y=>.tup [x,y]:=by
 unfold results
 simp only[resVs]
 cases resV rows sl a<;>cases resV rows sl b<;>rfl
end
@[simp] theorem one_int{kd:IntKind}{n:Int}:(AV.int kd n).one=true:=rfl
@[simp] theorem one_bool{b:Bool}:(AV.bool b).one=true:=rfl
@[simp] theorem one_ptr{i o:Nat}:(AV.ptr i o).one=true:=rfl
@[simp] theorem one_nilptr:AV.nilptr.one=true:=rfl
@[simp] theorem one_slice{i o n:Nat}{c:Cap}:(AV.slice i o n c).one=true:=rfl
@[simp] theorem one_nilslice:AV.nilslice.one=true:=rfl
@[simp] theorem one_func{f:Nat}{l:List AV}:(AV.func f l).one=true:=rfl
@[simp] theorem one_yield{f:Nat}:(AV.yield f).one=true:=rfl
@[simp] theorem one_nilfunc:AV.nilfunc.one=true:=rfl
@[simp] theorem one_map{f:Nat}:(AV.map f).one=true:=rfl
@[simp] theorem cells_int{kd:IntKind}{n:Int}:(AV.int kd n).cells=[.int kd n]:=rfl
@[simp] theorem cells_bool{b:Bool}:(AV.bool b).cells=[.bool b]:=rfl
@[simp] theorem cells_ptr{i o:Nat}:(AV.ptr i o).cells=[.ptr i o]:=rfl
@[simp] theorem cells_nilptr:AV.nilptr.cells=[.nilptr]:=rfl
@[simp] theorem cells_slice{i o n:Nat}{c:Cap}:(AV.slice i o n c).cells=[.slice i o n c]:=rfl
@[simp] theorem cells_nilslice:AV.nilslice.cells=[.nilslice]:=rfl
@[simp] theorem cells_func{f:Nat}{l:List AV}:(AV.func f l).cells=[.func f l]:=rfl
@[simp] theorem cells_nilfunc:AV.nilfunc.cells=[.nilfunc]:=rfl
@[simp] theorem cells_yield{f:Nat}:(AV.yield f).cells=[.yield f]:=rfl
@[simp] theorem cells_map{f:Nat}:(AV.map f).cells=[.map f]:=rfl
@[simp] theorem cells_agg{l:List AV}:(AV.agg l).cells=l:=rfl
@[simp] theorem ids_int{kd:IntKind}{n:Int}:(AV.int kd n).ids=[]:=by simp[AV.ids]
@[simp] theorem ids_bool{b:Bool}:(AV.bool b).ids=[]:=by simp[AV.ids]
@[simp] theorem ids_ptr{i o:Nat}:(AV.ptr i o).ids=[i]:=by simp[AV.ids]
@[simp] theorem ids_slice{i o n:Nat}{c:Cap}:(AV.slice i o n c).ids=[i]:=by simp[AV.ids]
@[simp] theorem ids_nilslice:AV.nilslice.ids=[]:=by simp[AV.ids]
@[simp] theorem ids_nilptr:AV.nilptr.ids=[]:=by simp[AV.ids]
@[simp] theorem ids_nilfunc:AV.nilfunc.ids=[]:=by simp[AV.ids]
@[simp] theorem ids_map{f:Nat}:(AV.map f).ids=[f]:=by simp[AV.ids]
@[simp] theorem ids_yield{f:Nat}:(AV.yield f).ids=[f]:=by simp[AV.ids]
@[simp] theorem idsL_nil:AV.ids.idsL []=[]:=by simp[AV.ids.idsL]
@[simp] theorem idsL_cons{v:AV}{l:List AV}:AV.ids.idsL (v::l)=v.ids++AV.ids.idsL l:=by simp[AV.ids.idsL]
@[simp] theorem ids_tup{l:List AV}:(AV.tup l).ids=AV.ids.idsL l:=by simp[AV.ids]
@[simp] theorem ids_agg{l:List AV}:(AV.agg l).ids=AV.ids.idsL l:=by simp[AV.ids]
@[simp] theorem ids_func{f:Nat}{l:List AV}:(AV.func f l).ids=AV.ids.idsL l:=by simp[AV.ids]
@[simp] theorem evP_mv{v:AV}:evP rows (.mv (.c v))=some v:=rfl
@[simp] theorem evP_pick{t:Bool}{a b:AV}:evP rows (.pick (.c (.bool t)) (.c a) (.c b))=some (if t then a else b):=rfl
@[simp] theorem evP_load1{i o:Nat}:evP rows (.load1 (.c (.ptr i o)))=(row? rows i).bind fun vs=>vs[o]?:=by
 show(match row? rows i with|some vs=>vs[o]?|none=>none)=_
 cases row? rows i<;>rfl
@[simp] theorem evP_loadN{n i o:Nat}:evP rows (.loadN n (.c (.ptr i o)))=(row? rows i).bind fun vs=>(seg vs o n).map AV.agg:=by
 show(match row? rows i with|some vs=>(seg vs o n).map AV.agg|none=>none)=_
 cases row? rows i<;>rfl
@[simp] theorem evP_nilck{i o:Nat}:evP rows (.nilck (.c (.ptr i o)))=some (.ptr i o):=rfl
@[simp] theorem evP_nilckF{f:Nat}{cs:List AV}:evP rows (.nilck (.c (.func f cs)))=some (.func f cs):=rfl
@[simp] theorem evP_nilckY{f:Nat}:evP rows (.nilck (.c (.yield f)))=some (.yield f):=rfl
@[simp] theorem evP_bin{op:BinOp}{x y:AV}:evP rows (.bin op (.c x) (.c y))=binA op x y:=rfl
@[simp] theorem evP_eqv{neg:Bool}{kd:EqK}{x y:AV}:evP rows (.eqv neg kd (.c x) (.c y))=(eqA kd x y).map fun b=>.bool (if neg then !b else b):=rfl
@[simp] theorem evP_not{b:Bool}:evP rows (.un .not (.c (.bool b)))=some (.bool !b):=rfl
@[simp] theorem evP_neg{kd:IntKind}{n:Int}:evP rows (.un .neg (.c (.int kd n)))=some (.int kd (kd.wrap (0-n))):=rfl
@[simp] theorem evP_conv{kd kd':IntKind}{n:Int}:evP rows (.conv kd (.c (.int kd' n)))=some (.int kd (kd.wrap n)):=rfl
@[simp] theorem evP_part1{o:Nat}{l:List AV}:evP rows (.part1 o (.c (.agg l)))=l[o]?:=rfl
@[simp] theorem evP_partN{o n:Nat}{l:List AV}:evP rows (.partN o n (.c (.agg l)))=(seg l o n).map AV.agg:=rfl
@[simp] theorem evP_fieldA{d i o:Nat}:evP rows (.fieldA d (.c (.ptr i o)))=some (.ptr i (o+d)):=rfl
@[simp] theorem evP_idxA{len sz i o:Nat}{kd:IntKind}{n:Int}:evP rows (.idxA len sz (.c (.ptr i o)) (.c (.int kd n)))=(idx? n len).map fun j=>.ptr i (o+j*sz):=by
 show(match idx? n len with|some j=>some (AV.ptr i (o+j*sz))|none=>none)=_
 cases idx? n len<;>rfl
@[simp] theorem evP_idxS{sz i o len:Nat}{c:Cap}{kd:IntKind}{n:Int}:evP rows (.idxS sz (.c (.slice i o len c)) (.c (.int kd n)))=(idx? n len).map fun j=>.ptr i (o+j*sz):=by
 show(match idx? n len with|some j=>some (AV.ptr i (o+j*sz))|none=>none)=_
 cases idx? n len<;>rfl
@[simp] theorem evP_mkagg{z:List AV}{ps:List (Nat×Nat×Opd)}:evP rows (.mkagg z ps)=(fillA (getO []) ps z).map .agg:=rfl
@[simp] theorem evP_sliceS{sz:Nat}{x:AV}{lo hi mx:Option Opd}:evP rows (.sliceS sz (.c x) lo hi mx)=sliceV sz x (lo.map (getO [])) (hi.map (getO [])) (mx.map (getO [])):=rfl
@[simp] theorem evP_sliceA{n sz:Nat}{x:AV}{lo hi mx:Option Opd}:evP rows (.sliceA n sz (.c x) lo hi mx)=sliceAV n sz x (lo.map (getO [])) (hi.map (getO [])) (mx.map (getO [])):=rfl
@[simp] theorem evP_bind{f:Nat}{cs:List Opd}:evP rows (.bind f cs)=some (.iface bd (.agg (.int .u64 f::cs.map (getO [])))):=rfl
@[simp] theorem boundOf_bd{f:Int}{cs:List AV}:boundOf bd (.agg (.int .u64 f::cs))=some (f.toNat,cs):=rfl
@[simp] theorem evP_mkfn{f:Nat}{cs:List Opd}:evP rows (.mkfn f cs)=some (.func f (cs.map (getO []))):=rfl
@[simp] theorem evP_lenc{n:Nat}:evP rows (.lenc n)=some (.int .i64 n):=rfl
@[simp] theorem evP_len{i o n:Nat}{c:Cap}:evP rows (.len 0 (.c (.slice i o n c)))=some (.int .i64 n):=rfl
@[simp] theorem evP_len0:evP rows (.len 0 (.c .nilslice))=some (.int .i64 0):=rfl
@[simp] theorem evP_mx2{kd:IntKind}{x y:Int}:evP rows (.mx [.c (.int kd x),.c (.int kd y)])=some (.int kd (max x y)):=by
 simp only[evP,evalP,List.map_cons,List.map_nil,getO,foldA,mxA,if_true,Option.some.injEq,AV.int.injEq,true_and]
 omega
@[simp] theorem evP_mn2{kd:IntKind}{x y:Int}:evP rows (.mn [.c (.int kd x),.c (.int kd y)])=some (.int kd (min x y)):=by
 simp only[evP,evalP,List.map_cons,List.map_nil,getO,foldA,mnA,if_true,Option.some.injEq,AV.int.injEq,true_and]
 omega
@[simp] theorem evP_ext{l:List AV}{i:Nat}:evP rows (.ext (.c (.tup l)) i)=l[i]?:=rfl
@[simp] theorem evP_mkif{t:Nat}{v:AV}:evP rows (.mkif t (.c v))=some (.iface t v):=rfl
@[simp] theorem getOn_c{v:AV}:getO sl (.c v)=v:=rfl
@[simp] theorem opt_map_c{v:AV}:(some (Opd.c v)).map (getO [])=some v:=rfl
@[simp] theorem gv_F{c:Bool}{e:Option AV}:gv (.bool c) false e=if c=true then some (.tup [])else e:=by
 unfold gv
 cases c<;>rfl
@[simp] theorem gv_T{c:Bool}{e:Option AV}:gv (.bool c) true e=if c=true then e else some (.tup []):=by
 unfold gv
 cases c<;>rfl
@[simp] theorem gv_0{b:Bool}{e:Option AV}:gv (.tup []) b e=some (.tup []):=rfl
@[simp] theorem gw_0{b:Bool}{K K':Prop}:gw (.tup []) b K K'↔K':=Iff.rfl
@[simp] theorem gcall_0{b:Bool}{args:List AV}{tab:List (Nat×Nat)}{K:AV->List Row->Nat->Prop}{v:AV}:gcall F (.tup []) b rows low args tab v K↔K (.tup []) rows low:=Iff.rfl
@[simp] theorem gcall_TT{args:List AV}{tab:List (Nat×Nat)}{K:AV->List Row->Nat->Prop}{v:AV}:gcall F (.bool true) true rows low args tab v K↔callK F rows low args K tab v:=Iff.rfl
@[simp] theorem gcall_FF{args:List AV}{tab:List (Nat×Nat)}{K:AV->List Row->Nat->Prop}{v:AV}:gcall F (.bool false) false rows low args tab v K↔callK F rows low args K tab v:=Iff.rfl
@[simp] theorem gcall_TF{args:List AV}{tab:List (Nat×Nat)}{K:AV->List Row->Nat->Prop}{v:AV}:gcall F (.bool true) false rows low args tab v K↔K (.tup []) rows low:=Iff.rfl
@[simp] theorem gcall_FT{args:List AV}{tab:List (Nat×Nat)}{K:AV->List Row->Nat->Prop}{v:AV}:gcall F (.bool false) true rows low args tab v K↔K (.tup []) rows low:=Iff.rfl
@[simp] theorem geff_0{b:Bool}{o:IOp}{K:AV->List Row->Nat->Prop}:geff (.tup []) b rows low o K↔K (.tup []) rows low:=Iff.rfl
@[simp] theorem geff_TT{o:IOp}{K:AV->List Row->Nat->Prop}:geff (.bool true) true rows low o K↔bnd (evE rows low o) fun q=>K q.1 q.2.1 q.2.2:=Iff.rfl
@[simp] theorem geff_FF{o:IOp}{K:AV->List Row->Nat->Prop}:geff (.bool false) false rows low o K↔bnd (evE rows low o) fun q=>K q.1 q.2.1 q.2.2:=Iff.rfl
@[simp] theorem geff_TF{o:IOp}{K:AV->List Row->Nat->Prop}:geff (.bool true) false rows low o K↔K (.tup []) rows low:=Iff.rfl
@[simp] theorem geff_FT{o:IOp}{K:AV->List Row->Nat->Prop}:geff (.bool false) true rows low o K↔K (.tup []) rows low:=Iff.rfl
@[simp] theorem callK_b{args:List AV}{K:AV->List Row->Nat->Prop}{t:Nat}{v:AV}:callK F rows low args K [] (.iface t v)↔bnd (boundOf t v) fun p=>bnd (Ret F p.1 (p.2++args) rows) fun q=>K q.1 q.2.1 (lowO low q.2.2):=Iff.rfl
@[simp] theorem callK_i{args:List AV}{K:AV->List Row->Nat->Prop}{p:Nat×Nat}{tab:List (Nat×Nat)}{t:Nat}{v:AV}:callK F rows low args K (p::tab) (.iface t v)↔t≠bd/\bnd ((p::tab).lookup t) fun f=>bnd (Ret F f (v::args) rows) fun q=>K q.1 q.2.1 (lowO low q.2.2):=Iff.rfl
@[simp] theorem callK_f{args:List AV}{K:AV->List Row->Nat->Prop}{f:Nat}{cs:List AV}:callK F rows low args K [] (.func f cs)↔bnd (Ret F f (args++cs) rows) fun q=>K q.1 q.2.1 (lowO low q.2.2):=Iff.rfl
theorem callK_y{args:List AV}{K:AV->List Row->Nat->Prop}{id:Nat}{st:LoopState}{pd:Option Jump}{sl1:List AV}{ps:List Nat}{asg body:ICode}(h:rows[id]?=some (.loop st pd sl1 ps asg body))(hl:ps.length=args.length):callK F rows low args K [] (.yield id)↔
  Ex F (.round id) [.code asg,.rfBegin,.code body] ⟨putL sl1 ps args,rows,rows.length⟩ fun q=>K q.1 (gc rows.length (lower low q.2.2) q.1 q.2.1) (lower low q.2.2):=by
 simp only[callK,h]
 constructor
 ·rintro ⟨_,_,_,_,_,_,e,_,h⟩
  simp only[Option.some.injEq,Row.loop.injEq]at e
  obtain⟨rfl,rfl,rfl,rfl,rfl,rfl⟩:=e
  exact h
 ·intro h
  exact⟨_,_,_,_,_,_,rfl,hl,h⟩
@[simp] theorem binA_add{kd:IntKind}{a b:Int}:binA .add (.int kd a) (.int kd b)=some (.int kd (kd.wrap (a+b))):=by simp[binA,isShift,binI]
@[simp] theorem binA_sub{kd:IntKind}{a b:Int}:binA .sub (.int kd a) (.int kd b)=some (.int kd (kd.wrap (a-b))):=by simp[binA,isShift,binI]
@[simp] theorem binA_mul{kd:IntKind}{a b:Int}:binA .mul (.int kd a) (.int kd b)=some (.int kd (kd.wrap (a*b))):=by simp[binA,isShift,binI]
@[simp] theorem binA_quo{kd:IntKind}{a b:Int}:binA .quo (.int kd a) (.int kd b)=if b=0 then none else some (.int kd (kd.wrap (a.tdiv b))):=by simp[binA,isShift,binI]
@[simp] theorem binA_rem{kd:IntKind}{a b:Int}:binA .rem (.int kd a) (.int kd b)=if b=0 then none else some (.int kd (a.tmod b)):=by simp[binA,isShift,binI]
@[simp] theorem binA_eql{kd:IntKind}{a b:Int}:binA .eql (.int kd a) (.int kd b)=some (.bool (decide (a=b))):=by
 simp only[binA,isShift,binI,if_true,Bool.false_eq_true,if_false,Option.some.injEq,AV.bool.injEq]
 by_cases h:a=b<;>simp[h]
@[simp] theorem binA_neq{kd:IntKind}{a b:Int}:binA .neq (.int kd a) (.int kd b)=some (.bool (decide (a≠b))):=by
 simp only[binA,isShift,binI,if_true,Bool.false_eq_true,if_false,Option.some.injEq,AV.bool.injEq]
 by_cases h:a=b<;>simp[h]
@[simp] theorem binA_lss{kd:IntKind}{a b:Int}:binA .lss (.int kd a) (.int kd b)=some (.bool (decide (a<b))):=by simp[binA,isShift,binI]
@[simp] theorem binA_leq{kd:IntKind}{a b:Int}:binA .leq (.int kd a) (.int kd b)=some (.bool (decide (a<=b))):=by simp[binA,isShift,binI]
@[simp] theorem binA_gtr{kd:IntKind}{a b:Int}:binA .gtr (.int kd a) (.int kd b)=some (.bool (decide (b<a))):=by simp[binA,isShift,binI]
@[simp] theorem binA_geq{kd:IntKind}{a b:Int}:binA .geq (.int kd a) (.int kd b)=some (.bool (decide (b<=a))):=by simp[binA,isShift,binI]
@[simp] theorem eqA_b{a b:Bool}:eqA .bool (.bool a) (.bool b)=some (a==b):=rfl
@[simp] theorem eqA_s0:eqA .slice .nilslice .nilslice=some true:=rfl
@[simp] theorem eqA_s1{i o n:Nat}{c:Cap}:eqA .slice (.slice i o n c) .nilslice=some false:=rfl
@[simp] theorem eqA_p1{i o:Nat}:eqA .ptr (.ptr i o) .nilptr=some false:=rfl
@[simp] theorem eqA_p0:eqA .ptr .nilptr .nilptr=some true:=rfl
@[simp] theorem eqA_ifc{t n t1 t2:Nat}{xs ys:List AV}:eqA (.ifc t n) (.iface t1 (.agg xs)) (.iface t2 (.agg ys))=if t1=t/\t2=t/\t<bd/\xs.length=n/\ys.length=n then eqInts xs ys else none:=rfl
@[simp] theorem eqA_ints{n:Nat}{xs ys:List AV}:eqA (.ints n) (.agg xs) (.agg ys)=if xs.length=n/\ys.length=n then eqInts xs ys else none:=rfl
def cells?(rows:List Row)(i:Nat):Option (List AV):=
 match rows[i]? with
 |some (.cells vs)=>some vs
 |_=>none
@[simp] theorem evE_box{v:AV}:evE rows low (.box (.c v))=if v.cells.all AV.one=true then some (.ptr rows.length 0,rows++[.cells v.cells],low)else none:=rfl
@[simp] theorem evE_store1{i o:Nat}{x:AV}:evE rows low (.store1 (.c (.ptr i o)) (.c x))=(cells? rows i).bind fun vs=>if o<vs.length/\x.one=true then some (AV.tup [],rows.set i (.cells (vs.set o x)),lower low i)else none:=by
 show(match rows[i]? with|some (.cells vs)=>if o<vs.length/\x.one=true then some (AV.tup [],rows.set i (.cells (vs.set o x)),lower low i)else none|_=>none)=_
 unfold cells?
 cases rows[i]? with
 |none=>rfl
 |some y=>cases y<;>rfl
@[simp] theorem evE_storeN{n i o:Nat}{l:List AV}:evE rows low (.storeN n (.c (.ptr i o)) (.c (.agg l)))=(cells? rows i).bind fun vs=>if l.length=n/\o+n<=vs.length/\l.all AV.one=true then some (AV.tup [],rows.set i (.cells (splice vs o l)),lower low i)else none:=by
 show(match rows[i]? with|some (.cells vs)=>if l.length=n/\o+n<=vs.length/\l.all AV.one=true then some (AV.tup [],rows.set i (.cells (splice vs o l)),lower low i)else none|_=>none)=_
 unfold cells?
 cases rows[i]? with
 |none=>rfl
 |some y=>cases y<;>rfl
@[simp] theorem evE_mkslice{n:Nat}{z:List AV}{ps:List (Nat×Nat×Opd)}:evE rows low (.mkslice n z ps)=(fillA (getO []) ps z).map fun cs=>(AV.slice rows.length 0 n (.at_ n),rows++[.cells cs],low):=by
 show(match fillA (getO []) ps z with|some cs=>some (AV.slice rows.length 0 n (.at_ n),rows++[Row.cells cs],low)|none=>none)=_
 cases fillA (getO []) ps z<;>rfl
@[simp] theorem evE_make{z:List AV}{b:Nat}{kd kd':IntKind}{x y:Int}:evE rows low (.make z b (.c (.int kd x)) (.c (.int kd' y)))=if 0<=x/\x<=y/\y<=lim then some (.slice rows.length 0 x.toNat (.at_ y.toNat),rows++[.cells ((List.replicate y.toNat z).flatten)],low)else none:=rfl
@[simp] theorem evE_appz{z:List AV}{kd:IntKind}{n:Int}{b:AV}:evE rows low (.appz z (.c .nilslice) (.c (.int kd n)))=if 0<n/\n<=lim then some (.slice rows.length 0 n.toNat (.op 1),rows++[.cells ((List.replicate n.toNat z).flatten)],low)else none:=rfl
@[simp] theorem evE_mkmap:evE rows low .mkmap=some (.map rows.length,rows++[.mp []],low):=rfl
theorem lower_ge{low id:Nat}(h:low<=id):lower low id=low:=by unfold lower;rw[if_neg (by omega)]
@[simp] theorem lower_self{n:Nat}:lower n n=n:=lower_ge (Nat.le_refl _)
@[simp] theorem lower_add{n m:Nat}:lower n (n+m)=n:=lower_ge (by omega)
@[simp] theorem rows_at{L:List Row}{i:Nat}:(rows++L)[rows.length+i]?=L[i]?:=by
 rw[List.getElem?_append_right (by omega)];congr 1;omega
@[simp] theorem rows_at0{L:List Row}:(rows++L)[rows.length]?=L[0]?:=by
 rw[List.getElem?_append_right (by omega)];simp
theorem rows_lt{i:Nat}{x:Row}(h:rows[i]?=some x):i<rows.length:=(List.getElem?_eq_some_iff.1 h).1
@[simp] theorem row?_at{L:List Row}{i:Nat}:row? (rows++L) (rows.length+i)=row? L i:=by simp[row?]
@[simp] theorem row?_at0{L:List Row}:row? (rows++L) rows.length=row? L 0:=by simp[row?]
@[simp] theorem cells?_at{L:List Row}{i:Nat}:cells? (rows++L) (rows.length+i)=cells? L i:=by simp[cells?]
@[simp] theorem cells?_at0{L:List Row}:cells? (rows++L) rows.length=cells? L 0:=by simp[cells?]
@[simp] theorem row?_0{vs:List AV}{L:List Row}:row? (.cells vs::L) 0=some vs:=rfl
@[simp] theorem row?_s{x:Row}{L:List Row}{i:Nat}:row? (x::L) (i+1)=row? L i:=by simp[row?]
@[simp] theorem cells?_0{vs:List AV}{L:List Row}:cells? (.cells vs::L) 0=some vs:=rfl
@[simp] theorem cells?_s{x:Row}{L:List Row}{i:Nat}:cells? (x::L) (i+1)=cells? L i:=by simp[cells?]
theorem row?_old{i:Nat}{vs:List AV}(h:row? rows i=some vs)(L:List Row):row? (rows++L) i=some vs:=by
 unfold row? at h ⊢
 have hl:i<rows.length:=by
  by_cases e:i<rows.length
  ·exact e
  ·rw[List.getElem?_eq_none (by omega)]at h;simp at h
 rw[List.getElem?_append_left hl];exact h
theorem row?_lt{i:Nat}{vs:List AV}(h:row? rows i=some vs):i<rows.length:=by
 unfold row? at h
 by_cases e:i<rows.length
 ·exact e
 ·rw[List.getElem?_eq_none (by omega)]at h;simp at h
@[simp] theorem fin_val{v:AV}{rows':List Row}(h:v.ids=[]):fin rows v rows' rows.length=(v,rows,none):=by simp[fin,h]
theorem wrap64{n:Int}(h1 : -9223372036854775808<=n)(h2:n<=9223372036854775807):IntKind.i64.wrap n=n:=by
 simp[IntKind.wrap,IntKind.min,IntKind.max,IntKind.signed,IntKind.bits];omega
theorem wrapU64{n:Int}(h1:0<=n)(h2:n<=18446744073709551615):IntKind.u64.wrap n=n:=by
 simp[IntKind.wrap,IntKind.min,IntKind.max,IntKind.signed,IntKind.bits];omega
theorem idx?_ok{n:Int}{len:Nat}(h1:0<=n)(h2:n<len):idx? n len=some n.toNat:=by unfold idx?;rw[if_pos ⟨h1,h2⟩]
@[simp] theorem idx?_nat{n len:Nat}:idx? (n:Int) len=if n<len then some n else none:=by
 unfold idx?
 by_cases h:n<len
 ·rw[if_pos ⟨by omega,by omega⟩,if_pos h];simp
 ·rw[if_neg (by omega),if_neg h]
def nums(k:IntKind)(l:List Int):List AV:=l.map (.int k)
section
variable {kd:IntKind}{l:List Int}
@[simp] theorem nums_len:(nums kd l).length=l.length:=by simp[nums]
@[simp] theorem nums_get{i:Nat}:(nums kd l)[i]?=(l[i]?).map (.int kd):=by simp[nums]
@[simp] theorem nums_getE{i:Nat}(h:i<(nums kd l).length):(nums kd l)[i] = .int kd (l[i]'(by simpa using h)):=by simp[nums]
@[simp] theorem nums_set{i:Nat}{v:Int}:(nums kd l).set i (.int kd v)=nums kd (l.set i v):=by simp[nums,List.map_set]
@[simp] theorem nums_ids:(nums kd l).all (·.ids.isEmpty)=true:=by simp[nums,AV.ids]
@[simp] theorem nums_app{m:List Int}:nums kd l++nums kd m=nums kd (l++m):=by simp[nums]
theorem nums_seg{i n:Nat}:seg (nums kd l) i n=if i+n<=l.length then some (nums kd ((l.drop i).take n))else none:=by
 unfold seg;simp[nums]
theorem get_at{l:List Int}{i:Nat}(h:i<l.length):l[i]?=some (l.getD i 0):=by
 rw[List.getD_eq_getElem?_getD,List.getElem?_eq_getElem h];rfl
end
@[simp] theorem nums_fin{kd:IntKind}{o n:Nat}{c:Cap}{l:List Int}{L:List Row}:fin rows (.slice rows.length o n c) (rows ++ .cells (nums kd l)::L) rows.length=(.slice rows.length o n c,rows++[.cells (nums kd l)],none):=by
 simp[fin,AV.plain1,AV.plain,AV.ren1,AV.ren]
end
end Go.Abs
namespace Go.Abs
def gI(l:List Int)(i:Nat):Int:=l.getD i 0
theorem gI_get{l:List Int}{i:Nat}(h:i<l.length):l[i]?=some (gI l i):=get_at h
theorem gI_eq{l:List Int}{i:Nat}(h:i<l.length):gI l i=l[i]:=by simp[gI,h]
theorem gI_mem{l:List Int}{i:Nat}(h:i<l.length):gI l i∈l:=by rw[gI_eq h];exact List.getElem_mem h
def sid:AV->Nat
 |.slice id _ _ _=>id
 |_=>0
def soff:AV->Nat
 |.slice _ off _ _=>off
 |_=>0
@[simp] theorem sid_s{i o n:Nat}{c:Cap}:sid (.slice i o n c)=i:=rfl
@[simp] theorem soff_s{i o n:Nat}{c:Cap}:soff (.slice i o n c)=o:=rfl
def El(rows:List Row)(sz:Nat)(v:AV)(cs:List AV)(n:Nat):Prop:=elems rows sz v=some (cs,n)
def IsL(rows:List Row)(v:AV)(l:List Int):Prop:=El rows 1 v (nums .i64 l) l.length
section
variable {rows:List Row}{sz:Nat}{v:AV}{cs:List AV}{n:Nat}
theorem El_cases(h:El rows sz v cs n):(v = .nilslice/\cs=[]/\n=0)\/∃id off c vs,v = .slice id off n c/\row? rows id=some vs/\seg vs off (n*sz)=some cs:=by
 unfold El elems at h
 split at h
 ·simp only[Option.some.injEq,Prod.mk.injEq]at h
  exact Or.inl ⟨rfl,h.1.symm,h.2.symm⟩
 ·split at h
  ·rename_i hr
   rw[Option.map_eq_some_iff]at h
   obtain⟨l,e,h⟩:=h
   simp only[Prod.mk.injEq]at h
   obtain⟨rfl,rfl⟩:=h
   exact Or.inr ⟨_,_,_,_,rfl,hr,e⟩
  ·simp at h
 ·simp at h
theorem seg_len{vs l:List AV}{o n:Nat}(h:seg vs o n=some l):l.length=n/\o+n<=vs.length:=by
 unfold seg at h
 split at h
 ·injection h with h
  subst h
  simp only[List.length_take,List.length_drop]
  omega
 ·simp at h
theorem seg_get{vs l:List AV}{o n j:Nat}(h:seg vs o n=some l)(hj:j<n):vs[o+j]?=l[j]?:=by
 unfold seg at h
 split at h
 ·injection h with h
  subst h
  rw[List.getElem?_take,if_pos hj,List.getElem?_drop]
 ·simp at h
theorem seg_seg{vs l:List AV}{o n j m:Nat}(h:seg vs o n=some l)(hj:j+m<=n):seg vs (o+j) m=seg l j m:=by
 have hl:=seg_len h
 unfold seg at h ⊢
 rw[if_pos (by omega)]at h
 injection h with h
 rw[if_pos (by omega),if_pos (by omega),<-h,List.drop_take,List.take_take,List.drop_drop]
 congr 2
 omega
theorem El_len(h:El rows sz v cs n):cs.length=n*sz:=by
 rcases El_cases h with ⟨_,rfl,rfl⟩|⟨id,off,c,vs,rfl,hr,hs⟩
 ·simp
 ·exact(seg_len hs).1
theorem evP_lenE(h:El rows sz v cs n):evP rows (.len 0 (.c v))=some (.int .i64 n):=by
 rcases El_cases h with ⟨rfl,rfl,rfl⟩|⟨id,off,c,vs,rfl,hr,hs⟩<;>rfl
theorem evP_idxE(h:El rows sz v cs n){k:IntKind}{i:Int}(h0:0<=i)(h1:i<n):evP rows (.idxS sz (.c v) (.c (.int k i)))=some (.ptr (sid v) (soff v+i.toNat*sz)):=by
 rcases El_cases h with ⟨rfl,rfl,rfl⟩|⟨id,off,c,vs,rfl,hr,hs⟩
 ·omega
 ·rw[evP_idxS,idx?_ok h0 h1];rfl
theorem evP_loadE(h:El rows sz v cs n){j:Nat}(hj:j<cs.length):evP rows (.load1 (.c (.ptr (sid v) (soff v+j))))=cs[j]?:=by
 have hl:=El_len h
 rcases El_cases h with ⟨rfl,rfl,rfl⟩|⟨id,off,c,vs,rfl,hr,hs⟩
 ·simp at hj
 ·rw[evP_load1]
  simp only[sid,soff,hr,Option.bind_some]
  rw[seg_get hs (by omega)]
theorem evP_loadNE(h:El rows sz v cs n){j m:Nat}(hj:j+m<=cs.length)(hm:0<m):evP rows (.loadN m (.c (.ptr (sid v) (soff v+j))))=(seg cs j m).map AV.agg:=by
 have hl:=El_len h
 rcases El_cases h with ⟨rfl,rfl,rfl⟩|⟨id,off,c,vs,rfl,hr,hs⟩
 ·simp at hj;omega
 ·rw[evP_loadN]
  simp only[sid,soff,hr,Option.bind_some]
  rw[seg_seg hs (by omega)]
theorem El_app(h:El rows sz v cs n)(L:List Row):El (rows++L) sz v cs n:=by
 rcases El_cases h with ⟨rfl,rfl,rfl⟩|⟨id,off,c,vs,rfl,hr,hs⟩
 ·rfl
 ·unfold El elems
  simp only[row?_old hr,hs,Option.map_some]
theorem El_nil:El rows sz .nilslice [] 0:=rfl
variable {l:List Int}
theorem lenL0(h:IsL rows v l):evP rows (.len 0 (.c v))=some (.int .i64 l.length):=evP_lenE h
theorem idxL0(h:IsL rows v l){k:IntKind}{i:Int}(h0:0<=i)(h1:i<l.length):evP rows (.idxS 1 (.c v) (.c (.int k i)))=some (.ptr (sid v) (soff v+i.toNat)):=by
 rw[evP_idxE h h0 h1,Nat.mul_one]
theorem loadL0(h:IsL rows v l){j:Nat}(hj:j<l.length):evP rows (.load1 (.c (.ptr (sid v) (soff v+j))))=some (.int .i64 (gI l j)):=by
 rw[evP_loadE h (by simpa using hj),nums_get,get_at hj];rfl
theorem IsL_app(h:IsL rows v l)(L:List Row):IsL (rows++L) v l:=El_app h L
theorem IsL_nil:IsL rows .nilslice []:=rfl
theorem IsL_mk{id off n:Nat}{c:Cap}{vs:List AV}(hr:row? rows id=some vs)(hs:seg vs off l.length=some (nums .i64 l)):IsL rows (.slice id off l.length c) l:=by
 unfold IsL El elems
 simp only[hr,Nat.mul_one,hs,Option.map_some]
end
end Go.Abs
namespace Go.Abs
section
variable {F F':Nat->Option IFn}(hF:∀n c,F n=some c->F' n=some c)
include hF in
theorem cF_ext{n:Nat}(h:∀cx k s r,exec F n cx k s=some r->exec F' n cx k s=some r):LeC (cF F n) (cF F' n):=by
 intro f vs rows r e
 unfold cF callBy at e ⊢
 split at e
 ·rename_i fn hfn
  rw[hF _ _ hfn]
  unfold callR at e
  split at e
  ·rename_i hx
   simp only[h _ _ _ _ hx,callR]
   exact e
  ·simp at e
 ·simp at e
include hF in
theorem exec_ext:∀(n:Nat) (cx:Ctx) (k:List Itm) (s:St) (r:AV×List Row×Nat),exec F n cx k s=some r->exec F' n cx k s=some r:=by
 intro n
 induction n with
 |zero=>intro cx k s r h;simp[exec]at h
 |
  succ n ih=>
  intro cx k s r h
  have hc:LeC (cF F n) (cF F' n):=cF_ext hF ih
  cases k with
  |nil=>simp only[exec]at h ⊢;exact h
  |
   cons x k=>
   cases x with
   |inBlock id=>simp only[exec]at h ⊢;exact ih _ _ _ _ h
   |inScope c=>simp only[exec]at h ⊢;exact ih _ _ _ _ h
   |inLoop c=>simp only[exec,St.force_eq]at h;rw[exec,St.force_eq];exact ih _ _ _ _ h
   |
    rfBegin=>
    simp only[exec]at h ⊢
    split at h
    ·split at h
     ·exact ih _ _ _ _ h
     ·simp at h
    ·simp at h
   |
    ops l=>
    cases l with
    |nil=>simp only[exec]at h ⊢;exact ih _ _ _ _ h
    |
     cons sg l=>
     cases sg with
     |
      one o=>
      rw[exec]at h ⊢
      split at h
      ·rename_i id vs hy
       split at h
       ·split at h
        ·rename_i hl
         split at h
         ·rename_i hx
          simp only[if_pos hl,ih _ _ _ _ hx]
          exact ih _ _ _ _ h
         ·simp at h
        ·simp at h
       ·simp at h
      ·split at h
       ·rename_i hop
        rw[show opR (callBy F' (exec F' n)) s.sl s.rows s.low o=_ from opR_mono hc hop]
        exact ih _ _ _ _ h
       ·simp at h
     |
      grp g=>
      rw[exec]at h ⊢
      split at h
      ·rename_i hop
       rw[show evalG (callBy F' (exec F' n)) (fun _=>s.rows) 0 g s.sl []=_ from evalG_mono hc _ _ _ _ _ hop]
       exact ih _ _ _ _ h
      ·simp at h
     |
      grpw a x z b g=>
      rw[exec]at h ⊢
      split at h
      ·rename_i hop
       rw[show evalG (callBy F' (exec F' n)) (fun _=>s.rows) 0 g s.sl []=_ from evalG_mono hc _ _ _ _ _ hop]
       simp only
       split at h
       ·rename_i R off hR
        simp only[forceRs_eq]at h ⊢
        split at h
        ·rename_i hop2
         rw[show evalG (callBy F' (exec F' n)) (baseW s.rows (maskR s.rows R off (z.getD 1)) b) 0 g s.sl []=_ from evalG_mono hc _ _ _ _ _ hop2]
         simp only
         split at h
         ·exact ih _ _ _ _ h
         ·simp at h
        ·simp at h
       ·simp at h
      ·simp at h
     |stop=>simp[exec]at h
   |
    code c=>
    cases c with
    |skip=>simp only[exec]at h ⊢;exact ih _ _ _ _ h
    |ret=>simp only[exec]at h ⊢;exact h
    |
     exit id=>
     simp only[exec]at h ⊢
     split at h
     ·exact ih _ _ _ _ h
     ·exact h
    |seq a b=>rw[exec]at h ⊢;exact ih _ _ _ _ h
    |
     cond c a b=>
     rw[exec]at h ⊢
     split at h
     ·exact ih _ _ _ _ h
     ·simp at h
    |block id c=>rw[exec]at h ⊢;exact ih _ _ _ _ h
    |loop c=>rw[exec]at h ⊢;exact ih _ _ _ _ h
    |scope c=>rw[exec]at h ⊢;exact ih _ _ _ _ h
    |ops l=>simp only[exec,St.forceS_eq]at h ⊢;exact ih _ _ _ _ h
    |
     rf f ps a b=>
     rw[exec]at h ⊢
     split at h
     ·rename_i hok
      rw[if_pos hok]
      split at h
      ·split at h
       ·rename_i hop
        rw[show callBy F' (exec F' n) _ _ _=_ from hc _ _ _ _ hop]
        simp only
        split at h
        ·exact ih _ _ _ _ h
        ·simp at h
       ·simp at h
      ·simp at h
     ·simp at h
    |kill l ks c=>rw[exec]at h ⊢;exact ih _ _ _ _ h
    |stop=>simp[exec]at h
include hF in
theorem Ret_ext{f:Nat}{vs:List AV}{rows:List Row}{q:AV×List Row×Option Nat}(h:Ret F f vs rows=some q):Ret F' f vs rows=some q:=by
 obtain⟨n,h⟩:=Ret_iff.1 h
 exact Ret_of (cF_ext hF (exec_ext hF n) _ _ _ _ h)
end
def more(F:Nat->Option IFn)(i:Nat)(c:IFn)(n:Nat):Option IFn:=if n=i then some c else F n
theorem more_ext{F:Nat->Option IFn}{i:Nat}{c:IFn}(h:F i=none):∀n d,F n=some d->more F i c n=some d:=by
 intro n d e
 unfold more
 rw[if_neg (fun e2=>by rw[e2,h]at e;simp at e)]
 exact e
end Go.Abs
namespace Go.Abs
section
variable {F:Nat->Option IFn}{rows:List Row}{low:Nat}
@[simp] theorem maskE_nil{b:Nat}:maskE b []=[]:=rfl
@[simp] theorem opC_f{args:List AV}{f:Nat}{cs:List AV}:opC F rows low args [] (.func f cs)=(Ret F f (args++cs) rows).map fun q=>(q.1,q.2.1,lowO low q.2.2):=rfl
@[simp] theorem go_TT{e:Option (AV×List Row×Nat)}:go (.bool true) true rows low e=e:=rfl
@[simp] theorem go_FF{e:Option (AV×List Row×Nat)}:go (.bool false) false rows low e=e:=rfl
@[simp] theorem go_TF{e:Option (AV×List Row×Nat)}:go (.bool true) false rows low e=some (.tup [],rows,low):=rfl
@[simp] theorem go_FT{e:Option (AV×List Row×Nat)}:go (.bool false) true rows low e=some (.tup [],rows,low):=rfl
@[simp] theorem go_0{b:Bool}{e:Option (AV×List Row×Nat)}:go (.tup []) b rows low e=some (.tup [],rows,low):=rfl
variable {R L:List Row}{A k:Nat}
theorem gc_cases(b low:Nat)(v:AV)(rows:List Row):gc b low v rows=rows\/(gc b low v rows=rows.take b/\((rows.take b).drop low).all (Row.under b)=true):=by
 unfold gc
 split
 ·rename_i h
  rw[Bool.and_eq_true]at h
  exact .inr ⟨rfl,h.2⟩
 ·exact .inl rfl
theorem fin_lt{v:AV}{rows':List Row}(h:low≠rows.length):fin rows v rows' low=(v,gc rows.length low v rows',some low):=by
 unfold fin;rw[if_neg h]
theorem fin_slice{L:List Row}{k o n:Nat}{c:Cap}{vs:List AV}(h:L[k]?=some (.cells vs))(hv:vs.all (·.ids.isEmpty)=true):fin rows (.slice (rows.length+k) o n c) (rows++L) rows.length=(.slice rows.length o n c,rows++[.cells vs],none):=by
 have e:¬rows.length+k<rows.length:=by omega
 unfold fin
 rw[if_pos rfl]
 simp only[ids_slice,List.all_cons,List.all_nil,Bool.and_true,decide_eq_true_eq]
 rw[if_neg e,rows_at,h]
 simp only[hv,Bool.true_and,AV.plain1,AV.plain,if_true,AV.ren1,AV.ren]
theorem cells?_get{id:Nat}{vs:List AV}(h:cells? rows id=some vs):rows[id]?=some (.cells vs):=by
 unfold cells? at h
 split at h
 ·rename_i e;injection h with h;rw[e,h]
 ·simp at h
theorem app_nil{sz b m:Nat}{x:AV}{ys:List AV}(hx:El rows sz x ys m)(h0:0<m)(h1:m<=lim):evE rows low (.app sz b (.c .nilslice) (.c x))=some (.slice rows.length 0 m (.op sz),rows++[.cells ys],low):=by
 simp only[evE,evalE,getO,show elems rows sz x=some (ys,m)from hx]
 rw[if_neg (by omega),if_neg (by omega)]
theorem app_0{sz b:Nat}{s x:AV}{ys:List AV}(hx:El rows sz x ys 0)(hs:s = .nilslice\/∃id off n c,s = .slice id off n c):evE rows low (.app sz b (.c s) (.c x))=some (s,rows,low):=by
 simp only[evE,evalE,getO,show elems rows sz x=some (ys,0)from hx]
 rw[if_pos trivial]
 rcases hs with rfl|⟨id,off,n,c,rfl⟩<;>rfl
theorem app_op{sz b id off n m:Nat}{x:AV}{vs xs ys:List AV}(hc:cells? rows id=some vs)(hs:seg vs off (n*sz)=some xs)(hx:El rows sz x ys m)(h0:0<m)(h1:n+m<=lim):evE rows low (.app sz b (.c (.slice id off n (.op sz))) (.c x))=some (.slice rows.length 0 (n+m) (.op sz),rows.set id .dead++[.cells (xs++ys)],lower low id):=by
 simp only[evE,evalE,getO,show elems rows sz x=some (ys,m)from hx]
 rw[if_neg (by omega),if_neg (by omega),if_neg (by simp;omega)]
 simp only[cells?_get hc,hs]
theorem app_at{sz b id off n m c:Nat}{x:AV}{vs xs ys:List AV}(hc:row? rows id=some vs)(hs:seg vs off (n*sz)=some xs)(hx:El rows sz x ys m)(h0:0<m)(h1:n+m<=lim)(h2:c<n+m):evE rows low (.app sz b (.c (.slice id off n (.at_ c))) (.c x))=some (.slice rows.length 0 (n+m) (.op sz),rows++[.cells (xs++ys)],low):=by
 simp only[evE,evalE,getO,show elems rows sz x=some (ys,m)from hx]
 rw[if_neg (by omega),if_neg (by omega),if_neg (by omega),if_neg (by omega)]
 simp only[hc,hs]
end
theorem rg(keep:List Nat)(ops:List Seg){F:Nat->Option IFn}{cx:Ctx}{k:List Itm}{rows:List Row}{low:Nat}{r:AV×List Row×Nat->Prop}{n:Nat}{l:List (Nat×AV)}{Q:Prop}(hw:noW ops=true)(hq:runQ F cx k r n ops (only l keep) rows low=Q):Ex F cx (.code (.kill n keep (.ops ops))::k) ⟨mk n l,rows,low⟩ r↔Q:=reg rfl hw hq
@[simp] def kp(l:List (Nat×AV)):List Nat->List (Nat×AV)
 |[]=>[]
 |i::is=>(i,lk l i)::kp l is
@[simp] abbrev rn:List (Nat×Row):=[]
abbrev U(a b:ICode):Prop:=∀(F:Nat->Option IFn) (cx:Ctx) (k:List Itm) (s:St) (r:AV×List Row×Nat->Prop),Ex F cx (.code a::k) s r↔Ex F cx (.code b::k) s r
theorem ur{a:ICode}:U a a:=fun _ _ _ _ _=>Iff.rfl
end Go.Abs
set_option maxRecDepth 20000
set_option maxHeartbeats 4000000
namespace Go.Abs
def c15r0:List Seg:=[
 zo 163 (.loadN 3 (.t 3)),
 .one ⟨none,.storeN 3 (.t 2) (.t 163),none⟩]
def c15k0:ICode:=.kill 164 qq131 (.ops c15r0)
def c15s1:ICode:=(.seq c15k0 .ret)
def c15r3:List Seg:=[
 zm 101 12,
 zo 102 (.bin .add (.t 101) (.c (.int .i64 1))),
 zm 12 102]
def c15k3:ICode:=.kill 164 qq55 (.ops c15r3)
def c15r5:List Seg:=[
 zm 109 13,
 zo 110 (.bin .add (.t 109) (.c (.int .i64 1))),
 zm 13 110]
def c15k5:ICode:=.kill 164 qq54 (.ops c15r5)
def c15r7:List Seg:=[
 zm 117 14,
 zo 118 (.bin .add (.t 117) (.c (.int .i64 1))),
 zm 14 118]
def c15k7:ICode:=.kill 164 qq53 (.ops c15r7)
def c15r8:List Seg:=[
 zm 155 15,
 zm 156 12,
 zm 157 13,
 zm 158 14,
 zo 159 (.mkagg [.int .i64 0,.int .i64 0,.int .i64 0] [(0,1,(.t 156)),(1,1,(.t 157)),(2,1,(.t 158))]),
 zo 160 (.mkslice 1 [.int .i64 0,.int .i64 0,.int .i64 0] [(0,3,(.t 159))]),
 zo 161 (.app 3 24 (.t 155) (.t 160)),
 zo 162 (.fieldA 2 (.t 3)),
 .one ⟨none,.store1 (.t 162) (.t 161),none⟩]
def c15k8:ICode:=.kill 164 qq52 (.ops c15r8)
def c15s9:ICode:=(.cond (.t 154) c15k8 .skip)
def c15r10:List Seg:=[
 zo 121 (.loadN 3 (.t 3)),
 zm 122 12,
 zm 123 13,
 zo 124 (.call [] (.c (.func 60 [])) [(.t 121),(.t 122),(.t 123)]),
 zo 125 (.bin .geq (.t 124) (.c (.int .i64 0))),
 zm 126 125,
 .one ⟨some 127,.loadN 3 (.t 3),some (126,true)⟩,
 .one ⟨some 128,.mv (.t 12),some (126,true)⟩,
 .one ⟨some 129,.mv (.t 14),some (126,true)⟩,
 .one ⟨some 130,.call [] (.c (.func 60 [])) [(.t 127),(.t 128),(.t 129)],some (126,true)⟩,
 .one ⟨some 131,.bin .geq (.t 130) (.c (.int .i64 0)),some (126,true)⟩,
 zo 132 (.pick (.t 126) (.t 131) (.c (.bool false))),
 zm 133 132,
 .one ⟨some 134,.loadN 3 (.t 3),some (133,true)⟩,
 .one ⟨some 135,.mv (.t 13),some (133,true)⟩,
 .one ⟨some 136,.mv (.t 14),some (133,true)⟩,
 .one ⟨some 137,.call [] (.c (.func 60 [])) [(.t 134),(.t 135),(.t 136)],some (133,true)⟩,
 .one ⟨some 138,.bin .geq (.t 137) (.c (.int .i64 0)),some (133,true)⟩,
 zo 139 (.pick (.t 133) (.t 138) (.c (.bool false))),
 zm 140 139,
 .one ⟨some 141,.mv (.t 15),some (140,true)⟩,
 .one ⟨some 142,.len 0 (.t 141),some (140,true)⟩,
 .one ⟨some 143,.bin .lss (.t 142) (.c (.int .i64 6)),some (140,true)⟩,
 zo 144 (.pick (.t 140) (.t 143) (.c (.bool false))),
 zm 145 144,
 .one ⟨some 146,.fieldA 2 (.t 1),some (145,true)⟩,
 .one ⟨some 147,.load1 (.t 146),some (145,true)⟩,
 .one ⟨some 148,.mv (.t 12),some (145,true)⟩,
 .one ⟨some 149,.mv (.t 13),some (145,true)⟩,
 .one ⟨some 150,.bin .add (.t 148) (.t 149),some (145,true)⟩,
 .one ⟨some 151,.mv (.t 14),some (145,true)⟩,
 .one ⟨some 152,.bin .add (.t 150) (.t 151),some (145,true)⟩,
 .one ⟨some 153,.call [] (.c (.func 61 [])) [(.t 147),(.t 152)],some (145,true)⟩,
 zo 154 (.pick (.t 145) (.t 153) (.c (.bool false)))]
def c15k10:ICode:=.kill 164 qq52 (.ops c15r10)
def c15s11:ICode:=(.seq c15k10 c15s9)
def c15r12:List Seg:=[
 zo 119 (.fieldA 2 (.t 3)),
 zo 120 (.load1 (.t 119)),
 zm 15 120]
def c15k12:ICode:=.kill 164 qq53 (.ops c15r12)
def c15s13:ICode:=(.seq (.block 9 (.seq c15k12 c15s11)) c15k7)
def c15s14:ICode:=(.cond (.t 116) .skip (.exit 8))
def c15r15:List Seg:=[
 zm 113 14,
 zo 114 (.fieldA 0 (.t 3)),
 zo 115 (.load1 (.t 114)),
 zo 116 (.bin .lss (.t 113) (.t 115))]
def c15k15:ICode:=.kill 164 qq53 (.ops c15r15)
def c15l6:ICode:=(.seq (.seq c15k15 c15s14) c15s13)
def c15s16:ICode:=(.block 8 (.loop c15l6))
def c15r17:List Seg:=[
 zm 111 13,
 zo 112 (.bin .add (.t 111) (.c (.int .i64 1))),
 zm 14 112]
def c15k17:ICode:=.kill 164 qq54 (.ops c15r17)
def c15s18:ICode:=(.seq (.block 7 (.seq c15k17 c15s16)) c15k5)
def c15s19:ICode:=(.cond (.t 108) .skip (.exit 6))
def c15r20:List Seg:=[
 zm 105 13,
 zo 106 (.fieldA 0 (.t 3)),
 zo 107 (.load1 (.t 106)),
 zo 108 (.bin .lss (.t 105) (.t 107))]
def c15k20:ICode:=.kill 164 qq54 (.ops c15r20)
def c15l4:ICode:=(.seq (.seq c15k20 c15s19) c15s18)
def c15s21:ICode:=(.block 6 (.loop c15l4))
def c15r22:List Seg:=[
 zm 103 12,
 zo 104 (.bin .add (.t 103) (.c (.int .i64 1))),
 zm 13 104]
def c15k22:ICode:=.kill 164 qq55 (.ops c15r22)
def c15s23:ICode:=(.seq (.block 5 (.seq c15k22 c15s21)) c15k3)
def c15s24:ICode:=(.cond (.t 100) .skip (.exit 4))
def c15r25:List Seg:=[
 zm 97 12,
 zo 98 (.fieldA 0 (.t 3)),
 zo 99 (.load1 (.t 98)),
 zo 100 (.bin .lss (.t 97) (.t 99))]
def c15k25:ICode:=.kill 164 qq55 (.ops c15r25)
def c15l2:ICode:=(.seq (.seq c15k25 c15s24) c15s23)
def c15s26:ICode:=(.block 4 (.loop c15l2))
def c15r27:List Seg:=[
 zo 12 (.mv (.c (.int .i64 0)))]
def c15k27:ICode:=.kill 164 qq72 (.ops c15r27)
def c15s28:ICode:=(.seq (.seq c15k27 c15s26) c15s1)
def c15r30:List Seg:=[
 zm 81 10,
 zo 82 (.bin .add (.t 81) (.c (.int .i64 1))),
 zm 10 82]
def c15k30:ICode:=.kill 164 qq57 (.ops c15r30)
def c15r31:List Seg:=[
 zm 88 11,
 zm 89 10,
 zo 90 (.bin .quo (.t 89) (.c (.int .i64 6))),
 zm 91 10,
 zo 92 (.bin .rem (.t 91) (.c (.int .i64 6))),
 zo 93 (.mkagg [.int .i64 0,.int .i64 0] [(0,1,(.t 90)),(1,1,(.t 92))]),
 zo 94 (.mkslice 1 [.int .i64 0,.int .i64 0] [(0,2,(.t 93))]),
 zo 95 (.app 2 16 (.t 88) (.t 94)),
 zo 96 (.fieldA 1 (.t 3)),
 .one ⟨none,.store1 (.t 96) (.t 95),none⟩]
def c15k31:ICode:=.kill 164 qq56 (.ops c15r31)
def c15s32:ICode:=(.cond (.t 87) c15k31 .skip)
def c15r33:List Seg:=[
 zm 85 10,
 zo 86 (.idxA 36 1 (.t 4) (.t 85)),
 zo 87 (.load1 (.t 86))]
def c15k33:ICode:=.kill 164 qq56 (.ops c15r33)
def c15s34:ICode:=(.seq c15k33 c15s32)
def c15r35:List Seg:=[
 zo 83 (.fieldA 1 (.t 3)),
 zo 84 (.load1 (.t 83)),
 zm 11 84]
def c15k35:ICode:=.kill 164 qq57 (.ops c15r35)
def c15s36:ICode:=(.seq (.block 3 (.seq c15k35 c15s34)) c15k30)
def c15s37:ICode:=(.cond (.t 80) .skip (.exit 2))
def c15r38:List Seg:=[
 zm 79 10,
 zo 80 (.bin .lss (.t 79) (.c (.int .i64 36)))]
def c15k38:ICode:=.kill 164 qq57 (.ops c15r38)
def c15l29:ICode:=(.seq (.seq c15k38 c15s37) c15s36)
def c15s39:ICode:=(.block 2 (.loop c15l29))
def c15r40:List Seg:=[
 zo 10 (.mv (.c (.int .i64 0)))]
def c15k40:ICode:=.kill 164 qq63 (.ops c15r40)
def c15s41:ICode:=(.seq (.seq c15k40 c15s39) c15s28)
def c15r43:List Seg:=[
 zm 32 6,
 zo 33 (.bin .add (.t 32) (.c (.int .i64 1))),
 zm 6 33]
def c15k43:ICode:=.kill 164 qq61 (.ops c15r43)
def c15r44:List Seg:=[
 zm 77 5,
 zo 78 (.bin .add (.t 77) (.c (.int .i64 1))),
 zm 5 78]
def c15k44:ICode:=.kill 164 qq61 (.ops c15r44)
def c15r45:List Seg:=[
 zm 75 9,
 zo 76 (.idxA 36 1 (.t 4) (.t 75)),
 .one ⟨none,.store1 (.t 76) (.c (.bool true)),none⟩]
def c15k45:ICode:=.kill 164 qq60 (.ops c15r45)
def c15s46:ICode:=(.cond (.t 74) (.seq c15k45 c15k44) .skip)
def c15r47:List Seg:=[
 zm 66 7,
 zm 67 8,
 zo 68 (.bin .neq (.t 66) (.t 67)),
 zm 69 68,
 .one ⟨some 70,.mv (.t 9),some (69,true)⟩,
 .one ⟨some 71,.idxA 36 1 (.t 4) (.t 70),some (69,true)⟩,
 .one ⟨some 72,.load1 (.t 71),some (69,true)⟩,
 .one ⟨some 73,.un .not (.t 72),some (69,true)⟩,
 zo 74 (.pick (.t 69) (.t 73) (.c (.bool false)))]
def c15k47:ICode:=.kill 164 qq58 (.ops c15r47)
def c15s48:ICode:=(.seq c15k47 c15s46)
def c15r49:List Seg:=[
 zm 58 7,
 zm 59 8,
 zo 60 (.mn [(.t 58),(.t 59)]),
 zo 61 (.bin .mul (.t 60) (.c (.int .i64 6))),
 zm 62 7,
 zm 63 8,
 zo 64 (.mx [(.t 62),(.t 63)]),
 zo 65 (.bin .add (.t 61) (.t 64)),
 zm 9 65]
def c15k49:ICode:=.kill 164 qq59 (.ops c15r49)
def c15s50:ICode:=(.seq c15k49 c15s48)
def c15r51:List Seg:=[
 .grp [(zp 34 (.fieldA 1 (.t 1)),0),(zp 35 (.load1 (.t 34)),1),(zn 36 6,0),(zp 37 (.idxS 2 (.t 35) (.t 36)),7),(zp 38 (.idxA 2 1 (.t 37) (.c (.int .i64 0))),15),(zp 39 (.load1 (.t 38)),31),(zp 40 (.conv .u64 (.t 39)),63),(zp 41 (.fieldA 0 (.t 3)),0),(zp 42 (.load1 (.t 41)),128),(zp 43 (.conv .u64 (.t 42)),384),(zp 44 (.bin .rem (.t 40) (.t 43)),1023),(zp 45 (.conv .i64 (.t 44)),2047),(zp 46 (.fieldA 1 (.t 1)),0),(zp 47 (.load1 (.t 46)),4096),(zn 48 6,0),(zp 49 (.idxS 2 (.t 47) (.t 48)),28672),(zp 50 (.idxA 2 1 (.t 49) (.c (.int .i64 1))),61440),(zp 51 (.load1 (.t 50)),126976),(zp 52 (.conv .u64 (.t 51)),258048),(zp 53 (.fieldA 0 (.t 3)),0),(zp 54 (.load1 (.t 53)),524288),(zp 55 (.conv .u64 (.t 54)),1572864),(zp 56 (.bin .rem (.t 52) (.t 55)),4190208),(zp 57 (.conv .i64 (.t 56)),8384512),(zn 7 45,4095)],
 zm 8 57]
def c15k51:ICode:=.kill 164 qq61 (.ops c15r51)
def c15s52:ICode:=(.seq (.block 1 (.seq c15k51 c15s50)) c15k43)
def c15s53:ICode:=(.cond (.t 31) .skip (.exit 0))
def c15r54:List Seg:=[
 zm 23 6,
 zo 24 (.fieldA 1 (.t 1)),
 zo 25 (.load1 (.t 24)),
 zo 26 (.len 0 (.t 25)),
 zo 27 (.bin .lss (.t 23) (.t 26)),
 zm 28 27,
 .one ⟨some 29,.mv (.t 5),some (28,true)⟩,
 .one ⟨some 30,.bin .lss (.t 29) (.c (.int .i64 10)),some (28,true)⟩,
 zo 31 (.pick (.t 28) (.t 30) (.c (.bool false)))]
def c15k54:ICode:=.kill 164 qq61 (.ops c15r54)
def c15l42:ICode:=(.seq (.seq c15k54 c15s53) c15s52)
def c15s55:ICode:=(.block 0 (.loop c15l42))
def c15r56:List Seg:=[
 zo 6 (.mv (.c (.int .i64 0)))]
def c15k56:ICode:=.kill 164 qq62 (.ops c15r56)
def c15s57:ICode:=(.seq (.seq c15k56 c15s55) c15s41)
def c15r58:List Seg:=[
 zo 5 (.mv (.c (.int .i64 0)))]
def c15k58:ICode:=.kill 164 qq63 (.ops c15r58)
def c15s59:ICode:=(.seq c15k58 c15s57)
def c15r60:List Seg:=[
 zo 4 (.box (.c (.agg (List.replicate 36 (.bool false)))))]
def c15k60:ICode:=.kill 164 qq72 (.ops c15r60)
def c15s61:ICode:=(.seq c15k60 c15s59)
def c15r62:List Seg:=[
 zo 16 (.fieldA 0 (.t 1)),
 zo 17 (.load1 (.t 16)),
 zo 18 (.conv .u64 (.t 17)),
 zo 19 (.bin .rem (.t 18) (.c (.int .u64 6))),
 zo 20 (.conv .i64 (.t 19)),
 zo 21 (.bin .add (.c (.int .i64 1)) (.t 20)),
 zo 22 (.mkagg [.int .i64 0,.nilslice,.nilslice] [(0,1,(.t 21))]),
 zo 3 (.box (.c (.agg [.int .i64 0,.nilslice,.nilslice]))),
 .one ⟨none,.storeN 3 (.t 3) (.t 22),none⟩]
def c15k62:ICode:=.kill 164 qq100 (.ops c15r62)
def c15s63:ICode:=(.seq c15k62 c15s61)
def c15r64:List Seg:=[
 zo 1 (.box (.t 0)),
 zo 2 (.box (.c (.agg [.int .i64 0,.nilslice,.nilslice])))]
def c15k64:ICode:=.kill 164 [0] (.ops c15r64)
def c15b:ICode:=(.seq c15k64 c15s63)
def c15:IFn:=⟨164,[.cellN 2 3],c15b⟩
def h15:List (Nat×Nat×List Nat):=[(0,(164,[0])),(1,(164,[1,2])),(2,(164,[1,2,3])),(3,(164,[1,2,3,4])),(4,(164,[1,2,3,4,5])),(5,(164,[1,2,3,4,5,6])),(7,(164,[1,2,3,4,5,6])),(8,(164,[1,2,3,4,5,6,7,8])),(9,(164,[1,2,3,4,5,6,7,8,9])),(10,(164,[1,2,3,4,5,6,9])),(11,(164,[1,2,3,4,5,6])),(6,(164,[1,2,3,4,5,6])),(12,(164,[1,2,3,4])),(13,(164,[1,2,3,4,10])),(15,(164,[1,2,3,4,10])),(16,(164,[1,2,3,4,10,11])),(17,(164,[1,2,3,4,10,11])),(14,(164,[1,2,3,4,10])),(18,(164,[1,2,3])),(19,(164,[1,2,3,12])),(21,(164,[1,2,3,12])),(22,(164,[1,2,3,12,13])),(24,(164,[1,2,3,12,13])),(25,(164,[1,2,3,12,13,14])),(27,(164,[1,2,3,12,13,14])),(28,(164,[1,2,3,12,13,14,15])),(29,(164,[1,2,3,12,13,14,15])),(26,(164,[1,2,3,12,13,14])),(23,(164,[1,2,3,12,13])),(20,(164,[1,2,3,12])),(30,(164,[2,3]))]
def c16r0:List Seg:=[
 zo 77 (.fieldA 1 (.t 1)),
 zo 78 (.load1 (.t 77)),
 zo 79 (.len 0 (.t 78)),
 zo 80 (.fieldA 0 (.t 1)),
 zo 81 (.load1 (.t 80)),
 zm 82 14,
 zo 83 (.bin .sub (.t 81) (.t 82)),
 zo 84 (.bin .sub (.t 79) (.t 83)),
 zm 85 11,
 zo 86 (.bin .sub (.t 84) (.t 85)),
 zm 2 86,
 zo 3 (.mv (.c (.int .i64 0)))]
def c16k0:ICode:=.kill 87 qq49 (.ops c16r0)
def c16s1:ICode:=(.seq c16k0 .ret)
def c16r2:List Seg:=[
 zo 73 (.loadN 3 (.t 1)),
 zo 74 (.call [] (.c (.func 50 [])) [(.t 73)]),
 zm 72 74,
 zo 75 (.ext (.t 72) 0),
 zo 76 (.ext (.t 72) 1),
 zm 14 75,
 zm 15 76]
def c16k2:ICode:=.kill 87 qq51 (.ops c16r2)
def c16s3:ICode:=(.seq c16k2 c16s1)
def c16r5:List Seg:=[
 zo 71 (.bin .add (.t 63) (.c (.int .i64 1))),
 zm 63 71]
def c16k5:ICode:=.kill 87 qq50 (.ops c16r5)
def c16r6:List Seg:=[
 zm 69 11,
 zo 70 (.bin .add (.t 69) (.c (.int .i64 1))),
 zm 11 70]
def c16k6:ICode:=.kill 87 qq50 (.ops c16r6)
def c16s7:ICode:=(.cond (.t 68) c16k6 .skip)
def c16r8:List Seg:=[
 zm 67 13,
 zo 68 (.bin .geq (.t 67) (.c (.int .i64 0)))]
def c16k8:ICode:=.kill 87 qq48 (.ops c16r8)
def c16s9:ICode:=(.seq c16k8 c16s7)
def c16r10:List Seg:=[
 zo 65 (.idxS 1 (.t 61) (.t 63)),
 zo 66 (.load1 (.t 65)),
 zm 13 66]
def c16k10:ICode:=.kill 87 qq50 (.ops c16r10)
def c16s11:ICode:=(.seq (.block 7 (.seq c16k10 c16s9)) c16k5)
def c16s12:ICode:=(.seq (.cond (.t 64) .skip (.exit 6)) c16s11)
def c16r13:List Seg:=[
 zo 64 (.bin .lss (.t 63) (.t 62))]
def c16k13:ICode:=.kill 87 qq50 (.ops c16r13)
def c16l4:ICode:=(.seq c16k13 c16s12)
def c16s14:ICode:=(.block 6 (.loop c16l4))
def c16r15:List Seg:=[
 zm 56 5,
 zo 57 (.fieldA 1 (.t 1)),
 zo 58 (.load1 (.t 57)),
 zo 59 (.len 0 (.t 58)),
 zo 60 (.loadN 2 (.c (.ptr 0 0))),
 zo 61 (.call [] (.c (.func 64 [])) [(.t 56),(.t 59),(.t 60)]),
 zo 62 (.len 0 (.t 61)),
 zo 63 (.mv (.c (.int .i64 0)))]
def c16k15:ICode:=.kill 87 qq113 (.ops c16r15)
def c16s16:ICode:=(.seq (.seq c16k15 c16s14) c16s3)
def c16r17:List Seg:=[
 zo 11 (.mv (.c (.int .i64 0)))]
def c16k17:ICode:=.kill 87 qq119 (.ops c16r17)
def c16s18:ICode:=(.seq c16k17 c16s16)
def c16r20:List Seg:=[
 zo 55 (.bin .add (.t 24) (.c (.int .i64 1))),
 zm 24 55]
def c16k20:ICode:=.kill 87 qq64 (.ops c16r20)
def c16r21:List Seg:=[
 zm 51 5,
 zo 52 (.load1 (.t 7)),
 zo 53 (.mkslice 1 [.nilslice] [(0,1,(.t 52))]),
 zo 54 (.app 1 24 (.t 51) (.t 53)),
 zm 5 54]
def c16k21:ICode:=.kill 87 qq69 (.ops c16r21)
def c16r23:List Seg:=[
 .grp [(zp 46 (.load1 (.t 7)),0),(zn 47 9,0),(zn 48 10,0),(zp 49 (.call [] (.c (.func 63 [])) [(.t 48)]),4)],
 zo 50 (.idxS 2 (.t 46) (.t 47)),
 .one ⟨none,.storeN 2 (.t 50) (.t 49),none⟩]
def c16k23:ICode:=.kill 87 qq159 (.ops c16r23)
def c16r24:List Seg:=[
 zm 10 45]
def c16k24:ICode:=.kill 87 qq160 (.ops c16r24)
def c16r25:List Seg:=[
 zm 9 44]
def c16k25:ICode:=.kill 87 qq158 (.ops c16r25)
def c16f22a:ICode:=(.seq c16k25 c16k24)
def c16f22b:ICode:=(.block 5 c16k23)
def c16s26:ICode:=(.block 4 (.rf (.t 43) [44,45] c16f22a c16f22b))
def c16r27:List Seg:=[
 zo 41 (.loadN 3 (.t 1)),
 zm 42 6,
 zo 43 (.call [] (.c (.func 62 [])) [(.t 41),(.t 42)])]
def c16k27:ICode:=.kill 87 qq67 (.ops c16r27)
def c16s28:ICode:=(.seq (.seq c16k27 c16s26) c16k21)
def c16r30:List Seg:=[
 zo 40 (.bin .add (.t 33) (.c (.int .i64 1))),
 zm 33 40]
def c16k30:ICode:=.kill 87 qq66 (.ops c16r30)
def c16r31:List Seg:=[
 zo 36 (.load1 (.t 7)),
 zm 37 8,
 zo 38 (.loadN 2 (.c (.ptr 0 0))),
 zo 39 (.idxS 2 (.t 36) (.t 37)),
 .one ⟨none,.storeN 2 (.t 39) (.t 38),none⟩]
def c16k31:ICode:=.kill 87 qq68 (.ops c16r31)
def c16r32:List Seg:=[
 zm 35 33,
 zm 8 35]
def c16k32:ICode:=.kill 87 qq66 (.ops c16r32)
def c16s33:ICode:=(.seq (.block 3 (.seq c16k32 c16k31)) c16k30)
def c16s34:ICode:=(.seq (.cond (.t 34) .skip (.exit 2)) c16s33)
def c16r35:List Seg:=[
 zo 34 (.bin .lss (.t 33) (.t 32))]
def c16k35:ICode:=.kill 87 qq66 (.ops c16r35)
def c16l29:ICode:=(.seq c16k35 c16s34)
def c16s36:ICode:=(.block 2 (.loop c16l29))
def c16r37:List Seg:=[
 zo 31 (.load1 (.t 7)),
 zo 32 (.len 0 (.t 31)),
 zo 33 (.mv (.c (.int .i64 0)))]
def c16k37:ICode:=.kill 87 qq67 (.ops c16r37)
def c16s38:ICode:=(.seq (.seq c16k37 c16s36) c16s28)
def c16r39:List Seg:=[
 zo 27 (.fieldA 1 (.t 1)),
 zo 28 (.load1 (.t 27)),
 zo 29 (.len 0 (.t 28)),
 zo 30 (.make [.int .i64 0,.int .i64 0] 16 (.t 29) (.t 29)),
 zo 7 (.box (.c .nilslice)),
 .one ⟨none,.store1 (.t 7) (.t 30),none⟩]
def c16k39:ICode:=.kill 87 qq65 (.ops c16r39)
def c16s40:ICode:=(.seq c16k39 c16s38)
def c16r41:List Seg:=[
 zm 26 24,
 zm 6 26]
def c16k41:ICode:=.kill 87 qq64 (.ops c16r41)
def c16s42:ICode:=(.seq (.block 1 (.seq c16k41 c16s40)) c16k20)
def c16s43:ICode:=(.seq (.cond (.t 25) .skip (.exit 0)) c16s42)
def c16r44:List Seg:=[
 zo 25 (.bin .lss (.t 24) (.t 23))]
def c16k44:ICode:=.kill 87 qq64 (.ops c16r44)
def c16l19:ICode:=(.seq c16k44 c16s43)
def c16s45:ICode:=(.block 0 (.loop c16l19))
def c16r46:List Seg:=[
 zo 21 (.fieldA 2 (.t 1)),
 zo 22 (.load1 (.t 21)),
 zo 23 (.len 0 (.t 22)),
 zo 24 (.mv (.c (.int .i64 0)))]
def c16k46:ICode:=.kill 87 qq70 (.ops c16r46)
def c16s47:ICode:=(.seq (.seq c16k46 c16s45) c16s18)
def c16r48:List Seg:=[
 zo 5 (.mv (.c .nilslice))]
def c16k48:ICode:=.kill 87 qq72 (.ops c16r48)
def c16s49:ICode:=(.seq c16k48 c16s47)
def c16r50:List Seg:=[
 zm 20 4,
 zo 2 (.mv (.c (.int .i64 0))),
 zm 3 20]
def c16k50:ICode:=.kill 87 [4] (.ops c16r50)
def c16s51:ICode:=(.cond (.t 19) (.seq c16k50 .ret) .skip)
def c16r52:List Seg:=[
 zm 18 4,
 zo 19 (.bin .neq (.t 18) (.c (.int .i64 0)))]
def c16k52:ICode:=.kill 87 qq63 (.ops c16r52)
def c16s53:ICode:=(.seq c16k52 c16s51)
def c16r54:List Seg:=[
 zo 16 (.loadN 3 (.t 1)),
 zo 17 (.call [] (.c (.func 59 [])) [(.t 16)]),
 zm 4 17]
def c16k54:ICode:=.kill 87 qq72 (.ops c16r54)
def c16s55:ICode:=(.seq (.seq c16k54 c16s53) c16s49)
def c16r56:List Seg:=[
 zo 1 (.box (.t 0)),
 zo 2 (.mv (.c (.int .i64 0))),
 zo 3 (.mv (.c (.int .i64 0)))]
def c16k56:ICode:=.kill 87 [0] (.ops c16r56)
def c16b:ICode:=(.seq c16k56 c16s55)
def c16:IFn:=⟨87,[.t 2,.t 3],c16b⟩
def h16:List (Nat×Nat×List Nat):=[(0,(87,[0])),(1,(87,[1,2,3])),(2,(87,[1,2,3,4])),(3,(87,[4])),(4,(87,[1,2,3])),(5,(87,[1,2,3,5])),(6,(87,[1,2,3,5,23,24])),(7,(87,[1,2,3,5,23,24])),(8,(87,[1,2,3,5,6,23,24])),(9,(87,[1,2,3,5,6,7,23,24])),(10,(87,[1,2,3,5,6,7,23,24,32,33])),(11,(87,[1,2,3,5,6,7,23,24,32,33])),(12,(87,[1,2,3,5,6,7,8,23,24,32,33])),(13,(87,[1,2,3,5,6,7,23,24,32,33])),(14,(87,[1,2,3,5,6,7,23,24])),(15,(87,[7,44,45])),(16,(87,[7,9,45])),(17,(87,[7,9,10])),(18,(87,[1,2,3,5,7,23,24])),(19,(87,[1,2,3,5,23,24])),(20,(87,[1,5])),(21,(87,[1,5,11])),(22,(87,[1,11,61,62,63])),(23,(87,[1,11,61,62,63])),(24,(87,[1,11,13,61,62,63])),(25,(87,[1,11,61,62,63])),(26,(87,[1,11,61,62,63])),(27,(87,[1,11])),(28,(87,[1,11,14]))]
def c17r0:List Seg:=[
 .grp [(zp 5 (.fieldA 0 (.t 1)),0),(zp 6 (.load1 (.t 5)),1),(zn 7 3,0),(zp 8 (.fieldA 1 (.t 1)),0),(zp 9 (.load1 (.t 8)),8),(zp 10 (.app 2 16 (.t 7) (.t 9)),28),(zn 11 4,0),(zp 12 (.fieldA 2 (.t 1)),0),(zp 13 (.load1 (.t 12)),128),(zp 14 (.app 3 24 (.t 11) (.t 13)),508)],
 zo 15 (.mkagg [.int .i64 0,.nilslice,.nilslice] [(0,1,(.t 6)),(1,1,(.t 10)),(2,1,(.t 14))]),
 .one ⟨none,.storeN 3 (.t 2) (.t 15),none⟩]
def c17k0:ICode:=.kill 16 qq63 (.ops c17r0)
def c17s1:ICode:=(.seq c17k0 .ret)
def c17r2:List Seg:=[
 zo 4 (.mv (.c .nilslice))]
def c17k2:ICode:=.kill 16 qq72 (.ops c17r2)
def c17s3:ICode:=(.seq c17k2 c17s1)
def c17r4:List Seg:=[
 zo 3 (.mv (.c .nilslice))]
def c17k4:ICode:=.kill 16 qq100 (.ops c17r4)
def c17s5:ICode:=(.seq c17k4 c17s3)
def c17r6:List Seg:=[
 zo 1 (.box (.t 0)),
 zo 2 (.box (.c (.agg [.int .i64 0,.nilslice,.nilslice])))]
def c17k6:ICode:=.kill 16 [0] (.ops c17r6)
def c17b:ICode:=(.seq c17k6 c17s5)
def c17:IFn:=⟨16,[.cellN 2 3],c17b⟩
def h17:List (Nat×Nat×List Nat):=[(0,(16,[0])),(1,(16,[1,2])),(2,(16,[1,2,3])),(3,(16,[1,2,3,4]))]
def c18r0:List Seg:=[
 .grp [(zp 14 (.fieldA 1 (.t 1)),0),(zp 15 (.load1 (.t 14)),1),(zp 16 (.len 0 (.t 15)),3),(zp 17 (.fieldA 0 (.t 1)),0),(zp 18 (.load1 (.t 17)),8),(zp 19 (.loadN 3 (.t 1)),0),(zp 20 (.call [] (.c (.func 56 [])) [(.t 19)]),32),(zp 21 (.bin .sub (.t 18) (.t 20)),120),(zp 22 (.bin .sub (.t 16) (.t 21)),255),(zn 23 4,0)],
 zo 24 (.bin .sub (.t 22) (.t 23)),
 zm 2 24]
def c18k0:ICode:=.kill 25 qq112 (.ops c18r0)
def c18s1:ICode:=(.seq c18k0 .ret)
def c18r2:List Seg:=[
 .grp [(zp 6 (.loadN 3 (.t 1)),0),(zp 7 (.fieldA 1 (.t 1)),0),(zp 8 (.load1 (.t 7)),2),(zp 9 (.len 0 (.t 8)),6),(zp 10 (.make [.int .i64 0] 8 (.t 9) (.t 9)),14)],
 zo 11 (.call [] (.c (.func 65 [])) [(.t 6),(.t 10)]),
 zm 5 11,
 .grp [(zp 12 (.ext (.t 5) 0),0),(zp 13 (.ext (.t 5) 1),0),(zn 3 12,1)],
 zm 4 13]
def c18k2:ICode:=.kill 25 [1] (.ops c18r2)
def c18s3:ICode:=(.seq c18k2 c18s1)
def c18r4:List Seg:=[
 zo 1 (.box (.t 0)),
 zo 2 (.mv (.c (.int .i64 0)))]
def c18k4:ICode:=.kill 25 [0] (.ops c18r4)
def c18b:ICode:=(.seq c18k4 c18s3)
def c18:IFn:=⟨25,[.t 2],c18b⟩
def h18:List (Nat×Nat×List Nat):=[(0,(25,[0])),(1,(25,[1])),(2,(25,[1,4]))]
def c19r0:List Seg:=[
 zm 62 3,
 zo 63 (.bin .eql (.t 62) (.c (.int .i64 0))),
 zm 64 63,
 .one ⟨some 65,.idxA 3 1 (.t 2) (.c (.int .i64 0)),some (64,true)⟩,
 .one ⟨some 66,.load1 (.t 65),some (64,true)⟩,
 .one ⟨some 67,.mkagg [.int .i64 0,.int .i64 0] [(0,1,(.c (.int .i64 2))),(1,1,(.c (.int .i64 3)))],some (64,true)⟩,
 .one ⟨some 68,.mkagg [.int .i64 0,.int .i64 0] [(0,1,(.c (.int .i64 4))),(1,1,(.c (.int .i64 3)))],some (64,true)⟩,
 .one ⟨some 69,.mkagg [.int .i64 0,.int .i64 0] [(0,1,(.c (.int .i64 2))),(1,1,(.c (.int .i64 3)))],some (64,true)⟩,
 .one ⟨some 70,.mkslice 3 [.int .i64 0,.int .i64 0,.int .i64 0,.int .i64 0,.int .i64 0,.int .i64 0] [(0,2,(.t 67)),(2,2,(.t 68)),(4,2,(.t 69))],some (64,true)⟩,
 .one ⟨some 71,.call [] (.c (.func 28 [])) [(.t 66),(.t 70)],some (64,true)⟩,
 zo 72 (.pick (.t 64) (.t 71) (.c (.bool false))),
 zm 73 72,
 .one ⟨some 74,.idxA 3 1 (.t 2) (.c (.int .i64 2)),some (73,true)⟩,
 .one ⟨some 75,.load1 (.t 74),some (73,true)⟩,
 .one ⟨some 76,.mkagg [.int .i64 0,.int .i64 0] [(0,1,(.c (.int .i64 1))),(1,1,(.c (.int .i64 3)))],some (73,true)⟩,
 .one ⟨some 77,.mkagg [.int .i64 0,.int .i64 0] [(0,1,(.c (.int .i64 (-1)))),(1,1,(.c (.int .i64 3)))],some (73,true)⟩,
 .one ⟨some 78,.mkagg [.int .i64 0,.int .i64 0] [(0,1,(.c (.int .i64 1))),(1,1,(.c (.int .i64 3)))],some (73,true)⟩,
 .one ⟨some 79,.mkslice 3 [.int .i64 0,.int .i64 0,.int .i64 0,.int .i64 0,.int .i64 0,.int .i64 0] [(0,2,(.t 76)),(2,2,(.t 77)),(4,2,(.t 78))],some (73,true)⟩,
 .one ⟨some 80,.call [] (.c (.func 28 [])) [(.t 75),(.t 79)],some (73,true)⟩,
 zo 81 (.pick (.t 73) (.t 80) (.c (.bool false))),
 zm 82 81,
 .one ⟨some 83,.mv (.t 6),some (82,true)⟩,
 .one ⟨some 84,.bin .eql (.t 83) (.c (.int .i64 0)),some (82,true)⟩,
 zo 85 (.pick (.t 82) (.t 84) (.c (.bool false))),
 zm 86 85,
 .one ⟨some 87,.mv (.t 5),some (86,true)⟩,
 .one ⟨some 88,.un .not (.t 87),some (86,true)⟩,
 zo 89 (.pick (.t 86) (.t 88) (.c (.bool false))),
 zm 90 89,
 .one ⟨some 91,.mv (.t 9),some (90,true)⟩,
 .one ⟨some 92,.bin .eql (.t 91) (.c (.int .i64 0)),some (90,true)⟩,
 zo 93 (.pick (.t 90) (.t 92) (.c (.bool false))),
 zm 94 93,
 .one ⟨some 95,.mv (.t 8),some (94,true)⟩,
 zo 96 (.pick (.t 94) (.t 95) (.c (.bool false))),
 zm 97 96,
 .one ⟨some 98,.mv (.t 7),some (97,true)⟩,
 .one ⟨some 99,.mkslice 2 [.int .i64 0,.int .i64 0] [(0,1,(.c (.int .i64 0))),(1,1,(.c (.int .i64 7)))],some (97,true)⟩,
 .one ⟨some 100,.call [] (.c (.func 27 [])) [(.t 98),(.t 99)],some (97,true)⟩,
 zo 101 (.pick (.t 97) (.t 100) (.c (.bool false))),
 zm 102 101,
 .one ⟨some 103,.mv (.t 11),some (102,true)⟩,
 .one ⟨some 104,.bin .eql (.t 103) (.c (.int .i64 0)),some (102,true)⟩,
 zo 105 (.pick (.t 102) (.t 104) (.c (.bool false))),
 zm 106 105,
 .one ⟨some 107,.mv (.t 10),some (106,true)⟩,
 .one ⟨some 108,.bin .eql (.t 107) (.c (.int .i64 1)),some (106,true)⟩,
 zo 109 (.pick (.t 106) (.t 108) (.c (.bool false))),
 zm 110 109,
 .one ⟨some 111,.mv (.t 14),some (110,true)⟩,
 .one ⟨some 112,.bin .eql (.t 111) (.c (.int .i64 0)),some (110,true)⟩,
 zo 113 (.pick (.t 110) (.t 112) (.c (.bool false))),
 zm 114 113,
 .one ⟨some 115,.mv (.t 13),some (114,true)⟩,
 .one ⟨some 116,.bin .eql (.t 115) (.c (.int .i64 0)),some (114,true)⟩,
 zo 117 (.pick (.t 114) (.t 116) (.c (.bool false))),
 zm 118 117,
 .one ⟨some 119,.mkagg [.int .i64 0,.nilslice,.nilslice] [],some (118,true)⟩,
 .one ⟨some 120,.call [] (.c (.func 59 [])) [(.t 119)],some (118,true)⟩,
 .one ⟨some 121,.bin .eql (.t 120) (.c (.int .i64 30)),some (118,true)⟩,
 zo 122 (.pick (.t 118) (.t 121) (.c (.bool false))),
 zm 0 122]
def c19k0:ICode:=.kill 123 [2,3,5,6,7,8,9,10,11,13,14] (.ops c19r0)
def c19s1:ICode:=(.seq c19k0 .ret)
def c19r2:List Seg:=[
 zo 58 (.loadN 3 (.t 12)),
 zo 59 (.call [] (.c (.func 16 [])) [(.t 58)]),
 zm 57 59,
 zo 60 (.ext (.t 57) 0),
 zo 61 (.ext (.t 57) 1),
 zm 13 60,
 zm 14 61]
def c19k2:ICode:=.kill 123 [2,3,5,6,7,8,9,10,11,12] (.ops c19r2)
def c19s3:ICode:=(.seq c19k2 c19s1)
def c19r4:List Seg:=[
 zo 52 (.fieldA 1 (.t 1)),
 zo 53 (.load1 (.t 52)),
 zo 54 (.mkagg [.int .i64 0,.int .i64 0,.int .i64 0] [(0,1,(.c (.int .i64 0))),(1,1,(.c (.int .i64 1))),(2,1,(.c (.int .i64 2)))]),
 zo 55 (.mkslice 1 [.int .i64 0,.int .i64 0,.int .i64 0] [(0,3,(.t 54))]),
 zo 56 (.mkagg [.int .i64 0,.nilslice,.nilslice] [(0,1,(.c (.int .i64 3))),(1,1,(.t 53)),(2,1,(.t 55))]),
 zo 12 (.box (.c (.agg [.int .i64 0,.nilslice,.nilslice]))),
 .one ⟨none,.storeN 3 (.t 12) (.t 56),none⟩]
def c19k4:ICode:=.kill 123 [1,2,3,5,6,7,8,9,10,11] (.ops c19r4)
def c19s5:ICode:=(.seq c19k4 c19s3)
def c19r6:List Seg:=[
 zo 43 (.mkagg [.int .i64 0,.int .i64 0] [(0,1,(.c (.int .i64 0))),(1,1,(.c (.int .i64 1)))]),
 zo 44 (.mkagg [.int .i64 0,.int .i64 0] [(0,1,(.c (.int .i64 0))),(1,1,(.c (.int .i64 3)))]),
 zo 45 (.mkagg [.int .i64 0,.int .i64 0] [(0,1,(.c (.int .i64 1))),(1,1,(.c (.int .i64 2)))]),
 zo 46 (.mkagg [.int .i64 0,.int .i64 0] [(0,1,(.c (.int .i64 2))),(1,1,(.c (.int .i64 3)))]),
 zo 47 (.mkslice 4 [.int .i64 0,.int .i64 0,.int .i64 0,.int .i64 0,.int .i64 0,.int .i64 0,.int .i64 0,.int .i64 0] [(0,2,(.t 43)),(2,2,(.t 44)),(4,2,(.t 45)),(6,2,(.t 46))]),
 zo 48 (.mkagg [.int .i64 0,.nilslice,.nilslice] [(0,1,(.c (.int .i64 4))),(1,1,(.t 47))]),
 zo 49 (.call [] (.c (.func 16 [])) [(.t 48)]),
 zm 42 49,
 zo 50 (.ext (.t 42) 0),
 zo 51 (.ext (.t 42) 1),
 zm 10 50,
 zm 11 51]
def c19k6:ICode:=.kill 123 [1,2,3,5,6,7,8,9] (.ops c19r6)
def c19s7:ICode:=(.seq c19k6 c19s5)
def c19r8:List Seg:=[
 zo 34 (.mkagg [.int .i64 0,.int .i64 0] [(0,1,(.c (.int .i64 0))),(1,1,(.c (.int .i64 1)))]),
 zo 35 (.mkslice 1 [.int .i64 0,.int .i64 0] [(0,2,(.t 34))]),
 zo 36 (.mkagg [.int .i64 0,.nilslice,.nilslice] [(0,1,(.c (.int .i64 2))),(1,1,(.t 35))]),
 zo 37 (.mkslice 1 [.int .i64 0] [(0,1,(.c (.int .i64 7)))]),
 zo 38 (.call [] (.c (.func 41 [])) [(.t 36),(.t 37)]),
 zm 33 38,
 zo 39 (.ext (.t 33) 0),
 zo 40 (.ext (.t 33) 1),
 zo 41 (.ext (.t 33) 2),
 zm 7 39,
 zm 8 40,
 zm 9 41]
def c19k8:ICode:=.kill 123 [1,2,3,5,6] (.ops c19r8)
def c19s9:ICode:=(.seq c19k8 c19s7)
def c19r10:List Seg:=[
 zo 27 (.loadN 3 (.t 1)),
 zo 28 (.mkslice 3 [.int .i64 0,.int .i64 0,.int .i64 0] [(0,1,(.c (.int .i64 1))),(1,1,(.c (.int .i64 1))),(2,1,(.c (.int .i64 1)))]),
 zo 29 (.call [] (.c (.func 41 [])) [(.t 27),(.t 28)]),
 zm 26 29,
 zo 30 (.ext (.t 26) 0),
 zo 31 (.ext (.t 26) 1),
 zo 32 (.ext (.t 26) 2),
 zm 4 30,
 zm 5 31,
 zm 6 32]
def c19k10:ICode:=.kill 123 qq72 (.ops c19r10)
def c19s11:ICode:=(.seq c19k10 c19s9)
def c19r12:List Seg:=[
 zo 21 (.loadN 3 (.t 1)),
 zo 22 (.mkslice 3 [.int .i64 0,.int .i64 0,.int .i64 0] [(0,1,(.c (.int .i64 1))),(1,1,(.c (.int .i64 1))),(2,1,(.c (.int .i64 1)))]),
 zo 23 (.call [] (.c (.func 23 [])) [(.t 21),(.t 22)]),
 zm 20 23,
 zo 24 (.ext (.t 20) 0),
 zo 25 (.ext (.t 20) 1),
 zo 2 (.box (.c (.agg [.nilslice,.nilslice,.nilslice]))),
 .one ⟨none,.storeN 3 (.t 2) (.t 24),none⟩,
 zm 3 25]
def c19k12:ICode:=.kill 123 [1] (.ops c19r12)
def c19s13:ICode:=(.seq c19k12 c19s11)
def c19r14:List Seg:=[
 zo 15 (.mkagg [.int .i64 0,.int .i64 0] [(0,1,(.c (.int .i64 0))),(1,1,(.c (.int .i64 1)))]),
 zo 16 (.mkagg [.int .i64 0,.int .i64 0] [(0,1,(.c (.int .i64 0))),(1,1,(.c (.int .i64 2)))]),
 zo 17 (.mkagg [.int .i64 0,.int .i64 0] [(0,1,(.c (.int .i64 1))),(1,1,(.c (.int .i64 2)))]),
 zo 18 (.mkslice 3 [.int .i64 0,.int .i64 0,.int .i64 0,.int .i64 0,.int .i64 0,.int .i64 0] [(0,2,(.t 15)),(2,2,(.t 16)),(4,2,(.t 17))]),
 zo 19 (.mkagg [.int .i64 0,.nilslice,.nilslice] [(0,1,(.c (.int .i64 3))),(1,1,(.t 18))]),
 zo 1 (.box (.c (.agg [.int .i64 0,.nilslice,.nilslice]))),
 .one ⟨none,.storeN 3 (.t 1) (.t 19),none⟩]
def c19k14:ICode:=.kill 123 [] (.ops c19r14)
def c19s15:ICode:=(.seq c19k14 c19s13)
def c19r16:List Seg:=[
 zo 0 (.mv (.c (.bool false)))]
def c19k16:ICode:=.kill 123 [] (.ops c19r16)
def c19b:ICode:=(.seq c19k16 c19s15)
def c19:IFn:=⟨123,[.t 0],c19b⟩
def h19:List (Nat×Nat×List Nat):=[(0,(123,[])),(1,(123,[])),(2,(123,[1])),(3,(123,[1,2,3])),(4,(123,[1,2,3,5,6])),(5,(123,[1,2,3,5,6,7,8,9])),(6,(123,[1,2,3,5,6,7,8,9,10,11])),(7,(123,[2,3,5,6,7,8,9,10,11,12])),(8,(123,[2,3,5,6,7,8,9,10,11,13,14]))]
def c22r0:List Seg:=[
 zm 52 7,
 zm 4 52,
 zo 5 (.mv (.c (.int .i64 0)))]
def c22k0:ICode:=.kill 53 [7] (.ops c22r0)
def c22s1:ICode:=(.seq c22k0 .ret)
def c22r3:List Seg:=[
 zo 51 (.bin .add (.t 24) (.c (.int .i64 1))),
 zm 24 51]
def c22k3:ICode:=.kill 53 qq121 (.ops c22r3)
def c22r4:List Seg:=[
 .grp [(zn 40 7,0),(zp 41 (.idxA 2 1 (.t 9) (.c (.int .i64 1))),0),(zp 42 (.load1 (.t 41)),2),(zp 43 (.idxS 1 (.t 40) (.t 42)),7),(zp 44 (.load1 (.t 43)),15),(zn 45 1,0),(zn 46 8,0),(zp 47 (.idxS 1 (.t 45) (.t 46)),96),(zp 48 (.load1 (.t 47)),224)],
 zo 49 (.bin .add (.t 44) (.t 48)),
 zo 50 (.idxS 1 (.t 40) (.t 42)),
 .one ⟨none,.store1 (.t 50) (.t 49),none⟩]
def c22k4:ICode:=.kill 53 qq122 (.ops c22r4)
def c22r5:List Seg:=[
 .grp [(zn 29 7,0),(zp 30 (.idxA 2 1 (.t 9) (.c (.int .i64 0))),0),(zp 31 (.load1 (.t 30)),2),(zp 32 (.idxS 1 (.t 29) (.t 31)),7),(zp 33 (.load1 (.t 32)),15),(zn 34 1,0),(zn 35 8,0),(zp 36 (.idxS 1 (.t 34) (.t 35)),96),(zp 37 (.load1 (.t 36)),224)],
 zo 38 (.bin .sub (.t 33) (.t 37)),
 zo 39 (.idxS 1 (.t 29) (.t 31)),
 .one ⟨none,.store1 (.t 39) (.t 38),none⟩]
def c22k5:ICode:=.kill 53 qq122 (.ops c22r5)
def c22s6:ICode:=(.seq c22k5 c22k4)
def c22r7:List Seg:=[
 zm 26 24,
 zo 27 (.idxS 2 (.t 22) (.t 24)),
 zo 28 (.loadN 2 (.t 27)),
 zo 9 (.box (.c (.agg [.int .i64 0,.int .i64 0]))),
 zm 8 26,
 .one ⟨none,.storeN 2 (.t 9) (.t 28),none⟩]
def c22k7:ICode:=.kill 53 qq121 (.ops c22r7)
def c22s8:ICode:=(.seq (.block 1 (.seq c22k7 c22s6)) c22k3)
def c22s9:ICode:=(.seq (.cond (.t 25) .skip (.exit 0)) c22s8)
def c22r10:List Seg:=[
 zo 25 (.bin .lss (.t 24) (.t 23))]
def c22k10:ICode:=.kill 53 qq121 (.ops c22r10)
def c22l2:ICode:=(.seq c22k10 c22s9)
def c22s11:ICode:=(.block 0 (.loop c22l2))
def c22r12:List Seg:=[
 zo 21 (.fieldA 1 (.t 2)),
 zo 22 (.load1 (.t 21)),
 zo 23 (.len 0 (.t 22)),
 zo 24 (.mv (.c (.int .i64 0)))]
def c22k12:ICode:=.kill 53 qq98 (.ops c22r12)
def c22s13:ICode:=(.seq (.seq c22k12 c22s11) c22s1)
def c22r14:List Seg:=[
 zo 18 (.fieldA 0 (.t 2)),
 zo 19 (.load1 (.t 18)),
 zo 20 (.make [.int .i64 0] 8 (.t 19) (.t 19)),
 zm 7 20]
def c22k14:ICode:=.kill 53 qq100 (.ops c22r14)
def c22s15:ICode:=(.seq c22k14 c22s13)
def c22r16:List Seg:=[
 zm 17 6,
 zo 4 (.mv (.c .nilslice)),
 zm 5 17]
def c22k16:ICode:=.kill 53 [6] (.ops c22r16)
def c22s17:ICode:=(.cond (.t 16) (.seq c22k16 .ret) .skip)
def c22r18:List Seg:=[
 zm 15 6,
 zo 16 (.bin .neq (.t 15) (.c (.int .i64 0)))]
def c22k18:ICode:=.kill 53 qq97 (.ops c22r18)
def c22s19:ICode:=(.seq c22k18 c22s17)
def c22r20:List Seg:=[
 zo 10 (.loadN 3 (.t 2)),
 zm 11 1,
 zo 12 (.loadN 3 (.t 2)),
 zo 13 (.bind 67 [(.t 12)]),
 zo 14 (.call [] (.c (.func 66 [])) [(.t 10),(.t 11),(.t 13)]),
 zm 6 14]
def c22k20:ICode:=.kill 53 qq100 (.ops c22r20)
def c22s21:ICode:=(.seq (.seq c22k20 c22s19) c22s15)
def c22r22:List Seg:=[
 zo 2 (.box (.t 0)),
 zo 4 (.mv (.c .nilslice)),
 zo 5 (.mv (.c (.int .i64 0)))]
def c22k22:ICode:=.kill 53 qq21 (.ops c22r22)
def c22b:ICode:=(.seq c22k22 c22s21)
def c22:IFn:=⟨53,[.t 4,.t 5],c22b⟩
def h22:List (Nat×Nat×List Nat):=[(0,(53,[0,1])),(1,(53,[1,2])),(2,(53,[1,2,6])),(3,(53,[6])),(4,(53,[1,2])),(5,(53,[1,2,7])),(6,(53,[1,7,22,23,24])),(7,(53,[1,7,22,23,24])),(8,(53,[1,7,8,9,22,23,24])),(9,(53,[1,7,8,9,22,23,24])),(10,(53,[1,7,22,23,24])),(11,(53,[7]))]
def c23r0:List Seg:=[
 zo 31 (.loadN 3 (.t 7)),
 .one ⟨none,.storeN 3 (.t 4) (.t 31),none⟩,
 zo 5 (.mv (.c (.int .i64 0)))]
def c23k0:ICode:=.kill 32 [4,7] (.ops c23r0)
def c23s1:ICode:=(.seq c23k0 .ret)
def c23r3:List Seg:=[
 zo 30 (.bin .add (.t 22) (.c (.int .i64 1))),
 zm 22 30]
def c23k3:ICode:=.kill 32 qq147 (.ops c23r3)
def c23r4:List Seg:=[
 zm 26 8,
 zm 27 9,
 zo 28 (.call [] (.c (.func 69 [])) [(.t 27)]),
 zo 29 (.idxA 3 1 (.t 7) (.t 26)),
 .one ⟨none,.store1 (.t 29) (.t 28),none⟩]
def c23k4:ICode:=.kill 32 [4,7,8,9,21,22] (.ops c23r4)
def c23r5:List Seg:=[
 zm 24 22,
 zo 25 (.idxV 3 1 false (.t 21) (.t 22)),
 zm 8 24,
 zm 9 25]
def c23k5:ICode:=.kill 32 qq147 (.ops c23r5)
def c23s6:ICode:=(.seq (.block 1 (.seq c23k5 c23k4)) c23k3)
def c23s7:ICode:=(.seq (.cond (.t 23) .skip (.exit 0)) c23s6)
def c23r8:List Seg:=[
 zo 23 (.bin .lss (.t 22) (.c (.int .i64 3)))]
def c23k8:ICode:=.kill 32 qq147 (.ops c23r8)
def c23l2:ICode:=(.seq c23k8 c23s7)
def c23s9:ICode:=(.block 0 (.loop c23l2))
def c23r10:List Seg:=[
 zo 19 (.loadN 3 (.t 2)),
 zm 20 1,
 zo 21 (.call [] (.c (.func 68 [])) [(.t 19),(.t 20)]),
 zo 22 (.mv (.c (.int .i64 0)))]
def c23k10:ICode:=.kill 32 [1,2,4,7] (.ops c23r10)
def c23s11:ICode:=(.seq (.seq c23k10 c23s9) c23s1)
def c23r12:List Seg:=[
 zo 7 (.box (.c (.agg [.nilslice,.nilslice,.nilslice])))]
def c23k12:ICode:=.kill 32 qq80 (.ops c23r12)
def c23s13:ICode:=(.seq c23k12 c23s11)
def c23r14:List Seg:=[
 zo 17 (.mkagg [.nilslice,.nilslice,.nilslice] []),
 zm 18 6,
 .one ⟨none,.storeN 3 (.t 4) (.t 17),none⟩,
 zm 5 18]
def c23k14:ICode:=.kill 32 [4,6] (.ops c23r14)
def c23s15:ICode:=(.cond (.t 16) (.seq c23k14 .ret) .skip)
def c23r16:List Seg:=[
 zm 15 6,
 zo 16 (.bin .neq (.t 15) (.c (.int .i64 0)))]
def c23k16:ICode:=.kill 32 [1,2,4,6] (.ops c23r16)
def c23s17:ICode:=(.seq c23k16 c23s15)
def c23r18:List Seg:=[
 zo 10 (.loadN 3 (.t 2)),
 zm 11 1,
 zo 12 (.loadN 3 (.t 2)),
 zo 13 (.bind 67 [(.t 12)]),
 zo 14 (.call [] (.c (.func 66 [])) [(.t 10),(.t 11),(.t 13)]),
 zm 6 14]
def c23k18:ICode:=.kill 32 qq80 (.ops c23r18)
def c23s19:ICode:=(.seq (.seq c23k18 c23s17) c23s13)
def c23r20:List Seg:=[
 zo 2 (.box (.t 0)),
 zo 4 (.box (.c (.agg [.nilslice,.nilslice,.nilslice]))),
 zo 5 (.mv (.c (.int .i64 0)))]
def c23k20:ICode:=.kill 32 qq21 (.ops c23r20)
def c23b:ICode:=(.seq c23k20 c23s19)
def c23:IFn:=⟨32,[.cellN 4 3,.t 5],c23b⟩
def h23:List (Nat×Nat×List Nat):=[(0,(32,[0,1])),(1,(32,[1,2,4])),(2,(32,[1,2,4,6])),(3,(32,[4,6])),(4,(32,[1,2,4])),(5,(32,[1,2,4,7])),(6,(32,[4,7,21,22])),(7,(32,[4,7,21,22])),(8,(32,[4,7,8,9,21,22])),(9,(32,[4,7,21,22])),(10,(32,[4,7]))]
def c27r0:List Seg:=[
 zo 4 (.mv (.c (.bool true)))]
def c27k0:ICode:=.kill 26 [] (.ops c27r0)
def c27s1:ICode:=(.seq c27k0 .ret)
def c27r3:List Seg:=[
 zm 15 5,
 zo 16 (.bin .add (.t 15) (.c (.int .i64 1))),
 zm 5 16]
def c27k3:ICode:=.kill 26 qq12 (.ops c27r3)
def c27r4:List Seg:=[
 zo 4 (.mv (.c (.bool false)))]
def c27k4:ICode:=.kill 26 [] (.ops c27r4)
def c27s5:ICode:=(.cond (.t 25) (.seq c27k4 .ret) .skip)
def c27r6:List Seg:=[
 .grp [(zn 17 0,0),(zn 18 5,0),(zp 19 (.idxS 1 (.t 17) (.t 18)),3),(zp 20 (.load1 (.t 19)),7),(zn 21 1,0),(zn 22 5,0),(zp 23 (.idxS 1 (.t 21) (.t 22)),48),(zp 24 (.load1 (.t 23)),112)],
 zo 25 (.bin .neq (.t 20) (.t 24))]
def c27k6:ICode:=.kill 26 qq12 (.ops c27r6)
def c27s7:ICode:=(.seq (.block 1 (.seq c27k6 c27s5)) c27k3)
def c27s8:ICode:=(.cond (.t 14) .skip (.exit 0))
def c27r9:List Seg:=[
 zm 11 5,
 zm 12 0,
 zo 13 (.len 0 (.t 12)),
 zo 14 (.bin .lss (.t 11) (.t 13))]
def c27k9:ICode:=.kill 26 qq12 (.ops c27r9)
def c27l2:ICode:=(.seq (.seq c27k9 c27s8) c27s7)
def c27s10:ICode:=(.block 0 (.loop c27l2))
def c27r11:List Seg:=[
 zo 5 (.mv (.c (.int .i64 0)))]
def c27k11:ICode:=.kill 26 qq21 (.ops c27r11)
def c27s12:ICode:=(.seq (.seq c27k11 c27s10) c27s1)
def c27r13:List Seg:=[
 zo 4 (.mv (.c (.bool false)))]
def c27k13:ICode:=.kill 26 [] (.ops c27r13)
def c27s14:ICode:=(.cond (.t 10) (.seq c27k13 .ret) .skip)
def c27r15:List Seg:=[
 zm 6 0,
 zo 7 (.len 0 (.t 6)),
 zm 8 1,
 zo 9 (.len 0 (.t 8)),
 zo 10 (.bin .neq (.t 7) (.t 9))]
def c27k15:ICode:=.kill 26 qq21 (.ops c27r15)
def c27s16:ICode:=(.seq (.seq c27k15 c27s14) c27s12)
def c27r17:List Seg:=[
 zo 4 (.mv (.c (.bool false)))]
def c27k17:ICode:=.kill 26 qq21 (.ops c27r17)
def c27b:ICode:=(.seq c27k17 c27s16)
def c27:IFn:=⟨26,[.t 4],c27b⟩
def h27:List (Nat×Nat×List Nat):=[(0,(26,[0,1])),(1,(26,[0,1])),(2,(26,[])),(3,(26,[0,1])),(4,(26,[0,1,5])),(6,(26,[0,1,5])),(7,(26,[])),(5,(26,[0,1,5])),(8,(26,[]))]
def c28r0:List Seg:=[
 zo 4 (.mv (.c (.bool true)))]
def c28k0:ICode:=.kill 26 [] (.ops c28r0)
def c28s1:ICode:=(.seq c28k0 .ret)
def c28r3:List Seg:=[
 zm 15 5,
 zo 16 (.bin .add (.t 15) (.c (.int .i64 1))),
 zm 5 16]
def c28k3:ICode:=.kill 26 qq12 (.ops c28r3)
def c28r4:List Seg:=[
 zo 4 (.mv (.c (.bool false)))]
def c28k4:ICode:=.kill 26 [] (.ops c28r4)
def c28s5:ICode:=(.cond (.t 25) (.seq c28k4 .ret) .skip)
def c28r6:List Seg:=[
 .grp [(zn 17 0,0),(zn 18 5,0),(zp 19 (.idxS 2 (.t 17) (.t 18)),3),(zp 20 (.loadN 2 (.t 19)),7),(zn 21 1,0),(zn 22 5,0),(zp 23 (.idxS 2 (.t 21) (.t 22)),48),(zp 24 (.loadN 2 (.t 23)),112)],
 zo 25 (.eqv true (.ints 2) (.t 20) (.t 24))]
def c28k6:ICode:=.kill 26 qq12 (.ops c28r6)
def c28s7:ICode:=(.seq (.block 1 (.seq c28k6 c28s5)) c28k3)
def c28s8:ICode:=(.cond (.t 14) .skip (.exit 0))
def c28r9:List Seg:=[
 zm 11 5,
 zm 12 0,
 zo 13 (.len 0 (.t 12)),
 zo 14 (.bin .lss (.t 11) (.t 13))]
def c28k9:ICode:=.kill 26 qq12 (.ops c28r9)
def c28l2:ICode:=(.seq (.seq c28k9 c28s8) c28s7)
def c28s10:ICode:=(.block 0 (.loop c28l2))
def c28r11:List Seg:=[
 zo 5 (.mv (.c (.int .i64 0)))]
def c28k11:ICode:=.kill 26 qq21 (.ops c28r11)
def c28s12:ICode:=(.seq (.seq c28k11 c28s10) c28s1)
def c28r13:List Seg:=[
 zo 4 (.mv (.c (.bool false)))]
def c28k13:ICode:=.kill 26 [] (.ops c28r13)
def c28s14:ICode:=(.cond (.t 10) (.seq c28k13 .ret) .skip)
def c28r15:List Seg:=[
 zm 6 0,
 zo 7 (.len 0 (.t 6)),
 zm 8 1,
 zo 9 (.len 0 (.t 8)),
 zo 10 (.bin .neq (.t 7) (.t 9))]
def c28k15:ICode:=.kill 26 qq21 (.ops c28r15)
def c28s16:ICode:=(.seq (.seq c28k15 c28s14) c28s12)
def c28r17:List Seg:=[
 zo 4 (.mv (.c (.bool false)))]
def c28k17:ICode:=.kill 26 qq21 (.ops c28r17)
def c28b:ICode:=(.seq c28k17 c28s16)
def c28:IFn:=⟨26,[.t 4],c28b⟩
def h28:List (Nat×Nat×List Nat):=[(0,(26,[0,1])),(1,(26,[0,1])),(2,(26,[])),(3,(26,[0,1])),(4,(26,[0,1,5])),(6,(26,[0,1,5])),(7,(26,[])),(5,(26,[0,1,5])),(8,(26,[]))]
def c31r0:List Seg:=[
 zm 62 3,
 zm 2 62]
def c31k0:ICode:=.kill 63 [3] (.ops c31r0)
def c31s1:ICode:=(.seq c31k0 .ret)
def c31r3:List Seg:=[
 zm 24 5,
 zo 25 (.bin .add (.t 24) (.c (.int .i64 1))),
 zm 5 25]
def c31k3:ICode:=.kill 63 qq108 (.ops c31r3)
def c31r5:List Seg:=[
 zm 31 6,
 zo 32 (.bin .add (.t 31) (.c (.int .i64 1))),
 zm 6 32]
def c31k5:ICode:=.kill 63 qq107 (.ops c31r5)
def c31r6:List Seg:=[
 zm 58 3,
 zm 59 8,
 zm 60 9,
 zo 61 (.idxS 1 (.t 58) (.t 59)),
 .one ⟨none,.store1 (.t 61) (.t 60),none⟩]
def c31k6:ICode:=.kill 63 qq106 (.ops c31r6)
def c31r7:List Seg:=[
 zm 54 3,
 zm 55 7,
 zm 56 9,
 zo 57 (.idxS 1 (.t 54) (.t 55)),
 .one ⟨none,.store1 (.t 57) (.t 56),none⟩]
def c31k7:ICode:=.kill 63 qq104 (.ops c31r7)
def c31s8:ICode:=(.seq c31k7 c31k6)
def c31r9:List Seg:=[
 .grp [(zn 45 3,0),(zn 46 7,0),(zp 47 (.idxS 1 (.t 45) (.t 46)),3),(zp 48 (.load1 (.t 47)),7),(zn 49 3,0),(zn 50 8,0),(zp 51 (.idxS 1 (.t 49) (.t 50)),48),(zp 52 (.load1 (.t 51)),112)],
 zo 53 (.mn [(.t 48),(.t 52)]),
 zm 9 53]
def c31k9:ICode:=.kill 63 qq105 (.ops c31r9)
def c31s10:ICode:=(.seq c31k9 c31s8)
def c31r11:List Seg:=[
 .grp [(zp 33 (.fieldA 1 (.t 1)),0),(zp 34 (.load1 (.t 33)),1),(zn 35 6,0),(zp 36 (.idxS 2 (.t 34) (.t 35)),7),(zp 37 (.idxA 2 1 (.t 36) (.c (.int .i64 0))),15),(zp 38 (.load1 (.t 37)),31),(zp 39 (.fieldA 1 (.t 1)),0),(zp 40 (.load1 (.t 39)),64),(zn 41 6,0),(zp 42 (.idxS 2 (.t 40) (.t 41)),448),(zp 43 (.idxA 2 1 (.t 42) (.c (.int .i64 1))),960),(zp 44 (.load1 (.t 43)),1984),(zn 7 38,63)],
 zm 8 44]
def c31k11:ICode:=.kill 63 qq107 (.ops c31r11)
def c31s12:ICode:=(.seq (.block 5 (.seq c31k11 c31s10)) c31k5)
def c31s13:ICode:=(.cond (.t 30) .skip (.exit 4))
def c31r14:List Seg:=[
 zm 26 6,
 zo 27 (.fieldA 1 (.t 1)),
 zo 28 (.load1 (.t 27)),
 zo 29 (.len 0 (.t 28)),
 zo 30 (.bin .lss (.t 26) (.t 29))]
def c31k14:ICode:=.kill 63 qq107 (.ops c31r14)
def c31l4:ICode:=(.seq (.seq c31k14 c31s13) c31s12)
def c31s15:ICode:=(.block 4 (.loop c31l4))
def c31r16:List Seg:=[
 zo 6 (.mv (.c (.int .i64 0)))]
def c31k16:ICode:=.kill 63 qq108 (.ops c31r16)
def c31s17:ICode:=(.seq (.block 3 (.seq c31k16 c31s15)) c31k3)
def c31s18:ICode:=(.cond (.t 23) .skip (.exit 2))
def c31r19:List Seg:=[
 zm 20 5,
 zo 21 (.fieldA 0 (.t 1)),
 zo 22 (.load1 (.t 21)),
 zo 23 (.bin .lss (.t 20) (.t 22))]
def c31k19:ICode:=.kill 63 qq108 (.ops c31r19)
def c31l2:ICode:=(.seq (.seq c31k19 c31s18) c31s17)
def c31s20:ICode:=(.block 2 (.loop c31l2))
def c31r21:List Seg:=[
 zo 5 (.mv (.c (.int .i64 0)))]
def c31k21:ICode:=.kill 63 qq110 (.ops c31r21)
def c31s22:ICode:=(.seq (.seq c31k21 c31s20) c31s1)
def c31r24:List Seg:=[
 zm 14 4,
 zo 15 (.bin .add (.t 14) (.c (.int .i64 1))),
 zm 4 15]
def c31k24:ICode:=.kill 63 qq103 (.ops c31r24)
def c31r25:List Seg:=[
 zm 16 3,
 zm 17 4,
 zo 18 (.mkslice 1 [.int .i64 0] [(0,1,(.t 17))]),
 zo 19 (.app 1 8 (.t 16) (.t 18)),
 zm 3 19]
def c31k25:ICode:=.kill 63 qq103 (.ops c31r25)
def c31s26:ICode:=(.seq (.block 1 c31k25) c31k24)
def c31s27:ICode:=(.cond (.t 13) .skip (.exit 0))
def c31r28:List Seg:=[
 zm 10 4,
 zo 11 (.fieldA 0 (.t 1)),
 zo 12 (.load1 (.t 11)),
 zo 13 (.bin .lss (.t 10) (.t 12))]
def c31k28:ICode:=.kill 63 qq103 (.ops c31r28)
def c31l23:ICode:=(.seq (.seq c31k28 c31s27) c31s26)
def c31s29:ICode:=(.block 0 (.loop c31l23))
def c31r30:List Seg:=[
 zo 4 (.mv (.c (.int .i64 0)))]
def c31k30:ICode:=.kill 63 qq110 (.ops c31r30)
def c31s31:ICode:=(.seq (.seq c31k30 c31s29) c31s22)
def c31r32:List Seg:=[
 zo 3 (.mv (.c .nilslice))]
def c31k32:ICode:=.kill 63 [1] (.ops c31r32)
def c31s33:ICode:=(.seq c31k32 c31s31)
def c31r34:List Seg:=[
 zo 1 (.box (.t 0)),
 zo 2 (.mv (.c .nilslice))]
def c31k34:ICode:=.kill 63 [0] (.ops c31r34)
def c31b:ICode:=(.seq c31k34 c31s33)
def c31:IFn:=⟨63,[.t 2],c31b⟩
def h31:List (Nat×Nat×List Nat):=[(0,(63,[0])),(1,(63,[1])),(2,(63,[1,3])),(3,(63,[1,3,4])),(5,(63,[1,3,4])),(4,(63,[1,3,4])),(6,(63,[1,3])),(7,(63,[1,3,5])),(9,(63,[1,3,5])),(10,(63,[1,3,5,6])),(12,(63,[1,3,5,6])),(13,(63,[1,3,5,6,7,8])),(14,(63,[1,3,5,6,7,8,9])),(15,(63,[1,3,5,6,8,9])),(11,(63,[1,3,5,6])),(8,(63,[1,3,5])),(16,(63,[3]))]
def c32r0:List Seg:=[
 .grp [(zp 11 (.idxA 2 1 (.t 2) (.c (.int .i64 0))),0),(zp 12 (.load1 (.t 11)),1),(zp 13 (.idxA 2 1 (.t 3) (.c (.int .i64 1))),0),(zp 14 (.load1 (.t 13)),4),(zn 15 5,0),(zp 16 (.bin .quo (.t 14) (.t 15)),28),(zp 17 (.bin .mul (.t 12) (.t 16)),63),(zp 18 (.idxA 2 1 (.t 3) (.c (.int .i64 0))),0),(zp 19 (.load1 (.t 18)),128),(zp 20 (.idxA 2 1 (.t 2) (.c (.int .i64 1))),0),(zp 21 (.load1 (.t 20)),512),(zn 22 5,0),(zp 23 (.bin .quo (.t 21) (.t 22)),3584),(zp 24 (.bin .mul (.t 19) (.t 23)),8064),(zp 25 (.bin .add (.t 17) (.t 24)),16383),(zp 26 (.idxA 2 1 (.t 2) (.c (.int .i64 1))),0),(zp 27 (.load1 (.t 26)),32768),(zn 28 5,0),(zp 29 (.bin .quo (.t 27) (.t 28)),229376),(zp 30 (.idxA 2 1 (.t 3) (.c (.int .i64 1))),0),(zp 31 (.load1 (.t 30)),524288),(zp 32 (.bin .mul (.t 29) (.t 31)),2064384)],
 zo 33 (.call [] (.c (.func 73 [])) [(.t 25),(.t 32)]),
 .one ⟨none,.storeN 2 (.t 4) (.t 33),none⟩]
def c32k0:ICode:=.kill 34 qq129 (.ops c32r0)
def c32s1:ICode:=(.seq c32k0 .ret)
def c32r2:List Seg:=[
 zo 6 (.idxA 2 1 (.t 2) (.c (.int .i64 1))),
 zo 7 (.load1 (.t 6)),
 zo 8 (.idxA 2 1 (.t 3) (.c (.int .i64 1))),
 zo 9 (.load1 (.t 8)),
 zo 10 (.call [] (.c (.func 72 [])) [(.t 7),(.t 9)]),
 zm 5 10]
def c32k2:ICode:=.kill 34 qq130 (.ops c32r2)
def c32s3:ICode:=(.seq c32k2 c32s1)
def c32r4:List Seg:=[
 zo 2 (.box (.t 0)),
 zo 3 (.box (.t 1)),
 zo 4 (.box (.c (.agg [.int .i64 0,.int .i64 0])))]
def c32k4:ICode:=.kill 34 qq21 (.ops c32r4)
def c32b:ICode:=(.seq c32k4 c32s3)
def c32:IFn:=⟨34,[.cellN 4 2],c32b⟩
def h32:List (Nat×Nat×List Nat):=[(0,(34,[0,1])),(1,(34,[2,3,4])),(2,(34,[2,3,4,5]))]
def c34r0:List Seg:=[
 zo 5 (.loadN 2 (.t 2)),
 zo 6 (.idxA 2 1 (.t 3) (.c (.int .i64 0))),
 zo 7 (.load1 (.t 6)),
 zo 8 (.un .neg (.t 7)),
 zo 9 (.idxA 2 1 (.t 3) (.c (.int .i64 1))),
 zo 10 (.load1 (.t 9)),
 zo 11 (.mkagg [.int .i64 0,.int .i64 0] [(0,1,(.t 8)),(1,1,(.t 10))]),
 zo 12 (.call [] (.c (.func 32 [])) [(.t 5),(.t 11)]),
 .one ⟨none,.storeN 2 (.t 4) (.t 12),none⟩]
def c34k0:ICode:=.kill 13 qq130 (.ops c34r0)
def c34s1:ICode:=(.seq c34k0 .ret)
def c34r2:List Seg:=[
 zo 2 (.box (.t 0)),
 zo 3 (.box (.t 1)),
 zo 4 (.box (.c (.agg [.int .i64 0,.int .i64 0])))]
def c34k2:ICode:=.kill 13 qq21 (.ops c34r2)
def c34b:ICode:=(.seq c34k2 c34s1)
def c34:IFn:=⟨13,[.cellN 4 2],c34b⟩
def h34:List (Nat×Nat×List Nat):=[(0,(13,[0,1])),(1,(13,[2,3,4]))]
def c35r0:List Seg:=[
 zo 5 (.idxA 2 1 (.t 2) (.c (.int .i64 0))),
 zo 6 (.load1 (.t 5)),
 zo 7 (.idxA 2 1 (.t 3) (.c (.int .i64 0))),
 zo 8 (.load1 (.t 7)),
 zo 9 (.bin .mul (.t 6) (.t 8)),
 zo 10 (.idxA 2 1 (.t 2) (.c (.int .i64 1))),
 zo 11 (.load1 (.t 10)),
 zo 12 (.idxA 2 1 (.t 3) (.c (.int .i64 1))),
 zo 13 (.load1 (.t 12)),
 zo 14 (.bin .mul (.t 11) (.t 13)),
 zo 15 (.call [] (.c (.func 73 [])) [(.t 9),(.t 14)]),
 .one ⟨none,.storeN 2 (.t 4) (.t 15),none⟩]
def c35k0:ICode:=.kill 16 qq130 (.ops c35r0)
def c35s1:ICode:=(.seq c35k0 .ret)
def c35r2:List Seg:=[
 zo 2 (.box (.t 0)),
 zo 3 (.box (.t 1)),
 zo 4 (.box (.c (.agg [.int .i64 0,.int .i64 0])))]
def c35k2:ICode:=.kill 16 qq21 (.ops c35r2)
def c35b:ICode:=(.seq c35k2 c35s1)
def c35:IFn:=⟨16,[.cellN 4 2],c35b⟩
def h35:List (Nat×Nat×List Nat):=[(0,(16,[0,1])),(1,(16,[2,3,4]))]
def c40r0:List Seg:=[
 zm 44 7,
 zm 4 44,
 zo 5 (.mv (.c (.int .i64 0)))]
def c40k0:ICode:=.kill 45 [7] (.ops c40r0)
def c40s1:ICode:=(.seq c40k0 .ret)
def c40r3:List Seg:=[
 zo 43 (.bin .add (.t 23) (.c (.int .i64 1))),
 zm 23 43]
def c40k3:ICode:=.kill 45 qq128 (.ops c40r3)
def c40r4:List Seg:=[
 zm 39 7,
 zo 40 (.load1 (.t 9)),
 zo 41 (.mkslice 1 [.int .i64 0] [(0,1,(.t 40))]),
 zo 42 (.app 1 8 (.t 39) (.t 41)),
 zm 7 42]
def c40k4:ICode:=.kill 45 [2,3,4,5,7,9,22,23] (.ops c40r4)
def c40r6:List Seg:=[
 .grp [(zp 31 (.load1 (.t 9)),0),(zn 32 11,0),(zp 33 (.load1 (.t 3)),0),(zn 34 10,0),(zp 35 (.idxS 1 (.t 33) (.t 34)),12),(zp 36 (.load1 (.t 35)),28),(zp 37 (.bin .mul (.t 32) (.t 36)),62)],
 zo 38 (.bin .add (.t 31) (.t 37)),
 .one ⟨none,.store1 (.t 9) (.t 38),none⟩]
def c40k6:ICode:=.kill 45 [3,9,10,11] (.ops c40r6)
def c40r7:List Seg:=[
 zm 11 30]
def c40k7:ICode:=.kill 45 [3,9,10,30] (.ops c40r7)
def c40r8:List Seg:=[
 zm 10 29]
def c40k8:ICode:=.kill 45 [3,9,29,30] (.ops c40r8)
def c40f5a:ICode:=(.seq c40k8 c40k7)
def c40f5b:ICode:=(.block 3 c40k6)
def c40s9:ICode:=(.block 2 (.rf (.t 28) [29,30] c40f5a c40f5b))
def c40r10:List Seg:=[
 zo 26 (.loadN 3 (.t 2)),
 zm 27 8,
 zo 28 (.call [] (.c (.func 62 [])) [(.t 26),(.t 27)])]
def c40k10:ICode:=.kill 45 [2,3,4,5,7,8,9,22,23] (.ops c40r10)
def c40s11:ICode:=(.seq (.seq c40k10 c40s9) c40k4)
def c40r12:List Seg:=[
 zo 9 (.box (.c (.int .i64 0))),
 .one ⟨none,.store1 (.t 9) (.c (.int .i64 0)),none⟩]
def c40k12:ICode:=.kill 45 [2,3,4,5,7,8,22,23] (.ops c40r12)
def c40s13:ICode:=(.seq c40k12 c40s11)
def c40r14:List Seg:=[
 zm 25 23,
 zm 8 25]
def c40k14:ICode:=.kill 45 qq128 (.ops c40r14)
def c40s15:ICode:=(.seq (.block 1 (.seq c40k14 c40s13)) c40k3)
def c40s16:ICode:=(.seq (.cond (.t 24) .skip (.exit 0)) c40s15)
def c40r17:List Seg:=[
 zo 24 (.bin .lss (.t 23) (.t 22))]
def c40k17:ICode:=.kill 45 qq128 (.ops c40r17)
def c40l2:ICode:=(.seq c40k17 c40s16)
def c40s18:ICode:=(.block 0 (.loop c40l2))
def c40r19:List Seg:=[
 zo 20 (.fieldA 2 (.t 2)),
 zo 21 (.load1 (.t 20)),
 zo 22 (.len 0 (.t 21)),
 zo 23 (.mv (.c (.int .i64 0)))]
def c40k19:ICode:=.kill 45 [2,3,4,5,7] (.ops c40r19)
def c40s20:ICode:=(.seq (.seq c40k19 c40s18) c40s1)
def c40r21:List Seg:=[
 zo 7 (.mv (.c .nilslice))]
def c40k21:ICode:=.kill 45 qq129 (.ops c40r21)
def c40s22:ICode:=(.seq c40k21 c40s20)
def c40r23:List Seg:=[
 zm 19 6,
 zo 4 (.mv (.c .nilslice)),
 zm 5 19]
def c40k23:ICode:=.kill 45 [6] (.ops c40r23)
def c40s24:ICode:=(.cond (.t 18) (.seq c40k23 .ret) .skip)
def c40r25:List Seg:=[
 zm 17 6,
 zo 18 (.bin .neq (.t 17) (.c (.int .i64 0)))]
def c40k25:ICode:=.kill 45 [2,3,4,5,6] (.ops c40r25)
def c40s26:ICode:=(.seq c40k25 c40s24)
def c40r27:List Seg:=[
 zo 12 (.loadN 3 (.t 2)),
 zo 13 (.load1 (.t 3)),
 zo 14 (.loadN 3 (.t 2)),
 zo 15 (.bind 67 [(.t 14)]),
 zo 16 (.call [] (.c (.func 66 [])) [(.t 12),(.t 13),(.t 15)]),
 zm 6 16]
def c40k27:ICode:=.kill 45 qq129 (.ops c40r27)
def c40s28:ICode:=(.seq (.seq c40k27 c40s26) c40s22)
def c40r29:List Seg:=[
 zo 2 (.box (.t 0)),
 zo 3 (.box (.t 1)),
 zo 4 (.mv (.c .nilslice)),
 zo 5 (.mv (.c (.int .i64 0)))]
def c40k29:ICode:=.kill 45 qq21 (.ops c40r29)
def c40b:ICode:=(.seq c40k29 c40s28)
def c40:IFn:=⟨45,[.t 4,.t 5],c40b⟩
def h40:List (Nat×Nat×List Nat):=[(0,(45,[0,1])),(1,(45,[2,3,4,5])),(2,(45,[2,3,4,5,6])),(3,(45,[6])),(4,(45,[2,3,4,5])),(5,(45,[2,3,4,5,7])),(6,(45,[2,3,4,5,7,22,23])),(7,(45,[2,3,4,5,7,22,23])),(8,(45,[2,3,4,5,7,8,22,23])),(9,(45,[2,3,4,5,7,8,9,22,23])),(10,(45,[3,9,29,30])),(11,(45,[3,9,10,30])),(12,(45,[3,9,10,11])),(13,(45,[2,3,4,5,7,9,22,23])),(14,(45,[2,3,4,5,7,22,23])),(15,(45,[7]))]
def c41r0:List Seg:=[
 .grp [(zn 51 8,0),(zp 52 (.nilck (.t 51)),1),(zp 53 (.fieldA 6 (.t 52)),3),(zp 54 (.fieldA 0 (.t 2)),0),(zp 55 (.load1 (.t 54)),8)],
 zo 56 (.sliceA 6 1 (.t 53) none (some (.t 55)) none),
 zo 57 (.call [] (.c (.func 79 [])) [(.t 56)]),
 zm 4 57,
 zo 5 (.mv (.c (.bool true))),
 zo 6 (.mv (.c (.int .i64 0)))]
def c41k0:ICode:=.kill 58 [2,8] (.ops c41r0)
def c41s1:ICode:=(.seq c41k0 .ret)
def c41r3:List Seg:=[
 zo 50 (.bin .add (.t 25) (.c (.int .i64 1))),
 zm 25 50]
def c41k3:ICode:=.kill 58 qq99 (.ops c41r3)
def c41r4:List Seg:=[
 zo 4 (.mv (.c .nilslice)),
 zo 5 (.mv (.c (.bool false))),
 zo 6 (.mv (.c (.int .i64 0)))]
def c41k4:ICode:=.kill 58 [] (.ops c41r4)
def c41s5:ICode:=(.cond (.t 49) (.seq c41k4 .ret) .skip)
def c41r6:List Seg:=[
 .grp [(zn 30 8,0),(zp 31 (.idxA 2 1 (.t 10) (.c (.int .i64 1))),0),(zp 32 (.load1 (.t 31)),2),(zp 33 (.nilck (.t 30)),1),(zp 34 (.fieldA 6 (.t 33)),9),(zp 35 (.idxA 6 1 (.t 34) (.t 32)),31),(zp 36 (.load1 (.t 35)),63),(zn 37 8,0),(zp 38 (.idxA 2 1 (.t 10) (.c (.int .i64 0))),0),(zp 39 (.load1 (.t 38)),256),(zp 40 (.nilck (.t 37)),128),(zp 41 (.fieldA 6 (.t 40)),1152),(zp 42 (.idxA 6 1 (.t 41) (.t 39)),3968),(zp 43 (.load1 (.t 42)),8064),(zp 44 (.bin .sub (.t 36) (.t 43)),16383),(zn 45 1,0),(zn 46 9,0),(zp 47 (.idxS 1 (.t 45) (.t 46)),98304),(zp 48 (.load1 (.t 47)),229376)],
 zo 49 (.bin .neq (.t 44) (.t 48))]
def c41k6:ICode:=.kill 58 [1,2,8,9,10,23,24,25] (.ops c41r6)
def c41s7:ICode:=(.seq c41k6 c41s5)
def c41r8:List Seg:=[
 zm 27 25,
 zo 28 (.idxS 2 (.t 23) (.t 25)),
 zo 29 (.loadN 2 (.t 28)),
 zo 10 (.box (.c (.agg [.int .i64 0,.int .i64 0]))),
 zm 9 27,
 .one ⟨none,.storeN 2 (.t 10) (.t 29),none⟩]
def c41k8:ICode:=.kill 58 qq99 (.ops c41r8)
def c41s9:ICode:=(.seq (.block 1 (.seq c41k8 c41s7)) c41k3)
def c41s10:ICode:=(.seq (.cond (.t 26) .skip (.exit 0)) c41s9)
def c41r11:List Seg:=[
 zo 26 (.bin .lss (.t 25) (.t 24))]
def c41k11:ICode:=.kill 58 qq99 (.ops c41r11)
def c41l2:ICode:=(.seq c41k11 c41s10)
def c41s12:ICode:=(.block 0 (.loop c41l2))
def c41r13:List Seg:=[
 zo 22 (.fieldA 1 (.t 2)),
 zo 23 (.load1 (.t 22)),
 zo 24 (.len 0 (.t 23)),
 zo 25 (.mv (.c (.int .i64 0)))]
def c41k13:ICode:=.kill 58 [1,2,8] (.ops c41r13)
def c41s14:ICode:=(.seq (.seq c41k13 c41s12) c41s1)
def c41r15:List Seg:=[
 zo 19 (.loadN 3 (.t 2)),
 zm 20 1,
 zo 21 (.call [] (.c (.func 78 [])) [(.t 19),(.t 20)]),
 zm 8 21]
def c41k15:ICode:=.kill 58 qq100 (.ops c41r15)
def c41s16:ICode:=(.seq c41k15 c41s14)
def c41r17:List Seg:=[
 zm 18 7,
 zo 4 (.mv (.c .nilslice)),
 zo 5 (.mv (.c (.bool false))),
 zm 6 18]
def c41k17:ICode:=.kill 58 [7] (.ops c41r17)
def c41s18:ICode:=(.cond (.t 17) (.seq c41k17 .ret) .skip)
def c41r19:List Seg:=[
 zm 16 7,
 zo 17 (.bin .neq (.t 16) (.c (.int .i64 0)))]
def c41k19:ICode:=.kill 58 qq98 (.ops c41r19)
def c41s20:ICode:=(.seq c41k19 c41s18)
def c41r21:List Seg:=[
 zo 11 (.loadN 3 (.t 2)),
 zm 12 1,
 zo 13 (.loadN 3 (.t 2)),
 zo 14 (.bind 67 [(.t 13)]),
 zo 15 (.call [] (.c (.func 66 [])) [(.t 11),(.t 12),(.t 14)]),
 zm 7 15]
def c41k21:ICode:=.kill 58 qq100 (.ops c41r21)
def c41s22:ICode:=(.seq (.seq c41k21 c41s20) c41s16)
def c41r23:List Seg:=[
 zo 2 (.box (.t 0)),
 zo 4 (.mv (.c .nilslice)),
 zo 5 (.mv (.c (.bool false))),
 zo 6 (.mv (.c (.int .i64 0)))]
def c41k23:ICode:=.kill 58 qq21 (.ops c41r23)
def c41b:ICode:=(.seq c41k23 c41s22)
def c41:IFn:=⟨58,[.t 4,.t 5,.t 6],c41b⟩
def h41:List (Nat×Nat×List Nat):=[(0,(58,[0,1])),(1,(58,[1,2])),(2,(58,[1,2,7])),(3,(58,[7])),(4,(58,[1,2])),(5,(58,[1,2,8])),(6,(58,[1,2,8,23,24,25])),(7,(58,[1,2,8,23,24,25])),(8,(58,[1,2,8,9,10,23,24,25])),(9,(58,[])),(10,(58,[1,2,8,23,24,25])),(11,(58,[2,8]))]
def c43r0:List Seg:=[
 zm 19 3,
 zm 2 19]
def c43k0:ICode:=.kill 20 [3] (.ops c43r0)
def c43s1:ICode:=(.seq c43k0 .ret)
def c43r3:List Seg:=[
 zm 9 4,
 zo 10 (.bin .add (.t 9) (.c (.int .i64 1))),
 zm 4 10]
def c43k3:ICode:=.kill 20 qq25 (.ops c43r3)
def c43r4:List Seg:=[
 zm 11 3,
 zm 12 0,
 zm 13 4,
 zo 14 (.idxS 1 (.t 12) (.t 13)),
 zo 15 (.load1 (.t 14)),
 zo 16 (.mkagg [.int .i64 0,.int .i64 0] [(0,1,(.t 15)),(1,1,(.c (.int .i64 1)))]),
 zo 17 (.mkslice 1 [.int .i64 0,.int .i64 0] [(0,2,(.t 16))]),
 zo 18 (.app 2 16 (.t 11) (.t 17)),
 zm 3 18]
def c43k4:ICode:=.kill 20 qq25 (.ops c43r4)
def c43s5:ICode:=(.seq (.block 1 c43k4) c43k3)
def c43s6:ICode:=(.cond (.t 8) .skip (.exit 0))
def c43r7:List Seg:=[
 zm 5 4,
 zm 6 0,
 zo 7 (.len 0 (.t 6)),
 zo 8 (.bin .lss (.t 5) (.t 7))]
def c43k7:ICode:=.kill 20 qq25 (.ops c43r7)
def c43l2:ICode:=(.seq (.seq c43k7 c43s6) c43s5)
def c43s8:ICode:=(.block 0 (.loop c43l2))
def c43r9:List Seg:=[
 zo 4 (.mv (.c (.int .i64 0)))]
def c43k9:ICode:=.kill 20 qq28 (.ops c43r9)
def c43s10:ICode:=(.seq (.seq c43k9 c43s8) c43s1)
def c43r11:List Seg:=[
 zo 3 (.mv (.c .nilslice))]
def c43k11:ICode:=.kill 20 [0] (.ops c43r11)
def c43s12:ICode:=(.seq c43k11 c43s10)
def c43r13:List Seg:=[
 zo 2 (.mv (.c .nilslice))]
def c43k13:ICode:=.kill 20 [0] (.ops c43r13)
def c43b:ICode:=(.seq c43k13 c43s12)
def c43:IFn:=⟨20,[.t 2],c43b⟩
def h43:List (Nat×Nat×List Nat):=[(0,(20,[0])),(1,(20,[0])),(2,(20,[0,3])),(3,(20,[0,3,4])),(5,(20,[0,3,4])),(4,(20,[0,3,4])),(6,(20,[3]))]
def c50r0:List Seg:=[
 .grp [(zp 10 (.loadN 3 (.t 1)),0),(zp 11 (.fieldA 1 (.t 1)),0),(zp 12 (.load1 (.t 11)),2),(zp 13 (.len 0 (.t 12)),6),(zp 14 (.make [.int .i64 0] 8 (.t 13) (.t 13)),14)],
 zo 15 (.call [] (.c (.func 78 [])) [(.t 10),(.t 14)]),
 zo 16 (.nilck (.t 15)),
 zo 17 (.fieldA 12 (.t 16)),
 zo 18 (.load1 (.t 17)),
 zm 2 18,
 zo 3 (.mv (.c (.int .i64 0)))]
def c50k0:ICode:=.kill 19 [1] (.ops c50r0)
def c50s1:ICode:=(.seq c50k0 .ret)
def c50r2:List Seg:=[
 zm 9 4,
 zo 2 (.mv (.c (.int .i64 0))),
 zm 3 9]
def c50k2:ICode:=.kill 19 [4] (.ops c50r2)
def c50s3:ICode:=(.cond (.t 8) (.seq c50k2 .ret) .skip)
def c50r4:List Seg:=[
 zm 7 4,
 zo 8 (.bin .neq (.t 7) (.c (.int .i64 0)))]
def c50k4:ICode:=.kill 19 qq112 (.ops c50r4)
def c50s5:ICode:=(.seq c50k4 c50s3)
def c50r6:List Seg:=[
 zo 5 (.loadN 3 (.t 1)),
 zo 6 (.call [] (.c (.func 59 [])) [(.t 5)]),
 zm 4 6]
def c50k6:ICode:=.kill 19 [1] (.ops c50r6)
def c50s7:ICode:=(.seq (.seq c50k6 c50s5) c50s1)
def c50r8:List Seg:=[
 zo 1 (.box (.t 0)),
 zo 2 (.mv (.c (.int .i64 0))),
 zo 3 (.mv (.c (.int .i64 0)))]
def c50k8:ICode:=.kill 19 [0] (.ops c50r8)
def c50b:ICode:=(.seq c50k8 c50s7)
def c50:IFn:=⟨19,[.t 2,.t 3],c50b⟩
def h50:List (Nat×Nat×List Nat):=[(0,(19,[0])),(1,(19,[1])),(2,(19,[1,4])),(3,(19,[4])),(4,(19,[1]))]
def c54r0:List Seg:=[
 zm 64 5,
 zm 4 64]
def c54k0:ICode:=.kill 65 [5] (.ops c54r0)
def c54s1:ICode:=(.seq c54k0 .ret)
def c54r3:List Seg:=[
 zm 17 6,
 zo 18 (.bin .add (.t 17) (.c (.int .i64 1))),
 zm 6 18]
def c54k3:ICode:=.kill 65 qq94 (.ops c54r3)
def c54r4:List Seg:=[
 .grp [(zn 50 5,0),(zp 51 (.idxA 3 1 (.t 7) (.c (.int .i64 2))),0),(zp 52 (.load1 (.t 51)),2),(zn 53 5,0),(zp 54 (.idxA 3 1 (.t 7) (.c (.int .i64 2))),0),(zp 55 (.load1 (.t 54)),16),(zp 56 (.idxS 1 (.t 53) (.t 55)),56),(zp 57 (.load1 (.t 56)),120),(zn 58 1,0),(zn 59 6,0),(zp 60 (.idxS 1 (.t 58) (.t 59)),768),(zp 61 (.load1 (.t 60)),1792),(zp 62 (.bin .sub (.t 57) (.t 61)),4088)],
 zo 63 (.idxS 1 (.t 50) (.t 52)),
 .one ⟨none,.store1 (.t 63) (.t 62),none⟩]
def c54k4:ICode:=.kill 65 qq83 (.ops c54r4)
def c54r5:List Seg:=[
 .grp [(zn 36 5,0),(zp 37 (.idxA 3 1 (.t 7) (.c (.int .i64 1))),0),(zp 38 (.load1 (.t 37)),2),(zn 39 5,0),(zp 40 (.idxA 3 1 (.t 7) (.c (.int .i64 1))),0),(zp 41 (.load1 (.t 40)),16),(zp 42 (.idxS 1 (.t 39) (.t 41)),56),(zp 43 (.load1 (.t 42)),120),(zn 44 1,0),(zn 45 6,0),(zp 46 (.idxS 1 (.t 44) (.t 45)),768),(zp 47 (.load1 (.t 46)),1792),(zp 48 (.bin .add (.t 43) (.t 47)),4088)],
 zo 49 (.idxS 1 (.t 36) (.t 38)),
 .one ⟨none,.store1 (.t 49) (.t 48),none⟩]
def c54k5:ICode:=.kill 65 qq83 (.ops c54r5)
def c54s6:ICode:=(.seq c54k5 c54k4)
def c54r7:List Seg:=[
 .grp [(zn 22 5,0),(zp 23 (.idxA 3 1 (.t 7) (.c (.int .i64 0))),0),(zp 24 (.load1 (.t 23)),2),(zn 25 5,0),(zp 26 (.idxA 3 1 (.t 7) (.c (.int .i64 0))),0),(zp 27 (.load1 (.t 26)),16),(zp 28 (.idxS 1 (.t 25) (.t 27)),56),(zp 29 (.load1 (.t 28)),120),(zn 30 1,0),(zn 31 6,0),(zp 32 (.idxS 1 (.t 30) (.t 31)),768),(zp 33 (.load1 (.t 32)),1792),(zp 34 (.bin .add (.t 29) (.t 33)),4088)],
 zo 35 (.idxS 1 (.t 22) (.t 24)),
 .one ⟨none,.store1 (.t 35) (.t 34),none⟩]
def c54k7:ICode:=.kill 65 qq83 (.ops c54r7)
def c54s8:ICode:=(.seq c54k7 c54s6)
def c54r9:List Seg:=[
 zo 19 (.loadN 3 (.t 2)),
 zm 20 6,
 zo 21 (.call [] (.c (.func 89 [])) [(.t 19),(.t 20)]),
 zo 7 (.box (.c (.agg [.int .i64 0,.int .i64 0,.int .i64 0]))),
 .one ⟨none,.storeN 3 (.t 7) (.t 21),none⟩]
def c54k9:ICode:=.kill 65 qq94 (.ops c54r9)
def c54s10:ICode:=(.seq (.block 1 (.seq c54k9 c54s8)) c54k3)
def c54s11:ICode:=(.cond (.t 16) .skip (.exit 0))
def c54r12:List Seg:=[
 zm 12 6,
 zo 13 (.fieldA 2 (.t 2)),
 zo 14 (.load1 (.t 13)),
 zo 15 (.len 0 (.t 14)),
 zo 16 (.bin .lss (.t 12) (.t 15))]
def c54k12:ICode:=.kill 65 qq94 (.ops c54r12)
def c54l2:ICode:=(.seq (.seq c54k12 c54s11) c54s10)
def c54s13:ICode:=(.block 0 (.loop c54l2))
def c54r14:List Seg:=[
 zo 6 (.mv (.c (.int .i64 0)))]
def c54k14:ICode:=.kill 65 qq95 (.ops c54r14)
def c54s15:ICode:=(.seq (.seq c54k14 c54s13) c54s1)
def c54r16:List Seg:=[
 zo 8 (.fieldA 1 (.t 2)),
 zo 9 (.load1 (.t 8)),
 zo 10 (.len 0 (.t 9)),
 zo 11 (.make [.int .i64 0] 8 (.t 10) (.t 10)),
 zm 5 11]
def c54k16:ICode:=.kill 65 qq100 (.ops c54r16)
def c54s17:ICode:=(.seq c54k16 c54s15)
def c54r18:List Seg:=[
 zo 2 (.box (.t 0)),
 zo 4 (.mv (.c .nilslice))]
def c54k18:ICode:=.kill 65 qq21 (.ops c54r18)
def c54b:ICode:=(.seq c54k18 c54s17)
def c54:IFn:=⟨65,[.t 4],c54b⟩
def h54:List (Nat×Nat×List Nat):=[(0,(65,[0,1])),(1,(65,[1,2])),(2,(65,[1,2,5])),(3,(65,[1,2,5,6])),(5,(65,[1,2,5,6])),(6,(65,[1,2,5,6,7])),(7,(65,[1,2,5,6,7])),(8,(65,[1,2,5,6,7])),(4,(65,[1,2,5,6])),(9,(65,[5]))]
def c55r0:List Seg:=[
 zm 42 5,
 zm 4 42]
def c55k0:ICode:=.kill 43 [5] (.ops c55r0)
def c55s1:ICode:=(.seq c55k0 .ret)
def c55r3:List Seg:=[
 zm 17 6,
 zo 18 (.bin .add (.t 17) (.c (.int .i64 1))),
 zm 6 18]
def c55k3:ICode:=.kill 43 qq94 (.ops c55r3)
def c55r4:List Seg:=[
 .grp [(zn 22 5,0),(zn 23 6,0),(zn 24 1,0),(zp 25 (.idxA 3 1 (.t 7) (.c (.int .i64 0))),0),(zp 26 (.load1 (.t 25)),8),(zp 27 (.idxS 1 (.t 24) (.t 26)),28),(zp 28 (.load1 (.t 27)),60),(zn 29 1,0),(zp 30 (.idxA 3 1 (.t 7) (.c (.int .i64 1))),0),(zp 31 (.load1 (.t 30)),256),(zp 32 (.idxS 1 (.t 29) (.t 31)),896),(zp 33 (.load1 (.t 32)),1920),(zp 34 (.bin .add (.t 28) (.t 33)),4092),(zn 35 1,0),(zp 36 (.idxA 3 1 (.t 7) (.c (.int .i64 2))),0),(zp 37 (.load1 (.t 36)),16384),(zp 38 (.idxS 1 (.t 35) (.t 37)),57344),(zp 39 (.load1 (.t 38)),122880),(zp 40 (.bin .sub (.t 34) (.t 39)),262140)],
 zo 41 (.idxS 1 (.t 22) (.t 23)),
 .one ⟨none,.store1 (.t 41) (.t 40),none⟩]
def c55k4:ICode:=.kill 43 qq83 (.ops c55r4)
def c55r5:List Seg:=[
 zo 19 (.loadN 3 (.t 2)),
 zm 20 6,
 zo 21 (.call [] (.c (.func 89 [])) [(.t 19),(.t 20)]),
 zo 7 (.box (.c (.agg [.int .i64 0,.int .i64 0,.int .i64 0]))),
 .one ⟨none,.storeN 3 (.t 7) (.t 21),none⟩]
def c55k5:ICode:=.kill 43 qq94 (.ops c55r5)
def c55s6:ICode:=(.seq (.block 1 (.seq c55k5 c55k4)) c55k3)
def c55s7:ICode:=(.cond (.t 16) .skip (.exit 0))
def c55r8:List Seg:=[
 zm 12 6,
 zo 13 (.fieldA 2 (.t 2)),
 zo 14 (.load1 (.t 13)),
 zo 15 (.len 0 (.t 14)),
 zo 16 (.bin .lss (.t 12) (.t 15))]
def c55k8:ICode:=.kill 43 qq94 (.ops c55r8)
def c55l2:ICode:=(.seq (.seq c55k8 c55s7) c55s6)
def c55s9:ICode:=(.block 0 (.loop c55l2))
def c55r10:List Seg:=[
 zo 6 (.mv (.c (.int .i64 0)))]
def c55k10:ICode:=.kill 43 qq95 (.ops c55r10)
def c55s11:ICode:=(.seq (.seq c55k10 c55s9) c55s1)
def c55r12:List Seg:=[
 zo 8 (.fieldA 2 (.t 2)),
 zo 9 (.load1 (.t 8)),
 zo 10 (.len 0 (.t 9)),
 zo 11 (.make [.int .i64 0] 8 (.t 10) (.t 10)),
 zm 5 11]
def c55k12:ICode:=.kill 43 qq100 (.ops c55r12)
def c55s13:ICode:=(.seq c55k12 c55s11)
def c55r14:List Seg:=[
 zo 2 (.box (.t 0)),
 zo 4 (.mv (.c .nilslice))]
def c55k14:ICode:=.kill 43 qq21 (.ops c55r14)
def c55b:ICode:=(.seq c55k14 c55s13)
def c55:IFn:=⟨43,[.t 4],c55b⟩
def h55:List (Nat×Nat×List Nat):=[(0,(43,[0,1])),(1,(43,[1,2])),(2,(43,[1,2,5])),(3,(43,[1,2,5,6])),(5,(43,[1,2,5,6])),(6,(43,[1,2,5,6,7])),(4,(43,[1,2,5,6])),(7,(43,[5]))]
def c56r0:List Seg:=[
 zm 22 3,
 zm 2 22]
def c56k0:ICode:=.kill 23 [3] (.ops c56r0)
def c56s1:ICode:=(.seq c56k0 .ret)
def c56r3:List Seg:=[
 zm 12 5,
 zo 13 (.bin .add (.t 12) (.c (.int .i64 1))),
 zm 5 13]
def c56k3:ICode:=.kill 23 qq102 (.ops c56r3)
def c56r4:List Seg:=[
 zm 20 3,
 zo 21 (.bin .add (.t 20) (.c (.int .i64 1))),
 zm 3 21]
def c56k4:ICode:=.kill 23 qq102 (.ops c56r4)
def c56s5:ICode:=(.cond (.t 19) c56k4 .skip)
def c56r6:List Seg:=[
 zm 14 4,
 zm 15 5,
 zo 16 (.idxS 1 (.t 14) (.t 15)),
 zo 17 (.load1 (.t 16)),
 zm 18 5,
 zo 19 (.bin .eql (.t 17) (.t 18))]
def c56k6:ICode:=.kill 23 qq102 (.ops c56r6)
def c56s7:ICode:=(.seq (.block 1 (.seq c56k6 c56s5)) c56k3)
def c56s8:ICode:=(.cond (.t 11) .skip (.exit 0))
def c56r9:List Seg:=[
 zm 8 5,
 zo 9 (.fieldA 0 (.t 1)),
 zo 10 (.load1 (.t 9)),
 zo 11 (.bin .lss (.t 8) (.t 10))]
def c56k9:ICode:=.kill 23 qq102 (.ops c56r9)
def c56l2:ICode:=(.seq (.seq c56k9 c56s8) c56s7)
def c56s10:ICode:=(.block 0 (.loop c56l2))
def c56r11:List Seg:=[
 zo 5 (.mv (.c (.int .i64 0)))]
def c56k11:ICode:=.kill 23 qq103 (.ops c56r11)
def c56s12:ICode:=(.seq (.seq c56k11 c56s10) c56s1)
def c56r13:List Seg:=[
 zo 6 (.loadN 3 (.t 1)),
 zo 7 (.call [] (.c (.func 31 [])) [(.t 6)]),
 zm 4 7]
def c56k13:ICode:=.kill 23 qq110 (.ops c56r13)
def c56s14:ICode:=(.seq c56k13 c56s12)
def c56r15:List Seg:=[
 zo 3 (.mv (.c (.int .i64 0)))]
def c56k15:ICode:=.kill 23 [1] (.ops c56r15)
def c56s16:ICode:=(.seq c56k15 c56s14)
def c56r17:List Seg:=[
 zo 1 (.box (.t 0)),
 zo 2 (.mv (.c (.int .i64 0)))]
def c56k17:ICode:=.kill 23 [0] (.ops c56r17)
def c56b:ICode:=(.seq c56k17 c56s16)
def c56:IFn:=⟨23,[.t 2],c56b⟩
def h56:List (Nat×Nat×List Nat):=[(0,(23,[0])),(1,(23,[1])),(2,(23,[1,3])),(3,(23,[1,3,4])),(4,(23,[1,3,4,5])),(6,(23,[1,3,4,5])),(7,(23,[1,3,4,5])),(5,(23,[1,3,4,5])),(8,(23,[3]))]
def c59r0:List Seg:=[
 zo 2 (.mv (.c (.int .i64 0)))]
def c59k0:ICode:=.kill 133 [] (.ops c59r0)
def c59s1:ICode:=(.seq c59k0 .ret)
def c59r3:List Seg:=[
 zo 132 (.bin .add (.t 73) (.c (.int .i64 1))),
 zm 73 132]
def c59k3:ICode:=.kill 133 qq124 (.ops c59r3)
def c59r5:List Seg:=[
 zo 131 (.bin .add (.t 122) (.c (.int .i64 1))),
 zm 122 131]
def c59k5:ICode:=.kill 133 qq123 (.ops c59r5)
def c59r6:List Seg:=[
 zo 2 (.mv (.c (.int .i64 30)))]
def c59k6:ICode:=.kill 133 [] (.ops c59r6)
def c59s7:ICode:=(.cond (.t 130) (.seq c59k6 .ret) .skip)
def c59r8:List Seg:=[
 zo 126 (.fieldA 1 (.t 1)),
 zo 127 (.load1 (.t 126)),
 zo 128 (.loadN 2 (.t 8)),
 zo 129 (.call [] (.c (.func 92 [])) [(.t 127),(.t 128)]),
 zo 130 (.un .not (.t 129))]
def c59k8:ICode:=.kill 133 qq125 (.ops c59r8)
def c59s9:ICode:=(.seq c59k8 c59s7)
def c59r10:List Seg:=[
 zo 124 (.idxS 2 (.t 120) (.t 122)),
 zo 125 (.loadN 2 (.t 124)),
 zo 8 (.box (.c (.agg [.int .i64 0,.int .i64 0]))),
 .one ⟨none,.storeN 2 (.t 8) (.t 125),none⟩]
def c59k10:ICode:=.kill 133 qq123 (.ops c59r10)
def c59s11:ICode:=(.seq (.block 5 (.seq c59k10 c59s9)) c59k5)
def c59s12:ICode:=(.seq (.cond (.t 123) .skip (.exit 4)) c59s11)
def c59r13:List Seg:=[
 zo 123 (.bin .lss (.t 122) (.t 121))]
def c59k13:ICode:=.kill 133 qq123 (.ops c59r13)
def c59l4:ICode:=(.seq c59k13 c59s12)
def c59s14:ICode:=(.block 4 (.loop c59l4))
def c59r15:List Seg:=[
 zo 105 (.idxA 3 1 (.t 6) (.c (.int .i64 0))),
 zo 106 (.load1 (.t 105)),
 zo 107 (.idxA 3 1 (.t 6) (.c (.int .i64 1))),
 zo 108 (.load1 (.t 107)),
 zo 109 (.mkagg [.int .i64 0,.int .i64 0] [(0,1,(.t 106)),(1,1,(.t 108))]),
 zo 110 (.idxA 3 1 (.t 6) (.c (.int .i64 0))),
 zo 111 (.load1 (.t 110)),
 zo 112 (.idxA 3 1 (.t 6) (.c (.int .i64 2))),
 zo 113 (.load1 (.t 112)),
 zo 114 (.mkagg [.int .i64 0,.int .i64 0] [(0,1,(.t 111)),(1,1,(.t 113))]),
 zo 115 (.idxA 3 1 (.t 6) (.c (.int .i64 1))),
 zo 116 (.load1 (.t 115)),
 zo 117 (.idxA 3 1 (.t 6) (.c (.int .i64 2))),
 zo 118 (.load1 (.t 117)),
 zo 119 (.mkagg [.int .i64 0,.int .i64 0] [(0,1,(.t 116)),(1,1,(.t 118))]),
 zo 120 (.mkslice 3 [.int .i64 0,.int .i64 0,.int .i64 0,.int .i64 0,.int .i64 0,.int .i64 0] [(0,2,(.t 109)),(2,2,(.t 114)),(4,2,(.t 119))]),
 zo 121 (.len 0 (.t 120)),
 zo 122 (.mv (.c (.int .i64 0)))]
def c59k15:ICode:=.kill 133 qq120 (.ops c59r15)
def c59s16:ICode:=(.seq c59k15 c59s14)
def c59r17:List Seg:=[
 zo 2 (.mv (.c (.int .i64 30)))]
def c59k17:ICode:=.kill 133 [] (.ops c59r17)
def c59s18:ICode:=(.cond (.t 104) (.seq c59k17 .ret) .skip)
def c59r19:List Seg:=[
 .grp [(zp 78 (.idxA 3 1 (.t 6) (.c (.int .i64 0))),0),(zp 79 (.load1 (.t 78)),1),(zp 80 (.idxA 3 1 (.t 6) (.c (.int .i64 1))),0),(zp 81 (.load1 (.t 80)),4)],
 zo 82 (.bin .geq (.t 79) (.t 81)),
 zm 83 82,
 .grp [(⟨some 84,.idxA 3 1 (.t 6) (.c (.int .i64 1)),some (83,false)⟩,0),(⟨some 85,.load1 (.t 84),some (83,false)⟩,1),(⟨some 86,.idxA 3 1 (.t 6) (.c (.int .i64 2)),some (83,false)⟩,0),(⟨some 87,.load1 (.t 86),some (83,false)⟩,4)],
 .one ⟨some 88,.bin .geq (.t 85) (.t 87),some (83,false)⟩,
 zo 89 (.pick (.t 83) (.c (.bool true)) (.t 88)),
 zm 90 89,
 .one ⟨some 91,.mv (.t 5),some (90,false)⟩,
 .one ⟨some 92,.bin .gtr (.t 91) (.c (.int .i64 0)),some (90,false)⟩,
 .one ⟨some 93,.mv (.t 92),some (90,false)⟩,
 .grp [(⟨some 94,.fieldA 2 (.t 1),some (93,true)⟩,0),(⟨some 95,.load1 (.t 94),some (93,true)⟩,1),(⟨some 96,.mv (.t 5),some (93,true)⟩,0),(⟨some 97,.bin .sub (.t 96) (.c (.int .i64 1)),some (93,true)⟩,4),(⟨some 98,.idxS 3 (.t 95) (.t 97),some (93,true)⟩,15),(⟨some 99,.sliceA 3 1 (.t 98) none none none,some (93,true)⟩,31),(⟨some 100,.sliceA 3 1 (.t 6) none none none,some (93,true)⟩,0)],
 .one ⟨some 101,.call [] (.c (.func 91 [])) [(.t 99),(.t 100)],some (93,true)⟩,
 .one ⟨some 102,.bin .geq (.t 101) (.c (.int .i64 0)),some (93,true)⟩,
 .one ⟨some 103,.pick (.t 93) (.t 102) (.c (.bool false)),some (90,false)⟩,
 zo 104 (.pick (.t 90) (.c (.bool true)) (.t 103))]
def c59k19:ICode:=.kill 133 qq114 (.ops c59r19)
def c59s20:ICode:=(.seq (.seq c59k19 c59s18) c59s16)
def c59r21:List Seg:=[
 zm 75 73,
 zo 76 (.idxS 3 (.t 71) (.t 73)),
 zo 77 (.loadN 3 (.t 76)),
 zo 6 (.box (.c (.agg [.int .i64 0,.int .i64 0,.int .i64 0]))),
 zm 5 75,
 .one ⟨none,.storeN 3 (.t 6) (.t 77),none⟩]
def c59k21:ICode:=.kill 133 qq124 (.ops c59r21)
def c59s22:ICode:=(.seq (.block 3 (.seq c59k21 c59s20)) c59k3)
def c59s23:ICode:=(.seq (.cond (.t 74) .skip (.exit 2)) c59s22)
def c59r24:List Seg:=[
 zo 74 (.bin .lss (.t 73) (.t 72))]
def c59k24:ICode:=.kill 133 qq124 (.ops c59r24)
def c59l2:ICode:=(.seq c59k24 c59s23)
def c59s25:ICode:=(.block 2 (.loop c59l2))
def c59r26:List Seg:=[
 zo 70 (.fieldA 2 (.t 1)),
 zo 71 (.load1 (.t 70)),
 zo 72 (.len 0 (.t 71)),
 zo 73 (.mv (.c (.int .i64 0)))]
def c59k26:ICode:=.kill 133 [1] (.ops c59r26)
def c59s27:ICode:=(.seq (.seq c59k26 c59s25) c59s1)
def c59r29:List Seg:=[
 zo 69 (.bin .add (.t 32) (.c (.int .i64 1))),
 zm 32 69]
def c59k29:ICode:=.kill 133 qq109 (.ops c59r29)
def c59r30:List Seg:=[
 zo 2 (.mv (.c (.int .i64 30)))]
def c59k30:ICode:=.kill 133 [] (.ops c59r30)
def c59s31:ICode:=(.cond (.t 68) (.seq c59k30 .ret) .skip)
def c59r32:List Seg:=[
 zo 37 (.idxA 2 1 (.t 4) (.c (.int .i64 0))),
 zo 38 (.load1 (.t 37)),
 zo 39 (.bin .lss (.t 38) (.c (.int .i64 0))),
 zm 40 39,
 .grp [(⟨some 41,.idxA 2 1 (.t 4) (.c (.int .i64 0)),some (40,false)⟩,0),(⟨some 42,.load1 (.t 41),some (40,false)⟩,1),(⟨some 43,.idxA 2 1 (.t 4) (.c (.int .i64 1)),some (40,false)⟩,0),(⟨some 44,.load1 (.t 43),some (40,false)⟩,4)],
 .one ⟨some 45,.bin .geq (.t 42) (.t 44),some (40,false)⟩,
 zo 46 (.pick (.t 40) (.c (.bool true)) (.t 45)),
 zm 47 46,
 .grp [(⟨some 48,.idxA 2 1 (.t 4) (.c (.int .i64 1)),some (47,false)⟩,0),(⟨some 49,.load1 (.t 48),some (47,false)⟩,1),(⟨some 50,.fieldA 0 (.t 1),some (47,false)⟩,0),(⟨some 51,.load1 (.t 50),some (47,false)⟩,4)],
 .one ⟨some 52,.bin .geq (.t 49) (.t 51),some (47,false)⟩,
 zo 53 (.pick (.t 47) (.c (.bool true)) (.t 52)),
 zm 54 53,
 .one ⟨some 55,.mv (.t 3),some (54,false)⟩,
 .one ⟨some 56,.bin .gtr (.t 55) (.c (.int .i64 0)),some (54,false)⟩,
 .one ⟨some 57,.mv (.t 56),some (54,false)⟩,
 .grp [(⟨some 58,.fieldA 1 (.t 1),some (57,true)⟩,0),(⟨some 59,.load1 (.t 58),some (57,true)⟩,1),(⟨some 60,.mv (.t 3),some (57,true)⟩,0),(⟨some 61,.bin .sub (.t 60) (.c (.int .i64 1)),some (57,true)⟩,4),(⟨some 62,.idxS 2 (.t 59) (.t 61),some (57,true)⟩,15),(⟨some 63,.sliceA 2 1 (.t 62) none none none,some (57,true)⟩,31),(⟨some 64,.sliceA 2 1 (.t 4) none none none,some (57,true)⟩,0)],
 .one ⟨some 65,.call [] (.c (.func 91 [])) [(.t 63),(.t 64)],some (57,true)⟩,
 .one ⟨some 66,.bin .geq (.t 65) (.c (.int .i64 0)),some (57,true)⟩,
 .one ⟨some 67,.pick (.t 57) (.t 66) (.c (.bool false)),some (54,false)⟩,
 zo 68 (.pick (.t 54) (.c (.bool true)) (.t 67))]
def c59k32:ICode:=.kill 133 qq101 (.ops c59r32)
def c59s33:ICode:=(.seq c59k32 c59s31)
def c59r34:List Seg:=[
 zm 34 32,
 zo 35 (.idxS 2 (.t 30) (.t 32)),
 zo 36 (.loadN 2 (.t 35)),
 zo 4 (.box (.c (.agg [.int .i64 0,.int .i64 0]))),
 zm 3 34,
 .one ⟨none,.storeN 2 (.t 4) (.t 36),none⟩]
def c59k34:ICode:=.kill 133 qq109 (.ops c59r34)
def c59s35:ICode:=(.seq (.block 1 (.seq c59k34 c59s33)) c59k29)
def c59s36:ICode:=(.seq (.cond (.t 33) .skip (.exit 0)) c59s35)
def c59r37:List Seg:=[
 zo 33 (.bin .lss (.t 32) (.t 31))]
def c59k37:ICode:=.kill 133 qq109 (.ops c59r37)
def c59l28:ICode:=(.seq c59k37 c59s36)
def c59s38:ICode:=(.block 0 (.loop c59l28))
def c59r39:List Seg:=[
 zo 29 (.fieldA 1 (.t 1)),
 zo 30 (.load1 (.t 29)),
 zo 31 (.len 0 (.t 30)),
 zo 32 (.mv (.c (.int .i64 0)))]
def c59k39:ICode:=.kill 133 [1] (.ops c59r39)
def c59s40:ICode:=(.seq (.seq c59k39 c59s38) c59s27)
def c59r41:List Seg:=[
 zo 2 (.mv (.c (.int .i64 30)))]
def c59k41:ICode:=.kill 133 [] (.ops c59r41)
def c59s42:ICode:=(.cond (.t 28) (.seq c59k41 .ret) .skip)
def c59r43:List Seg:=[
 zo 9 (.fieldA 0 (.t 1)),
 zo 10 (.load1 (.t 9)),
 zo 11 (.bin .lss (.t 10) (.c (.int .i64 1))),
 zm 12 11,
 .one ⟨some 13,.fieldA 0 (.t 1),some (12,false)⟩,
 .one ⟨some 14,.load1 (.t 13),some (12,false)⟩,
 .one ⟨some 15,.bin .gtr (.t 14) (.c (.int .i64 6)),some (12,false)⟩,
 zo 16 (.pick (.t 12) (.c (.bool true)) (.t 15)),
 zm 17 16,
 .one ⟨some 18,.fieldA 1 (.t 1),some (17,false)⟩,
 .one ⟨some 19,.load1 (.t 18),some (17,false)⟩,
 .one ⟨some 20,.len 0 (.t 19),some (17,false)⟩,
 .one ⟨some 21,.bin .gtr (.t 20) (.c (.int .i64 10)),some (17,false)⟩,
 zo 22 (.pick (.t 17) (.c (.bool true)) (.t 21)),
 zm 23 22,
 .one ⟨some 24,.fieldA 2 (.t 1),some (23,false)⟩,
 .one ⟨some 25,.load1 (.t 24),some (23,false)⟩,
 .one ⟨some 26,.len 0 (.t 25),some (23,false)⟩,
 .one ⟨some 27,.bin .gtr (.t 26) (.c (.int .i64 6)),some (23,false)⟩,
 zo 28 (.pick (.t 23) (.c (.bool true)) (.t 27))]
def c59k43:ICode:=.kill 133 [1] (.ops c59r43)
def c59s44:ICode:=(.seq (.seq c59k43 c59s42) c59s40)
def c59r45:List Seg:=[
 zo 1 (.box (.t 0)),
 zo 2 (.mv (.c (.int .i64 0)))]
def c59k45:ICode:=.kill 133 [0] (.ops c59r45)
def c59b:ICode:=(.seq c59k45 c59s44)
def c59:IFn:=⟨133,[.t 2],c59b⟩
def h59:List (Nat×Nat×List Nat):=[(0,(133,[0])),(1,(133,[1])),(2,(133,[])),(3,(133,[1])),(4,(133,[1,30,31,32])),(5,(133,[1,30,31,32])),(6,(133,[1,3,4,30,31,32])),(7,(133,[])),(8,(133,[1,30,31,32])),(9,(133,[1])),(10,(133,[1,71,72,73])),(11,(133,[1,71,72,73])),(12,(133,[1,5,6,71,72,73])),(13,(133,[])),(14,(133,[1,6,71,72,73])),(15,(133,[1,71,72,73,120,121,122])),(16,(133,[1,71,72,73,120,121,122])),(17,(133,[1,8,71,72,73,120,121,122])),(18,(133,[])),(19,(133,[1,71,72,73,120,121,122])),(20,(133,[1,71,72,73])),(21,(133,[]))]
end Go.Abs