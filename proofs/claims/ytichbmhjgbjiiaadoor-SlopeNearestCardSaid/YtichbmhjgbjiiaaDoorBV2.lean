/- The texts that the row uses, part 2. -/
import Derived.Test.YtichbmhjgbjiiaaDoorBV1
set_option linter.unusedVariables false
set_option linter.unusedSimpArgs false
set_option maxHeartbeats 32000000
set_option maxRecDepth 100000
namespace Go.Abs
section
variable {P:Program}{gl:List Nat}{call:Nat->List AV->List Row->Option (AV×List Row×Option Nat)}{B:Nat->List Row}{rows:List Row}{sl0:List AV}{m:Nat}{L:Nat->IOpx×Nat}{v:Nat->AV}{EX:Nat->List (Nat×Row)}{SL:Nat->List AV}{rw_:Nat->List Row}{θ0:Th}{w0:World}{X:Nat->Prop}
theorem Inv.rel(htr:Tr call B rows.length L 0 m SL EX v rw_)(hS0:SL 0=sl0)(h0:EX 0=[]){S:Nat->Bool}{θ:Th}{a:Act}{w:World}(hI:Inv (KP P gl) X θ0 B rows sl0 m L v EX w0 S θ a.tmps w)(hS:∀j,j<m->S j=true):
  SRel θ (SL m) a.tmps/\HRel (KP P gl) θ (rows++(EX m).map (·.2)) w:=by
 have hbase:∀id K,id<rows.length->θ id=some K->θ0 id=some K:=fun id K hid hK=>by
  rcases hI.dom id K hK with h|⟨_,p,q,r,e,_⟩
  ·exact h
  ·omega
 have hget:∀id r,(rows++(EX m).map (·.2))[id]?=some r->(id<rows.length/\rows[id]?=some r)\/∃p q,id=rows.length+p/\(EX m)[p]?=some (q,r)/\S q=true:=fun id r e=>by
  rcases Adc id rows.length with h|h
  ·rw[AcD h]at e
   exact .inl ⟨h,e⟩
  ·rw[AcG h]at e
   simp only[Ac9,AcK]at e;obtain⟨⟨q,r0⟩,e1,e2⟩:=e;simp only at e2;subst e2;obtain⟨o1,_⟩:=Tr.owner htr h0 (i:=m) (AcE _) e1;exact .inr ⟨id-rows.length,q,by omega,e1,hS q o1⟩
 refine⟨⟨by rw[htr.sl_len hS0 m (AcE _),hI.size],fun t x x' hx hx'=>?_⟩,⟨fun id K e=>?_,hI.blk,fun id r e=>?_,fun p p' r s K K' hne hp hpo hq hql hK hK'=>?_⟩⟩
 ·have htl:t<sl0.length:=by
   have:=(AcF.1 hx).1;rw[htr.sl_len hS0 m (AcE _)]at this;exact this
  have hV:=hI.slots t x' hx';have e1:AQ sl0 rows.length L v (fun j=>rows.length+(EX j).length) S m t=AQ sl0 rows.length L v (fun j=>rows.length+(EX j).length) (fun _=>true) m t:=A3 m (fun j hj _=>hS j hj);rw[e1,(Cj (sl0:=sl0) htr hS0 htl m (AcE _)).1]at hV;have:(SL m).getD t .any=x:=by simp[List.getD,hx]
  rw[this]at hV;exact hV.mono (Th.upto_ext _ _)
 ·rcases hI.dom id K e with h|⟨_,p,q,r,h2,h3,_⟩
  ·have:=hI.base.dom id K h
   simp;omega
  ·have:=(AcF.1 h3).1
   simp;omega
 ·rcases hget id r e with ⟨a,b⟩|⟨p,q,rfl,c1,c2⟩
  ·exact(hI.base.row id r b).mono hI.ext (fun _ _=>rfl)
  ·exact(hI.rows_ p q r c1 c2).mono (Th.upto_ext _ _) (fun _ _=>rfl)
 ·rcases hget p r hp with ⟨a,b⟩|⟨x,q,rfl,c1,c2⟩
  ·rcases hget p' s hq with ⟨a',b'⟩|⟨x',q',rfl,d1,d2⟩
   ·exact hI.base.inj p p' r s K K' hne b hpo b' hql (hbase p K a hK) (hbase p' K' a' hK')
   ·have h1:=hI.base0 p K (hbase p K a hK)
    rcases hI.dom _ K' hK' with h|⟨h2,_⟩
    ·have:=hI.base.dom _ K' h;omega
    ·omega
  ·rcases hget p' s hq with ⟨a',b'⟩|⟨x',q',rfl,d1,d2⟩
   ·have h1:=hI.base0 p' K' (hbase p' K' a' hK')
    rcases hI.dom _ K hK with h|⟨h2,_⟩
    ·have:=hI.base.dom _ K h;omega
    ·omega
   ·exact hI.inj x x' q q' r s K K' (fun e=>hne (by omega)) c1 c2 hpo d1 d2 hql hK hK'
theorem Inv.done(htr:Tr call B rows.length L 0 m SL EX v rw_)(hS0:SL 0=sl0)(h0:EX 0=[]){S:Nat->Bool}{θ:Th}{a:Act}{w:World}(hI:Inv (KP P gl) (fun _=>False) θ0 B rows sl0 m L v EX w0 S θ a.tmps w)(hS:∀j,j<m->S j=true)(low:Nat)(hlow:low<=rows.length):
  SRel θ (SL m) a.tmps/\Fr (KP P gl) θ0 θ rows (rows++(EX m).map (·.2)) low low w0 w:=by
 obtain⟨r1,r2⟩:=hI.rel htr hS0 h0 hS;refine⟨r1,hI.ext,r2,by simp,AcE _,hI.os,hI.tape,hI.output,hI.wsize,fun id hid=>?_,fun b hb _=>hI.heap b hb (fun h=>h),fun id r e o hid=>?_,fun id r e o hid=>?_,fun id K e hn=>?_⟩
 ·rw[AcD (by omega)]
 ·rw[AcD hid]at e
  exact⟨r,e,o⟩
 ·rw[AcD hid]at e
  exact⟨r,e,o⟩
 ·rcases hI.dom id K e with h|⟨h1,p,q,r,h2,h3,_⟩
  ·rw[h]at hn;simp at hn
  ·exact⟨by omega,.inl h1⟩
theorem Inv.doneW{R:Nat}{r0 r':Row}{LR:Loc}(htr:Tr call B (rows.set R .dead).length L 0 m SL EX v rw_)(hS0:SL 0=sl0)(h0:EX 0=[]){S:Nat->Bool}{θ:Th}{a:Act}{w:World}(hI:Inv (KP P gl) (fun b=>b=LR.b) θ0 B (rows.set R .dead) sl0 m L v EX w0 S θ a.tmps w)(hS:∀j,j<m->S j=true)
  (hr:HRel (KP P gl) θ0 rows w0) (hR:rows[R]?=some r0) (ho:r0.owned=true) (hLR:θ0 R=some LR) (hrow:RowRel (KP P gl) θ R w r') (ho':r'.owned=true) (low:Nat) (hlow:low<=rows.length):
  SRel θ (SL m) a.tmps/\Fr (KP P gl) θ0 θ rows (rows.set R r'++(EX m).map (·.2)) low (Ab low R) w0 w:=by
 obtain⟨r1,r2⟩:=hI.rel htr hS0 h0 hS;have hRl:R<rows.length:=(AcF.1 hR).1;have hget:∀id r,(rows.set R r'++(EX m).map (·.2))[id]?=some r->(id=R/\r=r')\/(id≠R/\(rows.set R .dead++(EX m).map (·.2))[id]?=some r):=fun id r e=>by
  by_cases hid:id=R
  ·subst hid
   rw[AcD (by simpa using hRl),AcM (by simpa using hRl)]at e;injection e with e
   exact .inl ⟨rfl,e.symm⟩
  ·refine .inr ⟨hid,?_⟩
   rcases Adc id rows.length with h|h
   ·rw[AcD (by simpa using h),AcH (Ne.symm hid)]at e ⊢
    exact e
   ·rw[AcG (by simpa using h)]at e ⊢
    simpa using e
 -- no other live row has the written row's block
 have hsole:∀id r K,id≠R->(rows.set R .dead++(EX m).map (·.2))[id]?=some r->r.live=true->θ id=some K->LR.b≠K.b:=fun id r K hne e hl hK=>by
  rcases hI.dom id K hK with h|⟨h1,p,q,s,h2,h3,_⟩
  ·have hid:=hr.dom id K h
   rw[AcD (by simpa using hid),AcH (Ne.symm hne)]at e;exact hr.inj R id r0 r LR K (Ne.symm hne) hR ho e hl hLR h
  ·have:=hI.base0 R LR hLR
   omega
 have hθR:θ R=some LR:=hI.ext _ _ hLR;refine⟨r1,hI.ext,⟨fun id K e=>?_,r2.blk,fun id r e=>?_,fun p p' r s K K' hne hp hpo hq hql hK hK'=>?_⟩,by simp,AW _ _,hI.os,hI.tape,hI.output,hI.wsize,fun id hid=>?_,fun b hb hn=>?_,fun id r e o hid=>?_,fun id r e o hid=>?_,fun id K e hn=>?_⟩
 ·have:=r2.dom id K e
  simpa using this
 ·rcases hget id r e with ⟨rfl,rfl⟩|⟨hne,e2⟩
  ·exact hrow
  ·exact r2.row id r e2
 ·rcases hget p r hp with ⟨rfl,rfl⟩|⟨n1,e1⟩
  ·rcases hget p' s hq with ⟨rfl,rfl⟩|⟨n2,e2⟩
   ·exact absurd rfl hne
   ·rw[hθR]at hK;injection hK with hK;subst hK
    exact hsole p' s K' n2 e2 hql hK'
  ·rcases hget p' s hq with ⟨rfl,rfl⟩|⟨n2,e2⟩
   ·rw[hθR]at hK';injection hK' with hK';subst hK'
    exact fun h=>hsole p r K n1 e1 (Row.live_of_owned hpo) hK h.symm
   ·exact r2.inj p p' r s K K' hne e1 hpo e2 hql hK hK'
 ·have:=AK low R
  have:=AW low R;rw[AcD (by simp;omega),AcH (by omega)]
 ·exact hI.heap b hb (fun h=>hn R r0 LR hR ho (AK _ _) hLR h.symm)
 ·rcases hget id r e with ⟨rfl,rfl⟩|⟨hne,e2⟩
  ·exact⟨r0,hR,ho⟩
  ·rw[AcD (by simpa using hid),AcH (Ne.symm hne)]at e2
   exact⟨r,e2,o⟩
 ·rcases hget id r e with ⟨rfl,rfl⟩|⟨hne,e2⟩
  ·exact⟨r0,hR,Row.live_of_owned ho⟩
  ·rw[AcD (by simpa using hid),AcH (Ne.symm hne)]at e2
   exact⟨r,e2,o⟩
 ·rcases hI.dom id K e with h|⟨h1,p,q,r,h2,h3,_⟩
  ·rw[h]at hn;simp at hn
  ·have:(rows.set R Row.dead).length=rows.length:=by simp
   exact⟨by omega,.inl h1⟩
structure DrawSt(ops:Array Oper)(c fuel:Nat)(listed:Array Bool):Prop where
 size:listed.size=ops.size
 at_:∀j,listed.getD j false=decide (j<c)
 closed:∀j,listed.getD j false=true->∀q,((Region.before ops).getD j 0).testBit q=true->listed.getD q false=true
 fuel:listed.toList.countP (fun x=>!x)<=fuel
def Ee(ops:Array Oper):Prop:=∀j o,ops[j]?=some o->∀e∈o.after,Region.binds .any e=true->e.on<j
theorem Ma{ops:Array Oper}{listed:Array Bool}(hsz:listed.size=ops.size){i:Nat}(hi:i<ops.size)(b:Bool):listed.getD i false=b↔listed[i]?=some b:=by
 have:i<listed.size:=by omega
 simp[Array.getD,this,Array.getElem?_eq_getElem this]
theorem TW{ops:Array Oper}{fuel:Nat}{listed:Array Bool}(h:DrawSt ops ops.size fuel listed)(t:Nat):Region.linearise.go .any ops fuel t listed []=[]:=by
 cases fuel with
 |zero=>rfl
 |succ fuel=>
  have hready:Region.ready .any ops listed=[]:=by
   match hq:Region.ready .any ops listed with
   |[]=>rfl
   |x::r=>
    have hx:x∈Region.ready .any ops listed:=by rw[hq];simp
    obtain⟨h1,o,ho,h2⟩:=mem_ready.1 hx;have hj:x<ops.size:=(Array.getElem?_eq_some_iff.1 ho).1;have h3:=h.at_ x;simp only[hj,decide_true]at h3;simp only[Array.getD,h.size,hj,dif_pos]at h1 h3;exact absurd (h3.symm.trans h1) (by simp)
  simp only[Region.linearise.go]
  change (match (Region.ready .any ops listed)[t%(Region.ready .any ops listed).length]? with
   |some i=>Region.linearise.go .any ops fuel (t/(Region.ready .any ops listed).length) (listed.setIfInBounds i true) [i]
   |none=>[].reverse)=_
  rw[hready]
  rfl
theorem I1{ops:Array Oper}{listed:Array Bool}(hsz:listed.size=ops.size){i:Nat}(hi:i<ops.size)(hu:listed.getD i false=false){fuel:Nat}(h:listed.toList.countP (fun x=>!x)<=fuel+1):(listed.setIfInBounds i true).toList.countP (fun x=>!x)<=fuel:=by
 have hlt2:i<listed.toList.length:=by simp;omega
 rw[Array.toList_setIfInBounds,List.countP_set hlt2];have hfi:listed.toList[i]=false:=by
  simp only[Array.getD,hsz,hi,dif_pos]at hu;simpa using hu
 rw[hfi];simp only[Bool.not_false,Bool.not_true,if_true,AdF,if_false];omega
theorem Ya{ops:Array Oper}(hed:Ee ops){c fuel:Nat}{listed:Array Bool}(h:DrawSt ops c fuel listed)(hc:c<ops.size)(hend:∀j,c+1<=j->j<ops.size->∀q,q<c+1->((Region.before ops).getD j 0).testBit q=true)(t:Nat):
  ∃fuel' t' listed',Region.linearise.go .any ops fuel t listed []=c::Region.linearise.go .any ops fuel' t' listed' []/\DrawSt ops (c+1) fuel' listed':=by
 have hun:listed.getD c false=false:=by rw[h.at_];simp
 have hpos:0<fuel:=by
  refine Adl ?_ h.fuel;rw[List.countP_pos_iff];have:c<listed.toList.length:=by have:=h.size;simp;omega
  refine⟨false,?_,rfl⟩;rw[Ma h.size hc]at hun;have:=AeC.2 ⟨c,by rw[Array.getElem?_toList];exact hun⟩;exact this
 obtain⟨fuel,rfl⟩:∃n,fuel=n+1:=⟨fuel-1,by omega⟩
 have hmem:∀j,j∈Region.ready .any ops listed↔j=c:=by
  intro j;rw[mem_ready];constructor
  ·rintro ⟨h1,o,ho,h2⟩
   have hj:j<ops.size:=(Array.getElem?_eq_some_iff.1 ho).1;have h1':listed.getD j false=false:=by
    simp only[Array.getD,h.size,hj,dif_pos]at h1 ⊢;exact h1
   have hjc:c<=j:=by
    rw[h.at_ j]at h1';simpa using h1'
   rcases AdJ hjc with e|e
   ·exact e.symm
   ·exfalso
    have hb:=hend j (by omega) hj c (by omega);obtain⟨o',ho',e',he1,he2,he3⟩:=Ef ops hed hb;rw[ho]at ho';injection ho' with ho';subst ho'
    have hle:=h2 e' he1 he2;rcases he3 with he3|he3
    ·rw[he3,h.at_ c]at hle;simp at hle
    ·have:=h.closed _ hle c he3
     rw[h.at_ c]at this;simp at this
  ·rintro rfl
   refine⟨?_,ops[j],Array.getElem?_eq_getElem hc,fun e he hb=>?_⟩
   ·simp only[Array.getD,h.size,hc,dif_pos]at hun ⊢
    exact hun
   ·have:=hed j _ (Array.getElem?_eq_getElem hc) e he hb
    rw[h.at_];simpa using this
 have hready:Region.ready .any ops listed=[c]:=by
  have hnd:(Region.ready .any ops listed).Nodup:=by unfold Region.ready;exact List.Pairwise.filter _ List.nodup_range
  have h1:c∈Region.ready .any ops listed:=(hmem c).2 rfl
  match hq:Region.ready .any ops listed with
  |[]=>rw[hq]at h1;simp at h1
  |[x]=>rw[hq]at h1;simp at h1;rw[h1]
  |x::y::r=>
   rw[hq]at hnd;have hx:=(hmem x).1 (by rw[hq];simp);have hy:=(hmem y).1 (by rw[hq];simp);rw[hx,hy]at hnd;simp at hnd
 refine⟨fuel,t/1,listed.setIfInBounds c true,?_,by simp[h.size],fun j=>?_,fun j hj q hq=>?_,I1 h.size hc hun h.fuel⟩
 ·simp only[Region.linearise.go]
  change (match (Region.ready .any ops listed)[t%(Region.ready .any ops listed).length]? with
   |some i=>Region.linearise.go .any ops fuel (t/(Region.ready .any ops listed).length) (listed.setIfInBounds i true) [i]
   |none=>[].reverse)=_
  rw[hready];simp only[List.length_singleton,Nat.mod_one,List.getElem?_cons_zero];rw[linearise_go_acc]
  rfl
 ·by_cases e:c=j
  ·subst e
   simp[h.size,hc]
  ·rw[getD_set_ne false e,h.at_ j]
   congr 1;exact propext ⟨fun h=>by omega,fun h=>by omega⟩
 ·by_cases e:c=j
  ·subst e
   refine getD_set_true ?_;obtain⟨o',ho',e',he1,he2,he3⟩:=Ef ops hed hq;have hon:=hed _ _ ho' e' he1 he2;have hlon:listed.getD e'.on false=true:=by rw[h.at_];simpa using hon
   rcases he3 with he3|he3
   ·rw[<-he3];exact hlon
   ·exact h.closed _ hlon q he3
  ·rw[getD_set_ne false e]at hj
   exact getD_set_true (h.closed j hj q hq)
theorem Jq(J:(Nat->Bool)->Th->Array Value->World->Prop){ops:Array Oper}{c:Nat}(hm:c+m<=ops.size)(b:Frame)(k:List Item)(cs:List Frame)
  (hstep:∀(S:Nat->Bool) (θ:Th) (a:Act) (w:World) (i:Nat) (o:Oper) (rest:List Nat),J S θ a.tmps w->i<m->S i=false->(∀j,S j=true->j<m->∀q,((Region.before ops).getD (c+j) 0).testBit (c+q)=true->S q=true)->(∀q,((Region.before ops).getD (c+i) 0).testBit (c+q)=true->S q=true)->ops[c+i]?=some o->
   ∃θ' w' v',Steps P (lone (b.atR a (.inRegion ops ((c+i)::rest)::k)) cs w) (lone (b.atR (a.put o.dst v') (.inRegion ops rest::k)) cs w')/\J (fun j=>S j||j==i) θ' (a.put o.dst v').tmps w')
  (hed:Ee ops) (hend:∀j,c+m<=j->j<ops.size->∀q,q<c+m->((Region.before ops).getD j 0).testBit q=true):
  ∀(fuel t:Nat) (listed:Array Bool) (θ:Th) (a:Act) (w:World),listed.size=ops.size->(∀j,j<c->listed.getD j false=true)->J (fun j=>listed.getD (c+j) false) θ a.tmps w->(∀j,c+m<=j->listed.getD j false=false)->
   (∀j,listed.getD j false=true->∀q,((Region.before ops).getD j 0).testBit q=true->listed.getD q false=true)->listed.toList.countP (fun x=>!x)<=fuel->
   ∃θ' w' a' fuel' t' listed',Steps P (lone (b.atR a (.inRegion ops (Region.linearise.go .any ops fuel t listed [])::k)) cs w) (lone (b.atR a' (.inRegion ops (Region.linearise.go .any ops fuel' t' listed' [])::k)) cs w')/\a'.defers=a.defers/\DrawSt ops (c+m) fuel' listed'/\
    ∃S,(∀j,j<m->S j=true)/\J S θ' a'.tmps w':=by
 intro fuel
 induction fuel with
 |zero=>
  intro t listed θ a w hsz hlo hI hun hcl hcnt;have hall:∀j,j<ops.size->listed.getD j false=true:=fun j hj=>by
   have h0':listed.toList.countP (fun x=>!x)=0:=by omega
   rw[List.countP_eq_zero]at h0';have:=h0' (listed[j]'(by omega)) (by simp);simp only[Array.getD,hsz,hj,dif_pos];simpa using this
  have hmn:c+m=ops.size:=by
   rcases AdJ hm with e|e
   ·exact e
   ·have h1:=hun (c+m) (AcE _)
    rw[hall (c+m) e]at h1;simp at h1
  refine⟨θ,w,a,0,t,listed,Steps.refl _ _,rfl,⟨hsz,fun j=>?_,hcl,hcnt⟩,_,fun j hj=>hall (c+j) (by omega),hI⟩
  by_cases hj:j<c+m
  ·rw[hall j (by omega)];simp[hj]
  ·rw[hun j (by omega)];simp[hj]
 |succ fuel ih=>
  intro t listed θ a w hsz hlo hI hun hcl hcnt
  by_cases hdone:∀j,j<c+m->listed.getD j false=true
  ·refine⟨θ,w,a,fuel+1,t,listed,Steps.refl _ _,rfl,⟨hsz,fun j=>?_,hcl,hcnt⟩,_,fun j hj=>hdone (c+j) (by omega),hI⟩
   by_cases hj:j<c+m
   ·rw[hdone j hj];simp[hj]
   ·rw[hun j (by omega)];simp[hj]
  ·-- some operation of the group is still to come
   have hne:∃j,j<c+m/\listed.getD j false=false:=by
    refine Classical.byContradiction fun h=>hdone fun j hj=>?_
    cases e:listed.getD j false with
    |true=>rfl
    |false=>exact absurd ⟨j,hj,e⟩ h
   have hrdy:Region.ready .any ops listed≠[]:=by
    obtain⟨j0,hj0,hu0⟩:=hne;have:∃j,listed.getD j false=false/\∀j',j'<j->listed.getD j' false=true:=by
     have key:∀n,(∃j,j<n/\listed.getD j false=false)->∃j,listed.getD j false=false/\∀j',j'<j->listed.getD j' false=true:=by
      intro n
      induction n with
      |zero=>rintro ⟨j,hj,_⟩;omega
      |succ n ihn=>
       rintro ⟨j,hj,hu⟩
       by_cases hex:∃j,j<n/\listed.getD j false=false
       ·exact ihn hex
       ·have hjn:j=n:=by
         rcases Adc j n with h|h
         ·exact absurd ⟨j,h,hu⟩ hex
         ·omega
        subst hjn;refine⟨j,hu,fun j' hj'=>?_⟩;cases e:listed.getD j' false with
        |true=>rfl
        |false=>exact absurd ⟨j',hj',e⟩ hex
     exact key (c+m) ⟨j0,hj0,hu0⟩
    obtain⟨j,hu,hmin⟩:=this;have hjs:j<ops.size:=by
     rcases Adc j ops.size with h|h
     ·exact h
     ·have:=hmin j0 (by omega)
      rw[hu0]at this;simp at this
    intro hnil;have hin:j∈Region.ready .any ops listed:=by
     rw[mem_ready];refine⟨?_,ops[j],Array.getElem?_eq_getElem hjs,fun e he hb=>hmin _ (hed j _ (Array.getElem?_eq_getElem hjs) e he hb)⟩;simp only[Array.getD,hsz,hjs,dif_pos]at hu ⊢;exact hu
    rw[hnil]at hin;simp at hin
   simp only[Region.linearise.go]
   change ∃θ' w' a' fuel' t' listed',Steps P (lone (b.atR a (.inRegion ops (match (Region.ready .any ops listed)[t%(Region.ready .any ops listed).length]? with
    |some i=>Region.linearise.go .any ops fuel (t/(Region.ready .any ops listed).length) (listed.setIfInBounds i true) [i]
    |none=>[].reverse)::k)) cs w) _/\_
   have hlt:t%(Region.ready .any ops listed).length<(Region.ready .any ops listed).length:=Nat.mod_lt _ (List.length_pos_iff.2 hrdy);rw[AcR hlt];simp only;generalize hi:(Region.ready .any ops listed)[t%(Region.ready .any ops listed).length]=ii;have hmem:ii∈Region.ready .any ops listed:=by rw[<-hi];exact Aer hlt
   obtain⟨h1,o,ho,h2⟩:=mem_ready.1 hmem;have his:ii<ops.size:=(Array.getElem?_eq_some_iff.1 ho).1;have hui:listed.getD ii false=false:=by
    simp only[Array.getD,hsz,his,dif_pos]at h1 ⊢;exact h1
   have hbits:∀q,((Region.before ops).getD ii 0).testBit q=true->listed.getD q false=true:=fun q hq=>by
    obtain⟨o',ho',e',he1,he2,he3⟩:=Ef ops hed hq;rw[ho]at ho';injection ho' with ho';subst ho'
    have hle:=h2 e' he1 he2;rcases he3 with he3|he3
    ·rw[<-he3];exact hle
    ·exact hcl _ hle q he3
   have him:ii<c+m:=by
    rcases Adc ii (c+m)with h|h
    ·exact h
    ·obtain⟨j0,hj0,hu0⟩:=hne
     have:=hbits j0 (hend ii h his j0 hj0);rw[hu0]at this;simp at this
   have hic:c<=ii:=by
    rcases Adc ii c with h|h
    ·rw[hlo ii h]at hui;simp at hui
    ·exact h
   obtain⟨i,rfl⟩:∃i,ii=c+i:=⟨ii-c,by omega⟩
   rw[linearise_go_acc,List.reverse_singleton,List.singleton_append];obtain⟨θ1,w1,v1,st,hI1⟩:=hstep _ θ a w i o (Region.linearise.go .any ops fuel (t/(Region.ready .any ops listed).length) (listed.setIfInBounds (c+i) true) []) hI (by omega) hui (fun j hj _ q hq=>hcl _ hj _ hq) (fun q hq=>hbits _ hq) ho;have hSeq:(fun j=>(listed.getD (c+j) false)||j==i)=fun j=>(listed.setIfInBounds (c+i) true).getD (c+j) false:=by
    funext j
    by_cases e:i=j
    ·subst e
     simp[hsz,his]
    ·rw[getD_set_ne false (by omega)]
     have:(j==i)=false:=by simpa using fun h=>e h.symm
     simp[this]
   rw[hSeq]at hI1;obtain⟨θ',w',a',fuel',t',listed',st2,hdef,hst,S,hS,hI2⟩:=ih (t/(Region.ready .any ops listed).length) (listed.setIfInBounds (c+i) true) θ1 (a.put o.dst v1) w1 (by simp[hsz]) (fun j hj=>by rw[getD_set_ne false (by omega)];exact hlo j hj) hI1 (fun j hj=>by rw[getD_set_ne false (by omega)];exact hun j hj)
    (fun j hj q hq=>by
     by_cases e:c+i=j
     ·subst e;exact getD_set_true (hbits q hq)
     ·rw[getD_set_ne false e]at hj
      exact getD_set_true (hcl j hj q hq)) (I1 hsz his hui hcnt)
   refine⟨θ',w',a',fuel',t',listed',st.trans st2,?_,hst,S,hS,hI2⟩;rw[hdef];cases o.dst<;>rfl
theorem DrawSt.start(ops:Array Oper):DrawSt ops 0 ops.size (Array.replicate ops.size false):=
 ⟨by simp,fun j=>by simp[Array.getD],fun j hj=>by simp[Array.getD]at hj,by
  have:=List.countP_le_length (l:=(Array.replicate ops.size false).toList) (p:=fun x=>!x)
  simpa using this⟩
end
section
variable {P:Program}{gl:List Nat}
theorem CP:∀(l:List (IOpx×Nat)) (i:Nat),D3 l i=true->∀(j k:Nat) (p q:IOpx×Nat),k<j->l[k]?=some p->l[j]?=some q->q.2.testBit (i+k)=true\/C7 p.1 q.1=true
 |[],i,_,j,k,p,q,_,h,_=>by simp at h
 |
  (o,bb)::r,i,h,j,k,p,q,hjk,hk,hj=>by
  simp only[D3,Ac3,AcT,Ael]at h;cases j with
  |zero=>omega
  |succ j=>
   have hj':r[j]?=some q:=by simpa using hj
   cases k with
   |zero=>
    simp at hk;subst hk;simpa using h.1 q (Ac5 hj')
   |succ k=>
    have:=CP r (i+1) h.2 j k p q (by omega) (by simpa using hk) hj';rw[show i+(k+1)=i+1+k from by omega];exact this
theorem Jh{ops:Array Oper}{b:Nat}(h:HT (Region.before ops).toList b=true):∀j,b<=j->j<ops.size->∀q,q<b->((Region.before ops).getD j 0).testBit q=true:=by
 intro j hj hjs q hq;have hbs:(Region.before ops).size=ops.size:=by
  have:=(B0 ops.toList #[] 0 0).2;unfold Region.before;rw[<-Array.foldl_toList];simpa using this
 unfold HT at h;rw[AcT]at h;have hmem:(Region.before ops).getD j 0∈(Region.before ops).toList.drop b:=by
  refine AeC.2 ⟨j-b,?_⟩;rw[Adr,show b+(j-b)=j from by omega,Array.getElem?_toList,Array.getD_eq_getD_getElem?,Array.getElem?_eq_getElem (by omega)]
  rfl
 have:=h _ hmem;simp only[beq_iff_eq]at this;have h2:=congrArg (fun x=>Nat.testBit x q) this;simp only[Nat.testBit_and,Nat.testBit_two_pow_sub_one,hq,decide_true,Aeu]at h2;exact h2
theorem I8{ops:Array Oper}(h:Hr ops=true):Ee ops:=fun j o ho e he hb=>by
 have hj:j<ops.size:=(Array.getElem?_eq_some_iff.1 ho).1;simp only[Hr,AcT,Adm,Array.all_eq_true_iff_forall_mem,Ael,Bool.not_eq_true',decide_eq_true_eq]at h;have:=h j hj e (by rw[Array.getD_eq_getD_getElem?,ho];exact he);rcases this with h|h
 ·rw[hb]at h;simp at h
 ·exact h
def Lat(P:Program)(gl:List Nat)(ops:Array Oper)(c j:Nat):IOpx×Nat:=((ops.map (DN P gl ops)).getD (c+j) default,(Region.before ops).getD (c+j) 0 >>> c)
theorem SF{ops:Array Oper}{c j:Nat}{o:Oper}(ho:ops[c+j]?=some o):(Lat P gl ops c j).1=DN P gl ops o:=by
 simp only[Lat];rw[Array.getD_eq_getD_getElem?,Array.getElem?_map,ho]
 rfl
theorem D4{ops:Array Oper}{c j q:Nat}:(Lat P gl ops c j).2.testBit q=((Region.before ops).getD (c+j) 0).testBit (c+q):=by
 simp only[Lat,Nat.testBit_shiftRight]
theorem E9(ops:Array Oper):(Region.before ops).size=ops.size:=by
 have:=(B0 ops.toList #[] 0 0).2;unfold Region.before;rw[<-Array.foldl_toList];simpa using this
theorem Jm{ops:Array Oper}{j:Nat}(hj:j<ops.size):(Bw P gl ops)[j]?=some ((ops.map (DN P gl ops)).getD j default,(Region.before ops).getD j 0):=by
 have hb:=E9 ops;unfold Bw;rw[List.getElem?_zip_eq_some];constructor
 ·simp[Array.getD,hj]
 ·simp[Array.getD,hj,hb]
theorem E7{ops:Array Oper}:(Bw P gl ops).length=ops.size:=by
 have hb:=E9 ops;simp[Bw,hb]
theorem Cf{ops:Array Oper}{c m p:Nat}(hm:c+m<=ops.size)(hp:p<m):(Cv (Bw P gl ops) c (c+m))[p]?=some (Lat P gl ops c p):=by
 unfold Cv;rw[Ac9,AcZ (by omega),Adr,Jm (by omega)]
 rfl
theorem FC{ops:Array Oper}{c m:Nat}(hm:c+m<=ops.size):(Cv (Bw P gl ops) c (c+m)).length=m:=by
 simp[Cv,E7];omega
theorem O7{ops:Array Oper}{c m:Nat}(hm:c+m<=ops.size){p:Nat}{q:IOpx×Nat}(h:(Cv (Bw P gl ops) c (c+m))[p]?=some q):Lat P gl ops c p=q:=by
 have hp:p<m:=by have:=(AcF.1 h).1;rw[FC hm]at this;exact this
 rw[Cf hm hp]at h;injection h
theorem Fr.drawn{θ:Th}{rows:List Row}{w:World}(h:HRel (KP P gl) θ rows w)(low n:Nat):Fr (KP P gl) θ θ rows rows low low w {w with drawn:=n}:=
 ⟨Ext.refl _,⟨h.dom,h.blk,fun id r e=>(h.row id r e).mono (Ext.refl _) (fun _ _=>rfl),h.inj⟩,AcE _,AcE _,rfl,rfl,rfl,AcE _,fun _ _=>rfl,fun _ _ _=>rfl,fun id r a b _=>⟨r,a,b⟩,fun id r a b _=>⟨r,a,b⟩,fun id L a b=>by rw[a]at b;simp at b⟩
theorem NI{call:Nat->List AV->List Row->Option (AV×List Row×Option Nat)}(hcall:Jd P gl call){ops:Array Oper}(hed:Ee ops){c m:Nat}(hm:c+m<=ops.size)(hend:∀j,c+m<=j->j<ops.size->∀q,q<c+m->((Region.before ops).getD j 0).testBit q=true)
  (hpairs:D3 (Cv (Bw P gl ops) c (c+m)) 0=true) {rows:List Row} {sl sl':List AV} {ext:List (Nat×Row)}
  (hev:At call (fun _=>rows) 0 (Cv (Bw P gl ops) c (c+m)) sl []=some (sl',ext)) {fuel:Nat} {listed:Array Bool} (hst:DrawSt ops c fuel listed) (t:Nat) {θ:Th} {w:World} {a:Act} (hr:HRel (KP P gl) θ rows w) (hg:GRel θ gl) (hs:SRel θ sl a.tmps) (low:Nat) (hlow:low<=rows.length) (b:Frame) (k:List Item) (cs:List Frame):
  ∃θ' w' a' fuel' t' listed',Steps P (lone (b.atR a (.inRegion ops (Region.linearise.go .any ops fuel t listed [])::k)) cs w) (lone (b.atR a' (.inRegion ops (Region.linearise.go .any ops fuel' t' listed' [])::k)) cs w')/\a'.defers=a.defers/\DrawSt ops (c+m) fuel' listed'/\SRel θ' sl' a'.tmps/\Fr (KP P gl) θ θ' rows (rows++ext.map (·.2)) low low w w':=by
 obtain⟨SL,EX,v,rw_,h1,h2,h3,h4,htr⟩:=De (B:=fun _=>rows) (N:=rows.length) (fun _=>rfl) _ 0 sl [] sl' ext (Lat P gl ops c) (fun p q hp=>by rw[Ads];exact O7 hm hp) hev;rw[FC hm,Ads]at h3 h4 htr;have hI:=Inv.start (X:=fun _=>False) (m:=m) (L:=Lat P gl ops c) (v:=v) (EX:=EX) (rows:=rows) (sl0:=sl) (w0:=w) (B:=fun _=>rows) h2 hr (fun _=>hr) hs;have hSf:(fun _:Nat=>false)=fun j=>listed.getD (c+j) false:=by
  funext j;rw[hst.at_];simp
 rw[hSf]at hI;have hap:∀j,j<m->∀k,k<j->(Lat P gl ops c j).2.testBit k=true\/C7 (Lat P gl ops c k).1 (Lat P gl ops c j).1=true:=fun j hj k hk=>by
  have:=CP _ 0 hpairs j k _ _ hk (Cf hm (by omega)) (Cf hm hj);simpa using this
 obtain⟨θ',w',a',fuel',t',listed',st,hdef,hst',S,hS,hI2⟩:=Jq (P:=P) (fun S θ' tmps w'=>Inv (KP P gl) (fun _=>False) θ (fun _=>rows) rows sl m (Lat P gl ops c) v EX w S θ' tmps w') hm b k cs
  (fun S θ1 a1 w1 i o rest hJ him hui hcl hbits ho=>by
   obtain⟨θ2,w2,v2,q1,q2,_⟩:=Inv.step (fun _=>rfl) hcall htr h1 h2 hg hJ him hui hap (fun j hj hjm q hq=>by rw[D4]at hq;exact hcl j hj hjm q hq) (fun q hq=>by rw[D4]at hq;exact hbits q hq) ho (SF ho) b rest k cs
   exact⟨θ2,w2,v2,q1,q2⟩) hed hend fuel t listed θ a w hst.size (fun j hj=>by rw[hst.at_];simpa using hj) hI (fun j hj=>by rw[hst.at_];simp;omega) hst.closed hst.fuel
 obtain⟨r1,r2⟩:=hI2.done htr h1 h2 hS low hlow;rw[h3]at r1;rw[h4]at r2;exact⟨θ',w',a',fuel',t',listed',st,hdef,hst',r1,r2⟩
inductive IR(P:Program)(gl:List Nat):Itm->Item->Prop
 |code (hint:Nat->Option (Nat×List Nat)) (c:Code):IR P gl (.code (cc P gl hint c)) (.code c)
 |inBlock (id:Nat):IR P gl (.inBlock id) (.inBlock id)
 |inLoop (hint:Nat->Option (Nat×List Nat)) (c:Code):IR P gl (.inLoop (cc P gl hint c)) (.inLoop c)
 |inScope (hint:Nat->Option (Nat×List Nat)) (c:Code):IR P gl (.inScope (cc P gl hint c)) (.inScope c)
 |rfBegin:IR P gl .rfBegin .beginRound
 |ops (ops:Array Oper) (i:Nat):IR P gl (.ops ((ops.toList.map fun o=>Seg.one (DN P gl ops o)).drop i)) (.inRegion ops (List.range' i (ops.size-i)))
 |draws (ops:Array Oper) (c:Nat) (bs:List Nat) (fuel t:Nat) (listed:Array Bool):Ee ops->Wj (Bw P gl ops) (Region.before ops).toList c bs=true->DrawSt ops c fuel listed->IR P gl (.ops (J5 (Bw P gl ops) c bs)) (.inRegion ops (Region.linearise.go .any ops fuel t listed []))
inductive KR(P:Program)(gl:List Nat):List Itm->List Item->Prop
 |nil:KR P gl [] []
 |cons {x:Itm} {y:Item} {k:List Itm} {t:List Item}:IR P gl x y->KR P gl k t->KR P gl (x::k) (y::t)
theorem Dd(id:Nat):∀{k:List Itm} {t:List Item},KR P gl k t->∀{k':List Itm},BB id k=some k'->∃t',exitTo id t=some t'/\KR P gl k' t'
 |_,_,.nil,k',h=>by simp[BB]at h
 |
  _,_,.cons hx hk,k',h=>by
  cases hx with
  |inBlock id'=>
   simp only[BB]at h
   split at h
   ·rename_i e
    injection h with h
    subst h;exact⟨_,by simp[exitTo,e],hk⟩
   ·rename_i e
    obtain⟨t',h1,h2⟩:=Dd id hk h
    exact⟨t',by
           have:(id'==id)=false:=by simpa using e
           simp[exitTo,this,h1],h2⟩
  |_=>
   simp only[BB]at h;obtain⟨t',h1,h2⟩:=Dd id hk h;exact⟨t',h1,h2⟩
theorem Eb(id:Nat):∀{k:List Itm} {t:List Item},KR P gl k t->BB id k=none->exitTo id t=none
 |_,_,.nil,h=>rfl
 |
  _,_,.cons hx hk,h=>by
  cases hx with
  |inBlock id'=>
   simp only[BB]at h
   split at h
   ·simp at h
   ·rename_i e
    have:(id'==id)=false:=by simpa using e
    simp[exitTo,this,Eb id hk h]
  |_=>
   simp only[BB]at h;simp[exitTo,Eb id hk h]
theorem SRel.kill{θ:Th}{t:Array Value}:∀(l:List Nat) {sl:List AV},SRel θ sl t->SRel θ (Cr sl l) t
 |[],_,h=>h
 |
  d::ds,sl,h=>by
  refine SRel.kill ds ⟨by simp[h.size],fun i x x' hx hx'=>?_⟩;rw[Adu]at hx
  split at hx
  ·split at hx
   ·injection hx with hx;subst hx;exact .any _
   ·simp at hx
  ·exact h.at_ i x x' hx hx'
def UI(tmps:Array Value):ResultVar->Sem Value
 |.tmp t=>pure (tmps.getD t undef)
 |.cell a t=>do loadVar t (<-asAddr (tmps.getD a undef))
theorem Ml(func:Func)(tmps:Array Value):Go.results func tmps=(do let vs <-func.results.mapM (UI tmps);pure (if h:vs.size=1 then vs[0]else .tuple vs)):=by
 have h:(fun(r:ResultVar)=>(match r with|.tmp t=>pure (tmps.getD t undef)|.cell a t=>do loadVar t (<-asAddr (tmps.getD a undef)):Sem Value))=UI tmps:=by
  funext r;cases r<;>rfl
 rw[<-h]
 rfl
theorem CW{θ:Th}{rows:List Row}{w:World}{sl:List AV}{tmps:Array Value}(hr:HRel (KP P gl) θ rows w)(hs:SRel θ sl tmps):∀{rs:List ResultVar} {res:List RV} {vs:List AV},RX P rs=some res->C6 rows sl res=some vs->
  ∃vs':List Value,(rs.mapM (UI tmps)).run P w = .ok vs' w/\VL θ vs vs'
 |
  [],res,vs,h,k=>by
  simp only[RX,AcI]at h;subst h;simp only[C6,AcI]at k;subst k;exact⟨[],by simp,VL.nil θ⟩
 |
  .tmp t::rs,res,vs,h,k=>by
  simp only[RX,AcK]at h;obtain⟨res',h,rfl⟩:=h;simp only[C6]at k
  split at k
  ·rename_i v vs1 e1 e2
   injection k with k
   subst k;simp only[Ib,AcI]at e1;subst e1;obtain⟨vs',r1,r2⟩:=CW hr hs h e2;exact⟨_,by rw[List.mapM_cons];simp only[UI,Sem.run_bind,Sem.run_pure,Result.andThen_ok,r1],VL.cons (hs.get t) r2⟩
  ·simp at k
 |
  .cell c t::rs,res,vs,h,k=>by
  simp only[RX]at h
  split at h
  ·rename_i n l hag hn hl
   injection h with h
   subst h;simp only[C6]at k
   split at k
   ·rename_i v vs1 e1 e2
    injection k with k
    subst k;obtain⟨vs',r1,r2⟩:=CW hr hs hl e2;simp only[Ib,Af,Ak]at e1
    split at e1
    ·rename_i id off e
     split at e1
     ·rename_i xs hrow
      simp only[AcK]at e1;obtain⟨l0,hl0,rfl⟩:=e1;have hV:=hs.get c;rw[e]at hV;obtain⟨v',q1,q2⟩:=IV (P:=P) hr hV hag hn rfl hrow hl0;refine⟨_,?_,VL.cons q2 r2⟩;rw[List.mapM_cons];have hq:(UI tmps (.cell c t)).run P w = .ok v' w:=by
       have hq2:∀z:Value,V θ (.ptr id off) z->(Instr.loadAt t z).run P w = .ok v' w->(do loadVar t (<-asAddr z):Sem Value).run P w = .ok v' w:=fun z hz hz1=>by
        cases hz;simpa[Instr.loadAt,Instr.sureAddr,asAddr]using hz1
       exact hq2 _ hV q1
      simp only[Sem.run_bind,Result.andThen_ok];rw[hq];simp only[Result.andThen_ok,r1]
      rfl
     ·simp at e1
    ·simp at e1
   ·simp at k
  ·rename_i n l hag hn hl
   injection h with h
   subst h;simp only[C6]at k
   split at k
   ·rename_i v vs1 e1 e2
    injection k with k
    subst k;obtain⟨vs',r1,r2⟩:=CW hr hs hl e2;simp only[Ib,Af,Ak]at e1
    split at e1
    ·rename_i id off e
     split at e1
     ·rename_i xs hrow
      have hV:=hs.get c;rw[e]at hV;obtain⟨v',q1,q2⟩:=IZ (P:=P) hr hV hag rfl hrow e1;refine⟨_,?_,VL.cons q2 r2⟩;rw[List.mapM_cons];have hq:(UI tmps (.cell c t)).run P w = .ok v' w:=by
       have hq2:∀z:Value,V θ (.ptr id off) z->(Instr.loadAt t z).run P w = .ok v' w->(do loadVar t (<-asAddr z):Sem Value).run P w = .ok v' w:=fun z hz hz1=>by
        cases hz;simpa[Instr.loadAt,Instr.sureAddr,asAddr]using hz1
       exact hq2 _ hV q1
      simp only[Sem.run_bind,Result.andThen_ok];rw[hq];simp only[Result.andThen_ok,r1]
      rfl
     ·simp at e1
    ·simp at e1
   ·simp at k
  ·simp at h
theorem Hf{θ:Th}{rows:List Row}{w:World}{sl:List AV}{tmps:Array Value}(hr:HRel (KP P gl) θ rows w)(hs:SRel θ sl tmps){func:Func}{res:List RV}(hres:RX P func.results.toList=some res){v:AV}(h:Abs.results rows sl res=some v):
  ∃v',(Go.results func tmps).run P w = .ok v' w/\V θ v v':=by
 unfold Abs.results at h;have key:=fun vs e=>CW (P:=P) hr hs (vs:=vs) hres e
 have run:∀vs',(func.results.toList.mapM (UI tmps)).run P w = .ok vs' w->(Go.results func tmps).run P w = .ok (if h:vs'.toArray.size=1 then vs'.toArray[0]else .tuple vs'.toArray) w:=fun vs' h=>by
  rw[Ml,Array.mapM_eq_mapM_toList];simp only[Sem.run_bind,Sem.run_map];rw[h]
  rfl
 split at h
 ·rename_i x e
  injection h with h
  subst h;obtain⟨vs',r1,r2⟩:=key _ e;obtain⟨x',r',rfl,h1,h2⟩:=r2.of_cons;have:r'=[]:=AdC.1 h2.1.symm;subst this;exact⟨x',by rw[run _ r1];simp,h1⟩
 ·rename_i vs hne e
  injection h with h
  subst h;obtain⟨vs',r1,r2⟩:=key _ e;refine⟨.tuple vs'.toArray,?_,.tup r2.1 r2.2⟩;rw[run _ r1,dif_neg];intro h1;simp at h1;have hl:=r2.1;rw[h1]at hl
  match vs,hl with
  |[x],_=>exact hne x rfl
 ·simp at h
end
section
variable {P:Program}{gl:List Nat}
theorem Oz{o:Oper}{io:IOp}(h:cop P gl o=some io){a x:Opd}{n:Option Nat}(hs:AZ io=some (a,x,n)):
  ∃t y z,o.op = .store t y z/\a=co gl y/\x=co gl z/\((n=none/\szT P t=some 1)\/∃k,n=some k/\szT P t=some k):=by
 obtain⟨dst,op,ty,pos,aft,gd⟩:=o;cases op<;>simp only[cop,reduceCtorEq]at h
 case store t y z=>
  split at h
  ·rename_i k hag hn
   injection h with h
   subst h;simp only[AZ,AcI,AcQ]at hs;obtain⟨rfl,rfl,rfl⟩:=hs;exact⟨t,y,z,rfl,rfl,rfl,.inr ⟨k,rfl,hn⟩⟩
  ·rename_i k hag hn
   split at h
   ·rename_i hk
    subst hk;injection h with h
    subst h;simp only[AZ,AcI,AcQ]at hs;obtain⟨rfl,rfl,rfl⟩:=hs;exact⟨t,y,z,rfl,rfl,rfl,.inl ⟨rfl,hn⟩⟩
   ·simp at h
  ·simp at h
 case call c=>
  obtain⟨callee,cargs,ats⟩:=c;cases callee with
  |value ff=>simp only[AcI]at h;subst h;simp[AZ]at hs
  |invoke r m=>
   simp only at h
   split at h<;>first|(simp at h;done)|(injection h with h;subst h;simp[AZ]at hs;done)
  |builtin bb=>
   cases bb<;>simp only[reduceCtorEq]at h
   all_goals
    repeat' split at h
    all_goals first
     |(simp at h;done)
     |(injection h with h;subst h;simp[AZ]at hs;done)
     |(simp only[AcK]at h;obtain⟨_,_,rfl⟩:=h;simp[AZ]at hs;done)
 case makeFunc fn fi cs=>
  cases fn<;>simp only[reduceCtorEq]at h
  split at h
  ·injection h with h;subst h;simp[AZ]at hs
  ·split at h
   ·injection h with h;subst h;simp[AZ]at hs
   ·simp at h
 all_goals
  repeat' split at h
  all_goals first
   |(simp at h;done)
   |(injection h with h;subst h;simp[AZ]at hs;done)
   |(simp only[AcK]at h;obtain⟨_,_,rfl⟩:=h;simp[AZ]at hs;done)
   |contradiction
theorem J3{sl:List AV}{rows:List Row}{R off:Nat}{a x:Opd}{n:Option Nat}{r':Row}(h:CG sl rows R off a x n=some r'):
  ∃vs,Ak sl a = .ptr R off/\rows[R]?=some (.cells vs)/\((n=none/\off<vs.length/\(Ak sl x).one=true/\r' = .cells (vs.set off (Ak sl x)))\/
   ∃l,n=some l.length/\Ak sl x = .agg l/\off+l.length<=vs.length/\l.all AV.one=true/\r' = .cells (splice vs off l)):=by
 unfold CG at h
 split at h
 case h_2=>simp at h
 rename_i id off' ha
 split at h
 case isFalse=>simp at h
 rename_i hid;obtain⟨h1,h2⟩:=hid;subst h1;subst h2
 split at h
 case h_2=>simp at h
 rename_i vs hvs
 split at h
 ·split at h
  ·rename_i hc
   injection h with h
   exact⟨vs,ha,hvs,.inl ⟨rfl,hc.1,hc.2,h.symm⟩⟩
  ·simp at h
 ·rename_i k
  split at h
  ·rename_i l hl
   split at h
   ·rename_i hc
    injection h with h
    obtain⟨c1,c2,c3⟩:=hc;subst c1;exact⟨vs,ha,hvs,.inr ⟨l,rfl,hl,c2,c3,h.symm⟩⟩
   ·simp at h
  ·simp at h
theorem Rt{κ:Fw}{θ:Th}{R:Nat}{w:World}{vs:List AV}{off n:Nat}(hle:off+n<=vs.length)(h:RowRel κ θ R w (.cells vs)):RowRel κ θ R w (.cells (splice vs off (List.replicate n .any))):=by
 obtain⟨L,c,T,h1,h2,h3⟩:=h;refine⟨L,c,T,h1,h2,?_,h3.2.1,fun j x hx=>?_⟩
 ·have:=h3.1
  simp only[splice,AcO,AdQ,AdO,Ad2];omega
 ·have hj:j<vs.length:=by
   have:=(AcF.1 hx).1;simp only[splice,AcO,AdQ,AdO,Ad2]at this;omega
  obtain⟨x',p,q,o⟩:=h3.2.2 j vs[j] (AcR hj);refine⟨x',p,?_,o⟩;unfold splice at hx;rcases Adc j off with h|h
  ·rw[AcD (by simp;omega),AcD (by simp;omega),AcZ h,AcR hj]at hx
   injection hx with hx
   rw[<-hx];exact q
  ·rcases Adc j (off+n)with h'|h'
   ·rw[AcD (by simp;omega),AcG (by simp;omega),AdU]at hx
    split at hx
    ·injection hx with hx;rw[<-hx];exact .any _
    ·simp at hx
   ·rw[AcG (by simp;omega),Adr]at hx
    simp only[AcO,AdQ,AdO]at hx;rw[show off+n+(j-(min off vs.length+n))=j from by omega,AcR hj]at hx;injection hx with hx
    rw[<-hx];exact q
theorem HW{vs l m:List AV}{off:Nat}(hl:l.length=m.length)(hle:off+l.length<=vs.length):splice (splice vs off l) off m=splice vs off m:=by
 unfold splice;have h1:(vs.take off++l++vs.drop (off+l.length)).take off=vs.take off:=by
  rw[AcL,AdG (by simp;omega),List.take_take,Nat.min_self]
 have h2:(vs.take off++l++vs.drop (off+l.length)).drop (off+m.length)=vs.drop (off+m.length):=by
  rw[<-hl];have:(vs.take off++l).length=off+l.length:=by simp;omega
  rw[<-this,List.drop_left]
 rw[h1,h2]
theorem maskR_len(rows:List Row)(R off n:Nat):(Bf rows R off n).length=rows.length:=by
 unfold Bf;split<;>simp
theorem QN(call:Nat->List AV->List Row->Option (AV×List Row×Option Nat))(sl:List AV)(rows:List Row)(low:Nat):opR call sl rows low Is=some (.int .i64 0,rows,low):=rfl
theorem Mr{call:Nat->List AV->List Row->Option (AV×List Row×Option Nat)}(hcall:Jd P gl call){ops:Array Oper}(hed:Ee ops){c m:Nat}(hm:c+m<=ops.size)(hend:∀j,c+m<=j->j<ops.size->∀q,q<c+m->((Region.before ops).getD j 0).testBit q=true)
  (hpairs:D3 (Cv (Bw P gl ops) c (c+m)) 0=true) {rows:List Row} {sl sl':List AV} {ext:List (Nat×Row)} {i:Nat} {oi:IOpx×Nat} {a0 x0:Opd} {n0:Option Nat} {R off:Nat} {r':Row}
  (hi:(Cv (Bw P gl ops) c (c+m))[i]?=some oi) (hst:AZ oi.1.op=some (a0,x0,n0)) (hdst:oi.1.dst=none) (hgn:oi.1.g=none)
  (hbits:∀q∈Cv (Bw P gl ops) c (c+m),q.2.testBit i=false)
  (hev:At call (BT rows (Bf rows R off (n0.getD 1)) oi.2) 0 ((Cv (Bw P gl ops) c (c+m)).set i (Is,oi.2)) sl []=some (sl',ext)) (hsto:CG sl' rows R off a0 x0 n0=some r')
  {fuel:Nat} {listed:Array Bool} (hdst0:DrawSt ops c fuel listed) (t:Nat) {θ:Th} {w:World} {a:Act} (hr:HRel (KP P gl) θ rows w) (hg:GRel θ gl) (hs:SRel θ sl a.tmps) (low:Nat) (hlow:low<=rows.length) (b:Frame) (k:List Item) (cs:List Frame):
  ∃θ' w' a' fuel' t' listed',Steps P (lone (b.atR a (.inRegion ops (Region.linearise.go .any ops fuel t listed [])::k)) cs w) (lone (b.atR a' (.inRegion ops (Region.linearise.go .any ops fuel' t' listed' [])::k)) cs w')/\a'.defers=a.defers/\DrawSt ops (c+m) fuel' listed'/\SRel θ' sl' a'.tmps/\Fr (KP P gl) θ θ' rows (rows.set R r'++ext.map (·.2)) low (Ab low R) w w':=by
 let L:Nat->IOpx×Nat:=Lat P gl ops c
 have hlen0:(Cv (Bw P gl ops) c (c+m)).length=m:=FC hm;have hget:∀p q,(Cv (Bw P gl ops) c (c+m))[p]?=some q->L p=q:=fun p q hp=>O7 hm hp
 have hap:∀j,j<m->∀k,k<j->(L j).2.testBit k=true\/C7 (L k).1 (L j).1=true:=fun j hj k hk=>by
  have:=CP _ 0 hpairs j k _ _ hk (Cf hm (by omega)) (Cf hm hj);simpa using this
 have him:i<m:=by have:=(AcF.1 hi).1;omega
 have hLi:L i=oi:=hget i oi hi;have hbit:∀j,j<m->(L j).2.testBit i=false:=fun j hj=>hbits _ (Ac5 (Cf hm hj))
 let L':Nat->IOpx×Nat:=fun j=>if j=i then(Is,oi.2)else L j
 have hL'2:∀j,(L' j).2=(L j).2:=fun j=>by
  simp only[L']
  split
  ·rename_i e;subst e;rw[hLi]
  ·rfl
 have hL'n:∀j,j≠i->L' j=L j:=fun j hj=>by simp only[L'];rw[if_neg hj]
 have hL'i:L' i=(Is,oi.2):=by simp only[L'];rw[if_pos trivial]
 have hBl:∀p,(BT rows (Bf rows R off (n0.getD 1)) oi.2 p).length=(rows.set R Row.dead).length:=fun p=>by
  unfold BT;split<;>simp[maskR_len]
 obtain⟨SL,EX,v,rw_,h1,h2,h3,h4,htr⟩:=De hBl _ 0 sl [] sl' ext L' (fun p q hp=>by
  rw[Ads];rw[Adu]at hp
  split at hp
  ·rename_i e
   subst e
   split at hp
   ·injection hp with hp;rw[hL'i];exact hp
   ·simp at hp
  ·rename_i e
   rw[hL'n p (fun h=>e h.symm)]
   exact hget p q hp) hev
 rw[show((Cv (Bw P gl ops) c (c+m)).set i (Is,oi.2)).length=m from by rw[Adh,hlen0],Ads]at h3 h4 htr
 -- the row
 obtain⟨vs,hpa,hR,hcase⟩:=J3 hsto;obtain⟨LR,hLR⟩:=(hr.row R _ hR).loc rfl;have hRb:=hr.blk R LR hLR;have hRl:R<rows.length:=(AcF.1 hR).1;have hrD:HRel (KP P gl) θ (rows.set R .dead) w:=(Fr.kill hr low R).rel
 -- what is not known of the row
 have hwide:off+(n0.getD 1)<=vs.length:=by
  rcases hcase with ⟨e0,e1,_⟩|⟨l,e0,_,e2,_⟩<;>rw[e0]<;>simp<;>omega
 have hrm:Bf rows R off (n0.getD 1)=rows.set R (.cells (splice vs off (List.replicate (n0.getD 1) .any))):=by
  unfold Bf;rw[hR]
 have hmaskRel:∀{θ1:Th} {w1:World},HRel (KP P gl) θ1 (rows.set R .dead) w1->RowRel (KP P gl) θ1 R w1 (.cells (splice vs off (List.replicate (n0.getD 1) .any)))->(∀id r K,id≠R->rows[id]?=some r->r.live=true->θ1 id=some K->K.b≠LR.b)->θ1 R=some LR->HRel (KP P gl) θ1 (Bf rows R off (n0.getD 1)) w1:=fun{θ1 w1} hd hrow hsole hθ=>by
  rw[hrm];have hg2:∀id r,(rows.set R (.cells (splice vs off (List.replicate (n0.getD 1) .any))))[id]?=some r->(id=R/\r = .cells (splice vs off (List.replicate (n0.getD 1) .any)))\/(id≠R/\rows[id]?=some r/\(rows.set R Row.dead)[id]?=some r):=fun id r e=>by
   rw[Adu]at e
   split at e
   ·rename_i q;subst q
    first|rw[if_pos hRl]at e|skip
    injection e with e
    exact .inl ⟨rfl,e.symm⟩
   ·rename_i q
    exact .inr ⟨fun h=>q h.symm,e,by rw[AcH q];exact e⟩
  refine⟨fun id K e=>by have:=hd.dom id K e;simpa using this,hd.blk,fun id r e=>?_,fun p p' r s K K' hne hp hpo hq hql hK hK'=>?_⟩
  ·rcases hg2 id r e with ⟨rfl,rfl⟩|⟨_,_,e2⟩
   ·exact hrow
   ·exact hd.row id r e2
  ·rcases hg2 p r hp with ⟨rfl,rfl⟩|⟨n1,e1,e1'⟩
   ·rcases hg2 p' s hq with ⟨rfl,rfl⟩|⟨n2,e2,e2'⟩
    ·exact absurd rfl hne
    ·rw[hθ]at hK;injection hK with hK;subst hK
     exact fun h=>hsole p' s K' n2 e2 hql hK' h.symm
   ·rcases hg2 p' s hq with ⟨rfl,rfl⟩|⟨n2,e2,e2'⟩
    ·rw[hθ]at hK';injection hK' with hK';subst hK'
     exact hsole p r K n1 e1 (Row.live_of_owned hpo) hK
    ·exact hd.inj p p' r s K K' hne e1' hpo e2' hql hK hK'
 have hsole0:∀id r K,id≠R->rows[id]?=some r->r.live=true->θ id=some K->K.b≠LR.b:=fun id r K hne e hl hK h=>hr.inj R id _ r LR K (Ne.symm hne) hR rfl e hl hLR hK h.symm
 have hmask0:HRel (KP P gl) θ (Bf rows R off (n0.getD 1)) w:=hmaskRel hrD (Rt hwide (hr.row R _ hR)) hsole0 hLR;have hI:=Inv.start (B:=BT rows (Bf rows R off (n0.getD 1)) oi.2) (X:=fun b=>b=LR.b) (m:=m) (L:=L') (v:=v) (EX:=EX) (rows:=rows.set R .dead) (sl0:=sl) (w0:=w) h2 hrD (fun p=>by unfold BT;split;exact hr;exact hmask0) hs;have hSf:(fun _:Nat=>false)=fun j=>listed.getD (c+j) false:=by
  funext j;rw[hdst0.at_];simp
 rw[hSf]at hI;have hap':∀j,j<m->∀k,k<j->(L' j).2.testBit k=true\/C7 (L' k).1 (L' j).1=true:=fun j hj k hk=>by
  rw[hL'2]
  by_cases e1:j=i
  ·subst e1;right;rw[hL'i];simp[C7,Is,IOpx.looks,IOp.opds]
   cases(L' k).1.dst<;>simp
  ·by_cases e2:k=i
   ·subst e2;right;rw[hL'i];simp[C7,Is,IOpx.looks,IOp.opds]
    cases(L' j).1.dst<;>simp
   ·rw[hL'n j e1,hL'n k e2]
    exact hap j hj k hk
 obtain⟨θ',w',a',fuel',t',listed',st,hdef,hst',S,hS,hI2,hrow2⟩:=Jq (P:=P) (fun S θ' tmps w'=>Inv (KP P gl) (fun b=>b=LR.b) θ (BT rows (Bf rows R off (n0.getD 1)) oi.2) (rows.set R .dead) sl m L' v EX w S θ' tmps w'/\RowRel (KP P gl) θ' R w' (if S i then r' else .cells vs)) hm b k cs
  (fun S θ1 a1 w1 j o rest hJ hjm huj hcl hbj ho=>by
   obtain⟨hJ,hJR⟩:=hJ;have hLo1:(L j).1=DN P gl ops o:=SF ho;have hθR:θ1 R=some LR:=hJ.ext _ _ hLR
   by_cases hji:j=i
   ·-- the store
    subst hji;rw[huj]at hJR;simp only[AdF,if_false]at hJR;rw[hLi]at hLo1;have hbad:(DN P gl ops o).op ≠ .bad:=by
     rw[<-hLo1];intro h;rw[h]at hst;simp[AZ]at hst
    obtain⟨g,c1,c2,c3,c4⟩:=Im hbad;rw[<-hLo1]at c2 c3 c4;rw[hgn]at c3;subst c3
    have hwr:=Cb (sl:=List.replicate a1.tmps.size .any) (a:=a1) (θ:=θ1) (c:=true) ⟨by simp,fun i x x' hx _=>by
     rw[AdU]at hx
     split at hx
     ·injection hx with hx;subst hx;exact .any _
     ·simp at hx⟩ c1 rfl
    obtain⟨t,y,z,d1,rfl,rfl,d4⟩:=Oz c2 hst;rw[hdst]at c4
    -- the slots that it looks at
    have hX:∀u,Opd.tmps (co gl u) ⊆ oi.1.looks->V θ1 (Ak sl' (co gl u)) (a1.eval u):=fun u hu=>by
     have hgθ:GRel θ1 gl:=hg.mono hJ.ext
     let Y:List AV:=(List.range sl.length).map fun t=>if t∈oi.1.looks then(SL m).getD t .any else .any
     have hY:SRel θ1 Y a1.tmps:=by
      refine⟨by simp[Y,hJ.size],fun t x x' hx hx'=>?_⟩;have htl:t<sl.length:=by have:=(AcF.1 hx).1;simpa[Y]using this
      simp only[Y,Ac9,AdL htl,AcN,AcI]at hx;subst hx
      split
      ·rename_i ht
       have hV:=hJ.slots t x' hx';have e1:AQ sl (rows.set R Row.dead).length L' v (fun j=>(rows.set R Row.dead).length+(EX j).length) S m t=AQ sl (rows.set R Row.dead).length L' v (fun j=>(rows.set R Row.dead).length+(EX j).length) (fun _=>true) m t:=
        A3 m (fun q hq hd=>by
         by_cases e:q=j
         ·subst e;rw[hL'i]at hd;simp[Is]at hd
         ·rw[hL'n q e]at hd
          rcases Adc q j with h|h
          ·rcases hap j hjm q h with hh|hh
           ·exact hbj q (by rw[<-D4 (P:=P) (gl:=gl)];exact hh)
           ·have:=(BP hh).1 t hd
            rw[hLi]at this;exact absurd ht this
          ·rcases hap q hq j (by omega)with hh|hh
           ·have:=hbit q hq
            rw[hh]at this;simp at this
           ·have:=(BP hh).2.2 t hd
            rw[hLi]at this
            exact absurd ht this)
       rw[e1,(Cj (sl0:=sl) htr h1 htl m (AcE _)).1]at hV;exact hV.mono (Th.upto_ext _ _)
      ·exact .any _
     have hV:=AD (a:=a1) hgθ hY u;have:Ak Y (co gl u)=Ak sl' (co gl u):=Gw fun t ht=>by
      rcases Adc t sl.length with htl|htl
      ·simp only[Y,List.getD,Ac9,AdL htl,AcN,Option.getD_some,if_pos (hu ht)]
       rw[h3]
      ·have hL':=htr.sl_len h1 m (AcE _)
       rw[h3]at hL';rw[List.getD,List.getD,Ac0 (l:=Y) (by simp only[Y,Adt,Aeb];exact htl),Ac0 (l:=sl') (by omega)]
     rw[<-this];exact hV
    have hVa:V θ1 (.ptr R off) (a1.eval y):=by
     rw[<-hpa];refine hX y fun t ht=>FB (x:=co gl y) ?_ ht
     rcases oi with ⟨⟨dd,op,gg⟩,bb⟩
     cases op<;>simp[AZ]at hst<;>simp[IOp.opds,hst]
    have hVx:V θ1 (Ak sl' (co gl z)) (a1.eval z):=by
     refine hX z fun t ht=>FB (x:=co gl z) ?_ ht
     rcases oi with ⟨⟨dd,op,gg⟩,bb⟩
     cases op<;>simp[AZ]at hst<;>simp[IOp.opds,hst]
    have hcells:∃l l',VL θ1 l l'/\(a1.eval z).cells.toList=l'/\szT P t=some l.length/\off+l.length<=vs.length/\(∀v∈l',v.oneCell'=true)/\r' = .cells (splice vs off l)/\l.length=n0.getD 1:=by
     rcases hcase with ⟨e0,e1,e2,rfl⟩|⟨l,e0,e1,e2,e3,rfl⟩
     ·have hsz:szT P t=some 1:=by
       rcases d4 with ⟨_,d4⟩|⟨k,d4,_⟩
       ·exact d4
       ·rw[e0]at d4;simp at d4
      obtain⟨o1,o2⟩:=V.oneCell hVx e2;have hl:VL θ1 [Ak sl' (co gl z)] [a1.eval z]:=VL.cons hVx (VL.nil θ1);exact⟨_,_,hl,by rw[o2],hsz,by simp;omega,by simpa using o1,by rw[Em _ _ _ e1],by rw[e0];rfl⟩
     ·have hsz:szT P t=some l.length:=by
       rcases d4 with ⟨d4,_⟩|⟨k,d4,d5⟩
       ·rw[e0]at d4;simp at d4
       ·rw[e0]at d4;injection d4 with d4;rw[d4];exact d5
      rw[e1]at hVx;generalize a1.eval z=z' at hVx ⊢;cases hVx with
      |agg p q=>
      rename_i l';have hl:VL θ1 l l':=⟨p,q⟩
      exact⟨l,l',hl,by simp[Value.cells],hsz,e2,Ea hl e3,rfl,by rw[e0];rfl⟩
    obtain⟨lc,lc',y1,y2,y3,y4,y5,y6,y7⟩:=hcells;have hstore:∃w2,(Instr.storeAt t (a1.eval y) (a1.eval z)).run P w1 = .ok () w2/\RowRel (KP P gl) θ1 R w2 r'/\w2.heap.size=w1.heap.size/\(∀k,k≠LR.b->w2.heap[k]?=w1.heap[k]?)/\w2.os=w1.os/\w2.tape=w1.tape/\w2.output=w1.output:=by
     rw[y6];exact GK (P:=P) hVa y1 y2 y3 hθR hJR y4 y5
    obtain⟨w2,s1,s2,s3,s4,s5,s6,s7⟩:=hstore;have hrun:(execOp a1.eval o).run P w1 = .ok .skip w2:=by
     have:execOp a1.eval o=(do Instr.storeAt t (a1.eval y) (a1.eval z);pure .skip):=by
      obtain⟨dst,op,ty,pos,aft,gd⟩:=o;simp only at d1;subst d1
      rfl
     rw[this,Sem.run_bind,s1];rfl
    have hod:o.dst=none:=c4.symm;have hstep:=GL (P:=P) (b:=b) (a:=a1) (k:=k) (cs:=cs) (rest:=rest) ho hwr (by rw[d1];intro c h;cases h) hrun (.inr ⟨rfl,rfl⟩);refine⟨θ1,w2,undef,.one hstep,?_,by simpa using s2⟩;have htm:(a1.put o.dst undef).tmps=a1.tmps:=by rw[hod];rfl
    rw[htm]
    -- no row of the operation's own
    have hnew:(EX (j+1)).length=(EX j).length:=by
     have e1:=htr.op j (AcX _) hjm;rw[hL'i]at e1;simp only[QN,AcI,AcQ]at e1;have e2:=htr.ex j (AcX _) hjm;rw[<-e1.2.1]at e2;have:((BT rows (Bf rows R off (n0.getD 1)) oi.2 j++Ai (oi.2) (EX j)).drop ((rows.set R Row.dead).length+(EX j).length))=[]:=Adv (by rw[AcO,hBl];simp[Ai]);rw[this]at e2;rw[e2];simp
    have hblk:∀id K,id≠R->θ1 id=some K->(∃r,(rows.set R .dead)[id]?=some r/\r.live=true)\/rows.length<=id->K.b≠LR.b:=fun id K hne hK hcase=>by
     rcases hJ.dom id K hK with h|⟨q1,p,q,s,q2,q3,q4⟩
     ·rcases hcase with ⟨r,c1,c2⟩|h2
      ·rw[AcH (Ne.symm hne)]at c1
       exact fun e=>hr.inj R id _ r LR K (Ne.symm hne) hR rfl c1 c2 hLR h e.symm
      ·have:=hr.dom id K h;omega
     ·omega
    have hbase2:HRel (KP P gl) θ (rows.set R .dead) w2:=⟨hJ.base.dom,fun id K e=>by rw[s3];exact hJ.base.blk id K e,fun id r e=>by
     by_cases hl:r.live=true
     ·have hid:id≠R:=by
       rintro rfl
       rw[AcM (by simpa using hRl)]at e;injection e with e
       subst e;simp[Row.live]at hl
      exact(hJ.base.row id r e).mono (Ext.refl _) (fun K hK=>s4 _ (hblk id K hid (hJ.ext _ _ hK) (.inl ⟨r,e,hl⟩)))
     ·cases r<;>first|(simp[Row.live]at hl;done)|trivial,hJ.base.inj⟩
    have hbaseB:∀p,p<m->(S p||p==j)=false->HRel (KP P gl) θ (BT rows (Bf rows R off (n0.getD 1)) oi.2 p) w2:=fun p hp hS=>by
     simp only[Bool.or_eq_false_iff]at hS;have hold:=hJ.baseB p hp hS.1;unfold BT at hold ⊢
     split
     ·rename_i hb
      have:=hbj p (by rw[<-D4 (P:=P) (gl:=gl)];rw[<-hLi]at hb;exact hb);rw[hS.1]at this;simp at this
     ·rename_i hb
      rw[if_neg hb]at hold;have hrow0:RowRel (KP P gl) θ R w1 (.cells (splice vs off (List.replicate (n0.getD 1) .any))):=hold.row R _ (by rw[hrm,AcM hRl]);have hVa0:V θ (.ptr R off) (a1.eval y):=by
       generalize a1.eval y=z0 at hVa;cases hVa with
       |ptr h1=>
        rw[hθR]at h1;injection h1 with h1;subst h1
        exact .ptr hLR
      have hlen1:lc'.length=n0.getD 1:=by have:=y1.1;omega
      have hspl:(splice vs off (List.replicate (n0.getD 1) .any)).length=vs.length:=by
       simp only[splice,AcO,AdQ,AdO,Ad2];omega
      obtain⟨w3,z1,z2,_⟩:=GK (P:=P) hVa0 (l:=List.replicate (n0.getD 1) .any) (l':=lc') ⟨by simp[hlen1],fun i x x' hx _=>by
       rw[AdU]at hx
       split at hx
       ·injection hx with hx;rw[<-hx];exact .any _
       ·simp at hx⟩ y2 (by rw[y3,AdO,y7]) hLR hrow0 (by rw[AdO,hspl];exact hwide) y5
      rw[s1]at z1;injection z1 with _ z1
      subst z1;rw[HW (by simp) (by rw[AdO];exact hwide)]at z2;exact hmaskRel hbase2 z2 hsole0 hLR
    refine⟨hJ.size,fun t x' hx=>?_,fun p q r e hS'=>?_,hbase2,hbaseB,hJ.ext,fun id K e=>?_,fun p p' q q' r s K K' hne e hS1 ho1 e' hS2 hl2 hK hK'=>?_,fun id K e=>by rw[s3];exact hJ.blk id K e,s5.trans hJ.os,s6.trans hJ.tape,s7.trans hJ.output,by rw[s3];exact hJ.wsize,fun b' hb' hx=>?_,hJ.base0⟩
    ·have e1:AQ sl (rows.set R Row.dead).length L' v (fun j=>(rows.set R Row.dead).length+(EX j).length) (fun q=>S q||q==j) m t=AQ sl (rows.set R Row.dead).length L' v (fun j=>(rows.set R Row.dead).length+(EX j).length) S m t:=
      A3 m (fun q hq hd=>by
       by_cases e:q=j
       ·subst e;rw[hL'i]at hd;simp[Is]at hd
       ·have:(q==j)=false:=by simpa using e
        simp[this])
     rw[e1];exact hJ.slots t x' hx
    ·have hq:q≠j:=by
      rintro rfl
      obtain⟨o1,o2,o3,_⟩:=Tr.owner htr h2 (i:=m) (AcE _) e;omega
     have hSq:S q=true:=by
      have:(q==j)=false:=by simpa using hq
      simpa[this]using hS'
     refine(hJ.rows_ p q r e hSq).mono (Ext.refl _) (fun K hK=>s4 _ ?_);refine hblk _ K ?_ (Th.upto_some.1 hK).2 (.inr ?_)
     ·simp;omega
     ·simp
    ·rcases hJ.dom id K e with h|⟨q1,p,q,r,q2,q3,q4⟩
     ·exact .inl h
     ·exact .inr ⟨q1,p,q,r,q2,q3,by simp[q4]⟩
    ·have hown:∀p q r,(EX m)[p]?=some (q,r)->q≠j:=fun p q r e=>by
      rintro rfl
      obtain⟨o1,o2,o3,_⟩:=Tr.owner htr h2 (i:=m) (AcE _) e;omega
     have d1:S q=true:=by
                   have:(q==j)=false:=by simpa using hown p q r e
                   simpa[this]using hS1
     have d2:S q'=true:=by
                   have:(q'==j)=false:=by simpa using hown p' q' s e'
                   simpa[this]using hS2
     exact hJ.inj p p' q q' r s K K' hne e d1 ho1 e' d2 hl2 hK hK'
    ·rw[s4 b' hx]
     exact hJ.heap b' hb' hx
   ·obtain⟨θ2,w2,v2,q1,q2,q3,q4⟩:=Inv.step hBl hcall htr h1 h2 hg hJ hjm huj hap' (fun j' hj hjm q hq=>by
     rw[hL'2,D4]at hq
     exact hcl j' hj hjm q hq) (fun q hq=>by rw[hL'2,D4]at hq;exact hbj q hq) ho (by rw[hL'n j hji];exact hLo1) b rest k cs
    refine⟨θ2,w2,v2,q1,q2,?_⟩;have:(i==j)=false:=by simpa using fun h=>hji h.symm
    simp only[this,Bool.or_false]
    exact hJR.mono q3 (fun K hK=>by
     rw[hθR]at hK;injection hK with hK;subst hK
     exact q4 _ (hJ.blk R LR hθR))) hed hend fuel t listed θ a w hdst0.size (fun j hj=>by rw[hdst0.at_];simpa using hj) ⟨hI,by
    have:listed.getD (c+i) false=false:=by rw[hdst0.at_];simp
    simp only[this,AdF,if_false]
    exact hr.row R _ hR⟩ (fun j hj=>by rw[hdst0.at_];simp;omega) hdst0.closed hdst0.fuel
 rw[hS i him]at hrow2;obtain⟨r1,r2⟩:=hI2.doneW htr h1 h2 hS hr hR rfl hLR hrow2 (by rcases hcase with ⟨_,_,_,rfl⟩|⟨_,_,_,_,_,rfl⟩<;>rfl) low hlow;rw[h3]at r1;rw[h4]at r2;exact⟨θ',w',a',fuel',t',listed',st,hdef,hst',r1,r2⟩
end
variable {κ:Fw}
section
variable {θ:Th}{rows:List Row}{w w':World}
theorem Fr.garbage(h:HRel κ θ rows w)(low:Nat)(o:Obj):Fr κ θ θ rows rows low low w (w.alloc o):=by
 have hold:∀b,b<w.heap.size->(w.alloc o).heap[b]?=w.heap[b]?:=fun b hb=>by
  show(w.heap.push o)[b]?=w.heap[b]?;rw[Array.getElem?_push_lt hb,Array.getElem?_eq_getElem hb]
 exact⟨Ext.refl _,⟨h.dom,fun id L e=>by have:=h.blk id L e;show L.b<(w.heap.push o).size;simp;omega,fun id r e=>(h.row id r e).mono (Ext.refl _) (fun L hL=>hold _ (h.blk id L hL)),h.inj⟩,
  AcE _,AcE _,rfl,rfl,rfl,by show _<=(w.heap.push o).size;simp,fun _ _=>rfl,fun b hb _=>hold b hb,fun id r a b _=>⟨r,a,b⟩,fun id r a b _=>⟨r,a,b⟩,fun id L a b=>by rw[a]at b;simp at b⟩
theorem Fr.other{θ0:Th}{rows0:List Row}{low0 low:Nat}{w0:World}(h:Fr κ θ0 θ rows0 rows low0 low w0 w)(r:Nat)(o:Obj)(hr:w0.heap.size<=r)(hn:∀id L,θ id=some L->L.b≠r):
  Fr κ θ0 θ rows0 rows low0 low w0 (w.putObj r o):=by
 have hold:∀b,b≠r->(w.putObj r o).heap[b]?=w.heap[b]?:=fun b hb=>World.putObj_heap_other hb
 exact⟨h.ext,⟨h.rel.dom,fun id L e=>by rw[World.putObj_size];exact h.rel.blk id L e,fun id s e=>(h.rel.row id s e).mono (Ext.refl _) (fun L hL=>hold _ (hn id L hL)),h.rel.inj⟩,
  h.len,h.low,h.os,h.tape,h.output,by rw[World.putObj_size];exact h.size,h.keepA,fun b hb q=>by rw[hold b (by omega)];exact h.keepB b hb q,h.own,h.alive,h.fresh⟩
structure Marks(n0:Nat)(θ:Th)(w:World)(ds:List Deferred):Prop where
 all:∀d∈ds,∃r,d.target = .collected r/\n0<=r/\r<w.heap.size/\w.heap[r]?=some (.deferred (some []))/\∀id L,θ id=some L->L.b≠r
 nodup:(ds.map (·.target)).Nodup
theorem Marks.nil(n0:Nat)(θ:Th)(w:World):Marks n0 θ w []:=⟨fun d h=>by simp at h,List.nodup_nil⟩
theorem Marks.frame{n0:Nat}{θ':Th}{rows':List Row}{low low':Nat}{ds:List Deferred}(hr:HRel κ θ rows w)(h:Marks n0 θ w ds)(hF:Fr κ θ θ' rows rows' low low' w w'):Marks n0 θ' w' ds:=by
 refine⟨fun d hd=>?_,h.nodup⟩;obtain⟨r,h1,h2,h3,h4,h5⟩:=h.all d hd;refine⟨r,h1,h2,Adl h3 hF.size,?_,fun id L hL=>?_⟩
 ·rw[hF.keepB r h3 (fun id s L _ _ _ e=>h5 id L e)];exact h4
 ·cases e:θ id with
  |some L0=>
   have:=hF.ext id L0 e;rw[hL]at this;injection this with this;subst this
   exact h5 id L e
  |none=>
   rcases(hF.fresh id L hL e).2 with f|⟨j,s,L',_,_,_,q,u⟩
   ·omega
   ·rw[<-u];exact h5 j L' q
theorem Marks.cons{n0:Nat}{ds:List Deferred}(h:Marks n0 θ w ds)(hn:n0<=w.heap.size)(hb:∀id L,θ id=some L->L.b<w.heap.size):
  Marks n0 θ (w.alloc (.deferred (some []))) ({target:=.collected w.heap.size,args:=#[]}::ds):=by
 have hsz:(w.alloc (.deferred (some []))).heap.size=w.heap.size+1:=by show(w.heap.push _).size=_;simp
 refine⟨fun d hd=>?_,?_⟩
 ·rw[Ade]at hd
  rcases hd with rfl|hd
  ·exact⟨w.heap.size,rfl,hn,by omega,World.alloc_heap_new w _,fun id L e=>by have:=hb id L e;omega⟩
  ·obtain⟨r,h1,h2,h3,h4,h5⟩:=h.all d hd
   refine⟨r,h1,h2,by omega,?_,h5⟩;show(w.heap.push _)[r]?=_;rw[Array.getElem?_push_lt h3,<-h4,Array.getElem?_eq_getElem h3]
 ·rw[AcY,List.nodup_cons]
  refine⟨fun hm=>?_,h.nodup⟩;obtain⟨d,hd,e⟩:=Ad0.1 hm;obtain⟨r,h1,_,h3,_⟩:=h.all d hd;rw[h1]at e;injection e with e
  omega
theorem Ez{P:Program}{θ0:Th}{rows0:List Row}{low0 low:Nat}{w0:World}(cs:List Frame):∀(ds:List Deferred) (w:World) (fr:Frame),fr.mode = .returning->fr.defers=ds->Marks w0.heap.size θ w ds->Fr κ θ0 θ rows0 rows low0 low w0 w->
  ∃w',Steps P (lone fr cs w) (lone {fr with defers:=[]} cs w')/\Fr κ θ0 θ rows0 rows low0 low w0 w'
 |[],w,fr,hm,hd,_,hF=>⟨w,by rw[<-hd];exact Steps.refl _ _,hF⟩
 |
  d::ds,w,fr,hm,hd,hM,hF=>by
  obtain⟨r,h1,h2,h3,h4,h5⟩:=hM.all d (by simp);have hst:=step_collected (P:=P) (cs:=cs) (fr:=fr) (by rw[hm];simp) hd h1 (run_takeDeferred h4);have hnd:=hM.nodup;rw[AcY,List.nodup_cons]at hnd;have hM':Marks w0.heap.size θ (w.putObj r (.deferred none)) ds:=by
   refine⟨fun e he=>?_,hnd.2⟩;obtain⟨q,q1,q2,q3,q4,q5⟩:=hM.all e (by simp[he]);refine⟨q,q1,q2,by rw[World.putObj_size];exact q3,?_,q5⟩;rw[World.putObj_heap_other]
   ·exact q4
   ·rintro rfl
    exact hnd.1 (by rw[h1,<-q1];exact List.mem_map_of_mem he)
  obtain⟨w',s1,s2⟩:=Ez (P:=P) cs ds (w.putObj r (.deferred none)) {fr with defers:=ds} hm rfl hM' (hF.other r _ h2 h5);exact⟨w',.head (by simpa using hst) s1,s2⟩
end
section
variable {P:Program}{gl:List Nat}
theorem LX{b:Frame}{a:Act}{k:List Item}{cs:List Frame}{w:World}{ops:Array Oper}{i:Nat}{rest:List Nat}{o:Oper}(ho:ops[i]?=some o)(hw:Region.wanted o (yielded ops a.tmps)=true){c:Call}(hc:o.op = .call c){f:Operand}(hf:c.callee = .value f){l:Nat}
  (hv:a.eval f = .func (.yield l) #[] #[]) {r:Loop} (hr:w.heap[l]?=some (.loop r)) (hs:c.args.size=r.params.size):
  step P (lone (b.atR a (.inRegion ops (i::rest)::k)) cs w)=
   .next (lone (Frame.round l r.fn ((r.params.zip (c.args.map a.eval)).foldl (fun tmps (t,x)=>tmps.setIfInBounds t x) r.tmps) r.assign r.body .normal) (b.atR a (.inRegion ops (i::rest)::k)::cs) w):=by
 have hg:=stepGR_op (P:=P) (b:=b) (a:=a) (k:=k) (cs:=cs) (w:=w) (rest:=rest) ho hw;rw[HX (by rw[hc];intro c h;cases h)]at hg;refine step_lone_go ?_;rw[hg];obtain⟨callee,args,ats⟩:=c;simp only at hf;subst hf;obtain⟨dst,op,ty,pos,aft,gd⟩:=o;simp only at hc;subst hc;have hrun:(execOp a.eval {dst:=dst,op:=.call {callee:=.value f,args:=args,argTypes:=ats},type:=ty,pos:=pos,after:=aft,guard:=gd}).run P w=
   .ok (.round l r.fn ((r.params.zip (args.map a.eval)).foldl (fun tmps (t,x)=>tmps.setIfInBounds t x) r.tmps) r.assign r.body) w:=by
  simp only[execOp,resolve,hv,Deferred.ofValue,Sem.run_bind,Sem.run_pure,Result.andThen_ok,invoke];rw[Array.empty_append];exact run_yield (args:=args.map a.eval) hr (by simpa using hs)
 simp[stepG.apply,hrun,Sem.runT_eq,Frame.atR]
theorem SRel.putL{θ:Th}:∀(ps:List Nat) {vs:List AV} {xs:List Value} {sl:List AV} {t:Array Value},SRel θ sl t->VL θ vs xs->SRel θ (Abs.putL sl ps vs) ((ps.zip xs).foldl (fun tmps p=>tmps.setIfInBounds p.1 p.2) t)
 |[],vs,xs,sl,t,h,_=>by simpa[Abs.putL]using h
 |
  p::ps,vs,xs,sl,t,h,hv=>by
  cases vs with
  |nil=>
   have:xs=[]:=AdC.1 hv.1.symm;subst this;simpa[Abs.putL]using h
  |cons v vs=>
   obtain⟨x,xs',rfl,h1,h2⟩:=hv.of_cons;have:=SRel.putL ps (vs:=vs) (xs:=xs') (h.put (a:={tmps:=t,defers:=[]}) (some p) h1) h2;simpa[Abs.putL,BE,Act.put]using this
theorem Ce{θ:Th}{rows:List Row}{w:World}{id:Nat}{st:LoopState}{pend:Option Jump}{sl:List AV}{ps:List Nat}{asg body:ICode}(hr:HRel κ θ rows w)(h:rows[id]?=some (.loop st pend sl ps asg body)){L:Loc}(hL:θ id=some L):
  ∃r,w.heap[L.b]?=some (.loop r)/\r.state=st/\r.pending=pend.map Jump.code/\VL θ sl r.tmps.toList/\r.params.toList=ps/\κ asg r.assign/\κ body r.body:=by
 obtain⟨L',r,h1,h2⟩:=hr.row id _ h;rw[hL]at h1;injection h1 with h1
 subst h1;exact⟨r,h2⟩
theorem SRel.of_VL{θ:Th}{sl:List AV}{t:Array Value}(h:VL θ sl t.toList):SRel θ sl t:=⟨by have:=h.1;simpa using this,fun i x x' a b=>h.2 i x x' a (by simpa using b)⟩
theorem SRel.VL{θ:Th}{sl:List AV}{t:Array Value}(h:SRel θ sl t):VL θ sl t.toList:=⟨by have:=h.size;simpa using this,fun i x x' a b=>h.at_ i x x' a (by simpa using b)⟩
theorem Rr{o:Oper}{f:Opd}{args:List Opd}(h2:cop P gl o=some (.call [] f args)):∃c ff,o.op = .call c/\c.callee = .value ff/\f=co gl ff/\args=c.args.toList.map (co gl):=by
 obtain⟨c,h1,h3,⟨_,ff,h4,h5⟩|⟨_,_,_,_,_,h6⟩⟩:=Jc h2
 ·exact⟨c,ff,h1,h4,h5,h3⟩
 ·exact absurd rfl h6
def CxOK(P:Program)(θ:Th)(b:Frame):Ctx->Prop
 |.fn res=>b.roundOf=none/\∃func,P.funcs[b.fn]?=some func/\RX P func.results.toList=some res
 |.round id=>∃L,θ id=some L/\b.roundOf=some L.b
theorem CxOK.mono{θ θ':Th}(h:Ext θ θ'){b:Frame}:∀{cx:Ctx},CxOK P θ b cx->CxOK P θ' b cx
 |.fn _,k=>k
 |.round _,⟨L,a,c⟩=>⟨L,h _ _ a,c⟩
def DefsOK(cx:Ctx)(n0:Nat)(θ:Th)(w:World)(ds:List Deferred):Prop:=
 match cx with
 |.fn _=>Marks n0 θ w ds
 |.round _=>ds=[]
theorem DefsOK.frame{cx:Ctx}{n0:Nat}{θ θ':Th}{rows rows':List Row}{low low':Nat}{w w':World}{ds:List Deferred}(hr:HRel κ θ rows w)(h:DefsOK cx n0 θ w ds)(hF:Fr κ θ θ' rows rows' low low' w w'):DefsOK cx n0 θ' w' ds:=by
 cases cx with
 |fn res=>exact Marks.frame hr h hF
 |round id=>exact h
def Ends(P:Program)(cx:Ctx)(b:Frame)(m:Machine)(cs:List Frame)(w':World)(v':Value):Prop:=
 match cx with
 |.fn _=>∃fr,Steps P m (lone fr cs w')/\fr.fn=b.fn/\fr.leaving P w' (.returned v')
 |.round _=>∀c cs',cs=c::cs'->Steps P m (lone (c.finish v') cs' w')
theorem Ends.head{cx:Ctx}{b:Frame}{m m1:Machine}{cs:List Frame}{w':World}{v':Value}(h:Steps P m m1)(k:Ends P cx b m1 cs w' v'):Ends P cx b m cs w' v':=by
 cases cx with
 |fn res=>obtain⟨fr,a,c⟩:=k;exact⟨fr,h.trans a,c⟩
 |round id=>exact fun c cs' e=>h.trans (k c cs' e)
theorem QX{cx:Ctx}{θ:Th}{rows:List Row}{w:World}{b:Frame}{a:Act}{n0:Nat}(hcx:CxOK P θ b cx)(hok:KZ cx rows=true)(hr:HRel κ θ rows w)(low:Nat)(hD:DefsOK cx n0 θ w a.defers)(hn:n0<=w.heap.size)(ps:Array Tmp)(x y:Code):
  ∃wm mark dn,Fr κ θ θ rows rows low low w wm/\DefsOK cx n0 θ wm (mark++a.defers)/\
   (Instr.enterLoop b.fn a.tmps ps x y b.roundOf).run P w = .ok (wm.heap.size,mark) (wm.alloc (.loop {state:=.ready,pending:=none,fn:=b.fn,tmps:=a.tmps,params:=ps,assign:=x,body:=y,defers:=dn})):=by
 cases cx with
 |fn res=>
  refine⟨w.alloc (.deferred (some [])),[{target:=.collected w.heap.size,args:=#[]}],w.heap.size,Fr.garbage hr low _,Marks.cons hD hn hr.blk,?_⟩;rw[hcx.1,run_enterLoop_outer,World.size_alloc]
 |round id=>
  obtain⟨L,h1,h2⟩:=hcx;simp only[KZ]at hok
  split at hok
  ·rename_i st pend sl ps' asg body e
   obtain⟨r,r1,_⟩:=Ce hr e h1;refine⟨w,[],r.defers,Fr.refl hr low,hD,?_⟩;rw[h2,run_enterLoop_inner r1]
  ·simp at hok
end
end Go.Abs
namespace Go.Abs
section
variable {P:Program}{gl:List Nat}{F:Nat->Option IFn}
def U9(P:Program)(gl:List Nat)(F:Nat->Option IFn):Prop:=
 ∀ (f : Nat) (fn : IFn), F f = some fn → ∃ func hint, P.funcs[f]? = some func ∧ cfn P gl hint func = some fn ∧ (func.name == "runtime.NumGoroutine") = false
abbrev MU(F:Nat->Option IFn)(n:Nat):C4:=AE F (exec F n)
def Sim(P:Program)(gl:List Nat)(F:Nat->Option IFn)(n:Nat):Prop:=
 ∀(cx:Ctx) (k:List Itm) (s:St) (r:AV×List Row×Nat),exec F n cx k s=some r->∀(θ:Th) (w:World) (a:Act) (b:Frame) (todo:List Item) (cs:List Frame) (θ0:Th) (rows0:List Row) (low0:Nat) (w0:World),
  HRel (KP P gl) θ s.rows w->GRel θ gl->SRel θ s.sl a.tmps->s.low<=s.rows.length->KR P gl k todo->CxOK P θ b cx->b.kind = .normal->DefsOK cx w0.heap.size θ w a.defers->HRel (KP P gl) θ0 rows0 w0->Fr (KP P gl) θ0 θ rows0 s.rows low0 s.low w0 w->
  ∃θ' w' v',Ends P cx b (lone (b.atR a todo) cs w) cs w' v'/\V θ' r.1 v'/\Fr (KP P gl) θ0 θ' rows0 r.2.1 low0 r.2.2 w0 w'
theorem Nb{θ:Th}{vs:List AV}{args:Array Value}(h:VL θ vs args.toList){fn:IFn}{ntmps:Nat}(hn:fn.ns=ntmps)(rows:List Row):
  SRel θ (Me fn vs rows).sl (args++Array.replicate (ntmps-args.size) undef):=by
 have hl:vs.length=args.size:=by have:=h.1;simpa using this
 refine⟨by simp[Me,hl,hn],fun i x x' hx hx'=>?_⟩;simp only[Me]at hx
 by_cases hi:i<vs.length
 ·rw[AcD hi]at hx
  rw[Array.getElem?_append_left (by omega)]at hx';exact h.2 i x x' hx (by simpa using hx')
 ·rw[AcG (by omega)]at hx
  rw[AdU]at hx
  split at hx
  ·injection hx with hx;subst hx;exact .any _
  ·simp at hx
theorem Hb(hF:U9 P gl F){n:Nat}(h:Sim P gl F n)(f:Nat)(vs:List AV)(rows:List Row)(v:AV)(rows':List Row)(d:Option Nat)(hc:MU F n f vs rows=some (v,rows',d))(θ:Th)(w:World)(args:Array Value)(cs:List Frame)(low:Nat)
  (hr:HRel (KP P gl) θ rows w) (hg:GRel θ gl) (hv:VL θ vs args.toList) (hlow:low<=rows.length):
  (∃ func, P.funcs[f]? = some func ∧ func.body.isNone = false ∧ (func.name == "runtime.NumGoroutine") = false) ∧
  ∃θ' w' fr v',Steps P (lone (Frame.enter P f args .normal) cs w) (lone fr cs w')/\(fr.fn=f/\fr.leaving P w' (.returned v'))/\V θ' v v'/\Fr (KP P gl) θ θ' rows rows' low (AC low d) w w':=by
 unfold MU AE at hc
 split at hc
 case h_2=>simp at hc
 rename_i fn hfn;obtain⟨func,hint,h1,h2,h3⟩:=hF f fn hfn;unfold cfn at h2
 split at h2
 case h_2=>simp at h2
 rename_i c res hb hres;injection h2 with h2
 subst h2;refine⟨⟨func,h1,by rw[hb];rfl,h3⟩,?_⟩;unfold Dw at hc
 split at hc
 case h_2=>simp at hc
 rename_i v0 rows0 low0 hex;injection hc with hc
 let b:Frame:={fn:=f,tmps:=#[],todo:=[],defers:=[],mode:=.run,kind:=.normal}
 have henter:Frame.enter P f args .normal=b.atR {tmps:=args++Array.replicate (func.ntmps-args.size) undef,defers:=[]} [.code c]:=by
  simp[Frame.enter,Frame.atR,h1,hb,b]
 obtain⟨θ',w',v',⟨fr,s1,s2⟩,s3,s4⟩:=h (.fn res) _ _ _ hex θ w {tmps:=args++Array.replicate (func.ntmps-args.size) undef,defers:=[]} b [.code c] cs θ rows rows.length w hr hg (Nb hv rfl rows) (AcE _) (.cons (.code hint c) .nil) ⟨rfl,func,h1,hres⟩ rfl (Marks.nil _ _ _) hr (Fr.refl hr _);obtain⟨θ2,f1,f2⟩:=Ni hr hlow s4 s3;simp only at f1 f2;rw[hc]at f1 f2;exact⟨θ2,w',fr,v',by rw[henter];exact s1,s2,f1,f2⟩
theorem HZ(hF:U9 P gl F){n:Nat}(h:Sim P gl F n):Jd P gl (MU F n):=by
 intro f vs rows v rows' d hc θ w args cs low hr hg hv hlow;obtain⟨p,θ',w',fr,v',s1,s2,s3⟩:=Hb hF h f vs rows v rows' d hc θ w args cs low hr hg hv hlow;exact⟨p,θ',w',fr,v',s1,s2.2,s3⟩
theorem sim(hF:U9 P gl F):∀n,Sim P gl F n:=by
 intro n
 induction n with
 |zero=>intro cx k s r h;simp[exec]at h
 |succ n ih=>
  have hcall:=HZ hF ih;intro cx k s r h θ w a b todo cs θ0 rows0 low0 w0 hr hg hs hlow hk hcx hkd hD hr0 hF0
  -- the frame is left
  have leaveFn:∀(res:List RV) (j:Option Jump) (todo':List Item),cx = .fn res->AU cx j s=some r->Steps P (lone (b.atR a todo) cs w) (lone {b.atR a todo' with mode:=.returning} cs w)->
    ∃θ' w' v',Ends P cx b (lone (b.atR a todo) cs w) cs w' v'/\V θ' r.1 v'/\Fr (KP P gl) θ0 θ' rows0 r.2.1 low0 r.2.2 w0 w':=by
   intro res j todo' hcx' hl st;subst hcx';have hl2:(results s.rows s.sl res).map (fun v=>(v,s.rows,s.low))=some r:=by
    unfold AU at hl;simp only at hl
    split at hl
    ·simp at hl
    ·exact hl
   simp only[AcK]at hl2;obtain⟨v,hv,rfl⟩:=hl2;obtain⟨hb,func,hfu,hres⟩:=hcx;obtain⟨w',s1,s2⟩:=Ez (P:=P) cs a.defers w {b.atR a todo' with mode:=.returning} rfl rfl hD hF0;obtain⟨v',q1,q2⟩:=Hf (P:=P) s2.rel hs hres hv;exact⟨θ,w',v',⟨_,st.trans s1,rfl,rfl,rfl,hkd,func,hfu,q1⟩,q2,s2⟩
  have leaveRound:∀(id:Nat) (j:Option Jump),cx = .round id->AU cx j s=some r->(∀(L:Nat) (w':World) (v:Value) (c:Frame) (cs':List Frame),b.roundOf=some L->(Instr.endRound L (j.map Jump.code)).run P w = .ok v w'->step P (lone (b.atR a todo) (c::cs') w) = .next (lone (c.finish v) cs' w'))->
    ∃θ' w' v',Ends P cx b (lone (b.atR a todo) cs w) cs w' v'/\V θ' r.1 v'/\Fr (KP P gl) θ0 θ' rows0 r.2.1 low0 r.2.2 w0 w':=by
   intro id j hcx' hl st;subst hcx';obtain⟨L,hL,hb⟩:=hcx;simp only[AU]at hl
   split at hl
   case h_2=>simp at hl
   rename_i pend sl ps asg body e;injection hl with hl
   subst hl;obtain⟨q,q1,q2,q3,q4,q5,q6,q7⟩:=Ce hr e hL;have hrun:=run_endRound (P:=P) (j.map Jump.code) q1;have hlt:L.b<w.heap.size:=hr.blk id L hL;have hjn:(j.map Jump.code).isNone=j.isNone:=by cases j<;>rfl
   rw[hjn]at hrun;refine⟨θ,_,.bool j.isNone,fun c cs' e=>?_,.bool _,hF0.trans hr0 (Fr.setrow (w':=w.putObj L.b (.loop {q with state:=if j.isNone then .ready else .done,pending:=j.map Jump.code})) hr s.low e rfl hL World.putObj_size (fun k hk=>World.putObj_heap_other hk) rfl rfl rfl _ ?_ rfl)⟩
   ·subst e
    exact .one (st L.b _ _ c cs' hb hrun)
   ·exact⟨L,_,hL,World.putObj_heap_same hlt,rfl,rfl,q4,q5,q6,q7⟩
  -- one step of the machine that leaves all but the stack
  have go:∀(k':List Itm) (todo':List Item) (s':St),s'.rows=s.rows->s'.low=s.low->SRel θ s'.sl a.tmps->exec F n cx k' s'=some r->KR P gl k' todo'->Steps P (lone (b.atR a todo) cs w) (lone (b.atR a todo') cs w)->
    ∃θ' w' v',Ends P cx b (lone (b.atR a todo) cs w) cs w' v'/\V θ' r.1 v'/\Fr (KP P gl) θ0 θ' rows0 r.2.1 low0 r.2.2 w0 w':=by
   intro k' todo' s' e1 e2 e3 hex hk' st;obtain⟨θ',w',v',s1,s2,s3⟩:=ih cx k' s' r hex θ w a b todo' cs θ0 rows0 low0 w0 (by rw[e1];exact hr) hg e3 (by rw[e1,e2];exact hlow) hk' hcx hkd hD hr0 (by rw[e1,e2];exact hF0);exact⟨θ',w',v',s1.head st,s2,s3⟩
  cases hk with
  |nil=>
   simp only[exec]at h;cases hcx':cx with
   |fn res=>subst hcx';exact leaveFn res none [] rfl h (.one (stepR_end hcx.1))
   |round id=>subst hcx';exact leaveRound id none rfl h (fun L w' v c cs' hb hrun=>stepR_round_end hb hkd hrun)
  | @cons x y k t hx hkt=>
  -- one operation
  have oneStep:∀(ops:Array Oper) (i:Nat) (o:Oper) (rest:List Nat) (rs:List Seg),ops[i]?=some o->exec F (n+1) cx (.ops (.one (DN P gl ops o)::rs)::k) s=some r->KR P gl (.ops rs::k) (.inRegion ops rest::t)->
    (DefsOK cx w0.heap.size θ w a.defers)->∃θ' w' v',Ends P cx b (lone (b.atR a (.inRegion ops (i::rest)::t)) cs w) cs w' v'/\V θ' r.1 v'/\Fr (KP P gl) θ0 θ' rows0 r.2.1 low0 r.2.2 w0 w':=by
   intro ops i o rest rs hget h hkr hD;simp only[exec]at h;have cont:∀(θ1:Th) (w1:World) (v:AV) (v1:Value) (rows':List Row) (low':Nat),exec F n cx (.ops rs::k) ⟨BE s.sl (DN P gl ops o).dst v,rows',low'⟩=some r->V θ1 v v1->Fr (KP P gl) θ θ1 s.rows rows' s.low low' w w1->
     Steps P (lone (b.atR a (.inRegion ops (i::rest)::t)) cs w) (lone (b.atR (a.put (o).dst v1) (.inRegion ops (rest)::t)) cs w1)->
     ∃θ' w' v',Ends P cx b (lone (b.atR a (.inRegion ops (i::rest)::t)) cs w) cs w' v'/\V θ' r.1 v'/\Fr (KP P gl) θ0 θ' rows0 r.2.1 low0 r.2.2 w0 w':=by
    intro θ1 w1 v v1 rows' low' h hv1 hF1 st;have hs1:SRel θ1 (BE s.sl (DN P gl ops o).dst v) (a.put (o).dst v1).tmps:=by
     rw[KO];exact(hs.mono hF1.ext).put _ hv1
    have hdf:(a.put (o).dst v1).defers=a.defers:=by cases(o).dst<;>rfl
    obtain⟨θ',w',v',s1,s2,s3⟩:=ih cx _ _ r h θ1 w1 (a.put (o).dst v1) b (.inRegion ops (rest)::t) cs θ0 rows0 low0 w0 hF1.rel (hg.mono hF1.ext) hs1 (AcP hF1.low (AcP hlow hF1.len)) hkr (hcx.mono hF1.ext) hkd (by
     rw[hdf];exact hD.frame hr hF1) hr0 (hF0.trans hr0 hF1)
    exact⟨θ',w',v',s1.head st,s2,s3⟩
   split at h
   ·-- a yield
    rename_i id vs hy
    split at h
    case h_2=>simp at h
    rename_i st0 pend0 sl ps asg body e
    split at h
    case isFalse=>simp at h
    rename_i hlen
    split at h
    case h_2=>simp at h
    rename_i v rows' low' hex;unfold AJ at hy
    split at hy
    case h_2=>simp at hy
    rename_i f args hop
    split at hy
    case h_2=>simp at hy
    rename_i id' hf hw;simp only[AcI,AcQ]at hy;obtain⟨rfl,rfl⟩:=hy;obtain⟨g,h1,h2,h3,h4⟩:=Im (P:=P) (gl:=gl) (ops:=ops) (o:=o) (by rw[hop];simp);rw[h3]at hw;have hwr:=Cb hs h1 hw;rw[hop]at h2;obtain⟨c,ff,o1,o2,rfl,rfl⟩:=Rr h2;have hV:=AD (a:=a) hg hs ff;rw[hf]at hV;obtain⟨L,hL,hfv⟩:∃L,θ id'=some L/\a.eval ff = .func (.yield L.b) #[] #[]:=by
     generalize a.eval ff=z at hV;cases hV with
     |yield hL=>exact⟨_,hL,rfl⟩
    obtain⟨q,q1,q2,q3,q4,q5,⟨hint1,q6⟩,⟨hint2,q7⟩⟩:=Ce hr e hL;have hargs:=Tq (a:=a) hg hs c.args.toList;have hsz:c.args.size=q.params.size:=by
     have e1:ps.length=q.params.size:=by rw[<-q5];simp
     rw[<-e1,hlen];simp
    have hst:=LX (P:=P) (b:=b) (k:=t) (cs:=cs) (rest:=rest) hget hwr o1 o2 hfv q1 hsz
    let br:Frame:={fn:=q.fn,tmps:=#[],todo:=[],defers:=[],mode:=.run,kind:=.normal,roundOf:=some L.b}
    have hround:Frame.round L.b q.fn ((q.params.zip (c.args.map a.eval)).foldl (fun tmps (t,x)=>tmps.setIfInBounds t x) q.tmps) q.assign q.body .normal=
      br.atR {tmps:=(ps.zip (c.args.toList.map a.eval)).foldl (fun tmps p=>tmps.setIfInBounds p.1 p.2) q.tmps,defers:=[]} [.code q.assign,.beginRound,.code q.body]:=by
     have e1:(q.params.zip (c.args.map a.eval)).foldl (fun tmps (x:Tmp×Value)=>tmps.setIfInBounds x.1 x.2) q.tmps=(ps.zip (c.args.toList.map a.eval)).foldl (fun tmps p=>tmps.setIfInBounds p.1 p.2) q.tmps:=by
      rw[<-Array.foldl_toList,Array.toList_zip,q5];simp
     rw[<-e1];simp[Frame.round,Frame.atR,br]
    rw[hround]at hst;subst q6 q7;obtain⟨θ1,w1,v1,s1,s2,s3⟩:=ih (.round id') _ _ _ hex θ w {tmps:=(ps.zip (c.args.toList.map a.eval)).foldl (fun tmps p=>tmps.setIfInBounds p.1 p.2) q.tmps,defers:=[]} br [.code q.assign,.beginRound,.code q.body] (b.atR a (.inRegion ops (i::rest)::t)::cs) θ s.rows s.rows.length w hr hg (SRel.putL ps (SRel.of_VL q4) hargs) (AcE _) (.cons (.code hint1 _) (.cons .rfBegin (.cons (.code hint2 _) .nil))) ⟨L,hL,rfl⟩ rfl rfl hr (Fr.refl hr _);simp only at s2 s3;have hF1:=s3.weaken (low2:=s.low) (AK _ _) (AW s.low low');obtain⟨θ2,g1,g2⟩:=HD hr hF1 s2;have hfin:(b.atR a (.inRegion ops (i::rest)::t)).finish v1=b.atR (a.put (o).dst v1) (.inRegion ops (rest)::t):=by
     rw[Frame.finish_atR,hget];rfl
    refine cont θ2 w1 v v1 _ _ h g1 g2 (.head hst ?_);rw[<-hfin];exact s1 _ cs rfl
   ·rename_i hny
    split at h
    case h_2=>simp at h
    rename_i v rows' low' hop;obtain⟨θ1,w1,v1,st,hv1,hF1⟩:=OX hcall hget (show opR (MU F n) s.sl s.rows s.low _=some (v,rows',low')from hop) hr hg hs hlow b (rest) t cs;exact cont θ1 w1 v v1 rows' low' h hv1 hF1 st
  cases hx with
  |inBlock id=>
   simp only[exec]at h;exact go k t s rfl rfl hs h hkt (.one stepR_inBlock)
  |inLoop hint c=>
   simp only[exec,St.force_eq]at h;exact go _ (.code c::.inLoop c::t) s rfl rfl hs h (.cons (.code hint c) (.cons (.inLoop hint c) hkt)) (.one stepR_inLoop)
  |inScope hint c=>
   simp only[exec]at h;exact go k t s rfl rfl hs h hkt (.one (step_lone_go (by simp[stepG,stepG.exec,Frame.atR])))
  |rfBegin=>
   simp only[exec]at h;cases cx with
   |fn res=>simp at h
   |round id=>
    simp only at h
    split at h
    case h_2=>simp at h
    rename_i pend sl ps asg body e;obtain⟨L,hL,hb⟩:=hcx;obtain⟨q,q1,q2,q3,q4,q5,q6,q7⟩:=Ce hr e hL;have hlt:L.b<w.heap.size:=hr.blk id L hL;have hF1:Fr (KP P gl) θ θ s.rows (s.rows.set id (.loop .busy pend sl ps asg body)) s.low (Ab s.low id) w (w.putObj L.b (.loop {q with state:=.busy})):=
     Fr.setrow hr s.low e rfl hL World.putObj_size (fun k hk=>World.putObj_heap_other hk) rfl rfl rfl _ ⟨L,_,hL,World.putObj_heap_same hlt,rfl,q3,q4,q5,q6,q7⟩ rfl
    obtain⟨θ',w',v',s1,s2,s3⟩:=ih (.round id) k _ r h θ _ a b t cs θ0 rows0 low0 w0 hF1.rel hg hs (AcP (AW _ _) (by simpa using hlow)) hkt ⟨L,hL,hb⟩ hkd hD hr0 (hF0.trans hr0 hF1);exact⟨θ',w',v',s1.head (.one (stepR_beginRound hb (run_beginRound q1 q2))),s2,s3⟩
  |ops ops i=>
   rcases Adc i ops.size with hi|hi
   ·have hdrop:(ops.toList.map fun o=>Seg.one (DN P gl ops o)).drop i = .one (DN P gl ops ops[i])::(ops.toList.map fun o=>Seg.one (DN P gl ops o)).drop (i+1):=by
     rw[Adp (by simpa using hi)];simp
    have hrange:List.range' i (ops.size-i)=i::List.range' (i+1) (ops.size-(i+1)):=by
     rw[show ops.size-i=(ops.size-(i+1))+1 from by omega,List.range'_succ]
    rw[hdrop]at h;rw[hrange];exact oneStep ops i ops[i] _ _ (Array.getElem?_eq_getElem hi) h (.cons (.ops ops (i+1)) hkt) hD
   ·have hdrop:(ops.toList.map fun o=>Seg.one (DN P gl ops o)).drop i=[]:=Adv (by simpa using hi)
    have hrange:List.range' i (ops.size-i)=[]:=by rw[show ops.size-i=0 from by omega];rfl
    rw[hdrop]at h;simp only[exec]at h;rw[hrange]at go ⊢;exact go k t s rfl rfl hs h hkt (.one stepR_region_end)
  |draws ops c bs fuel t0 listed hed hchk hst=>
   cases bs with
   |nil=>
    simp only[J5,exec]at h;simp only[Wj,E7,beq_iff_eq]at hchk;subst hchk;rw[TW hst]at go ⊢;exact go k t s rfl rfl hs h hkt (.one stepR_region_end)
   |cons b0 bs=>
    simp only[Wj,Ac3,decide_eq_true_eq,E7]at hchk;obtain⟨⟨⟨⟨hc1,hc2⟩,hc3⟩,hc4⟩,hc5⟩:=hchk;have hend:=Jh hc3;simp only[J5]at h
    by_cases hb1:b0=c+1
    ·subst hb1
     rw[if_pos rfl]at h;obtain⟨fuel',t',listed',e1,e2⟩:=Ya hed hst (by omega) hend t0;rw[e1];have hget:ops[c]?=some (ops[c]'(by omega)):=Array.getElem?_eq_getElem (by omega);have hop:((Bw P gl ops).getD c (Is,0)).1=DN P gl ops (ops[c]'(by omega)):=by
      rw[List.getD,Jm (by omega)];simp[Array.getD,show c<ops.size from by omega]
     rw[hop]at h;exact oneStep ops c _ _ _ hget h (.cons (.draws ops (c+1) bs fuel' t' listed' hed hc5 e2) hkt) hD
    ·rw[if_neg hb1]at h
     obtain⟨m,rfl⟩:∃m,b0=c+m:=⟨b0-c,by omega⟩
     generalize hcd:Aby _=sg at h;unfold Aby at hcd;have fin:∀(sl':List AV) (rows':List Row) (low':Nat) (θ1:Th) (w1:World) (a1:Act) (fuel' t':Nat) (listed':Array Bool),exec F n cx (.ops (J5 (Bw P gl ops) (c+m) bs)::k) ⟨sl',rows',low'⟩=some r->
       Steps P (lone (b.atR a (.inRegion ops (Region.linearise.go .any ops fuel t0 listed [])::t)) cs w) (lone (b.atR a1 (.inRegion ops (Region.linearise.go .any ops fuel' t' listed' [])::t)) cs w1)->a1.defers=a.defers->DrawSt ops (c+m) fuel' listed'->SRel θ1 sl' a1.tmps->Fr (KP P gl) θ θ1 s.rows rows' s.low low' w w1->
       ∃θ' w' v',Ends P cx b (lone (b.atR a (.inRegion ops (Region.linearise.go .any ops fuel t0 listed [])::t)) cs w) cs w' v'/\V θ' r.1 v'/\Fr (KP P gl) θ0 θ' rows0 r.2.1 low0 r.2.2 w0 w':=by
      intro sl' rows' low' θ1 w1 a1 fuel' t' listed' h st hd1 hst' hs1 hF1;obtain⟨θ',w',v',s1,s2,s3⟩:=ih cx _ _ r h θ1 w1 a1 b _ cs θ0 rows0 low0 w0 hF1.rel (hg.mono hF1.ext) hs1 (AcP hF1.low (AcP hlow hF1.len)) (.cons (.draws ops (c+m) bs fuel' t' listed' hed hc5 hst') hkt) (hcx.mono hF1.ext) hkd (by rw[hd1];exact hD.frame hr hF1) hr0 (hF0.trans hr0 hF1);exact⟨θ',w',v',s1.head st,s2,s3⟩
     split at hcd
     ·rename_i hidx
      subst hcd;simp only[exec]at h
      split at h
      case h_2=>simp at h
      rename_i sl' ext hev;obtain⟨θ1,w1,a1,fuel',t',listed',st,hd1,hst',hs1,hF1⟩:=NI hcall hed hc2 hend hc4 (show At (MU F n) _ _ _ _ _=some (sl',ext)from hev) hst t0 hr hg hs s.low hlow b t cs;exact fin _ _ _ θ1 w1 a1 fuel' t' listed' h st hd1 hst' hs1 hF1
     ·rename_i i hidx
      obtain⟨hil,_⟩:=List.findIdx?_eq_some_iff_getElem.1 hidx;have higet:=AcR hil;have hgd:(Cv (Bw P gl ops) c (c+m)).getD i (Is,0)=(Cv (Bw P gl ops) c (c+m))[i]:=by simp[List.getD,higet]
      rw[hgd]at hcd
      split at hcd
      ·subst hcd;simp[exec]at h
      rename_i a0 x0 n0 hsto0
      split at hcd
      case isFalse=>subst hcd;simp[exec]at h
      rename_i hcond;obtain⟨hq1,hq2,hq3⟩:=hcond;subst hcd;simp only[exec]at h
      split at h
      case h_2=>simp at h
      rename_i slp extp hevp
      split at h
      case h_2=>simp at h
      rename_i R off hap0;rw[A6]at h
      split at h
      case h_2=>simp at h
      rename_i sl' ext hev
      split at h
      case h_2=>simp at h
      rename_i r' hsto;obtain⟨θ1,w1,a1,fuel',t',listed',st,hd1,hst',hs1,hF1⟩:=Mr hcall hed hc2 hend hc4 higet hsto0 hq1 hq2 (fun q hq=>by simpa using AcT.1 hq3 q hq) (show At (MU F n) _ _ _ _ _=some (sl',ext)from hev) hsto hst t0 hr hg hs s.low hlow b t cs;exact fin _ _ _ θ1 w1 a1 fuel' t' listed' h st hd1 hst' hs1 hF1
  |code hint c=>
   simp only[exec,St.forceS_eq]at h;cases c with
   |skip=>simp only[cc]at h;exact go k t s rfl rfl hs h hkt (.one stepR_skip)
   |label l=>simp only[cc]at h;exact go k t s rfl rfl hs h hkt (.one stepR_label)
   |ret=>
    simp only[cc]at h;cases hcx':cx with
    |fn res=>subst hcx';exact leaveFn res (some .ret) _ rfl h (.one (stepR_ret hcx.1))
    |round id=>subst hcx';exact leaveRound id (some .ret) rfl h (fun L w' v c cs' hb hrun=>stepR_round_ret hb hkd hrun)
   |exit id=>
    simp only[cc]at h
    split at h
    ·rename_i k' hp
     obtain⟨t',e1,e2⟩:=Dd id hkt hp;exact go k' t' s rfl rfl hs h e2 (.one (stepR_exit e1))
    ·rename_i hp
     cases hcx':cx with
     |fn res=>subst hcx';simp[AU]at h
     |round rid=>subst hcx';exact leaveRound rid (some (.exit id)) rfl h (fun L w' v c cs' hb hrun=>stepR_round_exit hb hkd (Eb id hkt hp) hrun)
   |seq x y=>simp only[cc]at h;exact go _ _ s rfl rfl hs h (.cons (.code hint x) (.cons (.code hint y) hkt)) (.one stepR_seq)
   |cond c x y=>
    simp only[cc]at h
    split at h
    ·rename_i tt e
     have hV:=AD (a:=a) hg hs c;rw[e]at hV;have hc:a.eval c = .bool tt:=by generalize a.eval c=z at *;cases hV;rfl
     cases tt
     ·exact go _ _ s rfl rfl hs h (.cons (.code hint y) hkt) (.one (stepR_cond hc))
     ·exact go _ _ s rfl rfl hs h (.cons (.code hint x) hkt) (.one (stepR_cond hc))
    ·simp at h
   |block id c=>simp only[cc]at h;exact go _ _ s rfl rfl hs h (.cons (.code hint c) (.cons (.inBlock id) hkt)) (.one stepR_block)
   |loop c=>simp only[cc]at h;exact go _ _ s rfl rfl hs h (.cons (.code hint c) (.cons (.inLoop hint c) hkt)) (.one stepR_loop)
   |scope c=>simp only[cc]at h;exact go _ _ s rfl rfl hs h (.cons (.code hint c) (.cons (.inScope hint c) hkt)) (.one (step_lone_go (by simp[stepG,stepG.exec,Frame.atR])))
   |goto l=>simp[cc]at h
   |refuse why=>simp[cc]at h
   |rangeFunc g ps x y=>
    simp only[cc]at h
    split at h
    case isFalse=>simp at h
    rename_i hok
    split at h
    case h_2=>simp at h
    rename_i fid vs ht
    split at h
    case h_2=>simp at h
    rename_i vv rows' d hex
    split at h
    case h_2=>simp at h
    rename_i k0 rows2 low2 hal;obtain⟨wm,mark,dn,hFm,hDm,hent⟩:=QX (P:=P) hcx hok hr s.low hD hF0.size ps x y;have hrm:=hFm.rel
    -- the record
    have hrow:RowRel (KP P gl) (θ.add s.rows.length ⟨wm.heap.size,0,0⟩) s.rows.length (wm.alloc (.loop {state:=.ready,pending:=none,fn:=b.fn,tmps:=a.tmps,params:=ps,assign:=x,body:=y,defers:=dn})) (.loop .ready none s.sl ps.toList (cc P gl hint x) (cc P gl hint y)):=
     ⟨⟨wm.heap.size,0,0⟩,_,Th.add_self _ _ _,World.alloc_heap_new _ _,rfl,rfl,(hs.mono (Th.ext_add hr.none_len _)).VL,rfl,⟨hint,rfl⟩,⟨hint,rfl⟩⟩
    have hF1:Fr (KP P gl) θ (θ.add s.rows.length ⟨wm.heap.size,0,0⟩) s.rows (s.rows++[.loop .ready none s.sl ps.toList (cc P gl hint x) (cc P gl hint y)]) s.low s.low wm (wm.alloc (.loop {state:=.ready,pending:=none,fn:=b.fn,tmps:=a.tmps,params:=ps,assign:=x,body:=y,defers:=dn})):=
     Fr.push (w':=wm.alloc (.loop {state:=.ready,pending:=none,fn:=b.fn,tmps:=a.tmps,params:=ps,assign:=x,body:=y,defers:=dn})) hrm s.low hlow _ rfl rfl rfl rfl 0 0 _ hrow rfl
    -- the call
    unfold target at ht
    split at ht
    case h_2=>simp at ht
    rename_i f' caps eg;simp only[AcI,AcQ]at ht;obtain⟨rfl,rfl⟩:=ht;have hV:=AD (a:=a) hg hs g;rw[eg]at hV;obtain⟨l',hgv,hcaps⟩:∃l':List Value,a.eval g = .func (.func f') #[] l'.toArray/\VL θ caps l':=by
     generalize a.eval g=z at hV;cases hV with
     | @func f l l' p q=>exact⟨l',rfl,p,q⟩
    have hvl:VL (θ.add s.rows.length ⟨wm.heap.size,0,0⟩) ([AV.yield s.rows.length]++caps) (#[Value.func (.yield wm.heap.size) #[] #[]]++l'.toArray).toList:=by
     have:(#[Value.func (.yield wm.heap.size) #[] #[]]++l'.toArray).toList=Value.func (.yield wm.heap.size) #[] #[]::l':=by simp
     rw[this];exact VL.cons (V.yield (L:=⟨wm.heap.size,0,0⟩) (Th.add_self _ _ _)) (hcaps.mono hF1.ext)
    obtain⟨⟨func,f1,f2,f3⟩,θ2,w2,fr,v2,c1,c2,c3,c4⟩:=Hb hF ih f' _ _ vv rows' d hex _ _ (#[Value.func (.yield wm.heap.size) #[] #[]]++l'.toArray) (b.atR {a with defers:=mark++a.defers} (.inRangeFunc wm.heap.size::t)::cs) s.low hF1.rel (hg.mono hF1.ext) hvl (by simp;omega);have hinv:∀w3:World,∃dd,(resolve a.eval (rangeCall g wm.heap.size) 0).run P w3 = .ok dd w3/\(invoke dd.target dd.args).run P w3 = .ok (.enter f' (#[Value.func (.yield wm.heap.size) #[] #[]]++l'.toArray)) w3:=by
     intro w3;refine⟨{target:=.fn (.func f') l'.toArray,args:=#[Value.func (.yield wm.heap.size) #[] #[]]},?_,?_⟩
     ·have hconst:∀v,a.eval (.const v)=v:=fun v=>rfl
      simp[resolve,rangeCall,hgv,hconst,Deferred.ofValue]
     ·simp[invoke,callFunc,f1]
      rw[if_neg (by simpa using f3),if_neg (by intro h;rw[h]at f2;simp at f2)]
    obtain⟨dd,i1,i2⟩:=hinv (wm.alloc (.loop {state:=.ready,pending:=none,fn:=b.fn,tmps:=a.tmps,params:=ps,assign:=x,body:=y,defers:=dn}));have st1:=stepR_rangeFunc (P:=P) (b:=b) (k:=t) (cs:=cs) hent i1 i2
    -- the loop's end
    unfold AL at hal
    split at hal
    case h_2=>simp at hal
    rename_i st2 pend2 sl2 ps2 asg2 body2 e2
    split at hal
    ·simp at hal
    rename_i hbusy;simp only[AcI,AcQ]at hal;obtain⟨rfl,rfl,rfl⟩:=hal;have hL2:θ2 s.rows.length=some ⟨wm.heap.size,0,0⟩:=c4.ext _ _ (Th.add_self _ _ _);obtain⟨q,q1,q2,q3,q4,q5,q6,q7⟩:=Ce c4.rel e2 hL2;have hlt:wm.heap.size<w2.heap.size:=c4.rel.blk _ _ hL2;have hend:=run_endLoop (P:=P) q1 (by rw[q2];simpa using hbusy);have hF3:Fr (KP P gl) θ2 θ2 rows' (rows'.set s.rows.length (.loop .exhausted pend2 sl2 ps2 asg2 body2)) (AC s.low d) (Ab (AC s.low d) s.rows.length) w2 (w2.putObj wm.heap.size (.loop {q with state:=.exhausted})):=
     Fr.setrow c4.rel (AC s.low d) e2 rfl hL2 World.putObj_size (fun k hk=>World.putObj_heap_other hk) rfl rfl rfl _ ⟨_,_,hL2,World.putObj_heap_same hlt,rfl,q3,q4,q5,q6,q7⟩ rfl
    have hlo:Ab (AC s.low d) s.rows.length=AC s.low d:=by
     have:=VD s.low d;unfold Ab;split<;>omega
    have hF4:=Fr.kill hF3.rel (Ab (AC s.low d) s.rows.length) s.rows.length;rw[Ad5]at hF4;rw[hlo]at hF3 hF4;rw[hlo]at hF4;have hall:=(hF1.trans hrm c4).trans hrm (hF3.trans c4.rel hF4);obtain⟨θ3,_,g2⟩:=HD hrm hall (v:=.tup []) (v':=.tuple [].toArray) (.tup (l':=[]) rfl (fun i x x' h=>by simp at h));have hcode:KR P gl (RC pend2++k) ((q.pending.map Item.code).toList++t):=by
     rw[q3];cases pend2 with
     |none=>exact hkt
     |
      some j=>cases j with
      |ret=>exact .cons (.code hint .ret) hkt
      |exit id=>exact .cons (.code hint (.exit id)) hkt
    obtain⟨θ',w',v',s1,s2,s3⟩:=ih cx _ _ r h θ3 _ {a with defers:=mark++a.defers} b _ cs θ0 rows0 low0 w0 g2.rel (hg.mono g2.ext) (hs.mono g2.ext) (AcP g2.low (AcP hlow g2.len)) hcode (hcx.mono g2.ext) hkd (hDm.frame hrm g2) hr0 (hF0.trans hr0 (hFm.trans hr g2));refine⟨θ',w',v',s1.head (.head st1 (c1.trans (.head ?_ (.one (stepR_endRangeFunc hend))))),s2,s3⟩;rw[<-finish_atR_inRangeFunc wm.heap.size v2];exact step_leave_returned c2.2
   |region id ops draw=>
    cases draw with
    |false=>
     simp only[cc]at h;cases hh:hint id with
     |none=>
      rw[hh]at h;have h0:KR P gl (.ops ((ops.toList.map fun o=>Seg.one (DN P gl ops o)).drop 0)::k) (.inRegion ops (List.range' 0 (ops.size-0))::t):=.cons (.ops ops 0) hkt;simp only[Aeg,Nat.sub_zero]at h0;rw[<-List.range_eq_range']at h0;exact go _ _ s rfl rfl hs h h0 (.one stepR_region)
     |some hp=>
      rw[hh]at h;exact go _ _ {s with sl:=Cr s.sl (dead hp.1 hp.2)} rfl rfl (hs.kill _) h (.cons (.code (fun _=>none) (.region id ops false)) hkt) (Steps.refl _ _)
    |true=>
     simp only[cc]at h
     by_cases hok0:(Wj (Bw P gl ops) (Region.before ops).toList 0 (Jp (Region.before ops).toList)&&Hr ops&&P.follows .mixedOrders)=true
     case neg=>rw[if_neg hok0]at h;simp at h
     rw[if_pos hok0]at h;have hok:=hok0;simp only[Ac3]at hok;obtain⟨⟨hok1,hok2⟩,hmix⟩:=hok;cases hh:hint id with
     |none=>
      rw[hh]at h;simp only at h;have hF1:=Fr.drawn (P:=P) (gl:=gl) hr s.low (w.drawn+1);obtain⟨θ',w',v',s1,s2,s3⟩:=ih cx _ _ r h θ {w with drawn:=w.drawn+1} a b _ cs θ0 rows0 low0 w0 hF1.rel hg hs hlow (.cons (.draws ops 0 (Jp (Region.before ops).toList) ops.size (w.tape w.drawn (.order b.fn id)) (Array.replicate ops.size false) (I8 hok2) hok1 (DrawSt.start ops)) hkt) hcx hkd (hD.frame hr hF1) hr0 (hF0.trans hr0 hF1);have hst:=stepR_region_draw (P:=P) (b:=b) (a:=a) (k:=t) (cs:=cs) (w:=w) (ops:=ops) (id:=id);simp only[Region.schedule,hmix,Bool.true_or,if_true]at hst;exact⟨θ',w',v',s1.head (.one hst),s2,s3⟩
     |some hp=>
      rw[hh]at h;refine go _ _ {s with sl:=Cr s.sl (dead hp.1 hp.2)} rfl rfl (hs.kill _) h ?_ (Steps.refl _ _);have:=KR.cons (IR.code (P:=P) (gl:=gl) (fun _=>none) (.region id ops true)) hkt;simp only[cc,hok0,if_true]at this;exact this
theorem L9(hF:U9 P gl F){n f:Nat}{vs:List AV}{rows rows':List Row}{v:AV}{d:Option Nat}(hc:call F n f vs rows=some (v,rows',d)){θ:Th}{w:World}{args:Array Value}(hr:HRel (KP P gl) θ rows w)(hg:GRel θ gl)(hv:VL θ vs args.toList):
  Calls P f args w fun e w'=>∃θ' v',e = .returned v'/\V θ' v v'/\Fr (KP P gl) θ θ' rows rows' rows.length (AC rows.length d) w w':=by
 intro cs;obtain⟨_,θ',w',fr,v',s1,s2,s3,s4⟩:=Hb hF (sim hF n) f vs rows v rows' d hc θ w args cs rows.length hr hg hv (AcE _);exact⟨.returned v',w',fr,⟨θ',v',rfl,s3,s4⟩,s1,s2.1,s2.2⟩
end
def LeC(c c':C4):Prop:=∀f vs rows r,c f vs rows=some r->c' f vs rows=some r
theorem Cq{c c':C4}(h:LeC c c'){sl:List AV}{rows:List Row}{low:Nat}{o:IOpx}{r:AV×List Row×Nat}(e:opR c sl rows low o=some r):opR c' sl rows low o=some r:=by
 unfold opR at e ⊢
 split at e
 ·simp at e
 ·exact e
 ·split at e
  ·split at e
   ·split at e
    ·rename_i hc
     rw[h _ _ _ _ hc];exact e
    ·simp at e
   ·simp at e
  ·exact e
theorem AB{c c':C4}(h:LeC c c'){rows:Nat->List Row}:∀(l:List (IOpx×Nat)) (i:Nat) (sl:List AV) (ext:List (Nat×Row)) (r:List AV×List (Nat×Row)),At c rows i l sl ext=some r->At c' rows i l sl ext=some r
 |[],i,sl,ext,r,e=>e
 |
  (o,b)::l,i,sl,ext,r,e=>by
  simp only[At]at e ⊢
  split at e
  ·rename_i hop
   rw[Cq h hop];simp only
   split at e
   ·rename_i hl
    rw[if_pos hl];exact AB h l _ _ _ _ e
   ·simp at e
  ·simp at e
section
variable {F:Nat->Option IFn}
abbrev cF(F:Nat->Option IFn)(n:Nat):C4:=AE F (exec F n)
theorem NO{n n':Nat}(h:∀cx k s r,exec F n cx k s=some r->exec F n' cx k s=some r):LeC (cF F n) (cF F n'):=by
 intro f vs rows r e;unfold cF AE at e ⊢
 split at e
 ·rename_i fn hfn
  unfold Dw at e
  split at e
  ·rename_i hx
   simp only[h _ _ _ _ hx,Dw];exact e
  ·simp at e
 ·simp at e
theorem PB:∀(n:Nat) (cx:Ctx) (k:List Itm) (s:St) (r:AV×List Row×Nat),exec F n cx k s=some r->exec F (n+1) cx k s=some r:=by
 intro n
 induction n with
 |zero=>intro cx k s r h;simp[exec]at h
 |succ n ih=>
  intro cx k s r h;have hc:LeC (cF F n) (cF F (n+1)):=NO ih;cases k with
  |nil=>simp only[exec]at h ⊢;exact h
  |cons x k=>
   cases x with
   |inBlock id=>simp only[exec]at h ⊢;exact ih _ _ _ _ h
   |inScope c=>simp only[exec]at h ⊢;exact ih _ _ _ _ h
   |inLoop c=>simp only[exec,St.force_eq]at h;rw[exec,St.force_eq];exact ih _ _ _ _ h
   |rfBegin=>
    simp only[exec]at h ⊢
    split at h
    ·split at h
     ·exact ih _ _ _ _ h
     ·simp at h
    ·simp at h
   |ops l=>
    cases l with
    |nil=>simp only[exec]at h ⊢;exact ih _ _ _ _ h
    |cons sg l=>
     cases sg with
     |one o=>
      rw[exec]at h ⊢
      split at h
      ·rename_i id vs hy
       split at h
       ·split at h
        ·rename_i hl
         split at h
         ·rename_i hx
          simp only[if_pos hl,ih _ _ _ _ hx];exact ih _ _ _ _ h
         ·simp at h
        ·simp at h
       ·simp at h
      ·split at h
       ·rename_i hop
        rw[show opR (AE F (exec F (n+1))) s.sl s.rows s.low o=_ from Cq hc hop];exact ih _ _ _ _ h
       ·simp at h
     |grp g=>
      rw[exec]at h ⊢
      split at h
      ·rename_i hop
       rw[show At (AE F (exec F (n+1))) (fun _=>s.rows) 0 g s.sl []=_ from AB hc _ _ _ _ _ hop];exact ih _ _ _ _ h
      ·simp at h
     |grpw a x z b g=>
      rw[exec]at h ⊢
      split at h
      ·rename_i hop
       rw[show At (AE F (exec F (n+1))) (fun _=>s.rows) 0 g s.sl []=_ from AB hc _ _ _ _ _ hop];simp only
       split at h
       ·rename_i R off hR
        simp only[A6]at h ⊢
        split at h
        ·rename_i hop2
         rw[show At (AE F (exec F (n+1))) (BT s.rows (Bf s.rows R off (z.getD 1)) b) 0 g s.sl []=_ from AB hc _ _ _ _ _ hop2];simp only
         split at h
         ·exact ih _ _ _ _ h
         ·simp at h
        ·simp at h
       ·simp at h
      ·simp at h
     |stop=>simp[exec]at h
   |code c=>
    cases c with
    |skip=>simp only[exec]at h ⊢;exact ih _ _ _ _ h
    |ret=>simp only[exec]at h ⊢;exact h
    |exit id=>
     simp only[exec]at h ⊢
     split at h
     ·exact ih _ _ _ _ h
     ·exact h
    |seq a b=>rw[exec]at h ⊢;exact ih _ _ _ _ h
    |cond c a b=>
     rw[exec]at h ⊢
     split at h
     ·exact ih _ _ _ _ h
     ·simp at h
    |block id c=>rw[exec]at h ⊢;exact ih _ _ _ _ h
    |loop c=>rw[exec]at h ⊢;exact ih _ _ _ _ h
    |scope c=>rw[exec]at h ⊢;exact ih _ _ _ _ h
    |ops l=>simp only[exec,St.forceS_eq]at h ⊢;exact ih _ _ _ _ h
    |rf f ps a b=>
     rw[exec]at h ⊢
     split at h
     ·rename_i hok
      rw[if_pos hok]
      split at h
      ·split at h
       ·rename_i hop
        rw[show AE F (exec F (n+1)) _ _ _=_ from hc _ _ _ _ hop];simp only
        split at h
        ·exact ih _ _ _ _ h
        ·simp at h
       ·simp at h
      ·simp at h
     ·simp at h
    |kill l ks c=>rw[exec]at h ⊢;exact ih _ _ _ _ h
    |stop=>simp[exec]at h
theorem Dg{n n':Nat}(hn:n<=n'){cx:Ctx}{k:List Itm}{s:St}{r:AV×List Row×Nat}(h:exec F n cx k s=some r):exec F n' cx k s=some r:=by
 induction hn with
 |refl=>exact h
 |step _ ih=>exact PB _ _ _ _ _ ih
def Ex(F:Nat->Option IFn)(cx:Ctx)(k:List Itm)(s:St)(R:AV×List Row×Nat->Prop):Prop:=∃n r,exec F n cx k s=some r/\R r
variable {cx:Ctx}{k:List Itm}{s:St}{r:AV×List Row×Nat->Prop}{sl:List AV}{rows:List Row}{low:Nat}
theorem Ex.imp{r':AV×List Row×Nat->Prop}(h:Ex F cx k s r)(hk:∀x,r x->r' x):Ex F cx k s r':=by
 obtain⟨n,x,a,b⟩:=h;exact⟨n,x,a,hk x b⟩
theorem Ex.step{k':List Itm}{s':St}(e:∀n,exec F (n+1) cx k s=exec F n cx k' s'):Ex F cx k s r↔Ex F cx k' s' r:=by
 constructor
 ·rintro ⟨n,x,h,hx⟩
  cases n with
  |zero=>simp[exec]at h
  |succ n=>exact⟨n,x,by rw[<-e n];exact h,hx⟩
 ·rintro ⟨n,x,h,hx⟩
  exact⟨n+1,x,by rw[e n];exact h,hx⟩
theorem Ex.leave{j:Option Jump}(e:∀n,exec F (n+1) cx k s=AU cx j s):Ex F cx k s r↔∃x,AU cx j s=some x/\r x:=by
 constructor
 ·rintro ⟨n,x,h,hx⟩
  cases n with
  |zero=>simp[exec]at h
  |succ n=>exact⟨x,by rw[<-e n];exact h,hx⟩
 ·rintro ⟨x,h,hx⟩
  exact⟨1,x,by rw[e 0];exact h,hx⟩
theorem Ex.no(e:∀n,exec F (n+1) cx k s=none):¬Ex F cx k s r:=by
 rintro ⟨n,x,h,hx⟩
 cases n with
 |zero=>simp[exec]at h
 |succ n=>rw[e n]at h;simp at h
theorem Pz:Ex F cx [] s r↔∃x,AU cx none s=some x/\r x:=Ex.leave fun n=>by rw[exec]
theorem SU:Ex F cx (.code .ret::k) s r↔∃x,AU cx (some .ret) s=some x/\r x:=Ex.leave fun n=>by rw[exec]
theorem GJ{id:Nat}:Ex F cx (.inBlock id::k) s r↔Ex F cx k s r:=Ex.step fun n=>by rw[exec]
theorem GR{c:ICode}:Ex F cx (.inScope c::k) s r↔Ex F cx k s r:=Ex.step fun n=>by rw[exec]
theorem Ex_inLoop{c:ICode}:Ex F cx (.inLoop c::k) s r↔Ex F cx (.code c::.inLoop c::k) s r:=Ex.step fun n=>by rw[exec,St.force_eq]
theorem HF:Ex F cx (.code .skip::k) s r↔Ex F cx k s r:=Ex.step fun n=>by rw[exec]
theorem Fc{a b:ICode}:Ex F cx (.code (.seq a b)::k) s r↔Ex F cx (.code a::.code b::k) s r:=Ex.step fun n=>by rw[exec]
theorem EQ{id:Nat}{c:ICode}:Ex F cx (.code (.block id c)::k) s r↔Ex F cx (.code c::.inBlock id::k) s r:=Ex.step fun n=>by rw[exec]
theorem Ex_loop{c:ICode}:Ex F cx (.code (.loop c)::k) s r↔Ex F cx (.code c::.inLoop c::k) s r:=Ex.step fun n=>by rw[exec]
theorem ES{c:ICode}:Ex F cx (.code (.scope c)::k) s r↔Ex F cx (.code c::.inScope c::k) s r:=Ex.step fun n=>by rw[exec]
theorem Jb{l:List Seg}:Ex F cx (.code (.ops l)::k) s r↔Ex F cx (.ops l::k) s r:=Ex.step fun n=>by simp only[exec,St.forceS_eq]
theorem Df{m:Nat}{l:List Nat}{c:ICode}:Ex F cx (.code (.kill m l c)::k) ⟨sl,rows,low⟩ r↔Ex F cx (.code c::k) ⟨Cr sl (dead m l),rows,low⟩ r:=Ex.step fun n=>by rw[exec]
theorem IK:Ex F cx (.ops []::k) s r↔Ex F cx k s r:=Ex.step fun n=>by rw[exec]
theorem PW{c:Opd}{a b:ICode}:Ex F cx (.code (.cond c a b)::k) ⟨sl,rows,low⟩ r↔∃t,Ak sl c = .bool t/\Ex F cx (.code (if t then a else b)::k) ⟨sl,rows,low⟩ r:=by
 cases h:Ak sl c with
 |bool t=>
  rw[Ex.step (k':=.code (if t then a else b)::k) (s':=⟨sl,rows,low⟩) (fun n=>by rw[exec];simp only[h])];simp
 |_=>
  constructor
  ·intro e
   exact absurd e (Ex.no fun n=>by rw[exec];simp only[h])
  ·rintro ⟨t,e,_⟩;simp at e
theorem D6{id:Nat}:Ex F cx (.code (.exit id)::k) s r↔match BB id k with|some k'=>Ex F cx k' s r|none=>∃x,AU cx (some (.exit id)) s=some x/\r x:=by
 split
 ·rename_i k' h
  exact Ex.step fun n=>by rw[exec];simp only[h]
 ·rename_i h
  exact Ex.leave fun n=>by rw[exec];simp only[h]
def IOp.plain:IOp->Bool
 |.call ..=>false
 |_=>true
theorem YO{o:IOpx}{l:List Seg}(ho:o.op.plain=true):Ex F cx (.ops (.one o::l)::k) ⟨sl,rows,low⟩ r↔∃c,BL sl o.g=some c/\
  (if c then ∃v rows' low',Au (Ak sl) rows low o.op=some (v,rows',low')/\Ex F cx (.ops l::k) ⟨BE sl o.dst v,rows',low'⟩ r else Ex F cx (.ops l::k) ⟨BE sl o.dst (.tup []),rows,low⟩ r):=by
 have hy:AJ sl o=none:=by
  unfold AJ
  split
  ·rename_i e;rw[e]at ho;simp[IOp.plain]at ho
  ·rfl
 have hop:∀call:C4,opR call sl rows low o=match BL sl o.g with|none=>none|some false=>some (.tup [],rows,low)|some true=>Au (Ak sl) rows low o.op:=fun call=>by
  unfold opR
  split
  ·simp[*]
  ·simp[*]
  ·rename_i hw
   rw[hw];simp only
   split
   ·rename_i e;rw[e]at ho;simp[IOp.plain]at ho
   ·rfl
 cases hw:BL sl o.g with
 |none=>
  constructor
  ·intro e
   exact absurd e (Ex.no fun n=>by rw[exec];simp[hy,hop,hw])
  ·rintro ⟨c,e,_⟩;simp at e
 |some c=>
  cases c with
  |false=>
   rw[Ex.step (k':=.ops l::k) (s':=⟨BE sl o.dst (.tup []),rows,low⟩) (fun n=>by rw[exec];simp only[hy,hop,hw])];simp
  |true=>
   cases he:Au (Ak sl) rows low o.op with
   |none=>
    constructor
    ·intro e
     exact absurd e (Ex.no fun n=>by rw[exec];simp[hy,hop,hw,he])
    ·rintro ⟨c,e,h⟩
     injection e with e;subst e
     simp at h
   |some q=>
    obtain⟨v,rows',low'⟩:=q;rw[Ex.step (k':=.ops l::k) (s':=⟨BE sl o.dst v,rows',low'⟩) (fun n=>by rw[exec];simp only[hy,hop,hw,he])];constructor
    ·intro h;exact⟨true,rfl,by rw[if_pos rfl];exact⟨v,rows',low',rfl,h⟩⟩
    ·rintro ⟨c,e,h⟩
     injection e with e;subst e
     rw[if_pos rfl]at h;obtain⟨v1,r1,l1,e1,h⟩:=h;simp only[AcI,AcQ]at e1;obtain⟨rfl,rfl,rfl⟩:=e1;exact h
end
section
variable {F:Nat->Option IFn}
open Classical in
noncomputable def Ret(F:Nat->Option IFn):C4:=fun f vs rows=>if h:∃q,∃n,cF F n f vs rows=some q then some h.choose else none
theorem Iq{n m:Nat}(h:n<=m):LeC (cF F n) (cF F m):=NO fun cx k s r e=>Dg h e
theorem EK{n f:Nat}{vs:List AV}{rows:List Row}{q:AV×List Row×Option Nat}(h:cF F n f vs rows=some q):Ret F f vs rows=some q:=by
 have hx:∃q,∃n,cF F n f vs rows=some q:=⟨q,n,h⟩
 unfold Ret;rw[dif_pos hx];obtain⟨m,hm⟩:=hx.choose_spec;have h1:=Iq (F:=F) (AdX n m) _ _ _ _ h;have h2:=Iq (F:=F) (Ad3 n m) _ _ _ _ hm;rw[h1]at h2;exact h2.symm
theorem Ret_iff{f:Nat}{vs:List AV}{rows:List Row}{q:AV×List Row×Option Nat}:Ret F f vs rows=some q↔∃n,cF F n f vs rows=some q:=by
 constructor
 ·intro h
  unfold Ret at h
  split at h
  ·rename_i hx
   injection h with h
   subst h;exact hx.choose_spec
  ·simp at h
 ·rintro ⟨n,h⟩;exact EK h
theorem Eo(n:Nat):LeC (cF F n) (Ret F):=fun _ _ _ _ h=>EK h
theorem opR_Ret{sl:List AV}{rows:List Row}{low:Nat}{o:IOpx}{q:AV×List Row×Nat}:opR (Ret F) sl rows low o=some q↔∃n,opR (cF F n) sl rows low o=some q:=by
 constructor
 ·intro h
  unfold opR at h
  split at h
  ·simp at h
  ·rename_i hw
   exact⟨0,by unfold opR;rw[hw];exact h⟩
  ·rename_i hw
   split at h
   ·rename_i f args ho
    split at h
    ·rename_i fid vs ht
     split at h
     ·rename_i v rows' d hc
      obtain⟨n,hn⟩:=Ret_iff.1 hc;refine⟨n,?_⟩;unfold opR;rw[hw];simp only[ho,ht,hn];exact h
     ·simp at h
    ·simp at h
   ·rename_i op hne
    refine⟨0,?_⟩;unfold opR;rw[hw];simp only;exact h
 ·rintro ⟨n,h⟩;exact Cq (Eo n) h
theorem evalG_Ret{rows:Nat->List Row}:∀{l:List (IOpx×Nat)} {i:Nat} {sl:List AV} {ext:List (Nat×Row)} {q:List AV×List (Nat×Row)},At (Ret F) rows i l sl ext=some q↔∃n,At (cF F n) rows i l sl ext=some q
 |[],i,sl,ext,q=>by simp[At]
 |
  (o,b)::l,i,sl,ext,q=>by
  constructor
  ·intro h
   simp only[At]at h
   split at h
   ·rename_i v rows' low' hop
    split at h
    ·rename_i hl
     obtain⟨n,hn⟩:=opR_Ret.1 hop;obtain⟨m,hm⟩:=evalG_Ret.1 h;refine⟨max n m,?_⟩;simp only[At];rw[Cq (Iq (AdX n m)) hn];simp only;rw[if_pos hl];exact AB (Iq (Ad3 n m)) _ _ _ _ _ hm
    ·simp at h
   ·simp at h
  ·rintro ⟨n,h⟩;exact AB (Eo n) _ _ _ _ _ h
variable {cx:Ctx}{k:List Itm}{s:St}{r:AV×List Row×Nat->Prop}{sl:List AV}{rows:List Row}{low:Nat}{l:List Seg}
theorem EB{o:IOpx}(hy:AJ sl o=none):Ex F cx (.ops (.one o::l)::k) ⟨sl,rows,low⟩ r↔∃q,opR (Ret F) sl rows low o=some q/\Ex F cx (.ops l::k) ⟨BE sl o.dst q.1,q.2.1,q.2.2⟩ r:=by
 constructor
 ·rintro ⟨n,x,e,hx⟩
  cases n with
  |zero=>simp[exec]at e
  |succ n=>
   rw[exec]at e;simp only[hy]at e
   split at e
   ·rename_i v rows' low' hop
    exact⟨_,Cq (Eo n) hop,n,x,e,hx⟩
   ·simp at e
 ·rintro ⟨⟨v,rows',low'⟩,ho,m,x,e,hx⟩
  obtain⟨n,hn⟩:=opR_Ret.1 ho;refine⟨max n m+1,x,?_,hx⟩;rw[exec];simp only[hy];rw[show opR (AE F (exec F (max n m))) sl rows low o=_ from Cq (Iq (AdX n m)) hn];exact Dg (Ad3 n m) e
theorem Ia{o:IOpx}{id:Nat}{vs:List AV}(hy:AJ sl o=some (id,vs)):Ex F cx (.ops (.one o::l)::k) ⟨sl,rows,low⟩ r↔∃st pd sl1 ps asg body,rows[id]?=some (.loop st pd sl1 ps asg body)/\ps.length=vs.length/\
  Ex F (.round id) [.code asg,.rfBegin,.code body] ⟨putL sl1 ps vs,rows,rows.length⟩ fun q=>Ex F cx (.ops l::k) ⟨BE sl o.dst q.1,gc rows.length (Ab low q.2.2) q.1 q.2.1,Ab low q.2.2⟩ r:=by
 constructor
 ·rintro ⟨n,x,e,hx⟩
  cases n with
  |zero=>simp[exec]at e
  |succ n=>
   rw[exec]at e;simp only[hy]at e
   split at e
   ·rename_i st pd sl1 ps asg body hr
    split at e
    ·rename_i hl
     split at e
     ·rename_i v rows' low' hop
      exact⟨_,_,_,_,_,_,hr,hl,n,_,hop,n,x,e,hx⟩
     ·simp at e
    ·simp at e
   ·simp at e
 ·rintro ⟨st,pd,sl1,ps,asg,body,hr,hl,n,⟨v,rows',low'⟩,e1,m,x,e2,hx⟩
  refine⟨max n m+1,x,?_,hx⟩;rw[exec];simp only[hy,hr,if_pos hl,Dg (F:=F) (AdX n m) e1];exact Dg (Ad3 n m) e2
theorem O3{g:List (IOpx×Nat)}:Ex F cx (.ops (.grp g::l)::k) ⟨sl,rows,low⟩ r↔∃q,At (Ret F) (fun _=>rows) 0 g sl []=some q/\Ex F cx (.ops l::k) ⟨q.1,rows++q.2.map (·.2),low⟩ r:=by
 constructor
 ·rintro ⟨n,x,e,hx⟩
  cases n with
  |zero=>simp[exec]at e
  |succ n=>
   rw[exec]at e
   split at e
   ·rename_i sl' ext hop
    exact⟨_,AB (Eo n) _ _ _ _ _ hop,n,x,e,hx⟩
   ·simp at e
 ·rintro ⟨⟨sl',ext⟩,ho,m,x,e,hx⟩
  obtain⟨n,hn⟩:=evalG_Ret.1 ho;refine⟨max n m+1,x,?_,hx⟩;rw[exec];simp only;rw[show At (AE F (exec F (max n m))) (fun _=>rows) 0 g sl []=_ from AB (Iq (AdX n m)) _ _ _ _ _ hn];exact Dg (Ad3 n m) e
theorem HG{a y:Opd}{sz:Option Nat}{b:Nat}{g:List (IOpx×Nat)}:Ex F cx (.ops (.grpw a y sz b g::l)::k) ⟨sl,rows,low⟩ r↔∃p,At (Ret F) (fun _=>rows) 0 g sl []=some p/\∃R off,Ak p.1 a = .ptr R off/\∃q,At (Ret F) (BT rows (Bf rows R off (sz.getD 1)) b) 0 g sl []=some q/\
  ∃r',CG q.1 rows R off a y sz=some r'/\Ex F cx (.ops l::k) ⟨q.1,rows.set R r'++q.2.map (·.2),Ab low R⟩ r:=by
 constructor
 ·rintro ⟨n,x,e,hx⟩
  cases n with
  |zero=>simp[exec]at e
  |succ n=>
   rw[exec]at e
   split at e
   ·rename_i sl0 ext0 hop
    split at e
    ·rename_i R off hR
     simp only[A6]at e
     split at e
     ·rename_i sl' ext hop2
      split at e
      ·rename_i r' hr
       exact⟨_,AB (Eo n) _ _ _ _ _ hop,R,off,hR,_,AB (Eo n) _ _ _ _ _ hop2,r',hr,n,x,e,hx⟩
      ·simp at e
     ·simp at e
    ·simp at e
   ·simp at e
 ·rintro ⟨⟨sl0,ext0⟩,ho0,R,off,hR,⟨sl',ext⟩,ho,r',hr,m,x,e,hx⟩
  obtain⟨n,hn⟩:=evalG_Ret.1 ho;obtain⟨n0,hn0⟩:=evalG_Ret.1 ho0;refine⟨max (max n n0) m+1,x,?_,hx⟩;rw[exec];simp only;rw[show At (AE F (exec F (max (max n n0) m))) (fun _=>rows) 0 g sl []=_ from AB (Iq (AcP (Ad3 n n0) (AdX _ m))) _ _ _ _ _ hn0];simp only at hR ⊢;simp only[hR,A6];rw[show At (AE F (exec F (max (max n n0) m))) (BT rows (Bf rows R off (sz.getD 1)) b) 0 g sl []=_ from AB (Iq (AcP (AdX n n0) (AdX _ m))) _ _ _ _ _ hn];simp only[hr];exact Dg (Ad3 _ m) e
theorem Uu{f:Opd}{ps:List Nat}{asg body:ICode}:Ex F cx (.code (.rf f ps asg body)::k) ⟨sl,rows,low⟩ r↔KZ cx rows=true/\∃t,target (Ak sl f) [.yield rows.length]=some t/\∃q,Ret F t.1 t.2 (rows++[.loop .ready none sl ps asg body])=some q/\
  ∃a,AL rows.length low q.2.1 q.2.2=some a/\Ex F cx (a.1++k) ⟨sl,a.2.1,a.2.2⟩ r:=by
 constructor
 ·rintro ⟨n,x,e,hx⟩
  cases n with
  |zero=>simp[exec]at e
  |succ n=>
   rw[exec]at e;simp only at e
   split at e
   ·rename_i hok
    split at e
    ·rename_i fid vs ht
     split at e
     ·rename_i v rows' d hc
      split at e
      ·rename_i k0 rows2 low2 ha
       exact⟨hok,_,ht,_,EK hc,_,ha,n,x,e,hx⟩
      ·simp at e
     ·simp at e
    ·simp at e
   ·simp at e
 ·rintro ⟨hok,⟨fid,vs⟩,ht,⟨v,rows',d⟩,hq,⟨k0,rows2,low2⟩,ha,m,x,e,hx⟩
  obtain⟨n,hn⟩:=Ret_iff.1 hq;refine⟨max n m+1,x,?_,hx⟩;rw[exec];simp only;rw[if_pos hok];simp only[ht];rw[show AE F (exec F (max n m)) fid vs _=_ from Iq (AdX n m) _ _ _ _ hn];simp only[ha];exact Dg (Ad3 n m) e
theorem B9{id:Nat}:Ex F (.round id) (.rfBegin::k) ⟨sl,rows,low⟩ r↔∃pd sl1 ps asg body,rows[id]?=some (.loop .ready pd sl1 ps asg body)/\Ex F (.round id) k ⟨sl,rows.set id (.loop .busy pd sl1 ps asg body),Ab low id⟩ r:=by
 constructor
 ·rintro ⟨n,x,e,hx⟩
  cases n with
  |zero=>simp[exec]at e
  |succ n=>
   rw[exec]at e;simp only at e
   split at e
   ·rename_i hr
    exact⟨_,_,_,_,_,hr,n,x,e,hx⟩
   ·simp at e
 ·rintro ⟨pd,sl1,ps,asg,body,hr,n,x,e,hx⟩
  refine⟨n+1,x,?_,hx⟩;rw[exec];simp only[hr];exact e
def Gl(F:Nat->Option IFn)(cx:Ctx)(d:Option Nat)(l:List Seg)(k:List Itm)(sl:List AV)(rows:List Row)(low:Nat)(r:AV×List Row×Nat->Prop)(args:List AV):List (Nat×Nat)->AV->Prop
 |[],.func f cs=>∃q,Ret F f (args++cs) rows=some q/\Ex F cx (.ops l::k) ⟨BE sl d q.1,q.2.1,AC low q.2.2⟩ r
 |[],.iface t v=>∃p,AG t v=some p/\∃q,Ret F p.1 (p.2++args) rows=some q/\Ex F cx (.ops l::k) ⟨BE sl d q.1,q.2.1,AC low q.2.2⟩ r
 |
  [],.yield id=>∃st pd sl1 ps asg body,rows[id]?=some (.loop st pd sl1 ps asg body)/\ps.length=args.length/\
  Ex F (.round id) [.code asg,.rfBegin,.code body] ⟨putL sl1 ps args,rows,rows.length⟩ fun q=>Ex F cx (.ops l::k) ⟨BE sl d q.1,gc rows.length (Ab low q.2.2) q.1 q.2.1,Ab low q.2.2⟩ r
 |p::tab,.iface t v=>t≠bd/\∃f,(p::tab).lookup t=some f/\∃q,Ret F f (v::args) rows=some q/\Ex F cx (.ops l::k) ⟨BE sl d q.1,q.2.1,AC low q.2.2⟩ r
 |_,_=>False
theorem G8{d:Option Nat}{tab:List (Nat×Nat)}{f:Opd}{args:List Opd}:Ex F cx (.ops (.one ⟨d,.call tab f args,none⟩::l)::k) ⟨sl,rows,low⟩ r↔Gl F cx d l k sl rows low r (args.map (Ak sl)) tab (Ak sl f):=by
 have fin:∀(fid:Nat) (vs:List AV),(∃q,(match Ret F fid vs rows with|some (v,rows',d)=>some (v,rows',AC low d)|none=>none)=some q/\Ex F cx (.ops l::k) ⟨BE sl d q.1,q.2.1,q.2.2⟩ r)↔∃q,Ret F fid vs rows=some q/\Ex F cx (.ops l::k) ⟨BE sl d q.1,q.2.1,AC low q.2.2⟩ r:=by
  intro fid vs;constructor
  ·rintro ⟨q,e,h⟩
   split at e
   ·rename_i v rows' dd hc
    injection e with e
    subst e;exact⟨_,hc,h⟩
   ·simp at e
  ·rintro ⟨⟨v,rows',dd⟩,e,h⟩
   exact⟨(v,rows',AC low dd),by rw[e],h⟩
 cases tab with
 |cons p tab=>
  rw[EB (by simp[AJ])];cases hf:Ak sl f with
  |iface t v=>
   simp only[opR,BL,Aw,hf,Gl]
   by_cases ht:t=bd
   ·simp[ht]
   ·cases hl:(p::tab).lookup t with
    |none=>simp[ht]
    |some f'=>
     simp only[if_neg ht,AcN,ne_eq,ht,not_false_eq_true,true_and,AcI,exists_eq_left'];exact fin _ _
  |_=>simp[opR,BL,Aw,hf,Gl]
 |nil=>
 cases hf:Ak sl f with
 |yield id=>
  rw[Ia (id:=id) (vs:=args.map (Ak sl)) (by simp[AJ,hf,BL])];simp only[Gl]
 |func g cs=>
  rw[EB (by simp[AJ,hf])];simp only[opR,BL,Aw,hf,Gl];exact fin _ _
 |iface t v=>
  rw[EB (by simp[AJ,hf])];simp only[opR,BL,Aw,hf,Gl];cases hb:AG t v with
  |none=>simp
  |some p=>
   simp only[AcN,AcI,exists_eq_left'];exact fin _ _
 |_=>
  rw[EB (by simp[AJ,hf])];simp[opR,BL,Aw,hf,Gl]
theorem ET{d:Option Nat}{op:IOp}{t:Nat}{b:Bool}:Ex F cx (.ops (.one ⟨d,op,some (t,b)⟩::l)::k) ⟨sl,rows,low⟩ r↔∃c,BL sl (some (t,b))=some c/\if c=true then Ex F cx (.ops (.one ⟨d,op,none⟩::l)::k) ⟨sl,rows,low⟩ r else Ex F cx (.ops l::k) ⟨BE sl d (.tup []),rows,low⟩ r:=by
 cases hw:BL sl (some (t,b))with
 |none=>
  have hy:AJ sl ⟨d,op,some (t,b)⟩=none:=by
   unfold AJ
   split
   ·split
    ·rename_i e2 hw2;rw[hw]at hw2;simp at hw2
    ·rfl
   ·rfl
  rw[EB hy];simp[opR,hw]
 |some c=>
  cases c with
  |false=>
   have hy:AJ sl ⟨d,op,some (t,b)⟩=none:=by
    unfold AJ
    split
    ·split
     ·rename_i e2 hw2;rw[hw]at hw2;simp at hw2
     ·rfl
    ·rfl
   rw[EB hy];simp only[opR,hw,AcI];constructor
   ·rintro ⟨q,rfl,h⟩;exact⟨false,rfl,by simpa using h⟩
   ·rintro ⟨c,rfl,h⟩;exact⟨_,rfl,by simpa using h⟩
  |true=>
   have e1:∀(q:AV×List Row×Nat),opR (Ret F) sl rows low ⟨d,op,some (t,b)⟩=some q↔opR (Ret F) sl rows low ⟨d,op,none⟩=some q:=fun q=>by
    have hn:BL sl none=some true:=rfl;unfold opR;simp only[hw,hn]
   have hyy:AJ sl ⟨d,op,some (t,b)⟩=AJ sl ⟨d,op,none⟩:=by
    have hn:BL sl none=some true:=rfl;unfold AJ;simp only[hw,hn]
   cases hy:AJ sl ⟨d,op,none⟩with
   |none=>
    rw[EB (hyy.trans hy),EB hy];simp only[e1,AcI];constructor
    ·rintro ⟨q,e,h⟩;exact⟨true,rfl,by rw[if_pos rfl];exact⟨q,e,h⟩⟩
    ·rintro ⟨c,rfl,h⟩;rw[if_pos rfl]at h;exact h
   |some p=>
    obtain⟨id,vs⟩:=p;rw[Ia (hyy.trans hy),Ia hy];simp only[AcI];constructor
    ·intro h;exact⟨true,rfl,by rw[if_pos rfl];exact h⟩
    ·rintro ⟨c,rfl,h⟩;rw[if_pos rfl]at h;exact h
theorem Av{f:Nat}{fn:IFn}{vs:List AV}{q:AV×List Row×Option Nat}(hf:F f=some fn)(h:Ex F (.fn fn.res) [.code fn.body] (Me fn vs rows) fun r=>fin rows r.1 r.2.1 r.2.2=q):Ret F f vs rows=some q:=by
 obtain⟨n,r,h,hr⟩:=h;refine EK (n:=n) ?_;unfold cF AE;rw[hf];simp only[h,Dw,hr]
theorem D7{f:Nat}{fn:IFn}{vs:List AV}(hf:F f=some fn){R:AV×List Row×Option Nat->Prop}(h:Ex F (.fn fn.res) [.code fn.body] (Me fn vs rows) fun r=>R (fin rows r.1 r.2.1 r.2.2)):∃q,Ret F f vs rows=some q/\R q:=by
 obtain⟨n,r,h,hr⟩:=h;refine⟨_,EK (n:=n) ?_,hr⟩;unfold cF AE;rw[hf];simp only[h,Dw]
end
def AY(g:Opd->AV)(x:Opd):Opd:=.c (g x)
def DD(g:Opd->AV):IOp->IOp
 |.mv x=>.mv (AY g x)
 |.pick c a b=>.pick (AY g c) (AY g a) (AY g b)
 |.box x=>.box (AY g x)
 |.load1 a=>.load1 (AY g a)
 |.loadN n a=>.loadN n (AY g a)
 |.store1 a x=>.store1 (AY g a) (AY g x)
 |.storeN n a x=>.storeN n (AY g a) (AY g x)
 |.nilck x=>.nilck (AY g x)
 |.bin op x y=>.bin op (AY g x) (AY g y)
 |.eqv neg kd x y=>.eqv neg kd (AY g x) (AY g y)
 |.un op x=>.un op (AY g x)
 |.conv k x=>.conv k (AY g x)
 |.part1 off x=>.part1 off (AY g x)
 |.partN off n x=>.partN off n (AY g x)
 |.idxV n sz ag x i=>.idxV n sz ag (AY g x) (AY g i)
 |.fieldA off x=>.fieldA off (AY g x)
 |.idxA n sz x i=>.idxA n sz (AY g x) (AY g i)
 |.idxS sz x i=>.idxS sz (AY g x) (AY g i)
 |.mkagg zero ps=>.mkagg zero (ps.map fun p=>(p.1,p.2.1,AY g p.2.2))
 |.mkslice n zero ps=>.mkslice n zero (ps.map fun p=>(p.1,p.2.1,AY g p.2.2))
 |.make zero b l c=>.make zero b (AY g l) (AY g c)
 |.sliceS sz x lo hi mx=>.sliceS sz (AY g x) (lo.map (AY g)) (hi.map (AY g)) (mx.map (AY g))
 |.sliceA n sz x lo hi mx=>.sliceA n sz (AY g x) (lo.map (AY g)) (hi.map (AY g)) (mx.map (AY g))
 |.mkfn f cs=>.mkfn f (cs.map (AY g))
 |.bind f cs=>.bind f (cs.map (AY g))
 |.mkmap=>.mkmap
 |.look z ok m k=>.look z ok (AY g m) (AY g k)
 |.mset m k v=>.mset (AY g m) (AY g k) (AY g v)
 |.lenc n=>.lenc n
 |.len kd x=>.len kd (AY g x)
 |.cap x=>.cap (AY g x)
 |.mx xs=>.mx (xs.map (AY g))
 |.mn xs=>.mn (xs.map (AY g))
 |.app sz b s x=>.app sz b (AY g s) (AY g x)
 |.appz z s x=>.appz z (AY g s) (AY g x)
 |.ext x i=>.ext (AY g x) i
 |.mkif t x=>.mkif t (AY g x)
 |.call tab f args=>.call tab (AY g f) (args.map (AY g))
 |.bad=>.bad
def evP(rows:List Row)(o:IOp):Option AV:=Af rows (Ak []) o
def evE(rows:List Row)(low:Nat)(o:IOp):Option (AV×List Row×Nat):=Au (Ak []) rows low o
theorem Ek(g:Opd->AV)(x:Opd):Ak [] (AY g x)=g x:=rfl
theorem FO(g:Opd->AV):∀(ps:List (Nat×Nat×Opd)) (cs:List AV),Ap (Ak []) (ps.map fun p=>(p.1,p.2.1,AY g p.2.2)) cs=Ap g ps cs
 |[],cs=>rfl
 |
  p::ps,cs=>by
  simp only[AcY,Ap,Ek,FO g ps]
theorem Oh(g:Opd->AV)(l:List Opd):(l.map (AY g)).map (Ak [])=l.map g:=by simp[Ek,Function.comp_def]
theorem K2(g:Opd->AV)(l:Option Opd):(l.map (AY g)).map (Ak [])=l.map g:=by cases l<;>rfl
theorem E5(rows:List Row)(g:Opd->AV)(o:IOp):Af rows g o=evP rows (DD g o):=by
 cases o<;>simp only[evP,DD,Af,Ek,FO,Oh,K2]
theorem DX(rows:List Row)(low:Nat)(g:Opd->AV)(o:IOp):Au g rows low o=evE rows low (DD g o):=by
 cases o<;>first|rfl|simp only[evE,DD,Au,Ek,FO,Oh,K2,Af]
def IOp.pure:IOp->Bool
 |.mv _|.pick .. | .load1 _|.loadN .. | .nilck _|.bin .. | .eqv .. | .un .. | .conv .. | .part1 .. | .partN .. | .idxV .. | .fieldA .. | .idxA .. | .idxS .. | .mkagg .. | .sliceS .. | .sliceA .. | .mkfn .. | .bind .. | .look .. | .lenc _|.len .. | .cap _|.mx _|.mn _|.ext .. | .mkif ..=>true
 |_=>false
theorem M7{o:IOp}(h:o.pure=true):o.plain=true:=by cases o<;>first|rfl|simp[IOp.pure]at h
theorem BH{o:IOp}(h:o.pure=true)(g:Opd->AV)(rows:List Row)(low:Nat):Au g rows low o=(Af rows g o).map fun v=>(v,rows,low):=by
 cases o<;>first|rfl|simp[IOp.pure]at h
def bnd{α:Type}(o:Option α)(K:α->Prop):Prop:=∃a,o=some a/\K a
@[simp] theorem BW{α:Type}(a:α)(K:α->Prop):bnd (some a) K↔K a:=by simp[bnd]
@[simp] theorem LQ{α:Type}(K:α->Prop):bnd none K↔False:=by simp[bnd]
@[congr] theorem XC{α:Type}{o o':Option α}{K:α->Prop}(h:o=o'):bnd o K=bnd o' K:=by rw[h]
theorem JE{α β:Type}(o:Option α)(f:α->β)(K:β->Prop):bnd (o.map f) K↔bnd o fun a=>K (f a):=by cases o<;>simp
def gv(g:AV)(b:Bool)(e:Option AV):Option AV:=
 match g with
 |.bool c=>if c==b then e else some (.tup [])
 |.tup []=>some (.tup [])
 |_=>none
def gw(g:AV)(b:Bool)(K:Prop)(K':Prop):Prop:=
 match g with
 |.bool c=>if c==b then K else K'
 |.tup []=>K'
 |_=>False
section
variable (F:Nat->Option IFn)
def Bp(rows:List Row)(low:Nat)(args:List AV)(K:AV->List Row->Nat->Prop):List (Nat×Nat)->AV->Prop
 |[],.func f cs=>bnd (Ret F f (args++cs) rows) fun q=>K q.1 q.2.1 (AC low q.2.2)
 |[],.iface t v=>bnd (AG t v) fun p=>bnd (Ret F p.1 (p.2++args) rows) fun q=>K q.1 q.2.1 (AC low q.2.2)
 |
  [],.yield id=>∃st pd sl1 ps asg body,rows[id]?=some (.loop st pd sl1 ps asg body)/\ps.length=args.length/\
  Ex F (.round id) [.code asg,.rfBegin,.code body] ⟨putL sl1 ps args,rows,rows.length⟩ fun q=>K q.1 (gc rows.length (Ab low q.2.2) q.1 q.2.1) (Ab low q.2.2)
 |p::tab,.iface t v=>t≠bd/\bnd ((p::tab).lookup t) fun f=>bnd (Ret F f (v::args) rows) fun q=>K q.1 q.2.1 (AC low q.2.2)
 |_,_=>False
def CF(g:AV)(b:Bool)(rows:List Row)(low:Nat)(args:List AV)(tab:List (Nat×Nat))(f:AV)(K:AV->List Row->Nat->Prop):Prop:=gw g b (Bp F rows low args K tab f) (K (.tup []) rows low)
def WA(g:AV)(b:Bool)(rows:List Row)(low:Nat)(o:IOp)(K:AV->List Row->Nat->Prop):Prop:=gw g b (bnd (evE rows low o) fun q=>K q.1 q.2.1 q.2.2) (K (.tup []) rows low)
noncomputable def opC(rows:List Row)(low:Nat)(args:List AV)(tab:List (Nat×Nat))(f:AV):Option (AV×List Row×Nat):=
 match Aw tab f args with
 |some (fid,vs)=>(Ret F fid vs rows).map fun q=>(q.1,q.2.1,AC low q.2.2)
 |none=>none
def go(g:AV)(b:Bool)(rows:List Row)(low:Nat)(e:Option (AV×List Row×Nat)):Option (AV×List Row×Nat):=
 match g with
 |.bool c=>if c==b then e else some (.tup [],rows,low)
 |.tup []=>some (.tup [],rows,low)
 |_=>none
variable {σ:Type}(get:σ->Opd->AV)(put:σ->Option Nat->AV->σ)
noncomputable def opG(sl:σ)(rows:List Row)(low:Nat)(o:IOpx):Option (AV×List Row×Nat):=
 match o with
 |⟨_,.call tab f args,none⟩=>opC F rows low (args.map (get sl)) tab (get sl f)
 |⟨_,.call tab f args,some (t,b)⟩=>go (get sl (.t t)) b rows low (opC F rows low (args.map (get sl)) tab (get sl f))
 |⟨_,op,none⟩=>evE rows low (DD (get sl) op)
 |⟨_,op,some (t,b)⟩=>go (get sl (.t t)) b rows low (evE rows low (DD (get sl) op))
def JL(o:IOpx)(sl:σ)(rows:List Row)(low:Nat)(K:σ->List Row->Nat->Prop):Prop:=
 match o with
 |⟨d,.mv x,none⟩=>K (put sl d (get sl x)) rows low
 |⟨d,.call [] (.c (.func f [])) args,none⟩=>bnd (Ret F f (args.map (get sl)) rows) fun q=>K (put sl d q.1) q.2.1 (AC low q.2.2)
 |⟨d,.call tab f args,none⟩=>Bp F rows low (args.map (get sl)) (fun v rows low=>K (put sl d v) rows low) tab (get sl f)
 |⟨d,.call tab f args,some (t,b)⟩=>CF F (get sl (.t t)) b rows low (args.map (get sl)) tab (get sl f) (fun v rows low=>K (put sl d v) rows low)
 |⟨d,op,none⟩=>if op.pure then bnd (evP rows (DD (get sl) op)) fun v=>K (put sl d v) rows low else bnd (evE rows low (DD (get sl) op)) fun q=>K (put sl d q.1) q.2.1 q.2.2
 |⟨d,op,some (t,b)⟩=>if op.pure then bnd (gv (get sl (.t t)) b (evP rows (DD (get sl) op))) fun v=>K (put sl d v) rows low else WA (get sl (.t t)) b rows low (DD (get sl) op) fun v rows low=>K (put sl d v) rows low
def Rh(rows:List Row)(low:Nat)(K:σ->Prop):List (IOpx×Nat)->σ->Prop
 |[],sl=>K sl
 |(o,_)::r,sl=>JL F get put o sl rows low fun sl _ _=>Rh rows low K r sl
def LJ:List (IOpx×Nat)->Bool
 |[]=>true
 |(o,_)::r=>o.op.pure&&LJ r
def It(rows:List Row)(K:σ->List Row->Prop):Nat->List (IOpx×Nat)->σ->List (Nat×Row)->Prop
 |_,[],sl,ext=>K sl (rows++ext.map (·.2))
 |i,(o,b)::r,sl,ext=>
  if o.op.pure then
   (match o with
   |⟨d,.mv x,none⟩=>It rows K (i+1) r (put sl d (get sl x)) ext
   |⟨d,op,none⟩=>bnd (evP (rows++Ai b ext) (DD (get sl) op)) fun v=>It rows K (i+1) r (put sl d v) ext
   |⟨d,op,some (t,c)⟩=>bnd (gv (get sl (.t t)) c (evP (rows++Ai b ext) (DD (get sl) op))) fun v=>It rows K (i+1) r (put sl d v) ext)
  else bnd (opG F get sl (rows++Ai b ext) (rows.length+ext.length) o) fun q=>q.2.2=rows.length+ext.length/\
   bnd (some (ext++(q.2.1.drop (rows.length+ext.length)).map fun x=>(i,x))) fun e=>It rows K (i+1) r (put sl o.dst q.1) e
def La(E:σ->List Row->Nat->Prop):List Seg->σ->List Row->Nat->Prop
 |[],sl,rows,low=>E sl rows low
 |.one o::l,sl,rows,low=>JL F get put o sl rows low fun sl rows low=>La E l sl rows low
 |.grp g::l,sl,rows,low=>if LJ g then Rh F get put rows low (fun sl=>La E l sl rows low) g sl else It F get put rows (fun sl rows=>La E l sl rows low) 0 g sl []
 |.grpw .. :: _,_,_,_=>False
 |.stop::_,_,_,_=>False
def noW:List Seg->Bool
 |[]=>true
 |.grpw .. :: _=>false
 |_::l=>noW l
end
section
variable {F:Nat->Option IFn}{cx:Ctx}{k:List Itm}{r:AV×List Row×Nat->Prop}{l:List Seg}
theorem FS{d:Option Nat}{sl:List AV}{rows:List Row}{low:Nat}{args:List AV}{tab:List (Nat×Nat)}{v:AV}{P:List AV->List Row->Nat->Prop}(hP:∀sl rows low,Ex F cx (.ops l::k) ⟨sl,rows,low⟩ r↔P sl rows low):
  Gl F cx d l k sl rows low r args tab v↔Bp F rows low args (fun v rows low=>P (BE sl d v) rows low) tab v:=by
 cases tab<;>cases v<;>simp only[Gl,Bp,hP,bnd]
theorem UD{o:IOpx}{sl:List AV}{rows:List Row}{low:Nat}{P:List AV->List Row->Nat->Prop}(hP:∀sl rows low,Ex F cx (.ops l::k) ⟨sl,rows,low⟩ r↔P sl rows low):
  Ex F cx (.ops (.one o::l)::k) ⟨sl,rows,low⟩ r↔JL F Ak BE o sl rows low P:=by
 have plainN:∀(d:Option Nat) (op:IOp),op.plain=true->(Ex F cx (.ops (.one ⟨d,op,none⟩::l)::k) ⟨sl,rows,low⟩ r↔bnd (evE rows low (DD (Ak sl) op)) fun q=>P (BE sl d q.1) q.2.1 q.2.2):=by
  intro d op ho;rw[YO ho];simp only[BL,AcI,exists_eq_left',if_true,hP,bnd,DX];constructor
  ·rintro ⟨v,a,b,e,h⟩;exact⟨_,e,h⟩
  ·rintro ⟨⟨v,a,b⟩,e,h⟩;exact⟨_,_,_,e,h⟩
 have pureN:∀(d:Option Nat) (op:IOp),op.pure=true->(Ex F cx (.ops (.one ⟨d,op,none⟩::l)::k) ⟨sl,rows,low⟩ r↔bnd (evP rows (DD (Ak sl) op)) fun v=>P (BE sl d v) rows low):=by
  intro d op ho;rw[plainN d op (M7 ho),<-DX,BH ho,JE,E5]
 have want2:∀(t:Nat) (b:Bool) (K K':Prop),(∃c,BL sl (some (t,b))=some c/\if c=true then K else K')↔gw (sl.getD t .any) b K K':=by
  intro t b K K';unfold BL gw;simp only;generalize sl.getD t AV.any=gg
  split<;>simp
 have pureG:∀(d:Option Nat) (op:IOp) (t:Nat) (b:Bool),op.pure=true->(Ex F cx (.ops (.one ⟨d,op,some (t,b)⟩::l)::k) ⟨sl,rows,low⟩ r↔bnd (gv (sl.getD t .any) b (evP rows (DD (Ak sl) op))) fun v=>P (BE sl d v) rows low):=by
  intro d op t b ho;rw[ET,want2,pureN d op ho,hP];unfold gw gv;generalize sl.getD t AV.any=gg
  split
  ·split<;>simp
  ·simp
  ·simp
 have effG:∀(d:Option Nat) (op:IOp) (t:Nat) (b:Bool),op.plain=true->(Ex F cx (.ops (.one ⟨d,op,some (t,b)⟩::l)::k) ⟨sl,rows,low⟩ r↔gw (sl.getD t .any) b (bnd (evE rows low (DD (Ak sl) op)) fun q=>P (BE sl d q.1) q.2.1 q.2.2) (P (BE sl d (.tup [])) rows low)):=by
  intro d op t b ho;rw[ET,want2,plainN d op ho,hP]
 obtain⟨d,op,g⟩:=o;cases g with
 |none=>
  cases op with
  |mv x=>
   rw[pureN d _ rfl];simp only[DD,evP,Af,Ek,BW,JL]
  |call tab f args=>
   have hd:=G8 (F:=F) (cx:=cx) (k:=k) (r:=r) (l:=l) (sl:=sl) (rows:=rows) (low:=low) (d:=d) (tab:=tab) (f:=f) (args:=args);rw[hd,FS hP];cases tab with
   |cons p tab=>rfl
   |nil=>
   cases f with
   |t n=>rfl
   |c v=>
    cases v with
    |func fid cs=>
     cases cs with
     |nil=>simp only[JL,Ak,Bp,AcV]
     |cons a b=>rfl
    |_=>rfl
  |box x=>rw[plainN d _ rfl];rfl
  |store1 a x=>rw[plainN d _ rfl];rfl
  |storeN n a x=>rw[plainN d _ rfl];rfl
  |mkslice a b c=>rw[plainN d _ rfl];rfl
  |make a b x y=>rw[plainN d _ rfl];rfl
  |mkmap=>rw[plainN d _ rfl];rfl
  |mset m k v=>rw[plainN d _ rfl];rfl
  |app a b x y=>rw[plainN d _ rfl];rfl
  |appz a b x=>rw[plainN d _ rfl];rfl
  |bad=>rw[plainN d _ rfl];rfl
  |_=>rw[pureN d _ rfl];rfl
 |some p=>
  obtain⟨t,b⟩:=p;cases op with
  |mv x=>rw[pureG d _ t b rfl];rfl
  |call tab f args=>
   rw[ET,want2,G8,FS hP,hP];cases tab with
   |cons p tab=>rfl
   |nil=>
   cases f with
   |t n=>rfl
   |c v=>
    cases v with
    |func fid cs=>cases cs<;>rfl
    |_=>rfl
  |box x=>rw[effG d _ t b rfl];rfl
  |store1 a x=>rw[effG d _ t b rfl];rfl
  |storeN n a x=>rw[effG d _ t b rfl];rfl
  |mkslice a b' c=>rw[effG d _ t b rfl];rfl
  |make a b' x y=>rw[effG d _ t b rfl];rfl
  |mkmap=>rw[effG d _ t b rfl];rfl
  |mset m k v=>rw[effG d _ t b rfl];rfl
  |app a b' x y=>rw[effG d _ t b rfl];rfl
  |appz a b' x=>rw[effG d _ t b rfl];rfl
  |bad=>rw[effG d _ t b rfl];rfl
  |_=>rw[pureG d _ t b rfl];rfl
theorem Lj{o:IOpx}{sl:List AV}{rows:List Row}{low:Nat}:opR (Ret F) sl rows low o=opG F Ak sl rows low o:=by
 have hC:∀(tab:List (Nat×Nat)) (f:Opd) (args:List Opd),(match Aw tab (Ak sl f) (args.map (Ak sl))with
   |
    some (fid,vs)=>match Ret F fid vs rows with
    |some (v,rows',d)=>some (v,rows',AC low d)
    |none=>none
   |none=>none)=opC F rows low (args.map (Ak sl)) tab (Ak sl f):=by
  intro tab f args;unfold opC
  split
  ·rename_i h
   cases Ret F _ _ rows<;>simp[*]
  ·rename_i h
   rfl
 obtain⟨d,op,g⟩:=o;have hgo:∀(t:Nat) (b:Bool) (e:Option (AV×List Row×Nat)),(match BL sl (some (t,b))with|none=>none|some false=>some (.tup [],rows,low)|some true=>e)=go (Ak sl (.t t)) b rows low e:=by
  intro t b e;show(match BL sl (some (t,b))with|none=>none|some false=>some (.tup [],rows,low)|some true=>e)=go (sl.getD t .any) b rows low e;unfold BL go;simp only;generalize sl.getD t AV.any=gg;cases gg with
  |bool c=>cases c<;>cases b<;>rfl
  |tup l=>cases l<;>rfl
  |_=>rfl
 cases g with
 |none=>
  have hn:BL sl none=some true:=rfl;cases op<;>first
   |(unfold opR opG;simp only[hn];exact hC _ _ _)
   |(unfold opR opG;simp only[hn];exact DX rows low (Ak sl) _)
 |some p=>
  obtain⟨t,b⟩:=p;cases op<;>first
   |(unfold opG;simp only;rw[<-hgo,<-hC];rfl)
   |(unfold opG;simp only;rw[<-hgo,<-DX];rfl)
theorem N9{rows:List Row}{low:Nat}{K:List AV->List Row->Prop}:∀(g:List (IOpx×Nat)) (i:Nat) (sl:List AV),LJ g=true->(It F Ak BE rows K i g sl []↔Rh F Ak BE rows low (fun sl=>K sl rows) g sl)
 |[],i,sl,_=>by simp[It,Rh]
 |
  (o,b)::g,i,sl,h=>by
  simp only[LJ,Ac3]at h;obtain⟨d,op,gd⟩:=o;have ih:=fun sl=>N9 (K:=K) (low:=low) (rows:=rows) g (i+1) sl h.2
  cases gd with
  |none=>
   cases op<;>first
    |(have:=h.1;simp[IOp.pure]at this;done)
    |(simp only[It,Rh,JL,IOp.pure,if_true,Ai,Adn,AcV,ih];done)
  |some p=>
   obtain⟨t,c⟩:=p;cases op<;>first
    |(have:=h.1;simp[IOp.pure]at this;done)
    |(simp only[It,Rh,JL,IOp.pure,if_true,Ai,Adn,AcV,ih];done)
theorem NT{rows:List Row}{K:List AV->List Row->Prop}:∀(g:List (IOpx×Nat)) (i:Nat) (sl:List AV) (ext:List (Nat×Row)),(bnd (At (Ret F) (fun _=>rows) i g sl ext) fun q=>K q.1 (rows++q.2.map (·.2)))↔It F Ak BE rows K i g sl ext
 |[],i,sl,ext=>by simp[At,It]
 |
  (o,b)::g,i,sl,ext=>by
  have step:(bnd (At (Ret F) (fun _=>rows) i ((o,b)::g) sl ext) fun q=>K q.1 (rows++q.2.map (·.2)))↔bnd (opG F Ak sl (rows++Ai b ext) (rows.length+ext.length) o) fun q=>q.2.2=rows.length+ext.length/\
   It F Ak BE rows K (i+1) g (BE sl o.dst q.1) (ext++(q.2.1.drop (rows.length+ext.length)).map fun x=>(i,x)):=by
   simp only[At,<-Lj];cases hop:opR (Ret F) sl (rows++Ai b ext) (rows.length+ext.length) o with
   |none=>simp
   |some q=>
    obtain⟨v,rows',low'⟩:=q;simp only[BW];rw[<-NT g]
    by_cases hl:low'=rows.length+ext.length
    ·simp[hl]
    ·simp[hl]
  rw[step]
  conv=>rhs;unfold It
  split
  ·rename_i hp
   have hlen:(rows++Ai b ext).length=rows.length+ext.length:=by simp[Ai]
   have hpure:∀(d:Option Nat) (op:IOp) (gd:Option (Nat×Bool)),op.pure=true->opR (Ret F) sl (rows++Ai b ext) (rows.length+ext.length) ⟨d,op,gd⟩=match BL sl gd with|none=>none|some false=>some (.tup [],rows++Ai b ext,rows.length+ext.length)|some true=>(evP (rows++Ai b ext) (DD (Ak sl) op)).map fun v=>(v,rows++Ai b ext,rows.length+ext.length):=by
    intro d op gd ho;cases hw:BL sl gd with
    |none=>unfold opR;simp[hw]
    |some c=>
     unfold opR;simp only[hw];cases c with
     |false=>rfl
     |true=>
      simp only
      split
      ·simp[IOp.pure]at ho
      ·rw[BH ho,E5]
   have hdrop:((rows++Ai b ext).drop (rows.length+ext.length)).map (fun x=>(i,x))=[]:=by
    rw[AdA (by omega)];rfl
   rw[<-Lj]
   split
   ·rw[hpure _ _ _ rfl]
    simp only[BL,DD,evP,Af,Ek,AcN,BW,hdrop,true_and,AcV]
   ·rename_i d op h
    rw[hpure _ _ _ hp];simp only[BL,JE,hdrop,true_and,AcV]
   ·rename_i d op t c
    rw[hpure _ _ _ hp];have hget:Ak sl (.t t)=sl.getD t .any:=rfl;unfold BL gv;simp only[hget];generalize sl.getD t AV.any=gg;cases gg with
    |bool c'=>
     cases e:c'==c
     ·simp only[e,AdF,if_false,BW,hdrop,true_and,AcV]
     ·simp only[e,if_true,JE,hdrop,true_and,AcV]
    |tup l=>cases l<;>simp only[BW,LQ,hdrop,true_and,AcV]
    |_=>simp only[LQ]
  ·simp only[BW]
theorem Km:∀(l:List Seg) (sl:List AV) (rows:List Row) (low:Nat),noW l=true->(Ex F cx (.ops l::k) ⟨sl,rows,low⟩ r↔La F Ak BE (fun sl rows low=>Ex F cx k ⟨sl,rows,low⟩ r) l sl rows low)
 |[],sl,rows,low,_=>by rw[IK];rfl
 |
  .one o::l,sl,rows,low,h=>by
  rw[UD (P:=fun sl rows low=>La F Ak BE (fun sl rows low=>Ex F cx k ⟨sl,rows,low⟩ r) l sl rows low) (fun sl rows low=>Km l sl rows low h)]
  rfl
 |
  .grp g::l,sl,rows,low,h=>by
  rw[O3];simp only[La];have h1:(∃q,At (Ret F) (fun _=>rows) 0 g sl []=some q/\Ex F cx (.ops l::k) ⟨q.1,rows++q.2.map (·.2),low⟩ r)↔It F Ak BE rows (fun sl rows=>La F Ak BE (fun sl rows low=>Ex F cx k ⟨sl,rows,low⟩ r) l sl rows low) 0 g sl []:=by
   rw[<-NT];simp only[bnd,Km l _ _ _ h]
  rw[h1]
  split
  ·rename_i hp
   rw[N9 (low:=low) g 0 sl hp]
  ·rfl
 |.grpw .. :: l,sl,rows,low,h=>by simp[noW]at h
 |
  .stop::l,sl,rows,low,h=>by
  constructor
  ·rintro ⟨n,x,e,_⟩
   cases n with
   |zero=>simp[exec]at e
   |succ n=>simp[exec]at e
  ·intro h;exact h.elim
section
variable {σ τ:Type}{get:σ->Opd->AV}{put:σ->Option Nat->AV->σ}{get':τ->Opd->AV}{put':τ->Option Nat->AV->τ}{f:τ->σ}
theorem PI(hg:∀t,get (f t)=get' t)(hp:∀t d v,put (f t) d v=f (put' t d v)){o:IOpx}{t:τ}{rows:List Row}{low:Nat}{K:σ->List Row->Nat->Prop}{K':τ->List Row->Nat->Prop}(hK:∀t rows low,K (f t) rows low↔K' t rows low):
  JL F get put o (f t) rows low K↔JL F get' put' o t rows low K':=by
 have hK':(fun t rows low=>K (f t) rows low)=K':=by funext t rows low;exact propext (hK t rows low)
 subst hK';obtain⟨d,op,g⟩:=o;cases g with
 |none=>
  cases op with
  |call tab f args=>
   cases tab with
   |cons p tab=>simp only[JL,hg,hp]
   |nil=>
   cases f with
   |t n=>simp only[JL,hg,hp]
   |c v=>
    cases v with
    |func fid cs=>cases cs<;>simp only[JL,hg,hp]
    |_=>simp only[JL,hg,hp]
  |_=>simp only[JL,hg,hp]
 |some p=>cases op<;>simp only[JL,hg,hp]
theorem Ph(hg:∀t,get (f t)=get' t)(hp:∀t d v,put (f t) d v=f (put' t d v)){rows:List Row}{low:Nat}{K:σ->Prop}{K':τ->Prop}(hK:∀t,K (f t)↔K' t):∀(g:List (IOpx×Nat)) (t:τ),Rh F get put rows low K g (f t)↔Rh F get' put' rows low K' g t
 |[],t=>hK t
 |
  (o,b)::g,t=>by
  simp only[Rh];exact PI hg hp fun t _ _=>Ph hg hp hK g t
theorem Sx(hg:∀t,get (f t)=get' t){o:IOpx}{t:τ}{rows:List Row}{low:Nat}:opG F get (f t) rows low o=opG F get' t rows low o:=by
 obtain⟨d,op,g⟩:=o;cases g<;>cases op<;>simp only[opG,hg]
theorem Nn(hg:∀t,get (f t)=get' t)(hp:∀t d v,put (f t) d v=f (put' t d v)){rows:List Row}{K:σ->List Row->Prop}{K':τ->List Row->Prop}(hK:∀t rows,K (f t) rows↔K' t rows):∀(g:List (IOpx×Nat)) (i:Nat) (t:τ) (ext:List (Nat×Row)),It F get put rows K i g (f t) ext↔It F get' put' rows K' i g t ext
 |[],i,t,ext=>hK t _
 |
  (o,b)::g,i,t,ext=>by
  have ih:=Nn (rows:=rows) hg hp hK g (i+1);obtain⟨d,op,gd⟩:=o;cases gd with
  |none=>cases op<;>simp only[It,IOp.pure,Sx hg,hg,hp,ih,if_true,if_false,AdF,BW]
  |some p=>cases op<;>simp only[It,IOp.pure,Sx hg,hg,hp,ih,if_true,if_false,AdF,BW]
theorem G7(hg:∀t,get (f t)=get' t)(hp:∀t d v,put (f t) d v=f (put' t d v)){E:σ->List Row->Nat->Prop}{E':τ->List Row->Nat->Prop}(hE:∀t rows low,E (f t) rows low↔E' t rows low):∀(l:List Seg) (t:τ) (rows:List Row) (low:Nat),La F get put E l (f t) rows low↔La F get' put' E' l t rows low
 |[],t,rows,low=>hE t rows low
 |
  .one o::l,t,rows,low=>by
  simp only[La];exact PI hg hp fun t rows low=>G7 hg hp hE l t rows low
 |
  .grp g::l,t,rows,low=>by
  simp only[La]
  split
  ·exact Ph hg hp (fun t=>G7 hg hp hE l t rows low) g t
  ·exact Nn hg hp (fun t rows=>G7 hg hp hE l t rows low) g 0 t []
 |.grpw .. :: _,t,rows,low=>by simp only[La]
 |.stop::_,t,rows,low=>by simp only[La]
end
end
def fk:ICode->Option (List Nat)
 |.kill m l _=>some (dead m l)
 |
  .seq a b=>match a with
  |.skip=>fk b
  |a=>fk a
 |.block _ c=>fk c
 |.scope c=>fk c
 |_=>none
theorem I7:∀(l:List Nat) (sl:List AV),(Cr sl l).length=sl.length
 |[],sl=>rfl
 |d::ds,sl=>by rw[Cr,I7 ds];simp
theorem Dz:∀(l:List Nat) (sl:List AV) (i:Nat),(Cr sl l)[i]?=if i∈l/\i<sl.length then some .any else sl[i]?
 |[],sl,i=>by simp[Cr]
 |
  d::ds,sl,i=>by
  rw[Cr,Dz ds,Adu,Adh]
  by_cases h1:i∈ds<;>by_cases h2:i<sl.length<;>by_cases h3:d=i<;>simp_all
  all_goals
   have h4:i≠d:=fun e=>h3 e.symm
   simp[h4]
theorem Jw(l:List Nat)(sl:List AV):Cr (Cr sl l) l=Cr sl l:=by
 apply Adx;intro i;rw[Dz,I7,Dz]
 split<;>rfl
section
variable {F:Nat->Option IFn}{cx:Ctx}{r:AV×List Row×Nat->Prop}{rows:List Row}{low:Nat}
theorem Kd{l:List Nat}{sl:List AV}:∀{c:ICode} {k:List Itm},fk c=some l->(Ex F cx (.code c::k) ⟨Cr sl l,rows,low⟩ r↔Ex F cx (.code c::k) ⟨sl,rows,low⟩ r)
 |
  .kill m l' c,k,h=>by
  simp only[fk,AcI]at h;subst h;rw[Df,Df,Jw]
 |
  .seq a b,k,h=>by
  rw[Fc,Fc]
  by_cases e:a = .skip
  ·subst e
   rw[HF,HF];exact Kd (c:=b) h
  ·have h':fk a=some l:=by
    cases a<;>first|exact h|exact absurd rfl e
   exact Kd (c:=a) h'
 |
  .block id c,k,h=>by
  rw[EQ,EQ];exact Kd (c:=c) h
 |
  .scope c,k,h=>by
  rw[ES,ES];exact Kd (c:=c) h
 |.skip,_,h=>by simp[fk]at h
 |.ret,_,h=>by simp[fk]at h
 |.exit _,_,h=>by simp[fk]at h
 |.cond ..,_,h=>by simp[fk]at h
 |.loop _,_,h=>by simp[fk]at h
 |.ops _,_,h=>by simp[fk]at h
 |.rf ..,_,h=>by simp[fk]at h
 |.stop,_,h=>by simp[fk]at h
end
def lk:List (Nat×AV)->Nat->AV
 |[],_=>.any
 |
  (i,v)::l,j=>match Nat.beq i j with
  |true=>v
  |false=>lk l j
def mk(n:Nat)(l:List (Nat×AV)):List AV:=(List.range n).map (lk l)
def only(l:List (Nat×AV)):List Nat->List (Nat×AV)
 |[]=>[]
 |i::is=>(i,lk l i)::only l is
@[simp] theorem Ab4(j:Nat):lk [] j = .any:=rfl
@[simp] theorem JZ(i j:Nat)(v:AV)(l:List (Nat×AV)):lk ((i,v)::l) j=if i=j then v else lk l j:=by
 rw[lk]
 by_cases h:i=j
 ·subst h;simp
 ·rw[if_neg h,show Nat.beq i j=false from by
   cases e:Nat.beq i j
   ·rfl
   ·exact absurd (Aem e) h]
@[simp] theorem Sf(n:Nat)(l:List (Nat×AV)):(mk n l).length=n:=by simp[mk]
theorem EJ(n:Nat)(l:List (Nat×AV))(i:Nat):(mk n l)[i]?=if i<n then some (lk l i)else none:=by
 unfold mk
 by_cases h:i<n<;>simp[h]
@[simp] theorem NZ(n:Nat)(l:List (Nat×AV))(i:Nat)(h:i<n):(mk n l).getD i .any=lk l i:=by
 rw[AdD,EJ,if_pos h];rfl
@[simp] theorem Dc(n:Nat)(l:List (Nat×AV))(i:Nat)(h:i<n):Ak (mk n l) (.t i)=lk l i:=NZ n l i h
@[simp] theorem AaB(n:Nat)(l:List (Nat×AV))(v:AV):Ak (mk n l) (.c v)=v:=rfl
theorem Nj(n:Nat)(l:List (Nat×AV))(i:Nat)(v:AV):(mk n l).set i v=mk n ((i,v)::l):=by
 apply Adx;intro j;rw[Adu,Sf,EJ,EJ]
 by_cases h:i=j
 ·subst h;simp
 ·simp[h]
@[simp] theorem ZH(n:Nat)(l:List (Nat×AV)):putL (mk n l) [] []=mk n l:=rfl
@[simp] theorem ER(n:Nat)(l:List (Nat×AV))(i j:Nat)(v w:AV):putL (mk n l) [i,j] [v,w]=mk n ((j,w)::(i,v)::l):=by
 simp[putL,Nj]
theorem Ot(l:List (Nat×AV)):∀(ks:List Nat) (j:Nat),lk (only l ks) j=if j∈ks then lk l j else .any
 |[],j=>by simp[only]
 |
  i::is,j=>by
  simp only[only,JZ,Ot l is,Ade]
  by_cases h:i=j
  ·subst h;simp
  ·have h':¬j=i:=fun e=>h e.symm
   simp[h,h']
theorem Bu(n:Nat)(l:List (Nat×AV))(keep:List Nat):Cr (mk n l) (dead n keep)=mk n (only l keep):=by
 apply Adx;intro j;rw[Dz,Sf,EJ,EJ,Ot];unfold dead
 by_cases h:j<n<;>by_cases h2:j∈keep<;>simp[h,h2]
def gO(n:Nat)(l:List (Nat×AV)):Opd->AV
 |
  .t i=>match Nat.ble (i+1) n with
  |true=>lk l i
  |false=>.any
 |.c v=>v
def pO(l:List (Nat×AV))(d:Option Nat)(v:AV):List (Nat×AV):=
 match d with
 |some d=>(d,v)::l
 |none=>l
theorem Fs(n:Nat)(l:List (Nat×AV)):Ak (mk n l)=gO n l:=by
 funext x;cases x with
 |t i=>
  by_cases h:i<n
  ·rw[Dc n l i h,gO,show Nat.ble (i+1) n=true from Nat.ble_eq_true_of_le h]
  ·show(mk n l).getD i .any=_
   rw[AdD,EJ,if_neg h,gO,show Nat.ble (i+1) n=false from by
    cases e:Nat.ble (i+1) n
    ·rfl
    ·exact absurd (AeD e) h]
   rfl
 |c v=>rfl
theorem Gm(n:Nat)(l:List (Nat×AV))(d:Option Nat)(v:AV):BE (mk n l) d v=mk n (pO l d v):=by
 cases d with
 |none=>rfl
 |some d=>exact Nj n l d v
section
variable {F:Nat->Option IFn}{cx:Ctx}{k:List Itm}{r:AV×List Row×Nat->Prop}{rows:List Row}{low:Nat}
abbrev Aat(F:Nat->Option IFn)(cx:Ctx)(k:List Itm)(r:AV×List Row×Nat->Prop)(n:Nat)(ops:List Seg)(l:List (Nat×AV))(rows:List Row)(low:Nat):Prop:=
 La F (gO n) pO (fun l rows low=>Ex F cx k ⟨mk n l,rows,low⟩ r) ops l rows low
theorem J8{n:Nat}{ops:List Seg}{l:List (Nat×AV)}(h:noW ops=true):Ex F cx (.ops ops::k) ⟨mk n l,rows,low⟩ r↔Aat F cx k r n ops l rows low:=by
 rw[Km _ _ _ _ h];exact G7 (f:=mk n) (Fs n) (Gm n) (fun _ _ _=>Iff.rfl) ops l rows low
theorem reg{c:ICode}{n:Nat}{keep:List Nat}{ops:List Seg}{l:List (Nat×AV)}{Q:Prop}(hc:c = .kill n keep (.ops ops))(hw:noW ops=true)(hq:Aat F cx k r n ops (only l keep) rows low=Q):Ex F cx (.code c::k) ⟨mk n l,rows,low⟩ r↔Q:=by
 rw[hc,Df,Jb,Bu,J8 hw,hq]
theorem Io{n:Nat}{keep:List Nat}{c:ICode}{l:List (Nat×AV)}(h:fk c=some (dead n keep)):Ex F cx (.code c::k) ⟨mk n l,rows,low⟩ r↔Ex F cx (.code c::k) ⟨mk n (only l keep),rows,low⟩ r:=by
 rw[<-Bu,Kd h]
theorem AA{n:Nat}{keep:List Nat}{c:ICode}{l:List (Nat×AV)}(h:fk c=some (dead n keep)):Ex F cx (.inLoop c::k) ⟨mk n l,rows,low⟩ r↔Ex F cx (.code c::.inLoop c::k) ⟨mk n (only l keep),rows,low⟩ r:=by
 rw[Ex_inLoop,<-Bu,Kd h]
theorem Acu{n:Nat}{keep:List Nat}{c:ICode}{l:List (Nat×AV)}(h:fk c=some (dead n keep)):Ex F cx (.code (.loop c)::k) ⟨mk n l,rows,low⟩ r↔Ex F cx (.code c::.inLoop c::k) ⟨mk n (only l keep),rows,low⟩ r:=by
 rw[Ex_loop,<-Bu,Kd h]
end
section
variable {F:Nat->Option IFn}{cx:Ctx}{k:List Itm}{r:AV×List Row×Nat->Prop}{sl:List AV}{rows:List Row}{low:Nat}
attribute [simp] GJ GR HF Fc EQ ES Jb Df Bu only BB AC pO
@[simp] theorem ZL{n i:Nat}{l:List (Nat×AV)}{a b:ICode}(h:i<n):Ex F cx (.code (.cond (.t i) a b)::k) ⟨mk n l,rows,low⟩ r↔∃t,lk l i = .bool t/\Ex F cx (.code (if t then a else b)::k) ⟨mk n l,rows,low⟩ r:=by
 rw[PW,Dc n l i h]
@[simp] theorem Zo{id:Nat}{s:St}:Ex F cx (.code (.exit id)::.inBlock id::k) s r↔Ex F cx k s r:=by rw[D6];simp[BB]
@[simp] theorem ZW{id:Nat}{c:ICode}{s:St}:Ex F cx (.code (.exit id)::.inLoop c::k) s r↔Ex F cx (.code (.exit id)::k) s r:=by rw[D6,D6];simp only[BB]
@[simp] theorem Zk{id:Nat}{c:ICode}{s:St}:Ex F cx (.code (.exit id)::.code c::k) s r↔Ex F cx (.code (.exit id)::k) s r:=by rw[D6,D6];simp only[BB]
@[simp] theorem Z3{res:List RV}{s:St}:Ex F (.fn res) (.code .ret::k) s r↔bnd (results s.rows s.sl res) fun v=>r (v,s.rows,s.low):=by
 rw[SU];simp only[AU,bnd];constructor
 ·rintro ⟨x,e,h⟩
  rw[AcK]at e;obtain⟨v,hv,rfl⟩:=e;exact⟨v,hv,h⟩
 ·rintro ⟨v,e,h⟩
  exact⟨_,by rw[e];rfl,h⟩
@[simp] theorem Abm{res:List RV}{s:St}:Ex F (.fn res) [] s r↔bnd (results s.rows s.sl res) fun v=>r (v,s.rows,s.low):=by
 rw[Pz];simp only[AU,bnd];constructor
 ·rintro ⟨x,e,h⟩
  rw[AcK]at e;obtain⟨v,hv,rfl⟩:=e;exact⟨v,hv,h⟩
 ·rintro ⟨v,e,h⟩
  exact⟨_,by rw[e];rfl,h⟩
@[simp] theorem AbX{b:Bool}{e:Option (AV×List Row×Nat)}:evE rows low .bad=none:=rfl
section
variable {n:Nat}{l:List (Nat×AV)}
@[simp] theorem AbU{i:Nat}(h:i<n):Ib rows (mk n l) (.t i)=some (lk l i):=by simp only[Ib,NZ n l i h]
@[simp] theorem Aan{i m:Nat}(h:i<n):Ib rows (mk n l) (.cellN i m)=evP rows (.loadN m (.c (lk l i))):=by
 rw[Ib,E5];simp only[DD,AY,Dc n l i h]
@[simp] theorem XY:results rows sl []=some (.tup []):=rfl
@[simp] theorem XV{a:RV}:results rows sl [a]=Ib rows sl a:=by
 unfold results;simp only[C6];cases Ib rows sl a<;>rfl
@[simp] theorem Xk{a b:RV}:results rows sl [a,b]=(Ib rows sl a).bind fun x=>(Ib rows sl b).map fun y=>.tup [x,y]:=by
 unfold results;simp only[C6];cases Ib rows sl a<;>cases Ib rows sl b<;>rfl
end
@[simp] theorem AaP{kd:IntKind}{n:Int}:(AV.int kd n).one=true:=rfl
@[simp] theorem Y9{b:Bool}:(AV.bool b).one=true:=rfl
@[simp] theorem Abc{i o:Nat}:(AV.ptr i o).one=true:=rfl
@[simp] theorem Wp:AV.nilptr.one=true:=rfl
@[simp] theorem WW{i o n:Nat}{c:Cap}:(AV.slice i o n c).one=true:=rfl
@[simp] theorem SV:AV.nilslice.one=true:=rfl
@[simp] theorem Zp{f:Nat}{l:List AV}:(AV.func f l).one=true:=rfl
@[simp] theorem X5{f:Nat}:(AV.yield f).one=true:=rfl
@[simp] theorem UR:AV.nilfunc.one=true:=rfl
@[simp] theorem Abj{f:Nat}:(AV.map f).one=true:=rfl
@[simp] theorem Yl{kd:IntKind}{n:Int}:(AV.int kd n).cells=[.int kd n]:=rfl
@[simp] theorem WL{b:Bool}:(AV.bool b).cells=[.bool b]:=rfl
@[simp] theorem XM{i o:Nat}:(AV.ptr i o).cells=[.ptr i o]:=rfl
@[simp] theorem Su:AV.nilptr.cells=[.nilptr]:=rfl
@[simp] theorem Tx{i o n:Nat}{c:Cap}:(AV.slice i o n c).cells=[.slice i o n c]:=rfl
@[simp] theorem Qi:AV.nilslice.cells=[.nilslice]:=rfl
@[simp] theorem Wi{f:Nat}{l:List AV}:(AV.func f l).cells=[.func f l]:=rfl
@[simp] theorem RI:AV.nilfunc.cells=[.nilfunc]:=rfl
@[simp] theorem Ui{f:Nat}:(AV.yield f).cells=[.yield f]:=rfl
@[simp] theorem WN{f:Nat}:(AV.map f).cells=[.map f]:=rfl
@[simp] theorem Xr{l:List AV}:(AV.agg l).cells=l:=rfl
@[simp] theorem Hc{kd:IntKind}{n:Int}:(AV.int kd n).ids=[]:=by simp[AV.ids]
@[simp] theorem Zu{b:Bool}:(AV.bool b).ids=[]:=by simp[AV.ids]
@[simp] theorem Z1{i o:Nat}:(AV.ptr i o).ids=[i]:=by simp[AV.ids]
@[simp] theorem CO{i o n:Nat}{c:Cap}:(AV.slice i o n c).ids=[i]:=by simp[AV.ids]
@[simp] theorem S6:AV.nilslice.ids=[]:=by simp[AV.ids]
@[simp] theorem WF:AV.nilptr.ids=[]:=by simp[AV.ids]
@[simp] theorem UL:AV.nilfunc.ids=[]:=by simp[AV.ids]
@[simp] theorem Aaq{f:Nat}:(AV.map f).ids=[f]:=by simp[AV.ids]
@[simp] theorem WV{f:Nat}:(AV.yield f).ids=[f]:=by simp[AV.ids]
@[simp] theorem HA:AV.ids.idsL []=[]:=by simp[AV.ids.idsL]
@[simp] theorem DJ{v:AV}{l:List AV}:AV.ids.idsL (v::l)=v.ids++AV.ids.idsL l:=by simp[AV.ids.idsL]
@[simp] theorem NA{l:List AV}:(AV.tup l).ids=AV.ids.idsL l:=by simp[AV.ids]
@[simp] theorem OJ{l:List AV}:(AV.agg l).ids=AV.ids.idsL l:=by simp[AV.ids]
@[simp] theorem Y8{f:Nat}{l:List AV}:(AV.func f l).ids=AV.ids.idsL l:=by simp[AV.ids]
@[simp] theorem AbZ{v:AV}:evP rows (.mv (.c v))=some v:=rfl
@[simp] theorem ZF{t:Bool}{a b:AV}:evP rows (.pick (.c (.bool t)) (.c a) (.c b))=some (if t then a else b):=rfl
@[simp] theorem Pp{i o:Nat}:evP rows (.load1 (.c (.ptr i o)))=(Ae rows i).bind fun vs=>vs[o]?:=by
 show(match Ae rows i with|some vs=>vs[o]?|none=>none)=_;cases Ae rows i<;>rfl
@[simp] theorem CE{n i o:Nat}:evP rows (.loadN n (.c (.ptr i o)))=(Ae rows i).bind fun vs=>(seg vs o n).map AV.agg:=by
 show(match Ae rows i with|some vs=>(seg vs o n).map AV.agg|none=>none)=_;cases Ae rows i<;>rfl
@[simp] theorem YJ{i o:Nat}:evP rows (.nilck (.c (.ptr i o)))=some (.ptr i o):=rfl
@[simp] theorem Wu{f:Nat}{cs:List AV}:evP rows (.nilck (.c (.func f cs)))=some (.func f cs):=rfl
@[simp] theorem WM{f:Nat}:evP rows (.nilck (.c (.yield f)))=some (.yield f):=rfl
@[simp] theorem VY{op:BinOp}{x y:AV}:evP rows (.bin op (.c x) (.c y))=Cy op x y:=rfl
@[simp] theorem Aa4{neg:Bool}{kd:EqK}{x y:AV}:evP rows (.eqv neg kd (.c x) (.c y))=(eqA kd x y).map fun b=>.bool (if neg then !b else b):=rfl
@[simp] theorem Aaj{b:Bool}:evP rows (.un .not (.c (.bool b)))=some (.bool !b):=rfl
@[simp] theorem Aa3{kd:IntKind}{n:Int}:evP rows (.un .neg (.c (.int kd n)))=some (.int kd (kd.wrap (0-n))):=rfl
@[simp] theorem ZC{kd kd':IntKind}{n:Int}:evP rows (.conv kd (.c (.int kd' n)))=some (.int kd (kd.wrap n)):=rfl
@[simp] theorem Xl{o:Nat}{l:List AV}:evP rows (.part1 o (.c (.agg l)))=l[o]?:=rfl
@[simp] theorem W9{o n:Nat}{l:List AV}:evP rows (.partN o n (.c (.agg l)))=(seg l o n).map AV.agg:=rfl
@[simp] theorem ZX{len sz:Nat}{ag:Bool}{l:List AV}{kd:IntKind}{n:Int}:evP rows (.idxV len sz ag (.c (.agg l)) (.c (.int kd n)))=(AI n len).bind fun j=>if ag then(seg l (j*sz) sz).map AV.agg else l[j*sz]?:=by
 show(match AI n len with|some j=>if ag then(seg l (j*sz) sz).map AV.agg else l[j*sz]?|none=>none)=_;cases AI n len<;>rfl
@[simp] theorem WK{d i o:Nat}:evP rows (.fieldA d (.c (.ptr i o)))=some (.ptr i (o+d)):=rfl
@[simp] theorem ZE{len sz i o:Nat}{kd:IntKind}{n:Int}:evP rows (.idxA len sz (.c (.ptr i o)) (.c (.int kd n)))=(AI n len).map fun j=>.ptr i (o+j*sz):=by
 show(match AI n len with|some j=>some (AV.ptr i (o+j*sz))|none=>none)=_;cases AI n len<;>rfl
@[simp] theorem RZ{sz i o len:Nat}{c:Cap}{kd:IntKind}{n:Int}:evP rows (.idxS sz (.c (.slice i o len c)) (.c (.int kd n)))=(AI n len).map fun j=>.ptr i (o+j*sz):=by
 show(match AI n len with|some j=>some (AV.ptr i (o+j*sz))|none=>none)=_;cases AI n len<;>rfl
@[simp] theorem XR{z:List AV}{ps:List (Nat×Nat×Opd)}:evP rows (.mkagg z ps)=(Ap (Ak []) ps z).map .agg:=rfl
@[simp] theorem Wk{sz:Nat}{x:AV}{lo hi mx:Option Opd}:evP rows (.sliceS sz (.c x) lo hi mx)=A8 sz x (lo.map (Ak [])) (hi.map (Ak [])) (mx.map (Ak [])):=rfl
@[simp] theorem Wq{n sz:Nat}{x:AV}{lo hi mx:Option Opd}:evP rows (.sliceA n sz (.c x) lo hi mx)=BR n sz x (lo.map (Ak [])) (hi.map (Ak [])) (mx.map (Ak [])):=rfl
@[simp] theorem Zb{f:Nat}{cs:List Opd}:evP rows (.bind f cs)=some (.iface bd (.agg (.int .u64 f::cs.map (Ak [])))):=rfl
@[simp] theorem Wx{f:Int}{cs:List AV}:AG bd (.agg (.int .u64 f::cs))=some (f.toNat,cs):=rfl
@[simp] theorem ZV{f:Nat}{cs:List Opd}:evP rows (.mkfn f cs)=some (.func f (cs.map (Ak []))):=rfl
@[simp] theorem Zs{n:Nat}:evP rows (.lenc n)=some (.int .i64 n):=rfl
@[simp] theorem Aa2{i o n:Nat}{c:Cap}:evP rows (.len 0 (.c (.slice i o n c)))=some (.int .i64 n):=rfl
@[simp] theorem ZJ:evP rows (.len 0 (.c .nilslice))=some (.int .i64 0):=rfl
@[simp] theorem Abu{kd:IntKind}{x y:Int}:evP rows (.mx [.c (.int kd x),.c (.int kd y)])=some (.int kd (max x y)):=by
 simp only[evP,Af,AcY,Adn,Ak,C0,mxA,if_true,AcI,AV.int.injEq,true_and];omega
@[simp] theorem Aaz{kd:IntKind}{x y:Int}:evP rows (.mn [.c (.int kd x),.c (.int kd y)])=some (.int kd (min x y)):=by
 simp only[evP,Af,AcY,Adn,Ak,C0,mnA,if_true,AcI,AV.int.injEq,true_and];omega
@[simp] theorem Aab{l:List AV}{i:Nat}:evP rows (.ext (.c (.tup l)) i)=l[i]?:=rfl
@[simp] theorem ZM{t:Nat}{v:AV}:evP rows (.mkif t (.c v))=some (.iface t v):=rfl
@[simp] theorem Aac{v:AV}:Ak sl (.c v)=v:=rfl
@[simp] theorem Yg{v:AV}:(some (Opd.c v)).map (Ak [])=some v:=rfl
@[simp] theorem AcC{c:Bool}{e:Option AV}:gv (.bool c) false e=if c=true then some (.tup [])else e:=by
 unfold gv;cases c<;>rfl
@[simp] theorem AcB{c:Bool}{e:Option AV}:gv (.bool c) true e=if c=true then e else some (.tup []):=by
 unfold gv;cases c<;>rfl
@[simp] theorem Acy{b:Bool}{e:Option AV}:gv (.tup []) b e=some (.tup []):=rfl
@[simp] theorem AcA{b:Bool}{K K':Prop}:gw (.tup []) b K K'↔K':=Iff.rfl
@[simp] theorem Aax{b:Bool}{args:List AV}{tab:List (Nat×Nat)}{K:AV->List Row->Nat->Prop}{v:AV}:CF F (.tup []) b rows low args tab v K↔K (.tup []) rows low:=Iff.rfl
@[simp] theorem ZK{args:List AV}{tab:List (Nat×Nat)}{K:AV->List Row->Nat->Prop}{v:AV}:CF F (.bool true) true rows low args tab v K↔Bp F rows low args K tab v:=Iff.rfl
@[simp] theorem Zv{args:List AV}{tab:List (Nat×Nat)}{K:AV->List Row->Nat->Prop}{v:AV}:CF F (.bool false) false rows low args tab v K↔Bp F rows low args K tab v:=Iff.rfl
@[simp] theorem Ze{args:List AV}{tab:List (Nat×Nat)}{K:AV->List Row->Nat->Prop}{v:AV}:CF F (.bool true) false rows low args tab v K↔K (.tup []) rows low:=Iff.rfl
@[simp] theorem ZG{args:List AV}{tab:List (Nat×Nat)}{K:AV->List Row->Nat->Prop}{v:AV}:CF F (.bool false) true rows low args tab v K↔K (.tup []) rows low:=Iff.rfl
@[simp] theorem AbS{b:Bool}{o:IOp}{K:AV->List Row->Nat->Prop}:WA (.tup []) b rows low o K↔K (.tup []) rows low:=Iff.rfl
@[simp] theorem Aa0{o:IOp}{K:AV->List Row->Nat->Prop}:WA (.bool true) true rows low o K↔bnd (evE rows low o) fun q=>K q.1 q.2.1 q.2.2:=Iff.rfl
@[simp] theorem AbG{o:IOp}{K:AV->List Row->Nat->Prop}:WA (.bool false) false rows low o K↔bnd (evE rows low o) fun q=>K q.1 q.2.1 q.2.2:=Iff.rfl
@[simp] theorem AaF{o:IOp}{K:AV->List Row->Nat->Prop}:WA (.bool true) false rows low o K↔K (.tup []) rows low:=Iff.rfl
@[simp] theorem Abf{o:IOp}{K:AV->List Row->Nat->Prop}:WA (.bool false) true rows low o K↔K (.tup []) rows low:=Iff.rfl
@[simp] theorem Aam{args:List AV}{K:AV->List Row->Nat->Prop}{t:Nat}{v:AV}:Bp F rows low args K [] (.iface t v)↔bnd (AG t v) fun p=>bnd (Ret F p.1 (p.2++args) rows) fun q=>K q.1 q.2.1 (AC low q.2.2):=Iff.rfl
@[simp] theorem Abn{args:List AV}{K:AV->List Row->Nat->Prop}{p:Nat×Nat}{tab:List (Nat×Nat)}{t:Nat}{v:AV}:Bp F rows low args K (p::tab) (.iface t v)↔t≠bd/\bnd ((p::tab).lookup t) fun f=>bnd (Ret F f (v::args) rows) fun q=>K q.1 q.2.1 (AC low q.2.2):=Iff.rfl
@[simp] theorem Z6{args:List AV}{K:AV->List Row->Nat->Prop}{f:Nat}{cs:List AV}:Bp F rows low args K [] (.func f cs)↔bnd (Ret F f (args++cs) rows) fun q=>K q.1 q.2.1 (AC low q.2.2):=Iff.rfl
@[congr] theorem UY{rows':List Row}{low':Nat}{args args':List AV}{tab:List (Nat×Nat)}{K:AV->List Row->Nat->Prop}{v v':AV}(h1:rows=rows')(h2:low=low')(h3:args=args')(h4:v=v'):Bp F rows low args K tab v=Bp F rows' low' args' K tab v':=by rw[h1,h2,h3,h4]
theorem P1{args:List AV}{K:AV->List Row->Nat->Prop}{id:Nat}{st:LoopState}{pd:Option Jump}{sl1:List AV}{ps:List Nat}{asg body:ICode}(h:rows[id]?=some (.loop st pd sl1 ps asg body))(hl:ps.length=args.length):Bp F rows low args K [] (.yield id)↔
  Ex F (.round id) [.code asg,.rfBegin,.code body] ⟨putL sl1 ps args,rows,rows.length⟩ fun q=>K q.1 (gc rows.length (Ab low q.2.2) q.1 q.2.1) (Ab low q.2.2):=by
 simp only[Bp,h];constructor
 ·rintro ⟨_,_,_,_,_,_,e,_,h⟩
  simp only[AcI,Row.loop.injEq]at e;obtain⟨rfl,rfl,rfl,rfl,rfl,rfl⟩:=e;exact h
 ·intro h
  exact⟨_,_,_,_,_,_,rfl,hl,h⟩
@[simp] theorem Sd{kd:IntKind}{a b:Int}:Cy .add (.int kd a) (.int kd b)=some (.int kd (kd.wrap (a+b))):=by simp[Cy,Bo,Jx]
@[simp] theorem Zc{kd:IntKind}{a b:Int}:Cy .sub (.int kd a) (.int kd b)=some (.int kd (kd.wrap (a-b))):=by simp[Cy,Bo,Jx]
@[simp] theorem ZT{kd:IntKind}{a b:Int}:Cy .mul (.int kd a) (.int kd b)=some (.int kd (kd.wrap (a*b))):=by simp[Cy,Bo,Jx]
@[simp] theorem Za{kd:IntKind}{a b:Int}:Cy .quo (.int kd a) (.int kd b)=if b=0 then none else some (.int kd (kd.wrap (a.tdiv b))):=by simp[Cy,Bo,Jx]
@[simp] theorem ZO{kd:IntKind}{a b:Int}:Cy .rem (.int kd a) (.int kd b)=if b=0 then none else some (.int kd (a.tmod b)):=by simp[Cy,Bo,Jx]
@[simp] theorem ZN{kd:IntKind}{a b:Int}:Cy .eql (.int kd a) (.int kd b)=some (.bool (decide (a=b))):=by
 simp only[Cy,Bo,Jx,if_true,AdF,if_false,AcI,AV.bool.injEq]
 by_cases h:a=b<;>simp[h]
@[simp] theorem Zl{kd:IntKind}{a b:Int}:Cy .neq (.int kd a) (.int kd b)=some (.bool (decide (a≠b))):=by
 simp only[Cy,Bo,Jx,if_true,AdF,if_false,AcI,AV.bool.injEq]
 by_cases h:a=b<;>simp[h]
@[simp] theorem Zg{kd:IntKind}{a b:Int}:Cy .lss (.int kd a) (.int kd b)=some (.bool (decide (a<b))):=by simp[Cy,Bo,Jx]
@[simp] theorem ZU{kd:IntKind}{a b:Int}:Cy .leq (.int kd a) (.int kd b)=some (.bool (decide (a<=b))):=by simp[Cy,Bo,Jx]
@[simp] theorem Zh{kd:IntKind}{a b:Int}:Cy .gtr (.int kd a) (.int kd b)=some (.bool (decide (b<a))):=by simp[Cy,Bo,Jx]
@[simp] theorem Zn{kd:IntKind}{a b:Int}:Cy .geq (.int kd a) (.int kd b)=some (.bool (decide (b<=a))):=by simp[Cy,Bo,Jx]
@[simp] theorem Acm{a b:Bool}:eqA .bool (.bool a) (.bool b)=some (a==b):=rfl
@[simp] theorem Acb:eqA .slice .nilslice .nilslice=some true:=rfl
@[simp] theorem AbN{i o n:Nat}{c:Cap}:eqA .slice (.slice i o n c) .nilslice=some false:=rfl
@[simp] theorem Ach{i o:Nat}:eqA .ptr (.ptr i o) .nilptr=some false:=rfl
@[simp] theorem AbI:eqA .ptr .nilptr .nilptr=some true:=rfl
@[simp] theorem Abz{t n t1 t2:Nat}{xs ys:List AV}:eqA (.ifc t n) (.iface t1 (.agg xs)) (.iface t2 (.agg ys))=if t1=t/\t2=t/\t<bd/\xs.length=n/\ys.length=n then Aq xs ys else none:=rfl
@[simp] theorem Zi{n:Nat}{xs ys:List AV}:eqA (.ints n) (.agg xs) (.agg ys)=if xs.length=n/\ys.length=n then Aq xs ys else none:=rfl
def cells?(rows:List Row)(i:Nat):Option (List AV):=
 match rows[i]? with
 |some (.cells vs)=>some vs
 |_=>none
@[simp] theorem AaL{v:AV}:evE rows low (.box (.c v))=if v.cells.all AV.one=true then some (.ptr rows.length 0,rows++[.cells v.cells],low)else none:=rfl
@[simp] theorem A4{i o:Nat}{x:AV}:evE rows low (.store1 (.c (.ptr i o)) (.c x))=(cells? rows i).bind fun vs=>if o<vs.length/\x.one=true then some (AV.tup [],rows.set i (.cells (vs.set o x)),Ab low i)else none:=by
 show(match rows[i]? with|some (.cells vs)=>if o<vs.length/\x.one=true then some (AV.tup [],rows.set i (.cells (vs.set o x)),Ab low i)else none|_=>none)=_;unfold cells?;cases rows[i]? with
 |none=>rfl
 |some y=>cases y<;>rfl
@[simp] theorem Ax{n i o:Nat}{l:List AV}:evE rows low (.storeN n (.c (.ptr i o)) (.c (.agg l)))=(cells? rows i).bind fun vs=>if l.length=n/\o+n<=vs.length/\l.all AV.one=true then some (AV.tup [],rows.set i (.cells (splice vs o l)),Ab low i)else none:=by
 show(match rows[i]? with|some (.cells vs)=>if l.length=n/\o+n<=vs.length/\l.all AV.one=true then some (AV.tup [],rows.set i (.cells (splice vs o l)),Ab low i)else none|_=>none)=_;unfold cells?;cases rows[i]? with
 |none=>rfl
 |some y=>cases y<;>rfl
@[simp] theorem VA{n:Nat}{z:List AV}{ps:List (Nat×Nat×Opd)}:evE rows low (.mkslice n z ps)=(Ap (Ak []) ps z).map fun cs=>(AV.slice rows.length 0 n (.at_ n),rows++[.cells cs],low):=by
 show(match Ap (Ak []) ps z with|some cs=>some (AV.slice rows.length 0 n (.at_ n),rows++[Row.cells cs],low)|none=>none)=_;cases Ap (Ak []) ps z<;>rfl
@[simp] theorem ZB{z:List AV}{b:Nat}{kd kd':IntKind}{x y:Int}:evE rows low (.make z b (.c (.int kd x)) (.c (.int kd' y)))=if 0<=x/\x<=y/\y<=lim then some (.slice rows.length 0 x.toNat (.at_ y.toNat),rows++[.cells ((List.replicate y.toNat z).flatten)],low)else none:=rfl
@[simp] theorem Zq{z:List AV}{kd:IntKind}{n:Int}{b:AV}:evE rows low (.appz z (.c .nilslice) (.c (.int kd n)))=if 0<n/\n<=lim then some (.slice rows.length 0 n.toNat (.op 1),rows++[.cells ((List.replicate n.toNat z).flatten)],low)else none:=rfl
@[simp] theorem YZ:evE rows low .mkmap=some (.map rows.length,rows++[.mp []],low):=rfl
theorem LG{low id:Nat}(h:low<=id):Ab low id=low:=by unfold Ab;rw[if_neg (by omega)]
@[simp] theorem Ws{n:Nat}:Ab n n=n:=LG (AcE _)
@[simp] theorem Yu{n m:Nat}:Ab n (n+m)=n:=LG (by omega)
@[simp] theorem JQ{L:List Row}{i:Nat}:(rows++L)[rows.length+i]?=L[i]?:=by
 rw[AcG (by omega)];congr 1;omega
@[simp] theorem ZS{L:List Row}:(rows++L)[rows.length]?=L[0]?:=by
 rw[AcG (by omega)];simp
theorem Uk{i:Nat}{x:Row}(h:rows[i]?=some x):i<rows.length:=(AcF.1 h).1
@[simp] theorem AaA{L:List Row}{i:Nat}:Ae (rows++L) (rows.length+i)=Ae L i:=by simp[Ae]
@[simp] theorem ZQ{L:List Row}:Ae (rows++L) rows.length=Ae L 0:=by simp[Ae]
@[simp] theorem W2{L:List Row}{i:Nat}:cells? (rows++L) (rows.length+i)=cells? L i:=by simp[cells?]
@[simp] theorem WE{L:List Row}:cells? (rows++L) rows.length=cells? L 0:=by simp[cells?]
@[simp] theorem AbP{vs:List AV}{L:List Row}:Ae (.cells vs::L) 0=some vs:=rfl
@[simp] theorem Ab1{x:Row}{L:List Row}{i:Nat}:Ae (x::L) (i+1)=Ae L i:=by simp[Ae]
@[simp] theorem Zd{vs:List AV}{L:List Row}:cells? (.cells vs::L) 0=some vs:=rfl
@[simp] theorem Zw{x:Row}{L:List Row}{i:Nat}:cells? (x::L) (i+1)=cells? L i:=by simp[cells?]
theorem Ah{i:Nat}{vs:List AV}(h:Ae rows i=some vs)(L:List Row):Ae (rows++L) i=some vs:=by
 unfold Ae at h ⊢;have hl:i<rows.length:=by
  by_cases e:i<rows.length
  ·exact e
  ·rw[Ac0 (by omega)]at h;simp at h
 rw[AcD hl];exact h
theorem AS{i:Nat}{vs:List AV}(h:Ae rows i=some vs):i<rows.length:=by
 unfold Ae at h
 by_cases e:i<rows.length
 ·exact e
 ·rw[Ac0 (by omega)]at h;simp at h
@[simp] theorem Vo{v:AV}{rows':List Row}(h:v.ids=[]):fin rows v rows' rows.length=(v,rows,none):=by simp[fin,h]
theorem AM{n:Int}(h1 : -9223372036854775808<=n)(h2:n<=9223372036854775807):IntKind.i64.wrap n=n:=by
 simp[IntKind.wrap,IntKind.min,IntKind.max,IntKind.signed,IntKind.bits];omega
theorem O5{n:Int}(h1:0<=n)(h2:n<=18446744073709551615):IntKind.u64.wrap n=n:=by
 simp[IntKind.wrap,IntKind.min,IntKind.max,IntKind.signed,IntKind.bits];omega
theorem Bz{n:Int}{len:Nat}(h1:0<=n)(h2:n<len):AI n len=some n.toNat:=by unfold AI;rw[if_pos ⟨h1,h2⟩]
@[simp] theorem ZA{n len:Nat}:AI (n:Int) len=if n<len then some n else none:=by
 unfold AI
 by_cases h:n<len
 ·rw[if_pos ⟨by omega,by omega⟩,if_pos h];simp
 ·rw[if_neg (by omega),if_neg h]
def Ad(k:IntKind)(l:List Int):List AV:=l.map (.int k)
section
variable {kd:IntKind}{l:List Int}
@[simp] theorem Zz:(Ad kd l).length=l.length:=by simp[Ad]
@[simp] theorem CS{i:Nat}:(Ad kd l)[i]?=(l[i]?).map (.int kd):=by simp[Ad]
@[simp] theorem Xf{i:Nat}(h:i<(Ad kd l).length):(Ad kd l)[i] = .int kd (l[i]'(by simpa using h)):=by simp[Ad]
@[simp] theorem ZP{i:Nat}{v:Int}:(Ad kd l).set i (.int kd v)=Ad kd (l.set i v):=by simp[Ad,Aeh]
@[simp] theorem QA:(Ad kd l).all (·.ids.isEmpty)=true:=by simp[Ad,AV.ids]
@[simp] theorem Ck{m:List Int}:Ad kd l++Ad kd m=Ad kd (l++m):=by simp[Ad]
theorem DI{i n:Nat}:seg (Ad kd l) i n=if i+n<=l.length then some (Ad kd ((l.drop i).take n))else none:=by
 unfold seg;simp[Ad]
theorem Rc{n:Nat}(h:l.length=n):seg (Ad kd l) 0 n=some (Ad kd l):=by
 rw[DI,if_pos (by omega)];simp[<-h]
theorem NL{l:List Int}{i:Nat}(h:i<l.length):l[i]?=some (l.getD i 0):=by
 rw[AdD,AcR h];rfl
end
end
def gI(l:List Int)(i:Nat):Int:=l.getD i 0
theorem Xq{l:List Int}{i:Nat}(h:i<l.length):l[i]?=some (gI l i):=NL h
theorem CY{l:List Int}{i:Nat}(h:i<l.length):gI l i=l[i]:=by simp[gI,h]
theorem FT{l:List Int}{i:Nat}(h:i<l.length):gI l i∈l:=by rw[CY h];exact Aer h
def sid:AV->Nat
 |.slice id _ _ _=>id
 |_=>0
def G1:AV->Nat
 |.slice _ off _ _=>off
 |_=>0
@[simp] theorem HK{i o n:Nat}{c:Cap}:sid (.slice i o n c)=i:=rfl
@[simp] theorem YA{i o n:Nat}{c:Cap}:G1 (.slice i o n c)=o:=rfl
def El(rows:List Row)(sz:Nat)(v:AV)(cs:List AV)(n:Nat):Prop:=A5 rows sz v=some (cs,n)
def IsL(rows:List Row)(v:AV)(l:List Int):Prop:=El rows 1 v (Ad .i64 l) l.length
section
variable {rows:List Row}{sz:Nat}{v:AV}{cs:List AV}{n:Nat}
theorem AP(h:El rows sz v cs n):(v = .nilslice/\cs=[]/\n=0)\/∃id off c vs,v = .slice id off n c/\Ae rows id=some vs/\seg vs off (n*sz)=some cs:=by
 unfold El A5 at h
 split at h
 ·simp only[AcI,AcQ]at h
  exact Or.inl ⟨rfl,h.1.symm,h.2.symm⟩
 ·split at h
  ·rename_i hr
   rw[AcK]at h;obtain⟨l,e,h⟩:=h;simp only[AcQ]at h;obtain⟨rfl,rfl⟩:=h;exact Or.inr ⟨_,_,_,_,rfl,hr,e⟩
  ·simp at h
 ·simp at h
theorem Kt{vs l:List AV}{o n:Nat}(h:seg vs o n=some l):l.length=n/\o+n<=vs.length:=by
 unfold seg at h
 split at h
 ·injection h with h
  subst h;simp only[AdQ,Ad2];omega
 ·simp at h
theorem Vb{vs l:List AV}{o n j:Nat}(h:seg vs o n=some l)(hj:j<n):vs[o+j]?=l[j]?:=by
 unfold seg at h
 split at h
 ·injection h with h
  subst h;rw[Aev,if_pos hj,Adr]
 ·simp at h
theorem OL{vs l:List AV}{o n j m:Nat}(h:seg vs o n=some l)(hj:j+m<=n):seg vs (o+j) m=seg l j m:=by
 have hl:=Kt h;unfold seg at h ⊢;rw[if_pos (by omega)]at h;injection h with h
 rw[if_pos (by omega),if_pos (by omega),<-h,List.drop_take,List.take_take,List.drop_drop];congr 2;omega
theorem K9(h:El rows sz v cs n):cs.length=n*sz:=by
 rcases AP h with ⟨_,rfl,rfl⟩|⟨id,off,c,vs,rfl,hr,hs⟩
 ·simp
 ·exact(Kt hs).1
theorem AF(h:El rows sz v cs n):evP rows (.len 0 (.c v))=some (.int .i64 n):=by
 rcases AP h with ⟨rfl,rfl,rfl⟩|⟨id,off,c,vs,rfl,hr,hs⟩<;>rfl
theorem LC(h:El rows sz v cs n){k:IntKind}{i:Int}(h0:0<=i)(h1:i<n):evP rows (.idxS sz (.c v) (.c (.int k i)))=some (.ptr (sid v) (G1 v+i.toNat*sz)):=by
 rcases AP h with ⟨rfl,rfl,rfl⟩|⟨id,off,c,vs,rfl,hr,hs⟩
 ·omega
 ·rw[RZ,Bz h0 h1];rfl
theorem DM(h:El rows sz v cs n){j:Nat}(hj:j<cs.length):evP rows (.load1 (.c (.ptr (sid v) (G1 v+j))))=cs[j]?:=by
 have hl:=K9 h;rcases AP h with ⟨rfl,rfl,rfl⟩|⟨id,off,c,vs,rfl,hr,hs⟩
 ·simp at hj
 ·rw[Pp]
  simp only[sid,G1,hr,Ac4];rw[Vb hs (by omega)]
theorem Gv(h:El rows sz v cs n){j m:Nat}(hj:j+m<=cs.length)(hm:0<m):evP rows (.loadN m (.c (.ptr (sid v) (G1 v+j))))=(seg cs j m).map AV.agg:=by
 have hl:=K9 h;rcases AP h with ⟨rfl,rfl,rfl⟩|⟨id,off,c,vs,rfl,hr,hs⟩
 ·simp at hj;omega
 ·rw[CE]
  simp only[sid,G1,hr,Ac4];rw[OL hs (by omega)]
theorem Ag(h:El rows sz v cs n)(L:List Row):El (rows++L) sz v cs n:=by
 rcases AP h with ⟨rfl,rfl,rfl⟩|⟨id,off,c,vs,rfl,hr,hs⟩
 ·rfl
 ·unfold El A5
  simp only[Ah hr,hs,AcN]
theorem BY:El rows sz .nilslice [] 0:=rfl
variable {l:List Int}
theorem Dn(h:IsL rows v l):evP rows (.len 0 (.c v))=some (.int .i64 l.length):=AF h
theorem Eg(h:IsL rows v l){k:IntKind}{i:Int}(h0:0<=i)(h1:i<l.length):evP rows (.idxS 1 (.c v) (.c (.int k i)))=some (.ptr (sid v) (G1 v+i.toNat)):=by
 rw[LC h h0 h1,Add]
theorem Ca(h:IsL rows v l){j:Nat}(hj:j<l.length):evP rows (.load1 (.c (.ptr (sid v) (G1 v+j))))=some (.int .i64 (gI l j)):=by
 rw[DM h (by simpa using hj),CS,NL hj];rfl
theorem Al(h:IsL rows v l)(L:List Row):IsL (rows++L) v l:=Ag h L
theorem Pq:IsL rows .nilslice []:=rfl
theorem GD{id off n:Nat}{c:Cap}{vs:List AV}(hr:Ae rows id=some vs)(hs:seg vs off l.length=some (Ad .i64 l)):IsL rows (.slice id off l.length c) l:=by
 unfold IsL El A5;simp only[hr,Add,hs,AcN]
theorem U0{L:List Row}{c:Cap}{n:Nat}(hn:n=l.length):IsL (rows ++ .cells (Ad .i64 l)::L) (.slice rows.length 0 n c) l:=by
 subst hn;exact GD (n:=0) (vs:=Ad .i64 l) (by simp) (by rw[Rc rfl])
end
section
variable {F F':Nat->Option IFn}(hF:∀n c,F n=some c->F' n=some c)
include hF in
theorem S4{n:Nat}(h:∀cx k s r,exec F n cx k s=some r->exec F' n cx k s=some r):LeC (cF F n) (cF F' n):=by
 intro f vs rows r e;unfold cF AE at e ⊢
 split at e
 ·rename_i fn hfn
  rw[hF _ _ hfn];unfold Dw at e
  split at e
  ·rename_i hx
   simp only[h _ _ _ _ hx,Dw];exact e
  ·simp at e
 ·simp at e
include hF in
theorem RL:∀(n:Nat) (cx:Ctx) (k:List Itm) (s:St) (r:AV×List Row×Nat),exec F n cx k s=some r->exec F' n cx k s=some r:=by
 intro n
 induction n with
 |zero=>intro cx k s r h;simp[exec]at h
 |succ n ih=>
  intro cx k s r h;have hc:LeC (cF F n) (cF F' n):=S4 hF ih;cases k with
  |nil=>simp only[exec]at h ⊢;exact h
  |cons x k=>
   cases x with
   |inBlock id=>simp only[exec]at h ⊢;exact ih _ _ _ _ h
   |inScope c=>simp only[exec]at h ⊢;exact ih _ _ _ _ h
   |inLoop c=>simp only[exec,St.force_eq]at h;rw[exec,St.force_eq];exact ih _ _ _ _ h
   |rfBegin=>
    simp only[exec]at h ⊢
    split at h
    ·split at h
     ·exact ih _ _ _ _ h
     ·simp at h
    ·simp at h
   |ops l=>
    cases l with
    |nil=>simp only[exec]at h ⊢;exact ih _ _ _ _ h
    |cons sg l=>
     cases sg with
     |one o=>
      rw[exec]at h ⊢
      split at h
      ·rename_i id vs hy
       split at h
       ·split at h
        ·rename_i hl
         split at h
         ·rename_i hx
          simp only[if_pos hl,ih _ _ _ _ hx];exact ih _ _ _ _ h
         ·simp at h
        ·simp at h
       ·simp at h
      ·split at h
       ·rename_i hop
        rw[show opR (AE F' (exec F' n)) s.sl s.rows s.low o=_ from Cq hc hop];exact ih _ _ _ _ h
       ·simp at h
     |grp g=>
      rw[exec]at h ⊢
      split at h
      ·rename_i hop
       rw[show At (AE F' (exec F' n)) (fun _=>s.rows) 0 g s.sl []=_ from AB hc _ _ _ _ _ hop];exact ih _ _ _ _ h
      ·simp at h
     |grpw a x z b g=>
      rw[exec]at h ⊢
      split at h
      ·rename_i hop
       rw[show At (AE F' (exec F' n)) (fun _=>s.rows) 0 g s.sl []=_ from AB hc _ _ _ _ _ hop];simp only
       split at h
       ·rename_i R off hR
        simp only[A6]at h ⊢
        split at h
        ·rename_i hop2
         rw[show At (AE F' (exec F' n)) (BT s.rows (Bf s.rows R off (z.getD 1)) b) 0 g s.sl []=_ from AB hc _ _ _ _ _ hop2];simp only
         split at h
         ·exact ih _ _ _ _ h
         ·simp at h
        ·simp at h
       ·simp at h
      ·simp at h
     |stop=>simp[exec]at h
   |code c=>
    cases c with
    |skip=>simp only[exec]at h ⊢;exact ih _ _ _ _ h
    |ret=>simp only[exec]at h ⊢;exact h
    |exit id=>
     simp only[exec]at h ⊢
     split at h
     ·exact ih _ _ _ _ h
     ·exact h
    |seq a b=>rw[exec]at h ⊢;exact ih _ _ _ _ h
    |cond c a b=>
     rw[exec]at h ⊢
     split at h
     ·exact ih _ _ _ _ h
     ·simp at h
    |block id c=>rw[exec]at h ⊢;exact ih _ _ _ _ h
    |loop c=>rw[exec]at h ⊢;exact ih _ _ _ _ h
    |scope c=>rw[exec]at h ⊢;exact ih _ _ _ _ h
    |ops l=>simp only[exec,St.forceS_eq]at h ⊢;exact ih _ _ _ _ h
    |rf f ps a b=>
     rw[exec]at h ⊢
     split at h
     ·rename_i hok
      rw[if_pos hok]
      split at h
      ·split at h
       ·rename_i hop
        rw[show AE F' (exec F' n) _ _ _=_ from hc _ _ _ _ hop];simp only
        split at h
        ·exact ih _ _ _ _ h
        ·simp at h
       ·simp at h
      ·simp at h
     ·simp at h
    |kill l ks c=>rw[exec]at h ⊢;exact ih _ _ _ _ h
    |stop=>simp[exec]at h
include hF in
theorem TZ{f:Nat}{vs:List AV}{rows:List Row}{q:AV×List Row×Option Nat}(h:Ret F f vs rows=some q):Ret F' f vs rows=some q:=by
 obtain⟨n,h⟩:=Ret_iff.1 h;exact EK (S4 hF (RL hF n) _ _ _ _ h)
end
def more(F:Nat->Option IFn)(i:Nat)(c:IFn)(n:Nat):Option IFn:=if n=i then some c else F n
theorem RD{F:Nat->Option IFn}{i:Nat}{c:IFn}(h:F i=none):∀n d,F n=some d->more F i c n=some d:=by
 intro n d e;unfold more;rw[if_neg (fun e2=>by rw[e2,h]at e;simp at e)];exact e
section
variable {F:Nat->Option IFn}{rows:List Row}{low:Nat}
@[simp] theorem IO{b:Nat}:Ai b []=[]:=rfl
@[simp] theorem Acn{args:List AV}{f:Nat}{cs:List AV}:opC F rows low args [] (.func f cs)=(Ret F f (args++cs) rows).map fun q=>(q.1,q.2.1,AC low q.2.2):=rfl
@[simp] theorem Acp{e:Option (AV×List Row×Nat)}:go (.bool true) true rows low e=e:=rfl
@[simp] theorem Acw{e:Option (AV×List Row×Nat)}:go (.bool false) false rows low e=e:=rfl
@[simp] theorem Aci{e:Option (AV×List Row×Nat)}:go (.bool true) false rows low e=some (.tup [],rows,low):=rfl
@[simp] theorem Acr{e:Option (AV×List Row×Nat)}:go (.bool false) true rows low e=some (.tup [],rows,low):=rfl
@[simp] theorem Acz{b:Bool}{e:Option (AV×List Row×Nat)}:go (.tup []) b rows low e=some (.tup [],rows,low):=rfl
variable {R L:List Row}{A k:Nat}
theorem CU(b low:Nat)(v:AV)(rows:List Row):gc b low v rows=rows\/(gc b low v rows=rows.take b/\((rows.take b).drop low).all (Row.under b)=true):=by
 unfold gc
 split
 ·rename_i h
  rw[Ac3]at h;exact .inr ⟨rfl,h.2⟩
 ·exact .inl rfl
theorem SP{v:AV}{rows':List Row}(h:low≠rows.length):fin rows v rows' low=(v,gc rows.length low v rows',some low):=by
 unfold fin;rw[if_neg h]
theorem E3{L:List Row}{k o n:Nat}{c:Cap}{vs:List AV}(h:L[k]?=some (.cells vs))(hv:vs.all (·.ids.isEmpty)=true):fin rows (.slice (rows.length+k) o n c) (rows++L) rows.length=(.slice rows.length o n c,rows++[.cells vs],none):=by
 have e:¬rows.length+k<rows.length:=by omega
 unfold fin;rw[if_pos rfl];simp only[CO,AdH,Aes,Aeu,decide_eq_true_eq];rw[if_neg e,JQ,h];simp only[hv,Bool.true_and,AV.plain1,AV.plain,if_true,AV.ren1,AV.ren]
theorem Ih{L:List Row}{k o n:Nat}{c:Cap}{vs:List AV}{kd:IntKind}{e:Int}(h:L[k]?=some (.cells vs))(hv:vs.all (·.ids.isEmpty)=true):fin rows (.tup [.slice (rows.length+k) o n c,.int kd e]) (rows++L) rows.length=(.tup [.slice rows.length o n c,.int kd e],rows++[.cells vs],none):=by
 have e:¬rows.length+k<rows.length:=by omega
 unfold fin;rw[if_pos rfl];simp only[NA,DJ,HA,CO,Hc,AcV,AdH,Aes,Aeu,decide_eq_true_eq];rw[if_neg e,JQ,h];simp only[hv,Bool.true_and,AV.plain1,AV.plain,AdH,Aes,Hc,List.isEmpty_nil,Bool.and_self,if_true,AV.ren1,AV.ren,AcY,Adn]
theorem MT{id:Nat}{vs:List AV}(h:cells? rows id=some vs):rows[id]?=some (.cells vs):=by
 unfold cells? at h
 split at h
 ·rename_i e;injection h with h;rw[e,h]
 ·simp at h
theorem HJ{sz b m:Nat}{x:AV}{ys:List AV}(hx:El rows sz x ys m)(h0:0<m)(h1:m<=lim):evE rows low (.app sz b (.c .nilslice) (.c x))=some (.slice rows.length 0 m (.op sz),rows++[.cells ys],low):=by
 simp only[evE,Au,Ak,show A5 rows sz x=some (ys,m)from hx];rw[if_neg (by omega),if_neg (by omega)]
theorem AaX{sz b:Nat}{s x:AV}{ys:List AV}(hx:El rows sz x ys 0)(hs:s = .nilslice\/∃id off n c,s = .slice id off n c):evE rows low (.app sz b (.c s) (.c x))=some (s,rows,low):=by
 simp only[evE,Au,Ak,show A5 rows sz x=some (ys,0)from hx];rw[if_pos trivial];rcases hs with rfl|⟨id,off,n,c,rfl⟩<;>rfl
theorem Lr{sz b id off n m:Nat}{x:AV}{vs xs ys:List AV}(hc:cells? rows id=some vs)(hs:seg vs off (n*sz)=some xs)(hx:El rows sz x ys m)(h0:0<m)(h1:n+m<=lim):evE rows low (.app sz b (.c (.slice id off n (.op sz))) (.c x))=some (.slice rows.length 0 (n+m) (.op sz),rows.set id .dead++[.cells (xs++ys)],Ab low id):=by
 simp only[evE,Au,Ak,show A5 rows sz x=some (ys,m)from hx];rw[if_neg (by omega),if_neg (by omega),if_neg (by simp;omega)];simp only[MT hc,hs]
theorem Sz{sz b id off n m c:Nat}{x:AV}{vs xs ys:List AV}(hc:Ae rows id=some vs)(hs:seg vs off (n*sz)=some xs)(hx:El rows sz x ys m)(h0:0<m)(h1:n+m<=lim)(h2:c<n+m):evE rows low (.app sz b (.c (.slice id off n (.at_ c))) (.c x))=some (.slice rows.length 0 (n+m) (.op sz),rows++[.cells (xs++ys)],low):=by
 simp only[evE,Au,Ak,show A5 rows sz x=some (ys,m)from hx];rw[if_neg (by omega),if_neg (by omega),if_neg (by omega),if_neg (by omega)];simp only[hc,hs]
end
theorem rg{F:Nat->Option IFn}{cx:Ctx}{k:List Itm}{rows:List Row}{low:Nat}{r:AV×List Row×Nat->Prop}{n:Nat}{keep:List Nat}{ops:List Seg}{l:List (Nat×AV)}{Q:Prop}(hw:noW ops=true:=by exact rfl)(hq:Aat F cx k r n ops (only l keep) rows low=Q:=by kernel_rfl):Ex F cx (.code (.kill n keep (.ops ops))::k) ⟨mk n l,rows,low⟩ r↔Q:=reg rfl hw hq
@[simp] def kp(l:List (Nat×AV)):List Nat->List (Nat×AV)
 |[]=>[]
 |i::is=>(i,lk l i)::kp l is
@[simp] abbrev cl(l:List (Nat×AV))(i:Nat):Opd:=.c (lk l i)
@[simp] abbrev rn:List (Nat×Row):=[]
@[simp] abbrev eb(rows:List Row)(o:IOp)(f:AV->Prop):Prop:=bnd (evP rows o) f
@[simp] abbrev em(b:Nat)(rows:List Row)(o:IOp)(f:AV->Prop):Prop:=bnd (evP (rows++Ai b rn) o) f
@[simp] theorem ecG{F:Nat->Option IFn}{cx:Ctx}{k:List Itm}{c:ICode}{s:St}{r:AV×List Row×Nat->Prop}:Ex F cx (.code (.loop c)::k) s r↔Ex F cx (.inLoop c::k) s r:=Ex_loop.trans Ex_inLoop.symm
abbrev X0(F:Nat->Option IFn)(cx:Ctx)(k:List Itm)(l:List (Nat×AV))(rows:List Row)(low:Nat)(r:AV×List Row×Nat->Prop)(n:Nat)(c:ICode):Prop:=Ex F cx (.code c::k) ⟨mk n l,rows,low⟩ r
@[simp] abbrev Y0(F:Nat->Option IFn)(cx:Ctx)(k:List Itm)(r:AV×List Row×Nat->Prop)(rows:List Row)(low n:Nat)(l:List (Nat×AV)):Prop:=Ex F cx k ⟨mk n l,rows,low⟩ r
abbrev U(a b:ICode):Prop:=∀(F:Nat->Option IFn) (cx:Ctx) (k:List Itm) (s:St) (r:AV×List Row×Nat->Prop),Ex F cx (.code a::k) s r↔Ex F cx (.code b::k) s r
theorem ur{a:ICode}:U a a:=fun _ _ _ _ _=>Iff.rfl
theorem wS{j:Nat}(h:j<9223372036854775807):IntKind.i64.wrap ((j:Int)+1)=((j+1:Nat):Int):=by rw[AM (by omega) (by omega)];omega
theorem lwS{low id:Nat}(h:low<=id):Ab low id=low:=by unfold Ab;rw[if_neg (by omega)]
def c15r0:List Seg:=[zo 163 (.loadN 3 3),.one ⟨none,.storeN 3 2 163,none⟩]
def c15k0:=kk 164 QU c15r0
def c15s1:ICode:=(.seq c15k0 .ret)
def c15r3:List Seg:=[zm 101 12,zo 102 (.bin .add 101 (ci 1)),zm 12 102]
def c15k3:=kk 164 Qn c15r3
def c15r5:List Seg:=[zm 109 13,zo 110 (.bin .add 109 (ci 1)),zm 13 110]
def c15k5:=kk 164 P9 c15r5
def c15r7:List Seg:=[zm 117 14,zo 118 (.bin .add 117 (ci 1)),zm 14 118]
def c15k7:=kk 164 P8 c15r7
def c15r8:List Seg:=[zm 155 15,zm 156 12,zm 157 13,zm 158 14,zo 159 (.mkagg [.int .i64 0,.int .i64 0,.int .i64 0] [(0,1,156),(1,1,157),(2,1,158)]),zo 160 (.mkslice 1 [.int .i64 0,.int .i64 0,.int .i64 0] [(0,3,159)]),zo 161 (.app 3 24 155 160),zo 162 (.fieldA 2 3),.one ⟨none,.store1 162 161,none⟩]
def c15k8:=kk 164 Wm c15r8
def c15s9:ICode:=(.cond (.t 154) c15k8 .skip)
def c15r10:List Seg:=[zo 121 (.loadN 3 3),zm 122 12,zm 123 13,zo 124 (.call [] (.c (.func 60 [])) [121,122,123]),zo 125 (.bin .geq 124 (ci 0)),zm 126 125,.one ⟨some 127,.loadN 3 3,some (126,true)⟩,.one ⟨some 128,.mv 12,some (126,true)⟩,.one ⟨some 129,.mv 14,some (126,true)⟩,.one ⟨some 130,.call [] (.c (.func 60 [])) [127,128,129],some (126,true)⟩,.one ⟨some 131,.bin .geq 130 (ci 0),some (126,true)⟩,zo 132 (.pick 126 131 (.c (.bool false))),zm 133 132,.one ⟨some 134,.loadN 3 3,some (133,true)⟩,.one ⟨some 135,.mv 13,some (133,true)⟩,.one ⟨some 136,.mv 14,some (133,true)⟩,.one ⟨some 137,.call [] (.c (.func 60 [])) [134,135,136],some (133,true)⟩,.one ⟨some 138,.bin .geq 137 (ci 0),some (133,true)⟩,zo 139 (.pick 133 138 (.c (.bool false))),zm 140 139,.one ⟨some 141,.mv 15,some (140,true)⟩,.one ⟨some 142,.len 0 141,some (140,true)⟩,.one ⟨some 143,.bin .lss 142 (ci 6),some (140,true)⟩,zo 144 (.pick 140 143 (.c (.bool false))),zm 145 144,.one ⟨some 146,.fieldA 2 1,some (145,true)⟩,.one ⟨some 147,.load1 146,some (145,true)⟩,.one ⟨some 148,.mv 12,some (145,true)⟩,.one ⟨some 149,.mv 13,some (145,true)⟩,.one ⟨some 150,.bin .add 148 149,some (145,true)⟩,.one ⟨some 151,.mv 14,some (145,true)⟩,.one ⟨some 152,.bin .add 150 151,some (145,true)⟩,.one ⟨some 153,.call [] (.c (.func 61 [])) [147,152],some (145,true)⟩,zo 154 (.pick 145 153 (.c (.bool false)))]
def c15k10:=kk 164 Wm c15r10
def c15s11:ICode:=(.seq c15k10 c15s9)
def c15r12:List Seg:=[zo 119 (.fieldA 2 3),zo 120 (.load1 119),zm 15 120]
def c15k12:=kk 164 P8 c15r12
def c15s13:ICode:=(.seq (.block 9 (.seq c15k12 c15s11)) c15k7)
def c15s14:ICode:=(.cond (.t 116) .skip (.exit 8))
def c15r15:List Seg:=[zm 113 14,zo 114 (.fieldA 0 3),zo 115 (.load1 114),zo 116 (.bin .lss 113 115)]
def c15k15:=kk 164 P8 c15r15
def c15l6:ICode:=(.seq (.seq c15k15 c15s14) c15s13)
def c15s16:ICode:=(.block 8 (.loop c15l6))
def c15r17:List Seg:=[zm 111 13,zo 112 (.bin .add 111 (ci 1)),zm 14 112]
def c15k17:=kk 164 P9 c15r17
def c15s18:ICode:=(.seq (.block 7 (.seq c15k17 c15s16)) c15k5)
def c15s19:ICode:=(.cond (.t 108) .skip (.exit 6))
def c15r20:List Seg:=[zm 105 13,zo 106 (.fieldA 0 3),zo 107 (.load1 106),zo 108 (.bin .lss 105 107)]
def c15k20:=kk 164 P9 c15r20
def c15l4:ICode:=(.seq (.seq c15k20 c15s19) c15s18)
def c15s21:ICode:=(.block 6 (.loop c15l4))
def c15r22:List Seg:=[zm 103 12,zo 104 (.bin .add 103 (ci 1)),zm 13 104]
def c15k22:=kk 164 Qn c15r22
def c15s23:ICode:=(.seq (.block 5 (.seq c15k22 c15s21)) c15k3)
def c15s24:ICode:=(.cond (.t 100) .skip (.exit 4))
def c15r25:List Seg:=[zm 97 12,zo 98 (.fieldA 0 3),zo 99 (.load1 98),zo 100 (.bin .lss 97 99)]
def c15k25:=kk 164 Qn c15r25
def c15l2:ICode:=(.seq (.seq c15k25 c15s24) c15s23)
def c15s26:ICode:=(.block 4 (.loop c15l2))
def c15r27:List Seg:=[zo 12 (.mv (ci 0))]
def c15k27:=kk 164 FM c15r27
def c15s28:ICode:=(.seq (.seq c15k27 c15s26) c15s1)
def c15r30:List Seg:=[zm 81 10,zo 82 (.bin .add 81 (ci 1)),zm 10 82]
def c15k30:=kk 164 Qm c15r30
def c15r31:List Seg:=[zm 88 11,zm 89 10,zo 90 (.bin .quo 89 (ci 6)),zm 91 10,zo 92 (.bin .rem 91 (ci 6)),zo 93 (.mkagg [.int .i64 0,.int .i64 0] [(0,1,90),(1,1,92)]),zo 94 (.mkslice 1 [.int .i64 0,.int .i64 0] [(0,2,93)]),zo 95 (.app 2 16 88 94),zo 96 (.fieldA 1 3),.one ⟨none,.store1 96 95,none⟩]
def c15k31:=kk 164 WI c15r31
def c15s32:ICode:=(.cond (.t 87) c15k31 .skip)
def c15r33:List Seg:=[zm 85 10,zo 86 (.idxA 36 1 4 85),zo 87 (.load1 86)]
def c15k33:=kk 164 WI c15r33
def c15s34:ICode:=(.seq c15k33 c15s32)
def c15r35:List Seg:=[zo 83 (.fieldA 1 3),zo 84 (.load1 83),zm 11 84]
def c15k35:=kk 164 Qm c15r35
def c15s36:ICode:=(.seq (.block 3 (.seq c15k35 c15s34)) c15k30)
def c15s37:ICode:=(.cond (.t 80) .skip (.exit 2))
def c15r38:List Seg:=[zm 79 10,zo 80 (.bin .lss 79 (ci 36))]
def c15k38:=kk 164 Qm c15r38
def c15l29:ICode:=(.seq (.seq c15k38 c15s37) c15s36)
def c15s39:ICode:=(.block 2 (.loop c15l29))
def c15r40:List Seg:=[zo 10 (.mv (ci 0))]
def c15k40:=kk 164 OM c15r40
def c15s41:ICode:=(.seq (.seq c15k40 c15s39) c15s28)
def c15r43:List Seg:=[zm 32 6,zo 33 (.bin .add 32 (ci 1)),zm 6 33]
def c15k43:=kk 164 Mz c15r43
def c15r44:List Seg:=[zm 77 5,zo 78 (.bin .add 77 (ci 1)),zm 5 78]
def c15k44:=kk 164 Mz c15r44
def c15r45:List Seg:=[zm 75 9,zo 76 (.idxA 36 1 4 75),.one ⟨none,.store1 76 (.c (.bool true)),none⟩]
def c15k45:=kk 164 AbF c15r45
def c15s46:ICode:=(.cond (.t 74) (.seq c15k45 c15k44) .skip)
def c15r47:List Seg:=[zm 66 7,zm 67 8,zo 68 (.bin .neq 66 67),zm 69 68,.one ⟨some 70,.mv 9,some (69,true)⟩,.one ⟨some 71,.idxA 36 1 4 70,some (69,true)⟩,.one ⟨some 72,.load1 71,some (69,true)⟩,.one ⟨some 73,.un .not 72,some (69,true)⟩,zo 74 (.pick 69 73 (.c (.bool false)))]
def c15k47:=kk 164 AaV c15r47
def c15s48:ICode:=(.seq c15k47 c15s46)
def c15r49:List Seg:=[zm 58 7,zm 59 8,zo 60 (.mn [58,59]),zo 61 (.bin .mul 60 (ci 6)),zm 62 7,zm 63 8,zo 64 (.mx [62,63]),zo 65 (.bin .add 61 64),zm 9 65]
def c15k49:=kk 164 AaN c15r49
def c15s50:ICode:=(.seq c15k49 c15s48)
def c15r51:List Seg:=[.grp [(zp 34 (.fieldA 1 1),0),(zp 35 (.load1 34),1),(zn 36 6,0),(zp 37 (.idxS 2 35 36),7),(zp 38 (.idxA 2 1 37 (ci 0)),15),(zp 39 (.load1 38),31),(zp 40 (.conv .u64 39),63),(zp 41 (.fieldA 0 3),0),(zp 42 (.load1 41),128),(zp 43 (.conv .u64 42),384),(zp 44 (.bin .rem 40 43),1023),(zp 45 (.conv .i64 44),2047),(zp 46 (.fieldA 1 1),0),(zp 47 (.load1 46),4096),(zn 48 6,0),(zp 49 (.idxS 2 47 48),28672),(zp 50 (.idxA 2 1 49 (ci 1)),61440),(zp 51 (.load1 50),126976),(zp 52 (.conv .u64 51),258048),(zp 53 (.fieldA 0 3),0),(zp 54 (.load1 53),524288),(zp 55 (.conv .u64 54),1572864),(zp 56 (.bin .rem 52 55),4190208),(zp 57 (.conv .i64 56),8384512),(zn 7 45,4095)],zm 8 57]
def c15k51:=kk 164 Mz c15r51
def c15s52:ICode:=(.seq (.block 1 (.seq c15k51 c15s50)) c15k43)
def c15s53:ICode:=(.cond (.t 31) .skip (.exit 0))
def c15r54:List Seg:=[zm 23 6,zo 24 (.fieldA 1 1),zo 25 (.load1 24),zo 26 (.len 0 25),zo 27 (.bin .lss 23 26),zm 28 27,.one ⟨some 29,.mv 5,some (28,true)⟩,.one ⟨some 30,.bin .lss 29 (ci 10),some (28,true)⟩,zo 31 (.pick 28 30 (.c (.bool false)))]
def c15k54:=kk 164 Mz c15r54
def c15l42:ICode:=(.seq (.seq c15k54 c15s53) c15s52)
def c15s55:ICode:=(.block 0 (.loop c15l42))
def c15r56:List Seg:=[zo 6 (.mv (ci 0))]
def c15k56:=kk 164 AaY c15r56
def c15s57:ICode:=(.seq (.seq c15k56 c15s55) c15s41)
def c15r58:List Seg:=[zo 5 (.mv (ci 0))]
def c15k58:=kk 164 OM c15r58
def c15s59:ICode:=(.seq c15k58 c15s57)
def c15r60:List Seg:=[zo 4 (.box (.c (.agg (List.replicate 36 (.bool false)))))]
def c15k60:=kk 164 FM c15r60
def c15s61:ICode:=(.seq c15k60 c15s59)
def c15r62:List Seg:=[zo 16 (.fieldA 0 1),zo 17 (.load1 16),zo 18 (.conv .u64 17),zo 19 (.bin .rem 18 (.c (.int .u64 6))),zo 20 (.conv .i64 19),zo 21 (.bin .add (ci 1) 20),zo 22 (.mkagg [.int .i64 0,.nilslice,.nilslice] [(0,1,21)]),zo 3 (.box (.c (.agg [.int .i64 0,.nilslice,.nilslice]))),.one ⟨none,.storeN 3 3 22,none⟩]
def c15k62:=kk 164 Bs c15r62
def c15s63:ICode:=(.seq c15k62 c15s61)
def c15r64:List Seg:=[zo 1 (.box 0),zo 2 (.box (.c (.agg [.int .i64 0,.nilslice,.nilslice])))]
def c15k64:=kk 164 [0] c15r64
def c15b:ICode:=(.seq c15k64 c15s63)
def c15:IFn:=⟨164,[.cellN 2 3],c15b⟩
def h15:List (Nat×Nat×List Nat):=[(0,(164,[0])),(1,(164,Bs)),(2,(164,FM)),(3,(164,OM)),(4,(164,AaY)),(5,(164,Mz)),(7,(164,Mz)),(8,(164,AaN)),(9,(164,AaV)),(10,(164,AbF)),(11,(164,Mz)),(6,(164,Mz)),(12,(164,OM)),(13,(164,Qm)),(15,(164,Qm)),(16,(164,WI)),(17,(164,WI)),(14,(164,Qm)),(18,(164,FM)),(19,(164,Qn)),(21,(164,Qn)),(22,(164,P9)),(24,(164,P9)),(25,(164,P8)),(27,(164,P8)),(28,(164,Wm)),(29,(164,Wm)),(26,(164,P8)),(23,(164,P9)),(20,(164,Qn)),(30,(164,QU))]
def c16r0:List Seg:=[zo 77 (.fieldA 1 1),zo 78 (.load1 77),zo 79 (.len 0 78),zo 80 (.fieldA 0 1),zo 81 (.load1 80),zm 82 14,zo 83 (.bin .sub 81 82),zo 84 (.bin .sub 79 83),zm 85 11,zo 86 (.bin .sub 84 85),zm 2 86,zo 3 (.mv (ci 0))]
def c16k0:=kk 87 Ab7 c16r0
def c16s1:ICode:=(.seq c16k0 .ret)
def c16r2:List Seg:=[zo 73 (.loadN 3 1),zo 74 (.call [] (.c (.func 50 [])) [73]),zm 72 74,zo 75 (.ext 72 0),zo 76 (.ext 72 1),zm 14 75,zm 15 76]
def c16k2:=kk 87 Ab5 c16r2
def c16s3:ICode:=(.seq c16k2 c16s1)
def c16r5:List Seg:=[zo 71 (.bin .add 63 (ci 1)),zm 63 71]
def c16k5:=kk 87 SR c16r5
def c16r6:List Seg:=[zm 69 11,zo 70 (.bin .add 69 (ci 1)),zm 11 70]
def c16k6:=kk 87 SR c16r6
def c16s7:ICode:=(.cond (.t 68) c16k6 .skip)
def c16r8:List Seg:=[zm 67 13,zo 68 (.bin .geq 67 (ci 0))]
def c16k8:=kk 87 Ace c16r8
def c16s9:ICode:=(.seq c16k8 c16s7)
def c16r10:List Seg:=[zo 65 (.idxS 1 61 63),zo 66 (.load1 65),zm 13 66]
def c16k10:=kk 87 SR c16r10
def c16s11:ICode:=(.seq (.block 7 (.seq c16k10 c16s9)) c16k5)
def c16s12:ICode:=(.seq (.cond (.t 64) .skip (.exit 6)) c16s11)
def c16r13:List Seg:=[zo 64 (.bin .lss 63 62)]
def c16k13:=kk 87 SR c16r13
def c16l4:ICode:=(.seq c16k13 c16s12)
def c16s14:ICode:=(.block 6 (.loop c16l4))
def c16r15:List Seg:=[zm 56 5,zo 57 (.fieldA 1 1),zo 58 (.load1 57),zo 59 (.len 0 58),zo 60 (.loadN 2 (.c (.ptr 0 0))),zo 61 (.call [] (.c (.func 64 [])) [56,59,60]),zo 62 (.len 0 61),zo 63 (.mv (ci 0))]
def c16k15:=kk 87 W8 c16r15
def c16s16:ICode:=(.seq (.seq c16k15 c16s14) c16s3)
def c16r17:List Seg:=[zo 11 (.mv (ci 0))]
def c16k17:=kk 87 QC c16r17
def c16s18:ICode:=(.seq c16k17 c16s16)
def c16r20:List Seg:=[zo 55 (.bin .add 24 (ci 1)),zm 24 55]
def c16k20:=kk 87 Wz c16r20
def c16r21:List Seg:=[zm 51 5,zo 52 (.load1 7),zo 53 (.mkslice 1 [.nilslice] [(0,1,52)]),zo 54 (.app 1 24 51 53),zm 5 54]
def c16k21:=kk 87 AbV c16r21
def c16r23:List Seg:=[.grp [(zp 46 (.load1 7),0),(zn 47 9,0),(zn 48 10,0),(zp 49 (.call [] (.c (.func 63 [])) [48]),4)],zo 50 (.idxS 2 46 47),.one ⟨none,.storeN 2 50 49,none⟩]
def c16k23:=kk 87 XH c16r23
def c16r24:List Seg:=[zm 10 45]
def c16k24:=kk 87 Xj c16r24
def c16r25:List Seg:=[zm 9 44]
def c16k25:=kk 87 YN c16r25
def c16f22a:ICode:=(.seq c16k25 c16k24)
def c16f22b:ICode:=(.block 5 c16k23)
def c16s26:ICode:=(.block 4 (.rf (.t 43) [44,45] c16f22a c16f22b))
def c16r27:List Seg:=[zo 41 (.loadN 3 1),zm 42 6,zo 43 (.call [] (.c (.func 62 [])) [41,42])]
def c16k27:=kk 87 ZI c16r27
def c16s28:ICode:=(.seq (.seq c16k27 c16s26) c16k21)
def c16r30:List Seg:=[zo 40 (.bin .add 33 (ci 1)),zm 33 40]
def c16k30:=kk 87 Wn c16r30
def c16r31:List Seg:=[zo 36 (.load1 7),zm 37 8,zo 38 (.loadN 2 (.c (.ptr 0 0))),zo 39 (.idxS 2 36 37),.one ⟨none,.storeN 2 39 38,none⟩]
def c16k31:=kk 87 Acf c16r31
def c16r32:List Seg:=[zm 35 33,zm 8 35]
def c16k32:=kk 87 Wn c16r32
def c16s33:ICode:=(.seq (.block 3 (.seq c16k32 c16k31)) c16k30)
def c16s34:ICode:=(.seq (.cond (.t 34) .skip (.exit 2)) c16s33)
def c16r35:List Seg:=[zo 34 (.bin .lss 33 32)]
def c16k35:=kk 87 Wn c16r35
def c16l29:ICode:=(.seq c16k35 c16s34)
def c16s36:ICode:=(.block 2 (.loop c16l29))
def c16r37:List Seg:=[zo 31 (.load1 7),zo 32 (.len 0 31),zo 33 (.mv (ci 0))]
def c16k37:=kk 87 ZI c16r37
def c16s38:ICode:=(.seq (.seq c16k37 c16s36) c16s28)
def c16r39:List Seg:=[zo 27 (.fieldA 1 1),zo 28 (.load1 27),zo 29 (.len 0 28),zo 30 (.make [.int .i64 0,.int .i64 0] 16 29 29),zo 7 (.box (.c .nilslice)),.one ⟨none,.store1 7 30,none⟩]
def c16k39:=kk 87 Aca c16r39
def c16s40:ICode:=(.seq c16k39 c16s38)
def c16r41:List Seg:=[zm 26 24,zm 6 26]
def c16k41:=kk 87 Wz c16r41
def c16s42:ICode:=(.seq (.block 1 (.seq c16k41 c16s40)) c16k20)
def c16s43:ICode:=(.seq (.cond (.t 25) .skip (.exit 0)) c16s42)
def c16r44:List Seg:=[zo 25 (.bin .lss 24 23)]
def c16k44:=kk 87 Wz c16r44
def c16l19:ICode:=(.seq c16k44 c16s43)
def c16s45:ICode:=(.block 0 (.loop c16l19))
def c16r46:List Seg:=[zo 21 (.fieldA 2 1),zo 22 (.load1 21),zo 23 (.len 0 22),zo 24 (.mv (ci 0))]
def c16k46:=kk 87 Ab2 c16r46
def c16s47:ICode:=(.seq (.seq c16k46 c16s45) c16s18)
def c16r48:List Seg:=[zo 5 (.mv (.c .nilslice))]
def c16k48:=kk 87 FM c16r48
def c16s49:ICode:=(.seq c16k48 c16s47)
def c16r50:List Seg:=[zm 20 4,zo 2 (.mv (ci 0)),zm 3 20]
def c16k50:=kk 87 [4] c16r50
def c16s51:ICode:=(.cond (.t 19) (.seq c16k50 .ret) .skip)
def c16r52:List Seg:=[zm 18 4,zo 19 (.bin .neq 18 (ci 0))]
def c16k52:=kk 87 OM c16r52
def c16s53:ICode:=(.seq c16k52 c16s51)
def c16r54:List Seg:=[zo 16 (.loadN 3 1),zo 17 (.call [] (.c (.func 59 [])) [16]),zm 4 17]
def c16k54:=kk 87 FM c16r54
def c16s55:ICode:=(.seq (.seq c16k54 c16s53) c16s49)
def c16r56:List Seg:=[zo 1 (.box 0),zo 2 (.mv (ci 0)),zo 3 (.mv (ci 0))]
def c16k56:=kk 87 [0] c16r56
def c16b:ICode:=(.seq c16k56 c16s55)
def c16:IFn:=⟨87,[.t 2,.t 3],c16b⟩
def h16:List (Nat×Nat×List Nat):=[(0,(87,[0])),(1,(87,FM)),(2,(87,OM)),(3,(87,[4])),(4,(87,FM)),(5,(87,Ab2)),(6,(87,Wz)),(7,(87,Wz)),(8,(87,Aca)),(9,(87,ZI)),(10,(87,Wn)),(11,(87,Wn)),(12,(87,Acf)),(13,(87,Wn)),(14,(87,ZI)),(15,(87,YN)),(16,(87,Xj)),(17,(87,XH)),(18,(87,AbV)),(19,(87,Wz)),(20,(87,QC)),(21,(87,W8)),(22,(87,SR)),(23,(87,SR)),(24,(87,Ace)),(25,(87,SR)),(26,(87,SR)),(27,(87,Ab5)),(28,(87,Ab7))]
def c17r0:List Seg:=[.grp [(zp 5 (.fieldA 0 1),0),(zp 6 (.load1 5),1),(zn 7 3,0),(zp 8 (.fieldA 1 1),0),(zp 9 (.load1 8),8),(zp 10 (.app 2 16 7 9),28),(zn 11 4,0),(zp 12 (.fieldA 2 1),0),(zp 13 (.load1 12),128),(zp 14 (.app 3 24 11 13),508)],zo 15 (.mkagg [.int .i64 0,.nilslice,.nilslice] [(0,1,6),(1,1,10),(2,1,14)]),.one ⟨none,.storeN 3 2 15,none⟩]
def c17k0:=kk 16 OM c17r0
def c17s1:ICode:=(.seq c17k0 .ret)
def c17r2:List Seg:=[zo 4 (.mv (.c .nilslice))]
def c17k2:=kk 16 FM c17r2
def c17s3:ICode:=(.seq c17k2 c17s1)
def c17r4:List Seg:=[zo 3 (.mv (.c .nilslice))]
def c17k4:=kk 16 Bs c17r4
def c17s5:ICode:=(.seq c17k4 c17s3)
def c17r6:List Seg:=[zo 1 (.box 0),zo 2 (.box (.c (.agg [.int .i64 0,.nilslice,.nilslice])))]
def c17k6:=kk 16 [0] c17r6
def c17b:ICode:=(.seq c17k6 c17s5)
def c17:IFn:=⟨16,[.cellN 2 3],c17b⟩
def h17:List (Nat×Nat×List Nat):=[(0,(16,[0])),(1,(16,Bs)),(2,(16,FM)),(3,(16,OM))]
def c19r0:List Seg:=[zm 62 3,zo 63 (.bin .eql 62 (ci 0)),zm 64 63,.one ⟨some 65,.idxA 3 1 2 (ci 0),some (64,true)⟩,.one ⟨some 66,.load1 65,some (64,true)⟩,.one ⟨some 67,.mkagg [.int .i64 0,.int .i64 0] [(0,1,(ci 2)),(1,1,(ci 3))],some (64,true)⟩,.one ⟨some 68,.mkagg [.int .i64 0,.int .i64 0] [(0,1,(ci 4)),(1,1,(ci 3))],some (64,true)⟩,.one ⟨some 69,.mkagg [.int .i64 0,.int .i64 0] [(0,1,(ci 2)),(1,1,(ci 3))],some (64,true)⟩,.one ⟨some 70,.mkslice 3 [.int .i64 0,.int .i64 0,.int .i64 0,.int .i64 0,.int .i64 0,.int .i64 0] [(0,2,67),(2,2,68),(4,2,69)],some (64,true)⟩,.one ⟨some 71,.call [] (.c (.func 28 [])) [66,70],some (64,true)⟩,zo 72 (.pick 64 71 (.c (.bool false))),zm 73 72,.one ⟨some 74,.idxA 3 1 2 (ci 2),some (73,true)⟩,.one ⟨some 75,.load1 74,some (73,true)⟩,.one ⟨some 76,.mkagg [.int .i64 0,.int .i64 0] [(0,1,(ci 1)),(1,1,(ci 3))],some (73,true)⟩,.one ⟨some 77,.mkagg [.int .i64 0,.int .i64 0] [(0,1,(.c (.int .i64 (-1)))),(1,1,(ci 3))],some (73,true)⟩,.one ⟨some 78,.mkagg [.int .i64 0,.int .i64 0] [(0,1,(ci 1)),(1,1,(ci 3))],some (73,true)⟩,.one ⟨some 79,.mkslice 3 [.int .i64 0,.int .i64 0,.int .i64 0,.int .i64 0,.int .i64 0,.int .i64 0] [(0,2,76),(2,2,77),(4,2,78)],some (73,true)⟩,.one ⟨some 80,.call [] (.c (.func 28 [])) [75,79],some (73,true)⟩,zo 81 (.pick 73 80 (.c (.bool false))),zm 82 81,.one ⟨some 83,.mv 6,some (82,true)⟩,.one ⟨some 84,.bin .eql 83 (ci 0),some (82,true)⟩,zo 85 (.pick 82 84 (.c (.bool false))),zm 86 85,.one ⟨some 87,.mv 5,some (86,true)⟩,.one ⟨some 88,.un .not 87,some (86,true)⟩,zo 89 (.pick 86 88 (.c (.bool false))),zm 90 89,.one ⟨some 91,.mv 9,some (90,true)⟩,.one ⟨some 92,.bin .eql 91 (ci 0),some (90,true)⟩,zo 93 (.pick 90 92 (.c (.bool false))),zm 94 93,.one ⟨some 95,.mv 8,some (94,true)⟩,zo 96 (.pick 94 95 (.c (.bool false))),zm 97 96,.one ⟨some 98,.mv 7,some (97,true)⟩,.one ⟨some 99,.mkslice 2 [.int .i64 0,.int .i64 0] [(0,1,(ci 0)),(1,1,(ci 7))],some (97,true)⟩,.one ⟨some 100,.call [] (.c (.func 27 [])) [98,99],some (97,true)⟩,zo 101 (.pick 97 100 (.c (.bool false))),zm 102 101,.one ⟨some 103,.mv 11,some (102,true)⟩,.one ⟨some 104,.bin .eql 103 (ci 0),some (102,true)⟩,zo 105 (.pick 102 104 (.c (.bool false))),zm 106 105,.one ⟨some 107,.mv 10,some (106,true)⟩,.one ⟨some 108,.bin .eql 107 (ci 1),some (106,true)⟩,zo 109 (.pick 106 108 (.c (.bool false))),zm 110 109,.one ⟨some 111,.mv 14,some (110,true)⟩,.one ⟨some 112,.bin .eql 111 (ci 0),some (110,true)⟩,zo 113 (.pick 110 112 (.c (.bool false))),zm 114 113,.one ⟨some 115,.mv 13,some (114,true)⟩,.one ⟨some 116,.bin .eql 115 (ci 0),some (114,true)⟩,zo 117 (.pick 114 116 (.c (.bool false))),zm 118 117,.one ⟨some 119,.mkagg [.int .i64 0,.nilslice,.nilslice] [],some (118,true)⟩,.one ⟨some 120,.call [] (.c (.func 59 [])) [119],some (118,true)⟩,.one ⟨some 121,.bin .eql 120 (ci 30),some (118,true)⟩,zo 122 (.pick 118 121 (.c (.bool false))),zm 0 122]
def c19k0:=kk 123 Yj c19r0
def c19s1:ICode:=(.seq c19k0 .ret)
def c19r2:List Seg:=[zo 58 (.loadN 3 12),zo 59 (.call [] (.c (.func 16 [])) [58]),zm 57 59,zo 60 (.ext 57 0),zo 61 (.ext 57 1),zm 13 60,zm 14 61]
def c19k2:=kk 123 YU c19r2
def c19s3:ICode:=(.seq c19k2 c19s1)
def c19r4:List Seg:=[zo 52 (.fieldA 1 1),zo 53 (.load1 52),zo 54 (.mkagg [.int .i64 0,.int .i64 0,.int .i64 0] [(0,1,(ci 0)),(1,1,(ci 1)),(2,1,(ci 2))]),zo 55 (.mkslice 1 [.int .i64 0,.int .i64 0,.int .i64 0] [(0,3,54)]),zo 56 (.mkagg [.int .i64 0,.nilslice,.nilslice] [(0,1,(ci 3)),(1,1,53),(2,1,55)]),zo 12 (.box (.c (.agg [.int .i64 0,.nilslice,.nilslice]))),.one ⟨none,.storeN 3 12 56,none⟩]
def c19k4:=kk 123 Ab6 c19r4
def c19s5:ICode:=(.seq c19k4 c19s3)
def c19r6:List Seg:=[zo 43 (.mkagg [.int .i64 0,.int .i64 0] [(0,1,(ci 0)),(1,1,(ci 1))]),zo 44 (.mkagg [.int .i64 0,.int .i64 0] [(0,1,(ci 0)),(1,1,(ci 3))]),zo 45 (.mkagg [.int .i64 0,.int .i64 0] [(0,1,(ci 1)),(1,1,(ci 2))]),zo 46 (.mkagg [.int .i64 0,.int .i64 0] [(0,1,(ci 2)),(1,1,(ci 3))]),zo 47 (.mkslice 4 [.int .i64 0,.int .i64 0,.int .i64 0,.int .i64 0,.int .i64 0,.int .i64 0,.int .i64 0,.int .i64 0] [(0,2,43),(2,2,44),(4,2,45),(6,2,46)]),zo 48 (.mkagg [.int .i64 0,.nilslice,.nilslice] [(0,1,(ci 4)),(1,1,47)]),zo 49 (.call [] (.c (.func 16 [])) [48]),zm 42 49,zo 50 (.ext 42 0),zo 51 (.ext 42 1),zm 10 50,zm 11 51]
def c19k6:=kk 123 Ab0 c19r6
def c19s7:ICode:=(.seq c19k6 c19s5)
def c19r8:List Seg:=[zo 34 (.mkagg [.int .i64 0,.int .i64 0] [(0,1,(ci 0)),(1,1,(ci 1))]),zo 35 (.mkslice 1 [.int .i64 0,.int .i64 0] [(0,2,34)]),zo 36 (.mkagg [.int .i64 0,.nilslice,.nilslice] [(0,1,(ci 2)),(1,1,35)]),zo 37 (.mkslice 1 [.int .i64 0] [(0,1,(ci 7))]),zo 38 (.call [] (.c (.func 41 [])) [36,37]),zm 33 38,zo 39 (.ext 33 0),zo 40 (.ext 33 1),zo 41 (.ext 33 2),zm 7 39,zm 8 40,zm 9 41]
def c19k8:=kk 123 AbL c19r8
def c19s9:ICode:=(.seq c19k8 c19s7)
def c19r10:List Seg:=[zo 27 (.loadN 3 1),zo 28 (.mkslice 3 [.int .i64 0,.int .i64 0,.int .i64 0] [(0,1,(ci 1)),(1,1,(ci 1)),(2,1,(ci 1))]),zo 29 (.call [] (.c (.func 41 [])) [27,28]),zm 26 29,zo 30 (.ext 26 0),zo 31 (.ext 26 1),zo 32 (.ext 26 2),zm 4 30,zm 5 31,zm 6 32]
def c19k10:=kk 123 FM c19r10
def c19s11:ICode:=(.seq c19k10 c19s9)
def c19r12:List Seg:=[zo 21 (.loadN 3 1),zo 22 (.mkslice 3 [.int .i64 0,.int .i64 0,.int .i64 0] [(0,1,(ci 1)),(1,1,(ci 1)),(2,1,(ci 1))]),zo 23 (.call [] (.c (.func 23 [])) [21,22]),zm 20 23,zo 24 (.ext 20 0),zo 25 (.ext 20 1),zo 2 (.box (.c (.agg [.nilslice,.nilslice,.nilslice]))),.one ⟨none,.storeN 3 2 24,none⟩,zm 3 25]
def c19k12:=kk 123 [1] c19r12
def c19s13:ICode:=(.seq c19k12 c19s11)
def c19r14:List Seg:=[zo 15 (.mkagg [.int .i64 0,.int .i64 0] [(0,1,(ci 0)),(1,1,(ci 1))]),zo 16 (.mkagg [.int .i64 0,.int .i64 0] [(0,1,(ci 0)),(1,1,(ci 2))]),zo 17 (.mkagg [.int .i64 0,.int .i64 0] [(0,1,(ci 1)),(1,1,(ci 2))]),zo 18 (.mkslice 3 [.int .i64 0,.int .i64 0,.int .i64 0,.int .i64 0,.int .i64 0,.int .i64 0] [(0,2,15),(2,2,16),(4,2,17)]),zo 19 (.mkagg [.int .i64 0,.nilslice,.nilslice] [(0,1,(ci 3)),(1,1,18)]),zo 1 (.box (.c (.agg [.int .i64 0,.nilslice,.nilslice]))),.one ⟨none,.storeN 3 1 19,none⟩]
def c19k14:=kk 123 [] c19r14
def c19s15:ICode:=(.seq c19k14 c19s13)
def c19r16:List Seg:=[zo 0 (.mv (.c (.bool false)))]
def c19k16:=kk 123 [] c19r16
def c19b:ICode:=(.seq c19k16 c19s15)
def c19:IFn:=⟨123,[.t 0],c19b⟩
def h19:List (Nat×Nat×List Nat):=[(0,(123,[])),(1,(123,[])),(2,(123,[1])),(3,(123,FM)),(4,(123,AbL)),(5,(123,Ab0)),(6,(123,Ab6)),(7,(123,YU)),(8,(123,Yj))]
def c20r0:List Seg:=[zm 29 5,zm 4 29]
def c20k0:=kk 30 [5] c20r0
def c20s1:ICode:=(.seq c20k0 .ret)
def c20r3:List Seg:=[zm 11 6,zo 12 (.bin .add 11 (ci 1)),zm 6 12]
def c20k3:=kk 30 EC c20r3
def c20r4:List Seg:=[zm 25 5,zm 26 7,zo 27 (.mkslice 1 [.int .i64 0] [(0,1,26)]),zo 28 (.app 1 8 25 27),zm 5 28]
def c20k4:=kk 30 qq9 c20r4
def c20r5:List Seg:=[zm 17 0,zm 18 6,zo 19 (.idxS 1 17 18),zo 20 (.load1 19),zo 21 (.conv .u64 20),zo 22 (.bin .rem 21 (.c (.int .u64 201))),zo 23 (.conv .i64 22),zo 24 (.bin .sub 23 (ci 100)),zm 7 24]
def c20k5:=kk 30 EC c20r5
def c20s6:ICode:=(.cond (.t 16) c20k5 .skip)
def c20r7:List Seg:=[zm 13 6,zm 14 0,zo 15 (.len 0 14),zo 16 (.bin .lss 13 15)]
def c20k7:=kk 30 qq9 c20r7
def c20s8:ICode:=(.seq (.seq c20k7 c20s6) c20k4)
def c20r9:List Seg:=[zo 7 (.mv (ci 0))]
def c20k9:=kk 30 EC c20r9
def c20s10:ICode:=(.seq (.block 1 (.seq c20k9 c20s8)) c20k3)
def c20s11:ICode:=(.cond (.t 10) .skip (.exit 0))
def c20r12:List Seg:=[zm 8 6,zm 9 1,zo 10 (.bin .lss 8 9)]
def c20k12:=kk 30 EC c20r12
def c20l2:ICode:=(.seq (.seq c20k12 c20s11) c20s10)
def c20s13:ICode:=(.block 0 (.loop c20l2))
def c20r14:List Seg:=[zo 6 (.mv (ci 0))]
def c20k14:=kk 30 Cw c20r14
def c20s15:ICode:=(.seq (.seq c20k14 c20s13) c20s1)
def c20r16:List Seg:=[zo 5 (.mv (.c .nilslice))]
def c20k16:=kk 30 Az c20r16
def c20s17:ICode:=(.seq c20k16 c20s15)
def c20r18:List Seg:=[zo 4 (.mv (.c .nilslice))]
def c20k18:=kk 30 Az c20r18
def c20b:ICode:=(.seq c20k18 c20s17)
def c20:IFn:=⟨30,[.t 4],c20b⟩
def h20:List (Nat×Nat×List Nat):=[(0,(30,Az)),(1,(30,Az)),(2,(30,Cw)),(3,(30,EC)),(5,(30,EC)),(6,(30,qq9)),(7,(30,EC)),(8,(30,qq9)),(4,(30,EC)),(9,(30,[5]))]
def c22r0:List Seg:=[zm 52 7,zm 4 52,zo 5 (.mv (ci 0))]
def c22k0:=kk 53 [7] c22r0
def c22s1:ICode:=(.seq c22k0 .ret)
def c22r3:List Seg:=[zo 51 (.bin .add 24 (ci 1)),zm 24 51]
def c22k3:=kk 53 F5 c22r3
def c22r4:List Seg:=[.grp [(zn 40 7,0),(zp 41 (.idxA 2 1 9 (ci 1)),0),(zp 42 (.load1 41),2),(zp 43 (.idxS 1 40 42),7),(zp 44 (.load1 43),15),(zn 45 1,0),(zn 46 8,0),(zp 47 (.idxS 1 45 46),96),(zp 48 (.load1 47),224)],zo 49 (.bin .add 44 48),zo 50 (.idxS 1 40 42),.one ⟨none,.store1 50 49,none⟩]
def c22k4:=kk 53 MO c22r4
def c22r5:List Seg:=[.grp [(zn 29 7,0),(zp 30 (.idxA 2 1 9 (ci 0)),0),(zp 31 (.load1 30),2),(zp 32 (.idxS 1 29 31),7),(zp 33 (.load1 32),15),(zn 34 1,0),(zn 35 8,0),(zp 36 (.idxS 1 34 35),96),(zp 37 (.load1 36),224)],zo 38 (.bin .sub 33 37),zo 39 (.idxS 1 29 31),.one ⟨none,.store1 39 38,none⟩]
def c22k5:=kk 53 MO c22r5
def c22s6:ICode:=(.seq c22k5 c22k4)
def c22r7:List Seg:=[zm 26 24,zo 27 (.idxS 2 22 24),zo 28 (.loadN 2 27),zo 9 (.box (.c (.agg [.int .i64 0,.int .i64 0]))),zm 8 26,.one ⟨none,.storeN 2 9 28,none⟩]
def c22k7:=kk 53 F5 c22r7
def c22s8:ICode:=(.seq (.block 1 (.seq c22k7 c22s6)) c22k3)
def c22s9:ICode:=(.seq (.cond (.t 25) .skip (.exit 0)) c22s8)
def c22r10:List Seg:=[zo 25 (.bin .lss 24 23)]
def c22k10:=kk 53 F5 c22r10
def c22l2:ICode:=(.seq c22k10 c22s9)
def c22s11:ICode:=(.block 0 (.loop c22l2))
def c22r12:List Seg:=[zo 21 (.fieldA 1 2),zo 22 (.load1 21),zo 23 (.len 0 22),zo 24 (.mv (ci 0))]
def c22k12:=kk 53 Eh c22r12
def c22s13:ICode:=(.seq (.seq c22k12 c22s11) c22s1)
def c22r14:List Seg:=[zo 18 (.fieldA 0 2),zo 19 (.load1 18),zo 20 (.make [.int .i64 0] 8 19 19),zm 7 20]
def c22k14:=kk 53 Bs c22r14
def c22s15:ICode:=(.seq c22k14 c22s13)
def c22r16:List Seg:=[zm 17 6,zo 4 (.mv (.c .nilslice)),zm 5 17]
def c22k16:=kk 53 [6] c22r16
def c22s17:ICode:=(.cond (.t 16) (.seq c22k16 .ret) .skip)
def c22r18:List Seg:=[zm 15 6,zo 16 (.bin .neq 15 (ci 0))]
def c22k18:=kk 53 Il c22r18
def c22s19:ICode:=(.seq c22k18 c22s17)
def c22r20:List Seg:=[zo 10 (.loadN 3 2),zm 11 1,zo 12 (.loadN 3 2),zo 13 (.bind 67 [12]),zo 14 (.call [] (.c (.func 66 [])) [10,11,13]),zm 6 14]
def c22k20:=kk 53 Bs c22r20
def c22s21:ICode:=(.seq (.seq c22k20 c22s19) c22s15)
def c22r22:List Seg:=[zo 2 (.box 0),zo 4 (.mv (.c .nilslice)),zo 5 (.mv (ci 0))]
def c22k22:=kk 53 Az c22r22
def c22b:ICode:=(.seq c22k22 c22s21)
def c22:IFn:=⟨53,[.t 4,.t 5],c22b⟩
def h22:List (Nat×Nat×List Nat):=[(0,(53,Az)),(1,(53,Bs)),(2,(53,Il)),(3,(53,[6])),(4,(53,Bs)),(5,(53,Eh)),(6,(53,F5)),(7,(53,F5)),(8,(53,MO)),(9,(53,MO)),(10,(53,F5)),(11,(53,[7]))]
def c23r0:List Seg:=[zo 31 (.loadN 3 7),.one ⟨none,.storeN 3 4 31,none⟩,zo 5 (.mv (ci 0))]
def c23k0:=kk 32 YL c23r0
def c23s1:ICode:=(.seq c23k0 .ret)
def c23r3:List Seg:=[zo 30 (.bin .add 22 (ci 1)),zm 22 30]
def c23k3:=kk 32 Gn c23r3
def c23r4:List Seg:=[zm 26 8,zm 27 9,zo 28 (.call [] (.c (.func 69 [])) [27]),zo 29 (.idxA 3 1 7 26),.one ⟨none,.store1 29 28,none⟩]
def c23k4:=kk 32 TD c23r4
def c23r5:List Seg:=[zm 24 22,zo 25 (.idxV 3 1 false 21 22),zm 8 24,zm 9 25]
def c23k5:=kk 32 Gn c23r5
def c23s6:ICode:=(.seq (.block 1 (.seq c23k5 c23k4)) c23k3)
def c23s7:ICode:=(.seq (.cond (.t 23) .skip (.exit 0)) c23s6)
def c23r8:List Seg:=[zo 23 (.bin .lss 22 (ci 3))]
def c23k8:=kk 32 Gn c23r8
def c23l2:ICode:=(.seq c23k8 c23s7)
def c23s9:ICode:=(.block 0 (.loop c23l2))
def c23r10:List Seg:=[zo 19 (.loadN 3 2),zm 20 1,zo 21 (.call [] (.c (.func 68 [])) [19,20]),zo 22 (.mv (ci 0))]
def c23k10:=kk 32 Aal c23r10
def c23s11:ICode:=(.seq (.seq c23k10 c23s9) c23s1)
def c23r12:List Seg:=[zo 7 (.box (.c (.agg [.nilslice,.nilslice,.nilslice])))]
def c23k12:=kk 32 QL c23r12
def c23s13:ICode:=(.seq c23k12 c23s11)
def c23r14:List Seg:=[zo 17 (.mkagg [.nilslice,.nilslice,.nilslice] []),zm 18 6,.one ⟨none,.storeN 3 4 17,none⟩,zm 5 18]
def c23k14:=kk 32 Yn c23r14
def c23s15:ICode:=(.cond (.t 16) (.seq c23k14 .ret) .skip)
def c23r16:List Seg:=[zm 15 6,zo 16 (.bin .neq 15 (ci 0))]
def c23k16:=kk 32 Abk c23r16
def c23s17:ICode:=(.seq c23k16 c23s15)
def c23r18:List Seg:=[zo 10 (.loadN 3 2),zm 11 1,zo 12 (.loadN 3 2),zo 13 (.bind 67 [12]),zo 14 (.call [] (.c (.func 66 [])) [10,11,13]),zm 6 14]
def c23k18:=kk 32 QL c23r18
def c23s19:ICode:=(.seq (.seq c23k18 c23s17) c23s13)
def c23r20:List Seg:=[zo 2 (.box 0),zo 4 (.box (.c (.agg [.nilslice,.nilslice,.nilslice]))),zo 5 (.mv (ci 0))]
def c23k20:=kk 32 Az c23r20
def c23b:ICode:=(.seq c23k20 c23s19)
def c23:IFn:=⟨32,[.cellN 4 3,.t 5],c23b⟩
def h23:List (Nat×Nat×List Nat):=[(0,(32,Az)),(1,(32,QL)),(2,(32,Abk)),(3,(32,Yn)),(4,(32,QL)),(5,(32,Aal)),(6,(32,Gn)),(7,(32,Gn)),(8,(32,TD)),(9,(32,Gn)),(10,(32,YL))]
def c24r0:List Seg:=[zo 15 (.loadN 3 2),zm 16 1,zo 17 (.call [] (.c (.func 70 [])) [15,16]),zo 18 (.call [] (.c (.func 69 [])) [17]),zm 4 18,zo 5 (.mv (ci 0))]
def c24k0:=kk 19 Bs c24r0
def c24s1:ICode:=(.seq c24k0 .ret)
def c24r2:List Seg:=[zm 14 6,zo 4 (.mv (.c .nilslice)),zm 5 14]
def c24k2:=kk 19 [6] c24r2
def c24s3:ICode:=(.cond (.t 13) (.seq c24k2 .ret) .skip)
def c24r4:List Seg:=[zm 12 6,zo 13 (.bin .neq 12 (ci 0))]
def c24k4:=kk 19 Il c24r4
def c24s5:ICode:=(.seq c24k4 c24s3)
def c24r6:List Seg:=[zo 7 (.loadN 3 2),zm 8 1,zo 9 (.loadN 3 2),zo 10 (.bind 67 [9]),zo 11 (.call [] (.c (.func 66 [])) [7,8,10]),zm 6 11]
def c24k6:=kk 19 Bs c24r6
def c24s7:ICode:=(.seq (.seq c24k6 c24s5) c24s1)
def c24r8:List Seg:=[zo 2 (.box 0),zo 4 (.mv (.c .nilslice)),zo 5 (.mv (ci 0))]
def c24k8:=kk 19 Az c24r8
def c24b:ICode:=(.seq c24k8 c24s7)
def c24:IFn:=⟨19,[.t 4,.t 5],c24b⟩
def h24:List (Nat×Nat×List Nat):=[(0,(19,Az)),(1,(19,Bs)),(2,(19,Il)),(3,(19,[6])),(4,(19,Bs))]
def c27r0:List Seg:=[zo 4 (.mv (.c (.bool true)))]
def c27k0:=kk 26 [] c27r0
def c27s1:ICode:=(.seq c27k0 .ret)
def c27r3:List Seg:=[zm 15 5,zo 16 (.bin .add 15 (ci 1)),zm 5 16]
def c27k3:=kk 26 Cw c27r3
def c27r4:List Seg:=[zo 4 (.mv (.c (.bool false)))]
def c27k4:=kk 26 [] c27r4
def c27s5:ICode:=(.cond (.t 25) (.seq c27k4 .ret) .skip)
def c27r6:List Seg:=[.grp [(zn 17 0,0),(zn 18 5,0),(zp 19 (.idxS 1 17 18),3),(zp 20 (.load1 19),7),(zn 21 1,0),(zn 22 5,0),(zp 23 (.idxS 1 21 22),48),(zp 24 (.load1 23),112)],zo 25 (.bin .neq 20 24)]
def c27k6:=kk 26 Cw c27r6
def c27s7:ICode:=(.seq (.block 1 (.seq c27k6 c27s5)) c27k3)
def c27s8:ICode:=(.cond (.t 14) .skip (.exit 0))
def c27r9:List Seg:=[zm 11 5,zm 12 0,zo 13 (.len 0 12),zo 14 (.bin .lss 11 13)]
def c27k9:=kk 26 Cw c27r9
def c27l2:ICode:=(.seq (.seq c27k9 c27s8) c27s7)
def c27s10:ICode:=(.block 0 (.loop c27l2))
def c27r11:List Seg:=[zo 5 (.mv (ci 0))]
def c27k11:=kk 26 Az c27r11
def c27s12:ICode:=(.seq (.seq c27k11 c27s10) c27s1)
def c27r13:List Seg:=[zo 4 (.mv (.c (.bool false)))]
def c27k13:=kk 26 [] c27r13
def c27s14:ICode:=(.cond (.t 10) (.seq c27k13 .ret) .skip)
def c27r15:List Seg:=[zm 6 0,zo 7 (.len 0 6),zm 8 1,zo 9 (.len 0 8),zo 10 (.bin .neq 7 9)]
def c27k15:=kk 26 Az c27r15
def c27s16:ICode:=(.seq (.seq c27k15 c27s14) c27s12)
def c27r17:List Seg:=[zo 4 (.mv (.c (.bool false)))]
def c27k17:=kk 26 Az c27r17
def c27b:ICode:=(.seq c27k17 c27s16)
def c27:IFn:=⟨26,[.t 4],c27b⟩
def h27:List (Nat×Nat×List Nat):=[(0,(26,Az)),(1,(26,Az)),(2,(26,[])),(3,(26,Az)),(4,(26,Cw)),(6,(26,Cw)),(7,(26,[])),(5,(26,Cw)),(8,(26,[]))]
def c28r0:List Seg:=[zo 4 (.mv (.c (.bool true)))]
def c28k0:=kk 26 [] c28r0
def c28s1:ICode:=(.seq c28k0 .ret)
def c28r3:List Seg:=[zm 15 5,zo 16 (.bin .add 15 (ci 1)),zm 5 16]
def c28k3:=kk 26 Cw c28r3
def c28r4:List Seg:=[zo 4 (.mv (.c (.bool false)))]
def c28k4:=kk 26 [] c28r4
def c28s5:ICode:=(.cond (.t 25) (.seq c28k4 .ret) .skip)
def c28r6:List Seg:=[.grp [(zn 17 0,0),(zn 18 5,0),(zp 19 (.idxS 2 17 18),3),(zp 20 (.loadN 2 19),7),(zn 21 1,0),(zn 22 5,0),(zp 23 (.idxS 2 21 22),48),(zp 24 (.loadN 2 23),112)],zo 25 (.eqv true (.ints 2) 20 24)]
def c28k6:=kk 26 Cw c28r6
def c28s7:ICode:=(.seq (.block 1 (.seq c28k6 c28s5)) c28k3)
def c28s8:ICode:=(.cond (.t 14) .skip (.exit 0))
def c28r9:List Seg:=[zm 11 5,zm 12 0,zo 13 (.len 0 12),zo 14 (.bin .lss 11 13)]
def c28k9:=kk 26 Cw c28r9
def c28l2:ICode:=(.seq (.seq c28k9 c28s8) c28s7)
def c28s10:ICode:=(.block 0 (.loop c28l2))
def c28r11:List Seg:=[zo 5 (.mv (ci 0))]
def c28k11:=kk 26 Az c28r11
def c28s12:ICode:=(.seq (.seq c28k11 c28s10) c28s1)
def c28r13:List Seg:=[zo 4 (.mv (.c (.bool false)))]
def c28k13:=kk 26 [] c28r13
def c28s14:ICode:=(.cond (.t 10) (.seq c28k13 .ret) .skip)
def c28r15:List Seg:=[zm 6 0,zo 7 (.len 0 6),zm 8 1,zo 9 (.len 0 8),zo 10 (.bin .neq 7 9)]
def c28k15:=kk 26 Az c28r15
def c28s16:ICode:=(.seq (.seq c28k15 c28s14) c28s12)
def c28r17:List Seg:=[zo 4 (.mv (.c (.bool false)))]
def c28k17:=kk 26 Az c28r17
def c28b:ICode:=(.seq c28k17 c28s16)
def c28:IFn:=⟨26,[.t 4],c28b⟩
def h28:List (Nat×Nat×List Nat):=[(0,(26,Az)),(1,(26,Az)),(2,(26,[])),(3,(26,Az)),(4,(26,Cw)),(6,(26,Cw)),(7,(26,[])),(5,(26,Cw)),(8,(26,[]))]
def c30r0:List Seg:=[zm 49 0,zo 50 (.len 0 49),zm 51 1,zo 52 (.bin .eql 50 51),zm 4 52]
def c30k0:=kk 53 Az c30r0
def c30s1:ICode:=(.seq c30k0 .ret)
def c30r3:List Seg:=[zm 13 6,zo 14 (.bin .add 13 (ci 1)),zm 6 14]
def c30k3:=kk 53 EC c30r3
def c30r4:List Seg:=[zo 4 (.mv (.c (.bool false)))]
def c30k4:=kk 53 [] c30r4
def c30s5:ICode:=(.cond (.t 48) (.seq c30k4 .ret) .skip)
def c30r6:List Seg:=[zm 25 7,zm 26 5,zo 27 (.un .neg 26),zo 28 (.bin .lss 25 27),zm 29 28,.one ⟨some 30,.mv 7,some (29,false)⟩,.one ⟨some 31,.mv 5,some (29,false)⟩,.one ⟨some 32,.bin .gtr 30 31,some (29,false)⟩,zo 33 (.pick 29 (.c (.bool true)) 32),zm 34 33,.one ⟨some 35,.mv 8,some (34,false)⟩,.one ⟨some 36,.bin .lss 35 (ci 1),some (34,false)⟩,zo 37 (.pick 34 (.c (.bool true)) 36),zm 38 37,.one ⟨some 39,.mv 8,some (38,false)⟩,.one ⟨some 40,.mv 5,some (38,false)⟩,.one ⟨some 41,.bin .gtr 39 40,some (38,false)⟩,zo 42 (.pick 38 (.c (.bool true)) 41),zm 43 42,.one ⟨some 44,.mv 7,some (43,false)⟩,.one ⟨some 45,.mv 8,some (43,false)⟩,.one ⟨some 46,.call [] (.c (.func 72 [])) [44,45],some (43,false)⟩,.one ⟨some 47,.bin .neq 46 (ci 1),some (43,false)⟩,zo 48 (.pick 43 (.c (.bool true)) 47)]
def c30k6:=kk 53 qq8 c30r6
def c30s7:ICode:=(.seq c30k6 c30s5)
def c30r8:List Seg:=[.grp [(zn 15 0,0),(zn 16 6,0),(zp 17 (.idxS 2 15 16),3),(zp 18 (.idxA 2 1 17 (ci 0)),7),(zp 19 (.load1 18),15),(zn 20 0,0),(zn 21 6,0),(zp 22 (.idxS 2 20 21),96),(zp 23 (.idxA 2 1 22 (ci 1)),224),(zp 24 (.load1 23),480),(zn 7 19,31)],zm 8 24]
def c30k8:=kk 53 EC c30r8
def c30s9:ICode:=(.seq (.block 1 (.seq c30k8 c30s7)) c30k3)
def c30s10:ICode:=(.cond (.t 12) .skip (.exit 0))
def c30r11:List Seg:=[zm 9 6,zm 10 0,zo 11 (.len 0 10),zo 12 (.bin .lss 9 11)]
def c30k11:=kk 53 EC c30r11
def c30l2:ICode:=(.seq (.seq c30k11 c30s10) c30s9)
def c30s12:ICode:=(.block 0 (.loop c30l2))
def c30r13:List Seg:=[zo 6 (.mv (ci 0))]
def c30k13:=kk 53 Cw c30r13
def c30s14:ICode:=(.seq (.seq c30k13 c30s12) c30s1)
def c30r15:List Seg:=[zo 5 (.mv (ci 1000000))]
def c30k15:=kk 53 Az c30r15
def c30s16:ICode:=(.seq c30k15 c30s14)
def c30r17:List Seg:=[zo 4 (.mv (.c (.bool false)))]
def c30k17:=kk 53 Az c30r17
def c30b:ICode:=(.seq c30k17 c30s16)
def c30:IFn:=⟨53,[.t 4],c30b⟩
def h30:List (Nat×Nat×List Nat):=[(0,(53,Az)),(1,(53,Az)),(2,(53,Cw)),(3,(53,EC)),(5,(53,EC)),(6,(53,qq8)),(7,(53,[])),(4,(53,EC)),(8,(53,Az))]
def c31r0:List Seg:=[zm 62 3,zm 2 62]
def c31k0:=kk 63 [3] c31r0
def c31s1:ICode:=(.seq c31k0 .ret)
def c31r3:List Seg:=[zm 24 5,zo 25 (.bin .add 24 (ci 1)),zm 5 25]
def c31k3:=kk 63 Ge c31r3
def c31r5:List Seg:=[zm 31 6,zo 32 (.bin .add 31 (ci 1)),zm 6 32]
def c31k5:=kk 63 F2 c31r5
def c31r6:List Seg:=[zm 58 3,zm 59 8,zm 60 9,zo 61 (.idxS 1 58 59),.one ⟨none,.store1 61 60,none⟩]
def c31k6:=kk 63 Vq c31r6
def c31r7:List Seg:=[zm 54 3,zm 55 7,zm 56 9,zo 57 (.idxS 1 54 55),.one ⟨none,.store1 57 56,none⟩]
def c31k7:=kk 63 Vi c31r7
def c31s8:ICode:=(.seq c31k7 c31k6)
def c31r9:List Seg:=[.grp [(zn 45 3,0),(zn 46 7,0),(zp 47 (.idxS 1 45 46),3),(zp 48 (.load1 47),7),(zn 49 3,0),(zn 50 8,0),(zp 51 (.idxS 1 49 50),48),(zp 52 (.load1 51),112)],zo 53 (.mn [48,52]),zm 9 53]
def c31k9:=kk 63 Un c31r9
def c31s10:ICode:=(.seq c31k9 c31s8)
def c31r11:List Seg:=[.grp [(zp 33 (.fieldA 1 1),0),(zp 34 (.load1 33),1),(zn 35 6,0),(zp 36 (.idxS 2 34 35),7),(zp 37 (.idxA 2 1 36 (ci 0)),15),(zp 38 (.load1 37),31),(zp 39 (.fieldA 1 1),0),(zp 40 (.load1 39),64),(zn 41 6,0),(zp 42 (.idxS 2 40 41),448),(zp 43 (.idxA 2 1 42 (ci 1)),960),(zp 44 (.load1 43),1984),(zn 7 38,63)],zm 8 44]
def c31k11:=kk 63 F2 c31r11
def c31s12:ICode:=(.seq (.block 5 (.seq c31k11 c31s10)) c31k5)
def c31s13:ICode:=(.cond (.t 30) .skip (.exit 4))
def c31r14:List Seg:=[zm 26 6,zo 27 (.fieldA 1 1),zo 28 (.load1 27),zo 29 (.len 0 28),zo 30 (.bin .lss 26 29)]
def c31k14:=kk 63 F2 c31r14
def c31l4:ICode:=(.seq (.seq c31k14 c31s13) c31s12)
def c31s15:ICode:=(.block 4 (.loop c31l4))
def c31r16:List Seg:=[zo 6 (.mv (ci 0))]
def c31k16:=kk 63 Ge c31r16
def c31s17:ICode:=(.seq (.block 3 (.seq c31k16 c31s15)) c31k3)
def c31s18:ICode:=(.cond (.t 23) .skip (.exit 2))
def c31r19:List Seg:=[zm 20 5,zo 21 (.fieldA 0 1),zo 22 (.load1 21),zo 23 (.bin .lss 20 22)]
def c31k19:=kk 63 Ge c31r19
def c31l2:ICode:=(.seq (.seq c31k19 c31s18) c31s17)
def c31s20:ICode:=(.block 2 (.loop c31l2))
def c31r21:List Seg:=[zo 5 (.mv (ci 0))]
def c31k21:=kk 63 Q8 c31r21
def c31s22:ICode:=(.seq (.seq c31k21 c31s20) c31s1)
def c31r24:List Seg:=[zm 14 4,zo 15 (.bin .add 14 (ci 1)),zm 4 15]
def c31k24:=kk 63 F6 c31r24
def c31r25:List Seg:=[zm 16 3,zm 17 4,zo 18 (.mkslice 1 [.int .i64 0] [(0,1,17)]),zo 19 (.app 1 8 16 18),zm 3 19]
def c31k25:=kk 63 F6 c31r25
def c31s26:ICode:=(.seq (.block 1 c31k25) c31k24)
def c31s27:ICode:=(.cond (.t 13) .skip (.exit 0))
def c31r28:List Seg:=[zm 10 4,zo 11 (.fieldA 0 1),zo 12 (.load1 11),zo 13 (.bin .lss 10 12)]
def c31k28:=kk 63 F6 c31r28
def c31l23:ICode:=(.seq (.seq c31k28 c31s27) c31s26)
def c31s29:ICode:=(.block 0 (.loop c31l23))
def c31r30:List Seg:=[zo 4 (.mv (ci 0))]
def c31k30:=kk 63 Q8 c31r30
def c31s31:ICode:=(.seq (.seq c31k30 c31s29) c31s22)
def c31r32:List Seg:=[zo 3 (.mv (.c .nilslice))]
def c31k32:=kk 63 [1] c31r32
def c31s33:ICode:=(.seq c31k32 c31s31)
def c31r34:List Seg:=[zo 1 (.box 0),zo 2 (.mv (.c .nilslice))]
def c31k34:=kk 63 [0] c31r34
def c31b:ICode:=(.seq c31k34 c31s33)
def c31:IFn:=⟨63,[.t 2],c31b⟩
def h31:List (Nat×Nat×List Nat):=[(0,(63,[0])),(1,(63,[1])),(2,(63,Q8)),(3,(63,F6)),(5,(63,F6)),(4,(63,F6)),(6,(63,Q8)),(7,(63,Ge)),(9,(63,Ge)),(10,(63,F2)),(12,(63,F2)),(13,(63,Un)),(14,(63,Vi)),(15,(63,Vq)),(11,(63,F2)),(8,(63,Ge)),(16,(63,[3]))]
def c32r0:List Seg:=[.grp [(zp 11 (.idxA 2 1 2 (ci 0)),0),(zp 12 (.load1 11),1),(zp 13 (.idxA 2 1 3 (ci 1)),0),(zp 14 (.load1 13),4),(zn 15 5,0),(zp 16 (.bin .quo 14 15),28),(zp 17 (.bin .mul 12 16),63),(zp 18 (.idxA 2 1 3 (ci 0)),0),(zp 19 (.load1 18),128),(zp 20 (.idxA 2 1 2 (ci 1)),0),(zp 21 (.load1 20),512),(zn 22 5,0),(zp 23 (.bin .quo 21 22),3584),(zp 24 (.bin .mul 19 23),8064),(zp 25 (.bin .add 17 24),16383),(zp 26 (.idxA 2 1 2 (ci 1)),0),(zp 27 (.load1 26),32768),(zn 28 5,0),(zp 29 (.bin .quo 27 28),229376),(zp 30 (.idxA 2 1 3 (ci 1)),0),(zp 31 (.load1 30),524288),(zp 32 (.bin .mul 29 31),2064384)],zo 33 (.call [] (.c (.func 73 [])) [25,32]),.one ⟨none,.storeN 2 4 33,none⟩]
def c32k0:=kk 34 EM c32r0
def c32s1:ICode:=(.seq c32k0 .ret)
def c32r2:List Seg:=[zo 6 (.idxA 2 1 2 (ci 1)),zo 7 (.load1 6),zo 8 (.idxA 2 1 3 (ci 1)),zo 9 (.load1 8),zo 10 (.call [] (.c (.func 72 [])) [7,9]),zm 5 10]
def c32k2:=kk 34 Bm c32r2
def c32s3:ICode:=(.seq c32k2 c32s1)
def c32r4:List Seg:=[zo 2 (.box 0),zo 3 (.box 1),zo 4 (.box (.c (.agg [.int .i64 0,.int .i64 0])))]
def c32k4:=kk 34 Az c32r4
def c32b:ICode:=(.seq c32k4 c32s3)
def c32:IFn:=⟨34,[.cellN 4 2],c32b⟩
def h32:List (Nat×Nat×List Nat):=[(0,(34,Az)),(1,(34,Bm)),(2,(34,EM))]
def c33r0:List Seg:=[zm 40 7,zm 4 40,zo 5 (.mv (ci 0))]
def c33k0:=kk 41 [7] c33r0
def c33s1:ICode:=(.seq c33k0 .ret)
def c33r3:List Seg:=[zo 39 (.bin .add 21 (ci 1)),zm 21 39]
def c33k3:=kk 41 F8 c33r3
def c33r4:List Seg:=[.grp [(zn 25 7,0),(zn 26 1,0),(zp 27 (.idxA 2 1 9 (ci 1)),0),(zp 28 (.load1 27),4),(zp 29 (.idxS 1 26 28),14),(zp 30 (.load1 29),30),(zn 31 1,0),(zp 32 (.idxA 2 1 9 (ci 0)),0),(zp 33 (.load1 32),128),(zp 34 (.idxS 1 31 33),448),(zp 35 (.load1 34),960),(zp 36 (.bin .sub 30 35),2046),(zp 37 (.mkslice 1 [.int .i64 0] [(0,1,36)]),4094)],zo 38 (.app 1 8 25 37),zm 7 38]
def c33k4:=kk 41 Uv c33r4
def c33r5:List Seg:=[zo 23 (.idxS 2 19 21),zo 24 (.loadN 2 23),zo 9 (.box (.c (.agg [.int .i64 0,.int .i64 0]))),.one ⟨none,.storeN 2 9 24,none⟩]
def c33k5:=kk 41 F8 c33r5
def c33s6:ICode:=(.seq (.block 1 (.seq c33k5 c33k4)) c33k3)
def c33s7:ICode:=(.seq (.cond (.t 22) .skip (.exit 0)) c33s6)
def c33r8:List Seg:=[zo 22 (.bin .lss 21 20)]
def c33k8:=kk 41 F8 c33r8
def c33l2:ICode:=(.seq c33k8 c33s7)
def c33s9:ICode:=(.block 0 (.loop c33l2))
def c33r10:List Seg:=[zo 18 (.fieldA 1 2),zo 19 (.load1 18),zo 20 (.len 0 19),zo 21 (.mv (ci 0))]
def c33k10:=kk 41 Eh c33r10
def c33s11:ICode:=(.seq (.seq c33k10 c33s9) c33s1)
def c33r12:List Seg:=[zo 7 (.mv (.c .nilslice))]
def c33k12:=kk 41 Bs c33r12
def c33s13:ICode:=(.seq c33k12 c33s11)
def c33r14:List Seg:=[zm 17 6,zo 4 (.mv (.c .nilslice)),zm 5 17]
def c33k14:=kk 41 [6] c33r14
def c33s15:ICode:=(.cond (.t 16) (.seq c33k14 .ret) .skip)
def c33r16:List Seg:=[zm 15 6,zo 16 (.bin .neq 15 (ci 0))]
def c33k16:=kk 41 Il c33r16
def c33s17:ICode:=(.seq c33k16 c33s15)
def c33r18:List Seg:=[zo 10 (.loadN 3 2),zm 11 1,zo 12 (.loadN 3 2),zo 13 (.bind 74 [12]),zo 14 (.call [] (.c (.func 66 [])) [10,11,13]),zm 6 14]
def c33k18:=kk 41 Bs c33r18
def c33s19:ICode:=(.seq (.seq c33k18 c33s17) c33s13)
def c33r20:List Seg:=[zo 2 (.box 0),zo 4 (.mv (.c .nilslice)),zo 5 (.mv (ci 0))]
def c33k20:=kk 41 Az c33r20
def c33b:ICode:=(.seq c33k20 c33s19)
def c33:IFn:=⟨41,[.t 4,.t 5],c33b⟩
def h33:List (Nat×Nat×List Nat):=[(0,(41,Az)),(1,(41,Bs)),(2,(41,Il)),(3,(41,[6])),(4,(41,Bs)),(5,(41,Eh)),(6,(41,F8)),(7,(41,F8)),(8,(41,Uv)),(9,(41,F8)),(10,(41,[7]))]
def c34r0:List Seg:=[zo 5 (.loadN 2 2),zo 6 (.idxA 2 1 3 (ci 0)),zo 7 (.load1 6),zo 8 (.un .neg 7),zo 9 (.idxA 2 1 3 (ci 1)),zo 10 (.load1 9),zo 11 (.mkagg [.int .i64 0,.int .i64 0] [(0,1,8),(1,1,10)]),zo 12 (.call [] (.c (.func 32 [])) [5,11]),.one ⟨none,.storeN 2 4 12,none⟩]
def c34k0:=kk 13 Bm c34r0
def c34s1:ICode:=(.seq c34k0 .ret)
def c34r2:List Seg:=[zo 2 (.box 0),zo 3 (.box 1),zo 4 (.box (.c (.agg [.int .i64 0,.int .i64 0])))]
def c34k2:=kk 13 Az c34r2
def c34b:ICode:=(.seq c34k2 c34s1)
def c34:IFn:=⟨13,[.cellN 4 2],c34b⟩
def h34:List (Nat×Nat×List Nat):=[(0,(13,Az)),(1,(13,Bm))]
def c35r0:List Seg:=[zo 5 (.idxA 2 1 2 (ci 0)),zo 6 (.load1 5),zo 7 (.idxA 2 1 3 (ci 0)),zo 8 (.load1 7),zo 9 (.bin .mul 6 8),zo 10 (.idxA 2 1 2 (ci 1)),zo 11 (.load1 10),zo 12 (.idxA 2 1 3 (ci 1)),zo 13 (.load1 12),zo 14 (.bin .mul 11 13),zo 15 (.call [] (.c (.func 73 [])) [9,14]),.one ⟨none,.storeN 2 4 15,none⟩]
def c35k0:=kk 16 Bm c35r0
def c35s1:ICode:=(.seq c35k0 .ret)
def c35r2:List Seg:=[zo 2 (.box 0),zo 3 (.box 1),zo 4 (.box (.c (.agg [.int .i64 0,.int .i64 0])))]
def c35k2:=kk 16 Az c35r2
def c35b:ICode:=(.seq c35k2 c35s1)
def c35:IFn:=⟨16,[.cellN 4 2],c35b⟩
def h35:List (Nat×Nat×List Nat):=[(0,(16,Az)),(1,(16,Bm))]
def c40r0:List Seg:=[zm 44 7,zm 4 44,zo 5 (.mv (ci 0))]
def c40k0:=kk 45 [7] c40r0
def c40s1:ICode:=(.seq c40k0 .ret)
def c40r3:List Seg:=[zo 43 (.bin .add 23 (ci 1)),zm 23 43]
def c40k3:=kk 45 F1 c40r3
def c40r4:List Seg:=[zm 39 7,zo 40 (.load1 9),zo 41 (.mkslice 1 [.int .i64 0] [(0,1,40)]),zo 42 (.app 1 8 39 41),zm 7 42]
def c40k4:=kk 45 Vw c40r4
def c40r6:List Seg:=[.grp [(zp 31 (.load1 9),0),(zn 32 11,0),(zp 33 (.load1 3),0),(zn 34 10,0),(zp 35 (.idxS 1 33 34),12),(zp 36 (.load1 35),28),(zp 37 (.bin .mul 32 36),62)],zo 38 (.bin .add 31 37),.one ⟨none,.store1 9 38,none⟩]
def c40k6:=kk 45 T2 c40r6
def c40r7:List Seg:=[zm 11 30]
def c40k7:=kk 45 T7 c40r7
def c40r8:List Seg:=[zm 10 29]
def c40k8:=kk 45 Vh c40r8
def c40f5a:ICode:=(.seq c40k8 c40k7)
def c40f5b:ICode:=(.block 3 c40k6)
def c40s9:ICode:=(.block 2 (.rf (.t 28) [29,30] c40f5a c40f5b))
def c40r10:List Seg:=[zo 26 (.loadN 3 2),zm 27 8,zo 28 (.call [] (.c (.func 62 [])) [26,27])]
def c40k10:=kk 45 TR c40r10
def c40s11:ICode:=(.seq (.seq c40k10 c40s9) c40k4)
def c40r12:List Seg:=[zo 9 (.box (ci 0)),.one ⟨none,.store1 9 (ci 0),none⟩]
def c40k12:=kk 45 T1 c40r12
def c40s13:ICode:=(.seq c40k12 c40s11)
def c40r14:List Seg:=[zm 25 23,zm 8 25]
def c40k14:=kk 45 F1 c40r14
def c40s15:ICode:=(.seq (.block 1 (.seq c40k14 c40s13)) c40k3)
def c40s16:ICode:=(.seq (.cond (.t 24) .skip (.exit 0)) c40s15)
def c40r17:List Seg:=[zo 24 (.bin .lss 23 22)]
def c40k17:=kk 45 F1 c40r17
def c40l2:ICode:=(.seq c40k17 c40s16)
def c40s18:ICode:=(.block 0 (.loop c40l2))
def c40r19:List Seg:=[zo 20 (.fieldA 2 2),zo 21 (.load1 20),zo 22 (.len 0 21),zo 23 (.mv (ci 0))]
def c40k19:=kk 45 Wc c40r19
def c40s20:ICode:=(.seq (.seq c40k19 c40s18) c40s1)
def c40r21:List Seg:=[zo 7 (.mv (.c .nilslice))]
def c40k21:=kk 45 EM c40r21
def c40s22:ICode:=(.seq c40k21 c40s20)
def c40r23:List Seg:=[zm 19 6,zo 4 (.mv (.c .nilslice)),zm 5 19]
def c40k23:=kk 45 [6] c40r23
def c40s24:ICode:=(.cond (.t 18) (.seq c40k23 .ret) .skip)
def c40r25:List Seg:=[zm 17 6,zo 18 (.bin .neq 17 (ci 0))]
def c40k25:=kk 45 TS c40r25
def c40s26:ICode:=(.seq c40k25 c40s24)
def c40r27:List Seg:=[zo 12 (.loadN 3 2),zo 13 (.load1 3),zo 14 (.loadN 3 2),zo 15 (.bind 67 [14]),zo 16 (.call [] (.c (.func 66 [])) [12,13,15]),zm 6 16]
def c40k27:=kk 45 EM c40r27
def c40s28:ICode:=(.seq (.seq c40k27 c40s26) c40s22)
def c40r29:List Seg:=[zo 2 (.box 0),zo 3 (.box 1),zo 4 (.mv (.c .nilslice)),zo 5 (.mv (ci 0))]
def c40k29:=kk 45 Az c40r29
def c40b:ICode:=(.seq c40k29 c40s28)
def c40:IFn:=⟨45,[.t 4,.t 5],c40b⟩
def h40:List (Nat×Nat×List Nat):=[(0,(45,Az)),(1,(45,EM)),(2,(45,TS)),(3,(45,[6])),(4,(45,EM)),(5,(45,Wc)),(6,(45,F1)),(7,(45,F1)),(8,(45,T1)),(9,(45,TR)),(10,(45,Vh)),(11,(45,T7)),(12,(45,T2)),(13,(45,Vw)),(14,(45,F1)),(15,(45,[7]))]
def c41r0:List Seg:=[.grp [(zn 51 8,0),(zp 52 (.nilck 51),1),(zp 53 (.fieldA 6 52),3),(zp 54 (.fieldA 0 2),0),(zp 55 (.load1 54),8)],zo 56 (.sliceA 6 1 53 none (some 55) none),zo 57 (.call [] (.c (.func 79 [])) [56]),zm 4 57,zo 5 (.mv (.c (.bool true))),zo 6 (.mv (ci 0))]
def c41k0:=kk 58 YR c41r0
def c41s1:ICode:=(.seq c41k0 .ret)
def c41r3:List Seg:=[zo 50 (.bin .add 25 (ci 1)),zm 25 50]
def c41k3:=kk 58 MI c41r3
def c41r4:List Seg:=[zo 4 (.mv (.c .nilslice)),zo 5 (.mv (.c (.bool false))),zo 6 (.mv (ci 0))]
def c41k4:=kk 58 [] c41r4
def c41s5:ICode:=(.cond (.t 49) (.seq c41k4 .ret) .skip)
def c41r6:List Seg:=[.grp [(zn 30 8,0),(zp 31 (.idxA 2 1 10 (ci 1)),0),(zp 32 (.load1 31),2),(zp 33 (.nilck 30),1),(zp 34 (.fieldA 6 33),9),(zp 35 (.idxA 6 1 34 32),31),(zp 36 (.load1 35),63),(zn 37 8,0),(zp 38 (.idxA 2 1 10 (ci 0)),0),(zp 39 (.load1 38),256),(zp 40 (.nilck 37),128),(zp 41 (.fieldA 6 40),1152),(zp 42 (.idxA 6 1 41 39),3968),(zp 43 (.load1 42),8064),(zp 44 (.bin .sub 36 43),16383),(zn 45 1,0),(zn 46 9,0),(zp 47 (.idxS 1 45 46),98304),(zp 48 (.load1 47),229376)],zo 49 (.bin .neq 44 48)]
def c41k6:=kk 58 YS c41r6
def c41s7:ICode:=(.seq c41k6 c41s5)
def c41r8:List Seg:=[zm 27 25,zo 28 (.idxS 2 23 25),zo 29 (.loadN 2 28),zo 10 (.box (.c (.agg [.int .i64 0,.int .i64 0]))),zm 9 27,.one ⟨none,.storeN 2 10 29,none⟩]
def c41k8:=kk 58 MI c41r8
def c41s9:ICode:=(.seq (.block 1 (.seq c41k8 c41s7)) c41k3)
def c41s10:ICode:=(.seq (.cond (.t 26) .skip (.exit 0)) c41s9)
def c41r11:List Seg:=[zo 26 (.bin .lss 25 24)]
def c41k11:=kk 58 MI c41r11
def c41l2:ICode:=(.seq c41k11 c41s10)
def c41s12:ICode:=(.block 0 (.loop c41l2))
def c41r13:List Seg:=[zo 22 (.fieldA 1 2),zo 23 (.load1 22),zo 24 (.len 0 23),zo 25 (.mv (ci 0))]
def c41k13:=kk 58 Xn c41r13
def c41s14:ICode:=(.seq (.seq c41k13 c41s12) c41s1)
def c41r15:List Seg:=[zo 19 (.loadN 3 2),zm 20 1,zo 21 (.call [] (.c (.func 78 [])) [19,20]),zm 8 21]
def c41k15:=kk 58 Bs c41r15
def c41s16:ICode:=(.seq c41k15 c41s14)
def c41r17:List Seg:=[zm 18 7,zo 4 (.mv (.c .nilslice)),zo 5 (.mv (.c (.bool false))),zm 6 18]
def c41k17:=kk 58 [7] c41r17
def c41s18:ICode:=(.cond (.t 17) (.seq c41k17 .ret) .skip)
def c41r19:List Seg:=[zm 16 7,zo 17 (.bin .neq 16 (ci 0))]
def c41k19:=kk 58 Eh c41r19
def c41s20:ICode:=(.seq c41k19 c41s18)
def c41r21:List Seg:=[zo 11 (.loadN 3 2),zm 12 1,zo 13 (.loadN 3 2),zo 14 (.bind 67 [13]),zo 15 (.call [] (.c (.func 66 [])) [11,12,14]),zm 7 15]
def c41k21:=kk 58 Bs c41r21
def c41s22:ICode:=(.seq (.seq c41k21 c41s20) c41s16)
def c41r23:List Seg:=[zo 2 (.box 0),zo 4 (.mv (.c .nilslice)),zo 5 (.mv (.c (.bool false))),zo 6 (.mv (ci 0))]
def c41k23:=kk 58 Az c41r23
def c41b:ICode:=(.seq c41k23 c41s22)
def c41:IFn:=⟨58,[.t 4,.t 5,.t 6],c41b⟩
def h41:List (Nat×Nat×List Nat):=[(0,(58,Az)),(1,(58,Bs)),(2,(58,Eh)),(3,(58,[7])),(4,(58,Bs)),(5,(58,Xn)),(6,(58,MI)),(7,(58,MI)),(8,(58,YS)),(9,(58,[])),(10,(58,MI)),(11,(58,YR))]
def c50r0:List Seg:=[.grp [(zp 10 (.loadN 3 1),0),(zp 11 (.fieldA 1 1),0),(zp 12 (.load1 11),2),(zp 13 (.len 0 12),6),(zp 14 (.make [.int .i64 0] 8 13 13),14)],zo 15 (.call [] (.c (.func 78 [])) [10,14]),zo 16 (.nilck 15),zo 17 (.fieldA 12 16),zo 18 (.load1 17),zm 2 18,zo 3 (.mv (ci 0))]
def c50k0:=kk 19 [1] c50r0
def c50s1:ICode:=(.seq c50k0 .ret)
def c50r2:List Seg:=[zm 9 4,zo 2 (.mv (ci 0)),zm 3 9]
def c50k2:=kk 19 [4] c50r2
def c50s3:ICode:=(.cond (.t 8) (.seq c50k2 .ret) .skip)
def c50r4:List Seg:=[zm 7 4,zo 8 (.bin .neq 7 (ci 0))]
def c50k4:=kk 19 Xa c50r4
def c50s5:ICode:=(.seq c50k4 c50s3)
def c50r6:List Seg:=[zo 5 (.loadN 3 1),zo 6 (.call [] (.c (.func 59 [])) [5]),zm 4 6]
def c50k6:=kk 19 [1] c50r6
def c50s7:ICode:=(.seq (.seq c50k6 c50s5) c50s1)
def c50r8:List Seg:=[zo 1 (.box 0),zo 2 (.mv (ci 0)),zo 3 (.mv (ci 0))]
def c50k8:=kk 19 [0] c50r8
def c50b:ICode:=(.seq c50k8 c50s7)
def c50:IFn:=⟨19,[.t 2,.t 3],c50b⟩
def h50:List (Nat×Nat×List Nat):=[(0,(19,[0])),(1,(19,[1])),(2,(19,Xa)),(3,(19,[4])),(4,(19,[1]))]
def c59r0:List Seg:=[zo 2 (.mv (ci 0))]
def c59k0:=kk 133 [] c59r0
def c59s1:ICode:=(.seq c59k0 .ret)
def c59r3:List Seg:=[zo 132 (.bin .add 73 (ci 1)),zm 73 132]
def c59k3:=kk 133 F7 c59r3
def c59r5:List Seg:=[zo 131 (.bin .add 122 (ci 1)),zm 122 131]
def c59k5:=kk 133 Gu c59r5
def c59r6:List Seg:=[zo 2 (.mv (ci 30))]
def c59k6:=kk 133 [] c59r6
def c59s7:ICode:=(.cond (.t 130) (.seq c59k6 .ret) .skip)
def c59r8:List Seg:=[zo 126 (.fieldA 1 1),zo 127 (.load1 126),zo 128 (.loadN 2 8),zo 129 (.call [] (.c (.func 92 [])) [127,128]),zo 130 (.un .not 129)]
def c59k8:=kk 133 TC c59r8
def c59s9:ICode:=(.seq c59k8 c59s7)
def c59r10:List Seg:=[zo 124 (.idxS 2 120 122),zo 125 (.loadN 2 124),zo 8 (.box (.c (.agg [.int .i64 0,.int .i64 0]))),.one ⟨none,.storeN 2 8 125,none⟩]
def c59k10:=kk 133 Gu c59r10
def c59s11:ICode:=(.seq (.block 5 (.seq c59k10 c59s9)) c59k5)
def c59s12:ICode:=(.seq (.cond (.t 123) .skip (.exit 4)) c59s11)
def c59r13:List Seg:=[zo 123 (.bin .lss 122 121)]
def c59k13:=kk 133 Gu c59r13
def c59l4:ICode:=(.seq c59k13 c59s12)
def c59s14:ICode:=(.block 4 (.loop c59l4))
def c59r15:List Seg:=[zo 105 (.idxA 3 1 6 (ci 0)),zo 106 (.load1 105),zo 107 (.idxA 3 1 6 (ci 1)),zo 108 (.load1 107),zo 109 (.mkagg [.int .i64 0,.int .i64 0] [(0,1,106),(1,1,108)]),zo 110 (.idxA 3 1 6 (ci 0)),zo 111 (.load1 110),zo 112 (.idxA 3 1 6 (ci 2)),zo 113 (.load1 112),zo 114 (.mkagg [.int .i64 0,.int .i64 0] [(0,1,111),(1,1,113)]),zo 115 (.idxA 3 1 6 (ci 1)),zo 116 (.load1 115),zo 117 (.idxA 3 1 6 (ci 2)),zo 118 (.load1 117),zo 119 (.mkagg [.int .i64 0,.int .i64 0] [(0,1,116),(1,1,118)]),zo 120 (.mkslice 3 [.int .i64 0,.int .i64 0,.int .i64 0,.int .i64 0,.int .i64 0,.int .i64 0] [(0,2,109),(2,2,114),(4,2,119)]),zo 121 (.len 0 120),zo 122 (.mv (ci 0))]
def c59k15:=kk 133 R8 c59r15
def c59s16:ICode:=(.seq c59k15 c59s14)
def c59r17:List Seg:=[zo 2 (.mv (ci 30))]
def c59k17:=kk 133 [] c59r17
def c59s18:ICode:=(.cond (.t 104) (.seq c59k17 .ret) .skip)
def c59r19:List Seg:=[.grp [(zp 78 (.idxA 3 1 6 (ci 0)),0),(zp 79 (.load1 78),1),(zp 80 (.idxA 3 1 6 (ci 1)),0),(zp 81 (.load1 80),4)],zo 82 (.bin .geq 79 81),zm 83 82,.grp [(⟨some 84,.idxA 3 1 6 (ci 1),some (83,false)⟩,0),(⟨some 85,.load1 84,some (83,false)⟩,1),(⟨some 86,.idxA 3 1 6 (ci 2),some (83,false)⟩,0),(⟨some 87,.load1 86,some (83,false)⟩,4)],.one ⟨some 88,.bin .geq 85 87,some (83,false)⟩,zo 89 (.pick 83 (.c (.bool true)) 88),zm 90 89,.one ⟨some 91,.mv 5,some (90,false)⟩,.one ⟨some 92,.bin .gtr 91 (ci 0),some (90,false)⟩,.one ⟨some 93,.mv 92,some (90,false)⟩,.grp [(⟨some 94,.fieldA 2 1,some (93,true)⟩,0),(⟨some 95,.load1 94,some (93,true)⟩,1),(⟨some 96,.mv 5,some (93,true)⟩,0),(⟨some 97,.bin .sub 96 (ci 1),some (93,true)⟩,4),(⟨some 98,.idxS 3 95 97,some (93,true)⟩,15),(⟨some 99,.sliceA 3 1 98 none none none,some (93,true)⟩,31),(⟨some 100,.sliceA 3 1 6 none none none,some (93,true)⟩,0)],.one ⟨some 101,.call [] (.c (.func 91 [])) [99,100],some (93,true)⟩,.one ⟨some 102,.bin .geq 101 (ci 0),some (93,true)⟩,.one ⟨some 103,.pick 93 102 (.c (.bool false)),some (90,false)⟩,zo 104 (.pick 90 (.c (.bool true)) 103)]
def c59k19:=kk 133 VK c59r19
def c59s20:ICode:=(.seq (.seq c59k19 c59s18) c59s16)
def c59r21:List Seg:=[zm 75 73,zo 76 (.idxS 3 71 73),zo 77 (.loadN 3 76),zo 6 (.box (.c (.agg [.int .i64 0,.int .i64 0,.int .i64 0]))),zm 5 75,.one ⟨none,.storeN 3 6 77,none⟩]
def c59k21:=kk 133 F7 c59r21
def c59s22:ICode:=(.seq (.block 3 (.seq c59k21 c59s20)) c59k3)
def c59s23:ICode:=(.seq (.cond (.t 74) .skip (.exit 2)) c59s22)
def c59r24:List Seg:=[zo 74 (.bin .lss 73 72)]
def c59k24:=kk 133 F7 c59r24
def c59l2:ICode:=(.seq c59k24 c59s23)
def c59s25:ICode:=(.block 2 (.loop c59l2))
def c59r26:List Seg:=[zo 70 (.fieldA 2 1),zo 71 (.load1 70),zo 72 (.len 0 71),zo 73 (.mv (ci 0))]
def c59k26:=kk 133 [1] c59r26
def c59s27:ICode:=(.seq (.seq c59k26 c59s25) c59s1)
def c59r29:List Seg:=[zo 69 (.bin .add 32 (ci 1)),zm 32 69]
def c59k29:=kk 133 Gd c59r29
def c59r30:List Seg:=[zo 2 (.mv (ci 30))]
def c59k30:=kk 133 [] c59r30
def c59s31:ICode:=(.cond (.t 68) (.seq c59k30 .ret) .skip)
def c59r32:List Seg:=[zo 37 (.idxA 2 1 4 (ci 0)),zo 38 (.load1 37),zo 39 (.bin .lss 38 (ci 0)),zm 40 39,.grp [(⟨some 41,.idxA 2 1 4 (ci 0),some (40,false)⟩,0),(⟨some 42,.load1 41,some (40,false)⟩,1),(⟨some 43,.idxA 2 1 4 (ci 1),some (40,false)⟩,0),(⟨some 44,.load1 43,some (40,false)⟩,4)],.one ⟨some 45,.bin .geq 42 44,some (40,false)⟩,zo 46 (.pick 40 (.c (.bool true)) 45),zm 47 46,.grp [(⟨some 48,.idxA 2 1 4 (ci 1),some (47,false)⟩,0),(⟨some 49,.load1 48,some (47,false)⟩,1),(⟨some 50,.fieldA 0 1,some (47,false)⟩,0),(⟨some 51,.load1 50,some (47,false)⟩,4)],.one ⟨some 52,.bin .geq 49 51,some (47,false)⟩,zo 53 (.pick 47 (.c (.bool true)) 52),zm 54 53,.one ⟨some 55,.mv 3,some (54,false)⟩,.one ⟨some 56,.bin .gtr 55 (ci 0),some (54,false)⟩,.one ⟨some 57,.mv 56,some (54,false)⟩,.grp [(⟨some 58,.fieldA 1 1,some (57,true)⟩,0),(⟨some 59,.load1 58,some (57,true)⟩,1),(⟨some 60,.mv 3,some (57,true)⟩,0),(⟨some 61,.bin .sub 60 (ci 1),some (57,true)⟩,4),(⟨some 62,.idxS 2 59 61,some (57,true)⟩,15),(⟨some 63,.sliceA 2 1 62 none none none,some (57,true)⟩,31),(⟨some 64,.sliceA 2 1 4 none none none,some (57,true)⟩,0)],.one ⟨some 65,.call [] (.c (.func 91 [])) [63,64],some (57,true)⟩,.one ⟨some 66,.bin .geq 65 (ci 0),some (57,true)⟩,.one ⟨some 67,.pick 57 66 (.c (.bool false)),some (54,false)⟩,zo 68 (.pick 54 (.c (.bool true)) 67)]
def c59k32:=kk 133 U7 c59r32
def c59s33:ICode:=(.seq c59k32 c59s31)
def c59r34:List Seg:=[zm 34 32,zo 35 (.idxS 2 30 32),zo 36 (.loadN 2 35),zo 4 (.box (.c (.agg [.int .i64 0,.int .i64 0]))),zm 3 34,.one ⟨none,.storeN 2 4 36,none⟩]
def c59k34:=kk 133 Gd c59r34
def c59s35:ICode:=(.seq (.block 1 (.seq c59k34 c59s33)) c59k29)
def c59s36:ICode:=(.seq (.cond (.t 33) .skip (.exit 0)) c59s35)
def c59r37:List Seg:=[zo 33 (.bin .lss 32 31)]
def c59k37:=kk 133 Gd c59r37
def c59l28:ICode:=(.seq c59k37 c59s36)
def c59s38:ICode:=(.block 0 (.loop c59l28))
def c59r39:List Seg:=[zo 29 (.fieldA 1 1),zo 30 (.load1 29),zo 31 (.len 0 30),zo 32 (.mv (ci 0))]
def c59k39:=kk 133 [1] c59r39
def c59s40:ICode:=(.seq (.seq c59k39 c59s38) c59s27)
def c59r41:List Seg:=[zo 2 (.mv (ci 30))]
def c59k41:=kk 133 [] c59r41
def c59s42:ICode:=(.cond (.t 28) (.seq c59k41 .ret) .skip)
def c59r43:List Seg:=[zo 9 (.fieldA 0 1),zo 10 (.load1 9),zo 11 (.bin .lss 10 (ci 1)),zm 12 11,.one ⟨some 13,.fieldA 0 1,some (12,false)⟩,.one ⟨some 14,.load1 13,some (12,false)⟩,.one ⟨some 15,.bin .gtr 14 (ci 6),some (12,false)⟩,zo 16 (.pick 12 (.c (.bool true)) 15),zm 17 16,.one ⟨some 18,.fieldA 1 1,some (17,false)⟩,.one ⟨some 19,.load1 18,some (17,false)⟩,.one ⟨some 20,.len 0 19,some (17,false)⟩,.one ⟨some 21,.bin .gtr 20 (ci 10),some (17,false)⟩,zo 22 (.pick 17 (.c (.bool true)) 21),zm 23 22,.one ⟨some 24,.fieldA 2 1,some (23,false)⟩,.one ⟨some 25,.load1 24,some (23,false)⟩,.one ⟨some 26,.len 0 25,some (23,false)⟩,.one ⟨some 27,.bin .gtr 26 (ci 6),some (23,false)⟩,zo 28 (.pick 23 (.c (.bool true)) 27)]
def c59k43:=kk 133 [1] c59r43
def c59s44:ICode:=(.seq (.seq c59k43 c59s42) c59s40)
def c59r45:List Seg:=[zo 1 (.box 0),zo 2 (.mv (ci 0))]
def c59k45:=kk 133 [0] c59r45
def c59b:ICode:=(.seq c59k45 c59s44)
def c59:IFn:=⟨133,[.t 2],c59b⟩
def h59:List (Nat×Nat×List Nat):=[(0,(133,[0])),(1,(133,[1])),(2,(133,[])),(3,(133,[1])),(4,(133,Gd)),(5,(133,Gd)),(6,(133,U7)),(7,(133,[])),(8,(133,Gd)),(9,(133,[1])),(10,(133,F7)),(11,(133,F7)),(12,(133,VK)),(13,(133,[])),(14,(133,R8)),(15,(133,Gu)),(16,(133,Gu)),(17,(133,TC)),(18,(133,[])),(19,(133,Gu)),(20,(133,F7)),(21,(133,[]))]
end Go.Abs