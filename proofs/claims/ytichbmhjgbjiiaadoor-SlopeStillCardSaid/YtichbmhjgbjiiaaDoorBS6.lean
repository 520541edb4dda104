/- The texts that the row uses, part 6. -/
import Derived.Test.YtichbmhjgbjiiaaDoorBS5
set_option linter.unusedVariables false
set_option linter.unusedSimpArgs false
set_option maxHeartbeats 32000000
set_option maxRecDepth 100000
namespace Go.Abs
section
variable {N:Nat}{ks ps:List Nat}{r:AV×List Row×Nat->Prop}{k:List Itm}
theorem SZ{Rb:List Row}{low p O G ga pa:Nat}{n0 ev pv:AV}{sl:List (Nat×AV)}(hek:ks.length<=10)(hp:p<ps.length)(hpk:ps.length<=6)(o0:n0.one=true)
  (he:El Rb 2 ev (Ac .i64 (eC ks)) ks.length) (hpv:El Rb 3 pv (Ac .i64 (pC ps)) ps.length) (heo:sid ev≠O) (hpo:sid pv≠O) (hG:Af Rb G=some [n0,ev,pv]) (hGO:G≠O)
  (hga:Af Rb ga=some [n0,ev,pv]) (hpa:Af Rb pa=some [.int .i64 p]) (hO:Rb[O]?=some (.cells (frs (zr fun _=>0) 11))) (hlo:low<=O)
  (s69:lk sl 69 = .func 93 [.ptr ga 0,.ptr pa 0]) (s13:lk sl 13 = .ptr O 0) (s2:lk sl 2 = .ptr G 0)
  (hend:∀Q,Sm Rb.length O Rb Q->Q[O]?=some (.cells (frs (zr (CR ks ps (gN ps p) ks.length)) 11))->Ex F C68 k ⟨mk 180 sl,Q,low⟩ r):
  Ex F C68 (.code (.rf (.t 69) [70,71] c68f47a c68f47b)::k) ⟨mk 180 sl,Rb,low⟩ r:=by
 have hOl:=(List.getElem?_eq_some_iff.1 hO).1;have hz0:CR ks ps (gN ps p) 0=fun _=>0:=by
  funext j;unfold CR;split<;>rfl
 refine FO (ks:=ks) (ps:=ps) (p:=p) (ga:=ga) (pa:=pa) (o:=O) (n0:=n0) (ev:=ev) (pv:=pv) (C:=fun i=>Row.cells (frs (zr (CR ks ps (gN ps p) i)) 11)) rfl hek hp (by rw[CI _ _ _ (by omega)];exact s69) hga hpa he hpv hOl heo (by rw[hz0];exact hO) ?_ ?_ ?_
 ·intro i hi h0
  congr 2;funext j;unfold zr CR
  split
  ·rw[zS,h0,Int.zero_mul,Int.add_zero]
  ·rfl
 ·intro Q i hSQ hM hCQ hi hsg
  have hQl:=hSQ.1;have hML:=(List.getElem?_eq_some_iff.1 hM).1;obtain⟨S,hS⟩:∃S,S=sgn (gN ps p) (gN ks i):=⟨_,rfl⟩
  have hS1:S.natAbs<=1:=by rw[hS];exact Rx
  rw[<-hS,DQ,uc68f47a];obtain⟨Q2,hQ2⟩:∃Q2,Q2=Q++[Row.cells [.int .i64 i],.cells [.int .i64 S]]:=⟨_,rfl⟩
  have hQ2l:Q2.length=Q.length+2:=by rw[hQ2];simp
  obtain⟨Q1,hQ1⟩:∃Q1,Q1=Q2.set Rb.length (.loop .busy none (mk 180 sl) [70,71] c68f47a c68f47b):=⟨_,rfl⟩
  have hQ1l:Q1.length=Q.length+2:=by rw[hQ1,List.length_set,hQ2l]
  have hSb:Sm Rb.length O Rb Q1:=by rw[hQ1,hQ2];exact CV (Bi hSQ _) (.inr (Nat.le_refl _))
  have hM2:Q2[Rb.length]?=some (.loop .ready none (mk 180 sl) [70,71] c68f47a c68f47b):=by rw[hQ2,List.getElem?_append_left hML];exact hM
  have hM1:Q1[Rb.length]?=some (.loop .busy none (mk 180 sl) [70,71] c68f47a c68f47b):=by rw[hQ1,List.getElem?_set_self (by omega)]
  have hG1:=A6 hSb hG (AS hG) hGO;have he1:El Q1 2 ev (Ac .i64 (eC ks)) ks.length:=BI hSb he (by rcases Bh he with e|e;exact .inl e;exact .inr ⟨e,heo⟩);have hp1:El Q1 3 pv (Ac .i64 (pC ps)) ps.length:=BI hSb hpv (by rcases Bh hpv with e|e;exact .inl e;exact .inr ⟨e,hpo⟩);have h14:Af Q1 Q.length=some [.int .i64 i]:=by
   unfold Af;rw[hQ1,List.getElem?_set_ne (by omega),hQ2,List.getElem?_append_right (Nat.le_refl _),Nat.sub_self];rfl
  have h15:Af Q1 (Q.length+1)=some [.int .i64 S]:=by
   unfold Af;rw[hQ1,List.getElem?_set_ne (by omega),hQ2,List.getElem?_append_right (by omega),Nat.add_sub_cancel_left];rfl
  have hO1:Q1[O]?=some (.cells (frs (zr (zi ks ps (CR ks ps (gN ps p) i) S i 0)) 11)):=by
   rw[Abz,hQ1,List.getElem?_set_ne (by omega),hQ2,List.getElem?_append_left (by omega)];exact hCQ
  have hlast:=SU (R0:=Q1) (lw0:=Rb.length) (i:=i) (O:=O) (G:=G) (e14:=Q.length) (e15:=Q.length+1) (M1:=Rb.length) (sp:=S) (z:=CR ks ps (gN ps p) i) (n0:=n0) (ev:=ev) (pv:=pv) (by unfold Lh;simp only[hM1]) (by omega) (by omega) (by omega) hek hpk hi hS1 (fun j=>by
    unfold CR;have:=Wm (ks:=ks) (a:=gN ps p) (b:=gN ps j) i
    split<;>simp<;>omega) o0 he1 hp1 heo hpo hG1 hGO h14 h15 (by omega) (by omega) (by omega)
   (r:=fun x=>x.1 = .bool true/\Q.length<=x.2.1.length/\(∀id,id<Q.length->id≠O->x.2.1[id]?=Q[id]?)/\x.2.1[O]?=some (Row.cells (frs (zr (CR ks ps (gN ps p) (i+1))) 11))/\O<=x.2.2/\x.2.2<=Rb.length) (fun R low2 sl2 hSR hOR l1 l2=>by
    have hRl:=hSR.1;have hMR:R[Rb.length]?=some (.loop .busy none (mk 180 sl) [70,71] c68f47a c68f47b):=by rw[hSR.2 _ (by omega) (by omega)];exact hM1
    rw[B8 hMR];refine⟨rfl,by simp;omega,fun id h1 h2=>?_,?_,?_,?_⟩
    ·by_cases c:Rb.length=id
     ·subst c
      show(R.set Rb.length _)[Rb.length]?=_;rw[List.getElem?_set_self (by omega),hM]
     ·show(R.set Rb.length _)[id]?=_
      rw[List.getElem?_set_ne c,hSR.2 id (by omega) h2,hQ1,List.getElem?_set_ne c,hQ2,List.getElem?_append_left h1]
    ·show(R.set Rb.length _)[O]?=_
     rw[List.getElem?_set_ne (by omega),hOR,hS,Wx]
    ·show O<=Aa low2 Rb.length
     unfold Aa;split<;>omega
    ·show Aa low2 Rb.length<=Rb.length
     unfold Aa;split<;>omega) _ 0 Q1 Rb.length rfl (Nat.zero_le _) (AR (Nat.le_refl _)) hO1 (by omega) (Nat.le_refl _)
  have ln:=Aw hp1;have hlwM:Aa Q.length Rb.length=Rb.length:=by unfold Aa;split<;>omega
  have hrest:∀sl':List (Nat×AV),lk sl' 2 = .ptr G 0->lk sl' 13 = .ptr O 0->lk sl' 14 = .ptr Q.length 0->lk sl' 15 = .ptr (Q.length+1) 0->
    Ex F (.round Rb.length) [.rfBegin,.code c68f47b] ⟨mk 180 sl',Q2,Q.length⟩ fun x=>x.1 = .bool true/\Q.length<=x.2.1.length/\(∀id,id<Q.length->id≠O->x.2.1[id]?=Q[id]?)/\x.2.1[O]?=some (Row.cells (frs (zr (CR ks ps (gN ps p) (i+1))) 11))/\O<=x.2.2/\x.2.2<=Rb.length:=by
   intro sl' t2 t13 t14 t15;rw[BD];refine⟨none,mk 180 sl,[70,71],c68f47a,c68f47b,hM2,?_⟩;rw[hlwM,<-hQ1];simp[t2,t13,t14,t15,hG1,ln];simpa using hlast
  rw[hQ2]at hrest;have hlq:Aa Q.length Q.length=Q.length:=by unfold Aa;split<;>omega
  have hlq1:Aa Q.length (Q.length+1)=Q.length:=by unfold Aa;split<;>omega
  simp[hlq,hlq1];refine hrest _ ?_ ?_ ?_ ?_<;>simp[s2,s13]
 ·intro Q low2 hSQ hCQ h1 h2
  have e:low2=low:=by omega
  rw[e];exact hend Q hSQ hCQ
end
def sT(ks ps:List Nat)(tl:List Int)(i j:Nat):Rat:=if j=10 then((gI tl i:Int):Rat)else((CR ks ps (gN ps i) ks.length j:Int):Rat)
section
variable {B:List Row}{N low:Nat}{ks ps:List Nat}{ev n0 pv x1 x4 x5 x9:AV}{G:Nat}{tl:List Int}{r:AV×List Row×Nat->Prop}
theorem TP(hGZ:GZ B)(hek:ks.length<=10)(hpk:ps.length<=6)(o0:n0.one=true)(he:El B 2 ev (Ac .i64 (eC ks)) ks.length)(hpv:El B 3 pv (Ac .i64 (pC ps)) ps.length)(hlow:low<=B.length)(hG:Af B G=some [n0,ev,pv])(htl:IsL B x9 tl)(htn:tl.length=ps.length)
  (hc:∀(L:List Row) (v:AV) (sl:List (Nat×AV)),Acc B L 22 (.op 22) v (frs (tf (sT ks ps tl)) (ps.length*11)) ps.length->(ps.length=0->v = .nilslice)->lk sl 1=x1->lk sl 2 = .ptr G 0->lk sl 4=x4->lk sl 5=x5->lk sl 11=v->Ex F C68 [.code c68s41] ⟨mk 180 sl,B++L,low⟩ r):
  ∀(d i:Nat) (L:List Row) (v:AV),ps.length-i=d->i<=ps.length->Acc B L 22 (.op 22) v (frs (tf (sT ks ps tl)) (i*11)) i->(i=0->v = .nilslice)->
   Lc68l42 F C68 x1 (.ptr G 0) x4 x5 x9 v (.int .i64 ps.length) (.int .i64 i) (B++L) low r:=by
 intro d
 induction d with
 |zero=>
  intro i L v hd hi hA hv0;have e:i=ps.length:=by omega
  subst e;unfold Lc68l42;simp[-uc68s41];refine hc L v _ hA hv0 ?_ ?_ ?_ ?_ ?_<;>simp
 |succ d ih=>
  intro i L v hd hi0 hA hv0;have hi:i<ps.length:=by omega
  have hww:IntKind.i64.wrap ((i:Int)+1)=((i+1:Nat):Int):=wS (by omega);have hFx:Fx B (B++L) (fun _=>False):=Fx.app L;have hZ:GZ (B++L):=hGZ.fx hFx (by simp);have h96:=Ed hZ;have one1:=Am he;have one2:=Am hpv;have hOe:(B++L).length=B.length+L.length:=by simp
  have hlw:Aa low (B++L).length=low:=by unfold Aa;rw[if_neg (by simp;omega)]
  have hst:=KT (R:=B++L++[.cells (List.replicate 22 (.int .i64 0))]) (O:=(B++L).length) (low:=low) (xs:=frs (fun _=>0) 11) (vs:=List.replicate 22 (.int .i64 0)) (k:=22) (by simp[-List.reduceReplicate]) (by simp) (Av 11) (DX 11);have hset:(B++L++[Row.cells (List.replicate 22 (.int .i64 0))]).set (B++L).length (.cells (frs (fun _=>0) 11))=B++L++[.cells (frs (fun _=>0) 11)]:=by
   rw[List.set_append_right _ _ (Nat.le_refl _),Nat.sub_self]
   rfl
  rw[hset,hlw]at hst;obtain⟨R1,hR1⟩:∃R1,R1=B++L++[Row.cells (frs (fun _=>0) 11)]:=⟨_,rfl⟩
  have hR1l:R1.length=B.length+L.length+1:=by rw[hR1];simp;omega
  have hG1:Af R1 G=some [n0,ev,pv]:=by rw[hR1,List.append_assoc];exact Aj hG _
  have he1:El R1 2 ev (Ac .i64 (eC ks)) ks.length:=by rw[hR1,List.append_assoc];exact Ai he _
  have hp1:El R1 3 pv (Ac .i64 (pC ps)) ps.length:=by rw[hR1,List.append_assoc];exact Ai hpv _
  have hsd:=CE (rows:=R1) (n0:=n0) (ev:=ev) (pv:=pv) (i:=i) o0 one1 one2;have hlb:∀v:AV,(v = .nilslice\/sid v<B.length)->sid v≠B.length+L.length\/B.length+L.length=0:=fun v h=>by
   rcases h with e|e
   ·subst e
    show(0:Nat)≠_\/_;omega
   ·omega
  have hGl:=AS hG;have heo:sid ev≠B.length+L.length:=by rcases hlb ev (Bh he)with h|h<;>omega
  have hpo:sid pv≠B.length+L.length:=by rcases hlb pv (Bh hpv)with h|h<;>omega
  have hz0:frs (fun _=>0) 11=frs (zr fun _=>0) 11:=An fun _ _=>rfl
  have hrf:∀sl:List (Nat×AV),lk sl 69 = .func 93 [.ptr R1.length 0,.ptr (R1.length+1) 0]->lk sl 1=x1->lk sl 2 = .ptr G 0->lk sl 4=x4->lk sl 5=x5->lk sl 9=x9->lk sl 11=v->lk sl 12 = .int .i64 i->lk sl 13 = .ptr (B.length+L.length) 0->lk sl 62 = .int .i64 ps.length->lk sl 63 = .int .i64 i->
    Ex F C68 (.code (.rf (.t 69) [70,71] c68f47a c68f47b)::[.inBlock 4,.code c68s46,.inBlock 3,.code c68k43,.inLoop c68l42,.inBlock 2,.code c68s41]) ⟨mk 180 sl,R1++[.cells [n0,ev,pv],.cells [.int .i64 i]],low⟩ r:=by
   intro sl s69 s1 s2 s4 s5 s9 s11 s12 s13 s62 s63;refine SZ (p:=i) (O:=B.length+L.length) (G:=G) (ga:=R1.length) (pa:=R1.length+1) (n0:=n0) (ev:=ev) (pv:=pv) hek hi hpk o0 (Ai he1 _) (Ai hp1 _) heo hpo (Aj hG1 _) (by omega) (by simp[Af]) (by simp[Af]) ?_ (by omega) s69 s13 s2 (fun Q hSQ hOQ=>?_)
   ·rw[List.getElem?_append_left (by omega),hR1,<-hOe,List.getElem?_append_right (Nat.le_refl _),Nat.sub_self,<-hz0]
    rfl
   ·have hQl:=hSQ.1
    simp only[List.length_append,List.length_cons,List.length_nil]at hQl;have hOl:=(List.getElem?_eq_some_iff.1 hOQ).1
    have hF:Fx (B++L) Q (fun _=>False):=⟨by omega,fun id h1 _=>by
     rw[hSQ.2 id (by simp;omega) (by omega),List.getElem?_append_left (by omega),hR1,List.getElem?_append_left h1]⟩
    have hS:Sm B.length B.length B Q:=⟨(hFx.trans hF).1,fun id h1 _=>(hFx.trans hF).2 id h1 (by simp)⟩
    have htl':IsL Q x9 tl:=BI hS htl (by rcases Bh htl with e|e;exact .inl e;exact .inr ⟨e,by omega⟩);have ix:=Cd htl' (i:=i) (by omega);have ld:=If htl' (j:=i) (by omega);rw[Nat.mul_one]at ix;have r63:=fun R':List Row=>BO (rows:=R') (n:=gI tl i)
    have ixt:=fun R':List Row=>Fs (R:=R') (id:=B.length+L.length) (o:=0) (show 10<11 by omega)
    have i10:AQ 10 11=some 10:=rfl;have st:=CU (low:=low) (q:=((gI tl i:Int):Rat)) hOQ (show 10<11 by omega);have hlw2:Aa low (B.length+L.length)=low:=lwS (by omega);rw[hlw2]at st;have hrow:frs (fun j'=>if j'=10 then((gI tl i:Int):Rat)else zr (CR ks ps (gN ps i) ks.length) j') 11=frs (sT ks ps tl i) 11:=An fun j _=>rfl
    rw[hrow]at st
    have hR':Fx (B++L) (Q.set (B.length+L.length) (.cells (frs (sT ks ps tl i) 11))) (fun _=>False):=⟨by rw[List.length_set];exact hF.1,fun id h1 _=>by
     rw[hOe]at h1;rw[List.getElem?_set_ne (by omega)]
     exact hF.2 id (by omega) (by simp)⟩
    obtain⟨L',hL',hA'⟩:=M0 hA hR';have hr':Af (B++L') (B.length+L.length)=some (frs (sT ks ps tl i) 11):=by
     rw[<-hL'];unfold Af;rw[List.getElem?_set_self hOl]
    have hsg':seg (frs (sT ks ps tl i) 11) 0 22=some (frs (sT ks ps tl i) 11):=Ci (Av 11);obtain⟨v',L'',happ,hA2,_⟩:=B6 (low:=low) (b:=176) hA' (Av 11) (by omega) (by omega) hlow;rw[Hy]at hA2;have:=ih (i+1) L'' v' (by omega) (by omega) hA2 (fun h=>by omega);rw[hL']at st;simp[-List.reduceReplicate,s1,s2,s4,s5,s9,s11,s12,s13,s62,s63,ix,ld,r63,ixt,i10,st,hr',hsg',HO,happ,hww];simpa using this
  simp only[List.append_assoc,List.length_append]at hst hlw hR1;have hR1a:B++(L++[Row.cells (frs (fun _=>0) 11)])=R1:=hR1.symm;unfold Lc68l42;simp[-List.reduceReplicate,-AM,hi,h96,hlw,hst,hR1a,hG1,seg,hsd];refine hrf _ ?_ ?_ ?_ ?_ ?_ ?_ ?_ ?_ ?_ ?_ ?_<;>simp
end
section
variable {N:Nat}{ks ps:List Nat}{r:AV×List Row×Nat->Prop}{x1 x2 x4 x5 x11:AV}
theorem Ue{L:List Row}{O S m low:Nat}{cO:Cap}(hm:m<=1000)(hG:GZ L)(hO:O<L.length)(hlO:low<=O)(hO0:O≠0)(hS:Af L S=some [.slice O 0 m cO])(hSO:S≠O)
  (hc:∀sl:List (Nat×AV),lk sl 1=x1->lk sl 2=x2->lk sl 4=x4->lk sl 5=x5->lk sl 11=x11->lk sl 19 = .ptr S 0->Ex F C68 [.code c68s29] ⟨mk 180 sl,L.set O (.cells (frs (fun _=>0) m)),low⟩ r):
  ∀(d j:Nat),m-j=d->j<=m->Lc68l30 F C68 x1 x2 x4 x5 x11 (.ptr S 0) (.int .i64 m) (.int .i64 j) (L.set O (.cells (Dk m j))) low r:=by
 intro d
 induction d with
 |zero=>
  intro j hd hj;have e:j=m:=by omega
  subst e;unfold Lc68l30;simp[-uc68s29];rw[OX];refine hc _ ?_ ?_ ?_ ?_ ?_ ?_<;>simp
 |succ d ih=>
  intro j hd hj0;have hj:j<m:=by omega
  have hwj:IntKind.i64.wrap ((j:Int)+1)=((j+1:Nat):Int):=wS (by omega);have hG':GZ (L.set O (.cells (Dk m j))):=by unfold GZ;rw[List.getElem?_set_ne hO0];exact hG
  have ld:=OH hG';have hg:(L.set O (.cells (Dk m j)))[O]?=some (.cells (Dk m j)):=by rw[List.getElem?_set_self hO]
  have st:=JN (low:=low) hg hj;have hlw:Aa low O=low:=lwS (by omega);rw[List.set_set,hlw]at st;have hS':Af (L.set O (.cells (Dk m j))) S=some [.slice O 0 m cO]:=by
   unfold Af at hS ⊢;rw[List.getElem?_set_ne (by omega)];exact hS
  have ix:=fun R:List Row=>Da (R:=R) (id:=O) (c:=cO) hj
  have:=ih (j+1) (by omega) (by omega);unfold Lc68l30;simp[hj,hS',ld,ix,st,hwj];simpa using this
theorem Mv{rows:List Row}(hG:GZ rows):Ret F 98 [.nilslice,.int .i64 0] rows=some (.slice rows.length 0 0 (.at_ 0),rows++[.cells []],none):=by
 have hl0:=hG.lt;have hG2:GZ (rows++[.cells []]):=hG.fx (Fx.app (p:=fun _=>False) _) (by simp);have ld:=OH hG2;obtain⟨cF,r64⟩:=Kn (rows:=rows++[.cells []]) (cols:=0) (by omega);have hfin:=Fu (rows:=rows) (R':=rows++[.cells [],.cells []]) (id:=rows.length) (o:=0) (n:=0) (c:=.at_ 0) (vs:=[]) (by simp) (Nat.le_refl _) rfl;simp only[List.append_assoc,List.cons_append,List.nil_append,List.length_append,List.length_cons,List.length_nil,Nat.zero_add,Int.natCast_zero]at r64;refine i98 F98 ?_;simp;unfold Lc98l27;simp;unfold Lc98l15;simp[ld,r64];unfold Lc98l2;simp;exact hfin
end
def sw(ks ps:List Nat)(t:Nat->Rat)(p e:Nat):Rat:=su p fun q=>t q*((sgn (gN ps q) (gN ks e):Int):Rat)
def swI(ks ps:List Nat)(t:Nat->Rat)(p i e:Nat):Rat:=if e<i then sw ks ps t (p+1) e else sw ks ps t p e
section
variable {N:Nat}{ks ps:List Nat}{r:AV×List Row×Nat->Prop}{k:List Itm}{t:Nat->Rat}
theorem XX{Rb:List Row}{low p W S X22 ga pa:Nat}{n0 ev pv:AV}{sl:List (Nat×AV)}{cO:Cap}(hek:ks.length<=10)(hp:p<ps.length)
  (ht:∀(R:List Row) (e:Nat),e<ks.length->Ret F 99 [fr (t p),fr ((sgn (gN ps p) (gN ks e):Int):Rat)] R=some (fr (t p*((sgn (gN ps p) (gN ks e):Int):Rat)),R,none))
  (hpl:∀(R:List Row) (e:Nat),e<ks.length->Ret F 97 [fr (sw ks ps t p e),fr (t p*((sgn (gN ps p) (gN ks e):Int):Rat))] R=some (fr (sw ks ps t (p+1) e),R,none))
  (he:El Rb 2 ev (Ac .i64 (eC ks)) ks.length) (hpv:El Rb 3 pv (Ac .i64 (pC ps)) ps.length) (heo:sid ev≠W)
  (hga:Af Rb ga=some [n0,ev,pv]) (hpa:Af Rb pa=some [.int .i64 p]) (hW:Rb[W]?=some (.cells (frs (sw ks ps t p) ks.length))) (hlo:low<=W) (hS:Af Rb S=some [.slice W 0 ks.length cO]) (hSW:S≠W)
  (h22:Af Rb X22=some [.int .i64 (t p).num,.int .i64 ((t p).den:Int)]) (h22W:X22≠W)
  (s135:lk sl 135 = .func 93 [.ptr ga 0,.ptr pa 0]) (s19:lk sl 19 = .ptr S 0) (s22:lk sl 22 = .ptr X22 0)
  (hend:∀Q,Sm Rb.length W Rb Q->Q[W]?=some (.cells (frs (sw ks ps t (p+1)) ks.length))->Ex F C68 k ⟨mk 180 sl,Q,low⟩ r):
  Ex F C68 (.code (.rf (.t 135) [136,137] c68f16a c68f16b)::k) ⟨mk 180 sl,Rb,low⟩ r:=by
 have hWl:=(List.getElem?_eq_some_iff.1 hW).1;have hSl:=AS hS;have h22l:=AS h22;refine FO (ks:=ks) (ps:=ps) (p:=p) (ga:=ga) (pa:=pa) (o:=W) (n0:=n0) (ev:=ev) (pv:=pv) (C:=fun i=>Row.cells (frs (swI ks ps t p i) ks.length)) rfl hek hp (by rw[CI _ _ _ (by omega)];exact s135) hga hpa he hpv hWl heo (by rw[hW];exact congrArg (fun l=>some (Row.cells l)) (An fun e _=>by unfold swI;rw[if_neg (by omega)])) ?_ ?_ ?_
 ·intro i hi h0
  congr 1;refine An fun e _=>?_
  unfold swI
  by_cases c:e=i
  ·subst c
   rw[if_pos (by omega),if_neg (by omega)];unfold sw;rw[su,h0];grind
  ·by_cases c2:e<i
   ·rw[if_pos c2,if_pos (by omega)]
   ·rw[if_neg c2,if_neg (by omega)]
 ·intro Q i hSQ hM hCQ hi hsg
  have hQl:=hSQ.1;have hML:=(List.getElem?_eq_some_iff.1 hM).1;rw[DQ,uc68f16a];simp only[DC,uc68k19,uc68k18];rw[BD];refine⟨none,mk 180 sl,[136,137],c68f16a,c68f16b,hM,?_⟩;have hlwM:Aa Q.length Rb.length=Rb.length:=by unfold Aa;split<;>omega
  have hlwo:Aa Rb.length W=W:=by unfold Aa;split<;>omega
  rw[hlwM];obtain⟨Q1,hQ1⟩:∃Q1,Q1=Q.set Rb.length (.loop .busy none (mk 180 sl) [136,137] c68f16a c68f16b):=⟨_,rfl⟩
  rw[<-hQ1];have hS1:Sm Rb.length W Rb Q1:=by rw[hQ1];exact CV hSQ (.inr (Nat.le_refl _))
  have aS:=A6 hS1 hS hSl hSW;have a22:=A6 hS1 h22 h22l h22W;have hCo:Q1[W]?=some (.cells (frs (swI ks ps t p i) ks.length)):=by rw[hQ1,List.getElem?_set_ne (by omega)];exact hCQ
  have r63:=fun R:List Row=>BO (rows:=R) (n:=sgn (gN ps p) (gN ks i))
  have r99:=fun R=>ht R i hi
  have r97:=fun R=>hpl R i hi
  have ix:=fun R':List Row=>Da (R:=R') (id:=W) (c:=cO) hi
  have ld:=CW hCo hi;have hold:swI ks ps t p i i=sw ks ps t p i:=by unfold swI;rw[if_neg (by omega)]
  rw[hold]at ld;have st:=CU (low:=Rb.length) (q:=sw ks ps t (p+1) i) hCo hi;have hrow:frs (fun j'=>if j'=i then sw ks ps t (p+1) i else swI ks ps t p i j') ks.length=frs (swI ks ps t p (i+1)) ks.length:=An fun e _=>by
   unfold swI
   by_cases c:e=i
   ·rw[if_pos c,if_pos (by omega),c]
   ·rw[if_neg c]
    by_cases c2:e<i
    ·rw[if_pos c2,if_pos (by omega)]
    ·rw[if_neg c2,if_neg (by omega)]
  rw[hrow,hlwo]at st;have hld22:evP Q1 (.loadN 2 (.c (.ptr X22 0)))=some (fr (t p)):=by
   rw[Cc,a22]
   rfl
  generalize sgn (gN ps p) (gN ks i)=s at *;have hM1:(Q1.set W (.cells (frs (swI ks ps t p (i+1)) ks.length)))[Rb.length]?=some (.loop .busy none (mk 180 sl) [136,137] c68f16a c68f16b):=by
   rw[List.getElem?_set_ne (by omega),hQ1,List.getElem?_set_self hML]
  have hput:=DD (R:=Q) (M:=Rb.length) (o:=W) (x:=.cells (frs (swI ks ps t p (i+1)) ks.length)) (y:=.loop .busy none (mk 180 sl) [136,137] c68f16a c68f16b) hM (by omega);rw[<-hQ1]at hput;simp[-Cc,s19,s22,aS,hld22,r63,r99,r97,ix,ld,st,opC,Az,Bb];rw[B8 hM1];refine⟨rfl,by rw[hput.1];exact Nat.le_refl _,fun id h1 h2=>hput.2.1 id h2,hput.2.2,?_,?_⟩
  ·show W<=Aa W Rb.length
   unfold Aa;split<;>omega
  ·show Aa W Rb.length<=Rb.length
   unfold Aa;split<;>omega
 ·intro Q low2 hSQ hCQ h1 h2
  have e:low2=low:=by omega
  rw[e];refine hend Q hSQ ?_;rw[hCQ];exact congrArg (fun l=>some (Row.cells l)) (An fun e he=>by unfold swI;rw[if_pos he])
theorem UO{R0:List Row}{low W S T G:Nat}{n0 ev pv x1 x4 x5:AV}{cO cT:Cap}(hek:ks.length<=10)(hpk:ps.length<=6)(o0:n0.one=true)
  (ht:∀(R:List Row) (p e:Nat),p<ps.length->e<ks.length->Ret F 99 [fr (t p),fr ((sgn (gN ps p) (gN ks e):Int):Rat)] R=some (fr (t p*((sgn (gN ps p) (gN ks e):Int):Rat)),R,none))
  (hpl:∀(R:List Row) (p e:Nat),p<ps.length->e<ks.length->Ret F 97 [fr (sw ks ps t p e),fr (t p*((sgn (gN ps p) (gN ks e):Int):Rat))] R=some (fr (sw ks ps t (p+1) e),R,none))
  (he:El R0 2 ev (Ac .i64 (eC ks)) ks.length) (hpv:El R0 3 pv (Ac .i64 (pC ps)) ps.length) (heo:sid ev≠W) (hpo:sid pv≠W) (hWl:W<R0.length) (hlo:low<=W)
  (hG:Af R0 G=some [n0,ev,pv]) (hGW:G≠W) (hS:Af R0 S=some [.slice W 0 ks.length cO]) (hSW:S≠W) (hT:R0[T]?=some (.cells (frs t ps.length))) (hTW:T≠W)
  (hc:∀(R:List Row) (sl:List (Nat×AV)),Sm R0.length W R0 R->R[W]?=some (.cells (frs (sw ks ps t ps.length) ks.length))->lk sl 1=x1->lk sl 4=x4->lk sl 5=x5->lk sl 19 = .ptr S 0->Ex F C68 [.code c68s13] ⟨mk 180 sl,R,low⟩ r):
  ∀(d p:Nat) (R:List Row),ps.length-p=d->p<=ps.length->Sm R0.length W R0 R->R[W]?=some (.cells (frs (sw ks ps t p) ks.length))->
   Lc68l14 F C68 x1 (.ptr G 0) x4 x5 (.ptr S 0) (.slice T 0 ps.length cT) (.int .i64 ps.length) (.int .i64 p) R low r:=by
 intro d
 induction d with
 |zero=>
  intro p R hd hp hSm hW;have e:p=ps.length:=by omega
  subst e;unfold Lc68l14;simp[-uc68s13];refine hc R _ hSm hW ?_ ?_ ?_ ?_<;>simp
 |succ d ih=>
  intro p R hd hp0 hSm hW;have hp:p<ps.length:=by omega
  have hww:IntKind.i64.wrap ((p:Int)+1)=((p+1:Nat):Int):=wS (by omega);have hRl:=hSm.1;have he':El R 2 ev (Ac .i64 (eC ks)) ks.length:=BI hSm he (by rcases Bh he with e|e;exact .inl e;exact .inr ⟨e,heo⟩);have hp':El R 3 pv (Ac .i64 (pC ps)) ps.length:=BI hSm hpv (by rcases Bh hpv with e|e;exact .inl e;exact .inr ⟨e,hpo⟩);have hG':=A6 hSm hG (AS hG) hGW;have hS':=A6 hSm hS (AS hS) hSW;have hTl:=(List.getElem?_eq_some_iff.1 hT).1;have hT':R[T]?=some (.cells (frs t ps.length)):=by rw[hSm.2 T hTl hTW];exact hT
  have one1:=Am he;have one2:=Am hpv;have ix:=fun R':List Row=>Da (R:=R') (id:=T) (c:=cT) hp
  have ld:=CW hT' hp;have hlw:Aa low R.length=low:=lwS (by omega);obtain⟨R1,hR1⟩:∃R1,R1=R++[Row.cells [.int .i64 (t p).num,.int .i64 ((t p).den:Int)]]:=⟨_,rfl⟩
  have hR1l:R1.length=R.length+1:=by rw[hR1];simp
  have hG1:Af R1 G=some [n0,ev,pv]:=by rw[hR1];exact Aj hG' _
  have hsd:=CE (rows:=R1) (n0:=n0) (ev:=ev) (pv:=pv) (i:=p) o0 one1 one2;obtain⟨Rb,hRb⟩:∃Rb,Rb=R1++[.cells [n0,ev,pv],.cells [.int .i64 p]]:=⟨_,rfl⟩
  have hRbl:Rb.length=R.length+3:=by rw[hRb];simp[hR1l]
  have hSb:Sm R0.length W R0 Rb:=by rw[hRb,hR1,List.append_assoc];exact Bi hSm _
  have hrf:∀sl:List (Nat×AV),lk sl 135 = .func 93 [.ptr R1.length 0,.ptr (R1.length+1) 0]->lk sl 1=x1->lk sl 2 = .ptr G 0->lk sl 4=x4->lk sl 5=x5->lk sl 19 = .ptr S 0->lk sl 22 = .ptr R.length 0->lk sl 126 = .slice T 0 ps.length cT->lk sl 127 = .int .i64 ps.length->lk sl 128 = .int .i64 p->
    Ex F C68 (.code (.rf (.t 135) [136,137] c68f16a c68f16b)::[.inBlock 14,.inBlock 13,.code c68k15,.inLoop c68l14,.inBlock 12,.code c68s13]) ⟨mk 180 sl,Rb,low⟩ r:=by
   intro sl s135 s1 s2 s4 s5 s19 s22 s126 s127 s128;refine XX (p:=p) (W:=W) (S:=S) (X22:=R.length) (ga:=R1.length) (pa:=R1.length+1) (n0:=n0) (ev:=ev) (pv:=pv) (cO:=cO) hek hp (fun R e he=>ht R p e hp he) (fun R e he=>hpl R p e hp he) (by rw[hRb,hR1,List.append_assoc];exact Ai he' _) (by rw[hRb,hR1,List.append_assoc];exact Ai hp' _) heo (by rw[hRb];simp[Af]) (by rw[hRb];simp[Af])
    (by rw[hRb,hR1,List.append_assoc,List.getElem?_append_left (by omega)];exact hW) hlo (by rw[hRb,hR1,List.append_assoc];exact Aj hS' _) hSW (by rw[hRb,hR1];simp[Af]) (by omega) s135 s19 s22 (fun Q hSQ hWQ=>?_)
   have:=ih (p+1) Q (by omega) (by omega) (AP hSb hSQ (by omega)) hWQ;simp[s1,s2,s4,s5,s19,s126,s127,s128,hww];simpa using this
  have hfr:∀q:Rat,fr q = .agg [.int .i64 q.num,.int .i64 (q.den:Int)]:=fun _=>rfl
  rw[hfr]at ld;rw[hRb]at hrf;unfold Lc68l14;simp[hp,ix,ld,AV.cells,splice,hlw,<-hR1,hG1,seg,hsd];refine hrf _ ?_ ?_ ?_ ?_ ?_ ?_ ?_ ?_ ?_ ?_<;>simp
end
theorem Si(q:Rat):fr q = .agg [.int .i64 q.num,.int .i64 (q.den:Int)]:=rfl
theorem Hr{R:List Row}{v:AV}{f:Nat->Rat}{m i:Nat}(h:El R 2 v (frs f m) m)(hi:i<m):evP R (.loadN 2 (.c (.ptr (sid v) (GL v+i*2))))=some (fr (f i)):=by
 rw[GA h (by rw[Av];omega) (by omega),JU hi]
 rfl
section
variable {R R' R'':List Row}{low O S W i m:Nat}{v v0 v':AV}{f:Int}{d s:Nat->Rat}{q1 q2:Rat}{sl:List (Nat×AV)}{k:List Itm}{r:AV×List Row×Nat->Prop}{cO:Cap}
theorem Wh{ws:List AV}(hO:Af R O=some ws)(hv:ws[2]?=some v)(hv0:ws[0]?=some v0)(hi:i<m)(hd:El R 2 v0 (frs d m) m)(hS:Af R S=some [.slice W 0 m cO])(hW:R[W]?=some (.cells (frs s m)))
  (r1:∀R:List Row,Ret F 95 [fr (f:Rat),fr (d i)] R=some (fr q1,R,none)) (r2:∀R:List Row,Ret F 95 [fr q1,fr (s i)] R=some (fr q2,R,none))
  (happ:evE (R++[.cells [.int .i64 q2.num,.int .i64 (q2.den:Int)]]) low (.app 2 16 (.c v) (.c (.slice R.length 0 1 (.at_ 1))))=some (v',R',low)) (hst:evE R' low (.store1 (.c (.ptr O 2)) (.c v'))=some (.tup [],R'',low))
  (s5:lk sl 5 = .ptr O 0) (s19:lk sl 19 = .ptr S 0) (s25:lk sl 25 = .int .i64 i) (s26:lk sl 26 = .int .i64 f)
  (hn:∀sl':List (Nat×AV),(∀j∈[4,5,19,153,154,155],lk sl' j=lk sl j)->Ex F C68 k ⟨mk 180 sl',R'',low⟩ r):
  Ex F C68 (.code c68k4::k) ⟨mk 180 sl,R,low⟩ r:=by
 have ix0:=Cd hd hi;have ld0:=Hr hd hi;have ix1:=fun R:List Row=>Da (R:=R) (id:=W) (c:=cO) hi
 have ld1:=CW hW hi;have r63:=fun R:List Row=>BO (rows:=R) (n:=f)
 have i03:AQ 0 3=some 0:=rfl;have i23:AQ 2 3=some 2:=rfl;simp[-A8,-Cc,s5,s19,s25,s26,i03,i23,hO,hv,hv0,hS,ix0,ld0,ix1,ld1,r63,r1,r2,opC,Az,Bb,XE,MT,happ,hst];refine hn _ ?_;simp[s5,s19]
end
section
variable {B L0:List Row}{N low O S W m:Nat}{v0 v1 x1 x4:AV}{fl:List Int}{d s:Nat->Rat}{r:AV×List Row×Nat->Prop}{cO:Cap}
def w2(v0 v1 v:AV):List AV:=[v0,v1,v]
theorem XC(hlow:low<=B.length)(h0:0<L0.length)(hm:m<=10)(hfl:IsL B x1 fl)(hfn:fl.length=m)(hd:El (B++L0) 2 v0 (frs d m) m)(hdB:v0 = .nilslice\/sid v0≠B.length)
  (hS:L0[S]?=some (.cells [.slice (B.length+W) 0 m cO])) (hS0:S≠0) (hW:L0[W]?=some (.cells (frs s m))) (hW0:W≠0)
  (r1:∀(R:List Row) (i:Nat),i<m->Ret F 95 [fr ((gI fl i:Int):Rat),fr (d i)] R=some (fr (((gI fl i:Int):Rat)-d i),R,none))
  (r2:∀(R:List Row) (i:Nat),i<m->Ret F 95 [fr (((gI fl i:Int):Rat)-d i),fr (s i)] R=some (fr (((gI fl i:Int):Rat)-d i-s i),R,none))
  (hc:∀(L:List Row) (v:AV) (sl:List (Nat×AV)),PO B L0 (w2 v0 v1) L v (frs (fun i=>((gI fl i:Int):Rat)-d i-s i) m) m->lk sl 4=x4->lk sl 5 = .ptr B.length 0->Ex F C68 [.code c68s1] ⟨mk 180 sl,B++L,low⟩ r):
  ∀(n i:Nat) (L:List Row) (v:AV),m-i=n->i<=m->PO B L0 (w2 v0 v1) L v (frs (fun i=>((gI fl i:Int):Rat)-d i-s i) i) i->
   Lc68l2 F C68 x4 (.ptr B.length 0) (.ptr (B.length+S) 0) x1 (.int .i64 m) (.int .i64 i) (B++L) low r:=by
 intro n
 induction n with
 |zero=>
  intro i L v hn hi hP;have e:i=m:=by omega
  subst e;unfold Lc68l2;simp[-uc68s1];refine hc L v _ hP ?_ ?_<;>simp
 |succ n ih=>
  intro i L v hn hi0 hP;have hi:i<m:=by omega
  have hww:IntKind.i64.wrap ((i:Int)+1)=((i+1:Nat):Int):=wS (by omega);have hfl':=Ah hfl L;have ix:=Cd hfl' (i:=i) (by omega);have ld:=If hfl' (j:=i) (by omega);rw[Nat.mul_one]at ix;obtain⟨q,hq⟩:∃q,q=((gI fl i:Int):Rat)-d i-s i:=⟨_,rfl⟩
  obtain⟨v',L',L'',happ,hst,hP2⟩:=hP.push (x:=[.int .i64 q.num,.int .i64 (q.den:Int)]) (j:=2) (low:=low) (b:=16) rfl (by omega) hlow h0 (fun _ _=>rfl) (by simp[w2]);have hfrs:frs (fun i=>((gI fl i:Int):Rat)-d i-s i) i++[.int .i64 q.num,.int .i64 (q.den:Int)]=frs (fun i=>((gI fl i:Int):Rat)-d i-s i) (i+1):=by rw[hq];rfl
  rw[hfrs]at hP2;have:=ih (i+1) L'' v' (by omega) (by omega) hP2;have hl:=hP.l;have hOr:Af (B++L) B.length=some (w2 v0 v1 v):=by
   unfold Af;rw[List.getElem?_append_right (Nat.le_refl _),Nat.sub_self,hP.o]
  have hSl:=(List.getElem?_eq_some_iff.1 hS).1;have hWl:=(List.getElem?_eq_some_iff.1 hW).1;have hSr:Af (B++L) (B.length+S)=some [.slice (B.length+W) 0 m cO]:=by
   unfold Af;rw[List.getElem?_append_right (by omega),Nat.add_sub_cancel_left,hP.k S hSl hS0,hS]
  have hWr:(B++L)[B.length+W]?=some (.cells (frs s m)):=by
   rw[List.getElem?_append_right (by omega),Nat.add_sub_cancel_left,hP.k W hWl hW0,hW]
  have hd':El (B++L) 2 v0 (frs d m) m:=by
   have hSm:Sm (B++L0).length B.length (B++L0) (B++L):=⟨by simp;omega,fun id h1 h2=>by
    by_cases c:id<B.length
    ·rw[List.getElem?_append_left c,List.getElem?_append_left c]
    ·rw[List.getElem?_append_right (by omega),List.getElem?_append_right (by omega)]
     exact hP.k _ (by simp at h1;omega) (by omega)⟩
   refine BI hSm hd ?_;rcases Bh hd with e|e
   ·exact .inl e
   ·rcases hdB with e2|e2
    ·exact .inl e2
    ·exact .inr ⟨e,e2⟩
  have happ':evE ((B++L)++[.cells [.int .i64 q.num,.int .i64 (q.den:Int)]]) low (.app 2 16 (.c v) (.c (.slice (B++L).length 0 1 (.at_ 1))))=some (v',B++L',low):=by
   rw[List.append_assoc,List.length_append];exact happ
  have hk:∀sl:List (Nat×AV),lk sl 4=x4->lk sl 5 = .ptr B.length 0->lk sl 19 = .ptr (B.length+S) 0->lk sl 25 = .int .i64 i->lk sl 26 = .int .i64 (gI fl i)->lk sl 153=x1->lk sl 154 = .int .i64 m->lk sl 155 = .int .i64 i->
    Ex F C68 [.code c68k4,.inBlock 17,.code c68k3,.inLoop c68l2,.inBlock 16,.code c68s1] ⟨mk 180 sl,B++L,low⟩ r:=by
   intro sl s4 s5 s19 s25 s26 s153 s154 s155;refine Wh (q1:=((gI fl i:Int):Rat)-d i) (q2:=q) hOr (v:=v) (v0:=v0) rfl rfl hi hd' hSr hWr (fun R=>r1 R i hi) (fun R=>by rw[hq];exact r2 R i hi) happ' hst s5 s19 s25 s26 fun sl' hs=>?_
   have t4:=hs 4 (by simp);have t5:=hs 5 (by simp);have t19:=hs 19 (by simp);have t153:=hs 153 (by simp);have t154:=hs 154 (by simp);have t155:=hs 155 (by simp);rw[s4]at t4;rw[s5]at t5;rw[s19]at t19;rw[s153]at t153;rw[s154]at t154;rw[s155]at t155;simp[t4,t5,t19,t153,t154,t155,hww];simpa using this
  unfold Lc68l2;simp[-uc68k4,hi,ix,ld];refine hk _ ?_ ?_ ?_ ?_ ?_ ?_ ?_ ?_<;>simp
end
def M8(rows:List Row)(m:Nat)(a b c:Nat->Rat)(q:AV×List Row×Option Nat):Prop:=
 ∃v0 v1 v2 X,q=(.agg [v0,v1,v2],rows++X,none)/\El (rows++X) 2 v0 (frs a m) m/\El (rows++X) 2 v1 (frs b m) m/\El (rows++X) 2 v2 (frs c m) m/\(v0 = .nilslice\/rows.length<=sid v0)/\(v1 = .nilslice\/rows.length<=sid v1)/\(v2 = .nilslice\/rows.length<=sid v2)
theorem O8{rows X:List Row}{v:AV}{cs:List AV}{n sz:Nat}(h:El (rows++X) sz v cs n)(hv:v.ids.all (· < rows.length)=true):El rows sz v cs n:=by
 rcases AO h with ⟨rfl,rfl,rfl⟩|⟨id,off,c,vs,rfl,hr,hs⟩
 ·exact BS
 ·have hid:id<rows.length:=by simpa[AV.ids]using hv
  have hr':Af rows id=some vs:=by
   unfold Af at hr ⊢;rw[List.getElem?_append_left hid]at hr;exact hr
  unfold El A5;simp only[hr',hs]
  rfl
section
variable {rows L:List Row}{m S W:Nat}{G4 G:Row}{v0 x1:AV}{cO:Cap}{fl:List Int}{d s:Nat->Rat}{sl:List (Nat×AV)}
theorem TE{B:List Row}(hB:B=rows++[G,.cells [.nilslice,.nilslice,.nilslice]])(hm:m<=10)(hfl:IsL rows x1 fl)(hfn:fl.length=m)(h0:L[0]?=some (.cells [v0,.nilslice,.nilslice]))(hd:El (B++L) 2 v0 (frs d m) m)(hdB:v0 = .nilslice\/B.length<sid v0)
  (hS:L[S]?=some (.cells [.slice (B.length+W) 0 m cO])) (hS0:S≠0) (hW:L[W]?=some (.cells (frs s m))) (hW0:W≠0)
  (r1:∀(R:List Row) (i:Nat),i<m->Ret F 95 [fr ((gI fl i:Int):Rat),fr (d i)] R=some (fr (((gI fl i:Int):Rat)-d i),R,none))
  (r2:∀(R:List Row) (i:Nat),i<m->Ret F 95 [fr (((gI fl i:Int):Rat)-d i),fr (s i)] R=some (fr (((gI fl i:Int):Rat)-d i-s i),R,none))
  (s1:lk sl 1=x1) (s4:lk sl 4 = .ptr (rows.length+1) 0) (s5:lk sl 5 = .ptr B.length 0) (s19:lk sl 19 = .ptr (B.length+S) 0):
  Ex F C68 [.code c68s13] ⟨mk 180 sl,B++L,rows.length⟩ fun x=>M8 rows m d s (fun i=>((gI fl i:Int):Rat)-d i-s i) (fin rows x.1 x.2.1 x.2.2):=by
 have hBl:B.length=rows.length+2:=by rw[hB];simp
 have hLl:=(List.getElem?_eq_some_iff.1 h0).1;have hflB:IsL B x1 fl:=by rw[hB];exact Ah hfl _
 have hSr:Af (B++L) (B.length+S)=some [.slice (B.length+W) 0 m cO]:=by
  unfold Af;rw[List.getElem?_append_right (by omega),Nat.add_sub_cancel_left,hS]
 have h0r:cells? (B++L) B.length=some [v0,.nilslice,.nilslice]:=by
  unfold cells?;rw[List.getElem?_append_right (Nat.le_refl _),Nat.sub_self,h0]
 obtain⟨L0,hL0⟩:∃L0,L0=L.set 0 (.cells [v0,.slice (B.length+W) 0 m cO,.nilslice]):=⟨_,rfl⟩
 have hL0l:L0.length=L.length:=by rw[hL0,List.length_set]
 have hset:(B++L).set B.length (.cells [v0,.slice (B.length+W) 0 m cO,.nilslice])=B++L0:=by
  rw[hL0,List.set_append_right _ _ (Nat.le_refl _),Nat.sub_self]
 have hSm:Sm (B++L).length B.length (B++L) (B++L0):=by rw[<-hset];exact CV (AR (Nat.le_refl _)) (.inl rfl)
 have hd0:El (B++L0) 2 v0 (frs d m) m:=BI hSm hd (by
  rcases Bh hd with e|e
  ·exact .inl e
  ·rcases hdB with e2|e2
   ·exact .inl e2
   ·exact .inr ⟨e,by omega⟩)
 have hlen:=Aw (Ah hflB L0);have hw:Aa rows.length B.length=rows.length:=Ae (by omega);have hP0:PO B L0 (w2 v0 (.slice (B.length+W) 0 m cO)) L0 .nilslice (frs (fun i=>((gI fl i:Int):Rat)-d i-s i) 0) 0:=⟨BZ,by rw[hL0,List.getElem?_set_self hLl];rfl,.inl rfl,fun _ _ _=>rfl,Nat.le_refl _⟩
 have hl2:=XC (low:=rows.length) (x4:=.ptr (rows.length+1) 0) (v1:=.slice (B.length+W) 0 m cO) (by omega) (by omega) hm hflB hfn hd0 (by rcases hdB with e|e;exact .inl e;exact .inr (by omega)) (by rw[hL0,List.getElem?_set_ne (by omega)];exact hS) hS0 (by rw[hL0,List.getElem?_set_ne (by omega)];exact hW) hW0 r1 r2
  (r:=fun x=>M8 rows m d s (fun i=>((gI fl i:Int):Rat)-d i-s i) (fin rows x.1 x.2.1 x.2.2)) (fun L' v sl' hP t4 t5=>by
   have hl:=hP.l;have hO:Af (B++L') B.length=some [v0,.slice (B.length+W) 0 m cO,v]:=by
    unfold Af;rw[List.getElem?_append_right (Nat.le_refl _),Nat.sub_self,hP.o];rfl
   have h4:cells? (B++L') (rows.length+1)=some [.nilslice,.nilslice,.nilslice]:=by
    unfold cells?;rw[List.getElem?_append_left (by omega),hB,List.getElem?_append_right (by omega)];simp
   have e2:El (B++L') 2 v (frs (fun i=>((gI fl i:Int):Rat)-d i-s i) m) m:=GK hP.a (by omega)
   have hSm2:Sm (B++L0).length B.length (B++L0) (B++L'):=⟨by simp;omega,fun id h1 h2=>by
    by_cases c:id<B.length
    ·rw[List.getElem?_append_left c,List.getElem?_append_left c]
    ·rw[List.getElem?_append_right (by omega),List.getElem?_append_right (by omega)]
     exact hP.k _ (by simp at h1;omega) (by omega)⟩
   have e0:El (B++L') 2 v0 (frs d m) m:=BI hSm2 hd0 (by
    rcases Bh hd0 with e|e
    ·exact .inl e
    ·rcases hdB with e2|e2
     ·exact .inl e2
     ·exact .inr ⟨e,by omega⟩)
   have hWl:=(List.getElem?_eq_some_iff.1 hW).1;have hW':Af (B++L') (B.length+W)=some (frs s m):=by
    unfold Af;rw[List.getElem?_append_right (by omega),Nat.add_sub_cancel_left,hP.k W (by omega) hW0,hL0,List.getElem?_set_ne (by omega),hW]
   have e1:El (B++L') 2 (.slice (B.length+W) 0 m cO) (frs s m) m:=by
    unfold El A5;simp only[hW'];rw[Ci (Av m)]
    rfl
   have o0:=Am e0;have o1:=Am e1;have o2:=Am e2
   -- the copy
   obtain⟨R',hR'⟩:∃R',R'=(B++L').set (rows.length+1) (.cells [v0,.slice (B.length+W) 0 m cO,v]):=⟨_,rfl⟩
   have hSm3:Sm (B++L').length (rows.length+1) (B++L') R':=by rw[hR'];exact CV (AR (Nat.le_refl _)) (.inl rfl)
   have hne:∀{v:AV} {cs:List AV},El (B++L') 2 v cs m->(v = .nilslice\/B.length<=sid v\/sid v<rows.length)->El R' 2 v cs m:=fun{v cs} he hv=>BI hSm3 he (by
    rcases Bh he with e|e
    ·exact .inl e
    ·rcases hv with e2|e2
     ·exact .inl e2
     ·exact .inr ⟨e,by omega⟩)
   have f0:=hne e0 (by rcases hdB with e|e;exact .inl e;exact .inr (.inl (by omega)));have f1:=hne e1 (.inr (.inl (by simp only[HJ];omega)));have f2:=hne e2 (by rcases hP.s with e|e;exact .inl e;exact .inr (.inl (by omega)));have hX:∃X,R'=rows++X:=by
    rw[hR',hB,List.append_assoc,List.set_append_right _ _ (by omega)];exact⟨_,rfl⟩
   obtain⟨X,hX⟩:=hX;have hrow:Af R' (rows.length+1)=some [v0,.slice (B.length+W) 0 m cO,v]:=by
    unfold Af;rw[hR',List.getElem?_set_self (by simp;omega)]
   have hlw1:Aa rows.length (rows.length+1)=rows.length:=Ae (by omega);have hst:evE (B++L') rows.length (.storeN 3 (.c (.ptr (rows.length+1) 0)) (.c (.agg [v0,.slice (B.length+W) 0 m cO,v])))=some (.tup [],R',rows.length):=by
    rw[AM];simp only[h4,Option.bind_some];rw[if_pos ⟨rfl,by simp,by simp[o0,o1,o2]⟩,hlw1,hR']
    rfl
   have hfin:M8 rows m d s (fun i=>((gI fl i:Int):Rat)-d i-s i) (fin rows (.agg [v0,.slice (B.length+W) 0 m cO,v]) R' rows.length):=by
    rw[hX]at f0 f1 f2 ⊢;rcases Kj (rows:=rows) (l:=[v0,.slice (B.length+W) 0 m cO,v]) (X:=X)with e|⟨e,h⟩
    ·rw[e]
     refine⟨_,_,_,X,rfl,f0,f1,f2,?_,?_,?_⟩
     ·rcases hdB with e|e
      ·exact .inl e
      ·exact .inr (by omega)
     ·exact .inr (by simp only[HJ];omega)
     ·rcases hP.s with e|e
      ·exact .inl e
      ·exact .inr (by omega)
    ·exfalso
     simp[AV.ids,AV.ids.idsL]at h;omega
   simp[-AM,t4,t5,hO,seg,hst,hrow]
   exact hfin) m 0 L0 .nilslice rfl (Nat.zero_le _) hP0
 have i13:AQ 1 3=some 1:=rfl;simp[s1,s4,s5,s19,hSr,i13,h0r,hw,hset,<-hL0,hfn,hlen];simpa using hl2
end
def sA(ks ps:List Nat)(tl:List Int):Nat->Nat->Rat:=DW (tf (sT ks ps tl)) ps.length
def sX(ks ps:List Nat)(tl:List Int):Nat->Rat:=xs (gjR (sA ks ps tl) ps.length ps.length) ps.length
theorem LL{R:List Row}{v:AV}{B L:List Row}{ks ps:List Nat}{tl:List Int}(hpk:ps.length<=6)(hGZ:GZ (B++L))(hA:Acc B L 22 (.op 22) v (frs (tf (sT ks ps tl)) (ps.length*11)) ps.length)(hv0:ps.length=0->v = .nilslice)(hF:Fx (B++L) R (fun _=>False))(hb:Bd (sA ks ps tl) ps.length (ps.length+1) ps.length):
  Ret F 98 [v,.int .i64 ps.length] R=some (.slice R.length 0 ps.length (.at_ ps.length),R++[.cells (frs (sX ks ps tl) ps.length)],none):=by
 have hZR:=hGZ.fx hF (by simp)
 by_cases hp0:ps.length=0
 ·have e:=hv0 hp0
  subst e;have:=Mv hZR;rw[hp0];exact this
 ·obtain⟨h1,h2⟩:=hA
  rcases h2 with ⟨rfl,e⟩|⟨k,rfl,hk⟩
  ·rw[e]at h1
   simp at h1;omega
  ·have hkl:=(List.getElem?_eq_some_iff.1 hk).1
   have hr:R[B.length+k]?=some (.cells (frs (tf (sT ks ps tl)) (ps.length*11))):=by
    rw[hF.2 _ (by simp;omega) (by simp),List.getElem?_append_right (by omega),Nat.add_sub_cancel_left];exact hk
   exact GP hZR hr (by omega) (by omega) (by omega) (by omega) hb (fun c a hc h1 h2 h3=>by
    obtain⟨σ,hgj⟩:=Ey (A:=DW (tf (sT ks ps tl)) ps.length) (n:=ps.length) c;have:=hgj.kle
    omega)
theorem Ob{B R:List Row}(hl:B.length<=R.length)(h:∀id,id<B.length->R[id]?=B[id]?):∃L,R=B++L:=by
 refine⟨R.drop B.length,?_⟩;have:R.take B.length=B:=by
  apply List.ext_getElem?;intro i
  by_cases c:i<B.length
  ·rw[List.getElem?_take_of_lt c,h i c]
  ·rw[List.getElem?_eq_none (by simp;omega),List.getElem?_eq_none (by omega)]
 conv=>lhs;rw[<-List.take_append_drop B.length R,this]
section
variable {rows L:List Row}{N m n:Nat}{G:Row}{v0 x1 v11 ev pv:AV}{ks ps:List Nat}{fl:List Int}{d t:Nat->Rat}{sl:List (Nat×AV)}
theorem Uj{B:List Row}(hB:B=rows++[.cells [.int .i64 N,ev,pv],.cells [.nilslice,.nilslice,.nilslice]])(hek:ks.length<=10)(hpk:ps.length<=6)(hZ:GZ (B++L))(hfl:IsL rows x1 fl)(hfn:fl.length=ks.length)(he:El rows 2 ev (Ac .i64 (eC ks)) ks.length)(hpv:El rows 3 pv (Ac .i64 (pC ps)) ps.length)
  (h0:L[0]?=some (.cells [v0,.nilslice,.nilslice])) (hd:El (B++L) 2 v0 (frs d ks.length) ks.length) (hdB:v0 = .nilslice\/B.length<sid v0)
  (hsol:∀R',Fx (B++L) R' (fun _=>False)->Ret F 98 [v11,.int .i64 ps.length] R'=some (.slice R'.length 0 ps.length (.at_ ps.length),R'++[.cells (frs t ps.length)],none))
  (ht:∀(R:List Row) (p e:Nat),p<ps.length->e<ks.length->Ret F 99 [fr (t p),fr ((sgn (gN ps p) (gN ks e):Int):Rat)] R=some (fr (t p*((sgn (gN ps p) (gN ks e):Int):Rat)),R,none))
  (hpl:∀(R:List Row) (p e:Nat),p<ps.length->e<ks.length->Ret F 97 [fr (sw ks ps t p e),fr (t p*((sgn (gN ps p) (gN ks e):Int):Rat))] R=some (fr (sw ks ps t (p+1) e),R,none))
  (r1:∀(R:List Row) (i:Nat),i<ks.length->Ret F 95 [fr ((gI fl i:Int):Rat),fr (d i)] R=some (fr (((gI fl i:Int):Rat)-d i),R,none))
  (r2:∀(R:List Row) (i:Nat),i<ks.length->Ret F 95 [fr (((gI fl i:Int):Rat)-d i),fr (sw ks ps t ps.length i)] R=some (fr (((gI fl i:Int):Rat)-d i-sw ks ps t ps.length i),R,none))
  (s1:lk sl 1=x1) (s2:lk sl 2 = .ptr rows.length 0) (s4:lk sl 4 = .ptr (rows.length+1) 0) (s5:lk sl 5 = .ptr B.length 0) (s11:lk sl 11=v11):
  Ex F C68 [.code c68s41] ⟨mk 180 sl,B++L,rows.length⟩ fun x=>M8 rows ks.length d (sw ks ps t ps.length) (fun i=>((gI fl i:Int):Rat)-d i-sw ks ps t ps.length i) (fin rows x.1 x.2.1 x.2.2):=by
 have hBl:B.length=rows.length+2:=by rw[hB];simp
 have hLl:=(List.getElem?_eq_some_iff.1 h0).1;obtain⟨R,hR⟩:∃R,R=B++L:=⟨_,rfl⟩
 rw[<-hR]at hZ hd hsol ⊢;have hRl:R.length=B.length+L.length:=by rw[hR];simp
 have hRr:R=rows++([.cells [.int .i64 N,ev,pv],.cells [.nilslice,.nilslice,.nilslice]]++L):=by rw[hR,hB,List.append_assoc]
 have heR:El R 2 ev (Ac .i64 (eC ks)) ks.length:=by rw[hRr];exact Ai he _
 have hpR:El R 3 pv (Ac .i64 (pC ps)) ps.length:=by rw[hRr];exact Ai hpv _
 have hGR:Af R rows.length=some [.int .i64 N,ev,pv]:=by rw[hRr];simp[Af]
 have ln:=Aw heR;have hlim:(ks.length:Int)<=lim:=by unfold lim;omega
 -- the list of noughts
 obtain⟨R1,hR1⟩:∃R1,R1=R++[.cells (frs (fun _=>0) ks.length),.cells [.slice R.length 0 ks.length (.at_ ks.length)]]:=⟨_,rfl⟩
 have hR1l:R1.length=R.length+2:=by rw[hR1];simp
 have hF1:Fx R R1 (fun _=>False):=by rw[hR1];exact Fx.app _
 have hZ1:=hZ.fx hF1 (by simp);have hz0:(List.replicate ks.length [AV.int .i64 0,AV.int .i64 0]).flatten=Dk ks.length 0:=by unfold Dk frs;simp
 have hset:R++[Row.cells (Dk ks.length 0),.cells [.slice R.length 0 ks.length (.at_ ks.length)]]=R1.set R.length (.cells (Dk ks.length 0)):=by
  rw[hR1,List.set_append_right _ _ (Nat.le_refl _),Nat.sub_self]
  rfl
 have hset1:R1.set R.length (.cells (frs (fun _=>0) ks.length))=R1:=by
  rw[hR1,List.set_append_right _ _ (Nat.le_refl _),Nat.sub_self]
  rfl
 have hS1:Af R1 (R.length+1)=some [.slice R.length 0 ks.length (.at_ ks.length)]:=by rw[hR1];simp[Af]
 have hG1:Af R1 rows.length=some [.int .i64 N,ev,pv]:=by rw[hR1];exact Aj hGR _
 have hpR1:El R1 3 pv (Ac .i64 (pC ps)) ps.length:=by rw[hR1];exact Ai hpR _
 have heR1:El R1 2 ev (Ac .i64 (eC ks)) ks.length:=by rw[hR1];exact Ai heR _
 have lnp:=Aw hpR1;have r98:=hsol R1 hF1;have hsid:∀{v:AV},(v = .nilslice\/sid v<rows.length)->sid v≠R.length:=fun{v} h=>by
  rcases h with e|e
  ·subst e;show(0:Nat)≠_;omega
  ·omega
 -- behind the equations
 obtain⟨R2,hR2⟩:∃R2,R2=R1++[.cells (frs t ps.length)]:=⟨_,rfl⟩
 have hR2l:R2.length=R.length+3:=by rw[hR2];simp[hR1l]
 have hS2:Sm R.length R.length R R2:=⟨by omega,fun id h1 _=>by rw[hR2,List.getElem?_append_left (by omega),hR1,List.getElem?_append_left h1]⟩
 have hl14:=UO (t:=t) (R0:=R2) (low:=rows.length) (W:=R.length) (S:=R.length+1) (T:=R1.length) (G:=rows.length) (n0:=.int .i64 N) (ev:=ev) (pv:=pv) (x1:=x1) (x4:=.ptr (rows.length+1) 0) (x5:=.ptr B.length 0) (cO:=.at_ ks.length) (cT:=.at_ ps.length) hek hpk rfl ht hpl (by rw[hR2];exact Ai heR1 _) (by rw[hR2];exact Ai hpR1 _) (hsid (Bh he)) (hsid (Bh hpv)) (by omega) (by omega) (by rw[hR2];exact Aj hG1 _) (by omega) (by rw[hR2];exact Aj hS1 _) (by omega) (by rw[hR2];simp) (by omega)
  (r:=fun x=>M8 rows ks.length d (sw ks ps t ps.length) (fun i=>((gI fl i:Int):Rat)-d i-sw ks ps t ps.length i) (fin rows x.1 x.2.1 x.2.2)) (fun R3 sl' hS3 hW3 t1 t4 t5 t19=>by
   have h3l:=hS3.1;have hsame:∀id,id<R.length->R3[id]?=R[id]?:=fun id hid=>by
    rw[hS3.2 id (by omega) (by omega)];exact hS2.2 id hid (by omega)
   obtain⟨L3,hL3⟩:=Ob (B:=B) (R:=R3) (by omega) (fun id hid=>by
    rw[hsame id (by omega),hR,List.getElem?_append_left hid])
   have hget:∀j,R3[B.length+j]?=L3[j]?:=fun j=>by
    rw[hL3,List.getElem?_append_right (by omega),Nat.add_sub_cancel_left]
   have hd3:El R3 2 v0 (frs d ks.length) ks.length:=BI (b:=R.length) (o:=R.length) ⟨by omega,fun id h1 _=>hsame id h1⟩ hd (by
    rcases Bh hd with e|e
    ·exact .inl e
    ·exact .inr ⟨e,by omega⟩)
   have h03:L3[0]?=some (.cells [v0,.nilslice,.nilslice]):=by
    rw[<-hget 0,hsame _ (by omega),hR,List.getElem?_append_right (by omega),Nat.add_sub_cancel_left];exact h0
   have hS3':L3[R.length+1-B.length]?=some (.cells [.slice (B.length+(R.length-B.length)) 0 ks.length (.at_ ks.length)]):=by
    rw[<-hget,show B.length+(R.length+1-B.length)=R.length+1 by omega,hS3.2 _ (by omega) (by omega),hR2,List.getElem?_append_left (by omega),show B.length+(R.length-B.length)=R.length by omega,hR1,List.getElem?_append_right (by omega),Nat.add_sub_cancel_left]
    rfl
   have hW3':L3[R.length-B.length]?=some (.cells (frs (sw ks ps t ps.length) ks.length)):=by
    rw[<-hget,show B.length+(R.length-B.length)=R.length by omega];exact hW3
   rw[hL3]at hd3 ⊢;exact TE (S:=R.length+1-B.length) (W:=R.length-B.length) (cO:=.at_ ks.length) hB hek hfl hfn h03 hd3 hdB hS3' (by omega) hW3' (by omega) r1 r2 t1 t4 t5 (by rw[t19,show B.length+(R.length+1-B.length)=R.length+1 by omega])) ps.length 0 R2 rfl (Nat.zero_le _) (AR (Nat.le_refl _)) (by
    rw[hR2,List.getElem?_append_left (by omega),hR1,List.getElem?_append_right (Nat.le_refl _),Nat.sub_self]
    exact congrArg (fun l=>some (Row.cells l)) (An fun _ _=>rfl))
 have hlw0:Aa rows.length R.length=rows.length:=Ae (by omega);have hlw1:Aa rows.length (R.length+1)=rows.length:=Ae (by omega)
 have hl30:=Ue (L:=R1) (O:=R.length) (S:=R.length+1) (m:=ks.length) (low:=rows.length) (cO:=.at_ ks.length) (x1:=x1) (x2:=.ptr rows.length 0) (x4:=.ptr (rows.length+1) 0) (x5:=.ptr B.length 0) (x11:=v11) (r:=fun x=>M8 rows ks.length d (sw ks ps t ps.length) (fun i=>((gI fl i:Int):Rat)-d i-sw ks ps t ps.length i) (fin rows x.1 x.2.1 x.2.2)) (by omega) hZ1 (by omega) (by omega) (by omega) hS1 (by omega) (fun sl' t1 t2 t4 t5 t11 t19=>by
   rw[hset1];simp[t1,t2,t4,t5,t11,t19,hG1,lnp,r98];rw[<-hR2]
   simpa using hl14) ks.length 0 rfl (Nat.zero_le _)
 simp[s1,s2,s4,s5,s11,hGR,ln,hlim,hz0,hlw0,hlw1];rw[hset];simpa using hl30
end
theorem QB(s:Int):[AV.int .i64 s,.int .i64 1]=[AV.int .i64 (s:Rat).num,.int .i64 ((s:Rat).den:Int)]:=rfl
theorem Rw{f:Nat->Rat}{w:Nat}:frs f (w+1)=frs f w++[.int .i64 (f w).num,.int .i64 ((f w).den:Int)]:=rfl
theorem Qj{B L:List Row}{v:AV}{f:Nat->Rat}{n:Nat}(h:Acc B L 2 (.op 2) v (frs f n) n)(h0:0<n):fin B v (B++L) B.length=(.slice B.length 0 n (.op 2),B++[.cells (frs f n)],none):=by
 obtain⟨h1,h2⟩:=h;rcases h2 with ⟨rfl,h3⟩|⟨k,rfl,hk⟩
 ·have:=Av (f:=f) n
  rw[h3]at this;simp at this;omega
 ·exact DF hk (Ef n)
section
variable {rows:List Row}{n:Nat}
variable {v:AV}{l:List Int}
theorem Ml(h:IsL rows v l)(hl:l.length<=1000){r:AV×List Row×Nat->Prop}
  (hc:∀(L:List Row) (y:AV),Acc rows L 2 (.op 2) y (frs (fun i=>((gI l i:Int):Rat)) l.length) l.length->r (y,rows++L,rows.length)):
  ∀(d i:Nat) (L:List Row) (y:AV),l.length-i=d->i<=l.length->Acc rows L 2 (.op 2) y (frs (fun i=>((gI l i:Int):Rat)) i) i->
  Lc43l2 F (.fn [.t 2]) v y (.int .i64 i) (rows++L) rows.length r:=by
 intro d
 induction d with
 |zero=>
  intro i L y hd hi hA;have e:i=l.length:=by omega
  subst e;have ln:=Cw (Ah h L);have:=hc L y hA;unfold Lc43l2;simp[ln];exact this
 |succ d ih=>
  intro i L y hd hi0 hA;have hi:i<l.length:=by omega
  have hwi:IntKind.i64.wrap ((i:Int)+1)=((i+1:Nat):Int):=wS (by omega);have h':=Ah h L;have ln:=Cw h';have ix:=Cd h' hi;have ld:=If h' hi;rw[Nat.mul_one]at ix;have hfill:Aq (Al []) [(0,1,.c (.int .i64 (gI l i))),(1,1,.c (.int .i64 1))] [.int .i64 0,.int .i64 0]=some [.int .i64 (gI l i),.int .i64 1]:=rfl;have hfill2:Aq (Al []) [(0,2,.c (.agg [.int .i64 (gI l i),.int .i64 1]))] [.int .i64 0,.int .i64 0]=some [.int .i64 (gI l i),.int .i64 1]:=rfl;obtain⟨y',L',ev,hA2⟩:=DP (low:=rows.length) (b:=16) (x:=[.int .i64 (gI l i),.int .i64 1]) hA rfl (by omega) (by omega) (Nat.le_refl _);rw[QB,<-Rw (f:=fun i=>((gI l i:Int):Rat))]at hA2;have:=ih (i+1) L' y' (by omega) (by omega) hA2;unfold Lc43l2;simp[ln,hi,ix,ld,hfill,hfill2,ev,hwi];simpa using this
theorem Ph(h:IsL rows v l)(hl:l.length<=1000)(h0:0<l.length):Ret F 43 [v] rows=some (.slice rows.length 0 l.length (.op 2),rows++[.cells (frs (fun i=>((gI l i:Int):Rat)) l.length)],none):=by
 refine i43 F43 ?_;have:=Ml (r:=fun r=>fin rows r.1 r.2.1 r.2.2=(.slice rows.length 0 l.length (.op 2),rows++[.cells (frs (fun i=>((gI l i:Int):Rat)) l.length)],none)) h hl (fun L y hA=>Qj hA h0) l.length 0 [] .nilslice rfl (by omega) BZ;simp;simpa using this
end
theorem NF{q k:Nat} : -1<=sgn q k/\sgn q k<=1:=by
 unfold sgn
 split
 ·omega
 ·split<;>omega
theorem Uh{q k:Nat}{t:Int}{B:Int}(ht : -B<=t/\t<=B) : -B<=sgn q k*t/\sgn q k*t<=B:=by
 unfold sgn
 split
 ·omega
 ·split<;>omega
def suZ:Nat->(Nat->Int)->Int
 |0,_=>0
 |n+1,f=>suZ n f+f n
theorem LV{K:List Row}{b i:Nat}:Ab b (K.map fun(x:Row)=>(i,x))=if b.testBit i=true then K else K.map fun _=>.dead:=by
 unfold Ab
 split
 ·rename_i h
  simp[Function.comp_def,h]
 ·rename_i h
  simp[Function.comp_def,h]
section
variable {rows:List Row}{N:Nat}{ks ps:List Nat}{ev pv x1:AV}{r:AV×List Row×Nat->Prop}
end
theorem XZ(x:Rat):0<=x*x:=by
 rcases(Rat.le_total (a:=0) (b:=x))with h|h
 ·exact Rat.mul_nonneg h h
 ·have h2:0 <= -x:=by grind
  have:=Rat.mul_nonneg h2 h2;grind
theorem K4{f:Nat->Rat}:∀n,0<=su n fun e=>f e*f e
 |0=>Rat.le_refl
 |
  n+1=>by
  have h1:=K4 (f:=f) n;have h2:=XZ (f n);rw[su];grind
theorem I5{f:Nat->Rat}:∀{n:Nat},su n (fun e=>f e*f e)=0->∀e,e<n->f e=0
 |0,_,e,he=>by omega
 |
  n+1,h,e,he=>by
  have h1:=K4 (f:=f) n;have h2:=XZ (f n);rw[su]at h;have h3:su n (fun e=>f e*f e)=0:=by grind
  have h4:f n*f n=0:=by grind
  by_cases c:e=n
  ·subst c
   rcases Rat.mul_eq_zero.1 h4 with h|h<;>exact h
  ·exact I5 h3 e (by omega)
section
variable {S G:Nat->Nat->Rat}{n w:Nat}
theorem Vn(hG:∀i j,i<n->j<n->G i j=su w fun e=>S i e*S j e){y:Nat->Rat}{j:Nat}(hj:j<n):su n (fun r=>y r*G r j)=su w fun e=>(su n fun r=>y r*S r e)*S j e:=by
 have e1:su n (fun r=>y r*G r j)=su n fun r=>su w fun e=>y r*(S r e*S j e):=Ad fun r hr=>by rw[hG r j hr hj,Bx]
 rw[e1,Dh];refine Ad fun e _=>?_
 have:su n (fun r=>y r*(S r e*S j e))=S j e*su n fun r=>y r*S r e:=by
  rw[<-Bx];exact Ad fun r _=>by grind
 rw[this];grind
theorem XJ(hG:∀i j,i<n->j<n->G i j=su w fun e=>S i e*S j e){y:Nat->Rat}(h:∀j,j<n->su n (fun r=>y r*G r j)=0):∀e,e<w->su n (fun r=>y r*S r e)=0:=by
 have h1:su n (fun j=>y j*su n fun r=>y r*G r j)=0:=Ik fun j hj=>by rw[h j hj];grind
 have h2:su n (fun j=>y j*su n fun r=>y r*G r j)=su w fun e=>(su n fun r=>y r*S r e)*(su n fun r=>y r*S r e):=by
  have e1:su n (fun j=>y j*su n fun r=>y r*G r j)=su n fun j=>su w fun e=>y j*((su n fun r=>y r*S r e)*S j e):=Ad fun j hj=>by rw[Vn hG hj,Bx]
  rw[e1,Dh];refine Ad fun e _=>?_
  have:su n (fun j=>y j*((su n fun r=>y r*S r e)*S j e))=(su n fun r=>y r*S r e)*su n fun j=>y j*S j e:=by
   rw[<-Bx];exact Ad fun j _=>by grind
  rw[this]
 rw[h2]at h1;exact I5 h1
end
theorem Nu{g:Nat->Int}{n:Nat}(a:Nat):(if a<n+1 then g a else 0)=(if a<n then g a else 0)+(if n=a then g n else 0):=by
 by_cases e:n=a
 ·subst e
  rw[if_pos (by omega),if_neg (by omega),if_pos rfl];omega
 ·rw[if_neg e]
  by_cases c:a<n
  ·rw[if_pos c,if_pos (by omega)]
   omega
  ·rw[if_neg c,if_neg (by omega)]
   omega
theorem Ic{g h:Nat->Int}{i1 i2 i3 w:Nat}(l13:i1<i3)(l32:i3<i2)(hs:∀e,e<w->h e=if e=i1\/e=i2 then 1 else if e=i3 then -1 else 0):∀n,n<=w->suZ n (fun e=>g e*h e)=(if i1<n then g i1 else 0)+(if i2<n then g i2 else 0)-(if i3<n then g i3 else 0)
 |0,_=>by simp[suZ]
 |
  n+1,hn=>by
  have ih:=Ic (g:=g) l13 l32 hs n (by omega);rw[suZ,ih,hs n (by omega),Nu i1,Nu i2,Nu i3];generalize (if i1<n then g i1 else 0)=A;generalize (if i2<n then g i2 else 0)=B;generalize (if i3<n then g i3 else 0)=C
  by_cases c1:n=i1
  ·have h2:¬n=i2:=by omega
   have h3:¬n=i3:=by omega
   simp only[c1,true_or,if_true];simp only[<-c1,h2,h3,if_false];omega
  ·by_cases c2:n=i2
   ·have h3:¬n=i3:=by omega
    simp only[c1,if_false,c2,or_true,if_true];simp only[<-c2,h3,if_false];omega
   ·by_cases c3:n=i3
    ·have h1:¬i3=i1:=by omega
     have h2:¬i3=i2:=by omega
     simp only[c3,h1,h2,or_self,if_false,if_true];omega
    ·simp only[c1,c2,c3,or_self,if_false]
     omega
def VM(q:Nat):Bool:=decide (q/36<q/6%6)&&decide (q/6%6<q%6)
def pl3(p q:Nat):Int:=sgn p (q/36*6+q/6%6)+sgn p (q/6%6*6+q%6)-sgn p (q/36*6+q%6)
theorem WN:((List.range 216).all fun q=>!VM q||(List.range 216).all fun p=>!VM p||p==q||(decide (-1<=pl3 p q)&&decide (pl3 p q<=1)))=true:=by decide +kernel
theorem ZR{p q:Nat}(hp:VM p=true)(hq:VM q=true)(h1:p<216)(h2:q<216)(hne:p≠q) : -1<=pl3 p q/\pl3 p q<=1:=by
 have h:=WN;rw[List.all_eq_true]at h;have:=h q (List.mem_range.2 h2);rw[hq,Bool.not_true,Bool.false_or,List.all_eq_true]at this;have:=this p (List.mem_range.2 h1);rw[hp,Bool.not_true,Bool.false_or]at this;simp only[Bool.or_eq_true,beq_iff_eq,Bool.and_eq_true,decide_eq_true_eq]at this;rcases this with h|h
 ·exact absurd h hne
 ·exact h
section
variable {N:Nat}{ks ps:List Nat}
theorem Ry(hok:GOK N ks ps){i j:Nat}(hi:i<ps.length)(hj:j<ps.length):suZ ks.length (fun e=>sgn (gN ps i) (gN ks e)*sgn (gN ps j) (gN ks e))=pl3 (gN ps i) (gN ps j):=by
 obtain⟨h1,h2,h3,k1,k2,k3⟩:=hok.pe _ (AH hj);generalize hq:gN ps j=q at *;have hm1:q/6%6<6:=Nat.mod_lt _ (by omega);have hm2:q%6<6:=Nat.mod_lt _ (by omega);obtain⟨i1,a1,a2,a3⟩:=DZ hm1 k1;obtain⟨i3,c1,c2,c3⟩:=DZ hm2 k2;obtain⟨i2,b1,b2,b3⟩:=DZ hm2 k3;have hs:∀e,e<ks.length->sgn q (gN ks e)=if e=i1\/e=i2 then 1 else if e=i3 then -1 else 0:=fun i hi=>by
  have e1:i=i1↔gN ks i=q/36*6+q/6%6:=⟨fun e=>by rw[e,a3],fun e=>Fb hok.es hi a1 (by omega)⟩
  have e2:i=i2↔gN ks i=q/6%6*6+q%6:=⟨fun e=>by rw[e,b3],fun e=>Fb hok.es hi b1 (by omega)⟩
  have e3:i=i3↔gN ks i=q/36*6+q%6:=⟨fun e=>by rw[e,c3],fun e=>Fb hok.es hi c1 (by omega)⟩
  unfold sgn;have d1:(gN ks i/6=q/36/\gN ks i%6=q/6%6)↔i=i1:=by rw[e1];omega
  have d2:(gN ks i/6=q/6%6/\gN ks i%6=q%6)↔i=i2:=by rw[e2];omega
  have d3:(gN ks i/6=q/36/\gN ks i%6=q%6)↔i=i3:=by rw[e3];omega
  simp only[d1,d2,d3]
 have l13:=KY hok.es a1 c1 (by omega);have l32:=KY hok.es c1 b1 (by omega);rw[Ic (g:=fun e=>sgn (gN ps i) (gN ks e)) l13 l32 hs ks.length (Nat.le_refl _),if_pos a1,if_pos b1,if_pos c1,a3,b3,c3]
 rfl
end
theorem Fh{f g:Nat->Int}:∀{n:Nat},(∀e,e<n->f e=g e)->suZ n f=suZ n g
 |0,_=>rfl
 |n+1,h=>by rw[suZ,suZ,Fh fun e he=>h e (by omega),h n (by omega)]
theorem Ce{f:Nat->Int}:∀n,((suZ n f:Int):Rat)=su n fun e=>((f e:Int):Rat)
 |0=>rfl
 |n+1=>by rw[suZ,su,Rat.intCast_add,Ce n]
theorem RZ{i:Nat}:∀n,ns n (fun j=>if i=j then 3 else 1)<=n+(if i<n then 2 else 0)
 |0=>by simp[ns]
 |
  n+1=>by
  have ih:=RZ (i:=i) n;rw[ns]
  by_cases e:i=n
  ·subst e
   rw[if_neg (by omega)]at ih;rw[if_pos rfl,if_pos (by omega)];omega
  ·rw[if_neg e]
   by_cases c:i<n
   ·rw[if_pos c]at ih
    rw[if_pos (by omega)];omega
   ·rw[if_neg c]at ih
    rw[if_neg (by omega)];omega
section
variable {N:Nat}{ks ps:List Nat}{f:List Int}
theorem KE{p q:Nat} : -3<=pl3 p q/\pl3 p q<=3:=by
 unfold pl3;have h1:=NF (q:=p) (k:=q/36*6+q/6%6);have h2:=NF (q:=p) (k:=q/6%6*6+q%6);have h3:=NF (q:=p) (k:=q/36*6+q%6);omega
end
theorem I8{a:Int}{L B:Nat}(hL:0<L)(h:a.natAbs*L<=B):dn (a:Rat) L B:=by
 refine⟨hL,by rw[Rat.den_intCast];exact Nat.one_dvd L,?_⟩;unfold sc;rw[Rat.num_intCast,Rat.den_intCast,Int.natAbs_mul,Nat.div_one];simpa using h
theorem Ln{q:Rat}{L B t:Nat}(h:dn q L B)(ht:0<t):dn q (L*t) (B*t):=by
 refine⟨Nat.mul_pos h.L0 ht,Nat.dvd_trans h.d (Nat.dvd_mul_right L t),?_⟩;obtain⟨c,hc⟩:=h.d;have hq:=q.den_pos;have e1:L/q.den=c:=by rw[hc,Nat.mul_div_cancel_left _ hq]
 have e2:L*t/q.den=c*t:=by rw[hc,Nat.mul_assoc,Nat.mul_div_cancel_left _ hq]
 have hb:=h.b;unfold sc at hb ⊢;rw[e1]at hb;rw[e2,Int.natCast_mul,<-Int.mul_assoc,Int.natAbs_mul];exact Nat.mul_le_mul hb (by simp)
theorem Sr{q:Rat}{L B:Nat}(h:dn q L B):dn (-q) L B:=by
 refine⟨h.L0,by rw[Rat.neg_den];exact h.d,?_⟩;have hb:=h.b;unfold sc at hb ⊢;rw[Rat.neg_den,Rat.neg_num,Int.neg_mul,Int.natAbs_neg];exact hb
theorem XD{x y:Rat}{L B C:Nat}(h:dn x L B)(k:dn y L C):dn (x+y) L (B+C):=by
 have:=Lg h (Sr k);have e:x - -y=x+y:=by grind
 rwa[e]at this
theorem Ok{q:Rat}{L B:Nat}{s:Int}(h:dn q L B)(hs:s.natAbs<=1):dn (q*(s:Rat)) L B:=by
 have:s=0\/s=1\/s = -1:=by omega
 rcases this with rfl|rfl|rfl
 ·have e:q*((0:Int):Rat)=((0:Int):Rat):=by
   show q*0=0;grind
  rw[e];exact I8 h.L0 (by simp)
 ·have e:q*((1:Int):Rat)=q:=by
   show q*1=q;grind
  rw[e];exact h
 ·have e:q*((-1:Int):Rat) = -q:=by
   show q * -1 = -q;grind
  rw[e];exact Sr h
theorem Xo{A:Nat->Nat->Rat}{n cols:Nat}(hb:Bd A n (cols+1) cols)(hk:cols<=6):∃L,L<=1000000/\∀j,dn (xs (gjR A n cols) cols j) L 300000000:=by
 obtain⟨σ,h⟩:=Ey (A:=A) (n:=n) cols;have hkc:=h.kle;have hkn:=h.kn;generalize gjR A n cols=s at *
 by_cases k0:s.k=0
 ·refine⟨1,by omega,fun j=>?_⟩
  have:xs s cols j=((0:Int):Rat):=by unfold xs;rw[k0];rfl
  rw[this];exact I8 (by omega) (by simp)
 obtain⟨d,hd,hdb⟩:=(h.Disz hb (Nat.le_refl _) (show 0<n by omega)).1;have hd0:d≠0:=fun e=>h.D (by rw[hd,e];rfl)
 have p6:=PB (show s.k<=6 by omega);rw[show(10:Nat)^6=1000000 from rfl]at p6;refine⟨d.natAbs,by omega,fun j=>?_⟩
 by_cases c:∃t,t<s.k/\s.κ t=j
 ·obtain⟨t,ht,rfl⟩:=c
  have e:xs s cols (s.κ t)=s.M t cols:=by
   unfold xs
   rw[Et ht fun i hi hne=>by
    rw[if_neg];intro e;rcases Nat.lt_or_ge i t with c|c
    ·have:=h.ki i t c ht;omega
    ·have:=h.ki t i (by omega) hi;omega]
   rw[if_pos rfl]
  rw[e];obtain⟨m,hm,hmb⟩:=(h.Disz hb (Nat.le_refl _) (show t<n by omega)).2 cols 500 (fun i hi=>hb.e i cols hi (by omega));rw[if_pos ht]at hmb;rw[hd]at hm;have p5:=PB (show s.k-1<=5 by omega);rw[show(10:Nat)^5=100000 from rfl]at p5;have hbd:s.k*(10^(s.k-1)*500)<=300000000:=by
   have:=Nat.mul_le_mul (show s.k<=6 by omega) (Nat.mul_le_mul_right 500 p5);omega
  have:=Rv hd0 (q:=s.M t cols) (n:=m) (by rw[<-hm];grind) (t:=1) (by omega);rw[Nat.mul_one,Nat.mul_one]at this;exact JM this (by omega)
 ·have:xs s cols j=((0:Int):Rat):=by
   unfold xs;rw[Ik fun t ht=>by rw[if_neg fun e=>c ⟨t,ht,e⟩]]
   rfl
  rw[this];exact I8 (by omega) (by simp)
section
variable {N:Nat}{ks ps:List Nat}{fl:List Int}
theorem N9{q:Nat}{ks:List Nat}{f:List Int}(hm:ks.length<=10)(hf:∀e,e<ks.length -> -100<=gI f e/\gI f e<=100):∀i,i<=ks.length->sdS q ks (V3 f) [0] i=[suZ i fun e=>sgn q (gN ks e)*gI f e] /\ -(100*i:Int)<=suZ i (fun e=>sgn q (gN ks e)*gI f e)/\suZ i (fun e=>sgn q (gN ks e)*gI f e)<=100*i
 |0,_=>⟨rfl,by simp[suZ],by simp[suZ]⟩
 |
  i+1,hi=>by
  obtain⟨h1,h2,h3⟩:=N9 (q:=q) hm hf i (by omega);have h4:=Uh (q:=q) (k:=gN ks i) (t:=gI f i) (B:=100) (hf i (by omega));rw[sdS,h1];show(if sgn q (gN ks i)=0 then _ else _)=[suZ i (fun e=>sgn q (gN ks e)*gI f e)+sgn q (gN ks i)*gI f i] /\ -(100*((i+1:Nat):Int))<=suZ i (fun e=>sgn q (gN ks e)*gI f e)+sgn q (gN ks i)*gI f i/\suZ i (fun e=>sgn q (gN ks e)*gI f e)+sgn q (gN ks i)*gI f i<=100*((i+1:Nat):Int);generalize suZ i (fun e=>sgn q (gN ks e)*gI f e)=S at *;refine⟨?_,by omega,by omega⟩
  by_cases hz:sgn q (gN ks i)=0
  ·rw[if_pos hz,hz]
   simp
  ·rw[if_neg hz]
   show[IntKind.i64.wrap (gI [S] 0+IntKind.i64.wrap (sgn q (gN ks i)*gI f i))]=_;have e:gI [S] 0=S:=rfl;rw[e,AG (n:=sgn q (gN ks i)*gI f i) (by omega) (by omega),AG (by omega) (by omega)]
theorem Vo{ks:List Nat}{fl:List Int}(hl:fl.length=ks.length)(hb:∀x∈fl,-100<=x/\x<=100):∀e,e<ks.length -> -100<=gI fl e/\gI fl e<=100:=fun e he=>hb _ (Er (by omega))
theorem Pu(hok:GOK N ks ps)(hl:fl.length=ks.length)(hb:∀x∈fl,-100<=x/\x<=100){i:Nat}(hi:i<ps.length):gI (ps.map (tuS ks fl)) i=suZ ks.length fun e=>sgn (gN ps i) (gN ks e)*gI fl e:=by
 rw[BB (by simpa using hi),List.getElem_map];unfold tuS;have h:=N9 (q:=ps[i]) (f:=fl) hok.ek (Vo hl hb) ks.length (Nat.le_refl _);rw[h.1,F1 hi]
 rfl
theorem RT{a:Nat->Int}{f:Nat->Int}:∀n,(∀e,e<n->(a e).natAbs<=1/\(f e).natAbs<=100)->(suZ n fun e=>a e*f e).natAbs<=100*(suZ n fun e=>a e*a e).natAbs/\0<=suZ n fun e=>a e*a e
 |0,_=>by simp[suZ]
 |
  n+1,h=>by
  obtain⟨h1,h2⟩:=RT n fun e he=>h e (by omega)
  obtain⟨k1,k2⟩:=h n (by omega);have:a n=0\/a n=1\/a n = -1:=by omega
  simp only[suZ];rcases this with e|e|e<;>rw[e]<;>omega
theorem Nl(hok:GOK N ks ps)(hl:fl.length=ks.length)(hb:∀x∈fl,-100<=x/\x<=100){i:Nat}(hi:i<ps.length):(gI (ps.map (tuS ks fl)) i).natAbs<=500:=by
 rw[Pu hok hl hb hi];have h:=(RT (a:=fun e=>sgn (gN ps i) (gN ks e)) (f:=fun e=>gI fl e) ks.length fun e he=>⟨Rx,by have:=Vo hl hb e he;omega⟩).1;have h2:=Ry hok hi hi;have h3:=KE (p:=gN ps i) (q:=gN ps i);rw[h2]at h;omega
theorem Js{a b:Nat}:∀i,zS ks a b i=suZ i fun e=>sgn a (gN ks e)*sgn b (gN ks e)
 |0=>rfl
 |i+1=>by rw[zS,suZ,Js i]
theorem Q7(hpk:ps.length<=6){tl:List Int}{i j:Nat}(hj:j<ps.length):sA ks ps tl i j=((zS ks (gN ps i) (gN ps j) ks.length:Int):Rat):=by
 unfold sA DW tf sT CR;rw[if_pos hj,show(i*11+j)/11=i by omega,show(i*11+j)%11=j by omega,if_neg (by omega),if_pos hj]
theorem XR{tl:List Int}{i j:Nat}(hj:ps.length<=j):sA ks ps tl i j=((gI tl i:Int):Rat):=by
 unfold sA DW tf sT;rw[if_neg (by omega),show(i*11+10)/11=i by omega,show(i*11+10)%11=10 by omega,if_pos rfl]
theorem Yt(hok:GOK N ks ps){tl:List Int}(hf:∀i,i<ps.length->(gI tl i).natAbs<=500):Bd (sA ks ps tl) ps.length (ps.length+1) ps.length where
 e:=fun i j hi hj=>by
  by_cases c:j<ps.length
  ·rw[Q7 hok.pk c,Js,Ry hok hi c]
   have:=KE (p:=gN ps i) (q:=gN ps j);exact⟨_,rfl,by omega⟩
  ·have:=hf i hi
   rw[XR (by omega)];exact⟨_,rfl,by omega⟩
 a:=fun i j hi hj=>by
  rw[Q7 hok.pk hj,Js,Ry hok hi hj];have:=KE (p:=gN ps i) (q:=gN ps j);exact⟨_,rfl,by omega⟩
 nu:=by
  refine⟨fun i j=>if i=j then 3 else 1,fun i j hi hj=>?_,fun i hi=>?_⟩
  ·rw[Q7 hok.pk hj,Js,Ry hok hi hj]
   show isz _ (if i=j then 3 else 1)
   by_cases e:i=j
   ·have:=KE (p:=gN ps i) (q:=gN ps j)
    rw[if_pos e];exact⟨_,rfl,by omega⟩
   ·have hpk:∀k,k<ps.length->VM (gN ps k)=true/\gN ps k<216:=fun k hk=>by
     obtain⟨h1,h2,h3,_⟩:=hok.pe _ (AH hk);exact⟨by unfold VM;simp[h1,h2],h3⟩
    have:=ZR (hpk i hi).1 (hpk j hj).1 (hpk i hi).2 (hpk j hj).2 (fun h=>e (Fb hok.psd hi hj h));rw[if_neg e];exact⟨_,rfl,by omega⟩
  ·show ns ps.length (fun j=>if i=j then 3 else 1)<=10
   have:=RZ (i:=i) ps.length;have:=hok.pk;have e:(if i<ps.length then 2 else 0)<=2:=by split<;>omega
   omega
end
section
variable {f g:Rat}{L L' B C:Nat}{rows:List Row}
theorem Hv(hf:dn f L B)(hg:dn g L' C)(h1:L*L'<=1000000000000)(h2:B*L'<=3000000000000000000)(h3:C*L<=3000000000000000000):Ret F 95 [fr f,fr g] rows=some (fr (f-g),rows,none):=by
 have e1:=Ln hf hg.L0;have e2:=Ln hg hf.L0;rw[Nat.mul_comm L' L]at e2;have hMX:MX=9223372036854775807:=rfl;exact FB e1.d e2.d e1.L0 (by omega) (by have:=e1.b;have:=e2.b;omega) (Lx e2 (by omega) (by omega))
theorem S8(hf:dn f L B)(hg:dn g L C)(h1:L<=1000000000000)(h2:B<=3000000000000000000)(h3:C<=3000000000000000000):Ret F 97 [fr f,fr g] rows=some (fr (f+g),rows,none):=by
 have hMX:MX=9223372036854775807:=rfl;exact HF hf.d hg.d hf.L0 (by omega) (by have:=hf.b;have:=hg.b;omega)
theorem Q6{s:Int}(hf:dn f L B)(hs:s.natAbs<=1)(h1:L<=1000000000000)(h2:B<=3000000000000000000):Ret F 99 [fr f,fr (s:Rat)] rows=some (fr (f*(s:Rat)),rows,none):=by
 have hMX:MX=9223372036854775807:=rfl;refine FJ (Lx hf (by omega) (by omega)) ⟨?_,?_⟩ (Lx (Ok hf hs) (by omega) (by omega))
 ·rw[Rat.num_intCast];omega
 ·rw[Rat.den_intCast];omega
end
section
variable {N:Nat}{ks ps:List Nat}{fl:List Int}{h t:Nat->Rat}{L1 L2:Nat}
theorem Yf(ht:∀j,dn (t j) L2 300000000):∀p e,dn (sw ks ps t p e) L2 (p*300000000)
 |
  0,e=>by
  show dn (((0:Int):Rat)) L2 _;exact I8 (ht 0).L0 (by simp)
 |
  p+1,e=>by
  have:=XD (Yf ht p e) (Ok (ht p) (Rx (q:=gN ps p) (k:=gN ks e)));have e1:p*300000000+300000000=(p+1)*300000000:=by omega
  rw[e1]at this;exact this
theorem Wj(hh:∀j,dn (h j) L1 300000000)(e:Nat):dn (dfl h ks e) L1 600000000:=Lg (hh _) (hh _)
end
def pt0(ks:List Nat)(fl:List Int)(N:Nat):Nat->Rat:=dfl (bH ks fl N) ks
def pt1(ks ps:List Nat)(fl:List Int):Nat->Rat:=sw ks ps (sX ks ps (ps.map (tuS ks fl))) ps.length
def pt2(ks ps:List Nat)(fl:List Int)(N:Nat):Nat->Rat:=fun i=>((gI fl i:Int):Rat)-pt0 ks fl N i-pt1 ks ps fl i
section
variable {rows:List Row}{N:Nat}{ks ps:List Nat}{g x1:AV}{fl:List Int}
theorem ZM(hok:GOK N ks ps)(hl:fl.length=ks.length)(hb:∀x∈fl,-100<=x/\x<=100):∃L,L<=1000000/\∀j,dn (bH ks fl N j) L 300000000:=
 Xo (XF (f:=fo ks N) (gl:=gnS N ks fl ks.length) hok (fun v hv=>by
  rw[LJ hok hl hb hv ks.length (Nat.le_refl _)];have:=Rd (v:=v) hl hb ks.length (Nat.le_refl _);have:=Q8 hok hv
  omega) (bN ks N)) hok.n6
theorem ZJ(hok:GOK N ks ps)(hl:fl.length=ks.length)(hb:∀x∈fl,-100<=x/\x<=100):∃L,L<=1000000/\∀j,dn (sX ks ps (ps.map (tuS ks fl)) j) L 300000000:=
 Xo (Yt hok fun i hi=>Nl hok hl hb hi) hok.pk
theorem Py(hGZ:GZ rows)(hg:GRd rows g N ks ps)(h:IsL rows x1 fl)(hl:fl.length=ks.length)(hb:∀x∈fl,-100<=x/\x<=100):∃q,Ret F 68 [g,x1] rows=some q/\M8 rows ks.length (pt0 ks fl N) (pt1 ks ps fl) (pt2 ks ps fl N) q:=by
 obtain⟨ev,pv,rfl,he,hp,_⟩:=id hg.eq;have hok:=hg.ok;have o1:=Am he;have o2:=Am hp;have hek:=hok.ek;have hpk:=hok.pk;obtain⟨L1,hL1,hh⟩:=ZM hok hl hb;obtain⟨L2,hL2,ht⟩:=ZJ hok hl hb;have hL12:L1*L2<=1000000*1000000:=Nat.mul_le_mul hL1 hL2;have hd:=Wj (ks:=ks) hh;have hs:=Yf (ks:=ks) (ps:=ps) ht
 have hfi:∀i,i<ks.length->dn ((gI fl i:Int):Rat) L1 100000000:=fun i hi=>I8 (hh 0).L0 (by
  have:=Vo hl hb i hi;have:=Nat.mul_le_mul (show(gI fl i).natAbs<=100 by omega) hL1
  omega)
 obtain⟨B,hB⟩:∃B,B=rows++[.cells [.int .i64 N,ev,pv],.cells [.nilslice,.nilslice,.nilslice]]:=⟨_,rfl⟩
 have hBl:B.length=rows.length+2:=by rw[hB];simp
 have hFB:Fx rows B (fun _=>False):=by rw[hB];exact Fx.app _
 have hZB:GZ B:=hGZ.fx hFB (by simp);have heB:El B 2 ev (Ac .i64 (eC ks)) ks.length:=by rw[hB];exact Ai he _
 have hgB:=I2 hg hFB;have hGB:Af B rows.length=some [.int .i64 N,ev,pv]:=by rw[hB];simp[Af]
 have hflB:IsL B x1 fl:=by rw[hB];exact Ah h _
 have r70:=Rq (rows:=B++[.cells [.nilslice,.nilslice,.nilslice]]) (hZB.fx (Fx.app (p:=fun _=>False) _) (by simp)) (hgB.app _) (Ah hflB _) hl hb;have r1:∀(R:List Row) (i:Nat),i<ks.length->Ret F 95 [fr ((gI fl i:Int):Rat),fr (pt0 ks fl N i)] R=some (fr (((gI fl i:Int):Rat)-pt0 ks fl N i),R,none):=fun R i hi=>Hv (hfi i hi) (hd i) (by have:=Nat.mul_le_mul hL1 hL1;omega) (by omega) (by omega)
 have r2:∀(R:List Row) (i:Nat),i<ks.length->Ret F 95 [fr (((gI fl i:Int):Rat)-pt0 ks fl N i),fr (pt1 ks ps fl i)] R=some (fr (((gI fl i:Int):Rat)-pt0 ks fl N i-pt1 ks ps fl i),R,none):=fun R i hi=>Hv (Lg (hfi i hi) (hd i)) (hs ps.length i) (by omega) (by omega) (by
  have:=Nat.mul_le_mul (show ps.length*300000000<=1800000000 by omega) hL1
  omega)
 have r0:∀(R:List Row) (e:Nat),Ret F 95 [fr (bH ks fl N (gN ks e%6)),fr (bH ks fl N (gN ks e/6))] R=some (fr (dfl (bH ks fl N) ks e),R,none):=fun R e=>by
  unfold dfl;exact Hv (hh _) (hh _) (by have:=Nat.mul_le_mul hL1 hL1;omega) (by omega) (by omega)
 -- behind the first list
 have hmid:∀(L:List Row) (v:AV) (sl:List (Nat×AV)),PO B [.cells [.nilslice,.nilslice,.nilslice],.cells (frs (bH ks fl N) N)] w0 L v (frs (dfl (bH ks fl N) ks) ks.length) ks.length->lk sl 1=x1->lk sl 2 = .ptr rows.length 0->lk sl 4 = .ptr (rows.length+1) 0->lk sl 5 = .ptr B.length 0->
   Ex F C68 [.code c68s82] ⟨mk 180 sl,B++L,rows.length⟩ fun x=>M8 rows ks.length (pt0 ks fl N) (pt1 ks ps fl) (pt2 ks ps fl N) (fin rows x.1 x.2.1 x.2.2):=by
  intro L v sl hP s1 s2 s4 s5;have hgL:=I2 hgB (Fx.app (p:=fun _=>False) L);obtain⟨tv,X,r40,hX,htl,_⟩:=Iw hgL (Ah hflB L) hl hb;obtain⟨B2,hB2⟩:∃B2,B2=B++(L++X):=⟨_,rfl⟩
  rw[List.append_assoc,<-hB2]at r40 htl;have hG2:Af B2 rows.length=some [.int .i64 N,ev,pv]:=by rw[hB2];exact Aj hGB _
  have he2:El B2 2 ev (Ac .i64 (eC ks)) ks.length:=by rw[hB2];exact Ai heB _
  have hp2:El B2 3 pv (Ac .i64 (pC ps)) ps.length:=by rw[hB2,hB,List.append_assoc];exact Ai hp _
  have hZ2:GZ B2:=by rw[hB2];exact hZB.fx (Fx.app (p:=fun _=>False) _) (by simp)
  have lnp:=Aw hp2;have hP2:=hP.app X;have hG':=Aj hGB L;have hsd:v = .nilslice\/B.length<sid v:=by
   rcases hP.s with e|e
   ·exact .inl e
   ·simp only[List.length_cons,List.length_nil]at e
    exact .inr (by omega)
  have hdv:El B2 2 v (frs (pt0 ks fl N) ks.length) ks.length:=by rw[hB2];exact GK hP2.a (by omega)
  have hl42:=TP (B:=B2) (low:=rows.length) (x1:=x1) (x4:=.ptr (rows.length+1) 0) (x5:=.ptr B.length 0) (r:=fun x=>M8 rows ks.length (pt0 ks fl N) (pt1 ks ps fl) (pt2 ks ps fl N) (fin rows x.1 x.2.1 x.2.2)) hZ2 hek hpk rfl he2 hp2 (by rw[hB2];simp;omega) hG2 htl (by simp) (fun L2 v11 sl' hA hv0 t1 t2 t4 t5 t11=>by
   have hBL:B2++L2=B++(L++X++L2):=by rw[hB2,List.append_assoc]
   have hZ3:GZ (B2++L2):=hZ2.fx (Fx.app (p:=fun _=>False) _) (by simp);have hdv':=Ai hdv L2;have hsol:∀R',Fx (B2++L2) R' (fun _=>False)->Ret F 98 [v11,.int .i64 ps.length] R'=some (.slice R'.length 0 ps.length (.at_ ps.length),R'++[.cells (frs (sX ks ps (ps.map (tuS ks fl))) ps.length)],none):=fun R' hF=>LL hpk hZ3 hA hv0 hF (Yt hok fun i hi=>Nl hok hl hb hi)
   rw[hBL]at hZ3 hdv' hsol ⊢
   exact Uj hB hek hpk hZ3 h hl he hp (by rw[List.append_assoc,List.getElem?_append_left (List.getElem?_eq_some_iff.1 hP.o).1];exact hP.o) hdv' hsd hsol (fun R p e hp he=>Q6 (ht p) Rx (by omega) (by omega)) (fun R p e hp he=>S8 (hs p e) (Ok (ht p) Rx) (by omega) (by omega) (by omega)) r1 r2 t1 t2 t4 t5 t11) ps.length 0 [] .nilslice rfl (Nat.zero_le _) (by rw[Nat.zero_mul];exact BZ) (fun _=>rfl)
  rw[List.append_nil]at hl42;simp[s1,s2,s4,s5,hG',seg,r40,hG2,lnp];simpa using hl42
 have hP0:PO B [.cells [.nilslice,.nilslice,.nilslice],.cells (frs (bH ks fl N) N)] w0 [.cells [.nilslice,.nilslice,.nilslice],.cells (frs (bH ks fl N) N)] .nilslice (frs (dfl (bH ks fl N) ks) 0) 0:=⟨BZ,rfl,.inl rfl,fun _ _ _=>rfl,Nat.le_refl _⟩
 have hl83:=UL (low:=rows.length) (N:=N) (h:=bH ks fl N) (x1:=x1) (x2:=.ptr rows.length 0) (x4:=.ptr (rows.length+1) 0) (r:=fun x=>M8 rows ks.length (pt0 ks fl N) (pt1 ks ps fl) (pt2 ks ps fl N) (fin rows x.1 x.2.1 x.2.2)) hok heB (by omega) rfl rfl (fun R e he=>r0 R e) hmid ks.length 0 _ .nilslice rfl (Nat.zero_le _) hP0;refine E9 F68 (R:=M8 rows ks.length (pt0 ks fl N) (pt1 ks ps fl) (pt2 ks ps fl N)) (show Ex F C68 [.code c68b] ⟨mk 180 [(0,.agg [.int .i64 N,ev,pv]),(1,x1)],rows,rows.length⟩ _ from ?_);have hG5:Af (B++[.cells [.nilslice,.nilslice,.nilslice],.cells (frs (bH ks fl N) N)]) rows.length=some [.int .i64 N,ev,pv]:=Aj hGB _;have hG4:Af (B++[.cells [.nilslice,.nilslice,.nilslice]]) rows.length=some [.int .i64 N,ev,pv]:=Aj hGB _;have ln:=Aw (Ai heB [.cells [.nilslice,.nilslice,.nilslice],.cells (frs (bH ks fl N) N)]);simp only[List.append_assoc,List.length_append,List.length_cons,List.length_nil,List.cons_append,List.nil_append,Nat.zero_add]at r70;have hB0:rows++[Row.cells [.int .i64 N,ev,pv],.cells [.nilslice,.nilslice,.nilslice],.cells [.nilslice,.nilslice,.nilslice]]=B++[.cells [.nilslice,.nilslice,.nilslice]]:=by rw[hB];simp
 rw[hBl]at hl83 r70;simp[o1,o2,AV.cells,hB0,hG4,seg,r70,hG5,ln];simpa using hl83
end
def FrL(R:List Row)(v:AV)(f:Nat->Rat)(m:Nat):Prop:=El R 2 v (frs f m) m
theorem FrL.app{R:List Row}{v:AV}{f:Nat->Rat}{m:Nat}(h:FrL R v f m)(X:List Row):FrL (R++X) v f m:=Ai h X
section
variable {rows:List Row}{v:AV}{f:Nat->Rat}{m:Nat}{r:AV×List Row×Nat->Prop}
theorem L5(h:FrL rows v f m)(hm:m<=1000)(hc:∀(L:List Row) (w:AV),Acc rows L 2 (.op 2) w (frs f m) m->r (w,rows++L,rows.length)):
  ∀(d i:Nat) (L:List Row) (w:AV),m-i=d->i<=m->Acc rows L 2 (.op 2) w (frs f i) i->Lc69l2 F (.fn [.t 2]) w v (.int .i64 m) (.int .i64 i) (rows++L) rows.length r:=by
 intro d
 induction d with
 |zero=>
  intro i L w hd hi hA;have e:i=m:=by omega
  subst e;unfold Lc69l2;simp;exact hc L w hA
 |succ d ih=>
  intro i L w hd hi0 hA;have hi:i<m:=by omega
  have hww:IntKind.i64.wrap ((i:Int)+1)=((i+1:Nat):Int):=wS (by omega);have h':=Ai h L;have ix:=Cd h' hi;have ld:=Hr h' hi;rw[Si]at ld;have hlw:Aa rows.length (rows.length+L.length)=rows.length:=Ae (by omega);have hA1:=Fv hA [.cells [.int .i64 (f i).num,.int .i64 ((f i).den:Int)]];obtain⟨w',L',happ,hA2⟩:=DP (low:=rows.length) (b:=16) (x:=[.int .i64 (f i).num,.int .i64 ((f i).den:Int)]) hA1 rfl (by omega) (by omega) (Nat.le_refl _);have hfrs:frs f i++[.int .i64 (f i).num,.int .i64 ((f i).den:Int)]=frs f (i+1):=rfl;rw[hfrs]at hA2;have:=ih (i+1) L' w' (by omega) (by omega) hA2;have hE:Af (rows++(L++[Row.cells [.int .i64 (f i).num,.int .i64 ((f i).den:Int)]])) (rows.length+L.length)=some [.int .i64 (f i).num,.int .i64 ((f i).den:Int)]:=by
   unfold Af;rw[List.getElem?_append_right (by omega),Nat.add_sub_cancel_left];simp
  simp only[List.append_assoc,List.cons_append,List.nil_append,List.length_append,List.length_cons,List.length_nil,Nat.zero_add]at happ;generalize (f i).num=a at *;generalize ((f i).den:Int)=b at *;unfold Lc69l2;simp[hi,ix,ld,AV.cells,splice,hlw,hE,Aq,happ,hww];simpa using this
theorem Nz(h:FrL rows v f m)(hm:m<=1000):∃w X,Ret F 69 [v] rows=some (w,rows++X,none)/\FrL (rows++X) w f m/\((w = .nilslice/\X=[]/\m=0)\/(w = .slice rows.length 0 m (.op 2)/\X=[.cells (frs f m)])):=by
 have ln:=Aw h
 let Q:AV×List Row×Option Nat->Prop:=fun q=>∃w X,q=(w,rows++X,none)/\FrL (rows++X) w f m/\((w = .nilslice/\X=[]/\m=0)\/(w = .slice rows.length 0 m (.op 2)/\X=[.cells (frs f m)]))
 have hl:=L5 (r:=fun x=>Q (fin rows x.1 x.2.1 x.2.2)) h hm (fun L w hA=>by
  obtain⟨h1,h2⟩:=id hA;rcases h2 with ⟨rfl,e⟩|⟨k,rfl,hk⟩
  ·have hm0:m=0:=by
    have:=congrArg List.length e;rw[Av]at this;simp at this;omega
   refine⟨.nilslice,[],by simp,?_,.inl ⟨rfl,rfl,hm0⟩⟩;subst hm0;exact BS
  ·have hf:=DF (rows:=rows) (L:=L) (k:=k) (o:=0) (n:=m) (c:=.op 2) hk (Ef m)
   refine⟨_,[.cells (frs f m)],hf,?_,.inr ⟨rfl,rfl⟩⟩;show El _ _ _ _ _;have hr:Af (rows++[.cells (frs f m)]) rows.length=some (frs f m):=by simp[Af]
   unfold El A5;simp only[hr];rw[Ci (Av m)]
   rfl) m 0 [] .nilslice rfl (Nat.zero_le _) BZ
 rw[List.append_nil]at hl
 obtain⟨q,hq,w,X,e,h1,h2⟩:=E9 F69 (R:=Q) (rows:=rows) (vs:=[v]) (show Ex F (.fn [.t 2]) [.code c69b] ⟨mk 22 [(0,v)],rows,rows.length⟩ _ by
  simp[ln]
  simpa using hl)
 subst e;exact⟨w,X,hq,h1,h2⟩
end
section
variable {rows:List Row}{N:Nat}{ks ps:List Nat}{g x1:AV}{fl:List Int}
end
abbrev C23:Ctx:=.fn [.cellN 4 3,.t 5]
theorem Rs{rows:List Row}{l:List AV}{X:List Row}{e:Int}:fin rows (.tup [.agg l,.int .i64 e]) (rows++X) rows.length=(.tup [.agg l,.int .i64 e],rows++X,none)\/(fin rows (.tup [.agg l,.int .i64 e]) (rows++X) rows.length=(.tup [.agg l,.int .i64 e],rows,none)/\(AV.agg l).ids.all (· < rows.length)=true):=by
 have hids:(AV.tup [.agg l,.int .i64 e]).ids=(AV.agg l).ids:=by
  simp[AV.ids,AV.ids.idsL]
 unfold fin;rw[if_pos rfl,hids]
 split
 ·rename_i h;exact .inr ⟨rfl,h⟩
 ·rename_i hn
  left
  split
  ·rename_i i he
   split
   ·rw[if_neg]
    intro h;simp only[Bool.and_eq_true]at h;have h2:(AV.agg l).ids.isEmpty=true:=by
     have:=h.2;simp only[AV.plain1,List.all_cons,Bool.and_eq_true]at this;exact this.1
    rw[he]at h2;simp at h2
   ·rfl
  ·rfl
def Aa6(rows:List Row)(m:Nat)(a b c:Nat->Rat)(q:AV×List Row×Option Nat):Prop:=
 ∃v0 v1 v2 X,q=(.tup [.agg [v0,v1,v2],.int .i64 0],rows++X,none)/\FrL (rows++X) v0 a m/\FrL (rows++X) v1 b m/\FrL (rows++X) v2 c m
section
variable {R:List Row}{low O m i:Nat}{x4 vi:AV}{ws vs:List AV}{f:Nat->Rat}{r:AV×List Row×Nat->Prop}
theorem MZ(hi:i<3)(hv:vs[i]?=some vi)(hm:m<=1000)(h:FrL R vi f m)(hO:R[O]?=some (.cells ws))(hw:ws.length=3)(hlow:low<=O)
  (hn:∀(X:List Row) (w:AV),(w = .nilslice\/R.length<=sid w)->FrL (R++X) w f m->Lc23l2 F C23 x4 (.ptr O 0) (.agg vs) (.int .i64 (i+1:Nat)) ((R++X).set O (.cells (ws.set i w))) low r):
  Lc23l2 F C23 x4 (.ptr O 0) (.agg vs) (.int .i64 i) R low r:=by
 obtain⟨w,X,r69,hwF,hws⟩:=Nz h hm;have hOl:=(List.getElem?_eq_some_iff.1 hO).1;have hone:w.one=true:=Am hwF;have hw':w = .nilslice\/R.length<=sid w:=by
  rcases hws with ⟨e,_⟩|⟨e,_⟩
  ·exact .inl e
  ·subst e;exact .inr (Nat.le_refl _)
 have:=hn X w hw' hwF;have hww:IntKind.i64.wrap ((i:Int)+1)=((i+1:Nat):Int):=wS (by omega);have hlw:Aa low O=low:=lwS (by omega);have hc:cells? (R++X) O=some ws:=by unfold cells?;rw[List.getElem?_append_left hOl,hO]
 have ii:AQ (i:Int) 3=some i:=by rw[Bw (by omega) (by omega),Int.toNat_natCast]
 have hil:i<ws.length:=by omega
 have hst:evE (R++X) low (.store1 (.c (.ptr O i)) (.c w))=some (.tup [],(R++X).set O (.cells (ws.set i w)),low):=by
  rw[A8];simp only[hc,Option.bind_some];rw[if_pos ⟨hil,hone⟩,hlw]
 have hi3:(i:Int)<3:=by omega
 unfold Lc23l2;simp[-A8,hi3,ii,hv,r69,hst,hww];simpa using this
end
section
variable {rows:List Row}{N:Nat}{ks ps:List Nat}{g x1:AV}{fl:List Int}
theorem FrL.put{R:List Row}{v:AV}{f:Nat->Rat}{m O:Nat}{y:Row}(h:FrL R v f m)(hO:v = .nilslice\/sid v≠O):FrL (R.set O y) v f m:=by
 have hS:Sm R.length O R (R.set O y):=CV (AR (Nat.le_refl _)) (.inl rfl);refine BI hS h ?_;rcases Bh h with e|e
 ·exact .inl e
 ·rcases hO with e2|e2
  ·exact .inl e2
  ·exact .inr ⟨e,e2⟩
theorem Jg(hGZ:GZ rows)(hg:GRd rows g N ks ps)(h:IsL rows x1 fl)(hl:fl.length=ks.length)(hb:∀x∈fl,-100<=x/\x<=100):∃q,Ret F 23 [g,x1] rows=some q/\Aa6 rows ks.length (pt0 ks fl N) (pt1 ks ps fl) (pt2 ks ps fl N) q:=by
 obtain⟨ev,pv,rfl,he,hp,_⟩:=id hg.eq;have hok:=hg.ok;have o1:=Am he;have o2:=Am hp;have hek:=hok.ek;obtain⟨B,hB⟩:∃B,B=rows++[Row.cells [.int .i64 N,ev,pv],.cells [.nilslice,.nilslice,.nilslice]]:=⟨_,rfl⟩
 have hBl:B.length=rows.length+2:=by rw[hB];simp
 have heB:El B 2 ev (Ac .i64 (eC ks)) ks.length:=by rw[hB];exact Ai he _
 have hgB:GRd B (.agg [.int .i64 N,ev,pv]) N ks ps:=by rw[hB];exact hg.app _
 have hflB:IsL B x1 fl:=by rw[hB];exact Ah h _
 have hG:Af B rows.length=some [.int .i64 N,ev,pv]:=by rw[hB];simp[Af]
 have ho:=Eo hgB hflB hb (f:=67) (n:=ks.length) hl (by omega) (g':=.agg [.int .i64 N,ev,pv]) (fun L=>Dy (Ai heB L) rfl o2);rw[show((67:Nat):Int)=67 from rfl]at ho;obtain⟨R0,hR0⟩:∃R0,R0=B++[.cells [.nilslice,.nilslice,.nilslice]]:=⟨_,rfl⟩
 have hR0l:R0.length=rows.length+3:=by rw[hR0];simp[hBl]
 have hR0r:∃Y,R0=rows++Y:=⟨_,by rw[hR0,hB,List.append_assoc]⟩
 have hG0:Af R0 rows.length=some [.int .i64 N,ev,pv]:=by rw[hR0];exact Aj hG _
 obtain⟨Y0,hY0⟩:=hR0r;obtain⟨q,r68,v0,v1,v2,X,rfl,e0,e1,e2,i0,i1,i2⟩:=Py (rows:=R0) (hGZ.fx (R':=R0) (p:=fun _=>False) (by rw[hY0];exact Fx.app _) (by simp)) (by rw[hR0];exact hgB.app _) (by rw[hR0];exact Ah hflB _) hl hb
 let Q:AV×List Row×Option Nat->Prop:=Aa6 rows ks.length (pt0 ks fl N) (pt1 ks ps fl) (pt2 ks ps fl N)
 obtain⟨R1,hR1⟩:∃R1,R1=R0++X:=⟨_,rfl⟩
 rw[<-hR1]at r68 e0 e1 e2;have hR1l:rows.length+3<=R1.length:=by rw[hR1];simp;omega
 have hO1:R1[rows.length+2]?=some (.cells [.nilslice,.nilslice,.nilslice]):=by
  rw[hR1,List.getElem?_append_left (by omega),hR0,List.getElem?_append_right (by omega),show rows.length+2-B.length=0 by omega]
  rfl
 have h41:R1[rows.length+1]?=some (.cells [.nilslice,.nilslice,.nilslice]):=by
  rw[hR1,List.getElem?_append_left (by omega),hR0,List.getElem?_append_left (by omega),hB,List.getElem?_append_right (by omega),show rows.length+1-rows.length=1 by omega]
  rfl
 have hpre:∀{id:Nat},id<rows.length->R1[id]?=rows[id]?:=fun{id} hid=>by
  rw[hR1,hY0,List.append_assoc,List.getElem?_append_left hid]
 have hlw1:Aa rows.length (rows.length+1)=rows.length:=Ae (by omega);have main:Lc23l2 F C23 (.ptr (rows.length+1) 0) (.ptr (rows.length+2) 0) (.agg [v0,v1,v2]) (.int .i64 (0:Nat)) R1 rows.length fun x=>Q (fin rows x.1 x.2.1 x.2.2):=by
  refine MZ (vi:=v0) (by omega) rfl (by omega) e0 hO1 rfl (by omega) fun X1 a0 b0 f0=>?_
  obtain⟨R2,hR2⟩:∃R2,R2=(R1++X1).set (rows.length+2) (Row.cells (List.set [.nilslice,.nilslice,.nilslice] 0 a0)):=⟨_,rfl⟩
  rw[<-hR2];have hR2l:R1.length<=R2.length:=by rw[hR2];simp
  have g0:FrL R2 a0 (pt0 ks fl N) ks.length:=by rw[hR2];exact f0.put (by rcases b0 with e|e;exact .inl e;exact .inr (by omega))
  have g1:FrL R2 v1 (pt1 ks ps fl) ks.length:=by rw[hR2];exact(FrL.app e1 X1).put (by rcases i1 with e|e;exact .inl e;exact .inr (by omega))
  have g2:FrL R2 v2 (pt2 ks ps fl N) ks.length:=by rw[hR2];exact(FrL.app e2 X1).put (by rcases i2 with e|e;exact .inl e;exact .inr (by omega))
  have hO2:R2[rows.length+2]?=some (.cells [a0,.nilslice,.nilslice]):=by rw[hR2,List.getElem?_set_self (by simp;omega)];rfl
  have s2:∀id,id<R1.length->id≠rows.length+2->R2[id]?=R1[id]?:=fun id h1 h2=>by rw[hR2,List.getElem?_set_ne (by omega),List.getElem?_append_left h1]
  refine MZ (vi:=v1) (by omega) rfl (by omega) g1 hO2 rfl (by omega) fun X2 a1 b1 f1=>?_
  obtain⟨R3,hR3⟩:∃R3,R3=(R2++X2).set (rows.length+2) (Row.cells (List.set [a0,.nilslice,.nilslice] 1 a1)):=⟨_,rfl⟩
  rw[<-hR3];have hR3l:R2.length<=R3.length:=by rw[hR3];simp
  have k0:FrL R3 a0 (pt0 ks fl N) ks.length:=by rw[hR3];exact(g0.app X2).put (by rcases b0 with e|e;exact .inl e;exact .inr (by omega))
  have k1:FrL R3 a1 (pt1 ks ps fl) ks.length:=by rw[hR3];exact f1.put (by rcases b1 with e|e;exact .inl e;exact .inr (by omega))
  have k2:FrL R3 v2 (pt2 ks ps fl N) ks.length:=by rw[hR3];exact(g2.app X2).put (by rcases i2 with e|e;exact .inl e;exact .inr (by omega))
  have hO3:R3[rows.length+2]?=some (.cells [a0,a1,.nilslice]):=by rw[hR3,List.getElem?_set_self (by simp;omega)];rfl
  have s3:∀id,id<R1.length->id≠rows.length+2->R3[id]?=R1[id]?:=fun id h1 h2=>by rw[hR3,List.getElem?_set_ne (by omega),List.getElem?_append_left (by omega),s2 id h1 h2]
  refine MZ (vi:=v2) (by omega) rfl (by omega) k2 hO3 rfl (by omega) fun X3 a2 b2 f2=>?_
  obtain⟨R4,hR4⟩:∃R4,R4=(R3++X3).set (rows.length+2) (Row.cells (List.set [a0,a1,.nilslice] 2 a2)):=⟨_,rfl⟩
  rw[<-hR4];have hR4l:R3.length<=R4.length:=by rw[hR4];simp
  have l0:FrL R4 a0 (pt0 ks fl N) ks.length:=by rw[hR4];exact(k0.app X3).put (by rcases b0 with e|e;exact .inl e;exact .inr (by omega))
  have l1:FrL R4 a1 (pt1 ks ps fl) ks.length:=by rw[hR4];exact(k1.app X3).put (by rcases b1 with e|e;exact .inl e;exact .inr (by omega))
  have l2:FrL R4 a2 (pt2 ks ps fl N) ks.length:=by rw[hR4];exact f2.put (by rcases b2 with e|e;exact .inl e;exact .inr (by omega))
  have hO4:Af R4 (rows.length+2)=some [a0,a1,a2]:=by unfold Af;rw[hR4,List.getElem?_set_self (by simp;omega)];rfl
  have s4:∀id,id<R1.length->id≠rows.length+2->R4[id]?=R1[id]?:=fun id h1 h2=>by rw[hR4,List.getElem?_set_ne (by omega),List.getElem?_append_left (by omega),s3 id h1 h2]
  have h44:cells? R4 (rows.length+1)=some [.nilslice,.nilslice,.nilslice]:=by unfold cells?;rw[s4 _ (by omega) (by omega),h41]
  obtain⟨R5,hR5⟩:∃R5,R5=R4.set (rows.length+1) (Row.cells [a0,a1,a2]):=⟨_,rfl⟩
  have m0:FrL R5 a0 (pt0 ks fl N) ks.length:=by rw[hR5];exact l0.put (by rcases b0 with e|e;exact .inl e;exact .inr (by omega))
  have m1:FrL R5 a1 (pt1 ks ps fl) ks.length:=by rw[hR5];exact l1.put (by rcases b1 with e|e;exact .inl e;exact .inr (by omega))
  have m2:FrL R5 a2 (pt2 ks ps fl N) ks.length:=by rw[hR5];exact l2.put (by rcases b2 with e|e;exact .inl e;exact .inr (by omega))
  have t0:=Am m0;have t1:=Am m1;have t2:=Am m2;have hrow:Af R5 (rows.length+1)=some [a0,a1,a2]:=by unfold Af;rw[hR5,List.getElem?_set_self (by omega)]
  have hst:evE R4 rows.length (.storeN 3 (.c (.ptr (rows.length+1) 0)) (.c (.agg [a0,a1,a2])))=some (.tup [],R5,rows.length):=by
   rw[AM];simp only[h44,Option.bind_some];rw[if_pos ⟨rfl,by simp,by simp[t0,t1,t2]⟩,hlw1,hR5]
   rfl
  obtain⟨Z,hZ⟩:=Ob (B:=rows) (R:=R5) (by rw[hR5];simp;omega) (fun id hid=>by rw[hR5,List.getElem?_set_ne (by omega),s4 id (by omega) (by omega),hpre hid]);have hfin:Q (fin rows (.tup [.agg [a0,a1,a2],.int .i64 0]) R5 rows.length):=by
   rw[hZ]at m0 m1 m2 ⊢;rcases Rs (rows:=rows) (l:=[a0,a1,a2]) (X:=Z) (e:=0)with e|⟨e,hids⟩
   ·rw[e]
    exact⟨_,_,_,Z,rfl,m0,m1,m2⟩
   ·rw[e]
    simp only[OP,Ds,HV,List.append_nil,List.all_append,Bool.and_eq_true]at hids;refine⟨a0,a1,a2,[],by rw[List.append_nil],?_,?_,?_⟩
    ·rw[List.append_nil];exact O8 m0 hids.1
    ·rw[List.append_nil];exact O8 m1 hids.2.1
    ·rw[List.append_nil];exact O8 m2 hids.2.2
  unfold Lc23l2;simp[-AM,hO4,seg,hst,hrow];simpa using hfin
 refine E9 F23 (R:=Q) (rows:=rows) (vs:=[.agg [.int .i64 N,ev,pv],x1]) (show Ex F C23 [.code c23b] ⟨mk 32 [(0,.agg [.int .i64 N,ev,pv]),(1,x1)],rows,rows.length⟩ _ by
  have hB0:rows++[Row.cells [.int .i64 N,ev,pv],.cells [.nilslice,.nilslice,.nilslice],.cells [.nilslice,.nilslice,.nilslice]]=R0:=by rw[hR0,hB];simp
  have hO7:B.length=rows.length+2:=hBl;simp[AV.cells,o1,o2,<-hB,hG,seg,ho,AE,<-hR0,hG0,r68,hO7]
  simpa using main)
end
theorem WR{p q:Rat}:Ap [.int .i64 p.num,.int .i64 (p.den:Int)] [.int .i64 q.num,.int .i64 (q.den:Int)]=some (decide (p=q)):=by
 by_cases c:p=q
 ·subst c;simp[Ap]
 ·have h:¬(p.num=q.num/\p.den=q.den):=fun h=>c (Rat.ext h.1 h.2)
  by_cases c1:p.num=q.num
  ·have c2:¬(p.den=q.den):=fun e=>h ⟨c1,e⟩
   have c3:¬((p.den:Int)=q.den):=by omega
   simp[Ap,c,c1,c2,c3]
  ·simp[Ap,c,c1]
def smB(f g:Nat->Rat):Nat->Nat->Bool
 |0,_=>true
 |d+1,i=>decide (f i=g i)&&smB f g d (i+1)
theorem Nq{f g:Nat->Rat}:∀d i,smB f g d i=true↔∀j,i<=j->j<i+d->f j=g j
 |0,i=>by simp[smB];intro j h1 h2;omega
 |
  d+1,i=>by
  rw[smB,Bool.and_eq_true,Nq d (i+1),decide_eq_true_eq];constructor
  ·rintro ⟨h1,h2⟩ j h3 h4
   by_cases c:j=i
   ·subst c;exact h1
   ·exact h2 j (by omega) (by omega)
  ·intro h
   exact⟨h i (Nat.le_refl _) (by omega),fun j h1 h2=>h j (by omega) (by omega)⟩
section
variable {rows:List Row}{x y:AV}{f g:Nat->Rat}{m:Nat}
theorem Pa(h:FrL rows x f m)(k:FrL rows y g m)(hm:m<=1000000):∀(d i:Nat),m-i=d->i<=m->Lc28l2 F (.fn [.t 4]) x y (.int .i64 i) rows rows.length fun r=>fin rows r.1 r.2.1 r.2.2=(.bool (smB f g d i),rows,none):=by
 have ln:=Aw h;intro d
 induction d with
 |zero=>
  intro i hd hi;have e:i=m:=by omega
  subst e;unfold Lc28l2;simp[ln,smB]
 |succ d ih=>
  intro i hd hi0;have hi:i<m:=by omega
  have hw:IntKind.i64.wrap ((i:Int)+1)=((i+1:Nat):Int):=wS (by omega);have ix:=Cd h hi;have iy:=Cd k hi;have lx:=Hr h hi;have ly:=Hr k hi;rw[Si]at lx ly;have he:=WR (p:=f i) (q:=g i);have:=ih (i+1) (by omega) (by omega);rw[smB]
  by_cases c:f i=g i
  ·rw[decide_eq_true c]at he ⊢
   rw[Bool.true_and];unfold Lc28l2;simp[-Cc,ln,hi,ix,iy,lx,ly,eqA,he,hw];simpa using this
  ·rw[decide_eq_false c]at he ⊢
   rw[Bool.false_and];unfold Lc28l2;simp[-Cc,ln,hi,ix,iy,lx,ly,eqA,he,hw]
theorem CK(h:FrL rows x f m)(k:FrL rows y g m)(hm:m<=1000000):Ret F 28 [x,y] rows=some (.bool (smB f g m 0),rows,none):=by
 have l1:=Aw h;have l2:=Aw k;have:=Pa h k hm m 0 rfl (Nat.zero_le _);refine i28 F28 ?_;simp[l1,l2];simpa using this
end
section
variable {rows:List Row}{v:AV}{l:List Int}
theorem Np(h:IsL rows v l)(hl:l.length<=1000000)(hz:∀i,i<l.length->gI l i=0):∀(d i:Nat),l.length-i=d->i<=l.length->Lc42l2 F (.fn [.t 2]) v (.int .i64 i) rows rows.length fun r=>fin rows r.1 r.2.1 r.2.2=(.bool true,rows,none):=by
 have ln:=DI h;intro d
 induction d with
 |zero=>
  intro i hd hi;have e:i=l.length:=by omega
  subst e;unfold Lc42l2;simp[ln]
 |succ d ih=>
  intro i hd hi0;have hi:i<l.length:=by omega
  have hw:IntKind.i64.wrap ((i:Int)+1)=((i+1:Nat):Int):=wS (by omega);have ix:=Cd h hi;have ld:=If h hi;rw[Nat.mul_one]at ix;rw[hz i hi]at ld;have:=ih (i+1) (by omega) (by omega);unfold Lc42l2;simp[ln,hi,ix,ld,hw];simpa using this
theorem Ls(h:IsL rows v l)(hl:l.length<=1000000)(hz:∀i,i<l.length->gI l i=0):Ret F 42 [v] rows=some (.bool true,rows,none):=by
 have:=Np h hl hz l.length 0 rfl (Nat.zero_le _);refine i42 F42 ?_;simp;simpa using this
theorem FG(h:IsL rows v l)(hl:l.length<=1000):∃w X,Ret F 43 [v] rows=some (w,rows++X,none)/\FrL (rows++X) w (fun i=>((gI l i:Int):Rat)) l.length:=by
 by_cases h0:0<l.length
 ·refine⟨_,_,Ph h hl h0,?_⟩
  have hr:Af (rows++[.cells (frs (fun i=>((gI l i:Int):Rat)) l.length)]) rows.length=some (frs (fun i=>((gI l i:Int):Rat)) l.length):=by simp[Af]
  show El _ _ _ _ _;unfold El A5;simp only[hr];rw[Ci (Av _)]
  rfl
 ·have e:l.length=0:=by omega
  have ln:evP rows (.len 0 (.c v))=some (.int .i64 0):=by rw[DI h,e];rfl
  rw[e];refine⟨.nilslice,[],?_,by rw[List.append_nil];exact BS⟩;rw[List.append_nil];refine i43 F43 ?_;simp;unfold Lc43l2;simp[ln]
end
theorem Ej{n m:Nat}{y:Nat->Rat}{g:Nat->Nat->Rat}{k:Nat->Rat}:su n (fun v=>y v*su m fun e=>g e v*k e)=su m fun e=>k e*su n fun v=>y v*g e v:=by
 have e1:su n (fun v=>y v*su m fun e=>g e v*k e)=su n fun v=>su m fun e=>k e*(y v*g e v):=Ad fun v _=>by
  rw[<-Bx];exact Ad fun e _=>by grind
 rw[e1,Dh];exact Ad fun e _=>Bx _
theorem Ia{f:Nat->Rat}{a:Nat}:∀b,su (a+b) f=su a f+su b fun i=>f (a+i)
 |0=>by show su a f=su a f+0;grind
 |
  b+1=>by
  show su (a+b) f+f (a+b)=su a f+(su b _+f (a+b))
  rw[Ia b];grind
def dq(ks:List Nat)(e v:Nat):Rat:=((dd (gN ks e) v:Int):Rat)
def sq(ks ps:List Nat)(p e:Nat):Rat:=((sgn (gN ps p) (gN ks e):Int):Rat)
def fq(fl:List Int)(e:Nat):Rat:=((gI fl e:Int):Rat)
theorem Tc{ks:List Nat}{v j:Nat}:∀i,((zL ks v i j:Int):Rat)=su i fun e=>dq ks e v*dq ks e j
 |0=>rfl
 |i+1=>by rw[zL,su,Rat.intCast_add,Rat.intCast_mul,Tc i];rfl
theorem Qh{ks:List Nat}{fl:List Int}{v:Nat}:∀i,((gZ ks fl v i:Int):Rat)=su i fun e=>dq ks e v*fq fl e
 |0=>rfl
 |i+1=>by rw[gZ,su,Rat.intCast_add,Rat.intCast_mul,Qh i];rfl
section
variable {N:Nat}{ks ps:List Nat}{fl:List Int}
theorem QL(hok:GOK N ks ps){e:Nat}(he:e<ks.length)(φ:Nat->Rat):su N (fun v=>φ v*dq ks e v)=φ (gN ks e%6)-φ (gN ks e/6):=by
 have hee:=hok.ee _ (AH he);have h1:su N (fun v=>φ v*dq ks e v)=su N (fun v=>φ v*(if v=gN ks e%6 then 1 else 0))-su N (fun v=>φ v*(if v=gN ks e/6 then 1 else 0)):=by
  rw[<-I9];refine Ad fun v _=>?_
  unfold dq dd
  by_cases c1:v=gN ks e%6
  ·rw[if_pos c1,if_pos c1,if_neg (by omega)]
   show φ v*1=φ v*1-φ v*0;grind
  ·rw[if_neg c1,if_neg c1]
   by_cases c2:v=gN ks e/6
   ·rw[if_pos c2,if_pos c2]
    show φ v * -1=φ v*0-φ v*1;grind
   ·rw[if_neg c2,if_neg c2]
    show φ v*0=φ v*0-φ v*0;grind
 rw[h1,Et hee.2 fun i _ hi=>by rw[if_neg hi];grind,Et (show gN ks e/6<N by omega) fun i _ hi=>by rw[if_neg hi];grind,if_pos rfl,if_pos rfl];grind
theorem Ud(hok:GOK N ks ps){e:Nat}(he:e<ks.length):fo ks N (gN ks e%6)=fo ks N (gN ks e/6):=by
 have hee:=hok.ee _ (AH he);exact(AaD hok hee.2 (by omega)).2 (.step (.refl _) ⟨_,AH he,.inr ⟨rfl,rfl⟩⟩)
theorem UY(hok:GOK N ks ps)(hl:fl.length=ks.length)(hb:∀x∈fl,-100<=x/\x<=100)(y:Nat->Rat)(h:∀j,j<N->su (bN ks N) (fun r=>y r*bA ks (gnS N ks fl ks.length) N (fo ks N) r j)=0):su (bN ks N) (fun r=>y r*bA ks (gnS N ks fl ks.length) N (fo ks N) r N)=0:=by
 have h6:=hok.n6
 let w:Nat->Rat:=fun j=>su (rts (fo ks N) N).length fun t=>y (N+t)*EQ (fo ks N) ((rts (fo ks N) N)[t]?.getD 7) N j
 let du:Nat->Rat:=fun e=>su N fun v=>y v*dq ks e v
 have hT:∀t j,bA ks (gnS N ks fl ks.length) N (fo ks N) (N+t) j=if j<N then EQ (fo ks N) ((rts (fo ks N) N)[t]?.getD 7) N j else 0:=fun t j=>by
  by_cases c:j<N
  ·rw[Qx h6 c,if_pos c]
   unfold bT;rw[if_neg (by omega),Nat.add_sub_cancel_left]
  ·rw[Qz (by omega),if_neg c]
   unfold bT;rw[if_neg (by omega)];unfold EQ;rw[if_neg (by omega)]
 have hL:∀v j,v<N->j<N->bA ks (gnS N ks fl ks.length) N (fo ks N) v j=su ks.length fun e=>dq ks e v*dq ks e j:=fun v j hv hj=>by
  rw[Qx h6 hj];unfold bT gT;rw[if_pos hv,if_neg (by omega),Tc]
 have hR:∀v,v<N->bA ks (gnS N ks fl ks.length) N (fo ks N) v N=su ks.length fun e=>dq ks e v*fq fl e:=fun v hv=>by
  rw[Qz (Nat.le_refl _)];unfold bT gT;rw[if_pos hv,if_pos rfl,LJ hok hl hb hv ks.length (Nat.le_refl _),Qh]
 have h2:∀j,j<N->su ks.length (fun e=>dq ks e j*du e)+w j=0:=fun j hj=>by
  have:=h j hj;unfold bN at this;rw[Ia]at this;have e1:su N (fun r=>y r*bA ks (gnS N ks fl ks.length) N (fo ks N) r j)=su ks.length fun e=>dq ks e j*du e:=by
   rw[<-Ej];exact Ad fun v hv=>by rw[hL v j hv hj]
  have e2:su (rts (fo ks N) N).length (fun t=>y (N+t)*bA ks (gnS N ks fl ks.length) N (fo ks N) (N+t) j)=w j:=Ad fun t _=>by rw[hT,if_pos hj]
  rw[e1,e2]at this;exact this
 have hw:∀e,e<ks.length->w (gN ks e%6)=w (gN ks e/6):=fun e he=>by
  have hee:=hok.ee _ (AH he);refine Ad fun t _=>?_
  have:EQ (fo ks N) ((rts (fo ks N) N)[t]?.getD 7) N (gN ks e%6)=EQ (fo ks N) ((rts (fo ks N) N)[t]?.getD 7) N (gN ks e/6):=by
   unfold EQ;rw[Ud hok he]
   by_cases c:fo ks N (gN ks e/6)=(rts (fo ks N) N)[t]?.getD 7
   ·rw[if_pos ⟨hee.2,c⟩,if_pos ⟨by omega,c⟩]
   ·rw[if_neg fun h=>c h.2,if_neg fun h=>c h.2]
  rw[this]
 have hww:su N (fun j=>w j*w j)=0:=by
  have e0:su N (fun j=>w j*(su ks.length (fun e=>dq ks e j*du e)+w j))=0:=Ik fun j hj=>by rw[h2 j hj];grind
  have e1:su N (fun j=>w j*(su ks.length (fun e=>dq ks e j*du e)+w j))=su N (fun j=>w j*su ks.length (fun e=>dq ks e j*du e))+su N fun j=>w j*w j:=by
   rw[<-SC];exact Ad fun j _=>by grind
  have e2:su N (fun j=>w j*su ks.length (fun e=>dq ks e j*du e))=0:=by
   rw[Ej];refine Ik fun e he=>?_
   rw[QL hok he w,hw e he];grind
  rw[e1,e2]at e0;grind
 have hw0:=I5 hww;have hdu:∀e,e<ks.length->du e=0:=by
  have e0:su N (fun j=>y j*su ks.length (fun e=>dq ks e j*du e))=0:=Ik fun j hj=>by
   have:=h2 j hj;rw[hw0 j hj]at this;have e:su ks.length (fun e=>dq ks e j*du e)=0:=by grind
   rw[e];grind
  rw[Ej]at e0;exact I5 e0
 unfold bN;rw[Ia];have e1:su N (fun r=>y r*bA ks (gnS N ks fl ks.length) N (fo ks N) r N)=su ks.length fun e=>fq fl e*du e:=by
  rw[<-Ej];exact Ad fun v hv=>by rw[hR v hv]
 rw[e1,Ik fun e he=>by rw[hdu e he];grind,Ik fun t _=>by rw[hT,if_neg (by omega)];grind];grind
theorem Nh(hok:GOK N ks ps)(hl:fl.length=ks.length)(hb:∀x∈fl,-100<=x/\x<=100){v:Nat}(hv:v<N):su ks.length (fun e=>dq ks e v*pt0 ks fl N e)=su ks.length fun e=>dq ks e v*fq fl e:=by
 have h6:=hok.n6;have:=Gv (A:=bA ks (gnS N ks fl ks.length) N (fo ks N)) (n:=bN ks N) (cols:=N) (UY hok hl hb) v (by unfold bN;omega);rw[Qz (Nat.le_refl _)]at this;have e1:bT ks (gnS N ks fl ks.length) N (fo ks N) v 10=su ks.length fun e=>dq ks e v*fq fl e:=by
  unfold bT gT;rw[if_pos hv,if_pos rfl,LJ hok hl hb hv ks.length (Nat.le_refl _),Qh]
 rw[<-e1,<-this];have e2:su N (fun j=>bA ks (gnS N ks fl ks.length) N (fo ks N) v j*bH ks fl N j)=su N fun j=>bH ks fl N j*su ks.length fun e=>dq ks e j*dq ks e v:=Ad fun j hj=>by
  rw[Qx h6 hj];unfold bT gT;rw[if_pos hv,if_neg (by omega),Tc,Rat.mul_comm];congr 1;exact Ad fun e _=>Rat.mul_comm _ _
 show _=su N (fun j=>bA ks (gnS N ks fl ks.length) N (fo ks N) v j*bH ks fl N j);rw[e2,Ej];exact Ad fun e he=>by rw[QL hok he];rfl
theorem Oz(hok:GOK N ks ps)(hl:fl.length=ks.length)(hb:∀x∈fl,-100<=x/\x<=100){p:Nat}(hp:p<ps.length):su ks.length (fun e=>sq ks ps p e*pt1 ks ps fl e)=su ks.length fun e=>sq ks ps p e*fq fl e:=by
 have h6:=hok.pk;have hG:∀i j,i<ps.length->j<ps.length->sA ks ps (ps.map (tuS ks fl)) i j=su ks.length fun e=>sq ks ps i e*sq ks ps j e:=fun i j hi hj=>by
  rw[Q7 h6 hj,Js,Ce];exact Ad fun e _=>by rw[Rat.intCast_mul];rfl
 have hR:∀i,i<ps.length->sA ks ps (ps.map (tuS ks fl)) i ps.length=su ks.length fun e=>sq ks ps i e*fq fl e:=fun i hi=>by
  rw[XR (Nat.le_refl _),Pu hok hl hb hi,Ce];exact Ad fun e _=>by rw[Rat.intCast_mul];rfl
 have:=Gv (A:=sA ks ps (ps.map (tuS ks fl))) (n:=ps.length) (cols:=ps.length) (fun y h=>by
  have hz:=XJ hG h;have e1:su ps.length (fun r=>y r*sA ks ps (ps.map (tuS ks fl)) r ps.length)=su ps.length fun r=>y r*su ks.length fun e=>sq ks ps r e*fq fl e:=Ad fun r hr=>by rw[hR r hr]
  rw[e1,Ej (g:=fun e r=>sq ks ps r e)]
  exact Ik fun e he=>by rw[hz e he];grind) p hp
 rw[hR p hp]at this;rw[<-this];have e2:su ps.length (fun j=>sA ks ps (ps.map (tuS ks fl)) p j*sX ks ps (ps.map (tuS ks fl)) j)=su ps.length fun j=>sX ks ps (ps.map (tuS ks fl)) j*su ks.length fun e=>sq ks ps j e*sq ks ps p e:=Ad fun j hj=>by
  rw[hG p j hp hj,Rat.mul_comm];congr 1;exact Ad fun e _=>Rat.mul_comm _ _
 show _=su ps.length (fun j=>sA ks ps (ps.map (tuS ks fl)) p j*sX ks ps (ps.map (tuS ks fl)) j);rw[e2,Ej (g:=fun e r=>sq ks ps r e)];exact Ad fun e he=>rfl
theorem cyc(hok:GOK N ks ps){p:Nat}(hp:p<ps.length)(φ:Nat->Int):suZ ks.length (fun e=>(φ (gN ks e%6)-φ (gN ks e/6))*sgn (gN ps p) (gN ks e))=0:=by
 obtain⟨h1,h2,h3,k1,k2,k3⟩:=hok.pe _ (AH hp);generalize hq:gN ps p=q at *;have hm1:q/6%6<6:=Nat.mod_lt _ (by omega);have hm2:q%6<6:=Nat.mod_lt _ (by omega);obtain⟨i1,a1,a2,a3⟩:=DZ hm1 k1;obtain⟨i3,c1,c2,c3⟩:=DZ hm2 k2;obtain⟨i2,b1,b2,b3⟩:=DZ hm2 k3;have hs:∀e,e<ks.length->sgn q (gN ks e)=if e=i1\/e=i2 then 1 else if e=i3 then -1 else 0:=fun i hi=>by
  have e1:i=i1↔gN ks i=q/36*6+q/6%6:=⟨fun e=>by rw[e,a3],fun e=>Fb hok.es hi a1 (by omega)⟩
  have e2:i=i2↔gN ks i=q/6%6*6+q%6:=⟨fun e=>by rw[e,b3],fun e=>Fb hok.es hi b1 (by omega)⟩
  have e3:i=i3↔gN ks i=q/36*6+q%6:=⟨fun e=>by rw[e,c3],fun e=>Fb hok.es hi c1 (by omega)⟩
  unfold sgn;have d1:(gN ks i/6=q/36/\gN ks i%6=q/6%6)↔i=i1:=by rw[e1];omega
  have d2:(gN ks i/6=q/6%6/\gN ks i%6=q%6)↔i=i2:=by rw[e2];omega
  have d3:(gN ks i/6=q/36/\gN ks i%6=q%6)↔i=i3:=by rw[e3];omega
  simp only[d1,d2,d3]
 have l13:=KY hok.es a1 c1 (by omega);have l32:=KY hok.es c1 b1 (by omega);rw[Ic (g:=fun e=>φ (gN ks e%6)-φ (gN ks e/6)) l13 l32 hs ks.length (Nat.le_refl _),if_pos a1,if_pos b1,if_pos c1,a3,b3,c3];have x1:(q/36*6+q/6%6)%6=q/6%6:=by omega
 have x2:(q/36*6+q/6%6)/6=q/36:=by omega
 have y1:(q/6%6*6+q%6)%6=q%6:=by omega
 have y2:(q/6%6*6+q%6)/6=q/6%6:=by omega
 have z1:(q/36*6+q%6)%6=q%6:=by omega
 have z2:(q/36*6+q%6)/6=q/36:=by omega
 rw[x1,x2,y1,y2,z1,z2];omega
end
theorem NR{q:Nat}{ks:List Nat}{t:Int}{c:List Int}(ht : -50<=t/\t<=50)(hc:c.length=ks.length)(hb:∀e,e<ks.length -> -1000<=gI c e/\gI c e<=1000):∀i,i<=ks.length->∀e,e<ks.length->gI (sdS q ks (Lc t) c i) e=if e<i then gI c e+sgn q (gN ks e)*t else gI c e
 |0,_,e,_=>by rw[sdS,if_neg (by omega)]
 |
  i+1,hi,e,he=>by
  have ih:=NR (q:=q) ht hc hb i (by omega);have hl:=Eq (q:=q) (ks:=ks) (upd:=Lc t) hc (fun i s c h=>by simp[Lc,h]) i;rw[sdS]
  by_cases hz:sgn q (gN ks i)=0
  ·rw[if_pos hz,ih e he]
   by_cases e1:e=i
   ·subst e1
    rw[if_neg (by omega),if_pos (by omega),hz];omega
   ·by_cases e2:e<i
    ·rw[if_pos e2,if_pos (by omega)]
    ·rw[if_neg e2,if_neg (by omega)]
  ·rw[if_neg hz]
   show gI ((sdS q ks (Lc t) c i).set i _) e=_;rw[Lp (by omega)]
   by_cases e1:e=i
   ·subst e1
    have h1:=ih e he;rw[if_neg (by omega)]at h1;have h2:=Uh (q:=q) (k:=gN ks e) ht;have h3:=hb e he;rw[if_pos rfl,if_pos (by omega),h1];generalize sgn q (gN ks e)*t=z at *;rw[AG (n:=z) (by omega) (by omega),AG (by omega) (by omega)]
   ·rw[if_neg e1,ih e he]
    by_cases e2:e<i
    ·rw[if_pos e2,if_pos (by omega)]
    ·rw[if_neg e2,if_neg (by omega)]
theorem SA{ks ps:List Nat}{l:List Int}(hp6:ps.length<=6)(hb:∀q,q<ps.length -> -12<=gI l q/\gI l q<=12):∀p,p<=ps.length->∀e,e<ks.length->gI (swS ks ps l p) e=suZ p (fun q=>gI l q*sgn (gN ps q) (gN ks e)) /\ -(12*p:Int)<=gI (swS ks ps l p) e/\gI (swS ks ps l p) e<=12*p
 |
  0,_,e,he=>by
  rw[swS,BB (by simpa using he)];simp[suZ]
 |
  p+1,hp,e,he=>by
  have ih:=SA (ks:=ks) hp6 hb p (by omega);have hl:=DY (ks:=ks) (ps:=ps) (l:=l) p;have ht:=hb p (by omega);have e1:gI (swS ks ps l (p+1)) e=gI (swS ks ps l p) e+sgn (gN ps p) (gN ks e)*gI l p:=by
   rw[swS,NR (by omega) hl (fun e he=>by have:=(ih e he).2;omega) ks.length (Nat.le_refl _) e he,if_pos he]
  obtain⟨i1,i2,i3⟩:=ih e he;have h2:=Uh (q:=gN ps p) (k:=gN ks e) ht;rw[e1,suZ,i1,Int.mul_comm (gI l p)];rw[i1]at i2 i3;generalize sgn (gN ps p) (gN ks e)*gI l p=z at *;generalize suZ p (fun q=>gI l q*sgn (gN ps q) (gN ks e))=S at *;exact⟨rfl,by omega,by omega⟩
section
variable {N:Nat}{ks ps:List Nat}{fl:List Int}
theorem TQ(hok:GOK N ks ps)(hl:fl.length=ks.length)(hb:∀x∈fl,-100<=x/\x<=100)(hr:Yx ks fl){i:Nat}(hi:i<ps.length):gI (ps.map (tuS ks fl)) i=0:=by
 obtain⟨φ,hφ⟩:=hr;rw[Pu hok hl hb hi,<-cyc hok hi φ];exact Fh fun e he=>by rw[hφ e he,Int.mul_comm]
theorem WA(hok:GOK N ks ps){p:Nat}(hp:p<ps.length)(v:Nat):su ks.length (fun e=>sq ks ps p e*dq ks e v)=0:=by
 have h:=cyc hok hp (fun u=>if u=v then 1 else 0);have e1:suZ ks.length (fun e=>((if gN ks e%6=v then 1 else 0)-(if gN ks e/6=v then 1 else 0))*sgn (gN ps p) (gN ks e))=suZ ks.length fun e=>sgn (gN ps p) (gN ks e)*dd (gN ks e) v:=Fh fun e he=>by
  have hee:=hok.ee _ (AH he);rw[Int.mul_comm];congr 1;unfold dd
  by_cases c1:v=gN ks e%6
  ·rw[if_pos c1.symm,if_pos c1,if_neg (by omega)];rfl
  ·rw[if_neg (fun h=>c1 h.symm),if_neg c1]
   by_cases c2:v=gN ks e/6
   ·rw[if_pos c2.symm,if_pos c2];rfl
   ·rw[if_neg (fun h=>c2 h.symm),if_neg c2];rfl
 rw[e1]at h;have h2:=congrArg (fun z:Int=>(z:Rat)) h;simp only[Ce]at h2;have e2:su ks.length (fun e=>sq ks ps p e*dq ks e v)=su ks.length fun e=>((sgn (gN ps p) (gN ks e)*dd (gN ks e) v:Int):Rat):=Ad fun e _=>by rw[Rat.intCast_mul];rfl
 rw[e2];exact h2
theorem Ub(hok:GOK N ks ps)(hl:fl.length=ks.length)(hb:∀x∈fl,-100<=x/\x<=100)(hr:Yx ks fl){e:Nat}(he:e<ks.length):pt0 ks fl N e=fq fl e/\pt1 ks ps fl e=0:=by
 obtain⟨φ,hφ⟩:=id hr;constructor
 ·have h0:su N (fun v=>(bH ks fl N v-((φ v:Int):Rat))*su ks.length fun e=>dq ks e v*(pt0 ks fl N e-fq fl e))=0:=Ik fun v hv=>by
   have:=Nh hok hl hb hv;have e1:su ks.length (fun e=>dq ks e v*(pt0 ks fl N e-fq fl e))=su ks.length (fun e=>dq ks e v*pt0 ks fl N e)-su ks.length fun e=>dq ks e v*fq fl e:=by
    rw[<-I9];exact Ad fun e _=>by grind
   rw[e1,this];grind
  rw[Ej]at h0;have e2:su ks.length (fun e=>(pt0 ks fl N e-fq fl e)*su N fun v=>(bH ks fl N v-((φ v:Int):Rat))*dq ks e v)=su ks.length fun e=>(pt0 ks fl N e-fq fl e)*(pt0 ks fl N e-fq fl e):=Ad fun e he=>by
   rw[QL hok he (fun v=>bH ks fl N v-((φ v:Int):Rat))];congr 1;have:=hφ e he;unfold pt0 dfl fq;rw[<-this,Rat.intCast_sub];grind
  rw[e2]at h0;have:=I5 h0 e he;grind
 ·have h0:su ps.length (fun p=>sX ks ps (ps.map (tuS ks fl)) p*su ks.length fun e=>sq ks ps p e*pt1 ks ps fl e)=0:=Ik fun p hp=>by
   rw[Oz hok hl hb hp];have:su ks.length (fun e=>sq ks ps p e*fq fl e)=0:=by
    have h:=cyc hok hp φ;have h2:=congrArg (fun z:Int=>(z:Rat)) h;simp only[Ce]at h2;rw[<-show((0:Int):Rat)=0 from rfl,<-h2];refine Ad fun e he=>?_
    rw[hφ e he,Rat.intCast_mul,Rat.mul_comm]
    rfl
   rw[this];grind
  rw[Ej (g:=fun e p=>sq ks ps p e)]at h0;exact I5 (f:=pt1 ks ps fl) h0 e he
theorem QG(hok:GOK N ks ps)(hl:fl.length=ks.length)(hb:∀x∈fl,-100<=x/\x<=100){τ:Nat->Rat}(hs:∀e,e<ks.length->fq fl e=su ps.length fun q=>τ q*sq ks ps q e){e:Nat}(he:e<ks.length):pt0 ks fl N e=0/\pt1 ks ps fl e=fq fl e:=by
 constructor
 ·have h0:su N (fun v=>bH ks fl N v*su ks.length fun e=>dq ks e v*pt0 ks fl N e)=0:=Ik fun v hv=>by
   rw[Nh hok hl hb hv];have:su ks.length (fun e=>dq ks e v*fq fl e)=0:=by
    have e1:su ks.length (fun e=>dq ks e v*fq fl e)=su ks.length fun e=>dq ks e v*su ps.length fun q=>τ q*sq ks ps q e:=Ad fun e he=>by rw[hs e he]
    have e2:su ks.length (fun e=>dq ks e v*su ps.length fun q=>τ q*sq ks ps q e)=su ks.length fun e=>dq ks e v*su ps.length fun q=>sq ks ps q e*τ q:=Ad fun e _=>by
     congr 1;exact Ad fun q _=>Rat.mul_comm _ _
    rw[e1,e2,Ej (g:=fun q e=>sq ks ps q e)];refine Ik fun q hq=>?_
    have:=WA hok hq v;have e3:su ks.length (fun e=>dq ks e v*sq ks ps q e)=su ks.length fun e=>sq ks ps q e*dq ks e v:=Ad fun e _=>Rat.mul_comm _ _
    rw[e3,this];grind
   rw[this];grind
  rw[Ej]at h0;have e2:su ks.length (fun e=>pt0 ks fl N e*su N fun v=>bH ks fl N v*dq ks e v)=su ks.length fun e=>pt0 ks fl N e*pt0 ks fl N e:=Ad fun e he=>by
   rw[QL hok he (bH ks fl N)]
   rfl
  rw[e2]at h0;exact I5 h0 e he
 ·have h0:su ps.length (fun p=>(sX ks ps (ps.map (tuS ks fl)) p-τ p)*su ks.length fun e=>sq ks ps p e*(pt1 ks ps fl e-fq fl e))=0:=Ik fun p hp=>by
   have:=Oz hok hl hb hp;have e1:su ks.length (fun e=>sq ks ps p e*(pt1 ks ps fl e-fq fl e))=su ks.length (fun e=>sq ks ps p e*pt1 ks ps fl e)-su ks.length fun e=>sq ks ps p e*fq fl e:=by
    rw[<-I9];exact Ad fun e _=>by grind
   rw[e1,this];grind
  rw[Ej (g:=fun e p=>sq ks ps p e)]at h0;have e2:su ks.length (fun e=>(pt1 ks ps fl e-fq fl e)*su ps.length fun p=>(sX ks ps (ps.map (tuS ks fl)) p-τ p)*sq ks ps p e)=su ks.length fun e=>(pt1 ks ps fl e-fq fl e)*(pt1 ks ps fl e-fq fl e):=Ad fun e he=>by
   congr 1;have e3:su ps.length (fun p=>(sX ks ps (ps.map (tuS ks fl)) p-τ p)*sq ks ps p e)=su ps.length (fun p=>sX ks ps (ps.map (tuS ks fl)) p*sq ks ps p e)-su ps.length fun p=>τ p*sq ks ps p e:=by
    rw[<-I9];exact Ad fun p _=>by grind
   rw[e3,hs e he]
   rfl
  rw[e2]at h0;have:=I5 h0 e he;grind
theorem P7(hok:GOK N ks ps){τ:Nat->Int}(hs:∀e,e<ks.length->gI fl e=suZ ps.length fun q=>τ q*sgn (gN ps q) (gN ks e))(v:Nat):gZ ks fl v ks.length=0:=by
 have h:((gZ ks fl v ks.length:Int):Rat)=0:=by
  rw[Qh];have e1:su ks.length (fun e=>dq ks e v*fq fl e)=su ks.length fun e=>dq ks e v*su ps.length fun q=>sq ks ps q e*((τ q:Int):Rat):=Ad fun e he=>by
   congr 1;unfold fq;rw[hs e he,Ce];exact Ad fun q _=>by rw[Rat.intCast_mul,Rat.mul_comm];rfl
  rw[e1,Ej (g:=fun q e=>sq ks ps q e)];refine Ik fun q hq=>?_
  have:=WA hok hq v;have e3:su ks.length (fun e=>dq ks e v*sq ks ps q e)=su ks.length fun e=>sq ks ps q e*dq ks e v:=Ad fun e _=>Rat.mul_comm _ _
  rw[e3,this];grind
 exact ER h
end
section
variable {rows:List Row}{N:Int}{v ev pv:AV}{fe fp l:List Int}{m k:Nat}
theorem Jf{n:Int}(h:IsL rows v l)(hl:l.length<=1000000):∀(d i:Nat),l.length-i=d->i<=l.length->
  Lc39l2 F (.fn [.t 4]) v (.int .i64 n) (.int .i64 i) rows rows.length (fun r=>fin rows r.1 r.2.1 r.2.2=(.bool (if(l.drop i).any IV then false else decide ((l.length:Int)=n)),rows,none)):=by
 have ln:=DI h;intro d
 induction d with
 |zero=>
  intro i hd hi;have hi':i=l.length:=by omega
  subst hi';unfold Lc39l2;have e:(((l.length:Int))==n)=decide ((l.length:Int)=n):=by by_cases c:(l.length:Int)=n<;>simp[c]
  simp[ln,e]
 |succ d ih=>
  intro i hd hi0;have hi:i<l.length:=by omega
  have hw:IntKind.i64.wrap ((i:Int)+1)=((i+1:Nat):Int):=wS (by omega);have ix:=Cd h hi;have ld:=If h hi;rw[Nat.mul_one]at ix;have hih:=ih (i+1) (by omega) (by omega);have hdr:l.drop i=gI l i::l.drop (i+1):=by rw[List.drop_eq_getElem_cons hi,BB hi]
  rw[hdr,List.any_cons];generalize gI l i=x at *;unfold Lc39l2
  by_cases c1:x < -100
  ·have e:IV x=true:=decide_eq_true (.inl c1)
   simp[ln,hi,ix,ld,c1,e]
  ·by_cases c2:100<x
   ·have e:IV x=true:=decide_eq_true (.inr c2)
    simp[ln,hi,ix,ld,c1,c2,e]
   ·have e:IV x=false:=decide_eq_false (by omega)
    simp[ln,hi,ix,ld,c1,c2,e,hw];simpa using hih
theorem E5{n:Int}(h:IsL rows v l)(hl:l.length<=1000000):Ret F 39 [v,.int .i64 n] rows=some (.bool (decide ((l.length:Int)=n/\l.any IV=false)),rows,none):=by
 have:=Jf (n:=n) h hl _ 0 rfl (Nat.zero_le _);have e:decide ((l.length:Int)=n/\l.any IV=false)=if(l.drop 0).any IV then false else decide ((l.length:Int)=n):=by
  rw[List.drop_zero];cases l.any IV<;>simp
 rw[e];refine i39 F39 ?_;simp;simpa using this
end
structure LawIn(rows:List Row)(g lv:AV)(l:List Int):Prop where
 g:∃(x:Int) (ev pv:AV) (fe fp:List Int) (m0 k0:Nat),g = .agg [.int .i64 x,ev,pv]/\El rows 2 ev (Ac .i64 fe) m0/\m0<=9223372036854775807/\El rows 3 pv (Ac .i64 fp) k0/\k0<=9223372036854775807
 l:IsL rows lv l
theorem GR(rows:List Row)(l:List Int):∃v K,V7 rows 1 (Ac .i64 l) l.length=(v,rows++K,none)/\IsL (rows++K) v l/\Cp 1 v/\K.all (Row.under 0)=true:=by
 have h:=Dt (rows:=rows) (H:=[]) (cs:=Ac .i64 l) (n:=l.length) (sz:=1) (by simp[Ac]) (by omega);exact⟨_,_,rfl,h.1,h.2,Jx rfl BC⟩
section
variable {rows:List Row}
theorem JK{X:List Row}{vs:List AV}(h:Und rows X)(hv:(Row.cells vs).under (rows.length+X.length+1)=true):Und rows (X++[.cells vs]):=Ka h (fun y hy=>by
 simp only[List.mem_singleton]at hy;subst hy
 simpa using hv)
theorem Fw{N:Int}{ev pv:AV}{b:Nat}(h1:ev.under b=true)(h2:pv.under b=true):(Row.cells [.int .i64 N,ev,pv]).under b=true:=by
 simp[Row.under,AV.under,AV.ids];exact⟨by simpa[AV.under]using h1,by simpa[AV.under]using h2⟩
theorem AL{v:AV}{a b:Nat}(h:v.under a=true)(hab:a<=b):v.under b=true:=by
 have:=BU (y:=.cells [v]) (a:=a) (b:=b) (by simpa[Row.under]using h) hab;simpa[Row.under]using this
theorem ID{g:AV}{N:Nat}{ks ps:List Nat}(h:GRd rows g N ks ps):∃ev pv,g = .agg [.int .i64 N,ev,pv]/\ev.under rows.length=true/\pv.under rows.length=true/\ev.one=true/\pv.one=true/\El rows 2 ev (Ac .i64 (eC ks)) ks.length:=by
 obtain⟨ev,pv,e,h1,h2,h3⟩:=h.eq;exact⟨ev,pv,e,BX h1,BX h2,Am h1,Am h2,h1⟩
end
structure Beg(rows:List Row)(gv:AV)(N:Nat)(ks ps:List Nat)(B1 B3 B4:List Row)(ev1 pv1 ev2 pv2:AV):Prop where
 gx:∃(x:Int) (ev pv:AV),gv = .agg [.int .i64 x,ev,pv]/\ev.one=true/\pv.one=true/\Ret F 15 [gv] (rows++[.cells [.int .i64 x,ev,pv]])=some (.agg [.int .i64 N,ev1,pv1],B1,none)/\Af (rows++[.cells [.int .i64 x,ev,pv]]) rows.length=some [.int .i64 x,ev,pv]
 r17:Ret F 17 [.agg [.int .i64 N,ev1,pv1]] (B1++[.cells [.int .i64 N,ev1,pv1]])=some (.agg [.int .i64 N,ev2,pv2],B3,none)
 o:ev1.one=true/\pv1.one=true/\ev2.one=true/\pv2.one=true
 l1:rows.length<=B1.length
 l3:rows.length<=B3.length
 r2:Af (B1++[.cells [.int .i64 N,ev1,pv1]]) B1.length=some [.int .i64 N,ev1,pv1]
 e4:B3++[.cells [.int .i64 N,ev2,pv2]]=B4
 rx:Af B4 B1.length=some [.int .i64 N,ev1,pv1]
 ry:Af B4 B3.length=some [.int .i64 N,ev2,pv2]
 gx4:GRd B4 (.agg [.int .i64 N,ev1,pv1]) N ks ps
 gy4:GRd B4 (.agg [.int .i64 N,ev2,pv2]) N ks ps
 un:∃Y,B4=rows++Y/\Und rows Y
 gy3:GRd B3 (.agg [.int .i64 N,ev2,pv2]) N ks ps
 gx3:GRd B3 (.agg [.int .i64 N,ev1,pv1]) N ks ps
 u3:∃Y,B3=rows++Y/\Und rows Y
 rx3:Af B3 B1.length=some [.int .i64 N,ev1,pv1]
theorem UP{rows:List Row}{gv lv:AV}{l:List Int}(h:LawIn rows gv lv l):∃N ks ps B1 B3 B4 ev1 pv1 ev2 pv2,Beg rows gv N ks ps B1 B3 B4 ev1 pv1 ev2 pv2:=by
 obtain⟨x,ev,pv,fe,fp,m0,k0,rfl,he,hm,hp,hk0⟩:=h.g;have ue:=BX he;have up:=BX hp;have o1:=Am he;have o2:=Am hp
 -- tame
 obtain⟨R1,hR1⟩:∃R1,R1=rows++[.cells [.int .i64 x,ev,pv]]:=⟨_,rfl⟩
 have hl1:R1.length=rows.length+1:=by simp[hR1]
 have row1:Af R1 rows.length=some [.int .i64 x,ev,pv]:=by rw[hR1];exact B0
 obtain⟨N,ks,ps,g,X1,r15,u1,g1⟩:=QC (rows:=R1) (x:=x) (hR1 ▸ Ai he _) hm (hR1 ▸ Ai hp _) hk0 (by
  rw[hl1];exact⟨AL ue (by omega),AL up (by omega)⟩)
 obtain⟨ev1,pv1,rfl,ue1,up1,oe1,op1,_⟩:=ID g1;obtain⟨B1,hB1⟩:∃B1,B1=R1++X1:=⟨_,rfl⟩
 rw[<-hB1]at r15 g1 ue1 up1
 have U1:Und rows ([.cells [.int .i64 x,ev,pv]]++X1):=Ka (by
  have:=JK (rows:=rows) (X:=[]) (vs:=[.int .i64 x,ev,pv]) JE (Fw (AL ue (by simp)) (AL up (by simp)))
  simpa using this) (by rw[<-hR1];exact u1)
 have B1e:B1=rows++([.cells [.int .i64 x,ev,pv]]++X1):=by rw[hB1,hR1];simp
 obtain⟨Y1,hY1⟩:∃Y1,Y1=[Row.cells [.int .i64 x,ev,pv]]++X1:=⟨_,rfl⟩
 rw[<-hY1]at U1 B1e;obtain⟨B2,hB2⟩:∃B2,B2=B1++[.cells [.int .i64 N,ev1,pv1]]:=⟨_,rfl⟩
 have row2:Af B2 B1.length=some [.int .i64 N,ev1,pv1]:=by rw[hB2];exact B0
 have U2:Und rows (Y1++[.cells [.int .i64 N,ev1,pv1]]):=JK U1 (by
  have e:B1.length=rows.length+Y1.length:=by rw[B1e];simp
  rw[<-e]
  exact Fw (AL ue1 (by omega)) (AL up1 (by omega)))
 have B2e:B2=rows++(Y1++[.cells [.int .i64 N,ev1,pv1]]):=by rw[hB2,B1e];simp
 have g2:GRd B2 (.agg [.int .i64 N,ev1,pv1]) N ks ps:=by rw[hB2];exact g1.app _
 -- given
 obtain⟨g',X2,r17,u2,g3⟩:=NN (rows:=B2) g2;obtain⟨ev2,pv2,rfl,ue2,up2,oe2,op2,_⟩:=ID g3;obtain⟨B3,hB3⟩:∃B3,B3=B2++X2:=⟨_,rfl⟩
 rw[<-hB3]at r17 g3 ue2 up2;obtain⟨Y2,hY2⟩:∃Y2,Y2=(Y1++[.cells [.int .i64 N,ev1,pv1]])++X2:=⟨_,rfl⟩
 have U3:Und rows Y2:=by rw[hY2];exact Ka U2 (by rw[<-B2e];exact u2)
 have B3e:B3=rows++Y2:=by rw[hB3,B2e,hY2];simp
 obtain⟨B4,hB4⟩:∃B4,B4=B3++[.cells [.int .i64 N,ev2,pv2]]:=⟨_,rfl⟩
 obtain⟨Y3,hY3⟩:∃Y3,Y3=Y2++[.cells [.int .i64 N,ev2,pv2]]:=⟨_,rfl⟩
 have U4:Und rows Y3:=by
  rw[hY3];refine JK U3 ?_;have e:B3.length=rows.length+Y2.length:=by rw[B3e];simp
  rw[<-e];exact Fw (AL ue2 (by omega)) (AL up2 (by omega))
 have B4e:B4=rows++Y3:=by rw[hB4,B3e,hY3];simp
 have row4:Af B4 B3.length=some [.int .i64 N,ev2,pv2]:=by rw[hB4];exact B0
 have row2':Af B4 B1.length=some [.int .i64 N,ev1,pv1]:=by rw[hB4,hB3];exact Aj (Aj row2 _) _
 have row1':Af B4 B1.length=some [.int .i64 N,ev1,pv1]:=by rw[hB4,hB3];exact Aj (Aj row2 _) _
 have g4:GRd B4 (.agg [.int .i64 N,ev2,pv2]) N ks ps:=by rw[hB4];exact g3.app _
 have g4':GRd B4 (.agg [.int .i64 N,ev1,pv1]) N ks ps:=by rw[hB4,hB3];exact(g2.app _).app _
 have hlen1:rows.length<=B1.length:=by rw[B1e];simp
 have hlen3:rows.length<=B3.length:=by rw[B3e];simp
 refine⟨N,ks,ps,B1,B3,B4,ev1,pv1,ev2,pv2,⟨x,ev,pv,rfl,o1,o2,by rw[<-hR1];exact r15,by rw[<-hR1];exact row1⟩,by rw[<-hB2];exact r17,⟨oe1,op1,oe2,op2⟩,hlen1,hlen3,by rw[<-hB2];exact row2,hB4.symm,row2',row4,g4',g4,⟨Y3,B4e,U4⟩,g3,by rw[hB3];exact g2.app _,⟨Y2,B3e,U3⟩,by rw[hB3];exact Aj row2 _⟩
variable {F:Nat->Option IFn}{cx:Ctx}{k:List Itm}{s:St}{l:List (Nat×AV)}{rows:List Row}{low:Nat}{r:AV×List Row×Nat->Prop}
def c7r0:List Seg:=[
 .grp [(zp 172 (.idxA 3 1 (.t 24) (.c (.int .i64 0))),0),(zp 173 (.load1 (.t 172)),1),(zn 174 13,0),(zp 175 (.call [] (.c (.func 43 [])) [(.t 174)]),4)],
 zo 176 (.call [] (.c (.func 28 [])) [(.t 173),(.t 175)]),
 zm 177 176,
 .grp [(⟨some 178,.idxA 3 1 (.t 24) (.c (.int .i64 1)),some (177,true)⟩,0),(⟨some 179,.load1 (.t 178),some (177,true)⟩,1),(⟨some 180,.mv (.t 28),some (177,true)⟩,0)],
 .one ⟨some 181,.call [] (.c (.func 28 [])) [(.t 179),(.t 180)],some (177,true)⟩,
 zo 182 (.pick (.t 177) (.t 181) (.c (.bool false))),
 zm 183 182,
 .grp [(⟨some 184,.idxA 3 1 (.t 24) (.c (.int .i64 2)),some (183,true)⟩,0),(⟨some 185,.load1 (.t 184),some (183,true)⟩,1),(⟨some 186,.mv (.t 28),some (183,true)⟩,0)],
 .one ⟨some 187,.call [] (.c (.func 28 [])) [(.t 185),(.t 186)],some (183,true)⟩,
 zo 188 (.pick (.t 183) (.t 187) (.c (.bool false))),
 zm 189 188,
 .grp [(⟨some 190,.idxA 3 1 (.t 26) (.c (.int .i64 1)),some (189,true)⟩,0),(⟨some 191,.load1 (.t 190),some (189,true)⟩,1),(⟨some 192,.mv (.t 15),some (189,true)⟩,0),(⟨some 193,.call [] (.c (.func 43 [])) [(.t 192)],some (189,true)⟩,4)],
 .one ⟨some 194,.call [] (.c (.func 28 [])) [(.t 191),(.t 193)],some (189,true)⟩,
 zo 195 (.pick (.t 189) (.t 194) (.c (.bool false))),
 zm 196 195,
 .grp [(⟨some 197,.idxA 3 1 (.t 26) (.c (.int .i64 0)),some (196,true)⟩,0),(⟨some 198,.load1 (.t 197),some (196,true)⟩,1),(⟨some 199,.mv (.t 28),some (196,true)⟩,0)],
 .one ⟨some 200,.call [] (.c (.func 28 [])) [(.t 198),(.t 199)],some (196,true)⟩,
 zo 201 (.pick (.t 196) (.t 200) (.c (.bool false))),
 zm 202 201,
 .grp [(⟨some 203,.idxA 3 1 (.t 26) (.c (.int .i64 2)),some (202,true)⟩,0),(⟨some 204,.load1 (.t 203),some (202,true)⟩,1),(⟨some 205,.mv (.t 28),some (202,true)⟩,0)],
 .one ⟨some 206,.call [] (.c (.func 28 [])) [(.t 204),(.t 205)],some (202,true)⟩,
 zo 207 (.pick (.t 202) (.t 206) (.c (.bool false))),
 zm 208 207,
 .one ⟨some 209,.call [] (.c (.func 19 [])) [],some (208,true)⟩,
 zo 210 (.pick (.t 208) (.t 209) (.c (.bool false))),
 zm 4 210]
def c7k0:ICode:=.kill 211 Yn (.ops c7r0)
@[simp] theorem uc7k0:Ex F cx (.code c7k0::k) ⟨mk 211 l,rows,low⟩ r↔bnd (evP (rows++Ab 0 rn) (.idxA 3 1 (cl l 24) (ci 0))) fun v0=>bnd (evP (rows++Ab 1 rn) (.load1 (.c v0))) fun v1=>bnd (opC F (rows++Ab 4 rn) (rows.length+rn.length) [lk l 13] [] (.func 43 [])) fun q2=>q2.2.2=rows.length+rn.length/\bnd (some (rn++List.map (fun(x:Row)=>(3,x)) (q2.2.1.drop (rows.length+rn.length)))) fun e2=>bnd (Ret F 28 [v1,q2.1] (rows++List.map (fun(x:Nat×Row)=>x.2) e2)) fun q3=>bnd (gv q3.1 true (evP q3.2.1 (.idxA 3 1 (cl l 24) (ci 1)))) fun v4=>bnd (gv q3.1 true (evP q3.2.1 (.load1 (.c v4)))) fun v5=>bnd (gv q3.1 true (evP q3.2.1 (.mv (cl l 28)))) fun v6=>Bs F q3.1 true q3.2.1 (AB low q3.2.2) [v5,v6] [] (.func 28 []) fun v7 R7 L7=>bnd (evP R7 (.pick (.c q3.1) (.c v7) (.c (.bool false)))) fun v8=>bnd (gv v8 true (evP R7 (.idxA 3 1 (cl l 24) (ci 2)))) fun v9=>bnd (gv v8 true (evP R7 (.load1 (.c v9)))) fun v10=>bnd (gv v8 true (evP R7 (.mv (cl l 28)))) fun v11=>Bs F v8 true R7 L7 [v10,v11] [] (.func 28 []) fun v12 R12 L12=>bnd (evP R12 (.pick (.c v8) (.c v12) (.c (.bool false)))) fun v13=>bnd (gv v13 true (evP (R12++Ab 0 rn) (.idxA 3 1 (cl l 26) (ci 1)))) fun v14=>bnd (gv v13 true (evP (R12++Ab 1 rn) (.load1 (.c v14)))) fun v15=>bnd (gv v13 true (evP (R12++Ab 0 rn) (.mv (cl l 15)))) fun v16=>bnd (go v13 true (R12++Ab 4 rn) (R12.length+rn.length) (opC F (R12++Ab 4 rn) (R12.length+rn.length) [v16] [] (.func 43 []))) fun q17=>q17.2.2=R12.length+rn.length/\bnd (some (rn++List.map (fun(x:Row)=>(3,x)) (q17.2.1.drop (R12.length+rn.length)))) fun e17=>Bs F v13 true (R12++List.map (fun(x:Nat×Row)=>x.2) e17) L12 [v15,q17.1] [] (.func 28 []) fun v18 R18 L18=>bnd (evP R18 (.pick (.c v13) (.c v18) (.c (.bool false)))) fun v19=>bnd (gv v19 true (evP R18 (.idxA 3 1 (cl l 26) (ci 0)))) fun v20=>bnd (gv v19 true (evP R18 (.load1 (.c v20)))) fun v21=>bnd (gv v19 true (evP R18 (.mv (cl l 28)))) fun v22=>Bs F v19 true R18 L18 [v21,v22] [] (.func 28 []) fun v23 R23 L23=>bnd (evP R23 (.pick (.c v19) (.c v23) (.c (.bool false)))) fun v24=>bnd (gv v24 true (evP R23 (.idxA 3 1 (cl l 26) (ci 2)))) fun v25=>bnd (gv v24 true (evP R23 (.load1 (.c v25)))) fun v26=>bnd (gv v24 true (evP R23 (.mv (cl l 28)))) fun v27=>Bs F v24 true R23 L23 [v26,v27] [] (.func 28 []) fun v28 R28 L28=>bnd (evP R28 (.pick (.c v24) (.c v28) (.c (.bool false)))) fun v29=>Bs F v29 true R28 L28 [] [] (.func 19 []) fun v30 R30 L30=>bnd (evP R30 (.pick (.c v29) (.c v30) (.c (.bool false)))) fun v31=>Ex F cx k ⟨mk 211 ([(4,v31),(210,v31),(209,v30),(208,v29),(207,v29),(206,v28),(205,v27),(204,v26),(203,v25),(202,v24),(201,v24),(200,v23),(199,v22),(198,v21),(197,v20),(196,v19),(195,v19),(194,v18),(193,q17.1),(192,v16),(191,v15),(190,v14),(189,v13),(188,v13),(187,v12),(186,v11),(185,v10),(184,v9),(183,v8),(182,v8),(181,v7),(180,v6),(179,v5),(178,v4),(177,q3.1),(176,q3.1),(175,q2.1),(174,lk l 13),(173,v1),(172,v0)]++kp l Yn),R30,L30⟩ r:=rg
def c7s1:ICode:=(.seq c7k0 .ret)
@[simp] theorem uc7s1:U c7s1 (.seq c7k0 .ret):=ur
def c7r2:List Seg:=[
 zo 167 (.fieldA 1 (.t 5)),
 zo 168 (.load1 (.t 167)),
 zo 169 (.len 0 (.t 168)),
 zo 170 (.make [.int .i64 0] 8 (.t 169) (.t 169)),
 zo 171 (.call [] (.c (.func 43 [])) [(.t 170)]),
 zm 28 171]
def c7k2:ICode:=.kill 211 Yg (.ops c7r2)
@[simp] theorem uc7k2:X0 F cx k l rows low r 211 c7k2↔bnd (evP rows (.fieldA 1 (cl l 5))) fun v0=>bnd (evP rows (.load1 (.c v0))) fun v1=>bnd (evP rows (.len 0 (.c v1))) fun v2=>bnd (evE rows low (.make [.int .i64 0] 8 (.c v2) (.c v2))) fun q3=>bnd (Ret F 43 [q3.1] q3.2.1) fun q4=>Y0 F cx k r q4.2.1 (AB q3.2.2 q4.2.2) 211 ([(28,q4.1),(171,q4.1),(170,q3.1),(169,v2),(168,v1),(167,v0)]++kp l Yg):=rg
def c7s3:ICode:=(.seq c7k2 c7s1)
@[simp] theorem uc7s3:U c7s3 (.seq c7k2 c7s1):=ur
def c7r4:List Seg:=[
 zo 4 (.mv (.c (.bool false)))]
def c7k4:ICode:=.kill 211 [] (.ops c7r4)
@[simp] theorem uc7k4:X0 F cx k l rows low r 211 c7k4↔Y0 F cx k r rows low 211 [(4,(.bool false))]:=rg
def c7s5:ICode:=(.cond (.t 166) (.seq c7k4 .ret) .skip)
@[simp] theorem uc7s5:U c7s5 (.cond (.t 166) (.seq c7k4 .ret) .skip):=ur
def c7r6:List Seg:=[
 zm 135 18,
 zo 136 (.bin .neq (.t 135) (.c (.int .i64 0))),
 zm 137 136,
 .one ⟨some 138,.mv (.t 20),some (137,false)⟩,
 .one ⟨some 139,.bin .neq (.t 138) (.c (.int .i64 0)),some (137,false)⟩,
 zo 140 (.pick (.t 137) (.c (.bool true)) (.t 139)),
 zm 141 140,
 .one ⟨some 142,.mv (.t 23),some (141,false)⟩,
 .one ⟨some 143,.bin .neq (.t 142) (.c (.int .i64 0)),some (141,false)⟩,
 zo 144 (.pick (.t 141) (.c (.bool true)) (.t 143)),
 zm 145 144,
 .one ⟨some 146,.mv (.t 25),some (145,false)⟩,
 .one ⟨some 147,.bin .neq (.t 146) (.c (.int .i64 0)),some (145,false)⟩,
 zo 148 (.pick (.t 145) (.c (.bool true)) (.t 147)),
 zm 149 148,
 .one ⟨some 150,.mv (.t 27),some (149,false)⟩,
 .one ⟨some 151,.bin .neq (.t 150) (.c (.int .i64 0)),some (149,false)⟩,
 zo 152 (.pick (.t 149) (.c (.bool true)) (.t 151)),
 zm 153 152,
 .one ⟨some 154,.mv (.t 22),some (153,false)⟩,
 .one ⟨some 155,.un .not (.t 154),some (153,false)⟩,
 zo 156 (.pick (.t 153) (.c (.bool true)) (.t 155)),
 zm 157 156,
 .one ⟨some 158,.mv (.t 17),some (157,false)⟩,
 .one ⟨some 159,.call [] (.c (.func 42 [])) [(.t 158)],some (157,false)⟩,
 .one ⟨some 160,.un .not (.t 159),some (157,false)⟩,
 zo 161 (.pick (.t 157) (.c (.bool true)) (.t 160)),
 zm 162 161,
 .one ⟨some 163,.mv (.t 19),some (162,false)⟩,
 .one ⟨some 164,.call [] (.c (.func 42 [])) [(.t 163)],some (162,false)⟩,
 .one ⟨some 165,.un .not (.t 164),some (162,false)⟩,
 zo 166 (.pick (.t 162) (.c (.bool true)) (.t 165))]
def c7k6:ICode:=.kill 211 XG (.ops c7r6)
@[simp] theorem uc7k6:X0 F cx k l rows low r 211 c7k6↔bnd (evP rows (.bin .neq (cl l 18) (ci 0))) fun v0=>bnd (gv v0 false (evP rows (.mv (cl l 20)))) fun v1=>bnd (gv v0 false (evP rows (.bin .neq (.c v1) (ci 0)))) fun v2=>bnd (evP rows (.pick (.c v0) (.c (.bool true)) (.c v2))) fun v3=>bnd (gv v3 false (evP rows (.mv (cl l 23)))) fun v4=>bnd (gv v3 false (evP rows (.bin .neq (.c v4) (ci 0)))) fun v5=>bnd (evP rows (.pick (.c v3) (.c (.bool true)) (.c v5))) fun v6=>bnd (gv v6 false (evP rows (.mv (cl l 25)))) fun v7=>bnd (gv v6 false (evP rows (.bin .neq (.c v7) (ci 0)))) fun v8=>bnd (evP rows (.pick (.c v6) (.c (.bool true)) (.c v8))) fun v9=>bnd (gv v9 false (evP rows (.mv (cl l 27)))) fun v10=>bnd (gv v9 false (evP rows (.bin .neq (.c v10) (ci 0)))) fun v11=>bnd (evP rows (.pick (.c v9) (.c (.bool true)) (.c v11))) fun v12=>bnd (gv v12 false (evP rows (.mv (cl l 22)))) fun v13=>bnd (gv v12 false (evP rows (.un .not (.c v13)))) fun v14=>bnd (evP rows (.pick (.c v12) (.c (.bool true)) (.c v14))) fun v15=>bnd (gv v15 false (evP rows (.mv (cl l 17)))) fun v16=>Bs F v15 false rows low [v16] [] (.func 42 []) fun v17 R17 L17=>bnd (gv v15 false (evP R17 (.un .not (.c v17)))) fun v18=>bnd (evP R17 (.pick (.c v15) (.c (.bool true)) (.c v18))) fun v19=>bnd (gv v19 false (evP R17 (.mv (cl l 19)))) fun v20=>Bs F v19 false R17 L17 [v20] [] (.func 42 []) fun v21 R21 L21=>bnd (gv v19 false (evP R21 (.un .not (.c v21)))) fun v22=>bnd (evP R21 (.pick (.c v19) (.c (.bool true)) (.c v22))) fun v23=>Y0 F cx k r R21 L21 211 ([(166,v23),(165,v22),(164,v21),(163,v20),(162,v19),(161,v19),(160,v18),(159,v17),(158,v16),(157,v15),(156,v15),(155,v14),(154,v13),(153,v12),(152,v12),(151,v11),(150,v10),(149,v9),(148,v9),(147,v8),(146,v7),(145,v6),(144,v6),(143,v5),(142,v4),(141,v3),(140,v3),(139,v2),(138,v1),(137,v0),(136,v0),(135,lk l 18)]++kp l XG):=rg
def c7s7:ICode:=(.seq (.seq c7k6 c7s5) c7s3)
@[simp] theorem uc7s7:U c7s7 (.seq (.seq c7k6 c7s5) c7s3):=ur
def c7r8:List Seg:=[
 zo 130 (.loadN 3 (.t 6)),
 zm 131 15,
 zo 132 (.call [] (.c (.func 23 [])) [(.t 130),(.t 131)]),
 zm 129 132,
 zo 133 (.ext (.t 129) 0),
 zo 134 (.ext (.t 129) 1),
 zo 26 (.box (.c (.agg [.nilslice,.nilslice,.nilslice]))),
 .one ⟨none,.storeN 3 (.t 26) (.t 133),none⟩,
 zm 27 134]
def c7k8:ICode:=.kill 211 WG (.ops c7r8)
@[simp] theorem uc7k8:X0 F cx k l rows low r 211 c7k8↔bnd (evP rows (.loadN 3 (cl l 6))) fun v0=>bnd (Ret F 23 [v0,lk l 15] rows) fun q1=>bnd (evP q1.2.1 (.ext (.c q1.1) 0)) fun v2=>bnd (evP q1.2.1 (.ext (.c q1.1) 1)) fun v3=>bnd (evE q1.2.1 (AB low q1.2.2) (.box (.c (.agg [.nilslice,.nilslice,.nilslice])))) fun q4=>bnd (evE q4.2.1 q4.2.2 (.storeN 3 (.c q4.1) (.c v2))) fun q5=>Y0 F cx k r q5.2.1 q5.2.2 211 ([(27,v3),(26,q4.1),(134,v3),(133,v2),(129,q1.1),(132,q1.1),(131,lk l 15),(130,v0)]++kp l WG):=rg
def c7s9:ICode:=(.seq c7k8 c7s7)
@[simp] theorem uc7s9:U c7s9 (.seq c7k8 c7s7):=ur
def c7r10:List Seg:=[
 zo 124 (.loadN 3 (.t 6)),
 zm 125 13,
 zo 126 (.call [] (.c (.func 23 [])) [(.t 124),(.t 125)]),
 zm 123 126,
 zo 127 (.ext (.t 123) 0),
 zo 128 (.ext (.t 123) 1),
 zo 24 (.box (.c (.agg [.nilslice,.nilslice,.nilslice]))),
 .one ⟨none,.storeN 3 (.t 24) (.t 127),none⟩,
 zm 25 128]
def c7k10:ICode:=.kill 211 Xl (.ops c7r10)
@[simp] theorem uc7k10:X0 F cx k l rows low r 211 c7k10↔bnd (evP rows (.loadN 3 (cl l 6))) fun v0=>bnd (Ret F 23 [v0,lk l 13] rows) fun q1=>bnd (evP q1.2.1 (.ext (.c q1.1) 0)) fun v2=>bnd (evP q1.2.1 (.ext (.c q1.1) 1)) fun v3=>bnd (evE q1.2.1 (AB low q1.2.2) (.box (.c (.agg [.nilslice,.nilslice,.nilslice])))) fun q4=>bnd (evE q4.2.1 q4.2.2 (.storeN 3 (.c q4.1) (.c v2))) fun q5=>Y0 F cx k r q5.2.1 q5.2.2 211 ([(25,v3),(24,q4.1),(128,v3),(127,v2),(123,q1.1),(126,q1.1),(125,lk l 13),(124,v0)]++kp l Xl):=rg
def c7s11:ICode:=(.seq c7k10 c7s9)
@[simp] theorem uc7s11:U c7s11 (.seq c7k10 c7s9):=ur
def c7r12:List Seg:=[
 zo 117 (.loadN 3 (.t 6)),
 zm 118 13,
 zo 119 (.call [] (.c (.func 41 [])) [(.t 117),(.t 118)]),
 zm 116 119,
 zo 120 (.ext (.t 116) 0),
 zo 121 (.ext (.t 116) 1),
 zo 122 (.ext (.t 116) 2),
 zm 21 120,
 zm 22 121,
 zm 23 122]
def c7k12:ICode:=.kill 211 Xb (.ops c7r12)
@[simp] theorem uc7k12:X0 F cx k l rows low r 211 c7k12↔bnd (evP rows (.loadN 3 (cl l 6))) fun v0=>bnd (Ret F 41 [v0,lk l 13] rows) fun q1=>bnd (evP q1.2.1 (.ext (.c q1.1) 0)) fun v2=>bnd (evP q1.2.1 (.ext (.c q1.1) 1)) fun v3=>bnd (evP q1.2.1 (.ext (.c q1.1) 2)) fun v4=>Y0 F cx k r q1.2.1 (AB low q1.2.2) 211 ([(23,v4),(22,v3),(21,v2),(122,v4),(121,v3),(120,v2),(116,q1.1),(119,q1.1),(118,lk l 13),(117,v0)]++kp l Xb):=rg
def c7s13:ICode:=(.seq c7k12 c7s11)
@[simp] theorem uc7s13:U c7s13 (.seq c7k12 c7s11):=ur
def c7r14:List Seg:=[
 zo 111 (.loadN 3 (.t 6)),
 zm 112 15,
 zo 113 (.call [] (.c (.func 22 [])) [(.t 111),(.t 112)]),
 zm 110 113,
 zo 114 (.ext (.t 110) 0),
 zo 115 (.ext (.t 110) 1),
 zm 19 114,
 zm 20 115]
def c7k14:ICode:=.kill 211 X9 (.ops c7r14)
@[simp] theorem uc7k14:X0 F cx k l rows low r 211 c7k14↔bnd (evP rows (.loadN 3 (cl l 6))) fun v0=>bnd (Ret F 22 [v0,lk l 15] rows) fun q1=>bnd (evP q1.2.1 (.ext (.c q1.1) 0)) fun v2=>bnd (evP q1.2.1 (.ext (.c q1.1) 1)) fun v3=>Y0 F cx k r q1.2.1 (AB low q1.2.2) 211 ([(20,v3),(19,v2),(115,v3),(114,v2),(110,q1.1),(113,q1.1),(112,lk l 15),(111,v0)]++kp l X9):=rg
def c7s15:ICode:=(.seq c7k14 c7s13)
@[simp] theorem uc7s15:U c7s15 (.seq c7k14 c7s13):=ur
def c7r16:List Seg:=[
 zo 105 (.loadN 3 (.t 6)),
 zm 106 13,
 zo 107 (.call [] (.c (.func 40 [])) [(.t 105),(.t 106)]),
 zm 104 107,
 zo 108 (.ext (.t 104) 0),
 zo 109 (.ext (.t 104) 1),
 zm 17 108,
 zm 18 109]
def c7k16:ICode:=.kill 211 Xa (.ops c7r16)
@[simp] theorem uc7k16:X0 F cx k l rows low r 211 c7k16↔bnd (evP rows (.loadN 3 (cl l 6))) fun v0=>bnd (Ret F 40 [v0,lk l 13] rows) fun q1=>bnd (evP q1.2.1 (.ext (.c q1.1) 0)) fun v2=>bnd (evP q1.2.1 (.ext (.c q1.1) 1)) fun v3=>Y0 F cx k r q1.2.1 (AB low q1.2.2) 211 ([(18,v3),(17,v2),(109,v3),(108,v2),(104,q1.1),(107,q1.1),(106,lk l 13),(105,v0)]++kp l Xa):=rg
def c7s17:ICode:=(.seq c7k16 c7s15)
@[simp] theorem uc7s17:U c7s17 (.seq c7k16 c7s15):=ur
def c7r18:List Seg:=[
 zo 4 (.mv (.c (.bool false)))]
def c7k18:ICode:=.kill 211 [] (.ops c7r18)
@[simp] theorem uc7k18:X0 F cx k l rows low r 211 c7k18↔Y0 F cx k r rows low 211 [(4,(.bool false))]:=rg
def c7s19:ICode:=(.cond (.t 103) (.seq c7k18 .ret) .skip)
@[simp] theorem uc7s19:U c7s19 (.cond (.t 103) (.seq c7k18 .ret) .skip):=ur
def c7r20:List Seg:=[
 zm 82 14,
 zo 83 (.bin .neq (.t 82) (.c (.int .i64 0))),
 zm 84 83,
 .one ⟨some 85,.mv (.t 16),some (84,false)⟩,
 .one ⟨some 86,.bin .neq (.t 85) (.c (.int .i64 0)),some (84,false)⟩,
 zo 87 (.pick (.t 84) (.c (.bool true)) (.t 86)),
 zm 88 87,
 .one ⟨some 89,.mv (.t 13),some (88,false)⟩,
 .one ⟨some 90,.fieldA 1 (.t 5),some (88,false)⟩,
 .one ⟨some 91,.load1 (.t 90),some (88,false)⟩,
 .one ⟨some 92,.len 0 (.t 91),some (88,false)⟩,
 .one ⟨some 93,.call [] (.c (.func 39 [])) [(.t 89),(.t 92)],some (88,false)⟩,
 .one ⟨some 94,.un .not (.t 93),some (88,false)⟩,
 zo 95 (.pick (.t 88) (.c (.bool true)) (.t 94)),
 zm 96 95,
 .one ⟨some 97,.mv (.t 15),some (96,false)⟩,
 .one ⟨some 98,.fieldA 1 (.t 5),some (96,false)⟩,
 .one ⟨some 99,.load1 (.t 98),some (96,false)⟩,
 .one ⟨some 100,.len 0 (.t 99),some (96,false)⟩,
 .one ⟨some 101,.call [] (.c (.func 39 [])) [(.t 97),(.t 100)],some (96,false)⟩,
 .one ⟨some 102,.un .not (.t 101),some (96,false)⟩,
 zo 103 (.pick (.t 96) (.c (.bool true)) (.t 102))]
def c7k20:ICode:=.kill 211 WW (.ops c7r20)
@[simp] theorem uc7k20:X0 F cx k l rows low r 211 c7k20↔bnd (evP rows (.bin .neq (cl l 14) (ci 0))) fun v0=>bnd (gv v0 false (evP rows (.mv (cl l 16)))) fun v1=>bnd (gv v0 false (evP rows (.bin .neq (.c v1) (ci 0)))) fun v2=>bnd (evP rows (.pick (.c v0) (.c (.bool true)) (.c v2))) fun v3=>bnd (gv v3 false (evP rows (.mv (cl l 13)))) fun v4=>bnd (gv v3 false (evP rows (.fieldA 1 (cl l 5)))) fun v5=>bnd (gv v3 false (evP rows (.load1 (.c v5)))) fun v6=>bnd (gv v3 false (evP rows (.len 0 (.c v6)))) fun v7=>Bs F v3 false rows low [v4,v7] [] (.func 39 []) fun v8 R8 L8=>bnd (gv v3 false (evP R8 (.un .not (.c v8)))) fun v9=>bnd (evP R8 (.pick (.c v3) (.c (.bool true)) (.c v9))) fun v10=>bnd (gv v10 false (evP R8 (.mv (cl l 15)))) fun v11=>bnd (gv v10 false (evP R8 (.fieldA 1 (cl l 5)))) fun v12=>bnd (gv v10 false (evP R8 (.load1 (.c v12)))) fun v13=>bnd (gv v10 false (evP R8 (.len 0 (.c v13)))) fun v14=>Bs F v10 false R8 L8 [v11,v14] [] (.func 39 []) fun v15 R15 L15=>bnd (gv v10 false (evP R15 (.un .not (.c v15)))) fun v16=>bnd (evP R15 (.pick (.c v10) (.c (.bool true)) (.c v16))) fun v17=>Y0 F cx k r R15 L15 211 ([(103,v17),(102,v16),(101,v15),(100,v14),(99,v13),(98,v12),(97,v11),(96,v10),(95,v10),(94,v9),(93,v8),(92,v7),(91,v6),(90,v5),(89,v4),(88,v3),(87,v3),(86,v2),(85,v1),(84,v0),(83,v0),(82,lk l 14)]++kp l WW):=rg
def c7s21:ICode:=(.seq (.seq c7k20 c7s19) c7s17)
@[simp] theorem uc7s21:U c7s21 (.seq (.seq c7k20 c7s19) c7s17):=ur
def c7r22:List Seg:=[
 zo 77 (.loadN 3 (.t 6)),
 zm 78 8,
 zo 79 (.call [] (.c (.func 38 [])) [(.t 77),(.t 78)]),
 zm 76 79,
 zo 80 (.ext (.t 76) 0),
 zo 81 (.ext (.t 76) 1),
 zm 15 80,
 zm 16 81]
def c7k22:ICode:=.kill 211 Xn (.ops c7r22)
@[simp] theorem uc7k22:X0 F cx k l rows low r 211 c7k22↔bnd (evP rows (.loadN 3 (cl l 6))) fun v0=>bnd (Ret F 38 [v0,lk l 8] rows) fun q1=>bnd (evP q1.2.1 (.ext (.c q1.1) 0)) fun v2=>bnd (evP q1.2.1 (.ext (.c q1.1) 1)) fun v3=>Y0 F cx k r q1.2.1 (AB low q1.2.2) 211 ([(16,v3),(15,v2),(81,v3),(80,v2),(76,q1.1),(79,q1.1),(78,lk l 8),(77,v0)]++kp l Xn):=rg
def c7s23:ICode:=(.seq c7k22 c7s21)
@[simp] theorem uc7s23:U c7s23 (.seq c7k22 c7s21):=ur
def c7r24:List Seg:=[
 zo 71 (.loadN 3 (.t 6)),
 zm 72 7,
 zo 73 (.call [] (.c (.func 33 [])) [(.t 71),(.t 72)]),
 zm 70 73,
 zo 74 (.ext (.t 70) 0),
 zo 75 (.ext (.t 70) 1),
 zm 13 74,
 zm 14 75]
def c7k24:ICode:=.kill 211 Wz (.ops c7r24)
@[simp] theorem uc7k24:X0 F cx k l rows low r 211 c7k24↔bnd (evP rows (.loadN 3 (cl l 6))) fun v0=>bnd (Ret F 33 [v0,lk l 7] rows) fun q1=>bnd (evP q1.2.1 (.ext (.c q1.1) 0)) fun v2=>bnd (evP q1.2.1 (.ext (.c q1.1) 1)) fun v3=>Y0 F cx k r q1.2.1 (AB low q1.2.2) 211 ([(14,v3),(13,v2),(75,v3),(74,v2),(70,q1.1),(73,q1.1),(72,lk l 7),(71,v0)]++kp l Wz):=rg
def c7s25:ICode:=(.seq c7k24 c7s23)
@[simp] theorem uc7s25:U c7s25 (.seq c7k24 c7s23):=ur
def c7r27:List Seg:=[
 zm 60 12,
 zo 61 (.bin .add (.t 60) (.c (.int .i64 1))),
 zm 12 61]
def c7k27:ICode:=.kill 211 Kb (.ops c7r27)
@[simp] theorem uc7k27:X0 F cx k l rows low r 211 c7k27↔bnd (evP rows (.bin .add (cl l 12) (ci 1))) fun v0=>Y0 F cx k r rows low 211 ([(12,v0),(61,v0),(60,lk l 12)]++kp l Kb):=rg
def c7r28:List Seg:=[
 zm 62 8,
 zm 63 10,
 zm 64 12,
 zo 65 (.idxS 1 (.t 63) (.t 64)),
 zo 66 (.load1 (.t 65)),
 zo 67 (.bin .quo (.t 66) (.c (.int .i64 8))),
 zo 68 (.mkslice 1 [.int .i64 0] [(0,1,(.t 67))]),
 zo 69 (.app 1 8 (.t 62) (.t 68)),
 zm 8 69]
def c7k28:ICode:=.kill 211 Kb (.ops c7r28)
@[simp] theorem uc7k28:X0 F cx k l rows low r 211 c7k28↔bnd (evP rows (.idxS 1 (cl l 10) (cl l 12))) fun v0=>bnd (evP rows (.load1 (.c v0))) fun v1=>bnd (evP rows (.bin .quo (.c v1) (ci 8))) fun v2=>bnd (evE rows low (.mkslice 1 [.int .i64 0] [(0,1,(.c v2))])) fun q3=>bnd (evE q3.2.1 q3.2.2 (.app 1 8 (cl l 8) (.c q3.1))) fun q4=>Y0 F cx k r q4.2.1 q4.2.2 211 ([(8,q4.1),(69,q4.1),(68,q3.1),(67,v2),(66,v1),(65,v0),(64,lk l 12),(63,lk l 10),(62,lk l 8)]++kp l Kb):=rg
def c7s29:ICode:=(.seq (.block 3 c7k28) c7k27)
@[simp] theorem uc7s29:U c7s29 (.seq (.block 3 c7k28) c7k27):=ur
def c7s30:ICode:=(.cond (.t 59) .skip (.exit 2))
@[simp] theorem uc7s30:U c7s30 (.cond (.t 59) .skip (.exit 2)):=ur
def c7r31:List Seg:=[
 zm 56 12,
 zm 57 10,
 zo 58 (.len 0 (.t 57)),
 zo 59 (.bin .lss (.t 56) (.t 58))]
def c7k31:ICode:=.kill 211 Kb (.ops c7r31)
@[simp] theorem uc7k31:X0 F cx k l rows low r 211 c7k31↔bnd (evP rows (.len 0 (cl l 10))) fun v0=>bnd (evP rows (.bin .lss (cl l 12) (.c v0))) fun v1=>Y0 F cx k r rows low 211 ([(59,v1),(58,v0),(57,lk l 10),(56,lk l 12)]++kp l Kb):=rg
def c7l26:ICode:=(.seq (.seq c7k31 c7s30) c7s29)
def c7s32:ICode:=(.block 2 (.loop c7l26))
@[simp] theorem uc7s32:U c7s32 (.block 2 (.loop c7l26)):=ur
def c7r33:List Seg:=[
 zo 12 (.mv (.c (.int .i64 0)))]
def c7k33:ICode:=.kill 211 Xv (.ops c7r33)
@[simp] theorem uc7k33:X0 F cx k l rows low r 211 c7k33↔Y0 F cx k r rows low 211 ([(12,(.int .i64 0))]++kp l Xv):=rg
def c7s34:ICode:=(.seq (.seq c7k33 c7s32) c7s25)
@[simp] theorem uc7s34:U c7s34 (.seq (.seq c7k33 c7s32) c7s25):=ur
def c7r36:List Seg:=[
 zm 46 11,
 zo 47 (.bin .add (.t 46) (.c (.int .i64 1))),
 zm 11 47]
def c7k36:ICode:=.kill 211 JV (.ops c7r36)
@[simp] theorem uc7k36:X0 F cx k l rows low r 211 c7k36↔bnd (evP rows (.bin .add (cl l 11) (ci 1))) fun v0=>Y0 F cx k r rows low 211 ([(11,v0),(47,v0),(46,lk l 11)]++kp l JV):=rg
def c7r37:List Seg:=[
 zm 48 7,
 zm 49 9,
 zm 50 11,
 zo 51 (.idxS 1 (.t 49) (.t 50)),
 zo 52 (.load1 (.t 51)),
 zo 53 (.bin .quo (.t 52) (.c (.int .i64 4))),
 zo 54 (.mkslice 1 [.int .i64 0] [(0,1,(.t 53))]),
 zo 55 (.app 1 8 (.t 48) (.t 54)),
 zm 7 55]
def c7k37:ICode:=.kill 211 JV (.ops c7r37)
@[simp] theorem uc7k37:X0 F cx k l rows low r 211 c7k37↔bnd (evP rows (.idxS 1 (cl l 9) (cl l 11))) fun v0=>bnd (evP rows (.load1 (.c v0))) fun v1=>bnd (evP rows (.bin .quo (.c v1) (ci 4))) fun v2=>bnd (evE rows low (.mkslice 1 [.int .i64 0] [(0,1,(.c v2))])) fun q3=>bnd (evE q3.2.1 q3.2.2 (.app 1 8 (cl l 7) (.c q3.1))) fun q4=>Y0 F cx k r q4.2.1 q4.2.2 211 ([(7,q4.1),(55,q4.1),(54,q3.1),(53,v2),(52,v1),(51,v0),(50,lk l 11),(49,lk l 9),(48,lk l 7)]++kp l JV):=rg
def c7s38:ICode:=(.seq (.block 1 c7k37) c7k36)
@[simp] theorem uc7s38:U c7s38 (.seq (.block 1 c7k37) c7k36):=ur
def c7s39:ICode:=(.cond (.t 45) .skip (.exit 0))
@[simp] theorem uc7s39:U c7s39 (.cond (.t 45) .skip (.exit 0)):=ur
def c7r40:List Seg:=[
 zm 42 11,
 zm 43 9,
 zo 44 (.len 0 (.t 43)),
 zo 45 (.bin .lss (.t 42) (.t 44))]
def c7k40:ICode:=.kill 211 JV (.ops c7r40)
@[simp] theorem uc7k40:X0 F cx k l rows low r 211 c7k40↔bnd (evP rows (.len 0 (cl l 9))) fun v0=>bnd (evP rows (.bin .lss (cl l 11) (.c v0))) fun v1=>Y0 F cx k r rows low 211 ([(45,v1),(44,v0),(43,lk l 9),(42,lk l 11)]++kp l JV):=rg
def c7l35:ICode:=(.seq (.seq c7k40 c7s39) c7s38)
def c7s41:ICode:=(.block 0 (.loop c7l35))
@[simp] theorem uc7s41:U c7s41 (.block 0 (.loop c7l35)):=ur
def c7r42:List Seg:=[
 zo 11 (.mv (.c (.int .i64 0)))]
def c7k42:ICode:=.kill 211 Xu (.ops c7r42)
@[simp] theorem uc7k42:X0 F cx k l rows low r 211 c7k42↔Y0 F cx k r rows low 211 ([(11,(.int .i64 0))]++kp l Xu):=rg
def c7s43:ICode:=(.seq (.seq c7k42 c7s41) c7s34)
@[simp] theorem uc7s43:U c7s43 (.seq (.seq c7k42 c7s41) c7s34):=ur
def c7r44:List Seg:=[
 .grp [(zn 33 1,0),(zp 34 (.fieldA 0 (.t 5)),0),(zp 35 (.load1 (.t 34)),2),(zp 36 (.call [] (.c (.func 20 [])) [(.t 33),(.t 35)]),7),(zn 37 1,0),(zp 38 (.fieldA 2 (.t 5)),0),(zp 39 (.load1 (.t 38)),32),(zp 40 (.len 0 (.t 39)),96)],
 zo 41 (.call [] (.c (.func 20 [])) [(.t 37),(.t 40)]),
 zm 9 36,
 zm 10 41]
def c7k44:ICode:=.kill 211 Yo (.ops c7r44)
@[simp] theorem uc7k44:X0 F cx k l rows low r 211 c7k44↔bnd (evP (rows++Ab 0 rn) (.fieldA 0 (cl l 5))) fun v0=>bnd (evP (rows++Ab 2 rn) (.load1 (.c v0))) fun v1=>bnd (opC F (rows++Ab 7 rn) (rows.length+rn.length) [lk l 1,v1] [] (.func 20 [])) fun q2=>q2.2.2=rows.length+rn.length/\bnd (some (rn++List.map (fun(x:Row)=>(3,x)) (q2.2.1.drop (rows.length+rn.length)))) fun e2=>bnd (evP (rows++Ab 0 e2) (.fieldA 2 (cl l 5))) fun v3=>bnd (evP (rows++Ab 32 e2) (.load1 (.c v3))) fun v4=>bnd (evP (rows++Ab 96 e2) (.len 0 (.c v4))) fun v5=>bnd (Ret F 20 [lk l 1,v5] (rows++List.map (fun(x:Nat×Row)=>x.2) e2)) fun q6=>Y0 F cx k r q6.2.1 (AB low q6.2.2) 211 ([(10,q6.1),(9,q2.1),(41,q6.1),(40,v5),(39,v4),(38,v3),(37,lk l 1),(36,q2.1),(35,v1),(34,v0),(33,lk l 1)]++kp l Yo):=rg
def c7s45:ICode:=(.seq c7k44 c7s43)
@[simp] theorem uc7s45:U c7s45 (.seq c7k44 c7s43):=ur
def c7r46:List Seg:=[
 zo 7 (.mv (.c .nilslice)),
 zo 8 (.mv (.c .nilslice))]
def c7k46:ICode:=.kill 211 X5 (.ops c7r46)
@[simp] theorem uc7k46:X0 F cx k l rows low r 211 c7k46↔Y0 F cx k r rows low 211 ([(8,.nilslice),(7,.nilslice)]++kp l X5):=rg
def c7s47:ICode:=(.seq c7k46 c7s45)
@[simp] theorem uc7s47:U c7s47 (.seq c7k46 c7s45):=ur
def c7r48:List Seg:=[
 zo 31 (.loadN 3 (.t 5)),
 zo 32 (.call [] (.c (.func 17 [])) [(.t 31)]),
 zo 6 (.box (.c (.agg [.int .i64 0,.nilslice,.nilslice]))),
 .one ⟨none,.storeN 3 (.t 6) (.t 32),none⟩]
def c7k48:ICode:=.kill 211 Pj (.ops c7r48)
@[simp] theorem uc7k48:X0 F cx k l rows low r 211 c7k48↔bnd (evP rows (.loadN 3 (cl l 5))) fun v0=>bnd (Ret F 17 [v0] rows) fun q1=>bnd (evE q1.2.1 (AB low q1.2.2) (.box (.c (.agg [.int .i64 0,.nilslice,.nilslice])))) fun q2=>bnd (evE q2.2.1 q2.2.2 (.storeN 3 (.c q2.1) (.c q1.1))) fun q3=>Y0 F cx k r q3.2.1 q3.2.2 211 [(6,q2.1),(32,q1.1),(31,v0),(1,lk l 1),(5,lk l 5)]:=rg
def c7s49:ICode:=(.seq c7k48 c7s47)
@[simp] theorem uc7s49:U c7s49 (.seq c7k48 c7s47):=ur
def c7r50:List Seg:=[
 zo 29 (.loadN 3 (.t 2)),
 zo 30 (.call [] (.c (.func 15 [])) [(.t 29)]),
 zo 5 (.box (.c (.agg [.int .i64 0,.nilslice,.nilslice]))),
 .one ⟨none,.storeN 3 (.t 5) (.t 30),none⟩]
def c7k50:ICode:=.kill 211 BP (.ops c7r50)
@[simp] theorem uc7k50:X0 F cx k l rows low r 211 c7k50↔bnd (evP rows (.loadN 3 (cl l 2))) fun v0=>bnd (Ret F 15 [v0] rows) fun q1=>bnd (evE q1.2.1 (AB low q1.2.2) (.box (.c (.agg [.int .i64 0,.nilslice,.nilslice])))) fun q2=>bnd (evE q2.2.1 q2.2.2 (.storeN 3 (.c q2.1) (.c q1.1))) fun q3=>Y0 F cx k r q3.2.1 q3.2.2 211 [(5,q2.1),(30,q1.1),(29,v0),(1,lk l 1),(2,lk l 2)]:=rg
def c7s51:ICode:=(.seq c7k50 c7s49)
@[simp] theorem uc7s51:U c7s51 (.seq c7k50 c7s49):=ur
def c7r52:List Seg:=[
 zo 2 (.box (.t 0)),
 zo 4 (.mv (.c (.bool false)))]
def c7k52:ICode:=.kill 211 AF (.ops c7r52)
@[simp] theorem uc7k52:X0 F cx k l rows low r 211 c7k52↔bnd (evE rows low (.box (cl l 0))) fun q0=>Y0 F cx k r q0.2.1 q0.2.2 211 [(4,(.bool false)),(2,q0.1),(0,lk l 0),(1,lk l 1)]:=rg
@[simp] abbrev Kc7l26:List Itm:=.inLoop c7l26::.inBlock 2::.code c7s25::[]
def Lc7l26(F:Nat->Option IFn)(cx:Ctx)(x5 x6 x7 x8 x10 x12:AV)(rows:List Row)(low:Nat)(r:AV×List Row×Nat->Prop):Prop:=Ex F cx (.code c7l26::Kc7l26) ⟨mk 211 [(5,x5),(6,x6),(7,x7),(8,x8),(10,x10),(12,x12)],rows,low⟩ r
@[simp] theorem nc7l26:Ex F cx (Kc7l26) ⟨mk 211 l,rows,low⟩ r↔Lc7l26 F cx (lk l 5) (lk l 6) (lk l 7) (lk l 8) (lk l 10) (lk l 12) rows low r:=AA (keep:=Kb) (by kernel_rfl)
@[simp] theorem uc7l26:U c7l26 (.seq (.seq c7k31 c7s30) c7s29):=ur
@[simp] abbrev Kc7l35:List Itm:=.inLoop c7l35::.inBlock 0::.code c7s34::[]
def Lc7l35(F:Nat->Option IFn)(cx:Ctx)(x5 x6 x7 x8 x9 x10 x11:AV)(rows:List Row)(low:Nat)(r:AV×List Row×Nat->Prop):Prop:=Ex F cx (.code c7l35::Kc7l35) ⟨mk 211 [(5,x5),(6,x6),(7,x7),(8,x8),(9,x9),(10,x10),(11,x11)],rows,low⟩ r
@[simp] theorem nc7l35:Ex F cx (Kc7l35) ⟨mk 211 l,rows,low⟩ r↔Lc7l35 F cx (lk l 5) (lk l 6) (lk l 7) (lk l 8) (lk l 9) (lk l 10) (lk l 11) rows low r:=AA (keep:=JV) (by kernel_rfl)
@[simp] theorem uc7l35:U c7l35 (.seq (.seq c7k40 c7s39) c7s38):=ur
def c7b:ICode:=(.seq c7k52 c7s51)
@[simp] theorem uc7b:U c7b (.seq c7k52 c7s51):=ur
def c7:IFn:=⟨211,[.t 4],c7b⟩
def h7:List (Nat×Nat×List Nat):=[(0,(211,[0,1])),(1,(211,[1,2])),(2,(211,[1,5])),(3,(211,[1,5,6])),(4,(211,[1,5,6,7,8])),(5,(211,[5,6,7,8,9,10])),(6,(211,[5,6,7,8,9,10,11])),(8,(211,[5,6,7,8,9,10,11])),(7,(211,[5,6,7,8,9,10,11])),(9,(211,[5,6,7,8,10])),(10,(211,[5,6,7,8,10,12])),(12,(211,[5,6,7,8,10,12])),(11,(211,[5,6,7,8,10,12])),(13,(211,[5,6,7,8])),(14,(211,[5,6,8,13,14])),(15,(211,[5,6,13,14,15,16])),(16,(211,[])),(17,(211,[5,6,13,15])),(18,(211,[5,6,13,15,17,18])),(19,(211,[5,6,13,15,17,18,19,20])),(20,(211,[5,6,13,15,17,18,19,20,22,23])),(21,(211,[5,6,13,15,17,18,19,20,22,23,24,25])),(22,(211,[5,13,15,17,18,19,20,22,23,24,25,26,27])),(23,(211,[])),(24,(211,[5,13,15,24,26])),(25,(211,[13,15,24,26,28]))]
theorem i7{x0 x1:AV}(hF:F 7=some c7){q:AV×List Row×Option Nat}(h:Ex F (.fn [.t 4]) [.code c7b] ⟨mk 211 [(0,x0),(1,x1)],rows,rows.length⟩ fun r=>fin rows r.1 r.2.1 r.2.2=q):Ret F 7 [x0,x1] rows=some q:=Au hF h
end Go.Abs
namespace Go.Abs
abbrev G7:Nat->Option IFn:=more F 7 c7
theorem EM{f:Nat}{vs:List AV}{rows:List Row}{q:AV×List Row×Option Nat}(h:Ret F f vs rows=some q):Ret G7 f vs rows=some q:=VB (Qp (by kernel_rfl)) h
def dvs(k:Int)(l:List Int)(n:Nat):List Int:=(List.range n).map fun i=>(CY l i).tdiv k
theorem Pg{k:Int}{l:List Int}{n:Nat}:(dvs k l n).length=n:=by simp[dvs]
theorem Kw{k:Int}{l:List Int}{n:Nat}:dvs k l (n+1)=dvs k l n++[(CY l n).tdiv k]:=by simp[dvs,List.range_succ]
theorem Uq{y:Int}{k b:Nat}(hk:0<k)(h : -100<=y/\y<=100)(hb:100/k<=b) : -(b:Int)<=y.tdiv k/\y.tdiv k<=b:=by
 have h1:∀n:Nat,n<=100->n/k<=b:=fun n hn=>Nat.le_trans (Nat.div_le_div_right hn) hb
 by_cases c:0<=y
 ·obtain⟨n,rfl⟩:=Int.eq_ofNat_of_zero_le c
  have:=h1 n (by omega);have e:(n:Int).tdiv (k:Int)=((n/k:Nat):Int):=rfl;rw[e];generalize n/k=q at *;omega
 ·obtain⟨n,hn⟩:=Int.eq_ofNat_of_zero_le (show 0 <= -y by omega)
  have:=h1 n (by omega);have e:y.tdiv (k:Int) = -((n/k:Nat):Int):=by
   rw[show y = -(n:Int)by omega,Int.neg_tdiv]
   rfl
  rw[e];generalize n/k=q at *;omega
theorem Sq{k b:Nat}{l:List Int}{n:Nat}(hk:0<k)(hb:100/k<=b):∀x∈dvs k l n,-(b:Int)<=x/\x<=b:=by
 intro x hx;obtain⟨i,_,rfl⟩:=List.mem_map.1 hx;exact Uq hk (HG l i) hb
section
variable {C:List Row}{low n:Nat}{lv x5 x6:AV}{l:List Int}{r:AV×List Row×Nat->Prop}
theorem Kr{i:Nat}(hi:i<n):gI (EN l n) i=CY l i:=by
 rw[BB (by rw[Bz];exact hi)];simp[EN]
theorem WZ{x8 x10:AV}(hn:n<=100)(hl:IsL C lv (EN l n))(hlow:low<=C.length)
  (hk:∀(L:List Row) (w:AV) (sl:List (Nat×AV)),Acc C L 1 (.op 1) w (Ac .i64 (dvs 4 l n)) n->lk sl 5=x5->lk sl 6=x6->lk sl 7=w->lk sl 8=x8->lk sl 10=x10->Ex G7 (.fn [.t 4]) [.code c7s34] ⟨mk 211 sl,C++L,low⟩ r):
  ∀(d i:Nat) (L:List Row) (w:AV),n-i=d->i<=n->Acc C L 1 (.op 1) w (Ac .i64 (dvs 4 l i)) i->Lc7l35 G7 (.fn [.t 4]) x5 x6 w x8 lv x10 (.int .i64 i) (C++L) low r:=by
 intro d
 induction d with
 |zero=>
  intro i L w hd hi hA;have e:i=n:=by omega
  subst e;have ln:=DI (Ah hl L);rw[Bz]at ln;unfold Lc7l35;simp[ln,-uc7s34];refine hk L w _ hA ?_ ?_ ?_ ?_ ?_<;>simp
 |succ d ih=>
  intro i L w hd hi0 hA;have hi:i<n:=by omega
  have hw:IntKind.i64.wrap ((i:Int)+1)=((i+1:Nat):Int):=wS (by omega);have hl':=Ah hl L;have ln:=DI hl';rw[Bz]at ln;have ix:=Cd hl' (show i<(EN l n).length by rw[Bz];exact hi);have ld:=If hl' (show i<(EN l n).length by rw[Bz];exact hi);rw[Nat.mul_one]at ix;rw[Kr hi]at ld;have hbd:=Uq (k:=4) (b:=25) (by omega) (HG l i) (by omega);generalize hy:CY l i=y at *;have hbd' : -25<=y.tdiv 4/\y.tdiv 4<=25:=hbd;have hwq:IntKind.i64.wrap (y.tdiv 4)=y.tdiv 4:=AG (by omega) (by omega);obtain⟨w',L',ev1,hA2⟩:=DP (low:=low) (b:=8) (x:=[.int .i64 (y.tdiv 4)]) hA rfl (by omega) (by omega) hlow;rw[show Ac .i64 (dvs 4 l i)++[.int .i64 (y.tdiv 4)]=Ac .i64 (dvs 4 l (i+1))from by rw[Kw,hy,<-BT];rfl]at hA2;have:=ih (i+1) L' w' (by omega) (by omega) hA2;unfold Lc7l35;simp[ln,hi,ix,ld,hwq,Aq,splice,ev1,hw];simpa using this
theorem We{x7:AV}(hn:n<=100)(hl:IsL C lv (EN l n))(hlow:low<=C.length)
  (hk:∀(L:List Row) (w:AV) (sl:List (Nat×AV)),Acc C L 1 (.op 1) w (Ac .i64 (dvs 8 l n)) n->lk sl 5=x5->lk sl 6=x6->lk sl 7=x7->lk sl 8=w->Ex G7 (.fn [.t 4]) [.code c7s25] ⟨mk 211 sl,C++L,low⟩ r):
  ∀(d i:Nat) (L:List Row) (w:AV),n-i=d->i<=n->Acc C L 1 (.op 1) w (Ac .i64 (dvs 8 l i)) i->Lc7l26 G7 (.fn [.t 4]) x5 x6 x7 w lv (.int .i64 i) (C++L) low r:=by
 intro d
 induction d with
 |zero=>
  intro i L w hd hi hA;have e:i=n:=by omega
  subst e;have ln:=DI (Ah hl L);rw[Bz]at ln;unfold Lc7l26;simp[ln,-uc7s25];refine hk L w _ hA ?_ ?_ ?_ ?_<;>simp
 |succ d ih=>
  intro i L w hd hi0 hA;have hi:i<n:=by omega
  have hw:IntKind.i64.wrap ((i:Int)+1)=((i+1:Nat):Int):=wS (by omega);have hl':=Ah hl L;have ln:=DI hl';rw[Bz]at ln;have ix:=Cd hl' (show i<(EN l n).length by rw[Bz];exact hi);have ld:=If hl' (show i<(EN l n).length by rw[Bz];exact hi);rw[Nat.mul_one]at ix;rw[Kr hi]at ld;have hbd:=Uq (k:=8) (b:=12) (by omega) (HG l i) (by omega);generalize hy:CY l i=y at *;have hbd' : -12<=y.tdiv 8/\y.tdiv 8<=12:=hbd;have hwq:IntKind.i64.wrap (y.tdiv 8)=y.tdiv 8:=AG (by omega) (by omega);obtain⟨w',L',ev1,hA2⟩:=DP (low:=low) (b:=8) (x:=[.int .i64 (y.tdiv 8)]) hA rfl (by omega) (by omega) hlow;rw[show Ac .i64 (dvs 8 l i)++[.int .i64 (y.tdiv 8)]=Ac .i64 (dvs 8 l (i+1))from by rw[Kw,hy,<-BT];rfl]at hA2;have:=ih (i+1) L' w' (by omega) (by omega) hA2;unfold Lc7l26;simp[ln,hi,ix,ld,hwq,Aq,splice,ev1,hw];simpa using this
end
section
variable {rows E:List Row}{P Q m:Nat}{p0 p1 p2 q0 q1 q2 c d no:AV}{cl dl:List Int}{a0 a1 a2 b0 b1 b2 z:Nat->Rat}{sl:List (Nat×AV)}{r:AV×List Row×Nat->Prop}
theorem AaI(hA:∀H,Ret F 19 [] (rows++H)=some (.bool true,rows++H,none))(hE:∃Y,E=rows++Y)(hm:m<=100)(rP:Af E P=some [p0,p1,p2])(rQ:Af E Q=some [q0,q1,q2])
  (f0:FrL E p0 a0 m) (f1:FrL E p1 a1 m) (f2:FrL E p2 a2 m) (g0:FrL E q0 b0 m) (g1:FrL E q1 b1 m) (g2:FrL E q2 b2 m) (hno:FrL E no z m) (hc:IsL E c cl) (hcl:cl.length=m) (hd:IsL E d dl) (hdl:dl.length=m)
  (e0:∀i,i<m->a0 i=fq cl i) (e1:∀i,i<m->a1 i=z i) (e2:∀i,i<m->a2 i=z i) (h0:∀i,i<m->b0 i=z i) (h1:∀i,i<m->b1 i=fq dl i) (h2:∀i,i<m->b2 i=z i)
  (s24:lk sl 24 = .ptr P 0) (s26:lk sl 26 = .ptr Q 0) (s13:lk sl 13=c) (s15:lk sl 15=d) (s28:lk sl 28=no)
  : Ex G7 (.fn [.t 4]) [.code c7s1] ⟨mk 211 sl,E,rows.length⟩ fun r=>fin rows r.1 r.2.1 r.2.2=(.bool true,rows,none):=by
 have sm:∀{f g:Nat->Rat},(∀i,i<m->f i=g i)->smB f g m 0=true:=fun h=>(Nq _ _).2 fun j _ hj=>h j (by omega)
 obtain⟨w,X,rw1,hw1⟩:=FG hc (by omega);rw[hcl]at hw1;have hw1:FrL (E++X) w (fq cl) m:=hw1;obtain⟨E1,hE1⟩:∃E1,E1=E++X:=⟨_,rfl⟩
 have rs1:=CK (f0.app X) hw1 (by omega);rw[sm e0]at rs1;have rP1:=Aj rP X;have rQ1:=Aj rQ X;have rs2:=CK (f1.app X) (hno.app X) (by omega);rw[sm e1]at rs2;have rs3:=CK (f2.app X) (hno.app X) (by omega);rw[sm e2]at rs3;obtain⟨w',X',rw2,hw2⟩:=FG (Ah hd X) (by omega);rw[hdl]at hw2;have hw2:FrL (E++X++X') w' (fq dl) m:=hw2;have rs4:=CK ((g1.app X).app X') hw2 (by omega);rw[sm h1]at rs4;have rs5:=CK ((g0.app X).app X') ((hno.app X).app X') (by omega);rw[sm h0]at rs5;have rs6:=CK ((g2.app X).app X') ((hno.app X).app X') (by omega);rw[sm h2]at rs6;have rQ2:=Aj rQ1 X';have r19:Ret F 19 [] (E++X++X')=some (.bool true,E++X++X',none):=by
  obtain⟨Y,rfl⟩:=hE;rw[List.append_assoc,List.append_assoc];exact hA _
 rw[<-hE1]at rw1 rs1 rs2 rs3 rP1 rQ1 rw2 rs4 rs5 rs6 rQ2 r19;have hdE:E++List.drop E.length E1=E1:=by rw[hE1];simp
 have rw1':=EM rw1;have rw2':=EM rw2;have rs1':=EM rs1;have rs2':=EM rs2;have rs3':=EM rs3;have rs4':=EM rs4;have rs5':=EM rs5;have rs6':=EM rs6;have r19':=EM r19;have i03:AQ 0 3=some 0:=rfl;have i13:AQ 1 3=some 1:=rfl;have i23:AQ 2 3=some 2:=rfl;have hfin:fin rows (.bool true) (E1++X') rows.length=(.bool true,rows,none):=by simp
 rw[uc7s1,DC,uc7k0];simp[s24,s26,s13,s15,s28,i03,i13,i23,rP,rP1,rQ1,rQ2,opC,Az,Bu,rw1',rw2',rs1',rs2',rs3',rs4',rs5',rs6',r19',hdE,Function.comp_def,hfin]
end
structure HS(rows C:List Row)(a5 a6 N:Nat)(ks ps:List Nat)(ev1 pv1 ev2 pv2:AV):Prop where
 rx:Af C a5=some [.int .i64 N,ev1,pv1]
 ry:Af C a6=some [.int .i64 N,ev2,pv2]
 gx:GRd C (.agg [.int .i64 N,ev1,pv1]) N ks ps
 gy:GRd C (.agg [.int .i64 N,ev2,pv2]) N ks ps
 un:∃Y,C=rows++Y
 gz:GZ C
theorem HS.app{rows C:List Row}{a5 a6 N:Nat}{ks ps:List Nat}{ev1 pv1 ev2 pv2:AV}(h:HS rows C a5 a6 N ks ps ev1 pv1 ev2 pv2)(X:List Row):HS rows (C++X) a5 a6 N ks ps ev1 pv1 ev2 pv2:=by
 obtain⟨h1,h2,h3,h4,⟨Y,h5⟩,h6⟩:=h;exact⟨Aj h1 X,Aj h2 X,h3.app X,h4.app X,⟨Y++X,by rw[h5,List.append_assoc]⟩,h6.fx (Fx.app (p:=fun _=>False) X) (by simp)⟩
section
variable {rows C:List Row}{a5 a6 N:Nat}{ks ps:List Nat}{ev1 pv1 ev2 pv2 hv tv:AV}{hl tl:List Int}{sl:List (Nat×AV)}
theorem Nx{l:List Int}(h:∀x∈l,-100<=x/\x<=100):l.any IV=false:=by
 rw[List.any_eq_false];intro x hx;have:=h x hx;unfold IV;simp only[decide_eq_true_eq];omega
theorem RN{l:List Int}{B:Int}(h:∀i,i<l.length -> -B<=gI l i/\gI l i<=B):∀x∈l,-B<=x/\x<=B:=by
 intro x hx;obtain⟨i,hi,rfl⟩:=List.mem_iff_getElem.1 hx;rw[<-BB hi];exact h i hi
theorem TL(hA:∀H,Ret F 19 [] (rows++H)=some (.bool true,rows++H,none))(H0:HS rows C a5 a6 N ks ps ev1 pv1 ev2 pv2)(hh:IsL C hv hl)(hhl:hl.length=N)(hhb:∀x∈hl,-25<=x/\x<=25)(ht:IsL C tv tl)(htl:tl.length=ps.length)(htb:∀x∈tl,-12<=x/\x<=12)
  (s5:lk sl 5 = .ptr a5 0) (s6:lk sl 6 = .ptr a6 0) (s7:lk sl 7=hv) (s8:lk sl 8=tv):
  Ex G7 (.fn [.t 4]) [.code c7s25] ⟨mk 211 sl,C,rows.length⟩ fun r=>fin rows r.1 r.2.1 r.2.2=(.bool true,rows,none):=by
 have hok:=H0.gx.ok;have n6:=hok.n6;have hek:=hok.ek;have hpk:=hok.pk;have hlo:rows.length<=C.length:=by obtain⟨Y,e⟩:=H0.un;rw[e];simp
 -- the two flows
 have cb:∀i,i<(DU ks hl).length -> -100<=gI (DU ks hl) i/\gI (DU ks hl) i<=100:=fun i hi=>by
  rw[EU]at hi;have hee:=hok.ee _ (AH hi);rw[KV hi];have h1:=hhb _ (Er (l:=hl) (i:=gN ks i%6) (by omega));have h2:=hhb _ (Er (l:=hl) (i:=gN ks i/6) (by omega));omega
 have cB:=RN cb;have hsw:=SA (ks:=ks) (ps:=ps) (l:=tl) hpk (fun q hq=>htb _ (Er (by omega))) ps.length (Nat.le_refl _);have db:∀i,i<(swS ks ps tl ps.length).length -> -100<=gI (swS ks ps tl ps.length) i/\gI (swS ks ps tl ps.length) i<=100:=fun i hi=>by
  rw[DY]at hi;have:=(hsw i hi).2;omega
 have dB:=RN db;have hruns:Yx ks (DU ks hl):=⟨fun v=>gI hl v,fun j hj=>(KV hj).symm⟩
 obtain⟨cv,X1,r33,_,k1,_⟩:=IC H0.gy hh hhl (fun x hx=>by have:=hhb x hx;omega);have H1:=H0.app X1;have ht:=Ah ht X1;generalize hC1:C++X1=C1 at *;obtain⟨dv,X2,r38,_,k2,_⟩:=Nf H1.gy ht htl (fun x hx=>by have:=htb x hx;omega);have H2:=H1.app X2;have k1:=Ah k1 X2;generalize hC2:C1++X2=C2 at *;have gl:(DU ks hl).length=ks.length:=EU;have sl':(swS ks ps tl ps.length).length=ks.length:=DY _;have r39a:=E5 (n:=ks.length) k1 (by omega);rw[decide_eq_true ⟨by rw[gl],Nx cB⟩]at r39a;have r39b:=E5 (n:=ks.length) k2 (by omega);rw[decide_eq_true ⟨by rw[sl'],Nx dB⟩]at r39b;obtain⟨mv,X3,r40,_,k3,_⟩:=Iw H2.gy k1 gl cB;have H3:=H2.app X3;have k1:=Ah k1 X3;have k2:=Ah k2 X3;generalize hC3:C2++X3=C3 at *;obtain⟨nv,X4,r22,_,k4,_⟩:=IB H3.gy k2 sl' dB;have H4:=H3.app X4;have k1:=Ah k1 X4;have k2:=Ah k2 X4;have k3:=Ah k3 X4;generalize hC4:C3++X4=C4 at *;have r41:=Kd H4.gy k1 gl cB;rw[if_pos ((Re hok gl cB).2 hruns)]at r41;have H5:=H4.app [.cells (Ac .i64 (hts N (fiS ks (DU ks hl) N).1))];have k1:=Ah k1 [.cells (Ac .i64 (hts N (fiS ks (DU ks hl) N).1))];have k2:=Ah k2 [.cells (Ac .i64 (hts N (fiS ks (DU ks hl) N).1))];have k3:=Ah k3 [.cells (Ac .i64 (hts N (fiS ks (DU ks hl) N).1))];have k4:=Ah k4 [.cells (Ac .i64 (hts N (fiS ks (DU ks hl) N).1))];generalize hC5:C4++[.cells (Ac .i64 (hts N (fiS ks (DU ks hl) N).1))]=C5 at *;obtain⟨q,r23a,p0,p1,p2,X6,rfl,f0,f1,f2⟩:=Jg H5.gz H5.gy k1 gl cB;have H6:=(H5.app X6).app [.cells [p0,p1,p2]];have o0:=Am f0;have o1:=Am f1;have o2:=Am f2;have k1:=Ah (Ah k1 X6) [.cells [p0,p1,p2]];have k2:=Ah (Ah k2 X6) [.cells [p0,p1,p2]];have k3:=Ah (Ah k3 X6) [.cells [p0,p1,p2]];have k4:=Ah (Ah k4 X6) [.cells [p0,p1,p2]];have f0:=f0.app [.cells [p0,p1,p2]];have f1:=f1.app [.cells [p0,p1,p2]];have f2:=f2.app [.cells [p0,p1,p2]];have rP:Af (C5++X6++[.cells [p0,p1,p2]]) (C5++X6).length=some [p0,p1,p2]:=B0;generalize hC6:C5++X6=C6 at *;generalize hP:C6.length=P at *;generalize hC6':C6++[.cells [p0,p1,p2]]=D6 at *;obtain⟨q,r23b,q0,q1,q2,X7,rfl,g0,g1,g2⟩:=Jg H6.gz H6.gy k2 sl' dB;have H7:=(H6.app X7).app [.cells [q0,q1,q2]];have o3:=Am g0;have o4:=Am g1;have o5:=Am g2;have k1:=Ah (Ah k1 X7) [.cells [q0,q1,q2]];have k2:=Ah (Ah k2 X7) [.cells [q0,q1,q2]];have k3:=Ah (Ah k3 X7) [.cells [q0,q1,q2]];have k4:=Ah (Ah k4 X7) [.cells [q0,q1,q2]];have f0:=(f0.app X7).app [.cells [q0,q1,q2]];have f1:=(f1.app X7).app [.cells [q0,q1,q2]];have f2:=(f2.app X7).app [.cells [q0,q1,q2]];have g0:=g0.app [.cells [q0,q1,q2]];have g1:=g1.app [.cells [q0,q1,q2]];have g2:=g2.app [.cells [q0,q1,q2]];have rP:=Aj (Aj rP X7) [.cells [q0,q1,q2]];have rQ:Af (D6++X7++[.cells [q0,q1,q2]]) (D6++X7).length=some [q0,q1,q2]:=B0;generalize hC7:D6++X7=C7 at *;generalize hQ:C7.length=Q at *;generalize hC7':C7++[.cells [q0,q1,q2]]=D7 at *
 have z1:=Ls k3 (by simp;omega) (fun i hi=>by
  have hi':i<ps.length:=by simpa using hi
  exact TQ hok gl cB hruns hi')
 have z2:=Ls k4 (by rw[Fa];omega) (fun i hi=>by
  rw[Fa]at hi;rw[LJ hok sl' dB hi ks.length (Nat.le_refl _)]
  exact P7 hok (τ:=fun q=>gI tl q) (fun e he=>(hsw e he).1) i)
 obtain⟨_,_,eg,eE,_,_⟩:=id H7.gx.eq;simp only[AV.agg.injEq,List.cons.injEq,and_true,true_and]at eg;obtain⟨rfl,rfl⟩:=eg;have lnE7:=Aw eE;obtain⟨_,_,eg,eE2,_,_⟩:=id H2.gx.eq;simp only[AV.agg.injEq,List.cons.injEq,and_true,true_and]at eg;obtain⟨rfl,rfl⟩:=eg;have lnE2:=Aw eE2
 -- the list of noughts
 have hlim:(ks.length:Int)<=lim:=by unfold lim;omega
 have hz:IsL (D7++[.cells (Ac .i64 (List.replicate ks.length 0))]) (.slice D7.length 0 ks.length (.at_ ks.length)) (List.replicate ks.length 0):=Nr (by simp);obtain⟨no,X8,r43,hno⟩:=FG hz (by simp;omega);rw[List.length_replicate]at hno;have rP:=Aj (Aj rP [.cells (Ac .i64 (List.replicate ks.length 0))]) X8;have rQ:=Aj (Aj rQ [.cells (Ac .i64 (List.replicate ks.length 0))]) X8;have hz0:∀i,i<ks.length->(((gI (List.replicate ks.length (0:Int)) i:Int):Rat))=0:=fun i hi=>by
  rw[BB (by simpa using hi)];simp
 have tR:∀i,i<ks.length->pt0 ks (DU ks hl) N i=fq (DU ks hl) i/\pt1 ks ps (DU ks hl) i=0:=fun i hi=>Ub hok gl cB hruns hi
 have tS:∀i,i<ks.length->pt0 ks (swS ks ps tl ps.length) N i=0/\pt1 ks ps (swS ks ps tl ps.length) i=fq (swS ks ps tl ps.length) i:=fun i hi=>QG hok sl' dB (τ:=fun q=>((gI tl q:Int):Rat)) (fun e he=>by
  unfold fq;rw[(hsw e he).1,Ce]
  exact Ad fun q _=>by rw[Rat.intCast_mul];rfl) hi
 have key:=fun(sl2:List (Nat×AV)) (t24:lk sl2 24 = .ptr P 0) (t26:lk sl2 26 = .ptr Q 0) (t13:lk sl2 13=cv) (t15:lk sl2 15=dv) (t28:lk sl2 28=no)=>
  AaI (sl:=sl2) hA (by obtain⟨Y,e⟩:=H7.un;exact⟨Y++([.cells (Ac .i64 (List.replicate ks.length 0))]++X8),by rw[e];simp⟩) (show ks.length<=100 by omega) rP rQ ((f0.app _).app X8) ((f1.app _).app X8) ((f2.app _).app X8) ((g0.app _).app X8) ((g1.app _).app X8) ((g2.app _).app X8) hno (Ah (Ah k1 _) X8) gl (Ah (Ah k2 _) X8) sl'
   (fun i hi=>(tR i hi).1) (fun i hi=>by rw[(tR i hi).2,hz0 i hi]) (fun i hi=>by
    rw[hz0 i hi];have:=tR i hi;unfold pt2;rw[this.1,this.2];unfold fq;grind) (fun i hi=>by rw[(tS i hi).1,hz0 i hi]) (fun i hi=>(tS i hi).2) (fun i hi=>by
    rw[hz0 i hi];have:=tS i hi;unfold pt2;rw[this.1,this.2];unfold fq
    grind) t24 t26 t13 t15 t28
 have r33':=EM r33;have r38':=EM r38;have r39a':=EM r39a;have r39b':=EM r39b;have r40':=EM r40;have r22':=EM r22;have r41':=EM r41;have r23a':=EM r23a;have r23b':=EM r23b;have z1':=EM z1;have z2':=EM z2;have r43':=EM r43;have y0:=H0.ry;have y1:=H1.ry;have x2:=H2.rx;have y2:=H2.ry;have y3:=H3.ry;have y4:=H4.ry;have y5:=H5.ry;have y6:=H6.ry;have x7:=H7.rx;have hmk:=Iz (m:=ks.length);simp[s5,s6,s7,s8,y0,seg,r33',y1,r38',Bu,x2,lnE2,r39a',r39b',y2,r40',y3,r22',y4,r41',y5,r23a',AV.cells,-uc7s1];have l6:rows.length<=P:=by rw[<-hP,<-hC6];obtain⟨Y,e⟩:=H5.un;rw[e];simp
 have l7:rows.length<=Q:=by rw[<-hQ,<-hC7];obtain⟨Y,e⟩:=H6.un;rw[e];simp
 have lw6:Aa rows.length P=rows.length:=Ae l6;have lw7:Aa rows.length Q=rows.length:=Ae l7;have cQ:∀vs,cells? (C7++[.cells vs]) Q=some vs:=fun vs=>by rw[<-hQ];exact ET
 have cP:∀vs,cells? (C6++[.cells vs]) P=some vs:=fun vs=>by rw[<-hP];exact ET
 simp[o0,o1,o2,o3,o4,o5,splice,cP,cQ,hP,lw6,hC6',y6,seg,r23b',ET,hQ,lw7,hC7',Bu,z1',z2',x7,lnE7,hlim,hmk,r43',-uc7s1];simp only[List.append_assoc,List.cons_append,List.nil_append,List.length_append]at key;refine key _ ?_ ?_ ?_ ?_ ?_<;>simp
end
theorem N4{rows:List Row}{gv lv:AV}{l:List Int}(h:LawIn rows gv lv l)(hGZ:GZ rows)(hA:∀H,Ret F 19 [] (rows++H)=some (.bool true,rows++H,none)):
  Ret G7 7 [gv,lv] rows=some (.bool true,rows,none):=by
 obtain⟨N,ks,ps,B1,B3,B4,ev1,pv1,ev2,pv2,hb⟩:=UP h;obtain⟨⟨x,ev,pv,rfl,o1,o2,r15,row1⟩,r17,⟨oe1,op1,oe2,op2⟩,hl1,hl3,row2,eB4,rx,ry,gx,gy,⟨Y,eY,uY⟩,_⟩:=hb;have hok:=gx.ok;have n6:=hok.n6;have hek:=hok.ek;have hpk:=hok.pk;obtain⟨_,_,eg,eE,eP,_⟩:=id gx.eq;simp only[AV.agg.injEq,List.cons.injEq,and_true,true_and]at eg;obtain⟨rfl,rfl⟩:=eg;have hL4:IsL B4 lv l:=by rw[eY];exact Ah h.l _
 have nl:∀m,(EN l m).length=m:=fun m=>by simp[EN]
 obtain⟨av,K1,a1,b1,_,d1⟩:=GR B4 (EN l N);obtain⟨bv,K2,a2,b2,_,d2⟩:=GR (B4++K1) (EN l ps.length);rw[nl]at a1 a2;have r20a:=EM (Fl hL4 (m:=N) (by omega));have r20b:=EM (Fl (Ah hL4 K1) (m:=ps.length) (by omega));rw[a1]at r20a;rw[a2]at r20b;have H4:HS rows B4 B1.length B3.length N ks ps ev1 pv1 ev2 pv2:=⟨rx,ry,gx,gy,⟨Y,eY⟩,hGZ.fx (by rw[eY];exact Fx.app (p:=fun _=>False) Y) (by simp)⟩
 have H5:=(H4.app K1).app K2;have hav:=Ah b1 K2;generalize hC:B4++K1++K2=C at *;have hlow:rows.length<=C.length:=by obtain⟨Z,e⟩:=H5.un;rw[e];simp
 have l35:=WZ (x5:=.ptr B1.length 0) (x6:=.ptr B3.length 0) (x8:=.nilslice) (x10:=bv) (low:=rows.length) (r:=fun r=>fin rows r.1 r.2.1 r.2.2=(.bool true,rows,none)) (by omega) hav hlow (fun L w sl hA1 s5 s6 s7 s8 s10=>by
  have l26:=We (C:=C++L) (x5:=.ptr B1.length 0) (x6:=.ptr B3.length 0) (x7:=w) (low:=rows.length) (r:=fun r=>fin rows r.1 r.2.1 r.2.2=(.bool true,rows,none)) (by omega) (Ah b2 L) (by simp;omega) (fun L2 w2 sl2 hA2 t5 t6 t7 t8=>by
   have i1:=Ah (NM hA1).1 L2;have i2:=(NM hA2).1
   exact TL hA ((H5.app L).app L2) i1 Pg (fun x hx=>Sq (k:=4) (b:=25) (by omega) (by omega) x hx) i2 Pg (fun x hx=>Sq (k:=8) (b:=12) (by omega) (by omega) x hx) t5 t6 t7 t8) ps.length 0 [] .nilslice rfl (Nat.zero_le _) BZ
  rw[List.append_nil]at l26;simp[s5,s6,s7,s8,s10]
  simpa using l26) N 0 [] .nilslice rfl (Nat.zero_le _) BZ
 rw[List.append_nil]at l35;have r15':=EM r15;have r17':=EM r17;have low1:Aa rows.length B1.length=rows.length:=Ae hl1;have low3:Aa rows.length B3.length=rows.length:=Ae hl3;have rxL:=fun L=>Aj rx L
 have lnP:=fun L=>Aw (Ai eP L)
 simp only[List.append_assoc]at r20b hC;refine i7 rfl ?_;simp[o1,o2,row1,seg,r15',low1,oe1,op1,oe2,op2,ET,splice,row2,r17',low3,eB4,rx,rxL,lnP,LV,opC,Az,r20a,r20b,Function.comp_def];simpa using l35
end Go.Abs