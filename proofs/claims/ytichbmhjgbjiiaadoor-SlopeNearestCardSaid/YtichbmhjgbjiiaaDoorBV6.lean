/- The texts that the row uses, part 6. -/
import Derived.Test.YtichbmhjgbjiiaaDoorBV5
set_option linter.unusedVariables false
set_option linter.unusedSimpArgs false
set_option maxHeartbeats 32000000
set_option maxRecDepth 100000
namespace Go.Abs
def sT(ks ps:List Nat)(tl:List Int)(i j:Nat):Rat:=if j=10 then((gI tl i:Int):Rat)else((CZ ks ps (gN ps i) ks.length j:Int):Rat)
section
variable {B:List Row}{N low:Nat}{ks ps:List Nat}{ev n0 pv x1 x4 x5 x9:AV}{G:Nat}{tl:List Int}{r:AV×List Row×Nat->Prop}
theorem UJ(hGZ:GZ B)(hek:ks.length<=10)(hpk:ps.length<=6)(o0:n0.one=true)(he:El B 2 ev (Ad .i64 (eC ks)) ks.length)(hpv:El B 3 pv (Ad .i64 (pC ps)) ps.length)(hlow:low<=B.length)(hG:Ae B G=some [n0,ev,pv])(htl:IsL B x9 tl)(htn:tl.length=ps.length)
  (hc:∀(L:List Row) (v:AV) (sl:List (Nat×AV)),Acc B L 22 (.op 22) v (frs (tf (sT ks ps tl)) (ps.length*11)) ps.length->(ps.length=0->v = .nilslice)->lk sl 1=x1->lk sl 2 = .ptr G 0->lk sl 4=x4->lk sl 5=x5->lk sl 11=v->Ex F C68 [.code c68s41] ⟨mk 180 sl,B++L,low⟩ r):
  ∀(d i:Nat) (L:List Row) (v:AV),ps.length-i=d->i<=ps.length->Acc B L 22 (.op 22) v (frs (tf (sT ks ps tl)) (i*11)) i->(i=0->v = .nilslice)->
   Lc68l42 F C68 x1 (.ptr G 0) x4 x5 x9 v (.int .i64 ps.length) (.int .i64 i) (B++L) low r:=by
 intro d
 induction d with
 |zero=>
  intro i L v hd hi hA hv0;have e:i=ps.length:=by omega
  subst e;unfold Lc68l42;simp[-uc68s41];refine hc L v _ hA hv0 ?_ ?_ ?_ ?_ ?_<;>simp
 |succ d ih=>
  intro i L v hd hi0 hA hv0;have hi:i<ps.length:=by omega
  have hww:IntKind.i64.wrap ((i:Int)+1)=((i+1:Nat):Int):=wS (by omega);have hFx:Fx B (B++L) (fun _=>False):=Fx.app L;have hZ:GZ (B++L):=hGZ.fx hFx (by simp);have h96:=Ej hZ;have A9:=An he;have one2:=An hpv;have hOe:(B++L).length=B.length+L.length:=by simp
  have hlw:Ab low (B++L).length=low:=by unfold Ab;rw[if_neg (by simp;omega)]
  have hst:=KU (R:=B++L++[.cells (List.replicate 22 (.int .i64 0))]) (O:=(B++L).length) (low:=low) (xs:=frs (fun _=>0) 11) (vs:=List.replicate 22 (.int .i64 0)) (k:=22) (by simp[-List.reduceReplicate]) (by simp) (Ar 11) (Ep 11);have hset:(B++L++[Row.cells (List.replicate 22 (.int .i64 0))]).set (B++L).length (.cells (frs (fun _=>0) 11))=B++L++[.cells (frs (fun _=>0) 11)]:=by
   rw[AcW _ _ (AcE _),Ac8]
   rfl
  rw[hset,hlw]at hst;obtain⟨R1,hR1⟩:∃R1,R1=B++L++[Row.cells (frs (fun _=>0) 11)]:=⟨_,rfl⟩
  have hR1l:R1.length=B.length+L.length+1:=by rw[hR1];simp;omega
  have hG1:Ae R1 G=some [n0,ev,pv]:=by rw[hR1,AcL];exact Ah hG _
  have he1:El R1 2 ev (Ad .i64 (eC ks)) ks.length:=by rw[hR1,AcL];exact Ag he _
  have hp1:El R1 3 pv (Ad .i64 (pC ps)) ps.length:=by rw[hR1,AcL];exact Ag hpv _
  have hsd:=DB (rows:=R1) (n0:=n0) (ev:=ev) (pv:=pv) (i:=i) o0 A9 one2;have hlb:∀v:AV,(v = .nilslice\/sid v<B.length)->sid v≠B.length+L.length\/B.length+L.length=0:=fun v h=>by
   rcases h with e|e
   ·subst e
    show(0:Nat)≠_\/_;omega
   ·omega
  have hGl:=AS hG;have heo:sid ev≠B.length+L.length:=by rcases hlb ev (BA he)with h|h<;>omega
  have hpo:sid pv≠B.length+L.length:=by rcases hlb pv (BA hpv)with h|h<;>omega
  have hz0:frs (fun _=>0) 11=frs (zr fun _=>0) 11:=Am fun _ _=>rfl
  have hrf:∀sl:List (Nat×AV),lk sl 69 = .func 93 [.ptr R1.length 0,.ptr (R1.length+1) 0]->lk sl 1=x1->lk sl 2 = .ptr G 0->lk sl 4=x4->lk sl 5=x5->lk sl 9=x9->lk sl 11=v->lk sl 12 = .int .i64 i->lk sl 13 = .ptr (B.length+L.length) 0->lk sl 62 = .int .i64 ps.length->lk sl 63 = .int .i64 i->
    Ex F C68 (.code (.rf (.t 69) [70,71] c68f47a c68f47b)::[.inBlock 4,.code c68s46,.inBlock 3,.code c68k43,.inLoop c68l42,.inBlock 2,.code c68s41]) ⟨mk 180 sl,R1++[.cells [n0,ev,pv],.cells [.int .i64 i]],low⟩ r:=by
   intro sl s69 s1 s2 s4 s5 s9 s11 s12 s13 s62 s63;refine Ua (p:=i) (O:=B.length+L.length) (G:=G) (ga:=R1.length) (pa:=R1.length+1) (n0:=n0) (ev:=ev) (pv:=pv) hek hi hpk o0 (Ag he1 _) (Ag hp1 _) heo hpo (Ah hG1 _) (by omega) (by simp[Ae]) (by simp[Ae]) ?_ (by omega) s69 s13 s2 (fun Q hSQ hOQ=>?_)
   ·rw[AcD (by omega),hR1,<-hOe,AcG (AcE _),Ac8,<-hz0]
    rfl
   ·have hQl:=hSQ.1
    simp only[AcO,AcU,Ac7]at hQl;have hOl:=(AcF.1 hOQ).1
    have hF:Fx (B++L) Q (fun _=>False):=⟨by omega,fun id h1 _=>by
     rw[hSQ.2 id (by simp;omega) (by omega),AcD (by omega),hR1,AcD h1]⟩
    have hS:Sm B.length B.length B Q:=⟨(hFx.trans hF).1,fun id h1 _=>(hFx.trans hF).2 id h1 (by simp)⟩
    have htl':IsL Q x9 tl:=Cd hS htl (by rcases BA htl with e|e;exact .inl e;exact .inr ⟨e,by omega⟩);have ix:=B7 htl' (i:=i) (by omega);have ld:=F0 htl' (j:=i) (by omega);rw[Add]at ix;have r63:=fun R':List Row=>BM (rows:=R') (n:=gI tl i)
    have ixt:=fun R':List Row=>Fm (R:=R') (id:=B.length+L.length) (o:=0) (show 10<11 by omega)
    have i10:AI 10 11=some 10:=rfl;have st:=CD (low:=low) (q:=((gI tl i:Int):Rat)) hOQ (show 10<11 by omega);have hlw2:Ab low (B.length+L.length)=low:=lwS (by omega);rw[hlw2]at st;have hrow:frs (fun j'=>if j'=10 then((gI tl i:Int):Rat)else zr (CZ ks ps (gN ps i) ks.length) j') 11=frs (sT ks ps tl i) 11:=Am fun j _=>rfl
    rw[hrow]at st
    have hR':Fx (B++L) (Q.set (B.length+L.length) (.cells (frs (sT ks ps tl i) 11))) (fun _=>False):=⟨by rw[Adh];exact hF.1,fun id h1 _=>by
     rw[hOe]at h1;rw[AcH (by omega)]
     exact hF.2 id (by omega) (by simp)⟩
    obtain⟨L',hL',hA'⟩:=Nr hA hR';have hr':Ae (B++L') (B.length+L.length)=some (frs (sT ks ps tl i) 11):=by
     rw[<-hL'];unfold Ae;rw[AcM hOl]
    have hsg':seg (frs (sT ks ps tl i) 11) 0 22=some (frs (sT ks ps tl i) 11):=BZ (Ar 11);obtain⟨v',L'',happ,hA2,_⟩:=BQ (low:=low) (b:=176) hA' (Ar 11) (by omega) (by omega) hlow;rw[Ho]at hA2;have:=ih (i+1) L'' v' (by omega) (by omega) hA2 (fun h=>by omega);rw[hL']at st;simp[-List.reduceReplicate,s1,s2,s4,s5,s9,s11,s12,s13,s62,s63,ix,ld,r63,ixt,i10,st,hr',hsg',HO,happ,hww];simpa using this
  simp only[AcL,AcO]at hst hlw hR1;have hR1a:B++(L++[Row.cells (frs (fun _=>0) 11)])=R1:=hR1.symm;unfold Lc68l42;simp[-List.reduceReplicate,-Ax,hi,h96,hlw,hst,hR1a,hG1,seg,hsd];refine hrf _ ?_ ?_ ?_ ?_ ?_ ?_ ?_ ?_ ?_ ?_ ?_<;>simp
end
section
variable {N:Nat}{ks ps:List Nat}{r:AV×List Row×Nat->Prop}{x1 x2 x4 x5 x11:AV}
theorem UH{L:List Row}{O S m low:Nat}{cO:Cap}(hm:m<=1000)(hG:GZ L)(hO:O<L.length)(hlO:low<=O)(hO0:O≠0)(hS:Ae L S=some [.slice O 0 m cO])(hSO:S≠O)
  (hc:∀sl:List (Nat×AV),lk sl 1=x1->lk sl 2=x2->lk sl 4=x4->lk sl 5=x5->lk sl 11=x11->lk sl 19 = .ptr S 0->Ex F C68 [.code c68s29] ⟨mk 180 sl,L.set O (.cells (frs (fun _=>0) m)),low⟩ r):
  ∀(d j:Nat),m-j=d->j<=m->Lc68l30 F C68 x1 x2 x4 x5 x11 (.ptr S 0) (.int .i64 m) (.int .i64 j) (L.set O (.cells (Dp m j))) low r:=by
 intro d
 induction d with
 |zero=>
  intro j hd hj;have e:j=m:=by omega
  subst e;unfold Lc68l30;simp[-uc68s29];rw[Pt];refine hc _ ?_ ?_ ?_ ?_ ?_ ?_<;>simp
 |succ d ih=>
  intro j hd hj0;have hj:j<m:=by omega
  have hwj:IntKind.i64.wrap ((j:Int)+1)=((j+1:Nat):Int):=wS (by omega);have hG':GZ (L.set O (.cells (Dp m j))):=by unfold GZ;rw[AcH hO0];exact hG
  have ld:=N2 hG';have hg:(L.set O (.cells (Dp m j)))[O]?=some (.cells (Dp m j)):=by rw[AcM hO]
  have st:=Jy (low:=low) hg hj;have hlw:Ab low O=low:=lwS (by omega);rw[Ad5,hlw]at st;have hS':Ae (L.set O (.cells (Dp m j))) S=some [.slice O 0 m cO]:=by
   unfold Ae at hS ⊢;rw[AcH (by omega)];exact hS
  have ix:=fun R:List Row=>C8 (R:=R) (id:=O) (c:=cO) hj
  have:=ih (j+1) (by omega) (by omega);unfold Lc68l30;simp[hj,hS',ld,ix,st,hwj];simpa using this
theorem M8{rows:List Row}(hG:GZ rows):Ret F 98 [.nilslice,.int .i64 0] rows=some (.slice rows.length 0 0 (.at_ 0),rows++[.cells []],none):=by
 have hl0:=hG.lt;have hG2:GZ (rows++[.cells []]):=hG.fx (Fx.app (p:=fun _=>False) _) (by simp);have ld:=N2 hG2;obtain⟨cF,r64⟩:=JJ (rows:=rows++[.cells []]) (cols:=0) (by omega);have hfin:=Fh (rows:=rows) (R':=rows++[.cells [],.cells []]) (id:=rows.length) (o:=0) (n:=0) (c:=.at_ 0) (vs:=[]) (by simp) (AcE _) rfl;simp only[AcL,Aee,AdI,AcO,AcU,Ac7,Ads,Int.natCast_zero]at r64;refine i98 F98 ?_;simp;unfold Lc98l27;simp;unfold Lc98l15;simp[ld,r64];unfold Lc98l2;simp;exact hfin
end
def sw(ks ps:List Nat)(t:Nat->Rat)(p e:Nat):Rat:=su p fun q=>t q*((sgn (gN ps q) (gN ks e):Int):Rat)
def swI(ks ps:List Nat)(t:Nat->Rat)(p i e:Nat):Rat:=if e<i then sw ks ps t (p+1) e else sw ks ps t p e
section
variable {N:Nat}{ks ps:List Nat}{r:AV×List Row×Nat->Prop}{k:List Itm}{t:Nat->Rat}
theorem Yb{Rb:List Row}{low p W S X22 ga pa:Nat}{n0 ev pv:AV}{sl:List (Nat×AV)}{cO:Cap}(hek:ks.length<=10)(hp:p<ps.length)
  (ht:∀(R:List Row) (e:Nat),e<ks.length->Ret F 99 [fr (t p),fr ((sgn (gN ps p) (gN ks e):Int):Rat)] R=some (fr (t p*((sgn (gN ps p) (gN ks e):Int):Rat)),R,none))
  (hpl:∀(R:List Row) (e:Nat),e<ks.length->Ret F 97 [fr (sw ks ps t p e),fr (t p*((sgn (gN ps p) (gN ks e):Int):Rat))] R=some (fr (sw ks ps t (p+1) e),R,none))
  (he:El Rb 2 ev (Ad .i64 (eC ks)) ks.length) (hpv:El Rb 3 pv (Ad .i64 (pC ps)) ps.length) (heo:sid ev≠W)
  (hga:Ae Rb ga=some [n0,ev,pv]) (hpa:Ae Rb pa=some [.int .i64 p]) (hW:Rb[W]?=some (.cells (frs (sw ks ps t p) ks.length))) (hlo:low<=W) (hS:Ae Rb S=some [.slice W 0 ks.length cO]) (hSW:S≠W)
  (h22:Ae Rb X22=some [.int .i64 (t p).num,.int .i64 ((t p).den:Int)]) (h22W:X22≠W)
  (s135:lk sl 135 = .func 93 [.ptr ga 0,.ptr pa 0]) (s19:lk sl 19 = .ptr S 0) (s22:lk sl 22 = .ptr X22 0)
  (hend:∀Q,Sm Rb.length W Rb Q->Q[W]?=some (.cells (frs (sw ks ps t (p+1)) ks.length))->Ex F C68 k ⟨mk 180 sl,Q,low⟩ r):
  Ex F C68 (.code (.rf (.t 135) [136,137] c68f16a c68f16b)::k) ⟨mk 180 sl,Rb,low⟩ r:=by
 have hWl:=(AcF.1 hW).1;have hSl:=AS hS;have h22l:=AS h22;refine FA (ks:=ks) (ps:=ps) (p:=p) (ga:=ga) (pa:=pa) (o:=W) (n0:=n0) (ev:=ev) (pv:=pv) (C:=fun i=>Row.cells (frs (swI ks ps t p i) ks.length)) rfl hek hp (by rw[Dc _ _ _ (by omega)];exact s135) hga hpa he hpv hWl heo (by rw[hW];exact congrArg (fun l=>some (Row.cells l)) (Am fun e _=>by unfold swI;rw[if_neg (by omega)])) ?_ ?_ ?_
 ·intro i hi h0
  congr 1;refine Am fun e _=>?_
  unfold swI
  by_cases c:e=i
  ·subst c
   rw[if_pos (by omega),if_neg (by omega)];unfold sw;rw[su,h0];grind
  ·by_cases c2:e<i
   ·rw[if_pos c2,if_pos (by omega)]
   ·rw[if_neg c2,if_neg (by omega)]
 ·intro Q i hSQ hM hCQ hi hsg
  have hQl:=hSQ.1;have hML:=(AcF.1 hM).1;rw[ER,uc68f16a];simp only[Fc,uc68k19,uc68k18];rw[B9];refine⟨none,mk 180 sl,[136,137],c68f16a,c68f16b,hM,?_⟩;have hlwM:Ab Q.length Rb.length=Rb.length:=by unfold Ab;split<;>omega
  have hlwo:Ab Rb.length W=W:=by unfold Ab;split<;>omega
  rw[hlwM];obtain⟨Q1,hQ1⟩:∃Q1,Q1=Q.set Rb.length (.loop .busy none (mk 180 sl) [136,137] c68f16a c68f16b):=⟨_,rfl⟩
  rw[<-hQ1];have hS1:Sm Rb.length W Rb Q1:=by rw[hQ1];exact DC hSQ (.inr (AcE _))
  have aS:=Bt hS1 hS hSl hSW;have a22:=Bt hS1 h22 h22l h22W;have hCo:Q1[W]?=some (.cells (frs (swI ks ps t p i) ks.length)):=by rw[hQ1,AcH (by omega)];exact hCQ
  have r63:=fun R:List Row=>BM (rows:=R) (n:=sgn (gN ps p) (gN ks i))
  have r99:=fun R=>ht R i hi
  have r97:=fun R=>hpl R i hi
  have ix:=fun R':List Row=>C8 (R:=R') (id:=W) (c:=cO) hi
  have ld:=CJ hCo hi;have hold:swI ks ps t p i i=sw ks ps t p i:=by unfold swI;rw[if_neg (by omega)]
  rw[hold]at ld;have st:=CD (low:=Rb.length) (q:=sw ks ps t (p+1) i) hCo hi;have hrow:frs (fun j'=>if j'=i then sw ks ps t (p+1) i else swI ks ps t p i j') ks.length=frs (swI ks ps t p (i+1)) ks.length:=Am fun e _=>by
   unfold swI
   by_cases c:e=i
   ·rw[if_pos c,if_pos (by omega),c]
   ·rw[if_neg c]
    by_cases c2:e<i
    ·rw[if_pos c2,if_pos (by omega)]
    ·rw[if_neg c2,if_neg (by omega)]
  rw[hrow,hlwo]at st;have hld22:evP Q1 (.loadN 2 (.c (.ptr X22 0)))=some (fr (t p)):=by
   rw[CE,a22]
   rfl
  generalize sgn (gN ps p) (gN ks i)=s at *;have hM1:(Q1.set W (.cells (frs (swI ks ps t p (i+1)) ks.length)))[Rb.length]?=some (.loop .busy none (mk 180 sl) [136,137] c68f16a c68f16b):=by
   rw[AcH (by omega),hQ1,AcM hML]
  have hput:=Fv (R:=Q) (M:=Rb.length) (o:=W) (x:=.cells (frs (swI ks ps t p (i+1)) ks.length)) (y:=.loop .busy none (mk 180 sl) [136,137] c68f16a c68f16b) hM (by omega);rw[<-hQ1]at hput;simp[-CE,s19,s22,aS,hld22,r63,r99,r97,ix,ld,st,opC,Aw,Ba];rw[CA hM1];refine⟨rfl,by rw[hput.1];exact AcE _,fun id h1 h2=>hput.2.1 id h2,hput.2.2,?_,?_⟩
  ·show W<=Ab W Rb.length
   unfold Ab;split<;>omega
  ·show Ab W Rb.length<=Rb.length
   unfold Ab;split<;>omega
 ·intro Q low2 hSQ hCQ h1 h2
  have e:low2=low:=by omega
  rw[e];refine hend Q hSQ ?_;rw[hCQ];exact congrArg (fun l=>some (Row.cells l)) (Am fun e he=>by unfold swI;rw[if_pos he])
theorem Vv{R0:List Row}{low W S T G:Nat}{n0 ev pv x1 x4 x5:AV}{cO cT:Cap}(hek:ks.length<=10)(hpk:ps.length<=6)(o0:n0.one=true)
  (ht:∀(R:List Row) (p e:Nat),p<ps.length->e<ks.length->Ret F 99 [fr (t p),fr ((sgn (gN ps p) (gN ks e):Int):Rat)] R=some (fr (t p*((sgn (gN ps p) (gN ks e):Int):Rat)),R,none))
  (hpl:∀(R:List Row) (p e:Nat),p<ps.length->e<ks.length->Ret F 97 [fr (sw ks ps t p e),fr (t p*((sgn (gN ps p) (gN ks e):Int):Rat))] R=some (fr (sw ks ps t (p+1) e),R,none))
  (he:El R0 2 ev (Ad .i64 (eC ks)) ks.length) (hpv:El R0 3 pv (Ad .i64 (pC ps)) ps.length) (heo:sid ev≠W) (hpo:sid pv≠W) (hWl:W<R0.length) (hlo:low<=W)
  (hG:Ae R0 G=some [n0,ev,pv]) (hGW:G≠W) (hS:Ae R0 S=some [.slice W 0 ks.length cO]) (hSW:S≠W) (hT:R0[T]?=some (.cells (frs t ps.length))) (hTW:T≠W)
  (hc:∀(R:List Row) (sl:List (Nat×AV)),Sm R0.length W R0 R->R[W]?=some (.cells (frs (sw ks ps t ps.length) ks.length))->lk sl 1=x1->lk sl 4=x4->lk sl 5=x5->lk sl 19 = .ptr S 0->Ex F C68 [.code c68s13] ⟨mk 180 sl,R,low⟩ r):
  ∀(d p:Nat) (R:List Row),ps.length-p=d->p<=ps.length->Sm R0.length W R0 R->R[W]?=some (.cells (frs (sw ks ps t p) ks.length))->
   Lc68l14 F C68 x1 (.ptr G 0) x4 x5 (.ptr S 0) (.slice T 0 ps.length cT) (.int .i64 ps.length) (.int .i64 p) R low r:=by
 intro d
 induction d with
 |zero=>
  intro p R hd hp hSm hW;have e:p=ps.length:=by omega
  subst e;unfold Lc68l14;simp[-uc68s13];refine hc R _ hSm hW ?_ ?_ ?_ ?_<;>simp
 |succ d ih=>
  intro p R hd hp0 hSm hW;have hp:p<ps.length:=by omega
  have hww:IntKind.i64.wrap ((p:Int)+1)=((p+1:Nat):Int):=wS (by omega);have hRl:=hSm.1;have he':El R 2 ev (Ad .i64 (eC ks)) ks.length:=Cd hSm he (by rcases BA he with e|e;exact .inl e;exact .inr ⟨e,heo⟩);have hp':El R 3 pv (Ad .i64 (pC ps)) ps.length:=Cd hSm hpv (by rcases BA hpv with e|e;exact .inl e;exact .inr ⟨e,hpo⟩);have hG':=Bt hSm hG (AS hG) hGW;have hS':=Bt hSm hS (AS hS) hSW;have hTl:=(AcF.1 hT).1;have hT':R[T]?=some (.cells (frs t ps.length)):=by rw[hSm.2 T hTl hTW];exact hT
  have A9:=An he;have one2:=An hpv;have ix:=fun R':List Row=>C8 (R:=R') (id:=T) (c:=cT) hp
  have ld:=CJ hT' hp;have hlw:Ab low R.length=low:=lwS (by omega);obtain⟨R1,hR1⟩:∃R1,R1=R++[Row.cells [.int .i64 (t p).num,.int .i64 ((t p).den:Int)]]:=⟨_,rfl⟩
  have hR1l:R1.length=R.length+1:=by rw[hR1];simp
  have hG1:Ae R1 G=some [n0,ev,pv]:=by rw[hR1];exact Ah hG' _
  have hsd:=DB (rows:=R1) (n0:=n0) (ev:=ev) (pv:=pv) (i:=p) o0 A9 one2;obtain⟨Rb,hRb⟩:∃Rb,Rb=R1++[.cells [n0,ev,pv],.cells [.int .i64 p]]:=⟨_,rfl⟩
  have hRbl:Rb.length=R.length+3:=by rw[hRb];simp[hR1l]
  have hSb:Sm R0.length W R0 Rb:=by rw[hRb,hR1,AcL];exact BI hSm _
  have hrf:∀sl:List (Nat×AV),lk sl 135 = .func 93 [.ptr R1.length 0,.ptr (R1.length+1) 0]->lk sl 1=x1->lk sl 2 = .ptr G 0->lk sl 4=x4->lk sl 5=x5->lk sl 19 = .ptr S 0->lk sl 22 = .ptr R.length 0->lk sl 126 = .slice T 0 ps.length cT->lk sl 127 = .int .i64 ps.length->lk sl 128 = .int .i64 p->
    Ex F C68 (.code (.rf (.t 135) [136,137] c68f16a c68f16b)::[.inBlock 14,.inBlock 13,.code c68k15,.inLoop c68l14,.inBlock 12,.code c68s13]) ⟨mk 180 sl,Rb,low⟩ r:=by
   intro sl s135 s1 s2 s4 s5 s19 s22 s126 s127 s128;refine Yb (p:=p) (W:=W) (S:=S) (X22:=R.length) (ga:=R1.length) (pa:=R1.length+1) (n0:=n0) (ev:=ev) (pv:=pv) (cO:=cO) hek hp (fun R e he=>ht R p e hp he) (fun R e he=>hpl R p e hp he) (by rw[hRb,hR1,AcL];exact Ag he' _) (by rw[hRb,hR1,AcL];exact Ag hp' _) heo (by rw[hRb];simp[Ae]) (by rw[hRb];simp[Ae])
    (by rw[hRb,hR1,AcL,AcD (by omega)];exact hW) hlo (by rw[hRb,hR1,AcL];exact Ah hS' _) hSW (by rw[hRb,hR1];simp[Ae]) (by omega) s135 s19 s22 (fun Q hSQ hWQ=>?_)
   have:=ih (p+1) Q (by omega) (by omega) (A7 hSb hSQ (by omega)) hWQ;simp[s1,s2,s4,s5,s19,s126,s127,s128,hww];simpa using this
  have hfr:∀q:Rat,fr q = .agg [.int .i64 q.num,.int .i64 (q.den:Int)]:=fun _=>rfl
  rw[hfr]at ld;rw[hRb]at hrf;unfold Lc68l14;simp[hp,ix,ld,AV.cells,splice,hlw,<-hR1,hG1,seg,hsd];refine hrf _ ?_ ?_ ?_ ?_ ?_ ?_ ?_ ?_ ?_ ?_<;>simp
end
theorem WX(q:Rat):fr q = .agg [.int .i64 q.num,.int .i64 (q.den:Int)]:=rfl
theorem Ei{R:List Row}{v:AV}{f:Nat->Rat}{m i:Nat}(h:El R 2 v (frs f m) m)(hi:i<m):evP R (.loadN 2 (.c (.ptr (sid v) (G1 v+i*2))))=some (fr (f i)):=by
 rw[Gv h (by rw[Ar];omega) (by omega),HV hi]
 rfl
section
variable {R R' R'':List Row}{low O S W i m:Nat}{v v0 v':AV}{f:Int}{d s:Nat->Rat}{q1 q2:Rat}{sl:List (Nat×AV)}{k:List Itm}{r:AV×List Row×Nat->Prop}{cO:Cap}
theorem YV{ws:List AV}(hO:Ae R O=some ws)(hv:ws[2]?=some v)(hv0:ws[0]?=some v0)(hi:i<m)(hd:El R 2 v0 (frs d m) m)(hS:Ae R S=some [.slice W 0 m cO])(hW:R[W]?=some (.cells (frs s m)))
  (r1:∀R:List Row,Ret F 95 [fr (f:Rat),fr (d i)] R=some (fr q1,R,none)) (r2:∀R:List Row,Ret F 95 [fr q1,fr (s i)] R=some (fr q2,R,none))
  (happ:evE (R++[.cells [.int .i64 q2.num,.int .i64 (q2.den:Int)]]) low (.app 2 16 (.c v) (.c (.slice R.length 0 1 (.at_ 1))))=some (v',R',low)) (hst:evE R' low (.store1 (.c (.ptr O 2)) (.c v'))=some (.tup [],R'',low))
  (s5:lk sl 5 = .ptr O 0) (s19:lk sl 19 = .ptr S 0) (s25:lk sl 25 = .int .i64 i) (s26:lk sl 26 = .int .i64 f)
  (hn:∀sl':List (Nat×AV),(∀j∈[4,5,19,153,154,155],lk sl' j=lk sl j)->Ex F C68 k ⟨mk 180 sl',R'',low⟩ r):
  Ex F C68 (.code c68k4::k) ⟨mk 180 sl,R,low⟩ r:=by
 have ix0:=B7 hd hi;have ld0:=Ei hd hi;have ix1:=fun R:List Row=>C8 (R:=R) (id:=W) (c:=cO) hi
 have ld1:=CJ hW hi;have r63:=fun R:List Row=>BM (rows:=R) (n:=f)
 have i03:AI 0 3=some 0:=rfl;have i23:AI 2 3=some 2:=rfl;simp[-A4,-CE,s5,s19,s25,s26,i03,i23,hO,hv,hv0,hS,ix0,ld0,ix1,ld1,r63,r1,r2,opC,Aw,Ba,Yd,Nu,happ,hst];refine hn _ ?_;simp[s5,s19]
end
section
variable {B L0:List Row}{N low O S W m:Nat}{v0 v1 x1 x4:AV}{fl:List Int}{d s:Nat->Rat}{r:AV×List Row×Nat->Prop}{cO:Cap}
def w2(v0 v1 v:AV):List AV:=[v0,v1,v]
theorem YE(hlow:low<=B.length)(h0:0<L0.length)(hm:m<=10)(hfl:IsL B x1 fl)(hfn:fl.length=m)(hd:El (B++L0) 2 v0 (frs d m) m)(hdB:v0 = .nilslice\/sid v0≠B.length)
  (hS:L0[S]?=some (.cells [.slice (B.length+W) 0 m cO])) (hS0:S≠0) (hW:L0[W]?=some (.cells (frs s m))) (hW0:W≠0)
  (r1:∀(R:List Row) (i:Nat),i<m->Ret F 95 [fr ((gI fl i:Int):Rat),fr (d i)] R=some (fr (((gI fl i:Int):Rat)-d i),R,none))
  (r2:∀(R:List Row) (i:Nat),i<m->Ret F 95 [fr (((gI fl i:Int):Rat)-d i),fr (s i)] R=some (fr (((gI fl i:Int):Rat)-d i-s i),R,none))
  (hc:∀(L:List Row) (v:AV) (sl:List (Nat×AV)),PO B L0 (w2 v0 v1) L v (frs (fun i=>((gI fl i:Int):Rat)-d i-s i) m) m->lk sl 4=x4->lk sl 5 = .ptr B.length 0->Ex F C68 [.code c68s1] ⟨mk 180 sl,B++L,low⟩ r):
  ∀(n i:Nat) (L:List Row) (v:AV),m-i=n->i<=m->PO B L0 (w2 v0 v1) L v (frs (fun i=>((gI fl i:Int):Rat)-d i-s i) i) i->
   Lc68l2 F C68 x4 (.ptr B.length 0) (.ptr (B.length+S) 0) x1 (.int .i64 m) (.int .i64 i) (B++L) low r:=by
 intro n
 induction n with
 |zero=>
  intro i L v hn hi hP;have e:i=m:=by omega
  subst e;unfold Lc68l2;simp[-uc68s1];refine hc L v _ hP ?_ ?_<;>simp
 |succ n ih=>
  intro i L v hn hi0 hP;have hi:i<m:=by omega
  have hww:IntKind.i64.wrap ((i:Int)+1)=((i+1:Nat):Int):=wS (by omega);have hfl':=Al hfl L;have ix:=B7 hfl' (i:=i) (by omega);have ld:=F0 hfl' (j:=i) (by omega);rw[Add]at ix;obtain⟨q,hq⟩:∃q,q=((gI fl i:Int):Rat)-d i-s i:=⟨_,rfl⟩
  obtain⟨v',L',L'',happ,hst,hP2⟩:=hP.push (x:=[.int .i64 q.num,.int .i64 (q.den:Int)]) (j:=2) (low:=low) (b:=16) rfl (by omega) hlow h0 (fun _ _=>rfl) (by simp[w2]);have hfrs:frs (fun i=>((gI fl i:Int):Rat)-d i-s i) i++[.int .i64 q.num,.int .i64 (q.den:Int)]=frs (fun i=>((gI fl i:Int):Rat)-d i-s i) (i+1):=by rw[hq];rfl
  rw[hfrs]at hP2;have:=ih (i+1) L'' v' (by omega) (by omega) hP2;have hl:=hP.l;have hOr:Ae (B++L) B.length=some (w2 v0 v1 v):=by
   unfold Ae;rw[AcG (AcE _),Ac8,hP.o]
  have hSl:=(AcF.1 hS).1;have hWl:=(AcF.1 hW).1;have hSr:Ae (B++L) (B.length+S)=some [.slice (B.length+W) 0 m cO]:=by
   unfold Ae;rw[AcG (by omega),AcS,hP.k S hSl hS0,hS]
  have hWr:(B++L)[B.length+W]?=some (.cells (frs s m)):=by
   rw[AcG (by omega),AcS,hP.k W hWl hW0,hW]
  have hd':El (B++L) 2 v0 (frs d m) m:=by
   have hSm:Sm (B++L0).length B.length (B++L0) (B++L):=⟨by simp;omega,fun id h1 h2=>by
    by_cases c:id<B.length
    ·rw[AcD c,AcD c]
    ·rw[AcG (by omega),AcG (by omega)]
     exact hP.k _ (by simp at h1;omega) (by omega)⟩
   refine Cd hSm hd ?_;rcases BA hd with e|e
   ·exact .inl e
   ·rcases hdB with e2|e2
    ·exact .inl e2
    ·exact .inr ⟨e,e2⟩
  have happ':evE ((B++L)++[.cells [.int .i64 q.num,.int .i64 (q.den:Int)]]) low (.app 2 16 (.c v) (.c (.slice (B++L).length 0 1 (.at_ 1))))=some (v',B++L',low):=by
   rw[AcL,AcO];exact happ
  have hk:∀sl:List (Nat×AV),lk sl 4=x4->lk sl 5 = .ptr B.length 0->lk sl 19 = .ptr (B.length+S) 0->lk sl 25 = .int .i64 i->lk sl 26 = .int .i64 (gI fl i)->lk sl 153=x1->lk sl 154 = .int .i64 m->lk sl 155 = .int .i64 i->
    Ex F C68 [.code c68k4,.inBlock 17,.code c68k3,.inLoop c68l2,.inBlock 16,.code c68s1] ⟨mk 180 sl,B++L,low⟩ r:=by
   intro sl s4 s5 s19 s25 s26 s153 s154 s155;refine YV (q1:=((gI fl i:Int):Rat)-d i) (q2:=q) hOr (v:=v) (v0:=v0) rfl rfl hi hd' hSr hWr (fun R=>r1 R i hi) (fun R=>by rw[hq];exact r2 R i hi) happ' hst s5 s19 s25 s26 fun sl' hs=>?_
   have t4:=hs 4 (by simp);have t5:=hs 5 (by simp);have t19:=hs 19 (by simp);have t153:=hs 153 (by simp);have t154:=hs 154 (by simp);have t155:=hs 155 (by simp);rw[s4]at t4;rw[s5]at t5;rw[s19]at t19;rw[s153]at t153;rw[s154]at t154;rw[s155]at t155;simp[t4,t5,t19,t153,t154,t155,hww];simpa using this
  unfold Lc68l2;simp[-uc68k4,hi,ix,ld];refine hk _ ?_ ?_ ?_ ?_ ?_ ?_ ?_ ?_<;>simp
end
def Ox(rows:List Row)(m:Nat)(a b c:Nat->Rat)(q:AV×List Row×Option Nat):Prop:=
 ∃v0 v1 v2 X,q=(.agg [v0,v1,v2],rows++X,none)/\El (rows++X) 2 v0 (frs a m) m/\El (rows++X) 2 v1 (frs b m) m/\El (rows++X) 2 v2 (frs c m) m/\(v0 = .nilslice\/rows.length<=sid v0)/\(v1 = .nilslice\/rows.length<=sid v1)/\(v2 = .nilslice\/rows.length<=sid v2)
theorem PK{rows X:List Row}{v:AV}{cs:List AV}{n sz:Nat}(h:El (rows++X) sz v cs n)(hv:v.ids.all (· < rows.length)=true):El rows sz v cs n:=by
 rcases AP h with ⟨rfl,rfl,rfl⟩|⟨id,off,c,vs,rfl,hr,hs⟩
 ·exact BY
 ·have hid:id<rows.length:=by simpa[AV.ids]using hv
  have hr':Ae rows id=some vs:=by
   unfold Ae at hr ⊢;rw[AcD hid]at hr;exact hr
  unfold El A5;simp only[hr',hs]
  rfl
section
variable {rows L:List Row}{m S W:Nat}{G4 G:Row}{v0 x1:AV}{cO:Cap}{fl:List Int}{d s:Nat->Rat}{sl:List (Nat×AV)}
theorem VJ{B:List Row}(hB:B=rows++[G,.cells [.nilslice,.nilslice,.nilslice]])(hm:m<=10)(hfl:IsL rows x1 fl)(hfn:fl.length=m)(h0:L[0]?=some (.cells [v0,.nilslice,.nilslice]))(hd:El (B++L) 2 v0 (frs d m) m)(hdB:v0 = .nilslice\/B.length<sid v0)
  (hS:L[S]?=some (.cells [.slice (B.length+W) 0 m cO])) (hS0:S≠0) (hW:L[W]?=some (.cells (frs s m))) (hW0:W≠0)
  (r1:∀(R:List Row) (i:Nat),i<m->Ret F 95 [fr ((gI fl i:Int):Rat),fr (d i)] R=some (fr (((gI fl i:Int):Rat)-d i),R,none))
  (r2:∀(R:List Row) (i:Nat),i<m->Ret F 95 [fr (((gI fl i:Int):Rat)-d i),fr (s i)] R=some (fr (((gI fl i:Int):Rat)-d i-s i),R,none))
  (s1:lk sl 1=x1) (s4:lk sl 4 = .ptr (rows.length+1) 0) (s5:lk sl 5 = .ptr B.length 0) (s19:lk sl 19 = .ptr (B.length+S) 0):
  Ex F C68 [.code c68s13] ⟨mk 180 sl,B++L,rows.length⟩ fun x=>Ox rows m d s (fun i=>((gI fl i:Int):Rat)-d i-s i) (fin rows x.1 x.2.1 x.2.2):=by
 have hBl:B.length=rows.length+2:=by rw[hB];simp
 have hLl:=(AcF.1 h0).1;have hflB:IsL B x1 fl:=by rw[hB];exact Al hfl _
 have hSr:Ae (B++L) (B.length+S)=some [.slice (B.length+W) 0 m cO]:=by
  unfold Ae;rw[AcG (by omega),AcS,hS]
 have h0r:cells? (B++L) B.length=some [v0,.nilslice,.nilslice]:=by
  unfold cells?;rw[AcG (AcE _),Ac8,h0]
 obtain⟨L0,hL0⟩:∃L0,L0=L.set 0 (.cells [v0,.slice (B.length+W) 0 m cO,.nilslice]):=⟨_,rfl⟩
 have hL0l:L0.length=L.length:=by rw[hL0,Adh]
 have hset:(B++L).set B.length (.cells [v0,.slice (B.length+W) 0 m cO,.nilslice])=B++L0:=by
  rw[hL0,AcW _ _ (AcE _),Ac8]
 have hSm:Sm (B++L).length B.length (B++L) (B++L0):=by rw[<-hset];exact DC (A2 (AcE _)) (.inl rfl)
 have hd0:El (B++L0) 2 v0 (frs d m) m:=Cd hSm hd (by
  rcases BA hd with e|e
  ·exact .inl e
  ·rcases hdB with e2|e2
   ·exact .inl e2
   ·exact .inr ⟨e,by omega⟩)
 have hlen:=AF (Al hflB L0);have hw:Ab rows.length B.length=rows.length:=Ac (by omega);have hP0:PO B L0 (w2 v0 (.slice (B.length+W) 0 m cO)) L0 .nilslice (frs (fun i=>((gI fl i:Int):Rat)-d i-s i) 0) 0:=⟨CM,by rw[hL0,AcM hLl];rfl,.inl rfl,fun _ _ _=>rfl,AcE _⟩
 have hl2:=YE (low:=rows.length) (x4:=.ptr (rows.length+1) 0) (v1:=.slice (B.length+W) 0 m cO) (by omega) (by omega) hm hflB hfn hd0 (by rcases hdB with e|e;exact .inl e;exact .inr (by omega)) (by rw[hL0,AcH (by omega)];exact hS) hS0 (by rw[hL0,AcH (by omega)];exact hW) hW0 r1 r2
  (r:=fun x=>Ox rows m d s (fun i=>((gI fl i:Int):Rat)-d i-s i) (fin rows x.1 x.2.1 x.2.2)) (fun L' v sl' hP t4 t5=>by
   have hl:=hP.l;have hO:Ae (B++L') B.length=some [v0,.slice (B.length+W) 0 m cO,v]:=by
    unfold Ae;rw[AcG (AcE _),Ac8,hP.o];rfl
   have h4:cells? (B++L') (rows.length+1)=some [.nilslice,.nilslice,.nilslice]:=by
    unfold cells?;rw[AcD (by omega),hB,AcG (by omega)];simp
   have e2:El (B++L') 2 v (frs (fun i=>((gI fl i:Int):Rat)-d i-s i) m) m:=IA hP.a (by omega)
   have hSm2:Sm (B++L0).length B.length (B++L0) (B++L'):=⟨by simp;omega,fun id h1 h2=>by
    by_cases c:id<B.length
    ·rw[AcD c,AcD c]
    ·rw[AcG (by omega),AcG (by omega)]
     exact hP.k _ (by simp at h1;omega) (by omega)⟩
   have e0:El (B++L') 2 v0 (frs d m) m:=Cd hSm2 hd0 (by
    rcases BA hd0 with e|e
    ·exact .inl e
    ·rcases hdB with e2|e2
     ·exact .inl e2
     ·exact .inr ⟨e,by omega⟩)
   have hWl:=(AcF.1 hW).1;have hW':Ae (B++L') (B.length+W)=some (frs s m):=by
    unfold Ae;rw[AcG (by omega),AcS,hP.k W (by omega) hW0,hL0,AcH (by omega),hW]
   have e1:El (B++L') 2 (.slice (B.length+W) 0 m cO) (frs s m) m:=by
    unfold El A5;simp only[hW'];rw[BZ (Ar m)]
    rfl
   have o0:=An e0;have o1:=An e1;have o2:=An e2
   -- the copy
   obtain⟨R',hR'⟩:∃R',R'=(B++L').set (rows.length+1) (.cells [v0,.slice (B.length+W) 0 m cO,v]):=⟨_,rfl⟩
   have hSm3:Sm (B++L').length (rows.length+1) (B++L') R':=by rw[hR'];exact DC (A2 (AcE _)) (.inl rfl)
   have hne:∀{v:AV} {cs:List AV},El (B++L') 2 v cs m->(v = .nilslice\/B.length<=sid v\/sid v<rows.length)->El R' 2 v cs m:=fun{v cs} he hv=>Cd hSm3 he (by
    rcases BA he with e|e
    ·exact .inl e
    ·rcases hv with e2|e2
     ·exact .inl e2
     ·exact .inr ⟨e,by omega⟩)
   have f0:=hne e0 (by rcases hdB with e|e;exact .inl e;exact .inr (.inl (by omega)));have f1:=hne e1 (.inr (.inl (by simp only[HK];omega)));have f2:=hne e2 (by rcases hP.s with e|e;exact .inl e;exact .inr (.inl (by omega)));have hX:∃X,R'=rows++X:=by
    rw[hR',hB,AcL,AcW _ _ (by omega)];exact⟨_,rfl⟩
   obtain⟨X,hX⟩:=hX;have hrow:Ae R' (rows.length+1)=some [v0,.slice (B.length+W) 0 m cO,v]:=by
    unfold Ae;rw[hR',AcM (by simp;omega)]
   have hlw1:Ab rows.length (rows.length+1)=rows.length:=Ac (by omega);have hst:evE (B++L') rows.length (.storeN 3 (.c (.ptr (rows.length+1) 0)) (.c (.agg [v0,.slice (B.length+W) 0 m cO,v])))=some (.tup [],R',rows.length):=by
    rw[Ax];simp only[h4,Ac4];rw[if_pos ⟨rfl,by simp,by simp[o0,o1,o2]⟩,hlw1,hR']
    rfl
   have hfin:Ox rows m d s (fun i=>((gI fl i:Int):Rat)-d i-s i) (fin rows (.agg [v0,.slice (B.length+W) 0 m cO,v]) R' rows.length):=by
    rw[hX]at f0 f1 f2 ⊢;rcases Kv (rows:=rows) (l:=[v0,.slice (B.length+W) 0 m cO,v]) (X:=X)with e|⟨e,h⟩
    ·rw[e]
     refine⟨_,_,_,X,rfl,f0,f1,f2,?_,?_,?_⟩
     ·rcases hdB with e|e
      ·exact .inl e
      ·exact .inr (by omega)
     ·exact .inr (by simp only[HK];omega)
     ·rcases hP.s with e|e
      ·exact .inl e
      ·exact .inr (by omega)
    ·exfalso
     simp[AV.ids,AV.ids.idsL]at h;omega
   simp[-Ax,t4,t5,hO,seg,hst,hrow]
   exact hfin) m 0 L0 .nilslice rfl (AcX _) hP0
 have i13:AI 1 3=some 1:=rfl;simp[s1,s4,s5,s19,hSr,i13,h0r,hw,hset,<-hL0,hfn,hlen];simpa using hl2
end
def sA(ks ps:List Nat)(tl:List Int):Nat->Nat->Rat:=DY (tf (sT ks ps tl)) ps.length
def sX(ks ps:List Nat)(tl:List Int):Nat->Rat:=xs (gjR (sA ks ps tl) ps.length ps.length) ps.length
theorem MQ{R:List Row}{v:AV}{B L:List Row}{ks ps:List Nat}{tl:List Int}(hpk:ps.length<=6)(hGZ:GZ (B++L))(hA:Acc B L 22 (.op 22) v (frs (tf (sT ks ps tl)) (ps.length*11)) ps.length)(hv0:ps.length=0->v = .nilslice)(hF:Fx (B++L) R (fun _=>False))(hb:Bd (sA ks ps tl) ps.length (ps.length+1) ps.length):
  Ret F 98 [v,.int .i64 ps.length] R=some (.slice R.length 0 ps.length (.at_ ps.length),R++[.cells (frs (sX ks ps tl) ps.length)],none):=by
 have hZR:=hGZ.fx hF (by simp)
 by_cases hp0:ps.length=0
 ·have e:=hv0 hp0
  subst e;have:=M8 hZR;rw[hp0];exact this
 ·obtain⟨h1,h2⟩:=hA
  rcases h2 with ⟨rfl,e⟩|⟨k,rfl,hk⟩
  ·rw[e]at h1
   simp at h1;omega
  ·have hkl:=(AcF.1 hk).1
   have hr:R[B.length+k]?=some (.cells (frs (tf (sT ks ps tl)) (ps.length*11))):=by
    rw[hF.2 _ (by simp;omega) (by simp),AcG (by omega),AcS];exact hk
   exact GI hZR hr (by omega) (by omega) (by omega) (by omega) hb (fun c a hc h1 h2 h3=>by
    obtain⟨σ,hgj⟩:=EA (A:=DY (tf (sT ks ps tl)) ps.length) (n:=ps.length) c;have:=hgj.kle
    omega)
theorem PP{B R:List Row}(hl:B.length<=R.length)(h:∀id,id<B.length->R[id]?=B[id]?):∃L,R=B++L:=by
 refine⟨R.drop B.length,?_⟩;have:R.take B.length=B:=by
  apply Adx;intro i
  by_cases c:i<B.length
  ·rw[AcZ c,h i c]
  ·rw[Ac0 (by simp;omega),Ac0 (by omega)]
 conv=>lhs;rw[<-List.take_append_drop B.length R,this]
section
variable {rows L:List Row}{N m n:Nat}{G:Row}{v0 x1 v11 ev pv:AV}{ks ps:List Nat}{fl:List Int}{d t:Nat->Rat}{sl:List (Nat×AV)}
theorem Ty{B:List Row}(hB:B=rows++[.cells [.int .i64 N,ev,pv],.cells [.nilslice,.nilslice,.nilslice]])(hek:ks.length<=10)(hpk:ps.length<=6)(hZ:GZ (B++L))(hfl:IsL rows x1 fl)(hfn:fl.length=ks.length)(he:El rows 2 ev (Ad .i64 (eC ks)) ks.length)(hpv:El rows 3 pv (Ad .i64 (pC ps)) ps.length)
  (h0:L[0]?=some (.cells [v0,.nilslice,.nilslice])) (hd:El (B++L) 2 v0 (frs d ks.length) ks.length) (hdB:v0 = .nilslice\/B.length<sid v0)
  (hsol:∀R',Fx (B++L) R' (fun _=>False)->Ret F 98 [v11,.int .i64 ps.length] R'=some (.slice R'.length 0 ps.length (.at_ ps.length),R'++[.cells (frs t ps.length)],none))
  (ht:∀(R:List Row) (p e:Nat),p<ps.length->e<ks.length->Ret F 99 [fr (t p),fr ((sgn (gN ps p) (gN ks e):Int):Rat)] R=some (fr (t p*((sgn (gN ps p) (gN ks e):Int):Rat)),R,none))
  (hpl:∀(R:List Row) (p e:Nat),p<ps.length->e<ks.length->Ret F 97 [fr (sw ks ps t p e),fr (t p*((sgn (gN ps p) (gN ks e):Int):Rat))] R=some (fr (sw ks ps t (p+1) e),R,none))
  (r1:∀(R:List Row) (i:Nat),i<ks.length->Ret F 95 [fr ((gI fl i:Int):Rat),fr (d i)] R=some (fr (((gI fl i:Int):Rat)-d i),R,none))
  (r2:∀(R:List Row) (i:Nat),i<ks.length->Ret F 95 [fr (((gI fl i:Int):Rat)-d i),fr (sw ks ps t ps.length i)] R=some (fr (((gI fl i:Int):Rat)-d i-sw ks ps t ps.length i),R,none))
  (s1:lk sl 1=x1) (s2:lk sl 2 = .ptr rows.length 0) (s4:lk sl 4 = .ptr (rows.length+1) 0) (s5:lk sl 5 = .ptr B.length 0) (s11:lk sl 11=v11):
  Ex F C68 [.code c68s41] ⟨mk 180 sl,B++L,rows.length⟩ fun x=>Ox rows ks.length d (sw ks ps t ps.length) (fun i=>((gI fl i:Int):Rat)-d i-sw ks ps t ps.length i) (fin rows x.1 x.2.1 x.2.2):=by
 have hBl:B.length=rows.length+2:=by rw[hB];simp
 have hLl:=(AcF.1 h0).1;obtain⟨R,hR⟩:∃R,R=B++L:=⟨_,rfl⟩
 rw[<-hR]at hZ hd hsol ⊢;have hRl:R.length=B.length+L.length:=by rw[hR];simp
 have hRr:R=rows++([.cells [.int .i64 N,ev,pv],.cells [.nilslice,.nilslice,.nilslice]]++L):=by rw[hR,hB,AcL]
 have heR:El R 2 ev (Ad .i64 (eC ks)) ks.length:=by rw[hRr];exact Ag he _
 have hpR:El R 3 pv (Ad .i64 (pC ps)) ps.length:=by rw[hRr];exact Ag hpv _
 have hGR:Ae R rows.length=some [.int .i64 N,ev,pv]:=by rw[hRr];simp[Ae]
 have ln:=AF heR;have hlim:(ks.length:Int)<=lim:=by unfold lim;omega
 -- the list of noughts
 obtain⟨R1,hR1⟩:∃R1,R1=R++[.cells (frs (fun _=>0) ks.length),.cells [.slice R.length 0 ks.length (.at_ ks.length)]]:=⟨_,rfl⟩
 have hR1l:R1.length=R.length+2:=by rw[hR1];simp
 have hF1:Fx R R1 (fun _=>False):=by rw[hR1];exact Fx.app _
 have hZ1:=hZ.fx hF1 (by simp);have hz0:(List.replicate ks.length [AV.int .i64 0,AV.int .i64 0]).flatten=Dp ks.length 0:=by unfold Dp frs;simp
 have hset:R++[Row.cells (Dp ks.length 0),.cells [.slice R.length 0 ks.length (.at_ ks.length)]]=R1.set R.length (.cells (Dp ks.length 0)):=by
  rw[hR1,AcW _ _ (AcE _),Ac8]
  rfl
 have hset1:R1.set R.length (.cells (frs (fun _=>0) ks.length))=R1:=by
  rw[hR1,AcW _ _ (AcE _),Ac8]
  rfl
 have hS1:Ae R1 (R.length+1)=some [.slice R.length 0 ks.length (.at_ ks.length)]:=by rw[hR1];simp[Ae]
 have hG1:Ae R1 rows.length=some [.int .i64 N,ev,pv]:=by rw[hR1];exact Ah hGR _
 have hpR1:El R1 3 pv (Ad .i64 (pC ps)) ps.length:=by rw[hR1];exact Ag hpR _
 have heR1:El R1 2 ev (Ad .i64 (eC ks)) ks.length:=by rw[hR1];exact Ag heR _
 have lnp:=AF hpR1;have r98:=hsol R1 hF1;have hsid:∀{v:AV},(v = .nilslice\/sid v<rows.length)->sid v≠R.length:=fun{v} h=>by
  rcases h with e|e
  ·subst e;show(0:Nat)≠_;omega
  ·omega
 -- behind the equations
 obtain⟨R2,hR2⟩:∃R2,R2=R1++[.cells (frs t ps.length)]:=⟨_,rfl⟩
 have hR2l:R2.length=R.length+3:=by rw[hR2];simp[hR1l]
 have hS2:Sm R.length R.length R R2:=⟨by omega,fun id h1 _=>by rw[hR2,AcD (by omega),hR1,AcD h1]⟩
 have hl14:=Vv (t:=t) (R0:=R2) (low:=rows.length) (W:=R.length) (S:=R.length+1) (T:=R1.length) (G:=rows.length) (n0:=.int .i64 N) (ev:=ev) (pv:=pv) (x1:=x1) (x4:=.ptr (rows.length+1) 0) (x5:=.ptr B.length 0) (cO:=.at_ ks.length) (cT:=.at_ ps.length) hek hpk rfl ht hpl (by rw[hR2];exact Ag heR1 _) (by rw[hR2];exact Ag hpR1 _) (hsid (BA he)) (hsid (BA hpv)) (by omega) (by omega) (by rw[hR2];exact Ah hG1 _) (by omega) (by rw[hR2];exact Ah hS1 _) (by omega) (by rw[hR2];simp) (by omega)
  (r:=fun x=>Ox rows ks.length d (sw ks ps t ps.length) (fun i=>((gI fl i:Int):Rat)-d i-sw ks ps t ps.length i) (fin rows x.1 x.2.1 x.2.2)) (fun R3 sl' hS3 hW3 t1 t4 t5 t19=>by
   have h3l:=hS3.1;have hsame:∀id,id<R.length->R3[id]?=R[id]?:=fun id hid=>by
    rw[hS3.2 id (by omega) (by omega)];exact hS2.2 id hid (by omega)
   obtain⟨L3,hL3⟩:=PP (B:=B) (R:=R3) (by omega) (fun id hid=>by
    rw[hsame id (by omega),hR,AcD hid])
   have hget:∀j,R3[B.length+j]?=L3[j]?:=fun j=>by
    rw[hL3,AcG (by omega),AcS]
   have hd3:El R3 2 v0 (frs d ks.length) ks.length:=Cd (b:=R.length) (o:=R.length) ⟨by omega,fun id h1 _=>hsame id h1⟩ hd (by
    rcases BA hd with e|e
    ·exact .inl e
    ·exact .inr ⟨e,by omega⟩)
   have h03:L3[0]?=some (.cells [v0,.nilslice,.nilslice]):=by
    rw[<-hget 0,hsame _ (by omega),hR,AcG (by omega),AcS];exact h0
   have hS3':L3[R.length+1-B.length]?=some (.cells [.slice (B.length+(R.length-B.length)) 0 ks.length (.at_ ks.length)]):=by
    rw[<-hget,show B.length+(R.length+1-B.length)=R.length+1 by omega,hS3.2 _ (by omega) (by omega),hR2,AcD (by omega),show B.length+(R.length-B.length)=R.length by omega,hR1,AcG (by omega),AcS]
    rfl
   have hW3':L3[R.length-B.length]?=some (.cells (frs (sw ks ps t ps.length) ks.length)):=by
    rw[<-hget,show B.length+(R.length-B.length)=R.length by omega];exact hW3
   rw[hL3]at hd3 ⊢;exact VJ (S:=R.length+1-B.length) (W:=R.length-B.length) (cO:=.at_ ks.length) hB hek hfl hfn h03 hd3 hdB hS3' (by omega) hW3' (by omega) r1 r2 t1 t4 t5 (by rw[t19,show B.length+(R.length+1-B.length)=R.length+1 by omega])) ps.length 0 R2 rfl (AcX _) (A2 (AcE _)) (by
    rw[hR2,AcD (by omega),hR1,AcG (AcE _),Ac8]
    exact congrArg (fun l=>some (Row.cells l)) (Am fun _ _=>rfl))
 have hlw0:Ab rows.length R.length=rows.length:=Ac (by omega);have hlw1:Ab rows.length (R.length+1)=rows.length:=Ac (by omega)
 have hl30:=UH (L:=R1) (O:=R.length) (S:=R.length+1) (m:=ks.length) (low:=rows.length) (cO:=.at_ ks.length) (x1:=x1) (x2:=.ptr rows.length 0) (x4:=.ptr (rows.length+1) 0) (x5:=.ptr B.length 0) (x11:=v11) (r:=fun x=>Ox rows ks.length d (sw ks ps t ps.length) (fun i=>((gI fl i:Int):Rat)-d i-sw ks ps t ps.length i) (fin rows x.1 x.2.1 x.2.2)) (by omega) hZ1 (by omega) (by omega) (by omega) hS1 (by omega) (fun sl' t1 t2 t4 t5 t11 t19=>by
   rw[hset1];simp[t1,t2,t4,t5,t11,t19,hG1,lnp,r98];rw[<-hR2]
   simpa using hl14) ks.length 0 rfl (AcX _)
 simp[s1,s2,s4,s5,s11,hGR,ln,hlim,hz0,hlw0,hlw1];rw[hset];simpa using hl30
end
theorem Mf{rows R':List Row}{id o n:Nat}{c:Cap}{vs:List AV}{kd:IntKind}{e:Int}(h:R'[id]?=some (.cells vs))(hid:rows.length<=id)(hv:vs.all (·.ids.isEmpty)=true):fin rows (.tup [.slice id o n c,.int kd e]) R' rows.length=(.tup [.slice rows.length o n c,.int kd e],rows++[.cells vs],none):=by
 have e:¬id<rows.length:=by omega
 unfold fin;rw[if_pos rfl];simp only[NA,DJ,HA,CO,Hc,AcV,AdH,Aes,Aeu,decide_eq_true_eq];rw[if_neg e,h];simp only[hv,Bool.true_and,AV.plain1,AV.plain,AdH,Aes,Hc,List.isEmpty_nil,Bool.and_self,if_true,AV.ren1,AV.ren,AcY,Adn]
section
variable {rows:List Row}{n:Nat}{A:Nat->Nat->Rat}{g:Nat->Rat}{bA AO BO:Nat}{idA:Nat->Nat}{capA:Nat->Cap}{cA cB:Cap}
end
theorem OQ{q k:Nat} : -1<=sgn q k/\sgn q k<=1:=by
 unfold sgn
 split
 ·omega
 ·split<;>omega
theorem AbE{q k:Nat}{t:Int}{B:Int}(ht : -B<=t/\t<=B) : -B<=sgn q k*t/\sgn q k*t<=B:=by
 unfold sgn
 split
 ·omega
 ·split<;>omega
def suZ:Nat->(Nat->Int)->Int
 |0,_=>0
 |n+1,f=>suZ n f+f n
theorem G6{K:List Row}{b i:Nat}:Ai b (K.map fun(x:Row)=>(i,x))=if b.testBit i=true then K else K.map fun _=>.dead:=by
 unfold Ai
 split
 ·rename_i h
  simp[Function.comp_def,h]
 ·rename_i h
  simp[Function.comp_def,h]
section
variable {rows:List Row}{N:Nat}{ks ps:List Nat}{ev pv x1:AV}{r:AV×List Row×Nat->Prop}
end
theorem QH(x:Rat):0<=x*x:=by
 rcases(Rat.le_total (a:=0) (b:=x))with h|h
 ·exact AeJ h h
 ·have h2:0 <= -x:=by grind
  have:=AeJ h2 h2;grind
theorem CX{f:Nat->Rat}:∀n,0<=su n fun e=>f e*f e
 |0=>Rat.le_refl
 |
  n+1=>by
  have h1:=CX (f:=f) n;have h2:=QH (f n);rw[su];grind
theorem MY{f:Nat->Rat}:∀{n:Nat},su n (fun e=>f e*f e)=0->∀e,e<n->f e=0
 |0,_,e,he=>by omega
 |
  n+1,h,e,he=>by
  have h1:=CX (f:=f) n;have h2:=QH (f n);rw[su]at h;have h3:su n (fun e=>f e*f e)=0:=by grind
  have h4:f n*f n=0:=by grind
  by_cases c:e=n
  ·subst c
   rcases AeH.1 h4 with h|h<;>exact h
  ·exact MY h3 e (by omega)
section
variable {S G:Nat->Nat->Rat}{n w:Nat}
theorem Ue(hG:∀i j,i<n->j<n->G i j=su w fun e=>S i e*S j e){y:Nat->Rat}{j:Nat}(hj:j<n):su n (fun r=>y r*G r j)=su w fun e=>(su n fun r=>y r*S r e)*S j e:=by
 have e1:su n (fun r=>y r*G r j)=su n fun r=>su w fun e=>y r*(S r e*S j e):=Aa fun r hr=>by rw[hG r j hr hj,AR]
 rw[e1,B5];refine Aa fun e _=>?_
 have:su n (fun r=>y r*(S r e*S j e))=S j e*su n fun r=>y r*S r e:=by
  rw[<-AR];exact Aa fun r _=>by grind
 rw[this];grind
theorem SK(hG:∀i j,i<n->j<n->G i j=su w fun e=>S i e*S j e){y:Nat->Rat}(h:∀j,j<n->su n (fun r=>y r*G r j)=0):∀e,e<w->su n (fun r=>y r*S r e)=0:=by
 have h1:su n (fun j=>y j*su n fun r=>y r*G r j)=0:=GM fun j hj=>by rw[h j hj];grind
 have h2:su n (fun j=>y j*su n fun r=>y r*G r j)=su w fun e=>(su n fun r=>y r*S r e)*(su n fun r=>y r*S r e):=by
  have e1:su n (fun j=>y j*su n fun r=>y r*G r j)=su n fun j=>su w fun e=>y j*((su n fun r=>y r*S r e)*S j e):=Aa fun j hj=>by rw[Ue hG hj,AR]
  rw[e1,B5];refine Aa fun e _=>?_
  have:su n (fun j=>y j*((su n fun r=>y r*S r e)*S j e))=(su n fun r=>y r*S r e)*su n fun j=>y j*S j e:=by
   rw[<-AR];exact Aa fun j _=>by grind
  rw[this]
 rw[h2]at h1;exact MY h1
end
theorem PG{g:Nat->Int}{n:Nat}(a:Nat):(if a<n+1 then g a else 0)=(if a<n then g a else 0)+(if n=a then g n else 0):=by
 by_cases e:n=a
 ·subst e
  rw[if_pos (by omega),if_neg (by omega),if_pos rfl];omega
 ·rw[if_neg e]
  by_cases c:a<n
  ·rw[if_pos c,if_pos (by omega)]
   omega
  ·rw[if_neg c,if_neg (by omega)]
   omega
theorem Li{g h:Nat->Int}{i1 i2 i3 w:Nat}(l13:i1<i3)(l32:i3<i2)(hs:∀e,e<w->h e=if e=i1\/e=i2 then 1 else if e=i3 then -1 else 0):∀n,n<=w->suZ n (fun e=>g e*h e)=(if i1<n then g i1 else 0)+(if i2<n then g i2 else 0)-(if i3<n then g i3 else 0)
 |0,_=>by simp[suZ]
 |
  n+1,hn=>by
  have ih:=Li (g:=g) l13 l32 hs n (by omega);rw[suZ,ih,hs n (by omega),PG i1,PG i2,PG i3];generalize (if i1<n then g i1 else 0)=A;generalize (if i2<n then g i2 else 0)=B;generalize (if i3<n then g i3 else 0)=C
  by_cases c1:n=i1
  ·have h2:¬n=i2:=by omega
   have h3:¬n=i3:=by omega
   simp only[c1,true_or,if_true];simp only[<-c1,h2,h3,if_false];omega
  ·by_cases c2:n=i2
   ·have h3:¬n=i3:=by omega
    simp only[c1,if_false,c2,or_true,if_true];simp only[<-c2,h3,if_false];omega
   ·by_cases c3:n=i3
    ·have h1:¬i3=i1:=by omega
     have h2:¬i3=i2:=by omega
     simp only[c3,h1,h2,or_self,if_false,if_true];omega
    ·simp only[c1,c2,c3,or_self,if_false]
     omega
def WD(q:Nat):Bool:=decide (q/36<q/6%6)&&decide (q/6%6<q%6)
def pl3(p q:Nat):Int:=sgn p (q/36*6+q/6%6)+sgn p (q/6%6*6+q%6)-sgn p (q/36*6+q%6)
theorem YC:((List.range 216).all fun q=>!WD q||(List.range 216).all fun p=>!WD p||p==q||(decide (-1<=pl3 p q)&&decide (pl3 p q<=1)))=true:=by decide +kernel
theorem Z8{p q:Nat}(hp:WD p=true)(hq:WD q=true)(h1:p<216)(h2:q<216)(hne:p≠q) : -1<=pl3 p q/\pl3 p q<=1:=by
 have h:=YC;rw[AcT]at h;have:=h q (Adm.2 h2);rw[hq,Bool.not_true,Bool.false_or,AcT]at this;have:=this p (Adm.2 h1);rw[hp,Bool.not_true,Bool.false_or]at this;simp only[Ael,beq_iff_eq,Ac3,decide_eq_true_eq]at this;rcases this with h|h
 ·exact absurd h hne
 ·exact h
section
variable {N:Nat}{ks ps:List Nat}
theorem Qz(hok:GOK N ks ps){i j:Nat}(hi:i<ps.length)(hj:j<ps.length):suZ ks.length (fun e=>sgn (gN ps i) (gN ks e)*sgn (gN ps j) (gN ks e))=pl3 (gN ps i) (gN ps j):=by
 obtain⟨h1,h2,h3,k1,k2,k3⟩:=hok.pe _ (AH hj);generalize hq:gN ps j=q at *;have hm1:q/6%6<6:=Nat.mod_lt _ (by omega);have hm2:q%6<6:=Nat.mod_lt _ (by omega);obtain⟨i1,a1,a2,a3⟩:=Jz hm1 k1;obtain⟨i3,c1,c2,c3⟩:=Jz hm2 k2;obtain⟨i2,b1,b2,b3⟩:=Jz hm2 k3;have hs:∀e,e<ks.length->sgn q (gN ks e)=if e=i1\/e=i2 then 1 else if e=i3 then -1 else 0:=fun i hi=>by
  have e1:i=i1↔gN ks i=q/36*6+q/6%6:=⟨fun e=>by rw[e,a3],fun e=>K3 hok.es hi a1 (by omega)⟩
  have e2:i=i2↔gN ks i=q/6%6*6+q%6:=⟨fun e=>by rw[e,b3],fun e=>K3 hok.es hi b1 (by omega)⟩
  have e3:i=i3↔gN ks i=q/36*6+q%6:=⟨fun e=>by rw[e,c3],fun e=>K3 hok.es hi c1 (by omega)⟩
  unfold sgn;have d1:(gN ks i/6=q/36/\gN ks i%6=q/6%6)↔i=i1:=by rw[e1];omega
  have d2:(gN ks i/6=q/6%6/\gN ks i%6=q%6)↔i=i2:=by rw[e2];omega
  have d3:(gN ks i/6=q/36/\gN ks i%6=q%6)↔i=i3:=by rw[e3];omega
  simp only[d1,d2,d3]
 have l13:=To hok.es a1 c1 (by omega);have l32:=To hok.es c1 b1 (by omega);rw[Li (g:=fun e=>sgn (gN ps i) (gN ks e)) l13 l32 hs ks.length (AcE _),if_pos a1,if_pos b1,if_pos c1,a3,b3,c3]
 rfl
end
theorem Tl{i:Nat}:∀n,ns n (fun j=>if i=j then 3 else 1)<=n+(if i<n then 2 else 0)
 |0=>by simp[ns]
 |
  n+1=>by
  have ih:=Tl (i:=i) n;rw[ns]
  by_cases e:i=n
  ·subst e
   rw[if_neg (by omega)]at ih;rw[if_pos rfl,if_pos (by omega)];omega
  ·rw[if_neg e]
   by_cases c:i<n
   ·rw[if_pos c]at ih
    rw[if_pos (by omega)];omega
   ·rw[if_neg c]at ih
    rw[if_neg (by omega)];omega
section
variable {N:Nat}{ks ps:List Nat}{f:List Int}
theorem Lu{p q:Nat} : -3<=pl3 p q/\pl3 p q<=3:=by
 unfold pl3;have h1:=OQ (q:=p) (k:=q/36*6+q/6%6);have h2:=OQ (q:=p) (k:=q/6%6*6+q%6);have h3:=OQ (q:=p) (k:=q/36*6+q%6);omega
end
theorem FH{a:Int}{L B:Nat}(hL:0<L)(h:a.natAbs*L<=B):dn (a:Rat) L B:=by
 refine⟨hL,by rw[AdN];exact Nat.one_dvd L,?_⟩;unfold sc;rw[Ad9,AdN,Ac6,Nat.div_one];simpa using h
theorem LL{q:Rat}{L B t:Nat}(h:dn q L B)(ht:0<t):dn q (L*t) (B*t):=by
 refine⟨Ad1 h.L0 ht,Nat.dvd_trans h.d (Nat.dvd_mul_right L t),?_⟩;obtain⟨c,hc⟩:=h.d;have hq:=q.den_pos;have e1:L/q.den=c:=by rw[hc,Adk _ hq]
 have e2:L*t/q.den=c*t:=by rw[hc,Nat.mul_assoc,Adk _ hq]
 have hb:=h.b;unfold sc at hb ⊢;rw[e1]at hb;rw[e2,Adg,<-Int.mul_assoc,Ac6];exact Ac1 hb (by simp)
theorem KD{q:Rat}{L B:Nat}(h:dn q L B):dn (-q) L B:=by
 refine⟨h.L0,by rw[Aey];exact h.d,?_⟩;have hb:=h.b;unfold sc at hb ⊢;rw[Aey,Rat.neg_num,Int.neg_mul,AdE];exact hb
theorem Tf{x y:Rat}{L B C:Nat}(h:dn x L B)(k:dn y L C):dn (x+y) L (B+C):=by
 have:=LN h (KD k);have e:x - -y=x+y:=by grind
 rwa[e]at this
theorem Oj{q:Rat}{L B:Nat}{s:Int}(h:dn q L B)(hs:s.natAbs<=1):dn (q*(s:Rat)) L B:=by
 have:s=0\/s=1\/s = -1:=by omega
 rcases this with rfl|rfl|rfl
 ·have e:q*((0:Int):Rat)=((0:Int):Rat):=by
   show q*0=0;grind
  rw[e];exact FH h.L0 (by simp)
 ·have e:q*((1:Int):Rat)=q:=by
   show q*1=q;grind
  rw[e];exact h
 ·have e:q*((-1:Int):Rat) = -q:=by
   show q * -1 = -q;grind
  rw[e];exact KD h
theorem XO{A:Nat->Nat->Rat}{n cols:Nat}(hb:Bd A n (cols+1) cols)(hk:cols<=6):∃L,L<=1000000/\∀j,dn (xs (gjR A n cols) cols j) L 300000000:=by
 obtain⟨σ,h⟩:=EA (A:=A) (n:=n) cols;have hkc:=h.kle;have hkn:=h.kn;generalize gjR A n cols=s at *
 by_cases k0:s.k=0
 ·refine⟨1,by omega,fun j=>?_⟩
  have:xs s cols j=((0:Int):Rat):=by unfold xs;rw[k0];rfl
  rw[this];exact FH (by omega) (by simp)
 obtain⟨d,hd,hdb⟩:=(h.Disz hb (AcE _) (show 0<n by omega)).1;have hd0:d≠0:=fun e=>h.D (by rw[hd,e];rfl)
 have p6:=N1 (show s.k<=6 by omega);rw[show(10:Nat)^6=1000000 from rfl]at p6;refine⟨d.natAbs,by omega,fun j=>?_⟩
 by_cases c:∃t,t<s.k/\s.κ t=j
 ·obtain⟨t,ht,rfl⟩:=c
  have e:xs s cols (s.κ t)=s.M t cols:=by
   unfold xs
   rw[CI ht fun i hi hne=>by
    rw[if_neg];intro e;rcases Adc i t with c|c
    ·have:=h.ki i t c ht;omega
    ·have:=h.ki t i (by omega) hi;omega]
   rw[if_pos rfl]
  rw[e];obtain⟨m,hm,hmb⟩:=(h.Disz hb (AcE _) (show t<n by omega)).2 cols 500 (fun i hi=>hb.e i cols hi (by omega));rw[if_pos ht]at hmb;rw[hd]at hm;have p5:=N1 (show s.k-1<=5 by omega);rw[show(10:Nat)^5=100000 from rfl]at p5;have hbd:s.k*(10^(s.k-1)*500)<=300000000:=by
   have:=Ac1 (show s.k<=6 by omega) (Ady 500 p5);omega
  have:=ME hd0 (q:=s.M t cols) (n:=m) (by rw[<-hm];grind) (t:=1) (by omega);rw[Add,Add]at this;exact Ft this (by omega)
 ·have:xs s cols j=((0:Int):Rat):=by
   unfold xs;rw[GM fun t ht=>by rw[if_neg fun e=>c ⟨t,ht,e⟩]]
   rfl
  rw[this];exact FH (by omega) (by simp)
section
variable {N:Nat}{ks ps:List Nat}{fl:List Int}
theorem Pr{q:Nat}{ks:List Nat}{f:List Int}(hm:ks.length<=10)(hf:∀e,e<ks.length -> -100<=gI f e/\gI f e<=100):∀i,i<=ks.length->sdS q ks (Ww f) [0] i=[suZ i fun e=>sgn q (gN ks e)*gI f e] /\ -(100*i:Int)<=suZ i (fun e=>sgn q (gN ks e)*gI f e)/\suZ i (fun e=>sgn q (gN ks e)*gI f e)<=100*i
 |0,_=>⟨rfl,by simp[suZ],by simp[suZ]⟩
 |
  i+1,hi=>by
  obtain⟨h1,h2,h3⟩:=Pr (q:=q) hm hf i (by omega);have h4:=AbE (q:=q) (k:=gN ks i) (t:=gI f i) (B:=100) (hf i (by omega));rw[sdS,h1];show(if sgn q (gN ks i)=0 then _ else _)=[suZ i (fun e=>sgn q (gN ks e)*gI f e)+sgn q (gN ks i)*gI f i] /\ -(100*((i+1:Nat):Int))<=suZ i (fun e=>sgn q (gN ks e)*gI f e)+sgn q (gN ks i)*gI f i/\suZ i (fun e=>sgn q (gN ks e)*gI f e)+sgn q (gN ks i)*gI f i<=100*((i+1:Nat):Int);generalize suZ i (fun e=>sgn q (gN ks e)*gI f e)=S at *;refine⟨?_,by omega,by omega⟩
  by_cases hz:sgn q (gN ks i)=0
  ·rw[if_pos hz,hz]
   simp
  ·rw[if_neg hz]
   show[IntKind.i64.wrap (gI [S] 0+IntKind.i64.wrap (sgn q (gN ks i)*gI f i))]=_;have e:gI [S] 0=S:=rfl;rw[e,AM (n:=sgn q (gN ks i)*gI f i) (by omega) (by omega),AM (by omega) (by omega)]
theorem NR{ks:List Nat}{fl:List Int}(hl:fl.length=ks.length)(hb:∀x∈fl,-100<=x/\x<=100):∀e,e<ks.length -> -100<=gI fl e/\gI fl e<=100:=fun e he=>hb _ (FT (by omega))
theorem Xd(hok:GOK N ks ps)(hl:fl.length=ks.length)(hb:∀x∈fl,-100<=x/\x<=100){i:Nat}(hi:i<ps.length):gI (ps.map (tuS ks fl)) i=suZ ks.length fun e=>sgn (gN ps i) (gN ks e)*gI fl e:=by
 rw[CY (by simpa using hi),List.getElem_map];unfold tuS;have h:=Pr (q:=ps[i]) (f:=fl) hok.ek (NR hl hb) ks.length (AcE _);rw[h.1,EO hi]
 rfl
theorem Tn{a:Nat->Int}{f:Nat->Int}:∀n,(∀e,e<n->(a e).natAbs<=1/\(f e).natAbs<=100)->(suZ n fun e=>a e*f e).natAbs<=100*(suZ n fun e=>a e*a e).natAbs/\0<=suZ n fun e=>a e*a e
 |0,_=>by simp[suZ]
 |
  n+1,h=>by
  obtain⟨h1,h2⟩:=Tn n fun e he=>h e (by omega)
  obtain⟨k1,k2⟩:=h n (by omega);have:a n=0\/a n=1\/a n = -1:=by omega
  simp only[suZ];rcases this with e|e|e<;>rw[e]<;>omega
theorem Ol(hok:GOK N ks ps)(hl:fl.length=ks.length)(hb:∀x∈fl,-100<=x/\x<=100){i:Nat}(hi:i<ps.length):(gI (ps.map (tuS ks fl)) i).natAbs<=500:=by
 rw[Xd hok hl hb hi];have h:=(Tn (a:=fun e=>sgn (gN ps i) (gN ks e)) (f:=fun e=>gI fl e) ks.length fun e he=>⟨QG,by have:=NR hl hb e he;omega⟩).1;have h2:=Qz hok hi hi;have h3:=Lu (p:=gN ps i) (q:=gN ps i);rw[h2]at h;omega
theorem Lg{a b:Nat}:∀i,zS ks a b i=suZ i fun e=>sgn a (gN ks e)*sgn b (gN ks e)
 |0=>rfl
 |i+1=>by rw[zS,suZ,Lg i]
theorem TE(hpk:ps.length<=6){tl:List Int}{i j:Nat}(hj:j<ps.length):sA ks ps tl i j=((zS ks (gN ps i) (gN ps j) ks.length:Int):Rat):=by
 unfold sA DY tf sT CZ;rw[if_pos hj,show(i*11+j)/11=i by omega,show(i*11+j)%11=j by omega,if_neg (by omega),if_pos hj]
theorem AbC{tl:List Int}{i j:Nat}(hj:ps.length<=j):sA ks ps tl i j=((gI tl i:Int):Rat):=by
 unfold sA DY tf sT;rw[if_neg (by omega),show(i*11+10)/11=i by omega,show(i*11+10)%11=10 by omega,if_pos rfl]
theorem WQ(hok:GOK N ks ps){tl:List Int}(hf:∀i,i<ps.length->(gI tl i).natAbs<=500):Bd (sA ks ps tl) ps.length (ps.length+1) ps.length where
 e:=fun i j hi hj=>by
  by_cases c:j<ps.length
  ·rw[TE hok.pk c,Lg,Qz hok hi c]
   have:=Lu (p:=gN ps i) (q:=gN ps j);exact⟨_,rfl,by omega⟩
  ·have:=hf i hi
   rw[AbC (by omega)];exact⟨_,rfl,by omega⟩
 a:=fun i j hi hj=>by
  rw[TE hok.pk hj,Lg,Qz hok hi hj];have:=Lu (p:=gN ps i) (q:=gN ps j);exact⟨_,rfl,by omega⟩
 nu:=by
  refine⟨fun i j=>if i=j then 3 else 1,fun i j hi hj=>?_,fun i hi=>?_⟩
  ·rw[TE hok.pk hj,Lg,Qz hok hi hj]
   show isz _ (if i=j then 3 else 1)
   by_cases e:i=j
   ·have:=Lu (p:=gN ps i) (q:=gN ps j)
    rw[if_pos e];exact⟨_,rfl,by omega⟩
   ·have hpk:∀k,k<ps.length->WD (gN ps k)=true/\gN ps k<216:=fun k hk=>by
     obtain⟨h1,h2,h3,_⟩:=hok.pe _ (AH hk);exact⟨by unfold WD;simp[h1,h2],h3⟩
    have:=Z8 (hpk i hi).1 (hpk j hj).1 (hpk i hi).2 (hpk j hj).2 (fun h=>e (K3 hok.psd hi hj h));rw[if_neg e];exact⟨_,rfl,by omega⟩
  ·show ns ps.length (fun j=>if i=j then 3 else 1)<=10
   have:=Tl (i:=i) ps.length;have:=hok.pk;have e:(if i<ps.length then 2 else 0)<=2:=by split<;>omega
   omega
end
section
variable {f g:Rat}{L L' B C:Nat}{rows:List Row}
theorem Hm(hf:dn f L B)(hg:dn g L' C)(h1:L*L'<=1000000000000)(h2:B*L'<=3000000000000000000)(h3:C*L<=3000000000000000000):Ret F 95 [fr f,fr g] rows=some (fr (f-g),rows,none):=by
 have e1:=LL hf hg.L0;have e2:=LL hg hf.L0;rw[AdR L' L]at e2;have hMX:MX=9223372036854775807:=rfl;exact Fa e1.d e2.d e1.L0 (by omega) (by have:=e1.b;have:=e2.b;omega) (IM e2 (by omega) (by omega))
theorem Va(hf:dn f L B)(hg:dn g L C)(h1:L<=1000000000000)(h2:B<=3000000000000000000)(h3:C<=3000000000000000000):Ret F 97 [fr f,fr g] rows=some (fr (f+g),rows,none):=by
 have hMX:MX=9223372036854775807:=rfl;exact Ip hf.d hg.d hf.L0 (by omega) (by have:=hf.b;have:=hg.b;omega)
theorem RH{s:Int}(hf:dn f L B)(hs:s.natAbs<=1)(h1:L<=1000000000000)(h2:B<=3000000000000000000):Ret F 99 [fr f,fr (s:Rat)] rows=some (fr (f*(s:Rat)),rows,none):=by
 have hMX:MX=9223372036854775807:=rfl;refine FL (IM hf (by omega) (by omega)) ⟨?_,?_⟩ (IM (Oj hf hs) (by omega) (by omega))
 ·rw[Ad9];omega
 ·rw[AdN];omega
end
section
variable {N:Nat}{ks ps:List Nat}{fl:List Int}{h t:Nat->Rat}{L1 L2:Nat}
theorem W7(ht:∀j,dn (t j) L2 300000000):∀p e,dn (sw ks ps t p e) L2 (p*300000000)
 |
  0,e=>by
  show dn (((0:Int):Rat)) L2 _;exact FH (ht 0).L0 (by simp)
 |
  p+1,e=>by
  have:=Tf (W7 ht p e) (Oj (ht p) (QG (q:=gN ps p) (k:=gN ks e)));have e1:p*300000000+300000000=(p+1)*300000000:=by omega
  rw[e1]at this;exact this
theorem PJ(hh:∀j,dn (h j) L1 300000000)(e:Nat):dn (dfl h ks e) L1 600000000:=LN (hh _) (hh _)
end
def pt0(ks:List Nat)(fl:List Int)(N:Nat):Nat->Rat:=dfl (bH ks fl N) ks
def pt1(ks ps:List Nat)(fl:List Int):Nat->Rat:=sw ks ps (sX ks ps (ps.map (tuS ks fl))) ps.length
def pt2(ks ps:List Nat)(fl:List Int)(N:Nat):Nat->Rat:=fun i=>((gI fl i:Int):Rat)-pt0 ks fl N i-pt1 ks ps fl i
section
variable {rows:List Row}{N:Nat}{ks ps:List Nat}{g x1:AV}{fl:List Int}
theorem Ry(hok:GOK N ks ps)(hl:fl.length=ks.length)(hb:∀x∈fl,-100<=x/\x<=100):∃L,L<=1000000/\∀j,dn (bH ks fl N j) L 300000000:=
 XO (Xs (f:=fo ks N) (gl:=gnS N ks fl ks.length) hok (fun v hv=>by
  rw[Pv hok hl hb hv ks.length (AcE _)];have:=Rp (v:=v) hl hb ks.length (AcE _);have:=Od hok hv
  omega) (bN ks N)) hok.n6
theorem Abp(hok:GOK N ks ps)(hl:fl.length=ks.length)(hb:∀x∈fl,-100<=x/\x<=100):∃L,L<=1000000/\∀j,dn (sX ks ps (ps.map (tuS ks fl)) j) L 300000000:=
 XO (WQ hok fun i hi=>Ol hok hl hb hi) hok.pk
theorem Oo(hGZ:GZ rows)(hg:GRd rows g N ks ps)(h:IsL rows x1 fl)(hl:fl.length=ks.length)(hb:∀x∈fl,-100<=x/\x<=100):∃q,Ret F 68 [g,x1] rows=some q/\Ox rows ks.length (pt0 ks fl N) (pt1 ks ps fl) (pt2 ks ps fl N) q:=by
 obtain⟨ev,pv,rfl,he,hp,_⟩:=id hg.eq;have hok:=hg.ok;have o1:=An he;have o2:=An hp;have hek:=hok.ek;have hpk:=hok.pk;obtain⟨L1,hL1,hh⟩:=Ry hok hl hb;obtain⟨L2,hL2,ht⟩:=Abp hok hl hb;have hL12:L1*L2<=1000000*1000000:=Ac1 hL1 hL2;have hd:=PJ (ks:=ks) hh;have hs:=W7 (ks:=ks) (ps:=ps) ht
 have hfi:∀i,i<ks.length->dn ((gI fl i:Int):Rat) L1 100000000:=fun i hi=>FH (hh 0).L0 (by
  have:=NR hl hb i hi;have:=Ac1 (show(gI fl i).natAbs<=100 by omega) hL1
  omega)
 obtain⟨B,hB⟩:∃B,B=rows++[.cells [.int .i64 N,ev,pv],.cells [.nilslice,.nilslice,.nilslice]]:=⟨_,rfl⟩
 have hBl:B.length=rows.length+2:=by rw[hB];simp
 have hFB:Fx rows B (fun _=>False):=by rw[hB];exact Fx.app _
 have hZB:GZ B:=hGZ.fx hFB (by simp);have heB:El B 2 ev (Ad .i64 (eC ks)) ks.length:=by rw[hB];exact Ag he _
 have hgB:=Jr hg hFB;have hGB:Ae B rows.length=some [.int .i64 N,ev,pv]:=by rw[hB];simp[Ae]
 have hflB:IsL B x1 fl:=by rw[hB];exact Al h _
 have r70:=Lo (rows:=B++[.cells [.nilslice,.nilslice,.nilslice]]) (hZB.fx (Fx.app (p:=fun _=>False) _) (by simp)) (hgB.app _) (Al hflB _) hl hb;have r1:∀(R:List Row) (i:Nat),i<ks.length->Ret F 95 [fr ((gI fl i:Int):Rat),fr (pt0 ks fl N i)] R=some (fr (((gI fl i:Int):Rat)-pt0 ks fl N i),R,none):=fun R i hi=>Hm (hfi i hi) (hd i) (by have:=Ac1 hL1 hL1;omega) (by omega) (by omega)
 have r2:∀(R:List Row) (i:Nat),i<ks.length->Ret F 95 [fr (((gI fl i:Int):Rat)-pt0 ks fl N i),fr (pt1 ks ps fl i)] R=some (fr (((gI fl i:Int):Rat)-pt0 ks fl N i-pt1 ks ps fl i),R,none):=fun R i hi=>Hm (LN (hfi i hi) (hd i)) (hs ps.length i) (by omega) (by omega) (by
  have:=Ac1 (show ps.length*300000000<=1800000000 by omega) hL1
  omega)
 have r0:∀(R:List Row) (e:Nat),Ret F 95 [fr (bH ks fl N (gN ks e%6)),fr (bH ks fl N (gN ks e/6))] R=some (fr (dfl (bH ks fl N) ks e),R,none):=fun R e=>by
  unfold dfl;exact Hm (hh _) (hh _) (by have:=Ac1 hL1 hL1;omega) (by omega) (by omega)
 -- behind the first list
 have hmid:∀(L:List Row) (v:AV) (sl:List (Nat×AV)),PO B [.cells [.nilslice,.nilslice,.nilslice],.cells (frs (bH ks fl N) N)] w0 L v (frs (dfl (bH ks fl N) ks) ks.length) ks.length->lk sl 1=x1->lk sl 2 = .ptr rows.length 0->lk sl 4 = .ptr (rows.length+1) 0->lk sl 5 = .ptr B.length 0->
   Ex F C68 [.code c68s82] ⟨mk 180 sl,B++L,rows.length⟩ fun x=>Ox rows ks.length (pt0 ks fl N) (pt1 ks ps fl) (pt2 ks ps fl N) (fin rows x.1 x.2.1 x.2.2):=by
  intro L v sl hP s1 s2 s4 s5;have hgL:=Jr hgB (Fx.app (p:=fun _=>False) L);obtain⟨tv,X,r40,hX,htl,_⟩:=NM hgL (Al hflB L) hl hb;obtain⟨B2,hB2⟩:∃B2,B2=B++(L++X):=⟨_,rfl⟩
  rw[AcL,<-hB2]at r40 htl;have hG2:Ae B2 rows.length=some [.int .i64 N,ev,pv]:=by rw[hB2];exact Ah hGB _
  have he2:El B2 2 ev (Ad .i64 (eC ks)) ks.length:=by rw[hB2];exact Ag heB _
  have hp2:El B2 3 pv (Ad .i64 (pC ps)) ps.length:=by rw[hB2,hB,AcL];exact Ag hp _
  have hZ2:GZ B2:=by rw[hB2];exact hZB.fx (Fx.app (p:=fun _=>False) _) (by simp)
  have lnp:=AF hp2;have hP2:=hP.app X;have hG':=Ah hGB L;have hsd:v = .nilslice\/B.length<sid v:=by
   rcases hP.s with e|e
   ·exact .inl e
   ·simp only[AcU,Ac7]at e
    exact .inr (by omega)
  have hdv:El B2 2 v (frs (pt0 ks fl N) ks.length) ks.length:=by rw[hB2];exact IA hP2.a (by omega)
  have hl42:=UJ (B:=B2) (low:=rows.length) (x1:=x1) (x4:=.ptr (rows.length+1) 0) (x5:=.ptr B.length 0) (r:=fun x=>Ox rows ks.length (pt0 ks fl N) (pt1 ks ps fl) (pt2 ks ps fl N) (fin rows x.1 x.2.1 x.2.2)) hZ2 hek hpk rfl he2 hp2 (by rw[hB2];simp;omega) hG2 htl (by simp) (fun L2 v11 sl' hA hv0 t1 t2 t4 t5 t11=>by
   have hBL:B2++L2=B++(L++X++L2):=by rw[hB2,AcL]
   have hZ3:GZ (B2++L2):=hZ2.fx (Fx.app (p:=fun _=>False) _) (by simp);have hdv':=Ag hdv L2;have hsol:∀R',Fx (B2++L2) R' (fun _=>False)->Ret F 98 [v11,.int .i64 ps.length] R'=some (.slice R'.length 0 ps.length (.at_ ps.length),R'++[.cells (frs (sX ks ps (ps.map (tuS ks fl))) ps.length)],none):=fun R' hF=>MQ hpk hZ3 hA hv0 hF (WQ hok fun i hi=>Ol hok hl hb hi)
   rw[hBL]at hZ3 hdv' hsol ⊢
   exact Ty hB hek hpk hZ3 h hl he hp (by rw[AcL,AcD (AcF.1 hP.o).1];exact hP.o) hdv' hsd hsol (fun R p e hp he=>RH (ht p) QG (by omega) (by omega)) (fun R p e hp he=>Va (hs p e) (Oj (ht p) QG) (by omega) (by omega) (by omega)) r1 r2 t1 t2 t4 t5 t11) ps.length 0 [] .nilslice rfl (AcX _) (by rw[AeI];exact CM) (fun _=>rfl)
  rw[AcV]at hl42;simp[s1,s2,s4,s5,hG',seg,r40,hG2,lnp];simpa using hl42
 have hP0:PO B [.cells [.nilslice,.nilslice,.nilslice],.cells (frs (bH ks fl N) N)] w0 [.cells [.nilslice,.nilslice,.nilslice],.cells (frs (bH ks fl N) N)] .nilslice (frs (dfl (bH ks fl N) ks) 0) 0:=⟨CM,rfl,.inl rfl,fun _ _ _=>rfl,AcE _⟩
 have hl83:=VZ (low:=rows.length) (N:=N) (h:=bH ks fl N) (x1:=x1) (x2:=.ptr rows.length 0) (x4:=.ptr (rows.length+1) 0) (r:=fun x=>Ox rows ks.length (pt0 ks fl N) (pt1 ks ps fl) (pt2 ks ps fl N) (fin rows x.1 x.2.1 x.2.2)) hok heB (by omega) rfl rfl (fun R e he=>r0 R e) hmid ks.length 0 _ .nilslice rfl (AcX _) hP0;refine D7 F68 (R:=Ox rows ks.length (pt0 ks fl N) (pt1 ks ps fl) (pt2 ks ps fl N)) (show Ex F C68 [.code c68b] ⟨mk 180 [(0,.agg [.int .i64 N,ev,pv]),(1,x1)],rows,rows.length⟩ _ from ?_);have hG5:Ae (B++[.cells [.nilslice,.nilslice,.nilslice],.cells (frs (bH ks fl N) N)]) rows.length=some [.int .i64 N,ev,pv]:=Ah hGB _;have hG4:Ae (B++[.cells [.nilslice,.nilslice,.nilslice]]) rows.length=some [.int .i64 N,ev,pv]:=Ah hGB _;have ln:=AF (Ag heB [.cells [.nilslice,.nilslice,.nilslice],.cells (frs (bH ks fl N) N)]);simp only[AcL,AcO,AcU,Ac7,Aee,AdI,Ads]at r70;have hB0:rows++[Row.cells [.int .i64 N,ev,pv],.cells [.nilslice,.nilslice,.nilslice],.cells [.nilslice,.nilslice,.nilslice]]=B++[.cells [.nilslice,.nilslice,.nilslice]]:=by rw[hB];simp
 rw[hBl]at hl83 r70;simp[o1,o2,AV.cells,hB0,hG4,seg,r70,hG5,ln];simpa using hl83
end
theorem EN{n m:Nat}{y:Nat->Rat}{g:Nat->Nat->Rat}{k:Nat->Rat}:su n (fun v=>y v*su m fun e=>g e v*k e)=su m fun e=>k e*su n fun v=>y v*g e v:=by
 have e1:su n (fun v=>y v*su m fun e=>g e v*k e)=su n fun v=>su m fun e=>k e*(y v*g e v):=Aa fun v _=>by
  rw[<-AR];exact Aa fun e _=>by grind
 rw[e1,B5];exact Aa fun e _=>AR _
theorem DV{f:Nat->Rat}{a:Nat}:∀b,su (a+b) f=su a f+su b fun i=>f (a+i)
 |0=>by show su a f=su a f+0;grind
 |
  b+1=>by
  show su (a+b) f+f (a+b)=su a f+(su b _+f (a+b))
  rw[DV b];grind
def dq(ks:List Nat)(e v:Nat):Rat:=((dd (gN ks e) v:Int):Rat)
def fq(fl:List Int)(e:Nat):Rat:=((gI fl e:Int):Rat)
theorem RA{ks:List Nat}{v j:Nat}:∀i,((zL ks v i j:Int):Rat)=su i fun e=>dq ks e v*dq ks e j
 |0=>rfl
 |i+1=>by rw[zL,su,AdY,Adi,RA i];rfl
theorem VW{ks:List Nat}{fl:List Int}{v:Nat}:∀i,((gZ ks fl v i:Int):Rat)=su i fun e=>dq ks e v*fq fl e
 |0=>rfl
 |i+1=>by rw[gZ,su,AdY,Adi,VW i];rfl
section
variable {N:Nat}{ks ps:List Nat}{fl:List Int}
theorem JF(hok:GOK N ks ps){e:Nat}(he:e<ks.length)(φ:Nat->Rat):su N (fun v=>φ v*dq ks e v)=φ (gN ks e%6)-φ (gN ks e/6):=by
 have hee:=hok.ee _ (AH he);have h1:su N (fun v=>φ v*dq ks e v)=su N (fun v=>φ v*(if v=gN ks e%6 then 1 else 0))-su N (fun v=>φ v*(if v=gN ks e/6 then 1 else 0)):=by
  rw[<-CB];refine Aa fun v _=>?_
  unfold dq dd
  by_cases c1:v=gN ks e%6
  ·rw[if_pos c1,if_pos c1,if_neg (by omega)]
   show φ v*1=φ v*1-φ v*0;grind
  ·rw[if_neg c1,if_neg c1]
   by_cases c2:v=gN ks e/6
   ·rw[if_pos c2,if_pos c2]
    show φ v * -1=φ v*0-φ v*1;grind
   ·rw[if_neg c2,if_neg c2]
    show φ v*0=φ v*0-φ v*0;grind
 rw[h1,CI hee.2 fun i _ hi=>by rw[if_neg hi];grind,CI (show gN ks e/6<N by omega) fun i _ hi=>by rw[if_neg hi];grind,if_pos rfl,if_pos rfl];grind
theorem FN(hok:GOK N ks ps){e:Nat}(he:e<ks.length):fo ks N (gN ks e%6)=fo ks N (gN ks e/6):=by
 have hee:=hok.ee _ (AH he);exact(Sc hok hee.2 (by omega)).2 (.step (.refl _) ⟨_,AH he,.inr ⟨rfl,rfl⟩⟩)
theorem O0(hok:GOK N ks ps)(hl:fl.length=ks.length)(hb:∀x∈fl,-100<=x/\x<=100)(y:Nat->Rat)(h:∀j,j<N->su (bN ks N) (fun r=>y r*bA ks (gnS N ks fl ks.length) N (fo ks N) r j)=0):su (bN ks N) (fun r=>y r*bA ks (gnS N ks fl ks.length) N (fo ks N) r N)=0:=by
 have h6:=hok.n6
 let w:Nat->Rat:=fun j=>su (rts (fo ks N) N).length fun t=>y (N+t)*Db (fo ks N) ((rts (fo ks N) N)[t]?.getD 7) N j
 let du:Nat->Rat:=fun e=>su N fun v=>y v*dq ks e v
 have hT:∀t j,bA ks (gnS N ks fl ks.length) N (fo ks N) (N+t) j=if j<N then Db (fo ks N) ((rts (fo ks N) N)[t]?.getD 7) N j else 0:=fun t j=>by
  by_cases c:j<N
  ·rw[OT h6 c,if_pos c]
   unfold bT;rw[if_neg (by omega),AcS]
  ·rw[Of (by omega),if_neg c]
   unfold bT;rw[if_neg (by omega)];unfold Db;rw[if_neg (by omega)]
 have hL:∀v j,v<N->j<N->bA ks (gnS N ks fl ks.length) N (fo ks N) v j=su ks.length fun e=>dq ks e v*dq ks e j:=fun v j hv hj=>by
  rw[OT h6 hj];unfold bT gT;rw[if_pos hv,if_neg (by omega),RA]
 have hR:∀v,v<N->bA ks (gnS N ks fl ks.length) N (fo ks N) v N=su ks.length fun e=>dq ks e v*fq fl e:=fun v hv=>by
  rw[Of (AcE _)];unfold bT gT;rw[if_pos hv,if_pos rfl,Pv hok hl hb hv ks.length (AcE _),VW]
 have h2:∀j,j<N->su ks.length (fun e=>dq ks e j*du e)+w j=0:=fun j hj=>by
  have:=h j hj;unfold bN at this;rw[DV]at this;have e1:su N (fun r=>y r*bA ks (gnS N ks fl ks.length) N (fo ks N) r j)=su ks.length fun e=>dq ks e j*du e:=by
   rw[<-EN];exact Aa fun v hv=>by rw[hL v j hv hj]
  have e2:su (rts (fo ks N) N).length (fun t=>y (N+t)*bA ks (gnS N ks fl ks.length) N (fo ks N) (N+t) j)=w j:=Aa fun t _=>by rw[hT,if_pos hj]
  rw[e1,e2]at this;exact this
 have hw:∀e,e<ks.length->w (gN ks e%6)=w (gN ks e/6):=fun e he=>by
  have hee:=hok.ee _ (AH he);refine Aa fun t _=>?_
  have:Db (fo ks N) ((rts (fo ks N) N)[t]?.getD 7) N (gN ks e%6)=Db (fo ks N) ((rts (fo ks N) N)[t]?.getD 7) N (gN ks e/6):=by
   unfold Db;rw[FN hok he]
   by_cases c:fo ks N (gN ks e/6)=(rts (fo ks N) N)[t]?.getD 7
   ·rw[if_pos ⟨hee.2,c⟩,if_pos ⟨by omega,c⟩]
   ·rw[if_neg fun h=>c h.2,if_neg fun h=>c h.2]
  rw[this]
 have hww:su N (fun j=>w j*w j)=0:=by
  have e0:su N (fun j=>w j*(su ks.length (fun e=>dq ks e j*du e)+w j))=0:=GM fun j hj=>by rw[h2 j hj];grind
  have e1:su N (fun j=>w j*(su ks.length (fun e=>dq ks e j*du e)+w j))=su N (fun j=>w j*su ks.length (fun e=>dq ks e j*du e))+su N fun j=>w j*w j:=by
   rw[<-KX];exact Aa fun j _=>by grind
  have e2:su N (fun j=>w j*su ks.length (fun e=>dq ks e j*du e))=0:=by
   rw[EN];refine GM fun e he=>?_
   rw[JF hok he w,hw e he];grind
  rw[e1,e2]at e0;grind
 have hw0:=MY hww;have hdu:∀e,e<ks.length->du e=0:=by
  have e0:su N (fun j=>y j*su ks.length (fun e=>dq ks e j*du e))=0:=GM fun j hj=>by
   have:=h2 j hj;rw[hw0 j hj]at this;have e:su ks.length (fun e=>dq ks e j*du e)=0:=by grind
   rw[e];grind
  rw[EN]at e0;exact MY e0
 unfold bN;rw[DV];have e1:su N (fun r=>y r*bA ks (gnS N ks fl ks.length) N (fo ks N) r N)=su ks.length fun e=>fq fl e*du e:=by
  rw[<-EN];exact Aa fun v hv=>by rw[hR v hv]
 rw[e1,GM fun e he=>by rw[hdu e he];grind,GM fun t _=>by rw[hT,if_neg (by omega)];grind];grind
theorem JB(hok:GOK N ks ps)(hl:fl.length=ks.length)(hb:∀x∈fl,-100<=x/\x<=100){v:Nat}(hv:v<N):su ks.length (fun e=>dq ks e v*pt0 ks fl N e)=su ks.length fun e=>dq ks e v*fq fl e:=by
 have h6:=hok.n6;have:=CV (A:=bA ks (gnS N ks fl ks.length) N (fo ks N)) (n:=bN ks N) (cols:=N) (O0 hok hl hb) v (by unfold bN;omega);rw[Of (AcE _)]at this;have e1:bT ks (gnS N ks fl ks.length) N (fo ks N) v 10=su ks.length fun e=>dq ks e v*fq fl e:=by
  unfold bT gT;rw[if_pos hv,if_pos rfl,Pv hok hl hb hv ks.length (AcE _),VW]
 rw[<-e1,<-this];have e2:su N (fun j=>bA ks (gnS N ks fl ks.length) N (fo ks N) v j*bH ks fl N j)=su N fun j=>bH ks fl N j*su ks.length fun e=>dq ks e j*dq ks e v:=Aa fun j hj=>by
  rw[OT h6 hj];unfold bT gT;rw[if_pos hv,if_neg (by omega),RA,AdK];congr 1;exact Aa fun e _=>AdK _ _
 show _=su N (fun j=>bA ks (gnS N ks fl ks.length) N (fo ks N) v j*bH ks fl N j);rw[e2,EN];exact Aa fun e he=>by rw[JF hok he];rfl
theorem OF(hok:GOK N ks ps)(hl:fl.length=ks.length)(hb:∀x∈fl,-100<=x/\x<=100){v:Nat}(hv:v<N)(hroot:fo ks N v=v):su N (fun j=>Db (fo ks N) v N j*bH ks fl N j)=0:=by
 have h6:=hok.n6;have hat:=SZ hv hroot;have hlt:=(AcF.1 hat).1;have:=CV (A:=bA ks (gnS N ks fl ks.length) N (fo ks N)) (n:=bN ks N) (cols:=N) (O0 hok hl hb) (N+(rts (fo ks N) v).length) (by unfold bN;omega);rw[Of (AcE _)]at this;have e1:bT ks (gnS N ks fl ks.length) N (fo ks N) (N+(rts (fo ks N) v).length) 10=0:=by
  unfold bT Db;rw[if_neg (by omega),if_neg (by omega)]
 rw[e1]at this;rw[<-this];show _=su N fun j=>bA ks (gnS N ks fl ks.length) N (fo ks N) (N+(rts (fo ks N) v).length) j*bH ks fl N j
 refine Aa fun j hj=>?_
 rw[OT h6 hj];unfold bT;rw[if_neg (by omega),AcS,hat]
 rfl
end
section
variable {N:Nat}{ks ps:List Nat}{fl:List Int}
def nrs(f:Nat->Nat)(n:Nat):List Nat:=(List.range n).filter fun v=>!(f v==v)
theorem Ij{f:Nat->Nat}{n:Nat}:nrs f (n+1)=nrs f n++if f n=n then[]else[n]:=by
 unfold nrs;rw[Aeo,Aei];congr 1
 by_cases c:f n=n
 ·rw[if_pos c];simp[c]
 ·rw[if_neg c];simp[c]
def nu(ks:List Nat)(N i:Nat):Nat:=(nrs (fo ks N) N)[i]?.getD 0
theorem G9(hok:GOK N ks ps){u:Nat->Rat}(h:∀e,e<ks.length->u (gN ks e%6)=u (gN ks e/6)){a b:Nat}(hc:Cn ks a b):u a=u b:=by
 induction hc with
 |refl=>rfl
 |step _ hadj ih=>
  obtain⟨k,hk,hh⟩:=hadj;obtain⟨e,he,rfl⟩:=Ad8.1 hk;have:=h e he;rw[EO he]at this;rw[ih];rcases hh with ⟨rfl,rfl⟩|⟨rfl,rfl⟩
  ·exact this.symm
  ·exact this
end
def prQ:Nat->(Nat->Rat)->Rat
 |0,_=>1
 |n+1,f=>prQ n f*f n
section
variable {V:Nat->Nat->Rat}{w:Nat}
def gr(V:Nat->Nat->Rat)(w:Nat)(i j:Nat):Rat:=su w fun e=>V i e*V j e
theorem KW{i j:Nat}:gr V w i j=gr V w j i:=Aa fun e _=>AdK _ _
theorem Pm(k:Nat):∃c:Nat->Rat,det (k+1) (gr V w)=su w (fun e=>(V k e-su k fun i=>c i*V i e)*(V k e-su k fun i=>c i*V i e))*det k (gr V w)/\
  su w (fun e=>(V k e-su k fun i=>c i*V i e)*(V k e-su k fun i=>c i*V i e))<=gr V w k k:=by
 obtain⟨A,hA⟩:∃A:Nat->Nat->Rat,A=fun j i=>if i<k then gr V w j i else gr V w k j:=⟨_,rfl⟩
 have hsol:=CV (A:=A) (n:=k) (cols:=k) (fun y h=>by
  have hz:=SK (S:=V) (G:=gr V w) (n:=k) (w:=w) (fun i j _ _=>rfl) (y:=y) (fun j hj=>by
   have:=h j hj;refine Eq.trans (Aa fun r _=>?_) this;rw[hA];show _=y r*(if j<k then gr V w r j else gr V w k r)
   rw[if_pos hj])
  have e1:su k (fun r=>y r*A r k)=su k fun r=>su w fun e=>y r*(V k e*V r e):=Aa fun r _=>by
   rw[hA];show y r*(if k<k then gr V w r k else gr V w k r)=_;rw[if_neg (by omega),AR]
   rfl
  rw[e1,B5];refine GM fun e he=>?_
  have e2:su k (fun r=>y r*(V k e*V r e))=V k e*su k fun r=>y r*V r e:=by
   rw[<-AR];exact Aa fun r _=>by grind
  rw[e2,hz e he]
  grind)
 obtain⟨c,hc⟩:∃c,c=xs (gjR A k k) k:=⟨_,rfl⟩
 rw[<-hc]at hsol;have hs:∀j,j<k->su k (fun i=>c i*gr V w i j)=gr V w k j:=fun j hj=>by
  have:=hsol j hj;rw[hA]at this;simp only[if_neg (Nat.lt_irrefl k)]at this;rw[<-this];refine Aa fun i hi=>?_
  rw[if_pos hi,AdK,KW]
 refine⟨c,?_⟩
 let p:Nat->Rat:=fun e=>su k fun i=>c i*V i e
 have hpv:∀j,su w (fun e=>p e*V j e)=su k fun i=>c i*gr V w i j:=fun j=>by
  have e1:su w (fun e=>p e*V j e)=su w fun e=>su k fun i=>c i*(V i e*V j e):=Aa fun e _=>by
   show(su k fun i=>c i*V i e)*V j e=_;rw[AdK,<-AR];exact Aa fun i _=>by grind
  rw[e1,B5];exact Aa fun i _=>AR w
 have hpp:su w (fun e=>p e*p e)=su k fun i=>c i*gr V w k i:=by
  have e1:su w (fun e=>p e*p e)=su w fun e=>su k fun i=>c i*(p e*V i e):=Aa fun e _=>by
   show p e*su k (fun i=>c i*V i e)=_;rw[<-AR];exact Aa fun i _=>by grind
  rw[e1,B5];refine Aa fun i hi=>?_
  rw[AR,hpv i,hs i hi]
 have hpk:su w (fun e=>p e*V k e)=su k fun i=>c i*gr V w k i:=by
  rw[hpv k];exact Aa fun i _=>by rw[KW]
 have hR:su w (fun e=>(V k e-p e)*(V k e-p e))=gr V w k k-su k fun i=>c i*gr V w k i:=by
  have e1:su w (fun e=>(V k e-p e)*(V k e-p e))=su w (fun e=>V k e*V k e)-su w (fun e=>p e*V k e)-su w (fun e=>p e*V k e)+su w fun e=>p e*p e:=by
   rw[<-CB,<-CB,<-KX];exact Aa fun e _=>by grind
  rw[e1,hpk,hpp];show gr V w k k-_-_+_=_;grind
 have hR':su w (fun e=>(V k e-su k fun i=>c i*V i e)*(V k e-su k fun i=>c i*V i e))=gr V w k k-su k fun i=>c i*gr V w k i:=hR
 rw[hR'];constructor
 ·have e1:det (k+1) (gr V w)=det (k+1) (upd (gr V w) k fun s=>1*(gr V w k s-su k fun i=>c i*gr V w i s)+1*su k fun i=>c i*gr V w i s):=B8 fun r s _ _=>by
   unfold upd
   split
   ·rename_i e;subst e;grind
   ·rfl
  rw[e1,Cz (by omega),HL (by omega)];have e2:su k (fun r=>c r*det (k+1) (upd (gr V w) k (gr V w r)))=0:=GM fun r hr=>by
   rw[Es (t:=r) (t':=k) hr (by omega) fun s _=>by
    unfold upd
    rw[if_neg (by omega),if_pos rfl]]
   grind
  rw[e2,EV fun s hs2=>by
   unfold upd;rw[if_pos rfl];show gr V w k s-su k (fun i=>c i*gr V w i s)=0;rw[hs s hs2]
   grind]
  have e3:det k (upd (gr V w) k fun s=>gr V w k s-su k fun i=>c i*gr V w i s)=det k (gr V w):=B8 fun r s hr _=>by
   unfold upd;rw[if_neg (by omega)]
  rw[e3];have e4:upd (gr V w) k (fun s=>gr V w k s-su k fun i=>c i*gr V w i s) k k=gr V w k k-su k fun i=>c i*gr V w k i:=by
   unfold upd;rw[if_pos rfl];show gr V w k k-su k (fun i=>c i*gr V w i k)=gr V w k k-su k fun i=>c i*gr V w k i
   rw[Aa (f:=fun i=>c i*gr V w i k) (g:=fun i=>c i*gr V w k i) fun i _=>by rw[KW]]
  rw[e4];grind
 ·have:=CX (f:=p) w
  rw[hpp]at this;generalize su k _=z at *;generalize gr V w k k=y;grind
theorem Tu{f:Nat->Rat}:∀{n:Nat},(∀i,i<n->0<=f i)->0<=prQ n f
 |0,_=>by show(0:Rat)<=1;decide
 |n+1,h=>AeJ (Tu fun i hi=>h i (by omega)) (h n (by omega))
theorem E4{a b c d:Rat}(h1:a<=b)(h2:c<=d)(ha:0<=c)(hb:0<=b):a*c<=b*d:=by
 have e1:=Aea h1 ha;have e2:=Rat.mul_le_mul_of_nonneg_left h2 hb;exact AeG e1 e2
theorem S8:∀k,0<=det k (gr V w)/\det k (gr V w)<=prQ k fun i=>gr V w i i
 |
  0=>by
  show(0:Rat)<=1/\(1:Rat)<=1;exact⟨by decide,Rat.le_refl⟩
 |
  k+1=>by
  obtain⟨h1,h2⟩:=S8 k;obtain⟨c,e,hle⟩:=Pm (V:=V) (w:=w) k;have hnn:=CX (f:=fun e=>V k e-su k fun i=>c i*V i e) w;rw[e];generalize su w _=R at *;refine⟨AeJ hnn h1,?_⟩;rw[AdK];exact E4 h2 hle hnn (AeG h1 h2)
theorem Yx:∀k,(∀i,i<k->∀c:Nat->Rat,¬∀e,e<w->V i e=su i fun j=>c j*V j e)->det k (gr V w)≠0
 |0,_=>by show(1:Rat)≠0;decide
 |
  k+1,h=>by
  have ih:=Yx k fun i hi=>h i (by omega)
  obtain⟨c,e,_⟩:=Pm (V:=V) (w:=w) k;rw[e];intro hz;rcases AeH.1 hz with hz|hz
  ·refine h k (by omega) c fun e he=>?_
   have:=MY (f:=fun e=>V k e-su k fun i=>c i*V i e) hz e he;grind
  ·exact ih hz
end
def whl(x:Rat):Prop:=∃n:Int,x=(n:Rat)
theorem Hi{x y:Rat}(h:whl x)(k:whl y):whl (x+y):=by obtain⟨a,rfl⟩:=h;obtain⟨b,rfl⟩:=k;exact⟨a+b,by rw[AdY]⟩
theorem By{x y:Rat}(h:whl x)(k:whl y):whl (x*y):=by obtain⟨a,rfl⟩:=h;obtain⟨b,rfl⟩:=k;exact⟨a*b,by rw[Adi]⟩
theorem FG{f:Nat->Rat}:∀{n:Nat},(∀i,i<n->whl (f i))->whl (su n f)
 |0,_=>⟨0,rfl⟩
 |n+1,h=>Hi (FG fun i hi=>h i (by omega)) (h n (by omega))
theorem XE(j:Nat):whl (sg j):=by
 unfold sg
 split
 ·exact⟨1,rfl⟩
 ·exact⟨-1,rfl⟩
theorem JD:∀{k:Nat} {a:Nat->Nat->Rat},(∀r s,r<k->s<k->whl (a r s))->whl (det k a)
 |0,_,_=>⟨1,rfl⟩
 |
  k+1,a,h=>by
  rw[det];exact FG fun j hj=>By (By (XE j) (h 0 j (by omega) hj)) (JD fun r s hr hs=>h _ _ (by omega) (Fp hs))
theorem Tj{f g:Nat->Rat}:∀{n:Nat},(∀i,i<n->0<=f i/\f i<=g i)->prQ n f<=prQ n g
 |0,_=>Rat.le_refl
 |n+1,h=>E4 (Tj fun i hi=>h i (by omega)) (h n (by omega)).2 (h n (by omega)).1 (Tu fun i hi=>AeG (h i (by omega)).1 (h i (by omega)).2)
section
variable {N:Nat}{ks ps:List Nat}{fl:List Int}
end
section
variable {N:Nat}{ks ps:List Nat}{fl:List Int}
theorem XS(hok:GOK N ks ps){x y:Nat->Rat}(h:∀v,v<N->su ks.length (fun e=>dq ks e v*dfl x ks e)=su ks.length fun e=>dq ks e v*dfl y ks e){e:Nat}(he:e<ks.length):dfl x ks e=dfl y ks e:=by
 have h0:su N (fun v=>(x v-y v)*su ks.length fun e=>dq ks e v*(dfl x ks e-dfl y ks e))=0:=GM fun v hv=>by
  have:=h v hv;have e1:su ks.length (fun e=>dq ks e v*(dfl x ks e-dfl y ks e))=su ks.length (fun e=>dq ks e v*dfl x ks e)-su ks.length fun e=>dq ks e v*dfl y ks e:=by
   rw[<-CB];exact Aa fun e _=>by grind
  rw[e1,this];grind
 rw[EN]at h0;have e2:su ks.length (fun e=>(dfl x ks e-dfl y ks e)*su N fun v=>(x v-y v)*dq ks e v)=su ks.length fun e=>(dfl x ks e-dfl y ks e)*(dfl x ks e-dfl y ks e):=Aa fun e he=>by
  rw[JF hok he (fun v=>x v-y v)];congr 1;unfold dfl;grind
 rw[e2]at h0;have:=MY (f:=fun e=>dfl x ks e-dfl y ks e) h0 e he;grind
end
def szq(f:Nat->Rat)(m:Nat):Rat:=su m fun e=>f e*f e
theorem Pi{f:Nat->Rat}{m:Nat}:0<=szq f m:=CX m
theorem LI{f:Nat->Rat}{m:Nat}:∀d,szq f m<=szq f (m+d)
 |0=>Rat.le_refl
 |
  d+1=>by
  have:=LI (f:=f) (m:=m) d;have h2:=QH (f (m+d));show szq f m<=szq f (m+d)+f (m+d)*f (m+d);grind
section
variable {N:Nat}{ks ps:List Nat}{fl:List Int}
theorem AaU(hok:GOK N ks ps)(hl:fl.length=ks.length)(hb:∀x∈fl,-100<=x/\x<=100):szq (fq fl) ks.length<=100000:=by
 have hk:∀m,m<=ks.length->∃n:Int,szq (fq fl) m=(n:Rat)/\0<=n/\n<=10000*m:=fun m=>by
  induction m with
  |zero=>exact fun _=>⟨0,rfl,by omega,by omega⟩
  |succ m ih=>
   intro hm;obtain⟨n,e,h0,h1⟩:=ih (by omega);have hx:=NR hl hb m (by omega);refine⟨n+gI fl m*gI fl m,?_,?_,?_⟩
   ·show szq (fq fl) m+fq fl m*fq fl m=_
    rw[e,AdY,Adi]
    rfl
   ·have:0<=gI fl m*gI fl m:=by
     rcases Int.le_total 0 (gI fl m)with h|h
     ·exact Int.mul_nonneg h h
     ·exact Int.mul_nonneg_of_nonpos_of_nonpos h h
    omega
   ·have h2:gI fl m*gI fl m<=10000:=by
     have:(gI fl m*gI fl m).natAbs<=100*100:=by
      rw[Ac6];exact Ac1 (by omega) (by omega)
     omega
    omega
 obtain⟨n,e,h0,h1⟩:=hk ks.length (AcE _);have:=hok.ek;rw[e,show(100000:Rat)=((100000:Int):Rat)from rfl,Ada];omega
end
def sP(f:Nat->Nat)(h:Nat->Rat)(w i:Nat):Rat:=su i fun u=>if f u=w then h u else 0
def cP(f:Nat->Nat)(w:Nat):Nat->Nat
 |0=>0
 |i+1=>cP f w i+if f i=w then 1 else 0
theorem TU{f:Nat->Nat}{w:Nat}:∀i,cP f w i<=i
 |0=>AcE _
 |
  i+1=>by
  have:=TU (f:=f) (w:=w) i;rw[cP]
  split<;>omega
theorem X6{f:Nat->Nat}{w:Nat}:∀i,((cP f w i:Int):Rat)=su i fun u=>if f u=w then 1 else 0
 |0=>rfl
 |
  i+1=>by
  rw[cP,su,<-X6 i]
  split
  ·rw[Int.natCast_add,AdY];rfl
  ·show _=((cP f w i:Int):Rat)+0
   rw[Aeq];grind
theorem I3{f:Nat->Nat}{w v:Nat}(hv:f v=w):∀i,v<i->0<cP f w i
 |
  i+1,h=>by
  rw[cP]
  by_cases c:v=i
  ·subst c;rw[if_pos hv];omega
  ·have:=I3 hv i (by omega)
   omega
def oH(f:Nat->Nat)(h:Nat->Rat)(N v:Nat):Rat:=h v-sP f h (f v) N/((cP f (f v) N:Int):Rat)
section
variable {N:Nat}{ks ps:List Nat}{fl:List Int}
theorem AaT(hok:GOK N ks ps){v:Nat}(hv:v<N):gI (pcS ks N N) v=(fo ks N v:Int):=by
 obtain⟨f1,f2⟩:=Iw hok hv;exact RM hok f2 (MK hok f1 hv) f1.symm
theorem W5{f:Nat->Nat}{h:Nat->Rat}{w L:Nat}(hh:∀j,dn (h j) L 300000000):∀i,dn (sP f h w i) L (i*300000000)
 |
  0=>by
  show dn (((0:Int):Rat)) L _;exact FH (hh 0).L0 (by simp)
 |
  i+1=>by
  have ih:=W5 (f:=f) (w:=w) hh i;show dn (sP f h w i+if f i=w then h i else 0) L _
  by_cases c:f i=w
  ·rw[if_pos c]
   exact Ft (Tf ih (hh i)) (by omega)
  ·rw[if_neg c]
   have e:sP f h w i+0=sP f h w i:=by grind
   rw[e];exact Ft ih (by omega)
end
structure T3(B L:List Row)(v:Nat->AV)(f:Nat->Nat->Rat)(n:Nat->Nat):Prop where
 a:∀j,j<3->Acc B L 2 (.op 2) (v j) (frs (f j) (n j)) (n j)
 d:∀i j,i<3->j<3->i≠j->v j = .nilslice\/v i = .nilslice\/sid (v i)≠sid (v j)
 o:L[0]?=some (.cells [v 0,v 1,v 2])
 s:∀j,j<3->v j = .nilslice\/B.length+1<=sid (v j)
section
variable {B L:List Row}{v:Nat->AV}{f:Nat->Nat->Rat}{n:Nat->Nat}
end
section
variable {rows:List Row}{N:Nat}{ks ps:List Nat}{ev pv x1:AV}{fl:List Int}
end
def A9(q:Rat):Row:=.cells [.int .i64 q.num,.int .i64 (q.den:Int)]
section
variable {R:List Row}{i low:Nat}{q q':Rat}
theorem JC(h:R[i]?=some (A9 q)):evP R (.loadN 2 (.c (.ptr i 0)))=some (fr q):=by
 have:=CJ (R:=R) (id:=i) (j:=0) (w:=1) (f:=fun _=>q) h (by omega);rwa[AeI]at this
theorem Kz(h:R[i]?=some (A9 q)):evE R low (.storeN 2 (.c (.ptr i 0)) (.c (fr q')))=some (.tup [],R.set i (A9 q'),Ab low i):=by
 have:=CD (R:=R) (id:=i) (low:=low) (j:=0) (w:=1) (f:=fun _=>q) (q:=q') h (by omega);rw[AeI]at this;exact this
end
section
variable {N:Nat}{ks ps:List Nat}{t:Nat->Rat}{L2:Nat}
variable {C:List Row}{low gb e T:Nat}{ev pv x1 x4 x5 x8 x10:AV}{r:AV×List Row×Nat->Prop}
end
def FrL(R:List Row)(v:AV)(f:Nat->Rat)(m:Nat):Prop:=El R 2 v (frs f m) m
theorem FrL.app{R:List Row}{v:AV}{f:Nat->Rat}{m:Nat}(h:FrL R v f m)(X:List Row):FrL (R++X) v f m:=Ag h X
section
variable {rows:List Row}{v:AV}{f:Nat->Rat}{m:Nat}{r:AV×List Row×Nat->Prop}
theorem MJ(h:FrL rows v f m)(hm:m<=1000)(hc:∀(L:List Row) (w:AV),Acc rows L 2 (.op 2) w (frs f m) m->r (w,rows++L,rows.length)):
  ∀(d i:Nat) (L:List Row) (w:AV),m-i=d->i<=m->Acc rows L 2 (.op 2) w (frs f i) i->Lc69l2 F (.fn [.t 2]) w v (.int .i64 m) (.int .i64 i) (rows++L) rows.length r:=by
 intro d
 induction d with
 |zero=>
  intro i L w hd hi hA;have e:i=m:=by omega
  subst e;unfold Lc69l2;simp;exact hc L w hA
 |succ d ih=>
  intro i L w hd hi0 hA;have hi:i<m:=by omega
  have hww:IntKind.i64.wrap ((i:Int)+1)=((i+1:Nat):Int):=wS (by omega);have h':=Ag h L;have ix:=B7 h' hi;have ld:=Ei h' hi;rw[WX]at ld;have hlw:Ab rows.length (rows.length+L.length)=rows.length:=Ac (by omega);have hA1:=FF hA [.cells [.int .i64 (f i).num,.int .i64 ((f i).den:Int)]];obtain⟨w',L',happ,hA2⟩:=Lx (low:=rows.length) (b:=16) (x:=[.int .i64 (f i).num,.int .i64 ((f i).den:Int)]) hA1 rfl (by omega) (by omega) (AcE _);have hfrs:frs f i++[.int .i64 (f i).num,.int .i64 ((f i).den:Int)]=frs f (i+1):=rfl;rw[hfrs]at hA2;have:=ih (i+1) L' w' (by omega) (by omega) hA2;have hE:Ae (rows++(L++[Row.cells [.int .i64 (f i).num,.int .i64 ((f i).den:Int)]])) (rows.length+L.length)=some [.int .i64 (f i).num,.int .i64 ((f i).den:Int)]:=by
   unfold Ae;rw[AcG (by omega),AcS];simp
  simp only[AcL,Aee,AdI,AcO,AcU,Ac7,Ads]at happ;generalize (f i).num=a at *;generalize ((f i).den:Int)=b at *;unfold Lc69l2;simp[hi,ix,ld,AV.cells,splice,hlw,hE,Ap,happ,hww];simpa using this
theorem IC(h:FrL rows v f m)(hm:m<=1000):∃w X,Ret F 69 [v] rows=some (w,rows++X,none)/\FrL (rows++X) w f m/\((w = .nilslice/\X=[]/\m=0)\/(w = .slice rows.length 0 m (.op 2)/\X=[.cells (frs f m)])):=by
 have ln:=AF h
 let Q:AV×List Row×Option Nat->Prop:=fun q=>∃w X,q=(w,rows++X,none)/\FrL (rows++X) w f m/\((w = .nilslice/\X=[]/\m=0)\/(w = .slice rows.length 0 m (.op 2)/\X=[.cells (frs f m)]))
 have hl:=MJ (r:=fun x=>Q (fin rows x.1 x.2.1 x.2.2)) h hm (fun L w hA=>by
  obtain⟨h1,h2⟩:=id hA;rcases h2 with ⟨rfl,e⟩|⟨k,rfl,hk⟩
  ·have hm0:m=0:=by
    have:=congrArg List.length e;rw[Ar]at this;simp at this;omega
   refine⟨.nilslice,[],by simp,?_,.inl ⟨rfl,rfl,hm0⟩⟩;subst hm0;exact BY
  ·have hf:=E3 (rows:=rows) (L:=L) (k:=k) (o:=0) (n:=m) (c:=.op 2) hk (Et m)
   refine⟨_,[.cells (frs f m)],hf,?_,.inr ⟨rfl,rfl⟩⟩;show El _ _ _ _ _;have hr:Ae (rows++[.cells (frs f m)]) rows.length=some (frs f m):=by simp[Ae]
   unfold El A5;simp only[hr];rw[BZ (Ar m)]
   rfl) m 0 [] .nilslice rfl (AcX _) CM
 rw[AcV]at hl
 obtain⟨q,hq,w,X,e,h1,h2⟩:=D7 F69 (R:=Q) (rows:=rows) (vs:=[v]) (show Ex F (.fn [.t 2]) [.code c69b] ⟨mk 22 [(0,v)],rows,rows.length⟩ _ by
  simp[ln]
  simpa using hl)
 subst e;exact⟨w,X,hq,h1,h2⟩
end
section
variable {rows:List Row}{N:Nat}{ks ps:List Nat}{g x1:AV}{fl:List Int}
theorem QT(hGZ:GZ rows)(hg:GRd rows g N ks ps)(h:IsL rows x1 fl)(hl:fl.length=ks.length)(hb:∀x∈fl,-100<=x/\x<=100):∃w X,Ret F 24 [g,x1] rows=some (.tup [w,.int .i64 0],rows++X,none)/\FrL (rows++X) w (bH ks fl N) N:=by
 obtain⟨ev,pv,rfl,he,hp,_⟩:=id hg.eq;have hok:=hg.ok;have o1:=An he;have o2:=An hp;have hek:=hok.ek;have h6:=hok.n6;have ho:=FW (hg.app [.cells [.int .i64 N,ev,pv]]) (Al h [.cells [.int .i64 N,ev,pv]]) hb (f:=67) (n:=ks.length) hl (by omega) (g':=.agg [.int .i64 N,ev,pv]) (fun L=>Du (Ag (Ag he _) L) rfl o2);rw[show((67:Nat):Int)=67 from rfl]at ho;have r70:=Lo (hGZ.fx (Fx.app (p:=fun _=>False) [.cells [.int .i64 N,ev,pv]]) (by simp)) (hg.app [.cells [.int .i64 N,ev,pv]]) (Al h [.cells [.int .i64 N,ev,pv]]) hl hb;have hH:FrL (rows++[.cells [.int .i64 N,ev,pv]]++[.cells (frs (bH ks fl N) N)]) (.slice (rows++[Row.cells [.int .i64 N,ev,pv]]).length 0 N (.at_ N)) (bH ks fl N) N:=by
  have hr:Ae (rows++[.cells [.int .i64 N,ev,pv]]++[.cells (frs (bH ks fl N) N)]) (rows++[Row.cells [.int .i64 N,ev,pv]]).length=some (frs (bH ks fl N) N):=by
   unfold Ae;simp
  show El _ _ _ _ _;unfold El A5;simp only[hr];rw[BZ (Ar N)]
  rfl
 obtain⟨w,X,r69,hw,hws⟩:=IC hH (by omega)
 let Q:AV×List Row×Option Nat->Prop:=fun q=>∃w X,q=(.tup [w,.int .i64 0],rows++X,none)/\FrL (rows++X) w (bH ks fl N) N
 have hfin:Q (fin rows (.tup [w,.int .i64 0]) (rows++([.cells [.int .i64 N,ev,pv],.cells (frs (bH ks fl N) N)]++X)) rows.length):=by
  rcases hws with ⟨rfl,rfl,e⟩|⟨rfl,rfl⟩
  ·exact⟨.nilslice,[],by simp,by rw[e];exact BY⟩
  ·refine⟨_,_,Mf (vs:=frs (bH ks fl N) N) ?_ (by simp) (Et N),?_⟩
   ·simp
   ·have hr:Ae (rows++[.cells (frs (bH ks fl N) N)]) rows.length=some (frs (bH ks fl N) N):=by simp[Ae]
    show El _ _ _ _ _;unfold El A5;simp only[hr];rw[BZ (Ar N)]
    rfl
 obtain⟨q,hq,w',X',e,h1⟩:=D7 F24 (R:=Q) (rows:=rows) (vs:=[.agg [.int .i64 N,ev,pv],x1]) (show Ex F (.fn [.t 4,.t 5]) [.code c24b] ⟨mk 19 [(0,.agg [.int .i64 N,ev,pv]),(1,x1)],rows,rows.length⟩ _ by
  simp only[AcL,AcO,AcU,Ac7,Aee,AdI,Ads]at r70 r69;simp[AV.cells,o1,o2,seg,ho,AG,r70,r69]
  simpa using hfin)
 subst e;exact⟨w',X',hq,h1⟩
end
theorem HR{q:Rat}{L:Nat}(hL:0<L)(h:whl (q*((L:Int):Rat))):∃B,dn q L B:=by
 obtain⟨n,h⟩:=h;have:=ME (q:=q) (d:=(L:Int)) (n:=n) (t:=1) (by omega) h (by omega);rw[Add,Int.natAbs_natCast]at this;exact⟨_,this⟩
theorem QK{q:Rat}{L B b:Nat}(h:dn q L B)(h0:0<=q)(hb:q<=((b:Int):Rat)):dn q L (b*L):=by
 have hv:=Gx h.d;refine⟨h.L0,h.d,?_⟩;have hLn:(0:Rat)<=((L:Int):Rat):=by rw[show(0:Rat)=((0:Int):Rat)from rfl,Ada];omega
 have h1:(0:Rat)<=q*((L:Int):Rat):=AeJ h0 hLn;have h2:q*((L:Int):Rat)<=((b:Int):Rat)*((L:Int):Rat):=Aea hb hLn;rw[<-hv]at h1 h2;rw[show(0:Rat)=((0:Int):Rat)from rfl,Ada]at h1;rw[<-Rat.intCast_mul,Ada]at h2;have:((b:Int)*(L:Int))=((b*L:Nat):Int):=by rw[Adg]
 omega
structure Szd(f:Nat->Rat)(m:Nat):Prop where
 L:∃L:Nat,0<L/\L<=2278125/\∀e,e<m->whl (f e*((L:Int):Rat))
 b:szq f m<=100000
section
variable {f:Nat->Rat}{m:Nat}
theorem SJ{i:Nat}(h:i<=m):szq f i<=szq f m:=by
 have:=LI (f:=f) (m:=i) (m-i);rwa[show i+(m-i)=m by omega]at this
theorem Szd.one(h:Szd f m){e:Nat}(he:e<m):f e*f e<=((100000:Int):Rat):=by
 refine AeG ?_ h.b;have h1:=SJ (f:=f) (m:=m) (i:=e+1) (by omega);have h2:=Pi (f:=f) (m:=e);have e1:szq f (e+1)=szq f e+f e*f e:=rfl;rw[e1]at h1;grind
theorem Szd.sum(h:Szd f m):∃L,L<=5200000000000/\(∀i,i<=m->dn (szq f i) L 520000000000000000)/\∀e,e<m->dn (f e*f e) L 520000000000000000:=by
 obtain⟨L,h0,hL,hw⟩:=h.L;have hLL:L*L<=2278125*2278125:=Ac1 hL hL;have hsq:∀e,e<m->whl (f e*f e*(((L*L:Nat):Int):Rat)):=fun e he=>by
  have:=By (hw e he) (hw e he);have e1:f e*f e*(((L*L:Nat):Int):Rat)=f e*((L:Int):Rat)*(f e*((L:Int):Rat)):=by
   rw[Adg,Adi];grind
  rw[e1];exact this
 have hb:(100000:Rat)=((100000:Nat):Int):=rfl;have hpos:0<L*L:=Ad1 h0 h0;refine⟨L*L,by omega,fun i hi=>?_,fun e he=>?_⟩
 ·obtain⟨B,hB⟩:=HR (q:=szq f i) hpos (by
   have e1:szq f i*(((L*L:Nat):Int):Rat)=su i fun e=>f e*f e*(((L*L:Nat):Int):Rat):=by
    unfold szq;rw[AdK,<-AR];exact Aa fun e _=>by grind
   rw[e1]
   exact FG fun e he=>hsq e (by omega))
  exact Ft (QK (b:=100000) hB Pi (by rw[<-hb];exact AeG (SJ hi) h.b)) (by omega)
 ·obtain⟨B,hB⟩:=HR hpos (hsq e he)
  exact Ft (QK (b:=100000) hB (QH _) (h.one he)) (by omega)
end
section
variable {rows:List Row}{v:AV}{f g:Nat->Rat}{m L:Nat}{r:AV×List Row×Nat->Prop}
end
def f4(a b c d:Nat->Rat):Nat->Nat->Rat
 |0=>a
 |1=>b
 |2=>c
 |_=>d
section
variable {N:Nat}{ks ps:List Nat}{fl:List Int}
end
section
variable {r:AV×List Row×Nat->Prop}{m low:Nat}{x1 x2 x4:AV}{fl:List Int}
end
abbrev C23:Ctx:=.fn [.cellN 4 3,.t 5]
theorem Rj{rows:List Row}{l:List AV}{X:List Row}{e:Int}:fin rows (.tup [.agg l,.int .i64 e]) (rows++X) rows.length=(.tup [.agg l,.int .i64 e],rows++X,none)\/(fin rows (.tup [.agg l,.int .i64 e]) (rows++X) rows.length=(.tup [.agg l,.int .i64 e],rows,none)/\(AV.agg l).ids.all (· < rows.length)=true):=by
 have hids:(AV.tup [.agg l,.int .i64 e]).ids=(AV.agg l).ids:=by
  simp[AV.ids,AV.ids.idsL]
 unfold fin;rw[if_pos rfl,hids]
 split
 ·rename_i h;exact .inr ⟨rfl,h⟩
 ·rename_i hn
  left
  split
  ·rename_i i he
   split
   ·rw[if_neg]
    intro h;simp only[Ac3]at h;have h2:(AV.agg l).ids.isEmpty=true:=by
     have:=h.2;simp only[AV.plain1,AdH,Ac3]at this;exact this.1
    rw[he]at h2;simp at h2
   ·rfl
  ·rfl
def AbW(rows:List Row)(m:Nat)(a b c:Nat->Rat)(q:AV×List Row×Option Nat):Prop:=
 ∃v0 v1 v2 X,q=(.tup [.agg [v0,v1,v2],.int .i64 0],rows++X,none)/\FrL (rows++X) v0 a m/\FrL (rows++X) v1 b m/\FrL (rows++X) v2 c m
section
variable {R:List Row}{low O m i:Nat}{x4 vi:AV}{ws vs:List AV}{f:Nat->Rat}{r:AV×List Row×Nat->Prop}
theorem Py(hi:i<3)(hv:vs[i]?=some vi)(hm:m<=1000)(h:FrL R vi f m)(hO:R[O]?=some (.cells ws))(hw:ws.length=3)(hlow:low<=O)
  (hn:∀(X:List Row) (w:AV),(w = .nilslice\/R.length<=sid w)->FrL (R++X) w f m->Lc23l2 F C23 x4 (.ptr O 0) (.agg vs) (.int .i64 (i+1:Nat)) ((R++X).set O (.cells (ws.set i w))) low r):
  Lc23l2 F C23 x4 (.ptr O 0) (.agg vs) (.int .i64 i) R low r:=by
 obtain⟨w,X,r69,hwF,hws⟩:=IC h hm;have hOl:=(AcF.1 hO).1;have hone:w.one=true:=An hwF;have hw':w = .nilslice\/R.length<=sid w:=by
  rcases hws with ⟨e,_⟩|⟨e,_⟩
  ·exact .inl e
  ·subst e;exact .inr (AcE _)
 have:=hn X w hw' hwF;have hww:IntKind.i64.wrap ((i:Int)+1)=((i+1:Nat):Int):=wS (by omega);have hlw:Ab low O=low:=lwS (by omega);have hc:cells? (R++X) O=some ws:=by unfold cells?;rw[AcD hOl,hO]
 have ii:AI (i:Int) 3=some i:=by rw[Bz (by omega) (by omega),Adf]
 have hil:i<ws.length:=by omega
 have hst:evE (R++X) low (.store1 (.c (.ptr O i)) (.c w))=some (.tup [],(R++X).set O (.cells (ws.set i w)),low):=by
  rw[A4];simp only[hc,Ac4];rw[if_pos ⟨hil,hone⟩,hlw]
 have hi3:(i:Int)<3:=by omega
 unfold Lc23l2;simp[-A4,hi3,ii,hv,r69,hst,hww];simpa using this
end
section
variable {rows:List Row}{N:Nat}{ks ps:List Nat}{g x1:AV}{fl:List Int}
theorem FrL.put{R:List Row}{v:AV}{f:Nat->Rat}{m O:Nat}{y:Row}(h:FrL R v f m)(hO:v = .nilslice\/sid v≠O):FrL (R.set O y) v f m:=by
 have hS:Sm R.length O R (R.set O y):=DC (A2 (AcE _)) (.inl rfl);refine Cd hS h ?_;rcases BA h with e|e
 ·exact .inl e
 ·rcases hO with e2|e2
  ·exact .inl e2
  ·exact .inr ⟨e,e2⟩
theorem Ok(hGZ:GZ rows)(hg:GRd rows g N ks ps)(h:IsL rows x1 fl)(hl:fl.length=ks.length)(hb:∀x∈fl,-100<=x/\x<=100):∃q,Ret F 23 [g,x1] rows=some q/\AbW rows ks.length (pt0 ks fl N) (pt1 ks ps fl) (pt2 ks ps fl N) q:=by
 obtain⟨ev,pv,rfl,he,hp,_⟩:=id hg.eq;have hok:=hg.ok;have o1:=An he;have o2:=An hp;have hek:=hok.ek;obtain⟨B,hB⟩:∃B,B=rows++[Row.cells [.int .i64 N,ev,pv],.cells [.nilslice,.nilslice,.nilslice]]:=⟨_,rfl⟩
 have hBl:B.length=rows.length+2:=by rw[hB];simp
 have heB:El B 2 ev (Ad .i64 (eC ks)) ks.length:=by rw[hB];exact Ag he _
 have hgB:GRd B (.agg [.int .i64 N,ev,pv]) N ks ps:=by rw[hB];exact hg.app _
 have hflB:IsL B x1 fl:=by rw[hB];exact Al h _
 have hG:Ae B rows.length=some [.int .i64 N,ev,pv]:=by rw[hB];simp[Ae]
 have ho:=FW hgB hflB hb (f:=67) (n:=ks.length) hl (by omega) (g':=.agg [.int .i64 N,ev,pv]) (fun L=>Du (Ag heB L) rfl o2);rw[show((67:Nat):Int)=67 from rfl]at ho;obtain⟨R0,hR0⟩:∃R0,R0=B++[.cells [.nilslice,.nilslice,.nilslice]]:=⟨_,rfl⟩
 have hR0l:R0.length=rows.length+3:=by rw[hR0];simp[hBl]
 have hR0r:∃Y,R0=rows++Y:=⟨_,by rw[hR0,hB,AcL]⟩
 have hG0:Ae R0 rows.length=some [.int .i64 N,ev,pv]:=by rw[hR0];exact Ah hG _
 obtain⟨Y0,hY0⟩:=hR0r;obtain⟨q,r68,v0,v1,v2,X,rfl,e0,e1,e2,i0,i1,i2⟩:=Oo (rows:=R0) (hGZ.fx (R':=R0) (p:=fun _=>False) (by rw[hY0];exact Fx.app _) (by simp)) (by rw[hR0];exact hgB.app _) (by rw[hR0];exact Al hflB _) hl hb
 let Q:AV×List Row×Option Nat->Prop:=AbW rows ks.length (pt0 ks fl N) (pt1 ks ps fl) (pt2 ks ps fl N)
 obtain⟨R1,hR1⟩:∃R1,R1=R0++X:=⟨_,rfl⟩
 rw[<-hR1]at r68 e0 e1 e2;have hR1l:rows.length+3<=R1.length:=by rw[hR1];simp;omega
 have hO1:R1[rows.length+2]?=some (.cells [.nilslice,.nilslice,.nilslice]):=by
  rw[hR1,AcD (by omega),hR0,AcG (by omega),show rows.length+2-B.length=0 by omega]
  rfl
 have h41:R1[rows.length+1]?=some (.cells [.nilslice,.nilslice,.nilslice]):=by
  rw[hR1,AcD (by omega),hR0,AcD (by omega),hB,AcG (by omega),show rows.length+1-rows.length=1 by omega]
  rfl
 have hpre:∀{id:Nat},id<rows.length->R1[id]?=rows[id]?:=fun{id} hid=>by
  rw[hR1,hY0,AcL,AcD hid]
 have hlw1:Ab rows.length (rows.length+1)=rows.length:=Ac (by omega);have main:Lc23l2 F C23 (.ptr (rows.length+1) 0) (.ptr (rows.length+2) 0) (.agg [v0,v1,v2]) (.int .i64 (0:Nat)) R1 rows.length fun x=>Q (fin rows x.1 x.2.1 x.2.2):=by
  refine Py (vi:=v0) (by omega) rfl (by omega) e0 hO1 rfl (by omega) fun X1 a0 b0 f0=>?_
  obtain⟨R2,hR2⟩:∃R2,R2=(R1++X1).set (rows.length+2) (Row.cells (List.set [.nilslice,.nilslice,.nilslice] 0 a0)):=⟨_,rfl⟩
  rw[<-hR2];have hR2l:R1.length<=R2.length:=by rw[hR2];simp
  have g0:FrL R2 a0 (pt0 ks fl N) ks.length:=by rw[hR2];exact f0.put (by rcases b0 with e|e;exact .inl e;exact .inr (by omega))
  have g1:FrL R2 v1 (pt1 ks ps fl) ks.length:=by rw[hR2];exact(FrL.app e1 X1).put (by rcases i1 with e|e;exact .inl e;exact .inr (by omega))
  have g2:FrL R2 v2 (pt2 ks ps fl N) ks.length:=by rw[hR2];exact(FrL.app e2 X1).put (by rcases i2 with e|e;exact .inl e;exact .inr (by omega))
  have hO2:R2[rows.length+2]?=some (.cells [a0,.nilslice,.nilslice]):=by rw[hR2,AcM (by simp;omega)];rfl
  have s2:∀id,id<R1.length->id≠rows.length+2->R2[id]?=R1[id]?:=fun id h1 h2=>by rw[hR2,AcH (by omega),AcD h1]
  refine Py (vi:=v1) (by omega) rfl (by omega) g1 hO2 rfl (by omega) fun X2 a1 b1 f1=>?_
  obtain⟨R3,hR3⟩:∃R3,R3=(R2++X2).set (rows.length+2) (Row.cells (List.set [a0,.nilslice,.nilslice] 1 a1)):=⟨_,rfl⟩
  rw[<-hR3];have hR3l:R2.length<=R3.length:=by rw[hR3];simp
  have k0:FrL R3 a0 (pt0 ks fl N) ks.length:=by rw[hR3];exact(g0.app X2).put (by rcases b0 with e|e;exact .inl e;exact .inr (by omega))
  have k1:FrL R3 a1 (pt1 ks ps fl) ks.length:=by rw[hR3];exact f1.put (by rcases b1 with e|e;exact .inl e;exact .inr (by omega))
  have k2:FrL R3 v2 (pt2 ks ps fl N) ks.length:=by rw[hR3];exact(g2.app X2).put (by rcases i2 with e|e;exact .inl e;exact .inr (by omega))
  have hO3:R3[rows.length+2]?=some (.cells [a0,a1,.nilslice]):=by rw[hR3,AcM (by simp;omega)];rfl
  have s3:∀id,id<R1.length->id≠rows.length+2->R3[id]?=R1[id]?:=fun id h1 h2=>by rw[hR3,AcH (by omega),AcD (by omega),s2 id h1 h2]
  refine Py (vi:=v2) (by omega) rfl (by omega) k2 hO3 rfl (by omega) fun X3 a2 b2 f2=>?_
  obtain⟨R4,hR4⟩:∃R4,R4=(R3++X3).set (rows.length+2) (Row.cells (List.set [a0,a1,.nilslice] 2 a2)):=⟨_,rfl⟩
  rw[<-hR4];have hR4l:R3.length<=R4.length:=by rw[hR4];simp
  have l0:FrL R4 a0 (pt0 ks fl N) ks.length:=by rw[hR4];exact(k0.app X3).put (by rcases b0 with e|e;exact .inl e;exact .inr (by omega))
  have l1:FrL R4 a1 (pt1 ks ps fl) ks.length:=by rw[hR4];exact(k1.app X3).put (by rcases b1 with e|e;exact .inl e;exact .inr (by omega))
  have l2:FrL R4 a2 (pt2 ks ps fl N) ks.length:=by rw[hR4];exact f2.put (by rcases b2 with e|e;exact .inl e;exact .inr (by omega))
  have hO4:Ae R4 (rows.length+2)=some [a0,a1,a2]:=by unfold Ae;rw[hR4,AcM (by simp;omega)];rfl
  have s4:∀id,id<R1.length->id≠rows.length+2->R4[id]?=R1[id]?:=fun id h1 h2=>by rw[hR4,AcH (by omega),AcD (by omega),s3 id h1 h2]
  have h44:cells? R4 (rows.length+1)=some [.nilslice,.nilslice,.nilslice]:=by unfold cells?;rw[s4 _ (by omega) (by omega),h41]
  obtain⟨R5,hR5⟩:∃R5,R5=R4.set (rows.length+1) (Row.cells [a0,a1,a2]):=⟨_,rfl⟩
  have m0:FrL R5 a0 (pt0 ks fl N) ks.length:=by rw[hR5];exact l0.put (by rcases b0 with e|e;exact .inl e;exact .inr (by omega))
  have m1:FrL R5 a1 (pt1 ks ps fl) ks.length:=by rw[hR5];exact l1.put (by rcases b1 with e|e;exact .inl e;exact .inr (by omega))
  have m2:FrL R5 a2 (pt2 ks ps fl N) ks.length:=by rw[hR5];exact l2.put (by rcases b2 with e|e;exact .inl e;exact .inr (by omega))
  have t0:=An m0;have t1:=An m1;have t2:=An m2;have hrow:Ae R5 (rows.length+1)=some [a0,a1,a2]:=by unfold Ae;rw[hR5,AcM (by omega)]
  have hst:evE R4 rows.length (.storeN 3 (.c (.ptr (rows.length+1) 0)) (.c (.agg [a0,a1,a2])))=some (.tup [],R5,rows.length):=by
   rw[Ax];simp only[h44,Ac4];rw[if_pos ⟨rfl,by simp,by simp[t0,t1,t2]⟩,hlw1,hR5]
   rfl
  obtain⟨Z,hZ⟩:=PP (B:=rows) (R:=R5) (by rw[hR5];simp;omega) (fun id hid=>by rw[hR5,AcH (by omega),s4 id (by omega) (by omega),hpre hid]);have hfin:Q (fin rows (.tup [.agg [a0,a1,a2],.int .i64 0]) R5 rows.length):=by
   rw[hZ]at m0 m1 m2 ⊢;rcases Rj (rows:=rows) (l:=[a0,a1,a2]) (X:=Z) (e:=0)with e|⟨e,hids⟩
   ·rw[e]
    exact⟨_,_,_,Z,rfl,m0,m1,m2⟩
   ·rw[e]
    simp only[OJ,DJ,HA,AcV,AdW,Ac3]at hids;refine⟨a0,a1,a2,[],by rw[AcV],?_,?_,?_⟩
    ·rw[AcV];exact PK m0 hids.1
    ·rw[AcV];exact PK m1 hids.2.1
    ·rw[AcV];exact PK m2 hids.2.2
  unfold Lc23l2;simp[-Ax,hO4,seg,hst,hrow];simpa using hfin
 refine D7 F23 (R:=Q) (rows:=rows) (vs:=[.agg [.int .i64 N,ev,pv],x1]) (show Ex F C23 [.code c23b] ⟨mk 32 [(0,.agg [.int .i64 N,ev,pv]),(1,x1)],rows,rows.length⟩ _ by
  have hB0:rows++[Row.cells [.int .i64 N,ev,pv],.cells [.nilslice,.nilslice,.nilslice],.cells [.nilslice,.nilslice,.nilslice]]=R0:=by rw[hR0,hB];simp
  have hO7:B.length=rows.length+2:=hBl;simp[AV.cells,o1,o2,<-hB,hG,seg,ho,AG,<-hR0,hG0,r68,hO7]
  simpa using main)
end
theorem V6{f:Nat->Rat}{w j:Nat}(hj:j<w):(frs f w)[j*2]?=some (.int .i64 (f j).num)/\(frs f w)[j*2+1]?=some (.int .i64 ((f j).den:Int)):=by
 have:=HV (f:=f) hj;have hl:=Ar (f:=f) w;unfold seg at this;rw[if_pos (by omega)]at this;simp only[AcI]at this;have h0:((List.drop (j*2) (frs f w)).take 2)[0]?=some (.int .i64 (f j).num):=by rw[this];rfl
 have h1:((List.drop (j*2) (frs f w)).take 2)[1]?=some (.int .i64 ((f j).den:Int)):=by rw[this];rfl
 rw[AcZ (by omega),Adr]at h0 h1;exact⟨h0,h1⟩
section
variable {rows:List Row}{x y:AV}{f g:Nat->Rat}{m:Nat}
end
section
variable {rows:List Row}{x:AV}{f:Nat->Rat}{m:Nat}
theorem RG(h:FrL rows x f m)(hm:m<=1000000)(hv:∀i,i<m->(f i).num.natAbs<=1000000/\(f i).den<=1000000):∀(d i:Nat),m-i=d->i<=m->Lc30l2 F (.fn [.t 4]) x (.int .i64 m) (.int .i64 1000000) (.int .i64 i) rows rows.length fun r=>fin rows r.1 r.2.1 r.2.2=(.bool true,rows,none):=by
 have ln:=AF h;intro d
 induction d with
 |zero=>
  intro i hd hi;have e:i=m:=by omega
  subst e;unfold Lc30l2;simp[ln]
 |succ d ih=>
  intro i hd hi0;have hi:i<m:=by omega
  have hw:IntKind.i64.wrap ((i:Int)+1)=((i+1:Nat):Int):=wS (by omega);have ix:=B7 h hi;have hl1:=Ar (f:=f) m;obtain⟨a1,a2⟩:=V6 (f:=f) hi;have x1:=DM h (j:=i*2) (by omega);have x2:=DM h (j:=i*2+1) (by omega);rw[a1]at x1;rw[a2]at x2;rw[<-Nat.add_assoc]at x2;obtain⟨v1,v2⟩:=hv i hi;have v3:=(f i).den_pos;have hg:Int.gcd (f i).num ((f i).den:Int)=1:=(f i).reduced;have r72:=Ki (rows:=rows) (a:=(f i).num) (b:=((f i).den:Int)) (by omega) (by unfold MX;omega) (by rw[Int.natAbs_natCast];unfold MX;omega);rw[hg]at r72;have i02:AI 0 2=some 0:=rfl;have i12:AI 1 2=some 1:=rfl;have hwn:IntKind.i64.wrap (-1000000) = -1000000:=rfl;have this:=ih (i+1) (by omega) (by omega);generalize (f i).num=a at *;generalize (f i).den=b at *;have c1:¬(a < -1000000):=by omega
  have c2:¬(1000000<a):=by omega
  have c3:¬((b:Int)<1):=by omega
  have c4:¬(1000000<(b:Int)):=by omega
  unfold Lc30l2;simp[ln,hi,ix,i02,i12,x1,x2,hwn,c1,c2,c3,c4,opC,Aw,Bp,r72,hw];simpa using this
theorem Jn(h:FrL rows x f m)(hm:m<=1000000)(hv:∀i,i<m->(f i).num.natAbs<=1000000/\(f i).den<=1000000):Ret F 30 [x,.int .i64 m] rows=some (.bool true,rows,none):=by
 have:=RG h hm hv m 0 rfl (AcX _);refine i30 F30 ?_;simp;simpa using this
end
def mp(M:Nat):Nat->Nat->Nat
 |0,_=>1
 |k+1,s=>(List.range (M+1)).foldl (fun b d=>if d<=s then max b (d*mp M k (s-d))else b) 0
theorem II{p:Nat->Bool}{g:Nat->Nat}:∀{l:List Nat} {b d:Nat},(d∈l->p d=true->g d<=l.foldl (fun b d=>if p d=true then max b (g d)else b) b)/\b<=l.foldl (fun b d=>if p d=true then max b (g d)else b) b
 |[],b,d=>⟨fun h=>absurd h (by simp),AcE _⟩
 |
  a::l,b,d=>by
  obtain⟨h1,h2⟩:=II (p:=p) (g:=g) (l:=l) (b:=if p a=true then max b (g a)else b) (d:=d);rw[Aek];refine⟨fun hm hp=>?_,AcP (by split<;>omega) h2⟩;rcases Ade.1 hm with rfl|hm
  ·rw[if_pos hp]at h2 ⊢
   exact AcP (by omega) h2
  ·exact h1 hm hp
theorem TL{M k s d:Nat}(h1:d<=M)(h2:d<=s):d*mp M k (s-d)<=mp M (k+1) s:=by
 have:=(II (p:=fun d=>decide (d<=s)) (g:=fun d=>d*mp M k (s-d)) (l:=List.range (M+1)) (b:=0) (d:=d)).1 (Adm.2 (by omega)) (by simpa using h2);simp only[decide_eq_true_eq]at this;exact this
theorem YH:((List.range 6).all fun M=>(List.range 6).all fun k=>decide (mp M k (20-M)<=324))=true:=by decide +kernel
theorem Aa6{M k:Nat}(h:M<=5)(hk:k<=5):mp M k (20-M)<=324:=by
 have h1:=AcT.1 YH M (Adm.2 (by omega));have h2:=AcT.1 h1 k (Adm.2 (by omega));exact of_decide_eq_true h2
section
variable {g D:Nat->Nat}
def pNn(g D:Nat->Nat):Nat->Nat
 |0=>1
 |n+1=>pNn g D n*if g n=n then 1 else D n
def sNn(g D:Nat->Nat):Nat->Nat
 |0=>0
 |n+1=>sNn g D n+if g n=n then 0 else D n
theorem Pg{M:Nat}:∀n s,(∀v,v<n->D v<=M)->sNn g D n<=s->pNn g D n<=mp M (nrs g n).length s
 |0,s,_,_=>AcE _
 |
  n+1,s,hM,hs=>by
  rw[sNn]at hs;rw[pNn,Ij]
  by_cases c:g n=n
  ·rw[if_pos c]at hs ⊢
   rw[if_pos c,Add,AcV];exact Pg n s (fun v hv=>hM v (by omega)) (by omega)
  ·rw[if_neg c]at hs ⊢
   rw[if_neg c,AcO];have ih:=Pg n (s-D n) (fun v hv=>hM v (by omega)) (by omega);have:=TL (M:=M) (k:=(nrs g n).length) (s:=s) (d:=D n) (hM n (by omega)) (by omega);refine AcP ?_ this;rw[AdR];exact Aet _ ih
theorem LK{r:Nat}(hr:g r=r):∀n,sNn g D n+(if r<n then D r else 0)<=ns n D
 |0=>by simp[sNn,ns]
 |
  n+1=>by
  have ih:=LK hr n;rw[sNn,ns]
  by_cases c:n=r
  ·subst c
   rw[if_neg (by omega)]at ih;rw[if_pos hr,if_pos (by omega)];omega
  ·by_cases c2:r<n
   ·rw[if_pos c2]at ih
    rw[if_pos (show r<n+1 by omega)]
    split<;>omega
   ·rw[if_neg c2]at ih
    rw[if_neg (show ¬r<n+1 by omega)]
    split<;>omega
theorem JY:∀n,prQ (nrs g n).length (fun i=>(((D ((nrs g n)[i]?.getD 0):Nat):Int):Rat))=((pNn g D n:Int):Rat)
 |0=>rfl
 |
  n+1=>by
  rw[Ij,pNn]
  by_cases c:g n=n
  ·rw[if_pos c,if_pos c,AcV,Add]
   exact JY n
  ·rw[if_neg c,if_neg c,AcO]
   show prQ ((nrs g n).length+1) _=_;rw[prQ];have e1:prQ (nrs g n).length (fun i=>(((D ((nrs g n++[n])[i]?.getD 0):Nat):Int):Rat))=prQ (nrs g n).length (fun i=>(((D ((nrs g n)[i]?.getD 0):Nat):Int):Rat)):=by
    have hh:∀{f k:Nat->Rat} (m:Nat),(∀i,i<m->f i=k i)->prQ m f=prQ m k:=fun{f k} m=>by
     induction m with
     |zero=>exact fun _=>rfl
     |succ m ih=>exact fun h=>by rw[prQ,prQ,ih fun i hi=>h i (by omega),h m (by omega)]
    exact hh _ fun i hi=>by rw[AcD hi]
   rw[e1,JY n,AcG (AcE _),Ac8,Adg,Adi]
   rfl
end
section
variable {N:Nat}{ks ps:List Nat}
theorem ST(hok:GOK N ks ps):∀i,i<=ks.length->ns N (fun v=>dg ks v i)<=2*i
 |
  0,_=>by
  have:ns N (fun v=>dg ks v 0)=N*0:=by rw[<-DU];rfl
  omega
 |
  i+1,hi=>by
  have ih:=ST hok i (by omega);have hee:=hok.ee _ (AH (show i<ks.length by omega));have h2:=OV (k:=gN ks i) (by omega) N;have e:ns N (fun v=>dg ks v (i+1))=ns N (fun v=>dg ks v i)+ns N fun v=>(dd (gN ks i) v).natAbs:=by
   rw[<-Pw]
   rfl
  rw[e]
  split at h2<;>split at h2<;>omega
def mxd(ks:List Nat)(f:Nat->Nat)(w:Nat):Nat->Nat
 |0=>w
 |i+1=>if f i=w/\dg ks (mxd ks f w i) ks.length<dg ks i ks.length then i else mxd ks f w i
theorem S3{f:Nat->Nat}{w:Nat}(hw:f w=w):∀i,f (mxd ks f w i)=w/\(mxd ks f w i=w\/mxd ks f w i<i)/\∀u,u<i->f u=w->dg ks u ks.length<=dg ks (mxd ks f w i) ks.length
 |0=>⟨hw,.inl rfl,fun u hu=>absurd hu (by omega)⟩
 |
  i+1=>by
  obtain⟨h1,h2,h3⟩:=S3 hw i;rw[mxd]
  by_cases c:f i=w/\dg ks (mxd ks f w i) ks.length<dg ks i ks.length
  ·rw[if_pos c]
   refine⟨c.1,.inr (by omega),fun u hu hf=>?_⟩
   by_cases e:u=i
   ·rw[e];exact AcE _
   ·have:=h3 u (by omega) hf
    omega
  ·rw[if_neg c]
   refine⟨h1,?_,fun u hu hf=>?_⟩
   ·rcases h2 with e|e
    ·exact .inl e
    ·exact .inr (by omega)
   ·by_cases e:u=i
    ·subst e
     exact Nat.le_of_not_lt fun h=>c ⟨hf,h⟩
    ·exact h3 u (by omega) hf
def gm(ks:List Nat)(N v:Nat):Nat:=mxd ks (fo ks N) (fo ks N v) N
theorem XB(hok:GOK N ks ps){v:Nat}(hv:v<N):gm ks N v<N/\fo ks N (gm ks N v)=fo ks N v/\gm ks N (gm ks N v)=gm ks N v/\∀u,u<N->fo ks N u=fo ks N v->dg ks u ks.length<=dg ks (gm ks N v) ks.length:=by
 obtain⟨f1,f2⟩:=Iw hok hv;have hfN:=MK hok f1 hv;obtain⟨h1,h2,h3⟩:=S3 (ks:=ks) ((HP hok hfN).2 f2) N;refine⟨?_,h1,?_,h3⟩
 ·rcases h2 with e|e
  ·unfold gm;rw[e];exact hfN
  ·exact e
 ·show mxd ks (fo ks N) (fo ks N (gm ks N v)) N=gm ks N v
  rw[show fo ks N (gm ks N v)=fo ks N v from h1]
  rfl
theorem W4{D:Nat->Nat}:∀n,0<n->∃r,r<n/\∀v,v<n->D v<=D r
 |
  n+1,_=>by
  by_cases c:n=0
  ·subst c
   exact⟨0,by omega,fun v hv=>by rw[show v=0 by omega];exact AcE _⟩
  ·obtain⟨r,hr,h⟩:=W4 (D:=D) n (by omega)
   by_cases c2:D r<D n
   ·exact⟨n,by omega,fun v hv=>by
     by_cases e:v=n
     ·rw[e];exact AcE _
     ·have:=h v (by omega);omega⟩
   ·exact⟨r,by omega,fun v hv=>by
     by_cases e:v=n
     ·rw[e];omega
     ·exact h v (by omega)⟩
theorem WO(hok:GOK N ks ps):pNn (gm ks N) (fun v=>dg ks v ks.length) N<=324:=by
 obtain⟨r,hr,hmax⟩:=W4 (D:=fun v=>dg ks v ks.length) N hok.n1;obtain⟨g1,g2,g3,g4⟩:=XB hok hr;have hM:=Od hok g1;have h1:=g4 r hr rfl;have hmx:∀v,v<N->dg ks v ks.length<=dg ks (gm ks N r) ks.length:=fun v hv=>AcP (hmax v hv) h1
 have hs:=LK (g:=gm ks N) (D:=fun v=>dg ks v ks.length) g3 N;rw[if_pos g1]at hs;have ha:=ST hok ks.length (AcE _);have hek:=hok.ek;have h6:=hok.n6;have hlen:∀n,n<=N->(nrs (gm ks N) n).length+(if gm ks N r<n then 1 else 0)<=n:=fun n=>by
  induction n with
  |zero=>exact fun _=>by simp[nrs]
  |succ n ih=>
   intro hn;have ih:=ih (by omega);rw[Ij]
   by_cases e:n=gm ks N r
   ·have e2:gm ks N n=n:=by rw[e];exact g3
    rw[if_pos e2,AcV,if_pos (by omega)];rw[if_neg (by omega)]at ih;omega
   ·by_cases c2:gm ks N r<n
    ·rw[if_pos c2]at ih
     rw[if_pos (show gm ks N r<n+1 by omega)]
     split<;>simp<;>omega
    ·rw[if_neg c2]at ih
     rw[if_neg (show ¬gm ks N r<n+1 by omega)]
     split<;>simp<;>omega
 have hl:=hlen N (AcE _);rw[if_pos g1]at hl
 refine AcP (Pg N (20-dg ks (gm ks N r) ks.length) hmx (by
  show sNn (gm ks N) (fun v=>dg ks v ks.length) N<=_
  omega)) (Aa6 hM (by omega))
end
section
variable {N:Nat}{ks ps:List Nat}{fl:List Int}
theorem Abo(hok:GOK N ks ps)(hl:fl.length=ks.length)(hb:∀x∈fl,-100<=x/\x<=100){h:Nat->Rat}(hd:∀e,e<ks.length->dfl h ks e=dfl (bH ks fl N) ks e){v:Nat}(hv:v<N):oH (fo ks N) h N v=bH ks fl N v:=by
 have hg:∀e,e<ks.length->dfl (oH (fo ks N) h N) ks e=dfl (bH ks fl N) ks e:=fun e he=>by
  rw[<-hd e he];have hfe:=FN hok he;unfold dfl oH;rw[hfe];grind
 have hc:∀u,u<N->fo ks N u=fo ks N v->oH (fo ks N) h N u-bH ks fl N u=oH (fo ks N) h N v-bH ks fl N v:=fun u hu h'=>by
  refine G9 (u:=fun u=>oH (fo ks N) h N u-bH ks fl N u) hok (fun e he=>?_) ((Sc hok hu hv).1 h');have:=hg e he;unfold dfl at this;show oH _ _ _ _-bH _ _ _ _=oH _ _ _ _-bH _ _ _ _;grind
 obtain⟨f1,f2⟩:=Iw hok hv;have hfN:=MK hok f1 hv;have hsum:=OF hok hl hb hfN ((HP hok hfN).2 f2);have hpos:=I3 (f:=fo ks N) (w:=fo ks N v) rfl N hv;have hC:=X6 (f:=fo ks N) (w:=fo ks N v) N;have hCne:((cP (fo ks N) (fo ks N v) N:Int):Rat)≠0:=fun e=>by
  have:=DW (a:=(cP (fo ks N) (fo ks N v) N:Int)) (b:=0) e;omega
 generalize hCC:((cP (fo ks N) (fo ks N v) N:Int):Rat)=C at *;have h1:su N (fun u=>if fo ks N u=fo ks N v then oH (fo ks N) h N u else 0)=0:=by
  have e1:su N (fun u=>if fo ks N u=fo ks N v then oH (fo ks N) h N u else 0)=su N (fun u=>if fo ks N u=fo ks N v then h u else 0)-su N fun u=>(sP (fo ks N) h (fo ks N v) N/C)*(if fo ks N u=fo ks N v then 1 else 0):=by
   rw[<-CB];refine Aa fun u hu=>?_
   by_cases c:fo ks N u=fo ks N v
   ·rw[if_pos c,if_pos c,if_pos c]
    unfold oH;rw[c,hCC];grind
   ·rw[if_neg c,if_neg c,if_neg c]
    grind
  rw[e1,AR,<-hC];show sP (fo ks N) h (fo ks N v) N-_=0;rw[Rat.div_mul_cancel hCne];grind
 have h2:su N (fun u=>if fo ks N u=fo ks N v then bH ks fl N u else 0)=0:=by
  refine Eq.trans (Aa fun u hu=>?_) hsum;unfold Db
  by_cases c:fo ks N u=fo ks N v
  ·rw[if_pos c,if_pos ⟨hu,c⟩];grind
  ·rw[if_neg c,if_neg (fun h=>c h.2)];grind
 have h3:(oH (fo ks N) h N v-bH ks fl N v)*C=0:=by
  rw[hC,<-AR];have e1:su N (fun u=>(oH (fo ks N) h N v-bH ks fl N v)*(if fo ks N u=fo ks N v then 1 else 0))=su N (fun u=>if fo ks N u=fo ks N v then oH (fo ks N) h N u else 0)-su N fun u=>if fo ks N u=fo ks N v then bH ks fl N u else 0:=by
   rw[<-CB];refine Aa fun u hu=>?_
   by_cases c:fo ks N u=fo ks N v
   ·rw[if_pos c,if_pos c,if_pos c,<-hc u hu c]
    grind
   ·rw[if_neg c,if_neg c,if_neg c]
    grind
  rw[e1,h1,h2];grind
 rcases AeH.1 h3 with c|c
 ·grind
 ·exact absurd c hCne
theorem AbK(hok:GOK N ks ps)(hl:fl.length=ks.length)(hb:∀x∈fl,-100<=x/\x<=100):∃T:Nat,0<T/\T<=324/\∀v,v<N->whl (bH ks fl N v*(((cP (fo ks N) (fo ks N v) N*T:Nat):Int):Rat)):=by
 have h324:=WO hok;have hprod:=JY (g:=gm ks N) (D:=fun v=>dg ks v ks.length) N;obtain⟨w,hw⟩:∃w:Nat->Nat,w=fun i=>(nrs (gm ks N) N)[i]?.getD 0:=⟨_,rfl⟩
 have hwm:∀i,i<(nrs (gm ks N) N).length->w i<N/\gm ks N (w i)≠w i:=fun i hi=>by
  have hm:w i∈nrs (gm ks N) N:=by
   rw[hw];show(nrs (gm ks N) N)[i]?.getD 0∈_;rw[AcR hi];exact Aer hi
  unfold nrs at hm;obtain⟨h1,h2⟩:=Ad7.1 hm;exact⟨Adm.1 h1,by simpa using h2⟩
 have hinj:∀i j,i<(nrs (gm ks N) N).length->j<(nrs (gm ks N) N).length->w i=w j->i=j:=fun i j hi hj h=>by
  have hnd:(nrs (gm ks N) N).Nodup:=by
   unfold nrs;exact(List.nodup_range).filter _
  rw[hw]at h;simp only[AcR hi,AcR hj]at h;exact(List.getElem_inj hnd).1 h
 have hon:∀u,u<N->gm ks N u≠u->∃i,i<(nrs (gm ks N) N).length/\w i=u:=fun u hu hne=>by
  have hm:u∈nrs (gm ks N) N:=Ad7.2 ⟨Adm.2 hu,by simpa using hne⟩;obtain⟨i,hi,e⟩:=Ad8.1 hm;refine⟨i,hi,?_⟩;rw[hw];show(nrs (gm ks N) N)[i]?.getD 0=u;rw[AcR hi];exact e
 have hprod2:prQ (nrs (gm ks N) N).length (fun i=>(((dg ks (w i) ks.length:Nat):Int):Rat))=((pNn (gm ks N) (fun v=>dg ks v ks.length) N:Int):Rat):=by rw[hw];exact hprod
 generalize (nrs (gm ks N) N).length=K at *
 -- a combination of the rows is the gradient of heights
 let hh:(Nat->Rat)->Nat->Rat:=fun y v=>su K fun i=>y i*(if w i=v then 1 else 0)
 have hgr:∀(y:Nat->Rat) e,e<ks.length->su K (fun i=>y i*dq ks e (w i))=hh y (gN ks e%6)-hh y (gN ks e/6):=fun y e he=>by
  rw[<-JF hok he (hh y)];have e1:su N (fun v=>hh y v*dq ks e v)=su N fun v=>dq ks e v*su K fun i=>y i*(if w i=v then 1 else 0):=Aa fun v _=>AdK _ _
  rw[e1,<-EN (g:=fun v i=>if w i=v then 1 else 0)];refine Aa fun i hi=>?_
  congr 1;rw[CI (hwm i hi).1 fun v _ hne=>by rw[if_neg fun h=>hne h.symm];grind,if_pos rfl];grind
 have hhw:∀(y:Nat->Rat) i,i<K->hh y (w i)=y i:=fun y i hi=>by
  show su K (fun j=>y j*(if w j=w i then 1 else 0))=y i;rw[CI hi fun j hj hne=>by rw[if_neg fun h=>hne (hinj j i hj hi h)];grind,if_pos rfl];grind
 have hhr:∀(y:Nat->Rat) v,gm ks N v=v->hh y v=0:=fun y v hv=>by
  show su K (fun j=>y j*(if w j=v then 1 else 0))=0;refine GM fun j hj=>?_
  rw[if_neg fun h=>(hwm j hj).2 (by rw[h];exact hv)];grind
 obtain⟨V,hV⟩:∃V:Nat->Nat->Rat,V=fun i e=>dq ks e (w i):=⟨_,rfl⟩
 have hVd:∀i e,V i e=dq ks e (w i):=fun i e=>by rw[hV]
 have hind:∀y:Nat->Rat,(∀e,e<ks.length->su K (fun i=>y i*V i e)=0)->∀i,i<K->y i=0:=fun y h i hi=>by
  have hconst:∀e,e<ks.length->hh y (gN ks e%6)=hh y (gN ks e/6):=fun e he=>by
   have:=h e he;rw[Aa (g:=fun i=>y i*dq ks e (w i)) fun i _=>by rw[hVd],hgr y e he]at this;grind
  obtain⟨n1,n2⟩:=hwm i hi;obtain⟨g1,g2,g3,_⟩:=XB hok n1;have hcn:=(Sc hok n1 g1).1 g2.symm;rw[<-hhw y i hi,G9 hok hconst hcn,hhr y _ g3]
 have hne:=Yx (V:=V) (w:=ks.length) K (fun i hi c hc=>by
  have:=hind (fun j=>if j<i then-c j else if j=i then 1 else 0) (fun e he=>by
   have e1:K=i+(1+(K-i-1)):=by omega
   rw[e1,DV,DV,Aa (n:=i) (g:=fun j=>-1*(c j*V j e)) fun j hj=>by rw[if_pos hj];grind,AR,GM (n:=K-i-1) fun j _=>by rw[if_neg (by omega),if_neg (by omega)];grind];have e2:su 1 (fun j=>(if i+j<i then-c (i+j)else if i+j=i then 1 else 0)*V (i+j) e)=V i e:=by
    show 0+(if i+0<i then _ else if i+0=i then(1:Rat)else 0)*V (i+0) e=_;rw[Aeq,if_neg (by omega),if_pos rfl];grind
   rw[e2,hc e he]
   grind) i hi
  simp at this)
 obtain⟨hnn,hle⟩:=S8 (V:=V) (w:=ks.length) K;have hwV:∀i e,whl (V i e):=fun i e=>by rw[hVd];exact⟨_,rfl⟩
 have hwG:∀i j,whl (gr V ks.length i j):=fun i j=>FG fun e _=>By (hwV i e) (hwV j e)
 have hbd:prQ K (fun i=>gr V ks.length i i)<=prQ K fun i=>(((dg ks (w i) ks.length:Nat):Int):Rat):=Tj fun i hi=>by
  refine⟨CX _,?_⟩;have e1:gr V ks.length i i=((zL ks (w i) ks.length (w i):Int):Rat):=by
   rw[RA];exact Aa fun e _=>by rw[hVd]
  rw[e1,Ada];have:=VE (ks:=ks) (v:=w i) (j:=w i) ks.length;omega
 obtain⟨n,hn⟩:=JD (k:=K) (a:=gr V ks.length) fun r s _ _=>hwG r s
 have hle2:=AeG hle hbd;rw[hprod2]at hle2;rw[hn]at hnn hle2 hne;have hn0:n≠0:=fun e=>hne (by rw[e];rfl)
 have hn1:0<=n:=by rw[show(0:Rat)=((0:Int):Rat)from rfl,Ada]at hnn;exact hnn
 rw[Ada]at hle2
 -- the flow on the rows
 obtain⟨A,hA⟩:∃A:Nat->Nat->Rat,A=fun j i=>if i<K then gr V ks.length j i else su ks.length fun e=>V j e*fq fl e:=⟨_,rfl⟩
 have hsol:=CV (A:=A) (n:=K) (cols:=K) (fun y h=>by
  have hz:=SK (S:=V) (G:=gr V ks.length) (n:=K) (w:=ks.length) (fun i j _ _=>rfl) (y:=y) (fun j hj=>by
   refine Eq.trans (Aa fun r _=>?_) (h j hj);rw[hA];show _=y r*(if j<K then gr V ks.length r j else _)
   rw[if_pos hj])
  have e1:su K (fun r=>y r*A r K)=su K fun r=>y r*su ks.length fun e=>V r e*fq fl e:=Aa fun r _=>by
   rw[hA];show y r*(if K<K then _ else _)=_;rw[if_neg (by omega)]
  rw[e1,EN (g:=fun e r=>V r e)]
  exact GM fun e he=>by rw[hz e he];grind)
 obtain⟨y,hy⟩:∃y,y=xs (gjR A K K) K:=⟨_,rfl⟩
 rw[<-hy]at hsol;have hs:∀j,j<K->su K (fun i=>y i*gr V ks.length i j)=su ks.length fun e=>V j e*fq fl e:=fun j hj=>by
  have:=hsol j hj;rw[hA]at this;simp only[if_neg (Nat.lt_irrefl K)]at this;rw[<-this];refine Aa fun i hi=>?_
  rw[if_pos hi,AdK,KW]
 have hPd:∀e,e<ks.length->su K (fun i=>y i*V i e)=dfl (hh y) ks e:=fun e he=>by
  rw[Aa (g:=fun i=>y i*dq ks e (w i)) fun i _=>by rw[hVd],hgr y e he]
  rfl
 have hx:∀j,j<K->su ks.length (fun e=>dq ks e (w j)*(fq fl e-dfl (hh y) ks e))=0:=fun j hj=>by
  have e1:su ks.length (fun e=>dq ks e (w j)*(fq fl e-dfl (hh y) ks e))=su ks.length (fun e=>V j e*fq fl e)-su ks.length fun e=>V j e*su K fun i=>y i*V i e:=by
   rw[<-CB];exact Aa fun e he=>by rw[hPd e he,hVd];grind
  have e2:su ks.length (fun e=>V j e*su K fun i=>y i*V i e)=su K fun i=>y i*gr V ks.length i j:=by
   rw[<-EN (g:=fun e i=>V i e)];exact Aa fun i _=>rfl
  rw[e1,e2,hs j hj];grind
 have hall:∀v,v<N->su ks.length (fun e=>dq ks e v*(fq fl e-dfl (hh y) ks e))=0:=fun v hv=>by
  have hnr:∀u,u<N->gm ks N u≠u->su ks.length (fun e=>dq ks e u*(fq fl e-dfl (hh y) ks e))=0:=fun u hu hne=>by
   obtain⟨i,hi,e⟩:=hon u hu hne;rw[<-e];exact hx i hi
  by_cases c:gm ks N v=v
  ·have h0:su N (fun u=>(if fo ks N u=fo ks N v then(1:Rat)else 0)*su ks.length fun e=>dq ks e u*(fq fl e-dfl (hh y) ks e))=0:=by
    rw[EN];refine GM fun e he=>?_
    rw[JF hok he (fun u=>if fo ks N u=fo ks N v then(1:Rat)else 0),FN hok he];grind
   rw[CI hv fun u hu hne=>by
    by_cases c2:fo ks N u=fo ks N v
    ·rw[hnr u hu (fun e=>hne (by
      have:gm ks N u=gm ks N v:=by unfold gm;rw[c2]
      rw[<-e,this,c]))]
     grind
    ·rw[if_neg c2];grind,if_pos rfl]at h0
   grind
  ·exact hnr v hv c
 have hdfl:∀e,e<ks.length->dfl (hh y) ks e=dfl (bH ks fl N) ks e:=fun e he=>XS hok (fun v hv=>by
  have h1:=hall v hv;have h2:=JB hok hl hb hv;have e1:su ks.length (fun e=>dq ks e v*(fq fl e-dfl (hh y) ks e))=su ks.length (fun e=>dq ks e v*fq fl e)-su ks.length fun e=>dq ks e v*dfl (hh y) ks e:=by
   rw[<-CB];exact Aa fun e _=>by grind
  rw[e1]at h1;have h3:su ks.length (fun e=>dq ks e v*dfl (bH ks fl N) ks e)=su ks.length fun e=>dq ks e v*fq fl e:=h2
  rw[h3]
  grind) he
 -- whole when multiplied
 have hyw:∀t,t<K->whl (y t*(n:Rat)):=fun t ht=>by
  have:=PZ (k:=K) (a:=gr V ks.length) (v:=fun j=>su ks.length fun e=>V j e*fq fl e) (x:=y) (fun s hs'=>(hs s hs').symm) ht;rw[hn]at this;rw[this];refine JD fun r s _ _=>?_
  unfold upd
  split
  ·exact FG fun e _=>By (hwV s e) ⟨_,rfl⟩
  ·exact hwG r s
 have hhh:∀v,whl (hh y v*(n:Rat)):=fun v=>by
  have e1:hh y v*(n:Rat)=su K fun i=>(y i*(n:Rat))*(if w i=v then 1 else 0):=by
   show(su K fun i=>y i*(if w i=v then 1 else 0))*(n:Rat)=_;rw[AdK,<-AR];exact Aa fun i _=>by grind
  rw[e1];refine FG fun i hi=>By (hyw i hi) ?_
  split
  ·exact⟨1,rfl⟩
  ·exact⟨0,rfl⟩
 refine⟨n.toNat,by omega,by omega,fun v hv=>?_⟩;rw[<-Abo hok hl hb hdfl hv];have hpos:=I3 (f:=fo ks N) (w:=fo ks N v) rfl N hv;have hCne:((cP (fo ks N) (fo ks N v) N:Int):Rat)≠0:=fun e=>by
  have:=DW (a:=(cP (fo ks N) (fo ks N v) N:Int)) (b:=0) e;omega
 rw[Adg,Adi,show((n.toNat:Nat):Int)=n by omega];have e1:oH (fo ks N) (hh y) N v*(((cP (fo ks N) (fo ks N v) N:Nat):Int)*(n:Rat))=(hh y v*(n:Rat))*((cP (fo ks N) (fo ks N v) N:Int):Rat) + -1*(sP (fo ks N) (hh y) (fo ks N v) N*(n:Rat)):=by
  unfold oH;generalize hC:((cP (fo ks N) (fo ks N v) N:Int):Rat)=C at *;have:=Rat.div_mul_cancel (a:=sP (fo ks N) (hh y) (fo ks N v) N) hCne;generalize sP (fo ks N) (hh y) (fo ks N v) N/C=z at *;rw[<-this];grind
 rw[e1];refine Hi (By (hhh v) ⟨_,rfl⟩) (By ⟨-1,rfl⟩ ?_);have e2:sP (fo ks N) (hh y) (fo ks N v) N*(n:Rat)=su N fun u=>(hh y u*(n:Rat))*(if fo ks N u=fo ks N v then 1 else 0):=by
  unfold sP;rw[AdK,<-AR];refine Aa fun u _=>?_
  split<;>grind
 rw[e2];refine FG fun u _=>By (hhh u) ?_
 split
 ·exact⟨1,rfl⟩
 ·exact⟨0,rfl⟩
end
theorem S9{f:Nat->Rat}:∀{n:Nat},(∀i,i<n->0<=f i)->0<=su n f
 |0,_=>Rat.le_refl
 |
  n+1,h=>by
  have h1:=S9 (f:=f) (n:=n) fun i hi=>h i (by omega)
  have h2:=h n (by omega);show 0<=su n f+f n;grind
theorem P2{f:Nat->Rat}:∀{n:Nat},(∀i,i<n->0<=f i)->su n f=0->∀i,i<n->f i=0
 |0,_,_,i,hi=>by omega
 |
  n+1,h,h0,i,hi=>by
  have h1:=S9 (f:=f) (n:=n) fun i hi=>h i (by omega)
  have h2:=h n (by omega);have h3:su n f+f n=0:=h0
  by_cases c:i=n
  ·subst c;grind
  ·exact P2 (n:=n) (fun i hi=>h i (by omega)) (by grind) i (by omega)
def cQ2(p:Nat->Bool):Nat->Nat
 |0=>0
 |n+1=>cQ2 p n+if p n=true then 1 else 0
theorem SQ{p:Nat->Bool}:∀n,cQ2 p n<=n
 |0=>AcE _
 |
  n+1=>by
  have:=SQ (p:=p) n;rw[cQ2]
  split<;>omega
theorem K0{p q:Nat->Bool}(h:∀v,p v=true->q v=true):∀n,cQ2 p n<=cQ2 q n
 |0=>AcE _
 |
  n+1=>by
  have ih:=K0 h n;rw[cQ2,cQ2]
  by_cases c:p n=true
  ·rw[if_pos c,if_pos (h n c)];omega
  ·rw[if_neg c];omega
theorem HQ{p q:Nat->Bool}(h:∀v,p v=true->q v=true){u:Nat}(h1:p u=false)(h2:q u=true):∀n,u<n->cQ2 p n+1<=cQ2 q n
 |
  n+1,hu=>by
  rw[cQ2,cQ2]
  by_cases c:u=n
  ·subst c
   have:=K0 h u;rw[if_neg (by rw[h1];simp),if_pos h2];omega
  ·have ih:=HQ h h1 h2 n (by omega)
   by_cases c2:p n=true
   ·rw[if_pos c2,if_pos (h n c2)];omega
   ·rw[if_neg c2];omega
theorem NN{p:Nat->Bool}:∀n,n<=cQ2 p n->∀v,v<n->p v=true
 |
  n+1,h,v,hv=>by
  have:=SQ (p:=p) n;rw[cQ2]at h
  by_cases c:p n=true
  ·by_cases e:v=n
   ·rw[e];exact c
   ·rw[if_pos c]at h
    exact NN n (by omega) v (by omega)
  ·rw[if_neg c]at h
   omega
section
variable {N:Nat}{ks ps:List Nat}{fl:List Int}
def lvS(ks:List Nat)(fl:List Int)(N v k u:Nat):Bool:=decide (fo ks N u=fo ks N v)&&decide (bH ks fl N v-(((100*k:Nat):Int):Rat)<=bH ks fl N u)
theorem lvS_iff{v k u:Nat}:lvS ks fl N v k u=true↔fo ks N u=fo ks N v/\bH ks fl N v-(((100*k:Nat):Int):Rat)<=bH ks fl N u:=by
 unfold lvS;rw[Ac3,decide_eq_true_eq,decide_eq_true_eq]
theorem OH{k:Nat}:(((100*(k+1):Nat):Int):Rat)=(((100*k:Nat):Int):Rat)+100:=by
 rw[show 100*(k+1)=100*k+100 by omega,Int.natCast_add,AdY]
 rfl
theorem YW(hl:fl.length=ks.length)(hb:∀x∈fl,-100<=x/\x<=100){e:Nat}(he:e<ks.length) : -100<=fq fl e/\fq fl e<=100:=by
 have:=NR hl hb e he;unfold fq;refine⟨?_,?_⟩
 ·rw[show(-100:Rat)=((-100:Int):Rat)from rfl,Ada];omega
 ·rw[show(100:Rat)=((100:Int):Rat)from rfl,Ada];omega
theorem Ur(hok:GOK N ks ps)(hl:fl.length=ks.length)(hb:∀x∈fl,-100<=x/\x<=100){v k:Nat}(hv:v<N)(hn:∃u,u<N/\fo ks N u=fo ks N v/\lvS ks fl N v k u=false):
  ∃u,u<N/\lvS ks fl N v k u=false/\lvS ks fl N v (k+1) u=true:=by
 obtain⟨u0,hu0,hf0,hs0⟩:=hn;apply Classical.byContradiction;intro hno;have hgap:∀u,u<N->lvS ks fl N v k u=false->fo ks N u=fo ks N v->bH ks fl N u<bH ks fl N v-(((100*k:Nat):Int):Rat)-100:=fun u hu h1 h2=>by
  apply Rat.not_le.1;intro hle;refine hno ⟨u,hu,h1,lvS_iff.2 ⟨h2,?_⟩⟩;rw[OH];grind
 let φ:Nat->Rat:=fun w=>if lvS ks fl N v k w=true then 1 else 0
 let t:Nat->Rat:=fun e=>(dfl (bH ks fl N) ks e-fq fl e)*(φ (gN ks e%6)-φ (gN ks e/6))
 have hsum:su ks.length t=0:=by
  have h0:su N (fun w=>φ w*su ks.length fun e=>dq ks e w*(dfl (bH ks fl N) ks e-fq fl e))=0:=GM fun w hw=>by
   have h2:=JB hok hl hb hw;have e1:su ks.length (fun e=>dq ks e w*(dfl (bH ks fl N) ks e-fq fl e))=su ks.length (fun e=>dq ks e w*pt0 ks fl N e)-su ks.length fun e=>dq ks e w*fq fl e:=by
    rw[<-CB];exact Aa fun e _=>by unfold pt0;grind
   rw[e1,h2];grind
  rw[EN]at h0;rw[<-h0];exact Aa fun e he=>by rw[JF hok he φ]
 have hcr:∀e,e<ks.length->(φ (gN ks e%6)=φ (gN ks e/6)/\t e=0)\/0<t e:=fun e he=>by
  have hee:=hok.ee _ (AH he);have hfe:=FN hok he;obtain⟨b1,b2⟩:=YW hl hb he;have hd:dfl (bH ks fl N) ks e=bH ks fl N (gN ks e%6)-bH ks fl N (gN ks e/6):=rfl;show(φ (gN ks e%6)=φ (gN ks e/6)/\(dfl (bH ks fl N) ks e-fq fl e)*(φ (gN ks e%6)-φ (gN ks e/6))=0)\/0<(dfl (bH ks fl N) ks e-fq fl e)*(φ (gN ks e%6)-φ (gN ks e/6));rw[hd];have hA:gN ks e/6<N:=by omega
  have hB:=hee.2;generalize gN ks e%6=B at *;generalize gN ks e/6=A at *
  by_cases cB:lvS ks fl N v k B=true
  ·by_cases cA:lvS ks fl N v k A=true
   ·left
    show(if _ then(1:Rat)else 0)=(if _ then(1:Rat)else 0)/\_*((if _ then(1:Rat)else 0)-(if _ then(1:Rat)else 0))=0;rw[if_pos cA,if_pos cB];exact⟨rfl,by grind⟩
   ·right
    obtain⟨q1,q2⟩:=lvS_iff.1 cB;have cA':lvS ks fl N v k A=false:=by simpa using cA
    have:=hgap A hA cA' (by rw[<-hfe];exact q1);show 0<_*((if _ then(1:Rat)else 0)-(if _ then(1:Rat)else 0));rw[if_neg cA,if_pos cB];grind
  ·by_cases cA:lvS ks fl N v k A=true
   ·right
    obtain⟨q1,q2⟩:=lvS_iff.1 cA;have cB':lvS ks fl N v k B=false:=by simpa using cB
    have:=hgap B hB cB' (by rw[hfe];exact q1);show 0<_*((if _ then(1:Rat)else 0)-(if _ then(1:Rat)else 0));rw[if_pos cA,if_neg cB];grind
   ·left
    show(if _ then(1:Rat)else 0)=(if _ then(1:Rat)else 0)/\_*((if _ then(1:Rat)else 0)-(if _ then(1:Rat)else 0))=0;rw[if_neg cA,if_neg cB];exact⟨rfl,by grind⟩
 have hz:=P2 (f:=t) (fun e he=>by
  rcases hcr e he with h|h
  ·rw[h.2];exact Rat.le_refl
  ·exact Rat.le_of_lt h) hsum
 have hconst:=G9 (u:=φ) hok (fun e he=>by
  rcases hcr e he with h|h
  ·exact h.1
  ·have:=hz e he
   rw[this]at h
   exact absurd h (by decide)) ((Sc hok hv hu0).1 hf0.symm)
 have e1:φ v=1:=if_pos (lvS_iff.2 ⟨rfl,by
  have:(0:Rat)<=(((100*k:Nat):Int):Rat):=by rw[show(0:Rat)=((0:Int):Rat)from rfl,Ada];omega
  grind⟩)
 have e2:φ u0=0:=if_neg (by rw[hs0];simp);rw[e1,e2]at hconst;exact absurd hconst (by decide)
theorem Sq(hok:GOK N ks ps)(hl:fl.length=ks.length)(hb:∀x∈fl,-100<=x/\x<=100){v:Nat}(hv:v<N):∀k,(∀u,u<N->fo ks N u=fo ks N v->lvS ks fl N v k u=true)\/k+1<=cQ2 (lvS ks fl N v k) N
 |
  0=>by
  right
  have h1:lvS ks fl N v 0 v=true:=lvS_iff.2 ⟨rfl,by
   have:(((100*0:Nat):Int):Rat)=0:=rfl;rw[this]
   grind⟩
  have h0:cQ2 (fun _=>false) N=0:=by
   have:∀n,cQ2 (fun _=>false) n=0:=fun n=>by
    induction n with
    |zero=>rfl
    |succ n ih=>rw[cQ2,ih];simp
   exact this N
  have:=HQ (p:=fun _=>false) (q:=lvS ks fl N v 0) (fun _ h=>absurd h (by simp)) (u:=v) rfl h1 N hv;omega
 |
  k+1=>by
  have hsub:∀u,lvS ks fl N v k u=true->lvS ks fl N v (k+1) u=true:=fun u h=>by
   obtain⟨h1,h2⟩:=lvS_iff.1 h;refine lvS_iff.2 ⟨h1,?_⟩;rw[OH];grind
  rcases Sq hok hl hb hv k with h|h
  ·exact .inl fun u hu hf=>hsub u (h u hu hf)
  ·by_cases c:∃u,u<N/\fo ks N u=fo ks N v/\lvS ks fl N v k u=false
   ·obtain⟨u,hu,h1,h2⟩:=Ur hok hl hb hv c
    have:=HQ hsub h1 h2 N hu;exact .inr (by omega)
   ·exact .inl fun u hu hf=>hsub u (by
     cases h:lvS ks fl N v k u with
     |true=>rfl
     |false=>exact absurd ⟨u,hu,hf,h⟩ c)
theorem KG(hok:GOK N ks ps)(hl:fl.length=ks.length)(hb:∀x∈fl,-100<=x/\x<=100){v u:Nat}(hv:v<N)(hu:u<N)(hf:fo ks N u=fo ks N v):bH ks fl N v-500<=bH ks fl N u:=by
 have h6:=hok.n6;have h:lvS ks fl N v 5 u=true:=by
  rcases Sq hok hl hb hv 5 with h|h
  ·exact h u hu hf
  ·exact NN N (by omega) u hu
 exact(lvS_iff.1 h).2
theorem Xt(hok:GOK N ks ps)(hl:fl.length=ks.length)(hb:∀x∈fl,-100<=x/\x<=100){v:Nat}(hv:v<N) : -500<=bH ks fl N v/\bH ks fl N v<=500:=by
 obtain⟨f1,f2⟩:=Iw hok hv;have hfN:=MK hok f1 hv;have hsum:=OF hok hl hb hfN ((HP hok hfN).2 f2);have e1:∀s:Rat,s*s=1->(∀u,u<N->fo ks N u=fo ks N v->0<=s*bH ks fl N u)->s*bH ks fl N v=0:=fun s hs h=>by
  have h0:su N (fun j=>s*(Db (fo ks N) (fo ks N v) N j*bH ks fl N j))=0:=by rw[AR,hsum];grind
  have:=P2 (fun j hj=>by
   unfold Db
   by_cases c:j<N/\fo ks N j=fo ks N v
   ·rw[if_pos c]
    have:=h j hj c.2;grind
   ·rw[if_neg c]
    grind) h0 v hv
  unfold Db at this;rw[if_pos ⟨hv,rfl⟩]at this;grind
 constructor
 ·apply Rat.not_lt.1
  intro hlt
  have:=e1 (-1) (by grind) (fun u hu hf=>by
   have:=KG hok hl hb hu hv hf.symm
   grind)
  grind
 ·apply Rat.not_lt.1
  intro hlt
  have:=e1 1 (by grind) (fun u hu hf=>by
   have:=KG hok hl hb hv hu hf
   grind)
  grind
end
theorem LE{q:Rat}{L B:Nat}(h:dn q L B):q.num.natAbs<=B/\q.den<=L:=by
 have h1:=Aep h.L0 h.d;refine⟨?_,h1⟩;have hb:=h.b;unfold sc at hb;have hq:=q.den_pos;have:1<=L/q.den:=(Nat.le_div_iff_mul_le hq).2 (by omega);exact Iz hb (by omega)
theorem YB{q:Rat}{L B b:Nat}(h:dn q L B)(h0 : -((b:Int):Rat)<=q)(hb:q<=((b:Int):Rat)):dn q L (b*L):=by
 by_cases c:0<=q
 ·exact QK h c hb
 ·have hn:0 <= -q:=by have:=Rat.not_le.1 c;grind
  have:=KD (QK (b:=b) (KD h) hn (by grind));have e : - -q=q:=by grind
  rwa[e]at this
section
variable {N:Nat}{ks ps:List Nat}{fl:List Int}
theorem YK(hok:GOK N ks ps)(hl:fl.length=ks.length)(hb:∀x∈fl,-100<=x/\x<=100){v:Nat}(hv:v<N):(bH ks fl N v).num.natAbs<=1000000/\(bH ks fl N v).den<=1000000:=by
 obtain⟨T,h0,hT,hw⟩:=AbK hok hl hb;obtain⟨h1,h2⟩:=Xt hok hl hb hv;have hpos:=I3 (f:=fo ks N) (w:=fo ks N v) rfl N hv;have hle:=TU (f:=fo ks N) (w:=fo ks N v) N;have h6:=hok.n6;have hL:cP (fo ks N) (fo ks N v) N*T<=6*324:=Ac1 (by omega) hT;obtain⟨B,hB⟩:=HR (Ad1 hpos h0) (hw v hv);have:=LE (YB (b:=500) hB h1 h2);omega
theorem VB(hok:GOK N ks ps)(hl:fl.length=ks.length)(hb:∀x∈fl,-100<=x/\x<=100){e:Nat}(he:e<ks.length):(pt0 ks fl N e).num.natAbs<=1000000/\(pt0 ks fl N e).den<=1000000:=by
 obtain⟨T,h0,hT,hw⟩:=AbK hok hl hb;have hee:=hok.ee _ (AH he);have hA:gN ks e/6<N:=by omega
 have hB:=hee.2;have hf:=FN hok he;have h1:=KG hok hl hb hA hB hf;have h2:=KG hok hl hb hB hA hf.symm;have w1:=hw _ hA;have w2:=hw _ hB;have hpos:=I3 (f:=fo ks N) (w:=fo ks N (gN ks e/6)) rfl N hA;have hle:=TU (f:=fo ks N) (w:=fo ks N (gN ks e/6)) N;have h6:=hok.n6;rw[hf]at w2;generalize hC:cP (fo ks N) (fo ks N (gN ks e/6)) N=C at *;have hL:C*T<=6*324:=Ac1 (by omega) hT;have hd:pt0 ks fl N e=bH ks fl N (gN ks e%6)-bH ks fl N (gN ks e/6):=rfl;have w3:whl (pt0 ks fl N e*(((C*T:Nat):Int):Rat)):=by
  have e1:pt0 ks fl N e*(((C*T:Nat):Int):Rat)=bH ks fl N (gN ks e%6)*(((C*T:Nat):Int):Rat) + -1*(bH ks fl N (gN ks e/6)*(((C*T:Nat):Int):Rat)):=by
   rw[hd];grind
  rw[e1];exact Hi w2 (By ⟨-1,rfl⟩ w1)
 obtain⟨B,hB2⟩:=HR (Ad1 hpos h0) w3;have hb5:((500:Nat):Int)=(500:Int):=rfl;have:=LE (YB (b:=500) hB2 (by rw[hd];show(-500:Rat)<=_;grind) (by rw[hd];show _<=(500:Rat);grind));omega
def rst(ks:List Nat)(fl:List Int)(N e:Nat):Rat:=fq fl e-pt0 ks fl N e
theorem QQ(hok:GOK N ks ps)(hl:fl.length=ks.length)(hb:∀x∈fl,-100<=x/\x<=100)(ψ:Nat->Rat):su ks.length (fun e=>rst ks fl N e*dfl ψ ks e)=0:=by
 have e1:su ks.length (fun e=>rst ks fl N e*dfl ψ ks e)=su ks.length fun e=>rst ks fl N e*su N fun v=>ψ v*dq ks e v:=Aa fun e he=>by rw[JF hok he];rfl
 rw[e1,<-EN];refine GM fun v hv=>?_
 have h:=JB hok hl hb hv;have e2:su ks.length (fun e=>dq ks e v*rst ks fl N e)=su ks.length (fun e=>dq ks e v*fq fl e)-su ks.length fun e=>dq ks e v*pt0 ks fl N e:=by
  rw[<-CB];exact Aa fun e _=>by unfold rst;grind
 rw[e2,h];grind
theorem OR{a b:Nat->Rat}{m:Nat}(h:su m (fun e=>a e*b e)=0):szq (fun e=>a e+b e) m=szq a m+szq b m:=by
 have e1:szq (fun e=>a e+b e) m=szq a m+szq b m+(su m (fun e=>a e*b e)+su m fun e=>a e*b e):=by
  unfold szq;simp only[<-KX];exact Aa fun e _=>by grind
 rw[e1,h];grind
theorem AbY(hok:GOK N ks ps)(hl:fl.length=ks.length)(hb:∀x∈fl,-100<=x/\x<=100)(φ:Nat->Rat):szq (rst ks fl N) ks.length<=szq (fun e=>fq fl e-dfl φ ks e) ks.length:=by
 have h:=QQ hok hl hb (fun v=>bH ks fl N v-φ v);have e1:=OR h;have h2:=Pi (f:=dfl (fun v=>bH ks fl N v-φ v) ks) (m:=ks.length);have e2:szq (fun e=>fq fl e-dfl φ ks e) ks.length=szq (fun e=>rst ks fl N e+dfl (fun v=>bH ks fl N v-φ v) ks e) ks.length:=Aa fun e _=>by
  have:rst ks fl N e+dfl (fun v=>bH ks fl N v-φ v) ks e=fq fl e-dfl φ ks e:=by unfold rst pt0 dfl;grind
  show _=(rst ks fl N e+dfl (fun v=>bH ks fl N v-φ v) ks e)*(rst ks fl N e+dfl (fun v=>bH ks fl N v-φ v) ks e);rw[this]
 rw[e2,e1];grind
theorem T9(hok:GOK N ks ps)(hl:fl.length=ks.length)(hb:∀x∈fl,-100<=x/\x<=100):Szd (rst ks fl N) ks.length:=by
 obtain⟨L1,hL1,hh⟩:=Ry (N:=N) hok hl hb;refine⟨⟨L1,(hh 0).L0,by omega,fun e _=>?_⟩,?_⟩
 ·have h1:whl (pt0 ks fl N e*((L1:Int):Rat)):=⟨_,(Gx (PJ (ks:=ks) hh e).d).symm⟩
  have e1:rst ks fl N e*((L1:Int):Rat)=fq fl e*((L1:Int):Rat) + -1*(pt0 ks fl N e*((L1:Int):Rat)):=by unfold rst;grind
  rw[e1];exact Hi (By ⟨_,rfl⟩ ⟨_,rfl⟩) (By ⟨-1,rfl⟩ h1)
 ·refine AeG (AbY hok hl hb (fun _=>0)) ?_
  have e1:szq (fun e=>fq fl e-dfl (fun _=>0) ks e) ks.length=szq (fq fl) ks.length:=Aa fun e _=>by
   have:fq fl e-dfl (fun _=>0) ks e=fq fl e:=by unfold dfl;grind
   show(fq fl e-dfl (fun _=>0) ks e)*(fq fl e-dfl (fun _=>0) ks e)=_;rw[this]
  rw[e1];exact AaU hok hl hb
theorem Szd.mul{f:Nat->Rat}{m:Nat}(h:Szd f m){e:Nat}(he:e<m):((f e).num*(f e).num).natAbs<=MX/\(f e).den*(f e).den<=MX:=by
 obtain⟨L,h0,hL,hw⟩:=h.L;obtain⟨n,hn⟩:=hw e he;have h1:=h.one he;have hLL:L*L<=2278125*2278125:=Ac1 hL hL;have hLn:(0:Rat)<=(((L*L:Nat):Int):Rat):=by rw[show(0:Rat)=((0:Int):Rat)from rfl,Ada];omega
 have h2:=Aea h1 hLn;have e1:f e*f e*(((L*L:Nat):Int):Rat)=((n*n:Int):Rat):=by
  rw[Adi,<-hn,Adg,Adi];grind
 rw[e1,<-Rat.intCast_mul,Ada]at h2;have h3:n.natAbs*n.natAbs<=520000000000000000:=by
  have:((n.natAbs*n.natAbs:Nat):Int)=n*n:=by
   rw[Adg];exact Int.natAbs_mul_self
  omega
 have hd:=ME (q:=f e) (d:=(L:Int)) (n:=n) (t:=1) (by omega) hn (by omega);rw[Add,Int.natAbs_natCast,Add]at hd;obtain⟨q1,q2⟩:=LE hd;have q3:=Ac1 q1 q1;have q4:=Ac1 q2 q2;rw[Ac6];unfold MX;omega
theorem AaW(hok:GOK N ks ps)(hl:fl.length=ks.length)(hb:∀x∈fl,-100<=x/\x<=100){v:Nat}(hv:v<N):sP (fo ks N) (bH ks fl N) (fo ks N v) N=0:=by
 obtain⟨f1,f2⟩:=Iw hok hv;have hfN:=MK hok f1 hv;refine Eq.trans (Aa fun u hu=>?_) (OF hok hl hb hfN ((HP hok hfN).2 f2));unfold Db
 by_cases c:fo ks N u=fo ks N v
 ·rw[if_pos c,if_pos ⟨hu,c⟩];grind
 ·rw[if_neg c,if_neg (fun h=>c h.2)];grind
theorem YY{q:Rat}{w:Int}(h:q<=(w:Rat)):q.num<=w*(q.den:Int):=by
 have hd:=q.den_pos;have h1:(0:Rat)<=((q.den:Int):Rat):=by rw[show(0:Rat)=((0:Int):Rat)from rfl,Ada];omega
 have h2:=Aea h h1;have e1:q*((q.den:Int):Rat)=((q.num:Int):Rat):=by
  have:=Gx (q:=q) (L:=q.den) (Nat.dvd_refl _);unfold sc at this;rw[Nat.div_self hd]at this;rw[<-this];simp
 rw[e1,<-Rat.intCast_mul,Ada]at h2;exact h2
end
variable {F:Nat->Option IFn}{cx:Ctx}{k:List Itm}{s:St}{l:List (Nat×AV)}{rows:List Row}{low:Nat}{r:AV×List Row×Nat->Prop}
def c5r0:List Seg:=[
 zo 201 (.idxA 2 1 (.t 20) (.c (.int .i64 0))),
 zo 202 (.load1 (.t 201)),
 zm 203 21,
 zo 204 (.idxA 2 1 (.t 20) (.c (.int .i64 1))),
 zo 205 (.load1 (.t 204)),
 zo 206 (.bin .mul (.t 203) (.t 205)),
 zo 207 (.bin .leq (.t 202) (.t 206)),
 zm 208 207,
 .one ⟨some 209,.call [] (.c (.func 19 [])) [],some (208,true)⟩,
 zo 210 (.pick (.t 208) (.t 209) (.c (.bool false))),
 zm 6 210]
def c5k0:ICode:=.kill 211 Aad (.ops c5r0)
@[simp] theorem uc5k0:X0 F cx k l rows low r 211 c5k0↔eb rows (.idxA 2 1 (cl l 20) (ci 0)) fun v0=>eb rows (.load1 (.c v0)) fun v1=>eb rows (.idxA 2 1 (cl l 20) (ci 1)) fun v2=>eb rows (.load1 (.c v2)) fun v3=>eb rows (.bin .mul (cl l 21) (.c v3)) fun v4=>eb rows (.bin .leq (.c v1) (.c v4)) fun v5=>CF F v5 true rows low [] [] (.func 19 []) fun v6 R6 L6=>bnd (evP R6 (.pick (.c v5) (.c v6) (.c (.bool false)))) fun v7=>Y0 F cx k r R6 L6 211 [(6,v7),(210,v7),(209,v6),(208,v5),(207,v5),(206,v4),(205,v3),(204,v2),(203,lk l 21),(202,v1),(201,v0),(20,lk l 20),(21,lk l 21)]:=rg
def c5s1:ICode:=(.seq c5k0 .ret)
@[simp] theorem uc5s1:U c5s1 (.seq c5k0 .ret):=ur
def c5r3:List Seg:=[
 zm 124 22,
 zo 125 (.bin .add (.t 124) (.c (.int .i64 1))),
 zm 22 125]
def c5k3:ICode:=.kill 211 HB (.ops c5r3)
@[simp] theorem uc5k3:X0 F cx k l rows low r 211 c5k3↔eb rows (.bin .add (cl l 22) (ci 1)) fun v0=>Y0 F cx k r rows low 211 ([(22,v0),(125,v0),(124,lk l 22)]++kp l HB):=rg
def c5r4:List Seg:=[
 .grp [(zn 180 21,0),(zn 181 9,0),(zn 182 22,0),(zp 183 (.idxS 1 (.t 181) (.t 182)),6),(zp 184 (.load1 (.t 183)),14),(zn 185 18,0),(zn 186 22,0),(zp 187 (.idxS 1 (.t 185) (.t 186)),96),(zp 188 (.load1 (.t 187)),224),(zp 189 (.bin .sub (.t 184) (.t 188)),510),(zn 190 9,0),(zn 191 22,0),(zp 192 (.idxS 1 (.t 190) (.t 191)),3072),(zp 193 (.load1 (.t 192)),7168),(zn 194 18,0),(zn 195 22,0),(zp 196 (.idxS 1 (.t 194) (.t 195)),49152),(zp 197 (.load1 (.t 196)),114688),(zp 198 (.bin .sub (.t 193) (.t 197)),261120),(zp 199 (.bin .mul (.t 189) (.t 198)),524286)],
 zo 200 (.bin .add (.t 180) (.t 199)),
 zm 21 200]
def c5k4:ICode:=.kill 211 HB (.ops c5r4)
@[simp] theorem uc5k4:X0 F cx k l rows low r 211 c5k4↔eb rows (.idxS 1 (cl l 9) (cl l 22)) fun v0=>eb rows (.load1 (.c v0)) fun v1=>eb rows (.idxS 1 (cl l 18) (cl l 22)) fun v2=>eb rows (.load1 (.c v2)) fun v3=>eb rows (.bin .sub (.c v1) (.c v3)) fun v4=>eb rows (.idxS 1 (cl l 9) (cl l 22)) fun v5=>eb rows (.load1 (.c v5)) fun v6=>eb rows (.idxS 1 (cl l 18) (cl l 22)) fun v7=>eb rows (.load1 (.c v7)) fun v8=>eb rows (.bin .sub (.c v6) (.c v8)) fun v9=>eb rows (.bin .mul (.c v4) (.c v9)) fun v10=>eb rows (.bin .add (cl l 21) (.c v10)) fun v11=>Y0 F cx k r rows low 211 ([(21,v11),(200,v11),(199,v10),(198,v9),(197,v8),(196,v7),(195,lk l 22),(194,lk l 18),(193,v6),(192,v5),(191,lk l 22),(190,lk l 9),(189,v4),(188,v3),(187,v2),(186,lk l 22),(185,lk l 18),(184,v1),(183,v0),(182,lk l 22),(181,lk l 9),(180,lk l 21)]++kp l HB):=rg
def c5r5:List Seg:=[
 .grp [(zp 175 (.loadN 2 (.t 20)),0),(zp 176 (.loadN 2 (.t 25)),0),(zp 177 (.loadN 2 (.t 25)),0),(zp 178 (.call [] (.c (.func 35 [])) [(.t 176),(.t 177)]),6)],
 zo 179 (.call [] (.c (.func 32 [])) [(.t 175),(.t 178)]),
 .one ⟨none,.storeN 2 (.t 20) (.t 179),none⟩]
def c5k5:ICode:=.kill 211 M3 (.ops c5r5)
@[simp] theorem uc5k5:X0 F cx k l rows low r 211 c5k5↔em 0 rows (.loadN 2 (cl l 20)) fun v0=>em 0 rows (.loadN 2 (cl l 25)) fun v1=>em 0 rows (.loadN 2 (cl l 25)) fun v2=>bnd (opC F (rows++Ai 6 rn) (rows.length+rn.length) [v1,v2] [] (.func 35 [])) fun q3=>q3.2.2=rows.length+rn.length/\bnd (some (rn++List.map (fun(x:Row)=>(3,x)) (q3.2.1.drop (rows.length+rn.length)))) fun e3=>bnd (Ret F 32 [v0,q3.1] (rows++List.map (fun(x:Nat×Row)=>x.2) e3)) fun q4=>bnd (evE q4.2.1 (AC low q4.2.2) (.storeN 2 (cl l 20) (.c q4.1))) fun q5=>Y0 F cx k r q5.2.1 q5.2.2 211 ([(179,q4.1),(178,q3.1),(177,v2),(176,v1),(175,v0)]++kp l M3):=rg
def c5s6:ICode:=(.seq c5k5 c5k4)
@[simp] theorem uc5s6:U c5s6 (.seq c5k5 c5k4):=ur
def c5r7:List Seg:=[
 .grp [(zn 168 9,0),(zn 169 22,0),(zp 170 (.idxS 1 (.t 168) (.t 169)),3),(zp 171 (.load1 (.t 170)),7),(zp 172 (.mkagg [.int .i64 0,.int .i64 0] [(0,1,(.t 171)),(1,1,(.c (.int .i64 1)))]),15),(zp 173 (.loadN 2 (.t 25)),0)],
 zo 174 (.call [] (.c (.func 34 [])) [(.t 172),(.t 173)]),
 .one ⟨none,.storeN 2 (.t 25) (.t 174),none⟩]
def c5k7:ICode:=.kill 211 M3 (.ops c5r7)
@[simp] theorem uc5k7:X0 F cx k l rows low r 211 c5k7↔eb rows (.idxS 1 (cl l 9) (cl l 22)) fun v0=>eb rows (.load1 (.c v0)) fun v1=>eb rows (.mkagg [.int .i64 0,.int .i64 0] [(0,1,(.c v1)),(1,1,(ci 1))]) fun v2=>eb rows (.loadN 2 (cl l 25)) fun v3=>bnd (Ret F 34 [v2,v3] rows) fun q4=>bnd (evE q4.2.1 (AC low q4.2.2) (.storeN 2 (cl l 25) (.c q4.1))) fun q5=>Y0 F cx k r q5.2.1 q5.2.2 211 ([(174,q4.1),(173,v3),(172,v2),(171,v1),(170,v0),(169,lk l 22),(168,lk l 9)]++kp l M3):=rg
def c5s8:ICode:=(.seq c5k7 c5s6)
@[simp] theorem uc5s8:U c5s8 (.seq c5k7 c5s6):=ur
def c5r9:List Seg:=[
 zo 6 (.mv (.c (.bool false)))]
def c5k9:ICode:=.kill 211 [] (.ops c5r9)
@[simp] theorem uc5k9:X0 F cx k l rows low r 211 c5k9↔Y0 F cx k r rows low 211 [(6,(.bool false))]:=rg
def c5s10:ICode:=(.cond (.t 167) (.seq c5k9 .ret) .skip)
@[simp] theorem uc5s10:U c5s10 (.cond (.t 167) (.seq c5k9 .ret) .skip):=ur
def c5r11:List Seg:=[
 .grp [(zp 147 (.loadN 2 (.t 25)),0),(zp 148 (.idxA 3 1 (.t 12) (.c (.int .i64 0))),0),(zp 149 (.load1 (.t 148)),2),(zn 150 22,0),(zp 151 (.idxS 2 (.t 149) (.t 150)),14),(zp 152 (.loadN 2 (.t 151)),30)],
 zo 153 (.eqv true (.ints 2) (.t 147) (.t 152)),
 zm 154 153,
 .grp [(⟨some 155,.mv (.t 18),some (154,false)⟩,0),(⟨some 156,.mv (.t 22),some (154,false)⟩,0)],
 .one ⟨some 157,.idxS 1 (.t 155) (.t 156),some (154,false)⟩,
 .one ⟨some 158,.load1 (.t 157),some (154,false)⟩,
 .one ⟨some 159,.bin .lss (.t 158) (.c (.int .i64 (-200))),some (154,false)⟩,
 zo 160 (.pick (.t 154) (.c (.bool true)) (.t 159)),
 zm 161 160,
 .grp [(⟨some 162,.mv (.t 18),some (161,false)⟩,0),(⟨some 163,.mv (.t 22),some (161,false)⟩,0)],
 .one ⟨some 164,.idxS 1 (.t 162) (.t 163),some (161,false)⟩,
 .one ⟨some 165,.load1 (.t 164),some (161,false)⟩,
 .one ⟨some 166,.bin .gtr (.t 165) (.c (.int .i64 200)),some (161,false)⟩,
 zo 167 (.pick (.t 161) (.c (.bool true)) (.t 166))]
def c5k11:ICode:=.kill 211 M3 (.ops c5r11)
@[simp] theorem uc5k11:X0 F cx k l rows low r 211 c5k11↔eb rows (.loadN 2 (cl l 25)) fun v0=>eb rows (.idxA 3 1 (cl l 12) (ci 0)) fun v1=>eb rows (.load1 (.c v1)) fun v2=>eb rows (.idxS 2 (.c v2) (cl l 22)) fun v3=>eb rows (.loadN 2 (.c v3)) fun v4=>eb rows (.eqv true (.ints 2) (.c v0) (.c v4)) fun v5=>bnd (gv v5 false (evP rows (.mv (cl l 18)))) fun v6=>bnd (gv v5 false (evP rows (.mv (cl l 22)))) fun v7=>bnd (gv v5 false (evP rows (.idxS 1 (.c v6) (.c v7)))) fun v8=>bnd (gv v5 false (evP rows (.load1 (.c v8)))) fun v9=>bnd (gv v5 false (evP rows (.bin .lss (.c v9) (.c (.int .i64 (-200)))))) fun v10=>eb rows (.pick (.c v5) (.c (.bool true)) (.c v10)) fun v11=>bnd (gv v11 false (evP rows (.mv (cl l 18)))) fun v12=>bnd (gv v11 false (evP rows (.mv (cl l 22)))) fun v13=>bnd (gv v11 false (evP rows (.idxS 1 (.c v12) (.c v13)))) fun v14=>bnd (gv v11 false (evP rows (.load1 (.c v14)))) fun v15=>bnd (gv v11 false (evP rows (.bin .gtr (.c v15) (ci 200)))) fun v16=>eb rows (.pick (.c v11) (.c (.bool true)) (.c v16)) fun v17=>Y0 F cx k r rows low 211 ([(167,v17),(166,v16),(165,v15),(164,v14),(163,v13),(162,v12),(161,v11),(160,v11),(159,v10),(158,v9),(157,v8),(156,v7),(155,v6),(154,v5),(153,v5),(152,v4),(151,v3),(150,lk l 22),(149,v2),(148,v1),(147,v0)]++kp l M3):=rg
def c5s12:ICode:=(.seq (.seq c5k11 c5s10) c5s8)
@[simp] theorem uc5s12:U c5s12 (.seq (.seq c5k11 c5s10) c5s8):=ur
def c5r13:List Seg:=[
 .grp [(zn 138 10,0),(zn 139 24,0),(zp 140 (.idxS 2 (.t 138) (.t 139)),3),(zp 141 (.loadN 2 (.t 140)),7),(zn 142 10,0),(zn 143 23,0),(zp 144 (.idxS 2 (.t 142) (.t 143)),48),(zp 145 (.loadN 2 (.t 144)),112),(zp 146 (.call [] (.c (.func 34 [])) [(.t 141),(.t 145)]),255),(zp 25 (.box (.c (.agg [.int .i64 0,.int .i64 0]))),0)],
 .one ⟨none,.storeN 2 (.t 25) (.t 146),none⟩]
def c5k13:ICode:=.kill 211 Ys (.ops c5r13)
@[simp] theorem uc5k13:X0 F cx k l rows low r 211 c5k13↔em 3 rows (.idxS 2 (cl l 10) (cl l 24)) fun v0=>em 7 rows (.loadN 2 (.c v0)) fun v1=>em 48 rows (.idxS 2 (cl l 10) (cl l 23)) fun v2=>em 112 rows (.loadN 2 (.c v2)) fun v3=>bnd (opC F (rows++Ai 255 rn) (rows.length+rn.length) [v1,v3] [] (.func 34 [])) fun q4=>q4.2.2=rows.length+rn.length/\bnd (some (rn++List.map (fun(x:Row)=>(8,x)) (q4.2.1.drop (rows.length+rn.length)))) fun e4=>bnd (evE (rows++Ai 0 e4) (rows.length+e4.length) (.box (.c (.agg [.int .i64 0,.int .i64 0])))) fun q5=>q5.2.2=rows.length+e4.length/\bnd (some (e4++List.map (fun(x:Row)=>(9,x)) (q5.2.1.drop (rows.length+e4.length)))) fun e5=>bnd (evE (rows++List.map (fun(x:Nat×Row)=>x.2) e5) low (.storeN 2 (.c q5.1) (.c q4.1))) fun q6=>Y0 F cx k r q6.2.1 q6.2.2 211 ([(25,q5.1),(146,q4.1),(145,v3),(144,v2),(143,lk l 23),(142,lk l 10),(141,v1),(140,v0),(139,lk l 24),(138,lk l 10)]++kp l Ys):=rg
def c5s14:ICode:=(.seq c5k13 c5s12)
@[simp] theorem uc5s14:U c5s14 (.seq c5k13 c5s12):=ur
def c5r15:List Seg:=[
 .grp [(zp 126 (.fieldA 1 (.t 7)),0),(zp 127 (.load1 (.t 126)),1),(zn 128 22,0),(zp 129 (.idxS 2 (.t 127) (.t 128)),7),(zp 130 (.idxA 2 1 (.t 129) (.c (.int .i64 0))),15),(zp 131 (.load1 (.t 130)),31),(zp 132 (.fieldA 1 (.t 7)),0),(zp 133 (.load1 (.t 132)),64),(zn 134 22,0),(zp 135 (.idxS 2 (.t 133) (.t 134)),448),(zp 136 (.idxA 2 1 (.t 135) (.c (.int .i64 1))),960),(zp 137 (.load1 (.t 136)),1984),(zn 23 131,63)],
 zm 24 137]
def c5k15:ICode:=.kill 211 HB (.ops c5r15)
@[simp] theorem uc5k15:X0 F cx k l rows low r 211 c5k15↔eb rows (.fieldA 1 (cl l 7)) fun v0=>eb rows (.load1 (.c v0)) fun v1=>eb rows (.idxS 2 (.c v1) (cl l 22)) fun v2=>eb rows (.idxA 2 1 (.c v2) (ci 0)) fun v3=>eb rows (.load1 (.c v3)) fun v4=>eb rows (.fieldA 1 (cl l 7)) fun v5=>eb rows (.load1 (.c v5)) fun v6=>eb rows (.idxS 2 (.c v6) (cl l 22)) fun v7=>eb rows (.idxA 2 1 (.c v7) (ci 1)) fun v8=>eb rows (.load1 (.c v8)) fun v9=>Y0 F cx k r rows low 211 ([(24,v9),(23,v4),(137,v9),(136,v8),(135,v7),(134,lk l 22),(133,v6),(132,v5),(131,v4),(130,v3),(129,v2),(128,lk l 22),(127,v1),(126,v0)]++kp l HB):=rg
def c5s16:ICode:=(.seq (.block 5 (.seq c5k15 c5s14)) c5k3)
@[simp] theorem uc5s16:U c5s16 (.seq (.block 5 (.seq c5k15 c5s14)) c5k3):=ur
def c5s17:ICode:=(.cond (.t 123) .skip (.exit 4))
@[simp] theorem uc5s17:U c5s17 (.cond (.t 123) .skip (.exit 4)):=ur
def c5r18:List Seg:=[
 zm 120 22,
 zm 121 9,
 zo 122 (.len 0 (.t 121)),
 zo 123 (.bin .lss (.t 120) (.t 122))]
def c5k18:ICode:=.kill 211 HB (.ops c5r18)
@[simp] theorem uc5k18:X0 F cx k l rows low r 211 c5k18↔eb rows (.len 0 (cl l 9)) fun v0=>eb rows (.bin .lss (cl l 22) (.c v0)) fun v1=>Y0 F cx k r rows low 211 ([(123,v1),(122,v0),(121,lk l 9),(120,lk l 22)]++kp l HB):=rg
def c5l2:ICode:=(.seq (.seq c5k18 c5s17) c5s16)
def c5s19:ICode:=(.block 4 (.loop c5l2))
@[simp] theorem uc5s19:U c5s19 (.block 4 (.loop c5l2)):=ur
def c5r20:List Seg:=[
 zo 22 (.mv (.c (.int .i64 0)))]
def c5k20:ICode:=.kill 211 YX (.ops c5r20)
@[simp] theorem uc5k20:X0 F cx k l rows low r 211 c5k20↔Y0 F cx k r rows low 211 ([(22,(.int .i64 0))]++kp l YX):=rg
def c5s21:ICode:=(.seq (.seq c5k20 c5s19) c5s1)
@[simp] theorem uc5s21:U c5s21 (.seq (.seq c5k20 c5s19) c5s1):=ur
def c5r22:List Seg:=[
 zo 119 (.mkagg [.int .i64 0,.int .i64 0] [(0,1,(.c (.int .i64 0))),(1,1,(.c (.int .i64 1)))]),
 zo 20 (.box (.c (.agg [.int .i64 0,.int .i64 0]))),
 .one ⟨none,.storeN 2 (.t 20) (.t 119),none⟩,
 zo 21 (.mv (.c (.int .i64 0)))]
def c5k22:ICode:=.kill 211 Yr (.ops c5r22)
@[simp] theorem uc5k22:X0 F cx k l rows low r 211 c5k22↔eb rows (.mkagg [.int .i64 0,.int .i64 0] [(0,1,(ci 0)),(1,1,(ci 1))]) fun v0=>bnd (evE rows low (.box (.c (.agg [.int .i64 0,.int .i64 0])))) fun q1=>bnd (evE q1.2.1 q1.2.2 (.storeN 2 (.c q1.1) (.c v0))) fun q2=>Y0 F cx k r q2.2.1 q2.2.2 211 ([(21,(.int .i64 0)),(20,q1.1),(119,v0)]++kp l Yr):=rg
def c5s23:ICode:=(.seq c5k22 c5s21)
@[simp] theorem uc5s23:U c5s23 (.seq c5k22 c5s21):=ur
def c5r24:List Seg:=[
 zo 6 (.mv (.c (.bool false)))]
def c5k24:ICode:=.kill 211 [] (.ops c5r24)
@[simp] theorem uc5k24:X0 F cx k l rows low r 211 c5k24↔Y0 F cx k r rows low 211 [(6,(.bool false))]:=rg
def c5s25:ICode:=(.cond (.t 118) (.seq c5k24 .ret) .skip)
@[simp] theorem uc5s25:U c5s25 (.cond (.t 118) (.seq c5k24 .ret) .skip):=ur
def c5r26:List Seg:=[
 zm 110 19,
 zo 111 (.bin .neq (.t 110) (.c (.int .i64 0))),
 zm 112 111,
 .one ⟨some 113,.mv (.t 18),some (112,false)⟩,
 .one ⟨some 114,.len 0 (.t 113),some (112,false)⟩,
 .one ⟨some 115,.mv (.t 9),some (112,false)⟩,
 .one ⟨some 116,.len 0 (.t 115),some (112,false)⟩,
 .one ⟨some 117,.bin .neq (.t 114) (.t 116),some (112,false)⟩,
 zo 118 (.pick (.t 112) (.c (.bool true)) (.t 117))]
def c5k26:ICode:=.kill 211 Y6 (.ops c5r26)
@[simp] theorem uc5k26:X0 F cx k l rows low r 211 c5k26↔eb rows (.bin .neq (cl l 19) (ci 0)) fun v0=>bnd (gv v0 false (evP rows (.mv (cl l 18)))) fun v1=>bnd (gv v0 false (evP rows (.len 0 (.c v1)))) fun v2=>bnd (gv v0 false (evP rows (.mv (cl l 9)))) fun v3=>bnd (gv v0 false (evP rows (.len 0 (.c v3)))) fun v4=>bnd (gv v0 false (evP rows (.bin .neq (.c v2) (.c v4)))) fun v5=>eb rows (.pick (.c v0) (.c (.bool true)) (.c v5)) fun v6=>Y0 F cx k r rows low 211 ([(118,v6),(117,v5),(116,v4),(115,v3),(114,v2),(113,v1),(112,v0),(111,v0),(110,lk l 19)]++kp l Y6):=rg
def c5s27:ICode:=(.seq (.seq c5k26 c5s25) c5s23)
@[simp] theorem uc5s27:U c5s27 (.seq (.seq c5k26 c5s25) c5s23):=ur
def c5r28:List Seg:=[
 .grp [(zp 102 (.loadN 3 (.t 8)),0),(zn 103 2,0),(zp 104 (.fieldA 0 (.t 7)),0),(zp 105 (.load1 (.t 104)),4),(zp 106 (.call [] (.c (.func 20 [])) [(.t 103),(.t 105)]),14)],
 zo 107 (.call [] (.c (.func 33 [])) [(.t 102),(.t 106)]),
 zm 101 107,
 .grp [(zp 108 (.ext (.t 101) 0),0),(zp 109 (.ext (.t 101) 1),0),(zn 18 108,1)],
 zm 19 109]
def c5k28:ICode:=.kill 211 Q9 (.ops c5r28)
@[simp] theorem uc5k28:X0 F cx k l rows low r 211 c5k28↔em 0 rows (.loadN 3 (cl l 8)) fun v0=>em 0 rows (.fieldA 0 (cl l 7)) fun v1=>em 4 rows (.load1 (.c v1)) fun v2=>bnd (opC F (rows++Ai 14 rn) (rows.length+rn.length) [lk l 2,v2] [] (.func 20 [])) fun q3=>q3.2.2=rows.length+rn.length/\bnd (some (rn++List.map (fun(x:Row)=>(4,x)) (q3.2.1.drop (rows.length+rn.length)))) fun e3=>bnd (Ret F 33 [v0,q3.1] (rows++List.map (fun(x:Nat×Row)=>x.2) e3)) fun q4=>bnd (evP q4.2.1 (.ext (.c q4.1) 0)) fun v5=>bnd (evP q4.2.1 (.ext (.c q4.1) 1)) fun v6=>Y0 F cx k r q4.2.1 (AC low q4.2.2) 211 ([(19,v6),(18,v5),(109,v6),(108,v5),(101,q4.1),(107,q4.1),(106,q3.1),(105,v2),(104,v1),(103,lk l 2),(102,v0)]++kp l Q9):=rg
def c5s29:ICode:=(.seq c5k28 c5s27)
@[simp] theorem uc5s29:U c5s29 (.seq c5k28 c5s27):=ur
def c5r31:List Seg:=[
 zm 74 15,
 zo 75 (.bin .add (.t 74) (.c (.int .i64 1))),
 zm 15 75]
def c5k31:ICode:=.kill 211 Kw (.ops c5r31)
@[simp] theorem uc5k31:X0 F cx k l rows low r 211 c5k31↔eb rows (.bin .add (cl l 15) (ci 1)) fun v0=>Y0 F cx k r rows low 211 ([(15,v0),(75,v0),(74,lk l 15)]++kp l Kw):=rg
def c5r32:List Seg:=[
 zo 6 (.mv (.c (.bool false)))]
def c5k32:ICode:=.kill 211 [] (.ops c5r32)
@[simp] theorem uc5k32:X0 F cx k l rows low r 211 c5k32↔Y0 F cx k r rows low 211 [(6,(.bool false))]:=rg
def c5s33:ICode:=(.cond (.t 100) (.seq c5k32 .ret) .skip)
@[simp] theorem uc5s33:U c5s33 (.cond (.t 100) (.seq c5k32 .ret) .skip):=ur
def c5r34:List Seg:=[
 zo 98 (.idxA 2 1 (.t 16) (.c (.int .i64 0))),
 zo 99 (.load1 (.t 98)),
 zo 100 (.bin .neq (.t 99) (.c (.int .i64 0)))]
def c5k34:ICode:=.kill 211 Qw (.ops c5r34)
@[simp] theorem uc5k34:X0 F cx k l rows low r 211 c5k34↔eb rows (.idxA 2 1 (cl l 16) (ci 0)) fun v0=>eb rows (.load1 (.c v0)) fun v1=>eb rows (.bin .neq (.c v1) (ci 0)) fun v2=>Y0 F cx k r rows low 211 ([(100,v2),(99,v1),(98,v0)]++kp l Qw):=rg
def c5s35:ICode:=(.seq c5k34 c5s33)
@[simp] theorem uc5s35:U c5s35 (.seq c5k34 c5s33):=ur
def c5r37:List Seg:=[
 zm 81 17,
 zo 82 (.bin .add (.t 81) (.c (.int .i64 1))),
 zm 17 82]
def c5k37:ICode:=.kill 211 Hu (.ops c5r37)
@[simp] theorem uc5k37:X0 F cx k l rows low r 211 c5k37↔eb rows (.bin .add (cl l 17) (ci 1)) fun v0=>Y0 F cx k r rows low 211 ([(17,v0),(82,v0),(81,lk l 17)]++kp l Hu):=rg
def c5r38:List Seg:=[
 .grp [(zp 92 (.loadN 2 (.t 16)),0),(zn 93 10,0),(zn 94 17,0),(zp 95 (.idxS 2 (.t 93) (.t 94)),6),(zp 96 (.loadN 2 (.t 95)),14)],
 zo 97 (.call [] (.c (.func 32 [])) [(.t 92),(.t 96)]),
 .one ⟨none,.storeN 2 (.t 16) (.t 97),none⟩]
def c5k38:ICode:=.kill 211 Hu (.ops c5r38)
@[simp] theorem uc5k38:X0 F cx k l rows low r 211 c5k38↔eb rows (.loadN 2 (cl l 16)) fun v0=>eb rows (.idxS 2 (cl l 10) (cl l 17)) fun v1=>eb rows (.loadN 2 (.c v1)) fun v2=>bnd (Ret F 32 [v0,v2] rows) fun q3=>bnd (evE q3.2.1 (AC low q3.2.2) (.storeN 2 (cl l 16) (.c q3.1))) fun q4=>Y0 F cx k r q4.2.1 q4.2.2 211 ([(97,q3.1),(96,v2),(95,v1),(94,lk l 17),(93,lk l 10),(92,v0)]++kp l Hu):=rg
def c5s39:ICode:=(.cond (.t 91) c5k38 .skip)
@[simp] theorem uc5s39:U c5s39 (.cond (.t 91) c5k38 .skip):=ur
def c5r40:List Seg:=[
 .grp [(zn 83 14,0),(zn 84 17,0),(zp 85 (.idxS 1 (.t 83) (.t 84)),3),(zp 86 (.load1 (.t 85)),7),(zn 87 14,0),(zn 88 15,0),(zp 89 (.idxS 1 (.t 87) (.t 88)),48),(zp 90 (.load1 (.t 89)),112)],
 zo 91 (.bin .eql (.t 86) (.t 90))]
def c5k40:ICode:=.kill 211 Hu (.ops c5r40)
@[simp] theorem uc5k40:X0 F cx k l rows low r 211 c5k40↔eb rows (.idxS 1 (cl l 14) (cl l 17)) fun v0=>eb rows (.load1 (.c v0)) fun v1=>eb rows (.idxS 1 (cl l 14) (cl l 15)) fun v2=>eb rows (.load1 (.c v2)) fun v3=>eb rows (.bin .eql (.c v1) (.c v3)) fun v4=>Y0 F cx k r rows low 211 ([(91,v4),(90,v3),(89,v2),(88,lk l 15),(87,lk l 14),(86,v1),(85,v0),(84,lk l 17),(83,lk l 14)]++kp l Hu):=rg
def c5s41:ICode:=(.seq (.block 3 (.seq c5k40 c5s39)) c5k37)
@[simp] theorem uc5s41:U c5s41 (.seq (.block 3 (.seq c5k40 c5s39)) c5k37):=ur
def c5s42:ICode:=(.cond (.t 80) .skip (.exit 2))
@[simp] theorem uc5s42:U c5s42 (.cond (.t 80) .skip (.exit 2)):=ur
def c5r43:List Seg:=[
 zm 77 17,
 zo 78 (.fieldA 0 (.t 7)),
 zo 79 (.load1 (.t 78)),
 zo 80 (.bin .lss (.t 77) (.t 79))]
def c5k43:ICode:=.kill 211 Hu (.ops c5r43)
@[simp] theorem uc5k43:X0 F cx k l rows low r 211 c5k43↔eb rows (.fieldA 0 (cl l 7)) fun v0=>eb rows (.load1 (.c v0)) fun v1=>eb rows (.bin .lss (cl l 17) (.c v1)) fun v2=>Y0 F cx k r rows low 211 ([(80,v2),(79,v1),(78,v0),(77,lk l 17)]++kp l Hu):=rg
def c5l36:ICode:=(.seq (.seq c5k43 c5s42) c5s41)
def c5s44:ICode:=(.block 2 (.loop c5l36))
@[simp] theorem uc5s44:U c5s44 (.block 2 (.loop c5l36)):=ur
def c5r45:List Seg:=[
 zo 17 (.mv (.c (.int .i64 0)))]
def c5k45:ICode:=.kill 211 Qw (.ops c5r45)
@[simp] theorem uc5k45:X0 F cx k l rows low r 211 c5k45↔Y0 F cx k r rows low 211 ([(17,(.int .i64 0))]++kp l Qw):=rg
def c5s46:ICode:=(.seq (.seq c5k45 c5s44) c5s35)
@[simp] theorem uc5s46:U c5s46 (.seq (.seq c5k45 c5s44) c5s35):=ur
def c5r47:List Seg:=[
 zo 76 (.mkagg [.int .i64 0,.int .i64 0] [(0,1,(.c (.int .i64 0))),(1,1,(.c (.int .i64 1)))]),
 zo 16 (.box (.c (.agg [.int .i64 0,.int .i64 0]))),
 .one ⟨none,.storeN 2 (.t 16) (.t 76),none⟩]
def c5k47:ICode:=.kill 211 Kw (.ops c5r47)
@[simp] theorem uc5k47:X0 F cx k l rows low r 211 c5k47↔eb rows (.mkagg [.int .i64 0,.int .i64 0] [(0,1,(ci 0)),(1,1,(ci 1))]) fun v0=>bnd (evE rows low (.box (.c (.agg [.int .i64 0,.int .i64 0])))) fun q1=>bnd (evE q1.2.1 q1.2.2 (.storeN 2 (.c q1.1) (.c v0))) fun q2=>Y0 F cx k r q2.2.1 q2.2.2 211 ([(16,q1.1),(76,v0)]++kp l Kw):=rg
def c5s48:ICode:=(.seq (.block 1 (.seq c5k47 c5s46)) c5k31)
@[simp] theorem uc5s48:U c5s48 (.seq (.block 1 (.seq c5k47 c5s46)) c5k31):=ur
def c5s49:ICode:=(.cond (.t 73) .skip (.exit 0))
@[simp] theorem uc5s49:U c5s49 (.cond (.t 73) .skip (.exit 0)):=ur
def c5r50:List Seg:=[
 zm 70 15,
 zo 71 (.fieldA 0 (.t 7)),
 zo 72 (.load1 (.t 71)),
 zo 73 (.bin .lss (.t 70) (.t 72))]
def c5k50:ICode:=.kill 211 Kw (.ops c5r50)
@[simp] theorem uc5k50:X0 F cx k l rows low r 211 c5k50↔eb rows (.fieldA 0 (cl l 7)) fun v0=>eb rows (.load1 (.c v0)) fun v1=>eb rows (.bin .lss (cl l 15) (.c v1)) fun v2=>Y0 F cx k r rows low 211 ([(73,v2),(72,v1),(71,v0),(70,lk l 15)]++kp l Kw):=rg
def c5l30:ICode:=(.seq (.seq c5k50 c5s49) c5s48)
def c5s51:ICode:=(.block 0 (.loop c5l30))
@[simp] theorem uc5s51:U c5s51 (.block 0 (.loop c5l30)):=ur
def c5r52:List Seg:=[
 zo 15 (.mv (.c (.int .i64 0)))]
def c5k52:ICode:=.kill 211 XG (.ops c5r52)
@[simp] theorem uc5k52:X0 F cx k l rows low r 211 c5k52↔Y0 F cx k r rows low 211 ([(15,(.int .i64 0))]++kp l XG):=rg
def c5s53:ICode:=(.seq (.seq c5k52 c5s51) c5s29)
@[simp] theorem uc5s53:U c5s53 (.seq (.seq c5k52 c5s51) c5s29):=ur
def c5r54:List Seg:=[
 zo 68 (.loadN 3 (.t 7)),
 zo 69 (.call [] (.c (.func 31 [])) [(.t 68)]),
 zm 14 69]
def c5k54:ICode:=.kill 211 Q9 (.ops c5r54)
@[simp] theorem uc5k54:X0 F cx k l rows low r 211 c5k54↔eb rows (.loadN 3 (cl l 7)) fun v0=>bnd (Ret F 31 [v0] rows) fun q1=>Y0 F cx k r q1.2.1 (AC low q1.2.2) 211 ([(14,q1.1),(69,q1.1),(68,v0)]++kp l Q9):=rg
def c5s55:ICode:=(.seq c5k54 c5s53)
@[simp] theorem uc5s55:U c5s55 (.seq c5k54 c5s53):=ur
def c5r56:List Seg:=[
 zo 6 (.mv (.c (.bool false)))]
def c5k56:ICode:=.kill 211 [] (.ops c5r56)
@[simp] theorem uc5k56:X0 F cx k l rows low r 211 c5k56↔Y0 F cx k r rows low 211 [(6,(.bool false))]:=rg
def c5s57:ICode:=(.cond (.t 67) (.seq c5k56 .ret) .skip)
@[simp] theorem uc5s57:U c5s57 (.cond (.t 67) (.seq c5k56 .ret) .skip):=ur
def c5r58:List Seg:=[
 zm 47 11,
 zo 48 (.bin .neq (.t 47) (.c (.int .i64 0))),
 zm 49 48,
 .one ⟨some 50,.mv (.t 13),some (49,false)⟩,
 .one ⟨some 51,.bin .neq (.t 50) (.c (.int .i64 0)),some (49,false)⟩,
 zo 52 (.pick (.t 49) (.c (.bool true)) (.t 51)),
 zm 53 52,
 .one ⟨some 54,.mv (.t 10),some (53,false)⟩,
 .one ⟨some 55,.fieldA 0 (.t 7),some (53,false)⟩,
 .one ⟨some 56,.load1 (.t 55),some (53,false)⟩,
 .one ⟨some 57,.call [] (.c (.func 30 [])) [(.t 54),(.t 56)],some (53,false)⟩,
 .one ⟨some 58,.un .not (.t 57),some (53,false)⟩,
 zo 59 (.pick (.t 53) (.c (.bool true)) (.t 58)),
 zm 60 59,
 .one ⟨some 61,.idxA 3 1 (.t 12) (.c (.int .i64 0)),some (60,false)⟩,
 .one ⟨some 62,.load1 (.t 61),some (60,false)⟩,
 .one ⟨some 63,.mv (.t 9),some (60,false)⟩,
 .one ⟨some 64,.len 0 (.t 63),some (60,false)⟩,
 .one ⟨some 65,.call [] (.c (.func 30 [])) [(.t 62),(.t 64)],some (60,false)⟩,
 .one ⟨some 66,.un .not (.t 65),some (60,false)⟩,
 zo 67 (.pick (.t 60) (.c (.bool true)) (.t 66))]
def c5k58:ICode:=.kill 211 Yp (.ops c5r58)
@[simp] theorem uc5k58:X0 F cx k l rows low r 211 c5k58↔eb rows (.bin .neq (cl l 11) (ci 0)) fun v0=>bnd (gv v0 false (evP rows (.mv (cl l 13)))) fun v1=>bnd (gv v0 false (evP rows (.bin .neq (.c v1) (ci 0)))) fun v2=>eb rows (.pick (.c v0) (.c (.bool true)) (.c v2)) fun v3=>bnd (gv v3 false (evP rows (.mv (cl l 10)))) fun v4=>bnd (gv v3 false (evP rows (.fieldA 0 (cl l 7)))) fun v5=>bnd (gv v3 false (evP rows (.load1 (.c v5)))) fun v6=>CF F v3 false rows low [v4,v6] [] (.func 30 []) fun v7 R7 L7=>bnd (gv v3 false (evP R7 (.un .not (.c v7)))) fun v8=>bnd (evP R7 (.pick (.c v3) (.c (.bool true)) (.c v8))) fun v9=>bnd (gv v9 false (evP R7 (.idxA 3 1 (cl l 12) (ci 0)))) fun v10=>bnd (gv v9 false (evP R7 (.load1 (.c v10)))) fun v11=>bnd (gv v9 false (evP R7 (.mv (cl l 9)))) fun v12=>bnd (gv v9 false (evP R7 (.len 0 (.c v12)))) fun v13=>CF F v9 false R7 L7 [v11,v13] [] (.func 30 []) fun v14 R14 L14=>bnd (gv v9 false (evP R14 (.un .not (.c v14)))) fun v15=>bnd (evP R14 (.pick (.c v9) (.c (.bool true)) (.c v15))) fun v16=>Y0 F cx k r R14 L14 211 ([(67,v16),(66,v15),(65,v14),(64,v13),(63,v12),(62,v11),(61,v10),(60,v9),(59,v9),(58,v8),(57,v7),(56,v6),(55,v5),(54,v4),(53,v3),(52,v3),(51,v2),(50,v1),(49,v0),(48,v0),(47,lk l 11)]++kp l Yp):=rg
def c5s59:ICode:=(.seq (.seq c5k58 c5s57) c5s55)
@[simp] theorem uc5s59:U c5s59 (.seq (.seq c5k58 c5s57) c5s55):=ur
def c5r60:List Seg:=[
 zo 42 (.loadN 3 (.t 8)),
 zm 43 9,
 zo 44 (.call [] (.c (.func 23 [])) [(.t 42),(.t 43)]),
 zm 41 44,
 zo 45 (.ext (.t 41) 0),
 zo 46 (.ext (.t 41) 1),
 zo 12 (.box (.c (.agg [.nilslice,.nilslice,.nilslice]))),
 .one ⟨none,.storeN 3 (.t 12) (.t 45),none⟩,
 zm 13 46]
def c5k60:ICode:=.kill 211 Yv (.ops c5r60)
@[simp] theorem uc5k60:X0 F cx k l rows low r 211 c5k60↔eb rows (.loadN 3 (cl l 8)) fun v0=>bnd (Ret F 23 [v0,lk l 9] rows) fun q1=>bnd (evP q1.2.1 (.ext (.c q1.1) 0)) fun v2=>bnd (evP q1.2.1 (.ext (.c q1.1) 1)) fun v3=>bnd (evE q1.2.1 (AC low q1.2.2) (.box (.c (.agg [.nilslice,.nilslice,.nilslice])))) fun q4=>bnd (evE q4.2.1 q4.2.2 (.storeN 3 (.c q4.1) (.c v2))) fun q5=>Y0 F cx k r q5.2.1 q5.2.2 211 ([(13,v3),(12,q4.1),(46,v3),(45,v2),(41,q1.1),(44,q1.1),(43,lk l 9),(42,v0)]++kp l Yv):=rg
def c5s61:ICode:=(.seq c5k60 c5s59)
@[simp] theorem uc5s61:U c5s61 (.seq c5k60 c5s59):=ur
def c5r62:List Seg:=[
 zo 36 (.loadN 3 (.t 8)),
 zm 37 9,
 zo 38 (.call [] (.c (.func 24 [])) [(.t 36),(.t 37)]),
 zm 35 38,
 zo 39 (.ext (.t 35) 0),
 zo 40 (.ext (.t 35) 1),
 zm 10 39,
 zm 11 40]
def c5k62:ICode:=.kill 211 XI (.ops c5r62)
@[simp] theorem uc5k62:X0 F cx k l rows low r 211 c5k62↔eb rows (.loadN 3 (cl l 8)) fun v0=>bnd (Ret F 24 [v0,lk l 9] rows) fun q1=>bnd (evP q1.2.1 (.ext (.c q1.1) 0)) fun v2=>bnd (evP q1.2.1 (.ext (.c q1.1) 1)) fun v3=>Y0 F cx k r q1.2.1 (AC low q1.2.2) 211 ([(11,v3),(10,v2),(40,v3),(39,v2),(35,q1.1),(38,q1.1),(37,lk l 9),(36,v0)]++kp l XI):=rg
def c5s63:ICode:=(.seq c5k62 c5s61)
@[simp] theorem uc5s63:U c5s63 (.seq c5k62 c5s61):=ur
def c5r64:List Seg:=[
 zm 30 1,
 zo 31 (.fieldA 1 (.t 7)),
 zo 32 (.load1 (.t 31)),
 zo 33 (.len 0 (.t 32)),
 zo 34 (.call [] (.c (.func 20 [])) [(.t 30),(.t 33)]),
 zm 9 34]
def c5k64:ICode:=.kill 211 XP (.ops c5r64)
@[simp] theorem uc5k64:X0 F cx k l rows low r 211 c5k64↔eb rows (.fieldA 1 (cl l 7)) fun v0=>eb rows (.load1 (.c v0)) fun v1=>eb rows (.len 0 (.c v1)) fun v2=>bnd (Ret F 20 [lk l 1,v2] rows) fun q3=>Y0 F cx k r q3.2.1 (AC low q3.2.2) 211 ([(9,q3.1),(34,q3.1),(33,v2),(32,v1),(31,v0),(30,lk l 1)]++kp l XP):=rg
def c5s65:ICode:=(.seq c5k64 c5s63)
@[simp] theorem uc5s65:U c5s65 (.seq c5k64 c5s63):=ur
def c5r66:List Seg:=[
 zo 28 (.loadN 3 (.t 7)),
 zo 29 (.call [] (.c (.func 17 [])) [(.t 28)]),
 zo 8 (.box (.c (.agg [.int .i64 0,.nilslice,.nilslice]))),
 .one ⟨none,.storeN 3 (.t 8) (.t 29),none⟩]
def c5k66:ICode:=.kill 211 Eh (.ops c5r66)
@[simp] theorem uc5k66:X0 F cx k l rows low r 211 c5k66↔eb rows (.loadN 3 (cl l 7)) fun v0=>bnd (Ret F 17 [v0] rows) fun q1=>bnd (evE q1.2.1 (AC low q1.2.2) (.box (.c (.agg [.int .i64 0,.nilslice,.nilslice])))) fun q2=>bnd (evE q2.2.1 q2.2.2 (.storeN 3 (.c q2.1) (.c q1.1))) fun q3=>Y0 F cx k r q3.2.1 q3.2.2 211 ([(8,q2.1),(29,q1.1),(28,v0)]++kp l Eh):=rg
def c5s67:ICode:=(.seq c5k66 c5s65)
@[simp] theorem uc5s67:U c5s67 (.seq c5k66 c5s65):=ur
def c5r68:List Seg:=[
 zo 26 (.loadN 3 (.t 3)),
 zo 27 (.call [] (.c (.func 15 [])) [(.t 26)]),
 zo 7 (.box (.c (.agg [.int .i64 0,.nilslice,.nilslice]))),
 .one ⟨none,.storeN 3 (.t 7) (.t 27),none⟩]
def c5k68:ICode:=.kill 211 FM (.ops c5r68)
@[simp] theorem uc5k68:X0 F cx k l rows low r 211 c5k68↔eb rows (.loadN 3 (cl l 3)) fun v0=>bnd (Ret F 15 [v0] rows) fun q1=>bnd (evE q1.2.1 (AC low q1.2.2) (.box (.c (.agg [.int .i64 0,.nilslice,.nilslice])))) fun q2=>bnd (evE q2.2.1 q2.2.2 (.storeN 3 (.c q2.1) (.c q1.1))) fun q3=>Y0 F cx k r q3.2.1 q3.2.2 211 ([(7,q2.1),(27,q1.1),(26,v0)]++kp l FM):=rg
def c5s69:ICode:=(.seq c5k68 c5s67)
@[simp] theorem uc5s69:U c5s69 (.seq c5k68 c5s67):=ur
def c5r70:List Seg:=[
 zo 3 (.box (.t 0)),
 zo 6 (.mv (.c (.bool false)))]
def c5k70:ICode:=.kill 211 qq1 (.ops c5r70)
@[simp] theorem uc5k70:X0 F cx k l rows low r 211 c5k70↔bnd (evE rows low (.box (cl l 0))) fun q0=>Y0 F cx k r q0.2.1 q0.2.2 211 ([(6,(.bool false)),(3,q0.1)]++kp l qq1):=rg
@[simp] abbrev Kc5l2:List Itm:=.inLoop c5l2::.inBlock 4::.code c5s1::[]
def Lc5l2(F:Nat->Option IFn)(cx:Ctx)(x7 x9 x10 x12 x18 x20 x21 x22:AV)(rows:List Row)(low:Nat)(r:AV×List Row×Nat->Prop):Prop:=Ex F cx (.code c5l2::Kc5l2) ⟨mk 211 [(7,x7),(9,x9),(10,x10),(12,x12),(18,x18),(20,x20),(21,x21),(22,x22)],rows,low⟩ r
@[simp] theorem nc5l2:Ex F cx (Kc5l2) ⟨mk 211 l,rows,low⟩ r↔Lc5l2 F cx (lk l 7) (lk l 9) (lk l 10) (lk l 12) (lk l 18) (lk l 20) (lk l 21) (lk l 22) rows low r:=AA (keep:=HB) (by kernel_rfl)
@[simp] theorem uc5l2:U c5l2 (.seq (.seq c5k18 c5s17) c5s16):=ur
@[simp] abbrev Kc5l30:List Itm:=.inLoop c5l30::.inBlock 0::.code c5s29::[]
@[simp] abbrev Kc5l36:List Itm:=.inLoop c5l36::.inBlock 2::.code c5s35::.inBlock 1::.code c5k31::Kc5l30
def Lc5l36(F:Nat->Option IFn)(cx:Ctx)(x2 x7 x8 x9 x10 x12 x14 x15 x16 x17:AV)(rows:List Row)(low:Nat)(r:AV×List Row×Nat->Prop):Prop:=Ex F cx (.code c5l36::Kc5l36) ⟨mk 211 [(2,x2),(7,x7),(8,x8),(9,x9),(10,x10),(12,x12),(14,x14),(15,x15),(16,x16),(17,x17)],rows,low⟩ r
@[simp] theorem nc5l36:Ex F cx (Kc5l36) ⟨mk 211 l,rows,low⟩ r↔Lc5l36 F cx (lk l 2) (lk l 7) (lk l 8) (lk l 9) (lk l 10) (lk l 12) (lk l 14) (lk l 15) (lk l 16) (lk l 17) rows low r:=AA (keep:=Hu) (by kernel_rfl)
@[simp] theorem uc5l36:U c5l36 (.seq (.seq c5k43 c5s42) c5s41):=ur
def Lc5l30(F:Nat->Option IFn)(cx:Ctx)(x2 x7 x8 x9 x10 x12 x14 x15:AV)(rows:List Row)(low:Nat)(r:AV×List Row×Nat->Prop):Prop:=Ex F cx (.code c5l30::Kc5l30) ⟨mk 211 [(2,x2),(7,x7),(8,x8),(9,x9),(10,x10),(12,x12),(14,x14),(15,x15)],rows,low⟩ r
@[simp] theorem nc5l30:Ex F cx (Kc5l30) ⟨mk 211 l,rows,low⟩ r↔Lc5l30 F cx (lk l 2) (lk l 7) (lk l 8) (lk l 9) (lk l 10) (lk l 12) (lk l 14) (lk l 15) rows low r:=AA (keep:=Kw) (by kernel_rfl)
@[simp] theorem uc5l30:U c5l30 (.seq (.seq c5k50 c5s49) c5s48):=ur
def c5b:ICode:=(.seq c5k70 c5s69)
@[simp] theorem uc5b:U c5b (.seq c5k70 c5s69):=ur
def c5:IFn:=⟨211,[.t 6],c5b⟩
def h5:List (Nat×Nat×List Nat):=[(0,(211,[0,1,2])),(1,(211,[1,2,3])),(2,(211,[1,2,7])),(3,(211,[1,2,7,8])),(4,(211,[2,7,8,9])),(5,(211,[2,7,8,9,10,11])),(6,(211,[2,7,8,9,10,11,12,13])),(7,(211,[])),(8,(211,[2,7,8,9,10,12])),(9,(211,[2,7,8,9,10,12,14])),(10,(211,[2,7,8,9,10,12,14,15])),(12,(211,[2,7,8,9,10,12,14,15])),(13,(211,[2,7,8,9,10,12,14,15,16])),(14,(211,[2,7,8,9,10,12,14,15,16,17])),(16,(211,[2,7,8,9,10,12,14,15,16,17])),(17,(211,[2,7,8,9,10,12,14,15,16,17])),(15,(211,[2,7,8,9,10,12,14,15,16,17])),(18,(211,[2,7,8,9,10,12,14,15,16])),(19,(211,[])),(11,(211,[2,7,8,9,10,12,14,15])),(20,(211,[2,7,8,9,10,12])),(21,(211,[7,9,10,12,18,19])),(22,(211,[])),(23,(211,[7,9,10,12,18])),(24,(211,[7,9,10,12,18,20,21])),(25,(211,[7,9,10,12,18,20,21,22])),(27,(211,[7,9,10,12,18,20,21,22])),(28,(211,[7,9,10,12,18,20,21,22,23,24])),(29,(211,[7,9,10,12,18,20,21,22,25])),(30,(211,[])),(31,(211,[7,9,10,12,18,20,21,22,25])),(32,(211,[7,9,10,12,18,20,21,22,25])),(33,(211,[7,9,10,12,18,20,21,22])),(26,(211,[7,9,10,12,18,20,21,22])),(34,(211,[20,21]))]
theorem i5{x0 x1 x2:AV}(hF:F 5=some c5){q:AV×List Row×Option Nat}(h:Ex F (.fn [.t 6]) [.code c5b] ⟨mk 211 [(0,x0),(1,x1),(2,x2)],rows,rows.length⟩ fun r=>fin rows r.1 r.2.1 r.2.2=q):Ret F 5 [x0,x1,x2] rows=some q:=Av hF h
end Go.Abs
namespace Go.Abs
abbrev G5':Nat->Option IFn:=more F 5 c5
theorem Jv{f:Nat}{vs:List AV}{rows:List Row}{q:AV×List Row×Option Nat}(h:Ret F f vs rows=some q):Ret G5' f vs rows=some q:=TZ (RD (by kernel_rfl)) h
abbrev C5:Ctx:=.fn [.t 6]
section
variable {B:List Row}{N low a5:Nat}{ev pv x2 x8 x9 x10 x12 x14:AV}{h:Nat->Rat}{f:Nat->Nat}{pl:List Int}{r:AV×List Row×Nat->Prop}{L v:Nat}
theorem Y4(hN:N<=6)(rx:Ae B a5=some [.int .i64 N,ev,pv])(hH:FrL B x10 h N)(hp:IsL B x14 pl)(hpl:pl.length=N)(hpf:∀u,u<N->gI pl u=(f u:Int))(hv:v<N)(hh:∀j,dn (h j) L 300000000)(hL:L<=1000000)(hlow:low<=B.length)
  (hc:∀(sl:List (Nat×AV)),lk sl 2=x2->lk sl 7 = .ptr a5 0->lk sl 8=x8->lk sl 9=x9->lk sl 10=x10->lk sl 12=x12->lk sl 14=x14->lk sl 15 = .int .i64 v->lk sl 16 = .ptr B.length 0->
   Ex G5' C5 [.code c5s35,.inBlock 1,.code c5k31,.inLoop c5l30,.inBlock 0,.code c5s29] ⟨mk 211 sl,B++[A9 (sP f h (f v) N)],low⟩ r):
  ∀(d i:Nat),N-i=d->i<=N->Lc5l36 G5' C5 x2 (.ptr a5 0) x8 x9 x10 x12 x14 (.int .i64 v) (.ptr B.length 0) (.int .i64 i) (B++[A9 (sP f h (f v) i)]) low r:=by
 intro d
 induction d with
 |zero=>
  intro i hd hi;have e:i=N:=by omega
  subst e;have rx':=Ah rx [A9 (sP f h (f v) i)];unfold Lc5l36;simp[rx',-uc5s35];refine hc _ ?_ ?_ ?_ ?_ ?_ ?_ ?_ ?_ ?_<;>simp
 |succ d ih=>
  intro i hd hi0;have hi:i<N:=by omega
  have hwi:IntKind.i64.wrap ((i:Int)+1)=((i+1:Nat):Int):=wS (by omega);have rx':=Ah rx [A9 (sP f h (f v) i)];have hp':=Al hp [A9 (sP f h (f v) i)];have ix:=B7 hp' (show i<pl.length by omega);have ld:=F0 hp' (show i<pl.length by omega);have iy:=B7 hp' (show v<pl.length by omega);have ly:=F0 hp' (show v<pl.length by omega);rw[Add]at ix iy;rw[hpf i hi]at ld;rw[hpf v hv]at ly;have hih:=ih (i+1) (by omega) (by omega)
  by_cases c:f i=f v
  ·have hs:=W5 (f:=f) (w:=f v) hh i
   have hMX:MX=9223372036854775807:=rfl;have hB:(B++[A9 (sP f h (f v) i)])[B.length]?=some (A9 (sP f h (f v) i)):=by simp
   have l1:=JC hB;have hH':=Ag hH [A9 (sP f h (f v) i)];have ih2:=B7 hH' hi;have l2:=Ei hH' hi;have st:=Kz (low:=low) (q':=sP f h (f v) i+h i) hB;have radd:=Jv (Kh (rows:=B++[A9 (sP f h (f v) i)]) (f:=sP f h (f v) i) (g:=h i) (L:=L) hs.d (hh i).d hs.L0 (by omega) (by have:=hs.b;have:=(hh i).b;omega));have hset:∀y,(B++[A9 (sP f h (f v) i)]).set B.length y=B++[y]:=fun y=>by rw[AcW _ _ (AcE _)];simp
   have hlw:Ab low B.length=low:=Ac hlow;rw[hset,hlw]at st;have e1:sP f h (f v) i+h i=sP f h (f v) (i+1):=by
    show _=sP f h (f v) i+(if f i=f v then h i else 0)
    rw[if_pos c]
   rw[e1]at st radd;unfold Lc5l36;simp[-Ax,rx',hi,ix,ld,iy,ly,c,l1,l2,ih2,radd,st,hwi];simpa using hih
  ·have hne:¬((f i:Int)=(f v:Int)):=by omega
   have e1:sP f h (f v) (i+1)=sP f h (f v) i:=by
    show sP f h (f v) i+(if f i=f v then h i else 0)=_;rw[if_neg c];grind
   rw[e1]at hih;unfold Lc5l36;simp[rx',hi,ix,ld,iy,ly,hne,hwi];simpa using hih
theorem XD(hN:N<=6)(rx:Ae B a5=some [.int .i64 N,ev,pv])(hH:FrL B x10 h N)(hp:IsL B x14 pl)(hpl:pl.length=N)(hpf:∀u,u<N->gI pl u=(f u:Int))(hh:∀j,dn (h j) L 300000000)(hL:L<=1000000)(hlow:low<=B.length)(hz:∀v,v<N->sP f h (f v) N=0)
  (hc:∀(M:List Row) (sl:List (Nat×AV)),lk sl 2=x2->lk sl 7 = .ptr a5 0->lk sl 8=x8->lk sl 9=x9->lk sl 10=x10->lk sl 12=x12->Ex G5' C5 [.code c5s29] ⟨mk 211 sl,B++M,low⟩ r):
  ∀(d v:Nat) (M:List Row),N-v=d->v<=N->Lc5l30 G5' C5 x2 (.ptr a5 0) x8 x9 x10 x12 x14 (.int .i64 v) (B++M) low r:=by
 intro d
 induction d with
 |zero=>
  intro v M hd hv;have e:v=N:=by omega
  subst e;have rx':=Ah rx M;unfold Lc5l30;simp[rx',-uc5s29];refine hc M _ ?_ ?_ ?_ ?_ ?_ ?_<;>simp
 |succ d ih=>
  intro v M hd hv0;have hv:v<N:=by omega
  have hwv:IntKind.i64.wrap ((v:Int)+1)=((v+1:Nat):Int):=wS (by omega);have rx':=Ah rx M
  have l36:=Y4 (low:=low) (x2:=x2) (x8:=x8) (x9:=x9) (x12:=x12) (r:=r) hN rx' (hH.app M) (Al hp M) hpl hpf hv hh hL (by simp;omega) (fun sl t2 t7 t8 t9 t10 t12 t14 t15 t16=>by
   rw[hz v hv];have hb:Ae (B++M++[A9 0]) (B++M).length=some [.int .i64 0,.int .i64 1]:=B6;have i02:AI 0 2=some 0:=rfl;have hih:=ih (v+1) (M++[A9 0]) (by omega) (by omega);simp only[AcL,AcO]at hb t16 hih ⊢;simp[t2,t7,t8,t9,t10,t12,t14,t15,t16,i02,hb,hwv]
   simpa using hih) N 0 rfl (AcX _)
  have hs0:sP f h (f v) 0=0:=rfl;have ho:A9 0 = .cells [.int .i64 0,.int .i64 1]:=rfl;rw[hs0,ho]at l36;have hfill:Ap (Ak []) [(0,1,.c (.int .i64 0)),(1,1,.c (.int .i64 1))] [.int .i64 0,.int .i64 0]=some [.int .i64 0,.int .i64 1]:=rfl;have hlwR:Ab low (B.length+M.length)=low:=Ac (by omega);have hce:∀vs:List AV,cells? (B++(M++[Row.cells vs])) (B.length+M.length)=some vs:=fun vs=>by
   have:=DE (B:=B++M) (vs:=vs);simp only[AcL,AcO]at this;exact this
  have hse:∀(vs:List AV) (y:Row),(B++(M++[Row.cells vs])).set (B.length+M.length) y=B++(M++[y]):=fun vs y=>by
   rw[AcW _ _ (by omega),AcS,AcW _ _ (AcE _),Ac8]
   rfl
  unfold Lc5l30;simp[rx',hv,hfill,hce,hse,splice,hlwR];simpa using l36
end
def wrs(fl cl:List Int):Nat->Int
 |0=>0
 |k+1=>wrs fl cl k+(gI fl k-gI cl k)*(gI fl k-gI cl k)
theorem Xu{x:Int}{b:Nat}(h : -(b:Int)<=x/\x<=b):0<=x*x/\x*x<=((b*b:Nat):Int):=by
 have e:=Int.natAbs_mul_self (a:=x);have h1:x.natAbs<=b:=by omega
 have h2:=Ac1 h1 h1;rw[<-e];omega
theorem Po{fl cl:List Int}{m:Nat}(h:∀i,i<m -> -300<=gI fl i-gI cl i/\gI fl i-gI cl i<=300):∀k,k<=m->0<=wrs fl cl k/\wrs fl cl k<=90000*(k:Int)
 |0,_=>by simp[wrs]
 |
  k+1,hk=>by
  have h1:=Po h k (by omega);have h2:=Xu (b:=300) (h k (by omega));unfold wrs;omega
theorem Ta{fl cl:List Int}:∀k,((wrs fl cl k:Int):Rat)=szq (fun e=>fq fl e-fq cl e) k
 |0=>rfl
 |
  k+1=>by
  show((wrs fl cl k+(gI fl k-gI cl k)*(gI fl k-gI cl k):Int):Rat)=szq _ k+(fq fl k-fq cl k)*(fq fl k-fq cl k);rw[<-Ta k,AdY,Adi,Rat.intCast_sub]
  rfl
section
variable {B:List Row}{N low a5 P:Nat}{ev pv x9 x10 x18 p0 p1 p2:AV}{h:Nat->Rat}{ks:List Nat}{fl cl:List Int}{r:AV×List Row×Nat->Prop}{L:Nat}
theorem Xx(rx:Ae B a5=some [.int .i64 N,ev,pv])(he:El B 2 ev (Ad .i64 (eC ks)) ks.length)(hk10:ks.length<=10)(hkb:∀k,k<ks.length->gN ks k/6<N/\gN ks k%6<N)
  (hf:IsL B x9 fl) (hfl:fl.length=ks.length) (hH:FrL B x10 h N) (rP:Ae B P=some [p0,p1,p2]) (hp0:FrL B p0 (dfl h ks) ks.length) (hcl:IsL B x18 cl) (hcll:cl.length=ks.length)
  (hcb:∀i,i<ks.length -> -200<=gI cl i/\gI cl i<=200) (hfb:∀i,i<ks.length -> -100<=gI fl i/\gI fl i<=100) (hh:∀j,dn (h j) L 300000000) (hL:L<=1000000) (hlow:low<=B.length)
  {Q:Nat->Rat} (hQ:∀e,Q e=fq fl e-dfl h ks e) (hz:Szd Q ks.length)
  (hc:∀(M:List Row) (sl:List (Nat×AV)),lk sl 20 = .ptr B.length 0->lk sl 21 = .int .i64 (wrs fl cl ks.length)->Ex G5' C5 [.code c5s1] ⟨mk 211 sl,B++A9 (szq Q ks.length)::M,low⟩ r):
  ∀(d k:Nat) (M:List Row),ks.length-k=d->k<=ks.length->
   Lc5l2 G5' C5 (.ptr a5 0) x9 x10 (.ptr P 0) x18 (.ptr B.length 0) (.int .i64 (wrs fl cl k)) (.int .i64 k) (B++A9 (szq Q k)::M) low r:=by
 obtain⟨L2,hL2,hs1,hs2⟩:=hz.sum;have hmul:=fun e he=>hz.mul (e:=e) he
 have hwb:=Po (fl:=fl) (cl:=cl) (m:=ks.length) (fun i hi=>by have:=hcb i hi;have:=hfb i hi;omega);have hMX:MX=9223372036854775807:=rfl;intro d
 induction d with
 |zero=>
  intro k M hd hk;have e:k=ks.length:=by omega
  subst e;have ln:=DZ (Al hf (A9 (szq Q ks.length)::M));rw[hfl]at ln;unfold Lc5l2;simp[ln,-uc5s1];refine hc M _ ?_ ?_<;>simp
 |succ d ih=>
  intro k M hd hk0;have hk:k<ks.length:=by omega
  have hwk:IntKind.i64.wrap ((k:Int)+1)=((k+1:Nat):Int):=wS (by omega);obtain⟨R,hR⟩:∃R,R=B++A9 (szq Q k)::M:=⟨_,rfl⟩
  have hap:∀X,R++X=B++(A9 (szq Q k)::M++X):=fun X=>by rw[hR,AcL]
  have hRl:B.length<R.length:=by rw[hR];simp
  have ln:=DZ (Al hf (A9 (szq Q k)::M));rw[hfl,<-hR]at ln;obtain⟨g1,g2⟩:=hkb k hk;obtain⟨ea,eb⟩:=KI hk;have hel:=Ey ks;have rx':=Ah rx (A9 (szq Q k)::M);rw[<-hR]at rx';have he':=Ag he (A9 (szq Q k)::M);rw[<-hR]at he';have ixe:=B7 he' hk;have lda:=F0 he' (j:=k*2) (by omega);have ldb:=F0 he' (j:=k*2+1) (by omega);rw[ea]at lda;rw[eb,<-Nat.add_assoc]at ldb;have hd1:∃a b,gN ks k/6=a/\gN ks k%6=b/\dfl h ks k=h b-h a:=⟨_,_,rfl,rfl,rfl⟩
  obtain⟨a,b,e1,e2,e3⟩:=hd1;rw[e1]at lda g1;rw[e2]at ldb g2;have hHR:∀X,FrL (R++X) x10 h N:=fun X=>by rw[hap];exact hH.app _
  have hH0:=hHR [];rw[AcV]at hH0;have ixa:=B7 hH0 g1;have ixb:=B7 hH0 g2;have lha:=Ei hH0 g1;have lhb:=Ei hH0 g2;have hsma:=IM (hh a) (show L<=MX by omega) (show 300000000<=MX by omega);have rs1:=fun R:List Row=>Jv (PU (rows:=R) (f:=h b) (g:=h a) (L:=L) (hh b).d (hh a).d (hh a).L0 (by omega) (by have:=(hh b).b;have:=(hh a).b;omega) hsma)
  rw[<-e3]at rs1;have hdn:=PJ (ks:=ks) hh k;have hdq:Q k=((gI fl k:Int):Rat)-dfl h ks k:=hQ k;have hsmd:=IM hdn (show L<=MX by omega) (show 600000000<=MX by omega);have hfdn:dn ((gI fl k:Int):Rat) L (100*L):=FH (hh 0).L0 (Ady _ (by have:=hfb k hk;omega));have rs2:=fun R:List Row=>Jv (PU (rows:=R) (f:=((gI fl k:Int):Rat)) (g:=dfl h ks k) (L:=L) hfdn.d hdn.d (hh a).L0 (by omega) (by have:=hfdn.b;have:=hdn.b;omega) hsmd)
  rw[<-hdq,SM]at rs2;have rm:=fun R:List Row=>Jv (Uh (rows:=R) (f:=Q k) (g:=Q k) (hmul k hk).1 (hmul k hk).2)
  have d1:=hs1 k (by omega);have d2:=hs2 k hk;have ra:=fun R:List Row=>Jv (Kh (rows:=R) (f:=szq Q k) (g:=Q k*Q k) (L:=L2) d1.d d2.d d1.L0 (by omega) (by have:=d1.b;have:=d2.b;omega))
  have esz:szq Q k+Q k*Q k=szq Q (k+1):=rfl;rw[esz]at ra;have hih:=ih (k+1) (M++[A9 (Q k)]) (by omega) (by omega)
  -- the rows
  have rPR:∀X,Ae (R++X) P=some [p0,p1,p2]:=fun X=>by rw[hap];exact Ah rP _
  have hpR:=fun X=>(show FrL (R++X) p0 (dfl h ks) ks.length from by rw[hap];exact hp0.app _)
  have ixp:=fun X=>B7 (hpR X) hk
  have ldp:=fun X=>Ei (hpR X) hk
  have hfR:=fun X=>(show IsL (R++X) x9 fl from by rw[hap];exact Al hf _)
  have ixf:=fun X=>B7 (hfR X) (show k<fl.length by omega)
  have ldf:=fun X=>F0 (hfR X) (show k<fl.length by omega)
  have hcR:=fun X=>(show IsL (R++X) x18 cl from by rw[hap];exact Al hcl _)
  have ixc:=fun X=>B7 (hcR X) (show k<cl.length by omega)
  have ldc:=fun X=>F0 (hcR X) (show k<cl.length by omega)
  simp only[Add]at ixf ixc;have c1:¬gI cl k < -200:=by have:=hcb k hk;omega
  have c2:¬200<gI cl k:=by have:=hcb k hk;omega
  have lD:∀q,(R++[A9 q])[R.length]?=some (A9 q):=fun q=>by simp
  have l25:=fun q=>JC (lD q)
  have hlw:Ab low R.length=low:=Ac (by omega);have hlwB:Ab low B.length=low:=Ac hlow;have st25:=fun q q'=>Kz (low:=low) (q':=q') (lD q)
  have hsetD:∀q x,(R++[A9 q]).set R.length x=R++[x]:=fun q x=>by rw[AcW _ _ (AcE _),Ac8];rfl
  simp only[hsetD,hlw]at st25;have lB:(R++[A9 (Q k)])[B.length]?=some (A9 (szq Q k)):=by rw[hap,AcG (AcE _),Ac8];rfl
  have l20:=JC lB;have st20:=Kz (low:=low) (q':=szq Q (k+1)) lB;have hsetB:(R++[A9 (Q k)]).set B.length (A9 (szq Q (k+1)))=B++A9 (szq Q (k+1))::(M++[A9 (Q k)]):=by
   rw[hap,AcW _ _ (AcE _),Ac8];rfl
  rw[hsetB,hlwB]at st20;obtain⟨E,hE⟩:∃E,E=B++A9 (szq Q (k+1))::(M++[A9 (Q k)]):=⟨_,rfl⟩
  have hfE:=B7 (show IsL E x9 fl by rw[hE];exact Al hf _) (show k<fl.length by omega);have hfE2:=F0 (show IsL E x9 fl by rw[hE];exact Al hf _) (show k<fl.length by omega);have hcE:=B7 (show IsL E x18 cl by rw[hE];exact Al hcl _) (show k<cl.length by omega);have hcE2:=F0 (show IsL E x18 cl by rw[hE];exact Al hcl _) (show k<cl.length by omega);rw[Add]at hfE hcE;rw[<-hE]at st20 hih;have b1:=hwb k (by omega);have b2:=hwb (k+1) (by omega);have b3:=Xu (x:=gI fl k-gI cl k) (b:=300) (by have:=hcb k hk;have:=hfb k hk;omega);have w1:IntKind.i64.wrap (gI fl k-gI cl k)=gI fl k-gI cl k:=AM (by have:=hcb k hk;have:=hfb k hk;omega) (by have:=hcb k hk;have:=hfb k hk;omega);have w2:IntKind.i64.wrap ((gI fl k-gI cl k)*(gI fl k-gI cl k))=(gI fl k-gI cl k)*(gI fl k-gI cl k):=AM (by omega) (by omega);have w3:IntKind.i64.wrap (wrs fl cl k+(gI fl k-gI cl k)*(gI fl k-gI cl k))=wrs fl cl (k+1):=AM (by omega) (by omega);have hfill:Ap (Ak []) [(0,1,.c (.int .i64 (gI fl k))),(1,1,.c (.int .i64 1))] [.int .i64 0,.int .i64 0]=some [.int .i64 (gI fl k),.int .i64 1]:=rfl;have i02:AI 0 2=some 0:=rfl;have i12:AI 1 2=some 1:=rfl;have i03:AI 0 3=some 0:=rfl;have dm:∀{β:Type} (g:Row->β),List.drop R.length (List.map g R)=[]:=fun g=>Adv (by simp)
  have me:∀b,Ai b []=[]:=fun _=>rfl
  have hbx:∀q,A9 q = .cells [.int .i64 q.num,.int .i64 (q.den:Int)]:=fun _=>rfl
  have heq:eqA (.ints 2) (fr (dfl h ks k)) (fr (dfl h ks k))=some true:=by unfold fr;simp[eqA,Aq]
  have st0:evE (R++[.cells [.int .i64 0,.int .i64 0]]) low (.storeN 2 (.c (.ptr R.length 0)) (.c (fr (dfl h ks k))))=some (.tup [],R++[A9 (dfl h ks k)],low):=by
   unfold fr;rw[Ax];simp only[DE,Ac4];rw[if_pos ⟨rfl,by simp,rfl⟩,hlw,AcW _ _ (AcE _),Ac8]
   rfl
  rw[<-hR];unfold Lc5l2;simp[-Ax,-CE,ln,hk,rx',ixe,lda,ldb,i02,i12,i03,ixa,ixb,lha,lhb,rs1,opC,Aw,Ba,dm,me,st0,l25,rPR,ixp,ldp,heq,ixc,ldc,c1,c2,ixf,ldf,hfill,rs2,st25,l20,rm,ra,st20,hfE,hfE2,hcE,hcE2,w1,w2,w3,hwk,Function.comp_def];simpa using hih
end
structure LawIn(rows:List Row)(g lv:AV)(l:List Int):Prop where
 g:∃(x:Int) (ev pv:AV) (fe fp:List Int) (m0 k0:Nat),g = .agg [.int .i64 x,ev,pv]/\El rows 2 ev (Ad .i64 fe) m0/\m0<=9223372036854775807/\El rows 3 pv (Ad .i64 fp) k0/\k0<=9223372036854775807
 l:IsL rows lv l
theorem GB(rows:List Row)(l:List Int):∃v K,Wr rows 1 (Ad .i64 l) l.length=(v,rows++K,none)/\IsL (rows++K) v l/\Cp 1 v/\K.all (Row.under 0)=true:=by
 have h:=DS (rows:=rows) (H:=[]) (cs:=Ad .i64 l) (n:=l.length) (sz:=1) (by simp[Ad]) (by omega);exact⟨_,_,rfl,h.1,h.2,Ks rfl Bq⟩
section
variable {rows:List Row}
theorem J7{X:List Row}{vs:List AV}(h:Und rows X)(hv:(Row.cells vs).under (rows.length+X.length+1)=true):Und rows (X++[.cells vs]):=Kg h (fun y hy=>by
 simp only[Ado]at hy;subst hy
 simpa using hv)
theorem Fk{N:Int}{ev pv:AV}{b:Nat}(h1:ev.under b=true)(h2:pv.under b=true):(Row.cells [.int .i64 N,ev,pv]).under b=true:=by
 simp[Row.under,AV.under,AV.ids];exact⟨by simpa[AV.under]using h1,by simpa[AV.under]using h2⟩
theorem AN{v:AV}{a b:Nat}(h:v.under a=true)(hab:a<=b):v.under b=true:=by
 have:=BX (y:=.cells [v]) (a:=a) (b:=b) (by simpa[Row.under]using h) hab;simpa[Row.under]using this
theorem Iv{g:AV}{N:Nat}{ks ps:List Nat}(h:GRd rows g N ks ps):∃ev pv,g = .agg [.int .i64 N,ev,pv]/\ev.under rows.length=true/\pv.under rows.length=true/\ev.one=true/\pv.one=true/\El rows 2 ev (Ad .i64 (eC ks)) ks.length:=by
 obtain⟨ev,pv,e,h1,h2,h3⟩:=h.eq;exact⟨ev,pv,e,BV h1,BV h2,An h1,An h2,h1⟩
end
structure Beg(rows:List Row)(gv:AV)(N:Nat)(ks ps:List Nat)(B1 B3 B4:List Row)(ev1 pv1 ev2 pv2:AV):Prop where
 gx:∃(x:Int) (ev pv:AV),gv = .agg [.int .i64 x,ev,pv]/\ev.one=true/\pv.one=true/\Ret F 15 [gv] (rows++[.cells [.int .i64 x,ev,pv]])=some (.agg [.int .i64 N,ev1,pv1],B1,none)/\Ae (rows++[.cells [.int .i64 x,ev,pv]]) rows.length=some [.int .i64 x,ev,pv]
 r17:Ret F 17 [.agg [.int .i64 N,ev1,pv1]] (B1++[.cells [.int .i64 N,ev1,pv1]])=some (.agg [.int .i64 N,ev2,pv2],B3,none)
 o:ev1.one=true/\pv1.one=true/\ev2.one=true/\pv2.one=true
 l1:rows.length<=B1.length
 l3:rows.length<=B3.length
 r2:Ae (B1++[.cells [.int .i64 N,ev1,pv1]]) B1.length=some [.int .i64 N,ev1,pv1]
 e4:B3++[.cells [.int .i64 N,ev2,pv2]]=B4
 rx:Ae B4 B1.length=some [.int .i64 N,ev1,pv1]
 ry:Ae B4 B3.length=some [.int .i64 N,ev2,pv2]
 gx4:GRd B4 (.agg [.int .i64 N,ev1,pv1]) N ks ps
 gy4:GRd B4 (.agg [.int .i64 N,ev2,pv2]) N ks ps
 un:∃Y,B4=rows++Y/\Und rows Y
 gy3:GRd B3 (.agg [.int .i64 N,ev2,pv2]) N ks ps
 gx3:GRd B3 (.agg [.int .i64 N,ev1,pv1]) N ks ps
 u3:∃Y,B3=rows++Y/\Und rows Y
 rx3:Ae B3 B1.length=some [.int .i64 N,ev1,pv1]
theorem Vk{rows:List Row}{gv lv:AV}{l:List Int}(h:LawIn rows gv lv l):∃N ks ps B1 B3 B4 ev1 pv1 ev2 pv2,Beg rows gv N ks ps B1 B3 B4 ev1 pv1 ev2 pv2:=by
 obtain⟨x,ev,pv,fe,fp,m0,k0,rfl,he,hm,hp,hk0⟩:=h.g;have ue:=BV he;have up:=BV hp;have o1:=An he;have o2:=An hp
 -- tame
 obtain⟨R1,hR1⟩:∃R1,R1=rows++[.cells [.int .i64 x,ev,pv]]:=⟨_,rfl⟩
 have hl1:R1.length=rows.length+1:=by simp[hR1]
 have row1:Ae R1 rows.length=some [.int .i64 x,ev,pv]:=by rw[hR1];exact B6
 obtain⟨N,ks,ps,g,X1,r15,u1,g1⟩:=Q0 (rows:=R1) (x:=x) (hR1 ▸ Ag he _) hm (hR1 ▸ Ag hp _) hk0 (by
  rw[hl1];exact⟨AN ue (by omega),AN up (by omega)⟩)
 obtain⟨ev1,pv1,rfl,ue1,up1,oe1,op1,_⟩:=Iv g1;obtain⟨B1,hB1⟩:∃B1,B1=R1++X1:=⟨_,rfl⟩
 rw[<-hB1]at r15 g1 ue1 up1
 have U1:Und rows ([.cells [.int .i64 x,ev,pv]]++X1):=Kg (by
  have:=J7 (rows:=rows) (X:=[]) (vs:=[.int .i64 x,ev,pv]) JO (Fk (AN ue (by simp)) (AN up (by simp)))
  simpa using this) (by rw[<-hR1];exact u1)
 have B1e:B1=rows++([.cells [.int .i64 x,ev,pv]]++X1):=by rw[hB1,hR1];simp
 obtain⟨Y1,hY1⟩:∃Y1,Y1=[Row.cells [.int .i64 x,ev,pv]]++X1:=⟨_,rfl⟩
 rw[<-hY1]at U1 B1e;obtain⟨B2,hB2⟩:∃B2,B2=B1++[.cells [.int .i64 N,ev1,pv1]]:=⟨_,rfl⟩
 have row2:Ae B2 B1.length=some [.int .i64 N,ev1,pv1]:=by rw[hB2];exact B6
 have U2:Und rows (Y1++[.cells [.int .i64 N,ev1,pv1]]):=J7 U1 (by
  have e:B1.length=rows.length+Y1.length:=by rw[B1e];simp
  rw[<-e]
  exact Fk (AN ue1 (by omega)) (AN up1 (by omega)))
 have B2e:B2=rows++(Y1++[.cells [.int .i64 N,ev1,pv1]]):=by rw[hB2,B1e];simp
 have g2:GRd B2 (.agg [.int .i64 N,ev1,pv1]) N ks ps:=by rw[hB2];exact g1.app _
 -- given
 obtain⟨g',X2,r17,u2,g3⟩:=PV (rows:=B2) g2;obtain⟨ev2,pv2,rfl,ue2,up2,oe2,op2,_⟩:=Iv g3;obtain⟨B3,hB3⟩:∃B3,B3=B2++X2:=⟨_,rfl⟩
 rw[<-hB3]at r17 g3 ue2 up2;obtain⟨Y2,hY2⟩:∃Y2,Y2=(Y1++[.cells [.int .i64 N,ev1,pv1]])++X2:=⟨_,rfl⟩
 have U3:Und rows Y2:=by rw[hY2];exact Kg U2 (by rw[<-B2e];exact u2)
 have B3e:B3=rows++Y2:=by rw[hB3,B2e,hY2];simp
 obtain⟨B4,hB4⟩:∃B4,B4=B3++[.cells [.int .i64 N,ev2,pv2]]:=⟨_,rfl⟩
 obtain⟨Y3,hY3⟩:∃Y3,Y3=Y2++[.cells [.int .i64 N,ev2,pv2]]:=⟨_,rfl⟩
 have U4:Und rows Y3:=by
  rw[hY3];refine J7 U3 ?_;have e:B3.length=rows.length+Y2.length:=by rw[B3e];simp
  rw[<-e];exact Fk (AN ue2 (by omega)) (AN up2 (by omega))
 have B4e:B4=rows++Y3:=by rw[hB4,B3e,hY3];simp
 have row4:Ae B4 B3.length=some [.int .i64 N,ev2,pv2]:=by rw[hB4];exact B6
 have row2':Ae B4 B1.length=some [.int .i64 N,ev1,pv1]:=by rw[hB4,hB3];exact Ah (Ah row2 _) _
 have row1':Ae B4 B1.length=some [.int .i64 N,ev1,pv1]:=by rw[hB4,hB3];exact Ah (Ah row2 _) _
 have g4:GRd B4 (.agg [.int .i64 N,ev2,pv2]) N ks ps:=by rw[hB4];exact g3.app _
 have g4':GRd B4 (.agg [.int .i64 N,ev1,pv1]) N ks ps:=by rw[hB4,hB3];exact(g2.app _).app _
 have hlen1:rows.length<=B1.length:=by rw[B1e];simp
 have hlen3:rows.length<=B3.length:=by rw[B3e];simp
 refine⟨N,ks,ps,B1,B3,B4,ev1,pv1,ev2,pv2,⟨x,ev,pv,rfl,o1,o2,by rw[<-hR1];exact r15,by rw[<-hR1];exact row1⟩,by rw[<-hB2];exact r17,⟨oe1,op1,oe2,op2⟩,hlen1,hlen3,by rw[<-hB2];exact row2,hB4.symm,row2',row4,g4',g4,⟨Y3,B4e,U4⟩,g3,by rw[hB3];exact g2.app _,⟨Y2,B3e,U3⟩,by rw[hB3];exact Ah row2 _⟩
section
variable {C:List Row}{low n:Nat}{lv x5 x6:AV}{l:List Int}{r:AV×List Row×Nat->Prop}
end
section
variable {rows E:List Row}{P Q m:Nat}{p0 p1 p2 q0 q1 q2 c d no:AV}{cl dl:List Int}{a0 a1 a2 b0 b1 b2 z:Nat->Rat}{sl:List (Nat×AV)}{r:AV×List Row×Nat->Prop}
end
structure HS(rows C:List Row)(a5 a6 N:Nat)(ks ps:List Nat)(ev1 pv1 ev2 pv2:AV):Prop where
 rx:Ae C a5=some [.int .i64 N,ev1,pv1]
 ry:Ae C a6=some [.int .i64 N,ev2,pv2]
 gx:GRd C (.agg [.int .i64 N,ev1,pv1]) N ks ps
 gy:GRd C (.agg [.int .i64 N,ev2,pv2]) N ks ps
 un:∃Y,C=rows++Y
 gz:GZ C
theorem HS.app{rows C:List Row}{a5 a6 N:Nat}{ks ps:List Nat}{ev1 pv1 ev2 pv2:AV}(h:HS rows C a5 a6 N ks ps ev1 pv1 ev2 pv2)(X:List Row):HS rows (C++X) a5 a6 N ks ps ev1 pv1 ev2 pv2:=by
 obtain⟨h1,h2,h3,h4,⟨Y,h5⟩,h6⟩:=h;exact⟨Ah h1 X,Ah h2 X,h3.app X,h4.app X,⟨Y++X,by rw[h5,AcL]⟩,h6.fx (Fx.app (p:=fun _=>False) X) (by simp)⟩
section
variable {rows C:List Row}{a5 a6 N:Nat}{ks ps:List Nat}{ev1 pv1 ev2 pv2 hv tv:AV}{hl tl:List Int}{sl:List (Nat×AV)}
end
section
variable {rows C:List Row}{a5 a6 N P:Nat}{ks ps:List Nat}{ev1 pv1 ev2 pv2 fv hv lv p0 p1 p2:AV}{fl l:List Int}{sl:List (Nat×AV)}
theorem UM{E:List Row}{A:Nat}{q:Rat}{w:Int}(hA:∀H,Ret F 19 [] (rows++H)=some (.bool true,rows++H,none))(hE:∃Y,E=rows++Y)(hq:E[A]?=some (A9 q))(h0:0<=w)(hw:w*(q.den:Int)<=5000000000000000000)(hle:q<=(w:Rat))
  (s20:lk sl 20 = .ptr A 0) (s21:lk sl 21 = .int .i64 w):
  Ex G5' C5 [.code c5s1] ⟨mk 211 sl,E,rows.length⟩ fun r=>fin rows r.1 r.2.1 r.2.2=(.bool true,rows,none):=by
 have hr:Ae E A=some [.int .i64 q.num,.int .i64 (q.den:Int)]:=by
  unfold Ae;rw[hq]
  rfl
 obtain⟨Y,rfl⟩:=hE;have r19:=Jv (hA Y);have hfin:fin rows (.bool true) (rows++Y) rows.length=(.bool true,rows,none):=by simp
 have i02:AI 0 2=some 0:=rfl;have i12:AI 1 2=some 1:=rfl;have hn:=YY hle;have h1:0<=w*(q.den:Int):=Int.mul_nonneg h0 (by omega);have hwr:IntKind.i64.wrap (w*(q.den:Int))=w*(q.den:Int):=AM (by omega) (by omega);simp[s20,s21,i02,i12,hr,hwr,hn,opC,Aw,Bp,r19,hfin,Function.comp_def]
theorem Sa(hA:∀H,Ret F 19 [] (rows++H)=some (.bool true,rows++H,none))(H0:HS rows C a5 a6 N ks ps ev1 pv1 ev2 pv2)(k1:IsL C fv fl)(gl:fl.length=ks.length)(cB:∀x∈fl,-100<=x/\x<=100)(hH:FrL C hv (bH ks fl N) N)(rP:Ae C P=some [p0,p1,p2])(f0:FrL C p0 (pt0 ks fl N) ks.length)(hl:IsL C lv l)
  (s2:lk sl 2=lv) (s7:lk sl 7 = .ptr a5 0) (s8:lk sl 8 = .ptr a6 0) (s9:lk sl 9=fv) (s10:lk sl 10=hv) (s12:lk sl 12 = .ptr P 0):
  Ex G5' C5 [.code c5s29] ⟨mk 211 sl,C,rows.length⟩ fun r=>fin rows r.1 r.2.1 r.2.2=(.bool true,rows,none):=by
 have hok:=H0.gx.ok;have n6:=hok.n6;have hek:=hok.ek;have nl:(Ct l N).length=N:=by simp[Ct]
 have nb:∀x∈Ct l N,-100<=x/\x<=100:=by
  intro x hx;obtain⟨i,_,rfl⟩:=Ad0.1 hx;exact LB l i
 obtain⟨av,K1,a1,b1,_,d1⟩:=GB C (Ct l N);rw[nl]at a1;have r20:=Jv (E8 hl (m:=N) (by omega));rw[a1]at r20;have H1:=H0.app K1;obtain⟨cv,X1,r33,_,k2,_⟩:=IS H1.gy b1 nl nb;have H2:=H1.app X1;have k1':=Al (Al k1 K1) X1;have hH':=(hH.app K1).app X1;have rP':=Ah (Ah rP K1) X1;have f0':=(f0.app K1).app X1;have cl:(D8 ks (Ct l N)).length=ks.length:=Ik;have cb:=TJ nb (ks:=ks) (fun k hk=>by have:=hok.ee k hk;rw[nl];omega);have ry0:=H0.ry;have rx0:=H0.rx;have ry1:=H1.ry;have lc:=DZ k1';have lcc:=DZ k2;rw[gl]at lc;rw[cl]at lcc;obtain⟨D,hD⟩:∃D,D=C++K1++X1:=⟨_,rfl⟩
 have hlo:rows.length<=D.length:=by obtain⟨Y,e⟩:=H2.un;rw[hD,e];simp
 rw[<-hD]at H2 k1' hH' rP' f0' k2 lc lcc;obtain⟨ev',pv',e',he',hp',_⟩:=id H2.gx.eq;cases e';have hgrad:∀e,e<ks.length->fq (D8 ks (Ct l N)) e=dfl (fun v=>((gI (Ct l N) v:Int):Rat)) ks e:=fun e he=>by
  unfold fq dfl;rw[Rw he,Rat.intCast_sub]
 have hz:=T9 (N:=N) hok gl cB;obtain⟨L1,hL1,hh⟩:=Ry (N:=N) hok gl cB;have hnear:=AbY (N:=N) hok gl cB (fun v=>((gI (Ct l N) v:Int):Rat));have hsz:szq (fun e=>fq fl e-dfl (fun v=>((gI (Ct l N) v:Int):Rat)) ks e) ks.length=((wrs fl (D8 ks (Ct l N)) ks.length:Int):Rat):=by
  rw[Ta];refine Aa fun e he=>?_
  show(fq fl e-dfl (fun v=>((gI (Ct l N) v:Int):Rat)) ks e)*(fq fl e-dfl (fun v=>((gI (Ct l N) v:Int):Rat)) ks e)=(fq fl e-fq (D8 ks (Ct l N)) e)*(fq fl e-fq (D8 ks (Ct l N)) e);rw[hgrad e he]
 rw[hsz]at hnear;have hcb:∀i,i<ks.length -> -200<=gI (D8 ks (Ct l N)) i/\gI (D8 ks (Ct l N)) i<=200:=fun i hi=>cb _ (FT (by rw[cl];exact hi))
 have hfb:∀i,i<ks.length -> -100<=gI fl i/\gI fl i<=100:=fun i hi=>cB _ (FT (by rw[gl];exact hi))
 have hwb:=Po (fl:=fl) (cl:=D8 ks (Ct l N)) (m:=ks.length) (fun i hi=>by have:=hcb i hi;have:=hfb i hi;omega) ks.length (AcE _);have hden:wrs fl (D8 ks (Ct l N)) ks.length*((szq (rst ks fl N) ks.length).den:Int)<=5000000000000000000:=by
  obtain⟨L2,h1,h2,_⟩:=hz.sum;have h3:=(LE (h2 ks.length (AcE _))).2;have h4:wrs fl (D8 ks (Ct l N)) ks.length<=900000:=by omega
  have h5:=Int.mul_le_mul h4 (show((szq (rst ks fl N) ks.length).den:Int)<=5200000000000 by omega) (by omega) (by omega);omega
 have l2:=Xx (B:=D) (low:=rows.length) (r:=fun r=>fin rows r.1 r.2.1 r.2.2=(.bool true,rows,none)) (L:=L1) (Q:=rst ks fl N) (h:=bH ks fl N) H2.rx he' hek (fun k hk=>by have:=hok.ee _ (AH hk);omega) k1' gl hH' rP' f0' k2 cl hcb hfb hh hL1 hlo (fun e=>rfl) hz (fun M sl2 t20 t21=>
  UM hA (by obtain⟨Y,e⟩:=H2.un;exact⟨Y++A9 (szq (rst ks fl N) ks.length)::M,by rw[e,AcL]⟩) (by rw[AcG (AcE _),Ac8];rfl) hwb.1 hden hnear t20 t21) ks.length 0 [] rfl (AcX _)
 have hz0:szq (rst ks fl N) 0=0:=rfl;have ho:A9 0 = .cells [.int .i64 0,.int .i64 1]:=rfl;have hw0:wrs fl (D8 ks (Ct l N)) 0=0:=rfl;rw[hz0,ho,hw0]at l2;have r33':=Jv r33;rw[<-hD]at r33';have hlw:Ab rows.length D.length=rows.length:=Ac hlo;have hfill:Ap (Ak []) [(0,1,.c (.int .i64 0)),(1,1,.c (.int .i64 1))] [.int .i64 0,.int .i64 0]=some [.int .i64 0,.int .i64 1]:=rfl;simp[s2,s7,s8,s9,s10,s12,ry0,rx0,seg,G6,opC,Aw,Bp,r20,r33',lc,lcc,hfill,DE,splice,hlw,Function.comp_def];simpa using l2
end
theorem JV{rows:List Row}{gv lv ov:AV}{l o:List Int}(h:LawIn rows gv lv l)(ho:IsL rows ov o)(hGZ:GZ rows)(hA:∀H,Ret F 19 [] (rows++H)=some (.bool true,rows++H,none)):
  Ret G5' 5 [gv,lv,ov] rows=some (.bool true,rows,none):=by
 obtain⟨N,ks,ps,B1,B3,B4,ev1,pv1,ev2,pv2,hb⟩:=Vk h;obtain⟨⟨x,ev,pv,rfl,o1,o2,r15,row1⟩,r17,⟨oe1,op1,oe2,op2⟩,hl1,hl3,row2,eB4,rx,ry,gx,gy,⟨Y,eY,uY⟩,_⟩:=hb;have hok:=gx.ok;have n6:=hok.n6;have hek:=hok.ek;obtain⟨_,_,eg,eE,eP,_⟩:=id gx.eq;simp only[AV.agg.injEq,List.cons.injEq,and_true,true_and]at eg;obtain⟨rfl,rfl⟩:=eg;have hL4:IsL B4 lv l:=by rw[eY];exact Al h.l _
 have hO4:IsL B4 ov o:=by rw[eY];exact Al ho _
 have H4:HS rows B4 B1.length B3.length N ks ps ev1 pv1 ev2 pv2:=⟨rx,ry,gx,gy,⟨Y,eY⟩,hGZ.fx (by rw[eY];exact Fx.app (p:=fun _=>False) Y) (by simp)⟩
 have nl:(Ct l ks.length).length=ks.length:=by simp[Ct]
 have nb:∀x∈Ct l ks.length,-100<=x/\x<=100:=by
  intro x hx;obtain⟨i,_,rfl⟩:=Ad0.1 hx;exact LB l i
 obtain⟨fv,K1,a1,b1,_,d1⟩:=GB B4 (Ct l ks.length);rw[nl]at a1;have r20:=Jv (E8 hL4 (m:=ks.length) (by omega));rw[a1]at r20;have H5:=H4.app K1;have hO5:=Al hO4 K1;obtain⟨hv,X1,r24,hH⟩:=QT H5.gz H5.gy b1 nl nb;have H6:=H5.app X1;have b2:=Al b1 X1;have hO6:=Al hO5 X1;have ry5:=H5.ry;have ry6:=H6.ry;have rx4:=H4.rx;generalize hC1:B4++K1++X1=C1 at *;obtain⟨q,r23,p0,p1,p2,X2,rfl,f0,f1,f2⟩:=Ok H6.gz H6.gy b2 nl nb;have H7:=(H6.app X2).app [.cells [p0,p1,p2]];have c0:=An f0;have c1:=An f1;have c2:=An f2;have b3:=Al (Al b2 X2) [.cells [p0,p1,p2]];have hO7:=Al (Al hO6 X2) [.cells [p0,p1,p2]];have hH7:=(hH.app X2).app [.cells [p0,p1,p2]];have f0:=f0.app [.cells [p0,p1,p2]];have rP:Ae (C1++X2++[.cells [p0,p1,p2]]) (C1++X2).length=some [p0,p1,p2]:=B6;generalize hC2:C1++X2=C2 at *;have lP:rows.length<=C2.length:=by
  obtain⟨Z,e⟩:=H6.un;rw[<-hC2,e];simp
 generalize hP:C2.length=P at *;generalize hD:C2++[.cells [p0,p1,p2]]=D at *;have r30a:=Jv (Jn hH7 (by omega) (fun i hi=>YK hok nl nb hi));have r30b:=Jv (Jn f0 (by omega) (fun i hi=>VB hok nl nb hi));obtain⟨plv,X3,r31,_,k3,_⟩:=J4 H7.gx;have H8:=H7.app X3;have b4:=Al b3 X3;have hO8:=Al hO7 X3;have hH8:=hH7.app X3;have f0:=f0.app X3;have rP8:=Ah rP X3;have rx7:=H7.rx;generalize hE:D++X3=E at *;have hlow:rows.length<=E.length:=by obtain⟨Z,e⟩:=H8.un;rw[e];simp
 obtain⟨L1,hL1,hh⟩:=Ry (N:=N) hok nl nb;have hpl:(pcS ks N N).length=N:=Hw _
 have l30:=XD (low:=rows.length) (x2:=ov) (x8:=.ptr B3.length 0) (x9:=fv) (x10:=hv) (x12:=.ptr P 0) (x14:=plv) (f:=fo ks N) (pl:=pcS ks N N) (h:=bH ks (Ct l ks.length) N) (L:=L1) (r:=fun r=>fin rows r.1 r.2.1 r.2.2=(.bool true,rows,none)) n6 H8.rx hH8 k3 hpl (fun u hu=>AaT hok hu) hh hL1 hlow (fun v hv=>AaW hok nl nb hv) (fun M sl t2 t7 t8 t9 t10 t12=>
  Sa hA (H8.app M) (Al b4 M) nl nb (hH8.app M) (Ah rP8 M) (f0.app M) (Al hO8 M) t2 t7 t8 t9 t10 t12) N 0 [] rfl (AcX _)
 rw[AcV]at l30;have r15':=Jv r15;have r17':=Jv r17;have r24':=Jv r24;have r23':=Jv r23;have r31':=Jv r31;have low1:Ab rows.length B1.length=rows.length:=Ac hl1;have low3:Ab rows.length B3.length=rows.length:=Ac hl3;have lwP:Ab rows.length P=rows.length:=Ac lP;have lnE4:=AF eE;have lnf:=AF f0;have lnb:=DZ b3;rw[nl]at lnb;have i03:AI 0 3=some 0:=rfl;have hP3:evE (C2++[Row.cells [.nilslice,.nilslice,.nilslice]]) rows.length (.storeN 3 (.c (.ptr P 0)) (.c (.agg [p0,p1,p2])))=some (.tup [],D,rows.length):=by
  rw[<-hP,Ax];simp only[DE,Ac4];rw[if_pos ⟨rfl,by simp,by simp[c0,c1,c2]⟩,hP,lwP,<-hP,AcW _ _ (AcE _),Ac8,<-hD]
  rfl
 refine i5 rfl ?_;have ry5':=H5.ry;simp[o1,o2,row1,seg,r15',low1,oe1,op1,oe2,op2,DE,splice,row2,r17',low3,eB4,rx4,lnE4,G6,opC,Aw,Bp,r20,ry5,r24',hC1,Function.comp_def,-uc5s61];simp[-Ax,ry6,seg,r23',AV.cells,hP,hP3,r30a,r30b,lnf,lnb,rx7,i03,rP,opC,Aw,Bp,r31',Function.comp_def];simpa using l30
end Go.Abs