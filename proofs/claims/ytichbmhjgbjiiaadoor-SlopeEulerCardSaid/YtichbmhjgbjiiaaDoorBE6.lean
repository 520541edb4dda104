/- The texts that the row uses, part 6. -/
import Derived.Test.YtichbmhjgbjiiaaDoorBE5
set_option linter.unusedVariables false
set_option linter.unusedSimpArgs false
set_option maxHeartbeats 32000000
set_option maxRecDepth 100000
namespace Go.Abs
def sT(ks ps:List Nat)(tl:List Int)(i j:Nat):Rat:=if j=10 then((gI tl i:Int):Rat)else((CT ks ps (gN ps i) ks.length j:Int):Rat)
section
variable {B:List Row}{N low:Nat}{ks ps:List Nat}{ev n0 pv x1 x4 x5 x9:AV}{G:Nat}{tl:List Int}{r:AV×List Row×Nat->Prop}
theorem Ut(hGZ:GZ B)(hek:ks.length<=10)(hpk:ps.length<=6)(o0:n0.one=true)(he:El B 2 ev (Ac .i64 (eC ks)) ks.length)(hpv:El B 3 pv (Ac .i64 (pC ps)) ps.length)(hlow:low<=B.length)(hG:Af B G=some [n0,ev,pv])(htl:IsL B x9 tl)(htn:tl.length=ps.length)
  (hc:∀(L:List Row) (v:AV) (sl:List (Nat×AV)),Acc B L 22 (.op 22) v (frs (tf (sT ks ps tl)) (ps.length*11)) ps.length->(ps.length=0->v = .nilslice)->lk sl 1=x1->lk sl 2 = .ptr G 0->lk sl 4=x4->lk sl 5=x5->lk sl 11=v->Ex F C68 [.code c68s41] ⟨mk 180 sl,B++L,low⟩ r):
  ∀(d i:Nat) (L:List Row) (v:AV),ps.length-i=d->i<=ps.length->Acc B L 22 (.op 22) v (frs (tf (sT ks ps tl)) (i*11)) i->(i=0->v = .nilslice)->
   Lc68l42 F C68 x1 (.ptr G 0) x4 x5 x9 v (.int .i64 ps.length) (.int .i64 i) (B++L) low r:=by
 intro d
 induction d with
 |zero=>
  intro i L v hd hi hA hv0;have e:i=ps.length:=by omega
  subst e;unfold Lc68l42;simp[-uc68s41];refine hc L v _ hA hv0 ?_ ?_ ?_ ?_ ?_<;>simp
 |succ d ih=>
  intro i L v hd hi0 hA hv0;have hi:i<ps.length:=by omega
  have hww:IntKind.i64.wrap ((i:Int)+1)=((i+1:Nat):Int):=wS (by omega);have hFx:Fx B (B++L) (fun _=>False):=Fx.app L;have hZ:GZ (B++L):=hGZ.fx hFx (by simp);have h96:=DP hZ;have one1:=Am he;have one2:=Am hpv;have hOe:(B++L).length=B.length+L.length:=by simp
  have hlw:Aa low (B++L).length=low:=by unfold Aa;rw[if_neg (by simp;omega)]
  have hst:=Kn (R:=B++L++[.cells (List.replicate 22 (.int .i64 0))]) (O:=(B++L).length) (low:=low) (xs:=frs (fun _=>0) 11) (vs:=List.replicate 22 (.int .i64 0)) (k:=22) (by simp[-List.reduceReplicate]) (by simp) (Au 11) (D9 11);have hset:(B++L++[Row.cells (List.replicate 22 (.int .i64 0))]).set (B++L).length (.cells (frs (fun _=>0) 11))=B++L++[.cells (frs (fun _=>0) 11)]:=by
   rw[List.set_append_right _ _ (Nat.le_refl _),Nat.sub_self]
   rfl
  rw[hset,hlw]at hst;obtain⟨R1,hR1⟩:∃R1,R1=B++L++[Row.cells (frs (fun _=>0) 11)]:=⟨_,rfl⟩
  have hR1l:R1.length=B.length+L.length+1:=by rw[hR1];simp;omega
  have hG1:Af R1 G=some [n0,ev,pv]:=by rw[hR1,List.append_assoc];exact Ai hG _
  have he1:El R1 2 ev (Ac .i64 (eC ks)) ks.length:=by rw[hR1,List.append_assoc];exact Ah he _
  have hp1:El R1 3 pv (Ac .i64 (pC ps)) ps.length:=by rw[hR1,List.append_assoc];exact Ah hpv _
  have hsd:=CJ (rows:=R1) (n0:=n0) (ev:=ev) (pv:=pv) (i:=i) o0 one1 one2;have hlb:∀v:AV,(v = .nilslice\/sid v<B.length)->sid v≠B.length+L.length\/B.length+L.length=0:=fun v h=>by
   rcases h with e|e
   ·subst e
    show(0:Nat)≠_\/_;omega
   ·omega
  have hGl:=AO hG;have heo:sid ev≠B.length+L.length:=by rcases hlb ev (Bi he)with h|h<;>omega
  have hpo:sid pv≠B.length+L.length:=by rcases hlb pv (Bi hpv)with h|h<;>omega
  have hz0:frs (fun _=>0) 11=frs (zr fun _=>0) 11:=Ak fun _ _=>rfl
  have hrf:∀sl:List (Nat×AV),lk sl 69 = .func 93 [.ptr R1.length 0,.ptr (R1.length+1) 0]->lk sl 1=x1->lk sl 2 = .ptr G 0->lk sl 4=x4->lk sl 5=x5->lk sl 9=x9->lk sl 11=v->lk sl 12 = .int .i64 i->lk sl 13 = .ptr (B.length+L.length) 0->lk sl 62 = .int .i64 ps.length->lk sl 63 = .int .i64 i->
    Ex F C68 (.code (.rf (.t 69) [70,71] c68f47a c68f47b)::[.inBlock 4,.code c68s46,.inBlock 3,.code c68k43,.inLoop c68l42,.inBlock 2,.code c68s41]) ⟨mk 180 sl,R1++[.cells [n0,ev,pv],.cells [.int .i64 i]],low⟩ r:=by
   intro sl s69 s1 s2 s4 s5 s9 s11 s12 s13 s62 s63;refine UX (p:=i) (O:=B.length+L.length) (G:=G) (ga:=R1.length) (pa:=R1.length+1) (n0:=n0) (ev:=ev) (pv:=pv) hek hi hpk o0 (Ah he1 _) (Ah hp1 _) heo hpo (Ai hG1 _) (by omega) (by simp[Af]) (by simp[Af]) ?_ (by omega) s69 s13 s2 (fun Q hSQ hOQ=>?_)
   ·rw[List.getElem?_append_left (by omega),hR1,<-hOe,List.getElem?_append_right (Nat.le_refl _),Nat.sub_self,<-hz0]
    rfl
   ·have hQl:=hSQ.1
    simp only[List.length_append,List.length_cons,List.length_nil]at hQl;have hOl:=(List.getElem?_eq_some_iff.1 hOQ).1
    have hF:Fx (B++L) Q (fun _=>False):=⟨by omega,fun id h1 _=>by
     rw[hSQ.2 id (by simp;omega) (by omega),List.getElem?_append_left (by omega),hR1,List.getElem?_append_left h1]⟩
    have hS:Sm B.length B.length B Q:=⟨(hFx.trans hF).1,fun id h1 _=>(hFx.trans hF).2 id h1 (by simp)⟩
    have htl':IsL Q x9 tl:=BM hS htl (by rcases Bi htl with e|e;exact .inl e;exact .inr ⟨e,by omega⟩);have ix:=CX htl' (i:=i) (by omega);have ld:=LI htl' (j:=i) (by omega);rw[Nat.mul_one]at ix;have r63:=fun R':List Row=>Bo (rows:=R') (n:=gI tl i)
    have ixt:=fun R':List Row=>EZ (R:=R') (id:=B.length+L.length) (o:=0) (show 10<11 by omega)
    have i10:AQ 10 11=some 10:=rfl;have st:=CC (low:=low) (q:=((gI tl i:Int):Rat)) hOQ (show 10<11 by omega);have hlw2:Aa low (B.length+L.length)=low:=lwS (by omega);rw[hlw2]at st;have hrow:frs (fun j'=>if j'=10 then((gI tl i:Int):Rat)else zr (CT ks ps (gN ps i) ks.length) j') 11=frs (sT ks ps tl i) 11:=Ak fun j _=>rfl
    rw[hrow]at st
    have hR':Fx (B++L) (Q.set (B.length+L.length) (.cells (frs (sT ks ps tl i) 11))) (fun _=>False):=⟨by rw[List.length_set];exact hF.1,fun id h1 _=>by
     rw[hOe]at h1;rw[List.getElem?_set_ne (by omega)]
     exact hF.2 id (by omega) (by simp)⟩
    obtain⟨L',hL',hA'⟩:=Nx hA hR';have hr':Af (B++L') (B.length+L.length)=some (frs (sT ks ps tl i) 11):=by
     rw[<-hL'];unfold Af;rw[List.getElem?_set_self hOl]
    have hsg':seg (frs (sT ks ps tl i) 11) 0 22=some (frs (sT ks ps tl i) 11):=Cb (Au 11);obtain⟨v',L'',happ,hA2,_⟩:=B5 (low:=low) (b:=176) hA' (Au 11) (by omega) (by omega) hlow;rw[Hx]at hA2;have:=ih (i+1) L'' v' (by omega) (by omega) hA2 (fun h=>by omega);rw[hL']at st;simp[-List.reduceReplicate,s1,s2,s4,s5,s9,s11,s12,s13,s62,s63,ix,ld,r63,ixt,i10,st,hr',hsg',GU,happ,hww];simpa using this
  simp only[List.append_assoc,List.length_append]at hst hlw hR1;have hR1a:B++(L++[Row.cells (frs (fun _=>0) 11)])=R1:=hR1.symm;unfold Lc68l42;simp[-List.reduceReplicate,-AL,hi,h96,hlw,hst,hR1a,hG1,seg,hsd];refine hrf _ ?_ ?_ ?_ ?_ ?_ ?_ ?_ ?_ ?_ ?_ ?_<;>simp
end
section
variable {N:Nat}{ks ps:List Nat}{r:AV×List Row×Nat->Prop}{x1 x2 x4 x5 x11:AV}
theorem Vb{L:List Row}{O S m low:Nat}{cO:Cap}(hm:m<=1000)(hG:GZ L)(hO:O<L.length)(hlO:low<=O)(hO0:O≠0)(hS:Af L S=some [.slice O 0 m cO])(hSO:S≠O)
  (hc:∀sl:List (Nat×AV),lk sl 1=x1->lk sl 2=x2->lk sl 4=x4->lk sl 5=x5->lk sl 11=x11->lk sl 19 = .ptr S 0->Ex F C68 [.code c68s29] ⟨mk 180 sl,L.set O (.cells (frs (fun _=>0) m)),low⟩ r):
  ∀(d j:Nat),m-j=d->j<=m->Lc68l30 F C68 x1 x2 x4 x5 x11 (.ptr S 0) (.int .i64 m) (.int .i64 j) (L.set O (.cells (B6 m j))) low r:=by
 intro d
 induction d with
 |zero=>
  intro j hd hj;have e:j=m:=by omega
  subst e;unfold Lc68l30;simp[-uc68s29];rw[Ks];refine hc _ ?_ ?_ ?_ ?_ ?_ ?_<;>simp
 |succ d ih=>
  intro j hd hj0;have hj:j<m:=by omega
  have hwj:IntKind.i64.wrap ((j:Int)+1)=((j+1:Nat):Int):=wS (by omega);have hG':GZ (L.set O (.cells (B6 m j))):=by unfold GZ;rw[List.getElem?_set_ne hO0];exact hG
  have ld:=JS hG';have hg:(L.set O (.cells (B6 m j)))[O]?=some (.cells (B6 m j)):=by rw[List.getElem?_set_self hO]
  have st:=HC (low:=low) hg hj;have hlw:Aa low O=low:=lwS (by omega);rw[List.set_set,hlw]at st;have hS':Af (L.set O (.cells (B6 m j))) S=some [.slice O 0 m cO]:=by
   unfold Af at hS ⊢;rw[List.getElem?_set_ne (by omega)];exact hS
  have ix:=fun R:List Row=>Cx (R:=R) (id:=O) (c:=cO) hj
  have:=ih (j+1) (by omega) (by omega);unfold Lc68l30;simp[hj,hS',ld,ix,st,hwj];simpa using this
theorem LL{rows:List Row}(hG:GZ rows):Ret F 98 [.nilslice,.int .i64 0] rows=some (.slice rows.length 0 0 (.at_ 0),rows++[.cells []],none):=by
 have hl0:=hG.lt;have hG2:GZ (rows++[.cells []]):=hG.fx (Fx.app (p:=fun _=>False) _) (by simp);have ld:=JS hG2;obtain⟨cF,r64⟩:=Fy (rows:=rows++[.cells []]) (cols:=0) (by omega);have hfin:=EV (rows:=rows) (R':=rows++[.cells [],.cells []]) (id:=rows.length) (o:=0) (n:=0) (c:=.at_ 0) (vs:=[]) (by simp) (Nat.le_refl _) rfl;simp only[List.append_assoc,List.cons_append,List.nil_append,List.length_append,List.length_cons,List.length_nil,Nat.zero_add,Int.natCast_zero]at r64;refine i98 F98 ?_;simp;unfold Lc98l27;simp;unfold Lc98l15;simp[ld,r64];unfold Lc98l2;simp;exact hfin
end
def sw(ks ps:List Nat)(t:Nat->Rat)(p e:Nat):Rat:=su p fun q=>t q*((sgn (gN ps q) (gN ks e):Int):Rat)
def swI(ks ps:List Nat)(t:Nat->Rat)(p i e:Nat):Rat:=if e<i then sw ks ps t (p+1) e else sw ks ps t p e
section
variable {N:Nat}{ks ps:List Nat}{r:AV×List Row×Nat->Prop}{k:List Itm}{t:Nat->Rat}
theorem Yc{Rb:List Row}{low p W S X22 ga pa:Nat}{n0 ev pv:AV}{sl:List (Nat×AV)}{cO:Cap}(hek:ks.length<=10)(hp:p<ps.length)
  (ht:∀(R:List Row) (e:Nat),e<ks.length->Ret F 99 [fr (t p),fr ((sgn (gN ps p) (gN ks e):Int):Rat)] R=some (fr (t p*((sgn (gN ps p) (gN ks e):Int):Rat)),R,none))
  (hpl:∀(R:List Row) (e:Nat),e<ks.length->Ret F 97 [fr (sw ks ps t p e),fr (t p*((sgn (gN ps p) (gN ks e):Int):Rat))] R=some (fr (sw ks ps t (p+1) e),R,none))
  (he:El Rb 2 ev (Ac .i64 (eC ks)) ks.length) (hpv:El Rb 3 pv (Ac .i64 (pC ps)) ps.length) (heo:sid ev≠W)
  (hga:Af Rb ga=some [n0,ev,pv]) (hpa:Af Rb pa=some [.int .i64 p]) (hW:Rb[W]?=some (.cells (frs (sw ks ps t p) ks.length))) (hlo:low<=W) (hS:Af Rb S=some [.slice W 0 ks.length cO]) (hSW:S≠W)
  (h22:Af Rb X22=some [.int .i64 (t p).num,.int .i64 ((t p).den:Int)]) (h22W:X22≠W)
  (s135:lk sl 135 = .func 93 [.ptr ga 0,.ptr pa 0]) (s19:lk sl 19 = .ptr S 0) (s22:lk sl 22 = .ptr X22 0)
  (hend:∀Q,Sm Rb.length W Rb Q->Q[W]?=some (.cells (frs (sw ks ps t (p+1)) ks.length))->Ex F C68 k ⟨mk 180 sl,Q,low⟩ r):
  Ex F C68 (.code (.rf (.t 135) [136,137] c68f16a c68f16b)::k) ⟨mk 180 sl,Rb,low⟩ r:=by
 have hWl:=(List.getElem?_eq_some_iff.1 hW).1;have hSl:=AO hS;have h22l:=AO h22;refine EN (ks:=ks) (ps:=ps) (p:=p) (ga:=ga) (pa:=pa) (o:=W) (n0:=n0) (ev:=ev) (pv:=pv) (C:=fun i=>Row.cells (frs (swI ks ps t p i) ks.length)) rfl hek hp (by rw[Cz _ _ _ (by omega)];exact s135) hga hpa he hpv hWl heo (by rw[hW];exact congrArg (fun l=>some (Row.cells l)) (Ak fun e _=>by unfold swI;rw[if_neg (by omega)])) ?_ ?_ ?_
 ·intro i hi h0
  congr 1;refine Ak fun e _=>?_
  unfold swI
  by_cases c:e=i
  ·subst c
   rw[if_pos (by omega),if_neg (by omega)];unfold sw;rw[su,h0];grind
  ·by_cases c2:e<i
   ·rw[if_pos c2,if_pos (by omega)]
   ·rw[if_neg c2,if_neg (by omega)]
 ·intro Q i hSQ hM hCQ hi hsg
  have hQl:=hSQ.1;have hML:=(List.getElem?_eq_some_iff.1 hM).1;rw[DN,uc68f16a];simp only[Ej,uc68k19,uc68k18];rw[BC];refine⟨none,mk 180 sl,[136,137],c68f16a,c68f16b,hM,?_⟩;have hlwM:Aa Q.length Rb.length=Rb.length:=by unfold Aa;split<;>omega
  have hlwo:Aa Rb.length W=W:=by unfold Aa;split<;>omega
  rw[hlwM];obtain⟨Q1,hQ1⟩:∃Q1,Q1=Q.set Rb.length (.loop .busy none (mk 180 sl) [136,137] c68f16a c68f16b):=⟨_,rfl⟩
  rw[<-hQ1];have hS1:Sm Rb.length W Rb Q1:=by rw[hQ1];exact CY hSQ (.inr (Nat.le_refl _))
  have aS:=Bg hS1 hS hSl hSW;have a22:=Bg hS1 h22 h22l h22W;have hCo:Q1[W]?=some (.cells (frs (swI ks ps t p i) ks.length)):=by rw[hQ1,List.getElem?_set_ne (by omega)];exact hCQ
  have r63:=fun R:List Row=>Bo (rows:=R) (n:=sgn (gN ps p) (gN ks i))
  have r99:=fun R=>ht R i hi
  have r97:=fun R=>hpl R i hi
  have ix:=fun R':List Row=>Cx (R:=R') (id:=W) (c:=cO) hi
  have ld:=CW hCo hi;have hold:swI ks ps t p i i=sw ks ps t p i:=by unfold swI;rw[if_neg (by omega)]
  rw[hold]at ld;have st:=CC (low:=Rb.length) (q:=sw ks ps t (p+1) i) hCo hi;have hrow:frs (fun j'=>if j'=i then sw ks ps t (p+1) i else swI ks ps t p i j') ks.length=frs (swI ks ps t p (i+1)) ks.length:=Ak fun e _=>by
   unfold swI
   by_cases c:e=i
   ·rw[if_pos c,if_pos (by omega),c]
   ·rw[if_neg c]
    by_cases c2:e<i
    ·rw[if_pos c2,if_pos (by omega)]
    ·rw[if_neg c2,if_neg (by omega)]
  rw[hrow,hlwo]at st;have hld22:evP Q1 (.loadN 2 (.c (.ptr X22 0)))=some (fr (t p)):=by
   rw[BW,a22]
   rfl
  generalize sgn (gN ps p) (gN ks i)=s at *;have hM1:(Q1.set W (.cells (frs (swI ks ps t p (i+1)) ks.length)))[Rb.length]?=some (.loop .busy none (mk 180 sl) [136,137] c68f16a c68f16b):=by
   rw[List.getElem?_set_ne (by omega),hQ1,List.getElem?_set_self hML]
  have hput:=Dh (R:=Q) (M:=Rb.length) (o:=W) (x:=.cells (frs (swI ks ps t p (i+1)) ks.length)) (y:=.loop .busy none (mk 180 sl) [136,137] c68f16a c68f16b) hM (by omega);rw[<-hQ1]at hput;simp[-BW,s19,s22,aS,hld22,r63,r99,r97,ix,ld,st,opC,Ax,A7];rw[BV hM1];refine⟨rfl,by rw[hput.1];exact Nat.le_refl _,fun id h1 h2=>hput.2.1 id h2,hput.2.2,?_,?_⟩
  ·show W<=Aa W Rb.length
   unfold Aa;split<;>omega
  ·show Aa W Rb.length<=Rb.length
   unfold Aa;split<;>omega
 ·intro Q low2 hSQ hCQ h1 h2
  have e:low2=low:=by omega
  rw[e];refine hend Q hSQ ?_;rw[hCQ];exact congrArg (fun l=>some (Row.cells l)) (Ak fun e he=>by unfold swI;rw[if_pos he])
theorem UL{R0:List Row}{low W S T G:Nat}{n0 ev pv x1 x4 x5:AV}{cO cT:Cap}(hek:ks.length<=10)(hpk:ps.length<=6)(o0:n0.one=true)
  (ht:∀(R:List Row) (p e:Nat),p<ps.length->e<ks.length->Ret F 99 [fr (t p),fr ((sgn (gN ps p) (gN ks e):Int):Rat)] R=some (fr (t p*((sgn (gN ps p) (gN ks e):Int):Rat)),R,none))
  (hpl:∀(R:List Row) (p e:Nat),p<ps.length->e<ks.length->Ret F 97 [fr (sw ks ps t p e),fr (t p*((sgn (gN ps p) (gN ks e):Int):Rat))] R=some (fr (sw ks ps t (p+1) e),R,none))
  (he:El R0 2 ev (Ac .i64 (eC ks)) ks.length) (hpv:El R0 3 pv (Ac .i64 (pC ps)) ps.length) (heo:sid ev≠W) (hpo:sid pv≠W) (hWl:W<R0.length) (hlo:low<=W)
  (hG:Af R0 G=some [n0,ev,pv]) (hGW:G≠W) (hS:Af R0 S=some [.slice W 0 ks.length cO]) (hSW:S≠W) (hT:R0[T]?=some (.cells (frs t ps.length))) (hTW:T≠W)
  (hc:∀(R:List Row) (sl:List (Nat×AV)),Sm R0.length W R0 R->R[W]?=some (.cells (frs (sw ks ps t ps.length) ks.length))->lk sl 1=x1->lk sl 4=x4->lk sl 5=x5->lk sl 19 = .ptr S 0->Ex F C68 [.code c68s13] ⟨mk 180 sl,R,low⟩ r):
  ∀(d p:Nat) (R:List Row),ps.length-p=d->p<=ps.length->Sm R0.length W R0 R->R[W]?=some (.cells (frs (sw ks ps t p) ks.length))->
   Lc68l14 F C68 x1 (.ptr G 0) x4 x5 (.ptr S 0) (.slice T 0 ps.length cT) (.int .i64 ps.length) (.int .i64 p) R low r:=by
 intro d
 induction d with
 |zero=>
  intro p R hd hp hSm hW;have e:p=ps.length:=by omega
  subst e;unfold Lc68l14;simp[-uc68s13];refine hc R _ hSm hW ?_ ?_ ?_ ?_<;>simp
 |succ d ih=>
  intro p R hd hp0 hSm hW;have hp:p<ps.length:=by omega
  have hww:IntKind.i64.wrap ((p:Int)+1)=((p+1:Nat):Int):=wS (by omega);have hRl:=hSm.1;have he':El R 2 ev (Ac .i64 (eC ks)) ks.length:=BM hSm he (by rcases Bi he with e|e;exact .inl e;exact .inr ⟨e,heo⟩);have hp':El R 3 pv (Ac .i64 (pC ps)) ps.length:=BM hSm hpv (by rcases Bi hpv with e|e;exact .inl e;exact .inr ⟨e,hpo⟩);have hG':=Bg hSm hG (AO hG) hGW;have hS':=Bg hSm hS (AO hS) hSW;have hTl:=(List.getElem?_eq_some_iff.1 hT).1;have hT':R[T]?=some (.cells (frs t ps.length)):=by rw[hSm.2 T hTl hTW];exact hT
  have one1:=Am he;have one2:=Am hpv;have ix:=fun R':List Row=>Cx (R:=R') (id:=T) (c:=cT) hp
  have ld:=CW hT' hp;have hlw:Aa low R.length=low:=lwS (by omega);obtain⟨R1,hR1⟩:∃R1,R1=R++[Row.cells [.int .i64 (t p).num,.int .i64 ((t p).den:Int)]]:=⟨_,rfl⟩
  have hR1l:R1.length=R.length+1:=by rw[hR1];simp
  have hG1:Af R1 G=some [n0,ev,pv]:=by rw[hR1];exact Ai hG' _
  have hsd:=CJ (rows:=R1) (n0:=n0) (ev:=ev) (pv:=pv) (i:=p) o0 one1 one2;obtain⟨Rb,hRb⟩:∃Rb,Rb=R1++[.cells [n0,ev,pv],.cells [.int .i64 p]]:=⟨_,rfl⟩
  have hRbl:Rb.length=R.length+3:=by rw[hRb];simp[hR1l]
  have hSb:Sm R0.length W R0 Rb:=by rw[hRb,hR1,List.append_assoc];exact BJ hSm _
  have hrf:∀sl:List (Nat×AV),lk sl 135 = .func 93 [.ptr R1.length 0,.ptr (R1.length+1) 0]->lk sl 1=x1->lk sl 2 = .ptr G 0->lk sl 4=x4->lk sl 5=x5->lk sl 19 = .ptr S 0->lk sl 22 = .ptr R.length 0->lk sl 126 = .slice T 0 ps.length cT->lk sl 127 = .int .i64 ps.length->lk sl 128 = .int .i64 p->
    Ex F C68 (.code (.rf (.t 135) [136,137] c68f16a c68f16b)::[.inBlock 14,.inBlock 13,.code c68k15,.inLoop c68l14,.inBlock 12,.code c68s13]) ⟨mk 180 sl,Rb,low⟩ r:=by
   intro sl s135 s1 s2 s4 s5 s19 s22 s126 s127 s128;refine Yc (p:=p) (W:=W) (S:=S) (X22:=R.length) (ga:=R1.length) (pa:=R1.length+1) (n0:=n0) (ev:=ev) (pv:=pv) (cO:=cO) hek hp (fun R e he=>ht R p e hp he) (fun R e he=>hpl R p e hp he) (by rw[hRb,hR1,List.append_assoc];exact Ah he' _) (by rw[hRb,hR1,List.append_assoc];exact Ah hp' _) heo (by rw[hRb];simp[Af]) (by rw[hRb];simp[Af])
    (by rw[hRb,hR1,List.append_assoc,List.getElem?_append_left (by omega)];exact hW) hlo (by rw[hRb,hR1,List.append_assoc];exact Ai hS' _) hSW (by rw[hRb,hR1];simp[Af]) (by omega) s135 s19 s22 (fun Q hSQ hWQ=>?_)
   have:=ih (p+1) Q (by omega) (by omega) (A5 hSb hSQ (by omega)) hWQ;simp[s1,s2,s4,s5,s19,s126,s127,s128,hww];simpa using this
  have hfr:∀q:Rat,fr q = .agg [.int .i64 q.num,.int .i64 (q.den:Int)]:=fun _=>rfl
  rw[hfr]at ld;rw[hRb]at hrf;unfold Lc68l14;simp[hp,ix,ld,AV.cells,splice,hlw,<-hR1,hG1,seg,hsd];refine hrf _ ?_ ?_ ?_ ?_ ?_ ?_ ?_ ?_ ?_ ?_<;>simp
end
theorem Rm(q:Rat):fr q = .agg [.int .i64 q.num,.int .i64 (q.den:Int)]:=rfl
theorem G0{R:List Row}{v:AV}{f:Nat->Rat}{m i:Nat}(h:El R 2 v (frs f m) m)(hi:i<m):evP R (.loadN 2 (.c (.ptr (sid v) (EE v+i*2))))=some (fr (f i)):=by
 rw[Gh h (by rw[Au];omega) (by omega),JA hi]
 rfl
section
variable {R R' R'':List Row}{low O S W i m:Nat}{v v0 v':AV}{f:Int}{d s:Nat->Rat}{q1 q2:Rat}{sl:List (Nat×AV)}{k:List Itm}{r:AV×List Row×Nat->Prop}{cO:Cap}
theorem XW{ws:List AV}(hO:Af R O=some ws)(hv:ws[2]?=some v)(hv0:ws[0]?=some v0)(hi:i<m)(hd:El R 2 v0 (frs d m) m)(hS:Af R S=some [.slice W 0 m cO])(hW:R[W]?=some (.cells (frs s m)))
  (r1:∀R:List Row,Ret F 95 [fr (f:Rat),fr (d i)] R=some (fr q1,R,none)) (r2:∀R:List Row,Ret F 95 [fr q1,fr (s i)] R=some (fr q2,R,none))
  (happ:evE (R++[.cells [.int .i64 q2.num,.int .i64 (q2.den:Int)]]) low (.app 2 16 (.c v) (.c (.slice R.length 0 1 (.at_ 1))))=some (v',R',low)) (hst:evE R' low (.store1 (.c (.ptr O 2)) (.c v'))=some (.tup [],R'',low))
  (s5:lk sl 5 = .ptr O 0) (s19:lk sl 19 = .ptr S 0) (s25:lk sl 25 = .int .i64 i) (s26:lk sl 26 = .int .i64 f)
  (hn:∀sl':List (Nat×AV),(∀j∈[4,5,19,153,154,155],lk sl' j=lk sl j)->Ex F C68 k ⟨mk 180 sl',R'',low⟩ r):
  Ex F C68 (.code c68k4::k) ⟨mk 180 sl,R,low⟩ r:=by
 have ix0:=CX hd hi;have ld0:=G0 hd hi;have ix1:=fun R:List Row=>Cx (R:=R) (id:=W) (c:=cO) hi
 have ld1:=CW hW hi;have r63:=fun R:List Row=>Bo (rows:=R) (n:=f)
 have i03:AQ 0 3=some 0:=rfl;have i23:AQ 2 3=some 2:=rfl;simp[-A9,-BW,s5,s19,s25,s26,i03,i23,hO,hv,hv0,hS,ix0,ld0,ix1,ld1,r63,r1,r2,opC,Ax,A7,VY,M4,happ,hst];refine hn _ ?_;simp[s5,s19]
end
section
variable {B L0:List Row}{N low O S W m:Nat}{v0 v1 x1 x4:AV}{fl:List Int}{d s:Nat->Rat}{r:AV×List Row×Nat->Prop}{cO:Cap}
def w2(v0 v1 v:AV):List AV:=[v0,v1,v]
theorem WP(hlow:low<=B.length)(h0:0<L0.length)(hm:m<=10)(hfl:IsL B x1 fl)(hfn:fl.length=m)(hd:El (B++L0) 2 v0 (frs d m) m)(hdB:v0 = .nilslice\/sid v0≠B.length)
  (hS:L0[S]?=some (.cells [.slice (B.length+W) 0 m cO])) (hS0:S≠0) (hW:L0[W]?=some (.cells (frs s m))) (hW0:W≠0)
  (r1:∀(R:List Row) (i:Nat),i<m->Ret F 95 [fr ((gI fl i:Int):Rat),fr (d i)] R=some (fr (((gI fl i:Int):Rat)-d i),R,none))
  (r2:∀(R:List Row) (i:Nat),i<m->Ret F 95 [fr (((gI fl i:Int):Rat)-d i),fr (s i)] R=some (fr (((gI fl i:Int):Rat)-d i-s i),R,none))
  (hc:∀(L:List Row) (v:AV) (sl:List (Nat×AV)),PO B L0 (w2 v0 v1) L v (frs (fun i=>((gI fl i:Int):Rat)-d i-s i) m) m->lk sl 4=x4->lk sl 5 = .ptr B.length 0->Ex F C68 [.code c68s1] ⟨mk 180 sl,B++L,low⟩ r):
  ∀(n i:Nat) (L:List Row) (v:AV),m-i=n->i<=m->PO B L0 (w2 v0 v1) L v (frs (fun i=>((gI fl i:Int):Rat)-d i-s i) i) i->
   Lc68l2 F C68 x4 (.ptr B.length 0) (.ptr (B.length+S) 0) x1 (.int .i64 m) (.int .i64 i) (B++L) low r:=by
 intro n
 induction n with
 |zero=>
  intro i L v hn hi hP;have e:i=m:=by omega
  subst e;unfold Lc68l2;simp[-uc68s1];refine hc L v _ hP ?_ ?_<;>simp
 |succ n ih=>
  intro i L v hn hi0 hP;have hi:i<m:=by omega
  have hww:IntKind.i64.wrap ((i:Int)+1)=((i+1:Nat):Int):=wS (by omega);have hfl':=AA hfl L;have ix:=CX hfl' (i:=i) (by omega);have ld:=LI hfl' (j:=i) (by omega);rw[Nat.mul_one]at ix;obtain⟨q,hq⟩:∃q,q=((gI fl i:Int):Rat)-d i-s i:=⟨_,rfl⟩
  obtain⟨v',L',L'',happ,hst,hP2⟩:=hP.push (x:=[.int .i64 q.num,.int .i64 (q.den:Int)]) (j:=2) (low:=low) (b:=16) rfl (by omega) hlow h0 (fun _ _=>rfl) (by simp[w2]);have hfrs:frs (fun i=>((gI fl i:Int):Rat)-d i-s i) i++[.int .i64 q.num,.int .i64 (q.den:Int)]=frs (fun i=>((gI fl i:Int):Rat)-d i-s i) (i+1):=by rw[hq];rfl
  rw[hfrs]at hP2;have:=ih (i+1) L'' v' (by omega) (by omega) hP2;have hl:=hP.l;have hOr:Af (B++L) B.length=some (w2 v0 v1 v):=by
   unfold Af;rw[List.getElem?_append_right (Nat.le_refl _),Nat.sub_self,hP.o]
  have hSl:=(List.getElem?_eq_some_iff.1 hS).1;have hWl:=(List.getElem?_eq_some_iff.1 hW).1;have hSr:Af (B++L) (B.length+S)=some [.slice (B.length+W) 0 m cO]:=by
   unfold Af;rw[List.getElem?_append_right (by omega),Nat.add_sub_cancel_left,hP.k S hSl hS0,hS]
  have hWr:(B++L)[B.length+W]?=some (.cells (frs s m)):=by
   rw[List.getElem?_append_right (by omega),Nat.add_sub_cancel_left,hP.k W hWl hW0,hW]
  have hd':El (B++L) 2 v0 (frs d m) m:=by
   have hSm:Sm (B++L0).length B.length (B++L0) (B++L):=⟨by simp;omega,fun id h1 h2=>by
    by_cases c:id<B.length
    ·rw[List.getElem?_append_left c,List.getElem?_append_left c]
    ·rw[List.getElem?_append_right (by omega),List.getElem?_append_right (by omega)]
     exact hP.k _ (by simp at h1;omega) (by omega)⟩
   refine BM hSm hd ?_;rcases Bi hd with e|e
   ·exact .inl e
   ·rcases hdB with e2|e2
    ·exact .inl e2
    ·exact .inr ⟨e,e2⟩
  have happ':evE ((B++L)++[.cells [.int .i64 q.num,.int .i64 (q.den:Int)]]) low (.app 2 16 (.c v) (.c (.slice (B++L).length 0 1 (.at_ 1))))=some (v',B++L',low):=by
   rw[List.append_assoc,List.length_append];exact happ
  have hk:∀sl:List (Nat×AV),lk sl 4=x4->lk sl 5 = .ptr B.length 0->lk sl 19 = .ptr (B.length+S) 0->lk sl 25 = .int .i64 i->lk sl 26 = .int .i64 (gI fl i)->lk sl 153=x1->lk sl 154 = .int .i64 m->lk sl 155 = .int .i64 i->
    Ex F C68 [.code c68k4,.inBlock 17,.code c68k3,.inLoop c68l2,.inBlock 16,.code c68s1] ⟨mk 180 sl,B++L,low⟩ r:=by
   intro sl s4 s5 s19 s25 s26 s153 s154 s155;refine XW (q1:=((gI fl i:Int):Rat)-d i) (q2:=q) hOr (v:=v) (v0:=v0) rfl rfl hi hd' hSr hWr (fun R=>r1 R i hi) (fun R=>by rw[hq];exact r2 R i hi) happ' hst s5 s19 s25 s26 fun sl' hs=>?_
   have t4:=hs 4 (by simp);have t5:=hs 5 (by simp);have t19:=hs 19 (by simp);have t153:=hs 153 (by simp);have t154:=hs 154 (by simp);have t155:=hs 155 (by simp);rw[s4]at t4;rw[s5]at t5;rw[s19]at t19;rw[s153]at t153;rw[s154]at t154;rw[s155]at t155;simp[t4,t5,t19,t153,t154,t155,hww];simpa using this
  unfold Lc68l2;simp[-uc68k4,hi,ix,ld];refine hk _ ?_ ?_ ?_ ?_ ?_ ?_ ?_ ?_<;>simp
end
def NN(rows:List Row)(m:Nat)(a b c:Nat->Rat)(q:AV×List Row×Option Nat):Prop:=
 ∃v0 v1 v2 X,q=(.agg [v0,v1,v2],rows++X,none)/\El (rows++X) 2 v0 (frs a m) m/\El (rows++X) 2 v1 (frs b m) m/\El (rows++X) 2 v2 (frs c m) m/\(v0 = .nilslice\/rows.length<=sid v0)/\(v1 = .nilslice\/rows.length<=sid v1)/\(v2 = .nilslice\/rows.length<=sid v2)
theorem Na{rows X:List Row}{v:AV}{cs:List AV}{n sz:Nat}(h:El (rows++X) sz v cs n)(hv:v.ids.all (· < rows.length)=true):El rows sz v cs n:=by
 rcases AJ h with ⟨rfl,rfl,rfl⟩|⟨id,off,c,vs,rfl,hr,hs⟩
 ·exact BS
 ·have hid:id<rows.length:=by simpa[AV.ids]using hv
  have hr':Af rows id=some vs:=by
   unfold Af at hr ⊢;rw[List.getElem?_append_left hid]at hr;exact hr
  unfold El A0;simp only[hr',hs]
  rfl
section
variable {rows L:List Row}{m S W:Nat}{G4 G:Row}{v0 x1:AV}{cO:Cap}{fl:List Int}{d s:Nat->Rat}{sl:List (Nat×AV)}
theorem Ur{B:List Row}(hB:B=rows++[G,.cells [.nilslice,.nilslice,.nilslice]])(hm:m<=10)(hfl:IsL rows x1 fl)(hfn:fl.length=m)(h0:L[0]?=some (.cells [v0,.nilslice,.nilslice]))(hd:El (B++L) 2 v0 (frs d m) m)(hdB:v0 = .nilslice\/B.length<sid v0)
  (hS:L[S]?=some (.cells [.slice (B.length+W) 0 m cO])) (hS0:S≠0) (hW:L[W]?=some (.cells (frs s m))) (hW0:W≠0)
  (r1:∀(R:List Row) (i:Nat),i<m->Ret F 95 [fr ((gI fl i:Int):Rat),fr (d i)] R=some (fr (((gI fl i:Int):Rat)-d i),R,none))
  (r2:∀(R:List Row) (i:Nat),i<m->Ret F 95 [fr (((gI fl i:Int):Rat)-d i),fr (s i)] R=some (fr (((gI fl i:Int):Rat)-d i-s i),R,none))
  (s1:lk sl 1=x1) (s4:lk sl 4 = .ptr (rows.length+1) 0) (s5:lk sl 5 = .ptr B.length 0) (s19:lk sl 19 = .ptr (B.length+S) 0):
  Ex F C68 [.code c68s13] ⟨mk 180 sl,B++L,rows.length⟩ fun x=>NN rows m d s (fun i=>((gI fl i:Int):Rat)-d i-s i) (fin rows x.1 x.2.1 x.2.2):=by
 have hBl:B.length=rows.length+2:=by rw[hB];simp
 have hLl:=(List.getElem?_eq_some_iff.1 h0).1;have hflB:IsL B x1 fl:=by rw[hB];exact AA hfl _
 have hSr:Af (B++L) (B.length+S)=some [.slice (B.length+W) 0 m cO]:=by
  unfold Af;rw[List.getElem?_append_right (by omega),Nat.add_sub_cancel_left,hS]
 have h0r:cells? (B++L) B.length=some [v0,.nilslice,.nilslice]:=by
  unfold cells?;rw[List.getElem?_append_right (Nat.le_refl _),Nat.sub_self,h0]
 obtain⟨L0,hL0⟩:∃L0,L0=L.set 0 (.cells [v0,.slice (B.length+W) 0 m cO,.nilslice]):=⟨_,rfl⟩
 have hL0l:L0.length=L.length:=by rw[hL0,List.length_set]
 have hset:(B++L).set B.length (.cells [v0,.slice (B.length+W) 0 m cO,.nilslice])=B++L0:=by
  rw[hL0,List.set_append_right _ _ (Nat.le_refl _),Nat.sub_self]
 have hSm:Sm (B++L).length B.length (B++L) (B++L0):=by rw[<-hset];exact CY (AZ (Nat.le_refl _)) (.inl rfl)
 have hd0:El (B++L0) 2 v0 (frs d m) m:=BM hSm hd (by
  rcases Bi hd with e|e
  ·exact .inl e
  ·rcases hdB with e2|e2
   ·exact .inl e2
   ·exact .inr ⟨e,by omega⟩)
 have hlen:=Ao (AA hflB L0);have hw:Aa rows.length B.length=rows.length:=Ae (by omega);have hP0:PO B L0 (w2 v0 (.slice (B.length+W) 0 m cO)) L0 .nilslice (frs (fun i=>((gI fl i:Int):Rat)-d i-s i) 0) 0:=⟨C9,by rw[hL0,List.getElem?_set_self hLl];rfl,.inl rfl,fun _ _ _=>rfl,Nat.le_refl _⟩
 have hl2:=WP (low:=rows.length) (x4:=.ptr (rows.length+1) 0) (v1:=.slice (B.length+W) 0 m cO) (by omega) (by omega) hm hflB hfn hd0 (by rcases hdB with e|e;exact .inl e;exact .inr (by omega)) (by rw[hL0,List.getElem?_set_ne (by omega)];exact hS) hS0 (by rw[hL0,List.getElem?_set_ne (by omega)];exact hW) hW0 r1 r2
  (r:=fun x=>NN rows m d s (fun i=>((gI fl i:Int):Rat)-d i-s i) (fin rows x.1 x.2.1 x.2.2)) (fun L' v sl' hP t4 t5=>by
   have hl:=hP.l;have hO:Af (B++L') B.length=some [v0,.slice (B.length+W) 0 m cO,v]:=by
    unfold Af;rw[List.getElem?_append_right (Nat.le_refl _),Nat.sub_self,hP.o];rfl
   have h4:cells? (B++L') (rows.length+1)=some [.nilslice,.nilslice,.nilslice]:=by
    unfold cells?;rw[List.getElem?_append_left (by omega),hB,List.getElem?_append_right (by omega)];simp
   have e2:El (B++L') 2 v (frs (fun i=>((gI fl i:Int):Rat)-d i-s i) m) m:=GG hP.a (by omega)
   have hSm2:Sm (B++L0).length B.length (B++L0) (B++L'):=⟨by simp;omega,fun id h1 h2=>by
    by_cases c:id<B.length
    ·rw[List.getElem?_append_left c,List.getElem?_append_left c]
    ·rw[List.getElem?_append_right (by omega),List.getElem?_append_right (by omega)]
     exact hP.k _ (by simp at h1;omega) (by omega)⟩
   have e0:El (B++L') 2 v0 (frs d m) m:=BM hSm2 hd0 (by
    rcases Bi hd0 with e|e
    ·exact .inl e
    ·rcases hdB with e2|e2
     ·exact .inl e2
     ·exact .inr ⟨e,by omega⟩)
   have hWl:=(List.getElem?_eq_some_iff.1 hW).1;have hW':Af (B++L') (B.length+W)=some (frs s m):=by
    unfold Af;rw[List.getElem?_append_right (by omega),Nat.add_sub_cancel_left,hP.k W (by omega) hW0,hL0,List.getElem?_set_ne (by omega),hW]
   have e1:El (B++L') 2 (.slice (B.length+W) 0 m cO) (frs s m) m:=by
    unfold El A0;simp only[hW'];rw[Cb (Au m)]
    rfl
   have o0:=Am e0;have o1:=Am e1;have o2:=Am e2
   -- the copy
   obtain⟨R',hR'⟩:∃R',R'=(B++L').set (rows.length+1) (.cells [v0,.slice (B.length+W) 0 m cO,v]):=⟨_,rfl⟩
   have hSm3:Sm (B++L').length (rows.length+1) (B++L') R':=by rw[hR'];exact CY (AZ (Nat.le_refl _)) (.inl rfl)
   have hne:∀{v:AV} {cs:List AV},El (B++L') 2 v cs m->(v = .nilslice\/B.length<=sid v\/sid v<rows.length)->El R' 2 v cs m:=fun{v cs} he hv=>BM hSm3 he (by
    rcases Bi he with e|e
    ·exact .inl e
    ·rcases hv with e2|e2
     ·exact .inl e2
     ·exact .inr ⟨e,by omega⟩)
   have f0:=hne e0 (by rcases hdB with e|e;exact .inl e;exact .inr (.inl (by omega)));have f1:=hne e1 (.inr (.inl (by simp only[He];omega)));have f2:=hne e2 (by rcases hP.s with e|e;exact .inl e;exact .inr (.inl (by omega)));have hX:∃X,R'=rows++X:=by
    rw[hR',hB,List.append_assoc,List.set_append_right _ _ (by omega)];exact⟨_,rfl⟩
   obtain⟨X,hX⟩:=hX;have hrow:Af R' (rows.length+1)=some [v0,.slice (B.length+W) 0 m cO,v]:=by
    unfold Af;rw[hR',List.getElem?_set_self (by simp;omega)]
   have hlw1:Aa rows.length (rows.length+1)=rows.length:=Ae (by omega);have hst:evE (B++L') rows.length (.storeN 3 (.c (.ptr (rows.length+1) 0)) (.c (.agg [v0,.slice (B.length+W) 0 m cO,v])))=some (.tup [],R',rows.length):=by
    rw[AL];simp only[h4,Option.bind_some];rw[if_pos ⟨rfl,by simp,by simp[o0,o1,o2]⟩,hlw1,hR']
    rfl
   have hfin:NN rows m d s (fun i=>((gI fl i:Int):Rat)-d i-s i) (fin rows (.agg [v0,.slice (B.length+W) 0 m cO,v]) R' rows.length):=by
    rw[hX]at f0 f1 f2 ⊢;rcases Jb (rows:=rows) (l:=[v0,.slice (B.length+W) 0 m cO,v]) (X:=X)with e|⟨e,h⟩
    ·rw[e]
     refine⟨_,_,_,X,rfl,f0,f1,f2,?_,?_,?_⟩
     ·rcases hdB with e|e
      ·exact .inl e
      ·exact .inr (by omega)
     ·exact .inr (by simp only[He];omega)
     ·rcases hP.s with e|e
      ·exact .inl e
      ·exact .inr (by omega)
    ·exfalso
     simp[AV.ids,AV.ids.idsL]at h;omega
   simp[-AL,t4,t5,hO,seg,hst,hrow]
   exact hfin) m 0 L0 .nilslice rfl (Nat.zero_le _) hP0
 have i13:AQ 1 3=some 1:=rfl;simp[s1,s4,s5,s19,hSr,i13,h0r,hw,hset,<-hL0,hfn,hlen];simpa using hl2
end
def sA(ks ps:List Nat)(tl:List Int):Nat->Nat->Rat:=DO (tf (sT ks ps tl)) ps.length
def sX(ks ps:List Nat)(tl:List Int):Nat->Rat:=xs (gjR (sA ks ps tl) ps.length ps.length) ps.length
theorem Md{R:List Row}{v:AV}{B L:List Row}{ks ps:List Nat}{tl:List Int}(hpk:ps.length<=6)(hGZ:GZ (B++L))(hA:Acc B L 22 (.op 22) v (frs (tf (sT ks ps tl)) (ps.length*11)) ps.length)(hv0:ps.length=0->v = .nilslice)(hF:Fx (B++L) R (fun _=>False))(hb:Bd (sA ks ps tl) ps.length (ps.length+1) ps.length):
  Ret F 98 [v,.int .i64 ps.length] R=some (.slice R.length 0 ps.length (.at_ ps.length),R++[.cells (frs (sX ks ps tl) ps.length)],none):=by
 have hZR:=hGZ.fx hF (by simp)
 by_cases hp0:ps.length=0
 ·have e:=hv0 hp0
  subst e;have:=LL hZR;rw[hp0];exact this
 ·obtain⟨h1,h2⟩:=hA
  rcases h2 with ⟨rfl,e⟩|⟨k,rfl,hk⟩
  ·rw[e]at h1
   simp at h1;omega
  ·have hkl:=(List.getElem?_eq_some_iff.1 hk).1
   have hr:R[B.length+k]?=some (.cells (frs (tf (sT ks ps tl)) (ps.length*11))):=by
    rw[hF.2 _ (by simp;omega) (by simp),List.getElem?_append_right (by omega),Nat.add_sub_cancel_left];exact hk
   exact Gn hZR hr (by omega) (by omega) (by omega) (by omega) hb (fun c a hc h1 h2 h3=>by
    obtain⟨σ,hgj⟩:=CG (A:=DO (tf (sT ks ps tl)) ps.length) (n:=ps.length) c;have:=hgj.kle
    omega)
theorem NA{B R:List Row}(hl:B.length<=R.length)(h:∀id,id<B.length->R[id]?=B[id]?):∃L,R=B++L:=by
 refine⟨R.drop B.length,?_⟩;have:R.take B.length=B:=by
  apply List.ext_getElem?;intro i
  by_cases c:i<B.length
  ·rw[List.getElem?_take_of_lt c,h i c]
  ·rw[List.getElem?_eq_none (by simp;omega),List.getElem?_eq_none (by omega)]
 conv=>lhs;rw[<-List.take_append_drop B.length R,this]
section
variable {rows L:List Row}{N m n:Nat}{G:Row}{v0 x1 v11 ev pv:AV}{ks ps:List Nat}{fl:List Int}{d t:Nat->Rat}{sl:List (Nat×AV)}
theorem TL{B:List Row}(hB:B=rows++[.cells [.int .i64 N,ev,pv],.cells [.nilslice,.nilslice,.nilslice]])(hek:ks.length<=10)(hpk:ps.length<=6)(hZ:GZ (B++L))(hfl:IsL rows x1 fl)(hfn:fl.length=ks.length)(he:El rows 2 ev (Ac .i64 (eC ks)) ks.length)(hpv:El rows 3 pv (Ac .i64 (pC ps)) ps.length)
  (h0:L[0]?=some (.cells [v0,.nilslice,.nilslice])) (hd:El (B++L) 2 v0 (frs d ks.length) ks.length) (hdB:v0 = .nilslice\/B.length<sid v0)
  (hsol:∀R',Fx (B++L) R' (fun _=>False)->Ret F 98 [v11,.int .i64 ps.length] R'=some (.slice R'.length 0 ps.length (.at_ ps.length),R'++[.cells (frs t ps.length)],none))
  (ht:∀(R:List Row) (p e:Nat),p<ps.length->e<ks.length->Ret F 99 [fr (t p),fr ((sgn (gN ps p) (gN ks e):Int):Rat)] R=some (fr (t p*((sgn (gN ps p) (gN ks e):Int):Rat)),R,none))
  (hpl:∀(R:List Row) (p e:Nat),p<ps.length->e<ks.length->Ret F 97 [fr (sw ks ps t p e),fr (t p*((sgn (gN ps p) (gN ks e):Int):Rat))] R=some (fr (sw ks ps t (p+1) e),R,none))
  (r1:∀(R:List Row) (i:Nat),i<ks.length->Ret F 95 [fr ((gI fl i:Int):Rat),fr (d i)] R=some (fr (((gI fl i:Int):Rat)-d i),R,none))
  (r2:∀(R:List Row) (i:Nat),i<ks.length->Ret F 95 [fr (((gI fl i:Int):Rat)-d i),fr (sw ks ps t ps.length i)] R=some (fr (((gI fl i:Int):Rat)-d i-sw ks ps t ps.length i),R,none))
  (s1:lk sl 1=x1) (s2:lk sl 2 = .ptr rows.length 0) (s4:lk sl 4 = .ptr (rows.length+1) 0) (s5:lk sl 5 = .ptr B.length 0) (s11:lk sl 11=v11):
  Ex F C68 [.code c68s41] ⟨mk 180 sl,B++L,rows.length⟩ fun x=>NN rows ks.length d (sw ks ps t ps.length) (fun i=>((gI fl i:Int):Rat)-d i-sw ks ps t ps.length i) (fin rows x.1 x.2.1 x.2.2):=by
 have hBl:B.length=rows.length+2:=by rw[hB];simp
 have hLl:=(List.getElem?_eq_some_iff.1 h0).1;obtain⟨R,hR⟩:∃R,R=B++L:=⟨_,rfl⟩
 rw[<-hR]at hZ hd hsol ⊢;have hRl:R.length=B.length+L.length:=by rw[hR];simp
 have hRr:R=rows++([.cells [.int .i64 N,ev,pv],.cells [.nilslice,.nilslice,.nilslice]]++L):=by rw[hR,hB,List.append_assoc]
 have heR:El R 2 ev (Ac .i64 (eC ks)) ks.length:=by rw[hRr];exact Ah he _
 have hpR:El R 3 pv (Ac .i64 (pC ps)) ps.length:=by rw[hRr];exact Ah hpv _
 have hGR:Af R rows.length=some [.int .i64 N,ev,pv]:=by rw[hRr];simp[Af]
 have ln:=Ao heR;have hlim:(ks.length:Int)<=lim:=by unfold lim;omega
 -- the list of noughts
 obtain⟨R1,hR1⟩:∃R1,R1=R++[.cells (frs (fun _=>0) ks.length),.cells [.slice R.length 0 ks.length (.at_ ks.length)]]:=⟨_,rfl⟩
 have hR1l:R1.length=R.length+2:=by rw[hR1];simp
 have hF1:Fx R R1 (fun _=>False):=by rw[hR1];exact Fx.app _
 have hZ1:=hZ.fx hF1 (by simp);have hz0:(List.replicate ks.length [AV.int .i64 0,AV.int .i64 0]).flatten=B6 ks.length 0:=by unfold B6 frs;simp
 have hset:R++[Row.cells (B6 ks.length 0),.cells [.slice R.length 0 ks.length (.at_ ks.length)]]=R1.set R.length (.cells (B6 ks.length 0)):=by
  rw[hR1,List.set_append_right _ _ (Nat.le_refl _),Nat.sub_self]
  rfl
 have hset1:R1.set R.length (.cells (frs (fun _=>0) ks.length))=R1:=by
  rw[hR1,List.set_append_right _ _ (Nat.le_refl _),Nat.sub_self]
  rfl
 have hS1:Af R1 (R.length+1)=some [.slice R.length 0 ks.length (.at_ ks.length)]:=by rw[hR1];simp[Af]
 have hG1:Af R1 rows.length=some [.int .i64 N,ev,pv]:=by rw[hR1];exact Ai hGR _
 have hpR1:El R1 3 pv (Ac .i64 (pC ps)) ps.length:=by rw[hR1];exact Ah hpR _
 have heR1:El R1 2 ev (Ac .i64 (eC ks)) ks.length:=by rw[hR1];exact Ah heR _
 have lnp:=Ao hpR1;have r98:=hsol R1 hF1;have hsid:∀{v:AV},(v = .nilslice\/sid v<rows.length)->sid v≠R.length:=fun{v} h=>by
  rcases h with e|e
  ·subst e;show(0:Nat)≠_;omega
  ·omega
 -- behind the equations
 obtain⟨R2,hR2⟩:∃R2,R2=R1++[.cells (frs t ps.length)]:=⟨_,rfl⟩
 have hR2l:R2.length=R.length+3:=by rw[hR2];simp[hR1l]
 have hS2:Sm R.length R.length R R2:=⟨by omega,fun id h1 _=>by rw[hR2,List.getElem?_append_left (by omega),hR1,List.getElem?_append_left h1]⟩
 have hl14:=UL (t:=t) (R0:=R2) (low:=rows.length) (W:=R.length) (S:=R.length+1) (T:=R1.length) (G:=rows.length) (n0:=.int .i64 N) (ev:=ev) (pv:=pv) (x1:=x1) (x4:=.ptr (rows.length+1) 0) (x5:=.ptr B.length 0) (cO:=.at_ ks.length) (cT:=.at_ ps.length) hek hpk rfl ht hpl (by rw[hR2];exact Ah heR1 _) (by rw[hR2];exact Ah hpR1 _) (hsid (Bi he)) (hsid (Bi hpv)) (by omega) (by omega) (by rw[hR2];exact Ai hG1 _) (by omega) (by rw[hR2];exact Ai hS1 _) (by omega) (by rw[hR2];simp) (by omega)
  (r:=fun x=>NN rows ks.length d (sw ks ps t ps.length) (fun i=>((gI fl i:Int):Rat)-d i-sw ks ps t ps.length i) (fin rows x.1 x.2.1 x.2.2)) (fun R3 sl' hS3 hW3 t1 t4 t5 t19=>by
   have h3l:=hS3.1;have hsame:∀id,id<R.length->R3[id]?=R[id]?:=fun id hid=>by
    rw[hS3.2 id (by omega) (by omega)];exact hS2.2 id hid (by omega)
   obtain⟨L3,hL3⟩:=NA (B:=B) (R:=R3) (by omega) (fun id hid=>by
    rw[hsame id (by omega),hR,List.getElem?_append_left hid])
   have hget:∀j,R3[B.length+j]?=L3[j]?:=fun j=>by
    rw[hL3,List.getElem?_append_right (by omega),Nat.add_sub_cancel_left]
   have hd3:El R3 2 v0 (frs d ks.length) ks.length:=BM (b:=R.length) (o:=R.length) ⟨by omega,fun id h1 _=>hsame id h1⟩ hd (by
    rcases Bi hd with e|e
    ·exact .inl e
    ·exact .inr ⟨e,by omega⟩)
   have h03:L3[0]?=some (.cells [v0,.nilslice,.nilslice]):=by
    rw[<-hget 0,hsame _ (by omega),hR,List.getElem?_append_right (by omega),Nat.add_sub_cancel_left];exact h0
   have hS3':L3[R.length+1-B.length]?=some (.cells [.slice (B.length+(R.length-B.length)) 0 ks.length (.at_ ks.length)]):=by
    rw[<-hget,show B.length+(R.length+1-B.length)=R.length+1 by omega,hS3.2 _ (by omega) (by omega),hR2,List.getElem?_append_left (by omega),show B.length+(R.length-B.length)=R.length by omega,hR1,List.getElem?_append_right (by omega),Nat.add_sub_cancel_left]
    rfl
   have hW3':L3[R.length-B.length]?=some (.cells (frs (sw ks ps t ps.length) ks.length)):=by
    rw[<-hget,show B.length+(R.length-B.length)=R.length by omega];exact hW3
   rw[hL3]at hd3 ⊢;exact Ur (S:=R.length+1-B.length) (W:=R.length-B.length) (cO:=.at_ ks.length) hB hek hfl hfn h03 hd3 hdB hS3' (by omega) hW3' (by omega) r1 r2 t1 t4 t5 (by rw[t19,show B.length+(R.length+1-B.length)=R.length+1 by omega])) ps.length 0 R2 rfl (Nat.zero_le _) (AZ (Nat.le_refl _)) (by
    rw[hR2,List.getElem?_append_left (by omega),hR1,List.getElem?_append_right (Nat.le_refl _),Nat.sub_self]
    exact congrArg (fun l=>some (Row.cells l)) (Ak fun _ _=>rfl))
 have hlw0:Aa rows.length R.length=rows.length:=Ae (by omega);have hlw1:Aa rows.length (R.length+1)=rows.length:=Ae (by omega)
 have hl30:=Vb (L:=R1) (O:=R.length) (S:=R.length+1) (m:=ks.length) (low:=rows.length) (cO:=.at_ ks.length) (x1:=x1) (x2:=.ptr rows.length 0) (x4:=.ptr (rows.length+1) 0) (x5:=.ptr B.length 0) (x11:=v11) (r:=fun x=>NN rows ks.length d (sw ks ps t ps.length) (fun i=>((gI fl i:Int):Rat)-d i-sw ks ps t ps.length i) (fin rows x.1 x.2.1 x.2.2)) (by omega) hZ1 (by omega) (by omega) (by omega) hS1 (by omega) (fun sl' t1 t2 t4 t5 t11 t19=>by
   rw[hset1];simp[t1,t2,t4,t5,t11,t19,hG1,lnp,r98];rw[<-hR2]
   simpa using hl14) ks.length 0 rfl (Nat.zero_le _)
 simp[s1,s2,s4,s5,s11,hGR,ln,hlim,hz0,hlw0,hlw1];rw[hset];simpa using hl30
end
theorem Qg(s:Int):[AV.int .i64 s,.int .i64 1]=[AV.int .i64 (s:Rat).num,.int .i64 ((s:Rat).den:Int)]:=rfl
theorem QR{f:Nat->Rat}{w:Nat}:frs f (w+1)=frs f w++[.int .i64 (f w).num,.int .i64 ((f w).den:Int)]:=rfl
theorem QO{B L:List Row}{v:AV}{f:Nat->Rat}{n:Nat}(h:Acc B L 2 (.op 2) v (frs f n) n)(h0:0<n):fin B v (B++L) B.length=(.slice B.length 0 n (.op 2),B++[.cells (frs f n)],none):=by
 obtain⟨h1,h2⟩:=h;rcases h2 with ⟨rfl,h3⟩|⟨k,rfl,hk⟩
 ·have:=Au (f:=f) n
  rw[h3]at this;simp at this;omega
 ·exact Cv hk (Eb n)
section
variable {rows:List Row}{n:Nat}
variable {v:AV}{l:List Int}
theorem LD(h:IsL rows v l)(hl:l.length<=1000){r:AV×List Row×Nat->Prop}
  (hc:∀(L:List Row) (y:AV),Acc rows L 2 (.op 2) y (frs (fun i=>((gI l i:Int):Rat)) l.length) l.length->r (y,rows++L,rows.length)):
  ∀(d i:Nat) (L:List Row) (y:AV),l.length-i=d->i<=l.length->Acc rows L 2 (.op 2) y (frs (fun i=>((gI l i:Int):Rat)) i) i->
  Lc43l2 F (.fn [.t 2]) v y (.int .i64 i) (rows++L) rows.length r:=by
 intro d
 induction d with
 |zero=>
  intro i L y hd hi hA;have e:i=l.length:=by omega
  subst e;have ln:=Cs (AA h L);have:=hc L y hA;unfold Lc43l2;simp[ln];exact this
 |succ d ih=>
  intro i L y hd hi0 hA;have hi:i<l.length:=by omega
  have hwi:IntKind.i64.wrap ((i:Int)+1)=((i+1:Nat):Int):=wS (by omega);have h':=AA h L;have ln:=Cs h';have ix:=CX h' hi;have ld:=LI h' hi;rw[Nat.mul_one]at ix;have hfill:Ar (Al []) [(0,1,.c (.int .i64 (gI l i))),(1,1,.c (.int .i64 1))] [.int .i64 0,.int .i64 0]=some [.int .i64 (gI l i),.int .i64 1]:=rfl;have hfill2:Ar (Al []) [(0,2,.c (.agg [.int .i64 (gI l i),.int .i64 1]))] [.int .i64 0,.int .i64 0]=some [.int .i64 (gI l i),.int .i64 1]:=rfl;obtain⟨y',L',ev,hA2⟩:=J8 (low:=rows.length) (b:=16) (x:=[.int .i64 (gI l i),.int .i64 1]) hA rfl (by omega) (by omega) (Nat.le_refl _);rw[Qg,<-QR (f:=fun i=>((gI l i:Int):Rat))]at hA2;have:=ih (i+1) L' y' (by omega) (by omega) hA2;unfold Lc43l2;simp[ln,hi,ix,ld,hfill,hfill2,ev,hwi];simpa using this
theorem MO(h:IsL rows v l)(hl:l.length<=1000)(h0:0<l.length):Ret F 43 [v] rows=some (.slice rows.length 0 l.length (.op 2),rows++[.cells (frs (fun i=>((gI l i:Int):Rat)) l.length)],none):=by
 refine i43 F43 ?_;have:=LD (r:=fun r=>fin rows r.1 r.2.1 r.2.2=(.slice rows.length 0 l.length (.op 2),rows++[.cells (frs (fun i=>((gI l i:Int):Rat)) l.length)],none)) h hl (fun L y hA=>QO hA h0) l.length 0 [] .nilslice rfl (by omega) C9;simp;simpa using this
end
theorem Oc{q k:Nat} : -1<=sgn q k/\sgn q k<=1:=by
 unfold sgn
 split
 ·omega
 ·split<;>omega
theorem ZN{q k:Nat}{t:Int}{B:Int}(ht : -B<=t/\t<=B) : -B<=sgn q k*t/\sgn q k*t<=B:=by
 unfold sgn
 split
 ·omega
 ·split<;>omega
def suZ:Nat->(Nat->Int)->Int
 |0,_=>0
 |n+1,f=>suZ n f+f n
theorem Mj{K:List Row}{b i:Nat}:Ad b (K.map fun(x:Row)=>(i,x))=if b.testBit i=true then K else K.map fun _=>.dead:=by
 unfold Ad
 split
 ·rename_i h
  simp[Function.comp_def,h]
 ·rename_i h
  simp[Function.comp_def,h]
section
variable {rows:List Row}{N:Nat}{ks ps:List Nat}{ev pv x1:AV}{r:AV×List Row×Nat->Prop}
end
abbrev C16:Ctx:=.fn [.t 2,.t 3]
section
variable {rows:List Row}{w:Nat}{x1 x2 x3 x5 x6 x23 x24:AV}{r:AV×List Row×Nat->Prop}
theorem SU{R:List Row}{low:Nat}{cF:Cap}(hw:w<=1000)(hG:GZ R)(hlo:low<=R.length)
  (hc:∀sl:List (Nat×AV),lk sl 1=x1->lk sl 2=x2->lk sl 3=x3->lk sl 5=x5->lk sl 6=x6->lk sl 7 = .ptr (R.length+1) 0->lk sl 23=x23->lk sl 24=x24->
   Ex F C16 [.code c16s28,.inBlock 1,.code c16k20,.inLoop c16l19,.inBlock 0,.code c16s18] ⟨mk 87 sl,R++[.cells (frs (fun _=>0) w),.cells [.slice R.length 0 w cF]],low⟩ r):
  ∀(d j:Nat),w-j=d->j<=w->Lc16l29 F C16 x1 x2 x3 x5 x6 (.ptr (R.length+1) 0) x23 x24 (.int .i64 w) (.int .i64 j) (R++[.cells (B6 w j),.cells [.slice R.length 0 w cF]]) low r:=by
 have h0:=hG.lt;intro d
 induction d with
 |zero=>
  intro j hd hj;have e:j=w:=by omega
  subst e;unfold Lc16l29;simp[-uc16s28];rw[Ks];refine hc _ ?_ ?_ ?_ ?_ ?_ ?_ ?_ ?_<;>simp
 |succ d ih=>
  intro j hd hj0;have hj:j<w:=by omega
  have hwj:IntKind.i64.wrap ((j:Int)+1)=((j+1:Nat):Int):=wS (by omega);have hG':GZ (R++[.cells (B6 w j),.cells [.slice R.length 0 w cF]]):=hG.fx (Fx.app (p:=fun _=>False) _) (by simp);have ld:=JS hG';have hg:(R++[Row.cells (B6 w j),.cells [.slice R.length 0 w cF]])[R.length]?=some (.cells (B6 w j)):=by simp
  have st:=HC (low:=low) hg hj;have hlw:Aa low R.length=low:=lwS (by omega);have hset:(R++[Row.cells (B6 w j),.cells [.slice R.length 0 w cF]]).set R.length (.cells (B6 w (j+1)))=R++[.cells (B6 w (j+1)),.cells [.slice R.length 0 w cF]]:=by
   rw[List.set_append_right _ _ (Nat.le_refl _)];simp
  rw[hset,hlw]at st;have hr7:Af (R++[Row.cells (B6 w j),.cells [.slice R.length 0 w cF]]) (R.length+1)=some [.slice R.length 0 w cF]:=by simp[Af]
  have ix:=fun R':List Row=>Cx (R:=R') (id:=R.length) (c:=cF) hj
  have:=ih (j+1) (by omega) (by omega);unfold Lc16l29;simp[hj,hr7,ld,ix,st,hwj];simpa using this
end
section
variable {N:Nat}{ks ps:List Nat}{r:AV×List Row×Nat->Prop}
theorem X4{R Rb:List Row}{low p:Nat}{n0 ev pv:AV}{sl:List (Nat×AV)}{k:List Itm}(hek:ks.length<=10)(hp:p<ps.length)(hlo:low<=R.length)(h0:0<R.length)
  (he:El R 2 ev (Ac .i64 (eC ks)) ks.length) (hpv:El R 3 pv (Ac .i64 (pC ps)) ps.length)
  (hRb:Rb=R++[.cells (frs (fun _=>0) ks.length),.cells [.slice R.length 0 ks.length (.at_ ks.length)],.cells [n0,ev,pv],.cells [.int .i64 p]])
  (s43:lk sl 43 = .func 93 [.ptr (R.length+2) 0,.ptr (R.length+3) 0]) (s7:lk sl 7 = .ptr (R.length+1) 0)
  (hend:∀Q,Fx R Q (fun _=>False)->Af Q (R.length+1)=some [.slice R.length 0 ks.length (.at_ ks.length)]->R.length+4<=Q.length->Q[R.length]?=some (.cells (frs (plr (gN ps p) ks) ks.length))->Ex F C16 k ⟨mk 87 sl,Q,low⟩ r):
  Ex F C16 (.code (.rf (.t 43) [44,45] c16f22a c16f22b)::k) ⟨mk 87 sl,Rb,low⟩ r:=by
 have hRbl:Rb.length=R.length+4:=by rw[hRb];simp
 have hlt1:ev = .nilslice\/sid ev<R.length:=Bi he;have heo:sid ev≠R.length:=by
  rcases hlt1 with e|e
  ·subst e
   show 0≠_;omega
  ·omega
 have hc0:=KE (f:=fun _=>0) ks.length;have b1:Af Rb (R.length+1)=some [.slice R.length 0 ks.length (.at_ ks.length)]:=by
  rw[hRb];unfold Af;rw[List.getElem?_append_right (by omega)];simp[show R.length+1-R.length=1 by omega]
 refine KB (ks:=ks) (ps:=ps) (p:=p) (ga:=R.length+2) (pa:=R.length+3) (o:=R.length) (n0:=n0) (ev:=ev) (pv:=pv) (upd:=Xw) (c0:=frI (fun _=>0) ks.length) hek hp (by rw[Cz _ _ _ (by omega)];exact s43)
  (by rw[hRb];simp[Af]) (by rw[hRb];simp[Af]) (by rw[hRb];exact Ah he _) (by rw[hRb];exact Ah hpv _) hlo (by omega) heo (by rw[hRb,hc0];simp) ?_ ?_
 ·intro Q i hSQ hM hCQ hi2 hsg
  have hQl:=hSQ.1;have hML:=(List.getElem?_eq_some_iff.1 hM).1;have hnum:=sdG (q:=gN ps p) (ks:=ks) hc0 i (by omega);generalize hc:sdS (gN ps p) ks Xw (frI (fun _=>0) ks.length) i=c at *;generalize hsgn:sgn (gN ps p) (gN ks i)=s at *;generalize hg:(fun e=>if e<i then plr (gN ps p) ks e else 0)=g at *;have hupd:=Il (s:=s) hnum hi2;rw[hnum]at hCQ;rw[hupd];rw[DN,uc16f22a];simp only[Ej,uc16k25,uc16k24];rw[BC];refine⟨none,mk 87 sl,[44,45],c16f22a,c16f22b,hM,?_⟩;have hlwM:Aa Q.length Rb.length=Rb.length:=by unfold Aa;split<;>omega
  have hlwo:Aa Rb.length R.length=R.length:=by unfold Aa;split<;>omega
  have hlwe:Aa R.length Rb.length=R.length:=by unfold Aa;split<;>omega
  rw[hlwM];obtain⟨Q1,hQ1⟩:∃Q1,Q1=Q.set Rb.length (.loop .busy none (mk 87 sl) [44,45] c16f22a c16f22b):=⟨_,rfl⟩
  rw[<-hQ1];have hS1:Sm Rb.length R.length Rb Q1:=by rw[hQ1];exact CY hSQ (.inr (Nat.le_refl _))
  have a1:=Bg hS1 b1 (by omega) (by omega);have hCo:Q1[R.length]?=some (.cells (frs g ks.length)):=by rw[hQ1,List.getElem?_set_ne (by omega)];exact hCQ
  have st:=CC (low:=Rb.length) (q:=(s:Rat)) hCo hi2;rw[hlwo]at st;have hM1:(Q1.set R.length (.cells (frs (fun j=>if j=i then(s:Rat)else g j) ks.length)))[Rb.length]?=some (.loop .busy none (mk 87 sl) [44,45] c16f22a c16f22b):=by
   rw[List.getElem?_set_ne (by omega),hQ1,List.getElem?_set_self hML]
  have hput:=Dh (R:=Q) (M:=Rb.length) (o:=R.length) (x:=.cells (frs (fun j=>if j=i then(s:Rat)else g j) ks.length)) (y:=.loop .busy none (mk 87 sl) [44,45] c16f22a c16f22b) hM (by omega);rw[<-hQ1]at hput;have r63:=fun R:List Row=>Bo (rows:=R) (n:=s)
  have ix:=fun R':List Row=>Cx (R:=R') (id:=R.length) (c:=.at_ ks.length) hi2
  simp[s7,a1,r63,ix,st,opC,Ax,A7];rw[BV hM1,hlwe];refine⟨rfl,hput.1,hput.2.1,hput.2.2,?_⟩;show R.length=min Rb.length R.length;omega
 ·intro Q hSQ hCQ
  have hQl:=hSQ.1;rw[sdG (q:=gN ps p) (ks:=ks) hc0 ks.length (Nat.le_refl _)]at hCQ;refine hend Q ⟨by omega,fun id h1 _=>?_⟩ (Bg hSQ b1 (by omega) (by omega)) (by omega) ?_
  ·rw[hSQ.2 id (by omega) (by omega),hRb,List.getElem?_append_left h1]
  ·rw[hCQ]
   congr 2;exact Ak fun j hj=>by rw[if_pos hj]
end
def plM(ks ps:List Nat)(p e:Nat):Rat:=plr (gN ps p) ks e
section
variable {rows:List Row}{N:Nat}{ks ps:List Nat}{n0 ev pv x2 x3:AV}{r:AV×List Row×Nat->Prop}
theorem Us(hGZ:GZ rows)(hek:ks.length<=10)(hpk:ps.length<=10)(o0:n0.one=true)(he:El rows 2 ev (Ac .i64 (eC ks)) ks.length)(hpv:El rows 3 pv (Ac .i64 (pC ps)) ps.length)
  (hc:∀(R:List Row) (v:AV) (sl:List (Nat×AV)),Tg (rows++[.cells [n0,ev,pv]]) R (plM ks ps) ks.length ps.length v->lk sl 1 = .ptr rows.length 0->lk sl 5=v->Ex F C16 [.code c16s18] ⟨mk 87 sl,R,rows.length⟩ r):
  ∀(d p:Nat) (R:List Row) (v:AV),ps.length-p=d->p<=ps.length->Tg (rows++[.cells [n0,ev,pv]]) R (plM ks ps) ks.length p v->
   Lc16l19 F C16 (.ptr rows.length 0) x2 x3 v (.int .i64 ps.length) (.int .i64 p) R rows.length r:=by
 intro d
 induction d with
 |zero=>
  intro p R v hd hp hT;have e:p=ps.length:=by omega
  subst e;unfold Lc16l19;simp[-uc16s18];refine hc R v _ hT ?_ ?_<;>simp
 |succ d ih=>
  intro p R v hd hp0 hT;have hp:p<ps.length:=by omega
  have hwp:IntKind.i64.wrap ((p:Int)+1)=((p+1:Nat):Int):=wS (by omega);have hFR:Fx rows R (fun _=>False):=(Fx.app _).trans hT.1;have hl1:=hT.1.1;have hl1':rows.length+1<=R.length:=by simpa using hl1
  have hZ:GZ R:=hGZ.fx hFR (by simp);have hS:Sm rows.length rows.length rows R:=⟨hFR.1,fun id h1 _=>hFR.2 id h1 (by simp)⟩
  have he':El R 2 ev (Ac .i64 (eC ks)) ks.length:=BM hS he (by rcases Bi he with e|e;exact .inl e;exact .inr ⟨e,by omega⟩);have hp':El R 3 pv (Ac .i64 (pC ps)) ps.length:=BM hS hpv (by rcases Bi hpv with e|e;exact .inl e;exact .inr ⟨e,by omega⟩);have hb0:Af R rows.length=some [n0,ev,pv]:=by
   unfold Af;rw[hT.1.2 rows.length (by simp) (by simp)];simp
  have ln:=Ao he';have one1:=Am he;have one2:=Am hpv;have hlim:(ks.length:Int)<=lim:=by unfold lim;omega
  have hset0:List.replicate ks.length [AV.int .i64 0,AV.int .i64 0]=List.replicate (ks.length-0) [AV.int .i64 0,AV.int .i64 0]:=rfl;have hz0:(List.replicate ks.length [AV.int .i64 0,AV.int .i64 0]).flatten=B6 ks.length 0:=by unfold B6 frs;simp
  have hl29:=SU (R:=R) (low:=rows.length) (w:=ks.length) (cF:=.at_ ks.length) (x1:=.ptr rows.length 0) (x2:=x2) (x3:=x3) (x5:=v) (x6:=.int .i64 p) (x23:=.int .i64 ps.length) (x24:=.int .i64 p) (r:=r) (by omega) hZ (by omega) (fun sl s1 s2 s3 s5 s6 s7 s23 s24=>by
   have hb1:Af (R++[.cells (frs (fun _=>0) ks.length),.cells [.slice R.length 0 ks.length (.at_ ks.length)]]) rows.length=some [n0,ev,pv]:=Ai hb0 _;have hsd:=CJ (rows:=R++[.cells (frs (fun _=>0) ks.length),.cells [.slice R.length 0 ks.length (.at_ ks.length)]]) (n0:=n0) (ev:=ev) (pv:=pv) (i:=p) o0 one1 one2;have hrf:∀sl',lk sl' 43 = .func 93 [.ptr (R.length+2) 0,.ptr (R.length+3) 0]->lk sl' 7 = .ptr (R.length+1) 0->lk sl' 1 = .ptr rows.length 0->lk sl' 2=x2->lk sl' 3=x3->lk sl' 5=v->lk sl' 23 = .int .i64 ps.length->lk sl' 24 = .int .i64 p->
     Ex F C16 (.code (.rf (.t 43) [44,45] c16f22a c16f22b)::.inBlock 4::.code c16k21::.inBlock 1::.code c16k20::.inLoop c16l19::.inBlock 0::.code c16s18::[]) ⟨mk 87 sl',R++[.cells (frs (fun _=>0) ks.length),.cells [.slice R.length 0 ks.length (.at_ ks.length)],.cells [n0,ev,pv],.cells [.int .i64 p]],rows.length⟩ r:=fun sl' t43 t7 t1 t2 t3 t5 t23 t24=>by
    refine X4 (p:=p) (n0:=n0) hek hp (by omega) (by omega) he' hp' rfl t43 t7 (fun Q hQ hq1 hq2 hq3=>?_);obtain⟨v',R'',happ,hT'⟩:=hT.push (low:=rows.length) (by simp) (by omega) hQ (Nat.le_refl _) hq3;have:=ih (p+1) R'' v' (by omega) (by omega) hT';simp[t1,t2,t3,t5,t7,t23,t24,hq1,Ar,splice,happ,hwp];simpa using this
   simp[s1,s2,s3,s5,s6,s7,s23,s24,hb1,seg,hsd]
   refine hrf _ ?_ ?_ ?_ ?_ ?_ ?_ ?_ ?_<;>simp) ks.length 0 (by omega) (by omega)
  have hlw:Aa rows.length (R.length+1)=rows.length:=Ae (by omega);unfold Lc16l19;simp[hp,hb0,ln,hlim,hz0,hlw];simpa using hl29
end
theorem Jt{q k:Nat}:isz ((sgn q k:Int):Rat) 1:=by
 refine⟨sgn q k,rfl,?_⟩;unfold sgn
 split
 ·decide
 ·split<;>decide
theorem WY{ks ps:List Nat}{n:Nat}(h:ks.length<=10):Bd (plM ks ps) n ks.length ks.length where
 e:=fun i j _ _=>Fp Jt (by omega)
 a:=fun i j _ _=>Fp Jt (by omega)
 nu:=⟨fun _ _=>1,fun i j _ _=>Jt,fun i _=>by rw[Dv];omega⟩
section
variable {rows:List Row}{n:Nat}{cF:Cap}{x1:AV}{r:AV×List Row×Nat->Prop}
theorem RW{R:List Row}{FI low:Nat}{s:GS}(hn:n<=1000)(hk:s.k<=n)(hF:R[FI]?=some (.cells (Ac .i64 (fsl s n))))
  (hc:∀sl:List (Nat×AV),lk sl 1=x1->lk sl 11 = .int .i64 s.k->Ex F C16 [.code c16s3] ⟨mk 87 sl,R,low⟩ r):
  ∀(d i:Nat),n-i=d->i<=n->Lc16l4 F C16 x1 (.int .i64 (min i s.k:Nat)) (.slice FI 0 n cF) (.int .i64 n) (.int .i64 i) R low r:=by
 intro d
 induction d with
 |zero=>
  intro i hd hi;have e:i=n:=by omega
  subst e;have hm:min i s.k=s.k:=Nat.min_eq_right hk;rw[hm];unfold Lc16l4;simp[-uc16s3];refine hc _ ?_ ?_<;>simp
 |succ d ih=>
  intro i hd hi0;have hi:i<n:=by omega
  have hwi:IntKind.i64.wrap ((i:Int)+1)=((i+1:Nat):Int):=wS (by omega);have ixF:=fun R:List Row=>F1 (R:=R) (O:=FI) (c:=cF) hi
  have lF:evP R (.load1 (.c (.ptr FI i)))=some (.int .i64 (if i<s.k then(s.κ i:Int)else -1)):=by
   have hr:Af R FI=some (Ac .i64 (fsl s n)):=by unfold Af;rw[hF]
   show Ag _ (Al []) _=_;unfold Ag;simp only[Al,hr];simp[Ac,fsl,hi]
  have:=ih (i+1) (by omega) (by omega)
  by_cases hik:i<s.k
  ·have e1:min i s.k=i:=Nat.min_eq_left (by omega)
   have e2:min (i+1) s.k=i+1:=Nat.min_eq_left (by omega);rw[if_pos hik]at lF;rw[e2]at this;rw[e1];unfold Lc16l4;simp[hi,ixF,lF,hwi];simpa using this
  ·have e1:min i s.k=s.k:=Nat.min_eq_right (by omega)
   have e2:min (i+1) s.k=s.k:=Nat.min_eq_right (by omega);rw[if_neg hik]at lF;rw[e2]at this;rw[e1];unfold Lc16l4;simp[hi,ixF,lF,hwi];simpa using this
end
def rkS(ks ps:List Nat):Nat:=(gjR (plM ks ps) ps.length ks.length).k
section
variable {rows:List Row}{N:Nat}{ks ps:List Nat}{g:AV}
theorem KY:rkS ks ps<=ps.length:=by
 obtain⟨σ,h⟩:=CG (A:=plM ks ps) (n:=ps.length) ks.length;exact h.kn
theorem OG{R:List Row}{sl:List (Nat×AV)}{ev pv:AV}(hg:GRd rows (.agg [.int .i64 N,ev,pv]) N ks ps)(hFR:Fx (rows++[.cells [.int .i64 N,ev,pv]]) R (fun _=>False))
  (s1:lk sl 1 = .ptr rows.length 0) (s11:lk sl 11 = .int .i64 (rkS ks ps)):
  Ex F C16 [.code c16s3] ⟨mk 87 sl,R,rows.length⟩ fun r=>fin rows r.1 r.2.1 r.2.2=(.tup [.int .i64 ((ks.length:Int)-((N:Int)-(cntL ks N:Int))-(rkS ks ps:Int)),.int .i64 0],rows,none):=by
 have hok:=hg.ok;have hgR:=Fw hg ((Fx.app (p:=fun _=>False) _).trans hFR);have hb0:Af R rows.length=some [.int .i64 N,ev,pv]:=by
  unfold Af;rw[hFR.2 rows.length (by simp) (by simp)];simp
 have hP:=Gx hgR;obtain⟨ev',pv',e,he,hp,_⟩:=hgR.eq;cases e;have ln:=Ao he;have h1:=JR (ks:=ks) N;have h2:=KY (ks:=ks) (ps:=ps);have hek:=hok.ek;have hpk:=hok.pk;have hN:=hok.n6;generalize cntL ks N=C at *;generalize rkS ks ps=K at *;have w1:IntKind.i64.wrap ((N:Int)-(C:Int))=(N:Int)-(C:Int):=AB (by omega) (by omega);have w2:IntKind.i64.wrap ((ks.length:Int)-((N:Int)-(C:Int)))=(ks.length:Int)-((N:Int)-(C:Int)):=AB (by omega) (by omega);have w3:IntKind.i64.wrap ((ks.length:Int)-((N:Int)-(C:Int))-(K:Int))=(ks.length:Int)-((N:Int)-(C:Int))-(K:Int):=AB (by omega) (by omega);simp[s1,s11,hb0,seg,hP,ln,w1,w2,w3,fin]
theorem OP(hGZ:GZ rows)(hg:GRd rows g N ks ps):Ret F 16 [g] rows=some (.tup [.int .i64 ((ks.length:Int)-((N:Int)-(cntL ks N:Int))-(rkS ks ps:Int)),.int .i64 0],rows,none):=by
 obtain⟨ev,pv,rfl,he,hp,_⟩:=id hg.eq;have hok:=hg.ok;have o1:=Am he;have o2:=Am hp;have hek:=hok.ek;have hpk:=hok.pk;have hC:=EW (N:=N) (Ah he [.cells [.int .i64 N,ev,pv]]) (by omega) (Ah hp [.cells [.int .i64 N,ev,pv]]) (by omega);rw[Je hok]at hC;have lnp:=Ao (Ah hp [.cells [.int .i64 N,ev,pv]]);refine i16 F16 ?_
 have hl19:=Us (rows:=rows) (ks:=ks) (ps:=ps) (n0:=.int .i64 N) (ev:=ev) (pv:=pv) (x2:=.int .i64 0) (x3:=.int .i64 0) (r:=fun r=>fin rows r.1 r.2.1 r.2.2=(.tup [.int .i64 ((ks.length:Int)-((N:Int)-(cntL ks N:Int))-(rkS ks ps:Int)),.int .i64 0],rows,none)) hGZ hek (by omega) rfl he hp (fun R v sl hT s1 s5=>by
  have hl1:=hT.1.1;have hl1':rows.length+1<=R.length:=by simpa using hl1
  have hFR:Fx rows R (fun _=>False):=(Fx.app _).trans hT.1;have hZ:=hGZ.fx hFR (by simp);have ld:=JS hZ;have hb0:Af R rows.length=some [.int .i64 N,ev,pv]:=by
   unfold Af;rw[hT.1.2 rows.length (by simp) (by simp)];simp
  have hgR:=Fw hg hFR;obtain⟨ev',pv',e,he',hp',_⟩:=hgR.eq;cases e;have ln:=Ao he';rcases hT.2 with ⟨e0,rfl⟩|⟨h0,LO,idf,rfl,hm⟩
  ·obtain⟨cF,hr⟩:=Fy (rows:=R) (cols:=ks.length) (by omega)
   have hrk:rkS ks ps=0:=by have:=KY (ks:=ks) (ps:=ps);omega
   simp[s1,s5,ld,hb0,ln,hr];refine RW (n:=0) (s:=gjR (plM ks ps) ps.length ks.length) (FI:=R.length) (by omega) (by have:=hrk;unfold rkS at this;omega) (by simp[fsl,Ac]) (fun sl t1 t11=>?_) 0 0 rfl (Nat.le_refl _);exact OG hg (hT.1.trans (Fx.app _)) t1 t11
  ·obtain⟨q,hq,FI,cF,R',lo,idf',cap',rfl,hFI,hm',hpm,hF',hfx,hlo⟩:=E4 (cO:=.op 1) (by omega) (show ks.length<=1000 by omega) (Nat.le_refl _) (WY hek) (fun c a _ h1 h2 _=>by omega) hm
   have hlow:Ay rows.length lo=rows.length:=by
    cases lo with
    |none=>rfl
    |some l=>
     have:=hlo l rfl;simp at this;show Aa rows.length l=rows.length;unfold Aa;rw[if_neg (by omega)]
   simp only[Ay]at hlow;simp[s1,s5,ld,hb0,ln,hq,hlow];refine RW (n:=ps.length) (s:=gjR (plM ks ps) ps.length ks.length) (by omega) KY hF' (fun sl t1 t11=>?_) ps.length 0 rfl (by omega);refine OG hg ⟨by have:=hfx.1;omega,fun id h1 _=>?_⟩ t1 t11;rw[hfx.2 id (by omega) (fun hp=>?_),hT.1.2 id h1 (by simp)];rcases hp with hp|⟨i,hi,hp⟩
   ·have:=hm.ob;omega
   ·have:=hm.ib i hi;omega) ps.length 0 (rows++[.cells [.int .i64 N,ev,pv]]) .nilslice rfl (by omega) ⟨Fx.refl,.inl ⟨rfl,rfl⟩⟩
 simp[o1,o2,seg,hC,lnp];simpa using hl19
end
section
variable {A:Nat->Nat->Rat}{n:Nat}
theorem SG{k a i j:Nat}(h:swp k a i=swp k a j):i=j:=by
 unfold swp at h
 split at h<;>split at h<;>(try split at h)<;>(try split at h)<;>omega
theorem Jg{k a i n:Nat}(hk:k<n)(ha:a<n)(hi:i<n):swp k a i<n:=by unfold swp;split;exact ha;split;exact hk;exact hi
theorem Uv{k a i:Nat}:swp k a (swp k a i)=i:=by
 unfold swp
 by_cases h1:i=k
 ·subst h1
  rw[if_pos rfl]
  by_cases h2:a=i
  ·subst h2;rw[if_pos rfl]
  ·rw[if_neg h2,if_pos rfl]
 ·rw[if_neg h1]
  by_cases h2:i=a
  ·subst h2;rw[if_pos rfl,if_pos rfl]
  ·rw[if_neg h2,if_neg h1,if_neg h2]
theorem Np:∀c,∃σ,Gj A n (gjR A n c).k c σ (gjR A n c).κ (gjR A n c).M/\(∀i j,i<n->j<n->σ i=σ j->i=j)/\∀r,r<n->∃i,i<n/\σ i=r
 |0=>⟨id,Aa2,fun i j _ _ h=>h,fun r hr=>⟨r,hr,rfl⟩⟩
 |
  c+1=>by
  obtain⟨σ,h,hin,hsu⟩:=Np c;have hkn:=h.kn;obtain⟨h1,h2,h3,h4⟩:=I0 (M:=(gjR A n c).M) (c:=c) (n:=n) (n-(gjR A n c).k) (gjR A n c).k (by omega);rw[gjR,gst]
  split
  ·rename_i hlt
   refine⟨_,h.step h1 hlt (h3 hlt),fun i j hi hj e=>SG (hin _ _ (Jg (by omega) hlt hi) (Jg (by omega) hlt hj) e),fun r hr=>?_⟩;obtain⟨i,hi,e⟩:=hsu r hr;exact⟨_,Jg (show(gjR A n c).k<n by omega) hlt hi,by rw[Uv];exact e⟩
  ·exact⟨σ,h.skip fun i hi hin=>h4 i hi (by omega),hin,hsu⟩
theorem Jy{a:Nat}(ha:a<n)(f:Nat->Rat):su n (fun r=>(if r=a then 1 else 0)*f r)=f a:=by
 rw[Cm ha fun r _ hne=>by rw[if_neg hne];grind,if_pos rfl];grind
theorem Oz{C:Nat->Nat->Rat}{m k:Nat}(hk:k<m):∃y:Nat->Rat,(∃i,i<m/\y i≠0)/\∀j,j<k->su m (fun r=>y r*C r j)=0:=by
 obtain⟨σ,h,hin,_⟩:=Np (A:=C) (n:=m) k;have hle:=h.kle;obtain⟨l,hl⟩:=h.nc (gjR C m k).k (Nat.le_refl _) (by omega);have hz:=h.z (gjR C m k).k;generalize (gjR C m k).k=q at *;have hq:q<m:=by omega
 refine⟨fun r=>(if r=σ q then 1 else 0)-su q fun s=>l s*(if r=σ s then 1 else 0),⟨σ q,h.σn q hq,?_⟩,fun j hj=>?_⟩
 ·simp only[if_true]
  rw[Ab (g:=fun _=>0) (fun s hs=>by
   rw[if_neg (fun e=>by have:=hin q s hq (by omega) e;omega)]
   grind),VQ]
  grind
 ·have e:su m (fun r=>((if r=σ q then 1 else 0)-su q fun s=>l s*(if r=σ s then 1 else 0))*C r j)=su m (fun r=>(if r=σ q then 1 else 0)*C r j)-su m (fun r=>su q fun s=>l s*((if r=σ s then 1 else 0)*C r j)):=by
   rw[<-EM];refine Ab fun r _=>?_
   have:su q (fun s=>l s*((if r=σ s then 1 else 0)*C r j))=C r j*su q fun s=>l s*(if r=σ s then 1 else 0):=by
    rw[<-A6];exact Ab fun s _=>by grind
   rw[this];grind
  rw[e,Jy (h.σn q hq) (fun r=>C r j),Cd];have:=hz j (Nat.le_refl _) hq hj;rw[hl]at this;refine Eq.trans ?_ this;congr 1;refine Ab fun s hs=>?_
  rw[A6,Jy (h.σn s (by omega)) (fun r=>C r j)]
theorem Gj.comb1{M:Nat->Nat->Rat}{k c:Nat}{σ κ:Nat->Nat}(h:Gj A n k c σ κ M){t:Nat}(ht:t<k):∃y:Nat->Rat,∀j,M t j=su n fun r=>y r*A r j:=by
 obtain⟨μ,hμ⟩:=h.pc t ht;have hkn:=h.kn;refine⟨fun r=>su k fun s=>μ s*(if r=σ s then 1 else 0),fun j=>?_⟩;have e:su n (fun r=>(su k fun s=>μ s*(if r=σ s then 1 else 0))*A r j)=su n (fun r=>su k fun s=>μ s*((if r=σ s then 1 else 0)*A r j)):=Ab fun r _=>by
  have:su k (fun s=>μ s*((if r=σ s then 1 else 0)*A r j))=A r j*su k fun s=>μ s*(if r=σ s then 1 else 0):=by
   rw[<-A6];exact Ab fun s _=>by grind
  rw[this];grind
 rw[e,Cd,hμ];refine Ab fun s hs=>?_
 rw[A6,Jy (h.σn s (by omega)) (fun r=>A r j)]
end
theorem XY(x:Rat):0<=x*x:=by
 rcases(Rat.le_total (a:=0) (b:=x))with h|h
 ·exact Rat.mul_nonneg h h
 ·have h2:0 <= -x:=by grind
  have:=Rat.mul_nonneg h2 h2;grind
theorem Kc{f:Nat->Rat}:∀n,0<=su n fun e=>f e*f e
 |0=>Rat.le_refl
 |
  n+1=>by
  have h1:=Kc (f:=f) n;have h2:=XY (f n);rw[su];grind
theorem HU{f:Nat->Rat}:∀{n:Nat},su n (fun e=>f e*f e)=0->∀e,e<n->f e=0
 |0,_,e,he=>by omega
 |
  n+1,h,e,he=>by
  have h1:=Kc (f:=f) n;have h2:=XY (f n);rw[su]at h;have h3:su n (fun e=>f e*f e)=0:=by grind
  have h4:f n*f n=0:=by grind
  by_cases c:e=n
  ·subst c
   rcases Rat.mul_eq_zero.1 h4 with h|h<;>exact h
  ·exact HU h3 e (by omega)
section
variable {S G:Nat->Nat->Rat}{n w:Nat}
theorem UF(hG:∀i j,i<n->j<n->G i j=su w fun e=>S i e*S j e){y:Nat->Rat}{j:Nat}(hj:j<n):su n (fun r=>y r*G r j)=su w fun e=>(su n fun r=>y r*S r e)*S j e:=by
 have e1:su n (fun r=>y r*G r j)=su n fun r=>su w fun e=>y r*(S r e*S j e):=Ab fun r hr=>by rw[hG r j hr hj,A6]
 rw[e1,Cd];refine Ab fun e _=>?_
 have:su n (fun r=>y r*(S r e*S j e))=S j e*su n fun r=>y r*S r e:=by
  rw[<-A6];exact Ab fun r _=>by grind
 rw[this];grind
theorem WO(hG:∀i j,i<n->j<n->G i j=su w fun e=>S i e*S j e){y:Nat->Rat}(h:∀j,j<n->su n (fun r=>y r*G r j)=0):∀e,e<w->su n (fun r=>y r*S r e)=0:=by
 have h1:su n (fun j=>y j*su n fun r=>y r*G r j)=0:=Eu fun j hj=>by rw[h j hj];grind
 have h2:su n (fun j=>y j*su n fun r=>y r*G r j)=su w fun e=>(su n fun r=>y r*S r e)*(su n fun r=>y r*S r e):=by
  have e1:su n (fun j=>y j*su n fun r=>y r*G r j)=su n fun j=>su w fun e=>y j*((su n fun r=>y r*S r e)*S j e):=Ab fun j hj=>by rw[UF hG hj,A6]
  rw[e1,Cd];refine Ab fun e _=>?_
  have:su n (fun j=>y j*((su n fun r=>y r*S r e)*S j e))=(su n fun r=>y r*S r e)*su n fun j=>y j*S j e:=by
   rw[<-A6];exact Ab fun j _=>by grind
  rw[this]
 rw[h2]at h1;exact HU h1
end
theorem O7{g:Nat->Int}{n:Nat}(a:Nat):(if a<n+1 then g a else 0)=(if a<n then g a else 0)+(if n=a then g n else 0):=by
 by_cases e:n=a
 ·subst e
  rw[if_pos (by omega),if_neg (by omega),if_pos rfl];omega
 ·rw[if_neg e]
  by_cases c:a<n
  ·rw[if_pos c,if_pos (by omega)]
   omega
  ·rw[if_neg c,if_neg (by omega)]
   omega
theorem G6{g h:Nat->Int}{i1 i2 i3 w:Nat}(l13:i1<i3)(l32:i3<i2)(hs:∀e,e<w->h e=if e=i1\/e=i2 then 1 else if e=i3 then -1 else 0):∀n,n<=w->suZ n (fun e=>g e*h e)=(if i1<n then g i1 else 0)+(if i2<n then g i2 else 0)-(if i3<n then g i3 else 0)
 |0,_=>by simp[suZ]
 |
  n+1,hn=>by
  have ih:=G6 (g:=g) l13 l32 hs n (by omega);rw[suZ,ih,hs n (by omega),O7 i1,O7 i2,O7 i3];generalize (if i1<n then g i1 else 0)=A;generalize (if i2<n then g i2 else 0)=B;generalize (if i3<n then g i3 else 0)=C
  by_cases c1:n=i1
  ·have h2:¬n=i2:=by omega
   have h3:¬n=i3:=by omega
   simp only[c1,true_or,if_true];simp only[<-c1,h2,h3,if_false];omega
  ·by_cases c2:n=i2
   ·have h3:¬n=i3:=by omega
    simp only[c1,if_false,c2,or_true,if_true];simp only[<-c2,h3,if_false];omega
   ·by_cases c3:n=i3
    ·have h1:¬i3=i1:=by omega
     have h2:¬i3=i2:=by omega
     simp only[c3,h1,h2,or_self,if_false,if_true];omega
    ·simp only[c1,c2,c3,or_self,if_false]
     omega
def Vw(q:Nat):Bool:=decide (q/36<q/6%6)&&decide (q/6%6<q%6)
def pl3(p q:Nat):Int:=sgn p (q/36*6+q/6%6)+sgn p (q/6%6*6+q%6)-sgn p (q/36*6+q%6)
theorem Wh:((List.range 216).all fun q=>!Vw q||(List.range 216).all fun p=>!Vw p||p==q||(decide (-1<=pl3 p q)&&decide (pl3 p q<=1)))=true:=by decide +kernel
theorem ZA{p q:Nat}(hp:Vw p=true)(hq:Vw q=true)(h1:p<216)(h2:q<216)(hne:p≠q) : -1<=pl3 p q/\pl3 p q<=1:=by
 have h:=Wh;rw[List.all_eq_true]at h;have:=h q (List.mem_range.2 h2);rw[hq,Bool.not_true,Bool.false_or,List.all_eq_true]at this;have:=this p (List.mem_range.2 h1);rw[hp,Bool.not_true,Bool.false_or]at this;simp only[Bool.or_eq_true,beq_iff_eq,Bool.and_eq_true,decide_eq_true_eq]at this;rcases this with h|h
 ·exact absurd h hne
 ·exact h
section
variable {N:Nat}{ks ps:List Nat}
theorem Qk(hok:GOK N ks ps){i j:Nat}(hi:i<ps.length)(hj:j<ps.length):suZ ks.length (fun e=>sgn (gN ps i) (gN ks e)*sgn (gN ps j) (gN ks e))=pl3 (gN ps i) (gN ps j):=by
 obtain⟨h1,h2,h3,k1,k2,k3⟩:=hok.pe _ (AU hj);generalize hq:gN ps j=q at *;have hm1:q/6%6<6:=Nat.mod_lt _ (by omega);have hm2:q%6<6:=Nat.mod_lt _ (by omega);obtain⟨i1,a1,a2,a3⟩:=DQ hm1 k1;obtain⟨i3,c1,c2,c3⟩:=DQ hm2 k2;obtain⟨i2,b1,b2,b3⟩:=DQ hm2 k3;have hs:∀e,e<ks.length->sgn q (gN ks e)=if e=i1\/e=i2 then 1 else if e=i3 then -1 else 0:=fun i hi=>by
  have e1:i=i1↔gN ks i=q/36*6+q/6%6:=⟨fun e=>by rw[e,a3],fun e=>E1 hok.es hi a1 (by omega)⟩
  have e2:i=i2↔gN ks i=q/6%6*6+q%6:=⟨fun e=>by rw[e,b3],fun e=>E1 hok.es hi b1 (by omega)⟩
  have e3:i=i3↔gN ks i=q/36*6+q%6:=⟨fun e=>by rw[e,c3],fun e=>E1 hok.es hi c1 (by omega)⟩
  unfold sgn;have d1:(gN ks i/6=q/36/\gN ks i%6=q/6%6)↔i=i1:=by rw[e1];omega
  have d2:(gN ks i/6=q/6%6/\gN ks i%6=q%6)↔i=i2:=by rw[e2];omega
  have d3:(gN ks i/6=q/36/\gN ks i%6=q%6)↔i=i3:=by rw[e3];omega
  simp only[d1,d2,d3]
 have l13:=Kw hok.es a1 c1 (by omega);have l32:=Kw hok.es c1 b1 (by omega);rw[G6 (g:=fun e=>sgn (gN ps i) (gN ks e)) l13 l32 hs ks.length (Nat.le_refl _),if_pos a1,if_pos b1,if_pos c1,a3,b3,c3]
 rfl
end
theorem IJ{f g:Nat->Int}:∀{n:Nat},(∀e,e<n->f e=g e)->suZ n f=suZ n g
 |0,_=>rfl
 |n+1,h=>by rw[suZ,suZ,IJ fun e he=>h e (by omega),h n (by omega)]
theorem DF{f:Nat->Int}:∀n,((suZ n f:Int):Rat)=su n fun e=>((f e:Int):Rat)
 |0=>rfl
 |n+1=>by rw[suZ,su,Rat.intCast_add,DF n]
theorem RP{i:Nat}:∀n,ns n (fun j=>if i=j then 3 else 1)<=n+(if i<n then 2 else 0)
 |0=>by simp[ns]
 |
  n+1=>by
  have ih:=RP (i:=i) n;rw[ns]
  by_cases e:i=n
  ·subst e
   rw[if_neg (by omega)]at ih;rw[if_pos rfl,if_pos (by omega)];omega
  ·rw[if_neg e]
   by_cases c:i<n
   ·rw[if_pos c]at ih
    rw[if_pos (by omega)];omega
   ·rw[if_neg c]at ih
    rw[if_neg (by omega)];omega
section
variable {N:Nat}{ks ps:List Nat}{f:List Int}
theorem KL{p q:Nat} : -3<=pl3 p q/\pl3 p q<=3:=by
 unfold pl3;have h1:=Oc (q:=p) (k:=q/36*6+q/6%6);have h2:=Oc (q:=p) (k:=q/6%6*6+q%6);have h3:=Oc (q:=p) (k:=q/36*6+q%6);omega
end
theorem IG{a:Int}{L B:Nat}(hL:0<L)(h:a.natAbs*L<=B):dn (a:Rat) L B:=by
 refine⟨hL,by rw[Rat.den_intCast];exact Nat.one_dvd L,?_⟩;unfold sc;rw[Rat.num_intCast,Rat.den_intCast,Int.natAbs_mul,Nat.div_one];simpa using h
theorem K2{q:Rat}{L B t:Nat}(h:dn q L B)(ht:0<t):dn q (L*t) (B*t):=by
 refine⟨Nat.mul_pos h.L0 ht,Nat.dvd_trans h.d (Nat.dvd_mul_right L t),?_⟩;obtain⟨c,hc⟩:=h.d;have hq:=q.den_pos;have e1:L/q.den=c:=by rw[hc,Nat.mul_div_cancel_left _ hq]
 have e2:L*t/q.den=c*t:=by rw[hc,Nat.mul_assoc,Nat.mul_div_cancel_left _ hq]
 have hb:=h.b;unfold sc at hb ⊢;rw[e1]at hb;rw[e2,Int.natCast_mul,<-Int.mul_assoc,Int.natAbs_mul];exact Nat.mul_le_mul hb (by simp)
theorem RQ{q:Rat}{L B:Nat}(h:dn q L B):dn (-q) L B:=by
 refine⟨h.L0,by rw[Rat.neg_den];exact h.d,?_⟩;have hb:=h.b;unfold sc at hb ⊢;rw[Rat.neg_den,Rat.neg_num,Int.neg_mul,Int.natAbs_neg];exact hb
theorem WK{x y:Rat}{L B C:Nat}(h:dn x L B)(k:dn y L C):dn (x+y) L (B+C):=by
 have:=Kf h (RQ k);have e:x - -y=x+y:=by grind
 rwa[e]at this
theorem Ny{q:Rat}{L B:Nat}{s:Int}(h:dn q L B)(hs:s.natAbs<=1):dn (q*(s:Rat)) L B:=by
 have:s=0\/s=1\/s = -1:=by omega
 rcases this with rfl|rfl|rfl
 ·have e:q*((0:Int):Rat)=((0:Int):Rat):=by
   show q*0=0;grind
  rw[e];exact IG h.L0 (by simp)
 ·have e:q*((1:Int):Rat)=q:=by
   show q*1=q;grind
  rw[e];exact h
 ·have e:q*((-1:Int):Rat) = -q:=by
   show q * -1 = -q;grind
  rw[e];exact RQ h
theorem Xa{A:Nat->Nat->Rat}{n cols:Nat}(hb:Bd A n (cols+1) cols)(hk:cols<=6):∃L,L<=1000000/\∀j,dn (xs (gjR A n cols) cols j) L 300000000:=by
 obtain⟨σ,h⟩:=CG (A:=A) (n:=n) cols;have hkc:=h.kle;have hkn:=h.kn;generalize gjR A n cols=s at *
 by_cases k0:s.k=0
 ·refine⟨1,by omega,fun j=>?_⟩
  have:xs s cols j=((0:Int):Rat):=by unfold xs;rw[k0];rfl
  rw[this];exact IG (by omega) (by simp)
 obtain⟨d,hd,hdb⟩:=(h.Disz hb (Nat.le_refl _) (show 0<n by omega)).1;have hd0:d≠0:=fun e=>h.D (by rw[hd,e];rfl)
 have p6:=M5 (show s.k<=6 by omega);rw[show(10:Nat)^6=1000000 from rfl]at p6;refine⟨d.natAbs,by omega,fun j=>?_⟩
 by_cases c:∃t,t<s.k/\s.κ t=j
 ·obtain⟨t,ht,rfl⟩:=c
  have e:xs s cols (s.κ t)=s.M t cols:=by
   unfold xs
   rw[Cm ht fun i hi hne=>by
    rw[if_neg];intro e;rcases Nat.lt_or_ge i t with c|c
    ·have:=h.ki i t c ht;omega
    ·have:=h.ki t i (by omega) hi;omega]
   rw[if_pos rfl]
  rw[e];obtain⟨m,hm,hmb⟩:=(h.Disz hb (Nat.le_refl _) (show t<n by omega)).2 cols 500 (fun i hi=>hb.e i cols hi (by omega));rw[if_pos ht]at hmb;rw[hd]at hm;have p5:=M5 (show s.k-1<=5 by omega);rw[show(10:Nat)^5=100000 from rfl]at p5;have hbd:s.k*(10^(s.k-1)*500)<=300000000:=by
   have:=Nat.mul_le_mul (show s.k<=6 by omega) (Nat.mul_le_mul_right 500 p5);omega
  have:=Qz hd0 (q:=s.M t cols) (n:=m) (by rw[<-hm];grind) (t:=1) (by omega);rw[Nat.mul_one,Nat.mul_one]at this;exact Jh this (by omega)
 ·have:xs s cols j=((0:Int):Rat):=by
   unfold xs;rw[Eu fun t ht=>by rw[if_neg fun e=>c ⟨t,ht,e⟩]]
   rfl
  rw[this];exact IG (by omega) (by simp)
section
variable {N:Nat}{ks ps:List Nat}{fl:List Int}
theorem Of{q:Nat}{ks:List Nat}{f:List Int}(hm:ks.length<=10)(hf:∀e,e<ks.length -> -100<=gI f e/\gI f e<=100):∀i,i<=ks.length->sdS q ks (VA f) [0] i=[suZ i fun e=>sgn q (gN ks e)*gI f e] /\ -(100*i:Int)<=suZ i (fun e=>sgn q (gN ks e)*gI f e)/\suZ i (fun e=>sgn q (gN ks e)*gI f e)<=100*i
 |0,_=>⟨rfl,by simp[suZ],by simp[suZ]⟩
 |
  i+1,hi=>by
  obtain⟨h1,h2,h3⟩:=Of (q:=q) hm hf i (by omega);have h4:=ZN (q:=q) (k:=gN ks i) (t:=gI f i) (B:=100) (hf i (by omega));rw[sdS,h1];show(if sgn q (gN ks i)=0 then _ else _)=[suZ i (fun e=>sgn q (gN ks e)*gI f e)+sgn q (gN ks i)*gI f i] /\ -(100*((i+1:Nat):Int))<=suZ i (fun e=>sgn q (gN ks e)*gI f e)+sgn q (gN ks i)*gI f i/\suZ i (fun e=>sgn q (gN ks e)*gI f e)+sgn q (gN ks i)*gI f i<=100*((i+1:Nat):Int);generalize suZ i (fun e=>sgn q (gN ks e)*gI f e)=S at *;refine⟨?_,by omega,by omega⟩
  by_cases hz:sgn q (gN ks i)=0
  ·rw[if_pos hz,hz]
   simp
  ·rw[if_neg hz]
   show[IntKind.i64.wrap (gI [S] 0+IntKind.i64.wrap (sgn q (gN ks i)*gI f i))]=_;have e:gI [S] 0=S:=rfl;rw[e,AB (n:=sgn q (gN ks i)*gI f i) (by omega) (by omega),AB (by omega) (by omega)]
theorem TJ{ks:List Nat}{fl:List Int}(hl:fl.length=ks.length)(hb:∀x∈fl,-100<=x/\x<=100):∀e,e<ks.length -> -100<=gI fl e/\gI fl e<=100:=fun e he=>hb _ (E6 (by omega))
theorem Mw(hok:GOK N ks ps)(hl:fl.length=ks.length)(hb:∀x∈fl,-100<=x/\x<=100){i:Nat}(hi:i<ps.length):gI (ps.map (tuS ks fl)) i=suZ ks.length fun e=>sgn (gN ps i) (gN ks e)*gI fl e:=by
 rw[Ca (by simpa using hi),List.getElem_map];unfold tuS;have h:=Of (q:=ps[i]) (f:=fl) hok.ek (TJ hl hb) ks.length (Nat.le_refl _);rw[h.1,G1 hi]
 rfl
theorem Su{a:Nat->Int}{f:Nat->Int}:∀n,(∀e,e<n->(a e).natAbs<=1/\(f e).natAbs<=100)->(suZ n fun e=>a e*f e).natAbs<=100*(suZ n fun e=>a e*a e).natAbs/\0<=suZ n fun e=>a e*a e
 |0,_=>by simp[suZ]
 |
  n+1,h=>by
  obtain⟨h1,h2⟩:=Su n fun e he=>h e (by omega)
  obtain⟨k1,k2⟩:=h n (by omega);have:a n=0\/a n=1\/a n = -1:=by omega
  simp only[suZ];rcases this with e|e|e<;>rw[e]<;>omega
theorem NS(hok:GOK N ks ps)(hl:fl.length=ks.length)(hb:∀x∈fl,-100<=x/\x<=100){i:Nat}(hi:i<ps.length):(gI (ps.map (tuS ks fl)) i).natAbs<=500:=by
 rw[Mw hok hl hb hi];have h:=(Su (a:=fun e=>sgn (gN ps i) (gN ks e)) (f:=fun e=>gI fl e) ks.length fun e he=>⟨PS,by have:=TJ hl hb e he;omega⟩).1;have h2:=Qk hok hi hi;have h3:=KL (p:=gN ps i) (q:=gN ps i);rw[h2]at h;omega
theorem Ib{a b:Nat}:∀i,zS ks a b i=suZ i fun e=>sgn a (gN ks e)*sgn b (gN ks e)
 |0=>rfl
 |i+1=>by rw[zS,suZ,Ib i]
theorem Q8(hpk:ps.length<=6){tl:List Int}{i j:Nat}(hj:j<ps.length):sA ks ps tl i j=((zS ks (gN ps i) (gN ps j) ks.length:Int):Rat):=by
 unfold sA DO tf sT CT;rw[if_pos hj,show(i*11+j)/11=i by omega,show(i*11+j)%11=j by omega,if_neg (by omega),if_pos hj]
theorem V9{tl:List Int}{i j:Nat}(hj:ps.length<=j):sA ks ps tl i j=((gI tl i:Int):Rat):=by
 unfold sA DO tf sT;rw[if_neg (by omega),show(i*11+10)/11=i by omega,show(i*11+10)%11=10 by omega,if_pos rfl]
theorem W2(hok:GOK N ks ps){tl:List Int}(hf:∀i,i<ps.length->(gI tl i).natAbs<=500):Bd (sA ks ps tl) ps.length (ps.length+1) ps.length where
 e:=fun i j hi hj=>by
  by_cases c:j<ps.length
  ·rw[Q8 hok.pk c,Ib,Qk hok hi c]
   have:=KL (p:=gN ps i) (q:=gN ps j);exact⟨_,rfl,by omega⟩
  ·have:=hf i hi
   rw[V9 (by omega)];exact⟨_,rfl,by omega⟩
 a:=fun i j hi hj=>by
  rw[Q8 hok.pk hj,Ib,Qk hok hi hj];have:=KL (p:=gN ps i) (q:=gN ps j);exact⟨_,rfl,by omega⟩
 nu:=by
  refine⟨fun i j=>if i=j then 3 else 1,fun i j hi hj=>?_,fun i hi=>?_⟩
  ·rw[Q8 hok.pk hj,Ib,Qk hok hi hj]
   show isz _ (if i=j then 3 else 1)
   by_cases e:i=j
   ·have:=KL (p:=gN ps i) (q:=gN ps j)
    rw[if_pos e];exact⟨_,rfl,by omega⟩
   ·have hpk:∀k,k<ps.length->Vw (gN ps k)=true/\gN ps k<216:=fun k hk=>by
     obtain⟨h1,h2,h3,_⟩:=hok.pe _ (AU hk);exact⟨by unfold Vw;simp[h1,h2],h3⟩
    have:=ZA (hpk i hi).1 (hpk j hj).1 (hpk i hi).2 (hpk j hj).2 (fun h=>e (E1 hok.psd hi hj h));rw[if_neg e];exact⟨_,rfl,by omega⟩
  ·show ns ps.length (fun j=>if i=j then 3 else 1)<=10
   have:=RP (i:=i) ps.length;have:=hok.pk;have e:(if i<ps.length then 2 else 0)<=2:=by split<;>omega
   omega
end
section
variable {f g:Rat}{L L' B C:Nat}{rows:List Row}
theorem GX(hf:dn f L B)(hg:dn g L' C)(h1:L*L'<=1000000000000)(h2:B*L'<=3000000000000000000)(h3:C*L<=3000000000000000000):Ret F 95 [fr f,fr g] rows=some (fr (f-g),rows,none):=by
 have e1:=K2 hf hg.L0;have e2:=K2 hg hf.L0;rw[Nat.mul_comm L' L]at e2;have hMX:MX=9223372036854775807:=rfl;exact FB e1.d e2.d e1.L0 (by omega) (by have:=e1.b;have:=e2.b;omega) (LZ e2 (by omega) (by omega))
theorem SF(hf:dn f L B)(hg:dn g L C)(h1:L<=1000000000000)(h2:B<=3000000000000000000)(h3:C<=3000000000000000000):Ret F 97 [fr f,fr g] rows=some (fr (f+g),rows,none):=by
 have hMX:MX=9223372036854775807:=rfl;exact Hn hf.d hg.d hf.L0 (by omega) (by have:=hf.b;have:=hg.b;omega)
theorem PE{s:Int}(hf:dn f L B)(hs:s.natAbs<=1)(h1:L<=1000000000000)(h2:B<=3000000000000000000):Ret F 99 [fr f,fr (s:Rat)] rows=some (fr (f*(s:Rat)),rows,none):=by
 have hMX:MX=9223372036854775807:=rfl;refine E5 (LZ hf (by omega) (by omega)) ⟨?_,?_⟩ (LZ (Ny hf hs) (by omega) (by omega))
 ·rw[Rat.num_intCast];omega
 ·rw[Rat.den_intCast];omega
end
section
variable {N:Nat}{ks ps:List Nat}{fl:List Int}{h t:Nat->Rat}{L1 L2:Nat}
theorem Wf(ht:∀j,dn (t j) L2 300000000):∀p e,dn (sw ks ps t p e) L2 (p*300000000)
 |
  0,e=>by
  show dn (((0:Int):Rat)) L2 _;exact IG (ht 0).L0 (by simp)
 |
  p+1,e=>by
  have:=WK (Wf ht p e) (Ny (ht p) (PS (q:=gN ps p) (k:=gN ks e)));have e1:p*300000000+300000000=(p+1)*300000000:=by omega
  rw[e1]at this;exact this
theorem Xu(hh:∀j,dn (h j) L1 300000000)(e:Nat):dn (dfl h ks e) L1 600000000:=Kf (hh _) (hh _)
end
def pt0(ks:List Nat)(fl:List Int)(N:Nat):Nat->Rat:=dfl (bH ks fl N) ks
def pt1(ks ps:List Nat)(fl:List Int):Nat->Rat:=sw ks ps (sX ks ps (ps.map (tuS ks fl))) ps.length
def pt2(ks ps:List Nat)(fl:List Int)(N:Nat):Nat->Rat:=fun i=>((gI fl i:Int):Rat)-pt0 ks fl N i-pt1 ks ps fl i
section
variable {rows:List Row}{N:Nat}{ks ps:List Nat}{g x1:AV}{fl:List Int}
theorem Zq(hok:GOK N ks ps)(hl:fl.length=ks.length)(hb:∀x∈fl,-100<=x/\x<=100):∃L,L<=1000000/\∀j,dn (bH ks fl N j) L 300000000:=
 Xa (V7 (f:=fo ks N) (gl:=gnS N ks fl ks.length) hok (fun v hv=>by
  rw[Lr hok hl hb hv ks.length (Nat.le_refl _)];have:=Q7 (v:=v) hl hb ks.length (Nat.le_refl _);have:=QN hok hv
  omega) (bN ks N)) hok.n6
theorem AaG(hok:GOK N ks ps)(hl:fl.length=ks.length)(hb:∀x∈fl,-100<=x/\x<=100):∃L,L<=1000000/\∀j,dn (sX ks ps (ps.map (tuS ks fl)) j) L 300000000:=
 Xa (W2 hok fun i hi=>NS hok hl hb hi) hok.pk
theorem Mt(hGZ:GZ rows)(hg:GRd rows g N ks ps)(h:IsL rows x1 fl)(hl:fl.length=ks.length)(hb:∀x∈fl,-100<=x/\x<=100):∃q,Ret F 68 [g,x1] rows=some q/\NN rows ks.length (pt0 ks fl N) (pt1 ks ps fl) (pt2 ks ps fl N) q:=by
 obtain⟨ev,pv,rfl,he,hp,_⟩:=id hg.eq;have hok:=hg.ok;have o1:=Am he;have o2:=Am hp;have hek:=hok.ek;have hpk:=hok.pk;obtain⟨L1,hL1,hh⟩:=Zq hok hl hb;obtain⟨L2,hL2,ht⟩:=AaG hok hl hb;have hL12:L1*L2<=1000000*1000000:=Nat.mul_le_mul hL1 hL2;have hd:=Xu (ks:=ks) hh;have hs:=Wf (ks:=ks) (ps:=ps) ht
 have hfi:∀i,i<ks.length->dn ((gI fl i:Int):Rat) L1 100000000:=fun i hi=>IG (hh 0).L0 (by
  have:=TJ hl hb i hi;have:=Nat.mul_le_mul (show(gI fl i).natAbs<=100 by omega) hL1
  omega)
 obtain⟨B,hB⟩:∃B,B=rows++[.cells [.int .i64 N,ev,pv],.cells [.nilslice,.nilslice,.nilslice]]:=⟨_,rfl⟩
 have hBl:B.length=rows.length+2:=by rw[hB];simp
 have hFB:Fx rows B (fun _=>False):=by rw[hB];exact Fx.app _
 have hZB:GZ B:=hGZ.fx hFB (by simp);have heB:El B 2 ev (Ac .i64 (eC ks)) ks.length:=by rw[hB];exact Ah he _
 have hgB:=Fw hg hFB;have hGB:Af B rows.length=some [.int .i64 N,ev,pv]:=by rw[hB];simp[Af]
 have hflB:IsL B x1 fl:=by rw[hB];exact AA h _
 have r70:=QM (rows:=B++[.cells [.nilslice,.nilslice,.nilslice]]) (hZB.fx (Fx.app (p:=fun _=>False) _) (by simp)) (hgB.app _) (AA hflB _) hl hb;have r1:∀(R:List Row) (i:Nat),i<ks.length->Ret F 95 [fr ((gI fl i:Int):Rat),fr (pt0 ks fl N i)] R=some (fr (((gI fl i:Int):Rat)-pt0 ks fl N i),R,none):=fun R i hi=>GX (hfi i hi) (hd i) (by have:=Nat.mul_le_mul hL1 hL1;omega) (by omega) (by omega)
 have r2:∀(R:List Row) (i:Nat),i<ks.length->Ret F 95 [fr (((gI fl i:Int):Rat)-pt0 ks fl N i),fr (pt1 ks ps fl i)] R=some (fr (((gI fl i:Int):Rat)-pt0 ks fl N i-pt1 ks ps fl i),R,none):=fun R i hi=>GX (Kf (hfi i hi) (hd i)) (hs ps.length i) (by omega) (by omega) (by
  have:=Nat.mul_le_mul (show ps.length*300000000<=1800000000 by omega) hL1
  omega)
 have r0:∀(R:List Row) (e:Nat),Ret F 95 [fr (bH ks fl N (gN ks e%6)),fr (bH ks fl N (gN ks e/6))] R=some (fr (dfl (bH ks fl N) ks e),R,none):=fun R e=>by
  unfold dfl;exact GX (hh _) (hh _) (by have:=Nat.mul_le_mul hL1 hL1;omega) (by omega) (by omega)
 -- behind the first list
 have hmid:∀(L:List Row) (v:AV) (sl:List (Nat×AV)),PO B [.cells [.nilslice,.nilslice,.nilslice],.cells (frs (bH ks fl N) N)] w0 L v (frs (dfl (bH ks fl N) ks) ks.length) ks.length->lk sl 1=x1->lk sl 2 = .ptr rows.length 0->lk sl 4 = .ptr (rows.length+1) 0->lk sl 5 = .ptr B.length 0->
   Ex F C68 [.code c68s82] ⟨mk 180 sl,B++L,rows.length⟩ fun x=>NN rows ks.length (pt0 ks fl N) (pt1 ks ps fl) (pt2 ks ps fl N) (fin rows x.1 x.2.1 x.2.2):=by
  intro L v sl hP s1 s2 s4 s5;have hgL:=Fw hgB (Fx.app (p:=fun _=>False) L);obtain⟨tv,X,r40,hX,htl,_⟩:=IB hgL (AA hflB L) hl hb;obtain⟨B2,hB2⟩:∃B2,B2=B++(L++X):=⟨_,rfl⟩
  rw[List.append_assoc,<-hB2]at r40 htl;have hG2:Af B2 rows.length=some [.int .i64 N,ev,pv]:=by rw[hB2];exact Ai hGB _
  have he2:El B2 2 ev (Ac .i64 (eC ks)) ks.length:=by rw[hB2];exact Ah heB _
  have hp2:El B2 3 pv (Ac .i64 (pC ps)) ps.length:=by rw[hB2,hB,List.append_assoc];exact Ah hp _
  have hZ2:GZ B2:=by rw[hB2];exact hZB.fx (Fx.app (p:=fun _=>False) _) (by simp)
  have lnp:=Ao hp2;have hP2:=hP.app X;have hG':=Ai hGB L;have hsd:v = .nilslice\/B.length<sid v:=by
   rcases hP.s with e|e
   ·exact .inl e
   ·simp only[List.length_cons,List.length_nil]at e
    exact .inr (by omega)
  have hdv:El B2 2 v (frs (pt0 ks fl N) ks.length) ks.length:=by rw[hB2];exact GG hP2.a (by omega)
  have hl42:=Ut (B:=B2) (low:=rows.length) (x1:=x1) (x4:=.ptr (rows.length+1) 0) (x5:=.ptr B.length 0) (r:=fun x=>NN rows ks.length (pt0 ks fl N) (pt1 ks ps fl) (pt2 ks ps fl N) (fin rows x.1 x.2.1 x.2.2)) hZ2 hek hpk rfl he2 hp2 (by rw[hB2];simp;omega) hG2 htl (by simp) (fun L2 v11 sl' hA hv0 t1 t2 t4 t5 t11=>by
   have hBL:B2++L2=B++(L++X++L2):=by rw[hB2,List.append_assoc]
   have hZ3:GZ (B2++L2):=hZ2.fx (Fx.app (p:=fun _=>False) _) (by simp);have hdv':=Ah hdv L2;have hsol:∀R',Fx (B2++L2) R' (fun _=>False)->Ret F 98 [v11,.int .i64 ps.length] R'=some (.slice R'.length 0 ps.length (.at_ ps.length),R'++[.cells (frs (sX ks ps (ps.map (tuS ks fl))) ps.length)],none):=fun R' hF=>Md hpk hZ3 hA hv0 hF (W2 hok fun i hi=>NS hok hl hb hi)
   rw[hBL]at hZ3 hdv' hsol ⊢
   exact TL hB hek hpk hZ3 h hl he hp (by rw[List.append_assoc,List.getElem?_append_left (List.getElem?_eq_some_iff.1 hP.o).1];exact hP.o) hdv' hsd hsol (fun R p e hp he=>PE (ht p) PS (by omega) (by omega)) (fun R p e hp he=>SF (hs p e) (Ny (ht p) PS) (by omega) (by omega) (by omega)) r1 r2 t1 t2 t4 t5 t11) ps.length 0 [] .nilslice rfl (Nat.zero_le _) (by rw[Nat.zero_mul];exact C9) (fun _=>rfl)
  rw[List.append_nil]at hl42;simp[s1,s2,s4,s5,hG',seg,r40,hG2,lnp];simpa using hl42
 have hP0:PO B [.cells [.nilslice,.nilslice,.nilslice],.cells (frs (bH ks fl N) N)] w0 [.cells [.nilslice,.nilslice,.nilslice],.cells (frs (bH ks fl N) N)] .nilslice (frs (dfl (bH ks fl N) ks) 0) 0:=⟨C9,rfl,.inl rfl,fun _ _ _=>rfl,Nat.le_refl _⟩
 have hl83:=UN (low:=rows.length) (N:=N) (h:=bH ks fl N) (x1:=x1) (x2:=.ptr rows.length 0) (x4:=.ptr (rows.length+1) 0) (r:=fun x=>NN rows ks.length (pt0 ks fl N) (pt1 ks ps fl) (pt2 ks ps fl N) (fin rows x.1 x.2.1 x.2.2)) hok heB (by omega) rfl rfl (fun R e he=>r0 R e) hmid ks.length 0 _ .nilslice rfl (Nat.zero_le _) hP0;refine Fv F68 (R:=NN rows ks.length (pt0 ks fl N) (pt1 ks ps fl) (pt2 ks ps fl N)) (show Ex F C68 [.code c68b] ⟨mk 180 [(0,.agg [.int .i64 N,ev,pv]),(1,x1)],rows,rows.length⟩ _ from ?_);have hG5:Af (B++[.cells [.nilslice,.nilslice,.nilslice],.cells (frs (bH ks fl N) N)]) rows.length=some [.int .i64 N,ev,pv]:=Ai hGB _;have hG4:Af (B++[.cells [.nilslice,.nilslice,.nilslice]]) rows.length=some [.int .i64 N,ev,pv]:=Ai hGB _;have ln:=Ao (Ah heB [.cells [.nilslice,.nilslice,.nilslice],.cells (frs (bH ks fl N) N)]);simp only[List.append_assoc,List.length_append,List.length_cons,List.length_nil,List.cons_append,List.nil_append,Nat.zero_add]at r70;have hB0:rows++[Row.cells [.int .i64 N,ev,pv],.cells [.nilslice,.nilslice,.nilslice],.cells [.nilslice,.nilslice,.nilslice]]=B++[.cells [.nilslice,.nilslice,.nilslice]]:=by rw[hB];simp
 rw[hBl]at hl83 r70;simp[o1,o2,AV.cells,hB0,hG4,seg,r70,hG5,ln];simpa using hl83
end
def FrL(R:List Row)(v:AV)(f:Nat->Rat)(m:Nat):Prop:=El R 2 v (frs f m) m
theorem FrL.app{R:List Row}{v:AV}{f:Nat->Rat}{m:Nat}(h:FrL R v f m)(X:List Row):FrL (R++X) v f m:=Ah h X
section
variable {rows:List Row}{v:AV}{f:Nat->Rat}{m:Nat}{r:AV×List Row×Nat->Prop}
theorem Le(h:FrL rows v f m)(hm:m<=1000)(hc:∀(L:List Row) (w:AV),Acc rows L 2 (.op 2) w (frs f m) m->r (w,rows++L,rows.length)):
  ∀(d i:Nat) (L:List Row) (w:AV),m-i=d->i<=m->Acc rows L 2 (.op 2) w (frs f i) i->Lc69l2 F (.fn [.t 2]) w v (.int .i64 m) (.int .i64 i) (rows++L) rows.length r:=by
 intro d
 induction d with
 |zero=>
  intro i L w hd hi hA;have e:i=m:=by omega
  subst e;unfold Lc69l2;simp;exact hc L w hA
 |succ d ih=>
  intro i L w hd hi0 hA;have hi:i<m:=by omega
  have hww:IntKind.i64.wrap ((i:Int)+1)=((i+1:Nat):Int):=wS (by omega);have h':=Ah h L;have ix:=CX h' hi;have ld:=G0 h' hi;rw[Rm]at ld;have hlw:Aa rows.length (rows.length+L.length)=rows.length:=Ae (by omega);have hA1:=Hh hA [.cells [.int .i64 (f i).num,.int .i64 ((f i).den:Int)]];obtain⟨w',L',happ,hA2⟩:=J8 (low:=rows.length) (b:=16) (x:=[.int .i64 (f i).num,.int .i64 ((f i).den:Int)]) hA1 rfl (by omega) (by omega) (Nat.le_refl _);have hfrs:frs f i++[.int .i64 (f i).num,.int .i64 ((f i).den:Int)]=frs f (i+1):=rfl;rw[hfrs]at hA2;have:=ih (i+1) L' w' (by omega) (by omega) hA2;have hE:Af (rows++(L++[Row.cells [.int .i64 (f i).num,.int .i64 ((f i).den:Int)]])) (rows.length+L.length)=some [.int .i64 (f i).num,.int .i64 ((f i).den:Int)]:=by
   unfold Af;rw[List.getElem?_append_right (by omega),Nat.add_sub_cancel_left];simp
  simp only[List.append_assoc,List.cons_append,List.nil_append,List.length_append,List.length_cons,List.length_nil,Nat.zero_add]at happ;generalize (f i).num=a at *;generalize ((f i).den:Int)=b at *;unfold Lc69l2;simp[hi,ix,ld,AV.cells,splice,hlw,hE,Ar,happ,hww];simpa using this
theorem NT(h:FrL rows v f m)(hm:m<=1000):∃w X,Ret F 69 [v] rows=some (w,rows++X,none)/\FrL (rows++X) w f m/\((w = .nilslice/\X=[]/\m=0)\/(w = .slice rows.length 0 m (.op 2)/\X=[.cells (frs f m)])):=by
 have ln:=Ao h
 let Q:AV×List Row×Option Nat->Prop:=fun q=>∃w X,q=(w,rows++X,none)/\FrL (rows++X) w f m/\((w = .nilslice/\X=[]/\m=0)\/(w = .slice rows.length 0 m (.op 2)/\X=[.cells (frs f m)]))
 have hl:=Le (r:=fun x=>Q (fin rows x.1 x.2.1 x.2.2)) h hm (fun L w hA=>by
  obtain⟨h1,h2⟩:=id hA;rcases h2 with ⟨rfl,e⟩|⟨k,rfl,hk⟩
  ·have hm0:m=0:=by
    have:=congrArg List.length e;rw[Au]at this;simp at this;omega
   refine⟨.nilslice,[],by simp,?_,.inl ⟨rfl,rfl,hm0⟩⟩;subst hm0;exact BS
  ·have hf:=Cv (rows:=rows) (L:=L) (k:=k) (o:=0) (n:=m) (c:=.op 2) hk (Eb m)
   refine⟨_,[.cells (frs f m)],hf,?_,.inr ⟨rfl,rfl⟩⟩;show El _ _ _ _ _;have hr:Af (rows++[.cells (frs f m)]) rows.length=some (frs f m):=by simp[Af]
   unfold El A0;simp only[hr];rw[Cb (Au m)]
   rfl) m 0 [] .nilslice rfl (Nat.zero_le _) C9
 rw[List.append_nil]at hl
 obtain⟨q,hq,w,X,e,h1,h2⟩:=Fv F69 (R:=Q) (rows:=rows) (vs:=[v]) (show Ex F (.fn [.t 2]) [.code c69b] ⟨mk 22 [(0,v)],rows,rows.length⟩ _ by
  simp[ln]
  simpa using hl)
 subst e;exact⟨w,X,hq,h1,h2⟩
end
section
variable {rows:List Row}{N:Nat}{ks ps:List Nat}{g x1:AV}{fl:List Int}
end
abbrev C23:Ctx:=.fn [.cellN 4 3,.t 5]
theorem Q4{rows:List Row}{l:List AV}{X:List Row}{e:Int}:fin rows (.tup [.agg l,.int .i64 e]) (rows++X) rows.length=(.tup [.agg l,.int .i64 e],rows++X,none)\/(fin rows (.tup [.agg l,.int .i64 e]) (rows++X) rows.length=(.tup [.agg l,.int .i64 e],rows,none)/\(AV.agg l).ids.all (· < rows.length)=true):=by
 have hids:(AV.tup [.agg l,.int .i64 e]).ids=(AV.agg l).ids:=by
  simp[AV.ids,AV.ids.idsL]
 unfold fin;rw[if_pos rfl,hids]
 split
 ·rename_i h;exact .inr ⟨rfl,h⟩
 ·rename_i hn
  left
  split
  ·rename_i i he
   split
   ·rw[if_neg]
    intro h;simp only[Bool.and_eq_true]at h;have h2:(AV.agg l).ids.isEmpty=true:=by
     have:=h.2;simp only[AV.plain1,List.all_cons,Bool.and_eq_true]at this;exact this.1
    rw[he]at h2;simp at h2
   ·rfl
  ·rfl
def AaX(rows:List Row)(m:Nat)(a b c:Nat->Rat)(q:AV×List Row×Option Nat):Prop:=
 ∃v0 v1 v2 X,q=(.tup [.agg [v0,v1,v2],.int .i64 0],rows++X,none)/\FrL (rows++X) v0 a m/\FrL (rows++X) v1 b m/\FrL (rows++X) v2 c m
section
variable {R:List Row}{low O m i:Nat}{x4 vi:AV}{ws vs:List AV}{f:Nat->Rat}{r:AV×List Row×Nat->Prop}
theorem MP(hi:i<3)(hv:vs[i]?=some vi)(hm:m<=1000)(h:FrL R vi f m)(hO:R[O]?=some (.cells ws))(hw:ws.length=3)(hlow:low<=O)
  (hn:∀(X:List Row) (w:AV),(w = .nilslice\/R.length<=sid w)->FrL (R++X) w f m->Lc23l2 F C23 x4 (.ptr O 0) (.agg vs) (.int .i64 (i+1:Nat)) ((R++X).set O (.cells (ws.set i w))) low r):
  Lc23l2 F C23 x4 (.ptr O 0) (.agg vs) (.int .i64 i) R low r:=by
 obtain⟨w,X,r69,hwF,hws⟩:=NT h hm;have hOl:=(List.getElem?_eq_some_iff.1 hO).1;have hone:w.one=true:=Am hwF;have hw':w = .nilslice\/R.length<=sid w:=by
  rcases hws with ⟨e,_⟩|⟨e,_⟩
  ·exact .inl e
  ·subst e;exact .inr (Nat.le_refl _)
 have:=hn X w hw' hwF;have hww:IntKind.i64.wrap ((i:Int)+1)=((i+1:Nat):Int):=wS (by omega);have hlw:Aa low O=low:=lwS (by omega);have hc:cells? (R++X) O=some ws:=by unfold cells?;rw[List.getElem?_append_left hOl,hO]
 have ii:AQ (i:Int) 3=some i:=by rw[Bt (by omega) (by omega),Int.toNat_natCast]
 have hil:i<ws.length:=by omega
 have hst:evE (R++X) low (.store1 (.c (.ptr O i)) (.c w))=some (.tup [],(R++X).set O (.cells (ws.set i w)),low):=by
  rw[A9];simp only[hc,Option.bind_some];rw[if_pos ⟨hil,hone⟩,hlw]
 have hi3:(i:Int)<3:=by omega
 unfold Lc23l2;simp[-A9,hi3,ii,hv,r69,hst,hww];simpa using this
end
section
variable {rows:List Row}{N:Nat}{ks ps:List Nat}{g x1:AV}{fl:List Int}
theorem FrL.put{R:List Row}{v:AV}{f:Nat->Rat}{m O:Nat}{y:Row}(h:FrL R v f m)(hO:v = .nilslice\/sid v≠O):FrL (R.set O y) v f m:=by
 have hS:Sm R.length O R (R.set O y):=CY (AZ (Nat.le_refl _)) (.inl rfl);refine BM hS h ?_;rcases Bi h with e|e
 ·exact .inl e
 ·rcases hO with e2|e2
  ·exact .inl e2
  ·exact .inr ⟨e,e2⟩
theorem Om(hGZ:GZ rows)(hg:GRd rows g N ks ps)(h:IsL rows x1 fl)(hl:fl.length=ks.length)(hb:∀x∈fl,-100<=x/\x<=100):∃q,Ret F 23 [g,x1] rows=some q/\AaX rows ks.length (pt0 ks fl N) (pt1 ks ps fl) (pt2 ks ps fl N) q:=by
 obtain⟨ev,pv,rfl,he,hp,_⟩:=id hg.eq;have hok:=hg.ok;have o1:=Am he;have o2:=Am hp;have hek:=hok.ek;obtain⟨B,hB⟩:∃B,B=rows++[Row.cells [.int .i64 N,ev,pv],.cells [.nilslice,.nilslice,.nilslice]]:=⟨_,rfl⟩
 have hBl:B.length=rows.length+2:=by rw[hB];simp
 have heB:El B 2 ev (Ac .i64 (eC ks)) ks.length:=by rw[hB];exact Ah he _
 have hgB:GRd B (.agg [.int .i64 N,ev,pv]) N ks ps:=by rw[hB];exact hg.app _
 have hflB:IsL B x1 fl:=by rw[hB];exact AA h _
 have hG:Af B rows.length=some [.int .i64 N,ev,pv]:=by rw[hB];simp[Af]
 have ho:=I8 hgB hflB hb (f:=67) (n:=ks.length) hl (by omega) (g':=.agg [.int .i64 N,ev,pv]) (fun L=>Fa (Ah heB L) rfl o2);rw[show((67:Nat):Int)=67 from rfl]at ho;obtain⟨R0,hR0⟩:∃R0,R0=B++[.cells [.nilslice,.nilslice,.nilslice]]:=⟨_,rfl⟩
 have hR0l:R0.length=rows.length+3:=by rw[hR0];simp[hBl]
 have hR0r:∃Y,R0=rows++Y:=⟨_,by rw[hR0,hB,List.append_assoc]⟩
 have hG0:Af R0 rows.length=some [.int .i64 N,ev,pv]:=by rw[hR0];exact Ai hG _
 obtain⟨Y0,hY0⟩:=hR0r;obtain⟨q,r68,v0,v1,v2,X,rfl,e0,e1,e2,i0,i1,i2⟩:=Mt (rows:=R0) (hGZ.fx (R':=R0) (p:=fun _=>False) (by rw[hY0];exact Fx.app _) (by simp)) (by rw[hR0];exact hgB.app _) (by rw[hR0];exact AA hflB _) hl hb
 let Q:AV×List Row×Option Nat->Prop:=AaX rows ks.length (pt0 ks fl N) (pt1 ks ps fl) (pt2 ks ps fl N)
 obtain⟨R1,hR1⟩:∃R1,R1=R0++X:=⟨_,rfl⟩
 rw[<-hR1]at r68 e0 e1 e2;have hR1l:rows.length+3<=R1.length:=by rw[hR1];simp;omega
 have hO1:R1[rows.length+2]?=some (.cells [.nilslice,.nilslice,.nilslice]):=by
  rw[hR1,List.getElem?_append_left (by omega),hR0,List.getElem?_append_right (by omega),show rows.length+2-B.length=0 by omega]
  rfl
 have h41:R1[rows.length+1]?=some (.cells [.nilslice,.nilslice,.nilslice]):=by
  rw[hR1,List.getElem?_append_left (by omega),hR0,List.getElem?_append_left (by omega),hB,List.getElem?_append_right (by omega),show rows.length+1-rows.length=1 by omega]
  rfl
 have hpre:∀{id:Nat},id<rows.length->R1[id]?=rows[id]?:=fun{id} hid=>by
  rw[hR1,hY0,List.append_assoc,List.getElem?_append_left hid]
 have hlw1:Aa rows.length (rows.length+1)=rows.length:=Ae (by omega);have main:Lc23l2 F C23 (.ptr (rows.length+1) 0) (.ptr (rows.length+2) 0) (.agg [v0,v1,v2]) (.int .i64 (0:Nat)) R1 rows.length fun x=>Q (fin rows x.1 x.2.1 x.2.2):=by
  refine MP (vi:=v0) (by omega) rfl (by omega) e0 hO1 rfl (by omega) fun X1 a0 b0 f0=>?_
  obtain⟨R2,hR2⟩:∃R2,R2=(R1++X1).set (rows.length+2) (Row.cells (List.set [.nilslice,.nilslice,.nilslice] 0 a0)):=⟨_,rfl⟩
  rw[<-hR2];have hR2l:R1.length<=R2.length:=by rw[hR2];simp
  have g0:FrL R2 a0 (pt0 ks fl N) ks.length:=by rw[hR2];exact f0.put (by rcases b0 with e|e;exact .inl e;exact .inr (by omega))
  have g1:FrL R2 v1 (pt1 ks ps fl) ks.length:=by rw[hR2];exact(FrL.app e1 X1).put (by rcases i1 with e|e;exact .inl e;exact .inr (by omega))
  have g2:FrL R2 v2 (pt2 ks ps fl N) ks.length:=by rw[hR2];exact(FrL.app e2 X1).put (by rcases i2 with e|e;exact .inl e;exact .inr (by omega))
  have hO2:R2[rows.length+2]?=some (.cells [a0,.nilslice,.nilslice]):=by rw[hR2,List.getElem?_set_self (by simp;omega)];rfl
  have s2:∀id,id<R1.length->id≠rows.length+2->R2[id]?=R1[id]?:=fun id h1 h2=>by rw[hR2,List.getElem?_set_ne (by omega),List.getElem?_append_left h1]
  refine MP (vi:=v1) (by omega) rfl (by omega) g1 hO2 rfl (by omega) fun X2 a1 b1 f1=>?_
  obtain⟨R3,hR3⟩:∃R3,R3=(R2++X2).set (rows.length+2) (Row.cells (List.set [a0,.nilslice,.nilslice] 1 a1)):=⟨_,rfl⟩
  rw[<-hR3];have hR3l:R2.length<=R3.length:=by rw[hR3];simp
  have k0:FrL R3 a0 (pt0 ks fl N) ks.length:=by rw[hR3];exact(g0.app X2).put (by rcases b0 with e|e;exact .inl e;exact .inr (by omega))
  have k1:FrL R3 a1 (pt1 ks ps fl) ks.length:=by rw[hR3];exact f1.put (by rcases b1 with e|e;exact .inl e;exact .inr (by omega))
  have k2:FrL R3 v2 (pt2 ks ps fl N) ks.length:=by rw[hR3];exact(g2.app X2).put (by rcases i2 with e|e;exact .inl e;exact .inr (by omega))
  have hO3:R3[rows.length+2]?=some (.cells [a0,a1,.nilslice]):=by rw[hR3,List.getElem?_set_self (by simp;omega)];rfl
  have s3:∀id,id<R1.length->id≠rows.length+2->R3[id]?=R1[id]?:=fun id h1 h2=>by rw[hR3,List.getElem?_set_ne (by omega),List.getElem?_append_left (by omega),s2 id h1 h2]
  refine MP (vi:=v2) (by omega) rfl (by omega) k2 hO3 rfl (by omega) fun X3 a2 b2 f2=>?_
  obtain⟨R4,hR4⟩:∃R4,R4=(R3++X3).set (rows.length+2) (Row.cells (List.set [a0,a1,.nilslice] 2 a2)):=⟨_,rfl⟩
  rw[<-hR4];have hR4l:R3.length<=R4.length:=by rw[hR4];simp
  have l0:FrL R4 a0 (pt0 ks fl N) ks.length:=by rw[hR4];exact(k0.app X3).put (by rcases b0 with e|e;exact .inl e;exact .inr (by omega))
  have l1:FrL R4 a1 (pt1 ks ps fl) ks.length:=by rw[hR4];exact(k1.app X3).put (by rcases b1 with e|e;exact .inl e;exact .inr (by omega))
  have l2:FrL R4 a2 (pt2 ks ps fl N) ks.length:=by rw[hR4];exact f2.put (by rcases b2 with e|e;exact .inl e;exact .inr (by omega))
  have hO4:Af R4 (rows.length+2)=some [a0,a1,a2]:=by unfold Af;rw[hR4,List.getElem?_set_self (by simp;omega)];rfl
  have s4:∀id,id<R1.length->id≠rows.length+2->R4[id]?=R1[id]?:=fun id h1 h2=>by rw[hR4,List.getElem?_set_ne (by omega),List.getElem?_append_left (by omega),s3 id h1 h2]
  have h44:cells? R4 (rows.length+1)=some [.nilslice,.nilslice,.nilslice]:=by unfold cells?;rw[s4 _ (by omega) (by omega),h41]
  obtain⟨R5,hR5⟩:∃R5,R5=R4.set (rows.length+1) (Row.cells [a0,a1,a2]):=⟨_,rfl⟩
  have m0:FrL R5 a0 (pt0 ks fl N) ks.length:=by rw[hR5];exact l0.put (by rcases b0 with e|e;exact .inl e;exact .inr (by omega))
  have m1:FrL R5 a1 (pt1 ks ps fl) ks.length:=by rw[hR5];exact l1.put (by rcases b1 with e|e;exact .inl e;exact .inr (by omega))
  have m2:FrL R5 a2 (pt2 ks ps fl N) ks.length:=by rw[hR5];exact l2.put (by rcases b2 with e|e;exact .inl e;exact .inr (by omega))
  have t0:=Am m0;have t1:=Am m1;have t2:=Am m2;have hrow:Af R5 (rows.length+1)=some [a0,a1,a2]:=by unfold Af;rw[hR5,List.getElem?_set_self (by omega)]
  have hst:evE R4 rows.length (.storeN 3 (.c (.ptr (rows.length+1) 0)) (.c (.agg [a0,a1,a2])))=some (.tup [],R5,rows.length):=by
   rw[AL];simp only[h44,Option.bind_some];rw[if_pos ⟨rfl,by simp,by simp[t0,t1,t2]⟩,hlw1,hR5]
   rfl
  obtain⟨Z,hZ⟩:=NA (B:=rows) (R:=R5) (by rw[hR5];simp;omega) (fun id hid=>by rw[hR5,List.getElem?_set_ne (by omega),s4 id (by omega) (by omega),hpre hid]);have hfin:Q (fin rows (.tup [.agg [a0,a1,a2],.int .i64 0]) R5 rows.length):=by
   rw[hZ]at m0 m1 m2 ⊢;rcases Q4 (rows:=rows) (l:=[a0,a1,a2]) (X:=Z) (e:=0)with e|⟨e,hids⟩
   ·rw[e]
    exact⟨_,_,_,Z,rfl,m0,m1,m2⟩
   ·rw[e]
    simp only[OJ,Ff,KT,List.append_nil,List.all_append,Bool.and_eq_true]at hids;refine⟨a0,a1,a2,[],by rw[List.append_nil],?_,?_,?_⟩
    ·rw[List.append_nil];exact Na m0 hids.1
    ·rw[List.append_nil];exact Na m1 hids.2.1
    ·rw[List.append_nil];exact Na m2 hids.2.2
  unfold Lc23l2;simp[-AL,hO4,seg,hst,hrow];simpa using hfin
 refine Fv F23 (R:=Q) (rows:=rows) (vs:=[.agg [.int .i64 N,ev,pv],x1]) (show Ex F C23 [.code c23b] ⟨mk 32 [(0,.agg [.int .i64 N,ev,pv]),(1,x1)],rows,rows.length⟩ _ by
  have hB0:rows++[Row.cells [.int .i64 N,ev,pv],.cells [.nilslice,.nilslice,.nilslice],.cells [.nilslice,.nilslice,.nilslice]]=R0:=by rw[hR0,hB];simp
  have hO7:B.length=rows.length+2:=hBl;simp[AV.cells,o1,o2,<-hB,hG,seg,ho,AK,<-hR0,hG0,r68,hO7]
  simpa using main)
end
theorem Ws{p q:Rat}:An [.int .i64 p.num,.int .i64 (p.den:Int)] [.int .i64 q.num,.int .i64 (q.den:Int)]=some (decide (p=q)):=by
 by_cases c:p=q
 ·subst c;simp[An]
 ·have h:¬(p.num=q.num/\p.den=q.den):=fun h=>c (Rat.ext h.1 h.2)
  by_cases c1:p.num=q.num
  ·have c2:¬(p.den=q.den):=fun e=>h ⟨c1,e⟩
   have c3:¬((p.den:Int)=q.den):=by omega
   simp[An,c,c1,c2,c3]
  ·simp[An,c,c1]
def smB(f g:Nat->Rat):Nat->Nat->Bool
 |0,_=>true
 |d+1,i=>decide (f i=g i)&&smB f g d (i+1)
theorem Ns{f g:Nat->Rat}:∀d i,smB f g d i=true↔∀j,i<=j->j<i+d->f j=g j
 |0,i=>by simp[smB];intro j h1 h2;omega
 |
  d+1,i=>by
  rw[smB,Bool.and_eq_true,Ns d (i+1),decide_eq_true_eq];constructor
  ·rintro ⟨h1,h2⟩ j h3 h4
   by_cases c:j=i
   ·subst c;exact h1
   ·exact h2 j (by omega) (by omega)
  ·intro h
   exact⟨h i (Nat.le_refl _) (by omega),fun j h1 h2=>h j (by omega) (by omega)⟩
section
variable {rows:List Row}{x y:AV}{f g:Nat->Rat}{m:Nat}
theorem O2(h:FrL rows x f m)(k:FrL rows y g m)(hm:m<=1000000):∀(d i:Nat),m-i=d->i<=m->Lc28l2 F (.fn [.t 4]) x y (.int .i64 i) rows rows.length fun r=>fin rows r.1 r.2.1 r.2.2=(.bool (smB f g d i),rows,none):=by
 have ln:=Ao h;intro d
 induction d with
 |zero=>
  intro i hd hi;have e:i=m:=by omega
  subst e;unfold Lc28l2;simp[ln,smB]
 |succ d ih=>
  intro i hd hi0;have hi:i<m:=by omega
  have hw:IntKind.i64.wrap ((i:Int)+1)=((i+1:Nat):Int):=wS (by omega);have ix:=CX h hi;have iy:=CX k hi;have lx:=G0 h hi;have ly:=G0 k hi;rw[Rm]at lx ly;have he:=Ws (p:=f i) (q:=g i);have:=ih (i+1) (by omega) (by omega);rw[smB]
  by_cases c:f i=g i
  ·rw[decide_eq_true c]at he ⊢
   rw[Bool.true_and];unfold Lc28l2;simp[-BW,ln,hi,ix,iy,lx,ly,eqA,he,hw];simpa using this
  ·rw[decide_eq_false c]at he ⊢
   rw[Bool.false_and];unfold Lc28l2;simp[-BW,ln,hi,ix,iy,lx,ly,eqA,he,hw]
theorem HA(h:FrL rows x f m)(k:FrL rows y g m)(hm:m<=1000000):Ret F 28 [x,y] rows=some (.bool (smB f g m 0),rows,none):=by
 have l1:=Ao h;have l2:=Ao k;have:=O2 h k hm m 0 rfl (Nat.zero_le _);refine i28 F28 ?_;simp[l1,l2];simpa using this
end
section
variable {rows:List Row}{v:AV}{l:List Int}
theorem N5(h:IsL rows v l)(hl:l.length<=1000):∃w X,Ret F 43 [v] rows=some (w,rows++X,none)/\FrL (rows++X) w (fun i=>((gI l i:Int):Rat)) l.length:=by
 by_cases h0:0<l.length
 ·refine⟨_,_,MO h hl h0,?_⟩
  have hr:Af (rows++[.cells (frs (fun i=>((gI l i:Int):Rat)) l.length)]) rows.length=some (frs (fun i=>((gI l i:Int):Rat)) l.length):=by simp[Af]
  show El _ _ _ _ _;unfold El A0;simp only[hr];rw[Cb (Au _)]
  rfl
 ·have e:l.length=0:=by omega
  have ln:evP rows (.len 0 (.c v))=some (.int .i64 0):=by rw[FM h,e];rfl
  rw[e];refine⟨.nilslice,[],?_,by rw[List.append_nil];exact BS⟩;rw[List.append_nil];refine i43 F43 ?_;simp;unfold Lc43l2;simp[ln]
end
theorem CF{n m:Nat}{y:Nat->Rat}{g:Nat->Nat->Rat}{k:Nat->Rat}:su n (fun v=>y v*su m fun e=>g e v*k e)=su m fun e=>k e*su n fun v=>y v*g e v:=by
 have e1:su n (fun v=>y v*su m fun e=>g e v*k e)=su n fun v=>su m fun e=>k e*(y v*g e v):=Ab fun v _=>by
  rw[<-A6];exact Ab fun e _=>by grind
 rw[e1,Cd];exact Ab fun e _=>A6 _
theorem EL{f:Nat->Rat}{a:Nat}:∀b,su (a+b) f=su a f+su b fun i=>f (a+i)
 |0=>by show su a f=su a f+0;grind
 |
  b+1=>by
  show su (a+b) f+f (a+b)=su a f+(su b _+f (a+b))
  rw[EL b];grind
def dq(ks:List Nat)(e v:Nat):Rat:=((dd (gN ks e) v:Int):Rat)
def sq(ks ps:List Nat)(p e:Nat):Rat:=((sgn (gN ps p) (gN ks e):Int):Rat)
def fq(fl:List Int)(e:Nat):Rat:=((gI fl e:Int):Rat)
theorem Vi{ks:List Nat}{v j:Nat}:∀i,((zL ks v i j:Int):Rat)=su i fun e=>dq ks e v*dq ks e j
 |0=>rfl
 |i+1=>by rw[zL,su,Rat.intCast_add,Rat.intCast_mul,Vi i];rfl
theorem P1{ks:List Nat}{fl:List Int}{v:Nat}:∀i,((gZ ks fl v i:Int):Rat)=su i fun e=>dq ks e v*fq fl e
 |0=>rfl
 |i+1=>by rw[gZ,su,Rat.intCast_add,Rat.intCast_mul,P1 i];rfl
section
variable {N:Nat}{ks ps:List Nat}{fl:List Int}
theorem ML(hok:GOK N ks ps){e:Nat}(he:e<ks.length)(φ:Nat->Rat):su N (fun v=>φ v*dq ks e v)=φ (gN ks e%6)-φ (gN ks e/6):=by
 have hee:=hok.ee _ (AU he);have h1:su N (fun v=>φ v*dq ks e v)=su N (fun v=>φ v*(if v=gN ks e%6 then 1 else 0))-su N (fun v=>φ v*(if v=gN ks e/6 then 1 else 0)):=by
  rw[<-EM];refine Ab fun v _=>?_
  unfold dq dd
  by_cases c1:v=gN ks e%6
  ·rw[if_pos c1,if_pos c1,if_neg (by omega)]
   show φ v*1=φ v*1-φ v*0;grind
  ·rw[if_neg c1,if_neg c1]
   by_cases c2:v=gN ks e/6
   ·rw[if_pos c2,if_pos c2]
    show φ v * -1=φ v*0-φ v*1;grind
   ·rw[if_neg c2,if_neg c2]
    show φ v*0=φ v*0-φ v*0;grind
 rw[h1,Cm hee.2 fun i _ hi=>by rw[if_neg hi];grind,Cm (show gN ks e/6<N by omega) fun i _ hi=>by rw[if_neg hi];grind,if_pos rfl,if_pos rfl];grind
theorem Vk(hok:GOK N ks ps){e:Nat}(he:e<ks.length):fo ks N (gN ks e%6)=fo ks N (gN ks e/6):=by
 have hee:=hok.ee _ (AU he);exact(Zh hok hee.2 (by omega)).2 (.step (.refl _) ⟨_,AU he,.inr ⟨rfl,rfl⟩⟩)
theorem UQ(hok:GOK N ks ps)(hl:fl.length=ks.length)(hb:∀x∈fl,-100<=x/\x<=100)(y:Nat->Rat)(h:∀j,j<N->su (bN ks N) (fun r=>y r*bA ks (gnS N ks fl ks.length) N (fo ks N) r j)=0):su (bN ks N) (fun r=>y r*bA ks (gnS N ks fl ks.length) N (fo ks N) r N)=0:=by
 have h6:=hok.n6
 let w:Nat->Rat:=fun j=>su (rts (fo ks N) N).length fun t=>y (N+t)*EH (fo ks N) ((rts (fo ks N) N)[t]?.getD 7) N j
 let du:Nat->Rat:=fun e=>su N fun v=>y v*dq ks e v
 have hT:∀t j,bA ks (gnS N ks fl ks.length) N (fo ks N) (N+t) j=if j<N then EH (fo ks N) ((rts (fo ks N) N)[t]?.getD 7) N j else 0:=fun t j=>by
  by_cases c:j<N
  ·rw[Qn h6 c,if_pos c]
   unfold bT;rw[if_neg (by omega),Nat.add_sub_cancel_left]
  ·rw[PZ (by omega),if_neg c]
   unfold bT;rw[if_neg (by omega)];unfold EH;rw[if_neg (by omega)]
 have hL:∀v j,v<N->j<N->bA ks (gnS N ks fl ks.length) N (fo ks N) v j=su ks.length fun e=>dq ks e v*dq ks e j:=fun v j hv hj=>by
  rw[Qn h6 hj];unfold bT gT;rw[if_pos hv,if_neg (by omega),Vi]
 have hR:∀v,v<N->bA ks (gnS N ks fl ks.length) N (fo ks N) v N=su ks.length fun e=>dq ks e v*fq fl e:=fun v hv=>by
  rw[PZ (Nat.le_refl _)];unfold bT gT;rw[if_pos hv,if_pos rfl,Lr hok hl hb hv ks.length (Nat.le_refl _),P1]
 have h2:∀j,j<N->su ks.length (fun e=>dq ks e j*du e)+w j=0:=fun j hj=>by
  have:=h j hj;unfold bN at this;rw[EL]at this;have e1:su N (fun r=>y r*bA ks (gnS N ks fl ks.length) N (fo ks N) r j)=su ks.length fun e=>dq ks e j*du e:=by
   rw[<-CF];exact Ab fun v hv=>by rw[hL v j hv hj]
  have e2:su (rts (fo ks N) N).length (fun t=>y (N+t)*bA ks (gnS N ks fl ks.length) N (fo ks N) (N+t) j)=w j:=Ab fun t _=>by rw[hT,if_pos hj]
  rw[e1,e2]at this;exact this
 have hw:∀e,e<ks.length->w (gN ks e%6)=w (gN ks e/6):=fun e he=>by
  have hee:=hok.ee _ (AU he);refine Ab fun t _=>?_
  have:EH (fo ks N) ((rts (fo ks N) N)[t]?.getD 7) N (gN ks e%6)=EH (fo ks N) ((rts (fo ks N) N)[t]?.getD 7) N (gN ks e/6):=by
   unfold EH;rw[Vk hok he]
   by_cases c:fo ks N (gN ks e/6)=(rts (fo ks N) N)[t]?.getD 7
   ·rw[if_pos ⟨hee.2,c⟩,if_pos ⟨by omega,c⟩]
   ·rw[if_neg fun h=>c h.2,if_neg fun h=>c h.2]
  rw[this]
 have hww:su N (fun j=>w j*w j)=0:=by
  have e0:su N (fun j=>w j*(su ks.length (fun e=>dq ks e j*du e)+w j))=0:=Eu fun j hj=>by rw[h2 j hj];grind
  have e1:su N (fun j=>w j*(su ks.length (fun e=>dq ks e j*du e)+w j))=su N (fun j=>w j*su ks.length (fun e=>dq ks e j*du e))+su N fun j=>w j*w j:=by
   rw[<-MW];exact Ab fun j _=>by grind
  have e2:su N (fun j=>w j*su ks.length (fun e=>dq ks e j*du e))=0:=by
   rw[CF];refine Eu fun e he=>?_
   rw[ML hok he w,hw e he];grind
  rw[e1,e2]at e0;grind
 have hw0:=HU hww;have hdu:∀e,e<ks.length->du e=0:=by
  have e0:su N (fun j=>y j*su ks.length (fun e=>dq ks e j*du e))=0:=Eu fun j hj=>by
   have:=h2 j hj;rw[hw0 j hj]at this;have e:su ks.length (fun e=>dq ks e j*du e)=0:=by grind
   rw[e];grind
  rw[CF]at e0;exact HU e0
 unfold bN;rw[EL];have e1:su N (fun r=>y r*bA ks (gnS N ks fl ks.length) N (fo ks N) r N)=su ks.length fun e=>fq fl e*du e:=by
  rw[<-CF];exact Ab fun v hv=>by rw[hR v hv]
 rw[e1,Eu fun e he=>by rw[hdu e he];grind,Eu fun t _=>by rw[hT,if_neg (by omega)];grind];grind
theorem Ju(hok:GOK N ks ps)(hl:fl.length=ks.length)(hb:∀x∈fl,-100<=x/\x<=100){v:Nat}(hv:v<N):su ks.length (fun e=>dq ks e v*pt0 ks fl N e)=su ks.length fun e=>dq ks e v*fq fl e:=by
 have h6:=hok.n6;have:=Ge (A:=bA ks (gnS N ks fl ks.length) N (fo ks N)) (n:=bN ks N) (cols:=N) (UQ hok hl hb) v (by unfold bN;omega);rw[PZ (Nat.le_refl _)]at this;have e1:bT ks (gnS N ks fl ks.length) N (fo ks N) v 10=su ks.length fun e=>dq ks e v*fq fl e:=by
  unfold bT gT;rw[if_pos hv,if_pos rfl,Lr hok hl hb hv ks.length (Nat.le_refl _),P1]
 rw[<-e1,<-this];have e2:su N (fun j=>bA ks (gnS N ks fl ks.length) N (fo ks N) v j*bH ks fl N j)=su N fun j=>bH ks fl N j*su ks.length fun e=>dq ks e j*dq ks e v:=Ab fun j hj=>by
  rw[Qn h6 hj];unfold bT gT;rw[if_pos hv,if_neg (by omega),Vi,Rat.mul_comm];congr 1;exact Ab fun e _=>Rat.mul_comm _ _
 show _=su N (fun j=>bA ks (gnS N ks fl ks.length) N (fo ks N) v j*bH ks fl N j);rw[e2,CF];exact Ab fun e he=>by rw[ML hok he];rfl
theorem Jl(hok:GOK N ks ps)(hl:fl.length=ks.length)(hb:∀x∈fl,-100<=x/\x<=100){p:Nat}(hp:p<ps.length):su ks.length (fun e=>sq ks ps p e*pt1 ks ps fl e)=su ks.length fun e=>sq ks ps p e*fq fl e:=by
 have h6:=hok.pk;have hG:∀i j,i<ps.length->j<ps.length->sA ks ps (ps.map (tuS ks fl)) i j=su ks.length fun e=>sq ks ps i e*sq ks ps j e:=fun i j hi hj=>by
  rw[Q8 h6 hj,Ib,DF];exact Ab fun e _=>by rw[Rat.intCast_mul];rfl
 have hR:∀i,i<ps.length->sA ks ps (ps.map (tuS ks fl)) i ps.length=su ks.length fun e=>sq ks ps i e*fq fl e:=fun i hi=>by
  rw[V9 (Nat.le_refl _),Mw hok hl hb hi,DF];exact Ab fun e _=>by rw[Rat.intCast_mul];rfl
 have:=Ge (A:=sA ks ps (ps.map (tuS ks fl))) (n:=ps.length) (cols:=ps.length) (fun y h=>by
  have hz:=WO hG h;have e1:su ps.length (fun r=>y r*sA ks ps (ps.map (tuS ks fl)) r ps.length)=su ps.length fun r=>y r*su ks.length fun e=>sq ks ps r e*fq fl e:=Ab fun r hr=>by rw[hR r hr]
  rw[e1,CF (g:=fun e r=>sq ks ps r e)]
  exact Eu fun e he=>by rw[hz e he];grind) p hp
 rw[hR p hp]at this;rw[<-this];have e2:su ps.length (fun j=>sA ks ps (ps.map (tuS ks fl)) p j*sX ks ps (ps.map (tuS ks fl)) j)=su ps.length fun j=>sX ks ps (ps.map (tuS ks fl)) j*su ks.length fun e=>sq ks ps j e*sq ks ps p e:=Ab fun j hj=>by
  rw[hG p j hp hj,Rat.mul_comm];congr 1;exact Ab fun e _=>Rat.mul_comm _ _
 show _=su ps.length (fun j=>sA ks ps (ps.map (tuS ks fl)) p j*sX ks ps (ps.map (tuS ks fl)) j);rw[e2,CF (g:=fun e r=>sq ks ps r e)];exact Ab fun e he=>rfl
theorem cyc(hok:GOK N ks ps){p:Nat}(hp:p<ps.length)(φ:Nat->Int):suZ ks.length (fun e=>(φ (gN ks e%6)-φ (gN ks e/6))*sgn (gN ps p) (gN ks e))=0:=by
 obtain⟨h1,h2,h3,k1,k2,k3⟩:=hok.pe _ (AU hp);generalize hq:gN ps p=q at *;have hm1:q/6%6<6:=Nat.mod_lt _ (by omega);have hm2:q%6<6:=Nat.mod_lt _ (by omega);obtain⟨i1,a1,a2,a3⟩:=DQ hm1 k1;obtain⟨i3,c1,c2,c3⟩:=DQ hm2 k2;obtain⟨i2,b1,b2,b3⟩:=DQ hm2 k3;have hs:∀e,e<ks.length->sgn q (gN ks e)=if e=i1\/e=i2 then 1 else if e=i3 then -1 else 0:=fun i hi=>by
  have e1:i=i1↔gN ks i=q/36*6+q/6%6:=⟨fun e=>by rw[e,a3],fun e=>E1 hok.es hi a1 (by omega)⟩
  have e2:i=i2↔gN ks i=q/6%6*6+q%6:=⟨fun e=>by rw[e,b3],fun e=>E1 hok.es hi b1 (by omega)⟩
  have e3:i=i3↔gN ks i=q/36*6+q%6:=⟨fun e=>by rw[e,c3],fun e=>E1 hok.es hi c1 (by omega)⟩
  unfold sgn;have d1:(gN ks i/6=q/36/\gN ks i%6=q/6%6)↔i=i1:=by rw[e1];omega
  have d2:(gN ks i/6=q/6%6/\gN ks i%6=q%6)↔i=i2:=by rw[e2];omega
  have d3:(gN ks i/6=q/36/\gN ks i%6=q%6)↔i=i3:=by rw[e3];omega
  simp only[d1,d2,d3]
 have l13:=Kw hok.es a1 c1 (by omega);have l32:=Kw hok.es c1 b1 (by omega);rw[G6 (g:=fun e=>φ (gN ks e%6)-φ (gN ks e/6)) l13 l32 hs ks.length (Nat.le_refl _),if_pos a1,if_pos b1,if_pos c1,a3,b3,c3];have x1:(q/36*6+q/6%6)%6=q/6%6:=by omega
 have x2:(q/36*6+q/6%6)/6=q/36:=by omega
 have y1:(q/6%6*6+q%6)%6=q%6:=by omega
 have y2:(q/6%6*6+q%6)/6=q/6%6:=by omega
 have z1:(q/36*6+q%6)%6=q%6:=by omega
 have z2:(q/36*6+q%6)/6=q/36:=by omega
 rw[x1,x2,y1,y2,z1,z2];omega
end
section
variable {N:Nat}{ks ps:List Nat}{fl:List Int}
theorem Vl(hok:GOK N ks ps){p:Nat}(hp:p<ps.length)(v:Nat):su ks.length (fun e=>sq ks ps p e*dq ks e v)=0:=by
 have h:=cyc hok hp (fun u=>if u=v then 1 else 0);have e1:suZ ks.length (fun e=>((if gN ks e%6=v then 1 else 0)-(if gN ks e/6=v then 1 else 0))*sgn (gN ps p) (gN ks e))=suZ ks.length fun e=>sgn (gN ps p) (gN ks e)*dd (gN ks e) v:=IJ fun e he=>by
  have hee:=hok.ee _ (AU he);rw[Int.mul_comm];congr 1;unfold dd
  by_cases c1:v=gN ks e%6
  ·rw[if_pos c1.symm,if_pos c1,if_neg (by omega)];rfl
  ·rw[if_neg (fun h=>c1 h.symm),if_neg c1]
   by_cases c2:v=gN ks e/6
   ·rw[if_pos c2.symm,if_pos c2];rfl
   ·rw[if_neg (fun h=>c2 h.symm),if_neg c2];rfl
 rw[e1]at h;have h2:=congrArg (fun z:Int=>(z:Rat)) h;simp only[DF]at h2;have e2:su ks.length (fun e=>sq ks ps p e*dq ks e v)=su ks.length fun e=>((sgn (gN ps p) (gN ks e)*dd (gN ks e) v:Int):Rat):=Ab fun e _=>by rw[Rat.intCast_mul];rfl
 rw[e2];exact h2
end
structure LawIn(rows:List Row)(g lv:AV)(l:List Int):Prop where
 g:∃(x:Int) (ev pv:AV) (fe fp:List Int) (m0 k0:Nat),g = .agg [.int .i64 x,ev,pv]/\El rows 2 ev (Ac .i64 fe) m0/\m0<=9223372036854775807/\El rows 3 pv (Ac .i64 fp) k0/\k0<=9223372036854775807
 l:IsL rows lv l
theorem Lm(rows:List Row)(l:List Int):∃v K,Vz rows 1 (Ac .i64 l) l.length=(v,rows++K,none)/\IsL (rows++K) v l/\Cp 1 v/\K.all (Row.under 0)=true:=by
 have h:=Dk (rows:=rows) (H:=[]) (cs:=Ac .i64 l) (n:=l.length) (sz:=1) (by simp[Ac]) (by omega);exact⟨_,_,rfl,h.1,h.2,JC rfl By⟩
section
variable {rows:List Row}
theorem Jx{X:List Row}{vs:List AV}(h:Und rows X)(hv:(Row.cells vs).under (rows.length+X.length+1)=true):Und rows (X++[.cells vs]):=JM h (fun y hy=>by
 simp only[List.mem_singleton]at hy;subst hy
 simpa using hv)
theorem EO{N:Int}{ev pv:AV}{b:Nat}(h1:ev.under b=true)(h2:pv.under b=true):(Row.cells [.int .i64 N,ev,pv]).under b=true:=by
 simp[Row.under,AV.under,AV.ids];exact⟨by simpa[AV.under]using h1,by simpa[AV.under]using h2⟩
theorem AM{v:AV}{a b:Nat}(h:v.under a=true)(hab:a<=b):v.under b=true:=by
 have:=BQ (y:=.cells [v]) (a:=a) (b:=b) (by simpa[Row.under]using h) hab;simpa[Row.under]using this
theorem IX{g:AV}{N:Nat}{ks ps:List Nat}(h:GRd rows g N ks ps):∃ev pv,g = .agg [.int .i64 N,ev,pv]/\ev.under rows.length=true/\pv.under rows.length=true/\ev.one=true/\pv.one=true/\El rows 2 ev (Ac .i64 (eC ks)) ks.length:=by
 obtain⟨ev,pv,e,h1,h2,h3⟩:=h.eq;exact⟨ev,pv,e,BP h1,BP h2,Am h1,Am h2,h1⟩
end
structure Beg(rows:List Row)(gv:AV)(N:Nat)(ks ps:List Nat)(B1 B3 B4:List Row)(ev1 pv1 ev2 pv2:AV):Prop where
 gx:∃(x:Int) (ev pv:AV),gv = .agg [.int .i64 x,ev,pv]/\ev.one=true/\pv.one=true/\Ret F 15 [gv] (rows++[.cells [.int .i64 x,ev,pv]])=some (.agg [.int .i64 N,ev1,pv1],B1,none)/\Af (rows++[.cells [.int .i64 x,ev,pv]]) rows.length=some [.int .i64 x,ev,pv]
 r17:Ret F 17 [.agg [.int .i64 N,ev1,pv1]] (B1++[.cells [.int .i64 N,ev1,pv1]])=some (.agg [.int .i64 N,ev2,pv2],B3,none)
 o:ev1.one=true/\pv1.one=true/\ev2.one=true/\pv2.one=true
 l1:rows.length<=B1.length
 l3:rows.length<=B3.length
 r2:Af (B1++[.cells [.int .i64 N,ev1,pv1]]) B1.length=some [.int .i64 N,ev1,pv1]
 e4:B3++[.cells [.int .i64 N,ev2,pv2]]=B4
 rx:Af B4 B1.length=some [.int .i64 N,ev1,pv1]
 ry:Af B4 B3.length=some [.int .i64 N,ev2,pv2]
 gx4:GRd B4 (.agg [.int .i64 N,ev1,pv1]) N ks ps
 gy4:GRd B4 (.agg [.int .i64 N,ev2,pv2]) N ks ps
 un:∃Y,B4=rows++Y/\Und rows Y
 gy3:GRd B3 (.agg [.int .i64 N,ev2,pv2]) N ks ps
 gx3:GRd B3 (.agg [.int .i64 N,ev1,pv1]) N ks ps
 u3:∃Y,B3=rows++Y/\Und rows Y
 rx3:Af B3 B1.length=some [.int .i64 N,ev1,pv1]
theorem Um{rows:List Row}{gv lv:AV}{l:List Int}(h:LawIn rows gv lv l):∃N ks ps B1 B3 B4 ev1 pv1 ev2 pv2,Beg rows gv N ks ps B1 B3 B4 ev1 pv1 ev2 pv2:=by
 obtain⟨x,ev,pv,fe,fp,m0,k0,rfl,he,hm,hp,hk0⟩:=h.g;have ue:=BP he;have up:=BP hp;have o1:=Am he;have o2:=Am hp
 -- tame
 obtain⟨R1,hR1⟩:∃R1,R1=rows++[.cells [.int .i64 x,ev,pv]]:=⟨_,rfl⟩
 have hl1:R1.length=rows.length+1:=by simp[hR1]
 have row1:Af R1 rows.length=some [.int .i64 x,ev,pv]:=by rw[hR1];exact BE
 obtain⟨N,ks,ps,g,X1,r15,u1,g1⟩:=Qv (rows:=R1) (x:=x) (hR1 ▸ Ah he _) hm (hR1 ▸ Ah hp _) hk0 (by
  rw[hl1];exact⟨AM ue (by omega),AM up (by omega)⟩)
 obtain⟨ev1,pv1,rfl,ue1,up1,oe1,op1,_⟩:=IX g1;obtain⟨B1,hB1⟩:∃B1,B1=R1++X1:=⟨_,rfl⟩
 rw[<-hB1]at r15 g1 ue1 up1
 have U1:Und rows ([.cells [.int .i64 x,ev,pv]]++X1):=JM (by
  have:=Jx (rows:=rows) (X:=[]) (vs:=[.int .i64 x,ev,pv]) Jk (EO (AM ue (by simp)) (AM up (by simp)))
  simpa using this) (by rw[<-hR1];exact u1)
 have B1e:B1=rows++([.cells [.int .i64 x,ev,pv]]++X1):=by rw[hB1,hR1];simp
 obtain⟨Y1,hY1⟩:∃Y1,Y1=[Row.cells [.int .i64 x,ev,pv]]++X1:=⟨_,rfl⟩
 rw[<-hY1]at U1 B1e;obtain⟨B2,hB2⟩:∃B2,B2=B1++[.cells [.int .i64 N,ev1,pv1]]:=⟨_,rfl⟩
 have row2:Af B2 B1.length=some [.int .i64 N,ev1,pv1]:=by rw[hB2];exact BE
 have U2:Und rows (Y1++[.cells [.int .i64 N,ev1,pv1]]):=Jx U1 (by
  have e:B1.length=rows.length+Y1.length:=by rw[B1e];simp
  rw[<-e]
  exact EO (AM ue1 (by omega)) (AM up1 (by omega)))
 have B2e:B2=rows++(Y1++[.cells [.int .i64 N,ev1,pv1]]):=by rw[hB2,B1e];simp
 have g2:GRd B2 (.agg [.int .i64 N,ev1,pv1]) N ks ps:=by rw[hB2];exact g1.app _
 -- given
 obtain⟨g',X2,r17,u2,g3⟩:=Oq (rows:=B2) g2;obtain⟨ev2,pv2,rfl,ue2,up2,oe2,op2,_⟩:=IX g3;obtain⟨B3,hB3⟩:∃B3,B3=B2++X2:=⟨_,rfl⟩
 rw[<-hB3]at r17 g3 ue2 up2;obtain⟨Y2,hY2⟩:∃Y2,Y2=(Y1++[.cells [.int .i64 N,ev1,pv1]])++X2:=⟨_,rfl⟩
 have U3:Und rows Y2:=by rw[hY2];exact JM U2 (by rw[<-B2e];exact u2)
 have B3e:B3=rows++Y2:=by rw[hB3,B2e,hY2];simp
 obtain⟨B4,hB4⟩:∃B4,B4=B3++[.cells [.int .i64 N,ev2,pv2]]:=⟨_,rfl⟩
 obtain⟨Y3,hY3⟩:∃Y3,Y3=Y2++[.cells [.int .i64 N,ev2,pv2]]:=⟨_,rfl⟩
 have U4:Und rows Y3:=by
  rw[hY3];refine Jx U3 ?_;have e:B3.length=rows.length+Y2.length:=by rw[B3e];simp
  rw[<-e];exact EO (AM ue2 (by omega)) (AM up2 (by omega))
 have B4e:B4=rows++Y3:=by rw[hB4,B3e,hY3];simp
 have row4:Af B4 B3.length=some [.int .i64 N,ev2,pv2]:=by rw[hB4];exact BE
 have row2':Af B4 B1.length=some [.int .i64 N,ev1,pv1]:=by rw[hB4,hB3];exact Ai (Ai row2 _) _
 have row1':Af B4 B1.length=some [.int .i64 N,ev1,pv1]:=by rw[hB4,hB3];exact Ai (Ai row2 _) _
 have g4:GRd B4 (.agg [.int .i64 N,ev2,pv2]) N ks ps:=by rw[hB4];exact g3.app _
 have g4':GRd B4 (.agg [.int .i64 N,ev1,pv1]) N ks ps:=by rw[hB4,hB3];exact(g2.app _).app _
 have hlen1:rows.length<=B1.length:=by rw[B1e];simp
 have hlen3:rows.length<=B3.length:=by rw[B3e];simp
 refine⟨N,ks,ps,B1,B3,B4,ev1,pv1,ev2,pv2,⟨x,ev,pv,rfl,o1,o2,by rw[<-hR1];exact r15,by rw[<-hR1];exact row1⟩,by rw[<-hB2];exact r17,⟨oe1,op1,oe2,op2⟩,hlen1,hlen3,by rw[<-hB2];exact row2,hB4.symm,row2',row4,g4',g4,⟨Y3,B4e,U4⟩,g3,by rw[hB3];exact g2.app _,⟨Y2,B3e,U3⟩,by rw[hB3];exact Ai row2 _⟩
section
variable {C:List Row}{low n:Nat}{lv x5 x6:AV}{l:List Int}{r:AV×List Row×Nat->Prop}
end
section
variable {rows E:List Row}{P Q m:Nat}{p0 p1 p2 q0 q1 q2 c d no:AV}{cl dl:List Int}{a0 a1 a2 b0 b1 b2 z:Nat->Rat}{sl:List (Nat×AV)}{r:AV×List Row×Nat->Prop}
end
structure HS(rows C:List Row)(a5 a6 N:Nat)(ks ps:List Nat)(ev1 pv1 ev2 pv2:AV):Prop where
 rx:Af C a5=some [.int .i64 N,ev1,pv1]
 ry:Af C a6=some [.int .i64 N,ev2,pv2]
 gx:GRd C (.agg [.int .i64 N,ev1,pv1]) N ks ps
 gy:GRd C (.agg [.int .i64 N,ev2,pv2]) N ks ps
 un:∃Y,C=rows++Y
 gz:GZ C
theorem HS.app{rows C:List Row}{a5 a6 N:Nat}{ks ps:List Nat}{ev1 pv1 ev2 pv2:AV}(h:HS rows C a5 a6 N ks ps ev1 pv1 ev2 pv2)(X:List Row):HS rows (C++X) a5 a6 N ks ps ev1 pv1 ev2 pv2:=by
 obtain⟨h1,h2,h3,h4,⟨Y,h5⟩,h6⟩:=h;exact⟨Ai h1 X,Ai h2 X,h3.app X,h4.app X,⟨Y++X,by rw[h5,List.append_assoc]⟩,h6.fx (Fx.app (p:=fun _=>False) X) (by simp)⟩
section
variable {rows C:List Row}{a5 a6 N:Nat}{ks ps:List Nat}{ev1 pv1 ev2 pv2 hv tv:AV}{hl tl:List Int}{sl:List (Nat×AV)}
end
section
variable {N:Nat}{ks ps:List Nat}{fl:List Int}
def nrs(f:Nat->Nat)(n:Nat):List Nat:=(List.range n).filter fun v=>!(f v==v)
theorem P8{f:Nat->Nat}{n:Nat}:nrs f (n+1)=nrs f n++if f n=n then[]else[n]:=by
 unfold nrs;rw[List.range_succ,List.filter_append];congr 1
 by_cases c:f n=n
 ·rw[if_pos c];simp[c]
 ·rw[if_neg c];simp[c]
theorem MT(hok:GOK N ks ps):∀n,n<=N->(nrs (fo ks N) n).length+cntL ks n=n
 |0,_=>rfl
 |
  n+1,hn=>by
  have ih:=MT hok n (by omega);have hs:=N7 hok (show n<N by omega);rw[P8,cntL]
  by_cases c:fo ks N n=n
  ·rw[if_pos c,if_pos (hs.1 c)]
   simp only[List.length_append,List.length_nil];omega
  ·rw[if_neg c,if_neg (fun h=>c (hs.2 h))]
   simp only[List.length_append,List.length_cons,List.length_nil];omega
def nu(ks:List Nat)(N i:Nat):Nat:=(nrs (fo ks N) N)[i]?.getD 0
theorem Qt{i:Nat}(hi:i<(nrs (fo ks N) N).length):nu ks N i<N/\fo ks N (nu ks N i)≠nu ks N i:=by
 have hm:nu ks N i∈nrs (fo ks N) N:=by
  unfold nu;rw[List.getElem?_eq_getElem hi];exact List.getElem_mem hi
 unfold nrs at hm;obtain⟨h1,h2⟩:=List.mem_filter.1 hm;exact⟨List.mem_range.1 h1,by simpa using h2⟩
theorem WQ{i j:Nat}(hi:i<(nrs (fo ks N) N).length)(hj:j<(nrs (fo ks N) N).length)(h:nu ks N i=nu ks N j):i=j:=by
 have hnd:(nrs (fo ks N) N).Nodup:=by
  unfold nrs;exact(List.nodup_range).filter _
 unfold nu at h;rw[List.getElem?_eq_getElem hi,List.getElem?_eq_getElem hj]at h;exact(List.getElem_inj hnd).1 h
theorem Qj(hok:GOK N ks ps){u:Nat->Rat}(h:∀e,e<ks.length->u (gN ks e%6)=u (gN ks e/6)){a b:Nat}(hc:Cn ks a b):u a=u b:=by
 induction hc with
 |refl=>rfl
 |step _ hadj ih=>
  obtain⟨k,hk,hh⟩:=hadj;obtain⟨e,he,rfl⟩:=List.mem_iff_getElem.1 hk;have:=h e he;rw[G1 he]at this;rw[ih];rcases hh with ⟨rfl,rfl⟩|⟨rfl,rfl⟩
  ·exact this.symm
  ·exact this
theorem V0(hok:GOK N ks ps)(y:Nat->Rat)(h:∀e,e<ks.length->su (nrs (fo ks N) N).length (fun i=>y i*dq ks e (nu ks N i))+su (rkS ks ps) (fun t=>y ((nrs (fo ks N) N).length+t)*(gjR (plM ks ps) ps.length ks.length).M t e)=0):
  ∀i,i<(nrs (fo ks N) N).length+rkS ks ps->y i=0:=by
 obtain⟨σ,hg⟩:=CG (A:=plM ks ps) (n:=ps.length) ks.length;have hK:(gjR (plM ks ps) ps.length ks.length).k=rkS ks ps:=rfl;generalize hR:(nrs (fo ks N) N).length=nr at *
 let u:Nat->Rat:=fun v=>su nr fun i=>y i*(if nu ks N i=v then 1 else 0)
 let du:Nat->Rat:=fun e=>su N fun v=>u v*dq ks e v
 let s:Nat->Rat:=fun e=>su (rkS ks ps) fun t=>y (nr+t)*(gjR (plM ks ps) ps.length ks.length).M t e
 have hdu:∀e,e<ks.length->su nr (fun i=>y i*dq ks e (nu ks N i))=du e:=fun e he=>by
  have e1:du e=su N fun v=>dq ks e v*su nr fun i=>y i*(if nu ks N i=v then 1 else 0):=Ab fun v _=>Rat.mul_comm _ _
  rw[e1,<-CF (g:=fun v i=>if nu ks N i=v then 1 else 0)];refine Ab fun i hi=>?_
  congr 1;rw[Cm (Qt (by rw[hR];exact hi)).1 fun v _ hne=>by rw[if_neg fun h=>hne h.symm];grind,if_pos rfl];grind
 have horth:su ks.length (fun e=>du e*s e)=0:=by
  have e1:su ks.length (fun e=>du e*s e)=su ks.length fun e=>du e*su (rkS ks ps) fun t=>y (nr+t)*(gjR (plM ks ps) ps.length ks.length).M t e:=rfl
  rw[e1,<-CF (g:=fun e t=>(gjR (plM ks ps) ps.length ks.length).M t e)];refine Eu fun t ht=>?_
  obtain⟨c,hc⟩:=hg.comb1 (t:=t) (by rw[hK];exact ht);have e2:su ks.length (fun e=>(gjR (plM ks ps) ps.length ks.length).M t e*du e)=su ks.length fun e=>du e*su ps.length fun p=>c p*sq ks ps p e:=Ab fun e _=>by
   rw[hc e,Rat.mul_comm]
   rfl
  rw[e2,<-CF (g:=fun e p=>sq ks ps p e)]
  rw[Eu fun p hp=>by
   have e3:su ks.length (fun e=>sq ks ps p e*du e)=0:=by
    rw[<-CF (g:=fun e v=>dq ks e v)];refine Eu fun v hv=>?_
    have:=Vl hok hp v;have e4:su ks.length (fun e=>dq ks e v*sq ks ps p e)=su ks.length fun e=>sq ks ps p e*dq ks e v:=Ab fun e _=>Rat.mul_comm _ _
    rw[e4,this];grind
   rw[e3]
   grind]
  grind
 have hsum:∀e,e<ks.length->du e+s e=0:=fun e he=>by
  rw[<-hdu e he];exact h e he
 have hdu0:∀e,e<ks.length->du e=0:=by
  refine HU (f:=du) ?_;have e1:su ks.length (fun e=>du e*du e)=su ks.length fun e=>-1*(du e*s e):=Ab fun e he=>by
   have:=hsum e he;have:s e = - du e:=by grind
   rw[this];grind
  rw[e1,A6,horth];grind
 have hs0:∀e,e<ks.length->s e=0:=fun e he=>by
  have:=hsum e he;rw[hdu0 e he]at this;grind
 intro i hi
 by_cases c:i<nr
 ·have hconst:∀e,e<ks.length->u (gN ks e%6)=u (gN ks e/6):=fun e he=>by
   have:=hdu0 e he;have h2:=ML hok he u;rw[show du e=su N fun v=>u v*dq ks e v from rfl,h2]at this;grind
  obtain⟨n1,n2⟩:=Qt (ks:=ks) (N:=N) (i:=i) (by rw[hR];exact c);obtain⟨f1,f2⟩:=Q0 hok n1;have hfN:=ZI hok f1 n1;have hu:u (nu ks N i)=y i:=by
   show su nr (fun j=>y j*(if nu ks N j=nu ks N i then 1 else 0))=y i;rw[Cm c fun j hj hne=>by rw[if_neg fun h=>hne (WQ (by rw[hR];exact hj) (by rw[hR];exact c) h)];grind,if_pos rfl];grind
  have hr:u (fo ks N (nu ks N i))=0:=by
   show su nr (fun j=>y j*(if nu ks N j=fo ks N (nu ks N i)then 1 else 0))=0;refine Eu fun j hj=>?_
   have hn:=(Qt (ks:=ks) (N:=N) (i:=j) (by rw[hR];exact hj)).2;rw[if_neg fun h=>hn (by rw[h];exact(N7 hok hfN).2 f2)];grind
  rw[<-hu,Qj hok hconst f1,hr]
 ·have ht:i-nr<rkS ks ps:=by omega
  have hkc:=hg.kc (i-nr) (by rw[hK];exact ht);have:=hs0 _ hkc;have e1:s ((gjR (plM ks ps) ps.length ks.length).κ (i-nr))=y (nr+(i-nr)):=by
   show su (rkS ks ps) (fun t=>y (nr+t)*(gjR (plM ks ps) ps.length ks.length).M t ((gjR (plM ks ps) ps.length ks.length).κ (i-nr)))=_
   rw[Cm ht fun t ht2 hne=>by
    rw[hg.piv t (i-nr) (by rw[hK];exact ht2) (by rw[hK];exact ht),if_neg hne]
    grind,hg.piv (i-nr) (i-nr) (by rw[hK];exact ht) (by rw[hK];exact ht),if_pos rfl]
   grind
  rw[e1,show nr+(i-nr)=i by omega]at this;exact this
end
section
variable {N:Nat}{ks ps:List Nat}{fl:List Int}
def CQ(N:Nat)(ks ps:List Nat)(x:Nat->Rat)(r e:Nat):Rat:=
 if r<(nrs (fo ks N) N).length then dq ks e (nu ks N r)else if r<(nrs (fo ks N) N).length+rkS ks ps then(gjR (plM ks ps) ps.length ks.length).M (r-(nrs (fo ks N) N).length) e else x e
theorem Kt{x y:Nat->Rat}{e:Nat}:su ((nrs (fo ks N) N).length+rkS ks ps) (fun r=>y r*CQ N ks ps x r e)=su (nrs (fo ks N) N).length (fun i=>y i*dq ks e (nu ks N i))+su (rkS ks ps) (fun t=>y ((nrs (fo ks N) N).length+t)*(gjR (plM ks ps) ps.length ks.length).M t e):=by
 rw[EL];congr 1
 ·exact Ab fun i hi=>by unfold CQ;rw[if_pos hi]
 ·exact Ab fun i hi=>by unfold CQ;rw[if_neg (by omega),if_pos (by omega),Nat.add_sub_cancel_left]
theorem Wi(hok:GOK N ks ps):(nrs (fo ks N) N).length+rkS ks ps<=ks.length:=by
 apply Nat.le_of_not_lt;intro hlt;obtain⟨y,⟨i,hi,hy⟩,h⟩:=Oz (C:=CQ N ks ps fun _=>0) hlt;exact hy (V0 hok y (fun e he=>by rw[<-Kt (x:=fun _=>0)];exact h e he) i hi)
theorem XU(hok:GOK N ks ps)(hd:ks.length<(nrs (fo ks N) N).length+rkS ks ps+1){x:Nat->Rat}(h1:∀v,v<N->su ks.length (fun e=>dq ks e v*x e)=0)(h2:∀p,p<ps.length->su ks.length (fun e=>sq ks ps p e*x e)=0){e:Nat}(he:e<ks.length):x e=0:=by
 obtain⟨y,⟨i,hi,hy⟩,h⟩:=Oz (C:=CQ N ks ps x) hd;obtain⟨σ,hg⟩:=CG (A:=plM ks ps) (n:=ps.length) ks.length;have hK:(gjR (plM ks ps) ps.length ks.length).k=rkS ks ps:=rfl;have hq:∀e,CQ N ks ps x ((nrs (fo ks N) N).length+rkS ks ps) e=x e:=fun e=>by
  unfold CQ;rw[if_neg (by omega),if_neg (by omega)]
 have hs:∀e,e<ks.length->su ((nrs (fo ks N) N).length+rkS ks ps) (fun r=>y r*CQ N ks ps x r e)+y ((nrs (fo ks N) N).length+rkS ks ps)*x e=0:=fun e he=>by
  have:=h e he;rw[su,hq e]at this;exact this
 have hM:∀r,r<(nrs (fo ks N) N).length+rkS ks ps->su ks.length (fun e=>CQ N ks ps x r e*x e)=0:=fun r hr=>by
  by_cases c:r<(nrs (fo ks N) N).length
  ·rw[Ab (g:=fun e=>dq ks e (nu ks N r)*x e) fun e _=>by unfold CQ;rw[if_pos c]]
   exact h1 _ (Qt c).1
  ·obtain⟨d,hd⟩:=hg.comb1 (t:=r-(nrs (fo ks N) N).length) (by rw[hK];omega)
   rw[Ab (g:=fun e=>x e*su ps.length fun p=>d p*sq ks ps p e) fun e _=>by
    unfold CQ;rw[if_neg c,if_pos hr,hd e,Rat.mul_comm]
    rfl]
   rw[<-CF (g:=fun e p=>sq ks ps p e)];exact Eu fun p hp=>by rw[h2 p hp];grind
 have hz:y ((nrs (fo ks N) N).length+rkS ks ps)*su ks.length (fun e=>x e*x e)=0:=by
  have e1:su ks.length (fun e=>x e*(su ((nrs (fo ks N) N).length+rkS ks ps) (fun r=>y r*CQ N ks ps x r e)+y ((nrs (fo ks N) N).length+rkS ks ps)*x e))=0:=Eu fun e he=>by rw[hs e he];grind
  have e2:su ks.length (fun e=>x e*su ((nrs (fo ks N) N).length+rkS ks ps) (fun r=>y r*CQ N ks ps x r e))=0:=by
   rw[<-CF (g:=fun e r=>CQ N ks ps x r e)];exact Eu fun r hr=>by rw[hM r hr];grind
  have e3:su ks.length (fun e=>x e*(su ((nrs (fo ks N) N).length+rkS ks ps) (fun r=>y r*CQ N ks ps x r e)+y ((nrs (fo ks N) N).length+rkS ks ps)*x e))=su ks.length (fun e=>x e*su ((nrs (fo ks N) N).length+rkS ks ps) (fun r=>y r*CQ N ks ps x r e))+y ((nrs (fo ks N) N).length+rkS ks ps)*su ks.length (fun e=>x e*x e):=by
   rw[<-A6,<-MW];exact Ab fun e _=>by grind
  rw[e3,e2]at e1;grind
 rcases Rat.mul_eq_zero.1 hz with c|c
 ·exfalso
  by_cases ci:i<(nrs (fo ks N) N).length+rkS ks ps
  ·refine hy (V0 hok y (fun e he=>?_) i ci)
   rw[<-Kt (x:=x)];have:=hs e he;rw[c]at this;grind
  ·rw[show i=(nrs (fo ks N) N).length+rkS ks ps by omega]at hy
   exact hy c
 ·exact HU (f:=x) c e he
theorem U7(hok:GOK N ks ps){p:Nat}(hp:p<ps.length)(φ:Nat->Rat):su ks.length (fun e=>sq ks ps p e*(φ (gN ks e%6)-φ (gN ks e/6)))=0:=by
 have e1:su ks.length (fun e=>sq ks ps p e*(φ (gN ks e%6)-φ (gN ks e/6)))=su ks.length fun e=>sq ks ps p e*su N fun v=>φ v*dq ks e v:=Ab fun e he=>by rw[ML hok he φ]
 rw[e1,<-CF (g:=fun e v=>dq ks e v)];refine Eu fun v hv=>?_
 have:=Vl hok hp v;have e3:su ks.length (fun e=>dq ks e v*sq ks ps p e)=su ks.length fun e=>sq ks ps p e*dq ks e v:=Ab fun e _=>Rat.mul_comm _ _
 rw[e3,this];grind
theorem Q9(hok:GOK N ks ps)(v:Nat)(τ:Nat->Rat):su ks.length (fun e=>dq ks e v*su ps.length fun p=>τ p*sq ks ps p e)=0:=by
 rw[Ab (g:=fun e=>dq ks e v*su ps.length fun p=>sq ks ps p e*τ p) fun e _=>by
  congr 1
  exact Ab fun p _=>Rat.mul_comm _ _]
 rw[CF (g:=fun p e=>sq ks ps p e)];refine Eu fun p hp=>?_
 have:=Vl hok hp v;have e3:su ks.length (fun e=>dq ks e v*sq ks ps p e)=su ks.length fun e=>sq ks ps p e*dq ks e v:=Ab fun e _=>Rat.mul_comm _ _
 rw[e3,this];grind
theorem Xn{e:Nat}:pt1 ks ps fl e=su ps.length fun p=>sX ks ps (ps.map (tuS ks fl)) p*sq ks ps p e:=rfl
theorem Xf(hok:GOK N ks ps)(hl:fl.length=ks.length)(hb:∀x∈fl,-100<=x/\x<=100){v:Nat}(hv:v<N):su ks.length (fun e=>dq ks e v*pt2 ks ps fl N e)=0:=by
 have h0:=Ju hok hl hb hv;have h1:=Q9 hok v (sX ks ps (ps.map (tuS ks fl)));have e1:su ks.length (fun e=>dq ks e v*pt2 ks ps fl N e)=su ks.length (fun e=>dq ks e v*fq fl e)-su ks.length (fun e=>dq ks e v*pt0 ks fl N e)-su ks.length fun e=>dq ks e v*su ps.length fun p=>sX ks ps (ps.map (tuS ks fl)) p*sq ks ps p e:=by
  rw[<-EM,<-EM];exact Ab fun e _=>by
   unfold pt2 fq;rw[Xn];grind
 rw[e1,h0,h1];grind
theorem Xs(hok:GOK N ks ps)(hl:fl.length=ks.length)(hb:∀x∈fl,-100<=x/\x<=100){p:Nat}(hp:p<ps.length):su ks.length (fun e=>sq ks ps p e*pt2 ks ps fl N e)=0:=by
 have h0:=Jl hok hl hb hp;have h1:=U7 hok hp (bH ks fl N);have e1:su ks.length (fun e=>sq ks ps p e*pt2 ks ps fl N e)=su ks.length (fun e=>sq ks ps p e*fq fl e)-su ks.length (fun e=>sq ks ps p e*pt1 ks ps fl e)-su ks.length fun e=>sq ks ps p e*(bH ks fl N (gN ks e%6)-bH ks fl N (gN ks e/6)):=by
  rw[<-EM,<-EM];exact Ab fun e _=>by
   unfold pt2 fq pt0 dfl;grind
 rw[e1,h0,h1];grind
theorem Qb(hok:GOK N ks ps)(hl:fl.length=ks.length)(hb:∀x∈fl,-100<=x/\x<=100):(∀v,v<N->su ks.length (fun e=>dq ks e v*fq fl e)=0)↔∀e,e<ks.length->pt0 ks fl N e=0:=by
 constructor
 ·intro h
  have h0:su N (fun v=>bH ks fl N v*su ks.length fun e=>dq ks e v*pt0 ks fl N e)=0:=Eu fun v hv=>by
   rw[Ju hok hl hb hv,h v hv];grind
  rw[CF]at h0;have e2:su ks.length (fun e=>pt0 ks fl N e*su N fun v=>bH ks fl N v*dq ks e v)=su ks.length fun e=>pt0 ks fl N e*pt0 ks fl N e:=Ab fun e he=>by
   rw[ML hok he (bH ks fl N)]
   rfl
  rw[e2]at h0;exact HU h0
 ·intro h v hv
  rw[<-Ju hok hl hb hv];exact Eu fun e he=>by rw[h e he];grind
theorem Qa(hok:GOK N ks ps)(hl:fl.length=ks.length)(hb:∀x∈fl,-100<=x/\x<=100):(∀p,p<ps.length->su ks.length (fun e=>sq ks ps p e*fq fl e)=0)↔∀e,e<ks.length->pt1 ks ps fl e=0:=by
 constructor
 ·intro h
  have h0:su ps.length (fun p=>sX ks ps (ps.map (tuS ks fl)) p*su ks.length fun e=>sq ks ps p e*pt1 ks ps fl e)=0:=Eu fun p hp=>by
   rw[Jl hok hl hb hp,h p hp];grind
  rw[CF (g:=fun e p=>sq ks ps p e)]at h0;exact HU (f:=pt1 ks ps fl) h0
 ·intro h p hp
  rw[<-Jl hok hl hb hp];exact Eu fun e he=>by rw[h e he];grind
theorem OO(hok:GOK N ks ps)(hl:fl.length=ks.length)(hb:∀x∈fl,-100<=x/\x<=100):K9 N ks ps fl=true↔(∀v,v<N->su ks.length (fun e=>dq ks e v*fq fl e)=0)/\∀p,p<ps.length->su ks.length (fun e=>sq ks ps p e*fq fl e)=0:=by
 have hG:∀v,v<N->(gI (gnS N ks fl ks.length) v=0↔su ks.length (fun e=>dq ks e v*fq fl e)=0):=fun v hv=>by
  rw[Lr hok hl hb hv ks.length (Nat.le_refl _),<-P1];exact⟨fun h=>by rw[h];rfl,Du⟩
 have hT:∀p,p<ps.length->(gI (ps.map (tuS ks fl)) p=0↔su ks.length (fun e=>sq ks ps p e*fq fl e)=0):=fun p hp=>by
  rw[Mw hok hl hb hp];have e:((suZ ks.length fun e=>sgn (gN ps p) (gN ks e)*gI fl e:Int):Rat)=su ks.length fun e=>sq ks ps p e*fq fl e:=by
   rw[DF];exact Ab fun e _=>by rw[Rat.intCast_mul];rfl
  rw[<-e];exact⟨fun h=>by rw[h];rfl,Du⟩
 unfold K9;rw[Bool.not_eq_true',List.any_eq_false];simp only[List.mem_append,nzB,decide_eq_true_eq,Decidable.not_not];constructor
 ·intro h
  exact⟨fun v hv=>(hG v hv).1 (h _ (.inl (E6 (by rw[D3];exact hv)))),fun p hp=>(hT p hp).1 (h _ (.inr (E6 (by simpa using hp))))⟩
 ·rintro ⟨h1,h2⟩ x (hx|hx)
  ·obtain⟨v,hv,rfl⟩:=List.mem_iff_getElem.1 hx
   rw[D3]at hv;rw[<-Ca];exact(hG v hv).2 (h1 v hv)
  ·obtain⟨p,hp,rfl⟩:=List.mem_iff_getElem.1 hx
   rw[<-Ca];exact(hT p (by simpa using hp)).2 (h2 p (by simpa using hp))
end
variable {F:Nat->Option IFn}{cx:Ctx}{k:List Itm}{s:St}{l:List (Nat×AV)}{rows:List Row}{low:Nat}{r:AV×List Row×Nat->Prop}
def c10r0:List Seg:=[
 zm 112 7,
 zo 113 (.bin .gtr (.t 112) (.c (.int .i64 0))),
 zm 114 113,
 .one ⟨some 115,.idxA 3 1 (.t 13) (.c (.int .i64 2)),some (114,false)⟩,
 .one ⟨some 116,.load1 (.t 115),some (114,false)⟩,
 .one ⟨some 117,.mv (.t 17),some (114,false)⟩,
 .one ⟨some 118,.call [] (.c (.func 28 [])) [(.t 116),(.t 117)],some (114,false)⟩,
 zo 119 (.pick (.t 114) (.c (.bool true)) (.t 118)),
 zm 120 119,
 .one ⟨some 121,.call [] (.c (.func 19 [])) [],some (120,true)⟩,
 zo 122 (.pick (.t 120) (.t 121) (.c (.bool false))),
 zm 4 122]
def c10k0:ICode:=.kill 123 Wj (.ops c10r0)
@[simp] theorem uc10k0:X0 F cx k l rows low r 123 c10k0↔bnd (evP rows (.bin .gtr (cl l 7) (ci 0))) fun v0=>bnd (gv v0 false (evP rows (.idxA 3 1 (cl l 13) (ci 2)))) fun v1=>bnd (gv v0 false (evP rows (.load1 (.c v1)))) fun v2=>bnd (gv v0 false (evP rows (.mv (cl l 17)))) fun v3=>CB F v0 false rows low [v2,v3] [] (.func 28 []) fun v4 R4 L4=>bnd (evP R4 (.pick (.c v0) (.c (.bool true)) (.c v4))) fun v5=>CB F v5 true R4 L4 [] [] (.func 19 []) fun v6 R6 L6=>bnd (evP R6 (.pick (.c v5) (.c v6) (.c (.bool false)))) fun v7=>Y0 F cx k r R6 L6 123 ([(4,v7),(122,v7),(121,v6),(120,v5),(119,v5),(118,v4),(117,v3),(116,v2),(115,v1),(114,v0),(113,v0),(112,lk l 7)]++kp l Wj):=rg
def c10s1:ICode:=(.seq c10k0 .ret)
@[simp] theorem uc10s1:U c10s1 (.seq c10k0 .ret):=ur
def c10r2:List Seg:=[
 zo 4 (.mv (.c (.bool false)))]
def c10k2:ICode:=.kill 123 [] (.ops c10r2)
@[simp] theorem uc10k2:X0 F cx k l rows low r 123 c10k2↔Y0 F cx k r rows low 123 [(4,(.bool false))]:=rg
def c10s3:ICode:=(.cond (.t 111) (.seq c10k2 .ret) .skip)
@[simp] theorem uc10s3:U c10s3 (.cond (.t 111) (.seq c10k2 .ret) .skip):=ur
def c10r4:List Seg:=[
 zm 92 14,
 zo 93 (.bin .neq (.t 92) (.c (.int .i64 0))),
 zm 94 93,
 .one ⟨some 95,.mv (.t 16),some (94,false)⟩,
 .one ⟨some 96,.bin .neq (.t 95) (.c (.int .i64 0)),some (94,false)⟩,
 zo 97 (.pick (.t 94) (.c (.bool true)) (.t 96)),
 zm 98 97,
 .one ⟨some 99,.mv (.t 15),some (98,false)⟩,
 .one ⟨some 100,.idxA 3 1 (.t 13) (.c (.int .i64 0)),some (98,false)⟩,
 .one ⟨some 101,.load1 (.t 100),some (98,false)⟩,
 .one ⟨some 102,.mv (.t 17),some (98,false)⟩,
 .one ⟨some 103,.call [] (.c (.func 28 [])) [(.t 101),(.t 102)],some (98,false)⟩,
 .one ⟨some 104,.mv (.t 103),some (98,false)⟩,
 .one ⟨some 105,.idxA 3 1 (.t 13) (.c (.int .i64 1)),some (104,true)⟩,
 .one ⟨some 106,.load1 (.t 105),some (104,true)⟩,
 .one ⟨some 107,.mv (.t 17),some (104,true)⟩,
 .one ⟨some 108,.call [] (.c (.func 28 [])) [(.t 106),(.t 107)],some (104,true)⟩,
 .one ⟨some 109,.pick (.t 104) (.t 108) (.c (.bool false)),some (98,false)⟩,
 .one ⟨some 110,.eqv true .bool (.t 99) (.t 109),some (98,false)⟩,
 zo 111 (.pick (.t 98) (.c (.bool true)) (.t 110))]
def c10k4:ICode:=.kill 123 XV (.ops c10r4)
@[simp] theorem uc10k4:X0 F cx k l rows low r 123 c10k4↔bnd (evP rows (.bin .neq (cl l 14) (ci 0))) fun v0=>bnd (gv v0 false (evP rows (.mv (cl l 16)))) fun v1=>bnd (gv v0 false (evP rows (.bin .neq (.c v1) (ci 0)))) fun v2=>bnd (evP rows (.pick (.c v0) (.c (.bool true)) (.c v2))) fun v3=>bnd (gv v3 false (evP rows (.mv (cl l 15)))) fun v4=>bnd (gv v3 false (evP rows (.idxA 3 1 (cl l 13) (ci 0)))) fun v5=>bnd (gv v3 false (evP rows (.load1 (.c v5)))) fun v6=>bnd (gv v3 false (evP rows (.mv (cl l 17)))) fun v7=>CB F v3 false rows low [v6,v7] [] (.func 28 []) fun v8 R8 L8=>bnd (gv v3 false (evP R8 (.mv (.c v8)))) fun v9=>bnd (gv v9 true (evP R8 (.idxA 3 1 (cl l 13) (ci 1)))) fun v10=>bnd (gv v9 true (evP R8 (.load1 (.c v10)))) fun v11=>bnd (gv v9 true (evP R8 (.mv (cl l 17)))) fun v12=>CB F v9 true R8 L8 [v11,v12] [] (.func 28 []) fun v13 R13 L13=>bnd (gv v3 false (evP R13 (.pick (.c v9) (.c v13) (.c (.bool false))))) fun v14=>bnd (gv v3 false (evP R13 (.eqv true .bool (.c v4) (.c v14)))) fun v15=>bnd (evP R13 (.pick (.c v3) (.c (.bool true)) (.c v15))) fun v16=>Y0 F cx k r R13 L13 123 ([(111,v16),(110,v15),(109,v14),(108,v13),(107,v12),(106,v11),(105,v10),(104,v9),(103,v8),(102,v7),(101,v6),(100,v5),(99,v4),(98,v3),(97,v3),(96,v2),(95,v1),(94,v0),(93,v0),(92,lk l 14)]++kp l XV):=rg
def c10s5:ICode:=(.seq (.seq c10k4 c10s3) c10s1)
@[simp] theorem uc10s5:U c10s5 (.seq (.seq c10k4 c10s3) c10s1):=ur
def c10r6:List Seg:=[
 zo 87 (.fieldA 1 (.t 5)),
 zo 88 (.load1 (.t 87)),
 zo 89 (.len 0 (.t 88)),
 zo 90 (.make [.int .i64 0] 8 (.t 89) (.t 89)),
 zo 91 (.call [] (.c (.func 43 [])) [(.t 90)]),
 zm 17 91]
def c10k6:ICode:=.kill 123 Wr (.ops c10r6)
@[simp] theorem uc10k6:X0 F cx k l rows low r 123 c10k6↔bnd (evP rows (.fieldA 1 (cl l 5))) fun v0=>bnd (evP rows (.load1 (.c v0))) fun v1=>bnd (evP rows (.len 0 (.c v1))) fun v2=>bnd (evE rows low (.make [.int .i64 0] 8 (.c v2) (.c v2))) fun q3=>bnd (Ret F 43 [q3.1] q3.2.1) fun q4=>Y0 F cx k r q4.2.1 (Ay q3.2.2 q4.2.2) 123 ([(17,q4.1),(91,q4.1),(90,q3.1),(89,v2),(88,v1),(87,v0)]++kp l Wr):=rg
def c10s7:ICode:=(.seq c10k6 c10s5)
@[simp] theorem uc10s7:U c10s7 (.seq c10k6 c10s5):=ur
def c10r8:List Seg:=[
 zo 82 (.loadN 3 (.t 6)),
 zm 83 12,
 zo 84 (.call [] (.c (.func 51 [])) [(.t 82),(.t 83)]),
 zm 81 84,
 zo 85 (.ext (.t 81) 0),
 zo 86 (.ext (.t 81) 1),
 zm 15 85,
 zm 16 86]
def c10k8:ICode:=.kill 123 Ye (.ops c10r8)
@[simp] theorem uc10k8:X0 F cx k l rows low r 123 c10k8↔bnd (evP rows (.loadN 3 (cl l 6))) fun v0=>bnd (Ret F 51 [v0,lk l 12] rows) fun q1=>bnd (evP q1.2.1 (.ext (.c q1.1) 0)) fun v2=>bnd (evP q1.2.1 (.ext (.c q1.1) 1)) fun v3=>Y0 F cx k r q1.2.1 (Ay low q1.2.2) 123 ([(16,v3),(15,v2),(86,v3),(85,v2),(81,q1.1),(84,q1.1),(83,lk l 12),(82,v0)]++kp l Ye):=rg
def c10s9:ICode:=(.seq c10k8 c10s7)
@[simp] theorem uc10s9:U c10s9 (.seq c10k8 c10s7):=ur
def c10r10:List Seg:=[
 zo 76 (.loadN 3 (.t 6)),
 zm 77 12,
 zo 78 (.call [] (.c (.func 23 [])) [(.t 76),(.t 77)]),
 zm 75 78,
 zo 79 (.ext (.t 75) 0),
 zo 80 (.ext (.t 75) 1),
 zo 13 (.box (.c (.agg [.nilslice,.nilslice,.nilslice]))),
 .one ⟨none,.storeN 3 (.t 13) (.t 79),none⟩,
 zm 14 80]
def c10k10:ICode:=.kill 123 Wm (.ops c10r10)
@[simp] theorem uc10k10:X0 F cx k l rows low r 123 c10k10↔bnd (evP rows (.loadN 3 (cl l 6))) fun v0=>bnd (Ret F 23 [v0,lk l 12] rows) fun q1=>bnd (evP q1.2.1 (.ext (.c q1.1) 0)) fun v2=>bnd (evP q1.2.1 (.ext (.c q1.1) 1)) fun v3=>bnd (evE q1.2.1 (Ay low q1.2.2) (.box (.c (.agg [.nilslice,.nilslice,.nilslice])))) fun q4=>bnd (evE q4.2.1 q4.2.2 (.storeN 3 (.c q4.1) (.c v2))) fun q5=>Y0 F cx k r q5.2.1 q5.2.2 123 ([(14,v3),(13,q4.1),(80,v3),(79,v2),(75,q1.1),(78,q1.1),(77,lk l 12),(76,v0)]++kp l Wm):=rg
def c10s11:ICode:=(.seq c10k10 c10s9)
@[simp] theorem uc10s11:U c10s11 (.seq c10k10 c10s9):=ur
def c10r12:List Seg:=[
 zm 70 1,
 zo 71 (.fieldA 1 (.t 5)),
 zo 72 (.load1 (.t 71)),
 zo 73 (.len 0 (.t 72)),
 zo 74 (.call [] (.c (.func 20 [])) [(.t 70),(.t 73)]),
 zm 12 74]
def c10k12:ICode:=.kill 123 Xg (.ops c10r12)
@[simp] theorem uc10k12:X0 F cx k l rows low r 123 c10k12↔bnd (evP rows (.fieldA 1 (cl l 5))) fun v0=>bnd (evP rows (.load1 (.c v0))) fun v1=>bnd (evP rows (.len 0 (.c v1))) fun v2=>bnd (Ret F 20 [lk l 1,v2] rows) fun q3=>Y0 F cx k r q3.2.1 (Ay low q3.2.2) 123 ([(12,q3.1),(74,q3.1),(73,v2),(72,v1),(71,v0),(70,lk l 1)]++kp l Xg):=rg
def c10s13:ICode:=(.seq c10k12 c10s11)
@[simp] theorem uc10s13:U c10s13 (.seq c10k12 c10s11):=ur
def c10r14:List Seg:=[
 zo 4 (.mv (.c (.bool false)))]
def c10k14:ICode:=.kill 123 [] (.ops c10r14)
@[simp] theorem uc10k14:X0 F cx k l rows low r 123 c10k14↔Y0 F cx k r rows low 123 [(4,(.bool false))]:=rg
def c10s15:ICode:=(.cond (.t 69) (.seq c10k14 .ret) .skip)
@[simp] theorem uc10s15:U c10s15 (.cond (.t 69) (.seq c10k14 .ret) .skip):=ur
def c10r16:List Seg:=[
 zm 44 8,
 zo 45 (.bin .neq (.t 44) (.c (.int .i64 0))),
 zm 46 45,
 .one ⟨some 47,.mv (.t 10),some (46,false)⟩,
 .one ⟨some 48,.bin .neq (.t 47) (.c (.int .i64 0)),some (46,false)⟩,
 zo 49 (.pick (.t 46) (.c (.bool true)) (.t 48)),
 zm 50 49,
 .one ⟨some 51,.mv (.t 7),some (50,false)⟩,
 .one ⟨some 52,.bin .lss (.t 51) (.c (.int .i64 0)),some (50,false)⟩,
 zo 53 (.pick (.t 50) (.c (.bool true)) (.t 52)),
 zm 54 53,
 .one ⟨some 55,.mv (.t 7),some (54,false)⟩,
 .one ⟨some 56,.mv (.t 11),some (54,false)⟩,
 .one ⟨some 57,.bin .lss (.t 55) (.t 56),some (54,false)⟩,
 zo 58 (.pick (.t 54) (.c (.bool true)) (.t 57)),
 zm 59 58,
 .one ⟨some 60,.fieldA 2 (.t 5),some (59,false)⟩,
 .one ⟨some 61,.load1 (.t 60),some (59,false)⟩,
 .one ⟨some 62,.len 0 (.t 61),some (59,false)⟩,
 .one ⟨some 63,.bin .eql (.t 62) (.c (.int .i64 0)),some (59,false)⟩,
 .one ⟨some 64,.mv (.t 63),some (59,false)⟩,
 .one ⟨some 65,.mv (.t 7),some (64,true)⟩,
 .one ⟨some 66,.mv (.t 11),some (64,true)⟩,
 .one ⟨some 67,.bin .neq (.t 65) (.t 66),some (64,true)⟩,
 .one ⟨some 68,.pick (.t 64) (.t 67) (.c (.bool false)),some (59,false)⟩,
 zo 69 (.pick (.t 59) (.c (.bool true)) (.t 68))]
def c10k16:ICode:=.kill 123 WW (.ops c10r16)
@[simp] theorem uc10k16:X0 F cx k l rows low r 123 c10k16↔bnd (evP rows (.bin .neq (cl l 8) (ci 0))) fun v0=>bnd (gv v0 false (evP rows (.mv (cl l 10)))) fun v1=>bnd (gv v0 false (evP rows (.bin .neq (.c v1) (ci 0)))) fun v2=>bnd (evP rows (.pick (.c v0) (.c (.bool true)) (.c v2))) fun v3=>bnd (gv v3 false (evP rows (.mv (cl l 7)))) fun v4=>bnd (gv v3 false (evP rows (.bin .lss (.c v4) (ci 0)))) fun v5=>bnd (evP rows (.pick (.c v3) (.c (.bool true)) (.c v5))) fun v6=>bnd (gv v6 false (evP rows (.mv (cl l 7)))) fun v7=>bnd (gv v6 false (evP rows (.mv (cl l 11)))) fun v8=>bnd (gv v6 false (evP rows (.bin .lss (.c v7) (.c v8)))) fun v9=>bnd (evP rows (.pick (.c v6) (.c (.bool true)) (.c v9))) fun v10=>bnd (gv v10 false (evP rows (.fieldA 2 (cl l 5)))) fun v11=>bnd (gv v10 false (evP rows (.load1 (.c v11)))) fun v12=>bnd (gv v10 false (evP rows (.len 0 (.c v12)))) fun v13=>bnd (gv v10 false (evP rows (.bin .eql (.c v13) (ci 0)))) fun v14=>bnd (gv v10 false (evP rows (.mv (.c v14)))) fun v15=>bnd (gv v15 true (evP rows (.mv (cl l 7)))) fun v16=>bnd (gv v15 true (evP rows (.mv (cl l 11)))) fun v17=>bnd (gv v15 true (evP rows (.bin .neq (.c v16) (.c v17)))) fun v18=>bnd (gv v10 false (evP rows (.pick (.c v15) (.c v18) (.c (.bool false))))) fun v19=>bnd (evP rows (.pick (.c v10) (.c (.bool true)) (.c v19))) fun v20=>Y0 F cx k r rows low 123 ([(69,v20),(68,v19),(67,v18),(66,v17),(65,v16),(64,v15),(63,v14),(62,v13),(61,v12),(60,v11),(59,v10),(58,v10),(57,v9),(56,v8),(55,v7),(54,v6),(53,v6),(52,v5),(51,v4),(50,v3),(49,v3),(48,v2),(47,v1),(46,v0),(45,v0),(44,lk l 8)]++kp l WW):=rg
def c10s17:ICode:=(.seq (.seq c10k16 c10s15) c10s13)
@[simp] theorem uc10s17:U c10s17 (.seq (.seq c10k16 c10s15) c10s13):=ur
def c10r18:List Seg:=[
 zo 32 (.fieldA 1 (.t 5)),
 zo 33 (.load1 (.t 32)),
 zo 34 (.len 0 (.t 33)),
 zo 35 (.fieldA 0 (.t 5)),
 zo 36 (.load1 (.t 35)),
 zo 37 (.bin .sub (.t 34) (.t 36)),
 zm 38 9,
 zo 39 (.bin .add (.t 37) (.t 38)),
 zo 40 (.fieldA 2 (.t 5)),
 zo 41 (.load1 (.t 40)),
 zo 42 (.len 0 (.t 41)),
 zo 43 (.bin .sub (.t 39) (.t 42)),
 zm 11 43]
def c10k18:ICode:=.kill 123 Wz (.ops c10r18)
@[simp] theorem uc10k18:X0 F cx k l rows low r 123 c10k18↔bnd (evP rows (.fieldA 1 (cl l 5))) fun v0=>bnd (evP rows (.load1 (.c v0))) fun v1=>bnd (evP rows (.len 0 (.c v1))) fun v2=>bnd (evP rows (.fieldA 0 (cl l 5))) fun v3=>bnd (evP rows (.load1 (.c v3))) fun v4=>bnd (evP rows (.bin .sub (.c v2) (.c v4))) fun v5=>bnd (evP rows (.bin .add (.c v5) (cl l 9))) fun v6=>bnd (evP rows (.fieldA 2 (cl l 5))) fun v7=>bnd (evP rows (.load1 (.c v7))) fun v8=>bnd (evP rows (.len 0 (.c v8))) fun v9=>bnd (evP rows (.bin .sub (.c v6) (.c v9))) fun v10=>Y0 F cx k r rows low 123 ([(11,v10),(43,v10),(42,v9),(41,v8),(40,v7),(39,v6),(38,lk l 9),(37,v5),(36,v4),(35,v3),(34,v2),(33,v1),(32,v0)]++kp l Wz):=rg
def c10s19:ICode:=(.seq c10k18 c10s17)
@[simp] theorem uc10s19:U c10s19 (.seq c10k18 c10s17):=ur
def c10r20:List Seg:=[
 zo 28 (.loadN 3 (.t 6)),
 zo 29 (.call [] (.c (.func 50 [])) [(.t 28)]),
 zm 27 29,
 zo 30 (.ext (.t 27) 0),
 zo 31 (.ext (.t 27) 1),
 zm 9 30,
 zm 10 31]
def c10k20:ICode:=.kill 123 Wp (.ops c10r20)
@[simp] theorem uc10k20:X0 F cx k l rows low r 123 c10k20↔bnd (evP rows (.loadN 3 (cl l 6))) fun v0=>bnd (Ret F 50 [v0] rows) fun q1=>bnd (evP q1.2.1 (.ext (.c q1.1) 0)) fun v2=>bnd (evP q1.2.1 (.ext (.c q1.1) 1)) fun v3=>Y0 F cx k r q1.2.1 (Ay low q1.2.2) 123 ([(10,v3),(9,v2),(31,v3),(30,v2),(27,q1.1),(29,q1.1),(28,v0)]++kp l Wp):=rg
def c10s21:ICode:=(.seq c10k20 c10s19)
@[simp] theorem uc10s21:U c10s21 (.seq c10k20 c10s19):=ur
def c10r22:List Seg:=[
 zo 23 (.loadN 3 (.t 6)),
 zo 24 (.call [] (.c (.func 16 [])) [(.t 23)]),
 zm 22 24,
 zo 25 (.ext (.t 22) 0),
 zo 26 (.ext (.t 22) 1),
 zm 7 25,
 zm 8 26]
def c10k22:ICode:=.kill 123 WI (.ops c10r22)
@[simp] theorem uc10k22:X0 F cx k l rows low r 123 c10k22↔bnd (evP rows (.loadN 3 (cl l 6))) fun v0=>bnd (Ret F 16 [v0] rows) fun q1=>bnd (evP q1.2.1 (.ext (.c q1.1) 0)) fun v2=>bnd (evP q1.2.1 (.ext (.c q1.1) 1)) fun v3=>Y0 F cx k r q1.2.1 (Ay low q1.2.2) 123 ([(8,v3),(7,v2),(26,v3),(25,v2),(22,q1.1),(24,q1.1),(23,v0)]++kp l WI):=rg
def c10s23:ICode:=(.seq c10k22 c10s21)
@[simp] theorem uc10s23:U c10s23 (.seq c10k22 c10s21):=ur
def c10r24:List Seg:=[
 zo 20 (.loadN 3 (.t 5)),
 zo 21 (.call [] (.c (.func 17 [])) [(.t 20)]),
 zo 6 (.box (.c (.agg [.int .i64 0,.nilslice,.nilslice]))),
 .one ⟨none,.storeN 3 (.t 6) (.t 21),none⟩]
def c10k24:ICode:=.kill 123 Pb (.ops c10r24)
@[simp] theorem uc10k24:X0 F cx k l rows low r 123 c10k24↔bnd (evP rows (.loadN 3 (cl l 5))) fun v0=>bnd (Ret F 17 [v0] rows) fun q1=>bnd (evE q1.2.1 (Ay low q1.2.2) (.box (.c (.agg [.int .i64 0,.nilslice,.nilslice])))) fun q2=>bnd (evE q2.2.1 q2.2.2 (.storeN 3 (.c q2.1) (.c q1.1))) fun q3=>Y0 F cx k r q3.2.1 q3.2.2 123 [(6,q2.1),(21,q1.1),(20,v0),(1,lk l 1),(5,lk l 5)]:=rg
def c10s25:ICode:=(.seq c10k24 c10s23)
@[simp] theorem uc10s25:U c10s25 (.seq c10k24 c10s23):=ur
def c10r26:List Seg:=[
 zo 18 (.loadN 3 (.t 2)),
 zo 19 (.call [] (.c (.func 15 [])) [(.t 18)]),
 zo 5 (.box (.c (.agg [.int .i64 0,.nilslice,.nilslice]))),
 .one ⟨none,.storeN 3 (.t 5) (.t 19),none⟩]
def c10k26:ICode:=.kill 123 BT (.ops c10r26)
@[simp] theorem uc10k26:X0 F cx k l rows low r 123 c10k26↔bnd (evP rows (.loadN 3 (cl l 2))) fun v0=>bnd (Ret F 15 [v0] rows) fun q1=>bnd (evE q1.2.1 (Ay low q1.2.2) (.box (.c (.agg [.int .i64 0,.nilslice,.nilslice])))) fun q2=>bnd (evE q2.2.1 q2.2.2 (.storeN 3 (.c q2.1) (.c q1.1))) fun q3=>Y0 F cx k r q3.2.1 q3.2.2 123 [(5,q2.1),(19,q1.1),(18,v0),(1,lk l 1),(2,lk l 2)]:=rg
def c10s27:ICode:=(.seq c10k26 c10s25)
@[simp] theorem uc10s27:U c10s27 (.seq c10k26 c10s25):=ur
def c10r28:List Seg:=[
 zo 2 (.box (.t 0)),
 zo 4 (.mv (.c (.bool false)))]
def c10k28:ICode:=.kill 123 AF (.ops c10r28)
@[simp] theorem uc10k28:X0 F cx k l rows low r 123 c10k28↔bnd (evE rows low (.box (cl l 0))) fun q0=>Y0 F cx k r q0.2.1 q0.2.2 123 [(4,(.bool false)),(2,q0.1),(0,lk l 0),(1,lk l 1)]:=rg
def c10b:ICode:=(.seq c10k28 c10s27)
@[simp] theorem uc10b:U c10b (.seq c10k28 c10s27):=ur
def c10:IFn:=⟨123,[.t 4],c10b⟩
def h10:List (Nat×Nat×List Nat):=[(0,(123,[0,1])),(1,(123,[1,2])),(2,(123,[1,5])),(3,(123,[1,5,6])),(4,(123,[1,5,6,7,8])),(5,(123,[1,5,6,7,8,9,10])),(6,(123,[1,5,6,7,8,10,11])),(7,(123,[])),(8,(123,[1,5,6,7])),(9,(123,[5,6,7,12])),(10,(123,[5,6,7,12,13,14])),(11,(123,[5,7,13,14,15,16])),(12,(123,[7,13,14,15,16,17])),(13,(123,[])),(14,(123,[7,13,17]))]
theorem i10{x0 x1:AV}(hF:F 10=some c10){q:AV×List Row×Option Nat}(h:Ex F (.fn [.t 4]) [.code c10b] ⟨mk 123 [(0,x0),(1,x1)],rows,rows.length⟩ fun r=>fin rows r.1 r.2.1 r.2.2=q):Ret F 10 [x0,x1] rows=some q:=Aw hF h
end Go.Abs
namespace Go.Abs
abbrev G10:Nat->Option IFn:=more F 10 c10
theorem Ez{f:Nat}{vs:List AV}{rows:List Row}{q:AV×List Row×Option Nat}(h:Ret F f vs rows=some q):Ret G10 f vs rows=some q:=Uk (Q5 (by kernel_rfl)) h
section
variable {rows E:List Row}{P m:Nat}{p0 p1 p2 no:AV}{k:Int}{cb:Bool}{a0 a1 a2 z:Nat->Rat}{sl:List (Nat×AV)}{r:AV×List Row×Nat->Prop}
theorem XN(hA:∀H,Ret F 19 [] (rows++H)=some (.bool true,rows++H,none))(hE:∃Y,E=rows++Y)(hm:m<=100)(rP:Af E P=some [p0,p1,p2])
  (f0:FrL E p0 a0 m) (f1:FrL E p1 a1 m) (f2:FrL E p2 a2 m) (hno:FrL E no z m) (hcb:cb=(smB a0 z m 0&&smB a1 z m 0)) (hk:0<k\/smB a2 z m 0=true)
  (s7:lk sl 7 = .int .i64 k) (s13:lk sl 13 = .ptr P 0) (s14:lk sl 14 = .int .i64 0) (s15:lk sl 15 = .bool cb) (s16:lk sl 16 = .int .i64 0) (s17:lk sl 17=no)
  : Ex G10 (.fn [.t 4]) [.code c10s5] ⟨mk 123 sl,E,rows.length⟩ fun r=>fin rows r.1 r.2.1 r.2.2=(.bool true,rows,none):=by
 have rs1:=Ez (HA f0 hno (by omega));have rs2:=Ez (HA f1 hno (by omega));have rs3:=Ez (HA f2 hno (by omega));obtain⟨Y,rfl⟩:=hE;have r19:=Ez (hA Y);have hfin:fin rows (.bool true) (rows++Y) rows.length=(.bool true,rows,none):=by simp
 have i03:AQ 0 3=some 0:=rfl;have i13:AQ 1 3=some 1:=rfl;have i23:AQ 2 3=some 2:=rfl;subst hcb;generalize smB a0 z m 0=b0 at *;generalize smB a1 z m 0=b1 at *;generalize smB a2 z m 0=b2 at *
 by_cases hk0:0<k
 ·cases b0<;>cases b1<;>simp[s7,s13,s14,s15,s16,s17,i03,i13,i23,rP,opC,Ax,Bs,rs1,rs2,rs3,r19,hfin,hk0,Function.comp_def]
 ·have hb2:b2=true:=hk.resolve_left hk0
  subst hb2;cases b0<;>cases b1<;>simp[s7,s13,s14,s15,s16,s17,i03,i13,i23,rP,opC,Ax,Bs,rs1,rs2,rs3,r19,hfin,hk0,Function.comp_def]
end
theorem My{rows:List Row}{gv lv:AV}{l:List Int}(h:LawIn rows gv lv l)(hGZ:GZ rows)(hA:∀H,Ret F 19 [] (rows++H)=some (.bool true,rows++H,none)):
  Ret G10 10 [gv,lv] rows=some (.bool true,rows,none):=by
 obtain⟨N,ks,ps,B1,B3,B4,ev1,pv1,ev2,pv2,hb⟩:=Um h;obtain⟨⟨x,ev,pv,rfl,o1,o2,r15,row1⟩,r17,⟨oe1,op1,oe2,op2⟩,hl1,hl3,row2,eB4,rx,ry,gx,gy,⟨Y,eY,uY⟩,_⟩:=hb;have hok:=gx.ok;have n6:=hok.n6;have hek:=hok.ek;have hpk:=hok.pk;obtain⟨_,_,eg,eE,eP,_⟩:=id gx.eq;simp only[AV.agg.injEq,List.cons.injEq,and_true,true_and]at eg;obtain⟨rfl,rfl⟩:=eg;have hL4:IsL B4 lv l:=by rw[eY];exact AA h.l _
 have H4:HS rows B4 B1.length B3.length N ks ps ev1 pv1 ev2 pv2:=⟨rx,ry,gx,gy,⟨Y,eY⟩,hGZ.fx (by rw[eY];exact Fx.app (p:=fun _=>False) Y) (by simp)⟩
 have r16:=Ez (OP H4.gz H4.gy);have r50:=Ez (Gx H4.gy)
 -- the numbers
 have nl:(FL l ks.length).length=ks.length:=by simp[FL]
 have nb:∀x∈FL l ks.length,-100<=x/\x<=100:=by
  intro x hx;obtain⟨i,_,rfl⟩:=List.mem_map.1 hx;exact QX l i
 obtain⟨av,K1,a1,b1,_,d1⟩:=Lm B4 (FL l ks.length);rw[nl]at a1;have r20:=Ez (Ja hL4 (m:=ks.length) (by omega));rw[a1]at r20;have H5:=H4.app K1;obtain⟨q,r23,p0,p1,p2,X6,rfl,f0,f1,f2⟩:=Om H5.gz H5.gy b1 nl nb;have H6:=(H5.app X6).app [.cells [p0,p1,p2]];have o3:=Am f0;have o4:=Am f1;have o5:=Am f2;have b1:=AA (AA b1 X6) [.cells [p0,p1,p2]];have f0:=f0.app [.cells [p0,p1,p2]];have f1:=f1.app [.cells [p0,p1,p2]];have f2:=f2.app [.cells [p0,p1,p2]];have ry5:=H5.ry;have rx4:=H4.rx;have ry4:=H4.ry;have l6:rows.length<=(B4++K1++X6).length:=by obtain⟨Z,e⟩:=H5.un;rw[e];simp
 have rP:Af (B4++K1++X6++[.cells [p0,p1,p2]]) (B4++K1++X6).length=some [p0,p1,p2]:=BE;have cP:∀vs,cells? (B4++K1++X6++[.cells vs]) (B4++K1++X6).length=some vs:=fun vs=>K6
 have hC:=rfl (a:=B4++K1++X6);generalize hC6:B4++K1++X6=C6 at *;generalize hP:C6.length=P at *;have lw6:Aa rows.length P=rows.length:=Ae l6;generalize hD6:C6++[.cells [p0,p1,p2]]=D6 at *;have r51:=Ls H6.gy b1 nl nb;have hlim:(ks.length:Int)<=lim:=by unfold lim;omega
 have hz:IsL (D6++[.cells (Ac .i64 (List.replicate ks.length 0))]) (.slice D6.length 0 ks.length (.at_ ks.length)) (List.replicate ks.length 0):=MN (by simp);obtain⟨no,X8,r43,hno⟩:=N5 hz (by simp;omega);rw[List.length_replicate]at hno;have hz0:∀i,i<ks.length->(((gI (List.replicate ks.length (0:Int)) i:Int):Rat))=0:=fun i hi=>by
  rw[Ca (by simpa using hi)];simp
 obtain⟨_,_,eg,eE6,_,_⟩:=id H6.gx.eq;simp only[AV.agg.injEq,List.cons.injEq,and_true,true_and]at eg;obtain⟨rfl,rfl⟩:=eg;have lnE6:=Ao eE6;have lnE4:=Ao eE;have lnP4:=Ao eP;have rx6:=H6.rx;have ry6:=H6.ry
 -- the plain facts
 have hcnt:=MT hok N (Nat.le_refl _);have hdim:=Wi hok;have hrk:=KY (ks:=ks) (ps:=ps);have hC0:=JR (ks:=ks) N;have hsm:∀f:Nat->Rat,smB f (fun i=>((gI (List.replicate ks.length (0:Int)) i:Int):Rat)) ks.length 0=true↔∀i,i<ks.length->f i=0:=fun f=>by
  rw[Ns];exact⟨fun h i hi=>by rw[h i (Nat.zero_le _) (by omega),hz0 i hi],fun h i _ hi=>by rw[h i (by omega),hz0 i (by omega)]⟩
 have hcb:K9 N ks ps (FL l ks.length)=(smB (pt0 ks (FL l ks.length) N) (fun i=>((gI (List.replicate ks.length (0:Int)) i:Int):Rat)) ks.length 0&&smB (pt1 ks ps (FL l ks.length)) (fun i=>((gI (List.replicate ks.length (0:Int)) i:Int):Rat)) ks.length 0):=by
  apply Bool.eq_iff_iff.2;rw[Bool.and_eq_true,hsm,hsm,OO hok nl nb,Qb hok nl nb,Qa hok nl nb]
 have hk:0<(ks.length:Int)-((N:Int)-(cntL ks N:Int))-(rkS ks ps:Int)\/smB (pt2 ks ps (FL l ks.length) N) (fun i=>((gI (List.replicate ks.length (0:Int)) i:Int):Rat)) ks.length 0=true:=by
  by_cases c:0<(ks.length:Int)-((N:Int)-(cntL ks N:Int))-(rkS ks ps:Int)
  ·exact .inl c
  ·exact .inr ((hsm _).2 fun e he=>XU hok (by omega) (fun v hv=>Xf hok nl nb hv) (fun p hp=>Xs hok nl nb hp) he)
 have hk0:0<=(ks.length:Int)-((N:Int)-(cntL ks N:Int))-(rkS ks ps:Int):=by omega
 have hk1:(ks.length:Int)-((N:Int)-(cntL ks N:Int))-(rkS ks ps:Int)>=(ks.length:Int)-N+(cntL ks N:Int)-ps.length:=by omega
 have hk2:ps.length=0->(ks.length:Int)-((N:Int)-(cntL ks N:Int))-(rkS ks ps:Int)=(ks.length:Int)-N+(cntL ks N:Int)-ps.length:=by omega
 have w1:IntKind.i64.wrap ((ks.length:Int)-N)=(ks.length:Int)-N:=AB (by omega) (by omega);have w2:IntKind.i64.wrap ((ks.length:Int)-N+(cntL ks N:Int))=(ks.length:Int)-N+(cntL ks N:Int):=AB (by omega) (by omega);have w3:IntKind.i64.wrap ((ks.length:Int)-N+(cntL ks N:Int)-ps.length)=(ks.length:Int)-N+(cntL ks N:Int)-ps.length:=AB (by omega) (by omega);generalize hK:(ks.length:Int)-((N:Int)-(cntL ks N:Int))-(rkS ks ps:Int)=K at *;have key:=fun(sl2:List (Nat×AV)) (t7:lk sl2 7 = .int .i64 K) (t13:lk sl2 13 = .ptr P 0) (t14:lk sl2 14 = .int .i64 0) (t15:lk sl2 15 = .bool (K9 N ks ps (FL l ks.length))) (t16:lk sl2 16 = .int .i64 0) (t17:lk sl2 17=no)=>
  XN (sl:=sl2) hA (by obtain⟨Y,e⟩:=H6.un;exact⟨Y++([.cells (Ac .i64 (List.replicate ks.length 0))]++X8),by rw[e];simp⟩) (show ks.length<=100 by omega) (Ai (Ai rP [.cells (Ac .i64 (List.replicate ks.length 0))]) X8) ((f0.app _).app X8) ((f1.app _).app X8) ((f2.app _).app X8) hno hcb hk t7 t13 t14 t15 t16 t17
 have r15':=Ez r15;have r17':=Ez r17;have r23':=Ez r23;have r51':=Ez r51;have r43':=Ez r43;have low1:Aa rows.length B1.length=rows.length:=Ae hl1;have low3:Aa rows.length B3.length=rows.length:=Ae hl3;have hmk:=Iw (m:=ks.length);have hlt:¬(K<0):=by omega
 have hlt2:¬(K<(ks.length:Int)-N+(cntL ks N:Int)-ps.length):=by omega
 have mid:∀sl2:List (Nat×AV),lk sl2 1=lv->lk sl2 5 = .ptr B1.length 0->lk sl2 6 = .ptr B3.length 0->lk sl2 7 = .int .i64 K->Ex G10 (.fn [.t 4]) [.code c10s13] ⟨mk 123 sl2,B4,rows.length⟩ fun r=>fin rows r.1 r.2.1 r.2.2=(.bool true,rows,none):=by
  intro sl2 t1 t5 t6 t7;simp[t1,t5,t6,t7,rx4,ry4,ry5,seg,lnE4,r20,r23',hC6,hP,lw6,o3,o4,o5,AV.cells,splice,cP,hD6,Bs,-uc10s5];simp[rx6,ry6,seg,r51',lnE6,hlim,hmk,r43',-uc10s5];simp only[List.append_assoc,List.cons_append,List.nil_append,List.length_append]at key;refine key _ ?_ ?_ ?_ ?_ ?_ ?_<;>simp
 refine i10 rfl ?_;simp[o1,o2,row1,seg,r15',low1,oe1,op1,oe2,op2,K6,splice,row2,r17',low3,eB4,rx4,ry4,lnE4,lnP4,Mj,opC,Ax,r16,r50,w1,w2,w3,hlt,hlt2,Function.comp_def,-uc10s13]
 by_cases c:ps=[]
 ·have:=hk2 (by rw[c];rfl)
  simp only[c,if_true,List.length_nil];rw[c]at this;simp only[List.length_nil]at this;rw[<-this];simp[-uc10s13];refine mid _ ?_ ?_ ?_ ?_<;>simp
 ·simp only[c,if_false]
  simp[-uc10s13];refine mid _ ?_ ?_ ?_ ?_<;>simp
end Go.Abs