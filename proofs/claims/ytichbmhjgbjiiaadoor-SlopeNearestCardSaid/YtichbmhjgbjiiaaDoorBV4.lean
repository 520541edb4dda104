/- The texts that the row uses, part 4. -/
import Derived.Test.YtichbmhjgbjiiaaDoorBV3
set_option linter.unusedVariables false
set_option linter.unusedSimpArgs false
set_option maxHeartbeats 32000000
set_option maxRecDepth 100000
namespace Go.Abs
section
variable {rows:List Row}
theorem Jg{k:IntKind}{n:Int}:Ret F 107 [.int k n] rows=some (.bool false,rows,none):=by
 refine i107 F107 ?_;simp
theorem Kp{a b:Int}:Ret F 105 [.int .i64 a,.int .i64 b] rows=some (.int .i64 (if a<b then -1 else if b<a then 1 else 0),rows,none):=by
 refine i105 F105 ?_
 by_cases h1:a<b
 ·simp[Jg,h1]
 ·by_cases h2:b<a<;>simp[Jg,h1,h2]
def Jt:List Int->List Int->Int
 |[],[]=>0
 |[],_::_=>-1
 |_::_,[]=>1
 |a::l,b::m=>if a<b then -1 else if b<a then 1 else Jt l m
theorem Ja{v w:AV}{l m:List Int}(h:IsL rows v l)(h2:IsL rows w m)(hl:l.length<=1000)(hm:m.length<=1000){q:AV×List Row×Option Nat}(hq:(.int .i64 (Jt l m),rows,none)=q):∀(d i:Nat),l.length-i=d->i<=l.length->i<=m.length->Jt (l.drop i) (m.drop i)=Jt l m->
  Lc91l6 F (.fn [.t 4]) v w v (.int .i64 l.length) (.int .i64 i) rows rows.length (fun r=>fin rows r.1 r.2.1 r.2.2=q):=by
 intro d
 induction d with
 |zero=>
  intro i hd h1 h3 he;have hi:i=l.length:=by omega
  subst hi;rw[AdA (AcE _)]at he;unfold Lc91l6
  by_cases hlt:l.length<m.length
  ·have e:Jt l m = -1:=by
    rw[<-he,Adp hlt];rfl
   simp[Dn h,Dn h2,hlt];rw[<-hq,e]
  ·have e:Jt l m=0:=by
    rw[<-he,AdA (by omega)];rfl
   simp[Dn h,Dn h2,hlt];rw[<-hq,e]
 |succ d ih=>
  intro i hd h1 h3 he;have hi:i<l.length:=by omega
  have hw:IntKind.i64.wrap ((i:Int)+1)=((i+1:Nat):Int):=wS (by omega);rw[Adp hi]at he;unfold Lc91l6
  by_cases hlt:i<m.length
  ·rw[Adp hlt]at he
   simp only[Jt]at he;have g1:=CY hi;have g2:=CY hlt;rw[<-g1,<-g2]at he
   by_cases c1:gI l i<gI m i
   ·rw[if_pos c1]at he
    simp (disch:=first|omega|(simp;done)|fail) [hi,Eg h,Ca h,Dn h2,hlt,Eg h2,Ca h2,Kp,c1,show ¬((m.length:Int)<=i)by omega];rw[<-hq,<-he]
   ·rw[if_neg c1]at he
    by_cases c2:gI m i<gI l i
    ·rw[if_pos c2]at he
     simp (disch:=first|omega|(simp;done)|fail) [hi,Eg h,Ca h,Dn h2,hlt,Eg h2,Ca h2,Kp,c1,c2,show ¬((m.length:Int)<=i)by omega];rw[<-hq,<-he]
    ·rw[if_neg c2]at he
     simp (disch:=first|omega|(simp;done)|fail) [hi,Eg h,Ca h,Dn h2,hlt,Eg h2,Ca h2,Kp,c1,c2,hw,show ¬((m.length:Int)<=i)by omega];exact ih (i+1) (by omega) (by omega) (by omega) he
  ·have e:Jt l m=1:=by
    rw[<-he,show m.drop i=[]from AdA (by omega)];rfl
   simp (disch:=first|omega|(simp;done)|fail) [hi,Eg h,Ca h,Dn h2,hlt,show((m.length:Int)<=i)by omega];rw[<-hq,e]
theorem Ff{v w:AV}{l m:List Int}(h:IsL rows v l)(h2:IsL rows w m)(hl:l.length<=1000)(hm:m.length<=1000):Ret F 91 [v,w] rows=some (.int .i64 (Jt l m),rows,none):=by
 refine i91 F91 ?_;simp[Dn h];exact Ja h h2 hl hm rfl _ 0 rfl (by omega) (by omega) rfl
def pix(fl:List Int)(a b:Int):Nat->Nat->Int
 |0,_=>-1
 |d+1,i=>if gI fl (i*2)=a/\gI fl (i*2+1)=b then i else pix fl a b d (i+1)
theorem QE{fl:List Int}{a b:Int}{d i:Nat}:pix fl a b (d+1) i=if gI fl (i*2)=a/\gI fl (i*2+1)=b then(i:Int)else pix fl a b d (i+1):=rfl
theorem JN{v:AV}{fl:List Int}{n:Nat}(h:El rows 2 v (Ad .i64 fl) n)(hn:n<=1000000){a b:Int}{q:AV×List Row×Option Nat}(hq:(.int .i64 (pix fl a b n 0),rows,none)=q):∀(d i:Nat),n-i=d->i<=n->pix fl a b d i=pix fl a b n 0->
  Lc75l2 F (.fn [.t 4]) v (.ptr rows.length 0) (.int .i64 n) (.int .i64 i) (rows++[.cells [.int .i64 a,.int .i64 b]]) rows.length (fun r=>fin rows r.1 r.2.1 r.2.2=q):=by
 have h':=Ag h [.cells [.int .i64 a,.int .i64 b]];intro d
 induction d with
 |zero=>
  intro i hd h1 he;have hi:i=n:=by omega
  subst hi;unfold Lc75l2;simp;rw[<-hq,<-he];rfl
 |succ d ih=>
  intro i hd h1 he;have hi:i<n:=by omega
  have hw:IntKind.i64.wrap ((i:Int)+1)=((i+1:Nat):Int):=wS (by omega);rw[QE]at he;unfold Lc75l2
  by_cases hc:gI fl (i*2)=a/\gI fl (i*2+1)=b
  ·rw[if_pos hc]at he
   obtain⟨c1,c2⟩:=hc;simp (disch:=first|omega|(simp;done)|fail) [hi,B7 h',P3 h',seg,eqA,Aq,c1,c2];rw[<-hq,<-he]
  ·rw[if_neg hc]at he
   have hne:(a==gI fl (i*2)&&b==gI fl (i*2+1))=false:=by
    cases e:(a==gI fl (i*2)&&b==gI fl (i*2+1))with
    |false=>rfl
    |true=>simp at e;exact absurd ⟨e.1.symm,e.2.symm⟩ hc
   simp (disch:=first|omega|(simp;done)|fail) [hi,B7 h',P3 h',seg,eqA,Aq,hne,hw,-Bool.and_eq_true];exact ih (i+1) (by omega) (by omega) he
theorem LT{v:AV}{fl:List Int}{n:Nat}(h:El rows 2 v (Ad .i64 fl) n)(hn:n<=1000000){a b:Int}:Ret F 75 [v,.agg [.int .i64 a,.int .i64 b]] rows=some (.int .i64 (pix fl a b n 0),rows,none):=by
 refine i75 F75 ?_;have h':=Ag h [.cells [.int .i64 a,.int .i64 b]];simp[DZ h'];exact JN h hn rfl _ 0 rfl (by omega) rfl
theorem Hg{v:AV}{fl:List Int}{n:Nat}(h:El rows 2 v (Ad .i64 fl) n)(hn:n<=1000000){a b:Int}:Ret F 92 [v,.agg [.int .i64 a,.int .i64 b]] rows=some (.bool (decide (0<=pix fl a b n 0)),rows,none):=by
 refine i92 F92 ?_;have h':=Ag h [.cells [.int .i64 a,.int .i64 b]];simp[seg,LT h' hn]
end
def eC(ks:List Nat):List Int:=ks.flatMap fun k=>[((k/6:Nat):Int),((k%6:Nat):Int)]
def pC(ps:List Nat):List Int:=ps.flatMap fun p=>[((p/36:Nat):Int),((p/6%6:Nat):Int),((p%6:Nat):Int)]
def gN(l:List Nat)(i:Nat):Nat:=l.getD i 0
theorem EO{l:List Nat}{i:Nat}(h:i<l.length):gN l i=l[i]:=by simp[gN,h]
theorem AH{l:List Nat}{i:Nat}(h:i<l.length):gN l i∈l:=by rw[EO h];exact Aer h
theorem WU{a b:List Nat}:eC (a++b)=eC a++eC b:=by simp[eC]
theorem YG{a b:List Nat}:pC (a++b)=pC a++pC b:=by simp[pC]
theorem Ey:∀ks:List Nat,(eC ks).length=ks.length*2
 |[]=>rfl
 |
  k::ks=>by
  have:=Ey ks;simp only[eC,List.flatMap_cons,AcO,AcU,Ac7]at *;omega
theorem GA:∀ps:List Nat,(pC ps).length=ps.length*3
 |[]=>rfl
 |
  k::ks=>by
  have:=GA ks;simp only[pC,List.flatMap_cons,AcO,AcU,Ac7]at *;omega
theorem Ay{x:Int}{l:List Int}{i:Nat}:gI (x::l) (i+1)=gI l i:=by simp[gI]
theorem KI:∀{ks:List Nat} {i:Nat},i<ks.length->gI (eC ks) (i*2)=(gN ks i/6:Nat)/\gI (eC ks) (i*2+1)=(gN ks i%6:Nat)
 |[],i,h=>by simp at h
 |
  k::ks,0,h=>by
  constructor<;>rfl
 |
  k::ks,i+1,h=>by
  have ih:=KI (ks:=ks) (i:=i) (by simpa using h);have e:gN (k::ks) (i+1)=gN ks i:=by simp[gN]
  rw[e];have e2:eC (k::ks)=((k/6:Nat):Int)::((k%6:Nat):Int)::eC ks:=rfl;rw[e2,show(i+1)*2=i*2+1+1 from by omega,Ay,Ay,show i*2+1+1+1=(i*2+1)+1+1 from rfl,Ay,Ay];exact ih
theorem W1:∀{ps:List Nat} {i:Nat},i<ps.length->gI (pC ps) (i*3)=(gN ps i/36:Nat)/\gI (pC ps) (i*3+1)=(gN ps i/6%6:Nat)/\gI (pC ps) (i*3+2)=(gN ps i%6:Nat)
 |[],i,h=>by simp at h
 |k::ks,0,h=>⟨rfl,rfl,rfl⟩
 |
  k::ks,i+1,h=>by
  have ih:=W1 (ps:=ks) (i:=i) (by simpa using h);have e:gN (k::ks) (i+1)=gN ks i:=by simp[gN]
  rw[e];have e2:pC (k::ks)=((k/36:Nat):Int)::((k/6%6:Nat):Int)::((k%6:Nat):Int)::pC ks:=rfl
  rw[e2,show(i+1)*3=i*3+1+1+1 from by omega,Ay,Ay,Ay,show i*3+1+1+1+1=(i*3+1)+1+1+1 from rfl,Ay,Ay,Ay,
   show i*3+1+1+1+2=(i*3+2)+1+1+1 from rfl,Ay,Ay,Ay]
  exact ih
theorem SE{ks:List Nat}{a b:Nat}(hb:b<6):∀d i,i+d=ks.length->(0<=pix (eC ks) a b d i↔a*6+b∈ks.drop i)
 |
  0,i,h=>by
  rw[AdA (by omega)];simp[pix]
 |
  d+1,i,h=>by
  have hi:i<ks.length:=by omega
  have ih:=SE (ks:=ks) (a:=a) hb d (i+1) (by omega);obtain⟨e1,e2⟩:=KI hi;rw[Adp hi,Ade,<-ih,<-EO hi,QE,e1,e2]
  split
  ·rename_i e
   constructor
   ·intro _;left;omega
   ·intro _;omega
  ·rename_i e
   constructor
   ·intro h;exact .inr h
   ·rintro (h|h)
    ·exfalso;apply e;constructor<;>omega
    ·exact h
theorem FP{ks:List Nat}{a b:Nat}(hb:b<6):0<=pix (eC ks) a b ks.length 0↔a*6+b∈ks:=by
 have:=SE (ks:=ks) (a:=a) hb ks.length 0 (by omega);rwa[Aeg]at this
theorem Om{fl:List Int}{a b:Int}:∀d i,0<=pix fl a b d i->∃k:Nat,pix fl a b d i=k/\i<=k/\k<i+d/\gI fl (k*2)=a/\gI fl (k*2+1)=b
 |0,i,h=>by simp[pix]at h
 |
  d+1,i,h=>by
  rw[QE]at h ⊢
  split
  ·rename_i e
   exact⟨i,rfl,AcE _,by omega,e.1,e.2⟩
  ·rename_i e
   rw[if_neg e]at h;obtain⟨k,h1,h2,h3,h4⟩:=Om d (i+1) h;exact⟨k,h1,by omega,by omega,h4⟩
structure GOK(N:Nat)(ks ps:List Nat):Prop where
 n1:1<=N
 n6:N<=6
 ek:ks.length<=10
 es:ks.Pairwise (· < ·)
 ee:∀k∈ks,k/6<k%6/\k%6<N
 pk:ps.length<=6
 psd:ps.Pairwise (· < ·)
 pe:∀p∈ps,p/36<p/6%6/\p/6%6<p%6/\p<216/\p/36*6+p/6%6∈ks/\p/36*6+p%6∈ks/\p/6%6*6+p%6∈ks
structure GRd(rows:List Row)(g:AV)(N:Nat)(ks ps:List Nat):Prop where
 ok:GOK N ks ps
 eq:∃ev pv,g = .agg [.int .i64 N,ev,pv]/\El rows 2 ev (Ad .i64 (eC ks)) ks.length/\El rows 3 pv (Ad .i64 (pC ps)) ps.length/\Cp 2 ev/\Cp 3 pv
theorem GRd.app{rows:List Row}{g:AV}{N:Nat}{ks ps:List Nat}(h:GRd rows g N ks ps)(L:List Row):GRd (rows++L) g N ks ps:=by
 obtain⟨ev,pv,e,h1,h2,h3⟩:=h.eq;exact⟨h.ok,ev,pv,e,Ag h1 L,Ag h2 L,h3⟩
section
variable {rows:List Row}
theorem Pn{n0:AV}{ev pv:AV}{fl:List Int}{m:Nat}(h:El rows 2 ev (Ad .i64 fl) m)(hm:m<=1000000){a b:Int}{q:AV×List Row×Option Nat}(hq:(.int .i64 (pix fl (min a b) (max a b) m 0),rows,none)=q):∀(d i:Nat),m-i=d->i<=m->pix fl (min a b) (max a b) d i=pix fl (min a b) (max a b) m 0->
  Lc60l2 F (.fn [.t 6]) (.int .i64 a) (.int .i64 b) (.ptr rows.length 0) (.int .i64 i) (rows++[.cells [n0,ev,pv]]) rows.length (fun r=>fin rows r.1 r.2.1 r.2.2=q):=by
 have h':=Ag h [.cells [n0,ev,pv]];intro d
 induction d with
 |zero=>
  intro i hd h1 he;have hi:i=m:=by omega
  subst hi;unfold Lc60l2;simp[DZ h'];rw[<-hq,<-he];rfl
 |succ d ih=>
  intro i hd h1 he;have hi:i<m:=by omega
  have hw:IntKind.i64.wrap ((i:Int)+1)=((i+1:Nat):Int):=wS (by omega);rw[QE]at he;unfold Lc60l2
  by_cases hc:gI fl (i*2)=min a b/\gI fl (i*2+1)=max a b
  ·rw[if_pos hc]at he
   obtain⟨c1,c2⟩:=hc;simp (disch:=first|omega|(simp;done)|fail) [hi,DZ h',B7 h',P3 h',seg,eqA,Aq,c1,c2,Ap,splice];rw[<-hq,<-he]
  ·rw[if_neg hc]at he
   have hne:(gI fl (i*2)==min a b&&gI fl (i*2+1)==max a b)=false:=by
    cases e:(gI fl (i*2)==min a b&&gI fl (i*2+1)==max a b)with
    |false=>rfl
    |true=>simp at e;exact absurd e hc
   simp (disch:=first|omega|(simp;done)|fail) [hi,DZ h',B7 h',P3 h',seg,eqA,Aq,hne,hw,Ap,splice,-Bool.and_eq_true];exact ih (i+1) (by omega) (by omega) he
theorem Hs{n0:AV}{ev pv:AV}{fl:List Int}{m:Nat}(h:El rows 2 ev (Ad .i64 fl) m)(hm:m<=1000000)(hone:n0.one=true/\ev.one=true/\pv.one=true){a b:Int}:Ret F 60 [.agg [n0,ev,pv],.int .i64 a,.int .i64 b] rows=some (.int .i64 (pix fl (min a b) (max a b) m 0),rows,none):=by
 refine i60 F60 ?_;have h':=Ag h [.cells [n0,ev,pv]];simp[AV.cells,hone.1,hone.2.1,hone.2.2];exact Pn h hm rfl _ 0 rfl (by omega) rfl
theorem An{sz n:Nat}{v:AV}{cs:List AV}(h:El rows sz v cs n):v.one=true:=by
 rcases AP h with ⟨rfl,_⟩|⟨_,_,_,_,rfl,_⟩<;>rfl
theorem Kq{v:AV}{fl:List Int}{n:Nat}(h:El rows 3 v (Ad .i64 fl) n)(hn:n<=9223372036854775807){s:Int}:∀(d i:Nat),n-i=d->i<=n->∃b:Bool,
  Lc61l2 F (.fn [.t 4]) v (.int .i64 s) (.int .i64 i) rows rows.length (fun r=>fin rows r.1 r.2.1 r.2.2=(.bool b,rows,none)):=by
 intro d
 induction d with
 |zero=>
  intro i hd h1;have hi:i=n:=by omega
  subst hi;refine⟨false,?_⟩;unfold Lc61l2;simp[DZ h]
 |succ d ih=>
  intro i hd h1;have hi:i<n:=by omega
  have hl:=Bl h;have hw:IntKind.i64.wrap ((i:Int)+1)=((i+1:Nat):Int):=wS (by omega);obtain⟨b,hb⟩:=ih (i+1) (by omega) (by omega);have l0:=F0 h (j:=i*3) (by omega);have l1:=F0 h (j:=i*3+1) (by omega);have l2:=F0 h (j:=i*3+2) (by omega);simp only[<-Nat.add_assoc]at l1 l2;have x0:AI 0 3=some 0:=rfl;have x1:AI 1 3=some 1:=rfl;have x2:AI 2 3=some 2:=rfl
  by_cases h10:i<10
  ·by_cases hc:(IntKind.u64.wrap (IntKind.i64.wrap (IntKind.i64.wrap (gI fl (i*3)+gI fl (i*3+1))+gI fl (i*3+2)))).tmod 4=(IntKind.u64.wrap s).tmod 4
   ·refine⟨true,?_⟩
    unfold Lc61l2;simp (disch:=first|omega|(simp;done)|fail) [hi,DZ h,B7 h,x0,x1,x2,l0,l1,l2,h10,hc,show((i:Int)<10)by omega]
   ·refine⟨b,?_⟩
    unfold Lc61l2;simp (disch:=first|omega|(simp;done)|fail) [hi,DZ h,B7 h,x0,x1,x2,l0,l1,l2,h10,hc,hw,show((i:Int)<10)by omega];exact hb
  ·refine⟨false,?_⟩
   unfold Lc61l2;simp (disch:=first|omega|(simp;done)|fail) [hi,DZ h,show ¬((i:Int)<10)by omega]
theorem MN{v:AV}{fl:List Int}{n:Nat}(h:El rows 3 v (Ad .i64 fl) n)(hn:n<=9223372036854775807)(s:Int):∃b:Bool,Ret F 61 [v,.int .i64 s] rows=some (.bool b,rows,none):=by
 obtain⟨b,hb⟩:=Kq h hn (s:=s) _ 0 rfl (by omega);refine⟨b,i61 F61 ?_⟩;simp;exact hb
end
def bl(f:Nat->Bool):List AV:=(List.range 36).map fun k=>.bool (f k)
@[simp] theorem AbM{f:Nat->Bool}:(bl f).length=36:=by simp[bl]
theorem S0{f:Nat->Bool}{k:Nat}(h:k<36):(bl f)[k]?=some (.bool (f k)):=by simp[bl,h]
theorem Yf{f:Nat->Bool}{k:Nat}:(bl f).set k (.bool true)=bl fun j=>if j=k then true else f j:=by
 apply Adx;intro j;simp only[bl,Adu,Ac9,Adt,Aeb]
 by_cases h:k=j
 ·subst h
  by_cases hk:k<36<;>simp[hk]
 ·rw[if_neg h]
  by_cases hj:j<36
  ·have e:j≠k:=fun e=>h e.symm
   simp[AdL hj,e]
  ·simp[hj]
def cnt(f:Nat->Bool)(n:Nat):Nat:=((List.range n).filter f).length
theorem PS{f:Nat->Bool}{k:Nat}(hk:f k=false):∀n,cnt (fun j=>if j=k then true else f j) n=cnt f n+if k<n then 1 else 0
 |0=>by simp[cnt]
 |
  n+1=>by
  have ih:=PS hk n;simp only[cnt,Aeo,Aei,AcO]at *;rw[ih]
  by_cases e:n=k
  ·subst e
   simp[hk]
  ·rw[show(if k<n+1 then 1 else 0)=(if k<n then 1 else 0)by
    by_cases h:k<n
    ·rw[if_pos h,if_pos (by omega)]
    ·rw[if_neg h,if_neg (by omega)]]
   cases hf:f n<;>simp[e,hf]<;>omega
structure MkOK(N:Nat)(f:Nat->Bool)(many:Nat):Prop where
 e:∀k,f k=true->k<36/\k/6<k%6/\k%6<N
 c:cnt f 36=many
 m:many<=10
def Dq(b:Nat)(H:List Row)(sz:Nat)(cs:List AV)(n:Nat):AV:=match cs with
 |[]=>.nilslice
 |_=>.slice (b+H.length) 0 n (.op sz)
theorem EG{rows H:List Row}{sz n:Nat}{cs:List AV}:Ln rows H sz cs n=Dq rows.length H sz cs n:=by cases cs<;>rfl
abbrev tR(rows:List Row)(G Z:Row)(N:Nat)(E P:AV)(f:Nat->Bool)(T:List Row):List Row:=rows++G::Z::.cells [.int .i64 N,E,P]::.cells (bl f)::T
section
variable {rows:List Row}{gn ev pv:AV}{fe fp:List Int}{m0 k0 N:Nat}{Z:Row}{r:AV×List Row×Nat->Prop}
abbrev tG(gn ev pv:AV):Row:=.cells [gn,ev,pv]
theorem N3(he:El rows 2 ev (Ad .i64 fe) m0)(hm0:m0<=9223372036854775807)(hN:1<=N/\N<=6)
  (hk:∀(sl:List (Nat×AV)) (f:Nat->Bool) (many:Nat),MkOK N f many->lk sl 1 = .ptr rows.length 0->lk sl 2 = .ptr (rows.length+1) 0->lk sl 3 = .ptr (rows.length+2) 0->lk sl 4 = .ptr (rows.length+3) 0->Ex F (.fn [.cellN 2 3]) [.code c15s41] ⟨mk 164 sl,tR rows (tG gn ev pv) Z N .nilslice .nilslice f [],rows.length⟩ r):
  ∀(d i:Nat) (f:Nat->Bool) (many:Nat),m0-i=d->i<=m0->MkOK N f many->
  Lc15l42 F (.fn [.cellN 2 3]) (.ptr rows.length 0) (.ptr (rows.length+1) 0) (.ptr (rows.length+2) 0) (.ptr (rows.length+3) 0) (.int .i64 many) (.int .i64 i) (tR rows (tG gn ev pv) Z N .nilslice .nilslice f []) rows.length r:=by
 have x0:AI 0 2=some 0:=rfl;have x1:AI 1 2=some 1:=rfl;intro d
 induction d with
 |zero=>
  intro i f many hd h1 hM;have hi:i=m0:=by omega
  subst hi;have h':=Ag he (tG gn ev pv::Z::.cells [.int .i64 N,.nilslice,.nilslice]::.cells (bl f)::[]);unfold Lc15l42;simp[DZ h',-uc15s41];refine hk _ f many hM ?_ ?_ ?_ ?_<;>simp
 |succ d ih=>
  intro i f many hd h1 hM;have hi:i<m0:=by omega
  have h':=Ag he (tG gn ev pv::Z::.cells [.int .i64 N,.nilslice,.nilslice]::.cells (bl f)::[]);have hl:=Bl he;have hw:IntKind.i64.wrap ((i:Int)+1)=((i+1:Nat):Int):=wS (by omega)
  by_cases h10:many<10
  ·have wN:IntKind.u64.wrap (N:Int)=N:=O5 (by omega) (by omega)
   obtain⟨a,ha,haN⟩:=QF (x:=gI fe (i*2)) (m:=N) (by omega) (by omega);obtain⟨b,hb,hbN⟩:=QF (x:=gI fe (i*2+1)) (m:=N) (by omega) (by omega);have hN0:¬(N=0):=by omega
   have h10i:(many:Int)<10:=by omega
   have h10j:¬(10<=(many:Int)):=by omega
   have l0:=F0 h' (j:=i*2) (by omega);have l1:=F0 h' (j:=i*2+1) (by omega);simp only[<-Nat.add_assoc]at l1;obtain⟨mi,hmi⟩:∃mi:Nat,min (a:Int) b=mi:=⟨min a b,by omega⟩
   obtain⟨mx,hmx⟩:∃mx:Nat,max (a:Int) b=mx:=⟨max a b,by omega⟩
   have w1:IntKind.i64.wrap ((mi:Int)*6)=(mi:Int)*6:=AM (by omega) (by omega);have w2:IntKind.i64.wrap ((mi:Int)*6+mx)=(mi:Int)*6+mx:=AM (by omega) (by omega);have w3:IntKind.i64.wrap ((many:Int)+1)=((many+1:Nat):Int):=wS (by omega);have ik:AI ((mi:Int)*6+mx) 36=some (mi*6+mx):=by
    rw[Bz (by omega) (by omega)]
    first|rfl|(congr 1;omega)
   by_cases hab:a=b
   ·unfold Lc15l42
    simp (disch:=first|omega|(simp;done)|fail) [DZ h',hi,h10i,h10j,B7 h',x0,x1,l0,l1,wN,ha,hb,hN0,hmi,hmx,w1,w2,hab,hw,-uc15s41];simpa using ih (i+1) f many (by omega) (by omega) hM
   ·have hkk:mi*6+mx<36:=by omega
    have bg:=S0 (f:=f) hkk;cases hf:f (mi*6+mx)with
    |true=>
     rw[hf]at bg;unfold Lc15l42;simp (disch:=first|omega|(simp;done)|fail) [DZ h',hi,h10i,h10j,B7 h',x0,x1,l0,l1,wN,ha,hb,hN0,hmi,hmx,w1,w2,show ¬((a:Int)=b)by omega,hw,ik,bg,-uc15s41];simpa using ih (i+1) f many (by omega) (by omega) hM
    |false=>
     rw[hf]at bg;have hM':MkOK N (fun j=>if j=mi*6+mx then true else f j) (many+1):=by
      refine⟨fun k hk=>?_,?_,by omega⟩
      ·by_cases e:k=mi*6+mx
       ·subst e
        refine⟨hkk,?_,?_⟩<;>omega
       ·simp only[e,if_false]at hk
        exact hM.e k hk
      ·have:=PS hf 36
       rw[hM.c,if_pos hkk]at this;exact this
     have:=ih (i+1) _ (many+1) (by omega) (by omega) hM';unfold Lc15l42;simp (disch:=first|omega|(simp;done)|fail) [DZ h',hi,h10i,h10j,B7 h',x0,x1,l0,l1,wN,ha,hb,hN0,hmi,hmx,w1,w2,w3,show ¬((a:Int)=b)by omega,hw,ik,bg,hkk,Yf,AV.one,Ac,-uc15s41];simpa using this
  ·unfold Lc15l42
   simp (disch:=first|omega|(simp;done)|fail) [DZ h',hi,show ¬((many:Int)<10)by omega,show 10<=(many:Int)by omega,-uc15s41];refine hk _ f many hM ?_ ?_ ?_ ?_<;>simp
def Dj(f:Nat->Bool)(k:Nat):List Nat:=(List.range k).filter f
theorem N7{f:Nat->Bool}{k:Nat}:Dj f (k+1)=Dj f k++if f k then[k]else[]:=by
 unfold Dj;rw[Aeo,Aei];cases h:f k<;>simp[h]
theorem KN{f:Nat->Bool}{k:Nat}(hk:k<=36):(Dj f k).length<=cnt f 36:=by
 unfold Dj cnt;rw[show(36:Nat)=k+(36-k)by omega,List.range_add,Aei,AcO];omega
abbrev eA(f:Nat->Bool)(k:Nat):List AV:=Ad .i64 (eC (Dj f k))
theorem Dy{b sz n:Nat}{H:List Row}{cs:List AV}:(Dq b H sz cs n).one=true:=by cases cs<;>rfl
theorem Nf{H:List Row}{a b c d:Row}{x cs:List AV}{sz n low bb:Nat}(hn:cs.length=n*sz)(hx:x.length=sz)(hsz:0<sz)(hl:n<1000000000)(hlow:low<=rows.length)(hH:H.all (Row.under 0)=true)(hc:(Row.cells cs).under 0=true)(hxu:(Row.cells x).under 0=true):
  ∃H',H'.all (Row.under 0)=true/\evE (rows++a::b::c::d::(BG H cs++[.cells x])) low (.app sz bb (.c (Dq (rows.length+4) H sz cs n)) (.c (.slice (rows.length+((BG H cs).length+1+1+1+1)) 0 1 (.at_ 1))))=some (Dq (rows.length+4) H' sz (cs++x) (n+1),rows++a::b::c::d::BG H' (cs++x),low):=by
 obtain⟨H',hH',e⟩:=Id (rows:=rows++[a,b,c,d]) (H:=H) (sz:=sz) (n:=n) (cs:=cs) (x:=x) (low:=low) (b:=bb) hn hx hsz hl (by simp;omega) hH hc hxu;refine⟨H',hH',?_⟩;have h2:(rows++[a,b,c,d]).length=rows.length+4:=by simp
 have h3:rows.length+4+(BG H cs).length=rows.length+((BG H cs).length+1+1+1+1):=by omega
 rw[EG,EG,h2,h3,AcL,AcL]at e;exact e
theorem PX{f:Nat->Bool}{many:Nat}(hM:MkOK N f many){G:Row}
  (hk:∀(sl:List (Nat×AV)) (H:List Row),H.all (Row.under 0)=true->lk sl 1 = .ptr rows.length 0->lk sl 2 = .ptr (rows.length+1) 0->lk sl 3 = .ptr (rows.length+2) 0->Ex F (.fn [.cellN 2 3]) [.code c15s28] ⟨mk 164 sl,tR rows G Z N (Dq (rows.length+4) H 2 (eA f 36) (Dj f 36).length) .nilslice f (BG H (eA f 36)),rows.length⟩ r):
  ∀(d k:Nat) (H:List Row),36-k=d->k<=36->H.all (Row.under 0)=true->
  Lc15l29 F (.fn [.cellN 2 3]) (.ptr rows.length 0) (.ptr (rows.length+1) 0) (.ptr (rows.length+2) 0) (.ptr (rows.length+3) 0) (.int .i64 k) (tR rows G Z N (Dq (rows.length+4) H 2 (eA f k) (Dj f k).length) .nilslice f (BG H (eA f k))) rows.length r:=by
 intro d
 induction d with
 |zero=>
  intro k H hd h1 hH;have hi:k=36:=by omega
  subst hi;unfold Lc15l29;simp[-uc15s28];refine hk _ H hH ?_ ?_ ?_<;>simp
 |succ d ih=>
  intro k H hd h1 hH;have hi:k<36:=by omega
  have hw:IntKind.i64.wrap ((k:Int)+1)=((k+1:Nat):Int):=wS (by omega);have hs:=N7 (f:=f) (k:=k);have hlen:=KN (f:=f) (k:=k) (by omega);have hmc:=hM.c;have hmm:=hM.m;have bg:=S0 (f:=f) hi;have ik:AI (k:Int) 36=some k:=by rw[Bz (by omega) (by omega)];rfl
  cases hf:f k with
  |false=>
   rw[hf]at bg;rw[hf]at hs;have:=ih (k+1) H (by omega) (by omega) hH;simp only[eA,hs,AdF,if_false,AcV]at this;unfold Lc15l29;simp (disch:=first|omega|(simp;done)|fail) [show((k:Int)<36)by omega,ik,bg,hw,-uc15s28];simpa using this
  |true=>
   rw[hf]at bg;rw[hf]at hs;have hq:IntKind.i64.wrap ((k:Int)/6)=((k/6:Nat):Int):=by
    rw[AM (by omega) (by omega)];omega
   have hr:(k:Int).tmod 6=((k%6:Nat):Int):=by
    rw[Int.tmod_eq_emod_of_nonneg (by omega)];omega
   obtain⟨H',hH',e⟩:=Nf (rows:=rows) (a:=G) (b:=Z) (c:=.cells [.int .i64 N,Dq (rows.length+4) H 2 (eA f k) (Dj f k).length,.nilslice]) (d:=.cells (bl f)) (H:=H) (sz:=2) (n:=(Dj f k).length) (cs:=eA f k) (x:=[.int .i64 ((k/6:Nat):Int),.int .i64 ((k%6:Nat):Int)]) (low:=rows.length) (bb:=16) (by rw[BN,Ey]) rfl (by omega) (by omega) (by simp) hH Bq (by simp[Row.under,AV.under,AV.ids]);have:=ih (k+1) H' (by omega) (by omega) hH';have e2:eA f k++[.int .i64 ((k/6:Nat):Int),.int .i64 ((k%6:Nat):Int)]=eA f (k+1):=by
    simp only[eA,hs,if_true,WU,<-Ck]
    rfl
   have e3:(Dj f (k+1)).length=(Dj f k).length+1:=by rw[hs];simp
   rw[e2]at e;rw[e3]at this;generalize hQ:((k/6:Nat):Int)=Q at *;generalize hR:((k%6:Nat):Int)=R at *;unfold Lc15l29;simp (disch:=first|omega|(simp;done)|fail) [show((k:Int)<36)by omega,ik,bg,hw,hq,hr,Ap,splice,e,Dy,Ac,-uc15s28];simpa using this
end
structure PInv(N:Nat)(ks ps:List Nat)(c:Nat):Prop where
 s:ps.Pairwise (· < ·)
 k:ps.length<=6
 e:∀p∈ps,p<c/\p/36<p/6%6/\p/6%6<p%6/\p<216/\p/36*6+p/6%6∈ks/\p/36*6+p%6∈ks/\p/6%6*6+p%6∈ks
theorem PInv.mono{N:Nat}{ks ps:List Nat}{c c':Nat}(h:PInv N ks ps c)(hc:c<=c'):PInv N ks ps c':=
 ⟨h.s,h.k,fun p hp=>by have:=h.e p hp;exact⟨by omega,this.2⟩⟩
theorem PInv.add{N i j k:Nat}{ks ps:List Nat}(h:PInv N ks ps (i*36+j*6+k))(hij:i<j)(hjk:j<k)(hk:k<6)(hl:ps.length<6)(h1:i*6+j∈ks)(h2:i*6+k∈ks)(h3:j*6+k∈ks):PInv N ks (ps++[i*36+j*6+k]) (i*36+j*6+k+1):=by
 have e1:(i*36+j*6+k)/36=i:=by omega
 have e2:(i*36+j*6+k)/6%6=j:=by omega
 have e3:(i*36+j*6+k)%6=k:=by omega
 refine⟨?_,by simp;omega,fun p hp=>?_⟩
 ·rw[List.pairwise_append]
  refine⟨h.s,by simp,fun a ha b hb=>?_⟩;have:b=i*36+j*6+k:=by simpa using hb
  subst this;exact(h.e a ha).1
 ·rcases Ac2.1 hp with hp|hp
  ·have:=h.e p hp
   exact⟨by omega,this.2⟩
  ·have:p=i*36+j*6+k:=by simpa using hp
   subst this;rw[e1,e2,e3];exact⟨by omega,hij,hjk,by omega,h1,h2,h3⟩
section
variable {rows:List Row}{gn ev pv:AV}{fe fp:List Int}{m0 k0 N:Nat}{Z:Row}{r:AV×List Row×Nat->Prop}
theorem M5{H T:List Row}{a b c d:Row}{x cs:List AV}{sz n low bb:Nat}(hn:cs.length=n*sz)(hx:x.length=sz)(hsz:0<sz)(hl:n<1000000000)(hlow:low<=rows.length)(hH:H.all (Row.under 0)=true)(hc:(Row.cells cs).under 0=true)(hxu:(Row.cells x).under 0=true):
  ∃H',H'.all (Row.under 0)=true/\evE (rows++a::b::c::d::(T++(BG H cs++[.cells x]))) low (.app sz bb (.c (Dq (rows.length+4+T.length) H sz cs n)) (.c (.slice (rows.length+(T.length+(BG H cs).length+1+1+1+1)) 0 1 (.at_ 1))))=some (Dq (rows.length+4+T.length) H' sz (cs++x) (n+1),rows++a::b::c::d::(T++BG H' (cs++x)),low):=by
 obtain⟨H',hH',e⟩:=Id (rows:=rows++[a,b,c,d]++T) (H:=H) (sz:=sz) (n:=n) (cs:=cs) (x:=x) (low:=low) (b:=bb) hn hx hsz hl (by simp;omega) hH hc hxu;refine⟨H',hH',?_⟩;have h2:(rows++[a,b,c,d]++T).length=rows.length+4+T.length:=by simp;omega
 have h3:rows.length+4+T.length+(BG H cs).length=rows.length+(T.length+(BG H cs).length+1+1+1+1):=by omega
 rw[EG,EG,h2,h3]at e;simp only[AcL,Aee,AdI]at e;exact e
abbrev pA(ps:List Nat):List AV:=Ad .i64 (pC ps)
variable {ks:List Nat}{f:Nat->Bool}{E:AV}{T:List Row}
abbrev pR(rows:List Row)(gn ev pv:AV)(Z:Row)(N:Nat)(E:AV)(f:Nat->Bool)(T:List Row)(ps:List Nat)(H:List Row):List Row:=
 tR rows (tG gn ev pv) Z N E (Dq (rows.length+4+T.length) H 3 (pA ps) ps.length) f (T++BG H (pA ps))
theorem XZ(hp0:El rows 3 pv (Ad .i64 fp) k0)(hk0:k0<=9223372036854775807)(hN:1<=N/\N<=6)(hks:ks.length<=36)
  (hE:∀P (L:List Row),El (rows++tG gn ev pv::Z::.cells [.int .i64 N,E,P]::.cells (bl f)::(T++L)) 2 E (Ad .i64 (eC ks)) ks.length) {i j:Nat} (hij:i<j) (hj:j<N)
  (hk:∀(ps:List Nat) (H:List Row),H.all (Row.under 0)=true->PInv N ks ps (i*36+(j+1)*6)->Lc15l4 F (.fn [.cellN 2 3]) (.ptr rows.length 0) (.ptr (rows.length+1) 0) (.ptr (rows.length+2) 0) (.int .i64 i) (.int .i64 ((j+1:Nat):Int)) (pR rows gn ev pv Z N E f T ps H) rows.length r):
  ∀(d k:Nat) (ps:List Nat) (H:List Row),N-k=d->k<=N->j<k->H.all (Row.under 0)=true->PInv N ks ps (i*36+j*6+k)->
  Lc15l6 F (.fn [.cellN 2 3]) (.ptr rows.length 0) (.ptr (rows.length+1) 0) (.ptr (rows.length+2) 0) (.int .i64 i) (.int .i64 j) (.int .i64 k) (pR rows gn ev pv Z N E f T ps H) rows.length r:=by
 intro d
 induction d with
 |zero=>
  intro k ps H hd h1 hjk hH hP;have hkN:k=N:=by omega
  subst hkN;have:=hk ps H hH (hP.mono (by omega));have hw:IntKind.i64.wrap ((j:Int)+1)=((j+1:Nat):Int):=wS (by omega);unfold Lc15l6;simp[hw];simpa using this
 |succ d ih=>
  intro k ps H hd h1 hjk hH hP;have hkN:k<N:=by omega
  have hw:IntKind.i64.wrap ((k:Int)+1)=((k+1:Nat):Int):=wS (by omega);have hR:=hE (Dq (rows.length+4+T.length) H 3 (pA ps) ps.length) (BG H (pA ps));have one3:(AV.int IntKind.i64 N).one=true/\E.one=true/\(Dq (rows.length+4+T.length) H 3 (pA ps) ps.length).one=true:=⟨rfl,An hR,Dy⟩
  have e1:=Hs (n0:=.int .i64 N) hR (by omega) one3 (a:=i) (b:=j);have e2:=Hs (n0:=.int .i64 N) hR (by omega) one3 (a:=i) (b:=k);have e3:=Hs (n0:=.int .i64 N) hR (by omega) one3 (a:=j) (b:=k);rw[show min (i:Int) j=i by omega,show max (i:Int) j=j by omega]at e1;rw[show min (i:Int) k=i by omega,show max (i:Int) k=k by omega]at e2;rw[show min (j:Int) k=j by omega,show max (j:Int) k=k by omega]at e3;have m1:=FP (ks:=ks) (a:=i) (b:=j) (by omega);have m2:=FP (ks:=ks) (a:=i) (b:=k) (by omega);have m3:=FP (ks:=ks) (a:=j) (b:=k) (by omega);generalize pix (eC ks) i j ks.length 0=y1 at e1 m1;generalize pix (eC ks) i k ks.length 0=y2 at e2 m2;generalize pix (eC ks) j k ks.length 0=y3 at e3 m3;have hlP:∀L,evP (pR rows gn ev pv Z N E f T ps H++L) (.len 0 (.c (Dq (rows.length+4+T.length) H 3 (pA ps) ps.length)))=some (.int .i64 ps.length):=fun L=>by
   have:=DS (rows:=rows++[tG gn ev pv,Z,.cells [.int .i64 N,E,Dq (rows.length+4+T.length) H 3 (pA ps) ps.length],.cells (bl f)]++T) (H:=H) (cs:=pA ps) (n:=ps.length) (sz:=3) (by rw[BN,GA]) (by omega);have h:=DZ (Ag this.1 L);have h2:(rows++[tG gn ev pv,Z,.cells [.int .i64 N,E,Dq (rows.length+4+T.length) H 3 (pA ps) ps.length],.cells (bl f)]++T).length=rows.length+4+T.length:=by simp;omega
   rw[EG,h2]at h;simpa using h
  have hlP:=hlP [];rw[AcV]at hlP;have wij:IntKind.i64.wrap ((i:Int)+j)=(i:Int)+j:=AM (by omega) (by omega);have wijk:IntKind.i64.wrap ((i:Int)+j+k)=(i:Int)+j+k:=AM (by omega) (by omega);have next:=ih (k+1) ps H (by omega) (by omega) (by omega) hH (hP.mono (by omega))
  by_cases c1:0<=y1
  ·by_cases c2:0<=y2
   ·by_cases c3:0<=y3
    ·by_cases c4:ps.length<6
     ·obtain⟨bb,hb⟩:=MN (Ag hp0 (tG gn ev pv::Z::.cells [.int .i64 N,E,Dq (rows.length+4+T.length) H 3 (pA ps) ps.length]::.cells (bl f)::(T++BG H (pA ps)))) hk0 ((i:Int)+j+k)
      cases bb with
      |false=>
       unfold Lc15l6;simp[hkN,e1,e2,e3,c1,c2,c3,hlP,show((ps.length:Int)<6)by omega,wij,wijk,hb,hw,seg];simpa using next
      |true=>
       have hP':=hP.add hij hjk (by omega) c4 (m1.1 c1) (m2.1 c2) (m3.1 c3);obtain⟨H',hH',e⟩:=M5 (rows:=rows) (a:=tG gn ev pv) (b:=Z) (c:=.cells [.int .i64 N,E,Dq (rows.length+4+T.length) H 3 (pA ps) ps.length]) (d:=.cells (bl f)) (T:=T) (H:=H) (sz:=3) (n:=ps.length) (cs:=pA ps) (x:=[.int .i64 i,.int .i64 j,.int .i64 k]) (low:=rows.length) (bb:=24) (by rw[BN,GA]) rfl (by omega) (by omega) (by simp) hH Bq (by simp[Row.under,AV.under,AV.ids]);have e4:pA ps++[.int .i64 i,.int .i64 j,.int .i64 k]=pA (ps++[i*36+j*6+k]):=by
        simp only[pA,YG,<-Ck];congr 1;have h1:(i*36+j*6+k)/36=i:=by omega
        have h2:(i*36+j*6+k)/6%6=j:=by omega
        have h3:(i*36+j*6+k)%6=k:=by omega
        simp only[pC,List.flatMap_cons,List.flatMap_nil,AcV,h1,h2,h3]
        rfl
       have e5:(ps++[i*36+j*6+k]).length=ps.length+1:=by simp
       have:=ih (k+1) (ps++[i*36+j*6+k]) H' (by omega) (by omega) (by omega) hH' (by rw[show i*36+j*6+(k+1)=i*36+j*6+k+1 by omega];exact hP');simp only[pR,e5]at this;rw[e4]at e;unfold Lc15l6;simp[hkN,e1,e2,e3,c1,c2,c3,hlP,show((ps.length:Int)<6)by omega,wij,wijk,hb,hw,seg,Ap,splice,e,Dy,Ac];simpa using this
     ·unfold Lc15l6
      simp[hkN,e1,e2,e3,c1,c2,c3,hlP,show ¬((ps.length:Int)<6)by omega,hw,seg];simpa using next
    ·unfold Lc15l6
     simp[hkN,e1,e2,e3,c1,c2,c3,hw,seg];simpa using next
   ·unfold Lc15l6
    simp[hkN,e1,e2,c1,c2,hw,seg];simpa using next
  ·unfold Lc15l6
   simp[hkN,e1,c1,hw,seg];simpa using next
end
section
variable {rows:List Row}{gn ev pv:AV}{fe fp:List Int}{m0 k0 N:Nat}{Z:Row}{r:AV×List Row×Nat->Prop}
variable {ks:List Nat}{f:Nat->Bool}{E:AV}{T:List Row}
theorem Yi(hp0:El rows 3 pv (Ad .i64 fp) k0)(hk0:k0<=9223372036854775807)(hN:1<=N/\N<=6)(hks:ks.length<=36)
  (hE:∀P (L:List Row),El (rows++tG gn ev pv::Z::.cells [.int .i64 N,E,P]::.cells (bl f)::(T++L)) 2 E (Ad .i64 (eC ks)) ks.length) {i:Nat} (hi:i<N)
  (hk:∀(ps:List Nat) (H:List Row),H.all (Row.under 0)=true->PInv N ks ps ((i+1)*36)->Lc15l2 F (.fn [.cellN 2 3]) (.ptr rows.length 0) (.ptr (rows.length+1) 0) (.ptr (rows.length+2) 0) (.int .i64 ((i+1:Nat):Int)) (pR rows gn ev pv Z N E f T ps H) rows.length r):
  ∀(d j:Nat) (ps:List Nat) (H:List Row),N-j=d->j<=N->i<j->H.all (Row.under 0)=true->PInv N ks ps (i*36+j*6)->
  Lc15l4 F (.fn [.cellN 2 3]) (.ptr rows.length 0) (.ptr (rows.length+1) 0) (.ptr (rows.length+2) 0) (.int .i64 i) (.int .i64 j) (pR rows gn ev pv Z N E f T ps H) rows.length r:=by
 intro d
 induction d with
 |zero=>
  intro j ps H hd h1 hij hH hP;have hjN:j=N:=by omega
  subst hjN;have:=hk ps H hH (hP.mono (by omega));have hw:IntKind.i64.wrap ((i:Int)+1)=((i+1:Nat):Int):=wS (by omega);unfold Lc15l4;simp[hw];simpa using this
 |succ d ih=>
  intro j ps H hd h1 hij hH hP;have hjN:j<N:=by omega
  have hw:IntKind.i64.wrap ((j:Int)+1)=((j+1:Nat):Int):=wS (by omega);have:=XZ (r:=r) hp0 hk0 hN hks hE hij hjN (fun ps H hH hP=>ih (j+1) ps H (by omega) (by omega) (by omega) hH hP) _ (j+1) ps H rfl (by omega) (by omega) hH (hP.mono (by omega));unfold Lc15l4;simp[hjN,hw];simpa using this
theorem X4(hp0:El rows 3 pv (Ad .i64 fp) k0)(hk0:k0<=9223372036854775807)(hN:1<=N/\N<=6)(hks:ks.length<=36)
  (hE:∀P (L:List Row),El (rows++tG gn ev pv::Z::.cells [.int .i64 N,E,P]::.cells (bl f)::(T++L)) 2 E (Ad .i64 (eC ks)) ks.length)
  (hk:∀(sl:List (Nat×AV)) (ps:List Nat) (H:List Row),H.all (Row.under 0)=true->PInv N ks ps 1000->lk sl 2 = .ptr (rows.length+1) 0->lk sl 3 = .ptr (rows.length+2) 0->Ex F (.fn [.cellN 2 3]) [.code c15s1] ⟨mk 164 sl,pR rows gn ev pv Z N E f T ps H,rows.length⟩ r):
  ∀(d i:Nat) (ps:List Nat) (H:List Row),N-i=d->i<=N->H.all (Row.under 0)=true->PInv N ks ps (i*36)->
  Lc15l2 F (.fn [.cellN 2 3]) (.ptr rows.length 0) (.ptr (rows.length+1) 0) (.ptr (rows.length+2) 0) (.int .i64 i) (pR rows gn ev pv Z N E f T ps H) rows.length r:=by
 intro d
 induction d with
 |zero=>
  intro i ps H hd h1 hH hP;have hiN:i=N:=by omega
  subst hiN;unfold Lc15l2;simp[-uc15s1];refine hk _ ps H hH (hP.mono (by omega)) ?_ ?_<;>simp
 |succ d ih=>
  intro i ps H hd h1 hH hP;have hiN:i<N:=by omega
  have hw:IntKind.i64.wrap ((i:Int)+1)=((i+1:Nat):Int):=wS (by omega);have:=Yi (r:=r) hp0 hk0 hN hks hE hiN (fun ps H hH hP=>ih (i+1) ps H (by omega) (by omega) hH hP) _ (i+1) ps H rfl (by omega) (by omega) hH (hP.mono (by omega));unfold Lc15l2;simp[hiN,hw];simpa using this
theorem Kv{l:List AV}{X:List Row}:fin rows (.agg l) (rows++X) rows.length=(.agg l,rows++X,none)\/(fin rows (.agg l) (rows++X) rows.length=(.agg l,rows,none)/\(AV.agg l).ids.all (· < rows.length)=true):=by
 unfold fin;rw[if_pos rfl]
 split
 ·rename_i h;exact .inr ⟨rfl,h⟩
 ·rename_i hn
  left
  split
  ·rename_i i e
   split
   ·rw[if_neg]
    intro h;simp only[Ac3]at h;have h2:(AV.agg l).plain=true:=h.2;have h3:(AV.agg l).ids.isEmpty=true:=h2;rw[e]at h3;simp at h3
   ·rfl
  ·rfl
theorem K8{b sz n:Nat}{H:List Row}{cs:List AV}{x:Nat}(h:(Dq b H sz cs n).ids.all (· < x)=true)(hx:x<=b):cs=[]:=by
 cases cs with
 |nil=>rfl
 |cons y cs=>
  simp[Dq,AV.ids]at h;omega
@[simp] theorem AaR:AV.nilslice.one=true:=rfl
theorem Xv:pR rows gn ev pv Z N E f T [] []=tR rows (tG gn ev pv) Z N E .nilslice f T:=by
 simp[pA,pC,Ad,Dq]
theorem Q0{x:Int}(he:El rows 2 ev (Ad .i64 fe) m0)(hm0:m0<=9223372036854775807)(hp0:El rows 3 pv (Ad .i64 fp) k0)(hk0:k0<=9223372036854775807)(hu:ev.under rows.length=true/\pv.under rows.length=true):
  ∃N ks ps g X,Ret F 15 [.agg [.int .i64 x,ev,pv]] rows=some (g,rows++X,none)/\Und rows X/\GRd (rows++X) g N ks ps:=by
 obtain⟨n,hn,hn6⟩:=QF (x:=x) (m:=6) (by omega) (by omega)
 let N:=1+n
 have hN:1<=N/\N<=6:=by simp only[N];omega
 have wN:IntKind.i64.wrap (1+(n:Int))=(N:Int):=by rw[AM (by omega) (by omega)];simp[N]
 let Z:Row:=.cells [.int .i64 0,.nilslice,.nilslice]
 -- what is left
 let Q:AV×List Row×Nat->Prop:=fun r=>∃ks ps g X,fin rows r.1 r.2.1 r.2.2=(g,rows++X,none)/\Und rows X/\GRd (rows++X) g N ks ps
 have main:Ex F (.fn [.cellN 2 3]) [.code c15b] ⟨mk 164 [(0,.agg [.int .i64 x,ev,pv])],rows,rows.length⟩ Q:=by
  have hml:=N3 (rows:=rows) (gn:=.int .i64 x) (ev:=ev) (pv:=pv) (Z:=Z) (r:=Q) he hm0 hN (by
   intro sl f many hM s1 s2 s3 s4
   have hel:=PX (rows:=rows) (Z:=Z) (r:=Q) (G:=tG (.int .i64 x) ev pv) hM (by
    intro sl2 H hH t1 t2 t3;have hlen:=KN (f:=f) (k:=36) (by omega);have hc:=hM.c;have hmm:=hM.m;have hcs:(eA f 36).length=(Dj f 36).length*2:=by rw[BN,Ey]
    have hE:∀P (L:List Row),El (rows++tG (.int .i64 x) ev pv::Z::.cells [.int .i64 N,Dq (rows.length+4) H 2 (eA f 36) (Dj f 36).length,P]::.cells (bl f)::(BG H (eA f 36)++L)) 2 (Dq (rows.length+4) H 2 (eA f 36) (Dj f 36).length) (Ad .i64 (eC (Dj f 36))) (Dj f 36).length:=fun P L=>by
     have:=(DS (rows:=rows++[tG (.int .i64 x) ev pv,Z,.cells [.int .i64 N,Dq (rows.length+4) H 2 (eA f 36) (Dj f 36).length,P],.cells (bl f)]) (H:=H) (cs:=eA f 36) (n:=(Dj f 36).length) (sz:=2) hcs (by omega)).1;have h2:(rows++[tG (.int .i64 x) ev pv,Z,.cells [.int .i64 N,Dq (rows.length+4) H 2 (eA f 36) (Dj f 36).length,P],.cells (bl f)]).length=rows.length+4:=by simp
     rw[EG,h2]at this;have h3:=Ag this L;simpa using h3
    have hil:=X4 (rows:=rows) (gn:=.int .i64 x) (Z:=Z) (f:=f) (T:=BG H (eA f 36)) (r:=Q) hp0 hk0 hN (ks:=Dj f 36) (by omega) hE (by
     intro sl3 ps H2 hH2 hP u2 u3
     -- the result
     have hone:(Dq (rows.length+4) H 2 (eA f 36) (Dj f 36).length).one=true:=Dy;have hone2:(Dq (rows.length+4+(BG H (eA f 36)).length) H2 3 (pA ps) ps.length).one=true:=Dy;have hH1:=Ks (cs:=eA f 36) hH Bq;have hH3:=Ks (cs:=pA ps) hH2 Bq;generalize hEE:Dq (rows.length+4) H 2 (eA f 36) (Dj f 36).length=E at *;generalize hPP:Dq (rows.length+4+(BG H (eA f 36)).length) H2 3 (pA ps) ps.length=P at *;have hGO:GOK N (Dj f 36) ps:=by
      refine⟨hN.1,hN.2,by omega,?_,fun k hk=>?_,hP.k,hP.s,fun p hp=>(hP.e p hp).2⟩
      ·exact List.Pairwise.filter _ List.pairwise_lt_range
      ·have:=(Ad7.1 hk).2
       exact(hM.e k this).2
     let X:List Row:=[tG (.int .i64 x) ev pv,.cells [.int .i64 N,E,P],.cells [.int .i64 N,E,P],.cells (bl f)]++(BG H (eA f 36)++BG H2 (pA ps))
     have hXl:rows.length+X.length=rows.length+4+(BG H (eA f 36)).length+(BG H2 (pA ps)).length:=by simp[X];omega
     have hPel:El (rows++X) 3 P (Ad .i64 (pC ps)) ps.length/\Cp 3 P:=by
      have:=DS (rows:=rows++[tG (.int .i64 x) ev pv,.cells [.int .i64 N,E,P],.cells [.int .i64 N,E,P],.cells (bl f)]++BG H (eA f 36)) (H:=H2) (cs:=pA ps) (n:=ps.length) (sz:=3) (by rw[BN,GA]) (by omega);have h2:(rows++[tG (.int .i64 x) ev pv,.cells [.int .i64 N,E,P],.cells [.int .i64 N,E,P],.cells (bl f)]++BG H (eA f 36)).length=rows.length+4+(BG H (eA f 36)).length:=by simp;omega
      rw[EG,h2,hPP]at this;refine⟨?_,this.2⟩;have h3:=this.1;simpa[X]using h3
     have hEel:El (rows++X) 2 E (Ad .i64 (eC (Dj f 36))) (Dj f 36).length/\Cp 2 E:=by
      have:=DS (rows:=rows++[tG (.int .i64 x) ev pv,.cells [.int .i64 N,E,P],.cells [.int .i64 N,E,P],.cells (bl f)]) (H:=H) (cs:=eA f 36) (n:=(Dj f 36).length) (sz:=2) hcs (by omega);have h2:(rows++[tG (.int .i64 x) ev pv,.cells [.int .i64 N,E,P],.cells [.int .i64 N,E,P],.cells (bl f)]).length=rows.length+4:=by simp
      rw[EG,h2,hEE]at this;refine⟨?_,this.2⟩;have h3:=Ag this.1 (BG H2 (pA ps));simpa[X]using h3
     have uE:E.under (rows.length+X.length)=true:=by
      rcases AP hEel.1 with ⟨rfl,_⟩|⟨id,off,c,vs,rfl,hr,_⟩
      ·rfl
      ·have:=AS hr
       simp[AV.under,AV.ids];simpa using this
     have uP:P.under (rows.length+X.length)=true:=by
      rcases AP hPel.1 with ⟨rfl,_⟩|⟨id,off,c,vs,rfl,hr,_⟩
      ·rfl
      ·have:=AS hr
       simp[AV.under,AV.ids];simpa using this
     have hUX:Und rows X:=by
      intro y hy;have und3:∀a:AV,a.ids=[]->(Row.cells [a,E,P]).under (rows.length+X.length)=true:=fun a ha=>by
       simp[Row.under,uE,uP,AV.under,ha];exact⟨by simpa[AV.under]using uE,by simpa[AV.under]using uP⟩
      simp only[X,Ac2,Ade,Aef,or_false]at hy;rcases hy with (hy|hy|hy|hy)|hy|hy
      ·subst hy
       have h1:=Sh.runder_mono (y:=tG (.int .i64 x) ev pv) (show rows.length<=rows.length+X.length by omega) (by
        simp[Row.under,AV.under,AV.ids]
        exact⟨by simpa[AV.under]using hu.1,by simpa[AV.under]using hu.2⟩)
       exact h1
      ·subst hy;exact und3 _ rfl
      ·subst hy;exact und3 _ rfl
      ·subst hy
       refine BX (a:=0) ?_ (AcX _);simp[Row.under,bl,AV.under,AV.ids]
      ·exact BX (AcT.1 hH1 y hy) (AcX _)
      ·exact BX (AcT.1 hH3 y hy) (AcX _)
     have hfin:=Kv (rows:=rows) (l:=[.int .i64 N,E,P]) (X:=X);simp[u2,u3,seg,splice,hone,hone2,hPP,Z,Ac];have hQ:Q (.agg [.int .i64 N,E,P],rows++X,rows.length):=by
      rcases hfin with h|⟨h,hids⟩
      ·exact⟨_,_,_,X,h,hUX,hGO,E,P,rfl,hEel.1,hPel.1,hEel.2,hPel.2⟩
      ·simp only[AV.ids,AV.ids.idsL,AdI,AdW,Ac3,AcV]at hids
       rw[<-hEE]at hids;rw[<-hPP]at hids;have c1:=K8 hids.1 (by omega);have c2:=K8 hids.2 (by omega);have k1:Dj f 36=[]:=by
        have:=Ey (Dj f 36);rw[show eC (Dj f 36)=[]by simpa[Ad]using c1]at this;exact Aed (by simp only[Ac7]at this;omega)
       have k2:ps=[]:=by
        have:=GA ps;rw[show pC ps=[]by simpa[pA,Ad]using c2]at this;exact Aed (by simp only[Ac7]at this;omega)
       have hE0:E = .nilslice:=by rw[<-hEE,c1];rfl
       have hP0:P = .nilslice:=by rw[<-hPP,c2];rfl
       subst hE0 hP0;refine⟨_,_,_,[],by rw[AcV];exact h,JO,hGO,.nilslice,.nilslice,rfl,?_,?_,trivial,trivial⟩
       ·rw[k1];exact BY
       ·rw[k2];exact BY
     simpa[X]using hQ) _ 0 [] [] rfl (by omega) rfl ⟨List.Pairwise.nil,by simp,fun p hp=>by simp at hp⟩
    rw[Xv]at hil;simp[t1,t2,t3]
    simpa using hil) _ 0 [] rfl (by omega) rfl
   simp only[eA,Dj,List.range_zero,List.filter_nil,eC,List.flatMap_nil,Ad,Adn,Dq,Le]at hel;simp[s1,s2,s3,s4]
   simpa using hel) _ 0 (fun _=>false) 0 rfl (by omega) ⟨fun k hk=>by simp at hk,by simp[cnt],by omega⟩
  have hone1:ev.one=true/\pv.one=true:=⟨An he,An hp0⟩
  have hbl:List.replicate 36 (AV.bool false)=bl fun _=>false:=by rfl
  have hb2:(∀x,x∈(bl fun _=>false)->x.one=true)=True:=eq_true fun x hx=>by
   obtain⟨k,_,rfl⟩:=Ad0.1 hx
   rfl
  simp[AV.cells,hone1.1,hone1.2,seg,splice,Ap,hn,wN,hbl,hb2,Ac,Adb];simpa[Z]using hml
 obtain⟨n1,q,e,ks,ps,g,X,h1,h2,h3⟩:=main;exact⟨N,ks,ps,g,X,i15 F15 ⟨n1,q,e,h1⟩,h2,h3⟩
end
section
variable {rows:List Row}{N:Nat}{ks ps:List Nat}
theorem OO{l:List AV}:l=[]\/∃x m,l=x::m:=by cases l<;>simp
theorem BV{sz n:Nat}{v:AV}{cs:List AV}(h:El rows sz v cs n):v.under rows.length=true:=by
 rcases AP h with ⟨rfl,_⟩|⟨id,off,c,vs,rfl,hr,_⟩
 ·rfl
 ·have:=AS hr
  simpa[AV.under,AV.ids]using this
theorem tb5:Nat.testBit 508 5=true:=by decide
theorem Bx{β:Type}{f:Row->β}{M:List β}{k:Nat}:List.drop (rows.length+k) (rows.map f++M)=M.drop k:=by
 have:=List.drop_length_add_append (l₁:=rows.map f) (l₂:=M) (i:=k);simpa using this
theorem PV{g:AV}(h:GRd rows g N ks ps):∃g' X,Ret F 17 [g] rows=some (g',rows++X,none)/\Und rows X/\GRd (rows++X) g' N ks ps:=by
 obtain⟨ev,pv,rfl,he,hp,ce,cp⟩:=h.eq;have hok:=h.ok;have hks:=hok.ek;have hps:=hok.pk;have A9:=An he;have one2:=An hp
 let G:Row:=.cells [.int .i64 N,ev,pv]
 have uG:∀b,rows.length<=b->G.under b=true:=fun b hb=>BX (a:=rows.length) (by
  have u1:=BV he;have u2:=BV hp;simp[G,Row.under,AV.under,AV.ids]
  exact⟨by simpa[AV.under]using u1,by simpa[AV.under]using u2⟩) hb
 have ecl:(Ad .i64 (eC ks)).length=ks.length*2:=by rw[BN,Ey]
 have pcl:(Ad .i64 (pC ps)).length=ps.length*3:=by rw[BN,GA]
 -- the result, by its parts
 have fin0:∀(E P:AV) (T:List Row),El (rows++(G::.cells [.int .i64 N,E,P]::T)) 2 E (Ad .i64 (eC ks)) ks.length->El (rows++(G::.cells [.int .i64 N,E,P]::T)) 3 P (Ad .i64 (pC ps)) ps.length->Cp 2 E->Cp 3 P->T.all (Row.under 0)=true->
   ((∃x,E.ids=[x]/\rows.length<=x)\/E = .nilslice)->((∃x,P.ids=[x]/\rows.length<=x)\/P = .nilslice)->
   ∃g' X,fin rows (.agg [.int .i64 N,E,P]) (rows++(G::.cells [.int .i64 N,E,P]::T)) rows.length=(g',rows++X,none)/\Und rows X/\GRd (rows++X) g' N ks ps:=by
  intro E P T hE hP cE cP hT iE iP;have uE:=BV hE;have uP:=BV hP;have hU:Und rows (G::.cells [.int .i64 N,E,P]::T):=by
   intro y hy;simp only[Ade]at hy;rcases hy with hy|hy|hy
   ·subst hy;exact uG _ (by omega)
   ·subst hy
    simp only[AcO]at uE uP;simp[Row.under,AV.under,AV.ids];exact⟨by simpa[AV.under]using uE,by simpa[AV.under]using uP⟩
   ·exact BX (AcT.1 hT y hy) (AcX _)
  rcases Kv (rows:=rows) (l:=[.int .i64 N,E,P]) (X:=G::.cells [.int .i64 N,E,P]::T)with hf|⟨hf,hids⟩
  ·exact⟨_,_,hf,hU,hok,E,P,rfl,hE,hP,cE,cP⟩
  ·simp only[AV.ids,AV.ids.idsL,AdI,AdW,Ac3,AcV]at hids
   have k1:E = .nilslice:=by
    rcases iE with ⟨x,e,hx⟩|e
    ·rw[e]at hids;simp at hids;omega
    ·exact e
   have k2:P = .nilslice:=by
    rcases iP with ⟨x,e,hx⟩|e
    ·rw[e]at hids;simp at hids;omega
    ·exact e
   subst k1 k2;have h1:=hE;have h2:=hP;rcases AP h1 with ⟨_,c1,n1⟩|⟨_,_,_,_,e,_⟩
   ·rcases AP h2 with ⟨_,c2,n2⟩|⟨_,_,_,_,e,_⟩
    ·refine⟨_,[],by rw[AcV];exact hf,JO,hok,.nilslice,.nilslice,rfl,?_,?_,trivial,trivial⟩
     ·rw[c1,n1];exact BY
     ·rw[c2,n2];exact BY
    ·simp at e
   ·simp at e
 have hc1:∀L,evE (rows++L) (rows++L).length (.app 2 16 (.c .nilslice) (.c ev))=some (Ln (rows++L) [] 2 (Ad .i64 (eC ks)) ks.length,rows++L++BG [] (Ad .i64 (eC ks)),(rows++L).length):=fun L=>KQ (Ag he L) (by omega) (by omega)
 have hc2:∀L low,evE (rows++L) low (.app 3 24 (.c .nilslice) (.c pv))=some (Ln (rows++L) [] 3 (Ad .i64 (pC ps)) ps.length,rows++L++BG [] (Ad .i64 (pC ps)),low):=fun L low=>KQ (Ag hp L) (by omega) (by omega)
 let Z:Row:=.cells [.int .i64 0,.nilslice,.nilslice]
 have c1:=hc1 [G,Z];have und0:∀{x:AV} {m:List AV} {l:List Int},Ad .i64 l=x::m->(Row.cells (x::m)).under 0=true:=fun e=>by rw[<-e];exact Bq
 let Q:AV×List Row×Nat->Prop:=fun r=>∃g' X,fin rows r.1 r.2.1 r.2.2=(g',rows++X,none)/\Und rows X/\GRd (rows++X) g' N ks ps
 have main:Ex F (.fn [.cellN 2 3]) [.code c17b] ⟨mk 16 [(0,.agg [.int .i64 N,ev,pv])],rows,rows.length⟩ Q:=by
  rcases OO (l:=Ad .i64 (eC ks))with h1|⟨x,m,h1⟩
  ·rcases OO (l:=Ad .i64 (pC ps))with h2|⟨y,m2,h2⟩
   ·have c2:=hc2 [G,Z] (rows++[G,Z]).length
    have f:=fin0 .nilslice .nilslice [] (by
     have:ks.length=0:=by rw[h1]at ecl;simp at ecl;omega
     rw[h1,this];exact BY) (by
     have:ps.length=0:=by rw[h2]at pcl;simp at pcl;omega
     rw[h2,this];exact BY) trivial trivial rfl (.inr rfl) (.inr rfl)
    rw[h1]at c1;rw[h2]at c2;simp[G,Z]at c1 c2;simp[AV.cells,A9,one2,Ai,c1,c2,seg,splice,Ap,Ac,Bx,Adb,tb5];exact f
   ·have c2:=hc2 [G,Z] (rows++[G,Z]).length
    have hP:=DS (rows:=rows++[G,.cells [.int .i64 N,.nilslice,.slice (rows.length+2) 0 ps.length (.op 3)]]) (H:=[]) (cs:=Ad .i64 (pC ps)) (n:=ps.length) (sz:=3) pcl (by omega);rw[h2]at hP
    have f:=fin0 .nilslice (.slice (rows.length+2) 0 ps.length (.op 3)) [.cells (y::m2)] (by
     have:ks.length=0:=by rw[h1]at ecl;simp at ecl;omega
     rw[h1,this];exact BY) (by rw[h2];simpa using hP.1) trivial (by simpa using hP.2) (by simp[und0 h2]) (.inr rfl) (.inl ⟨_,rfl,by omega⟩)
    rw[h1]at c1;rw[h2]at c2;simp[G,Z]at c1 c2;simp[AV.cells,A9,one2,Ai,c1,c2,seg,splice,Ap,Ac,Bx,Adb,tb5];exact f
  ·rcases OO (l:=Ad .i64 (pC ps))with h2|⟨y,m2,h2⟩
   ·have c2:=hc2 [G,Z,.cells (x::m)] (rows++[G,Z,.cells (x::m)]).length
    have c2d:=hc2 [G,Z,.dead] (rows++[G,Z,.dead]).length;have hE:=DS (rows:=rows++[G,.cells [.int .i64 N,.slice (rows.length+2) 0 ks.length (.op 2),.nilslice]]) (H:=[]) (cs:=Ad .i64 (eC ks)) (n:=ks.length) (sz:=2) ecl (by omega);rw[h1]at hE
    have f:=fin0 (.slice (rows.length+2) 0 ks.length (.op 2)) .nilslice [.cells (x::m)] (by rw[h1];simpa using hE.1) (by
     have:ps.length=0:=by rw[h2]at pcl;simp at pcl;omega
     rw[h2,this];exact BY) (by simpa using hE.2) trivial (by simp[und0 h1]) (.inl ⟨_,rfl,by omega⟩) (.inr rfl)
    rw[h1]at c1;rw[h2]at c2 c2d;simp[G,Z]at c1 c2 c2d;simp[AV.cells,A9,one2,Ai,c1,c2,c2d,seg,splice,Ap,Ac,Bx,Adb,tb5];exact f
   ·have c2:=hc2 [G,Z,.cells (x::m)] (rows++[G,Z,.cells (x::m)]).length
    have c2d:=hc2 [G,Z,.dead] (rows++[G,Z,.dead]).length;have hE:=DS (rows:=rows++[G,.cells [.int .i64 N,.slice (rows.length+2) 0 ks.length (.op 2),.slice (rows.length+3) 0 ps.length (.op 3)]]) (H:=[]) (cs:=Ad .i64 (eC ks)) (n:=ks.length) (sz:=2) ecl (by omega);have hP:=DS (rows:=rows++[G,.cells [.int .i64 N,.slice (rows.length+2) 0 ks.length (.op 2),.slice (rows.length+3) 0 ps.length (.op 3)],.cells (x::m)]) (H:=[]) (cs:=Ad .i64 (pC ps)) (n:=ps.length) (sz:=3) pcl (by omega);rw[h1]at hE;rw[h2]at hP;have hE1:=Ag hE.1 [.cells (y::m2)];have f:=fin0 (.slice (rows.length+2) 0 ks.length (.op 2)) (.slice (rows.length+3) 0 ps.length (.op 3)) [.cells (x::m),.cells (y::m2)] (by rw[h1];simpa using hE1) (by rw[h2];simpa using hP.1) (by simpa using hE.2) (by simpa using hP.2) (by simp[und0 h1,und0 h2]) (.inl ⟨_,rfl,by omega⟩) (.inl ⟨_,rfl,by omega⟩);rw[h1]at c1;rw[h2]at c2 c2d;simp[G,Z]at c1 c2 c2d;simp[AV.cells,A9,one2,Ai,c1,c2,c2d,seg,splice,Ap,Ac,Bx,Adb,tb5];exact f
 obtain⟨n1,q,e,g',X,h1,h2,h3⟩:=main;exact⟨g',X,i17 F17 ⟨n1,q,e,h1⟩,h2,h3⟩
end
def eok(N:Int)(fl:List Int)(i:Nat):Bool:=decide (0<=gI fl (i*2)/\gI fl (i*2)<gI fl (i*2+1)/\gI fl (i*2+1)<N/\(0<i->Jt [gI fl ((i-1)*2),gI fl ((i-1)*2+1)] [gI fl (i*2),gI fl (i*2+1)]<0))
def RJ(N:Int)(fl:List Int):Nat->Nat->Bool
 |0,_=>true
 |d+1,i=>eok N fl i&&RJ N fl d (i+1)
def pok(fe fl:List Int)(m i:Nat):Bool:=decide (gI fl (i*3)<gI fl (i*3+1)/\gI fl (i*3+1)<gI fl (i*3+2)/\(0<i->Jt [gI fl ((i-1)*3),gI fl ((i-1)*3+1),gI fl ((i-1)*3+2)] [gI fl (i*3),gI fl (i*3+1),gI fl (i*3+2)]<0)/\
 0<=pix fe (gI fl (i*3)) (gI fl (i*3+1)) m 0/\0<=pix fe (gI fl (i*3)) (gI fl (i*3+2)) m 0/\0<=pix fe (gI fl (i*3+1)) (gI fl (i*3+2)) m 0)
def Mk(fe fl:List Int)(m:Nat):Nat->Nat->Bool
 |0,_=>true
 |d+1,i=>pok fe fl m i&&Mk fe fl m d (i+1)
def JT(N:Int)(fe:List Int)(m:Nat)(fp:List Int)(k:Nat):Bool:=decide (1<=N/\N<=6/\m<=10/\k<=6)&&(RJ N fe m 0&&Mk fe fp m k 0)
section
variable {rows:List Row}{N:Int}{ev pv:AV}{fe fp:List Int}{m k:Nat}{r:AV×List Row×Nat->Prop}
abbrev cR(rows:List Row)(N:Int)(ev pv:AV)(H:List Row):List Row:=rows ++ .cells [.int .i64 N,ev,pv]::H
abbrev cQ0(rows:List Row)(b:Bool):AV×List Row×Nat->Prop:=fun r=>fin rows r.1 r.2.1 r.2.2=(.int .i64 (if b then 0 else 30),rows,none)
@[simp] theorem Acl{R:List Row}:cQ0 rows true (.int .i64 0,R,rows.length)↔True:=by simp[cQ0]
@[simp] theorem Acj{R:List Row}:cQ0 rows false (.int .i64 30,R,rows.length)↔True:=by simp[cQ0]
theorem MM(he:El rows 2 ev (Ad .i64 fe) m)(hm:m<=1000000){a0 a1 a2:Int}{H:List Row}{n:Nat}{B:Bool}
  (hbad:¬(0<=pix fe a0 a1 m 0/\0<=pix fe a0 a2 m 0/\0<=pix fe a1 a2 m 0)->B=false)
  {pt:Nat} (ht:Ae (cR rows N ev pv H) pt=some (Ad .i64 [a0,a1,a0,a2,a1,a2]))
  (hk:(0<=pix fe a0 a1 m 0/\0<=pix fe a0 a2 m 0/\0<=pix fe a1 a2 m 0)->∀H',Lc59l2 F (.fn [.t 2]) (.ptr rows.length 0) pv (.int .i64 k) (.int .i64 ((n+1:Nat):Int)) (cR rows N ev pv H') rows.length (cQ0 rows B)) (hn:n<=1000000):
  Lc59l4 F (.fn [.t 2]) (.ptr rows.length 0) pv (.int .i64 k) (.int .i64 n) (.slice pt 0 3 (.at_ 3)) (.int .i64 3) (.int .i64 0) (cR rows N ev pv H) rows.length (cQ0 rows B):=by
 have hw:IntKind.i64.wrap ((n:Int)+1)=((n+1:Nat):Int):=wS (by omega);have hT:∀L,Ae (cR rows N ev pv (H++L)) pt=some (Ad .i64 [a0,a1,a0,a2,a1,a2]):=fun L=>by
  have:=Ah (L:=L) ht;simpa using this
 -- one of the three
 have one:∀(i:Nat) (x y:Int),i<3->gI [a0,a1,a0,a2,a1,a2] (i*2)=x->gI [a0,a1,a0,a2,a1,a2] (i*2+1)=y->∀L:List Row,
   (0<=pix fe x y m 0->Lc59l4 F (.fn [.t 2]) (.ptr rows.length 0) pv (.int .i64 k) (.int .i64 n) (.slice pt 0 3 (.at_ 3)) (.int .i64 3) (.int .i64 ((i+1:Nat):Int)) (cR rows N ev pv (H++(L++[.cells [.int .i64 x,.int .i64 y]]))) rows.length (cQ0 rows B))->(¬0<=pix fe x y m 0->B=false)->
   Lc59l4 F (.fn [.t 2]) (.ptr rows.length 0) pv (.int .i64 k) (.int .i64 n) (.slice pt 0 3 (.at_ 3)) (.int .i64 3) (.int .i64 i) (cR rows N ev pv (H++L)) rows.length (cQ0 rows B):=by
  intro i x y hi hx hy L h1 h2;have hTL:=hT L;have htk:List.take 2 (List.drop (i*2) (Ad .i64 [a0,a1,a0,a2,a1,a2]))=[.int .i64 x,.int .i64 y]:=by
   rw[<-hx,<-hy]
   match i,hi with
   |0,_=>rfl
   |1,_=>rfl
   |2,_=>rfl
  have hTn:(Ad .i64 [a0,a1,a0,a2,a1,a2]).length=6:=rfl;generalize Ad .i64 [a0,a1,a0,a2,a1,a2]=TT at hTL htk hTn;have hE:=Hg (Ag he (.cells [.int .i64 N,ev,pv]::(H++(L++[.cells [.int .i64 x,.int .i64 y]])))) hm (a:=x) (b:=y);have hwi:IntKind.i64.wrap ((i:Int)+1)=((i+1:Nat):Int):=wS (by omega);have hb:i*2+2<=6:=by omega
  by_cases hc:0<=pix fe x y m 0
  ·have h1:=h1 hc
   unfold Lc59l4;simp[hi,show((i:Int)<3)by omega,hTL,htk,hTn,hb,seg,splice,hE,hc,hwi,Ac];simpa using h1
  ·have h2:=h2 hc
   unfold Lc59l4;simp[hi,show((i:Int)<3)by omega,hTL,htk,hTn,hb,seg,splice,hE,hc,hwi,Ac,h2]
 have fin3:(0<=pix fe a0 a1 m 0/\0<=pix fe a0 a2 m 0/\0<=pix fe a1 a2 m 0)->∀L:List Row,Lc59l4 F (.fn [.t 2]) (.ptr rows.length 0) pv (.int .i64 k) (.int .i64 n) (.slice pt 0 3 (.at_ 3)) (.int .i64 3) (.int .i64 ((2+1:Nat):Int)) (cR rows N ev pv (H++L)) rows.length (cQ0 rows B):=by
  intro h L;have:=hk h (H++L);unfold Lc59l4;simp[hw];simpa using this
 have:=one 0 a0 a1 (by omega) rfl rfl [] (fun c1=>one 1 a0 a2 (by omega) rfl rfl _ (fun c2=>one 2 a1 a2 (by omega) rfl rfl _ (fun c3=>fin3 ⟨c1,c2,c3⟩ _) (fun h=>hbad fun hh=>h hh.2.2)) (fun h=>hbad fun hh=>h hh.2.1)) (fun h=>hbad fun hh=>h hh.1);simpa using this
theorem MP(he:El rows 2 ev (Ad .i64 fe) m)(hm:m<=1000000)(hp:El rows 3 pv (Ad .i64 fp) k)(hk:k<=1000000):∀(d i:Nat) (H:List Row),k-i=d->i<=k->
  Lc59l2 F (.fn [.t 2]) (.ptr rows.length 0) pv (.int .i64 k) (.int .i64 i) (cR rows N ev pv H) rows.length (cQ0 rows (Mk fe fp m d i)):=by
 intro d
 induction d with
 |zero=>
  intro i H hd h1;have hi:i=k:=by omega
  subst hi;unfold Lc59l2;simp[Mk]
 |succ d ih=>
  intro i H hd h1;have hi:i<k:=by omega
  have hw:IntKind.i64.wrap ((i:Int)+1)=((i+1:Nat):Int):=wS (by omega);have hl:=Bl hp;have hp':=Ag hp (.cells [.int .i64 N,ev,pv]::H);have e1:=B7 hp' hi;have e2:=AaZ hp' hi;simp only[Mk]
  -- the three edges
  have three:∀(x6:AV) (H2:List Row),Ae (cR rows N ev pv (H++H2)) (rows.length+(H.length+1))=some [.int .i64 (gI fp (i*3)),.int .i64 (gI fp (i*3+1)),.int .i64 (gI fp (i*3+2))]->
    ∀(B:Bool),(¬(0<=pix fe (gI fp (i*3)) (gI fp (i*3+1)) m 0/\0<=pix fe (gI fp (i*3)) (gI fp (i*3+2)) m 0/\0<=pix fe (gI fp (i*3+1)) (gI fp (i*3+2)) m 0)->B=false)->
    ((0<=pix fe (gI fp (i*3)) (gI fp (i*3+1)) m 0/\0<=pix fe (gI fp (i*3)) (gI fp (i*3+2)) m 0/\0<=pix fe (gI fp (i*3+1)) (gI fp (i*3+2)) m 0)->B=Mk fe fp m d (i+1))->
    Jc59s16 F (.fn [.t 2]) (.ptr rows.length 0) (.ptr (rows.length+(H.length+1)) 0) pv (.int .i64 k) (.int .i64 i) (cR rows N ev pv (H++H2)) rows.length (cQ0 rows B):=by
   intro x6 H2 hr B hB1 hB2;have hlr:=AS hr
   have t3:=MM (rows:=rows) (N:=N) (ev:=ev) (pv:=pv) (fe:=fe) (m:=m) (k:=k) he hm (a0:=gI fp (i*3)) (a1:=gI fp (i*3+1)) (a2:=gI fp (i*3+2)) (H:=H++(H2++[.cells (Ad .i64 [gI fp (i*3),gI fp (i*3+1),gI fp (i*3),gI fp (i*3+2),gI fp (i*3+1),gI fp (i*3+2)])])) (n:=i) (B:=B) hB1 (pt:=(cR rows N ev pv (H++H2)).length) (by
    have:cR rows N ev pv (H++(H2++[.cells (Ad .i64 [gI fp (i*3),gI fp (i*3+1),gI fp (i*3),gI fp (i*3+2),gI fp (i*3+1),gI fp (i*3+2)])]))=cR rows N ev pv (H++H2)++[.cells (Ad .i64 [gI fp (i*3),gI fp (i*3+1),gI fp (i*3),gI fp (i*3+2),gI fp (i*3+1),gI fp (i*3+2)])]:=by simp
    rw[this];unfold Ae;simp) (fun h H'=>by
    rw[hB2 h]
    exact ih (i+1) H' (by omega) (by omega)) (by omega)
   have x0:AI 0 3=some 0:=rfl;have x1:AI 1 3=some 1:=rfl;have x2:AI 2 3=some 2:=rfl;unfold Jc59s16;simp[x0,x1,x2,hr,Ap,splice];simpa[Ad]using t3
  have x0:AI 0 3=some 0:=rfl;have x1:AI 1 3=some 1:=rfl;have x2:AI 2 3=some 2:=rfl
  by_cases c1:gI fp (i*3)<gI fp (i*3+1)
  ·by_cases c2:gI fp (i*3+1)<gI fp (i*3+2)
   ·by_cases c3:0<i
    ·have hwm:IntKind.i64.wrap ((i:Int)-1)=((i-1:Nat):Int):=by rw[AM (by omega) (by omega)];omega
     have hR:Ae (cR rows N ev pv (H++[.cells [.int .i64 (gI fp (i*3)),.int .i64 (gI fp (i*3+1)),.int .i64 (gI fp (i*3+2))]])) (rows.length+(H.length+1))=some [.int .i64 (gI fp (i*3)),.int .i64 (gI fp (i*3+1)),.int .i64 (gI fp (i*3+2))]:=by
      unfold Ae;simp
     have hp2:=Ag hp (.cells [.int .i64 N,ev,pv]::(H++[.cells [.int .i64 (gI fp (i*3)),.int .i64 (gI fp (i*3+1)),.int .i64 (gI fp (i*3+2))]]));have e3:=B7 hp2 (i:=i-1) (by omega);have hA:=Yq hp2 (i:=i-1) (by omega) (c:=.at_ 3);rw[XL (by omega)]at hA;have hB:IsL (cR rows N ev pv (H++[.cells [.int .i64 (gI fp (i*3)),.int .i64 (gI fp (i*3+1)),.int .i64 (gI fp (i*3+2))]])) (.slice (rows.length+(H.length+1)) 0 3 (.at_ 3)) [gI fp (i*3),gI fp (i*3+1),gI fp (i*3+2)]:=GD (n:=0) (off:=0) (c:=.at_ 3) (l:=[gI fp (i*3),gI fp (i*3+1),gI fp (i*3+2)]) hR rfl;have hC:=Ff hA hB (by simp) (by simp);generalize hcm:Jt [gI fp ((i-1)*3),gI fp ((i-1)*3+1),gI fp ((i-1)*3+2)] [gI fp (i*3),gI fp (i*3+1),gI fp (i*3+2)]=cm at hC
     by_cases c4:cm<0
     ·have h3:=three .any [.cells [.int .i64 (gI fp (i*3)),.int .i64 (gI fp (i*3+1)),.int .i64 (gI fp (i*3+2))]] hR (pok fe fp m i&&Mk fe fp m d (i+1)) (fun h=>by
       have:pok fe fp m i=false:=decide_eq_false (fun hh=>h hh.2.2.2);rw[this];rfl) (fun h=>by
       have:pok fe fp m i=true:=decide_eq_true ⟨c1,c2,fun _=>by rw[hcm];exact c4,h⟩
       rw[this];rfl)
      unfold Lc59l2;simp[hi,e1,e2,e3,seg,splice,Ac,x0,x1,x2,c1,c2,c3,hwm,BR,A8,Aj,hC,c4,show ¬(gI fp (i*3+1)<=gI fp (i*3))by omega,show ¬(gI fp (i*3+2)<=gI fp (i*3+1))by omega,show ¬(0<=cm)by omega,-uc59s16,jc59s16];simpa using h3
     ·have hpk:pok fe fp m i=false:=decide_eq_false (fun hh=>by have:=hh.2.2.1 c3;rw[hcm]at this;omega)
      unfold Lc59l2;simp[hi,e1,e2,e3,seg,splice,Ac,x0,x1,x2,c1,c2,c3,hwm,BR,A8,Aj,hC,hpk,show ¬(gI fp (i*3+1)<=gI fp (i*3))by omega,show ¬(gI fp (i*3+2)<=gI fp (i*3+1))by omega,show(0<=cm)by omega]
    ·have i0:i=0:=by omega
     have hR:Ae (cR rows N ev pv (H++[.cells [.int .i64 (gI fp (i*3)),.int .i64 (gI fp (i*3+1)),.int .i64 (gI fp (i*3+2))]])) (rows.length+(H.length+1))=some [.int .i64 (gI fp (i*3)),.int .i64 (gI fp (i*3+1)),.int .i64 (gI fp (i*3+2))]:=by
      unfold Ae;simp
     have h3:=three .any [.cells [.int .i64 (gI fp (i*3)),.int .i64 (gI fp (i*3+1)),.int .i64 (gI fp (i*3+2))]] hR (pok fe fp m i&&Mk fe fp m d (i+1)) (fun h=>by
       have:pok fe fp m i=false:=decide_eq_false (fun hh=>h hh.2.2.2);rw[this];rfl) (fun h=>by
       have:pok fe fp m i=true:=decide_eq_true ⟨c1,c2,fun h0=>absurd h0 c3,h⟩
       rw[this];rfl)
     unfold Lc59l2;simp[hi,e1,e2,seg,splice,Ac,x0,x1,x2,c1,c2,c3,show ¬(gI fp (i*3+1)<=gI fp (i*3))by omega,show ¬(gI fp (i*3+2)<=gI fp (i*3+1))by omega,-uc59s16,jc59s16];simpa using h3
   ·have hpk:pok fe fp m i=false:=decide_eq_false (fun hh=>c2 hh.2.1)
    unfold Lc59l2;simp[hi,e1,e2,seg,splice,Ac,x0,x1,x2,c1,hpk,show ¬(gI fp (i*3+1)<=gI fp (i*3))by omega,show(gI fp (i*3+2)<=gI fp (i*3+1))by omega]
  ·have hpk:pok fe fp m i=false:=decide_eq_false (fun hh=>c1 hh.1)
   unfold Lc59l2;simp[hi,e1,e2,seg,splice,Ac,x0,x1,x2,hpk,show(gI fp (i*3+1)<=gI fp (i*3))by omega]
theorem Ms(he:El rows 2 ev (Ad .i64 fe) m)(hm:m<=1000000)(hp:El rows 3 pv (Ad .i64 fp) k)(hk:k<=1000000):∀(d i:Nat) (H:List Row),m-i=d->i<=m->
  Lc59l28 F (.fn [.t 2]) (.ptr rows.length 0) ev (.int .i64 m) (.int .i64 i) (cR rows N ev pv H) rows.length (cQ0 rows (RJ N fe d i&&Mk fe fp m k 0)):=by
 intro d
 induction d with
 |zero=>
  intro i H hd h1;have hi:i=m:=by omega
  subst hi;have:=MP (rows:=rows) (N:=N) he hm hp hk k 0 H (by omega) (by omega);have hp':=Ag hp (.cells [.int .i64 N,ev,pv]::H);unfold Lc59l28;simp[RJ,DZ hp'];simpa using this
 |succ d ih=>
  intro i H hd h1;have hi:i<m:=by omega
  have hw:IntKind.i64.wrap ((i:Int)+1)=((i+1:Nat):Int):=wS (by omega);have hl:=Bl he;have he':=Ag he (.cells [.int .i64 N,ev,pv]::H);have e1:=B7 he' hi;have e2:=P3 he' hi;simp only[RJ];have x0:AI 0 2=some 0:=rfl;have x1:AI 1 2=some 1:=rfl;have next:=ih (i+1) (H++[.cells [.int .i64 (gI fe (i*2)),.int .i64 (gI fe (i*2+1))]]) (by omega) (by omega)
  by_cases c0:0<=gI fe (i*2)
  ·by_cases c1:gI fe (i*2)<gI fe (i*2+1)
   ·by_cases c2:gI fe (i*2+1)<N
    ·by_cases c3:0<i
     ·have hwm:IntKind.i64.wrap ((i:Int)-1)=((i-1:Nat):Int):=by rw[AM (by omega) (by omega)];omega
      have hR:Ae (cR rows N ev pv (H++[.cells [.int .i64 (gI fe (i*2)),.int .i64 (gI fe (i*2+1))]])) (rows.length+(H.length+1))=some [.int .i64 (gI fe (i*2)),.int .i64 (gI fe (i*2+1))]:=by
       unfold Ae;simp
      have he2:=Ag he (.cells [.int .i64 N,ev,pv]::(H++[.cells [.int .i64 (gI fe (i*2)),.int .i64 (gI fe (i*2+1))]]));have e3:=B7 he2 (i:=i-1) (by omega);have hA:=Yq he2 (i:=i-1) (by omega) (c:=.at_ 2);rw[Yt (by omega)]at hA;have hB:IsL (cR rows N ev pv (H++[.cells [.int .i64 (gI fe (i*2)),.int .i64 (gI fe (i*2+1))]])) (.slice (rows.length+(H.length+1)) 0 2 (.at_ 2)) [gI fe (i*2),gI fe (i*2+1)]:=GD (n:=0) (off:=0) (c:=.at_ 2) (l:=[gI fe (i*2),gI fe (i*2+1)]) hR rfl;have hC:=Ff hA hB (by simp) (by simp);generalize hcm:Jt [gI fe ((i-1)*2),gI fe ((i-1)*2+1)] [gI fe (i*2),gI fe (i*2+1)]=cm at hC
      by_cases c4:cm<0
      ·have hek:eok N fe i=true:=decide_eq_true ⟨c0,c1,c2,fun _=>by rw[hcm];exact c4⟩
       unfold Lc59l28;simp[hi,e1,e2,e3,seg,splice,Ac,x0,x1,c0,c1,c2,c3,hwm,BR,A8,Aj,hC,c4,hek,hw,show ¬(gI fe (i*2)<0)by omega,show ¬(gI fe (i*2+1)<=gI fe (i*2))by omega,show ¬(N<=gI fe (i*2+1))by omega,show ¬(0<=cm)by omega];simpa using next
      ·have hek:eok N fe i=false:=decide_eq_false (fun hh=>by have:=hh.2.2.2 c3;rw[hcm]at this;omega)
       unfold Lc59l28;simp[hi,e1,e2,e3,seg,splice,Ac,x0,x1,c0,c1,c2,c3,hwm,BR,A8,Aj,hC,hek,show ¬(gI fe (i*2)<0)by omega,show ¬(gI fe (i*2+1)<=gI fe (i*2))by omega,show ¬(N<=gI fe (i*2+1))by omega,show(0<=cm)by omega]
     ·have hek:eok N fe i=true:=decide_eq_true ⟨c0,c1,c2,fun h=>absurd h c3⟩
      unfold Lc59l28;simp[hi,e1,e2,seg,splice,Ac,x0,x1,c0,c1,c2,c3,hek,hw,show ¬(gI fe (i*2)<0)by omega,show ¬(gI fe (i*2+1)<=gI fe (i*2))by omega,show ¬(N<=gI fe (i*2+1))by omega];simpa using next
    ·have hek:eok N fe i=false:=decide_eq_false (fun hh=>c2 hh.2.2.1)
     unfold Lc59l28;simp[hi,e1,e2,seg,splice,Ac,x0,x1,hek,show ¬(gI fe (i*2)<0)by omega,show ¬(gI fe (i*2+1)<=gI fe (i*2))by omega,show(N<=gI fe (i*2+1))by omega]
   ·have hek:eok N fe i=false:=decide_eq_false (fun hh=>c1 hh.2.1)
    unfold Lc59l28;simp[hi,e1,e2,seg,splice,Ac,x0,x1,hek,show ¬(gI fe (i*2)<0)by omega,show(gI fe (i*2+1)<=gI fe (i*2))by omega]
  ·have hek:eok N fe i=false:=decide_eq_false (fun hh=>c0 hh.1)
   unfold Lc59l28;simp[hi,e1,e2,seg,splice,Ac,x0,x1,hek,show(gI fe (i*2)<0)by omega]
theorem Ng(he:El rows 2 ev (Ad .i64 fe) m)(hm:m<=1000000)(hp:El rows 3 pv (Ad .i64 fp) k)(hk:k<=1000000):Ret F 59 [.agg [.int .i64 N,ev,pv]] rows=some (.int .i64 (if JT N fe m fp k then 0 else 30),rows,none):=by
 have A9:=An he;have one2:=An hp;have he':=Ag he [.cells [.int .i64 N,ev,pv]];have hp':=Ag hp [.cells [.int .i64 N,ev,pv]];have hmain:=Ms (rows:=rows) (N:=N) he hm hp hk m 0 [] (by omega) (by omega);refine i59 F59 ?_
 by_cases c1:N<1
 ·have:JT N fe m fp k=false:=by unfold JT;rw[decide_eq_false (by omega)];rfl
  simp[AV.cells,A9,one2,c1,this]
 ·by_cases c2:6<N
  ·have:JT N fe m fp k=false:=by unfold JT;rw[decide_eq_false (by omega)];rfl
   simp[AV.cells,A9,one2,c1,c2,this]
  ·by_cases c3:10<m
   ·have:JT N fe m fp k=false:=by unfold JT;rw[decide_eq_false (by omega)];rfl
    simp[AV.cells,A9,one2,c1,c2,DZ he',show((10:Int)<m)by omega,this]
   ·by_cases c4:6<k
    ·have:JT N fe m fp k=false:=by unfold JT;rw[decide_eq_false (by omega)];rfl
     simp[AV.cells,A9,one2,c1,c2,DZ he',DZ hp',show ¬((10:Int)<m)by omega,show((6:Int)<k)by omega,this]
    ·have:JT N fe m fp k=(RJ N fe m 0&&Mk fe fp m k 0):=by unfold JT;rw[decide_eq_true (by omega)];rfl
     rw[this];generalize (RJ N fe m 0&&Mk fe fp m k 0)=bb at hmain ⊢;simp[AV.cells,A9,one2,c1,c2,DZ he',DZ hp',show ¬((10:Int)<m)by omega,show ¬((6:Int)<k)by omega];exact hmain
end
theorem QI{a b c d:Int}(h:a<c\/(a=c/\b<d)):Jt [a,b] [c,d]<0:=by
 simp only[Jt];rcases h with h|⟨rfl,h⟩
 ·rw[if_pos h];omega
 ·rw[if_neg (by omega),if_neg (by omega),if_pos h];omega
theorem Rx{a b c d e f:Int}(h:a<d\/(a=d/\(b<e\/(b=e/\c<f)))):Jt [a,b,c] [d,e,f]<0:=by
 simp only[Jt];rcases h with h|⟨rfl,h|⟨rfl,h⟩⟩
 ·rw[if_pos h];omega
 ·rw[if_neg (by omega),if_neg (by omega),if_pos h];omega
 ·rw[if_neg (by omega),if_neg (by omega),if_neg (by omega),if_neg (by omega),if_pos h];omega
theorem NC{l:List Nat}(h:l.Pairwise (· < ·)){i j:Nat}(hij:i<j)(hj:j<l.length):gN l i<gN l j:=by
 rw[EO (by omega),EO hj];exact List.pairwise_iff_getElem.1 h i j (by omega) hj hij
theorem Pa{N:Nat}{ks ps:List Nat}(h:GOK N ks ps):∀d i,i+d=ks.length->RJ N (eC ks) d i=true
 |0,_,_=>rfl
 |
  d+1,i,hd=>by
  have hi:i<ks.length:=by omega
  obtain⟨e1,e2⟩:=KI hi;have hm:=h.ee _ (AH hi);have:eok N (eC ks) i=true:=by
   refine decide_eq_true ⟨by omega,by omega,by omega,fun h0=>?_⟩;obtain⟨e3,e4⟩:=KI (ks:=ks) (i:=i-1) (by omega);have hlt:=NC h.es (i:=i-1) (j:=i) (by omega) hi;have hm':=h.ee _ (AH (l:=ks) (i:=i-1) (by omega));rw[e1,e2,e3,e4];apply QI;omega
  rw[RJ,this,Pa h d (i+1) (by omega)]
  rfl
theorem NP{N:Nat}{ks ps:List Nat}(h:GOK N ks ps):∀d i,i+d=ps.length->Mk (eC ks) (pC ps) ks.length d i=true
 |0,_,_=>rfl
 |
  d+1,i,hd=>by
  have hi:i<ps.length:=by omega
  obtain⟨e1,e2,e3⟩:=W1 hi;have hm:=h.pe _ (AH hi);have:pok (eC ks) (pC ps) ks.length i=true:=by
   refine decide_eq_true ⟨by omega,by omega,fun h0=>?_,?_,?_,?_⟩
   ·obtain⟨e4,e5,e6⟩:=W1 (ps:=ps) (i:=i-1) (by omega)
    have hlt:=NC h.psd (i:=i-1) (j:=i) (by omega) hi;have hm':=h.pe _ (AH (l:=ps) (i:=i-1) (by omega));rw[e1,e2,e3,e4,e5,e6];apply Rx;omega
   ·rw[e1,e2]
    exact(FP (by omega)).2 hm.2.2.2.1
   ·rw[e1,e3]
    exact(FP (by omega)).2 hm.2.2.2.2.1
   ·rw[e2,e3]
    exact(FP (by omega)).2 hm.2.2.2.2.2
  rw[Mk,this,NP h d (i+1) (by omega)]
  rfl
theorem UK{N:Nat}{ks ps:List Nat}(h:GOK N ks ps):JT N (eC ks) ks.length (pC ps) ps.length=true:=by
 have h1:=h.n1;have h2:=h.n6;have h3:=h.ek;have h4:=h.pk;unfold JT;rw[decide_eq_true (by omega),Pa h _ 0 (by omega),NP h _ 0 (by omega)]
 rfl
section
variable {rows:List Row}{v:AV}{l:List Int}
def Vt(x:Int):Bool:=decide (x < -100\/100<x)
theorem Ve{x:Int}:Ret F 94 [.int .i64 x] rows=some (.bool (Vt x),rows,none):=by
 refine i94 F94 ?_;unfold Vt
 by_cases h:x < -100<;>simp[h]
theorem Ky{fid:Nat}{cs:List AV}{p:Int->Bool}(h:IsL rows v l)(hl:l.length<4611686018427387904)(hp:∀x∈l,Ret F fid (.int .i64 x::cs) rows=some (.bool (p x),rows,none)){q:AV×List Row×Option Nat}(hq:q=(.int .i64 (match l.findIdx? p with|some i=>(i:Int)|none=>-1),rows,none)):∀(n i:Nat),l.length-i=n->i<=l.length->(∀j,j<i->p (gI l j)=false)->
  Lc103l2 F (.fn [.t 4]) v (.func fid cs) (.int .i64 l.length) (.int .i64 i) rows rows.length (fun r=>fin rows r.1 r.2.1 r.2.2=q):=by
 intro n
 induction n with
 |zero=>
  intro i hn h1 hf;have hi:i=l.length:=by omega
  subst hi;have hnone:l.findIdx? p=none:=by
   rw[List.findIdx?_eq_none_iff];intro x hx;obtain⟨j,hj,rfl⟩:=Ad8.1 hx;have:=hf j hj;rwa[CY hj]at this
  unfold Lc103l2;simp[hq,hnone]
 |succ n ih=>
  intro i hn h1 hf;have hi:i<l.length:=by omega
  have hr:=hp (gI l i) (FT hi);unfold Lc103l2;simp (disch:=first|omega|(simp;done)|fail) [hi,Eg h,Ca h,hr];cases hpi:p (gI l i)with
  |true=>
   have hsome:l.findIdx? p=some i:=by
    rw[List.findIdx?_eq_some_iff_getElem];refine⟨hi,?_,?_⟩
    ·rwa[CY hi]at hpi
    ·intro j hj
     have:=hf j hj;rw[CY (by omega)]at this;simpa using this
   simp[hq,hsome]
  |false=>
   simp (disch:=first|omega|(simp;done)|fail) [AM];refine ih (i+1) (by omega) (by omega) fun j hj=>?_
   by_cases e:j=i
   ·subst e;exact hpi
   ·exact hf j (by omega)
theorem HY{fid:Nat}{cs:List AV}{p:Int->Bool}(h:IsL rows v l)(hl:l.length<4611686018427387904)(hp:∀x∈l,Ret F fid (.int .i64 x::cs) rows=some (.bool (p x),rows,none)):Ret F 83 [v,.func fid cs] rows=some (.bool (l.any p),rows,none):=by
 have h103:Ret F 103 [v,.func fid cs] rows=some (.int .i64 (match l.findIdx? p with|some i=>(i:Int)|none=>-1),rows,none):=by
  refine i103 F103 ?_;simp[Dn h];exact Ky h hl hp rfl _ 0 rfl (by omega) (fun j hj=>absurd hj (by omega))
 refine i83 F83 ?_;simp[h103];cases e:l.findIdx? p with
 |none=>
  simp only;rw[List.findIdx?_eq_none_iff]at e;simp;exact e
 |some i=>
  have hi:=(List.findIdx?_eq_some_iff_getElem.1 e)
  obtain⟨h1,h2,_⟩:=hi;simp;exact⟨_,Aer h1,h2⟩
theorem Du{N:AV}{ev pv:AV}{cs:List AV}{m:Nat}(he:El rows 2 ev cs m)(h1:N.one=true)(h2:pv.one=true):Ret F 67 [.agg [N,ev,pv]] rows=some (.int .i64 m,rows,none):=by
 have A9:=An he;have he':=Ag he [.cells [N,ev,pv]];refine i67 F67 ?_;simp[AV.cells,A9,h1,h2,DZ he']
def opn(b:Bool)(n:Int)(l:List Int):Int:=if b=false then 30 else if(l.length:Int)=n/\l.any Vt=false then 0 else 1
theorem Ra{N n:Int}{ev pv g':AV}{fe fp:List Int}{m k f:Nat}(he:El rows 2 ev (Ad .i64 fe) m)(hm:m<=1000000)(hp:El rows 3 pv (Ad .i64 fp) k)(hk:k<=1000000)(h:IsL rows v l)(hl:l.length<=1000000)
  (hn:∀L,Ret F f [g'] (rows++L)=some (.int .i64 n,rows++L,none)):Ret F 66 [.agg [.int .i64 N,ev,pv],v,.iface bd (.agg [.int .u64 f,g'])] rows=some (.int .i64 (opn (JT N fe m fp k) n l),rows,none):=by
 have A9:=An he;have one2:=An hp;have hC:=Ng (N:=N) (Ag he [.cells [.int .i64 N,ev,pv]]) hm (Ag hp [.cells [.int .i64 N,ev,pv]]) hk;have h':=Al h [.cells [.int .i64 N,ev,pv]];have hF:=HY h' (by omega) (fid:=94) (cs:=[]) (p:=Vt) (fun x _=>Ve);have hn1:=hn [.cells [.int .i64 N,ev,pv]];refine i66 F66 ?_;unfold opn;cases hb:JT N fe m fp k with
 |false=>
  rw[hb]at hC;simp[AV.cells,A9,one2,hC,seg,splice]
 |true=>
  rw[hb]at hC
  by_cases c1:(l.length:Int)=n
  ·cases hF2:l.any Vt with
   |false=>
    rw[hF2]at hF;simp[AV.cells,A9,one2,hC,seg,splice,Dn h',AG,hn1,c1,hF]
   |true=>
    rw[hF2]at hF;simp[AV.cells,A9,one2,hC,seg,splice,Dn h',AG,hn1,c1,hF]
  ·simp[AV.cells,A9,one2,hC,seg,splice,Dn h',AG,hn1,c1]
end
section
variable {rows:List Row}{fv rv:AV}{fw rg:List Int}{ev pv:AV}{fl:List Int}{m:Nat}
theorem IT{fw:List Int}(h:∀x∈fw,-100<=x/\x<=100){i:Nat}(hi:i<fw.length) : -100<=gI fw i/\gI fw i<=100:=h _ (FT hi)
end
section
variable {B L:List Row}{sz n:Nat}{c:Cap}{v:AV}{cs:List AV}
def Acc(B L:List Row)(sz:Nat)(c:Cap)(v:AV)(cs:List AV)(n:Nat):Prop:=
 cs.length=n*sz/\((v = .nilslice/\cs=[])\/∃k,v = .slice (B.length+k) 0 n c/\L[k]?=some (.cells cs))
theorem CM:Acc B L sz c .nilslice [] 0:=⟨by simp,.inl ⟨rfl,rfl⟩⟩
theorem FF(h:Acc B L sz c v cs n)(M:List Row):Acc B (L++M) sz c v cs n:=by
 obtain⟨h1,h2⟩:=h;refine⟨h1,?_⟩;rcases h2 with h2|⟨k,hv,hk⟩
 ·exact .inl h2
 ·refine .inr ⟨k,hv,?_⟩
  rw[AcD (AcF.1 hk).1];exact hk
theorem IA(h:Acc B L sz c v cs n)(hsz:0<sz):El (B++L) sz v cs n:=by
 obtain⟨h1,h2⟩:=h;rcases h2 with ⟨rfl,rfl⟩|⟨k,rfl,hk⟩
 ·have:n=0:=by
   rcases Aew.1 (show n*sz=0 from h1.symm)with h|h
   ·exact h
   ·omega
  subst this;exact BY
 ·have hr:Ae (B++L) (B.length+k)=some cs:=by
   unfold Ae;rw[AcG (by omega),AcS,hk]
  show A5 _ _ _=_;unfold A5;simp only[hr];unfold seg;rw[if_pos (by omega),<-h1];simp
theorem Fg{i:Nat}{kd:IntKind}{l:List Int}(h:Acc B L 1 c v (Ad kd l) n)(hi:i<n):evP (B++L) (.idxS 1 (.c v) (.c (.int .i64 i)))=some (.ptr (sid v) (G1 v+i)):=by
 have:=B7 (IA h (by omega)) hi;rwa[Add]at this
theorem Lw{i:Nat}{l:List Int}(h:Acc B L 1 c v (Ad .i64 l) n)(hi:i<n):evP (B++L) (.load1 (.c (.ptr (sid v) (G1 v+i))))=some (.int .i64 (gI l i)):=by
 have h1:=h.1;exact F0 (IA h (by omega)) (by simp[Ad]at h1;omega)
theorem Sw(h:Acc B L sz c v cs n)(hn:0<n)(hsz:0<sz):B.length<=sid v/\sid v<B.length+L.length:=by
 obtain⟨h1,h2⟩:=h;rcases h2 with ⟨rfl,rfl⟩|⟨k,rfl,hk⟩
 ·have:=Ad1 hn hsz
  simp at h1;omega
 ·have:=(AcF.1 hk).1
  simp only[HK];omega
theorem BQ{x:List AV}{low b:Nat}(h:Acc B L sz (.op sz) v cs n)(hx:x.length=sz)(hsz:0<sz)(hl:n<1000000000)(hlow:low<=B.length):
  ∃v' L',evE (B++(L++[.cells x])) low (.app sz b (.c v) (.c (.slice (B.length+L.length) 0 1 (.at_ 1))))=some (v',B++L',low)/\Acc B L' sz (.op sz) v' (cs++x) (n+1)/\
   (∀id,id<B.length+L.length->(v = .nilslice\/id≠sid v)->(B++L')[id]?=(B++L)[id]?)/\B.length+L.length<=sid v'/\L.length<=L'.length:=by
 obtain⟨h1,h2⟩:=h;have hr:Ae (B++(L++[.cells x])) (B.length+L.length)=some x:=by
  unfold Ae;simp
 have htmp:El (B++(L++[.cells x])) sz (.slice (B.length+L.length) 0 1 (.at_ 1)) x 1:=by
  unfold El A5;simp only[hr];unfold seg;rw[if_pos (by omega)];simp only[Aeg,AcN,Nat.one_mul];rw[Adq (by omega)]
 have hlen:(cs++x).length=(n+1)*sz:=by rw[AcO,h1,hx,AeB]
 rcases h2 with ⟨rfl,rfl⟩|⟨k,rfl,hk⟩
 ·have h0:n=0:=by
   rcases Aew.1 (show n*sz=0 from h1.symm)with h|h
   ·exact h
   ·omega
  subst h0;refine⟨_,L++[.cells x,.cells x],?_,⟨hlen,.inr ⟨L.length+1,rfl,by simp⟩⟩,fun id h1 _=>by rw[<-List.append_assoc,AcD (by simp;omega)],by simp only[HK];omega,by simp⟩;rw[HJ htmp (by omega) (by simp[lim])];simp[Adb]
 ·have hkl:=(AcF.1 hk).1
  have hcell:cells? (B++(L++[.cells x])) (B.length+k)=some cs:=by
   unfold cells?;rw[AcG (by omega),AcS,AcD hkl,hk]
  refine⟨_,L.set k .dead++[.cells x,.cells (cs++x)],?_,⟨hlen,.inr ⟨L.length+1,rfl,by simp⟩⟩,fun id h1 h2=>?_,by simp only[HK];omega,by simp⟩
  ·rw[Lr hcell (xs:=cs) (by unfold seg;rw[if_pos (by omega),<-h1];simp) htmp (by omega) (by simp[lim];omega)]
   simp only[AcI,AcQ];refine⟨by simp[Adb],?_,Ac (by omega)⟩;rw[AcW _ _ (by omega),AcS,List.set_append_left _ _ hkl];simp
  ·have h3:id≠B.length+k:=by
    rcases h2 with h2|h2
    ·simp at h2
    ·simpa using h2
   by_cases c:id<B.length
   ·rw[AcD c,AcD c]
   ·rw[AcG (by omega),AcD (by rw[Adh];omega),AcH (by omega),AcG (by omega)]
theorem Lx{x:List AV}{low b:Nat}(h:Acc B L sz (.op sz) v cs n)(hx:x.length=sz)(hsz:0<sz)(hl:n<1000000000)(hlow:low<=B.length):
  ∃v' L',evE (B++(L++[.cells x])) low (.app sz b (.c v) (.c (.slice (B.length+L.length) 0 1 (.at_ 1))))=some (v',B++L',low)/\Acc B L' sz (.op sz) v' (cs++x) (n+1):=by
 obtain⟨v',L',e,hA,_⟩:=BQ (low:=low) (b:=b) h hx hsz hl hlow;exact⟨v',L',e,hA⟩
theorem Dx{i:Nat}{l:List Int}{x:Int}{low:Nat}(h:Acc B L 1 c v (Ad .i64 l) n)(hi:i<n)(hlow:low<=B.length):
  ∃L',evE (B++L) low (.store1 (.c (.ptr (sid v) (G1 v+i))) (.c (.int .i64 x)))=some (.tup [],B++L',low)/\Acc B L' 1 c v (Ad .i64 (l.set i x)) n/\L'.length=L.length/\∀(id:Nat) (vs:List AV),id≠sid v->Ae (B++L) id=some vs->Ae (B++L') id=some vs:=by
 obtain⟨h1,h2⟩:=h;have hl:l.length=n:=by simpa[Ad]using h1
 rcases h2 with ⟨rfl,e⟩|⟨k,rfl,hk⟩
 ·rw[e]at h1
  simp at h1;omega
 ·have hkl:=(AcF.1 hk).1
  have hcell:cells? (B++L) (B.length+k)=some (Ad .i64 l):=by
   unfold cells?;rw[AcG (by omega),AcS,hk]
  have hset:(Ad .i64 l).set i (.int .i64 x)=Ad .i64 (l.set i x):=by simp[Ad,Aeh]
  refine⟨L.set k (.cells (Ad .i64 (l.set i x))),?_,⟨by simp[Ad,hl],.inr ⟨k,rfl,by simp[hkl]⟩⟩,by simp,?_⟩
  ·rw[A4]
   simp only[HK,YA,Ads,hcell,Ac4];rw[if_pos ⟨by simp[Ad];omega,rfl⟩,hset,Ac (by omega),AcW _ _ (by omega),AcS]
  ·intro id vs hid hr
   unfold Ae at hr ⊢;simp only[HK]at hid
   by_cases c:id<B.length
   ·rw[AcD c]at hr ⊢
    exact hr
   ·rw[AcG (by omega)]at hr ⊢
    rw[AcH (by omega)];exact hr
theorem Ka{e:Int}{kd:IntKind}{l:List Int}(h:Acc B L 1 c v (Ad .i64 l) n)(hcp:c = .op 1\/∃m,c = .at_ m/\n<=m):
  ∃v' X,fin B (.tup [v,.int kd e]) (B++L) B.length=(.tup [v',.int kd e],B++X,none)/\X.all (Row.under 0)=true/\IsL (B++X) v' l/\l.length=n/\Cp 1 v':=by
 obtain⟨h1,h2⟩:=h;have hl:l.length=n:=by simpa[Ad]using h1
 rcases h2 with ⟨rfl,e⟩|⟨k,rfl,hk⟩
 ·have h0:n=0:=by rw[e]at h1;simpa using h1.symm
  have:l=[]:=Aed (by omega);subst this;exact⟨.nilslice,[],by simp,rfl,Pq,hl,trivial⟩
 ·have hu:(Ad .i64 l).all (·.ids.isEmpty)=true:=Fu Bq
  refine⟨_,[.cells (Ad .i64 l)],Ih hk hu,by simp,?_,hl,?_⟩
  ·have hr:Ae (B++[.cells (Ad .i64 l)]) B.length=some (Ad .i64 l):=by simp[Ae]
   rw[<-hl];exact GD (n:=0) hr (by rw[DI,if_pos (by omega)];simp)
  ·rcases hcp with rfl|⟨m,rfl,hm⟩
   ·rfl
   ·exact hm
theorem QJ{l:List Int}(h:Acc B L 1 c v (Ad .i64 l) n)(hcp:c = .op 1\/∃m,c = .at_ m/\n<=m):
  ∃v' X,fin B v (B++L) B.length=(v',B++X,none)/\X.all (Row.under 0)=true/\IsL (B++X) v' l/\l.length=n/\Cp 1 v':=by
 obtain⟨h1,h2⟩:=h;have hl:l.length=n:=by simpa[Ad]using h1
 rcases h2 with ⟨rfl,e⟩|⟨k,rfl,hk⟩
 ·have h0:n=0:=by rw[e]at h1;simpa using h1.symm
  have:l=[]:=Aed (by omega);subst this;exact⟨.nilslice,[],by simp,rfl,Pq,hl,trivial⟩
 ·have hu:(Ad .i64 l).all (·.ids.isEmpty)=true:=Fu Bq
  refine⟨_,[.cells (Ad .i64 l)],E3 hk hu,by simp,?_,hl,?_⟩
  ·have hr:Ae (B++[.cells (Ad .i64 l)]) B.length=some (Ad .i64 l):=by simp[Ae]
   rw[<-hl];exact GD (n:=0) hr (by rw[DI,if_pos (by omega)];simp)
  ·rcases hcp with rfl|⟨m,rfl,hm⟩
   ·rfl
   ·exact hm
theorem O1{m:Nat}:(List.replicate m [AV.int .i64 0]).flatten=Ad .i64 (List.replicate m 0):=by
 induction m with
 |zero=>rfl
 |succ m ih=>rw[AdZ,AdZ,Aez,ih];rfl
theorem RN{m:Nat}:Acc B (L++[.cells (Ad .i64 (List.replicate m 0))]) 1 (.at_ m) (.slice (B.length+L.length) 0 m (.at_ m)) (Ad .i64 (List.replicate m 0)) m:=⟨by simp[Ad],.inr ⟨L.length,rfl,by simp⟩⟩
end
variable {F:Nat->Option IFn}{cx:Ctx}{k:List Itm}{s:St}{l:List (Nat×AV)}{rows:List Row}{low:Nat}{r:AV×List Row×Nat->Prop}
@[simp] theorem uc22k0:X0 F cx k l rows low r 53 c22k0↔Y0 F cx k r rows low 53 [(5,(.int .i64 0)),(4,lk l 7),(52,lk l 7),(7,lk l 7)]:=rg
@[simp] theorem uc22s1:U c22s1 (.seq c22k0 .ret):=ur
@[simp] theorem uc22k3:X0 F cx k l rows low r 53 c22k3↔eb rows (.bin .add (cl l 24) (ci 1)) fun v0=>Y0 F cx k r rows low 53 ([(24,v0),(51,v0)]++kp l F5):=rg
@[simp] theorem uc22k4:X0 F cx k l rows low r 53 c22k4↔eb rows (.idxA 2 1 (cl l 9) (ci 1)) fun v0=>eb rows (.load1 (.c v0)) fun v1=>eb rows (.idxS 1 (cl l 7) (.c v1)) fun v2=>eb rows (.load1 (.c v2)) fun v3=>eb rows (.idxS 1 (cl l 1) (cl l 8)) fun v4=>eb rows (.load1 (.c v4)) fun v5=>eb rows (.bin .add (.c v3) (.c v5)) fun v6=>eb rows (.idxS 1 (cl l 7) (.c v1)) fun v7=>bnd (evE rows low (.store1 (.c v7) (.c v6))) fun q8=>Y0 F cx k r q8.2.1 q8.2.2 53 ([(50,v7),(49,v6),(48,v5),(47,v4),(46,lk l 8),(45,lk l 1),(44,v3),(43,v2),(42,v1),(41,v0),(40,lk l 7)]++kp l MO):=rg
@[simp] theorem uc22k5:X0 F cx k l rows low r 53 c22k5↔eb rows (.idxA 2 1 (cl l 9) (ci 0)) fun v0=>eb rows (.load1 (.c v0)) fun v1=>eb rows (.idxS 1 (cl l 7) (.c v1)) fun v2=>eb rows (.load1 (.c v2)) fun v3=>eb rows (.idxS 1 (cl l 1) (cl l 8)) fun v4=>eb rows (.load1 (.c v4)) fun v5=>eb rows (.bin .sub (.c v3) (.c v5)) fun v6=>eb rows (.idxS 1 (cl l 7) (.c v1)) fun v7=>bnd (evE rows low (.store1 (.c v7) (.c v6))) fun q8=>Y0 F cx k r q8.2.1 q8.2.2 53 ([(39,v7),(38,v6),(37,v5),(36,v4),(35,lk l 8),(34,lk l 1),(33,v3),(32,v2),(31,v1),(30,v0),(29,lk l 7)]++kp l MO):=rg
@[simp] theorem uc22s6:U c22s6 (.seq c22k5 c22k4):=ur
@[simp] theorem uc22k7:X0 F cx k l rows low r 53 c22k7↔eb rows (.idxS 2 (cl l 22) (cl l 24)) fun v0=>eb rows (.loadN 2 (.c v0)) fun v1=>bnd (evE rows low (.box (.c (.agg [.int .i64 0,.int .i64 0])))) fun q2=>bnd (evE q2.2.1 q2.2.2 (.storeN 2 (.c q2.1) (.c v1))) fun q3=>Y0 F cx k r q3.2.1 q3.2.2 53 ([(8,lk l 24),(9,q2.1),(28,v1),(27,v0),(26,lk l 24)]++kp l F5):=rg
@[simp] theorem uc22s8:U c22s8 (.seq (.block 1 (.seq c22k7 c22s6)) c22k3):=ur
@[simp] theorem uc22s9:U c22s9 (.seq (.cond (.t 25) .skip (.exit 0)) c22s8):=ur
@[simp] theorem uc22k10:X0 F cx k l rows low r 53 c22k10↔eb rows (.bin .lss (cl l 24) (cl l 23)) fun v0=>Y0 F cx k r rows low 53 ([(25,v0)]++kp l F5):=rg
@[simp] theorem uc22s11:U c22s11 (.block 0 (.loop c22l2)):=ur
@[simp] theorem uc22k12:X0 F cx k l rows low r 53 c22k12↔eb rows (.fieldA 1 (cl l 2)) fun v0=>eb rows (.load1 (.c v0)) fun v1=>eb rows (.len 0 (.c v1)) fun v2=>Y0 F cx k r rows low 53 ([(24,(.int .i64 0)),(23,v2),(22,v1),(21,v0)]++kp l Eh):=rg
@[simp] theorem uc22s13:U c22s13 (.seq (.seq c22k12 c22s11) c22s1):=ur
@[simp] theorem uc22k14:X0 F cx k l rows low r 53 c22k14↔eb rows (.fieldA 0 (cl l 2)) fun v0=>eb rows (.load1 (.c v0)) fun v1=>bnd (evE rows low (.make [.int .i64 0] 8 (.c v1) (.c v1))) fun q2=>Y0 F cx k r q2.2.1 q2.2.2 53 [(7,q2.1),(20,q2.1),(19,v1),(18,v0),(1,lk l 1),(2,lk l 2)]:=rg
@[simp] theorem uc22s15:U c22s15 (.seq c22k14 c22s13):=ur
@[simp] theorem uc22k16:X0 F cx k l rows low r 53 c22k16↔Y0 F cx k r rows low 53 [(5,lk l 6),(4,.nilslice),(17,lk l 6),(6,lk l 6)]:=rg
@[simp] theorem uc22s17:U c22s17 (.cond (.t 16) (.seq c22k16 .ret) .skip):=ur
@[simp] theorem uc22k18:X0 F cx k l rows low r 53 c22k18↔eb rows (.bin .neq (cl l 6) (ci 0)) fun v0=>Y0 F cx k r rows low 53 ([(16,v0),(15,lk l 6)]++kp l Il):=rg
@[simp] theorem uc22s19:U c22s19 (.seq c22k18 c22s17):=ur
@[simp] theorem uc22k20:X0 F cx k l rows low r 53 c22k20↔eb rows (.loadN 3 (cl l 2)) fun v0=>eb rows (.loadN 3 (cl l 2)) fun v1=>eb rows (.bind 67 [(.c v1)]) fun v2=>bnd (Ret F 66 [v0,lk l 1,v2] rows) fun q3=>Y0 F cx k r q3.2.1 (AC low q3.2.2) 53 [(6,q3.1),(14,q3.1),(13,v2),(12,v1),(11,lk l 1),(10,v0),(1,lk l 1),(2,lk l 2)]:=rg
@[simp] theorem uc22s21:U c22s21 (.seq (.seq c22k20 c22s19) c22s15):=ur
@[simp] theorem uc22k22:X0 F cx k l rows low r 53 c22k22↔bnd (evE rows low (.box (cl l 0))) fun q0=>Y0 F cx k r q0.2.1 q0.2.2 53 [(5,(.int .i64 0)),(4,.nilslice),(2,q0.1),(0,lk l 0),(1,lk l 1)]:=rg
@[simp] abbrev Kc22l2:List Itm:=.inLoop c22l2::.inBlock 0::.code c22s1::[]
def Lc22l2(F:Nat->Option IFn)(cx:Ctx)(x1 x7 x22 x23 x24:AV)(rows:List Row)(low:Nat)(r:AV×List Row×Nat->Prop):Prop:=Ex F cx (.code c22l2::Kc22l2) ⟨mk 53 [(1,x1),(7,x7),(22,x22),(23,x23),(24,x24)],rows,low⟩ r
@[simp] theorem nc22l2:Ex F cx (Kc22l2) ⟨mk 53 l,rows,low⟩ r↔Lc22l2 F cx (lk l 1) (lk l 7) (lk l 22) (lk l 23) (lk l 24) rows low r:=AA (keep:=F5) (by kernel_rfl)
@[simp] theorem uc22l2:U c22l2 (.seq c22k10 c22s9):=ur
@[simp] theorem uc22b:U c22b (.seq c22k22 c22s21):=ur
theorem i22{x0 x1:AV}(hF:F 22=some c22){q:AV×List Row×Option Nat}(h:Ex F (.fn [.t 4,.t 5]) [.code c22b] ⟨mk 53 [(0,x0),(1,x1)],rows,rows.length⟩ fun r=>fin rows r.1 r.2.1 r.2.2=q):Ret F 22 [x0,x1] rows=some q:=Av hF h
@[simp] theorem uc33k0:X0 F cx k l rows low r 41 c33k0↔Y0 F cx k r rows low 41 [(5,(.int .i64 0)),(4,lk l 7),(40,lk l 7),(7,lk l 7)]:=rg
@[simp] theorem uc33s1:U c33s1 (.seq c33k0 .ret):=ur
@[simp] theorem uc33k3:X0 F cx k l rows low r 41 c33k3↔eb rows (.bin .add (cl l 21) (ci 1)) fun v0=>Y0 F cx k r rows low 41 ([(21,v0),(39,v0)]++kp l F8):=rg
@[simp] theorem uc33k4:X0 F cx k l rows low r 41 c33k4↔em 0 rows (.idxA 2 1 (cl l 9) (ci 1)) fun v0=>em 4 rows (.load1 (.c v0)) fun v1=>em 14 rows (.idxS 1 (cl l 1) (.c v1)) fun v2=>em 30 rows (.load1 (.c v2)) fun v3=>em 0 rows (.idxA 2 1 (cl l 9) (ci 0)) fun v4=>em 128 rows (.load1 (.c v4)) fun v5=>em 448 rows (.idxS 1 (cl l 1) (.c v5)) fun v6=>em 960 rows (.load1 (.c v6)) fun v7=>em 2046 rows (.bin .sub (.c v3) (.c v7)) fun v8=>bnd (evE (rows++Ai 4094 rn) (rows.length+rn.length) (.mkslice 1 [.int .i64 0] [(0,1,(.c v8))])) fun q9=>q9.2.2=rows.length+rn.length/\bnd (some (rn++List.map (fun(x:Row)=>(12,x)) (q9.2.1.drop (rows.length+rn.length)))) fun e9=>bnd (evE (rows++List.map (fun(x:Nat×Row)=>x.2) e9) low (.app 1 8 (cl l 7) (.c q9.1))) fun q10=>Y0 F cx k r q10.2.1 q10.2.2 41 ([(7,q10.1),(38,q10.1),(37,q9.1),(36,v8),(35,v7),(34,v6),(33,v5),(32,v4),(31,lk l 1),(30,v3),(29,v2),(28,v1),(27,v0),(26,lk l 1),(25,lk l 7)]++kp l Uv):=rg
@[simp] theorem uc33k5:X0 F cx k l rows low r 41 c33k5↔eb rows (.idxS 2 (cl l 19) (cl l 21)) fun v0=>eb rows (.loadN 2 (.c v0)) fun v1=>bnd (evE rows low (.box (.c (.agg [.int .i64 0,.int .i64 0])))) fun q2=>bnd (evE q2.2.1 q2.2.2 (.storeN 2 (.c q2.1) (.c v1))) fun q3=>Y0 F cx k r q3.2.1 q3.2.2 41 ([(9,q2.1),(24,v1),(23,v0)]++kp l F8):=rg
@[simp] theorem uc33s6:U c33s6 (.seq (.block 1 (.seq c33k5 c33k4)) c33k3):=ur
@[simp] theorem uc33s7:U c33s7 (.seq (.cond (.t 22) .skip (.exit 0)) c33s6):=ur
@[simp] theorem uc33k8:X0 F cx k l rows low r 41 c33k8↔eb rows (.bin .lss (cl l 21) (cl l 20)) fun v0=>Y0 F cx k r rows low 41 ([(22,v0)]++kp l F8):=rg
@[simp] theorem uc33s9:U c33s9 (.block 0 (.loop c33l2)):=ur
@[simp] theorem uc33k10:X0 F cx k l rows low r 41 c33k10↔eb rows (.fieldA 1 (cl l 2)) fun v0=>eb rows (.load1 (.c v0)) fun v1=>eb rows (.len 0 (.c v1)) fun v2=>Y0 F cx k r rows low 41 ([(21,(.int .i64 0)),(20,v2),(19,v1),(18,v0)]++kp l Eh):=rg
@[simp] theorem uc33s11:U c33s11 (.seq (.seq c33k10 c33s9) c33s1):=ur
@[simp] theorem uc33k12:X0 F cx k l rows low r 41 c33k12↔Y0 F cx k r rows low 41 [(7,.nilslice),(1,lk l 1),(2,lk l 2)]:=rg
@[simp] theorem uc33s13:U c33s13 (.seq c33k12 c33s11):=ur
@[simp] theorem uc33k14:X0 F cx k l rows low r 41 c33k14↔Y0 F cx k r rows low 41 [(5,lk l 6),(4,.nilslice),(17,lk l 6),(6,lk l 6)]:=rg
@[simp] theorem uc33s15:U c33s15 (.cond (.t 16) (.seq c33k14 .ret) .skip):=ur
@[simp] theorem uc33k16:X0 F cx k l rows low r 41 c33k16↔eb rows (.bin .neq (cl l 6) (ci 0)) fun v0=>Y0 F cx k r rows low 41 ([(16,v0),(15,lk l 6)]++kp l Il):=rg
@[simp] theorem uc33s17:U c33s17 (.seq c33k16 c33s15):=ur
@[simp] theorem uc33k18:X0 F cx k l rows low r 41 c33k18↔eb rows (.loadN 3 (cl l 2)) fun v0=>eb rows (.loadN 3 (cl l 2)) fun v1=>eb rows (.bind 74 [(.c v1)]) fun v2=>bnd (Ret F 66 [v0,lk l 1,v2] rows) fun q3=>Y0 F cx k r q3.2.1 (AC low q3.2.2) 41 [(6,q3.1),(14,q3.1),(13,v2),(12,v1),(11,lk l 1),(10,v0),(1,lk l 1),(2,lk l 2)]:=rg
@[simp] theorem uc33s19:U c33s19 (.seq (.seq c33k18 c33s17) c33s13):=ur
@[simp] theorem uc33k20:X0 F cx k l rows low r 41 c33k20↔bnd (evE rows low (.box (cl l 0))) fun q0=>Y0 F cx k r q0.2.1 q0.2.2 41 [(5,(.int .i64 0)),(4,.nilslice),(2,q0.1),(0,lk l 0),(1,lk l 1)]:=rg
@[simp] abbrev Kc33l2:List Itm:=.inLoop c33l2::.inBlock 0::.code c33s1::[]
def Lc33l2(F:Nat->Option IFn)(cx:Ctx)(x1 x7 x19 x20 x21:AV)(rows:List Row)(low:Nat)(r:AV×List Row×Nat->Prop):Prop:=Ex F cx (.code c33l2::Kc33l2) ⟨mk 41 [(1,x1),(7,x7),(19,x19),(20,x20),(21,x21)],rows,low⟩ r
@[simp] theorem nc33l2:Ex F cx (Kc33l2) ⟨mk 41 l,rows,low⟩ r↔Lc33l2 F cx (lk l 1) (lk l 7) (lk l 19) (lk l 20) (lk l 21) rows low r:=AA (keep:=F8) (by kernel_rfl)
@[simp] theorem uc33l2:U c33l2 (.seq c33k8 c33s7):=ur
@[simp] theorem uc33b:U c33b (.seq c33k20 c33s19):=ur
theorem i33{x0 x1:AV}(hF:F 33=some c33){q:AV×List Row×Option Nat}(h:Ex F (.fn [.t 4,.t 5]) [.code c33b] ⟨mk 41 [(0,x0),(1,x1)],rows,rows.length⟩ fun r=>fin rows r.1 r.2.1 r.2.2=q):Ret F 33 [x0,x1] rows=some q:=Av hF h
@[simp] theorem uc40k0:X0 F cx k l rows low r 45 c40k0↔Y0 F cx k r rows low 45 [(5,(.int .i64 0)),(4,lk l 7),(44,lk l 7),(7,lk l 7)]:=rg
@[simp] theorem uc40s1:U c40s1 (.seq c40k0 .ret):=ur
@[simp] theorem uc40k3:X0 F cx k l rows low r 45 c40k3↔eb rows (.bin .add (cl l 23) (ci 1)) fun v0=>Y0 F cx k r rows low 45 ([(23,v0),(43,v0)]++kp l F1):=rg
@[simp] theorem uc40k4:X0 F cx k l rows low r 45 c40k4↔eb rows (.load1 (cl l 9)) fun v0=>bnd (evE rows low (.mkslice 1 [.int .i64 0] [(0,1,(.c v0))])) fun q1=>bnd (evE q1.2.1 q1.2.2 (.app 1 8 (cl l 7) (.c q1.1))) fun q2=>Y0 F cx k r q2.2.1 q2.2.2 45 ([(7,q2.1),(42,q2.1),(41,q1.1),(40,v0),(39,lk l 7)]++kp l Vw):=rg
@[simp] theorem uc40k6:X0 F cx k l rows low r 45 c40k6↔eb rows (.load1 (cl l 9)) fun v0=>eb rows (.load1 (cl l 3)) fun v1=>eb rows (.idxS 1 (.c v1) (cl l 10)) fun v2=>eb rows (.load1 (.c v2)) fun v3=>eb rows (.bin .mul (cl l 11) (.c v3)) fun v4=>eb rows (.bin .add (.c v0) (.c v4)) fun v5=>bnd (evE rows low (.store1 (cl l 9) (.c v5))) fun q6=>Y0 F cx k r q6.2.1 q6.2.2 45 ([(38,v5),(37,v4),(36,v3),(35,v2),(34,lk l 10),(33,v1),(32,lk l 11),(31,v0)]++kp l T2):=rg
@[simp] theorem uc40k7:X0 F cx k l rows low r 45 c40k7↔Ex F cx k ⟨mk 45 ([(11,lk l 30)]++kp l T7),rows,low⟩ r:=rg
@[simp] theorem uc40k8:X0 F cx k l rows low r 45 c40k8↔Ex F cx k ⟨mk 45 ([(10,lk l 29)]++kp l Vh),rows,low⟩ r:=rg
@[simp] theorem uc40f5a:U c40f5a (.seq c40k8 c40k7):=ur
@[simp] theorem uc40f5b:U c40f5b (.block 3 c40k6):=ur
@[simp] theorem uc40s9:U c40s9 (.block 2 (.rf (.t 28) [29,30] c40f5a c40f5b)):=ur
@[simp] theorem uc40k10:X0 F cx k l rows low r 45 c40k10↔eb rows (.loadN 3 (cl l 2)) fun v0=>bnd (Ret F 62 [v0,lk l 8] rows) fun q1=>Y0 F cx k r q1.2.1 (AC low q1.2.2) 45 ([(28,q1.1),(27,lk l 8),(26,v0)]++kp l TR):=rg
@[simp] theorem uc40s11:U c40s11 (.seq (.seq c40k10 c40s9) c40k4):=ur
@[simp] theorem uc40k12:X0 F cx k l rows low r 45 c40k12↔bnd (evE rows low (.box (ci 0))) fun q0=>bnd (evE q0.2.1 q0.2.2 (.store1 (.c q0.1) (ci 0))) fun q1=>Y0 F cx k r q1.2.1 q1.2.2 45 ([(9,q0.1)]++kp l T1):=rg
@[simp] theorem uc40s13:U c40s13 (.seq c40k12 c40s11):=ur
@[simp] theorem uc40k14:X0 F cx k l rows low r 45 c40k14↔Y0 F cx k r rows low 45 ([(8,lk l 23),(25,lk l 23)]++kp l F1):=rg
@[simp] theorem uc40s15:U c40s15 (.seq (.block 1 (.seq c40k14 c40s13)) c40k3):=ur
@[simp] theorem uc40s16:U c40s16 (.seq (.cond (.t 24) .skip (.exit 0)) c40s15):=ur
@[simp] theorem uc40k17:X0 F cx k l rows low r 45 c40k17↔eb rows (.bin .lss (cl l 23) (cl l 22)) fun v0=>Y0 F cx k r rows low 45 ([(24,v0)]++kp l F1):=rg
@[simp] theorem uc40s18:U c40s18 (.block 0 (.loop c40l2)):=ur
@[simp] theorem uc40k19:X0 F cx k l rows low r 45 c40k19↔eb rows (.fieldA 2 (cl l 2)) fun v0=>eb rows (.load1 (.c v0)) fun v1=>eb rows (.len 0 (.c v1)) fun v2=>Y0 F cx k r rows low 45 ([(23,(.int .i64 0)),(22,v2),(21,v1),(20,v0)]++kp l Wc):=rg
@[simp] theorem uc40s20:U c40s20 (.seq (.seq c40k19 c40s18) c40s1):=ur
@[simp] theorem uc40k21:X0 F cx k l rows low r 45 c40k21↔Y0 F cx k r rows low 45 ([(7,.nilslice)]++kp l EM):=rg
@[simp] theorem uc40s22:U c40s22 (.seq c40k21 c40s20):=ur
@[simp] theorem uc40k23:X0 F cx k l rows low r 45 c40k23↔Y0 F cx k r rows low 45 [(5,lk l 6),(4,.nilslice),(19,lk l 6),(6,lk l 6)]:=rg
@[simp] theorem uc40s24:U c40s24 (.cond (.t 18) (.seq c40k23 .ret) .skip):=ur
@[simp] theorem uc40k25:X0 F cx k l rows low r 45 c40k25↔eb rows (.bin .neq (cl l 6) (ci 0)) fun v0=>Y0 F cx k r rows low 45 ([(18,v0),(17,lk l 6)]++kp l TS):=rg
@[simp] theorem uc40s26:U c40s26 (.seq c40k25 c40s24):=ur
@[simp] theorem uc40k27:X0 F cx k l rows low r 45 c40k27↔eb rows (.loadN 3 (cl l 2)) fun v0=>eb rows (.load1 (cl l 3)) fun v1=>eb rows (.loadN 3 (cl l 2)) fun v2=>eb rows (.bind 67 [(.c v2)]) fun v3=>bnd (Ret F 66 [v0,v1,v3] rows) fun q4=>Y0 F cx k r q4.2.1 (AC low q4.2.2) 45 ([(6,q4.1),(16,q4.1),(15,v3),(14,v2),(13,v1),(12,v0)]++kp l EM):=rg
@[simp] theorem uc40s28:U c40s28 (.seq (.seq c40k27 c40s26) c40s22):=ur
@[simp] theorem uc40k29:X0 F cx k l rows low r 45 c40k29↔bnd (evE rows low (.box (cl l 0))) fun q0=>bnd (evE q0.2.1 q0.2.2 (.box (cl l 1))) fun q1=>Y0 F cx k r q1.2.1 q1.2.2 45 [(5,(.int .i64 0)),(4,.nilslice),(3,q1.1),(2,q0.1),(0,lk l 0),(1,lk l 1)]:=rg
@[simp] abbrev Kc40l2:List Itm:=.inLoop c40l2::.inBlock 0::.code c40s1::[]
def Lc40l2(F:Nat->Option IFn)(cx:Ctx)(x2 x3 x4 x5 x7 x22 x23:AV)(rows:List Row)(low:Nat)(r:AV×List Row×Nat->Prop):Prop:=Ex F cx (.code c40l2::Kc40l2) ⟨mk 45 [(2,x2),(3,x3),(4,x4),(5,x5),(7,x7),(22,x22),(23,x23)],rows,low⟩ r
@[simp] theorem nc40l2:Ex F cx (Kc40l2) ⟨mk 45 l,rows,low⟩ r↔Lc40l2 F cx (lk l 2) (lk l 3) (lk l 4) (lk l 5) (lk l 7) (lk l 22) (lk l 23) rows low r:=AA (keep:=F1) (by kernel_rfl)
@[simp] theorem uc40l2:U c40l2 (.seq c40k17 c40s16):=ur
@[simp] theorem uc40b:U c40b (.seq c40k29 c40s28):=ur
theorem i40{x0 x1:AV}(hF:F 40=some c40){q:AV×List Row×Option Nat}(h:Ex F (.fn [.t 4,.t 5]) [.code c40b] ⟨mk 45 [(0,x0),(1,x1)],rows,rows.length⟩ fun r=>fin rows r.1 r.2.1 r.2.2=q):Ret F 40 [x0,x1] rows=some q:=Av hF h
@[simp] theorem uc62k0:X0 F cx k l rows low r 6 c62k0↔eb rows (.mkfn 93 [(cl l 2),(cl l 3)]) fun v0=>Y0 F cx k r rows low 6 [(4,v0),(5,v0),(2,lk l 2),(3,lk l 3)]:=rg
@[simp] theorem uc62s1:U c62s1 (.seq c62k0 .ret):=ur
@[simp] theorem uc62k2:X0 F cx k l rows low r 6 c62k2↔bnd (evE rows low (.box (cl l 0))) fun q0=>bnd (evE q0.2.1 q0.2.2 (.box (cl l 1))) fun q1=>Y0 F cx k r q1.2.1 q1.2.2 6 [(4,.nilfunc),(3,q1.1),(2,q0.1),(0,lk l 0),(1,lk l 1)]:=rg
@[simp] theorem uc62b:U c62b (.seq c62k2 c62s1):=ur
theorem i62{x0 x1:AV}(hF:F 62=some c62){q:AV×List Row×Option Nat}(h:Ex F (.fn [.t 4]) [.code c62b] ⟨mk 6 [(0,x0),(1,x1)],rows,rows.length⟩ fun r=>fin rows r.1 r.2.1 r.2.2=q):Ret F 62 [x0,x1] rows=some q:=Av hF h
@[simp] theorem uc78k0:X0 F cx k l rows low r 116 c78k0↔Y0 F cx k r rows low 116 [(4,lk l 5),(115,lk l 5),(5,lk l 5)]:=rg
@[simp] theorem uc78s1:U c78s1 (.seq c78k0 .ret):=ur
@[simp] theorem uc78k3:X0 F cx k l rows low r 116 c78k3↔eb rows (.bin .add (cl l 21) (ci 1)) fun v0=>Y0 F cx k r rows low 116 ([(21,v0),(114,v0)]++kp l Qe):=rg
@[simp] theorem uc78k6:X0 F cx k l rows low r 116 c78k6↔eb rows (.bin .add (cl l 55) (ci 1)) fun v0=>Y0 F cx k r rows low 116 ([(55,v0),(113,v0)]++kp l Ga):=rg
@[simp] theorem uc78k8:X0 F cx k l rows low r 116 c78k8↔eb rows (.bin .add (cl l 60) (ci 1)) fun v0=>Y0 F cx k r rows low 116 ([(60,v0),(112,v0)]++kp l F9):=rg
@[simp] theorem uc78k9:X0 F cx k l rows low r 116 c78k9↔bnd (evE rows low (.mkslice 1 [.int .i64 0] [(0,1,(cl l 14))])) fun q0=>bnd (evE q0.2.1 q0.2.2 (.app 1 8 (cl l 8) (.c q0.1))) fun q1=>Y0 F cx k r q1.2.1 q1.2.2 116 ([(8,q1.1),(111,q1.1),(110,q0.1),(109,lk l 14),(108,lk l 8)]++kp l Ub):=rg
@[simp] theorem uc78k10:U c78k10 (.kill 116 [1,2,5,6,8,9,10,11,14,15,20,21,53,54,55,60] (.ops c78r10)):=ur
@[simp] theorem uc78r10:Ex F cx (.ops c78r10::k) s r↔Ex F cx (.ops [
 .grpw (.t 104) (.t 93) none 59379 [(⟨some 89,.mv (.t 5),none⟩,0),(⟨some 90,.mv (.t 14),none⟩,0),(⟨some 91,.mv (.t 5),none⟩,0),(⟨some 92,.mv (.t 14),none⟩,0),(⟨some 93,.mv (.t 9),none⟩,0),(⟨some 94,.mv (.t 5),none⟩,0),(⟨some 95,.mv (.t 9),none⟩,0),(⟨some 96,.nilck (.t 94),none⟩,32),(⟨some 97,.fieldA 6 (.t 96),none⟩,160),(⟨some 98,.idxA 6 1 (.t 97) (.t 95),none⟩,480),(⟨some 99,.load1 (.t 98),none⟩,992),(⟨some 100,.mv (.t 15),none⟩,0),(⟨some 101,.bin .add (.t 99) (.t 100),none⟩,4064),(⟨some 102,.nilck (.t 89),none⟩,1),(⟨some 103,.fieldA 0 (.t 102),none⟩,8193),(⟨some 104,.idxA 6 1 (.t 103) (.t 90),none⟩,26611),(⟨none,.lenc 0,none⟩,59379),(⟨some 105,.nilck (.t 91),none⟩,4),(⟨some 106,.fieldA 6 (.t 105),none⟩,131076)],
 .one ⟨some 107,.idxA 6 1 (.t 106) (.t 92),none⟩,
 .one ⟨none,.store1 (.t 107) (.t 101),none⟩]::k) s r:=Iff.rfl
@[simp] theorem uc78s11:U c78s11 (.seq c78k10 c78k9):=ur
@[simp] theorem uc78k12:X0 F cx k l rows low r 116 c78k12↔bnd (evE rows low (.mset (cl l 6) (cl l 14) (.c (.bool true)))) fun q0=>Y0 F cx k r q0.2.1 q0.2.2 116 ([(88,lk l 14),(87,lk l 6)]++kp l Ob):=rg
@[simp] theorem uc78s13:U c78s13 (.cond (.t 86) (.seq c78k12 c78s11) .skip):=ur
@[simp] theorem uc78k14:X0 F cx k l rows low r 116 c78k14↔eb rows (.bin .eql (cl l 13) (cl l 9)) fun v0=>bnd (gv v0 true (evP rows (.mv (cl l 6)))) fun v1=>bnd (gv v0 true (evP rows (.mv (cl l 14)))) fun v2=>bnd (gv v0 true (evP rows (.look (.bool false) false (.c v1) (.c v2)))) fun v3=>bnd (gv v0 true (evP rows (.un .not (.c v3)))) fun v4=>eb rows (.pick (.c v0) (.c v4) (.c (.bool false))) fun v5=>Y0 F cx k r rows low 116 ([(86,v5),(85,v4),(84,v3),(83,v2),(82,v1),(81,v0),(80,v0),(79,lk l 9),(78,lk l 13)]++kp l Vl):=rg
@[simp] theorem uc78s15:U c78s15 (.seq c78k14 c78s13):=ur
@[simp] theorem uc78k16:X0 F cx k l rows low r 116 c78k16↔eb rows (.un .neg (cl l 15)) fun v0=>Y0 F cx k r rows low 116 ([(15,v0),(77,v0),(76,lk l 15)]++kp l Vl):=rg
@[simp] theorem uc78s17:U c78s17 (.cond (.t 75) c78k16 .skip):=ur
@[simp] theorem uc78k18:X0 F cx k l rows low r 116 c78k18↔eb rows (.bin .eql (cl l 12) (ci 1)) fun v0=>Y0 F cx k r rows low 116 ([(75,v0),(74,lk l 12)]++kp l Aai):=rg
@[simp] theorem uc78s19:U c78s19 (.seq (.seq c78k18 c78s17) c78s15):=ur
@[simp] theorem uc78k20:X0 F cx k l rows low r 116 c78k20↔eb rows (.idxA 2 1 (cl l 11) (cl l 12)) fun v0=>eb rows (.load1 (.c v0)) fun v1=>eb rows (.bin .sub (ci 1) (cl l 12)) fun v2=>eb rows (.idxA 2 1 (cl l 11) (.c v2)) fun v3=>eb rows (.load1 (.c v3)) fun v4=>eb rows (.idxS 1 (cl l 1) (cl l 10)) fun v5=>eb rows (.load1 (.c v5)) fun v6=>Y0 F cx k r rows low 116 ([(15,v6),(14,v4),(13,v1),(73,v6),(72,v5),(71,lk l 10),(70,lk l 1),(69,v4),(68,v3),(67,v2),(66,lk l 12),(65,v1),(64,v0),(63,lk l 12)]++kp l Aaw):=rg
@[simp] theorem uc78s21:U c78s21 (.seq c78k20 c78s19):=ur
@[simp] theorem uc78k22:X0 F cx k l rows low r 116 c78k22↔Y0 F cx k r rows low 116 ([(12,lk l 60),(62,lk l 60)]++kp l F9):=rg
@[simp] theorem uc78s23:U c78s23 (.seq (.block 7 (.seq c78k22 c78s21)) c78k8):=ur
@[simp] theorem uc78s24:U c78s24 (.seq (.cond (.t 61) .skip (.exit 6)) c78s23):=ur
@[simp] theorem uc78k25:X0 F cx k l rows low r 116 c78k25↔eb rows (.bin .lss (cl l 60) (ci 2)) fun v0=>Y0 F cx k r rows low 116 ([(61,v0)]++kp l F9):=rg
@[simp] theorem uc78s26:U c78s26 (.block 6 (.loop c78l7)):=ur
@[simp] theorem uc78k27:X0 F cx k l rows low r 116 c78k27↔Y0 F cx k r rows low 116 ([(60,(.int .i64 0))]++kp l Vc):=rg
@[simp] theorem uc78s28:U c78s28 (.seq c78k27 c78s26):=ur
@[simp] theorem uc78k29:X0 F cx k l rows low r 116 c78k29↔eb rows (.idxS 2 (cl l 53) (cl l 55)) fun v0=>eb rows (.loadN 2 (.c v0)) fun v1=>bnd (evE rows low (.box (.c (.agg [.int .i64 0,.int .i64 0])))) fun q2=>bnd (evE q2.2.1 q2.2.2 (.storeN 2 (.c q2.1) (.c v1))) fun q3=>Y0 F cx k r q3.2.1 q3.2.2 116 ([(10,lk l 55),(11,q2.1),(59,v1),(58,v0),(57,lk l 55)]++kp l Ga):=rg
@[simp] theorem uc78s30:U c78s30 (.seq (.block 5 (.seq c78k29 c78s28)) c78k6):=ur
@[simp] theorem uc78s31:U c78s31 (.seq (.cond (.t 56) .skip (.exit 4)) c78s30):=ur
@[simp] theorem uc78k32:X0 F cx k l rows low r 116 c78k32↔eb rows (.bin .lss (cl l 55) (cl l 54)) fun v0=>Y0 F cx k r rows low 116 ([(56,v0)]++kp l Ga):=rg
@[simp] theorem uc78s33:U c78s33 (.block 4 (.loop c78l5)):=ur
@[simp] theorem uc78k34:X0 F cx k l rows low r 116 c78k34↔eb rows (.fieldA 1 (cl l 2)) fun v0=>eb rows (.load1 (.c v0)) fun v1=>eb rows (.len 0 (.c v1)) fun v2=>Y0 F cx k r rows low 116 ([(55,(.int .i64 0)),(54,v2),(53,v1),(52,v0)]++kp l MA):=rg
@[simp] theorem uc78s35:U c78s35 (.seq c78k34 c78s33):=ur
@[simp] theorem uc78k36:X0 F cx k l rows low r 116 c78k36↔eb rows (.sliceS 1 (cl l 8) (some (ci 1)) none none) fun v0=>Y0 F cx k r rows low 116 ([(8,v0),(51,v0),(50,lk l 8)]++kp l MA):=rg
@[simp] theorem uc78s37:U c78s37 (.seq c78k36 c78s35):=ur
@[simp] theorem uc78k38:X0 F cx k l rows low r 116 c78k38↔eb rows (.idxS 1 (cl l 8) (ci 0)) fun v0=>eb rows (.load1 (.c v0)) fun v1=>Y0 F cx k r rows low 116 ([(9,v1),(49,v1),(48,v0),(47,lk l 8)]++kp l TQ):=rg
@[simp] theorem uc78s39:U c78s39 (.block 3 (.seq c78k38 c78s37)):=ur
@[simp] theorem uc78s40:U c78s40 (.cond (.t 46) .skip (.exit 2)):=ur
@[simp] theorem uc78k41:X0 F cx k l rows low r 116 c78k41↔eb rows (.len 0 (cl l 8)) fun v0=>eb rows (.bin .gtr (.c v0) (ci 0)) fun v1=>Y0 F cx k r rows low 116 ([(46,v1),(45,v0),(44,lk l 8)]++kp l TQ):=rg
@[simp] theorem uc78s42:U c78s42 (.block 2 (.loop c78l4)):=ur
@[simp] theorem uc78k43:X0 F cx k l rows low r 116 c78k43↔bnd (evE rows low (.mkslice 1 [.int .i64 0] [(0,1,(cl l 7))])) fun q0=>Y0 F cx k r q0.2.1 q0.2.2 116 ([(8,q0.1),(43,q0.1),(42,lk l 7)]++kp l JK):=rg
@[simp] theorem uc78s44:U c78s44 (.seq c78k43 c78s42):=ur
@[simp] theorem uc78k45:X0 F cx k l rows low r 116 c78k45↔eb rows (.nilck (cl l 5)) fun v0=>eb rows (.fieldA 0 (.c v0)) fun v1=>eb rows (.idxA 6 1 (.c v1) (cl l 7)) fun v2=>bnd (evE rows low (.store1 (.c v2) (cl l 7))) fun q3=>Y0 F cx k r q3.2.1 q3.2.2 116 ([(41,v2),(40,v1),(39,v0),(38,lk l 7),(37,lk l 7),(36,lk l 5)]++kp l JK):=rg
@[simp] theorem uc78s46:U c78s46 (.seq c78k45 c78s44):=ur
@[simp] theorem uc78k47:X0 F cx k l rows low r 116 c78k47↔bnd (evE rows low (.mset (cl l 6) (cl l 7) (.c (.bool true)))) fun q0=>Y0 F cx k r q0.2.1 q0.2.2 116 ([(35,lk l 7),(34,lk l 6)]++kp l JK):=rg
@[simp] theorem uc78s48:U c78s48 (.seq c78k47 c78s46):=ur
@[simp] theorem uc78k49:X0 F cx k l rows low r 116 c78k49↔eb rows (.nilck (cl l 5)) fun v0=>eb rows (.fieldA 12 (.c v0)) fun v1=>eb rows (.load1 (.c v1)) fun v2=>eb rows (.bin .add (.c v2) (ci 1)) fun v3=>eb rows (.nilck (cl l 5)) fun v4=>eb rows (.fieldA 12 (.c v4)) fun v5=>bnd (evE rows low (.store1 (.c v5) (.c v3))) fun q6=>Y0 F cx k r q6.2.1 q6.2.2 116 ([(33,v5),(32,v4),(31,v3),(30,v2),(29,v1),(28,v0),(27,lk l 5)]++kp l JK):=rg
@[simp] theorem uc78s50:U c78s50 (.seq c78k49 c78s48):=ur
@[simp] theorem uc78s51:U c78s51 (.cond (.t 26) (.exit 1) .skip):=ur
@[simp] theorem uc78k52:X0 F cx k l rows low r 116 c78k52↔eb rows (.look (.bool false) false (cl l 6) (cl l 7)) fun v0=>Y0 F cx k r rows low 116 ([(26,v0),(25,lk l 7),(24,lk l 6)]++kp l JK):=rg
@[simp] theorem uc78s53:U c78s53 (.seq (.seq c78k52 c78s51) c78s50):=ur
@[simp] theorem uc78k54:X0 F cx k l rows low r 116 c78k54↔Y0 F cx k r rows low 116 ([(7,lk l 21),(23,lk l 21)]++kp l Qe):=rg
@[simp] theorem uc78s55:U c78s55 (.seq (.block 1 (.seq c78k54 c78s53)) c78k3):=ur
@[simp] theorem uc78s56:U c78s56 (.seq (.cond (.t 22) .skip (.exit 0)) c78s55):=ur
@[simp] theorem uc78k57:X0 F cx k l rows low r 116 c78k57↔eb rows (.bin .lss (cl l 21) (cl l 20)) fun v0=>Y0 F cx k r rows low 116 ([(22,v0)]++kp l Qe):=rg
@[simp] theorem uc78s58:U c78s58 (.block 0 (.loop c78l2)):=ur
@[simp] theorem uc78k59:X0 F cx k l rows low r 116 c78k59↔eb rows (.fieldA 0 (cl l 2)) fun v0=>eb rows (.load1 (.c v0)) fun v1=>Y0 F cx k r rows low 116 ([(21,(.int .i64 0)),(20,v1),(19,v0)]++kp l V5):=rg
@[simp] theorem uc78s60:U c78s60 (.seq (.seq c78k59 c78s58) c78s1):=ur
@[simp] theorem uc78k61:X0 F cx k l rows low r 116 c78k61↔bnd (evE rows low (.mkmap)) fun q0=>Y0 F cx k r q0.2.1 q0.2.2 116 ([(6,q0.1),(18,q0.1)]++kp l Mb):=rg
@[simp] theorem uc78s62:U c78s62 (.seq c78k61 c78s60):=ur
@[simp] theorem uc78k63:X0 F cx k l rows low r 116 c78k63↔eb rows (.mkagg (List.replicate 13 (.int .i64 0)) []) fun v0=>bnd (evE rows low (.box (.c v0))) fun q1=>Y0 F cx k r q1.2.1 q1.2.2 116 [(5,q1.1),(17,q1.1),(16,v0),(1,lk l 1),(2,lk l 2)]:=rg
@[simp] theorem uc78s64:U c78s64 (.seq c78k63 c78s62):=ur
@[simp] theorem uc78k65:X0 F cx k l rows low r 116 c78k65↔bnd (evE rows low (.box (cl l 0))) fun q0=>Y0 F cx k r q0.2.1 q0.2.2 116 [(4,.nilptr),(2,q0.1),(0,lk l 0),(1,lk l 1)]:=rg
@[simp] abbrev Kc78l2:List Itm:=.inLoop c78l2::.inBlock 0::.code c78s1::[]
@[simp] abbrev Kc78l4:List Itm:=.inLoop c78l4::.inBlock 2::.inBlock 1::.code c78k3::Kc78l2
@[simp] abbrev Kc78l5:List Itm:=.inLoop c78l5::.inBlock 4::.inBlock 3::Kc78l4
@[simp] abbrev Kc78l7:List Itm:=.inLoop c78l7::.inBlock 6::.inBlock 5::.code c78k6::Kc78l5
def Jc78s15(F:Nat->Option IFn)(cx:Ctx)(x1 x2 x5 x6 x8 x9 x10 x11 x13 x14 x15 x20 x21 x53 x54 x55 x60:AV)(rows:List Row)(low:Nat)(r:AV×List Row×Nat->Prop):Prop:=Ex F cx (.code c78s15::.inBlock 7::.code c78k8::Kc78l7) ⟨mk 116 [(1,x1),(2,x2),(5,x5),(6,x6),(8,x8),(9,x9),(10,x10),(11,x11),(13,x13),(14,x14),(15,x15),(20,x20),(21,x21),(53,x53),(54,x54),(55,x55),(60,x60)],rows,low⟩ r
theorem jc78s15:Ex F cx (.code c78s15::.inBlock 7::.code c78k8::Kc78l7) ⟨mk 116 l,rows,low⟩ r↔Jc78s15 F cx (lk l 1) (lk l 2) (lk l 5) (lk l 6) (lk l 8) (lk l 9) (lk l 10) (lk l 11) (lk l 13) (lk l 14) (lk l 15) (lk l 20) (lk l 21) (lk l 53) (lk l 54) (lk l 55) (lk l 60) rows low r:=Io (keep:=Vl) (by kernel_rfl)
def Lc78l7(F:Nat->Option IFn)(cx:Ctx)(x1 x2 x5 x6 x8 x9 x10 x11 x20 x21 x53 x54 x55 x60:AV)(rows:List Row)(low:Nat)(r:AV×List Row×Nat->Prop):Prop:=Ex F cx (.code c78l7::Kc78l7) ⟨mk 116 [(1,x1),(2,x2),(5,x5),(6,x6),(8,x8),(9,x9),(10,x10),(11,x11),(20,x20),(21,x21),(53,x53),(54,x54),(55,x55),(60,x60)],rows,low⟩ r
@[simp] theorem nc78l7:Ex F cx (Kc78l7) ⟨mk 116 l,rows,low⟩ r↔Lc78l7 F cx (lk l 1) (lk l 2) (lk l 5) (lk l 6) (lk l 8) (lk l 9) (lk l 10) (lk l 11) (lk l 20) (lk l 21) (lk l 53) (lk l 54) (lk l 55) (lk l 60) rows low r:=AA (keep:=F9) (by kernel_rfl)
@[simp] theorem uc78l7:U c78l7 (.seq c78k25 c78s24):=ur
def Lc78l5(F:Nat->Option IFn)(cx:Ctx)(x1 x2 x5 x6 x8 x9 x20 x21 x53 x54 x55:AV)(rows:List Row)(low:Nat)(r:AV×List Row×Nat->Prop):Prop:=Ex F cx (.code c78l5::Kc78l5) ⟨mk 116 [(1,x1),(2,x2),(5,x5),(6,x6),(8,x8),(9,x9),(20,x20),(21,x21),(53,x53),(54,x54),(55,x55)],rows,low⟩ r
@[simp] theorem nc78l5:Ex F cx (Kc78l5) ⟨mk 116 l,rows,low⟩ r↔Lc78l5 F cx (lk l 1) (lk l 2) (lk l 5) (lk l 6) (lk l 8) (lk l 9) (lk l 20) (lk l 21) (lk l 53) (lk l 54) (lk l 55) rows low r:=AA (keep:=Ga) (by kernel_rfl)
@[simp] theorem uc78l5:U c78l5 (.seq c78k32 c78s31):=ur
def Lc78l4(F:Nat->Option IFn)(cx:Ctx)(x1 x2 x5 x6 x8 x20 x21:AV)(rows:List Row)(low:Nat)(r:AV×List Row×Nat->Prop):Prop:=Ex F cx (.code c78l4::Kc78l4) ⟨mk 116 [(1,x1),(2,x2),(5,x5),(6,x6),(8,x8),(20,x20),(21,x21)],rows,low⟩ r
@[simp] theorem nc78l4:Ex F cx (Kc78l4) ⟨mk 116 l,rows,low⟩ r↔Lc78l4 F cx (lk l 1) (lk l 2) (lk l 5) (lk l 6) (lk l 8) (lk l 20) (lk l 21) rows low r:=AA (keep:=TQ) (by kernel_rfl)
@[simp] theorem uc78l4:U c78l4 (.seq (.seq c78k41 c78s40) c78s39):=ur
def Lc78l2(F:Nat->Option IFn)(cx:Ctx)(x1 x2 x5 x6 x20 x21:AV)(rows:List Row)(low:Nat)(r:AV×List Row×Nat->Prop):Prop:=Ex F cx (.code c78l2::Kc78l2) ⟨mk 116 [(1,x1),(2,x2),(5,x5),(6,x6),(20,x20),(21,x21)],rows,low⟩ r
@[simp] theorem nc78l2:Ex F cx (Kc78l2) ⟨mk 116 l,rows,low⟩ r↔Lc78l2 F cx (lk l 1) (lk l 2) (lk l 5) (lk l 6) (lk l 20) (lk l 21) rows low r:=AA (keep:=Qe) (by kernel_rfl)
@[simp] theorem uc78l2:U c78l2 (.seq c78k57 c78s56):=ur
@[simp] theorem uc78b:U c78b (.seq c78k65 c78s64):=ur
theorem i78{x0 x1:AV}(hF:F 78=some c78){q:AV×List Row×Option Nat}(h:Ex F (.fn [.t 4]) [.code c78b] ⟨mk 116 [(0,x0),(1,x1)],rows,rows.length⟩ fun r=>fin rows r.1 r.2.1 r.2.2=q):Ret F 78 [x0,x1] rows=some q:=Av hF h
@[simp] theorem uc93k1:X0 F cx k l rows low r 52 c93k1↔eb rows (.bin .add (cl l 16) (ci 1)) fun v0=>Y0 F cx k r rows low 52 ([(16,v0),(51,v0)]++kp l Qh):=rg
@[simp] theorem uc93s2:U c93s2 (.cond (.t 50) .ret .skip):=ur
@[simp] theorem uc93k3:X0 F cx k l rows low r 52 c93k3↔eb rows (.bin .neq (cl l 7) (ci 0)) fun v0=>bnd (gv v0 true (evP rows (.mv (cl l 0)))) fun v1=>bnd (gv v0 true (evP rows (.mv (cl l 5)))) fun v2=>bnd (gv v0 true (evP rows (.mv (cl l 7)))) fun v3=>CF F v0 true rows low [v2,v3] [] v1 fun v4 R4 L4=>bnd (gv v0 true (evP R4 (.un .not (.c v4)))) fun v5=>bnd (evP R4 (.pick (.c v0) (.c v5) (.c (.bool false)))) fun v6=>Y0 F cx k r R4 L4 52 ([(50,v6),(49,v5),(48,v4),(47,v3),(46,v2),(45,v1),(44,v0),(43,v0),(42,lk l 7)]++kp l ZD):=rg
@[simp] theorem uc93s4:U c93s4 (.seq c93k3 c93s2):=ur
@[simp] theorem uc93k5:X0 F cx k l rows low r 52 c93k5↔Y0 F cx k r rows low 52 ([(7,(.int .i64 1))]++kp l WH):=rg
@[simp] theorem uc93k6:X0 F cx k l rows low r 52 c93k6↔Y0 F cx k r rows low 52 ([(7,(.int .i64 (-1)))]++kp l WH):=rg
@[simp] theorem uc93s7:U c93s7 (.cond (.t 35) c93k6 .skip):=ur
@[simp] theorem uc93k8:X0 F cx k l rows low r 52 c93k8↔eb rows (.idxA 3 1 (cl l 4) (ci 0)) fun v0=>eb rows (.load1 (.c v0)) fun v1=>eb rows (.idxA 3 1 (cl l 4) (ci 2)) fun v2=>eb rows (.load1 (.c v2)) fun v3=>eb rows (.mkagg [.int .i64 0,.int .i64 0] [(0,1,(.c v1)),(1,1,(.c v3))]) fun v4=>eb rows (.eqv false (.ints 2) (cl l 21) (.c v4)) fun v5=>Y0 F cx k r rows low 52 ([(35,v5),(41,v5),(40,v4),(39,v3),(38,v2),(37,v1),(36,v0)]++kp l Re):=rg
@[simp] theorem uc93s9:U c93s9 (.cond (.t 22) c93k5 (.seq c93k8 c93s7)):=ur
@[simp] theorem uc93k10:X0 F cx k l rows low r 52 c93k10↔eb rows (.idxA 3 1 (cl l 4) (ci 1)) fun v0=>eb rows (.load1 (.c v0)) fun v1=>eb rows (.idxA 3 1 (cl l 4) (ci 2)) fun v2=>eb rows (.load1 (.c v2)) fun v3=>eb rows (.mkagg [.int .i64 0,.int .i64 0] [(0,1,(.c v1)),(1,1,(.c v3))]) fun v4=>eb rows (.eqv false (.ints 2) (cl l 21) (.c v4)) fun v5=>Y0 F cx k r rows low 52 ([(22,v5),(34,v5),(33,v4),(32,v3),(31,v2),(30,v1),(29,v0)]++kp l Re):=rg
@[simp] theorem uc93s11:U c93s11 (.cond (.t 22) .skip c93k10):=ur
@[simp] theorem uc93k12:X0 F cx k l rows low r 52 c93k12↔eb rows (.idxA 3 1 (cl l 4) (ci 0)) fun v0=>eb rows (.load1 (.c v0)) fun v1=>eb rows (.idxA 3 1 (cl l 4) (ci 1)) fun v2=>eb rows (.load1 (.c v2)) fun v3=>eb rows (.mkagg [.int .i64 0,.int .i64 0] [(0,1,(.c v1)),(1,1,(.c v3))]) fun v4=>eb rows (.eqv false (.ints 2) (cl l 21) (.c v4)) fun v5=>Y0 F cx k r rows low 52 ([(22,v5),(28,v5),(27,v4),(26,v3),(25,v2),(24,v1),(23,v0)]++kp l Re):=rg
@[simp] theorem uc93s13:U c93s13 (.block 2 (.seq (.seq c93k12 c93s11) c93s9)):=ur
@[simp] theorem uc93k14:X0 F cx k l rows low r 52 c93k14↔eb rows (.loadN 2 (cl l 6)) fun v0=>Y0 F cx k r rows low 52 ([(21,v0)]++kp l Z2):=rg
@[simp] theorem uc93s15:U c93s15 (.seq (.seq c93k14 c93s13) c93s4):=ur
@[simp] theorem uc93k16:X0 F cx k l rows low r 52 c93k16↔Y0 F cx k r rows low 52 ([(7,(.int .i64 0))]++kp l AaI):=rg
@[simp] theorem uc93s17:U c93s17 (.seq c93k16 c93s15):=ur
@[simp] theorem uc93k18:X0 F cx k l rows low r 52 c93k18↔eb rows (.idxS 2 (cl l 14) (cl l 16)) fun v0=>eb rows (.loadN 2 (.c v0)) fun v1=>bnd (evE rows low (.box (.c (.agg [.int .i64 0,.int .i64 0])))) fun q2=>bnd (evE q2.2.1 q2.2.2 (.storeN 2 (.c q2.1) (.c v1))) fun q3=>Y0 F cx k r q3.2.1 q3.2.2 52 ([(5,lk l 16),(6,q2.1),(20,v1),(19,v0),(18,lk l 16)]++kp l Qh):=rg
@[simp] theorem uc93s19:U c93s19 (.seq (.block 1 (.seq c93k18 c93s17)) c93k1):=ur
@[simp] theorem uc93s20:U c93s20 (.seq (.cond (.t 17) .skip (.exit 0)) c93s19):=ur
@[simp] theorem uc93k21:X0 F cx k l rows low r 52 c93k21↔eb rows (.bin .lss (cl l 16) (cl l 15)) fun v0=>Y0 F cx k r rows low 52 ([(17,v0)]++kp l Qh):=rg
@[simp] theorem uc93s22:U c93s22 (.block 0 (.loop c93l0)):=ur
@[simp] theorem uc93k23:X0 F cx k l rows low r 52 c93k23↔eb rows (.fieldA 1 (cl l 1)) fun v0=>eb rows (.load1 (.c v0)) fun v1=>eb rows (.len 0 (.c v1)) fun v2=>Y0 F cx k r rows low 52 ([(16,(.int .i64 0)),(15,v2),(14,v1),(13,v0)]++kp l qq5):=rg
@[simp] theorem uc93s24:U c93s24 (.seq c93k23 c93s22):=ur
@[simp] theorem uc93k25:X0 F cx k l rows low r 52 c93k25↔eb rows (.fieldA 2 (cl l 1)) fun v0=>eb rows (.load1 (.c v0)) fun v1=>eb rows (.load1 (cl l 2)) fun v2=>eb rows (.idxS 3 (.c v1) (.c v2)) fun v3=>eb rows (.loadN 3 (.c v3)) fun v4=>bnd (evE rows low (.box (.c (.agg [.int .i64 0,.int .i64 0,.int .i64 0])))) fun q5=>bnd (evE q5.2.1 q5.2.2 (.storeN 3 (.c q5.1) (.c v4))) fun q6=>Y0 F cx k r q6.2.1 q6.2.2 52 ([(4,q5.1),(12,v4),(11,v3),(10,v2),(9,v1),(8,v0)]++kp l qq1):=rg
@[simp] abbrev Kc93l0:List Itm:=.inLoop c93l0::.inBlock 0::[]
def Jc93s4(F:Nat->Option IFn)(cx:Ctx)(x0 x4 x5 x7 x14 x15 x16:AV)(rows:List Row)(low:Nat)(r:AV×List Row×Nat->Prop):Prop:=Ex F cx (.code c93s4::.inBlock 1::.code c93k1::Kc93l0) ⟨mk 52 [(0,x0),(4,x4),(5,x5),(7,x7),(14,x14),(15,x15),(16,x16)],rows,low⟩ r
theorem jc93s4:Ex F cx (.code c93s4::.inBlock 1::.code c93k1::Kc93l0) ⟨mk 52 l,rows,low⟩ r↔Jc93s4 F cx (lk l 0) (lk l 4) (lk l 5) (lk l 7) (lk l 14) (lk l 15) (lk l 16) rows low r:=Io (keep:=ZD) (by kernel_rfl)
def Lc93l0(F:Nat->Option IFn)(cx:Ctx)(x0 x4 x14 x15 x16:AV)(rows:List Row)(low:Nat)(r:AV×List Row×Nat->Prop):Prop:=Ex F cx (.code c93l0::Kc93l0) ⟨mk 52 [(0,x0),(4,x4),(14,x14),(15,x15),(16,x16)],rows,low⟩ r
@[simp] theorem nc93l0:Ex F cx (Kc93l0) ⟨mk 52 l,rows,low⟩ r↔Lc93l0 F cx (lk l 0) (lk l 4) (lk l 14) (lk l 15) (lk l 16) rows low r:=AA (keep:=Qh) (by kernel_rfl)
@[simp] theorem uc93l0:U c93l0 (.seq c93k21 c93s20):=ur
@[simp] theorem uc93b:U c93b (.seq c93k25 c93s24):=ur
end Go.Abs
namespace Go.Abs
section
variable {rows:List Row}{N:Nat}{ks ps:List Nat}{g v:AV}{l:List Int}
theorem Mc{N:Int}{ev pv:AV}(h1:ev.one=true)(h2:pv.one=true):Ret F 74 [.agg [.int .i64 N,ev,pv]] rows=some (.int .i64 N,rows,none):=by
 refine i74 F74 ?_;simp[AV.cells,h1,h2]
theorem FW{ev pv:AV}(hg:GRd rows (.agg [.int .i64 N,ev,pv]) N ks ps)(h:IsL rows v l)(hb:∀x∈l,-100<=x/\x<=100){f n:Nat}(hl:l.length=n)(hn1:n<=100){g':AV}(hn:∀L,Ret F f [g'] (rows++L)=some (.int .i64 n,rows++L,none)):
  Ret F 66 [.agg [.int .i64 N,ev,pv],v,.iface bd (.agg [.int .u64 f,g'])] rows=some (.int .i64 0,rows,none):=by
 obtain⟨_,_,e,he,hp,_⟩:=hg.eq;simp only[AV.agg.injEq,List.cons.injEq,and_true,true_and]at e;obtain⟨rfl,rfl⟩:=e;have hok:=hg.ok;have h1:=hok.ek;have h2:=hok.pk;have:=Ra (N:=N) (n:=n) he (by omega) hp (by omega) h (by omega) hn;rw[this,UK hok];have hany:l.any Vt=false:=by
  rw[List.any_eq_false];intro x hx;have:=hb x hx;simp[Vt];omega
 simp[opn,hany,hl]
def D8(ks:List Nat)(l:List Int):List Int:=ks.map fun k=>gI l (k%6)-gI l (k/6)
theorem Pf{ks:List Nat}{i:Nat}(h:i<ks.length):(D8 ks l).take (i+1)=(D8 ks l).take i++[gI l (gN ks i%6)-gI l (gN ks i/6)]:=by
 rw[List.take_add_one,AcR (by simpa[D8]using h)];simp[D8,EO h]
theorem Ik:(D8 ks l).length=ks.length:=by simp[D8]
theorem TJ(hb:∀x∈l,-100<=x/\x<=100)(hk:∀k∈ks,k/6<l.length/\k%6<l.length):∀x∈D8 ks l,-200<=x/\x<=200:=by
 intro x hx;obtain⟨k,hk1,rfl⟩:=Ad0.1 hx;obtain⟨h1,h2⟩:=hk k hk1;have:=IT hb h1;have:=IT hb h2;omega
theorem HC{B:List Row}{ev:AV}(hok:GOK N ks ps)(he:El B 2 ev (Ad .i64 (eC ks)) ks.length)(h:IsL B v l)(hl:l.length=N)(hb:∀x∈l,-100<=x/\x<=100){low:Nat}(hlow:low<=B.length){r:AV×List Row×Nat->Prop}
  (hk:∀(L:List Row) (x7:AV),Acc B L 1 (.op 1) x7 (Ad .i64 (D8 ks l)) ks.length->r (.tup [x7,.int .i64 0],B++L,low)):
  ∀(d i:Nat) (L:List Row) (x7:AV),ks.length-i=d->i<=ks.length->Acc B L 1 (.op 1) x7 (Ad .i64 ((D8 ks l).take i)) i->
  Lc33l2 F (.fn [.t 4,.t 5]) v x7 ev (.int .i64 ks.length) (.int .i64 i) (B++L) low r:=by
 intro d
 induction d with
 |zero=>
  intro i L x7 hd h1 hA;have hi:i=ks.length:=by omega
  subst hi;rw[Adq (by rw[Ik];omega)]at hA;have:=hk L x7 hA;unfold Lc33l2;simp;exact this
 |succ d ih=>
  intro i L x7 hd h1 hA;have hi:i<ks.length:=by omega
  have hek:=hok.ek;have hw:IntKind.i64.wrap ((i:Int)+1)=((i+1:Nat):Int):=wS (by omega);obtain⟨e1,e2⟩:=KI hi;have hee:=hok.ee _ (AH hi);have n6:=hok.n6;have hgt:=Pf (l:=l) hi;have b1:=IT hb (i:=gN ks i/6) (by omega);have b2:=IT hb (i:=gN ks i%6) (by omega);have b3:gN ks i/6<l.length:=by omega
  have b4:gN ks i%6<l.length:=by omega
  generalize gN ks i/6=A at *;generalize gN ks i%6=C at *;obtain⟨X,hX⟩:∃X,X=gI l C-gI l A:=⟨_,rfl⟩
  have hws:IntKind.i64.wrap (gI l C-gI l A)=X:=by rw[hX];exact AM (by omega) (by omega)
  rw[<-hX]at hgt;have hA':=FF hA [.cells [.int .i64 A,.int .i64 C]];obtain⟨x7',L',ev1,hA2⟩:=Lx (low:=low) (b:=8) (x:=[.int .i64 X]) hA' rfl (by omega) (by omega) hlow;rw[show Ad .i64 ((D8 ks l).take i)++[.int .i64 X]=Ad .i64 ((D8 ks l).take (i+1))from by rw[hgt,<-Ck];rfl]at hA2;rw[AcO,AcL]at ev1;have ev2:evE (B++(L++[.cells [.int .i64 A,.int .i64 C],.cells [.int .i64 X]])) low (.app 1 8 (.c x7) (.c (.slice (B.length+(L.length+1)) 0 1 (.at_ 1))))=some (x7',B++L',low):=ev1;have:=ih (i+1) L' x7' (by omega) (by omega) hA2;have he':=Ag he L;have h':=Al h (L++[.cells [.int .i64 A,.int .i64 C]]);have hlw:Ab low (B.length+L.length)=low:=Ac (by omega);have i01:AI 0 2=some 0:=rfl;have i11:AI 1 2=some 1:=rfl;unfold Lc33l2;simp (disch:=first|omega|(simp;done)|fail) [hi,B7 he',P3 he',e1,e2,AV.cells,splice,hlw,i01,i11,Ai,Eg h',Ca h',hws,Ap,Bx,ev2,hw,Adb];simpa using this
def Z7(f:Nat)(vs:List AV)(rows:List Row)(l:List Int):Prop:=∃v X,Ret F f vs rows=some (.tup [v,.int .i64 0],rows++X,none)/\X.all (Row.under 0)=true/\IsL (rows++X) v l/\Cp 1 v
def Aaf(f:Nat)(vs:List AV)(rows:List Row)(l:List Int):Prop:=∃v X,Ret F f vs rows=some (v,rows++X,none)/\X.all (Row.under 0)=true/\IsL (rows++X) v l/\Cp 1 v
theorem IS(hg:GRd rows g N ks ps)(h:IsL rows v l)(hl:l.length=N)(hb:∀x∈l,-100<=x/\x<=100):Z7 33 [g,v] rows (D8 ks l):=by
 obtain⟨ev,pv,rfl,he,hp,_⟩:=hg.eq;have hok:=hg.ok;have o1:=An he;have o2:=An hp;have n6:=hok.n6;have ho:=FW (hg.app [.cells [.int .i64 N,ev,pv]]) (Al h [.cells [.int .i64 N,ev,pv]]) hb (f:=74) (n:=N) hl (by omega) (g':=.agg [.int .i64 N,ev,pv]) (fun L=>Mc o1 o2);rw[show((74:Nat):Int)=74 from rfl]at ho
 let Q:AV×List Row×Nat->Prop:=fun r=>∃v X,fin rows r.1 r.2.1 r.2.2=(.tup [v,.int .i64 0],rows++X,none)/\X.all (Row.under 0)=true/\IsL (rows++X) v (D8 ks l)/\Cp 1 v
 have main:Ex F (.fn [.t 4,.t 5]) [.code c33b] ⟨mk 41 [(0,.agg [.int .i64 N,ev,pv]),(1,v)],rows,rows.length⟩ Q:=by
  have hloop:=HC (B:=rows) (low:=rows.length) (r:=Q) hok he h hl hb (AcE _) (fun L x7 hA=>by
   obtain⟨v',X,e,h1,h2,h3,h4⟩:=Ka (e:=0) (kd:=.i64) hA (.inl rfl)
   exact⟨v',X,e,h1,h2,h4⟩) _ 0 [.cells [.int .i64 N,ev,pv]] .nilslice rfl (AcX _) CM
  have ln:=AF (Ag he [.cells [.int .i64 N,ev,pv]]);simp[AV.cells,o1,o2,seg,ho,ln,AG];simpa using hloop
 obtain⟨n1,q,e,v',X,h1,h2⟩:=main;exact⟨v',X,i33 F33 ⟨n1,q,e,h1⟩,h2⟩
end
def gnS(N:Nat)(ks:List Nat)(f:List Int):Nat->List Int
 |0=>List.replicate N 0
 |i+1=>
  let s:=gnS N ks f i
  let s1:=s.set (gN ks i/6) (IntKind.i64.wrap (gI s (gN ks i/6)-gI f i))
  s1.set (gN ks i%6) (IntKind.i64.wrap (gI s1 (gN ks i%6)+gI f i))
theorem Kx{N:Nat}{ks:List Nat}{f:List Int}:∀i,(gnS N ks f i).length=N
 |0=>by simp[gnS]
 |i+1=>by simp[gnS,Kx i]
theorem Ro{m:Nat}:List.replicate m (AV.int .i64 0)=Ad .i64 (List.replicate m 0):=by simp[Ad]
section
variable {rows:List Row}{N:Nat}{ks ps:List Nat}{g v:AV}{l:List Int}
theorem M4{B:List Row}{ev:AV}(hok:GOK N ks ps)(he:El B 2 ev (Ad .i64 (eC ks)) ks.length)(h:IsL B v l)(hl:l.length=ks.length){low:Nat}(hlow:low<=B.length){r:AV×List Row×Nat->Prop}{x7:AV}{c:Cap}
  (hk:∀(L:List Row),Acc B L 1 c x7 (Ad .i64 (gnS N ks l ks.length)) N->r (.tup [x7,.int .i64 0],B++L,low)):
  ∀(d i:Nat) (L:List Row),ks.length-i=d->i<=ks.length->Acc B L 1 c x7 (Ad .i64 (gnS N ks l i)) N->
  Lc22l2 F (.fn [.t 4,.t 5]) v x7 ev (.int .i64 ks.length) (.int .i64 i) (B++L) low r:=by
 intro d
 induction d with
 |zero=>
  intro i L hd h1 hA;have hi:i=ks.length:=by omega
  subst hi;have:=hk L hA;unfold Lc22l2;simp;exact this
 |succ d ih=>
  intro i L hd h1 hA;have hi:i<ks.length:=by omega
  have hek:=hok.ek;have hw:IntKind.i64.wrap ((i:Int)+1)=((i+1:Nat):Int):=wS (by omega);obtain⟨e1,e2⟩:=KI hi;have hee:=hok.ee _ (AH hi);have hs:gnS N ks l (i+1)=((gnS N ks l i).set (gN ks i/6) (IntKind.i64.wrap (gI (gnS N ks l i) (gN ks i/6)-gI l i))).set (gN ks i%6) (IntKind.i64.wrap (gI ((gnS N ks l i).set (gN ks i/6) (IntKind.i64.wrap (gI (gnS N ks l i) (gN ks i/6)-gI l i))) (gN ks i%6)+gI l i)):=rfl;generalize gN ks i/6=A at *;generalize gN ks i%6=C at *;have hAN:A<N:=by omega
  have hCN:C<N:=by omega
  have hA1:=FF hA [.cells [.int .i64 A,.int .i64 C]];obtain⟨L1,ev1,hA2,hL1,hR1⟩:=Dx (i:=A) (x:=IntKind.i64.wrap (gI (gnS N ks l i) A-gI l i)) hA1 hAN hlow;have ixA:=Fg hA1 hAN;have ldA:=Lw hA1 hAN;have hlt:=Sw hA (by omega) (by omega);have hrow:=hR1 (B.length+L.length) [.int .i64 A,.int .i64 C] (by omega) (by unfold Ae;simp);generalize hs1:(gnS N ks l i).set A (IntKind.i64.wrap (gI (gnS N ks l i) A-gI l i))=s1 at *;obtain⟨L2,ev2,hA3,hL2,hR2⟩:=Dx (i:=C) (x:=IntKind.i64.wrap (gI s1 C+gI l i)) hA2 hCN hlow;have ixC:=Fg hA2 hCN;have ldC:=Lw hA2 hCN;rw[<-hs]at hA3;have:=ih (i+1) L2 (by omega) (by omega) hA3;have he':=Ag he L;have h':=Al h (L++[.cells [.int .i64 A,.int .i64 C]]);have h1':=Al h L1;have hlw:Ab low (B.length+L.length)=low:=Ac (by omega);have i01:AI 0 2=some 0:=rfl;have i11:AI 1 2=some 1:=rfl;unfold Lc22l2;simp (disch:=first|omega|(simp;done)|fail) [hi,B7 he',P3 he',e1,e2,AV.cells,splice,hlw,i01,i11,Eg h',Ca h',Eg h1',Ca h1',ixA,ldA,ixC,ldC,ev1,ev2,hrow,hw,-A4];simpa using this
theorem P4(hg:GRd rows g N ks ps)(h:IsL rows v l)(hl:l.length=ks.length)(hb:∀x∈l,-100<=x/\x<=100):Z7 22 [g,v] rows (gnS N ks l ks.length):=by
 obtain⟨ev,pv,rfl,he,hp,_⟩:=hg.eq;have hok:=hg.ok;have o1:=An he;have o2:=An hp;have n6:=hok.n6;have hek:=hok.ek;have ho:=FW (hg.app [.cells [.int .i64 N,ev,pv]]) (Al h [.cells [.int .i64 N,ev,pv]]) hb (f:=67) (n:=ks.length) hl (by omega) (g':=.agg [.int .i64 N,ev,pv]) (fun L=>Du (Ag (Ag he _) L) rfl o2);rw[show((67:Nat):Int)=67 from rfl]at ho
 let Q:AV×List Row×Nat->Prop:=fun r=>∃v X,fin rows r.1 r.2.1 r.2.2=(.tup [v,.int .i64 0],rows++X,none)/\X.all (Row.under 0)=true/\IsL (rows++X) v (gnS N ks l ks.length)/\Cp 1 v
 have main:Ex F (.fn [.t 4,.t 5]) [.code c22b] ⟨mk 53 [(0,.agg [.int .i64 N,ev,pv]),(1,v)],rows,rows.length⟩ Q:=by
  have hA0:=RN (B:=rows) (L:=[.cells [.int .i64 N,ev,pv]]) (m:=N)
  have hloop:=M4 (B:=rows) (low:=rows.length) (r:=Q) (x7:=.slice (rows.length+1) 0 N (.at_ N)) (c:=.at_ N) hok he h hl (AcE _) (fun L hA=>by
   obtain⟨v',X,e,h1,h2,h3,h4⟩:=Ka (e:=0) (kd:=.i64) hA (.inr ⟨_,rfl,AcE _⟩)
   exact⟨v',X,e,h1,h2,h4⟩) _ 0 ([.cells [.int .i64 N,ev,pv]]++[.cells (Ad .i64 (List.replicate N 0))]) rfl (AcX _) hA0
  have ln:=AF (Ag he [.cells [.int .i64 N,ev,pv],.cells (Ad .i64 (List.replicate N 0))]);have hlim:(N:Int)<=lim:=by simp[lim];omega
  simp[AV.cells,o1,o2,seg,ho,AG,hlim,Ro,ln];simpa using hloop
 obtain⟨n1,q,e,v',X,h1,h2⟩:=main;exact⟨v',X,i22 F22 ⟨n1,q,e,h1⟩,h2⟩
end
def Sm(b o:Nat)(R R':List Row):Prop:=b<=R'.length/\∀id,id<b->id≠o->R'[id]?=R[id]?
section
variable {b o:Nat}{R R' R'':List Row}
theorem A2(h:b<=R.length):Sm b o R R:=⟨h,fun _ _ _=>rfl⟩
theorem BI(h:Sm b o R R')(X:List Row):Sm b o R (R'++X):=⟨by rw[AcO];exact AcP h.1 (Nat.le_add_right _ _),fun id h1 h2=>by
 rw[AcD (Adl h1 h.1)];exact h.2 id h1 h2⟩
theorem DC(h:Sm b o R R'){i:Nat}{x:Row}(hi:i=o\/b<=i):Sm b o R (R'.set i x):=⟨by rw[Adh];exact h.1,fun id h1 h2=>by
 rw[AcH (by omega)];exact h.2 id h1 h2⟩
theorem HH(h:Sm b o R R'){n:Nat}(hn:b<=n):Sm b o R (R'.take n):=⟨by rw[AdQ];have:=h.1;omega,fun id h1 h2=>by
 rw[AcZ (by omega)];exact h.2 id h1 h2⟩
theorem A7(h:Sm b o R R'){b':Nat}(h2:Sm b' o R' R'')(hb:b<=b'):Sm b o R R'':=⟨AcP hb h2.1,fun id k1 k2=>(h2.2 id (by omega) k2).trans (h.2 id k1 k2)⟩
theorem Bt(h:Sm b o R R'){id:Nat}{vs:List AV}(hr:Ae R id=some vs)(h1:id<b)(h2:id≠o):Ae R' id=some vs:=by
 unfold Ae at *;rw[h.2 id h1 h2];exact hr
theorem Cd(h:Sm b o R R'){sz n:Nat}{v:AV}{cs:List AV}(he:El R sz v cs n)(h1:v = .nilslice\/(sid v<b/\sid v≠o)):El R' sz v cs n:=by
 rcases AP he with ⟨rfl,rfl,rfl⟩|⟨id,off,c,vs,rfl,hr,hs⟩
 ·exact BY
 ·rcases h1 with h1|⟨h1,h2⟩
  ·simp at h1
  ·have:=Bt h hr h1 h2
   unfold El A5;simp only[this,hs]
   rfl
end
theorem BA{R:List Row}{sz n:Nat}{v:AV}{cs:List AV}(he:El R sz v cs n):v = .nilslice\/sid v<R.length:=by
 rcases AP he with ⟨rfl,_⟩|⟨id,off,c,vs,rfl,hr,_⟩
 ·exact .inl rfl
 ·exact .inr (AS hr)
theorem B6{B:List Row}{vs:List AV}:Ae (B++[.cells vs]) B.length=some vs:=by simp[Ae]
theorem DE{B:List Row}{vs:List AV}:cells? (B++[.cells vs]) B.length=some vs:=by simp[cells?]
theorem CA{F:Nat->Option IFn}{M low:Nat}{R:List Row}{sl SL:List AV}{ds:List Nat}{asg body:ICode}{r:AV×List Row×Nat->Prop}(hM:R[M]?=some (.loop .busy none SL ds asg body)):
  Ex F (.round M) [] ⟨sl,R,low⟩ r↔r (.bool true,R.set M (.loop .ready none SL ds asg body),Ab low M):=by
 rw[Pz];have e:AU (.round M) none ⟨sl,R,low⟩=some (.bool true,R.set M (.loop .ready none SL ds asg body),Ab low M):=by
  unfold AU;simp only[hM];rfl
 constructor
 ·rintro ⟨x,hx,h⟩
  rw[e]at hx;injection hx with hx
  subst hx;exact h
 ·intro h
  exact⟨_,e,h⟩
theorem Fv{R:List Row}{M o:Nat}{l y x:Row}(hM:R[M]?=some l)(ho:o<M):
  (((R.set M y).set o x).set M l).length=R.length/\(∀id,id≠o->(((R.set M y).set o x).set M l)[id]?=R[id]?)/\(((R.set M y).set o x).set M l)[o]?=some x:=by
 have hMl:=(AcF.1 hM).1;refine⟨by simp,?_,?_⟩
 ·intro id h
  by_cases c:id=M
  ·subst c
   rw[AcM (by simp;exact hMl),hM]
  ·rw[AcH (by omega),AcH (by omega),AcH (by omega)]
 ·rw[AcH (by omega),AcM (by simp;omega)]
theorem Xz{B L L':List Row}{sz n b o:Nat}{c:Cap}{v:AV}{cs:List AV}(h:Acc B L sz c v cs n)(hS:Sm b o (B++L) (B++L'))(h1:B.length+L.length<=b)(h2:B.length+L.length<=o\/o<B.length):Acc B L' sz c v cs n:=by
 obtain⟨a1,a2⟩:=h;refine⟨a1,?_⟩;rcases a2 with a2|⟨k,hv,hk⟩
 ·exact .inl a2
 ·refine .inr ⟨k,hv,?_⟩
  have hkl:=(AcF.1 hk).1;have:=hS.2 (B.length+k) (by omega) (by omega);rw[AcG (by omega),AcG (by omega),AcS]at this;rw[this,hk]
def sgn(q k:Nat):Int:=if(k/6=q/36/\k%6=q/6%6)\/(k/6=q/6%6/\k%6=q%6)then 1 else if k/6=q/36/\k%6=q%6 then -1 else 0
def sdS(q:Nat)(ks:List Nat)(upd:Nat->Int->List Int->List Int)(c:List Int):Nat->List Int
 |0=>c
 |i+1=>if sgn q (gN ks i)=0 then sdS q ks upd c i else upd i (sgn q (gN ks i)) (sdS q ks upd c i)
section
variable {rows:List Row}{N:Nat}{ks ps:List Nat}
theorem DB{n0 ev pv:AV}{i:Int}(h0:n0.one=true)(h1:ev.one=true)(h2:pv.one=true):Ret F 62 [.agg [n0,ev,pv],.int .i64 i] rows=some (.func 93 [.ptr rows.length 0,.ptr (rows.length+1) 0],rows++[.cells [n0,ev,pv],.cells [.int .i64 i]],none):=by
 refine i62 F62 ?_;simp[AV.cells,h0,h1,h2,fin]
theorem eq2{k:IntKind}{a b c d:Nat}:Aq [.int k a,.int k b] [.int k c,.int k d]=some (decide (a=c/\b=d)):=by
 simp[Aq]
 by_cases h1:a=c<;>by_cases h2:b=d<;>simp[h1,h2,Int.natCast_inj]
theorem G2{y ev:AV}{P low m i A C qa qb qc:Nat}{R:List Row}{fl:List Int}{S:Int}{r:AV×List Row×Nat->Prop}(hi:i<m)(he':El R 2 ev (Ad .i64 fl) m)(hlw:Ab low R.length=low)(e1:gI fl (i*2)=A)(e2:gI fl (i*2+1)=C)
  (hP':Ae (R++[.cells [.int .i64 A,.int .i64 C]]) P=some [.int .i64 qa,.int .i64 qb,.int .i64 qc])
  (hsgn:S=if(A=qa/\C=qb)\/(A=qb/\C=qc)then 1 else if A=qa/\C=qc then -1 else 0):
  Lc93l0 F (.fn []) y (.ptr P 0) ev (.int .i64 m) (.int .i64 i) R low r↔Jc93s4 F (.fn []) y (.ptr P 0) (.int .i64 i) (.int .i64 S) ev (.int .i64 m) (.int .i64 i) (R++[.cells [.int .i64 A,.int .i64 C]]) low r:=by
 have q1:=eq2 (k:=.i64) (a:=A) (b:=C) (c:=qa) (d:=qb);have q2:=eq2 (k:=.i64) (a:=A) (b:=C) (c:=qb) (d:=qc);have q3:=eq2 (k:=.i64) (a:=A) (b:=C) (c:=qa) (d:=qc);have i02:AI 2 3=some 2:=rfl;have i03:AI 0 3=some 0:=rfl;have i13:AI 1 3=some 1:=rfl;have ix:=B7 he' hi;have ld:=P3 he' hi;rw[e1,e2]at ld;unfold Lc93l0
 by_cases c1:A=qa/\C=qb
 ·rw[decide_eq_true c1]at q1
  rw[if_pos (.inl c1)]at hsgn;subst hsgn;simp[hi,ix,ld,AV.cells,splice,hlw,i02,i03,i13,seg,Ap,q1,hP',-uc93s4,jc93s4]
 ·rw[decide_eq_false c1]at q1
  by_cases c2:A=qb/\C=qc
  ·rw[decide_eq_true c2]at q2
   rw[if_pos (.inr c2)]at hsgn;subst hsgn;simp[hi,ix,ld,AV.cells,splice,hlw,i02,i03,i13,seg,Ap,q1,q2,hP',-uc93s4,jc93s4]
  ·rw[decide_eq_false c2]at q2
   rw[if_neg (by intro h;rcases h with h|h;exact c1 h;exact c2 h)]at hsgn
   by_cases c3:A=qa/\C=qc
   ·rw[decide_eq_true c3]at q3
    rw[if_pos c3]at hsgn;subst hsgn;simp[hi,ix,ld,AV.cells,splice,hlw,i02,i03,i13,seg,Ap,q1,q2,q3,hP',-uc93s4,jc93s4]
   ·rw[decide_eq_false c3]at q3
    rw[if_neg c3]at hsgn;subst hsgn;simp[hi,ix,ld,AV.cells,splice,hlw,i02,i03,i13,seg,Ap,q1,q2,q3,hP',-uc93s4,jc93s4]
theorem MB{M b o:Nat}{sl:List AV}{asg body:ICode}{d1 d2 q P:Nat}{ev:AV}{R0:List Row}{upd:Nat->Int->List Int->List Int}{c0:List Int}(hks:ks.length<=10)(hb:b=R0.length)(hMb:M<b)(hMo:M≠o)(hob:o<b)
  (he:El R0 2 ev (Ad .i64 (eC ks)) ks.length) (heo:sid ev≠o) (hL:R0[M]?=some (.loop .ready none sl [d1,d2] asg body)) (hP:Ae R0 P=some [.int .i64 (q/36:Nat),.int .i64 (q/6%6:Nat),.int .i64 (q%6:Nat)]) (hPo:P≠o)
  (hbody:∀(R:List Row) (i:Nat),Sm b o R0 R->R[o]?=some (.cells (Ad .i64 (sdS q ks upd c0 i)))->i<ks.length->sgn q (gN ks i)≠0->Ex F (.round M) [.code asg,.rfBegin,.code body] ⟨putL sl [d1,d2] [.int .i64 i,.int .i64 (sgn q (gN ks i))],R,R.length⟩ fun x=>
   x.1 = .bool true/\x.2.1.length=R.length/\(∀id,id≠o->x.2.1[id]?=R[id]?)/\x.2.1[o]?=some (.cells (Ad .i64 (upd i (sgn q (gN ks i)) (sdS q ks upd c0 i))))/\x.2.2=min M o)
  {r:AV×List Row×Nat->Prop} {lw0:Nat} (hlw0:lw0<=b) (hend:∀R low,Sm b o R0 R->R[o]?=some (.cells (Ad .i64 (sdS q ks upd c0 ks.length)))->(low=lw0/\sdS q ks upd c0 ks.length=c0\/low=min lw0 (min M o))->r (.tup [],R,low)):
  ∀(n i:Nat) (R:List Row) (low:Nat),ks.length-i=n->i<=ks.length->Sm b o R0 R->R[o]?=some (.cells (Ad .i64 (sdS q ks upd c0 i)))->(low=lw0/\sdS q ks upd c0 i=c0\/low=min lw0 (min M o))->
  Lc93l0 F (.fn []) (.yield M) (.ptr P 0) ev (.int .i64 ks.length) (.int .i64 i) R low r:=by
 intro n
 induction n with
 |zero=>
  intro i R low hn h1 hS hC hlow;have:i=ks.length:=by omega
  subst this;have:=hend R low hS hC hlow;unfold Lc93l0;simp;exact this
 |succ n ih=>
  intro i R low hn h1 hS hC hlow;have hi:i<ks.length:=by omega
  have hPb:P<b:=hb ▸ AS hP;have hw:IntKind.i64.wrap ((i:Int)+1)=((i+1:Nat):Int):=wS (by omega);have he':El R 2 ev (Ad .i64 (eC ks)) ks.length:=Cd hS he (by rcases BA he with h|h;exact .inl h;exact .inr ⟨by omega,heo⟩);have hP':=Ah (Bt hS hP hPb hPo) [.cells [.int .i64 (gN ks i/6:Nat),.int .i64 (gN ks i%6:Nat)]];obtain⟨e1,e2⟩:=KI hi;have hRb:=hS.1;have hlw:Ab low R.length=low:=Ac (by omega);have hS1:=BI hS [.cells [.int .i64 (gN ks i/6:Nat),.int .i64 (gN ks i%6:Nat)]];have hC1:(R++[Row.cells [.int .i64 (gN ks i/6:Nat),.int .i64 (gN ks i%6:Nat)]])[o]?=some (.cells (Ad .i64 (sdS q ks upd c0 i))):=by
   rw[AcD (by omega)];exact hC
  have hL1:(R++[Row.cells [.int .i64 (gN ks i/6:Nat),.int .i64 (gN ks i%6:Nat)]])[M]?=some (.loop .ready none sl [d1,d2] asg body):=(hS1.2 M hMb hMo).trans hL;have hskip:=ih (i+1) _ low (by omega) (by omega) hS1;have hround:=hbody _ i hS1 hC1 hi;have hsgn:sgn q (gN ks i)=if(gN ks i/6=q/36/\gN ks i%6=q/6%6)\/(gN ks i/6=q/6%6/\gN ks i%6=q%6)then 1 else if gN ks i/6=q/36/\gN ks i%6=q%6 then -1 else 0:=rfl
  have hsd:sdS q ks upd c0 (i+1)=if sgn q (gN ks i)=0 then sdS q ks upd c0 i else upd i (sgn q (gN ks i)) (sdS q ks upd c0 i):=rfl
  rw[hsd]at hskip;have hstep:sgn q (gN ks i)≠0->Ex F (.round M) [.code asg,.rfBegin,.code body] ⟨putL sl [d1,d2] [.int .i64 i,.int .i64 (sgn q (gN ks i))],R++[.cells [.int .i64 (gN ks i/6:Nat),.int .i64 (gN ks i%6:Nat)]],(R++[Row.cells [.int .i64 (gN ks i/6:Nat),.int .i64 (gN ks i%6:Nat)]]).length⟩ fun x=>
    x.1 = .bool true/\Lc93l0 F (.fn []) (.yield M) (.ptr P 0) ev (.int .i64 ks.length) (.int .i64 ((i+1:Nat):Int)) (gc (R++[Row.cells [.int .i64 (gN ks i/6:Nat),.int .i64 (gN ks i%6:Nat)]]).length (Ab low x.2.2) x.1 x.2.1) (Ab low x.2.2) r:=by
   intro hs;obtain⟨m,x,e,k1,k2,k3,k4,k5⟩:=hround hs;refine⟨m,x,e,k1,?_⟩;have hgc:gc (R++[Row.cells [.int .i64 (gN ks i/6:Nat),.int .i64 (gN ks i%6:Nat)]]).length (Ab low x.2.2) x.1 x.2.1=x.2.1:=by
    rcases CU (R++[Row.cells [.int .i64 (gN ks i/6:Nat),.int .i64 (gN ks i%6:Nat)]]).length (Ab low x.2.2) x.1 x.2.1 with h|⟨h,_⟩
    ·exact h
    ·rw[h];exact Adq (by omega)
   rw[hgc];refine ih (i+1) _ _ (by omega) (by omega) ⟨by rw[k2];exact hS1.1,fun id a1 a2=>(k3 id a2).trans (hS1.2 id a1 a2)⟩ ?_ ?_
   ·rw[hsd,if_neg hs];exact k4
   ·right
    rw[k5];rcases hlow with ⟨h,_⟩|h<;>rw[h]<;>unfold Ab<;>split<;>omega
  have i02:AI 2 3=some 2:=rfl;have i03:AI 0 3=some 0:=rfl;have i13:AI 1 3=some 1:=rfl;generalize sgn q (gN ks i)=S at *;generalize gN ks i/6=A at *;generalize gN ks i%6=C at *;generalize q/36=qa at *;generalize q/6%6=qb at *;generalize q%6=qc at *;have q1:=eq2 (k:=.i64) (a:=A) (b:=C) (c:=qa) (d:=qb);have q2:=eq2 (k:=.i64) (a:=A) (b:=C) (c:=qb) (d:=qc);have q3:=eq2 (k:=.i64) (a:=A) (b:=C) (c:=qa) (d:=qc);have no:S=0->Lc93l0 F (.fn []) (.yield M) (.ptr P 0) ev (.int .i64 ks.length) (.int .i64 ((i+1:Nat):Int)) (R++[.cells [.int .i64 A,.int .i64 C]]) low r:=fun h=>by
   rw[if_pos h]at hskip;exact hskip hC1 (by rcases hlow with ⟨h1,h2⟩|h1;exact .inl ⟨h1,h2⟩;exact .inr h1)
  have nope:S=0->Jc93s4 F (.fn []) (.yield M) (.ptr P 0) (.int .i64 i) (.int .i64 0) ev (.int .i64 ks.length) (.int .i64 i) (R++[.cells [.int .i64 A,.int .i64 C]]) low r:=fun h=>by
   have:=no h;unfold Jc93s4;simp[hw];simpa using this
  have yes:S≠0->Jc93s4 F (.fn []) (.yield M) (.ptr P 0) (.int .i64 i) (.int .i64 S) ev (.int .i64 ks.length) (.int .i64 i) (R++[.cells [.int .i64 A,.int .i64 C]]) low r:=fun h=>by
   obtain⟨m,x,e,hx1,hx2⟩:=hstep h;unfold Jc93s4;simp[h];rw[P1 hL1 rfl];refine⟨m,x,e,?_⟩;rw[hx1]at hx2;simp only[hx1];simp[hw];simpa using hx2
  rw[G2 (S:=S) hi he' hlw e1 e2 hP' hsgn]
  by_cases c:S=0
  ·have:=nope c
   rw[<-c]at this;exact this
  ·exact yes c
end
section
variable {rows:List Row}{N:Nat}{ks ps:List Nat}
theorem Qt{res:List RV}{f:Opd}{k:List Itm}{sl:List AV}{asg body:ICode}{d1 d2 p ga pa o low:Nat}{n0 ev pv:AV}{Rb:List Row}{upd:Nat->Int->List Int->List Int}{c0:List Int}{r:AV×List Row×Nat->Prop}(hks:ks.length<=10)(hp:p<ps.length)
  (hf:Ak sl f = .func 93 [.ptr ga 0,.ptr pa 0]) (hga:Ae Rb ga=some [n0,ev,pv]) (hpa:Ae Rb pa=some [.int .i64 p]) (he:El Rb 2 ev (Ad .i64 (eC ks)) ks.length) (hpv:El Rb 3 pv (Ad .i64 (pC ps)) ps.length)
  (hlo:low<=o) (ho:o<Rb.length) (heo:sid ev≠o) (hc0:Rb[o]?=some (.cells (Ad .i64 c0)))
  (hbody:∀(R:List Row) (i:Nat),Sm Rb.length o Rb R->R[Rb.length]?=some (.loop .ready none sl [d1,d2] asg body)->R[o]?=some (.cells (Ad .i64 (sdS (gN ps p) ks upd c0 i)))->i<ks.length->sgn (gN ps p) (gN ks i)≠0->Ex F (.round Rb.length) [.code asg,.rfBegin,.code body] ⟨putL sl [d1,d2] [.int .i64 i,.int .i64 (sgn (gN ps p) (gN ks i))],R,R.length⟩ fun x=>
   x.1 = .bool true/\x.2.1.length=R.length/\(∀id,id≠o->x.2.1[id]?=R[id]?)/\x.2.1[o]?=some (.cells (Ad .i64 (upd i (sgn (gN ps p) (gN ks i)) (sdS (gN ps p) ks upd c0 i))))/\x.2.2=min Rb.length o)
  (hend:∀R,Sm Rb.length o Rb R->R[o]?=some (.cells (Ad .i64 (sdS (gN ps p) ks upd c0 ks.length)))->Ex F (.fn res) k ⟨sl,R,low⟩ r):
  Ex F (.fn res) (.code (.rf f [d1,d2] asg body)::k) ⟨sl,Rb,low⟩ r:=by
 rw[Uu];refine⟨rfl,(93,[.yield Rb.length,.ptr ga 0,.ptr pa 0]),by rw[hf];rfl,?_⟩;obtain⟨R0c,hR0⟩:∃R0c,R0c=Rb++[Row.loop .ready none sl [d1,d2] asg body]:=⟨_,rfl⟩
 rw[<-hR0];have hlen:R0c.length=Rb.length+1:=by rw[hR0];simp
 have hS0:Sm Rb.length o Rb R0c:=by rw[hR0];exact BI (A2 (AcE _)) _
 have hL0:R0c[Rb.length]?=some (.loop .ready none sl [d1,d2] asg body):=by rw[hR0];simp
 have hga':Ae R0c ga=some [n0,ev,pv]:=by rw[hR0];exact Ah hga _
 have hpa':Ae R0c pa=some [.int .i64 p]:=by rw[hR0];exact Ah hpa _
 have he':El R0c 2 ev (Ad .i64 (eC ks)) ks.length:=by rw[hR0];exact Ag he _
 have hpv':El R0c 3 pv (Ad .i64 (pC ps)) ps.length:=by rw[hR0];exact Ag hpv _
 obtain⟨P0,hP0⟩:∃P0:Row,P0 = .cells [.int .i64 (gN ps p/36:Nat),.int .i64 (gN ps p/6%6:Nat),.int .i64 (gN ps p%6:Nat)]:=⟨_,rfl⟩
 let after:AV×List Row×Option Nat->Prop:=fun q=>∃z,AL Rb.length low q.2.1 q.2.2=some z/\Ex F (.fn res) (z.1++k) ⟨sl,z.2.1,z.2.2⟩ r
 -- what is left, seen from outside
 have hafter:∀(R:List Row) (d:Option Nat),AC low d=low->R[Rb.length]?=some (.loop .ready none sl [d1,d2] asg body)->Sm Rb.length o Rb R->R[o]?=some (.cells (Ad .i64 (sdS (gN ps p) ks upd c0 ks.length)))->after (.tup [],R,d):=by
  intro R d hd hM hS hC;have hal:AL Rb.length low R d=some ([],gc Rb.length low (.tup []) (R.set Rb.length .dead),low):=by
   unfold AL;simp only[hM];rw[if_neg (by decide),hd]
   rfl
  refine⟨_,hal,?_⟩;have hS1:=DC hS (i:=Rb.length) (x:=.dead) (.inr (AcE _));have hC1:(R.set Rb.length .dead)[o]?=some (.cells (Ad .i64 (sdS (gN ps p) ks upd c0 ks.length))):=by rw[AcH (by omega)];exact hC
  show Ex F (.fn res) ([]++k) ⟨sl,gc Rb.length low (.tup []) (R.set Rb.length .dead),low⟩ r;rcases CU Rb.length low (.tup []) (R.set Rb.length .dead)with h|⟨h,_⟩
  ·rw[h];exact hend _ hS1 hC1
  ·rw[h]
   refine hend _ (HH hS1 (AcE _)) ?_;rw[AcZ ho];exact hC1
 refine D7 F93 (R:=after) (show Ex F (.fn []) [.code c93b] ⟨mk 52 [(0,.yield Rb.length),(1,.ptr ga 0),(2,.ptr pa 0)],R0c,R0c.length⟩ _ from ?_);have hl:=MB (M:=Rb.length) (b:=R0c.length+1) (o:=o) (sl:=sl) (asg:=asg) (body:=body) (d1:=d1) (d2:=d2) (q:=gN ps p) (P:=R0c.length) (ev:=ev) (R0:=R0c++[P0]) (upd:=upd) (c0:=c0) (ks:=ks) hks (by simp) (by omega) (by omega) (by omega) (Ag he' _) heo
  (by rw[AcD (by omega)];exact hL0) (by rw[hP0];exact B6) (by omega)
  (fun R i hS hC hi hs=>hbody R i (A7 hS0 (A7 (BI (A2 (AcE R0c.length)) [P0]) hS (Nat.le_succ _)) (by omega)) (by
   rw[hS.2 _ (by omega) (by omega),AcD (by omega)];exact hL0) hC hi hs)
  (r:=fun x=>after (fin R0c x.1 x.2.1 x.2.2)) (lw0:=R0c.length) (by omega) (fun R lw hS hC hlw=>by
   have hSb:Sm Rb.length o Rb R:=A7 hS0 (A7 (BI (A2 (AcE R0c.length)) [P0]) hS (Nat.le_succ _)) (by omega);have hLR:R[Rb.length]?=some (.loop .ready none sl [d1,d2] asg body):=by
    rw[hS.2 _ (by omega) (by omega),AcD (by omega)];exact hL0
   by_cases c:lw=R0c.length
   ·have hfin:fin R0c (.tup []) R lw=(.tup [],R0c,none):=by
     unfold fin;rw[if_pos c]
     rfl
    rw[hfin];have hcc:sdS (gN ps p) ks upd c0 ks.length=c0:=by
     rcases hlw with ⟨_,h⟩|h
     ·exact h
     ·omega
    refine hafter _ none rfl hL0 hS0 ?_;rw[hcc,hR0,AcD ho];exact hc0
   ·have hlo2:lw=o:=by
     rcases hlw with ⟨h,_⟩|h
     ·exact absurd h c
     ·omega
    have hfin:fin R0c (.tup []) R lw=(.tup [],gc R0c.length lw (.tup []) R,some lw):=by
     unfold fin;rw[if_neg c]
    rw[hfin];have hlowO:AC low (some lw)=low:=by
     show Ab low lw=low;exact Ac (by omega)
    rcases CU R0c.length lw (.tup []) R with h|⟨h,_⟩
    ·rw[h];exact hafter _ _ hlowO hLR hSb hC
    ·rw[h]
     refine hafter _ _ hlowO ?_ (HH hSb (by omega)) ?_
     ·rw[AcZ (by omega)];exact hLR
     ·rw[AcZ (by omega)];exact hC) _ 0 (R0c++[P0]) R0c.length rfl (AcX _) (A2 (by simp)) (by
   rw[AcD (by omega),hR0,AcD ho];exact hc0) (.inl ⟨rfl,rfl⟩)
 rw[hP0]at hl;obtain⟨e1,e2,e3⟩:=W1 hp;have ix:=B7 hpv' hp;have ld:=AaZ hpv' hp;rw[e1,e2,e3]at ld;have hga2:=Ah hga' [.cells [.int .i64 (gN ps p/36:Nat),.int .i64 (gN ps p/6%6:Nat),.int .i64 (gN ps p%6:Nat)]];have ln:=AF (Ag he' [.cells [.int .i64 (gN ps p/36:Nat),.int .i64 (gN ps p/6%6:Nat),.int .i64 (gN ps p%6:Nat)]]);have hlw:Ab R0c.length R0c.length=R0c.length:=Ac (AcE _);generalize gN ps p/36=qa at *;generalize gN ps p/6%6=qb at *;generalize gN ps p%6=qc at *;clear hafter hend hbody;simp[hga',hpa',ix,ld,AV.cells,splice,hlw,hga2,ln];simpa using hl
end
theorem J0{q:Nat}{ks:List Nat}{upd:Nat->Int->List Int->List Int}{c:List Int}{m:Nat}(hc:c.length=m)(hu:∀i s c,c.length=m->(upd i s c).length=m):∀i,(sdS q ks upd c i).length=m
 |0=>hc
 |
  i+1=>by
  rw[sdS]
  split
  ·exact J0 hc hu i
  ·exact hu _ _ _ (J0 hc hu i)
section
variable {rows:List Row}{N:Nat}{ks ps:List Nat}{v:AV}{l:List Int}
end
theorem Ly{B R:List Row}{o:Nat}(h:Sm B.length o B R)(ho:B.length<=o):∃L,R=B++L:=by
 refine⟨R.drop B.length,?_⟩;apply Adx;intro i
 by_cases c:i<B.length
 ·rw[AcD c]
  exact h.2 i c (by omega)
 ·rw[AcG (by omega),Adr]
  congr 1;omega
section
variable {rows:List Row}{N:Nat}{ks ps:List Nat}{v g:AV}{l:List Int}
end
def Ww(f:List Int)(i:Nat)(s:Int)(c:List Int):List Int:=[IntKind.i64.wrap (gI c 0+IntKind.i64.wrap (s*gI f i))]
def tuS(ks:List Nat)(f:List Int)(q:Nat):Int:=gI (sdS q ks (Ww f) [0] ks.length) 0
theorem Xc{ks:List Nat}{f:List Int}{q i:Nat}:∃x,sdS q ks (Ww f) [0] i=[x]:=by
 have h:=J0 (q:=q) (ks:=ks) (upd:=Ww f) (c:=[0]) (m:=1) rfl (fun _ _ _ _=>rfl) i;generalize sdS q ks (Ww f) [0] i=c at h
 match c,h with
 |[x],_=>exact⟨x,rfl⟩
section
variable {rows:List Row}{N:Nat}{ks ps:List Nat}{v g:AV}{l:List Int}
theorem Mm{i:Nat}(h:i<ps.length):(ps.map (tuS ks l)).take (i+1)=(ps.map (tuS ks l)).take i++[tuS ks l (gN ps i)]:=by
 rw[List.take_add_one,AcR (by simpa using h)];simp[EO h]
theorem MR{ev pv n0:AV}(hok:GOK N ks ps)(he:El rows 2 ev (Ad .i64 (eC ks)) ks.length)(hp:El rows 3 pv (Ad .i64 (pC ps)) ps.length)(h:IsL rows v l)(hl:l.length=ks.length){r:AV×List Row×Nat->Prop}{R1:List Row}(o0:n0.one=true)
  (hR1:R1=rows++[.cells [n0,ev,pv],.cells [v]])
  (hk:∀L x7,Acc rows L 1 (.op 1) x7 (Ad .i64 (ps.map (tuS ks l))) ps.length->r (.tup [x7,.int .i64 0],rows++L,rows.length)):
  ∀(d p:Nat) (L:List Row) (x7:AV),ps.length-p=d->p<=ps.length->Sm (rows.length+2) rows.length.succ.succ R1 (rows++L)->(x7 = .nilslice\/rows.length+2<=sid x7)->Acc rows L 1 (.op 1) x7 (Ad .i64 ((ps.map (tuS ks l)).take p)) p->
  Lc40l2 F (.fn [.t 4,.t 5]) (.ptr rows.length 0) (.ptr (rows.length+1) 0) .nilslice (.int .i64 0) x7 (.int .i64 ps.length) (.int .i64 p) (rows++L) rows.length r:=by
 have hek:=hok.ek;have hpk:=hok.pk;have b0:Ae R1 rows.length=some [n0,ev,pv]:=by rw[hR1];simp[Ae]
 have b1:Ae R1 (rows.length+1)=some [v]:=by rw[hR1];simp[Ae]
 have hev:ev = .nilslice\/sid ev<rows.length:=BA he;intro d
 induction d with
 |zero=>
  intro p L x7 hd h1 hS hx7 hA;have hi:p=ps.length:=by omega
  subst hi;rw[Adq (by simp)]at hA;have:=hk L x7 hA;unfold Lc40l2;simp;exact this
 |succ d ih=>
  intro p L x7 hd h1 hS hx7 hA;have hi:p<ps.length:=by omega
  have hw:IntKind.i64.wrap ((p:Int)+1)=((p+1:Nat):Int):=wS (by omega);have hRl:=hS.1;have he':=Ag he L;have hp':=Ag hp L;have hb0:=Bt hS b0 (by omega) (by omega);have A9:=An he;have one2:=An hp;have htt:=Mm (ks:=ks) (l:=l) hi;obtain⟨R,hR⟩:∃R,R=rows++L:=⟨_,rfl⟩
  rw[<-hR]at hS hRl he' hp' hb0;have hRR:R.length=rows.length+L.length:=by rw[hR];simp
  -- the rows at the range
  obtain⟨Rb,hRb⟩:∃Rb,Rb=R++[.cells [.int .i64 0],.cells [n0,ev,pv],.cells [.int .i64 p]]:=⟨_,rfl⟩
  have hRbl:Rb.length=R.length+3:=by rw[hRb];simp
  have hSb:Sm (rows.length+2) rows.length.succ.succ R1 Rb:=by rw[hRb];exact BI hS _
  have hC0:Rb[R.length]?=some (.cells (Ad .i64 [0])):=by rw[hRb];simp[Ad]
  have hLb:Rb=rows++(L++[.cells [.int .i64 0],.cells [n0,ev,pv],.cells [.int .i64 p]]):=by rw[hRb,hR];simp
  have hrf:∀(sl:List (Nat×AV)),lk sl 28 = .func 93 [.ptr (R.length+1) 0,.ptr (R.length+2) 0]->lk sl 7=x7->lk sl 9 = .ptr R.length 0->
    lk sl 2 = .ptr rows.length 0->lk sl 3 = .ptr (rows.length+1) 0->lk sl 4 = .nilslice->lk sl 5 = .int .i64 0->lk sl 22 = .int .i64 ps.length->lk sl 23 = .int .i64 p->
    Ex F (.fn [.t 4,.t 5]) (.code (.rf (.t 28) [29,30] c40f5a c40f5b)::.inBlock 2::.code c40k4::.inBlock 1::.code c40k3::.inLoop c40l2::.inBlock 0::.code c40s1::[]) ⟨mk 45 sl,Rb,rows.length⟩ r:=by
   intro sl s28 s7 s9 s2 s3 s4 s5 s22 s23;refine Qt (ks:=ks) (ps:=ps) (p:=p) (ga:=R.length+1) (pa:=R.length+2) (o:=R.length) (n0:=n0) (ev:=ev) (pv:=pv) (upd:=Ww l) (c0:=[0]) hek hi (by rw[Dc _ _ _ (by omega)];exact s28)
    (by rw[hRb];simp[Ae]) (by rw[hRb];simp[Ae]) (by rw[hRb];exact Ag he' _) (by rw[hRb];exact Ag hp' _) (by omega) (by omega) (by
     rcases hev with e|e
     ·subst e
      show 0≠_;omega
     ·omega) hC0 ?_ ?_
   ·intro Q i hSQ hM hCQ hi2 hsg
    have hQl:=hSQ.1;have hML:=(AcF.1 hM).1;obtain⟨c,hc⟩:=Xc (ks:=ks) (f:=l) (q:=gN ps p) (i:=i);rw[hc]at hCQ ⊢;generalize sgn (gN ps p) (gN ks i)=s at *;rw[ER,uc40f5a];simp only[Fc,uc40k8,uc40k7];rw[B9];refine⟨none,mk 45 sl,[29,30],c40f5a,c40f5b,hM,?_⟩;have hlwM:Ab Q.length Rb.length=Rb.length:=by unfold Ab;split<;>omega
    have hlwo:Ab Rb.length R.length=R.length:=by unfold Ab;split<;>omega
    have hlwe:Ab R.length Rb.length=R.length:=by unfold Ab;split<;>omega
    rw[hlwM];obtain⟨Q1,hQ1⟩:∃Q1,Q1=Q.set Rb.length (.loop .busy none (mk 45 sl) [29,30] c40f5a c40f5b):=⟨_,rfl⟩
    rw[<-hQ1];have hS1:Sm Rb.length R.length Rb Q1:=by rw[hQ1];exact DC hSQ (.inr (AcE _))
    have a3:Ae Q1 (rows.length+1)=some [v]:=Bt hS1 (Bt hSb b1 (by omega) (by omega)) (by omega) (by omega);have hQr:Sm rows.length R.length rows Q1:=A7 (by rw[hLb];exact BI (A2 (AcE _)) _) hS1 (by omega);have h':IsL Q1 v l:=Cd hQr h (by rcases BA h with e|e;exact .inl e;exact .inr ⟨e,by omega⟩);have hCo:Q1[R.length]?=some (.cells (Ad .i64 [c])):=by rw[hQ1,AcH (by omega)];exact hCQ
    have hrow:Ae Q1 R.length=some [.int .i64 c]:=by unfold Ae;rw[hCo];rfl
    have hcel:cells? Q1 R.length=some [.int .i64 c]:=by unfold cells?;rw[hCo];rfl
    have ix:=B7 h' (show i<l.length by omega);have ld:=F0 h' (show i<l.length by omega);rw[Add]at ix;have hnu:∀x,Row.cells [AV.int .i64 x] = .cells (Ad .i64 [x]):=fun x=>rfl
    have hM1:(Q1.set R.length (.cells [.int .i64 (IntKind.i64.wrap (c+IntKind.i64.wrap (s*gI l i)))]))[Rb.length]?=some (.loop .busy none (mk 45 sl) [29,30] c40f5a c40f5b):=by
     rw[AcH (by omega),hQ1,AcM hML]
    have hput:=Fv (R:=Q) (M:=Rb.length) (o:=R.length) (x:=.cells [.int .i64 (IntKind.i64.wrap (c+IntKind.i64.wrap (s*gI l i)))]) (y:=.loop .busy none (mk 45 sl) [29,30] c40f5a c40f5b) hM (by omega);rw[<-hQ1]at hput;simp[s3,s9,a3,hrow,ix,ld,hcel,hlwo];rw[CA hM1,hlwe];refine⟨rfl,hput.1,hput.2.1,hput.2.2,?_⟩;show R.length=min Rb.length R.length;omega
   ·intro Q hSQ hCQ
    have hSQr:Sm rows.length R.length rows Q:=A7 (by rw[hLb];exact BI (A2 (AcE _)) _) hSQ (by omega);obtain⟨L',rfl⟩:=Ly hSQr (by omega);obtain⟨c,hc⟩:=Xc (ks:=ks) (f:=l) (q:=gN ps p) (i:=ks.length);rw[hc]at hCQ;have htu:tuS ks l (gN ps p)=c:=by unfold tuS;rw[hc];rfl
    rw[htu]at htt;have hrow:Ae (rows++L') R.length=some [.int .i64 c]:=by unfold Ae;rw[hCQ];rfl
    have hSR:Sm R.length R.length (rows++L) (rows++L'):=A7 (by rw[<-hR,hRb];exact BI (A2 (AcE _)) _) hSQ (by omega);have hA0:=Xz hA hSR (by omega) (by omega);have hSQ1:Sm (rows.length+2) rows.length.succ.succ R1 (rows++L'):=⟨by have:=hSR.1;omega,fun id a1 a2=>(hSR.2 id (by omega) (by omega)).trans (by rw[<-hR];exact hS.2 id a1 a2)⟩
    obtain⟨x7',L2,ev2,hA2,hid,hsid,hLl⟩:=BQ (low:=rows.length) (b:=8) (x:=[.int .i64 c]) hA0 rfl (by omega) (by omega) (AcE _);rw[show Ad .i64 ((ps.map (tuS ks l)).take p)++[.int .i64 c]=Ad .i64 ((ps.map (tuS ks l)).take (p+1))from by rw[htt,<-Ck];rfl]at hA2;have:=ih (p+1) L2 x7' (by omega) (by omega) ⟨by have:=hSQ1.1;simp at this ⊢;omega,fun id a1 a2=>(hid id (by have:=hSQ1.1;simp at this;omega) (by rcases hx7 with e|e;exact .inl e;exact .inr (by omega))).trans (hSQ1.2 id a1 a2)⟩ (.inr (by have:=hSQ1.1;simp at this;omega)) hA2;simp[s2,s3,s4,s5,s7,s9,s22,s23,hw,hrow,Ap,splice,ev2];simpa using this
  have hb0':=Ah hb0 [.cells [.int .i64 0]];have hsd:=DB (rows:=R++[.cells [.int .i64 0]]) (n0:=n0) (ev:=ev) (pv:=pv) (i:=p) o0 A9 one2;have hlw:Ab rows.length R.length=rows.length:=Ac (by omega);have e1:R++[Row.cells [.int .i64 0]]++[.cells [n0,ev,pv],.cells [.int .i64 p]]=Rb:=by rw[hRb];simp
  rw[e1]at hsd;unfold Lc40l2;rw[<-hR];simp[hi,AV.cells,hlw,hb0',seg,hsd];refine hrf _ ?_ ?_ ?_ ?_ ?_ ?_ ?_ ?_ ?_<;>simp
theorem NM(hg:GRd rows g N ks ps)(h:IsL rows v l)(hl:l.length=ks.length)(hb:∀x∈l,-100<=x/\x<=100):Z7 40 [g,v] rows (ps.map (tuS ks l)):=by
 obtain⟨ev,pv,rfl,he,hp,_⟩:=hg.eq;have hok:=hg.ok;have o1:=An he;have o2:=An hp;have o3:=An h;have hek:=hok.ek;have hpk:=hok.pk;have ho:=FW (hg.app [.cells [.int .i64 N,ev,pv],.cells [v]]) (Al h [.cells [.int .i64 N,ev,pv],.cells [v]]) hb (f:=67) (n:=ks.length) hl (by omega) (g':=.agg [.int .i64 N,ev,pv]) (fun L=>Du (Ag (Ag he _) L) rfl o2);rw[show((67:Nat):Int)=67 from rfl]at ho
 let Q:AV×List Row×Nat->Prop:=fun r=>∃v X,fin rows r.1 r.2.1 r.2.2=(.tup [v,.int .i64 0],rows++X,none)/\X.all (Row.under 0)=true/\IsL (rows++X) v (ps.map (tuS ks l))/\Cp 1 v
 have main:Ex F (.fn [.t 4,.t 5]) [.code c40b] ⟨mk 45 [(0,.agg [.int .i64 N,ev,pv]),(1,v)],rows,rows.length⟩ Q:=by
  have hloop:=MR (rows:=rows) (n0:=.int .i64 N) (r:=Q) hok he hp h hl rfl rfl (fun L x7 hA=>by
   obtain⟨v',X,e,h1,h2,h3,h4⟩:=Ka (e:=0) (kd:=.i64) hA (.inl rfl)
   exact⟨v',X,e,h1,h2,h4⟩) _ 0 [.cells [.int .i64 N,ev,pv],.cells [v]] .nilslice rfl (AcX _) (A2 (by simp)) (.inl rfl) CM
  have ln:=AF (Ag hp [.cells [.int .i64 N,ev,pv],.cells [v]]);have hvc:v.cells=[v]:=by
   rcases AP h with ⟨rfl,_⟩|⟨id,off,c,vs,rfl,_⟩<;>rfl
  simp[o1,o2,o3,hvc,seg,ho,AG,ln];simpa using hloop
 obtain⟨n1,q,e,v',X,h1,h2⟩:=main;exact⟨v',X,i40 F40 ⟨n1,q,e,h1⟩,h2⟩
end
theorem Jz{ks:List Nat}{a b:Nat}(hb:b<6)(h:a*6+b∈ks):∃i,i<ks.length/\pix (eC ks) a b ks.length 0=i/\gN ks i=a*6+b:=by
 have h0:=(FP (ks:=ks) (a:=a) hb).2 h;obtain⟨k,h1,_,h2,h3,h4⟩:=Om ks.length 0 h0;have hk:k<ks.length:=by omega
 obtain⟨e1,e2⟩:=KI hk;rw[e1]at h3;rw[e2]at h4;exact⟨k,hk,h1,by omega⟩
theorem K3{l:List Nat}(h:l.Pairwise (· < ·)){i j:Nat}(hi:i<l.length)(hj:j<l.length)(e:gN l i=gN l j):i=j:=by
 rcases Aec i j with c|c|c
 ·have:=NC h c hj;omega
 ·exact c
 ·have:=NC h c hi;omega
theorem To{l:List Nat}(h:l.Pairwise (· < ·)){i j:Nat}(hi:i<l.length)(hj:j<l.length)(e:gN l i<gN l j):i<j:=by
 rcases Aec i j with c|c|c
 ·exact c
 ·subst c;omega
 ·have:=NC h c hi;omega
section
variable {rows:List Row}{N:Nat}{ks ps:List Nat}{v g:AV}{l:List Int}
end
theorem AT{c:List Int}{i j:Nat}{x:Int}(h:i≠j):gI (c.set i x) j=gI c j:=by
 simp only[gI,AdD];rw[AcH h]
section
variable {rows:List Row}{N:Nat}{ks ps:List Nat}{v g:AV}{l:List Int}
end
variable {F:Nat->Option IFn}{cx:Ctx}{k:List Itm}{s:St}{l:List (Nat×AV)}{rows:List Row}{low:Nat}{r:AV×List Row×Nat->Prop}
@[simp] theorem uc23k0:X0 F cx k l rows low r 32 c23k0↔eb rows (.loadN 3 (cl l 7)) fun v0=>bnd (evE rows low (.storeN 3 (cl l 4) (.c v0))) fun q1=>Y0 F cx k r q1.2.1 q1.2.2 32 [(5,(.int .i64 0)),(31,v0),(4,lk l 4),(7,lk l 7)]:=rg
@[simp] theorem uc23s1:U c23s1 (.seq c23k0 .ret):=ur
@[simp] theorem uc23k3:X0 F cx k l rows low r 32 c23k3↔eb rows (.bin .add (cl l 22) (ci 1)) fun v0=>Y0 F cx k r rows low 32 ([(22,v0),(30,v0)]++kp l Gn):=rg
@[simp] theorem uc23k4:X0 F cx k l rows low r 32 c23k4↔bnd (Ret F 69 [lk l 9] rows) fun q0=>bnd (evP q0.2.1 (.idxA 3 1 (cl l 7) (cl l 8))) fun v1=>bnd (evE q0.2.1 (AC low q0.2.2) (.store1 (.c v1) (.c q0.1))) fun q2=>Y0 F cx k r q2.2.1 q2.2.2 32 ([(29,v1),(28,q0.1),(27,lk l 9),(26,lk l 8)]++kp l TD):=rg
@[simp] theorem uc23k5:X0 F cx k l rows low r 32 c23k5↔eb rows (.idxV 3 1 false (cl l 21) (cl l 22)) fun v0=>Y0 F cx k r rows low 32 ([(9,v0),(8,lk l 22),(25,v0),(24,lk l 22)]++kp l Gn):=rg
@[simp] theorem uc23s6:U c23s6 (.seq (.block 1 (.seq c23k5 c23k4)) c23k3):=ur
@[simp] theorem uc23s7:U c23s7 (.seq (.cond (.t 23) .skip (.exit 0)) c23s6):=ur
@[simp] theorem uc23k8:X0 F cx k l rows low r 32 c23k8↔eb rows (.bin .lss (cl l 22) (ci 3)) fun v0=>Y0 F cx k r rows low 32 ([(23,v0)]++kp l Gn):=rg
@[simp] theorem uc23s9:U c23s9 (.block 0 (.loop c23l2)):=ur
@[simp] theorem uc23k10:X0 F cx k l rows low r 32 c23k10↔eb rows (.loadN 3 (cl l 2)) fun v0=>bnd (Ret F 68 [v0,lk l 1] rows) fun q1=>Y0 F cx k r q1.2.1 (AC low q1.2.2) 32 ([(22,(.int .i64 0)),(21,q1.1),(20,lk l 1),(19,v0)]++kp l Aal):=rg
@[simp] theorem uc23s11:U c23s11 (.seq (.seq c23k10 c23s9) c23s1):=ur
@[simp] theorem uc23k12:X0 F cx k l rows low r 32 c23k12↔bnd (evE rows low (.box (.c (.agg [.nilslice,.nilslice,.nilslice])))) fun q0=>Y0 F cx k r q0.2.1 q0.2.2 32 ([(7,q0.1)]++kp l QL):=rg
@[simp] theorem uc23s13:U c23s13 (.seq c23k12 c23s11):=ur
@[simp] theorem uc23k14:X0 F cx k l rows low r 32 c23k14↔eb rows (.mkagg [.nilslice,.nilslice,.nilslice] []) fun v0=>bnd (evE rows low (.storeN 3 (cl l 4) (.c v0))) fun q1=>Y0 F cx k r q1.2.1 q1.2.2 32 [(5,lk l 6),(18,lk l 6),(17,v0),(4,lk l 4),(6,lk l 6)]:=rg
@[simp] theorem uc23s15:U c23s15 (.cond (.t 16) (.seq c23k14 .ret) .skip):=ur
@[simp] theorem uc23k16:X0 F cx k l rows low r 32 c23k16↔eb rows (.bin .neq (cl l 6) (ci 0)) fun v0=>Y0 F cx k r rows low 32 ([(16,v0),(15,lk l 6)]++kp l Abk):=rg
@[simp] theorem uc23s17:U c23s17 (.seq c23k16 c23s15):=ur
@[simp] theorem uc23k18:X0 F cx k l rows low r 32 c23k18↔eb rows (.loadN 3 (cl l 2)) fun v0=>eb rows (.loadN 3 (cl l 2)) fun v1=>eb rows (.bind 67 [(.c v1)]) fun v2=>bnd (Ret F 66 [v0,lk l 1,v2] rows) fun q3=>Y0 F cx k r q3.2.1 (AC low q3.2.2) 32 ([(6,q3.1),(14,q3.1),(13,v2),(12,v1),(11,lk l 1),(10,v0)]++kp l QL):=rg
@[simp] theorem uc23s19:U c23s19 (.seq (.seq c23k18 c23s17) c23s13):=ur
@[simp] theorem uc23k20:X0 F cx k l rows low r 32 c23k20↔bnd (evE rows low (.box (cl l 0))) fun q0=>bnd (evE q0.2.1 q0.2.2 (.box (.c (.agg [.nilslice,.nilslice,.nilslice])))) fun q1=>Y0 F cx k r q1.2.1 q1.2.2 32 [(5,(.int .i64 0)),(4,q1.1),(2,q0.1),(0,lk l 0),(1,lk l 1)]:=rg
@[simp] abbrev Kc23l2:List Itm:=.inLoop c23l2::.inBlock 0::.code c23s1::[]
def Lc23l2(F:Nat->Option IFn)(cx:Ctx)(x4 x7 x21 x22:AV)(rows:List Row)(low:Nat)(r:AV×List Row×Nat->Prop):Prop:=Ex F cx (.code c23l2::Kc23l2) ⟨mk 32 [(4,x4),(7,x7),(21,x21),(22,x22)],rows,low⟩ r
@[simp] theorem nc23l2:Ex F cx (Kc23l2) ⟨mk 32 l,rows,low⟩ r↔Lc23l2 F cx (lk l 4) (lk l 7) (lk l 21) (lk l 22) rows low r:=AA (keep:=Gn) (by kernel_rfl)
@[simp] theorem uc23l2:U c23l2 (.seq c23k8 c23s7):=ur
@[simp] theorem uc23b:U c23b (.seq c23k20 c23s19):=ur
theorem i23{x0 x1:AV}(hF:F 23=some c23){q:AV×List Row×Option Nat}(h:Ex F (.fn [.cellN 4 3,.t 5]) [.code c23b] ⟨mk 32 [(0,x0),(1,x1)],rows,rows.length⟩ fun r=>fin rows r.1 r.2.1 r.2.2=q):Ret F 23 [x0,x1] rows=some q:=Av hF h
@[simp] theorem uc24k0:X0 F cx k l rows low r 19 c24k0↔eb rows (.loadN 3 (cl l 2)) fun v0=>bnd (Ret F 70 [v0,lk l 1] rows) fun q1=>bnd (Ret F 69 [q1.1] q1.2.1) fun q2=>Y0 F cx k r q2.2.1 (AC (AC low q1.2.2) q2.2.2) 19 [(5,(.int .i64 0)),(4,q2.1),(18,q2.1),(17,q1.1),(16,lk l 1),(15,v0),(1,lk l 1),(2,lk l 2)]:=rg
@[simp] theorem uc24s1:U c24s1 (.seq c24k0 .ret):=ur
@[simp] theorem uc24k2:X0 F cx k l rows low r 19 c24k2↔Y0 F cx k r rows low 19 [(5,lk l 6),(4,.nilslice),(14,lk l 6),(6,lk l 6)]:=rg
@[simp] theorem uc24s3:U c24s3 (.cond (.t 13) (.seq c24k2 .ret) .skip):=ur
@[simp] theorem uc24k4:X0 F cx k l rows low r 19 c24k4↔eb rows (.bin .neq (cl l 6) (ci 0)) fun v0=>Y0 F cx k r rows low 19 ([(13,v0),(12,lk l 6)]++kp l Il):=rg
@[simp] theorem uc24s5:U c24s5 (.seq c24k4 c24s3):=ur
@[simp] theorem uc24k6:X0 F cx k l rows low r 19 c24k6↔eb rows (.loadN 3 (cl l 2)) fun v0=>eb rows (.loadN 3 (cl l 2)) fun v1=>eb rows (.bind 67 [(.c v1)]) fun v2=>bnd (Ret F 66 [v0,lk l 1,v2] rows) fun q3=>Y0 F cx k r q3.2.1 (AC low q3.2.2) 19 [(6,q3.1),(11,q3.1),(10,v2),(9,v1),(8,lk l 1),(7,v0),(1,lk l 1),(2,lk l 2)]:=rg
@[simp] theorem uc24s7:U c24s7 (.seq (.seq c24k6 c24s5) c24s1):=ur
@[simp] theorem uc24k8:X0 F cx k l rows low r 19 c24k8↔bnd (evE rows low (.box (cl l 0))) fun q0=>Y0 F cx k r q0.2.1 q0.2.2 19 [(5,(.int .i64 0)),(4,.nilslice),(2,q0.1),(0,lk l 0),(1,lk l 1)]:=rg
@[simp] theorem uc24b:U c24b (.seq c24k8 c24s7):=ur
@[simp] theorem uc30k0:X0 F cx k l rows low r 53 c30k0↔eb rows (.len 0 (cl l 0)) fun v0=>eb rows (.bin .eql (.c v0) (cl l 1)) fun v1=>Y0 F cx k r rows low 53 [(4,v1),(52,v1),(51,lk l 1),(50,v0),(49,lk l 0),(0,lk l 0),(1,lk l 1)]:=rg
@[simp] theorem uc30s1:U c30s1 (.seq c30k0 .ret):=ur
@[simp] theorem uc30k3:X0 F cx k l rows low r 53 c30k3↔eb rows (.bin .add (cl l 6) (ci 1)) fun v0=>Y0 F cx k r rows low 53 ([(6,v0),(14,v0),(13,lk l 6)]++kp l EC):=rg
@[simp] theorem uc30k4:X0 F cx k l rows low r 53 c30k4↔Y0 F cx k r rows low 53 [(4,(.bool false))]:=rg
@[simp] theorem uc30s5:U c30s5 (.cond (.t 48) (.seq c30k4 .ret) .skip):=ur
@[simp] theorem uc30k6:X0 F cx k l rows low r 53 c30k6↔eb rows (.un .neg (cl l 5)) fun v0=>eb rows (.bin .lss (cl l 7) (.c v0)) fun v1=>bnd (gv v1 false (evP rows (.mv (cl l 7)))) fun v2=>bnd (gv v1 false (evP rows (.mv (cl l 5)))) fun v3=>bnd (gv v1 false (evP rows (.bin .gtr (.c v2) (.c v3)))) fun v4=>eb rows (.pick (.c v1) (.c (.bool true)) (.c v4)) fun v5=>bnd (gv v5 false (evP rows (.mv (cl l 8)))) fun v6=>bnd (gv v5 false (evP rows (.bin .lss (.c v6) (ci 1)))) fun v7=>eb rows (.pick (.c v5) (.c (.bool true)) (.c v7)) fun v8=>bnd (gv v8 false (evP rows (.mv (cl l 8)))) fun v9=>bnd (gv v8 false (evP rows (.mv (cl l 5)))) fun v10=>bnd (gv v8 false (evP rows (.bin .gtr (.c v9) (.c v10)))) fun v11=>eb rows (.pick (.c v8) (.c (.bool true)) (.c v11)) fun v12=>bnd (gv v12 false (evP rows (.mv (cl l 7)))) fun v13=>bnd (gv v12 false (evP rows (.mv (cl l 8)))) fun v14=>CF F v12 false rows low [v13,v14] [] (.func 72 []) fun v15 R15 L15=>bnd (gv v12 false (evP R15 (.bin .neq (.c v15) (ci 1)))) fun v16=>bnd (evP R15 (.pick (.c v12) (.c (.bool true)) (.c v16))) fun v17=>Y0 F cx k r R15 L15 53 ([(48,v17),(47,v16),(46,v15),(45,v14),(44,v13),(43,v12),(42,v12),(41,v11),(40,v10),(39,v9),(38,v8),(37,v8),(36,v7),(35,v6),(34,v5),(33,v5),(32,v4),(31,v3),(30,v2),(29,v1),(28,v1),(27,v0),(26,lk l 5),(25,lk l 7)]++kp l qq8):=rg
@[simp] theorem uc30s7:U c30s7 (.seq c30k6 c30s5):=ur
@[simp] theorem uc30k8:X0 F cx k l rows low r 53 c30k8↔eb rows (.idxS 2 (cl l 0) (cl l 6)) fun v0=>eb rows (.idxA 2 1 (.c v0) (ci 0)) fun v1=>eb rows (.load1 (.c v1)) fun v2=>eb rows (.idxS 2 (cl l 0) (cl l 6)) fun v3=>eb rows (.idxA 2 1 (.c v3) (ci 1)) fun v4=>eb rows (.load1 (.c v4)) fun v5=>Y0 F cx k r rows low 53 ([(8,v5),(7,v2),(24,v5),(23,v4),(22,v3),(21,lk l 6),(20,lk l 0),(19,v2),(18,v1),(17,v0),(16,lk l 6),(15,lk l 0)]++kp l EC):=rg
@[simp] theorem uc30s9:U c30s9 (.seq (.block 1 (.seq c30k8 c30s7)) c30k3):=ur
@[simp] theorem uc30s10:U c30s10 (.cond (.t 12) .skip (.exit 0)):=ur
@[simp] theorem uc30k11:X0 F cx k l rows low r 53 c30k11↔eb rows (.len 0 (cl l 0)) fun v0=>eb rows (.bin .lss (cl l 6) (.c v0)) fun v1=>Y0 F cx k r rows low 53 ([(12,v1),(11,v0),(10,lk l 0),(9,lk l 6)]++kp l EC):=rg
@[simp] theorem uc30s12:U c30s12 (.block 0 (.loop c30l2)):=ur
@[simp] theorem uc30k13:X0 F cx k l rows low r 53 c30k13↔Y0 F cx k r rows low 53 ([(6,(.int .i64 0))]++kp l Cw):=rg
@[simp] theorem uc30s14:U c30s14 (.seq (.seq c30k13 c30s12) c30s1):=ur
@[simp] theorem uc30k15:X0 F cx k l rows low r 53 c30k15↔Y0 F cx k r rows low 53 [(5,(.int .i64 1000000)),(0,lk l 0),(1,lk l 1)]:=rg
@[simp] theorem uc30s16:U c30s16 (.seq c30k15 c30s14):=ur
@[simp] theorem uc30k17:X0 F cx k l rows low r 53 c30k17↔Y0 F cx k r rows low 53 [(4,(.bool false)),(0,lk l 0),(1,lk l 1)]:=rg
@[simp] abbrev Kc30l2:List Itm:=.inLoop c30l2::.inBlock 0::.code c30s1::[]
def Lc30l2(F:Nat->Option IFn)(cx:Ctx)(x0 x1 x5 x6:AV)(rows:List Row)(low:Nat)(r:AV×List Row×Nat->Prop):Prop:=Ex F cx (.code c30l2::Kc30l2) ⟨mk 53 [(0,x0),(1,x1),(5,x5),(6,x6)],rows,low⟩ r
@[simp] theorem nc30l2:Ex F cx (Kc30l2) ⟨mk 53 l,rows,low⟩ r↔Lc30l2 F cx (lk l 0) (lk l 1) (lk l 5) (lk l 6) rows low r:=AA (keep:=EC) (by kernel_rfl)
@[simp] theorem uc30l2:U c30l2 (.seq (.seq c30k11 c30s10) c30s9):=ur
@[simp] theorem uc30b:U c30b (.seq c30k17 c30s16):=ur
theorem i30{x0 x1:AV}(hF:F 30=some c30){q:AV×List Row×Option Nat}(h:Ex F (.fn [.t 4]) [.code c30b] ⟨mk 53 [(0,x0),(1,x1)],rows,rows.length⟩ fun r=>fin rows r.1 r.2.1 r.2.2=q):Ret F 30 [x0,x1] rows=some q:=Av hF h
@[simp] theorem uc31k0:X0 F cx k l rows low r 63 c31k0↔Y0 F cx k r rows low 63 [(2,lk l 3),(62,lk l 3),(3,lk l 3)]:=rg
@[simp] theorem uc31s1:U c31s1 (.seq c31k0 .ret):=ur
@[simp] theorem uc31k3:X0 F cx k l rows low r 63 c31k3↔eb rows (.bin .add (cl l 5) (ci 1)) fun v0=>Y0 F cx k r rows low 63 ([(5,v0),(25,v0),(24,lk l 5)]++kp l Ge):=rg
@[simp] theorem uc31k5:X0 F cx k l rows low r 63 c31k5↔eb rows (.bin .add (cl l 6) (ci 1)) fun v0=>Y0 F cx k r rows low 63 ([(6,v0),(32,v0),(31,lk l 6)]++kp l F2):=rg
@[simp] theorem uc31k6:X0 F cx k l rows low r 63 c31k6↔eb rows (.idxS 1 (cl l 3) (cl l 8)) fun v0=>bnd (evE rows low (.store1 (.c v0) (cl l 9))) fun q1=>Y0 F cx k r q1.2.1 q1.2.2 63 ([(61,v0),(60,lk l 9),(59,lk l 8),(58,lk l 3)]++kp l Vq):=rg
@[simp] theorem uc31k7:X0 F cx k l rows low r 63 c31k7↔eb rows (.idxS 1 (cl l 3) (cl l 7)) fun v0=>bnd (evE rows low (.store1 (.c v0) (cl l 9))) fun q1=>Y0 F cx k r q1.2.1 q1.2.2 63 ([(57,v0),(56,lk l 9),(55,lk l 7),(54,lk l 3)]++kp l Vi):=rg
@[simp] theorem uc31s8:U c31s8 (.seq c31k7 c31k6):=ur
@[simp] theorem uc31k9:X0 F cx k l rows low r 63 c31k9↔eb rows (.idxS 1 (cl l 3) (cl l 7)) fun v0=>eb rows (.load1 (.c v0)) fun v1=>eb rows (.idxS 1 (cl l 3) (cl l 8)) fun v2=>eb rows (.load1 (.c v2)) fun v3=>eb rows (.mn [(.c v1),(.c v3)]) fun v4=>Y0 F cx k r rows low 63 ([(9,v4),(53,v4),(52,v3),(51,v2),(50,lk l 8),(49,lk l 3),(48,v1),(47,v0),(46,lk l 7),(45,lk l 3)]++kp l Un):=rg
@[simp] theorem uc31s10:U c31s10 (.seq c31k9 c31s8):=ur
@[simp] theorem uc31k11:X0 F cx k l rows low r 63 c31k11↔eb rows (.fieldA 1 (cl l 1)) fun v0=>eb rows (.load1 (.c v0)) fun v1=>eb rows (.idxS 2 (.c v1) (cl l 6)) fun v2=>eb rows (.idxA 2 1 (.c v2) (ci 0)) fun v3=>eb rows (.load1 (.c v3)) fun v4=>eb rows (.fieldA 1 (cl l 1)) fun v5=>eb rows (.load1 (.c v5)) fun v6=>eb rows (.idxS 2 (.c v6) (cl l 6)) fun v7=>eb rows (.idxA 2 1 (.c v7) (ci 1)) fun v8=>eb rows (.load1 (.c v8)) fun v9=>Y0 F cx k r rows low 63 ([(8,v9),(7,v4),(44,v9),(43,v8),(42,v7),(41,lk l 6),(40,v6),(39,v5),(38,v4),(37,v3),(36,v2),(35,lk l 6),(34,v1),(33,v0)]++kp l F2):=rg
@[simp] theorem uc31s12:U c31s12 (.seq (.block 5 (.seq c31k11 c31s10)) c31k5):=ur
@[simp] theorem uc31s13:U c31s13 (.cond (.t 30) .skip (.exit 4)):=ur
@[simp] theorem uc31k14:X0 F cx k l rows low r 63 c31k14↔eb rows (.fieldA 1 (cl l 1)) fun v0=>eb rows (.load1 (.c v0)) fun v1=>eb rows (.len 0 (.c v1)) fun v2=>eb rows (.bin .lss (cl l 6) (.c v2)) fun v3=>Y0 F cx k r rows low 63 ([(30,v3),(29,v2),(28,v1),(27,v0),(26,lk l 6)]++kp l F2):=rg
@[simp] theorem uc31s15:U c31s15 (.block 4 (.loop c31l4)):=ur
@[simp] theorem uc31k16:X0 F cx k l rows low r 63 c31k16↔Y0 F cx k r rows low 63 ([(6,(.int .i64 0))]++kp l Ge):=rg
@[simp] theorem uc31s17:U c31s17 (.seq (.block 3 (.seq c31k16 c31s15)) c31k3):=ur
@[simp] theorem uc31s18:U c31s18 (.cond (.t 23) .skip (.exit 2)):=ur
@[simp] theorem uc31k19:X0 F cx k l rows low r 63 c31k19↔eb rows (.fieldA 0 (cl l 1)) fun v0=>eb rows (.load1 (.c v0)) fun v1=>eb rows (.bin .lss (cl l 5) (.c v1)) fun v2=>Y0 F cx k r rows low 63 ([(23,v2),(22,v1),(21,v0),(20,lk l 5)]++kp l Ge):=rg
@[simp] theorem uc31s20:U c31s20 (.block 2 (.loop c31l2)):=ur
@[simp] theorem uc31k21:X0 F cx k l rows low r 63 c31k21↔Y0 F cx k r rows low 63 [(5,(.int .i64 0)),(1,lk l 1),(3,lk l 3)]:=rg
@[simp] theorem uc31s22:U c31s22 (.seq (.seq c31k21 c31s20) c31s1):=ur
@[simp] theorem uc31k24:X0 F cx k l rows low r 63 c31k24↔eb rows (.bin .add (cl l 4) (ci 1)) fun v0=>Y0 F cx k r rows low 63 ([(4,v0),(15,v0),(14,lk l 4)]++kp l F6):=rg
@[simp] theorem uc31k25:X0 F cx k l rows low r 63 c31k25↔bnd (evE rows low (.mkslice 1 [.int .i64 0] [(0,1,(cl l 4))])) fun q0=>bnd (evE q0.2.1 q0.2.2 (.app 1 8 (cl l 3) (.c q0.1))) fun q1=>Y0 F cx k r q1.2.1 q1.2.2 63 ([(3,q1.1),(19,q1.1),(18,q0.1),(17,lk l 4),(16,lk l 3)]++kp l F6):=rg
@[simp] theorem uc31s26:U c31s26 (.seq (.block 1 c31k25) c31k24):=ur
@[simp] theorem uc31s27:U c31s27 (.cond (.t 13) .skip (.exit 0)):=ur
@[simp] theorem uc31k28:X0 F cx k l rows low r 63 c31k28↔eb rows (.fieldA 0 (cl l 1)) fun v0=>eb rows (.load1 (.c v0)) fun v1=>eb rows (.bin .lss (cl l 4) (.c v1)) fun v2=>Y0 F cx k r rows low 63 ([(13,v2),(12,v1),(11,v0),(10,lk l 4)]++kp l F6):=rg
@[simp] theorem uc31s29:U c31s29 (.block 0 (.loop c31l23)):=ur
@[simp] theorem uc31k30:X0 F cx k l rows low r 63 c31k30↔Y0 F cx k r rows low 63 [(4,(.int .i64 0)),(1,lk l 1),(3,lk l 3)]:=rg
@[simp] theorem uc31s31:U c31s31 (.seq (.seq c31k30 c31s29) c31s22):=ur
@[simp] theorem uc31k32:X0 F cx k l rows low r 63 c31k32↔Y0 F cx k r rows low 63 [(3,.nilslice),(1,lk l 1)]:=rg
@[simp] theorem uc31s33:U c31s33 (.seq c31k32 c31s31):=ur
@[simp] theorem uc31k34:X0 F cx k l rows low r 63 c31k34↔bnd (evE rows low (.box (cl l 0))) fun q0=>Y0 F cx k r q0.2.1 q0.2.2 63 [(2,.nilslice),(1,q0.1),(0,lk l 0)]:=rg
@[simp] abbrev Kc31l2:List Itm:=.inLoop c31l2::.inBlock 2::.code c31s1::[]
@[simp] abbrev Kc31l4:List Itm:=.inLoop c31l4::.inBlock 4::.inBlock 3::.code c31k3::Kc31l2
def Lc31l4(F:Nat->Option IFn)(cx:Ctx)(x1 x3 x5 x6:AV)(rows:List Row)(low:Nat)(r:AV×List Row×Nat->Prop):Prop:=Ex F cx (.code c31l4::Kc31l4) ⟨mk 63 [(1,x1),(3,x3),(5,x5),(6,x6)],rows,low⟩ r
@[simp] theorem nc31l4:Ex F cx (Kc31l4) ⟨mk 63 l,rows,low⟩ r↔Lc31l4 F cx (lk l 1) (lk l 3) (lk l 5) (lk l 6) rows low r:=AA (keep:=F2) (by kernel_rfl)
@[simp] theorem uc31l4:U c31l4 (.seq (.seq c31k14 c31s13) c31s12):=ur
def Lc31l2(F:Nat->Option IFn)(cx:Ctx)(x1 x3 x5:AV)(rows:List Row)(low:Nat)(r:AV×List Row×Nat->Prop):Prop:=Ex F cx (.code c31l2::Kc31l2) ⟨mk 63 [(1,x1),(3,x3),(5,x5)],rows,low⟩ r
@[simp] theorem nc31l2:Ex F cx (Kc31l2) ⟨mk 63 l,rows,low⟩ r↔Lc31l2 F cx (lk l 1) (lk l 3) (lk l 5) rows low r:=AA (keep:=Ge) (by kernel_rfl)
@[simp] theorem uc31l2:U c31l2 (.seq (.seq c31k19 c31s18) c31s17):=ur
@[simp] abbrev Kc31l23:List Itm:=.inLoop c31l23::.inBlock 0::.code c31s22::[]
def Lc31l23(F:Nat->Option IFn)(cx:Ctx)(x1 x3 x4:AV)(rows:List Row)(low:Nat)(r:AV×List Row×Nat->Prop):Prop:=Ex F cx (.code c31l23::Kc31l23) ⟨mk 63 [(1,x1),(3,x3),(4,x4)],rows,low⟩ r
@[simp] theorem nc31l23:Ex F cx (Kc31l23) ⟨mk 63 l,rows,low⟩ r↔Lc31l23 F cx (lk l 1) (lk l 3) (lk l 4) rows low r:=AA (keep:=F6) (by kernel_rfl)
@[simp] theorem uc31l23:U c31l23 (.seq (.seq c31k28 c31s27) c31s26):=ur
@[simp] theorem uc31b:U c31b (.seq c31k34 c31s33):=ur
theorem i31{x0:AV}(hF:F 31=some c31){q:AV×List Row×Option Nat}(h:Ex F (.fn [.t 2]) [.code c31b] ⟨mk 63 [(0,x0)],rows,rows.length⟩ fun r=>fin rows r.1 r.2.1 r.2.2=q):Ret F 31 [x0] rows=some q:=Av hF h
@[simp] theorem uc32k0:X0 F cx k l rows low r 34 c32k0↔eb rows (.idxA 2 1 (cl l 2) (ci 0)) fun v0=>eb rows (.load1 (.c v0)) fun v1=>eb rows (.idxA 2 1 (cl l 3) (ci 1)) fun v2=>eb rows (.load1 (.c v2)) fun v3=>eb rows (.bin .quo (.c v3) (cl l 5)) fun v4=>eb rows (.bin .mul (.c v1) (.c v4)) fun v5=>eb rows (.idxA 2 1 (cl l 3) (ci 0)) fun v6=>eb rows (.load1 (.c v6)) fun v7=>eb rows (.idxA 2 1 (cl l 2) (ci 1)) fun v8=>eb rows (.load1 (.c v8)) fun v9=>eb rows (.bin .quo (.c v9) (cl l 5)) fun v10=>eb rows (.bin .mul (.c v7) (.c v10)) fun v11=>eb rows (.bin .add (.c v5) (.c v11)) fun v12=>eb rows (.idxA 2 1 (cl l 2) (ci 1)) fun v13=>eb rows (.load1 (.c v13)) fun v14=>eb rows (.bin .quo (.c v14) (cl l 5)) fun v15=>eb rows (.idxA 2 1 (cl l 3) (ci 1)) fun v16=>eb rows (.load1 (.c v16)) fun v17=>eb rows (.bin .mul (.c v15) (.c v17)) fun v18=>bnd (Ret F 73 [v12,v18] rows) fun q19=>bnd (evE q19.2.1 (AC low q19.2.2) (.storeN 2 (cl l 4) (.c q19.1))) fun q20=>Y0 F cx k r q20.2.1 q20.2.2 34 ([(33,q19.1),(32,v18),(31,v17),(30,v16),(29,v15),(28,lk l 5),(27,v14),(26,v13),(25,v12),(24,v11),(23,v10),(22,lk l 5),(21,v9),(20,v8),(19,v7),(18,v6),(17,v5),(16,v4),(15,lk l 5),(14,v3),(13,v2),(12,v1),(11,v0)]++kp l EM):=rg
@[simp] theorem uc32s1:U c32s1 (.seq c32k0 .ret):=ur
@[simp] theorem uc32k2:X0 F cx k l rows low r 34 c32k2↔eb rows (.idxA 2 1 (cl l 2) (ci 1)) fun v0=>eb rows (.load1 (.c v0)) fun v1=>eb rows (.idxA 2 1 (cl l 3) (ci 1)) fun v2=>eb rows (.load1 (.c v2)) fun v3=>bnd (Ret F 72 [v1,v3] rows) fun q4=>Y0 F cx k r q4.2.1 (AC low q4.2.2) 34 ([(5,q4.1),(10,q4.1),(9,v3),(8,v2),(7,v1),(6,v0)]++kp l Bm):=rg
@[simp] theorem uc32s3:U c32s3 (.seq c32k2 c32s1):=ur
@[simp] theorem uc32k4:X0 F cx k l rows low r 34 c32k4↔bnd (evE rows low (.box (cl l 0))) fun q0=>bnd (evE q0.2.1 q0.2.2 (.box (cl l 1))) fun q1=>bnd (evE q1.2.1 q1.2.2 (.box (.c (.agg [.int .i64 0,.int .i64 0])))) fun q2=>Y0 F cx k r q2.2.1 q2.2.2 34 [(4,q2.1),(3,q1.1),(2,q0.1),(0,lk l 0),(1,lk l 1)]:=rg
@[simp] theorem uc32b:U c32b (.seq c32k4 c32s3):=ur
theorem i32{x0 x1:AV}(hF:F 32=some c32){q:AV×List Row×Option Nat}(h:Ex F (.fn [.cellN 4 2]) [.code c32b] ⟨mk 34 [(0,x0),(1,x1)],rows,rows.length⟩ fun r=>fin rows r.1 r.2.1 r.2.2=q):Ret F 32 [x0,x1] rows=some q:=Av hF h
@[simp] theorem uc34k0:X0 F cx k l rows low r 13 c34k0↔eb rows (.loadN 2 (cl l 2)) fun v0=>eb rows (.idxA 2 1 (cl l 3) (ci 0)) fun v1=>eb rows (.load1 (.c v1)) fun v2=>eb rows (.un .neg (.c v2)) fun v3=>eb rows (.idxA 2 1 (cl l 3) (ci 1)) fun v4=>eb rows (.load1 (.c v4)) fun v5=>eb rows (.mkagg [.int .i64 0,.int .i64 0] [(0,1,(.c v3)),(1,1,(.c v5))]) fun v6=>bnd (Ret F 32 [v0,v6] rows) fun q7=>bnd (evE q7.2.1 (AC low q7.2.2) (.storeN 2 (cl l 4) (.c q7.1))) fun q8=>Y0 F cx k r q8.2.1 q8.2.2 13 ([(12,q7.1),(11,v6),(10,v5),(9,v4),(8,v3),(7,v2),(6,v1),(5,v0)]++kp l Bm):=rg
@[simp] theorem uc34s1:U c34s1 (.seq c34k0 .ret):=ur
@[simp] theorem uc34k2:X0 F cx k l rows low r 13 c34k2↔bnd (evE rows low (.box (cl l 0))) fun q0=>bnd (evE q0.2.1 q0.2.2 (.box (cl l 1))) fun q1=>bnd (evE q1.2.1 q1.2.2 (.box (.c (.agg [.int .i64 0,.int .i64 0])))) fun q2=>Y0 F cx k r q2.2.1 q2.2.2 13 [(4,q2.1),(3,q1.1),(2,q0.1),(0,lk l 0),(1,lk l 1)]:=rg
@[simp] theorem uc34b:U c34b (.seq c34k2 c34s1):=ur
theorem i34{x0 x1:AV}(hF:F 34=some c34){q:AV×List Row×Option Nat}(h:Ex F (.fn [.cellN 4 2]) [.code c34b] ⟨mk 13 [(0,x0),(1,x1)],rows,rows.length⟩ fun r=>fin rows r.1 r.2.1 r.2.2=q):Ret F 34 [x0,x1] rows=some q:=Av hF h
@[simp] theorem uc35k0:X0 F cx k l rows low r 16 c35k0↔eb rows (.idxA 2 1 (cl l 2) (ci 0)) fun v0=>eb rows (.load1 (.c v0)) fun v1=>eb rows (.idxA 2 1 (cl l 3) (ci 0)) fun v2=>eb rows (.load1 (.c v2)) fun v3=>eb rows (.bin .mul (.c v1) (.c v3)) fun v4=>eb rows (.idxA 2 1 (cl l 2) (ci 1)) fun v5=>eb rows (.load1 (.c v5)) fun v6=>eb rows (.idxA 2 1 (cl l 3) (ci 1)) fun v7=>eb rows (.load1 (.c v7)) fun v8=>eb rows (.bin .mul (.c v6) (.c v8)) fun v9=>bnd (Ret F 73 [v4,v9] rows) fun q10=>bnd (evE q10.2.1 (AC low q10.2.2) (.storeN 2 (cl l 4) (.c q10.1))) fun q11=>Y0 F cx k r q11.2.1 q11.2.2 16 ([(15,q10.1),(14,v9),(13,v8),(12,v7),(11,v6),(10,v5),(9,v4),(8,v3),(7,v2),(6,v1),(5,v0)]++kp l Bm):=rg
@[simp] theorem uc35s1:U c35s1 (.seq c35k0 .ret):=ur
@[simp] theorem uc35k2:X0 F cx k l rows low r 16 c35k2↔bnd (evE rows low (.box (cl l 0))) fun q0=>bnd (evE q0.2.1 q0.2.2 (.box (cl l 1))) fun q1=>bnd (evE q1.2.1 q1.2.2 (.box (.c (.agg [.int .i64 0,.int .i64 0])))) fun q2=>Y0 F cx k r q2.2.1 q2.2.2 16 [(4,q2.1),(3,q1.1),(2,q0.1),(0,lk l 0),(1,lk l 1)]:=rg
@[simp] theorem uc35b:U c35b (.seq c35k2 c35s1):=ur
theorem i35{x0 x1:AV}(hF:F 35=some c35){q:AV×List Row×Option Nat}(h:Ex F (.fn [.cellN 4 2]) [.code c35b] ⟨mk 16 [(0,x0),(1,x1)],rows,rows.length⟩ fun r=>fin rows r.1 r.2.1 r.2.2=q):Ret F 35 [x0,x1] rows=some q:=Av hF h
@[simp] theorem uc63k0:X0 F cx k l rows low r 5 c63k0↔eb rows (.mkagg [.int .i64 0,.int .i64 0] [(0,1,(cl l 0)),(1,1,(ci 1))]) fun v0=>bnd (evE rows low (.storeN 2 (cl l 2) (.c v0))) fun q1=>Y0 F cx k r q1.2.1 q1.2.2 5 [(4,v0),(3,lk l 0),(0,lk l 0),(2,lk l 2)]:=rg
@[simp] theorem uc63s1:U c63s1 (.seq c63k0 .ret):=ur
@[simp] theorem uc63k2:X0 F cx k l rows low r 5 c63k2↔bnd (evE rows low (.box (.c (.agg [.int .i64 0,.int .i64 0])))) fun q0=>Y0 F cx k r q0.2.1 q0.2.2 5 [(2,q0.1),(0,lk l 0)]:=rg
@[simp] theorem uc63b:U c63b (.seq c63k2 c63s1):=ur
theorem i63{x0:AV}(hF:F 63=some c63){q:AV×List Row×Option Nat}(h:Ex F (.fn [.cellN 2 2]) [.code c63b] ⟨mk 5 [(0,x0)],rows,rows.length⟩ fun r=>fin rows r.1 r.2.1 r.2.2=q):Ret F 63 [x0] rows=some q:=Av hF h
@[simp] theorem uc64k1:X0 F cx k l rows low r 148 c64k1↔Y0 F cx k r rows low 148 [(6,lk l 7),(147,lk l 7),(7,lk l 7)]:=rg
@[simp] theorem uc64s2:U c64s2 (.seq c64k1 .ret):=ur
@[simp] theorem uc64k4:X0 F cx k l rows low r 148 c64k4↔eb rows (.bin .add (cl l 32) (ci 1)) fun v0=>Y0 F cx k r rows low 148 ([(32,v0),(146,v0)]++kp l LW):=rg
@[simp] theorem uc64k5:X0 F cx k l rows low r 148 c64k5↔eb rows (.bin .add (cl l 9) (ci 1)) fun v0=>Y0 F cx k r rows low 148 ([(9,v0),(145,v0),(144,lk l 9)]++kp l LW):=rg
@[simp] theorem uc64k6:X0 F cx k l rows low r 148 c64k6↔eb rows (.idxS 1 (cl l 7) (cl l 9)) fun v0=>bnd (evE rows low (.store1 (.c v0) (cl l 10))) fun q1=>Y0 F cx k r q1.2.1 q1.2.2 148 ([(143,v0),(142,lk l 10),(141,lk l 9),(140,lk l 7)]++kp l Qv):=rg
@[simp] theorem uc64s7:U c64s7 (.seq c64k6 c64k5):=ur
@[simp] theorem uc64k9:X0 F cx k l rows low r 148 c64k9↔eb rows (.bin .add (cl l 97) (ci 1)) fun v0=>Y0 F cx k r rows low 148 ([(97,v0),(139,v0)]++kp l P7):=rg
@[simp] theorem uc64k11:X0 F cx k l rows low r 148 c64k11↔eb rows (.bin .add (cl l 119) (ci 1)) fun v0=>Y0 F cx k r rows low 148 ([(119,v0),(138,v0)]++kp l P5):=rg
@[simp] theorem uc64k12:X0 F cx k l rows low r 148 c64k12↔em 12 rows (.idxS 2 (cl l 16) (cl l 18)) fun v0=>em 28 rows (.loadN 2 (.c v0)) fun v1=>em 60 rows (.mkif 86 (.c v1)) fun v2=>em 384 rows (.idxS 2 (cl l 12) (cl l 18)) fun v3=>em 896 rows (.loadN 2 (.c v3)) fun v4=>em 1920 rows (.mkif 86 (.c v4)) fun v5=>em 0 rows (.loadN 2 (cl l 17)) fun v6=>bnd (opC F (rows++Ai 8064 rn) (rows.length+rn.length) [v6] [(86,99)] v5) fun q7=>q7.2.2=rows.length+rn.length/\bnd (some (rn++List.map (fun(x:Row)=>(13,x)) (q7.2.1.drop (rows.length+rn.length)))) fun e7=>bnd (opC F (rows++Ai 16380 e7) (rows.length+e7.length) [q7.1] [(86,95)] v2) fun q8=>q8.2.2=rows.length+e7.length/\bnd (some (e7++List.map (fun(x:Row)=>(14,x)) (q8.2.1.drop (rows.length+e7.length)))) fun e8=>bnd (evP (rows++List.map (fun(x:Nat×Row)=>x.2) e8) (.idxS 2 (cl l 16) (cl l 18))) fun v9=>bnd (evE (rows++List.map (fun(x:Nat×Row)=>x.2) e8) low (.storeN 2 (.c v9) (.c q8.1))) fun q10=>Y0 F cx k r q10.2.1 q10.2.2 148 ([(137,v9),(136,q8.1),(135,q7.1),(134,v6),(133,v5),(132,v4),(131,v3),(130,lk l 18),(129,lk l 12),(128,v2),(127,v1),(126,v0),(125,lk l 18),(124,lk l 16),(123,lk l 18),(122,lk l 16)]++kp l AaJ):=rg
@[simp] theorem uc64k13:X0 F cx k l rows low r 148 c64k13↔Y0 F cx k r rows low 148 ([(18,lk l 119),(121,lk l 119)]++kp l P5):=rg
@[simp] theorem uc64s14:U c64s14 (.seq (.block 11 (.seq c64k13 c64k12)) c64k11):=ur
@[simp] theorem uc64s15:U c64s15 (.seq (.cond (.t 120) .skip (.exit 10)) c64s14):=ur
@[simp] theorem uc64k16:X0 F cx k l rows low r 148 c64k16↔eb rows (.bin .lss (cl l 119) (cl l 118)) fun v0=>Y0 F cx k r rows low 148 ([(120,v0)]++kp l P5):=rg
@[simp] theorem uc64s17:U c64s17 (.block 10 (.loop c64l10)):=ur
@[simp] theorem uc64k18:X0 F cx k l rows low r 148 c64k18↔eb rows (.len 0 (cl l 16)) fun v0=>Y0 F cx k r rows low 148 ([(119,(.int .i64 0)),(118,v0),(117,lk l 16)]++kp l ZY):=rg
@[simp] theorem uc64s19:U c64s19 (.seq c64k18 c64s17):=ur
@[simp] theorem uc64k20:X0 F cx k l rows low r 148 c64k20↔eb rows (.idxS 2 (cl l 16) (cl l 10)) fun v0=>eb rows (.loadN 2 (.c v0)) fun v1=>bnd (evE rows low (.box (.c (.agg [.int .i64 0,.int .i64 0])))) fun q2=>bnd (evE q2.2.1 q2.2.2 (.storeN 2 (.c q2.1) (.c v1))) fun q3=>Y0 F cx k r q3.2.1 q3.2.2 148 ([(17,q2.1),(116,v1),(115,v0),(114,lk l 10),(113,lk l 16)]++kp l Aau):=rg
@[simp] theorem uc64s21:U c64s21 (.seq c64k20 c64s19):=ur
@[simp] theorem uc64s22:U c64s22 (.cond (.t 112) (.exit 9) .skip):=ur
@[simp] theorem uc64k23:X0 F cx k l rows low r 148 c64k23↔eb rows (.bin .eql (cl l 15) (cl l 9)) fun v0=>bnd (gv v0 false (evP rows (.mv (cl l 16)))) fun v1=>bnd (gv v0 false (evP rows (.mv (cl l 10)))) fun v2=>bnd (gv v0 false (evP rows (.idxS 2 (.c v1) (.c v2)))) fun v3=>bnd (gv v0 false (evP rows (.loadN 2 (.c v3)))) fun v4=>bnd (gv v0 false (evP rows (.loadN 2 (cl l 5)))) fun v5=>bnd (gv v0 false (evP rows (.eqv false (.ints 2) (.c v4) (.c v5)))) fun v6=>eb rows (.pick (.c v0) (.c (.bool true)) (.c v6)) fun v7=>Y0 F cx k r rows low 148 ([(112,v7),(111,v6),(110,v5),(109,v4),(108,v3),(107,v2),(106,v1),(105,v0),(104,v0),(103,lk l 9),(102,lk l 15)]++kp l AbD):=rg
@[simp] theorem uc64s24:U c64s24 (.seq (.seq c64k23 c64s22) c64s21):=ur
@[simp] theorem uc64k25:X0 F cx k l rows low r 148 c64k25↔eb rows (.idxS 1 (cl l 95) (cl l 97)) fun v0=>eb rows (.load1 (.c v0)) fun v1=>Y0 F cx k r rows low 148 ([(16,v1),(15,lk l 97),(101,v1),(100,v0),(99,lk l 97)]++kp l P7):=rg
@[simp] theorem uc64s26:U c64s26 (.seq (.block 9 (.seq c64k25 c64s24)) c64k9):=ur
@[simp] theorem uc64s27:U c64s27 (.seq (.cond (.t 98) .skip (.exit 8)) c64s26):=ur
@[simp] theorem uc64k28:X0 F cx k l rows low r 148 c64k28↔eb rows (.bin .lss (cl l 97) (cl l 96)) fun v0=>Y0 F cx k r rows low 148 ([(98,v0)]++kp l P7):=rg
@[simp] theorem uc64s29:U c64s29 (.block 8 (.loop c64l8)):=ur
@[simp] theorem uc64k30:X0 F cx k l rows low r 148 c64k30↔eb rows (.len 0 (cl l 0)) fun v0=>Y0 F cx k r rows low 148 ([(97,(.int .i64 0)),(96,v0),(95,lk l 0)]++kp l Wl):=rg
@[simp] theorem uc64s31:U c64s31 (.seq (.seq c64k30 c64s29) c64s7):=ur
@[simp] theorem uc64k33:X0 F cx k l rows low r 148 c64k33↔eb rows (.bin .add (cl l 81) (ci 1)) fun v0=>Y0 F cx k r rows low 148 ([(81,v0),(94,v0)]++kp l Qk):=rg
@[simp] theorem uc64k34:X0 F cx k l rows low r 148 c64k34↔em 12 rows (.idxS 2 (cl l 12) (cl l 14)) fun v0=>em 28 rows (.loadN 2 (.c v0)) fun v1=>em 60 rows (.mkif 86 (.c v1)) fun v2=>em 0 rows (.loadN 2 (cl l 13)) fun v3=>bnd (opC F (rows++Ai 252 rn) (rows.length+rn.length) [v3] [(86,123)] v2) fun q4=>q4.2.2=rows.length+rn.length/\bnd (some (rn++List.map (fun(x:Row)=>(8,x)) (q4.2.1.drop (rows.length+rn.length)))) fun e4=>bnd (evP (rows++List.map (fun(x:Nat×Row)=>x.2) e4) (.idxS 2 (cl l 12) (cl l 14))) fun v5=>bnd (evE (rows++List.map (fun(x:Nat×Row)=>x.2) e4) low (.storeN 2 (.c v5) (.c q4.1))) fun q6=>Y0 F cx k r q6.2.1 q6.2.2 148 ([(93,v5),(92,q4.1),(91,v3),(90,v2),(89,v1),(88,v0),(87,lk l 14),(86,lk l 12),(85,lk l 14),(84,lk l 12)]++kp l Aav):=rg
@[simp] theorem uc64k35:X0 F cx k l rows low r 148 c64k35↔Y0 F cx k r rows low 148 ([(14,lk l 81),(83,lk l 81)]++kp l Qk):=rg
@[simp] theorem uc64s36:U c64s36 (.seq (.block 7 (.seq c64k35 c64k34)) c64k33):=ur
@[simp] theorem uc64s37:U c64s37 (.seq (.cond (.t 82) .skip (.exit 6)) c64s36):=ur
@[simp] theorem uc64k38:X0 F cx k l rows low r 148 c64k38↔eb rows (.bin .lss (cl l 81) (cl l 80)) fun v0=>Y0 F cx k r rows low 148 ([(82,v0)]++kp l Qk):=rg
@[simp] theorem uc64s39:U c64s39 (.block 6 (.loop c64l32)):=ur
@[simp] theorem uc64k40:X0 F cx k l rows low r 148 c64k40↔eb rows (.len 0 (cl l 12)) fun v0=>Y0 F cx k r rows low 148 ([(81,(.int .i64 0)),(80,v0),(79,lk l 12)]++kp l AbA):=rg
@[simp] theorem uc64s41:U c64s41 (.seq (.seq c64k40 c64s39) c64s31):=ur
@[simp] theorem uc64k42:X0 F cx k l rows low r 148 c64k42↔eb rows (.idxS 2 (cl l 12) (cl l 10)) fun v0=>eb rows (.loadN 2 (.c v0)) fun v1=>bnd (evE rows low (.box (.c (.agg [.int .i64 0,.int .i64 0])))) fun q2=>bnd (evE q2.2.1 q2.2.2 (.storeN 2 (.c q2.1) (.c v1))) fun q3=>Y0 F cx k r q3.2.1 q3.2.2 148 ([(13,q2.1),(78,v1),(77,v0),(76,lk l 10),(75,lk l 12)]++kp l Wl):=rg
@[simp] theorem uc64s43:U c64s43 (.seq c64k42 c64s41):=ur
@[simp] theorem uc64k44:X0 F cx k l rows low r 148 c64k44↔eb rows (.idxS 1 (cl l 0) (cl l 9)) fun v0=>eb rows (.load1 (.c v0)) fun v1=>Y0 F cx k r rows low 148 ([(12,v1),(74,v1),(73,v0),(72,lk l 9),(71,lk l 0)]++kp l Qv):=rg
@[simp] theorem uc64s45:U c64s45 (.seq c64k44 c64s43):=ur
@[simp] theorem uc64k46:U c64k46 (.kill 148 [0,5,7,9,10,11,31,32] (.ops c64r46)):=ur
@[simp] theorem uc64r46:Ex F cx (.ops c64r46::k) s r↔Ex F cx (.ops [
 .grpw (.t 69) (.t 64) none 8179 [(⟨some 57,.mv (.t 0),none⟩,0),(⟨some 58,.mv (.t 9),none⟩,0),(⟨some 59,.mv (.t 0),none⟩,0),(⟨some 60,.mv (.t 11),none⟩,0),(⟨some 61,.mv (.t 0),none⟩,0),(⟨some 62,.mv (.t 11),none⟩,0),(⟨some 63,.idxS 1 (.t 61) (.t 62),none⟩,48),(⟨some 64,.load1 (.t 63),none⟩,112),(⟨some 65,.mv (.t 0),none⟩,0),(⟨some 66,.mv (.t 9),none⟩,0),(⟨some 67,.idxS 1 (.t 65) (.t 66),none⟩,768),(⟨some 68,.load1 (.t 67),none⟩,1792),(⟨some 69,.idxS 1 (.t 57) (.t 58),none⟩,4083),(⟨none,.lenc 0,none⟩,8179)],
 .one ⟨some 70,.idxS 1 (.t 59) (.t 60),none⟩,
 .one ⟨none,.store1 (.t 70) (.t 68),none⟩]::k) s r:=Iff.rfl
@[simp] theorem uc64s47:U c64s47 (.seq c64k46 c64s45):=ur
@[simp] theorem uc64s48:U c64s48 (.cond (.t 56) (.exit 3) .skip):=ur
@[simp] theorem uc64k49:X0 F cx k l rows low r 148 c64k49↔eb rows (.len 0 (cl l 0)) fun v0=>eb rows (.bin .eql (cl l 11) (.c v0)) fun v1=>Y0 F cx k r rows low 148 ([(56,v1),(55,v0),(54,lk l 0),(53,lk l 11)]++kp l M9):=rg
@[simp] theorem uc64s50:U c64s50 (.seq (.seq c64k49 c64s48) c64s47):=ur
@[simp] theorem uc64k52:X0 F cx k l rows low r 148 c64k52↔eb rows (.bin .add (cl l 11) (ci 1)) fun v0=>Y0 F cx k r rows low 148 ([(11,v0),(52,v0),(51,lk l 11)]++kp l M9):=rg
@[simp] theorem uc64s53:U c64s53 (.block 5 c64k52):=ur
@[simp] theorem uc64s54:U c64s54 (.cond (.t 50) .skip (.exit 4)):=ur
@[simp] theorem uc64k55:X0 F cx k l rows low r 148 c64k55↔eb rows (.len 0 (cl l 0)) fun v0=>eb rows (.bin .lss (cl l 11) (.c v0)) fun v1=>bnd (gv v1 true (evP rows (.mv (cl l 0)))) fun v2=>bnd (gv v1 true (evP rows (.mv (cl l 11)))) fun v3=>bnd (gv v1 true (evP rows (.idxS 1 (.c v2) (.c v3)))) fun v4=>bnd (gv v1 true (evP rows (.load1 (.c v4)))) fun v5=>bnd (gv v1 true (evP rows (.mv (cl l 10)))) fun v6=>bnd (gv v1 true (evP rows (.idxS 2 (.c v5) (.c v6)))) fun v7=>bnd (gv v1 true (evP rows (.loadN 2 (.c v7)))) fun v8=>bnd (gv v1 true (evP rows (.loadN 2 (cl l 5)))) fun v9=>bnd (gv v1 true (evP rows (.eqv false (.ints 2) (.c v8) (.c v9)))) fun v10=>eb rows (.pick (.c v1) (.c v10) (.c (.bool false))) fun v11=>Y0 F cx k r rows low 148 ([(50,v11),(49,v10),(48,v9),(47,v8),(46,v7),(45,v6),(44,v5),(43,v4),(42,v3),(41,v2),(40,v1),(39,v1),(38,v0),(37,lk l 0),(36,lk l 11)]++kp l M9):=rg
@[simp] theorem uc64s56:U c64s56 (.seq (.block 4 (.loop c64l51)) c64s50):=ur
@[simp] theorem uc64k57:X0 F cx k l rows low r 148 c64k57↔Y0 F cx k r rows low 148 ([(11,lk l 9),(35,lk l 9)]++kp l Qv):=rg
@[simp] theorem uc64s58:U c64s58 (.seq c64k57 c64s56):=ur
@[simp] theorem uc64k59:X0 F cx k l rows low r 148 c64k59↔Y0 F cx k r rows low 148 ([(10,lk l 32),(34,lk l 32)]++kp l LW):=rg
@[simp] theorem uc64s60:U c64s60 (.seq (.block 3 (.seq c64k59 c64s58)) c64k4):=ur
@[simp] theorem uc64s61:U c64s61 (.seq (.cond (.t 33) .skip (.exit 2)) c64s60):=ur
@[simp] theorem uc64k62:X0 F cx k l rows low r 148 c64k62↔eb rows (.bin .lss (cl l 32) (cl l 31)) fun v0=>Y0 F cx k r rows low 148 ([(33,v0)]++kp l LW):=rg
@[simp] theorem uc64s63:U c64s63 (.block 2 (.loop c64l3)):=ur
@[simp] theorem uc64k64:X0 F cx k l rows low r 148 c64k64↔Y0 F cx k r rows low 148 ([(32,(.int .i64 0)),(31,lk l 1)]++kp l Aaa):=rg
@[simp] theorem uc64s65:U c64s65 (.seq (.seq c64k64 c64s63) c64s2):=ur
@[simp] theorem uc64s66:U c64s66 (.seq .skip c64s65):=ur
@[simp] theorem uc64k67:X0 F cx k l rows low r 148 c64k67↔Y0 F cx k r rows low 148 ([(9,(.int .i64 0))]++kp l Wo):=rg
@[simp] theorem uc64s68:U c64s68 (.seq c64k67 c64s66):=ur
@[simp] theorem uc64k70:X0 F cx k l rows low r 148 c64k70↔eb rows (.bin .add (cl l 24) (ci 1)) fun v0=>Y0 F cx k r rows low 148 ([(24,v0),(30,v0)]++kp l Qd):=rg
@[simp] theorem uc64k71:X0 F cx k l rows low r 148 c64k71↔eb rows (.idxS 1 (cl l 7) (cl l 8)) fun v0=>bnd (evE rows low (.store1 (.c v0) (.c (.int .i64 (-1))))) fun q1=>Y0 F cx k r q1.2.1 q1.2.2 148 ([(29,v0),(28,lk l 8),(27,lk l 7)]++kp l Abd):=rg
@[simp] theorem uc64k72:X0 F cx k l rows low r 148 c64k72↔Y0 F cx k r rows low 148 ([(8,lk l 24),(26,lk l 24)]++kp l Qd):=rg
@[simp] theorem uc64s73:U c64s73 (.seq (.block 1 (.seq c64k72 c64k71)) c64k70):=ur
@[simp] theorem uc64s74:U c64s74 (.seq (.cond (.t 25) .skip (.exit 0)) c64s73):=ur
@[simp] theorem uc64k75:X0 F cx k l rows low r 148 c64k75↔eb rows (.bin .lss (cl l 24) (cl l 23)) fun v0=>Y0 F cx k r rows low 148 ([(25,v0)]++kp l Qd):=rg
@[simp] theorem uc64s76:U c64s76 (.block 0 (.loop c64l69)):=ur
@[simp] theorem uc64k77:X0 F cx k l rows low r 148 c64k77↔eb rows (.len 0 (cl l 7)) fun v0=>Y0 F cx k r rows low 148 ([(24,(.int .i64 0)),(23,v0),(22,lk l 7)]++kp l Wo):=rg
@[simp] theorem uc64s78:U c64s78 (.seq (.seq c64k77 c64s76) c64s68):=ur
@[simp] theorem uc64k79:X0 F cx k l rows low r 148 c64k79↔eb rows (.len 0 (cl l 0)) fun v0=>bnd (evE rows low (.make [.int .i64 0] 8 (.c v0) (.c v0))) fun q1=>Y0 F cx k r q1.2.1 q1.2.2 148 ([(7,q1.1),(21,q1.1),(20,v0),(19,lk l 0)]++kp l Cw):=rg
@[simp] theorem uc64p0:U c64p0 (.seq c64k79 c64s78):=ur
@[simp] theorem uc64s80:U c64s80 (.scope c64p0):=ur
@[simp] theorem uc64k81:X0 F cx k l rows low r 148 c64k81↔bnd (evE rows low (.box (cl l 2))) fun q0=>Y0 F cx k r q0.2.1 q0.2.2 148 ([(6,.nilslice),(5,q0.1)]++kp l qq1):=rg
@[simp] abbrev Kc64l3:List Itm:=.inLoop c64l3::.inBlock 2::.code c64s2::.inScope c64p0::[]
@[simp] abbrev Kc64l8:List Itm:=.inLoop c64l8::.inBlock 8::.code c64s7::.inBlock 3::.code c64k4::Kc64l3
@[simp] abbrev Kc64l10:List Itm:=.inLoop c64l10::.inBlock 10::.inBlock 9::.code c64k9::Kc64l8
def Lc64l10(F:Nat->Option IFn)(cx:Ctx)(x0 x5 x7 x9 x10 x12 x16 x17 x31 x32 x95 x96 x97 x118 x119:AV)(rows:List Row)(low:Nat)(r:AV×List Row×Nat->Prop):Prop:=Ex F cx (.code c64l10::Kc64l10) ⟨mk 148 [(0,x0),(5,x5),(7,x7),(9,x9),(10,x10),(12,x12),(16,x16),(17,x17),(31,x31),(32,x32),(95,x95),(96,x96),(97,x97),(118,x118),(119,x119)],rows,low⟩ r
@[simp] theorem nc64l10:Ex F cx (Kc64l10) ⟨mk 148 l,rows,low⟩ r↔Lc64l10 F cx (lk l 0) (lk l 5) (lk l 7) (lk l 9) (lk l 10) (lk l 12) (lk l 16) (lk l 17) (lk l 31) (lk l 32) (lk l 95) (lk l 96) (lk l 97) (lk l 118) (lk l 119) rows low r:=AA (keep:=P5) (by kernel_rfl)
@[simp] theorem uc64l10:U c64l10 (.seq c64k16 c64s15):=ur
def Lc64l8(F:Nat->Option IFn)(cx:Ctx)(x0 x5 x7 x9 x10 x12 x31 x32 x95 x96 x97:AV)(rows:List Row)(low:Nat)(r:AV×List Row×Nat->Prop):Prop:=Ex F cx (.code c64l8::Kc64l8) ⟨mk 148 [(0,x0),(5,x5),(7,x7),(9,x9),(10,x10),(12,x12),(31,x31),(32,x32),(95,x95),(96,x96),(97,x97)],rows,low⟩ r
@[simp] theorem nc64l8:Ex F cx (Kc64l8) ⟨mk 148 l,rows,low⟩ r↔Lc64l8 F cx (lk l 0) (lk l 5) (lk l 7) (lk l 9) (lk l 10) (lk l 12) (lk l 31) (lk l 32) (lk l 95) (lk l 96) (lk l 97) rows low r:=AA (keep:=P7) (by kernel_rfl)
@[simp] theorem uc64l8:U c64l8 (.seq c64k28 c64s27):=ur
@[simp] abbrev Kc64l32:List Itm:=.inLoop c64l32::.inBlock 6::.code c64s31::.inBlock 3::.code c64k4::Kc64l3
def Lc64l32(F:Nat->Option IFn)(cx:Ctx)(x0 x5 x7 x9 x10 x12 x13 x31 x32 x80 x81:AV)(rows:List Row)(low:Nat)(r:AV×List Row×Nat->Prop):Prop:=Ex F cx (.code c64l32::Kc64l32) ⟨mk 148 [(0,x0),(5,x5),(7,x7),(9,x9),(10,x10),(12,x12),(13,x13),(31,x31),(32,x32),(80,x80),(81,x81)],rows,low⟩ r
@[simp] theorem nc64l32:Ex F cx (Kc64l32) ⟨mk 148 l,rows,low⟩ r↔Lc64l32 F cx (lk l 0) (lk l 5) (lk l 7) (lk l 9) (lk l 10) (lk l 12) (lk l 13) (lk l 31) (lk l 32) (lk l 80) (lk l 81) rows low r:=AA (keep:=Qk) (by kernel_rfl)
@[simp] theorem uc64l32:U c64l32 (.seq c64k38 c64s37):=ur
@[simp] abbrev Kc64l51:List Itm:=.inLoop c64l51::.inBlock 4::.code c64s50::.inBlock 3::.code c64k4::Kc64l3
def Lc64l51(F:Nat->Option IFn)(cx:Ctx)(x0 x5 x7 x9 x10 x11 x31 x32:AV)(rows:List Row)(low:Nat)(r:AV×List Row×Nat->Prop):Prop:=Ex F cx (.code c64l51::Kc64l51) ⟨mk 148 [(0,x0),(5,x5),(7,x7),(9,x9),(10,x10),(11,x11),(31,x31),(32,x32)],rows,low⟩ r
@[simp] theorem nc64l51:Ex F cx (Kc64l51) ⟨mk 148 l,rows,low⟩ r↔Lc64l51 F cx (lk l 0) (lk l 5) (lk l 7) (lk l 9) (lk l 10) (lk l 11) (lk l 31) (lk l 32) rows low r:=AA (keep:=M9) (by kernel_rfl)
@[simp] theorem uc64l51:U c64l51 (.seq (.seq c64k55 c64s54) c64s53):=ur
def Lc64l3(F:Nat->Option IFn)(cx:Ctx)(x0 x5 x7 x9 x31 x32:AV)(rows:List Row)(low:Nat)(r:AV×List Row×Nat->Prop):Prop:=Ex F cx (.code c64l3::Kc64l3) ⟨mk 148 [(0,x0),(5,x5),(7,x7),(9,x9),(31,x31),(32,x32)],rows,low⟩ r
@[simp] theorem nc64l3:Ex F cx (Kc64l3) ⟨mk 148 l,rows,low⟩ r↔Lc64l3 F cx (lk l 0) (lk l 5) (lk l 7) (lk l 9) (lk l 31) (lk l 32) rows low r:=AA (keep:=LW) (by kernel_rfl)
@[simp] theorem uc64l3:U c64l3 (.seq c64k62 c64s61):=ur
@[simp] abbrev Kc64l69:List Itm:=.inLoop c64l69::.inBlock 0::.code c64s68::.inScope c64p0::[]
def Lc64l69(F:Nat->Option IFn)(cx:Ctx)(x0 x1 x5 x7 x23 x24:AV)(rows:List Row)(low:Nat)(r:AV×List Row×Nat->Prop):Prop:=Ex F cx (.code c64l69::Kc64l69) ⟨mk 148 [(0,x0),(1,x1),(5,x5),(7,x7),(23,x23),(24,x24)],rows,low⟩ r
@[simp] theorem nc64l69:Ex F cx (Kc64l69) ⟨mk 148 l,rows,low⟩ r↔Lc64l69 F cx (lk l 0) (lk l 1) (lk l 5) (lk l 7) (lk l 23) (lk l 24) rows low r:=AA (keep:=Qd) (by kernel_rfl)
@[simp] theorem uc64l69:U c64l69 (.seq c64k75 c64s74):=ur
@[simp] theorem uc64b:U c64b (.seq c64k81 c64s80):=ur
theorem i64{x0 x1 x2:AV}(hF:F 64=some c64){q:AV×List Row×Option Nat}(h:Ex F (.fn [.t 6]) [.code c64b] ⟨mk 148 [(0,x0),(1,x1),(2,x2)],rows,rows.length⟩ fun r=>fin rows r.1 r.2.1 r.2.2=q):Ret F 64 [x0,x1,x2] rows=some q:=Av hF h
@[simp] theorem uc68k0:X0 F cx k l rows low r 180 c68k0↔eb rows (.loadN 3 (cl l 5)) fun v0=>bnd (evE rows low (.storeN 3 (cl l 4) (.c v0))) fun q1=>Y0 F cx k r q1.2.1 q1.2.2 180 [(179,v0),(4,lk l 4),(5,lk l 5)]:=rg
@[simp] theorem uc68s1:U c68s1 (.seq c68k0 .ret):=ur
@[simp] theorem uc68k3:X0 F cx k l rows low r 180 c68k3↔eb rows (.bin .add (cl l 155) (ci 1)) fun v0=>Y0 F cx k r rows low 180 ([(155,v0),(178,v0)]++kp l Gc):=rg
@[simp] theorem uc68k4:X0 F cx k l rows low r 180 c68k4↔em 0 rows (.idxA 3 1 (cl l 5) (ci 2)) fun v0=>em 1 rows (.load1 (.c v0)) fun v1=>bnd (opC F (rows++Ai 4 rn) (rows.length+rn.length) [lk l 26] [] (.func 63 [])) fun q2=>q2.2.2=rows.length+rn.length/\bnd (some (rn++List.map (fun(x:Row)=>(3,x)) (q2.2.1.drop (rows.length+rn.length)))) fun e2=>bnd (evP (rows++Ai 0 e2) (.idxA 3 1 (cl l 5) (ci 0))) fun v3=>bnd (evP (rows++Ai 16 e2) (.load1 (.c v3))) fun v4=>bnd (evP (rows++Ai 112 e2) (.idxS 2 (.c v4) (cl l 25))) fun v5=>bnd (evP (rows++Ai 240 e2) (.loadN 2 (.c v5))) fun v6=>bnd (opC F (rows++Ai 508 e2) (rows.length+e2.length) [q2.1,v6] [] (.func 95 [])) fun q7=>q7.2.2=rows.length+e2.length/\bnd (some (e2++List.map (fun(x:Row)=>(9,x)) (q7.2.1.drop (rows.length+e2.length)))) fun e7=>bnd (evP (rows++Ai 0 e7) (.load1 (cl l 19))) fun v8=>bnd (evP (rows++Ai 3072 e7) (.idxS 2 (.c v8) (cl l 25))) fun v9=>bnd (evP (rows++Ai 7168 e7) (.loadN 2 (.c v9))) fun v10=>bnd (opC F (rows++Ai 16380 e7) (rows.length+e7.length) [q7.1,v10] [] (.func 95 [])) fun q11=>q11.2.2=rows.length+e7.length/\bnd (some (e7++List.map (fun(x:Row)=>(14,x)) (q11.2.1.drop (rows.length+e7.length)))) fun e11=>bnd (evE (rows++Ai 32764 e11) (rows.length+e11.length) (.mkslice 1 [.int .i64 0,.int .i64 0] [(0,2,(.c q11.1))])) fun q12=>q12.2.2=rows.length+e11.length/\bnd (some (e11++List.map (fun(x:Row)=>(15,x)) (q12.2.1.drop (rows.length+e11.length)))) fun e12=>bnd (evE (rows++List.map (fun(x:Nat×Row)=>x.2) e12) low (.app 2 16 (.c v1) (.c q12.1))) fun q13=>bnd (evP q13.2.1 (.idxA 3 1 (cl l 5) (ci 2))) fun v14=>bnd (evE q13.2.1 q13.2.2 (.store1 (.c v14) (.c q13.1))) fun q15=>Y0 F cx k r q15.2.1 q15.2.2 180 ([(177,v14),(176,q13.1),(175,q12.1),(174,q11.1),(173,v10),(172,v9),(171,lk l 25),(170,v8),(169,q7.1),(168,v6),(167,v5),(166,lk l 25),(165,v4),(164,v3),(163,q2.1),(162,lk l 26),(161,v1),(160,v0)]++kp l Vz):=rg
@[simp] theorem uc68k5:X0 F cx k l rows low r 180 c68k5↔eb rows (.idxS 1 (cl l 153) (cl l 155)) fun v0=>eb rows (.load1 (.c v0)) fun v1=>Y0 F cx k r rows low 180 ([(26,v1),(25,lk l 155),(159,v1),(158,v0),(157,lk l 155)]++kp l Gc):=rg
@[simp] theorem uc68s6:U c68s6 (.seq (.block 17 (.seq c68k5 c68k4)) c68k3):=ur
@[simp] theorem uc68s7:U c68s7 (.seq (.cond (.t 156) .skip (.exit 16)) c68s6):=ur
@[simp] theorem uc68k8:X0 F cx k l rows low r 180 c68k8↔eb rows (.bin .lss (cl l 155) (cl l 154)) fun v0=>Y0 F cx k r rows low 180 ([(156,v0)]++kp l Gc):=rg
@[simp] theorem uc68s9:U c68s9 (.block 16 (.loop c68l2)):=ur
@[simp] theorem uc68k10:X0 F cx k l rows low r 180 c68k10↔eb rows (.len 0 (cl l 1)) fun v0=>Y0 F cx k r rows low 180 ([(155,(.int .i64 0)),(154,v0),(153,lk l 1)]++kp l LV):=rg
@[simp] theorem uc68s11:U c68s11 (.seq (.seq c68k10 c68s9) c68s1):=ur
@[simp] theorem uc68k12:X0 F cx k l rows low r 180 c68k12↔eb rows (.load1 (cl l 19)) fun v0=>eb rows (.idxA 3 1 (cl l 5) (ci 1)) fun v1=>bnd (evE rows low (.store1 (.c v1) (.c v0))) fun q2=>Y0 F cx k r q2.2.1 q2.2.2 180 ([(152,v1),(151,v0)]++kp l LV):=rg
@[simp] theorem uc68s13:U c68s13 (.seq c68k12 c68s11):=ur
@[simp] theorem uc68k15:X0 F cx k l rows low r 180 c68k15↔eb rows (.bin .add (cl l 128) (ci 1)) fun v0=>Y0 F cx k r rows low 180 ([(128,v0),(150,v0)]++kp l P6):=rg
@[simp] theorem uc68k17:X0 F cx k l rows low r 180 c68k17↔em 0 rows (.load1 (cl l 19)) fun v0=>em 0 rows (.load1 (cl l 19)) fun v1=>em 12 rows (.idxS 2 (.c v1) (cl l 23)) fun v2=>em 28 rows (.loadN 2 (.c v2)) fun v3=>em 0 rows (.loadN 2 (cl l 22)) fun v4=>bnd (opC F (rows++Ai 128 rn) (rows.length+rn.length) [lk l 24] [] (.func 63 [])) fun q5=>q5.2.2=rows.length+rn.length/\bnd (some (rn++List.map (fun(x:Row)=>(8,x)) (q5.2.1.drop (rows.length+rn.length)))) fun e5=>bnd (opC F (rows++Ai 448 e5) (rows.length+e5.length) [v4,q5.1] [] (.func 99 [])) fun q6=>q6.2.2=rows.length+e5.length/\bnd (some (e5++List.map (fun(x:Row)=>(9,x)) (q6.2.1.drop (rows.length+e5.length)))) fun e6=>bnd (opC F (rows++Ai 1020 e6) (rows.length+e6.length) [v3,q6.1] [] (.func 97 [])) fun q7=>q7.2.2=rows.length+e6.length/\bnd (some (e6++List.map (fun(x:Row)=>(10,x)) (q7.2.1.drop (rows.length+e6.length)))) fun e7=>bnd (evP (rows++List.map (fun(x:Nat×Row)=>x.2) e7) (.idxS 2 (.c v0) (cl l 23))) fun v8=>bnd (evE (rows++List.map (fun(x:Nat×Row)=>x.2) e7) low (.storeN 2 (.c v8) (.c q7.1))) fun q9=>Y0 F cx k r q9.2.1 q9.2.2 180 ([(149,v8),(148,q7.1),(147,q6.1),(146,q5.1),(145,lk l 24),(144,v4),(143,v3),(142,v2),(141,lk l 23),(140,v1),(139,lk l 23),(138,v0)]++kp l Up):=rg
@[simp] theorem uc68k18:X0 F cx k l rows low r 180 c68k18↔Ex F cx k ⟨mk 180 ([(24,lk l 137)]++kp l V7),rows,low⟩ r:=rg
@[simp] theorem uc68k19:X0 F cx k l rows low r 180 c68k19↔Ex F cx k ⟨mk 180 ([(23,lk l 136)]++kp l U6),rows,low⟩ r:=rg
@[simp] theorem uc68f16a:U c68f16a (.seq c68k19 c68k18):=ur
@[simp] theorem uc68f16b:U c68f16b (.block 15 c68k17):=ur
@[simp] theorem uc68s20:U c68s20 (.block 14 (.rf (.t 135) [136,137] c68f16a c68f16b)):=ur
@[simp] theorem uc68k21:X0 F cx k l rows low r 180 c68k21↔eb rows (.loadN 3 (cl l 2)) fun v0=>bnd (Ret F 62 [v0,lk l 21] rows) fun q1=>Y0 F cx k r q1.2.1 (AC low q1.2.2) 180 ([(135,q1.1),(134,lk l 21),(133,v0)]++kp l Aa9):=rg
@[simp] theorem uc68s22:U c68s22 (.seq c68k21 c68s20):=ur
@[simp] theorem uc68k23:X0 F cx k l rows low r 180 c68k23↔eb rows (.idxS 2 (cl l 126) (cl l 128)) fun v0=>eb rows (.loadN 2 (.c v0)) fun v1=>bnd (evE rows low (.box (.c (.agg [.int .i64 0,.int .i64 0])))) fun q2=>bnd (evE q2.2.1 q2.2.2 (.storeN 2 (.c q2.1) (.c v1))) fun q3=>Y0 F cx k r q3.2.1 q3.2.2 180 ([(21,lk l 128),(22,q2.1),(132,v1),(131,v0),(130,lk l 128)]++kp l P6):=rg
@[simp] theorem uc68s24:U c68s24 (.seq (.block 13 (.seq c68k23 c68s22)) c68k15):=ur
@[simp] theorem uc68s25:U c68s25 (.seq (.cond (.t 129) .skip (.exit 12)) c68s24):=ur
@[simp] theorem uc68k26:X0 F cx k l rows low r 180 c68k26↔eb rows (.bin .lss (cl l 128) (cl l 127)) fun v0=>Y0 F cx k r rows low 180 ([(129,v0)]++kp l P6):=rg
@[simp] theorem uc68s27:U c68s27 (.block 12 (.loop c68l14)):=ur
@[simp] theorem uc68k28:X0 F cx k l rows low r 180 c68k28↔eb rows (.fieldA 2 (cl l 2)) fun v0=>eb rows (.load1 (.c v0)) fun v1=>eb rows (.len 0 (.c v1)) fun v2=>bnd (Ret F 98 [lk l 11,v2] rows) fun q3=>bnd (evP q3.2.1 (.len 0 (.c q3.1))) fun v4=>Y0 F cx k r q3.2.1 (AC low q3.2.2) 180 ([(128,(.int .i64 0)),(127,v4),(126,q3.1),(125,v2),(124,v1),(123,v0),(122,lk l 11)]++kp l WG):=rg
@[simp] theorem uc68s29:U c68s29 (.seq (.seq c68k28 c68s27) c68s13):=ur
@[simp] theorem uc68k31:X0 F cx k l rows low r 180 c68k31↔eb rows (.bin .add (cl l 114) (ci 1)) fun v0=>Y0 F cx k r rows low 180 ([(114,v0),(121,v0)]++kp l Qb):=rg
@[simp] theorem uc68k32:X0 F cx k l rows low r 180 c68k32↔eb rows (.load1 (cl l 19)) fun v0=>eb rows (.loadN 2 (.c (.ptr 0 0))) fun v1=>eb rows (.idxS 2 (.c v0) (cl l 20)) fun v2=>bnd (evE rows low (.storeN 2 (.c v2) (.c v1))) fun q3=>Y0 F cx k r q3.2.1 q3.2.2 180 ([(120,v2),(119,v1),(118,lk l 20),(117,v0)]++kp l AaK):=rg
@[simp] theorem uc68k33:X0 F cx k l rows low r 180 c68k33↔Y0 F cx k r rows low 180 ([(20,lk l 114),(116,lk l 114)]++kp l Qb):=rg
@[simp] theorem uc68s34:U c68s34 (.seq (.block 11 (.seq c68k33 c68k32)) c68k31):=ur
@[simp] theorem uc68s35:U c68s35 (.seq (.cond (.t 115) .skip (.exit 10)) c68s34):=ur
@[simp] theorem uc68k36:X0 F cx k l rows low r 180 c68k36↔eb rows (.bin .lss (cl l 114) (cl l 113)) fun v0=>Y0 F cx k r rows low 180 ([(115,v0)]++kp l Qb):=rg
@[simp] theorem uc68s37:U c68s37 (.block 10 (.loop c68l30)):=ur
@[simp] theorem uc68k38:X0 F cx k l rows low r 180 c68k38↔eb rows (.load1 (cl l 19)) fun v0=>eb rows (.len 0 (.c v0)) fun v1=>Y0 F cx k r rows low 180 ([(114,(.int .i64 0)),(113,v1),(112,v0)]++kp l WG):=rg
@[simp] theorem uc68s39:U c68s39 (.seq (.seq c68k38 c68s37) c68s29):=ur
@[simp] theorem uc68k40:X0 F cx k l rows low r 180 c68k40↔eb rows (.fieldA 1 (cl l 2)) fun v0=>eb rows (.load1 (.c v0)) fun v1=>eb rows (.len 0 (.c v1)) fun v2=>bnd (evE rows low (.make [.int .i64 0,.int .i64 0] 16 (.c v2) (.c v2))) fun q3=>bnd (evE q3.2.1 q3.2.2 (.box (.c .nilslice))) fun q4=>bnd (evE q4.2.1 q4.2.2 (.store1 (.c q4.1) (.c q3.1))) fun q5=>Y0 F cx k r q5.2.1 q5.2.2 180 ([(19,q4.1),(111,q3.1),(110,v2),(109,v1),(108,v0)]++kp l Aa7):=rg
@[simp] theorem uc68s41:U c68s41 (.seq c68k40 c68s39):=ur
@[simp] theorem uc68k43:X0 F cx k l rows low r 180 c68k43↔eb rows (.bin .add (cl l 63) (ci 1)) fun v0=>Y0 F cx k r rows low 180 ([(63,v0),(107,v0)]++kp l Ql):=rg
@[simp] theorem uc68k44:X0 F cx k l rows low r 180 c68k44↔eb rows (.loadN 22 (cl l 13)) fun v0=>bnd (evE rows low (.mkslice 1 (List.replicate 22 (.int .i64 0)) [(0,22,(.c v0))])) fun q1=>bnd (evE q1.2.1 q1.2.2 (.app 22 176 (cl l 11) (.c q1.1))) fun q2=>Y0 F cx k r q2.2.1 q2.2.2 180 ([(11,q2.1),(106,q2.1),(105,q1.1),(104,v0),(103,lk l 11)]++kp l Abw):=rg
@[simp] theorem uc68k45:X0 F cx k l rows low r 180 c68k45↔eb rows (.idxS 1 (cl l 9) (cl l 12)) fun v0=>eb rows (.load1 (.c v0)) fun v1=>bnd (Ret F 63 [v1] rows) fun q2=>bnd (evP q2.2.1 (.idxA 11 2 (cl l 13) (ci 10))) fun v3=>bnd (evE q2.2.1 (AC low q2.2.2) (.storeN 2 (.c v3) (.c q2.1))) fun q4=>Y0 F cx k r q4.2.1 q4.2.2 180 ([(102,v3),(101,q2.1),(100,v1),(99,v0),(98,lk l 12),(97,lk l 9)]++kp l WC):=rg
@[simp] theorem uc68s46:U c68s46 (.seq c68k45 c68k44):=ur
@[simp] theorem uc68k49:X0 F cx k l rows low r 180 c68k49↔eb rows (.bin .add (cl l 75) (ci 1)) fun v0=>Y0 F cx k r rows low 180 ([(75,v0),(96,v0)]++kp l Gp):=rg
@[simp] theorem uc68k51:X0 F cx k l rows low r 180 c68k51↔em 0 rows (.load1 (cl l 16)) fun v0=>em 0 rows (.load1 (cl l 16)) fun v1=>em 2 rows (.idxA 11 2 (cl l 13) (.c v1)) fun v2=>em 6 rows (.loadN 2 (.c v2)) fun v3=>em 0 rows (.load1 (cl l 15)) fun v4=>em 48 rows (.bin .mul (.c v4) (cl l 18)) fun v5=>bnd (opC F (rows++Ai 112 rn) (rows.length+rn.length) [v5] [] (.func 63 [])) fun q6=>q6.2.2=rows.length+rn.length/\bnd (some (rn++List.map (fun(x:Row)=>(7,x)) (q6.2.1.drop (rows.length+rn.length)))) fun e6=>bnd (opC F (rows++Ai 254 e6) (rows.length+e6.length) [v3,q6.1] [] (.func 97 [])) fun q7=>q7.2.2=rows.length+e6.length/\bnd (some (e6++List.map (fun(x:Row)=>(8,x)) (q7.2.1.drop (rows.length+e6.length)))) fun e7=>bnd (evP (rows++List.map (fun(x:Nat×Row)=>x.2) e7) (.idxA 11 2 (cl l 13) (.c v0))) fun v8=>bnd (evE (rows++List.map (fun(x:Nat×Row)=>x.2) e7) low (.storeN 2 (.c v8) (.c q7.1))) fun q9=>Y0 F cx k r q9.2.1 q9.2.2 180 ([(95,v8),(94,q7.1),(93,q6.1),(92,v5),(91,lk l 18),(90,v4),(89,v3),(88,v2),(87,v1),(86,v0)]++kp l UF):=rg
@[simp] theorem uc68s52:U c68s52 (.cond (.t 85) c68k51 .skip):=ur
@[simp] theorem uc68k53:X0 F cx k l rows low r 180 c68k53↔eb rows (.load1 (cl l 14)) fun v0=>eb rows (.bin .eql (cl l 17) (.c v0)) fun v1=>Y0 F cx k r rows low 180 ([(85,v1),(84,v0),(83,lk l 17)]++kp l V1):=rg
@[simp] theorem uc68k54:X0 F cx k l rows low r 180 c68k54↔Ex F cx k ⟨mk 180 ([(18,lk l 82)]++kp l UX),rows,low⟩ r:=rg
@[simp] theorem uc68k55:X0 F cx k l rows low r 180 c68k55↔Ex F cx k ⟨mk 180 ([(17,lk l 81)]++kp l TV),rows,low⟩ r:=rg
@[simp] theorem uc68f50a:U c68f50a (.seq c68k55 c68k54):=ur
@[simp] theorem uc68f50b:U c68f50b (.block 9 (.seq c68k53 c68s52)):=ur
@[simp] theorem uc68s56:U c68s56 (.block 8 (.rf (.t 80) [81,82] c68f50a c68f50b)):=ur
@[simp] theorem uc68k57:X0 F cx k l rows low r 180 c68k57↔eb rows (.loadN 3 (cl l 2)) fun v0=>eb rows (.load1 (cl l 16)) fun v1=>bnd (Ret F 62 [v0,v1] rows) fun q2=>Y0 F cx k r q2.2.1 (AC low q2.2.2) 180 ([(80,q2.1),(79,v1),(78,v0)]++kp l Ul):=rg
@[simp] theorem uc68s58:U c68s58 (.seq c68k57 c68s56):=ur
@[simp] theorem uc68k59:X0 F cx k l rows low r 180 c68k59↔bnd (evE rows low (.box (ci 0))) fun q0=>bnd (evE q0.2.1 q0.2.2 (.store1 (.c q0.1) (cl l 75))) fun q1=>Y0 F cx k r q1.2.1 q1.2.2 180 ([(16,q0.1),(77,lk l 75)]++kp l Gp):=rg
@[simp] theorem uc68s60:U c68s60 (.seq (.block 7 (.seq c68k59 c68s58)) c68k49):=ur
@[simp] theorem uc68s61:U c68s61 (.seq (.cond (.t 76) .skip (.exit 6)) c68s60):=ur
@[simp] theorem uc68k62:X0 F cx k l rows low r 180 c68k62↔eb rows (.bin .lss (cl l 75) (cl l 74)) fun v0=>Y0 F cx k r rows low 180 ([(76,v0)]++kp l Gp):=rg
@[simp] theorem uc68s63:U c68s63 (.block 6 (.loop c68l48)):=ur
@[simp] theorem uc68k64:X0 F cx k l rows low r 180 c68k64↔eb rows (.fieldA 2 (cl l 2)) fun v0=>eb rows (.load1 (.c v0)) fun v1=>eb rows (.len 0 (.c v1)) fun v2=>Y0 F cx k r rows low 180 ([(75,(.int .i64 0)),(74,v2),(73,v1),(72,v0)]++kp l Ut):=rg
@[simp] theorem uc68k65:X0 F cx k l rows low r 180 c68k65↔bnd (evE rows low (.box (ci 0))) fun q0=>bnd (evE q0.2.1 q0.2.2 (.store1 (.c q0.1) (cl l 71))) fun q1=>Y0 F cx k r q1.2.1 q1.2.2 180 ([(15,q0.1)]++kp l TH):=rg
@[simp] theorem uc68k66:X0 F cx k l rows low r 180 c68k66↔bnd (evE rows low (.box (ci 0))) fun q0=>bnd (evE q0.2.1 q0.2.2 (.store1 (.c q0.1) (cl l 70))) fun q1=>Y0 F cx k r q1.2.1 q1.2.2 180 ([(14,q0.1)]++kp l U8):=rg
@[simp] theorem uc68f47a:U c68f47a (.seq c68k66 c68k65):=ur
@[simp] theorem uc68f47b:U c68f47b (.block 5 (.seq c68k64 c68s63)):=ur
@[simp] theorem uc68s67:U c68s67 (.block 4 (.rf (.t 69) [70,71] c68f47a c68f47b)):=ur
@[simp] theorem uc68k68:X0 F cx k l rows low r 180 c68k68↔eb rows (.loadN 3 (cl l 2)) fun v0=>bnd (Ret F 62 [v0,lk l 12] rows) fun q1=>Y0 F cx k r q1.2.1 (AC low q1.2.2) 180 ([(69,q1.1),(68,lk l 12),(67,v0)]++kp l WC):=rg
@[simp] theorem uc68s69:U c68s69 (.seq (.seq c68k68 c68s67) c68s46):=ur
@[simp] theorem uc68k70:X0 F cx k l rows low r 180 c68k70↔bnd (Ret F 96 [] rows) fun q0=>bnd (evE q0.2.1 (AC low q0.2.2) (.box (.c (.agg (List.replicate 22 (.int .i64 0)))))) fun q1=>bnd (evE q1.2.1 q1.2.2 (.storeN 22 (.c q1.1) (.c q0.1))) fun q2=>Y0 F cx k r q2.2.1 q2.2.2 180 ([(13,q1.1),(66,q0.1)]++kp l AaM):=rg
@[simp] theorem uc68s71:U c68s71 (.seq c68k70 c68s69):=ur
@[simp] theorem uc68k72:X0 F cx k l rows low r 180 c68k72↔Y0 F cx k r rows low 180 ([(12,lk l 63),(65,lk l 63)]++kp l Ql):=rg
@[simp] theorem uc68s73:U c68s73 (.seq (.block 3 (.seq c68k72 c68s71)) c68k43):=ur
@[simp] theorem uc68s74:U c68s74 (.seq (.cond (.t 64) .skip (.exit 2)) c68s73):=ur
@[simp] theorem uc68k75:X0 F cx k l rows low r 180 c68k75↔eb rows (.bin .lss (cl l 63) (cl l 62)) fun v0=>Y0 F cx k r rows low 180 ([(64,v0)]++kp l Ql):=rg
@[simp] theorem uc68s76:U c68s76 (.block 2 (.loop c68l42)):=ur
@[simp] theorem uc68k77:X0 F cx k l rows low r 180 c68k77↔eb rows (.fieldA 2 (cl l 2)) fun v0=>eb rows (.load1 (.c v0)) fun v1=>eb rows (.len 0 (.c v1)) fun v2=>Y0 F cx k r rows low 180 ([(63,(.int .i64 0)),(62,v2),(61,v1),(60,v0)]++kp l Aag):=rg
@[simp] theorem uc68s78:U c68s78 (.seq (.seq c68k77 c68s76) c68s41):=ur
@[simp] theorem uc68k79:X0 F cx k l rows low r 180 c68k79↔Y0 F cx k r rows low 180 ([(11,.nilslice)]++kp l Aa5):=rg
@[simp] theorem uc68s80:U c68s80 (.seq c68k79 c68s78):=ur
@[simp] theorem uc68k81:X0 F cx k l rows low r 180 c68k81↔eb rows (.loadN 3 (cl l 2)) fun v0=>bnd (Ret F 40 [v0,lk l 1] rows) fun q1=>bnd (evP q1.2.1 (.ext (.c q1.1) 0)) fun v2=>bnd (evP q1.2.1 (.ext (.c q1.1) 1)) fun v3=>Y0 F cx k r q1.2.1 (AC low q1.2.2) 180 ([(10,v3),(9,v2),(59,v3),(58,v2),(54,q1.1),(57,q1.1),(56,lk l 1),(55,v0)]++kp l Wv):=rg
@[simp] theorem uc68s82:U c68s82 (.seq c68k81 c68s80):=ur
@[simp] theorem uc68k84:X0 F cx k l rows low r 180 c68k84↔eb rows (.bin .add (cl l 33) (ci 1)) fun v0=>Y0 F cx k r rows low 180 ([(33,v0),(53,v0)]++kp l Qf):=rg
@[simp] theorem uc68k85:X0 F cx k l rows low r 180 c68k85↔em 0 rows (.idxA 3 1 (cl l 5) (ci 0)) fun v0=>em 1 rows (.load1 (.c v0)) fun v1=>em 0 rows (.idxA 2 1 (cl l 8) (ci 1)) fun v2=>em 8 rows (.load1 (.c v2)) fun v3=>em 28 rows (.idxS 2 (cl l 6) (.c v3)) fun v4=>em 60 rows (.loadN 2 (.c v4)) fun v5=>em 0 rows (.idxA 2 1 (cl l 8) (ci 0)) fun v6=>em 256 rows (.load1 (.c v6)) fun v7=>em 896 rows (.idxS 2 (cl l 6) (.c v7)) fun v8=>em 1920 rows (.loadN 2 (.c v8)) fun v9=>bnd (opC F (rows++Ai 4092 rn) (rows.length+rn.length) [v5,v9] [] (.func 95 [])) fun q10=>q10.2.2=rows.length+rn.length/\bnd (some (rn++List.map (fun(x:Row)=>(12,x)) (q10.2.1.drop (rows.length+rn.length)))) fun e10=>bnd (evE (rows++Ai 8188 e10) (rows.length+e10.length) (.mkslice 1 [.int .i64 0,.int .i64 0] [(0,2,(.c q10.1))])) fun q11=>q11.2.2=rows.length+e10.length/\bnd (some (e10++List.map (fun(x:Row)=>(13,x)) (q11.2.1.drop (rows.length+e10.length)))) fun e11=>bnd (evE (rows++List.map (fun(x:Nat×Row)=>x.2) e11) low (.app 2 16 (.c v1) (.c q11.1))) fun q12=>bnd (evP q12.2.1 (.idxA 3 1 (cl l 5) (ci 0))) fun v13=>bnd (evE q12.2.1 q12.2.2 (.store1 (.c v13) (.c q12.1))) fun q14=>Y0 F cx k r q14.2.1 q14.2.2 180 ([(52,v13),(51,q12.1),(50,q11.1),(49,q10.1),(48,v9),(47,v8),(46,v7),(45,v6),(44,lk l 6),(43,v5),(42,v4),(41,v3),(40,v2),(39,lk l 6),(38,v1),(37,v0)]++kp l AaD):=rg
@[simp] theorem uc68k86:X0 F cx k l rows low r 180 c68k86↔eb rows (.idxS 2 (cl l 31) (cl l 33)) fun v0=>eb rows (.loadN 2 (.c v0)) fun v1=>bnd (evE rows low (.box (.c (.agg [.int .i64 0,.int .i64 0])))) fun q2=>bnd (evE q2.2.1 q2.2.2 (.storeN 2 (.c q2.1) (.c v1))) fun q3=>Y0 F cx k r q3.2.1 q3.2.2 180 ([(8,q2.1),(36,v1),(35,v0)]++kp l Qf):=rg
@[simp] theorem uc68s87:U c68s87 (.seq (.block 1 (.seq c68k86 c68k85)) c68k84):=ur
@[simp] theorem uc68s88:U c68s88 (.seq (.cond (.t 34) .skip (.exit 0)) c68s87):=ur
@[simp] theorem uc68k89:X0 F cx k l rows low r 180 c68k89↔eb rows (.bin .lss (cl l 33) (cl l 32)) fun v0=>Y0 F cx k r rows low 180 ([(34,v0)]++kp l Qf):=rg
@[simp] theorem uc68s90:U c68s90 (.block 0 (.loop c68l83)):=ur
@[simp] theorem uc68k91:X0 F cx k l rows low r 180 c68k91↔eb rows (.fieldA 1 (cl l 2)) fun v0=>eb rows (.load1 (.c v0)) fun v1=>eb rows (.len 0 (.c v1)) fun v2=>Y0 F cx k r rows low 180 ([(33,(.int .i64 0)),(32,v2),(31,v1),(30,v0)]++kp l Z9):=rg
@[simp] theorem uc68s92:U c68s92 (.seq (.seq c68k91 c68s90) c68s82):=ur
@[simp] theorem uc68k93:X0 F cx k l rows low r 180 c68k93↔eb rows (.loadN 3 (cl l 2)) fun v0=>bnd (Ret F 70 [v0,lk l 1] rows) fun q1=>Y0 F cx k r q1.2.1 (AC low q1.2.2) 180 ([(6,q1.1),(29,q1.1),(28,lk l 1),(27,v0)]++kp l Wv):=rg
@[simp] theorem uc68s94:U c68s94 (.seq c68k93 c68s92):=ur
@[simp] theorem uc68k95:X0 F cx k l rows low r 180 c68k95↔bnd (evE rows low (.box (.c (.agg [.nilslice,.nilslice,.nilslice])))) fun q0=>Y0 F cx k r q0.2.1 q0.2.2 180 ([(5,q0.1)]++kp l QL):=rg
@[simp] theorem uc68s96:U c68s96 (.seq c68k95 c68s94):=ur
@[simp] theorem uc68k97:X0 F cx k l rows low r 180 c68k97↔bnd (evE rows low (.box (cl l 0))) fun q0=>bnd (evE q0.2.1 q0.2.2 (.box (.c (.agg [.nilslice,.nilslice,.nilslice])))) fun q1=>Y0 F cx k r q1.2.1 q1.2.2 180 [(4,q1.1),(2,q0.1),(0,lk l 0),(1,lk l 1)]:=rg
@[simp] abbrev Kc68l2:List Itm:=.inLoop c68l2::.inBlock 16::.code c68s1::[]
def Lc68l2(F:Nat->Option IFn)(cx:Ctx)(x4 x5 x19 x153 x154 x155:AV)(rows:List Row)(low:Nat)(r:AV×List Row×Nat->Prop):Prop:=Ex F cx (.code c68l2::Kc68l2) ⟨mk 180 [(4,x4),(5,x5),(19,x19),(153,x153),(154,x154),(155,x155)],rows,low⟩ r
@[simp] theorem nc68l2:Ex F cx (Kc68l2) ⟨mk 180 l,rows,low⟩ r↔Lc68l2 F cx (lk l 4) (lk l 5) (lk l 19) (lk l 153) (lk l 154) (lk l 155) rows low r:=AA (keep:=Gc) (by kernel_rfl)
@[simp] theorem uc68l2:U c68l2 (.seq c68k8 c68s7):=ur
@[simp] abbrev Kc68l14:List Itm:=.inLoop c68l14::.inBlock 12::.code c68s13::[]
def Lc68l14(F:Nat->Option IFn)(cx:Ctx)(x1 x2 x4 x5 x19 x126 x127 x128:AV)(rows:List Row)(low:Nat)(r:AV×List Row×Nat->Prop):Prop:=Ex F cx (.code c68l14::Kc68l14) ⟨mk 180 [(1,x1),(2,x2),(4,x4),(5,x5),(19,x19),(126,x126),(127,x127),(128,x128)],rows,low⟩ r
@[simp] theorem nc68l14:Ex F cx (Kc68l14) ⟨mk 180 l,rows,low⟩ r↔Lc68l14 F cx (lk l 1) (lk l 2) (lk l 4) (lk l 5) (lk l 19) (lk l 126) (lk l 127) (lk l 128) rows low r:=AA (keep:=P6) (by kernel_rfl)
@[simp] theorem uc68l14:U c68l14 (.seq c68k26 c68s25):=ur
@[simp] abbrev Kc68l30:List Itm:=.inLoop c68l30::.inBlock 10::.code c68s29::[]
def Lc68l30(F:Nat->Option IFn)(cx:Ctx)(x1 x2 x4 x5 x11 x19 x113 x114:AV)(rows:List Row)(low:Nat)(r:AV×List Row×Nat->Prop):Prop:=Ex F cx (.code c68l30::Kc68l30) ⟨mk 180 [(1,x1),(2,x2),(4,x4),(5,x5),(11,x11),(19,x19),(113,x113),(114,x114)],rows,low⟩ r
@[simp] theorem nc68l30:Ex F cx (Kc68l30) ⟨mk 180 l,rows,low⟩ r↔Lc68l30 F cx (lk l 1) (lk l 2) (lk l 4) (lk l 5) (lk l 11) (lk l 19) (lk l 113) (lk l 114) rows low r:=AA (keep:=Qb) (by kernel_rfl)
@[simp] theorem uc68l30:U c68l30 (.seq c68k36 c68s35):=ur
@[simp] abbrev Kc68l48:List Itm:=.inLoop c68l48::.inBlock 6::.inBlock 5::[]
def Lc68l48(F:Nat->Option IFn)(cx:Ctx)(x2 x13 x14 x15 x74 x75:AV)(rows:List Row)(low:Nat)(r:AV×List Row×Nat->Prop):Prop:=Ex F cx (.code c68l48::Kc68l48) ⟨mk 180 [(2,x2),(13,x13),(14,x14),(15,x15),(74,x74),(75,x75)],rows,low⟩ r
@[simp] theorem nc68l48:Ex F cx (Kc68l48) ⟨mk 180 l,rows,low⟩ r↔Lc68l48 F cx (lk l 2) (lk l 13) (lk l 14) (lk l 15) (lk l 74) (lk l 75) rows low r:=AA (keep:=Gp) (by kernel_rfl)
@[simp] theorem uc68l48:U c68l48 (.seq c68k62 c68s61):=ur
@[simp] abbrev Kc68l42:List Itm:=.inLoop c68l42::.inBlock 2::.code c68s41::[]
def Lc68l42(F:Nat->Option IFn)(cx:Ctx)(x1 x2 x4 x5 x9 x11 x62 x63:AV)(rows:List Row)(low:Nat)(r:AV×List Row×Nat->Prop):Prop:=Ex F cx (.code c68l42::Kc68l42) ⟨mk 180 [(1,x1),(2,x2),(4,x4),(5,x5),(9,x9),(11,x11),(62,x62),(63,x63)],rows,low⟩ r
@[simp] theorem nc68l42:Ex F cx (Kc68l42) ⟨mk 180 l,rows,low⟩ r↔Lc68l42 F cx (lk l 1) (lk l 2) (lk l 4) (lk l 5) (lk l 9) (lk l 11) (lk l 62) (lk l 63) rows low r:=AA (keep:=Ql) (by kernel_rfl)
@[simp] theorem uc68l42:U c68l42 (.seq c68k75 c68s74):=ur
@[simp] abbrev Kc68l83:List Itm:=.inLoop c68l83::.inBlock 0::.code c68s82::[]
def Lc68l83(F:Nat->Option IFn)(cx:Ctx)(x1 x2 x4 x5 x6 x31 x32 x33:AV)(rows:List Row)(low:Nat)(r:AV×List Row×Nat->Prop):Prop:=Ex F cx (.code c68l83::Kc68l83) ⟨mk 180 [(1,x1),(2,x2),(4,x4),(5,x5),(6,x6),(31,x31),(32,x32),(33,x33)],rows,low⟩ r
@[simp] theorem nc68l83:Ex F cx (Kc68l83) ⟨mk 180 l,rows,low⟩ r↔Lc68l83 F cx (lk l 1) (lk l 2) (lk l 4) (lk l 5) (lk l 6) (lk l 31) (lk l 32) (lk l 33) rows low r:=AA (keep:=Qf) (by kernel_rfl)
@[simp] theorem uc68l83:U c68l83 (.seq c68k89 c68s88):=ur
@[simp] theorem uc68b:U c68b (.seq c68k97 c68s96):=ur
@[simp] theorem uc69k0:X0 F cx k l rows low r 22 c69k0↔Y0 F cx k r rows low 22 [(2,lk l 3),(21,lk l 3),(3,lk l 3)]:=rg
@[simp] theorem uc69s1:U c69s1 (.seq c69k0 .ret):=ur
@[simp] theorem uc69k3:X0 F cx k l rows low r 22 c69k3↔eb rows (.bin .add (cl l 8) (ci 1)) fun v0=>Y0 F cx k r rows low 22 ([(8,v0),(20,v0)]++kp l Gf):=rg
@[simp] theorem uc69k4:X0 F cx k l rows low r 22 c69k4↔eb rows (.fieldA 0 (cl l 5)) fun v0=>eb rows (.load1 (.c v0)) fun v1=>eb rows (.fieldA 1 (cl l 5)) fun v2=>eb rows (.load1 (.c v2)) fun v3=>eb rows (.mkagg [.int .i64 0,.int .i64 0] [(0,1,(.c v1)),(1,1,(.c v3))]) fun v4=>bnd (evE rows low (.mkslice 1 [.int .i64 0,.int .i64 0] [(0,2,(.c v4))])) fun q5=>bnd (evE q5.2.1 q5.2.2 (.app 2 16 (cl l 3) (.c q5.1))) fun q6=>Y0 F cx k r q6.2.1 q6.2.2 22 ([(3,q6.1),(19,q6.1),(18,q5.1),(17,v4),(16,v3),(15,v2),(14,v1),(13,v0),(12,lk l 3)]++kp l TF):=rg
@[simp] theorem uc69k5:X0 F cx k l rows low r 22 c69k5↔eb rows (.idxS 2 (cl l 6) (cl l 8)) fun v0=>eb rows (.loadN 2 (.c v0)) fun v1=>bnd (evE rows low (.box (.c (.agg [.int .i64 0,.int .i64 0])))) fun q2=>bnd (evE q2.2.1 q2.2.2 (.storeN 2 (.c q2.1) (.c v1))) fun q3=>Y0 F cx k r q3.2.1 q3.2.2 22 ([(5,q2.1),(11,v1),(10,v0)]++kp l Gf):=rg
@[simp] theorem uc69s6:U c69s6 (.seq (.block 1 (.seq c69k5 c69k4)) c69k3):=ur
@[simp] theorem uc69s7:U c69s7 (.seq (.cond (.t 9) .skip (.exit 0)) c69s6):=ur
@[simp] theorem uc69k8:X0 F cx k l rows low r 22 c69k8↔eb rows (.bin .lss (cl l 8) (cl l 7)) fun v0=>Y0 F cx k r rows low 22 ([(9,v0)]++kp l Gf):=rg
@[simp] theorem uc69s9:U c69s9 (.block 0 (.loop c69l2)):=ur
@[simp] theorem uc69k10:X0 F cx k l rows low r 22 c69k10↔eb rows (.len 0 (cl l 0)) fun v0=>Y0 F cx k r rows low 22 [(8,(.int .i64 0)),(7,v0),(6,lk l 0),(0,lk l 0),(3,lk l 3)]:=rg
@[simp] theorem uc69s11:U c69s11 (.seq (.seq c69k10 c69s9) c69s1):=ur
@[simp] theorem uc69k12:X0 F cx k l rows low r 22 c69k12↔Y0 F cx k r rows low 22 [(3,.nilslice),(0,lk l 0)]:=rg
@[simp] theorem uc69s13:U c69s13 (.seq c69k12 c69s11):=ur
@[simp] theorem uc69k14:X0 F cx k l rows low r 22 c69k14↔Y0 F cx k r rows low 22 [(2,.nilslice),(0,lk l 0)]:=rg
@[simp] abbrev Kc69l2:List Itm:=.inLoop c69l2::.inBlock 0::.code c69s1::[]
def Lc69l2(F:Nat->Option IFn)(cx:Ctx)(x3 x6 x7 x8:AV)(rows:List Row)(low:Nat)(r:AV×List Row×Nat->Prop):Prop:=Ex F cx (.code c69l2::Kc69l2) ⟨mk 22 [(3,x3),(6,x6),(7,x7),(8,x8)],rows,low⟩ r
@[simp] theorem nc69l2:Ex F cx (Kc69l2) ⟨mk 22 l,rows,low⟩ r↔Lc69l2 F cx (lk l 3) (lk l 6) (lk l 7) (lk l 8) rows low r:=AA (keep:=Gf) (by kernel_rfl)
@[simp] theorem uc69l2:U c69l2 (.seq c69k8 c69s7):=ur
@[simp] theorem uc69b:U c69b (.seq c69k14 c69s13):=ur
@[simp] theorem uc70k0:X0 F cx k l rows low r 119 c70k0↔eb rows (.fieldA 0 (cl l 2)) fun v0=>eb rows (.load1 (.c v0)) fun v1=>bnd (Ret F 98 [lk l 5,v1] rows) fun q2=>Y0 F cx k r q2.2.1 (AC low q2.2.2) 119 [(4,q2.1),(118,q2.1),(117,v1),(116,v0),(115,lk l 5),(2,lk l 2),(5,lk l 5)]:=rg
@[simp] theorem uc70s1:U c70s1 (.seq c70k0 .ret):=ur
@[simp] theorem uc70k3:X0 F cx k l rows low r 119 c70k3↔eb rows (.bin .add (cl l 87) (ci 1)) fun v0=>Y0 F cx k r rows low 119 ([(87,v0),(114,v0)]++kp l Gk):=rg
@[simp] theorem uc70k4:X0 F cx k l rows low r 119 c70k4↔eb rows (.loadN 22 (cl l 16)) fun v0=>bnd (evE rows low (.mkslice 1 (List.replicate 22 (.int .i64 0)) [(0,22,(.c v0))])) fun q1=>bnd (evE q1.2.1 q1.2.2 (.app 22 176 (cl l 5) (.c q1.1))) fun q2=>Y0 F cx k r q2.2.1 q2.2.2 119 ([(5,q2.1),(113,q2.1),(112,q1.1),(111,v0),(110,lk l 5)]++kp l Vm):=rg
@[simp] theorem uc70k6:X0 F cx k l rows low r 119 c70k6↔eb rows (.bin .add (cl l 98) (ci 1)) fun v0=>Y0 F cx k r rows low 119 ([(98,v0),(109,v0)]++kp l F3):=rg
@[simp] theorem uc70k7:X0 F cx k l rows low r 119 c70k7↔bnd (Ret F 63 [(.int .i64 1)] rows) fun q0=>bnd (evP q0.2.1 (.idxA 11 2 (cl l 16) (cl l 17))) fun v1=>bnd (evE q0.2.1 (AC low q0.2.2) (.storeN 2 (.c v1) (.c q0.1))) fun q2=>Y0 F cx k r q2.2.1 q2.2.2 119 ([(108,v1),(107,q0.1),(106,lk l 17)]++kp l MW):=rg
@[simp] theorem uc70s8:U c70s8 (.cond (.t 105) c70k7 .skip):=ur
@[simp] theorem uc70k9:X0 F cx k l rows low r 119 c70k9↔Bp F rows low [lk l 17] (fun v0 R0 L0=>bnd (evP R0 (.bin .eql (.c v0) (cl l 15))) fun v1=>Ex F cx k ⟨mk 119 ([(105,v1),(104,lk l 15),(103,v0),(102,lk l 17),(101,lk l 14)]++kp l MW),R0,L0⟩ r) [] (lk l 14):=rg
@[simp] theorem uc70s10:U c70s10 (.seq c70k9 c70s8):=ur
@[simp] theorem uc70k11:X0 F cx k l rows low r 119 c70k11↔Y0 F cx k r rows low 119 ([(17,lk l 98),(100,lk l 98)]++kp l F3):=rg
@[simp] theorem uc70s12:U c70s12 (.seq (.block 9 (.seq c70k11 c70s10)) c70k6):=ur
@[simp] theorem uc70s13:U c70s13 (.seq (.cond (.t 99) .skip (.exit 8)) c70s12):=ur
@[simp] theorem uc70k14:X0 F cx k l rows low r 119 c70k14↔eb rows (.bin .lss (cl l 98) (cl l 97)) fun v0=>Y0 F cx k r rows low 119 ([(99,v0)]++kp l F3):=rg
@[simp] theorem uc70s15:U c70s15 (.block 8 (.loop c70l5)):=ur
@[simp] theorem uc70k16:X0 F cx k l rows low r 119 c70k16↔eb rows (.fieldA 0 (cl l 2)) fun v0=>eb rows (.load1 (.c v0)) fun v1=>Y0 F cx k r rows low 119 ([(98,(.int .i64 0)),(97,v1),(96,v0)]++kp l TM):=rg
@[simp] theorem uc70s17:U c70s17 (.seq (.seq c70k16 c70s15) c70k4):=ur
@[simp] theorem uc70k18:X0 F cx k l rows low r 119 c70k18↔bnd (Ret F 96 [] rows) fun q0=>bnd (evE q0.2.1 (AC low q0.2.2) (.box (.c (.agg (List.replicate 22 (.int .i64 0)))))) fun q1=>bnd (evE q1.2.1 q1.2.2 (.storeN 22 (.c q1.1) (.c q0.1))) fun q2=>Y0 F cx k r q2.2.1 q2.2.2 119 ([(16,q1.1),(95,q0.1)]++kp l Mg):=rg
@[simp] theorem uc70s19:U c70s19 (.seq c70k18 c70s17):=ur
@[simp] theorem uc70s20:U c70s20 (.cond (.t 94) (.exit 7) .skip):=ur
@[simp] theorem uc70k21:X0 F cx k l rows low r 119 c70k21↔Bp F rows low [lk l 15] (fun v0 R0 L0=>bnd (evP R0 (.bin .neq (.c v0) (cl l 15))) fun v1=>Ex F cx k ⟨mk 119 ([(94,v1),(93,lk l 15),(92,v0),(91,lk l 15),(90,lk l 14)]++kp l Mg),R0,L0⟩ r) [] (lk l 14):=rg
@[simp] theorem uc70s22:U c70s22 (.seq (.seq c70k21 c70s20) c70s19):=ur
@[simp] theorem uc70k23:X0 F cx k l rows low r 119 c70k23↔Y0 F cx k r rows low 119 ([(15,lk l 87),(89,lk l 87)]++kp l Gk):=rg
@[simp] theorem uc70s24:U c70s24 (.seq (.block 7 (.seq c70k23 c70s22)) c70k3):=ur
@[simp] theorem uc70s25:U c70s25 (.seq (.cond (.t 88) .skip (.exit 6)) c70s24):=ur
@[simp] theorem uc70k26:X0 F cx k l rows low r 119 c70k26↔eb rows (.bin .lss (cl l 87) (cl l 86)) fun v0=>Y0 F cx k r rows low 119 ([(88,v0)]++kp l Gk):=rg
@[simp] theorem uc70s27:U c70s27 (.block 6 (.loop c70l2)):=ur
@[simp] theorem uc70k28:X0 F cx k l rows low r 119 c70k28↔eb rows (.fieldA 0 (cl l 2)) fun v0=>eb rows (.load1 (.c v0)) fun v1=>Y0 F cx k r rows low 119 ([(87,(.int .i64 0)),(86,v1),(85,v0)]++kp l UC):=rg
@[simp] theorem uc70s29:U c70s29 (.seq (.seq c70k28 c70s27) c70s1):=ur
@[simp] theorem uc70k30:X0 F cx k l rows low r 119 c70k30↔eb rows (.mkfn 100 [(cl l 13)]) fun v0=>Y0 F cx k r rows low 119 ([(14,v0),(84,v0)]++kp l Uf):=rg
@[simp] theorem uc70s31:U c70s31 (.seq c70k30 c70s29):=ur
@[simp] theorem uc70k32:X0 F cx k l rows low r 119 c70k32↔em 0 rows (.loadN 3 (cl l 2)) fun v0=>em 0 rows (.fieldA 1 (cl l 2)) fun v1=>em 2 rows (.load1 (.c v1)) fun v2=>em 6 rows (.len 0 (.c v2)) fun v3=>bnd (evE (rows++Ai 14 rn) (rows.length+rn.length) (.make [.int .i64 0] 8 (.c v3) (.c v3))) fun q4=>q4.2.2=rows.length+rn.length/\bnd (some (rn++List.map (fun(x:Row)=>(4,x)) (q4.2.1.drop (rows.length+rn.length)))) fun e4=>bnd (opC F (rows++Ai 31 e4) (rows.length+e4.length) [v0,q4.1] [] (.func 78 [])) fun q5=>q5.2.2=rows.length+e4.length/\bnd (some (e4++List.map (fun(x:Row)=>(5,x)) (q5.2.1.drop (rows.length+e4.length)))) fun e5=>bnd (evE (rows++Ai 0 e5) (rows.length+e5.length) (.box (.c .nilptr))) fun q6=>q6.2.2=rows.length+e5.length/\bnd (some (e5++List.map (fun(x:Row)=>(6,x)) (q6.2.1.drop (rows.length+e5.length)))) fun e6=>bnd (evE (rows++List.map (fun(x:Nat×Row)=>x.2) e6) low (.store1 (.c q6.1) (.c q5.1))) fun q7=>Y0 F cx k r q7.2.1 q7.2.2 119 [(13,q6.1),(83,q5.1),(82,q4.1),(81,v3),(80,v2),(79,v1),(78,v0),(2,lk l 2),(5,lk l 5)]:=rg
@[simp] theorem uc70s33:U c70s33 (.seq c70k32 c70s31):=ur
@[simp] theorem uc70k35:X0 F cx k l rows low r 119 c70k35↔eb rows (.bin .add (cl l 26) (ci 1)) fun v0=>Y0 F cx k r rows low 119 ([(26,v0),(77,v0)]++kp l F4):=rg
@[simp] theorem uc70k36:X0 F cx k l rows low r 119 c70k36↔eb rows (.loadN 22 (cl l 9)) fun v0=>bnd (evE rows low (.mkslice 1 (List.replicate 22 (.int .i64 0)) [(0,22,(.c v0))])) fun q1=>bnd (evE q1.2.1 q1.2.2 (.app 22 176 (cl l 5) (.c q1.1))) fun q2=>Y0 F cx k r q2.2.1 q2.2.2 119 ([(5,q2.1),(76,q2.1),(75,q1.1),(74,v0),(73,lk l 5)]++kp l UO):=rg
@[simp] theorem uc70k37:X0 F cx k l rows low r 119 c70k37↔eb rows (.idxS 1 (cl l 6) (cl l 8)) fun v0=>eb rows (.load1 (.c v0)) fun v1=>bnd (Ret F 63 [v1] rows) fun q2=>bnd (evP q2.2.1 (.idxA 11 2 (cl l 9) (ci 10))) fun v3=>bnd (evE q2.2.1 (AC low q2.2.2) (.storeN 2 (.c v3) (.c q2.1))) fun q4=>Y0 F cx k r q4.2.1 q4.2.2 119 ([(72,v3),(71,q2.1),(70,v1),(69,v0),(68,lk l 8),(67,lk l 6)]++kp l M2):=rg
@[simp] theorem uc70s38:U c70s38 (.seq c70k37 c70k36):=ur
@[simp] theorem uc70k40:X0 F cx k l rows low r 119 c70k40↔eb rows (.bin .add (cl l 33) (ci 1)) fun v0=>Y0 F cx k r rows low 119 ([(33,v0),(66,v0)]++kp l Gb):=rg
@[simp] theorem uc70k42:X0 F cx k l rows low r 119 c70k42↔eb rows (.bin .add (cl l 37) (ci 1)) fun v0=>Y0 F cx k r rows low 119 ([(37,v0),(65,v0)]++kp l Gt):=rg
@[simp] theorem uc70k43:X0 F cx k l rows low r 119 c70k43↔em 1 rows (.bin .sub (ci 1) (cl l 12)) fun v0=>em 3 rows (.idxA 2 1 (cl l 11) (.c v0)) fun v1=>em 7 rows (.load1 (.c v1)) fun v2=>em 16 rows (.bin .sub (ci 1) (cl l 12)) fun v3=>em 48 rows (.idxA 2 1 (cl l 11) (.c v3)) fun v4=>em 112 rows (.load1 (.c v4)) fun v5=>em 240 rows (.idxA 11 2 (cl l 9) (.c v5)) fun v6=>em 496 rows (.loadN 2 (.c v6)) fun v7=>bnd (opC F (rows++Ai 0 rn) (rows.length+rn.length) [(.int .i64 1)] [] (.func 63 [])) fun q8=>q8.2.2=rows.length+rn.length/\bnd (some (rn++List.map (fun(x:Row)=>(10,x)) (q8.2.1.drop (rows.length+rn.length)))) fun e8=>bnd (opC F (rows++Ai 2032 e8) (rows.length+e8.length) [v7,q8.1] [] (.func 95 [])) fun q9=>q9.2.2=rows.length+e8.length/\bnd (some (e8++List.map (fun(x:Row)=>(11,x)) (q9.2.1.drop (rows.length+e8.length)))) fun e9=>bnd (evP (rows++List.map (fun(x:Nat×Row)=>x.2) e9) (.idxA 11 2 (cl l 9) (.c v2))) fun v10=>bnd (evE (rows++List.map (fun(x:Nat×Row)=>x.2) e9) low (.storeN 2 (.c v10) (.c q9.1))) fun q11=>Y0 F cx k r q11.2.1 q11.2.2 119 ([(64,v10),(63,q9.1),(62,q8.1),(61,v7),(60,v6),(59,v5),(58,v4),(57,v3),(56,lk l 12),(55,v2),(54,v1),(53,v0),(52,lk l 12)]++kp l Ie):=rg
@[simp] theorem uc70k44:X0 F cx k l rows low r 119 c70k44↔em 2 rows (.idxA 11 2 (cl l 9) (cl l 8)) fun v0=>em 6 rows (.loadN 2 (.c v0)) fun v1=>bnd (opC F (rows++Ai 0 rn) (rows.length+rn.length) [(.int .i64 1)] [] (.func 63 [])) fun q2=>q2.2.2=rows.length+rn.length/\bnd (some (rn++List.map (fun(x:Row)=>(4,x)) (q2.2.1.drop (rows.length+rn.length)))) fun e2=>bnd (opC F (rows++Ai 30 e2) (rows.length+e2.length) [v1,q2.1] [] (.func 97 [])) fun q3=>q3.2.2=rows.length+e2.length/\bnd (some (e2++List.map (fun(x:Row)=>(5,x)) (q3.2.1.drop (rows.length+e2.length)))) fun e3=>bnd (evP (rows++List.map (fun(x:Nat×Row)=>x.2) e3) (.idxA 11 2 (cl l 9) (cl l 8))) fun v4=>bnd (evE (rows++List.map (fun(x:Nat×Row)=>x.2) e3) low (.storeN 2 (.c v4) (.c q3.1))) fun q5=>Y0 F cx k r q5.2.1 q5.2.2 119 ([(51,v4),(50,q3.1),(49,q2.1),(48,v1),(47,v0),(46,lk l 8),(45,lk l 8)]++kp l Ie):=rg
@[simp] theorem uc70s45:U c70s45 (.cond (.t 44) (.seq c70k44 c70k43) .skip):=ur
@[simp] theorem uc70k46:X0 F cx k l rows low r 119 c70k46↔eb rows (.idxA 2 1 (cl l 11) (cl l 12)) fun v0=>eb rows (.load1 (.c v0)) fun v1=>eb rows (.bin .eql (.c v1) (cl l 8)) fun v2=>Y0 F cx k r rows low 119 ([(44,v2),(43,lk l 8),(42,v1),(41,v0),(40,lk l 12)]++kp l Ie):=rg
@[simp] theorem uc70s47:U c70s47 (.seq c70k46 c70s45):=ur
@[simp] theorem uc70k48:X0 F cx k l rows low r 119 c70k48↔Y0 F cx k r rows low 119 ([(12,lk l 37),(39,lk l 37)]++kp l Gt):=rg
@[simp] theorem uc70s49:U c70s49 (.seq (.block 5 (.seq c70k48 c70s47)) c70k42):=ur
@[simp] theorem uc70s50:U c70s50 (.seq (.cond (.t 38) .skip (.exit 4)) c70s49):=ur
@[simp] theorem uc70k51:X0 F cx k l rows low r 119 c70k51↔eb rows (.bin .lss (cl l 37) (ci 2)) fun v0=>Y0 F cx k r rows low 119 ([(38,v0)]++kp l Gt):=rg
@[simp] theorem uc70s52:U c70s52 (.block 4 (.loop c70l41)):=ur
@[simp] theorem uc70k53:X0 F cx k l rows low r 119 c70k53↔Y0 F cx k r rows low 119 ([(37,(.int .i64 0))]++kp l Vr):=rg
@[simp] theorem uc70s54:U c70s54 (.seq c70k53 c70s52):=ur
@[simp] theorem uc70k55:X0 F cx k l rows low r 119 c70k55↔eb rows (.idxS 2 (cl l 31) (cl l 33)) fun v0=>eb rows (.loadN 2 (.c v0)) fun v1=>bnd (evE rows low (.box (.c (.agg [.int .i64 0,.int .i64 0])))) fun q2=>bnd (evE q2.2.1 q2.2.2 (.storeN 2 (.c q2.1) (.c v1))) fun q3=>Y0 F cx k r q3.2.1 q3.2.2 119 ([(11,q2.1),(36,v1),(35,v0)]++kp l Gb):=rg
@[simp] theorem uc70s56:U c70s56 (.seq (.block 3 (.seq c70k55 c70s54)) c70k40):=ur
@[simp] theorem uc70s57:U c70s57 (.seq (.cond (.t 34) .skip (.exit 2)) c70s56):=ur
@[simp] theorem uc70k58:X0 F cx k l rows low r 119 c70k58↔eb rows (.bin .lss (cl l 33) (cl l 32)) fun v0=>Y0 F cx k r rows low 119 ([(34,v0)]++kp l Gb):=rg
@[simp] theorem uc70s59:U c70s59 (.block 2 (.loop c70l39)):=ur
@[simp] theorem uc70k60:X0 F cx k l rows low r 119 c70k60↔eb rows (.fieldA 1 (cl l 2)) fun v0=>eb rows (.load1 (.c v0)) fun v1=>eb rows (.len 0 (.c v1)) fun v2=>Y0 F cx k r rows low 119 ([(33,(.int .i64 0)),(32,v2),(31,v1),(30,v0)]++kp l M2):=rg
@[simp] theorem uc70s61:U c70s61 (.seq (.seq c70k60 c70s59) c70s38):=ur
@[simp] theorem uc70k62:X0 F cx k l rows low r 119 c70k62↔bnd (Ret F 96 [] rows) fun q0=>bnd (evE q0.2.1 (AC low q0.2.2) (.box (.c (.agg (List.replicate 22 (.int .i64 0)))))) fun q1=>bnd (evE q1.2.1 q1.2.2 (.storeN 22 (.c q1.1) (.c q0.1))) fun q2=>Y0 F cx k r q2.2.1 q2.2.2 119 ([(9,q1.1),(29,q0.1)]++kp l Ux):=rg
@[simp] theorem uc70s63:U c70s63 (.seq c70k62 c70s61):=ur
@[simp] theorem uc70k64:X0 F cx k l rows low r 119 c70k64↔Y0 F cx k r rows low 119 ([(8,lk l 26),(28,lk l 26)]++kp l F4):=rg
@[simp] theorem uc70s65:U c70s65 (.seq (.block 1 (.seq c70k64 c70s63)) c70k35):=ur
@[simp] theorem uc70s66:U c70s66 (.seq (.cond (.t 27) .skip (.exit 0)) c70s65):=ur
@[simp] theorem uc70k67:X0 F cx k l rows low r 119 c70k67↔eb rows (.bin .lss (cl l 26) (cl l 25)) fun v0=>Y0 F cx k r rows low 119 ([(27,v0)]++kp l F4):=rg
@[simp] theorem uc70s68:U c70s68 (.block 0 (.loop c70l34)):=ur
@[simp] theorem uc70k69:X0 F cx k l rows low r 119 c70k69↔eb rows (.fieldA 0 (cl l 2)) fun v0=>eb rows (.load1 (.c v0)) fun v1=>Y0 F cx k r rows low 119 ([(26,(.int .i64 0)),(25,v1),(24,v0)]++kp l UP):=rg
@[simp] theorem uc70s70:U c70s70 (.seq (.seq c70k69 c70s68) c70s33):=ur
@[simp] theorem uc70k71:X0 F cx k l rows low r 119 c70k71↔eb rows (.loadN 3 (cl l 2)) fun v0=>bnd (Ret F 22 [v0,lk l 1] rows) fun q1=>bnd (evP q1.2.1 (.ext (.c q1.1) 0)) fun v2=>bnd (evP q1.2.1 (.ext (.c q1.1) 1)) fun v3=>Y0 F cx k r q1.2.1 (AC low q1.2.2) 119 ([(7,v3),(6,v2),(23,v3),(22,v2),(18,q1.1),(21,q1.1),(20,lk l 1),(19,v0)]++kp l Mb):=rg
@[simp] theorem uc70s72:U c70s72 (.seq c70k71 c70s70):=ur
@[simp] theorem uc70k73:X0 F cx k l rows low r 119 c70k73↔Y0 F cx k r rows low 119 [(5,.nilslice),(1,lk l 1),(2,lk l 2)]:=rg
@[simp] theorem uc70s74:U c70s74 (.seq c70k73 c70s72):=ur
@[simp] theorem uc70k75:X0 F cx k l rows low r 119 c70k75↔bnd (evE rows low (.box (cl l 0))) fun q0=>Y0 F cx k r q0.2.1 q0.2.2 119 [(4,.nilslice),(2,q0.1),(0,lk l 0),(1,lk l 1)]:=rg
@[simp] abbrev Kc70l2:List Itm:=.inLoop c70l2::.inBlock 6::.code c70s1::[]
@[simp] abbrev Kc70l5:List Itm:=.inLoop c70l5::.inBlock 8::.code c70k4::.inBlock 7::.code c70k3::Kc70l2
def Lc70l5(F:Nat->Option IFn)(cx:Ctx)(x2 x5 x14 x15 x16 x86 x87 x97 x98:AV)(rows:List Row)(low:Nat)(r:AV×List Row×Nat->Prop):Prop:=Ex F cx (.code c70l5::Kc70l5) ⟨mk 119 [(2,x2),(5,x5),(14,x14),(15,x15),(16,x16),(86,x86),(87,x87),(97,x97),(98,x98)],rows,low⟩ r
@[simp] theorem nc70l5:Ex F cx (Kc70l5) ⟨mk 119 l,rows,low⟩ r↔Lc70l5 F cx (lk l 2) (lk l 5) (lk l 14) (lk l 15) (lk l 16) (lk l 86) (lk l 87) (lk l 97) (lk l 98) rows low r:=AA (keep:=F3) (by kernel_rfl)
@[simp] theorem uc70l5:U c70l5 (.seq c70k14 c70s13):=ur
def Lc70l2(F:Nat->Option IFn)(cx:Ctx)(x2 x5 x14 x86 x87:AV)(rows:List Row)(low:Nat)(r:AV×List Row×Nat->Prop):Prop:=Ex F cx (.code c70l2::Kc70l2) ⟨mk 119 [(2,x2),(5,x5),(14,x14),(86,x86),(87,x87)],rows,low⟩ r
@[simp] theorem nc70l2:Ex F cx (Kc70l2) ⟨mk 119 l,rows,low⟩ r↔Lc70l2 F cx (lk l 2) (lk l 5) (lk l 14) (lk l 86) (lk l 87) rows low r:=AA (keep:=Gk) (by kernel_rfl)
@[simp] theorem uc70l2:U c70l2 (.seq c70k26 c70s25):=ur
@[simp] abbrev Kc70l34:List Itm:=.inLoop c70l34::.inBlock 0::.code c70s33::[]
@[simp] abbrev Kc70l39:List Itm:=.inLoop c70l39::.inBlock 2::.code c70s38::.inBlock 1::.code c70k35::Kc70l34
@[simp] abbrev Kc70l41:List Itm:=.inLoop c70l41::.inBlock 4::.inBlock 3::.code c70k40::Kc70l39
def Lc70l41(F:Nat->Option IFn)(cx:Ctx)(x2 x5 x6 x8 x9 x11 x25 x26 x31 x32 x33 x37:AV)(rows:List Row)(low:Nat)(r:AV×List Row×Nat->Prop):Prop:=Ex F cx (.code c70l41::Kc70l41) ⟨mk 119 [(2,x2),(5,x5),(6,x6),(8,x8),(9,x9),(11,x11),(25,x25),(26,x26),(31,x31),(32,x32),(33,x33),(37,x37)],rows,low⟩ r
@[simp] theorem nc70l41:Ex F cx (Kc70l41) ⟨mk 119 l,rows,low⟩ r↔Lc70l41 F cx (lk l 2) (lk l 5) (lk l 6) (lk l 8) (lk l 9) (lk l 11) (lk l 25) (lk l 26) (lk l 31) (lk l 32) (lk l 33) (lk l 37) rows low r:=AA (keep:=Gt) (by kernel_rfl)
@[simp] theorem uc70l41:U c70l41 (.seq c70k51 c70s50):=ur
def Lc70l39(F:Nat->Option IFn)(cx:Ctx)(x2 x5 x6 x8 x9 x25 x26 x31 x32 x33:AV)(rows:List Row)(low:Nat)(r:AV×List Row×Nat->Prop):Prop:=Ex F cx (.code c70l39::Kc70l39) ⟨mk 119 [(2,x2),(5,x5),(6,x6),(8,x8),(9,x9),(25,x25),(26,x26),(31,x31),(32,x32),(33,x33)],rows,low⟩ r
@[simp] theorem nc70l39:Ex F cx (Kc70l39) ⟨mk 119 l,rows,low⟩ r↔Lc70l39 F cx (lk l 2) (lk l 5) (lk l 6) (lk l 8) (lk l 9) (lk l 25) (lk l 26) (lk l 31) (lk l 32) (lk l 33) rows low r:=AA (keep:=Gb) (by kernel_rfl)
@[simp] theorem uc70l39:U c70l39 (.seq c70k58 c70s57):=ur
def Lc70l34(F:Nat->Option IFn)(cx:Ctx)(x2 x5 x6 x25 x26:AV)(rows:List Row)(low:Nat)(r:AV×List Row×Nat->Prop):Prop:=Ex F cx (.code c70l34::Kc70l34) ⟨mk 119 [(2,x2),(5,x5),(6,x6),(25,x25),(26,x26)],rows,low⟩ r
@[simp] theorem nc70l34:Ex F cx (Kc70l34) ⟨mk 119 l,rows,low⟩ r↔Lc70l34 F cx (lk l 2) (lk l 5) (lk l 6) (lk l 25) (lk l 26) rows low r:=AA (keep:=F4) (by kernel_rfl)
@[simp] theorem uc70l34:U c70l34 (.seq c70k67 c70s66):=ur
@[simp] theorem uc70b:U c70b (.seq c70k75 c70s74):=ur
theorem i70{x0 x1:AV}(hF:F 70=some c70){q:AV×List Row×Option Nat}(h:Ex F (.fn [.t 4]) [.code c70b] ⟨mk 119 [(0,x0),(1,x1)],rows,rows.length⟩ fun r=>fin rows r.1 r.2.1 r.2.2=q):Ret F 70 [x0,x1] rows=some q:=Av hF h
@[simp] theorem uc72k0:X0 F cx k l rows low r 15 c72k0↔eb rows (.un .neg (cl l 0)) fun v0=>eb rows (.mx [(cl l 0),(.c v0),(ci 1)]) fun v1=>Y0 F cx k r rows low 15 [(4,v1),(14,v1),(13,v0),(12,lk l 0),(11,lk l 0),(0,lk l 0)]:=rg
@[simp] theorem uc72s1:U c72s1 (.seq c72k0 .ret):=ur
@[simp] theorem uc72k3:X0 F cx k l rows low r 15 c72k3↔eb rows (.bin .rem (cl l 0) (cl l 1)) fun v0=>Y0 F cx k r rows low 15 [(1,v0),(0,lk l 1),(10,v0),(9,lk l 1),(8,lk l 0),(7,lk l 1),(0,lk l 0),(1,lk l 1)]:=rg
@[simp] theorem uc72s4:U c72s4 (.block 1 c72k3):=ur
@[simp] theorem uc72s5:U c72s5 (.cond (.t 6) .skip (.exit 0)):=ur
@[simp] theorem uc72k6:X0 F cx k l rows low r 15 c72k6↔eb rows (.bin .neq (cl l 1) (ci 0)) fun v0=>Y0 F cx k r rows low 15 [(6,v0),(5,lk l 1),(0,lk l 0),(1,lk l 1)]:=rg
@[simp] theorem uc72s7:U c72s7 (.seq (.block 0 (.loop c72l2)) c72s1):=ur
@[simp] theorem uc72k8:X0 F cx k l rows low r 15 c72k8↔Y0 F cx k r rows low 15 [(4,(.int .i64 0)),(0,lk l 0),(1,lk l 1)]:=rg
@[simp] abbrev Kc72l2:List Itm:=.inLoop c72l2::.inBlock 0::.code c72s1::[]
def Lc72l2(F:Nat->Option IFn)(cx:Ctx)(x0 x1:AV)(rows:List Row)(low:Nat)(r:AV×List Row×Nat->Prop):Prop:=Ex F cx (.code c72l2::Kc72l2) ⟨mk 15 [(0,x0),(1,x1)],rows,low⟩ r
@[simp] theorem nc72l2:Ex F cx (Kc72l2) ⟨mk 15 l,rows,low⟩ r↔Lc72l2 F cx (lk l 0) (lk l 1) rows low r:=AA (keep:=Az) (by kernel_rfl)
@[simp] theorem uc72l2:U c72l2 (.seq (.seq c72k6 c72s5) c72s4):=ur
@[simp] theorem uc72b:U c72b (.seq c72k8 c72s7):=ur
theorem i72{x0 x1:AV}(hF:F 72=some c72){q:AV×List Row×Option Nat}(h:Ex F (.fn [.t 4]) [.code c72b] ⟨mk 15 [(0,x0),(1,x1)],rows,rows.length⟩ fun r=>fin rows r.1 r.2.1 r.2.2=q):Ret F 72 [x0,x1] rows=some q:=Av hF h
@[simp] theorem uc73k0:X0 F cx k l rows low r 22 c73k0↔eb rows (.bin .quo (cl l 0) (cl l 5)) fun v0=>eb rows (.bin .quo (cl l 1) (cl l 5)) fun v1=>eb rows (.mkagg [.int .i64 0,.int .i64 0] [(0,1,(.c v0)),(1,1,(.c v1))]) fun v2=>bnd (evE rows low (.storeN 2 (cl l 4) (.c v2))) fun q3=>Y0 F cx k r q3.2.1 q3.2.2 22 ([(21,v2),(20,v1),(19,lk l 5),(18,lk l 1),(17,v0),(16,lk l 5),(15,lk l 0)]++kp l qq4):=rg
@[simp] theorem uc73s1:U c73s1 (.seq c73k0 .ret):=ur
@[simp] theorem uc73k2:X0 F cx k l rows low r 22 c73k2↔bnd (Ret F 72 [lk l 0,lk l 1] rows) fun q0=>Y0 F cx k r q0.2.1 (AC low q0.2.2) 22 ([(5,q0.1),(14,q0.1),(13,lk l 1),(12,lk l 0)]++kp l qq5):=rg
@[simp] theorem uc73s3:U c73s3 (.seq c73k2 c73s1):=ur
@[simp] theorem uc73k4:X0 F cx k l rows low r 22 c73k4↔eb rows (.un .neg (cl l 0)) fun v0=>eb rows (.un .neg (cl l 1)) fun v1=>Y0 F cx k r rows low 22 ([(1,v1),(0,v0),(11,v1),(10,lk l 1),(9,v0),(8,lk l 0)]++kp l qq5):=rg
@[simp] theorem uc73s5:U c73s5 (.cond (.t 7) c73k4 .skip):=ur
@[simp] theorem uc73k6:X0 F cx k l rows low r 22 c73k6↔eb rows (.bin .lss (cl l 1) (ci 0)) fun v0=>Y0 F cx k r rows low 22 ([(7,v0),(6,lk l 1)]++kp l qq5):=rg
@[simp] theorem uc73s7:U c73s7 (.seq (.seq c73k6 c73s5) c73s3):=ur
@[simp] theorem uc73k8:X0 F cx k l rows low r 22 c73k8↔bnd (evE rows low (.box (.c (.agg [.int .i64 0,.int .i64 0])))) fun q0=>Y0 F cx k r q0.2.1 q0.2.2 22 [(4,q0.1),(0,lk l 0),(1,lk l 1)]:=rg
@[simp] theorem uc73b:U c73b (.seq c73k8 c73s7):=ur
theorem i73{x0 x1:AV}(hF:F 73=some c73){q:AV×List Row×Option Nat}(h:Ex F (.fn [.cellN 4 2]) [.code c73b] ⟨mk 22 [(0,x0),(1,x1)],rows,rows.length⟩ fun r=>fin rows r.1 r.2.1 r.2.2=q):Ret F 73 [x0,x1] rows=some q:=Av hF h
@[simp] theorem uc95k0:X0 F cx k l rows low r 13 c95k0↔eb rows (.loadN 2 (cl l 2)) fun v0=>eb rows (.fieldA 0 (cl l 3)) fun v1=>eb rows (.load1 (.c v1)) fun v2=>eb rows (.un .neg (.c v2)) fun v3=>eb rows (.fieldA 1 (cl l 3)) fun v4=>eb rows (.load1 (.c v4)) fun v5=>eb rows (.mkagg [.int .i64 0,.int .i64 0] [(0,1,(.c v3)),(1,1,(.c v5))]) fun v6=>bnd (Ret F 97 [v0,v6] rows) fun q7=>bnd (evE q7.2.1 (AC low q7.2.2) (.storeN 2 (cl l 4) (.c q7.1))) fun q8=>Y0 F cx k r q8.2.1 q8.2.2 13 ([(12,q7.1),(11,v6),(10,v5),(9,v4),(8,v3),(7,v2),(6,v1),(5,v0)]++kp l Bm):=rg
@[simp] theorem uc95s1:U c95s1 (.seq c95k0 .ret):=ur
@[simp] theorem uc95k2:X0 F cx k l rows low r 13 c95k2↔bnd (evE rows low (.box (cl l 0))) fun q0=>bnd (evE q0.2.1 q0.2.2 (.box (cl l 1))) fun q1=>bnd (evE q1.2.1 q1.2.2 (.box (.c (.agg [.int .i64 0,.int .i64 0])))) fun q2=>Y0 F cx k r q2.2.1 q2.2.2 13 [(4,q2.1),(3,q1.1),(2,q0.1),(0,lk l 0),(1,lk l 1)]:=rg
@[simp] theorem uc95b:U c95b (.seq c95k2 c95s1):=ur
theorem i95{x0 x1:AV}(hF:F 95=some c95){q:AV×List Row×Option Nat}(h:Ex F (.fn [.cellN 4 2]) [.code c95b] ⟨mk 13 [(0,x0),(1,x1)],rows,rows.length⟩ fun r=>fin rows r.1 r.2.1 r.2.2=q):Ret F 95 [x0,x1] rows=some q:=Av hF h
@[simp] theorem uc96k0:X0 F cx k l rows low r 11 c96k0↔eb rows (.loadN 22 (cl l 1)) fun v0=>bnd (evE rows low (.storeN 22 (cl l 0) (.c v0))) fun q1=>Y0 F cx k r q1.2.1 q1.2.2 11 [(10,v0),(0,lk l 0),(1,lk l 1)]:=rg
@[simp] theorem uc96s1:U c96s1 (.seq c96k0 .ret):=ur
@[simp] theorem uc96k3:X0 F cx k l rows low r 11 c96k3↔eb rows (.bin .add (cl l 3) (ci 1)) fun v0=>Y0 F cx k r rows low 11 ([(3,v0),(9,v0)]++kp l qq2):=rg
@[simp] theorem uc96k4:X0 F cx k l rows low r 11 c96k4↔eb rows (.loadN 2 (.c (.ptr 0 0))) fun v0=>eb rows (.idxA 11 2 (cl l 1) (cl l 2)) fun v1=>bnd (evE rows low (.storeN 2 (.c v1) (.c v0))) fun q2=>Y0 F cx k r q2.2.1 q2.2.2 11 ([(8,v1),(7,v0),(6,lk l 2)]++kp l qq0):=rg
@[simp] theorem uc96k5:X0 F cx k l rows low r 11 c96k5↔Y0 F cx k r rows low 11 ([(2,lk l 3),(5,lk l 3)]++kp l qq2):=rg
@[simp] theorem uc96s6:U c96s6 (.seq (.block 1 (.seq c96k5 c96k4)) c96k3):=ur
@[simp] theorem uc96s7:U c96s7 (.seq (.cond (.t 4) .skip (.exit 0)) c96s6):=ur
@[simp] theorem uc96k8:X0 F cx k l rows low r 11 c96k8↔eb rows (.bin .lss (cl l 3) (ci 11)) fun v0=>Y0 F cx k r rows low 11 ([(4,v0)]++kp l qq2):=rg
@[simp] theorem uc96s9:U c96s9 (.block 0 (.loop c96l2)):=ur
@[simp] theorem uc96k10:X0 F cx k l rows low r 11 c96k10↔Y0 F cx k r rows low 11 [(3,(.int .i64 0)),(0,lk l 0),(1,lk l 1)]:=rg
@[simp] theorem uc96s11:U c96s11 (.seq (.seq c96k10 c96s9) c96s1):=ur
@[simp] theorem uc96k12:X0 F cx k l rows low r 11 c96k12↔bnd (evE rows low (.box (.c (.agg (List.replicate 22 (.int .i64 0)))))) fun q0=>Y0 F cx k r q0.2.1 q0.2.2 11 [(1,q0.1),(0,lk l 0)]:=rg
@[simp] theorem uc96s13:U c96s13 (.seq c96k12 c96s11):=ur
@[simp] theorem uc96k14:X0 F cx k l rows low r 11 c96k14↔bnd (evE rows low (.box (.c (.agg (List.replicate 22 (.int .i64 0)))))) fun q0=>Y0 F cx k r q0.2.1 q0.2.2 11 [(0,q0.1)]:=rg
@[simp] abbrev Kc96l2:List Itm:=.inLoop c96l2::.inBlock 0::.code c96s1::[]
def Lc96l2(F:Nat->Option IFn)(cx:Ctx)(x0 x1 x3:AV)(rows:List Row)(low:Nat)(r:AV×List Row×Nat->Prop):Prop:=Ex F cx (.code c96l2::Kc96l2) ⟨mk 11 [(0,x0),(1,x1),(3,x3)],rows,low⟩ r
@[simp] theorem nc96l2:Ex F cx (Kc96l2) ⟨mk 11 l,rows,low⟩ r↔Lc96l2 F cx (lk l 0) (lk l 1) (lk l 3) rows low r:=AA (keep:=qq2) (by kernel_rfl)
@[simp] theorem uc96l2:U c96l2 (.seq c96k8 c96s7):=ur
@[simp] theorem uc96b:U c96b (.seq c96k14 c96s13):=ur
theorem i96(hF:F 96=some c96){q:AV×List Row×Option Nat}(h:Ex F (.fn [.cellN 0 22]) [.code c96b] ⟨mk 11 [],rows,rows.length⟩ fun r=>fin rows r.1 r.2.1 r.2.2=q):Ret F 96 [] rows=some q:=Av hF h
@[simp] theorem uc97k0:X0 F cx k l rows low r 28 c97k0↔eb rows (.fieldA 0 (cl l 2)) fun v0=>eb rows (.load1 (.c v0)) fun v1=>eb rows (.fieldA 1 (cl l 5)) fun v2=>eb rows (.load1 (.c v2)) fun v3=>eb rows (.bin .mul (.c v1) (.c v3)) fun v4=>eb rows (.fieldA 0 (cl l 3)) fun v5=>eb rows (.load1 (.c v5)) fun v6=>eb rows (.fieldA 0 (cl l 5)) fun v7=>eb rows (.load1 (.c v7)) fun v8=>eb rows (.bin .mul (.c v6) (.c v8)) fun v9=>eb rows (.bin .add (.c v4) (.c v9)) fun v10=>eb rows (.fieldA 1 (cl l 2)) fun v11=>eb rows (.load1 (.c v11)) fun v12=>eb rows (.fieldA 1 (cl l 5)) fun v13=>eb rows (.load1 (.c v13)) fun v14=>eb rows (.bin .mul (.c v12) (.c v14)) fun v15=>bnd (Ret F 106 [v10,v15] rows) fun q16=>bnd (evE q16.2.1 (AC low q16.2.2) (.storeN 2 (cl l 4) (.c q16.1))) fun q17=>Y0 F cx k r q17.2.1 q17.2.2 28 ([(27,q16.1),(26,v15),(25,v14),(24,v13),(23,v12),(22,v11),(21,v10),(20,v9),(19,v8),(18,v7),(17,v6),(16,v5),(15,v4),(14,v3),(13,v2),(12,v1),(11,v0)]++kp l EM):=rg
@[simp] theorem uc97s1:U c97s1 (.seq c97k0 .ret):=ur
@[simp] theorem uc97k2:X0 F cx k l rows low r 28 c97k2↔eb rows (.fieldA 1 (cl l 2)) fun v0=>eb rows (.load1 (.c v0)) fun v1=>eb rows (.fieldA 1 (cl l 3)) fun v2=>eb rows (.load1 (.c v2)) fun v3=>bnd (Ret F 106 [v1,v3] rows) fun q4=>bnd (evE q4.2.1 (AC low q4.2.2) (.box (.c (.agg [.int .i64 0,.int .i64 0])))) fun q5=>bnd (evE q5.2.1 q5.2.2 (.storeN 2 (.c q5.1) (.c q4.1))) fun q6=>Y0 F cx k r q6.2.1 q6.2.2 28 ([(5,q5.1),(10,q4.1),(9,v3),(8,v2),(7,v1),(6,v0)]++kp l Bm):=rg
@[simp] theorem uc97s3:U c97s3 (.seq c97k2 c97s1):=ur
@[simp] theorem uc97k4:X0 F cx k l rows low r 28 c97k4↔bnd (evE rows low (.box (cl l 0))) fun q0=>bnd (evE q0.2.1 q0.2.2 (.box (cl l 1))) fun q1=>bnd (evE q1.2.1 q1.2.2 (.box (.c (.agg [.int .i64 0,.int .i64 0])))) fun q2=>Y0 F cx k r q2.2.1 q2.2.2 28 [(4,q2.1),(3,q1.1),(2,q0.1),(0,lk l 0),(1,lk l 1)]:=rg
@[simp] theorem uc97b:U c97b (.seq c97k4 c97s3):=ur
theorem i97{x0 x1:AV}(hF:F 97=some c97){q:AV×List Row×Option Nat}(h:Ex F (.fn [.cellN 4 2]) [.code c97b] ⟨mk 28 [(0,x0),(1,x1)],rows,rows.length⟩ fun r=>fin rows r.1 r.2.1 r.2.2=q):Ret F 97 [x0,x1] rows=some q:=Av hF h
@[simp] theorem uc98k0:X0 F cx k l rows low r 69 c98k0↔Y0 F cx k r rows low 69 [(4,lk l 7),(68,lk l 7),(7,lk l 7)]:=rg
@[simp] theorem uc98s1:U c98s1 (.seq c98k0 .ret):=ur
@[simp] theorem uc98k3:X0 F cx k l rows low r 69 c98k3↔eb rows (.bin .add (cl l 50) (ci 1)) fun v0=>Y0 F cx k r rows low 69 ([(50,v0),(67,v0)]++kp l Gr):=rg
@[simp] theorem uc98k4:X0 F cx k l rows low r 69 c98k4↔eb rows (.idxS 1 (cl l 5) (cl l 9)) fun v0=>eb rows (.load1 (.c v0)) fun v1=>eb rows (.idxS 2 (.c v1) (cl l 1)) fun v2=>eb rows (.loadN 2 (.c v2)) fun v3=>eb rows (.idxS 2 (cl l 7) (cl l 10)) fun v4=>bnd (evE rows low (.storeN 2 (.c v4) (.c v3))) fun q5=>Y0 F cx k r q5.2.1 q5.2.2 69 ([(66,v4),(65,v3),(64,v2),(63,lk l 1),(62,v1),(61,v0),(60,lk l 9),(59,lk l 5),(58,lk l 10),(57,lk l 7)]++kp l ML):=rg
@[simp] theorem uc98s5:U c98s5 (.cond (.t 56) c98k4 .skip):=ur
@[simp] theorem uc98k6:X0 F cx k l rows low r 69 c98k6↔eb rows (.bin .geq (cl l 10) (ci 0)) fun v0=>Y0 F cx k r rows low 69 ([(56,v0),(55,lk l 10)]++kp l ML):=rg
@[simp] theorem uc98s7:U c98s7 (.seq c98k6 c98s5):=ur
@[simp] theorem uc98k8:X0 F cx k l rows low r 69 c98k8↔eb rows (.idxS 1 (cl l 48) (cl l 50)) fun v0=>eb rows (.load1 (.c v0)) fun v1=>Y0 F cx k r rows low 69 ([(10,v1),(9,lk l 50),(54,v1),(53,v0),(52,lk l 50)]++kp l Gr):=rg
@[simp] theorem uc98s9:U c98s9 (.seq (.block 5 (.seq c98k8 c98s7)) c98k3):=ur
@[simp] theorem uc98s10:U c98s10 (.seq (.cond (.t 51) .skip (.exit 4)) c98s9):=ur
@[simp] theorem uc98k11:X0 F cx k l rows low r 69 c98k11↔eb rows (.bin .lss (cl l 50) (cl l 49)) fun v0=>Y0 F cx k r rows low 69 ([(51,v0)]++kp l Gr):=rg
@[simp] theorem uc98s12:U c98s12 (.block 4 (.loop c98l2)):=ur
@[simp] theorem uc98k13:X0 F cx k l rows low r 69 c98k13↔eb rows (.loadN 2 (.c (.ptr 0 0))) fun v0=>bnd (Ret F 64 [lk l 5,lk l 1,v0] rows) fun q1=>bnd (evP q1.2.1 (.len 0 (.c q1.1))) fun v2=>Y0 F cx k r q1.2.1 (AC low q1.2.2) 69 ([(50,(.int .i64 0)),(49,v2),(48,q1.1),(47,v0),(46,lk l 1),(45,lk l 5)]++kp l LY):=rg
@[simp] theorem uc98s14:U c98s14 (.seq (.seq c98k13 c98s12) c98s1):=ur
@[simp] theorem uc98k16:X0 F cx k l rows low r 69 c98k16↔eb rows (.bin .add (cl l 37) (ci 1)) fun v0=>Y0 F cx k r rows low 69 ([(37,v0),(44,v0)]++kp l Gi):=rg
@[simp] theorem uc98k17:X0 F cx k l rows low r 69 c98k17↔eb rows (.loadN 2 (.c (.ptr 0 0))) fun v0=>eb rows (.idxS 2 (cl l 7) (cl l 8)) fun v1=>bnd (evE rows low (.storeN 2 (.c v1) (.c v0))) fun q2=>Y0 F cx k r q2.2.1 q2.2.2 69 ([(43,v1),(42,v0),(41,lk l 8),(40,lk l 7)]++kp l Vy):=rg
@[simp] theorem uc98k18:X0 F cx k l rows low r 69 c98k18↔Y0 F cx k r rows low 69 ([(8,lk l 37),(39,lk l 37)]++kp l Gi):=rg
@[simp] theorem uc98s19:U c98s19 (.seq (.block 3 (.seq c98k18 c98k17)) c98k16):=ur
@[simp] theorem uc98s20:U c98s20 (.seq (.cond (.t 38) .skip (.exit 2)) c98s19):=ur
@[simp] theorem uc98k21:X0 F cx k l rows low r 69 c98k21↔eb rows (.bin .lss (cl l 37) (cl l 36)) fun v0=>Y0 F cx k r rows low 69 ([(38,v0)]++kp l Gi):=rg
@[simp] theorem uc98s22:U c98s22 (.block 2 (.loop c98l15)):=ur
@[simp] theorem uc98k23:X0 F cx k l rows low r 69 c98k23↔eb rows (.len 0 (cl l 7)) fun v0=>Y0 F cx k r rows low 69 ([(37,(.int .i64 0)),(36,v0),(35,lk l 7)]++kp l LY):=rg
@[simp] theorem uc98s24:U c98s24 (.seq (.seq c98k23 c98s22) c98s14):=ur
@[simp] theorem uc98k25:X0 F cx k l rows low r 69 c98k25↔bnd (evE rows low (.make [.int .i64 0,.int .i64 0] 16 (cl l 1) (cl l 1))) fun q0=>Y0 F cx k r q0.2.1 q0.2.2 69 [(7,q0.1),(34,q0.1),(33,lk l 1),(1,lk l 1),(5,lk l 5)]:=rg
@[simp] theorem uc98s26:U c98s26 (.seq c98k25 c98s24):=ur
@[simp] theorem uc98k28:X0 F cx k l rows low r 69 c98k28↔eb rows (.bin .add (cl l 13) (ci 1)) fun v0=>Y0 F cx k r rows low 69 ([(13,v0),(32,v0)]++kp l qq6):=rg
@[simp] theorem uc98k29:X0 F cx k l rows low r 69 c98k29↔em 6 rows (.idxS 22 (cl l 0) (cl l 6)) fun v0=>em 62 rows (.sliceA 11 2 (.c v0) none (some (cl l 1)) (some (cl l 1))) fun v1=>em 384 rows (.idxS 22 (cl l 0) (cl l 6)) fun v2=>em 896 rows (.idxA 11 2 (.c v2) (ci 10)) fun v3=>em 1920 rows (.loadN 2 (.c v3)) fun v4=>bnd (evE (rows++Ai 3968 rn) (rows.length+rn.length) (.mkslice 1 [.int .i64 0,.int .i64 0] [(0,2,(.c v4))])) fun q5=>q5.2.2=rows.length+rn.length/\bnd (some (rn++List.map (fun(x:Row)=>(12,x)) (q5.2.1.drop (rows.length+rn.length)))) fun e5=>bnd (evE (rows++Ai 8190 e5) (rows.length+e5.length) (.app 2 16 (.c v1) (.c q5.1))) fun q6=>q6.2.2=rows.length+e5.length/\bnd (some (e5++List.map (fun(x:Row)=>(13,x)) (q6.2.1.drop (rows.length+e5.length)))) fun e6=>bnd (evE (rows++Ai 16382 e6) (rows.length+e6.length) (.mkslice 1 [.nilslice] [(0,1,(.c q6.1))])) fun q7=>q7.2.2=rows.length+e6.length/\bnd (some (e6++List.map (fun(x:Row)=>(14,x)) (q7.2.1.drop (rows.length+e6.length)))) fun e7=>bnd (evE (rows++List.map (fun(x:Nat×Row)=>x.2) e7) low (.app 1 24 (cl l 5) (.c q7.1))) fun q8=>Y0 F cx k r q8.2.1 q8.2.2 69 ([(5,q8.1),(31,q8.1),(30,q7.1),(29,q6.1),(28,q5.1),(27,v4),(26,v3),(25,v2),(24,lk l 6),(23,lk l 0),(22,v1),(21,lk l 1),(20,lk l 1),(19,v0),(18,lk l 6),(17,lk l 0),(16,lk l 5)]++kp l qq7):=rg
@[simp] theorem uc98k30:X0 F cx k l rows low r 69 c98k30↔Y0 F cx k r rows low 69 ([(6,lk l 13),(15,lk l 13)]++kp l qq6):=rg
@[simp] theorem uc98s31:U c98s31 (.seq (.block 1 (.seq c98k30 c98k29)) c98k28):=ur
@[simp] theorem uc98s32:U c98s32 (.seq (.cond (.t 14) .skip (.exit 0)) c98s31):=ur
@[simp] theorem uc98k33:X0 F cx k l rows low r 69 c98k33↔eb rows (.bin .lss (cl l 13) (cl l 12)) fun v0=>Y0 F cx k r rows low 69 ([(14,v0)]++kp l qq6):=rg
@[simp] theorem uc98s34:U c98s34 (.block 0 (.loop c98l27)):=ur
@[simp] theorem uc98k35:X0 F cx k l rows low r 69 c98k35↔eb rows (.len 0 (cl l 0)) fun v0=>Y0 F cx k r rows low 69 ([(13,(.int .i64 0)),(12,v0),(11,lk l 0)]++kp l Cw):=rg
@[simp] theorem uc98s36:U c98s36 (.seq (.seq c98k35 c98s34) c98s26):=ur
@[simp] theorem uc98k37:X0 F cx k l rows low r 69 c98k37↔Y0 F cx k r rows low 69 [(5,.nilslice),(0,lk l 0),(1,lk l 1)]:=rg
@[simp] theorem uc98s38:U c98s38 (.seq c98k37 c98s36):=ur
@[simp] theorem uc98k39:X0 F cx k l rows low r 69 c98k39↔Y0 F cx k r rows low 69 [(4,.nilslice),(0,lk l 0),(1,lk l 1)]:=rg
@[simp] abbrev Kc98l2:List Itm:=.inLoop c98l2::.inBlock 4::.code c98s1::[]
def Lc98l2(F:Nat->Option IFn)(cx:Ctx)(x1 x5 x7 x48 x49 x50:AV)(rows:List Row)(low:Nat)(r:AV×List Row×Nat->Prop):Prop:=Ex F cx (.code c98l2::Kc98l2) ⟨mk 69 [(1,x1),(5,x5),(7,x7),(48,x48),(49,x49),(50,x50)],rows,low⟩ r
@[simp] theorem nc98l2:Ex F cx (Kc98l2) ⟨mk 69 l,rows,low⟩ r↔Lc98l2 F cx (lk l 1) (lk l 5) (lk l 7) (lk l 48) (lk l 49) (lk l 50) rows low r:=AA (keep:=Gr) (by kernel_rfl)
@[simp] theorem uc98l2:U c98l2 (.seq c98k11 c98s10):=ur
@[simp] abbrev Kc98l15:List Itm:=.inLoop c98l15::.inBlock 2::.code c98s14::[]
def Lc98l15(F:Nat->Option IFn)(cx:Ctx)(x1 x5 x7 x36 x37:AV)(rows:List Row)(low:Nat)(r:AV×List Row×Nat->Prop):Prop:=Ex F cx (.code c98l15::Kc98l15) ⟨mk 69 [(1,x1),(5,x5),(7,x7),(36,x36),(37,x37)],rows,low⟩ r
@[simp] theorem nc98l15:Ex F cx (Kc98l15) ⟨mk 69 l,rows,low⟩ r↔Lc98l15 F cx (lk l 1) (lk l 5) (lk l 7) (lk l 36) (lk l 37) rows low r:=AA (keep:=Gi) (by kernel_rfl)
@[simp] theorem uc98l15:U c98l15 (.seq c98k21 c98s20):=ur
@[simp] abbrev Kc98l27:List Itm:=.inLoop c98l27::.inBlock 0::.code c98s26::[]
def Lc98l27(F:Nat->Option IFn)(cx:Ctx)(x0 x1 x5 x12 x13:AV)(rows:List Row)(low:Nat)(r:AV×List Row×Nat->Prop):Prop:=Ex F cx (.code c98l27::Kc98l27) ⟨mk 69 [(0,x0),(1,x1),(5,x5),(12,x12),(13,x13)],rows,low⟩ r
@[simp] theorem nc98l27:Ex F cx (Kc98l27) ⟨mk 69 l,rows,low⟩ r↔Lc98l27 F cx (lk l 0) (lk l 1) (lk l 5) (lk l 12) (lk l 13) rows low r:=AA (keep:=qq6) (by kernel_rfl)
@[simp] theorem uc98l27:U c98l27 (.seq c98k33 c98s32):=ur
@[simp] theorem uc98b:U c98b (.seq c98k39 c98s38):=ur
theorem i98{x0 x1:AV}(hF:F 98=some c98){q:AV×List Row×Option Nat}(h:Ex F (.fn [.t 4]) [.code c98b] ⟨mk 69 [(0,x0),(1,x1)],rows,rows.length⟩ fun r=>fin rows r.1 r.2.1 r.2.2=q):Ret F 98 [x0,x1] rows=some q:=Av hF h
@[simp] theorem uc99k0:X0 F cx k l rows low r 28 c99k0↔eb rows (.fieldA 0 (cl l 5)) fun v0=>eb rows (.load1 (.c v0)) fun v1=>eb rows (.fieldA 0 (cl l 6)) fun v2=>eb rows (.load1 (.c v2)) fun v3=>eb rows (.bin .mul (.c v1) (.c v3)) fun v4=>eb rows (.fieldA 1 (cl l 5)) fun v5=>eb rows (.load1 (.c v5)) fun v6=>eb rows (.fieldA 1 (cl l 6)) fun v7=>eb rows (.load1 (.c v7)) fun v8=>eb rows (.bin .mul (.c v6) (.c v8)) fun v9=>eb rows (.mkagg [.int .i64 0,.int .i64 0] [(0,1,(.c v4)),(1,1,(.c v9))]) fun v10=>bnd (evE rows low (.storeN 2 (cl l 4) (.c v10))) fun q11=>Y0 F cx k r q11.2.1 q11.2.2 28 ([(27,v10),(26,v9),(25,v8),(24,v7),(23,v6),(22,v5),(21,v4),(20,v3),(19,v2),(18,v1),(17,v0)]++kp l UB):=rg
@[simp] theorem uc99s1:U c99s1 (.seq c99k0 .ret):=ur
@[simp] theorem uc99k2:X0 F cx k l rows low r 28 c99k2↔em 0 rows (.fieldA 0 (cl l 2)) fun v0=>em 1 rows (.load1 (.c v0)) fun v1=>em 0 rows (.fieldA 1 (cl l 3)) fun v2=>em 4 rows (.load1 (.c v2)) fun v3=>bnd (opC F (rows++Ai 15 rn) (rows.length+rn.length) [v1,v3] [] (.func 106 [])) fun q4=>q4.2.2=rows.length+rn.length/\bnd (some (rn++List.map (fun(x:Row)=>(4,x)) (q4.2.1.drop (rows.length+rn.length)))) fun e4=>bnd (evP (rows++Ai 0 e4) (.fieldA 0 (cl l 3))) fun v5=>bnd (evP (rows++Ai 32 e4) (.load1 (.c v5))) fun v6=>bnd (evP (rows++Ai 0 e4) (.fieldA 1 (cl l 2))) fun v7=>bnd (evP (rows++Ai 128 e4) (.load1 (.c v7))) fun v8=>bnd (opC F (rows++Ai 511 e4) (rows.length+e4.length) [v6,v8] [] (.func 106 [])) fun q9=>q9.2.2=rows.length+e4.length/\bnd (some (e4++List.map (fun(x:Row)=>(9,x)) (q9.2.1.drop (rows.length+e4.length)))) fun e9=>bnd (evE (rows++Ai 0 e9) (rows.length+e9.length) (.box (.c (.agg [.int .i64 0,.int .i64 0])))) fun q10=>q10.2.2=rows.length+e9.length/\bnd (some (e9++List.map (fun(x:Row)=>(10,x)) (q10.2.1.drop (rows.length+e9.length)))) fun e10=>bnd (evE (rows++Ai 0 e10) (rows.length+e10.length) (.box (.c (.agg [.int .i64 0,.int .i64 0])))) fun q11=>q11.2.2=rows.length+e10.length/\bnd (some (e10++List.map (fun(x:Row)=>(11,x)) (q11.2.1.drop (rows.length+e10.length)))) fun e11=>bnd (evE (rows++List.map (fun(x:Nat×Row)=>x.2) e11) low (.storeN 2 (.c q10.1) (.c q4.1))) fun q12=>bnd (evE q12.2.1 q12.2.2 (.storeN 2 (.c q11.1) (.c q9.1))) fun q13=>Y0 F cx k r q13.2.1 q13.2.2 28 ([(6,q11.1),(5,q10.1),(16,q9.1),(15,v8),(14,v7),(13,v6),(12,v5),(11,q4.1),(10,v3),(9,v2),(8,v1),(7,v0)]++kp l Bm):=rg
@[simp] theorem uc99s3:U c99s3 (.seq c99k2 c99s1):=ur
@[simp] theorem uc99k4:X0 F cx k l rows low r 28 c99k4↔bnd (evE rows low (.box (cl l 0))) fun q0=>bnd (evE q0.2.1 q0.2.2 (.box (cl l 1))) fun q1=>bnd (evE q1.2.1 q1.2.2 (.box (.c (.agg [.int .i64 0,.int .i64 0])))) fun q2=>Y0 F cx k r q2.2.1 q2.2.2 28 [(4,q2.1),(3,q1.1),(2,q0.1),(0,lk l 0),(1,lk l 1)]:=rg
@[simp] theorem uc99b:U c99b (.seq c99k4 c99s3):=ur
theorem i99{x0 x1:AV}(hF:F 99=some c99){q:AV×List Row×Option Nat}(h:Ex F (.fn [.cellN 4 2]) [.code c99b] ⟨mk 28 [(0,x0),(1,x1)],rows,rows.length⟩ fun r=>fin rows r.1 r.2.1 r.2.2=q):Ret F 99 [x0,x1] rows=some q:=Av hF h
@[simp] theorem uc100k0:X0 F cx k l rows low r 19 c100k0↔Y0 F cx k r rows low 19 [(3,lk l 0),(18,lk l 0),(0,lk l 0)]:=rg
@[simp] theorem uc100s1:U c100s1 (.seq c100k0 .ret):=ur
@[simp] theorem uc100k3:X0 F cx k l rows low r 19 c100k3↔eb rows (.load1 (cl l 1)) fun v0=>eb rows (.nilck (.c v0)) fun v1=>eb rows (.fieldA 0 (.c v1)) fun v2=>eb rows (.idxA 6 1 (.c v2) (cl l 0)) fun v3=>eb rows (.load1 (.c v3)) fun v4=>Y0 F cx k r rows low 19 [(0,v4),(17,v4),(16,v3),(15,v2),(14,v1),(13,lk l 0),(12,v0),(0,lk l 0),(1,lk l 1)]:=rg
@[simp] theorem uc100s4:U c100s4 (.block 1 c100k3):=ur
@[simp] theorem uc100s5:U c100s5 (.cond (.t 11) .skip (.exit 0)):=ur
@[simp] theorem uc100k6:X0 F cx k l rows low r 19 c100k6↔eb rows (.load1 (cl l 1)) fun v0=>eb rows (.nilck (.c v0)) fun v1=>eb rows (.fieldA 0 (.c v1)) fun v2=>eb rows (.idxA 6 1 (.c v2) (cl l 0)) fun v3=>eb rows (.load1 (.c v3)) fun v4=>eb rows (.bin .neq (.c v4) (cl l 0)) fun v5=>Y0 F cx k r rows low 19 [(11,v5),(10,lk l 0),(9,v4),(8,v3),(7,v2),(6,v1),(5,lk l 0),(4,v0),(0,lk l 0),(1,lk l 1)]:=rg
@[simp] theorem uc100s7:U c100s7 (.seq (.block 0 (.loop c100l2)) c100s1):=ur
@[simp] theorem uc100k8:X0 F cx k l rows low r 19 c100k8↔Y0 F cx k r rows low 19 [(3,(.int .i64 0)),(0,lk l 0),(1,lk l 1)]:=rg
@[simp] abbrev Kc100l2:List Itm:=.inLoop c100l2::.inBlock 0::.code c100s1::[]
def Lc100l2(F:Nat->Option IFn)(cx:Ctx)(x0 x1:AV)(rows:List Row)(low:Nat)(r:AV×List Row×Nat->Prop):Prop:=Ex F cx (.code c100l2::Kc100l2) ⟨mk 19 [(0,x0),(1,x1)],rows,low⟩ r
@[simp] theorem nc100l2:Ex F cx (Kc100l2) ⟨mk 19 l,rows,low⟩ r↔Lc100l2 F cx (lk l 0) (lk l 1) rows low r:=AA (keep:=Az) (by kernel_rfl)
@[simp] theorem uc100l2:U c100l2 (.seq (.seq c100k6 c100s5) c100s4):=ur
@[simp] theorem uc100b:U c100b (.seq c100k8 c100s7):=ur
theorem i100{x0 x1:AV}(hF:F 100=some c100){q:AV×List Row×Option Nat}(h:Ex F (.fn [.t 3]) [.code c100b] ⟨mk 19 [(0,x0),(1,x1)],rows,rows.length⟩ fun r=>fin rows r.1 r.2.1 r.2.2=q):Ret F 100 [x0,x1] rows=some q:=Av hF h
@[simp] theorem uc106k0:X0 F cx k l rows low r 30 c106k0↔eb rows (.bin .quo (cl l 0) (cl l 5)) fun v0=>eb rows (.bin .quo (cl l 1) (cl l 5)) fun v1=>eb rows (.mkagg [.int .i64 0,.int .i64 0] [(0,1,(.c v0)),(1,1,(.c v1))]) fun v2=>bnd (evE rows low (.storeN 2 (cl l 4) (.c v2))) fun q3=>Y0 F cx k r q3.2.1 q3.2.2 30 ([(29,v2),(28,v1),(27,lk l 5),(26,lk l 1),(25,v0),(24,lk l 5),(23,lk l 0)]++kp l qq4):=rg
@[simp] theorem uc106s1:U c106s1 (.seq c106k0 .ret):=ur
@[simp] theorem uc106k2:X0 F cx k l rows low r 30 c106k2↔eb rows (.un .neg (cl l 5)) fun v0=>Y0 F cx k r rows low 30 ([(5,v0),(22,v0),(21,lk l 5)]++kp l qq4):=rg
@[simp] theorem uc106s3:U c106s3 (.cond (.t 20) c106k2 .skip):=ur
@[simp] theorem uc106k4:X0 F cx k l rows low r 30 c106k4↔eb rows (.bin .lss (cl l 1) (ci 0)) fun v0=>Y0 F cx k r rows low 30 ([(20,v0),(19,lk l 1)]++kp l qq4):=rg
@[simp] theorem uc106s5:U c106s5 (.seq (.seq c106k4 c106s3) c106s1):=ur
@[simp] theorem uc106k6:X0 F cx k l rows low r 30 c106k6↔eb rows (.un .neg (cl l 5)) fun v0=>Y0 F cx k r rows low 30 ([(5,v0),(18,v0),(17,lk l 5)]++kp l qq4):=rg
@[simp] theorem uc106s7:U c106s7 (.cond (.t 16) c106k6 .skip):=ur
@[simp] theorem uc106k8:X0 F cx k l rows low r 30 c106k8↔eb rows (.bin .lss (cl l 5) (ci 0)) fun v0=>Y0 F cx k r rows low 30 ([(16,v0),(15,lk l 5)]++kp l qq4):=rg
@[simp] theorem uc106s9:U c106s9 (.seq (.seq c106k8 c106s7) c106s5):=ur
@[simp] theorem uc106k11:X0 F cx k l rows low r 30 c106k11↔eb rows (.bin .rem (cl l 5) (cl l 6)) fun v0=>Y0 F cx k r rows low 30 ([(6,v0),(5,lk l 6),(14,v0),(13,lk l 6),(12,lk l 5),(11,lk l 6)]++kp l qq3):=rg
@[simp] theorem uc106s12:U c106s12 (.block 1 c106k11):=ur
@[simp] theorem uc106s13:U c106s13 (.cond (.t 10) .skip (.exit 0)):=ur
@[simp] theorem uc106k14:X0 F cx k l rows low r 30 c106k14↔eb rows (.bin .neq (cl l 6) (ci 0)) fun v0=>Y0 F cx k r rows low 30 ([(10,v0),(9,lk l 6)]++kp l qq3):=rg
@[simp] theorem uc106s15:U c106s15 (.seq (.block 0 (.loop c106l10)) c106s9):=ur
@[simp] theorem uc106k16:X0 F cx k l rows low r 30 c106k16↔Y0 F cx k r rows low 30 ([(6,lk l 1),(5,lk l 0),(8,lk l 1),(7,lk l 0)]++kp l qq5):=rg
@[simp] theorem uc106s17:U c106s17 (.seq c106k16 c106s15):=ur
@[simp] theorem uc106k18:X0 F cx k l rows low r 30 c106k18↔bnd (evE rows low (.box (.c (.agg [.int .i64 0,.int .i64 0])))) fun q0=>Y0 F cx k r q0.2.1 q0.2.2 30 [(4,q0.1),(0,lk l 0),(1,lk l 1)]:=rg
@[simp] abbrev Kc106l10:List Itm:=.inLoop c106l10::.inBlock 0::.code c106s9::[]
def Lc106l10(F:Nat->Option IFn)(cx:Ctx)(x0 x1 x4 x5 x6:AV)(rows:List Row)(low:Nat)(r:AV×List Row×Nat->Prop):Prop:=Ex F cx (.code c106l10::Kc106l10) ⟨mk 30 [(0,x0),(1,x1),(4,x4),(5,x5),(6,x6)],rows,low⟩ r
@[simp] theorem nc106l10:Ex F cx (Kc106l10) ⟨mk 30 l,rows,low⟩ r↔Lc106l10 F cx (lk l 0) (lk l 1) (lk l 4) (lk l 5) (lk l 6) rows low r:=AA (keep:=qq3) (by kernel_rfl)
@[simp] theorem uc106l10:U c106l10 (.seq (.seq c106k14 c106s13) c106s12):=ur
@[simp] theorem uc106b:U c106b (.seq c106k18 c106s17):=ur
theorem i106{x0 x1:AV}(hF:F 106=some c106){q:AV×List Row×Option Nat}(h:Ex F (.fn [.cellN 4 2]) [.code c106b] ⟨mk 30 [(0,x0),(1,x1)],rows,rows.length⟩ fun r=>fin rows r.1 r.2.1 r.2.2=q):Ret F 106 [x0,x1] rows=some q:=Av hF h
@[simp] theorem uc123k0:X0 F cx k l rows low r 24 c123k0↔eb rows (.loadN 2 (cl l 2)) fun v0=>eb rows (.fieldA 1 (cl l 3)) fun v1=>eb rows (.load1 (.c v1)) fun v2=>eb rows (.fieldA 0 (cl l 3)) fun v3=>eb rows (.load1 (.c v3)) fun v4=>eb rows (.mkagg [.int .i64 0,.int .i64 0] [(0,1,(.c v2)),(1,1,(.c v4))]) fun v5=>bnd (Ret F 99 [v0,v5] rows) fun q6=>bnd (evE q6.2.1 (AC low q6.2.2) (.storeN 2 (cl l 4) (.c q6.1))) fun q7=>Y0 F cx k r q7.2.1 q7.2.2 24 ([(23,q6.1),(22,v5),(21,v4),(20,v3),(19,v2),(18,v1),(17,v0)]++kp l Bm):=rg
@[simp] theorem uc123s1:U c123s1 (.seq c123k0 .ret):=ur
@[simp] theorem uc123k2:X0 F cx k l rows low r 24 c123k2↔eb rows (.loadN 2 (cl l 2)) fun v0=>eb rows (.fieldA 1 (cl l 3)) fun v1=>eb rows (.load1 (.c v1)) fun v2=>eb rows (.un .neg (.c v2)) fun v3=>eb rows (.fieldA 0 (cl l 3)) fun v4=>eb rows (.load1 (.c v4)) fun v5=>eb rows (.un .neg (.c v5)) fun v6=>eb rows (.mkagg [.int .i64 0,.int .i64 0] [(0,1,(.c v3)),(1,1,(.c v6))]) fun v7=>bnd (Ret F 99 [v0,v7] rows) fun q8=>bnd (evE q8.2.1 (AC low q8.2.2) (.storeN 2 (cl l 4) (.c q8.1))) fun q9=>Y0 F cx k r q9.2.1 q9.2.2 24 ([(16,q8.1),(15,v7),(14,v6),(13,v5),(12,v4),(11,v3),(10,v2),(9,v1),(8,v0)]++kp l Bm):=rg
@[simp] theorem uc123s3:U c123s3 (.cond (.t 7) (.seq c123k2 .ret) .skip):=ur
@[simp] theorem uc123k4:X0 F cx k l rows low r 24 c123k4↔eb rows (.fieldA 0 (cl l 3)) fun v0=>eb rows (.load1 (.c v0)) fun v1=>eb rows (.bin .lss (.c v1) (ci 0)) fun v2=>Y0 F cx k r rows low 24 ([(7,v2),(6,v1),(5,v0)]++kp l Bm):=rg
@[simp] theorem uc123s5:U c123s5 (.seq (.seq c123k4 c123s3) c123s1):=ur
@[simp] theorem uc123k6:X0 F cx k l rows low r 24 c123k6↔bnd (evE rows low (.box (cl l 0))) fun q0=>bnd (evE q0.2.1 q0.2.2 (.box (cl l 1))) fun q1=>bnd (evE q1.2.1 q1.2.2 (.box (.c (.agg [.int .i64 0,.int .i64 0])))) fun q2=>Y0 F cx k r q2.2.1 q2.2.2 24 [(4,q2.1),(3,q1.1),(2,q0.1),(0,lk l 0),(1,lk l 1)]:=rg
@[simp] theorem uc123b:U c123b (.seq c123k6 c123s5):=ur
theorem i123{x0 x1:AV}(hF:F 123=some c123){q:AV×List Row×Option Nat}(h:Ex F (.fn [.cellN 4 2]) [.code c123b] ⟨mk 24 [(0,x0),(1,x1)],rows,rows.length⟩ fun r=>fin rows r.1 r.2.1 r.2.2=q):Ret F 123 [x0,x1] rows=some q:=Av hF h
end Go.Abs
namespace Go.Abs
def peS(ks:List Nat)(p:List Int):Nat->List Int
 |0=>p
 |i+1=>
  let s:=peS ks p i
  let m:=min (gI s (gN ks i/6)) (gI s (gN ks i%6))
  (s.set (gN ks i/6) m).set (gN ks i%6) m
def pcS(ks:List Nat)(N:Nat):Nat->List Int
 |0=>(List.range N).map fun(v:Nat)=>(v:Int)
 |r+1=>peS ks (pcS ks N r) ks.length
theorem Ko{ks:List Nat}{p:List Int}:∀i,(peS ks p i).length=p.length
 |0=>rfl
 |i+1=>by simp[peS,Ko i]
theorem Hw{ks:List Nat}{N:Nat}:∀r,(pcS ks N r).length=N
 |0=>by simp[pcS]
 |r+1=>by rw[pcS,Ko,Hw r]
section
variable {rows:List Row}{N:Nat}{ks ps:List Nat}{v g:AV}{l:List Int}
theorem Hp{B:List Row}{ev pv n0:AV}{c:Cap}(hok:GOK N ks ps)(he:El B 2 ev (Ad .i64 (eC ks)) ks.length){low:Nat}(hlow:low<=B.length){r:AV×List Row×Nat->Prop}{x3 x5:AV}(hne:B.length≠sid x3){p:List Int}(hp:p.length=N)
  (hk:∀(L:List Row) (sl:List (Nat×AV)),Ae (B++L) B.length=some [n0,ev,pv]->Acc B L 1 c x3 (Ad .i64 (peS ks p ks.length)) N->lk sl 1 = .ptr B.length 0->lk sl 3=x3->lk sl 5=x5->Ex F (.fn [.t 2]) [.code c31k3,.inLoop c31l2,.inBlock 2,.code c31s1] ⟨mk 63 sl,B++L,low⟩ r):
  ∀(d i:Nat) (L:List Row),ks.length-i=d->i<=ks.length->Ae (B++L) B.length=some [n0,ev,pv]->Acc B L 1 c x3 (Ad .i64 (peS ks p i)) N->
  Lc31l4 F (.fn [.t 2]) (.ptr B.length 0) x3 x5 (.int .i64 i) (B++L) low r:=by
 have hek:=hok.ek;intro d
 induction d with
 |zero=>
  intro i L hd h1 hG hA;have hi:i=ks.length:=by omega
  subst hi;have he':=Ag he L;unfold Lc31l4;simp[hG,DZ he',-uc31k3];refine hk L _ hG hA ?_ ?_ ?_<;>simp
 |succ d ih=>
  intro i L hd h1 hG hA;have hi:i<ks.length:=by omega
  have hw:IntKind.i64.wrap ((i:Int)+1)=((i+1:Nat):Int):=wS (by omega);obtain⟨e1,e2⟩:=KI hi;have hee:=hok.ee _ (AH hi);have n6:=hok.n6;have hs:peS ks p (i+1)=((peS ks p i).set (gN ks i/6) (min (gI (peS ks p i) (gN ks i/6)) (gI (peS ks p i) (gN ks i%6)))).set (gN ks i%6) (min (gI (peS ks p i) (gN ks i/6)) (gI (peS ks p i) (gN ks i%6))):=rfl;generalize gN ks i/6=A at *;generalize gN ks i%6=C at *;have hAN:A<N:=by omega
  have hCN:C<N:=by omega
  generalize hm:min (gI (peS ks p i) A) (gI (peS ks p i) C)=m at *;have ixA:=Fg hA hAN;have ldA:=Lw hA hAN;have ixC:=Fg hA hCN;have ldC:=Lw hA hCN;obtain⟨L1,ev1,hA2,hL1,hR1⟩:=Dx (i:=A) (x:=m) hA hAN hlow;have ixC1:=Fg hA2 hCN;have hG1:=hR1 _ _ hne hG;obtain⟨L2,ev2,hA3,hL2,hR2⟩:=Dx (i:=C) (x:=m) hA2 hCN hlow;rw[<-hs]at hA3;have:=ih (i+1) L2 (by omega) (by omega) (hR2 _ _ hne hG1) hA3;have he':=Ag he L;have i01:AI 0 2=some 0:=rfl;have i11:AI 1 2=some 1:=rfl;have w1:=F0 he' (j:=i*2) (by rw[Ey];omega);have w2:=F0 he' (j:=i*2+1) (by rw[Ey];omega);rw[<-Nat.add_assoc]at w2;unfold Lc31l4;simp (disch:=first|omega|(simp;done)|fail) [hG,DZ he',hi,B7 he',i01,i11,w1,w2,e1,e2,ixA,ldA,ixC,ldC,hm,ev1,ixC1,ev2,hw,-A4];simpa using this
theorem Gs{B:List Row}{ev pv:AV}{c:Cap}(hok:GOK N ks ps)(he:El B 2 ev (Ad .i64 (eC ks)) ks.length){low:Nat}(hlow:low<=B.length){r:AV×List Row×Nat->Prop}{x3:AV}(hne:B.length≠sid x3)
  (hk:∀(L:List Row),Acc B L 1 c x3 (Ad .i64 (pcS ks N N)) N->r (x3,B++L,low)):
  ∀(d i:Nat) (L:List Row),N-i=d->i<=N->Ae (B++L) B.length=some [.int .i64 N,ev,pv]->Acc B L 1 c x3 (Ad .i64 (pcS ks N i)) N->
  Lc31l2 F (.fn [.t 2]) (.ptr B.length 0) x3 (.int .i64 i) (B++L) low r:=by
 have n6:=hok.n6;intro d
 induction d with
 |zero=>
  intro i L hd h1 hG hA;have hi:i=N:=by omega
  subst hi;have:=hk L hA;unfold Lc31l2;simp[hG];exact this
 |succ d ih=>
  intro i L hd h1 hG hA;have hi:i<N:=by omega
  have hw:IntKind.i64.wrap ((i:Int)+1)=((i+1:Nat):Int):=wS (by omega)
  have:=Hp (c:=c) (pv:=pv) (n0:=.int .i64 N) (x5:=.int .i64 i) (r:=r) hok he hlow hne (Hw (ks:=ks) i) (fun L' sl hG' hA' s1 s3 s5=>by
   have:=ih (i+1) L' (by omega) (by omega) hG' hA';simp[s1,s3,s5,hw]
   simpa using this) _ 0 L rfl (AcX _) hG hA
  unfold Lc31l2;simp[hG,hi];simpa using this
theorem I5{B:List Row}{ev pv:AV}(hok:GOK N ks ps)(he:El B 2 ev (Ad .i64 (eC ks)) ks.length){low:Nat}(hlow:low<=B.length){r:AV×List Row×Nat->Prop}
  (hk:∀(L:List Row) (x3:AV),Acc B L 1 (.op 1) x3 (Ad .i64 (pcS ks N N)) N->r (x3,B++L,low)):
  ∀(d i:Nat) (L:List Row) (x3:AV),N-i=d->i<=N->Ae (B++L) B.length=some [.int .i64 N,ev,pv]->(x3 = .nilslice/\i=0\/B.length<sid x3)->Acc B L 1 (.op 1) x3 (Ad .i64 ((List.range i).map fun(v:Nat)=>(v:Int))) i->
  Lc31l23 F (.fn [.t 2]) (.ptr B.length 0) x3 (.int .i64 i) (B++L) low r:=by
 have n6:=hok.n6;have n1:=hok.n1;intro d
 induction d with
 |zero=>
  intro i L x3 hd h1 hG hx hA;have hi:i=N:=by omega
  subst hi;have hne:B.length≠sid x3:=by
   rcases hx with ⟨_,h⟩|h
   ·omega
   ·omega
  have:=Gs (c:=.op 1) (r:=r) (x3:=x3) (pv:=pv) hok he hlow hne (fun L hA=>hk L x3 hA) _ 0 L rfl (AcX _) hG hA;unfold Lc31l23;simp[hG];simpa using this
 |succ d ih=>
  intro i L x3 hd h1 hG hx hA;have hi:i<N:=by omega
  have hw:IntKind.i64.wrap ((i:Int)+1)=((i+1:Nat):Int):=wS (by omega);obtain⟨x3',L2,ev2,hA2,hid,hsid,hLl⟩:=BQ (low:=low) (b:=8) (x:=[.int .i64 i]) hA rfl (by omega) (by omega) hlow;rw[show Ad .i64 ((List.range i).map fun(v:Nat)=>(v:Int))++[.int .i64 i]=Ad .i64 ((List.range (i+1)).map fun(v:Nat)=>(v:Int))from by rw[Aeo,AdB,<-Ck];rfl]at hA2;have hGl:B.length<B.length+L.length:=by have:=AS hG;simpa using this
  have hG2:Ae (B++L2) B.length=some [.int .i64 N,ev,pv]:=by
   unfold Ae at hG ⊢
   rw[hid B.length hGl (by
    rcases hx with ⟨h,_⟩|h
    ·exact .inl h
    ·exact .inr (by omega))]
   exact hG
  have:=ih (i+1) L2 x3' (by omega) (by omega) hG2 (.inr (by omega)) hA2;unfold Lc31l23;simp[hG,hi,Ap,splice,ev2,hw];simpa using this
theorem J4(hg:GRd rows g N ks ps):Aaf 31 [g] rows (pcS ks N N):=by
 obtain⟨ev,pv,rfl,he,hp,_⟩:=hg.eq;have hok:=hg.ok;have o1:=An he;have o2:=An hp
 let Q:AV×List Row×Nat->Prop:=fun r=>∃v X,fin rows r.1 r.2.1 r.2.2=(v,rows++X,none)/\X.all (Row.under 0)=true/\IsL (rows++X) v (pcS ks N N)/\Cp 1 v
 have main:Ex F (.fn [.t 2]) [.code c31b] ⟨mk 63 [(0,.agg [.int .i64 N,ev,pv])],rows,rows.length⟩ Q:=by
  have hloop:=I5 (B:=rows) (pv:=pv) (low:=rows.length) (r:=Q) hok he (AcE _) (fun L x3 hA=>by
   obtain⟨v',X,e,h1,h2,h3,h4⟩:=QJ hA (.inl rfl)
   exact⟨v',X,e,h1,h2,h4⟩) _ 0 [.cells [.int .i64 N,ev,pv]] .nilslice rfl (AcX _) B6 (.inl ⟨rfl,rfl⟩) CM
  simp[o1,o2];simpa using hloop
 obtain⟨n1,q,e,v',X,h1,h2⟩:=main;exact⟨v',X,i31 F31 ⟨n1,q,e,h1⟩,h2⟩
end
def Adj(ks:List Nat)(u v:Nat):Prop:=∃k∈ks,(k/6=u/\k%6=v)\/(k/6=v/\k%6=u)
inductive Cn(ks:List Nat):Nat->Nat->Prop
 |refl (u:Nat):Cn ks u u
 |step {u v w:Nat}:Cn ks u v->Adj ks v w->Cn ks u w
theorem Adj.symm{ks:List Nat}{u v:Nat}(h:Adj ks u v):Adj ks v u:=by
 obtain⟨k,hk,h⟩:=h;exact⟨k,hk,h.symm⟩
theorem Cn.trans{ks:List Nat}{u v w:Nat}(h1:Cn ks u v)(h2:Cn ks v w):Cn ks u w:=by
 induction h2 with
 |refl=>exact h1
 |step _ a ih=>exact .step ih a
theorem Cn.symm{ks:List Nat}{u v:Nat}(h:Cn ks u v):Cn ks v u:=by
 induction h with
 |refl=>exact .refl _
 |step _ a ih=>exact Cn.trans (.step (.refl _) a.symm) ih
def Lst(ks:List Nat)(v:Nat):Prop:=∀u,Cn ks v u->v<=u
theorem MK{N:Nat}{ks ps:List Nat}(hok:GOK N ks ps){u v:Nat}(h:Cn ks u v)(hu:u<N):v<N:=by
 induction h with
 |refl=>exact hu
 |step _ a _=>
  obtain⟨k,hk,h⟩:=a;have:=hok.ee k hk;omega
open Classical in
noncomputable def cntL(ks:List Nat):Nat->Nat
 |0=>0
 |i+1=>cntL ks i+if Lst ks i then 1 else 0
theorem IJ{f g:Nat->Bool}:∀{l:List Nat},(∀x∈l,f x=true->g x=true)->(l.filter f).length<=(l.filter g).length/\((∃x∈l,g x=true/\f x=false)->(l.filter f).length<(l.filter g).length)
 |[],_=>⟨AcE _,fun⟨x,hx,_⟩=>by simp at hx⟩
 |
  a::l,h=>by
  have ih:=IJ (l:=l) fun x hx=>h x (Adz _ hx)
  have ha:=h a (Ad4 ..);constructor
  ·cases hf:f a with
   |true=>simp[hf,ha hf];exact ih.1
   |false=>
    cases hg:g a with
    |true=>simp[hf,hg];have:=ih.1;omega
    |false=>simp[hf,hg];exact ih.1
  ·rintro ⟨x,hx,h1,h2⟩
   rcases Ade.1 hx with rfl|hx
   ·simp[h1,h2];have:=ih.1;omega
   ·have:=ih.2 ⟨x,hx,h1,h2⟩
    cases hf:f a with
    |true=>simp[hf,ha hf];omega
    |false=>
     cases hg:g a with
     |true=>simp[hf,hg];omega
     |false=>simp[hf,hg];exact this
section
variable {N:Nat}{ks ps:List Nat}
def PIn(N:Nat)(ks:List Nat)(p:List Int):Prop:=p.length=N/\∀v,v<N->∃u:Nat,gI p v=u/\Cn ks v u
theorem CN{c:List Int}{i:Nat}{x:Int}(h:i<c.length):gI (c.set i x) i=x:=by
 simp only[gI,AdD];rw[AcM h]
 rfl
theorem Jk{c:List Int}{i j:Nat}{x:Int}(h:i<c.length):gI (c.set i x) j=if j=i then x else gI c j:=by
 split
 ·rename_i e;subst e;exact CN h
 ·rename_i e;exact AT (fun h=>e h.symm)
theorem Lh{p:List Int}{i:Nat}(hl:(peS ks p i).length=N)(h1:gN ks i/6<N)(h2:gN ks i%6<N)(v:Nat):
  gI (peS ks p (i+1)) v=if v=gN ks i/6\/v=gN ks i%6 then min (gI (peS ks p i) (gN ks i/6)) (gI (peS ks p i) (gN ks i%6))else gI (peS ks p i) v:=by
 rw[peS];rw[Jk (by simp;omega),Jk (by omega)]
 by_cases c1:v=gN ks i%6
 ·rw[if_pos c1,if_pos (.inr c1)]
 ·by_cases c2:v=gN ks i/6
  ·rw[if_neg c1,if_pos c2,if_pos (.inl c2)]
  ·rw[if_neg c1,if_neg c2,if_neg (by omega)]
theorem O4{i:Nat}(hi:i<ks.length):Adj ks (gN ks i/6) (gN ks i%6):=⟨_,AH hi,.inl ⟨rfl,rfl⟩⟩
theorem Se(hok:GOK N ks ps){p:List Int}(h:PIn N ks p):∀i,i<=ks.length->PIn N ks (peS ks p i)
 |0,_=>h
 |
  i+1,hi=>by
  have ih:=Se hok h i (by omega);have hee:=hok.ee _ (AH (show i<ks.length by omega));have ha:=O4 (show i<ks.length by omega);refine⟨by rw[Ko];exact h.1,fun v hv=>?_⟩;rw[Lh ih.1 (by omega) hee.2];obtain⟨ua,ea,ca⟩:=ih.2 (gN ks i/6) (by omega);obtain⟨ub,eb,cb⟩:=ih.2 (gN ks i%6) (by omega)
  split
  ·rename_i hv2
   have hva:Cn ks v (gN ks i/6):=by
    rcases hv2 with e|e
    ·rw[e];exact .refl _
    ·rw[e];exact .step (.refl _) ha.symm
   have hvb:Cn ks v (gN ks i%6):=.step hva ha;rw[ea,eb]
   by_cases c:ua<=ub
   ·exact⟨ua,by omega,hva.trans ca⟩
   ·exact⟨ub,by omega,hvb.trans cb⟩
  ·exact ih.2 v hv
theorem Uz(hok:GOK N ks ps):∀r,PIn N ks (pcS ks N r)
 |0=>⟨Hw 0,fun v hv=>⟨v,by simp[pcS,gI,hv],.refl _⟩⟩
 |
  r+1=>by
  rw[pcS];exact Se hok (Uz hok r) _ (AcE _)
theorem Fo(hok:GOK N ks ps){p:List Int}(h:PIn N ks p){u:Nat}(hu:Lst ks u){v:Nat}(hv:v<N):∀i j,i<=j->j<=ks.length->gI (peS ks p i) v=u->gI (peS ks p j) v=u:=by
 intro i j hij hj
 induction j with
 |zero=>
  obtain rfl:i=0:=by omega
  exact id
 |succ j ih=>
  intro hiv;rcases AdJ hij with e|e
  ·rw[<-e];exact hiv
  ·have hp:=ih (by omega) (by omega) hiv
   have hin:=Se hok h j (by omega);have hee:=hok.ee _ (AH (show j<ks.length by omega));have ha:=O4 (show j<ks.length by omega);rw[Lh hin.1 (by omega) hee.2]
   split
   ·rename_i hv2
    obtain⟨ua,ea,ca⟩:=hin.2 (gN ks j/6) (by omega);obtain⟨ub,eb,cb⟩:=hin.2 (gN ks j%6) (by omega);have hva:Cn ks v (gN ks j/6):=by
     rcases hv2 with e|e
     ·rw[e];exact .refl _
     ·rw[e];exact .step (.refl _) ha.symm
    have hvb:Cn ks v (gN ks j%6):=.step hva ha;obtain⟨uv,ev,cv⟩:=hin.2 v hv;have huv:uv=u:=by omega
    rw[huv]at cv;have h1:=hu ua (cv.symm.trans (hva.trans ca));have h2:=hu ub (cv.symm.trans (hvb.trans cb));rw[ea,eb];rcases hv2 with e|e
    ·rw[e,ea]at hp;omega
    ·rw[e,eb]at hp;omega
   ·exact hp
def TB(p:List Int)(u:Nat)(v:Nat):Bool:=decide (gI p v=(u:Int))
def Clo(ks:List Nat)(p:List Int)(u:Nat):Prop:=∀k∈ks,gI p (k/6)=(u:Int)↔gI p (k%6)=(u:Int)
theorem Wa(hok:GOK N ks ps){u:Nat}(hu:Lst ks u)(r:Nat)(hn:¬Clo ks (pcS ks N r) u):((List.range N).filter (TB (pcS ks N r) u)).length<((List.range N).filter (TB (pcS ks N (r+1)) u)).length:=by
 have hin:=Uz hok r;have hkeep:=fun v (hv:v<N)=>Fo hok hin hu hv 0 ks.length (AcX _) (AcE _)
 refine(IJ fun x hx h=>?_).2 ?_
 ·have hx:=Adm.1 hx
  simp only[TB,decide_eq_true_eq]at h ⊢;exact hkeep x hx h
 ·obtain⟨k,hk⟩:∃k,¬(k∈ks->(gI (pcS ks N r) (k/6)=(u:Int)↔gI (pcS ks N r) (k%6)=(u:Int))):=by
   apply Classical.byContradiction;intro h;exact hn fun k hk=>Classical.byContradiction fun hc=>h ⟨k,fun hi=>hc (hi hk)⟩
  have hkm:k∈ks:=Classical.byContradiction fun hc=>hk fun h=>absurd h hc
  have hkn:¬(gI (pcS ks N r) (k/6)=(u:Int)↔gI (pcS ks N r) (k%6)=(u:Int)):=fun h=>hk fun _=>h
  obtain⟨i,hi,rfl⟩:=Ad8.1 hkm;rw[<-EO hi]at hkn;have hee:=hok.ee _ (AH hi);have hin2:=Se hok hin i (by omega)
  -- both ends have it then
  have both:∀w,(w=gN ks i/6\/w=gN ks i%6)->gI (pcS ks N r) w=(u:Int)->∀x,(x=gN ks i/6\/x=gN ks i%6)->gI (pcS ks N (r+1)) x=(u:Int):=by
   intro w hw hwu x hx;have hwN:w<N:=by rcases hw with e|e<;>omega
   have hxN:x<N:=by rcases hx with e|e<;>omega
   have h1:=Fo hok hin hu hwN 0 i (AcX _) (by omega) hwu;have h2:=Fo hok hin hu hwN i (i+1) (by omega) (by omega) h1;rw[Lh hin2.1 (by omega) hee.2,if_pos hw]at h2;have h3:gI (peS ks (pcS ks N r) (i+1)) x=u:=by
    rw[Lh hin2.1 (by omega) hee.2,if_pos hx];exact h2
   exact Fo hok hin hu hxN (i+1) ks.length (by omega) (AcE _) h3
  by_cases c:gI (pcS ks N r) (gN ks i/6)=(u:Int)
  ·have c2:¬gI (pcS ks N r) (gN ks i%6)=(u:Int):=fun h=>hkn ⟨fun _=>h,fun _=>c⟩
   exact⟨gN ks i%6,Adm.2 (by omega),by simp only[TB,decide_eq_true_eq];exact both _ (.inl rfl) c _ (.inr rfl),by simp only[TB,decide_eq_false_iff_not];exact c2⟩
  ·have c2:gI (pcS ks N r) (gN ks i%6)=(u:Int):=Classical.byContradiction fun h=>hkn ⟨fun h1=>absurd h1 c,fun h1=>absurd h1 h⟩
   exact⟨gN ks i/6,Adm.2 (by omega),by simp only[TB,decide_eq_true_eq];exact both _ (.inr rfl) c2 _ (.inl rfl),by simp only[TB,decide_eq_false_iff_not];exact c⟩
theorem JG(hok:GOK N ks ps){u:Nat}(hu:Lst ks u){v:Nat}(hv:v<N){r:Nat}(h:gI (pcS ks N r) v=(u:Int)):∀d,gI (pcS ks N (r+d)) v=(u:Int)
 |0=>h
 |
  d+1=>by
  rw[<-Nat.add_assoc,pcS];exact Fo hok (Uz hok _) hu hv 0 ks.length (AcX _) (AcE _) (JG hok hu hv h d)
theorem RM(hok:GOK N ks ps){u v:Nat}(hu:Lst ks u)(huN:u<N)(hc:Cn ks u v):gI (pcS ks N N) v=(u:Int):=by
 have h0:gI (pcS ks N 0) u=(u:Int):=by simp[pcS,gI,huN]
 have hgrow:∀r,(∃r',r'<r/\Clo ks (pcS ks N r') u)\/r+1<=((List.range N).filter (TB (pcS ks N r) u)).length:=by
  intro r
  induction r with
  |zero=>
   right;have hm:u∈(List.range N).filter (TB (pcS ks N 0) u):=Ad7.2 ⟨Adm.2 huN,by simp[TB,h0]⟩;exact List.length_pos_of_mem hm
  |succ r ih=>
   rcases ih with ⟨r',h1,h2⟩|h
   ·exact .inl ⟨r',by omega,h2⟩
   ·by_cases c:Clo ks (pcS ks N r) u
    ·exact .inl ⟨r,by omega,c⟩
    ·right
     have:=Wa hok hu r c;omega
 have hle:=List.length_filter_le (TB (pcS ks N N) u) (List.range N);rw[Aeb]at hle;obtain⟨r,hr,hclo⟩:∃r',r'<N/\Clo ks (pcS ks N r') u:=by
  rcases hgrow N with h|h
  ·exact h
  ·omega
 have hall:gI (pcS ks N r) v=(u:Int):=by
  induction hc with
  |refl=>simpa using JG hok hu huN h0 r
  |step _ a ih=>
   obtain⟨k,hk,e|e⟩:=a
   ·rw[<-e.2];exact(hclo k hk).1 (by rw[e.1];exact ih)
   ·rw[<-e.1];exact(hclo k hk).2 (by rw[e.2];exact ih)
 have:=JG hok hu (MK hok hc huN) hall (N-r);rwa[show r+(N-r)=N from by omega]at this
end
end Go.Abs