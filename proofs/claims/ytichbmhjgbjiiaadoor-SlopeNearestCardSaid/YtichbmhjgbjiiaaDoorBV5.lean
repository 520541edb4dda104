/- The texts that the row uses, part 5. -/
import Derived.Test.YtichbmhjgbjiiaaDoorBV4
set_option linter.unusedVariables false
set_option linter.unusedSimpArgs false
set_option maxHeartbeats 32000000
set_option maxRecDepth 100000
namespace Go.Abs
variable {F:Nat->Option IFn}{cx:Ctx}{k:List Itm}{r:AV×List Row×Nat->Prop}
theorem Ix{o:IOp}(h:o.pure=true)(g:Opd->AV):(DD g o).pure=true:=by cases o<;>first|rfl|simp[IOp.pure]at h
theorem Dk{B:Nat->List Row}{i d b n:Nat}{l:List (Nat×AV)}{op:IOp}{g:List (IOpx×Nat)}(hop:op.pure=true):
  At (Ret F) B i ((⟨some d,op,none⟩,b)::g) (mk n l) []=(evP (B i) (DD (Ak (mk n l)) op)).bind fun v=>At (Ret F) B (i+1) g (mk n ((d,v)::l)) []:=by
 have h1:opG F Ak (mk n l) (B i++Ai b []) ((B i).length+([]:List (Nat×Row)).length) ⟨some d,op,none⟩=(evP (B i) (DD (Ak (mk n l)) op)).map fun v=>(v,B i,(B i).length):=by
  have h2:opG F Ak (mk n l) (B i++Ai b []) ((B i).length+([]:List (Nat×Row)).length) ⟨some d,op,none⟩=evE (B i++Ai b []) ((B i).length+([]:List (Nat×Row)).length) (DD (Ak (mk n l)) op):=by
   cases op<;>first|rfl|simp[IOp.pure]at hop
  rw[h2];simp only[IO,AcV,Ac7,Aeq];exact BH (Ix hop _) _ _ _
 rw[At,Lj,h1];cases evP (B i) (DD (Ak (mk n l)) op)with
 |none=>rfl
 |some v=>simp[BE,Nj]
theorem Rd{B:Nat->List Row}{i b n:Nat}{l:List (Nat×AV)}{op:IOp}{g:List (IOpx×Nat)}(hop:op.pure=true):
  At (Ret F) B i ((⟨none,op,none⟩,b)::g) (mk n l) []=(evP (B i) (DD (Ak (mk n l)) op)).bind fun _=>At (Ret F) B (i+1) g (mk n l) []:=by
 have h1:opG F Ak (mk n l) (B i++Ai b []) ((B i).length+([]:List (Nat×Row)).length) ⟨none,op,none⟩=(evP (B i) (DD (Ak (mk n l)) op)).map fun v=>(v,B i,(B i).length):=by
  have h2:opG F Ak (mk n l) (B i++Ai b []) ((B i).length+([]:List (Nat×Row)).length) ⟨none,op,none⟩=evE (B i++Ai b []) ((B i).length+([]:List (Nat×Row)).length) (DD (Ak (mk n l)) op):=by
   cases op<;>first|rfl|simp[IOp.pure]at hop
  rw[h2];simp only[IO,AcV,Ac7,Aeq];exact BH (Ix hop _) _ _ _
 rw[At,Lj,h1];cases evP (B i) (DD (Ak (mk n l)) op)with
 |none=>rfl
 |some v=>simp[BE]
theorem I6{B:Nat->List Row}{i:Nat}{sl:List AV}:At (Ret F) B i [] sl []=some (sl,[]):=rfl
section
variable {B:Nat->List Row}{i d b n:Nat}{l:List (Nat×AV)}{g:List (IOpx×Nat)}
theorem LH{x:Opd}:At (Ret F) B i ((⟨some d,.mv x,none⟩,b)::g) (mk n l) []=(evP (B i) (.mv (AY (Ak (mk n l)) x))).bind fun v=>At (Ret F) B (i+1) g (mk n ((d,v)::l)) []:=Dk rfl
theorem Kl{x:Opd}:At (Ret F) B i ((⟨some d,.nilck x,none⟩,b)::g) (mk n l) []=(evP (B i) (.nilck (AY (Ak (mk n l)) x))).bind fun v=>At (Ret F) B (i+1) g (mk n ((d,v)::l)) []:=Dk rfl
theorem I2{o:Nat}{x:Opd}:At (Ret F) B i ((⟨some d,.fieldA o x,none⟩,b)::g) (mk n l) []=(evP (B i) (.fieldA o (AY (Ak (mk n l)) x))).bind fun v=>At (Ret F) B (i+1) g (mk n ((d,v)::l)) []:=Dk rfl
theorem M6{m z:Nat}{x y:Opd}:At (Ret F) B i ((⟨some d,.idxA m z x y,none⟩,b)::g) (mk n l) []=(evP (B i) (.idxA m z (AY (Ak (mk n l)) x) (AY (Ak (mk n l)) y))).bind fun v=>At (Ret F) B (i+1) g (mk n ((d,v)::l)) []:=Dk rfl
theorem FE{x:Opd}:At (Ret F) B i ((⟨some d,.load1 x,none⟩,b)::g) (mk n l) []=(evP (B i) (.load1 (AY (Ak (mk n l)) x))).bind fun v=>At (Ret F) B (i+1) g (mk n ((d,v)::l)) []:=Dk rfl
theorem NQ{o:BinOp}{x y:Opd}:At (Ret F) B i ((⟨some d,.bin o x y,none⟩,b)::g) (mk n l) []=(evP (B i) (.bin o (AY (Ak (mk n l)) x) (AY (Ak (mk n l)) y))).bind fun v=>At (Ret F) B (i+1) g (mk n ((d,v)::l)) []:=Dk rfl
theorem GX{m:Nat}:At (Ret F) B i ((⟨none,.lenc m,none⟩,b)::g) (mk n l) []=At (Ret F) B (i+1) g (mk n l) []:=by rw[Rd rfl];rfl
end
end Go.Abs
namespace Go.Abs
variable {cx:Ctx}{k:List Itm}{r:AV×List Row×Nat->Prop}
theorem Rv{l0:List (Nat×AV)}{R:List Row}{low:Nat}:Ex F cx (.ops [.one ⟨some 107,.idxA 6 1 (.t 106) (.t 92),none⟩,.one ⟨none,.store1 (.t 107) (.t 101),none⟩]::k) ⟨mk 116 l0,R,low⟩ r↔
  bnd (evP R (.idxA 6 1 (.c (lk l0 106)) (.c (lk l0 92)))) fun v=>bnd (evE R low (.store1 (.c v) (.c (lk l0 101)))) fun q=>Ex F cx k ⟨mk 116 ((107,v)::l0),q.2.1,q.2.2⟩ r:=by
 rw[J8 rfl];exact Iff.rfl
theorem QR{R:List Row}{W low A T:Nat}{D:List Int}{f:Int}{sl:List (Nat×AV)}(hW:R[W]?=some (.cells (Ad .i64 D)))(hD:D.length=13)(hA:A<6)(hT:T<6)(hlow:low<=W)
  (s5:lk sl 5 = .ptr W 0) (s9:lk sl 9 = .int .i64 A) (s14:lk sl 14 = .int .i64 T) (s15:lk sl 15 = .int .i64 f)
  (h:∀sl',(∀j∈[1,2,5,6,8,9,10,11,14,20,21,53,54,55,60],lk sl' j=lk sl j)->Ex F cx k ⟨mk 116 sl',R.set W (.cells (Ad .i64 ((D.set T A).set (6+T) (IntKind.i64.wrap (gI D (6+A)+f))))),low⟩ r):
  Ex F cx (.code c78k10::k) ⟨mk 116 sl,R,low⟩ r:=by
 have hWl:=(AcF.1 hW).1;have hrow:Ae R W=some (Ad .i64 D):=by unfold Ae;rw[hW]
 have hm:Bf R W T 1=R.set W (.cells (splice (Ad .i64 D) T [.any])):=by unfold Bf;rw[hW];rfl
 have hld:(Ad .i64 D)[6+A]?=some (.int .i64 (gI D (6+A))):=by rw[CS,Xq (by omega)];rfl
 have hrm:Ae (R.set W (.cells (splice (Ad .i64 D) T [.any]))) W=some (splice (Ad .i64 D) T [.any]):=by unfold Ae;rw[AcM hWl]
 have hld2:(splice (Ad .i64 D) T [.any])[6+A]?=some (.int .i64 (gI D (6+A))):=by
  rw[Em _ _ _ (by simp[Ad];omega),AcH (by omega)];exact hld
 have iA:AI (A:Int) 6=some A:=by simp[hA]
 have iT:AI (T:Int) 6=some T:=by simp[hT]
 rw[uc78k10,Df,Bu,Jb,uc78r10,HG];simp[LH,Kl,I2,M6,FE,NQ,GX,I6,AY,s5,s9,s14,s15,iA,iT,hrow,hld,hm,hrm,hld2,BT,CG];refine⟨W,T,⟨rfl,rfl⟩,?_⟩;have tb:Nat.testBit 59379 10=true:=by decide
 have hlen:(Ad .i64 D).length=13:=by simp[Ad,hD]
 have hset1:(Ad .i64 D).set T (.int .i64 A)=Ad .i64 (D.set T A):=by simp[Ad,Aeh]
 have hset2:(Ad .i64 (D.set T A)).set (6+T) (.int .i64 (IntKind.i64.wrap (gI D (6+A)+f)))=Ad .i64 ((D.set T A).set (6+T) (IntKind.i64.wrap (gI D (6+A)+f))):=by simp[Ad,Aeh]
 have hcel:cells? (R.set W (.cells (Ad .i64 (D.set T A)))) W=some (Ad .i64 (D.set T A)):=by unfold cells?;rw[AcM hWl]
 have hlen2:(Ad .i64 (D.set T A)).length=13:=by simp[Ad,hD]
 have hlw:Ab low W=low:=Ac hlow;have hset3:(R.set W (.cells (Ad .i64 (D.set T A)))).set W (.cells (Ad .i64 ((D.set T A).set (6+T) (IntKind.i64.wrap (gI D (6+A)+f)))))=R.set W (.cells (Ad .i64 ((D.set T A).set (6+T) (IntKind.i64.wrap (gI D (6+A)+f))))):=by rw[Ad5]
 rw[if_pos tb,hrow];simp only[Ac4,hld,VY,Sd];refine⟨_,_,rfl,_,by simp[hW,hlen,show T<13 by omega,hset1];rfl,?_⟩;rw[hlw];simp only[Adn,AcV];rw[Rv];simp[iT,hcel,hlen2,show 6+T<13 by omega,hset2,hset3,hlw];refine h _ ?_;intro j hj;simp only[Ade,Aef,or_false]at hj;rcases hj with rfl|rfl|rfl|rfl|rfl|rfl|rfl|rfl|rfl|rfl|rfl|rfl|rfl|rfl|rfl<;>simp[s5,s9,s14]
end Go.Abs
namespace Go.Abs
def mpE(S:List Nat):List (AV×AV):=S.map fun(v:Nat)=>(AV.int .i64 (v:Int),AV.bool true)
theorem Ir{t:Nat}:∀(S:List Nat) (i:Nat),∃j,CC (.int .i64 (t:Int)) (mpE S) i=some (if t∈S then some (j,AV.bool true)else none)
 |[],i=>⟨0,by simp[mpE,CC]⟩
 |
  v::S,i=>by
  obtain⟨j,hj⟩:=Ir (t:=t) S (i+1)
  by_cases c:t=v
  ·refine⟨i,?_⟩
   subst c;simp[mpE,CC,Cx]
  ·refine⟨j,?_⟩
   have e:mpE (v::S)=(AV.int .i64 (v:Int),AV.bool true)::mpE S:=rfl;have hk:Cx (.int .i64 (t:Int)) (.int .i64 (v:Int))=some false:=by simp[Cx];omega
   rw[e,CC];simp only[hk,hj];simp[c]
theorem Oc{R:List Row}{M t:Nat}{S:List Nat}(h:R[M]?=some (.mp (mpE S))):evP R (.look (.bool false) false (.c (.map M)) (.c (.int .i64 t)))=some (.bool (decide (t∈S))):=by
 obtain⟨j,hj⟩:=Ir (t:=t) S 0;show Af R (Ak []) _=_;unfold Af;simp only[Ak,h,hj]
 by_cases c:t∈S<;>simp[c]
theorem Nc{R:List Row}{M t low:Nat}{S:List Nat}(h:R[M]?=some (.mp (mpE S)))(ht:t∉S):evE R low (.mset (.c (.map M)) (.c (.int .i64 t)) (.c (.bool true)))=some (.tup [],R.set M (.mp (mpE (S++[t]))),Ab low M):=by
 obtain⟨j,hj⟩:=Ir (t:=t) S 0;rw[if_neg ht]at hj;show Au (Ak []) R low _=_;unfold Au;have hk:(Cx (.int .i64 (t:Int)) (.int .i64 (t:Int))).isSome=true:=by simp[Cx]
 have hm:mpE (S++[t])=mpE S++[(AV.int .i64 (t:Int),AV.bool true)]:=by simp[mpE]
 simp[Ak,h,hj,hk,hm]
def Qu(b:Nat)(R:List Row)(x:AV)(q:List Nat):Prop:=∃id off c vs,x = .slice id off q.length c/\b<=id/\(c = .at_ q.length\/c = .op 1)/\R[id]?=some (.cells vs)/\seg vs off q.length=some (Ad .i64 (q.map fun(v:Nat)=>(v:Int)))
theorem Vj{b:Nat}{R:List Row}{x:AV}{q:List Nat}{t low:Nat}(h:Qu b R x q)(hlow:low<=b)(hq:q.length<=100):
  ∃v' R',evE (R++[.cells [.int .i64 t]]) low (.app 1 8 (.c x) (.c (.slice R.length 0 1 (.at_ 1))))=some (v',R',low)/\Qu b R' v' (q++[t])/\(∀i,i<R.length->i≠sid x->R'[i]?=R[i]?)/\R.length<=sid v'/\R.length<=R'.length:=by
 obtain⟨id,off,c,vs,rfl,hb,hc,hr,hs⟩:=h;have hid:=(AcF.1 hr).1;have hx:El (R++[.cells [.int .i64 t]]) 1 (.slice R.length 0 1 (.at_ 1)) [.int .i64 t] 1:=by
  unfold El A5;simp[B6,seg]
 have hcel:cells? (R++[.cells [.int .i64 t]]) id=some vs:=by unfold cells?;rw[AcD hid,hr]
 have hrw:Ae (R++[.cells [.int .i64 t]]) id=some vs:=by unfold Ae;rw[AcD hid,hr]
 have e:Ad .i64 (q.map fun(v:Nat)=>(v:Int))++[.int .i64 t]=Ad .i64 ((q++[t]).map fun(v:Nat)=>(v:Int)):=by rw[AdB,<-Ck];rfl
 have hsg:seg (Ad .i64 ((q++[t]).map fun(v:Nat)=>(v:Int))) 0 (q++[t]).length=some (Ad .i64 ((q++[t]).map fun(v:Nat)=>(v:Int))):=by
  rw[DI,if_pos (by simp),Aeg,Adq (by simp)]
 rcases hc with rfl|rfl
 ·refine⟨_,_,Sz hrw (by simpa using hs) hx (by omega) (by simp[lim];omega) (by omega),⟨_,_,_,Ad .i64 (q.map fun(v:Nat)=>(v:Int))++[.int .i64 t],by rw[show(q++[t]).length=q.length+1 from by simp],?_,.inr rfl,by rw[AcG (AcE _)];simp,by rw[e];exact hsg⟩,?_,?_,?_⟩
  ·simp;omega
  ·intro i hi hne
   rw[AcL,AcD hi]
  ·simp
  ·simp
 ·have hap:=Lr (low:=low) (b:=8) hcel (by simpa using hs) hx (by omega) (by simp[lim];omega)
  rw[Ac (show low<=id by omega)]at hap;refine⟨_,_,hap,⟨_,_,_,Ad .i64 (q.map fun(v:Nat)=>(v:Int))++[.int .i64 t],by rw[show(q++[t]).length=q.length+1 from by simp],?_,.inr rfl,?_,by rw[e];exact hsg⟩,?_,?_,?_⟩
  ·simp;omega
  ·rw[AcG (by simp)];simp
  ·intro i hi hne
   simp only[HK]at hne;rw[AcD (by simp;omega),AcH (by omega),AcD hi]
  ·simp
  ·simp;omega
theorem YP{b:Nat}{R:List Row}{x:AV}{a:Nat}{q:List Nat}(h:Qu b R x (a::q)):∃x',A8 1 x (some (.int .i64 1)) none none=some x'/\Qu b R x' q/\sid x'=sid x:=by
 obtain⟨id,off,c,vs,rfl,hb,hc,hr,hs⟩:=h;have hsl:=Kt hs;have hs2:seg vs (off+1) q.length=some (Ad .i64 (q.map fun(v:Nat)=>(v:Int))):=by
  unfold seg at hs ⊢
  split at hs
  ·rename_i hle
   simp only[AcU]at hle;rw[if_pos (by omega)];injection hs with hs
   have h2:=congrArg (List.drop 1) hs;rw[List.drop_take,List.drop_drop]at h2;simp only[AcU,Nat.add_sub_cancel]at h2;rw[h2];simp[Ad]
  ·simp at hs
 rcases hc with rfl|rfl
 ·by_cases c0:q=[]
  ·subst c0
   refine⟨.slice id off 0 (.at_ 0),by simp[A8,Aj],⟨id,off,.at_ 0,vs,rfl,hb,.inl rfl,hr,?_⟩,rfl⟩;unfold seg at hs ⊢
   split at hs
   ·rw[if_pos (by simp only[AcU,Ac7]at *;omega)];rfl
   ·simp at hs
  ·have hpos:=List.length_pos_iff.2 c0
   refine⟨.slice id (off+1) q.length (.at_ q.length),?_,⟨id,off+1,.at_ q.length,vs,rfl,hb,.inl rfl,hr,hs2⟩,rfl⟩;have e1:((1:Int)<=(q.length:Int)+1):=by omega
   simp[A8,Aj,e1,c0]
 ·refine⟨.slice id (off+1) q.length (.op 1),?_,⟨id,off+1,.op 1,vs,rfl,hb,.inr rfl,hr,hs2⟩,rfl⟩
  have e1:((1:Int)<=(q.length:Int)+1):=by omega
  simp[A8,Aj,e1]
theorem V3{b:Nat}{R:List Row}{x:AV}{a:Nat}{q:List Nat}(h:Qu b R x (a::q)):evP R (.idxS 1 (.c x) (.c (.int .i64 0)))=some (.ptr (sid x) (G1 x))/\evP R (.load1 (.c (.ptr (sid x) (G1 x))))=some (.int .i64 a)/\evP R (.len 0 (.c x))=some (.int .i64 (q.length+1:Nat)):=by
 obtain⟨id,off,c,vs,rfl,hb,hc,hr,hs⟩:=h;have hl:IsL R (.slice id off (a::q).length c) ((a::q).map fun(v:Nat)=>(v:Int)):=by
  unfold IsL El A5;have hrw:Ae R id=some vs:=by unfold Ae;rw[hr]
  simp only[hrw,Add,hs];simp
 have h1:=Eg (k:=.i64) (i:=0) hl (by omega) (by simp);have h2:=Ca (j:=0) hl (by simp);refine⟨by simpa using h1,by simpa[gI]using h2,rfl⟩
structure WS(rows:List Row)(G:List AV)(D:List Int)(S:List Nat)(R:List Row):Prop where
 base:∃L,R=rows++L
 g:Ae R rows.length=some G
 d:R[rows.length+1]?=some (.cells (Ad .i64 D))
 m:R[rows.length+2]?=some (.mp (mpE S))
section
variable {rows R:List Row}{G:List AV}{D:List Int}{S:List Nat}
theorem WS.len(h:WS rows G D S R):rows.length+3<=R.length:=(AcF.1 h.m).1
theorem WS.app(h:WS rows G D S R)(X:List Row):WS rows G D S (R++X):=by
 have hl:=h.len;obtain⟨⟨L,hL⟩,h2,h3,h4⟩:=h;refine⟨⟨L++X,by rw[hL,AcL]⟩,Ah h2 X,?_,?_⟩
 ·rw[AcD (by omega)];exact h3
 ·rw[AcD (by omega)];exact h4
theorem K5{rows R:List Row}{i:Nat}{x:Row}(h:∃L,R=rows++L)(hi:rows.length<=i):∃L,R.set i x=rows++L:=by
 obtain⟨L,rfl⟩:=h;exact⟨L.set (i-rows.length) x,by rw[AcW _ _ hi]⟩
theorem WS.setD(h:WS rows G D S R)(D':List Int):WS rows G D' S (R.set (rows.length+1) (.cells (Ad .i64 D'))):=by
 have hl:=h.len;refine⟨K5 h.base (by omega),?_,by rw[AcM (by omega)],by rw[AcH (by omega)];exact h.m⟩;have:=h.g;unfold Ae at this ⊢;rw[AcH (by omega)];exact this
theorem WS.setS(h:WS rows G D S R)(S':List Nat):WS rows G D S' (R.set (rows.length+2) (.mp (mpE S'))):=by
 have hl:=h.len;refine⟨K5 h.base (by omega),?_,by rw[AcH (by omega)];exact h.d,by rw[AcM (by omega)]⟩;have:=h.g;unfold Ae at this ⊢;rw[AcH (by omega)];exact this
theorem WS.of(h:WS rows G D S R){R':List Row}(hl:R.length<=R'.length){o:Nat}(ho:rows.length+3<=o)(he:∀i,i<R.length->i≠o->R'[i]?=R[i]?):WS rows G D S R':=by
 have hlen:=h.len;refine⟨?_,?_,?_,?_⟩
 ·have hb:=h.base
  have hS:Sm rows.length o rows R':=by
   obtain⟨L,rfl⟩:=hb;refine⟨by simp at hl;omega,fun i h1 h2=>?_⟩;rw[he i (by simp;omega) h2,AcD h1]
  exact Ly hS (by omega)
 ·have:=h.g
  unfold Ae at this ⊢;rw[he _ (by omega) (by omega)];exact this
 ·rw[he _ (by omega) (by omega)];exact h.d
 ·rw[he _ (by omega) (by omega)];exact h.m
theorem SW{b i:Nat}{R:List Row}{x:AV}{q:List Nat}{y:Row}(h:Qu b R x q)(hi:i<b):Qu b (R.set i y) x q:=by
 obtain⟨id,off,c,vs,e,hb,hc,hr,hs⟩:=h;exact⟨id,off,c,vs,e,hb,hc,by rw[AcH (by omega)];exact hr,hs⟩
theorem X9{b:Nat}{R:List Row}{x:AV}{q:List Nat}(h:Qu b R x q)(X:List Row):Qu b (R++X) x q:=by
 obtain⟨id,off,c,vs,e,hb,hc,hr,hs⟩:=h;exact⟨id,off,c,vs,e,hb,hc,by rw[AcD (AcF.1 hr).1];exact hr,hs⟩
def stp(at_ fr to:Nat)(f:Int)(s:List Int×List Nat×List Nat):List Int×List Nat×List Nat:=
 if fr=at_/\to∉s.2.1 then((s.1.set to at_).set (6+to) (IntKind.i64.wrap (gI s.1 (6+at_)+f)),s.2.1++[to],s.2.2++[to])else s
theorem KJ{x1 x8 x10 x20 x21 x53 x54 x55:AV}{A T E fr kk:Nat}{q:List Nat}{f:Int}{vs:List AV}{r:AV×List Row×Nat->Prop}(h:WS rows G D S R)(hD:D.length=13)(hA:A<6)(hT:T<6)(hq:Qu (rows.length+3) R x8 q)(hql:q.length<=100)(hE:Ae R E=some vs)(hEb:rows.length+3<=E)(hne:E≠sid x8)(hk:kk<2)
  (hc:∀R' x8' D' S' q',stp A fr T f (D,S,q)=(D',S',q')->WS rows G D' S' R'->Qu (rows.length+3) R' x8' q'->Ae R' E=some vs->E≠sid x8'->
   Lc78l7 F (.fn [.t 4]) x1 (.ptr rows.length 0) (.ptr (rows.length+1) 0) (.map (rows.length+2)) x8' (.int .i64 A) x10 (.ptr E 0) x20 x21 x53 x54 x55 (.int .i64 (kk+1:Nat)) R' rows.length r):
  Jc78s15 F (.fn [.t 4]) x1 (.ptr rows.length 0) (.ptr (rows.length+1) 0) (.map (rows.length+2)) x8 (.int .i64 A) x10 (.ptr E 0) (.int .i64 fr) (.int .i64 T) (.int .i64 f) x20 x21 x53 x54 x55 (.int .i64 kk) R rows.length r:=by
 have hw:IntKind.i64.wrap ((kk:Int)+1)=((kk+1:Nat):Int):=wS (by omega);have hlook:=Oc (t:=T) h.m;have hRl:=h.len;unfold Jc78s15
 by_cases c1:fr=A
 ·by_cases c2:T∈S
  ·have:=hc R x8 D S q (by unfold stp;rw[if_neg (fun h=>h.2 c2)]) h hq hE hne
   simp[c1,hlook,c2,hw];simpa using this
  ·have hms:=Nc (low:=rows.length) h.m c2
   have hlw:Ab rows.length (rows.length+2)=rows.length:=Ac (by omega);rw[hlw]at hms;have h2:=h.setS (S++[T]);simp[c1,hlook,c2,hms,-uc78k10,-uc78k9];refine QR (W:=rows.length+1) (A:=A) (T:=T) (f:=f) h2.d hD hA hT (by omega) (by simp) (by simp) (by simp) (by simp) (fun sl' hsl=>?_);have h3:=h2.setD ((D.set T A).set (6+T) (IntKind.i64.wrap (gI D (6+A)+f)));have hq3:Qu (rows.length+3) ((R.set (rows.length+2) (.mp (mpE (S++[T])))).set (rows.length+1) (.cells (Ad .i64 ((D.set T A).set (6+T) (IntKind.i64.wrap (gI D (6+A)+f)))))) x8 q:=SW (SW hq (by omega)) (by omega);have hE3:Ae ((R.set (rows.length+2) (.mp (mpE (S++[T])))).set (rows.length+1) (.cells (Ad .i64 ((D.set T A).set (6+T) (IntKind.i64.wrap (gI D (6+A)+f)))))) E=some vs:=by
    unfold Ae at hE ⊢;rw[AcH (by omega),AcH (by omega)];exact hE
   generalize hR3:(R.set (rows.length+2) (.mp (mpE (S++[T])))).set (rows.length+1) (.cells (Ad .i64 ((D.set T A).set (6+T) (IntKind.i64.wrap (gI D (6+A)+f)))))=R3 at *;obtain⟨x8',R',ev,k1,k2,k3,k4⟩:=Vj (t:=T) (low:=rows.length) hq3 (by omega) hql;have hEl:=AS hE3;have hws:=h3.of k4 (o:=sid x8) (by obtain⟨id,off,c,us,rfl,hb,_⟩:=hq;exact hb) k2;have hE4:Ae R' E=some vs:=by
    unfold Ae at hE3 ⊢;rw[k2 E hEl hne];exact hE3
   have:=hc R' x8' _ _ _ (by unfold stp;rw[if_pos ⟨c1,c2⟩]) hws k1 hE4 (by omega);have t1:=hsl 1 (by simp);have t2:=hsl 2 (by simp);have t5:=hsl 5 (by simp);have t6:=hsl 6 (by simp);have t8:=hsl 8 (by simp);have t9:=hsl 9 (by simp);have t10:=hsl 10 (by simp);have t11:=hsl 11 (by simp);have t14:=hsl 14 (by simp);have t20:=hsl 20 (by simp);have t21:=hsl 21 (by simp);have t53:=hsl 53 (by simp);have t54:=hsl 54 (by simp);have t55:=hsl 55 (by simp);have t60:=hsl 60 (by simp);simp at t1 t2 t5 t6 t8 t9 t10 t11 t14 t20 t21 t53 t54 t55 t60;simp[t1,t2,t5,t6,t8,t9,t10,t11,t14,t20,t21,t53,t54,t55,t60,Ap,splice,ev,hw];simpa using this
 ·have:=hc R x8 D S q (by unfold stp;rw[if_neg (fun h=>c1 h.1)]) h hq hE hne
  have c1':¬((fr:Int)=A):=by omega
  simp[c1',hw];simpa using this
end
abbrev WSt:=List Int×List Nat×List Nat
structure SI(N:Nat)(s:WSt):Prop where
 d:s.1.length=13
 nd:s.2.1.Nodup
 b:∀v∈s.2.1,v<N
 q:s.2.2.length<=s.2.1.length
theorem SI.s6{N:Nat}{s:WSt}(h:SI N s)(hN:N<=6):s.2.1.length<=6:=by
 have:=List.Nodup.length_le_of_subset h.nd (l₂:=List.range N) (fun x hx=>Adm.2 (h.b x hx));simp at this;omega
theorem KM{N a fr to:Nat}{f:Int}{s:WSt}(h:SI N s)(ht:to<N):SI N (stp a fr to f s):=by
 unfold stp
 split
 ·rename_i hc
  refine⟨by simp[h.d],?_,?_,?_⟩
  ·simp only
   rw[List.nodup_append];refine⟨h.nd,by simp,?_⟩;intro x hx y hy e;simp only[Ado]at hy;subst e hy;exact hc.2 hx
  ·intro v hv
   rcases Ac2.1 hv with hv|hv
   ·exact h.b v hv
   ·simp only[Ado]at hv;omega
  ·simp only[AcO,AcU,Ac7]
   have:=h.q;omega
 ·exact h
def est(a k:Nat)(f:Int)(s:WSt):WSt:=stp a (k%6) (k/6) (IntKind.i64.wrap (0-f)) (stp a (k/6) (k%6) f s)
def esS(a:Nat)(ks:List Nat)(fl:List Int)(s:WSt):Nat->WSt
 |0=>s
 |i+1=>est a (gN ks i) (gI fl i) (esS a ks fl s i)
section
variable {rows R:List Row}{G:List AV}{N:Nat}{ks ps:List Nat}{x1 ev:AV}{fl:List Int}
theorem TI{x8 x9 x20 x21 x53 x54 x55 x2 x5 x6:AV}{A C E i:Nat}{r:AV×List Row×Nat->Prop}(hE:Ae R E=some [.int .i64 A,.int .i64 C])(hf:IsL R x1 fl)(hi:i<fl.length)
  (h:Jc78s15 F (.fn [.t 4]) x1 x2 x5 x6 x8 x9 (.int .i64 i) (.ptr E 0) (.int .i64 A) (.int .i64 C) (.int .i64 (gI fl i)) x20 x21 x53 x54 x55 (.int .i64 0) R rows.length r):
  Lc78l7 F (.fn [.t 4]) x1 x2 x5 x6 x8 x9 (.int .i64 i) (.ptr E 0) x20 x21 x53 x54 x55 (.int .i64 0) R rows.length r:=by
 have ix:=B7 hf hi;have ld:=F0 hf hi;rw[Add]at ix;have i01:AI 0 2=some 0:=rfl;have i11:AI 1 2=some 1:=rfl;have w1:IntKind.i64.wrap 1=1:=rfl;unfold Lc78l7;simp[hE,i01,i11,ix,ld,w1,-uc78s15,jc78s15];simpa using h
theorem UA{x8 x9 x20 x21 x53 x54 x55 x2 x5 x6:AV}{A C E i:Nat}{r:AV×List Row×Nat->Prop}(hE:Ae R E=some [.int .i64 A,.int .i64 C])(hf:IsL R x1 fl)(hi:i<fl.length)
  (h:Jc78s15 F (.fn [.t 4]) x1 x2 x5 x6 x8 x9 (.int .i64 i) (.ptr E 0) (.int .i64 C) (.int .i64 A) (.int .i64 (IntKind.i64.wrap (0-gI fl i))) x20 x21 x53 x54 x55 (.int .i64 1) R rows.length r):
  Lc78l7 F (.fn [.t 4]) x1 x2 x5 x6 x8 x9 (.int .i64 i) (.ptr E 0) x20 x21 x53 x54 x55 (.int .i64 1) R rows.length r:=by
 have ix:=B7 hf hi;have ld:=F0 hf hi;rw[Add]at ix;have i01:AI 0 2=some 0:=rfl;have i11:AI 1 2=some 1:=rfl;have w1:IntKind.i64.wrap 0=0:=rfl;unfold Lc78l7;simp[hE,i01,i11,ix,ld,w1,-uc78s15,jc78s15];simpa using h
theorem WS.flow{D:List Int}{S:List Nat}(h:WS rows G D S R){v:AV}{sz n:Nat}{cs:List AV}(hf:El rows sz v cs n):El R sz v cs n:=by
 obtain⟨L,rfl⟩:=h.base;exact Ag hf L
theorem PD{x8 x20 x21 x53 x54 x55:AV}{a k E i:Nat}{s:WSt}{r:AV×List Row×Nat->Prop}(hN:N<=6)(ha:a<N)(hk1:k/6<N)(hk2:k%6<N)(h:WS rows G s.1 s.2.1 R)(hs:SI N s)(hq:Qu (rows.length+3) R x8 s.2.2)(hE:Ae R E=some [.int .i64 (k/6:Nat),.int .i64 (k%6:Nat)])(hEb:rows.length+3<=E)(hne:E≠sid x8)(hf:IsL rows x1 fl)(hi:i<fl.length)
  (hc:∀R' x8',WS rows G (est a k (gI fl i) s).1 (est a k (gI fl i) s).2.1 R'->Qu (rows.length+3) R' x8' (est a k (gI fl i) s).2.2->
   Lc78l7 F (.fn [.t 4]) x1 (.ptr rows.length 0) (.ptr (rows.length+1) 0) (.map (rows.length+2)) x8' (.int .i64 a) (.int .i64 i) (.ptr E 0) x20 x21 x53 x54 x55 (.int .i64 2) R' rows.length r):
  Lc78l7 F (.fn [.t 4]) x1 (.ptr rows.length 0) (.ptr (rows.length+1) 0) (.map (rows.length+2)) x8 (.int .i64 a) (.int .i64 i) (.ptr E 0) x20 x21 x53 x54 x55 (.int .i64 0) R rows.length r:=by
 have h6:=hs.s6 hN;have hq6:=hs.q;refine TI hE (h.flow hf) hi ?_;refine KJ (kk:=0) h hs.d (by omega) (by omega) hq (by omega) hE hEb hne (by omega) (fun R1 x81 D1 S1 q1 e1 w1 u1 hE1 hne1=>?_);have hs1:=KM (a:=a) (fr:=k/6) (f:=gI fl i) hs hk2;have e1':stp a (k/6) (k%6) (gI fl i) s=(D1,S1,q1):=e1;have h61:=hs1.s6 hN;have hq61:=hs1.q;refine UA hE1 (w1.flow hf) hi ?_;rw[e1']at hs1 h61 hq61;have hq1l:q1.length<=S1.length:=hq61;have hs1l:S1.length<=6:=h61;refine KJ (kk:=1) w1 hs1.d (by omega) (by omega) u1 (by omega) hE1 hEb hne1 (by omega) (fun R2 x82 D2 S2 q2 e2 w2 u2 hE2 hne2=>?_);have e3:est a k (gI fl i) s=(D2,S2,q2):=by
  unfold est;rw[e1'];exact e2
 rw[e3]at hc;exact hc R2 x82 w2 u2
theorem XU{a k:Nat}{f:Int}{s:WSt}(h:SI N s)(hk1:k/6<N)(hk2:k%6<N):SI N (est a k f s):=KM (KM h hk2) hk1
theorem E6(hok:GOK N ks ps){a:Nat}{s:WSt}(h:SI N s):∀i,i<=ks.length->SI N (esS a ks fl s i)
 |0,_=>h
 |
  i+1,hi=>by
  have hee:=hok.ee _ (AH (show i<ks.length by omega));exact XU (E6 hok h i (by omega)) (by omega) hee.2
theorem Mw{x20 x21:AV}{a:Nat}{s:WSt}{r:AV×List Row×Nat->Prop}(hok:GOK N ks ps)(ha:a<N)(hs:SI N s)(he:El rows 2 ev (Ad .i64 (eC ks)) ks.length)(hf:IsL rows x1 fl)(hfl:fl.length=ks.length)
  (hc:∀R' x8',WS rows G (esS a ks fl s ks.length).1 (esS a ks fl s ks.length).2.1 R'->Qu (rows.length+3) R' x8' (esS a ks fl s ks.length).2.2->
   Lc78l4 F (.fn [.t 4]) x1 (.ptr rows.length 0) (.ptr (rows.length+1) 0) (.map (rows.length+2)) x8' x20 x21 R' rows.length r):
  ∀(d i:Nat) (R:List Row) (x8:AV),ks.length-i=d->i<=ks.length->WS rows G (esS a ks fl s i).1 (esS a ks fl s i).2.1 R->Qu (rows.length+3) R x8 (esS a ks fl s i).2.2->
  Lc78l5 F (.fn [.t 4]) x1 (.ptr rows.length 0) (.ptr (rows.length+1) 0) (.map (rows.length+2)) x8 (.int .i64 a) x20 x21 ev (.int .i64 ks.length) (.int .i64 i) R rows.length r:=by
 have hek:=hok.ek;have n6:=hok.n6;intro d
 induction d with
 |zero=>
  intro i R x8 hd h1 hw hq;have hi:i=ks.length:=by omega
  subst hi;have:=hc R x8 hw hq;unfold Lc78l5;simp;simpa using this
 |succ d ih=>
  intro i R x8 hd h1 hw hq;have hi:i<ks.length:=by omega
  have hww:IntKind.i64.wrap ((i:Int)+1)=((i+1:Nat):Int):=wS (by omega);obtain⟨e1,e2⟩:=KI hi;have hee:=hok.ee _ (AH hi);have he':=hw.flow he;have hRl:=hw.len;have hqid:sid x8<R.length:=by
   obtain⟨id,off,c,vs,rfl,_,_,hr,_⟩:=hq;exact(AcF.1 hr).1
  have hlw:Ab rows.length R.length=rows.length:=Ac (by omega)
  have hb:=PD (i:=i) (x8:=x8) (x20:=x20) (x21:=x21) (x53:=ev) (x54:=.int .i64 ks.length) (x55:=.int .i64 i) (E:=R.length) (k:=gN ks i) (r:=r) n6 ha (by omega) hee.2 (hw.app [.cells [.int .i64 (gN ks i/6:Nat),.int .i64 (gN ks i%6:Nat)]]) (E6 hok hs i (by omega)) (X9 hq _) B6 (by omega) (by omega) hf (by omega) (fun R' x8' w' u'=>by
   have:=ih (i+1) R' x8' (by omega) (by omega) w' u';unfold Lc78l7;simp[hww]
   simpa using this)
  have ix:=B7 he' hi;have ld:=P3 he' hi;rw[e1,e2]at ld;unfold Lc78l5;simp[hi,ix,ld,AV.cells,splice,hlw];simpa using hb
end
def qsS(ks:List Nat)(fl:List Int):Nat->WSt->WSt
 |0,s=>s
 |n+1,(D,S,[])=>(D,S,[])
 |n+1,(D,S,a::q)=>qsS ks fl n (esS a ks fl (D,S,q) ks.length)
def fiS(ks:List Nat)(fl:List Int):Nat->WSt
 |0=>(List.replicate 13 0,[],[])
 |i+1=>
  let s:=fiS ks fl i
  if i∈s.2.1 then s else qsS ks fl 20 (((s.1.set 12 (IntKind.i64.wrap (gI s.1 12+1))).set i i),s.2.1++[i],[i])
theorem OU{a fr to:Nat}{f:Int}{s:WSt}:(stp a fr to f s).2.2.length+s.2.1.length=s.2.2.length+(stp a fr to f s).2.1.length/\s.2.1.length<=(stp a fr to f s).2.1.length:=by
 unfold stp
 split
 ·simp;omega
 ·exact⟨rfl,AcE _⟩
theorem Kj{a:Nat}{ks:List Nat}{fl:List Int}{s:WSt}:∀i,(esS a ks fl s i).2.2.length+s.2.1.length=s.2.2.length+(esS a ks fl s i).2.1.length/\s.2.1.length<=(esS a ks fl s i).2.1.length
 |0=>⟨rfl,AcE _⟩
 |
  i+1=>by
  have ih:=Kj (a:=a) (ks:=ks) (fl:=fl) (s:=s) i;have h1:=OU (a:=a) (fr:=gN ks i/6) (to:=gN ks i%6) (f:=gI fl i) (s:=esS a ks fl s i);have h2:=OU (a:=a) (fr:=gN ks i%6) (to:=gN ks i/6) (f:=IntKind.i64.wrap (0-gI fl i)) (s:=stp a (gN ks i/6) (gN ks i%6) (gI fl i) (esS a ks fl s i));rw[esS,est];omega
def QIn(N:Nat)(s:WSt):Prop:=∀v∈s.2.2,v<N
theorem Nv{N a fr to:Nat}{f:Int}{s:WSt}(h:QIn N s)(ht:to<N):QIn N (stp a fr to f s):=by
 unfold stp
 split
 ·intro v hv
  rcases Ac2.1 hv with hv|hv
  ·exact h v hv
  ·simp only[Ado]at hv;omega
 ·exact h
theorem E1{N:Nat}{ks ps:List Nat}(hok:GOK N ks ps){a:Nat}{fl:List Int}{s:WSt}(h:QIn N s):∀i,i<=ks.length->QIn N (esS a ks fl s i)
 |0,_=>h
 |
  i+1,hi=>by
  have hee:=hok.ee _ (AH (show i<ks.length by omega));exact Nv (Nv (E1 hok h i (by omega)) hee.2) (by omega)
section
variable {rows R:List Row}{G:List AV}{N:Nat}{ks ps:List Nat}{x1:AV}{fl:List Int}
theorem Mj{x20 x21 n0 ev pv:AV}{r:AV×List Row×Nat->Prop}(hok:GOK N ks ps)(he:El rows 2 ev (Ad .i64 (eC ks)) ks.length)(hf:IsL rows x1 fl)(hfl:fl.length=ks.length):
  ∀(n:Nat) (s:WSt) (R:List Row) (x8:AV),2*(N-s.2.1.length)+s.2.2.length+1<=n->SI N s->QIn N s->WS rows [n0,ev,pv] s.1 s.2.1 R->Qu (rows.length+3) R x8 s.2.2->
  (∀R',SI N (qsS ks fl n s)->WS rows [n0,ev,pv] (qsS ks fl n s).1 (qsS ks fl n s).2.1 R'->∀sl:List (Nat×AV),lk sl 1=x1->lk sl 2 = .ptr rows.length 0->lk sl 5 = .ptr (rows.length+1) 0->lk sl 6 = .map (rows.length+2)->lk sl 20=x20->lk sl 21=x21->
   Ex F (.fn [.t 4]) [.code c78k3,.inLoop c78l2,.inBlock 0,.code c78s1] ⟨mk 116 sl,R',rows.length⟩ r)->
  Lc78l4 F (.fn [.t 4]) x1 (.ptr rows.length 0) (.ptr (rows.length+1) 0) (.map (rows.length+2)) x8 x20 x21 R rows.length r:=by
 intro n
 induction n with
 |zero=>intro s R x8 h;omega
 |succ n ih=>
  intro s R x8 hn hs hqi hw hq hc;obtain⟨D,S,q⟩:=s;cases q with
  |nil=>
   have hlen:evP R (.len 0 (.c x8))=some (.int .i64 0):=by
    obtain⟨id,off,c,vs,rfl,_⟩:=hq
    rfl
   have:=hc R hs hw;unfold Lc78l4;simp[hlen,-uc78k3];refine this _ ?_ ?_ ?_ ?_ ?_ ?_<;>simp
  |cons a q=>
   obtain⟨k1,k2,k3⟩:=V3 hq;obtain⟨x',p1,p2,p3⟩:=YP hq;have ha:a<N:=hqi a (Ad4 ..);have hs0:SI N (D,S,q):=⟨hs.d,hs.nd,hs.b,by have:(a::q).length<=S.length:=hs.q;simp only[AcU]at this;show q.length<=S.length;omega⟩
   have hq0:QIn N (D,S,q):=fun v hv=>hqi v (Adz _ hv)
   have hel:=Kj (a:=a) (ks:=ks) (fl:=fl) (s:=(D,S,q)) ks.length;have hes:=E6 (fl:=fl) (a:=a) hok hs0 ks.length (AcE _);have hS6:=List.Nodup.length_le_of_subset hes.nd (l₂:=List.range N) (fun x hx=>Adm.2 (hes.b x hx))
   have hed:=Mw (x20:=x20) (x21:=x21) (a:=a) (s:=(D,S,q)) (r:=r) hok ha hs0 he hf hfl (fun R' x8' w' u'=>by
    refine ih (esS a ks fl (D,S,q) ks.length) R' x8' ?_ hes (E1 hok hq0 _ (AcE _)) w' u' (fun R'' hs'' w''=>hc R'' hs'' w'');simp only[AcU,Aeb]at hn hel hS6
    omega) _ 0 R x' rfl (AcX _) hw p2
   have hg:=hw.g;have ln:=AF (hw.flow he);have hpos:((q.length:Int)+1>0):=by omega
   have i1:Aj (some (AV.int .i64 1)) 0 (q.length+1)=some 1:=by simp[Aj];omega
   unfold Lc78l4;simp[k1,k2,k3,p1,hg,ln];simpa using hed
end
section
variable {rows R:List Row}{G:List AV}{N:Nat}{ks ps:List Nat}{x1:AV}{fl:List Int}
theorem Tm(hok:GOK N ks ps):∀(n:Nat) (s:WSt),SI N s->QIn N s->SI N (qsS ks fl n s)
 |0,s,h,_=>h
 |n+1,(D,S,[]),h,_=>h
 |
  n+1,(D,S,a::q),h,hq=>by
  have hs0:SI N (D,S,q):=⟨h.d,h.nd,h.b,by have:(a::q).length<=S.length:=h.q;simp only[AcU]at this;show q.length<=S.length;omega⟩
  have hq0:QIn N (D,S,q):=fun v hv=>hq v (Adz _ hv)
  exact Tm hok n _ (E6 hok hs0 _ (AcE _)) (E1 hok hq0 _ (AcE _))
def FZ(s:WSt)(i:Nat):WSt:=((s.1.set 12 (IntKind.i64.wrap (gI s.1 12+1))).set i i,s.2.1++[i],[i])
theorem Ig{s:WSt}{i:Nat}(h:SI N s)(hi:i<N)(hn:i∉s.2.1):SI N (FZ s i)/\QIn N (FZ s i):=by
 refine⟨⟨by simp[FZ,h.d],?_,?_,by simp[FZ]⟩,?_⟩
 ·show(s.2.1++[i]).Nodup
  rw[List.nodup_append];refine⟨h.nd,by simp,?_⟩;intro x hx y hy e;simp only[Ado]at hy;subst e hy;exact hn hx
 ·intro v hv
  rcases Ac2.1 hv with hv|hv
  ·exact h.b v hv
  ·simp only[Ado]at hv;omega
 ·intro v hv
  have:v=i:=by simpa[FZ]using hv
  omega
theorem GT(hok:GOK N ks ps):∀i,i<=N->SI N (fiS ks fl i)
 |0,_=>⟨by simp[fiS],by simp[fiS],by simp[fiS],by simp[fiS]⟩
 |
  i+1,hi=>by
  have ih:=GT hok i (by omega);rw[fiS]
  split
  ·exact ih
  ·rename_i hn
   obtain⟨h1,h2⟩:=Ig ih (show i<N by omega) hn;exact Tm hok 20 _ h1 h2
theorem Mq{n0 ev pv:AV}{r:AV×List Row×Nat->Prop}(hok:GOK N ks ps)(he:El rows 2 ev (Ad .i64 (eC ks)) ks.length)(hf:IsL rows x1 fl)(hfl:fl.length=ks.length)
  (hc:∀R',WS rows [n0,ev,pv] (fiS ks fl N).1 (fiS ks fl N).2.1 R'->r (.ptr (rows.length+1) 0,R',rows.length)):
  ∀(d i:Nat) (R:List Row),N-i=d->i<=N->WS rows [n0,ev,pv] (fiS ks fl i).1 (fiS ks fl i).2.1 R->
  Lc78l2 F (.fn [.t 4]) x1 (.ptr rows.length 0) (.ptr (rows.length+1) 0) (.map (rows.length+2)) (.int .i64 N) (.int .i64 i) R rows.length r:=by
 have n6:=hok.n6;intro d
 induction d with
 |zero=>
  intro i R hd h1 hw;have hi:i=N:=by omega
  subst hi;have:=hc R hw;unfold Lc78l2;simp;exact this
 |succ d ih=>
  intro i R hd h1 hw;have hi:i<N:=by omega
  have hww:IntKind.i64.wrap ((i:Int)+1)=((i+1:Nat):Int):=wS (by omega);have hlook:=Oc (t:=i) hw.m;have hsi:=GT (fl:=fl) hok i (by omega)
  by_cases c:i∈(fiS ks fl i).2.1
  ·have hst:fiS ks fl (i+1)=fiS ks fl i:=by rw[fiS];simp only[if_pos c]
   have:=ih (i+1) R (by omega) (by omega) (by rw[hst];exact hw);unfold Lc78l2;simp[hi,hlook,c,hww];simpa using this
  ·have hst:fiS ks fl (i+1)=qsS ks fl 20 (FZ (fiS ks fl i) i):=by rw[fiS];simp only[if_neg c];rfl
   obtain⟨hs1,hs2⟩:=Ig hsi hi c;have hD:=hsi.d;generalize hs:fiS ks fl i=s at *;obtain⟨D,S,q⟩:=s;simp only at hw hlook c hD
   -- the stores
   have hRl:=hw.len;have hrow:Ae R (rows.length+1)=some (Ad .i64 D):=by unfold Ae;rw[hw.d]
   have hcel:cells? R (rows.length+1)=some (Ad .i64 D):=by unfold cells?;rw[hw.d]
   have hnl:(Ad .i64 D).length=13:=by simp[Ad,hD]
   obtain⟨D1,hD1⟩:∃D1,D1=D.set 12 (IntKind.i64.wrap (gI D 12+1)):=⟨_,rfl⟩
   have h12:12<D.length:=by omega
   have hu12:D.set 12 (IntKind.i64.wrap (D[12]+1))=D1:=by rw[hD1,CY h12]
   have hw1:=hw.setD D1;have hlw1:Ab rows.length (rows.length+1)=rows.length:=Ac (by omega);have hlw2:Ab rows.length (rows.length+2)=rows.length:=Ac (by omega);obtain⟨R1,hR1⟩:∃R1,R1=R.set (rows.length+1) (.cells (Ad .i64 D1)):=⟨_,rfl⟩
   rw[<-hR1]at hw1;have hms:=Nc (low:=rows.length) hw1.m c;rw[hlw2]at hms;have hw2:=hw1.setS (S++[i]);obtain⟨R2,hR2⟩:∃R2,R2=R1.set (rows.length+2) (.mp (mpE (S++[i]))):=⟨_,rfl⟩
   rw[<-hR2]at hw2 hms;have hcel2:cells? R2 (rows.length+1)=some (Ad .i64 D1):=by unfold cells?;rw[hw2.d]
   have hnl2:(Ad .i64 D1).length=13:=by simp[Ad,hD1,hD]
   have hset2:(Ad .i64 D1).set i (.int .i64 i)=Ad .i64 (D1.set i i):=by simp[Ad,Aeh]
   have hw3:=hw2.setD (D1.set i i);obtain⟨R3,hR3⟩:∃R3,R3=R2.set (rows.length+1) (.cells (Ad .i64 (D1.set i i))):=⟨_,rfl⟩
   rw[<-hR3]at hw3;have hw4:=hw3.app [.cells [.int .i64 i]];have hQ:Qu (rows.length+3) (R3++[.cells [.int .i64 i]]) (.slice R3.length 0 1 (.at_ 1)) [i]:=⟨R3.length,0,.at_ 1,[.int .i64 i],rfl,hw3.len,.inl rfl,by simp,by simp[seg,Ad]⟩
   have hini:FZ (D,S,q) i=(D1.set i i,S++[i],[i]):=by unfold FZ;rw[hD1]
   have hlen0:2*(N-(S++[i]).length)+1+1<=20:=by omega
   rw[hini]at hs1 hs2 hst
   have hqu:=Mj (x20:=.int .i64 N) (x21:=.int .i64 i) (r:=r) hok he hf hfl 20 (D1.set i i,S++[i],[i]) (R3++[.cells [.int .i64 i]]) (.slice R3.length 0 1 (.at_ 1)) hlen0 hs1 hs2 hw4 hQ (fun R' _ w' sl t1 t2 t5 t6 t20 t21=>by
    have:=ih (i+1) R' (by omega) (by omega) (by rw[hst];exact w');simp[t1,t2,t5,t6,t20,t21,hww]
    simpa using this)
   have hi6:AI (i:Int) 6=some i:=by simp;omega
   have hi13:i<13:=by omega
   unfold Lc78l2;simp[hi,hlook,c,hrow,h12,hcel,hnl,hu12,hlw1,<-hR1,hms,hi6,hcel2,hnl2,hi13,hset2,<-hR3,Ap,splice];simpa using hqu
end
structure Rl(ks:List Nat)(a:Nat)(s s':WSt):Prop where
 S:∀v∈s.2.1,v∈s'.2.1
 q:∀v∈s.2.2,v∈s'.2.2
 n:∀v∈s'.2.1,v∈s.2.1\/(v∈s'.2.2/\Adj ks a v)
 p:∀v∈s'.2.2,v∈s.2.2\/v∈s'.2.1/\Adj ks a v
 d:gI s'.1 12=gI s.1 12
theorem Rl.refl{ks:List Nat}{a:Nat}{s:WSt}:Rl ks a s s:=⟨fun _ h=>h,fun _ h=>h,fun _ h=>.inl h,fun _ h=>.inl h,rfl⟩
theorem Rl.trans{ks:List Nat}{a:Nat}{s s1 s2:WSt}(h:Rl ks a s s1)(k:Rl ks a s1 s2):Rl ks a s s2:=
 ⟨fun v hv=>k.S v (h.S v hv),fun v hv=>k.q v (h.q v hv),fun v hv=>by
  rcases k.n v hv with e|e
  ·rcases h.n v e with e|⟨e1,e2⟩
   ·exact .inl e
   ·exact .inr ⟨k.q v e1,e2⟩
  ·exact .inr e,fun v hv=>by
  rcases k.p v hv with e|e
  ·rcases h.p v e with e|⟨e1,e2⟩
   ·exact .inl e
   ·exact .inr ⟨k.S v e1,e2⟩
  ·exact .inr e,k.d.trans h.d⟩
theorem Ts{ks:List Nat}{a fr to:Nat}{f:Int}{s:WSt}(hadj:Adj ks fr to)(ht:to<6):Rl ks a s (stp a fr to f s)/\(fr=a->to∈(stp a fr to f s).2.1):=by
 unfold stp
 split
 ·rename_i hc
  obtain⟨rfl,hc2⟩:=hc;refine⟨⟨fun v h=>Adw _ h,fun v h=>Adw _ h,fun v h=>?_,fun v h=>?_,?_⟩,fun _=>by simp⟩
  ·rcases Ac2.1 h with h|h
   ·exact .inl h
   ·right
    simp only[Ado]at h;subst h;exact⟨by simp,hadj⟩
  ·rcases Ac2.1 h with h|h
   ·exact .inl h
   ·right
    simp only[Ado]at h;subst h;exact⟨by simp,hadj⟩
  ·show gI ((s.1.set to _).set (6+to) _) 12=gI s.1 12
   rw[AT (by omega),AT (by omega)]
 ·rename_i hc
  refine⟨Rl.refl,fun e=>?_⟩;exact Classical.byContradiction fun h=>hc ⟨e,h⟩
section
variable {N:Nat}{ks ps:List Nat}{fl:List Int}
theorem Si(hok:GOK N ks ps){a:Nat}{s:WSt}:∀i,i<=ks.length->Rl ks a s (esS a ks fl s i)/\∀j,j<i->(gN ks j/6=a->gN ks j%6∈(esS a ks fl s i).2.1)/\(gN ks j%6=a->gN ks j/6∈(esS a ks fl s i).2.1)
 |0,_=>⟨Rl.refl,fun j hj=>by omega⟩
 |
  i+1,hi=>by
  obtain⟨h1,h2⟩:=Si hok (a:=a) (s:=s) i (by omega);have hil:i<ks.length:=by omega
  have hee:=hok.ee _ (AH hil);have n6:=hok.n6;have ha:=O4 hil;have k1:=Ts (a:=a) (f:=gI fl i) (s:=esS a ks fl s i) ha (by omega);have k2:=Ts (a:=a) (f:=IntKind.i64.wrap (0-gI fl i)) (s:=stp a (gN ks i/6) (gN ks i%6) (gI fl i) (esS a ks fl s i)) ha.symm (by omega);have e:esS a ks fl s (i+1)=stp a (gN ks i%6) (gN ks i/6) (IntKind.i64.wrap (0-gI fl i)) (stp a (gN ks i/6) (gN ks i%6) (gI fl i) (esS a ks fl s i)):=rfl;rw[e];refine⟨(h1.trans k1.1).trans k2.1,fun j hj=>?_⟩
  by_cases c:j=i
  ·subst c
   exact⟨fun e=>k2.1.S _ (k1.2 e),fun e=>k2.2 e⟩
  ·obtain⟨m1,m2⟩:=h2 j (by omega)
   exact⟨fun e=>k2.1.S _ (k1.1.S _ (m1 e)),fun e=>k2.1.S _ (k1.1.S _ (m2 e))⟩
def ClQ(ks:List Nat)(s:WSt):Prop:=(∀v∈s.2.2,v∈s.2.1)/\∀v∈s.2.1,v∉s.2.2->∀w,Adj ks v w->w∈s.2.1
theorem Ss(hok:GOK N ks ps):∀(n:Nat) (s:WSt),SI N s->QIn N s->ClQ ks s->2*(N-s.2.1.length)+s.2.2.length+1<=n->
  (∀v∈s.2.1,v∈(qsS ks fl n s).2.1)/\(∀v∈(qsS ks fl n s).2.1,∀w,Adj ks v w->w∈(qsS ks fl n s).2.1)/\gI (qsS ks fl n s).1 12=gI s.1 12/\∀v∈(qsS ks fl n s).2.1,v∈s.2.1\/∃u∈s.2.2,Cn ks u v
 |0,s,_,_,_,h=>by omega
 |
  n+1,(D,S,[]),hs,hq,hc,h=>by
  refine⟨fun v hv=>hv,fun v hv w hw=>hc.2 v hv (by simp) w hw,rfl,fun v hv=>.inl hv⟩
 |
  n+1,(D,S,a::q),hs,hq,hc,h=>by
  have hs0:SI N (D,S,q):=⟨hs.d,hs.nd,hs.b,by have:(a::q).length<=S.length:=hs.q;simp only[AcU]at this;show q.length<=S.length;omega⟩
  have hq0:QIn N (D,S,q):=fun v hv=>hq v (Adz _ hv)
  have hel:=Kj (a:=a) (ks:=ks) (fl:=fl) (s:=(D,S,q)) ks.length;have hes:=E6 (fl:=fl) (a:=a) hok hs0 ks.length (AcE _);have hS6:=List.Nodup.length_le_of_subset hes.nd (l₂:=List.range N) (fun x hx=>Adm.2 (hes.b x hx));obtain⟨r1,r2⟩:=Si (fl:=fl) hok (a:=a) (s:=(D,S,q)) ks.length (AcE _);have e:qsS ks fl (n+1) (D,S,a::q)=qsS ks fl n (esS a ks fl (D,S,q) ks.length):=rfl;rw[e];obtain⟨c1,c2⟩:=hc;have hcl:ClQ ks (esS a ks fl (D,S,q) ks.length):=by
   refine⟨fun v hv=>?_,fun v hv hnq w hw=>?_⟩
   ·rcases r1.p v hv with e|⟨e,_⟩
    ·exact r1.S v (c1 v (Adz _ e))
    ·exact e
   ·rcases r1.n v hv with e|⟨e,_⟩
    ·by_cases ca:v=a
     ·subst ca
      obtain⟨k,hk,e1|e1⟩:=hw
      ·obtain⟨j,hj,rfl⟩:=Ad8.1 hk
       rw[<-EO hj]at e1;have:=(r2 j hj).1 e1.1;rwa[e1.2]at this
      ·obtain⟨j,hj,rfl⟩:=Ad8.1 hk
       rw[<-EO hj]at e1;have:=(r2 j hj).2 e1.2;rwa[e1.1]at this
     ·refine r1.S w (c2 v e ?_ w hw)
      intro hm;rcases Ade.1 hm with hm|hm
      ·exact ca hm
      ·exact hnq (r1.q v hm)
    ·exact absurd e hnq
  have ih:=Ss hok n (esS a ks fl (D,S,q) ks.length) hes (E1 hok hq0 _ (AcE _)) hcl (by
   simp only[AcU,Aeb]at h hel hS6
   omega)
  obtain⟨i1,i2,i3,i4⟩:=ih;refine⟨fun v hv=>i1 v (r1.S v hv),i2,i3.trans r1.d,fun v hv=>?_⟩;rcases i4 v hv with h4|⟨u,hu,hcn⟩
  ·rcases r1.n v h4 with e|⟨_,e⟩
   ·exact .inl e
   ·exact .inr ⟨a,Ad4 ..,.step (.refl _) e⟩
  ·rcases r1.p u hu with e|⟨_,e⟩
   ·exact .inr ⟨u,Adz _ e,hcn⟩
   ·exact .inr ⟨a,Ad4 ..,Cn.trans (.step (.refl _) e) hcn⟩
theorem TY(i:Nat):cntL ks i<=i:=by
 induction i with
 |zero=>exact AcE _
 |succ i ih=>
  rw[cntL]
  split<;>omega
theorem I9{S:List Nat}(h:∀v∈S,∀w,Adj ks v w->w∈S){u v:Nat}(hc:Cn ks u v)(hu:u∈S):v∈S:=by
 induction hc with
 |refl=>exact hu
 |step _ a ih=>exact h _ ih _ a
theorem KL(hok:GOK N ks ps):∀i,i<=N->(∀v∈(fiS ks fl i).2.1,∀w,Adj ks v w->w∈(fiS ks fl i).2.1)/\(∀u,u<i->u∈(fiS ks fl i).2.1)/\(∀v∈(fiS ks fl i).2.1,∃u,u<i/\Cn ks u v)/\gI (fiS ks fl i).1 12=(cntL ks i:Int)
 |0,_=>⟨by simp[fiS],fun u h=>by omega,by simp[fiS],rfl⟩
 |
  i+1,hi=>by
  obtain⟨h1,h2,h3,h4⟩:=KL hok i (by omega);have hsi:=GT (fl:=fl) hok i (by omega);have n6:=hok.n6;have hcl:=TY (ks:=ks) i
  by_cases c:i∈(fiS ks fl i).2.1
  ·have hst:fiS ks fl (i+1)=fiS ks fl i:=by rw[fiS];simp only[if_pos c]
   rw[hst];obtain⟨u,hu,hcn⟩:=h3 i c;have hnl:¬Lst ks i:=fun h=>by have:=h u hcn.symm;omega
   refine⟨h1,fun v hv=>?_,fun v hv=>?_,?_⟩
   ·by_cases e:v=i
    ·subst e;exact c
    ·exact h2 v (by omega)
   ·obtain⟨u,hu,hcn⟩:=h3 v hv
    exact⟨u,by omega,hcn⟩
   ·rw[h4,cntL,if_neg hnl];rfl
  ·have hst:fiS ks fl (i+1)=qsS ks fl 20 (FZ (fiS ks fl i) i):=by rw[fiS];simp only[if_neg c];rfl
   obtain⟨hs1,hs2⟩:=Ig hsi (show i<N by omega) c;have hl:Lst ks i:=fun u hu=>by
    apply Classical.byContradiction;intro hlt;exact c (I9 h1 hu.symm (h2 u (by omega)))
   have hC:ClQ ks (FZ (fiS ks fl i) i):=by
    refine⟨fun v hv=>?_,fun v hv hnq w hw=>?_⟩
    ·have:v=i:=by simpa[FZ]using hv
     subst this;simp[FZ]
    ·have hvi:v≠i:=fun e=>hnq (by subst e;simp[FZ])
     have hvS:v∈(fiS ks fl i).2.1:=by
      have:v∈(fiS ks fl i).2.1++[i]:=hv;rcases Ac2.1 this with h|h
      ·exact h
      ·simp only[Ado]at h;exact absurd h hvi
     exact Adw _ (h1 v hvS w hw)
   obtain⟨q1,q2,q3,q4⟩:=Ss (fl:=fl) hok 20 _ hs1 hs2 hC (by show 2*(N-((fiS ks fl i).2.1++[i]).length)+1+1<=20;omega);rw[hst];refine⟨q2,fun v hv=>?_,fun v hv=>?_,?_⟩
   ·by_cases e:v=i
    ·subst e;exact q1 v (by simp[FZ])
    ·exact q1 v (Adw _ (h2 v (by omega)))
   ·rcases q4 v hv with h|⟨u,hu,hcn⟩
    ·have:v∈(fiS ks fl i).2.1++[i]:=h
     rcases Ac2.1 this with h|h
     ·obtain⟨u,hu,hcn⟩:=h3 v h
      exact⟨u,by omega,hcn⟩
     ·simp only[Ado]at h
      subst h;exact⟨v,by omega,.refl _⟩
    ·have:u=i:=by simpa[FZ]using hu
     subst this;exact⟨u,by omega,hcn⟩
   ·rw[q3]
    show gI (((fiS ks fl i).1.set 12 (IntKind.i64.wrap (gI (fiS ks fl i).1 12+1))).set i i) 12=_;rw[AT (by omega),CN (by rw[hsi.d];omega),h4,cntL,if_pos hl,AM (by omega) (by omega)];omega
end
section
variable {rows R:List Row}{N:Nat}{ks ps:List Nat}{g x1:AV}{fl:List Int}
theorem QD{L:List Row}{o:Nat}{vs:List AV}(h:L[1]?=some (.cells vs))(hv:vs.all (·.ids.isEmpty)=true):fin rows (.ptr (rows.length+1) o) (rows++L) rows.length=(.ptr rows.length o,rows++[.cells vs],none):=by
 have e:¬rows.length+1<rows.length:=by omega
 unfold fin;rw[if_pos rfl];have hid:(AV.ptr (rows.length+1) o).ids=[rows.length+1]:=rfl;rw[hid];simp only[AdH,Aes,Aeu,decide_eq_true_eq];rw[if_neg e,JQ,h];simp[hv,AV.plain1,AV.plain,AV.ren1,AV.ren]
theorem Mp(hg:GRd rows g N ks ps)(hf:IsL rows x1 fl)(hfl:fl.length=ks.length):Ret F 78 [g,x1] rows=some (.ptr rows.length 0,rows++[.cells (Ad .i64 (fiS ks fl N).1)],none):=by
 obtain⟨ev,pv,rfl,he,hp,_⟩:=id hg.eq;have hok:=hg.ok;have o1:=An he;have o2:=An hp;have hw0:WS rows [.int .i64 N,ev,pv] (List.replicate 13 0) [] (rows++[.cells [.int .i64 N,ev,pv],.cells (Ad .i64 (List.replicate 13 0)),.mp []]):=⟨⟨_,rfl⟩,by simp[Ae],by simp,by simp[mpE]⟩
 have hloop:=Mq (x1:=x1) (fl:=fl) (n0:=.int .i64 N) (pv:=pv) (r:=fun r=>fin rows r.1 r.2.1 r.2.2=(.ptr rows.length 0,rows++[.cells (Ad .i64 (fiS ks fl N).1)],none)) hok he hf hfl (fun R' hw=>by
  obtain⟨L,rfl⟩:=hw.base;have hd:=hw.d;rw[AcG (by omega),AcS]at hd
  exact QD hd QA) _ 0 _ rfl (AcX _) hw0
 have hz:AV.cells (.agg (List.replicate 13 (AV.int .i64 0)))=Ad .i64 (List.replicate 13 0):=rfl;refine i78 F78 ?_;simp[o1,o2,Ap,Ad]at hloop ⊢;simpa using hloop
theorem OD{m:Nat}:∀x∈List.replicate m (0:Int),-100<=x/\x<=100:=by
 intro x hx;have:=List.eq_of_mem_replicate hx;omega
end
def bfv(s:WSt)(v:Nat):Int:=gI s.1 v
def htv(s:WSt)(v:Nat):Int:=gI s.1 (6+v)
def Tre(ks:List Nat)(fl:List Int)(hu hv:Int)(u v:Nat):Prop:=∃j,j<ks.length/\((gN ks j/6=u/\gN ks j%6=v/\hv=hu+gI fl j)\/(gN ks j/6=v/\gN ks j%6=u/\hv=hu-gI fl j))
structure HI(N:Nat)(ks:List Nat)(fl:List Int)(s:WSt):Prop where
 z:∀v,v<6->v∉s.2.1->htv s v=0
 bd:∀v∈s.2.1,-100*(s.2.1.length:Int)<=htv s v/\htv s v<=100*(s.2.1.length:Int)
 tr:∀v∈s.2.1,(bfv s v=v/\htv s v=0/\Lst ks v)\/∃u,u∈s.2.1/\s.2.1.idxOf u<s.2.1.idxOf v/\bfv s v=u/\Tre ks fl (htv s u) (htv s v) u v
section
variable {N:Nat}{ks ps:List Nat}{fl:List Int}
theorem CK{S:List Nat}{v t:Nat}(h:v∈S):(S++[t]).idxOf v=S.idxOf v:=by
 rw[List.idxOf_append,if_pos h]
theorem PE{S:List Nat}{t:Nat}(h:t∉S):(S++[t]).idxOf t=S.length:=by
 rw[List.idxOf_append,if_neg h];simp
theorem Sn{s:WSt}(hN:N<=6)(hs:SI N s)(hh:HI N ks fl s){a fr to j:Nat}{f:Int}(ha:a∈s.2.1)(ht:to<N)(hj:j<ks.length)(hf : -100<=gI fl j/\gI fl j<=100)
  (he:(gN ks j/6=fr/\gN ks j%6=to/\f=gI fl j)\/(gN ks j/6=to/\gN ks j%6=fr/\f = - gI fl j)):HI N ks fl (stp a fr to f s):=by
 unfold stp
 split
 ·rename_i hc
  obtain⟨rfl,hc2⟩:=hc;have h6:=hs.s6 hN;have haN:=hs.b _ ha;have hd:=hs.d;have hba:=hh.bd _ ha;have hbf : -100<=f/\f<=100:=by rcases he with h|h<;>omega
  have hw:IntKind.i64.wrap (gI s.1 (6+fr)+f)=htv s fr+f:=by
   unfold htv at hba ⊢;exact AM (by omega) (by omega)
  rw[hw];have hne:∀v∈s.2.1,v≠to:=fun v hv e=>hc2 (e ▸ hv)
  obtain⟨s',hs',hS⟩:∃s':WSt,s'=((s.1.set to (fr:Int)).set (6+to) (htv s fr+f),s.2.1++[to],s.2.2++[to])/\s'.2.1=s.2.1++[to]:=⟨_,rfl,rfl⟩
  rw[<-hs'];have hb:∀v,v<N->v≠to->bfv s' v=bfv s v:=fun v hv hvt=>by
   rw[hs'];show gI ((s.1.set to _).set (6+to) _) v=gI s.1 v;rw[AT (by omega),AT (by omega)]
  have hht:∀v,v≠to->htv s' v=htv s v:=fun v hvt=>by
   rw[hs'];show gI ((s.1.set to _).set (6+to) _) (6+v)=gI s.1 (6+v);rw[AT (by omega),AT (by omega)]
  have hbt:bfv s' to=fr:=by
   rw[hs'];show gI ((s.1.set to _).set (6+to) _) to=_;rw[AT (by omega),CN (by omega)]
  have htt:htv s' to=htv s fr+f:=by
   rw[hs'];show gI ((s.1.set to _).set (6+to) _) (6+to)=_;rw[CN (by simp;omega)]
  have hft:fr≠to:=hne fr ha;refine⟨fun v hv hn=>?_,fun v hv=>?_,fun v hv=>?_⟩
  ·rw[hS]at hn
   have h1:v≠to:=fun e=>hn (by simp[e])
   rw[hht v h1];exact hh.z v hv fun h=>hn (Adw _ h)
  ·rw[hS]at hv ⊢
   rw[AcO,List.length_singleton];rcases Ac2.1 hv with h|h
   ·rw[hht v (hne v h)]
    have:=hh.bd v h;omega
   ·simp only[Ado]at h
    subst h;rw[htt];omega
  ·rw[hS]at hv ⊢
   rcases Ac2.1 hv with h|h
   ·have h1:=hne v h
    rw[hb v (hs.b v h) h1,hht v h1];rcases hh.tr v h with e|⟨u,e1,e2,e3,e4⟩
    ·exact .inl e
    ·right
     refine⟨u,Adw _ e1,?_,e3,?_⟩
     ·rw[CK e1,CK h];exact e2
     ·rw[hht u (hne u e1)];exact e4
   ·simp only[Ado]at h
    subst h;right;refine⟨fr,Adw _ ha,?_,hbt,?_⟩
    ·rw[CK ha,PE hc2];exact List.idxOf_lt_length_of_mem ha
    ·rw[htt,hht fr hft]
     refine⟨j,hj,?_⟩;rcases he with ⟨h1,h2,h3⟩|⟨h1,h2,h3⟩
     ·exact .inl ⟨h1,h2,by omega⟩
     ·exact .inr ⟨h1,h2,by omega⟩
 ·exact hh
def QS(s:WSt):Prop:=∀v∈s.2.2,v∈s.2.1
theorem Tk{a fr to:Nat}{f:Int}{s:WSt}(h:QS s):QS (stp a fr to f s):=by
 unfold stp
 split
 ·intro v hv
  rcases Ac2.1 hv with hv|hv
  ·exact Adw _ (h v hv)
  ·exact List.mem_append_right _ hv
 ·exact h
theorem V8{a fr to:Nat}{f:Int}{s:WSt}{v:Nat}(h:v∈s.2.1):v∈(stp a fr to f s).2.1:=by
 unfold stp
 split
 ·exact Adw _ h
 ·exact h
theorem SC{a:Nat}{s:WSt}(h:QS s):∀i,QS (esS a ks fl s i)
 |0=>h
 |i+1=>Tk (Tk (SC h i))
theorem Y5{a:Nat}{s:WSt}{v:Nat}(h:v∈s.2.1):∀i,v∈(esS a ks fl s i).2.1
 |0=>h
 |i+1=>V8 (V8 (Y5 h i))
theorem SS(hok:GOK N ks ps)(hfl:fl.length=ks.length)(hb:∀x∈fl,-100<=x/\x<=100){a:Nat}{s:WSt}(hs:SI N s)(hh:HI N ks fl s)(ha:a∈s.2.1):∀i,i<=ks.length->HI N ks fl (esS a ks fl s i)
 |0,_=>hh
 |
  i+1,hi=>by
  have ih:=SS hok hfl hb hs hh ha i (by omega);have his:=E6 (fl:=fl) (a:=a) hok hs i (by omega);have hee:=hok.ee _ (AH (show i<ks.length by omega));have hbi:=IT hb (i:=i) (by omega);have hai:=Y5 (ks:=ks) (fl:=fl) (a:=a) ha i;have hw:IntKind.i64.wrap (0-gI fl i) = - gI fl i:=by rw[AM (by omega) (by omega)];omega
  have h1:=Sn hok.n6 his ih (a:=a) (fr:=gN ks i/6) (to:=gN ks i%6) (j:=i) (f:=gI fl i) hai hee.2 (by omega) hbi (.inl ⟨rfl,rfl,rfl⟩);have s1:=KM (a:=a) (fr:=gN ks i/6) (f:=gI fl i) his hee.2;exact Sn hok.n6 s1 h1 (a:=a) (fr:=gN ks i%6) (to:=gN ks i/6) (j:=i) (V8 hai) (by omega) (by omega) hbi (.inr ⟨rfl,rfl,hw⟩)
theorem Sy(hok:GOK N ks ps)(hfl:fl.length=ks.length)(hb:∀x∈fl,-100<=x/\x<=100):∀(n:Nat) (s:WSt),SI N s->QIn N s->QS s->HI N ks fl s->HI N ks fl (qsS ks fl n s)
 |0,s,_,_,_,h=>h
 |n+1,(D,S,[]),_,_,_,h=>h
 |
  n+1,(D,S,a::q),hs,hq,hqs,h=>by
  have hs0:SI N (D,S,q):=⟨hs.d,hs.nd,hs.b,by have:(a::q).length<=S.length:=hs.q;simp only[AcU]at this;show q.length<=S.length;omega⟩
  have hq0:QIn N (D,S,q):=fun v hv=>hq v (Adz _ hv)
  have hqs0:QS (D,S,q):=fun v hv=>hqs v (Adz _ hv)
  have h0:HI N ks fl (D,S,q):=⟨h.z,h.bd,h.tr⟩
  exact Sy hok hfl hb n _ (E6 hok hs0 _ (AcE _)) (E1 hok hq0 _ (AcE _)) (SC hqs0 _) (SS hok hfl hb hs0 h0 (hqs a (Ad4 ..)) _ (AcE _))
theorem VF{s:WSt}{i:Nat}(hs:SI N s)(hh:HI N ks fl s)(hi:i<N)(hN:N<=6)(hn:i∉s.2.1)(hl:Lst ks i):HI N ks fl (FZ s i):=by
 have hd:=hs.d;have hS:(FZ s i).2.1=s.2.1++[i]:=rfl;have hne:∀v∈s.2.1,v≠i:=fun v hv e=>hn (e ▸ hv)
 have hb:∀v,v<6->v≠i->bfv (FZ s i) v=bfv s v:=fun v hv hvi=>by
  show gI ((s.1.set 12 _).set i _) v=gI s.1 v;rw[AT (by omega),AT (by omega)]
 have hbi:bfv (FZ s i) i=i:=by
  show gI ((s.1.set 12 _).set i _) i=_;rw[CN (by simp;omega)]
 have hht:∀v,v<6->htv (FZ s i) v=htv s v:=fun v hv=>by
  show gI ((s.1.set 12 _).set i _) (6+v)=gI s.1 (6+v);rw[AT (by omega),AT (by omega)]
 have hz:=hh.z i (by omega) hn;refine⟨fun v hv hvn=>?_,fun v hv=>?_,fun v hv=>?_⟩
 ·rw[hS]at hvn
  rw[hht v hv];exact hh.z v hv fun h=>hvn (Adw _ h)
 ·rw[hS]at hv ⊢
  rw[AcO,List.length_singleton];rcases Ac2.1 hv with h|h
  ·have:=hs.b v h
   rw[hht v (by omega)];have:=hh.bd v h;omega
  ·simp only[Ado]at h
   subst h;rw[hht v (by omega),hz];omega
 ·rw[hS]at hv ⊢
  rcases Ac2.1 hv with h|h
  ·have h1:=hne v h
   have h2:=hs.b v h;rw[hb v (by omega) h1,hht v (by omega)];rcases hh.tr v h with e|⟨u,e1,e2,e3,e4⟩
   ·exact .inl e
   ·right
    have:=hs.b u e1;refine⟨u,Adw _ e1,?_,e3,?_⟩
    ·rw[CK e1,CK h];exact e2
    ·rw[hht u (by omega)];exact e4
  ·simp only[Ado]at h
   subst h;left;exact⟨hbi,by rw[hht v (by omega)];exact hz,hl⟩
theorem Ps(hok:GOK N ks ps)(hfl:fl.length=ks.length)(hb:∀x∈fl,-100<=x/\x<=100):∀i,i<=N->HI N ks fl (fiS ks fl i)
 |
  0,_=>by
  refine⟨fun v hv _=>?_,fun v hv=>by simp[fiS]at hv,fun v hv=>by simp[fiS]at hv⟩;show gI (List.replicate 13 0) (6+v)=0;simp only[gI,AdD,AdU];rw[if_pos (by omega)]
  rfl
 |
  i+1,hi=>by
  have ih:=Ps hok hfl hb i (by omega);have hsi:=GT (fl:=fl) hok i (by omega);obtain⟨h1,h2,_,_⟩:=KL (fl:=fl) hok i (by omega);rw[fiS]
  split
  ·exact ih
  ·rename_i hn
   have hl:Lst ks i:=fun u hu=>by
    apply Classical.byContradiction;intro hlt;exact hn (I9 h1 hu.symm (h2 u (by omega)))
   obtain⟨k1,k2⟩:=Ig hsi (show i<N by omega) hn
   exact Sy hok hfl hb 20 (FZ (fiS ks fl i) i) k1 k2 (fun v hv=>by
    have:v=i:=by simpa[FZ]using hv
    subst this
    exact List.mem_append_right _ (by simp)) (VF hsi ih (by omega) hok.n6 hn hl)
end
section
variable {rows B:List Row}{N:Nat}{ks ps:List Nat}{x1 ev g:AV}{fl D l:List Int}
def hts(N:Nat)(D:List Int):List Int:=(D.drop 6).take N
end
def bls(l:List Bool):List AV:=l.map AV.bool
section
variable {B L:List Row}{n:Nat}{c:Cap}{v:AV}
end
abbrev HSt:=List Int×List Bool
section
variable {N:Nat}{ks ps:List Nat}{fl:List Int}
end
section
variable {N:Nat}{ks ps:List Nat}{fl:List Int}
theorem Rw{l:List Int}{j:Nat}(hj:j<ks.length):gI (D8 ks l) j=gI l (gN ks j%6)-gI l (gN ks j/6):=by
 have h1:j<(D8 ks l).length:=by rw[Ik];exact hj
 rw[CY h1];simp[D8,EO hj]
end
def hR(B M:List Row)(G:List AV)(t:HSt):List Row:=B++(.cells G::.cells (Ad .i64 t.1)::.cells (bls t.2)::M)
section
variable {B M:List Row}{G:List AV}{t:HSt}{N low i:Nat}
end
section
variable {B M:List Row}{N:Nat}{ks ps:List Nat}{x1 x8 ev pv:AV}{fl p:List Int}{low:Nat}
end
section
variable {F:Nat->Option IFn}{cx:Ctx}{k:List Itm}{r:AV×List Row×Nat->Prop}
theorem LZ{B:Nat->List Row}{i d b n:Nat}{l:List (Nat×AV)}{g:List (IOpx×Nat)}{z:Nat}{x y:Opd}:At (Ret F) B i ((⟨some d,.idxS z x y,none⟩,b)::g) (mk n l) []=(evP (B i) (.idxS z (AY (Ak (mk n l)) x) (AY (Ak (mk n l)) y))).bind fun v=>At (Ret F) B (i+1) g (mk n ((d,v)::l)) []:=Dk rfl
end
section
variable {k:List Itm}{cx:Ctx}{r:AV×List Row×Nat->Prop}
end
section
variable {R:List Row}{id n low:Nat}{c:Cap}{l:List Int}
end
def pth(D:List Int):Nat->Nat->List Int
 |0,v=>[(v:Int)]
 |n+1,v=>if gI D v=v then[(v:Int)]else(v:Int)::pth D n (gI D v).toNat
def Pok(D:List Int):Nat->Nat->Prop
 |0,v=>v<6/\gI D v=v
 |n+1,v=>v<6/\(gI D v=v\/∃u:Nat,gI D v=u/\u≠v/\Pok D n u)
theorem Hq{D:List Int}:∀n v,1<=(pth D n v).length/\(pth D n v).length<=n+1
 |0,v=>by simp[pth]
 |
  n+1,v=>by
  rw[pth]
  split
  ·simp
  ·have:=Hq (D:=D) n (gI D v).toNat
   simp only[AcU];omega
section
variable {rows R:List Row}{N:Nat}{ks ps:List Nat}{x1 g:AV}{fl D:List Int}
theorem WP{s:WSt}(hN:N<=6)(hs:SI N s)(hh:HI N ks fl s):∀(n v:Nat),v∈s.2.1->s.2.1.idxOf v<=n->Pok s.1 n v:=by
 intro n
 induction n with
 |zero=>
  intro v hv hi;have:=hs.b v hv;rcases hh.tr v hv with ⟨e,_⟩|⟨u,_,h2,_⟩
  ·exact⟨by omega,e⟩
  ·omega
 |succ n ih=>
  intro v hv hi;have:=hs.b v hv;rcases hh.tr v hv with ⟨e,_⟩|⟨u,h1,h2,h3,_⟩
  ·exact⟨by omega,.inl e⟩
  ·refine⟨by omega,.inr ⟨u,h3,?_,ih u h1 (by omega)⟩⟩
   intro e;subst e;omega
theorem Tv(hok:GOK N ks ps)(hfl:fl.length=ks.length)(hb:∀x∈fl,-100<=x/\x<=100){v:Nat}(hv:v<N):Pok (fiS ks fl N).1 10 v:=by
 have hs:=GT (fl:=fl) hok N (AcE _);have hh:=Ps hok hfl hb N (AcE _);have hS:=(KL (fl:=fl) hok N (AcE _)).2.1 v hv;have h6:=hs.s6 hok.n6;have:=List.idxOf_lt_length_of_mem hS;exact WP hok.n6 hs hh 10 v hS (by omega)
end
structure Wy(D:List Int)(v:Nat)(l:List Int):Prop where
 h:gI l 0=v
 n:∀i,i<l.length->gI l i=((gI l i).toNat:Int)/\(gI l i).toNat<6
 p:∀i,i+1<l.length->gI D (gI l i).toNat=(gI l (i+1)).toNat/\(gI l (i+1)).toNat≠(gI l i).toNat
 e:gI D (gI l (l.length-1)).toNat=(gI l (l.length-1)).toNat
theorem Bc{x:Int}{l:List Int}:gI (x::l) 0=x:=rfl
theorem CT{x:Int}{l:List Int}{i:Nat}:gI (x::l) (i+1)=gI l i:=rfl
theorem Tt{D:List Int}:∀n v,Pok D n v->Wy D v (pth D n v)
 |
  0,v,h=>by
  obtain⟨h1,h2⟩:=h;refine⟨rfl,fun i hi=>?_,fun i hi=>?_,?_⟩
  ·simp only[pth,AcU,Ac7]at hi
   obtain rfl:i=0:=by omega
   exact⟨by simp[pth,Bc],by simpa[pth,Bc]using h1⟩
  ·simp only[pth,AcU,Ac7]at hi
   omega
  ·simpa[pth,Bc]using h2
 |
  n+1,v,h=>by
  obtain⟨h1,h2⟩:=h;rw[pth]
  by_cases c:gI D v=v
  ·rw[if_pos c]
   refine⟨rfl,fun i hi=>?_,fun i hi=>?_,?_⟩
   ·simp only[AcU,Ac7]at hi
    obtain rfl:i=0:=by omega
    exact⟨by simp[Bc],by simpa[Bc]using h1⟩
   ·simp only[AcU,Ac7]at hi
    omega
   ·simpa[Bc]using c
  ·rw[if_neg c]
   rcases h2 with e|⟨u,eu,hne,hP⟩
   ·exact absurd e c
   ·rw[eu,Adf]
    have ih:=Tt n u hP;obtain⟨l1,_⟩:=Hq (D:=D) n u;generalize pth D n u=l at *;refine⟨rfl,fun i hi=>?_,fun i hi=>?_,?_⟩
    ·cases i with
     |zero=>exact⟨by simp[Bc],by simpa[Bc]using h1⟩
     |succ i=>
      rw[CT];exact ih.n i (by simpa using hi)
    ·cases i with
     |zero=>
      rw[CT,Bc,ih.h];simp only[Adf];exact⟨eu,hne⟩
     |succ i=>
      rw[CT,CT];exact ih.p i (by simpa using hi)
    ·have e:((v:Int)::l).length-1=(l.length-1)+1:=by simp only[AcU];omega
     rw[e,CT];exact ih.e
section
variable {N:Nat}{ks ps:List Nat}{fl:List Int}
structure WB(ks:List Nat)(fl:List Int)(s:WSt)(v:Nat)(l:List Int):Prop where
 l1:1<=l.length
 h:gI l 0=v
 n:∀i,i<l.length->gI l i=((gI l i).toNat:Int)/\(gI l i).toNat∈s.2.1
 p:∀i,i+1<l.length->(bfv s (gI l i).toNat=(gI l (i+1)).toNat/\(gI l (i+1)).toNat≠(gI l i).toNat)/\s.2.1.idxOf (gI l (i+1)).toNat<s.2.1.idxOf (gI l i).toNat/\Tre ks fl (htv s (gI l (i+1)).toNat) (htv s (gI l i).toNat) (gI l (i+1)).toNat (gI l i).toNat
 e:Lst ks (gI l (l.length-1)).toNat
 c:∀i,i<l.length->Cn ks v (gI l i).toNat
theorem XW{s:WSt}(hh:HI N ks fl s){n v:Nat}(hP:Pok s.1 n v)(hv:v∈s.2.1):WB ks fl s v (pth s.1 n v):=by
 have hw:=Tt n v hP;obtain⟨l1,_⟩:=Hq (D:=s.1) n v;generalize pth s.1 n v=l at *;have hS:∀i,i<l.length->(gI l i).toNat∈s.2.1:=by
  intro i
  induction i with
  |zero=>
   intro _;rw[hw.h];simpa using hv
  |succ i ih=>
   intro hi;obtain⟨p1,p2⟩:=hw.p i hi;rcases hh.tr _ (ih (by omega))with ⟨e,_⟩|⟨u,u1,_,u3,_⟩
   ·unfold bfv at e
    exact absurd (by omega) p2
   ·unfold bfv at u3
    have:(gI l (i+1)).toNat=u:=by omega
    rw[this];exact u1
 have hp:∀i,i+1<l.length->(bfv s (gI l i).toNat=(gI l (i+1)).toNat/\(gI l (i+1)).toNat≠(gI l i).toNat)/\s.2.1.idxOf (gI l (i+1)).toNat<s.2.1.idxOf (gI l i).toNat/\Tre ks fl (htv s (gI l (i+1)).toNat) (htv s (gI l i).toNat) (gI l (i+1)).toNat (gI l i).toNat:=by
  intro i hi;obtain⟨p1,p2⟩:=hw.p i hi;rcases hh.tr _ (hS i (by omega))with ⟨e,_⟩|⟨u,u1,u2,u3,u4⟩
  ·unfold bfv at e
   exact absurd (by omega) p2
  ·unfold bfv at u3
   obtain rfl:(gI l (i+1)).toNat=u:=by omega
   exact⟨⟨p1,p2⟩,u2,u4⟩
 refine⟨l1,hw.h,fun i hi=>⟨(hw.n i hi).1,hS i hi⟩,hp,?_,?_⟩
 ·rcases hh.tr _ (hS (l.length-1) (by omega))with ⟨_,_,e⟩|⟨u,_,u2,u3,_⟩
  ·exact e
  ·have:=hw.e
   unfold bfv at u3;obtain rfl:(gI l (l.length-1)).toNat=u:=by omega
   omega
 ·intro i
  induction i with
  |zero=>
   intro _;rw[hw.h];exact .refl _
  |succ i ih=>
   intro hi;obtain⟨_,_,j,hj,h⟩:=hp i hi;refine .step (ih (by omega)) ⟨gN ks j,AH hj,?_⟩;rcases h with ⟨a,b,_⟩|⟨a,b,_⟩
   ·exact .inr ⟨a,b⟩
   ·exact .inl ⟨a,b⟩
end
def rt(D:List Int):Nat->Nat->Nat
 |0,v=>v
 |n+1,v=>if gI D v=v then v else rt D n (gI D v).toNat
theorem Sb{W P:Nat}{D:List Int}{R:List Row}(hD:D.length=13)(hW:Ae R W=some (Ad .i64 D))(h1:Ae R P=some [.ptr W 0]):∀(n v:Nat),Pok D n v->
  Lc100l2 F (.fn [.t 3]) (.int .i64 v) (.ptr P 0) R R.length fun r=>fin R r.1 r.2.1 r.2.2=(.int .i64 (rt D n v),R,none):=by
 have base:∀v:Nat,v<6->gI D v=v->Lc100l2 F (.fn [.t 3]) (.int .i64 v) (.ptr P 0) R R.length fun r=>fin R r.1 r.2.1 r.2.2=(.int .i64 v,R,none):=by
  intro v hv he;have iV:AI (v:Int) 6=some v:=by rw[Bz (by omega) (by omega),Adf]
  have hvl:v<D.length:=by omega
  have hDv:D[v]=(v:Int):=by rw[<-CY hvl];exact he
  unfold Lc100l2;simp[hW,h1,iV,hvl,hDv]
 intro n
 induction n with
 |zero=>exact fun v h=>base v h.1 h.2
 |succ n ih=>
  intro v hP;obtain⟨hv,hP⟩:=hP
  by_cases e:gI D v=v
  ·rw[rt,if_pos e]
   exact base v hv e
  ·rw[rt,if_neg e]
   rcases hP with e'|⟨u,eu,hne,hPu⟩
   ·exact absurd e' e
   have iV:AI (v:Int) 6=some v:=by rw[Bz (by omega) (by omega),Adf]
   have hvl:v<D.length:=by omega
   have hDv:D[v]=(u:Int):=by rw[<-CY hvl];exact eu
   have hne':¬((u:Int)=v):=by omega
   rw[eu,Adf];have:=ih u hPu;unfold Lc100l2;simp[hW,h1,iV,hvl,hDv,hne'];simpa using this
theorem O9{W P:Nat}{D:List Int}{R:List Row}(hD:D.length=13)(hW:Ae R W=some (Ad .i64 D))(h1:Ae R P=some [.ptr W 0]){n v:Nat}(hP:Pok D n v):Ret F 100 [.int .i64 v,.ptr P 0] R=some (.int .i64 (rt D n v),R,none):=by
 refine i100 F100 ?_;simp;exact Sb hD hW h1 n v hP
theorem Sl{D:List Int}:∀n v,(gI (pth D n v) ((pth D n v).length-1))=(rt D n v:Int)\/¬Pok D n v
 |0,v=>.inl (by simp[pth,Bc,rt])
 |
  n+1,v=>by
  by_cases e:gI D v=v
  ·rw[pth,rt,if_pos e,if_pos e]
   exact .inl (by simp[Bc])
  ·by_cases hP:Pok D (n+1) v
   ·rcases hP with ⟨hv,e'|⟨u,eu,hne,hPu⟩⟩
    ·exact absurd e' e
    rw[pth,rt,if_neg e,if_neg e,eu,Adf];rcases Sl n u with h|h
    ·left
     have hl:=(Hq (D:=D) n u).1;rw[<-h,show((v:Int)::pth D n u).length-1=(pth D n u).length-1+1 from by simp only[AcU];omega,CT]
    ·exact absurd hPu h
   ·exact .inr hP
def fo(ks:List Nat)(N v:Nat):Nat:=rt (fiS ks (List.replicate ks.length 0) N).1 10 v
section
variable {N:Nat}{ks ps:List Nat}
theorem Iw(hok:GOK N ks ps){v:Nat}(hv:v<N):Cn ks v (fo ks N v)/\Lst ks (fo ks N v):=by
 have hfl:(List.replicate ks.length (0:Int)).length=ks.length:=by simp
 have hb:∀x∈List.replicate ks.length (0:Int),-100<=x/\x<=100:=fun x hx=>by rw[List.eq_of_mem_replicate hx];omega
 have hh:=Ps hok hfl hb N (AcE _);have hS:=(KL (fl:=List.replicate ks.length 0) hok N (AcE _)).2.1;have hP:=Tv hok hfl hb hv;have w:=XW hh hP (hS _ hv);have hl:=w.l1;have he:=w.e;have hc:=w.c ((pth (fiS ks (List.replicate ks.length 0) N).1 10 v).length-1) (by omega);rcases Sl (D:=(fiS ks (List.replicate ks.length 0) N).1) 10 v with h|h
 ·rw[h,Adf]at he hc
  exact⟨hc,he⟩
 ·exact absurd hP h
theorem SH{u v:Nat}(h1:Lst ks u)(h2:Lst ks v)(hc:Cn ks u v):u=v:=by
 have:=h1 v hc;have:=h2 u hc.symm;omega
theorem Sc(hok:GOK N ks ps){u v:Nat}(hu:u<N)(hv:v<N):fo ks N u=fo ks N v↔Cn ks u v:=by
 obtain⟨a1,a2⟩:=Iw hok hu;obtain⟨b1,b2⟩:=Iw hok hv;constructor
 ·intro e
  rw[e]at a1;exact a1.trans b1.symm
 ·intro h
  exact SH a2 b2 ((a1.symm.trans h).trans b1)
theorem HP(hok:GOK N ks ps){v:Nat}(hv:v<N):fo ks N v=v↔Lst ks v:=by
 obtain⟨b1,b2⟩:=Iw hok hv;constructor
 ·intro e;rw[e]at b2;exact b2
 ·intro h;exact(SH h b2 b1).symm
end
def fr(q:Rat):AV:=.agg [.int .i64 q.num,.int .i64 (q.den:Int)]
def MX:Nat:=9223372036854775807
theorem Bj{n:Int}(h:n.natAbs<=MX):IntKind.i64.wrap n=n:=by
 unfold MX at h;exact AM (by omega) (by omega)
theorem K6{x y:Int}:Int.gcd y (x.tmod y)=Int.gcd x y:=by
 have:(x.tmod y).natAbs=x.natAbs%y.natAbs:=Int.natAbs_tmod ..;unfold Int.gcd;rw[this,Nat.gcd_comm,<-Nat.gcd_rec,Nat.gcd_comm]
theorem No{x y:Int}(h:y≠0):(x.tmod y).natAbs<y.natAbs:=by
 have:(x.tmod y).natAbs=x.natAbs%y.natAbs:=Int.natAbs_tmod ..;rw[this];exact Nat.mod_lt _ (by omega)
theorem DK{a:Int}{g:Nat}(h:(g:Int)∣a):a.tdiv g=a/g:=Int.tdiv_eq_ediv_of_dvd h
section
variable {rows:List Row}{a b:Int}
theorem KH{a b:Int}{L:List Row}:fin rows (.agg [.int .i64 a,.int .i64 b]) (rows++L) rows.length=(.agg [.int .i64 a,.int .i64 b],rows,none):=by
 have h:(AV.agg [.int .i64 a,.int .i64 b]).ids=[]:=rfl;simp[fin,h]
theorem Fe{a:Int}{g:Nat}(ha:a.natAbs<=MX):(a/(g:Int)).natAbs<=MX:=by
 refine AcP ?_ ha
 by_cases c:g=0
 ·subst c;simp
 ·have h1:=Int.natAbs_ediv a g
  have:(a/(g:Int)).natAbs<=a.natAbs:=Int.natAbs_ediv_le_natAbs a g;exact this
theorem Ug{X:Int}{sl:List (Nat×AV)}(s0:lk sl 0 = .int .i64 a)(s1:lk sl 1 = .int .i64 b)(s4:lk sl 4 = .ptr rows.length 0)(s5:lk sl 5 = .int .i64 X)(hb:b≠0)(ha:a.natAbs<=MX)(hbm:b.natAbs<=MX)(hX:X.natAbs=Int.gcd a b):
  Ex F (.fn [.cellN 4 2]) [.code c106s9] ⟨mk 30 sl,rows++[.cells [.int .i64 0,.int .i64 0]],rows.length⟩ fun r=>fin rows r.1 r.2.1 r.2.2=(fr (Rat.divInt a b),rows,none):=by
 have hg0:0<Int.gcd a b:=AdT a hb;have hga:(Int.gcd a b:Int)∣a:=Int.gcd_dvd_left ..;have hgb:(Int.gcd a b:Int)∣b:=Int.gcd_dvd_right ..;have hgm:Int.gcd a b<=MX:=by
  have:Int.gcd a b<=b.natAbs:=Aep (by omega) (AeA ..);omega
 have hnum:(Rat.divInt a b).num=b.sign*a/(Int.gcd a b:Int):=by rw[Rat.num_divInt,Int.gcd_comm]
 have hden:((Rat.divInt a b).den:Int)=(b.natAbs:Int)/(Int.gcd a b:Int):=by rw[Rat.den_divInt,if_neg hb,Int.gcd_comm];rfl
 unfold fr;rw[hnum,hden];generalize Int.gcd a b=g at *;have hlow:Ab rows.length rows.length=rows.length:=Ac (AcE _);have hcel:cells? (rows++[.cells [.int .i64 0,.int .i64 0]]) rows.length=some [.int .i64 0,.int .i64 0]:=by simp[cells?]
 have key:∀x:Int,(x=g\/x = -g)->(x<0↔b<0)->x≠0/\a.tdiv x=b.sign*a/(g:Int)/\b.tdiv x=(b.natAbs:Int)/(g:Int):=by
  intro x hx hs;refine⟨by omega,?_,?_⟩
  ·rcases hx with rfl|rfl
   ·have hb1:0<b:=by omega
    rw[DK hga,Int.sign_eq_one_of_pos hb1,Int.one_mul]
   ·have hb1:b<0:=by omega
    rw[Int.tdiv_neg,DK hga,Int.sign_eq_neg_one_of_neg hb1,Int.neg_one_mul,Int.neg_ediv_of_dvd hga]
  ·rcases hx with rfl|rfl
   ·have hb1:0<b:=by omega
    rw[DK hgb,show((b.natAbs:Nat):Int)=b from by omega]
   ·have hb1:b<0:=by omega
    rw[Int.tdiv_neg,DK hgb,show((b.natAbs:Nat):Int) = -b from by omega,Int.neg_ediv_of_dvd hgb]
 have w1:IntKind.i64.wrap (b.sign*a/(g:Int))=b.sign*a/(g:Int):=by
  apply Bj;apply Fe;rw[Ac6,Int.natAbs_sign]
  split<;>omega
 have w2:IntKind.i64.wrap ((b.natAbs:Int)/(g:Int))=(b.natAbs:Int)/(g:Int):=by
  apply Bj;apply Fe;omega
 have wX:IntKind.i64.wrap (-X) = -X:=Bj (by rw[AdE];omega);have wg:IntKind.i64.wrap (-(g:Int)) = -(g:Int):=Bj (by omega);have wp:IntKind.i64.wrap (g:Int)=(g:Int):=Bj (by omega);generalize b.sign*a/(g:Int)=P at *;generalize (b.natAbs:Int)/(g:Int)=Q at *;have kp:=key g (.inl rfl);have kn:=key (-g) (.inr rfl)
 by_cases c1:X<0
 ·have e1 : -X=(g:Int):=by omega
  by_cases c2:b<0
  ·obtain⟨h0,h1,h2⟩:=kn (by omega)
   have h0':¬(g=0):=by omega
   rw[Int.tdiv_neg]at h1 h2;simp[s0,s1,s4,s5,c1,wX,e1,c2,wg,wp,h0',h1,h2,w1,w2,Ap,splice,hcel,hlow,KH,seg]
  ·obtain⟨h0,h1,h2⟩:=kp (by omega)
   have h0':¬(g=0):=by omega
   simp[s0,s1,s4,s5,c1,wX,e1,c2,wp,h0',h1,h2,w1,w2,Ap,splice,hcel,hlow,KH,seg]
 ·have e1:X=(g:Int):=by omega
  rw[e1]at s5;have c1':¬((g:Int)<0):=by omega
  by_cases c2:b<0
  ·obtain⟨h0,h1,h2⟩:=kn (by omega)
   have h0':¬(g=0):=by omega
   rw[Int.tdiv_neg]at h1 h2;simp[s0,s1,s4,s5,c1',c2,wg,h0',h1,h2,w1,w2,Ap,splice,hcel,hlow,KH,seg]
  ·obtain⟨h0,h1,h2⟩:=kp (by omega)
   have h0':¬(g=0):=by omega
   simp[s0,s1,s4,s5,c1',c2,h0',h1,h2,w1,w2,Ap,splice,hcel,hlow,KH,seg]
theorem Rn(hb:b≠0)(ha:a.natAbs<=MX)(hbm:b.natAbs<=MX):∀(n:Nat) (x y:Int),y.natAbs<=n->x.natAbs<=MX->y.natAbs<=MX->Int.gcd x y=Int.gcd a b->
  Lc106l10 F (.fn [.cellN 4 2]) (.int .i64 a) (.int .i64 b) (.ptr rows.length 0) (.int .i64 x) (.int .i64 y) (rows++[.cells [.int .i64 0,.int .i64 0]]) rows.length fun r=>fin rows r.1 r.2.1 r.2.2=(fr (Rat.divInt a b),rows,none):=by
 intro n
 induction n with
 |zero=>
  intro x y h1 h2 h3 h4;obtain rfl:y=0:=by omega
  unfold Lc106l10;simp[-uc106s9];refine Ug (X:=x) ?_ ?_ ?_ ?_ hb ha hbm (by rw[<-h4];simp)<;>simp
 |succ n ih=>
  intro x y h1 h2 h3 h4
  by_cases c:y=0
  ·subst c
   exact ih x 0 (by omega) h2 (by simp) h4
  ·have h5:=No (x:=x) c
   have:=ih y (x.tmod y) (by omega) h3 (by omega) (by rw[K6,h4]);unfold Lc106l10;simp[c];simpa using this
theorem CR(hb:b≠0)(ha:a.natAbs<=MX)(hbm:b.natAbs<=MX):Ret F 106 [.int .i64 a,.int .i64 b] rows=some (fr (Rat.divInt a b),rows,none):=by
 have:=Rn (rows:=rows) hb ha hbm _ a b (AcE _) ha hbm rfl;refine i106 F106 ?_;simp;simpa using this
end
def sc(q:Rat)(L:Nat):Int:=q.num*((L/q.den:Nat):Int)
def sm(q:Rat):Prop:=q.num.natAbs<=MX/\q.den<=MX
theorem dvi{a:Int}{b:Nat}(hb:0<b):(Rat.divInt a b).num=a/(Int.gcd a b:Int)/\(Rat.divInt a b).den=b/Int.gcd a b:=by
 rw[Rat.num_divInt,Rat.den_divInt,if_neg (by omega),Int.gcd_comm];rw[Int.sign_eq_one_of_pos (by omega),Int.one_mul];exact⟨rfl,rfl⟩
theorem Iz{a b:Int}{n:Nat}(h:(a*b).natAbs<=n)(hb:1<=b.natAbs):a.natAbs<=n:=by
 rw[Ac6]at h;exact AcP (AdV _ hb) h
theorem Oq{f g:Rat}{L:Nat}(h1:f.den∣L)(h2:g.den∣L)(h0:0<L):∃p q G t:Nat,f.den=G*p/\g.den=G*q/\0<G/\0<p/\0<q/\0<t/\sc f L=f.num*q*t/\sc g L=g.num*p*t/\Nat.gcd f.den g.den=G/\f.den*q<=L:=by
 obtain⟨p,q,hc,e1,e2⟩:=Nat.exists_coprime f.den g.den;have fd:=f.den_pos;have gd:=g.den_pos;have hG:0<Nat.gcd f.den g.den:=Nat.gcd_pos_of_pos_left _ fd;generalize hGe:Nat.gcd f.den g.den=G at *;obtain⟨u,hu⟩:=h1;obtain⟨v,hv⟩:=h2;have hp:0<p:=Nat.pos_of_ne_zero fun e=>by rw[e,AeI]at e1;omega
 have hq:0<q:=Nat.pos_of_ne_zero fun e=>by rw[e,AeI]at e2;omega
 have huv:p*u=q*v:=by
  have:G*(p*u)=G*(q*v):=by
   rw[<-Nat.mul_assoc,<-Nat.mul_assoc,AdR G p,AdR G q,<-e1,<-e2,<-hu,<-hv]
  exact Nat.eq_of_mul_eq_mul_left hG this
 obtain⟨t,ht⟩:q∣u:=hc.symm.dvd_of_dvd_mul_left ⟨v,huv⟩;have hvt:v=p*t:=by
  have:q*v=q*(p*t):=by rw[<-huv,ht];rw[Nat.mul_left_comm]
  exact Nat.eq_of_mul_eq_mul_left hq this
 have ht0:0<t:=Nat.pos_of_ne_zero fun e=>by rw[ht,e,Nat.mul_zero,Nat.mul_zero]at hu;omega
 refine⟨p,q,G,t,by rw[e1,AdR],by rw[e2,AdR],hG,hp,hq,ht0,?_,?_,rfl,?_⟩
 ·unfold sc
  rw[hu,Adk _ fd,ht,Adg,Int.mul_assoc]
 ·unfold sc
  rw[hv,Adk _ gd,hvt,Adg,Int.mul_assoc]
 ·rw[hu,ht,<-Nat.mul_assoc]
  exact AdV _ ht0
theorem Pb{f g:Rat}{p q G:Nat}(e1:f.den=G*p)(e2:g.den=G*q)(hG:0<G)(hp:0<p)(hq:0<q):Rat.divInt (f.num*q+g.num*p) (((f.den*q:Nat):Nat):Int)=f+g:=by
 have h1:f+g=Rat.divInt (f.num*g.den+g.num*f.den) (f.den*g.den):=by
  rw[<-Rat.divInt_add_divInt _ _ (by have:=f.den_pos;omega) (by have:=g.den_pos;omega),Aej,Aej]
 rw[h1];have e3:f.num*(g.den:Int)+g.num*(f.den:Int)=(G:Int)*(f.num*q+g.num*p):=by
  rw[e1,e2,Adg,Adg,Int.mul_add,Int.mul_left_comm,Int.mul_left_comm (g.num)]
 have e4:((f.den:Int)*(g.den:Int))=(G:Int)*((f.den*q:Nat):Int):=by
  rw[e2,Adg,Adg,Int.mul_left_comm]
 rw[e3,e4,Rat.divInt_mul_left (by omega)]
section
variable {rows:List Row}{f g:Rat}
theorem BF{a b:Nat}:((a:Int)/(b:Int))=((a/b:Nat):Int):=rfl
theorem Ip{L:Nat}(h1:f.den∣L)(h2:g.den∣L)(h0:0<L)(hL:L<=MX)(hs:(sc f L).natAbs+(sc g L).natAbs<=MX):Ret F 97 [fr f,fr g] rows=some (fr (f+g),rows,none):=by
 obtain⟨p,q,G,t,e1,e2,hG,hp,hq,ht,s1,s2,hg,hl⟩:=Oq h1 h2 h0;have fl:=Aep h0 h1;have gl:=Aep h0 h2;have fd:=f.den_pos;have gd:=g.den_pos;have b1:(f.num*q*t).natAbs+(g.num*p*t).natAbs<=MX:=by rw[<-s1,<-s2];exact hs
 have b2:(f.num*q).natAbs<=(f.num*q*t).natAbs:=by rw[Ac6 (f.num*q)];exact AdV _ (by omega)
 have b3:(g.num*p).natAbs<=(g.num*p*t).natAbs:=by rw[Ac6 (g.num*p)];exact AdV _ (by omega)
 have w1:IntKind.i64.wrap (f.num*q)=f.num*q:=Bj (by omega);have w2:IntKind.i64.wrap (g.num*p)=g.num*p:=Bj (by omega);have w3:IntKind.i64.wrap (f.num*q+g.num*p)=f.num*q+g.num*p:=Bj (by omega);have w4:IntKind.i64.wrap ((f.den:Int)*q)=(f.den:Int)*q:=by rw[<-Int.natCast_mul];exact Bj (by omega)
 have d1:(Rat.divInt (f.den:Int) (g.den:Int)).num=p:=by
  rw[(dvi gd).1,Int.gcd_natCast_natCast,hg,BF,e1,Adk _ hG]
 have d2:(Rat.divInt (f.den:Int) (g.den:Int)).den=q:=by
  rw[(dvi gd).2,Int.gcd_natCast_natCast,hg,e2,Adk _ hG]
 have r1:∀R:List Row,Ret F 106 [.int .i64 f.den,.int .i64 g.den] R=some (.agg [.int .i64 p,.int .i64 q],R,none):=fun R=>by
  have:=CR (rows:=R) (a:=f.den) (b:=g.den) (by omega) (by omega) (by omega);rw[this];unfold fr;rw[d1,d2]
 have hfq:0<f.den*q:=Ad1 fd hq;have r2:∀R:List Row,Ret F 106 [.int .i64 (f.num*q+g.num*p),.int .i64 ((f.den:Int)*q)] R=some (fr (f+g),R,none):=fun R=>by
  rw[<-Int.natCast_mul,CR (by omega) (by omega) (by omega),Pb e1 e2 hG hp hq]
 have q1:Ae (rows++[.cells [.int .i64 f.num,.int .i64 f.den],.cells [.int .i64 g.num,.int .i64 g.den]]) rows.length=some [.int .i64 f.num,.int .i64 f.den]:=by simp[Ae]
 have hlw:∀i,Ab rows.length (rows.length+i)=rows.length:=fun i=>Ac (by omega)
 unfold fr at *;refine i97 F97 ?_;simp[r1,w1,w2,w3,w4,r2,splice,seg,hlw,Adb]
theorem Fa{L:Nat}(h1:f.den∣L)(h2:g.den∣L)(h0:0<L)(hL:L<=MX)(hs:(sc f L).natAbs+(sc g L).natAbs<=MX)(hg:sm g):Ret F 95 [fr f,fr g] rows=some (fr (f-g),rows,none):=by
 have e:sc (-g) L = - sc g L:=by unfold sc;rw[Rat.neg_num,Aey,Int.neg_mul]
 have hp:∀R:List Row,Ret F 97 [fr f,fr (-g)] R=some (fr (f-g),R,none):=fun R=>by
  rw[Rat.sub_eq_add_neg];exact Ip h1 (by rw[Aey];exact h2) h0 hL (by rw[e,AdE];exact hs)
 have w:IntKind.i64.wrap (-g.num) = -g.num:=Bj (by rw[AdE];exact hg.1);unfold fr at *;rw[Rat.neg_num,Aey]at hp;refine i95 F95 ?_;simp[w,hp,Ap,splice,seg,Adb]
theorem Qs:(Rat.divInt f.num (g.den:Int)).num*(Rat.divInt g.num (f.den:Int)).num=(f*g).num/\(Rat.divInt f.num (g.den:Int)).den*(Rat.divInt g.num (f.den:Int)).den=(f*g).den:=by
 have fd:=f.den_pos;have gd:=g.den_pos;obtain⟨a1,a2⟩:=dvi (a:=f.num) gd;obtain⟨b1,b2⟩:=dvi (a:=g.num) fd;have hA:0<Int.gcd f.num (g.den:Int):=AdT _ (by omega);have hB:0<Int.gcd g.num (f.den:Int):=AdT _ (by omega);have cA:(Int.gcd f.num (g.den:Int):Int)∣f.num:=Int.gcd_dvd_left ..;have cB:(Int.gcd g.num (f.den:Int):Int)∣g.num:=Int.gcd_dvd_left ..;have dA:Int.gcd f.num (g.den:Int)∣g.den:=AeA ..;have dB:Int.gcd g.num (f.den:Int)∣f.den:=AeA ..;have r1:=(Rat.divInt f.num (g.den:Int)).reduced;have r2:=(Rat.divInt g.num (f.den:Int)).reduced;have rf:=f.reduced;have rg:=g.reduced;rw[a1,a2]at r1;rw[b1,b2]at r2;rw[a1,a2,b1,b2];generalize Int.gcd f.num (g.den:Int)=A at *;generalize Int.gcd g.num (f.den:Int)=B at *;obtain⟨x,hx⟩:=cA;obtain⟨y,hy⟩:=cB;obtain⟨u,hu⟩:=dA;obtain⟨v,hv⟩:=dB;have e1:f.num/(A:Int)=x:=by rw[hx,Int.mul_ediv_cancel_left _ (by omega)]
 have e2:g.num/(B:Int)=y:=by rw[hy,Int.mul_ediv_cancel_left _ (by omega)]
 have e3:g.den/A=u:=by rw[hu,Adk _ hA]
 have e4:f.den/B=v:=by rw[hv,Adk _ hB]
 rw[e1,e3]at r1;rw[e2,e4]at r2;rw[e1,e2,e3,e4];have c1:Nat.Coprime x.natAbs v:=by
  have h:Nat.Coprime f.num.natAbs f.den:=rf;rw[hx,hv,Ac6]at h;exact(h.coprime_mul_left).coprime_mul_left_right
 have c2:Nat.Coprime y.natAbs u:=by
  have h:Nat.Coprime g.num.natAbs g.den:=rg;rw[hy,hu,Ac6]at h;exact(h.coprime_mul_left).coprime_mul_left_right
 have hc:Nat.Coprime (x*y).natAbs (u*v):=by
  rw[Ac6];exact Nat.Coprime.mul_left (Nat.Coprime.mul_right r1 c1) (Nat.Coprime.mul_right c2 r2)
 have huv:u*v≠0:=by
  intro h;rcases Aew.1 h with h|h
  ·rw[h,Nat.mul_zero]at hu;omega
  ·rw[h,Nat.mul_zero]at hv;omega
 have hfg:f*g=⟨x*y,u*v,huv,hc⟩:=by
  rw[Rat.mk_eq_divInt];have:f*g=Rat.divInt (f.num*g.num) (f.den*g.den):=by
   rw[<-Rat.divInt_mul_divInt,Aej,Aej]
  rw[this];have s1:f.num*g.num=((A*B:Nat):Int)*(x*y):=by
   rw[Adg]
   conv=>lhs;rw[hx,hy]
   simp only[Int.mul_assoc,Int.mul_left_comm]
  have s2:(f.den:Int)*(g.den:Int)=((A*B:Nat):Int)*((u*v:Nat):Int):=by
   rw[<-Int.natCast_mul,<-Int.natCast_mul]
   conv=>lhs;rw[hu,hv]
   congr 1;simp only[Nat.mul_assoc,Nat.mul_left_comm,AdR]
  rw[s1,s2,Rat.divInt_mul_left (by have:=Ad1 hA hB;omega)]
 rw[hfg];exact⟨rfl,rfl⟩
theorem FL(hf:sm f)(hg:sm g)(h:sm (f*g)):Ret F 99 [fr f,fr g] rows=some (fr (f*g),rows,none):=by
 have fd:=f.den_pos;have gd:=g.den_pos;obtain⟨t1,t2⟩:=Qs (f:=f) (g:=g);have r1:∀R:List Row,Ret F 106 [.int .i64 f.num,.int .i64 g.den] R=some (fr (Rat.divInt f.num g.den),R,none):=fun R=>CR (by omega) hf.1 (by have:=hg.2;omega)
 have r2:∀R:List Row,Ret F 106 [.int .i64 g.num,.int .i64 f.den] R=some (fr (Rat.divInt g.num f.den),R,none):=fun R=>CR (by omega) hg.1 (by have:=hf.2;omega)
 have w1:IntKind.i64.wrap ((Rat.divInt f.num (g.den:Int)).num*(Rat.divInt g.num (f.den:Int)).num)=(f*g).num:=by rw[t1];exact Bj h.1
 have w2:IntKind.i64.wrap (((Rat.divInt f.num (g.den:Int)).den:Int)*((Rat.divInt g.num (f.den:Int)).den:Int))=((f*g).den:Int):=by
  rw[<-Int.natCast_mul,t2];exact Bj h.2
 unfold fr at *;refine i99 F99 ?_;generalize (Rat.divInt f.num (g.den:Int))=a at *;generalize (Rat.divInt g.num (f.den:Int))=b at *;generalize f*g=c at *;simp[Ai,r1,r2,opC,Aw,AC,Ac,Bx,Adb,w1,w2,Ap,splice,seg]
end
section
variable {rows:List Row}{f g:Rat}
theorem Mv(h:0<g.num):fr g⁻¹ = .agg [.int .i64 g.den,.int .i64 g.num]:=by
 unfold fr;rw[Rat.num_inv,Rat.den_inv,Int.sign_eq_one_of_pos h,Int.one_mul,if_neg (by omega)];rw[show((g.num.natAbs:Nat):Int)=g.num from by omega]
theorem Md(h:g.num<0):fr g⁻¹ = .agg [.int .i64 (-(g.den:Int)),.int .i64 (-g.num)]:=by
 unfold fr;rw[Rat.num_inv,Rat.den_inv,Int.sign_eq_neg_one_of_neg h,Int.neg_one_mul,if_neg (by omega)];rw[show((g.num.natAbs:Nat):Int) = -g.num from by omega]
theorem Xw(hg:sm g):sm g⁻¹:=by
 unfold sm at *;rw[Rat.num_inv,Rat.den_inv];have:=g.den_pos;constructor
 ·rw[Ac6,Int.natAbs_sign]
  split<;>simp
  exact hg.2
 ·split
  ·unfold MX;omega
  ·exact hg.1
theorem Q4(hf:sm f)(hg:sm g)(h0:g≠0)(h:sm (f/g)):Ret F 123 [fr f,fr g] rows=some (fr (f/g),rows,none):=by
 have hn:g.num≠0:=fun e=>h0 (Rat.num_eq_zero.1 e)
 have ht:∀R:List Row,Ret F 99 [fr f,fr g⁻¹] R=some (fr (f/g),R,none):=fun R=>by
  rw[AdS];exact FL hf (Xw hg) (by rw[<-Rat.div_def];exact h)
 have w1:IntKind.i64.wrap (-(g.den:Int)) = -(g.den:Int):=Bj (by rw[AdE];have:=hg.2;omega);have w2:IntKind.i64.wrap (-g.num) = -g.num:=Bj (by rw[AdE];exact hg.1);refine i123 F123 ?_
 by_cases c:g.num<0
 ·rw[Md c]at ht
  unfold fr at *;simp[c,w1,w2,ht,Ap,splice,seg,Adb]
 ·rw[Mv (by omega)]at ht
  unfold fr at *;simp[c,ht,Ap,splice,seg,Adb]
theorem SM{n:Int}:fr (n:Rat) = .agg [.int .i64 n,.int .i64 1]:=by
 unfold fr;rw[Ad9,AdN]
 rfl
theorem BM{n:Int}:Ret F 63 [.int .i64 n] rows=some (fr (n:Rat),rows,none):=by
 rw[SM];refine i63 F63 ?_;simp[Ap,splice,seg]
theorem Vp{X:Int}{sl:List (Nat×AV)}{n:Nat}(s0:lk sl 0 = .int .i64 X)(hX:X.natAbs=n)(h1:1<=n)(hm:n<=MX):Ex F (.fn [.t 4]) [.code c72s1] ⟨mk 15 sl,rows,rows.length⟩ fun r=>fin rows r.1 r.2.1 r.2.2=(.int .i64 n,rows,none):=by
 have w:IntKind.i64.wrap (-X) = -X:=Bj (by rw[AdE];omega);have e:evP rows (.mx [.c (.int .i64 X),.c (.int .i64 (-X)),.c (.int .i64 1)])=some (.int .i64 n):=by
  show C0 mxA (.int .i64 X) [.int .i64 (-X),.int .i64 1]=_;simp only[C0,mxA,if_true];have e2:(if(1:Int)>(if -X>X then -X else X)then 1 else if -X>X then -X else X)=(n:Int):=by
   split<;>split at *<;>omega
  rw[e2]
 simp[s0,w,e]
theorem Qr{a b:Int}(hb:b≠0)(hbm:b.natAbs<=MX):∀(n:Nat) (x y:Int),y.natAbs<=n->x.natAbs<=MX->y.natAbs<=MX->Int.gcd x y=Int.gcd a b->
  Lc72l2 F (.fn [.t 4]) (.int .i64 x) (.int .i64 y) rows rows.length fun r=>fin rows r.1 r.2.1 r.2.2=(.int .i64 (Int.gcd a b),rows,none):=by
 have hg0:0<Int.gcd a b:=AdT a hb;have hgm:Int.gcd a b<=MX:=by
  have:Int.gcd a b<=b.natAbs:=Aep (by omega) (AeA ..);omega
 intro n
 induction n with
 |zero=>
  intro x y h1 h2 h3 h4;obtain rfl:y=0:=by omega
  unfold Lc72l2;simp[-uc72s1];exact Vp (X:=x) (by simp) (by rw[<-h4];simp) hg0 hgm
 |succ n ih=>
  intro x y h1 h2 h3 h4
  by_cases c:y=0
  ·subst c
   exact ih x 0 (by omega) h2 (by simp) h4
  ·have h5:=No (x:=x) c
   have:=ih y (x.tmod y) (by omega) h3 (by omega) (by rw[K6,h4]);unfold Lc72l2;simp[c];simpa using this
theorem Ki{a b:Int}(hb:b≠0)(ha:a.natAbs<=MX)(hbm:b.natAbs<=MX):Ret F 72 [.int .i64 a,.int .i64 b] rows=some (.int .i64 (Int.gcd a b),rows,none):=by
 have:=Qr (rows:=rows) (a:=a) hb hbm _ a b (AcE _) ha hbm rfl;refine i72 F72 ?_;simp;simpa using this
theorem Lt{a:Int}{b:Nat}(hb:0<b)(ha:a.natAbs<=MX)(hbm:b<=MX){sl:List (Nat×AV)}(s0:lk sl 0 = .int .i64 a)(s1:lk sl 1 = .int .i64 b)(s4:lk sl 4 = .ptr rows.length 0):
  Ex F (.fn [.cellN 4 2]) [.code c73s3] ⟨mk 22 sl,rows++[.cells [.int .i64 0,.int .i64 0]],rows.length⟩ fun r=>fin rows r.1 r.2.1 r.2.2=(fr (Rat.divInt a b),rows,none):=by
 have r72:=Ki (rows:=rows++[.cells [.int .i64 0,.int .i64 0]]) (a:=a) (b:=b) (by omega) ha (by omega);obtain⟨e1,e2⟩:=dvi (a:=a) hb;have hg:0<Int.gcd a (b:Int):=AdT _ (by omega);have cA:(Int.gcd a (b:Int):Int)∣a:=Int.gcd_dvd_left ..;have dA:Int.gcd a (b:Int)∣b:=AeA ..;unfold fr;rw[e1,e2];generalize Int.gcd a (b:Int)=n at *;have w1:IntKind.i64.wrap (a.tdiv n)=a/n:=by rw[DK cA];exact Bj (Fe ha)
 have w2:IntKind.i64.wrap ((b:Int)/(n:Int))=(b:Int)/(n:Int):=by
  rw[BF];exact Bj (by have:=Nat.div_le_self b n;omega)
 have hn:¬(n=0):=by omega
 have hlow:Ab rows.length rows.length=rows.length:=Ac (AcE _);simp[s0,s1,s4,r72,hn,w1,w2,Ap,splice,hlow,seg]
theorem LA{a b:Int}(hb:b≠0)(ha:a.natAbs<=MX)(hbm:b.natAbs<=MX):Ret F 73 [.int .i64 a,.int .i64 b] rows=some (fr (Rat.divInt a b),rows,none):=by
 refine i73 F73 ?_
 by_cases c:b<0
 ·have w1:IntKind.i64.wrap (-a) = -a:=Bj (by rw[AdE];exact ha)
  have w2:IntKind.i64.wrap (-b)=((b.natAbs:Nat):Int):=by rw[show((b.natAbs:Nat):Int) = -b from by omega];exact Bj (by rw[AdE];exact hbm)
  have e:Rat.divInt a b=Rat.divInt (-a) ((b.natAbs:Nat):Int):=by
   rw[show((b.natAbs:Nat):Int) = -b from by omega,Rat.neg_divInt_neg]
  rw[e];simp[c,w1,w2,-uc73s3];exact Lt (by omega) (by rw[AdE];exact ha) hbm (by simp) (by simp) (by simp)
 ·obtain⟨n,rfl⟩:∃n:Nat,b=n:=⟨b.toNat,by omega⟩
  simp[c,-uc73s3];exact Lt (by omega) ha (by omega) (by simp) (by simp) (by simp)
theorem Kh{L:Nat}(h1:f.den∣L)(h2:g.den∣L)(h0:0<L)(hL:L<=MX)(hs:(sc f L).natAbs+(sc g L).natAbs<=MX):Ret F 32 [fr f,fr g] rows=some (fr (f+g),rows,none):=by
 obtain⟨p,q,G,t,e1,e2,hG,hp,hq,ht,s1,s2,hg,hl⟩:=Oq h1 h2 h0;have fl:=Aep h0 h1;have gl:=Aep h0 h2;have fd:=f.den_pos;have gd:=g.den_pos;have b1:(f.num*q*t).natAbs+(g.num*p*t).natAbs<=MX:=by rw[<-s1,<-s2];exact hs
 have b2:(f.num*q).natAbs<=(f.num*q*t).natAbs:=by rw[Ac6 (f.num*q)];exact AdV _ (by omega)
 have b3:(g.num*p).natAbs<=(g.num*p*t).natAbs:=by rw[Ac6 (g.num*p)];exact AdV _ (by omega)
 have w1:IntKind.i64.wrap (f.num*q)=f.num*q:=Bj (by omega);have w2:IntKind.i64.wrap (g.num*p)=g.num*p:=Bj (by omega);have w3:IntKind.i64.wrap (f.num*q+g.num*p)=f.num*q+g.num*p:=Bj (by omega);have hpq:p*g.den=f.den*q:=by rw[e1,e2,Nat.mul_left_comm,Nat.mul_assoc]
 have w4:IntKind.i64.wrap ((p:Int)*(g.den:Int))=(f.den:Int)*q:=by rw[<-Int.natCast_mul,<-Int.natCast_mul,hpq];exact Bj (by omega)
 have hpm:p<=MX:=by have:=Nat.le_mul_of_pos_left p hG;omega
 have hqm:q<=MX:=by have:=Nat.le_mul_of_pos_left q hG;omega
 have k1:IntKind.i64.wrap ((f.den:Int)/(G:Int))=p:=by
  rw[BF,e1,Adk _ hG];exact Bj (by omega)
 have k2:IntKind.i64.wrap ((g.den:Int)/(G:Int))=q:=by
  rw[BF,e2,Adk _ hG];exact Bj (by omega)
 have r1:∀R:List Row,Ret F 72 [.int .i64 f.den,.int .i64 g.den] R=some (.int .i64 G,R,none):=fun R=>by
  rw[Ki (by omega) (by omega) (by omega),Int.gcd_natCast_natCast,hg]
 have hfq:0<f.den*q:=Ad1 fd hq;have r2:∀R:List Row,Ret F 73 [.int .i64 (f.num*q+g.num*p),.int .i64 ((f.den:Int)*q)] R=some (fr (f+g),R,none):=fun R=>by
  rw[<-Int.natCast_mul,LA (by omega) (by omega) (by omega),Pb e1 e2 hG hp hq]
 have hG0:¬(G=0):=by omega
 have x0:AI 0 2=some 0:=rfl;have x1:AI 1 2=some 1:=rfl;unfold fr at *;refine i32 F32 ?_;simp[r1,hG0,x0,x1,k1,k2,w1,w2,w3,w4,r2,splice,seg,Adb]
theorem PU{L:Nat}(h1:f.den∣L)(h2:g.den∣L)(h0:0<L)(hL:L<=MX)(hs:(sc f L).natAbs+(sc g L).natAbs<=MX)(hg:sm g):Ret F 34 [fr f,fr g] rows=some (fr (f-g),rows,none):=by
 have e:sc (-g) L = - sc g L:=by unfold sc;rw[Rat.neg_num,Aey,Int.neg_mul]
 have hp:∀R:List Row,Ret F 32 [fr f,fr (-g)] R=some (fr (f-g),R,none):=fun R=>by
  rw[Rat.sub_eq_add_neg];exact Kh h1 (by rw[Aey];exact h2) h0 hL (by rw[e,AdE];exact hs)
 have w:IntKind.i64.wrap (-g.num) = -g.num:=Bj (by rw[AdE];exact hg.1);have x0:AI 0 2=some 0:=rfl;have x1:AI 1 2=some 1:=rfl;unfold fr at *;rw[Rat.neg_num,Aey]at hp;refine i34 F34 ?_;simp[x0,x1,w,hp,Ap,splice,seg,Adb]
theorem Uh(h1:(f.num*g.num).natAbs<=MX)(h2:f.den*g.den<=MX):Ret F 35 [fr f,fr g] rows=some (fr (f*g),rows,none):=by
 have hd:0<f.den*g.den:=Ad1 f.den_pos g.den_pos;have r:∀R:List Row,Ret F 73 [.int .i64 (f.num*g.num),.int .i64 ((f.den:Int)*(g.den:Int))] R=some (fr (f*g),R,none):=fun R=>by
  rw[<-Int.natCast_mul,LA (by omega) h1 (by omega),Adg,<-Rat.divInt_mul_divInt,Aej,Aej]
 have w1:IntKind.i64.wrap (f.num*g.num)=f.num*g.num:=Bj h1;have w2:IntKind.i64.wrap ((f.den:Int)*(g.den:Int))=(f.den:Int)*(g.den:Int):=by rw[<-Int.natCast_mul];exact Bj (by omega)
 have x0:AI 0 2=some 0:=rfl;have x1:AI 1 2=some 1:=rfl;unfold fr at *;refine i35 F35 ?_;simp[x0,x1,w1,w2,r,splice,seg,Adb]
end
def su:Nat->(Nat->Rat)->Rat
 |0,_=>0
 |n+1,f=>su n f+f n
theorem Aa{f g:Nat->Rat}:∀{n:Nat},(∀i,i<n->f i=g i)->su n f=su n g
 |0,_=>rfl
 |n+1,h=>by rw[su,su,Aa fun i hi=>h i (by omega),h n (by omega)]
theorem DT{f g:Nat->Rat}{x y:Rat}:∀n,su n (fun i=>x*f i+y*g i)=x*su n f+y*su n g
 |0=>by simp only[su];grind
 |n+1=>by rw[su,su,su,DT n];grind
theorem Xy:∀n,su n (fun _=>0)=0
 |0=>rfl
 |n+1=>by rw[su,Xy n];grind
theorem GM{f:Nat->Rat}{n:Nat}(h:∀i,i<n->f i=0):su n f=0:=by
 rw[Aa h,Xy]
theorem AR{f:Nat->Rat}{x:Rat}(n:Nat):su n (fun i=>x*f i)=x*su n f:=by
 have:=DT (f:=f) (g:=fun _=>0) (x:=x) (y:=0) n;rw[Xy]at this;rw[Aa (g:=fun i=>x*f i+0*0) fun i _=>by grind,this];grind
theorem KX{f g:Nat->Rat}(n:Nat):su n (fun i=>f i+g i)=su n f+su n g:=by
 have:=DT (f:=f) (g:=g) (x:=1) (y:=1) n;rw[Aa (g:=fun i=>1*f i+1*g i) fun i _=>by grind,this];grind
theorem CB{f g:Nat->Rat}(n:Nat):su n (fun i=>f i-g i)=su n f-su n g:=by
 have:=DT (f:=f) (g:=g) (x:=1) (y:=-1) n;rw[Aa (g:=fun i=>1*f i + -1*g i) fun i _=>by grind,this];grind
theorem CI{f:Nat->Rat}{j:Nat}:∀{n:Nat},j<n->(∀i,i<n->i≠j->f i=0)->su n f=f j
 |0,h,_=>by omega
 |
  n+1,h,hz=>by
  rw[su]
  by_cases c:j=n
  ·subst c
   rw[GM fun i hi=>hz i (by omega) (by omega)];grind
  ·rw[CI (show j<n by omega) fun i hi hne=>hz i (by omega) hne,hz n (by omega) (by omega)]
   grind
theorem B5{f:Nat->Nat->Rat}(m:Nat):∀n,su n (fun i=>su m (f i))=su m (fun j=>su n fun i=>f i j)
 |0=>by simp only[su];rw[Xy]
 |
  n+1=>by
  simp only[su];rw[B5 m n,<-KX]
def skp(j s:Nat):Nat:=if s<j then s else s+1
theorem Sr{g:Nat->Rat}{j:Nat}:∀{n:Nat},j<=n->su (n+1) g=g j+su n (fun l=>g (skp j l))
 |
  0,h=>by
  obtain rfl:j=0:=by omega
  simp only[su];grind
 |
  n+1,h=>by
  rw[su]
  by_cases c:j=n+1
  ·subst c
   rw[Aa (f:=fun l=>g (skp (n+1) l)) (g:=g) fun l hl=>by unfold skp;rw[if_pos hl]];grind
  ·rw[Sr (show j<=n by omega)]
   conv=>rhs;rw[su]
   have e:skp j n=n+1:=by unfold skp;rw[if_neg (by omega)]
   rw[e];grind
def sg(j:Nat):Rat:=if j%2=0 then 1 else -1
theorem VX{j:Nat}:sg (j+1) = - sg j:=by
 unfold sg
 by_cases c:j%2=0
 ·rw[if_pos c,if_neg (by omega)]
 ·rw[if_neg c,if_pos (by omega)]
  rfl
def det:Nat->(Nat->Nat->Rat)->Rat
 |0,_=>1
 |k+1,a=>su (k+1) fun j=>sg j*a 0 j*det k (fun r s=>a (r+1) (skp j s))
theorem Fp{j s k:Nat}(h:s<k):skp j s<k+1:=by unfold skp;split<;>omega
theorem B8:∀{k:Nat} {a b:Nat->Nat->Rat},(∀r s,r<k->s<k->a r s=b r s)->det k a=det k b
 |0,a,b,_=>rfl
 |
  k+1,a,b,h=>by
  rw[det,det];refine Aa fun j hj=>?_
  rw[h 0 j (by omega) hj,B8 (k:=k) fun r s hr hs=>h (r+1) (skp j s) (by omega) (Fp hs)]
def upd(a:Nat->Nat->Rat)(t:Nat)(u:Nat->Rat):Nat->Nat->Rat:=fun r s=>if r=t then u s else a r s
theorem Pj{a:Nat->Nat->Rat}{t j:Nat}{u:Nat->Rat}:(fun r s=>upd a (t+1) u (r+1) (skp j s))=upd (fun r s=>a (r+1) (skp j s)) t (fun s=>u (skp j s)):=by
 funext r s;unfold upd
 by_cases c:r=t
 ·subst c;simp
 ·simp[c]
theorem Cz{x y:Rat}:∀{k t:Nat} {a:Nat->Nat->Rat} {u v:Nat->Rat},t<k->det k (upd a t fun s=>x*u s+y*v s)=x*det k (upd a t u)+y*det k (upd a t v)
 |0,t,a,u,v,h=>by omega
 |
  k+1,0,a,u,v,h=>by
  simp only[det];rw[<-DT];refine Aa fun j hj=>?_
  have e:∀w:Nat->Rat,(fun r s=>upd a 0 w (r+1) (skp j s))=fun r s=>a (r+1) (skp j s):=fun w=>by funext r s;simp[upd]
  rw[e,e,e];simp only[upd,if_true];generalize det k _=d;grind
 |
  k+1,t+1,a,u,v,h=>by
  simp only[det];rw[<-DT];refine Aa fun j hj=>?_
  rw[Pj,Pj,Pj,Cz (k:=k) (t:=t) (by omega)];have e:∀w:Nat->Rat,upd a (t+1) w 0 j=a 0 j:=fun w=>by simp[upd]
  rw[e,e,e];generalize det k _=d;generalize det k _=d';grind
theorem HL{k t:Nat}{a:Nat->Nat->Rat}(h:t<k){x:Nat->Rat}{b:Nat->Nat->Rat}:∀n,det k (upd a t fun s=>su n fun r=>x r*b r s)=su n fun r=>x r*det k (upd a t (b r))
 |
  0=>by
  have:=Cz (x:=0) (y:=0) (a:=a) (u:=fun _=>0) (v:=fun _=>0) h;simp only[su];have e:(fun(_:Nat)=>(0:Rat)*0+0*0)=fun _=>0:=by funext;grind
  rw[e]at this;rw[this];grind
 |
  n+1=>by
  have:=Cz (x:=1) (y:=x n) (a:=a) (u:=fun s=>su n fun r=>x r*b r s) (v:=b n) h;rw[HL h n]at this;simp only[su];have e:(fun s=>(1:Rat)*su n (fun r=>x r*b r s)+x n*b n s)=fun s=>su n (fun r=>x r*b r s)+x n*b n s:=by funext s;grind
  rw[e]at this;rw[this];grind
theorem OK{f:Nat->Rat}(n:Nat):su n (fun i=>- f i) = - su n f:=by
 have:=AR (f:=f) (x:=-1) n;rw[Aa (g:=fun i=>-1*f i) fun i _=>by grind,this];grind
theorem YQ{G:Nat->Nat->Rat}{n:Nat}(h:∀u v,u<n->v<n->G u v = - G v u):su n (fun u=>su n (G u))=0:=by
 have h1:su n (fun u=>su n (G u))=su n (fun u=>su n fun v=>- G v u):=Aa fun u hu=>Aa fun v hv=>h u v hu hv
 have h2:su n (fun u=>su n fun v=>- G v u) = - su n (fun u=>su n (G u)):=by
  rw[Aa (g:=fun u=>- su n fun v=>G v u) fun u _=>OK n,OK,B5]
 rw[h2]at h1;grind
theorem Wd{u v s:Nat}(h:u<v):skp u (skp (v-1) s)=skp v (skp u s):=by
 unfold skp
 by_cases c1:s<v-1<;>by_cases c2:s<u
 ·simp[c1,c2];omega
 ·simp[c1,c2];omega
 ·omega
 ·simp[c1,c2];rw[if_neg (by omega),if_neg (by omega)]
theorem Oi{m:Nat}{a:Nat->Nat->Rat}(h:∀s,s<m+2->a 0 s=a 1 s):det (m+2) a=0:=by
 let M:Nat->Nat->Rat:=fun u v=>det m (fun r s=>a (r+2) (skp u (skp v s)))
 let G:Nat->Nat->Rat:=fun u v=>if u<v then sg u*sg (v-1)*a 0 u*a 0 v*M u (v-1)else if v<u then sg u*sg v*a 0 u*a 0 v*M u v else 0
 have e:det (m+2) a=su (m+2) (fun u=>su (m+2) (G u)):=by
  rw[det];refine Aa fun j hj=>?_
  rw[det,<-AR,Sr (g:=G j) (show j<=m+1 by omega)];have g0:G j j=0:=by simp[G]
  rw[g0,Rat.zero_add];refine Aa fun l hl=>?_
  have hs:=Fp (j:=j) hl;rw[show(fun r s=>a (r+1+1) (skp j (skp l s)))=(fun r s=>a (r+2) (skp j (skp l s)))from rfl,<-h _ hs]
  by_cases c:l<j
  ·have e1:skp j l=l:=by unfold skp;rw[if_pos c]
   simp only[e1,G];rw[if_neg (by omega),if_pos c];simp only[M];generalize det m _=d;grind
  ·have e1:skp j l=l+1:=by unfold skp;rw[if_neg c]
   simp only[e1,G];rw[if_pos (by omega),Nat.add_sub_cancel];simp only[M];generalize det m _=d;grind
 rw[e];refine YQ fun u v hu hv=>?_
 have key:∀u v,u<v->G u v = - G v u:=by
  intro u v huv;simp only[G];rw[if_pos huv,if_neg (by omega),if_pos huv];have hM:M u (v-1)=M v u:=by
   simp only[M];congr 1;funext r s;rw[Wd huv]
  have hsg:sg v = - sg (v-1):=by rw[<-VX,show v-1+1=v from by omega]
  rw[hM,hsg];generalize M v u=d;grind
 rcases Aec u v with c|c|c
 ·exact key u v c
 ·subst c
  simp[G]
 ·rw[key v u c]
  grind
theorem CQ{a:Nat->Nat->Rat}{t t':Nat}{u v:Nat->Rat}(h:t≠t'):upd (upd a t u) t' v=upd (upd a t' v) t u:=by
 funext r s;unfold upd;by_cases c1:r=t<;>by_cases c2:r=t'<;>simp[c1,c2]<;>omega
theorem QM{a:Nat->Nat->Rat}{t:Nat}:upd a t (a t)=a:=by
 funext r s;unfold upd;split
 ·rename_i e;rw[e]
 ·rfl
theorem N6{k:Nat}(hA:∀(a:Nat->Nat->Rat) (t t':Nat),t<t'->t'<k->(∀s,s<k->a t s=a t' s)->det k a=0){a:Nat->Nat->Rat}{t t':Nat}(h:t<t')(h':t'<k){u v:Nat->Rat}:
  det k (upd (upd a t u) t' v) = - det k (upd (upd a t v) t' u):=by
 have hne:t≠t':=by omega
 have h0:∀x:Nat->Rat,det k (upd (upd a t x) t' x)=0:=fun x=>hA _ t t' h h' fun s _=>by
  simp[upd,hne]
 have e1:=h0 fun s=>1*u s+1*v s
 rw[Cz h',CQ hne,CQ hne,Cz (by omega),Cz (by omega),<-CQ hne,<-CQ hne,<-CQ hne,<-CQ hne,h0,h0]at e1;grind
theorem Es:∀{k:Nat} {a:Nat->Nat->Rat} {t t':Nat},t<t'->t'<k->(∀s,s<k->a t s=a t' s)->det k a=0
 |0,a,t,t',h,h',_=>by omega
 |1,a,t,t',h,h',_=>by omega
 |
  k+2,a,t,t',h,h',he=>by
  by_cases c:t=0
  ·subst c
   by_cases c1:t'=1
   ·subst c1
    exact Oi he
   ·-- rows 1 and t' change places
    have hsw:det (k+2) a = - det (k+2) (upd (upd a 1 (a t')) t' (a 1)):=by
     rw[det,det,<-OK];refine Aa fun j hj=>?_
     have e0:upd (upd a 1 (a t')) t' (a 1) 0 j=a 0 j:=by
      unfold upd;rw[if_neg (by omega),if_neg (by omega)]
     have e1:(fun r s=>upd (upd a 1 (a t')) t' (a 1) (r+1) (skp j s))=upd (upd (fun r s=>a (r+1) (skp j s)) 0 (fun s=>a t' (skp j s))) (t'-1) (fun s=>a 1 (skp j s)):=by
      conv=>lhs;rw[show t'=(t'-1)+1 from by omega,Pj,show(1:Nat)=0+1 from rfl,Pj]
      rw[show t'-1+1=t' from by omega]
     rw[e0,e1,N6 (k:=k+1) (fun a t t' h1 h2 h3=>Es h1 h2 h3) (show 0<t'-1 by omega) (by omega)];have e2:upd (upd (fun r s=>a (r+1) (skp j s)) 0 (fun s=>a 1 (skp j s))) (t'-1) (fun s=>a t' (skp j s))=fun r s=>a (r+1) (skp j s):=by
      funext r s;unfold upd
      split
      ·rename_i e;rw[e,show t'-1+1=t' from by omega]
      ·split
       ·rename_i e;rw[e]
       ·rfl
     rw[e2];generalize det (k+1) _=d;grind
    rw[hsw,Oi fun s hs=>by
     simp only[upd];rw[if_neg (by omega),if_neg (by omega),if_neg (by omega)]
     exact he s hs]
    grind
  ·rw[det]
   refine GM fun j hj=>?_
   rw[Es (k:=k+1) (t:=t-1) (t':=t'-1) (by omega) (by omega) fun s hs=>by
    show a (t-1+1) (skp j s)=a (t'-1+1) (skp j s);rw[show t-1+1=t from by omega,show t'-1+1=t' from by omega]
    exact he _ (Fp hs)]
   grind
theorem PZ{k t:Nat}{a:Nat->Nat->Rat}{v x:Nat->Rat}(h:∀s,s<k->v s=su k fun r=>x r*a r s)(ht:t<k):x t*det k a=det k (upd a t v):=by
 have e1:det k (upd a t v)=det k (upd a t fun s=>su k fun r=>x r*a r s):=B8 fun r s hr hs=>by
  unfold upd
  split
  ·exact h s hs
  ·rfl
 rw[e1,HL ht,CI ht,QM];intro i hi hne;have:det k (upd a t (a i))=0:=by
  rcases Nat.lt_or_gt_of_ne hne with c|c
  ·exact Es (t:=i) (t':=t) c ht fun s _=>by simp[upd]
  ·exact Es (t:=t) (t':=i) c hi fun s _=>by simp[upd]
 rw[this];grind
theorem EV:∀{k:Nat} {a:Nat->Nat->Rat},(∀s,s<k->a k s=0)->det (k+1) a=a k k*det k a
 |
  0,a,_=>by
  simp only[det,su,sg];grind
 |
  k+1,a,h=>by
  rw[det,su];have hz:det (k+1) (fun r s=>a (r+1) (skp (k+1) s))=0:=by
   rw[EV (k:=k) fun s hs=>by
    show a (k+1) (skp (k+1) s)=0;unfold skp;rw[if_pos (by omega)]
    exact h s (by omega)]
   have:a (k+1) (skp (k+1) k)=0:=by
    unfold skp;rw[if_pos (by omega)];exact h k (by omega)
   rw[this];grind
  rw[hz];have hr:a (k+1) (k+1)*det (k+1) a=su (k+1) fun j=>sg j*a 0 j*det (k+1) (fun r s=>a (r+1) (skp j s)):=by
   rw[det,<-AR];refine Aa fun j hj=>?_
   rw[EV (k:=k) fun s hs=>by
    show a (k+1) (skp j s)=0
    exact h _ (Fp hs)]
   have:skp j k=k+1:=by unfold skp;rw[if_neg (by omega)]
   rw[this];generalize det k _=d;grind
  rw[hr];grind
def isz(x:Rat)(B:Nat):Prop:=∃n:Int,x=(n:Rat)/\n.natAbs<=B
theorem IF{x:Rat}{B C:Nat}(h:isz x B)(hC:B<=C):isz x C:=by
 obtain⟨n,e,hn⟩:=h;exact⟨n,e,by omega⟩
theorem Us{B:Nat}:isz 0 B:=⟨0,rfl,by simp⟩
theorem Qo:isz 1 1:=⟨1,rfl,by simp⟩
theorem PN{x y:Rat}{B C:Nat}(h:isz x B)(k:isz y C):isz (x+y) (B+C):=by
 obtain⟨n,e,hn⟩:=h;obtain⟨m,f,hm⟩:=k;exact⟨n+m,by rw[e,f,AdY],by omega⟩
theorem OG{x:Rat}{B:Nat}(h:isz x B):isz (-x) B:=by
 obtain⟨n,e,hn⟩:=h;exact⟨-n,by rw[e,Rat.intCast_neg],by omega⟩
theorem UQ{x y:Rat}{B C:Nat}(h:isz x B)(k:isz y C):isz (x-y) (B+C):=by
 rw[Rat.sub_eq_add_neg];exact PN h (OG k)
theorem HE{x y:Rat}{B C:Nat}(h:isz x B)(k:isz y C):isz (x*y) (B*C):=by
 obtain⟨n,e,hn⟩:=h;obtain⟨m,f,hm⟩:=k;exact⟨n*m,by rw[e,f,Adi],by rw[Ac6];exact Ac1 hn hm⟩
def ns:Nat->(Nat->Nat)->Nat
 |0,_=>0
 |n+1,f=>ns n f+f n
theorem PM{f:Nat->Rat}{b:Nat->Nat}:∀{n:Nat},(∀i,i<n->isz (f i) (b i))->isz (su n f) (ns n b)
 |0,_=>Us
 |n+1,h=>PN (PM fun i hi=>h i (by omega)) (h n (by omega))
theorem Wg{f g:Nat->Nat}:∀{n:Nat},(∀i,i<n->f i<=g i)->ns n f<=ns n g
 |0,_=>AcE _
 |n+1,h=>Nat.add_le_add (Wg fun i hi=>h i (by omega)) (h n (by omega))
theorem O6{f:Nat->Nat}{c:Nat}:∀n,ns n (fun i=>f i*c)=ns n f*c
 |0=>by simp[ns]
 |n+1=>by rw[ns,ns,O6 n,Aex]
theorem DU{c:Nat}:∀n,ns n (fun _=>c)=n*c
 |0=>by simp[ns]
 |n+1=>by rw[ns,DU n,AeB]
theorem N8{f:Nat->Nat}{κ:Nat->Nat}:∀{k c:Nat},(∀s t,s<t->t<k->κ s<κ t)->(∀s,s<k->κ s<c)->ns k (fun s=>f (κ s))<=ns c f
 |0,c,_,_=>AcX _
 |
  k+1,c,h,hc=>by
  have hk:=hc k (by omega);have ih:=N8 (f:=f) (k:=k) (c:=κ k) (fun s t h1 h2=>h s t h1 (by omega)) (fun s hs=>h s k hs (by omega));have hmono:∀a b,a<=b->ns a f<=ns b f:=by
   intro a b hab
   induction b with
   |zero=>
    obtain rfl:a=0:=by omega
    exact AcE _
   |succ b ihb=>
    rcases AdJ hab with e|e
    ·rw[e];exact AcE _
    ·exact AcP (ihb (by omega)) (Nat.le_add_right ..)
  have:=hmono (κ k+1) c (by omega);rw[ns]at this ⊢;omega
def pr:Nat->(Nat->Nat)->Nat
 |0,_=>1
 |k+1,f=>f 0*pr k fun r=>f (r+1)
theorem Hl{c:Nat}:∀k,pr k (fun _=>c)=c^k
 |0=>rfl
 |k+1=>by rw[pr,Hl k,Nat.pow_succ,AdR]
theorem S5{c:Nat}:∀{k s:Nat},s<k->pr k (fun r=>if r=s then 1 else c)=c^(k-1)
 |0,s,h=>by omega
 |
  k+1,0,h=>by
  have e:(fun r=>if r+1=0 then 1 else c)=fun _=>c:=by funext r;simp
  rw[pr,e,Hl];simp
 |
  k+1,s+1,h=>by
  have e:(fun r=>if r+1=s+1 then 1 else c)=fun r=>if r=s then 1 else c:=by funext r;simp
  rw[pr,e,S5 (show s<k by omega),if_neg (by omega),AdR,<-Nat.pow_succ];congr 1;omega
theorem JP:∀{k:Nat} {ν:Nat->Nat} {a:Nat->Nat->Rat} {b:Nat->Nat->Nat},(∀r s,r<k->s<k->isz (a r s) (b r s))->(∀r,r<k->ns k (b r)<=ν r)->isz (det k a) (pr k ν)
 |0,ν,a,b,_,_=>⟨1,rfl,by simp[pr]⟩
 |
  k+1,ν,a,b,h,hn=>by
  rw[det];have hsg:∀j,isz (sg j) 1:=fun j=>by
   unfold sg
   split
   ·exact Qo
   ·exact OG Qo
  have hd:∀j,j<k+1->isz (det k fun r s=>a (r+1) (skp j s)) (pr k fun r=>ν (r+1)):=fun j hj=>by
   refine JP (b:=fun r s=>b (r+1) (skp j s)) (fun r s hr hs=>h _ _ (by omega) (Fp hs)) fun r hr=>?_
   refine AcP ?_ (hn (r+1) (by omega));refine N8 (f:=b (r+1)) (fun s t h1 h2=>?_) fun s hs=>Fp hs
   unfold skp
   split<;>split<;>omega
  have hs:=PM (n:=k+1) (f:=fun j=>sg j*a 0 j*det k fun r s=>a (r+1) (skp j s)) (b:=fun j=>1*b 0 j*pr k fun r=>ν (r+1)) fun j hj=>HE (HE (hsg j) (h 0 j (by omega) hj)) (hd j hj)
  refine IF hs ?_;rw[O6 (f:=fun j=>1*b 0 j),pr];refine Ady _ ?_;refine AcP (Wg fun i hi=>?_) (hn 0 (by omega));omega
def swp(k a i:Nat):Nat:=if i=k then a else if i=a then k else i
def elm(M:Nat->Nat->Rat)(k at_ c:Nat):Nat->Nat->Rat:=fun i j=>
 if i=k then M at_ j/M at_ c else M (swp k at_ i) j-M at_ j/M at_ c*M (swp k at_ i) c
structure Gj(A:Nat->Nat->Rat)(n k c:Nat)(σ κ:Nat->Nat)(M:Nat->Nat->Rat):Prop where
 kn:k<=n
 kc:∀s,s<k->κ s<c
 ki:∀s t,s<t->t<k->κ s<κ t
 σn:∀i,i<n->σ i<n
 piv:∀t s,t<k->s<k->M t (κ s)=if t=s then 1 else 0
 np:∀i s,k<=i->i<n->s<k->M i (κ s)=0
 z:∀i j,k<=i->i<n->j<c->M i j=0
 pc:∀t,t<k->∃μ:Nat->Rat,∀j,M t j=su k fun s=>μ s*A (σ s) j
 nc:∀i,k<=i->i<n->∃l:Nat->Rat,∀j,M i j=A (σ i) j-su k fun s=>l s*A (σ s) j
 D:det k (fun r s=>A (σ r) (κ s))≠0
theorem Ack{A:Nat->Nat->Rat}{n:Nat}:Gj A n 0 0 id id A where
 kn:=AcX _
 kc:=fun s h=>by omega
 ki:=fun s t _ h=>by omega
 σn:=fun i h=>h
 piv:=fun t s h=>by omega
 np:=fun i s _ _ h=>by omega
 z:=fun i j _ _ h=>by omega
 pc:=fun t h=>by omega
 nc:=fun i _ _=>⟨fun _=>0,fun j=>by simp only[su,id];grind⟩
 D:=by rw[det];grind
section
variable {A M:Nat->Nat->Rat}{n k c:Nat}{σ κ:Nat->Nat}
theorem Gj.skip(h:Gj A n k c σ κ M)(hz:∀i,k<=i->i<n->M i c=0):Gj A n k (c+1) σ κ M:=
 {h with
  kc:=fun s hs=>by have:=h.kc s hs;omega
  z:=fun i j h1 h2 h3=>by
   by_cases e:j=c
   ·subst e;exact hz i h1 h2
   ·exact h.z i j h1 h2 (by omega)}
theorem Gj.det(h:Gj A n k c σ κ M){a:Nat}(h1:k<=a)(h2:a<n):Go.Abs.det (k+1) (fun r s=>A (σ (swp k a r)) (if s=k then c else κ s))=M a c*Go.Abs.det k (fun r s=>A (σ r) (κ s)):=by
 obtain⟨l,hl⟩:=h.nc a h1 h2;have e0:∀r,r<k->swp k a r=r:=fun r hr=>by unfold swp;rw[if_neg (by omega),if_neg (by omega)]
 have ek:swp k a k=a:=by unfold swp;rw[if_pos rfl]
 obtain⟨X,hX⟩:∃X:Nat->Nat->Rat,X=fun r s=>A (σ (swp k a r)) (if s=k then c else κ s):=⟨_,rfl⟩
 have e1:Go.Abs.det (k+1) X=Go.Abs.det (k+1) (upd X k fun s=>1*(if s=k then M a c else 0)+1*su k (fun r=>l r*X r s)):=by
  refine B8 fun r s hr hs=>?_
  unfold upd
  split
  ·rename_i e
   subst e;rw[hX];simp only[ek];have e2:su r (fun q=>l q*A (σ (swp r a q)) (if s=r then c else κ s))=su r fun q=>l q*A (σ q) (if s=r then c else κ s):=Aa fun q hq=>by rw[e0 q hq]
   rw[e2];have:=hl (if s=r then c else κ s)
   by_cases cs:s=r
   ·simp only[if_pos cs]at this ⊢
    grind
   ·simp only[if_neg cs]at this ⊢
    rw[h.np a s h1 h2 (by omega)]at this;grind
  ·rfl
 have e3:Go.Abs.det (k+1) (upd X k fun s=>su k (fun r=>l r*X r s))=0:=by
  rw[HL (by omega)];refine GM fun i hi=>?_
  rw[Es (t:=i) (t':=k) hi (by omega) fun s _=>by simp[upd];try omega];grind
 have e4:Go.Abs.det (k+1) (upd X k fun s=>if s=k then M a c else 0)=M a c*Go.Abs.det k (fun r s=>A (σ r) (κ s)):=by
  rw[EV fun s hs=>by simp[upd];try omega];congr 1
  ·simp[upd]
  ·refine B8 fun r s hr hs=>?_
   unfold upd;rw[if_neg (by omega),hX];simp only[e0 r hr];rw[if_neg (by omega)]
 rw[<-hX,e1,Cz (by omega),e3,e4];grind
theorem IU{k a i:Nat}(h:i<k)(hka:k<=a):swp k a i=i:=by unfold swp;rw[if_neg (by omega),if_neg (by omega)]
theorem Ov{k a i n:Nat}(h:k<=i)(hi:i<n)(hka:k<=a)(ha:a<n):k<=swp k a i/\swp k a i<n:=by
 unfold swp
 split
 ·omega
 ·split<;>omega
theorem Gj.step(h:Gj A n k c σ κ M){a:Nat}(h1:k<=a)(h2:a<n)(hp:M a c≠0):Gj A n (k+1) (c+1) (fun i=>σ (swp k a i)) (fun s=>if s=k then c else κ s) (elm M k a c):=by
 have ek:swp k a k=a:=by unfold swp;rw[if_pos rfl]
 obtain⟨la,hla⟩:=h.nc a h1 h2;have hpp:M a c*(M a c)⁻¹=1:=Rat.mul_inv_cancel _ hp;have hdd:M a c/M a c=1:=by rw[AdS];exact hpp
 have hzz:∀x:Rat,(0:Rat)/x=0:=fun x=>by rw[AdS,Rat.zero_mul]
 have hrow:∀i,i≠k->∀j,elm M k a c i j=M (swp k a i) j-M a j/M a c*M (swp k a i) c:=fun i hi j=>by unfold elm;rw[if_neg hi]
 have hrk:∀j,elm M k a c k j=M a j/M a c:=fun j=>by unfold elm;rw[if_pos rfl]
 refine⟨by omega,?_,?_,?_,?_,?_,?_,?_,?_,?_⟩
 ·intro s hs
  split
  ·omega
  ·have:=h.kc s (by omega);omega
 ·intro s t h3 h4
  by_cases e:t=k
  ·subst e
   simp only[if_true];rw[if_neg (by omega)];exact h.kc s h3
  ·rw[if_neg (by omega),if_neg e]
   exact h.ki s t h3 (by omega)
 ·intro i hi
  refine h.σn _ ?_;unfold swp
  split
  ·exact h2
  ·split<;>omega
 ·intro t s ht hs
  by_cases et:t=k
  ·subst et
   rw[hrk]
   by_cases es:s=t
   ·subst es;simp[hdd]
   ·rw[if_neg es,if_neg (fun e=>es e.symm),h.np a s h1 h2 (by omega),hzz]
  ·rw[hrow t et,IU (by omega) h1]
   by_cases es:s=k
   ·subst es
    rw[if_pos rfl,if_neg et,hdd];grind
   ·rw[if_neg es,h.np a s h1 h2 (by omega),hzz,h.piv t s (by omega) (by omega)]
    grind
 ·intro i s hi hin hs
  have hg:=Ov (k:=k) (a:=a) (i:=i) (n:=n) (by omega) hin h1 h2;rw[hrow i (by omega)]
  by_cases es:s=k
  ·subst es
   rw[if_pos rfl,hdd];grind
  ·rw[if_neg es,h.np a s h1 h2 (by omega),hzz,h.np _ s hg.1 hg.2 (by omega)]
   grind
 ·intro i j hi hin hj
  have hg:=Ov (k:=k) (a:=a) (i:=i) (n:=n) (by omega) hin h1 h2;rw[hrow i (by omega)]
  by_cases ej:j=c
  ·subst ej
   rw[hdd];grind
  ·rw[h.z a j h1 h2 (by omega),h.z _ j hg.1 hg.2 (by omega),hzz]
   grind
 ·intro t ht
  by_cases et:t=k
  ·subst et
   refine⟨fun s=>if s=t then(M a c)⁻¹ else-la s*(M a c)⁻¹,fun j=>?_⟩;rw[hrk,hla j,su];simp only[if_true,ek];have:su t (fun s=>(if s=t then(M a c)⁻¹ else -la s*(M a c)⁻¹)*A (σ (swp t a s)) j)=su t fun s=>-(M a c)⁻¹*(la s*A (σ s) j):=Aa fun s hs=>by
    rw[if_neg (by omega),IU hs h1];grind
   rw[this,AR,AdS];grind
  ·obtain⟨μ,hμ⟩:=h.pc t (by omega)
   refine⟨fun s=>if s=k then-(M t c*(M a c)⁻¹)else μ s+M t c*(M a c)⁻¹*la s,fun j=>?_⟩;rw[hrow t et,IU (by omega) h1,hμ j,hla j,su];simp only[if_true,ek];have:su k (fun s=>(if s=k then-(M t c*(M a c)⁻¹)else μ s+M t c*(M a c)⁻¹*la s)*A (σ (swp k a s)) j)=su k fun s=>1*(μ s*A (σ s) j)+(M t c*(M a c)⁻¹)*(la s*A (σ s) j):=Aa fun s hs=>by
    rw[if_neg (by omega),IU hs h1];grind
   rw[this,DT,AdS];grind
 ·intro i hi hin
  have hg:=Ov (k:=k) (a:=a) (i:=i) (n:=n) (by omega) hin h1 h2;obtain⟨li,hli⟩:=h.nc _ hg.1 hg.2;refine⟨fun s=>if s=k then M (swp k a i) c*(M a c)⁻¹ else li s-M (swp k a i) c*(M a c)⁻¹*la s,fun j=>?_⟩;rw[hrow i (by omega)];have hx:=hli j;have hy:=hla j;generalize M (swp k a i) c=x at *;rw[hx,hy,su];simp only[if_true,ek];have:su k (fun s=>(if s=k then x*(M a c)⁻¹ else li s-x*(M a c)⁻¹*la s)*A (σ (swp k a s)) j)=su k fun s=>1*(li s*A (σ s) j) + -(x*(M a c)⁻¹)*(la s*A (σ s) j):=Aa fun s hs=>by
   rw[if_neg (by omega),IU hs h1];grind
  rw[this,DT,AdS];grind
 ·rw[h.det h1 h2]
  intro e;rcases AeH.1 e with e|e
  ·exact hp e
  ·exact h.D e
end
structure dn(q:Rat)(L B:Nat):Prop where
 L0:0<L
 d:q.den∣L
 b:(sc q L).natAbs<=B
theorem Gx{q:Rat}{L:Nat}(h:q.den∣L):((sc q L:Int):Rat)=q*((L:Int):Rat):=by
 obtain⟨t,rfl⟩:=h;have hd:=q.den_pos;unfold sc;rw[Adk _ hd,Adi];have e:q*((q.den:Int):Rat)=((q.num:Int):Rat):=by
  conv=>lhs;arg 1;rw[<-Rat.num_divInt_den q,Rat.divInt_eq_div]
  exact Rat.div_mul_cancel (by
   intro h;have:=congrArg Rat.num h;rw[Ad9]at this;have h2:(0:Rat).num=0:=rfl
   omega)
 have e2:(((q.den*t:Nat):Int):Rat)=((q.den:Int):Rat)*((t:Int):Rat):=by rw[Adg,Adi]
 rw[e2,<-e];grind
theorem DW{a b:Int}(h:(a:Rat)=(b:Rat)):a=b:=by
 have:=congrArg Rat.num h;rwa[Ad9,Ad9]at this
theorem ME{q:Rat}{d n:Int}{t:Nat}(hd:d≠0)(h:q*(d:Rat)=(n:Rat))(ht:0<t):dn q (d.natAbs*t) (n.natAbs*t):=by
 have hdQ:(d:Rat)≠0:=fun e=>hd (DW e)
 have hq:q=Rat.divInt n d:=by
  rw[Rat.divInt_eq_div,<-h,Rat.mul_div_cancel hdQ]
 have hdv:q.den∣d.natAbs:=by
  rw[hq,Rat.den_divInt,if_neg hd];exact Nat.div_dvd_of_dvd (Nat.gcd_dvd_left ..)
 have hdv2:q.den∣d.natAbs*t:=Nat.dvd_trans hdv (Nat.dvd_mul_right ..);refine⟨Ad1 (by omega) ht,hdv2,?_⟩;have hv:=Gx hdv2;have:(sc q (d.natAbs*t)).natAbs=n.natAbs*t:=by
  rcases Int.natAbs_eq d with e|e
  ·have:sc q (d.natAbs*t)=n*t:=DW (by
    rw[hv,Adg,<-e,Adi,Adi,<-h]
    grind)
   rw[this,Ac6]
   rfl
  ·have e':((d.natAbs:Nat):Int) = -d:=by omega
   have:sc q (d.natAbs*t) = -(n*t):=DW (by
    rw[hv,Adg,e',Adi,Rat.intCast_neg,Rat.intCast_neg,Adi,<-h]
    grind)
   rw[this,AdE,Ac6]
   rfl
 omega
theorem Ft{q:Rat}{L B C:Nat}(h:dn q L B)(hB:B<=C):dn q L C:=⟨h.L0,h.d,AcP h.b hB⟩
theorem LN{x y:Rat}{L B C:Nat}(h:dn x L B)(k:dn y L C):dn (x-y) L (B+C):=by
 have h1:=Gx h.d;have k1:=Gx k.d;have hL:(L:Int)≠0:=by have:=h.L0;omega
 have:=ME (q:=x-y) (d:=L) (n:=sc x L-sc y L) (t:=1) hL (by rw[Rat.intCast_sub,h1,k1];grind) (by omega);rw[Add,Add,Int.natAbs_natCast]at this;exact Ft this (by have:=h.b;have:=k.b;omega)
theorem IM{q:Rat}{L B:Nat}(h:dn q L B)(hL:L<=MX)(hB:B<=MX):sm q:=by
 have h1:=Aep h.L0 h.d;refine⟨?_,by omega⟩;have hb:=h.b;unfold sc at hb;have hq:=q.den_pos;have:1<=L/q.den:=(Nat.le_div_iff_mul_le hq).2 (by omega);have:=Iz hb (by omega);omega
structure Bd(A:Nat->Nat->Rat)(n w cols:Nat):Prop where
 e:∀i j,i<n->j<w->isz (A i j) 500
 a:∀i j,i<n->j<cols->isz (A i j) 5
 nu:∃b:Nat->Nat->Nat,(∀i j,i<n->j<cols->isz (A i j) (b i j))/\∀i,i<n->ns cols (b i)<=10
theorem Na{k ν:Nat}{a:Nat->Nat->Rat}{b:Nat->Nat->Nat}(h:∀r s,r<k->s<k->isz (a r s) (b r s))(hn:∀r,r<k->ns k (b r)<=ν):isz (det k a) (ν^k):=by
 rw[<-Hl];exact JP h hn
theorem R9{k s ν i:Nat}{a:Nat->Nat->Rat}{b:Nat->Nat->Nat}(hs:s<k)(h:∀r q,r<k->q<k->isz (a r q) (b r q))(hn:∀r,r<k->ns k (b r)<=ν):isz (det k (upd a s fun q=>if i=q then 1 else 0)) (ν^(k-1)):=by
 rw[<-S5 hs];refine JP (b:=fun r q=>if r=s then(if i=q then 1 else 0)else b r q) (fun r q hr hq=>?_) fun r hr=>?_
 ·unfold upd
  by_cases e:r=s
  ·rw[if_pos e,if_pos e]
   by_cases e2:i=q
   ·simp only[if_pos e2];exact Qo
   ·simp only[if_neg e2];exact Us
  ·rw[if_neg e,if_neg e]
   exact h r q hr hq
 ·by_cases e:r=s
  ·simp only[if_pos e]
   have:∀m,(m<=i->ns m (fun q=>if i=q then 1 else 0)=0)/\ns m (fun q=>if i=q then 1 else 0)<=1:=by
    intro m
    induction m with
    |zero=>exact⟨fun _=>rfl,AcX _⟩
    |succ m ih=>
     rw[ns]
     by_cases c:i=m
     ·have:=ih.1 (by omega)
      rw[this,if_pos c];exact⟨fun h=>by omega,AcE _⟩
     ·rw[if_neg c]
      exact⟨fun h=>ih.1 (by omega),ih.2⟩
   exact(this k).2
  ·simp only[if_neg e]
   exact hn r hr
section
variable {A M:Nat->Nat->Rat}{n k c w cols:Nat}{σ κ:Nat->Nat}
theorem Gj.Disz(h:Gj A n k c σ κ M)(hb:Bd A n w cols)(hc:c<=cols){i:Nat}(hi:i<n):
  isz (Go.Abs.det k (fun r s=>A (σ r) (κ s))) (10^k)/\∀j B,(∀i,i<n->isz (A i j) B)->isz (Go.Abs.det k (fun r s=>A (σ r) (κ s))*M i j) (if i<k then k*(10^(k-1)*B)else(k+1)*10^k*B):=by
 obtain⟨b,hb1,hb2⟩:=hb.nu;have hκ:∀s,s<k->κ s<cols:=fun s hs=>by have:=h.kc s hs;omega
 have hkn:=h.kn;have hnorm:∀r,r<n->ns k (fun s=>b r (κ s))<=10:=fun r hr=>AcP (N8 (f:=b r) h.ki hκ) (hb2 r hr)
 have hD:isz (Go.Abs.det k (fun r s=>A (σ r) (κ s))) (10^k):=Na (b:=fun r s=>b (σ r) (κ s)) (fun r s hr hs=>hb1 _ _ (h.σn r (by omega)) (hκ s hs)) fun r hr=>hnorm _ (h.σn r (by omega))
 refine⟨hD,fun j B hj=>?_⟩;have hsum:∀(x:Nat->Rat) (P:Nat),(∀s,s<k->isz (x s*Go.Abs.det k (fun r s=>A (σ r) (κ s))) P)->isz (Go.Abs.det k (fun r s=>A (σ r) (κ s))*su k fun s=>x s*A (σ s) j) (k*(P*B)):=fun x P hx=>by
  have:=PM (n:=k) (f:=fun s=>x s*Go.Abs.det k (fun r s=>A (σ r) (κ s))*A (σ s) j) (b:=fun _=>P*B) fun s hs=>HE (hx s hs) (hj _ (h.σn s (by omega)))
  rw[DU]at this;rw[<-AR];have e:su k (fun s=>x s*Go.Abs.det k (fun r s=>A (σ r) (κ s))*A (σ s) j)=su k fun s=>Go.Abs.det k (fun r s=>A (σ r) (κ s))*(x s*A (σ s) j):=Aa fun s _=>by
   generalize Go.Abs.det k _=d;grind
  rwa[e]at this
 by_cases hk:i<k
 ·obtain⟨μ,hμ⟩:=h.pc i hk
  rw[if_pos hk];have:=hsum μ (10^(k-1)) fun s hs=>by
   rw[PZ (v:=fun r=>if i=r then 1 else 0) (fun r hr=>by
    show(if i=r then(1:Rat)else 0)=su k fun q=>μ q*A (σ q) (κ r)
    rw[<-hμ,h.piv i r hk hr]) hs]
   exact R9 (b:=fun r s=>b (σ r) (κ s)) hs (fun r q hr hq=>hb1 _ _ (h.σn r (by omega)) (hκ q hq)) (fun r hr=>hnorm _ (h.σn r (by omega)))
  rw[<-hμ]at this;exact this
 ·obtain⟨l,hl⟩:=h.nc i (by omega) hi
  rw[if_neg hk];have:=hsum l (10^k) fun s hs=>by
   rw[PZ (v:=fun r=>A (σ i) (κ r)) (fun r hr=>by
    have:=hl (κ r);rw[h.np i r (by omega) hi hr]at this;show A (σ i) (κ r)=su k fun q=>l q*A (σ q) (κ r)
    grind) hs]
   refine Na (b:=fun r q=>if r=s then b (σ i) (κ q)else b (σ r) (κ q)) (fun r q hr hq=>?_) fun r hr=>?_
   ·unfold upd
    split
    ·exact hb1 _ _ (h.σn i hi) (hκ q hq)
    ·exact hb1 _ _ (h.σn r (by omega)) (hκ q hq)
   ·by_cases e:r=s
    ·simp only[if_pos e]
     exact hnorm _ (h.σn i hi)
    ·simp only[if_neg e]
     exact hnorm _ (h.σn r (by omega))
  rw[hl];have h2:=UQ (HE hD (hj _ (h.σn i hi))) this;have e:∀d x y:Rat,d*(x-y)=d*x-d*y:=fun d x y=>by grind
  rw[e];exact IF h2 (by rw[Nat.mul_assoc,Aex,Nat.one_mul];omega)
structure Fit(M:Nat->Nat->Rat)(n w k a c:Nat):Prop where
 s:∀i j,i<n->j<w->sm (M i j)
 o:∀j,j<w->sm (M a j/M a c)
 m:∀i j,i<n->i≠k->j<w->sm (M a j/M a c*M (swp k a i) c)
 u:∀i j,i<n->i≠k->j<w->∃L,(M (swp k a i) j).den∣L/\(M a j/M a c*M (swp k a i) c).den∣L/\0<L/\L<=MX/\(sc (M (swp k a i) j) L).natAbs+(sc (M a j/M a c*M (swp k a i) c) L).natAbs<=MX
theorem N1{k m:Nat}(h:k<=m):10^k<=10^m:=Nat.pow_le_pow_right (by omega) h
theorem Gj.fit(h:Gj A n k c σ κ M)(hb:Bd A n w cols)(hc:c<cols)(hcw:cols<=w)(hk:k<=5){a:Nat}(h1:k<=a)(h2:a<n)(hp:M a c≠0):Fit M n w k a c:=by
 have h':=h.step h1 h2 hp;have hdet:=h.det h1 h2;have p5:=N1 hk;have p6:=N1 (show k+1<=6 by omega);rw[show(10:Nat)^5=100000 from rfl]at p5;rw[show(10:Nat)^6=1000000 from rfl]at p6;have p4:=N1 (show k-1<=4 by omega);rw[show(10:Nat)^4=10000 from rfl]at p4;have b5:∀i,(if i<k then k*(10^(k-1)*500)else(k+1)*10^k*500)<=300000000:=fun i=>by
  have:=Ac1 (show k+1<=6 by omega) p5;have:=Ac1 (show k<=5 by omega) p4
  split
  ·rw[<-Nat.mul_assoc];omega
  ·omega
 have b6:∀i,(if i<k+1 then(k+1)*(10^(k+1-1)*500)else(k+1+1)*10^(k+1)*500)<=3500000000:=fun i=>by
  have:=Ac1 (show k+1+1<=7 by omega) p6;have:=Ac1 (show k+1<=6 by omega) p5
  split
  ·rw[Nat.add_sub_cancel,<-Nat.mul_assoc];omega
  ·omega
 have hMX:MX=9223372036854775807:=rfl
 -- one denominator for all
 have hn0:0<n:=by omega
 obtain⟨D1,hD1,hD1b⟩:=(h.Disz hb (by omega) h2).1;have hD10:D1≠0:=fun e=>h.D (by rw[hD1,e];rfl)
 obtain⟨D2,hD2,hD2b⟩:=(h'.Disz hb (by omega) h2).1;have hD20:D2≠0:=fun e=>h'.D (by rw[hD2,e];rfl)
 have q1:∀i j,i<n->j<w->∀t,0<t->dn (M i j) (D1.natAbs*t) (300000000*t):=fun i j hi hj t ht=>by
  obtain⟨m,hm,hmb⟩:=(h.Disz hb (by omega) hi).2 j 500 (fun i hi=>hb.e i j hi hj);rw[hD1]at hm;exact Ft (ME hD10 (by rw[<-hm];grind) ht) (Ady _ (AcP hmb (b5 i)))
 have q2:∀i j,i<n->j<w->∀t,0<t->dn (elm M k a c i j) (D2.natAbs*t) (3500000000*t):=fun i j hi hj t ht=>by
  obtain⟨m,hm,hmb⟩:=(h'.Disz hb (by omega) hi).2 j 500 (fun i hi=>hb.e i j hi hj);rw[hD2]at hm;exact Ft (ME hD20 (by rw[<-hm];grind) ht) (Ady _ (AcP hmb (b6 i)))
 have hL1:D1.natAbs<=100000:=by omega
 have hL2:D2.natAbs<=1000000:=by omega
 have hLL:D1.natAbs*D2.natAbs<=100000*1000000:=Ac1 hL1 hL2;have w1:300000000*D2.natAbs<=300000000*1000000:=Aet _ hL2;have w2:3500000000*D1.natAbs<=3500000000*100000:=Aet _ hL1;have hkk:k<n:=by omega
 have both:∀i j,i<n->i≠k->j<w->dn (M (swp k a i) j) (D1.natAbs*D2.natAbs) 300000000000000/\dn (M a j/M a c*M (swp k a i) c) (D1.natAbs*D2.natAbs) 650000000000000:=fun i j hi hne hj=>by
  have hs:swp k a i<n:=by
   unfold swp
   split
   ·exact h2
   ·split<;>omega
  have r1:=Ft (q1 _ j hs hj D2.natAbs (by omega)) w1;have r2:=q2 i j hi hj D1.natAbs (by omega);rw[AdR D2.natAbs]at r2;have r2:=Ft r2 w2;refine⟨r1,?_⟩;have e:M a j/M a c*M (swp k a i) c=M (swp k a i) j-elm M k a c i j:=by
   unfold elm;rw[if_neg hne];grind
  rw[e];exact Ft (LN r1 r2) (by omega)
 refine⟨fun i j hi hj=>?_,fun j hj=>?_,fun i j hi hne hj=>?_,fun i j hi hne hj=>?_⟩
 ·have:=q1 i j hi hj 1 (by omega)
  exact IM this (by omega) (by omega)
 ·have:=q2 k j hkk hj 1 (by omega)
  unfold elm at this;rw[if_pos rfl]at this;exact IM this (by omega) (by omega)
 ·exact IM (both i j hi hne hj).2 (by omega) (by omega)
 ·obtain⟨r1,r2⟩:=both i j hi hne hj
  refine⟨_,r1.d,r2.d,r1.L0,by omega,?_⟩;have:=r1.b;have:=r2.b;omega
end
def fnd(M:Nat->Nat->Rat)(c:Nat):Nat->Nat->Nat
 |0,a=>a
 |d+1,a=>if M a c=0 then fnd M c d (a+1)else a
theorem K7{M:Nat->Nat->Rat}{c n:Nat}:∀d a,a+d=n->a<=fnd M c d a/\fnd M c d a<=n/\(fnd M c d a<n->M (fnd M c d a) c≠0)/\∀i,a<=i->i<fnd M c d a->M i c=0
 |
  0,a,h=>by
  rw[fnd];exact⟨AcE _,by omega,fun h'=>by omega,fun i h1 h2=>by omega⟩
 |
  d+1,a,h=>by
  rw[fnd]
  split
  ·rename_i hz
   obtain⟨h1,h2,h3,h4⟩:=K7 (M:=M) (c:=c) (n:=n) d (a+1) (by omega);refine⟨by omega,h2,h3,fun i h5 h6=>?_⟩
   by_cases e:i=a
   ·subst e;exact hz
   ·exact h4 i (by omega) h6
  ·rename_i hz
   exact⟨AcE _,by omega,fun _=>hz,fun i h1 h2=>by omega⟩
structure GS where
 M:Nat->Nat->Rat
 k:Nat
 κ:Nat->Nat
def gst(n:Nat)(s:GS)(c:Nat):GS:=
 let a:=fnd s.M c (n-s.k) s.k
 if a<n then⟨elm s.M s.k a c,s.k+1,fun t=>if t=s.k then c else s.κ t⟩else s
def gjR(A:Nat->Nat->Rat)(n:Nat):Nat->GS
 |0=>⟨A,0,id⟩
 |c+1=>gst n (gjR A n c) c
section
variable {A:Nat->Nat->Rat}{n:Nat}
theorem EA:∀c,∃σ,Gj A n (gjR A n c).k c σ (gjR A n c).κ (gjR A n c).M
 |0=>⟨id,Ack⟩
 |
  c+1=>by
  obtain⟨σ,h⟩:=EA c;have hkn:=h.kn;obtain⟨h1,h2,h3,h4⟩:=K7 (M:=(gjR A n c).M) (c:=c) (n:=n) (n-(gjR A n c).k) (gjR A n c).k (by omega);rw[gjR,gst]
  split
  ·rename_i hlt
   exact⟨_,h.step h1 hlt (h3 hlt)⟩
  ·exact⟨σ,h.skip fun i hi hin=>h4 i hi (by omega)⟩
theorem Gj.kle{M:Nat->Nat->Rat}{k c:Nat}{σ κ:Nat->Nat}(h:Gj A n k c σ κ M):k<=c:=by
 have:∀s,s<k->s<=κ s:=by
  intro s
  induction s with
  |zero=>intro _;exact AcX _
  |succ s ih=>
   intro hs;have:=ih (by omega);have:=h.ki s (s+1) (by omega) hs;omega
 by_cases c0:k=0
 ·omega
 ·have h1:=this (k-1) (by omega)
  have h2:=h.kc (k-1) (by omega);omega
theorem Uq{k a i:Nat}(h1:k<=a)(h2:a<n)(hi:i<n)(e:i≠a):swp k a (swp k a i)=i/\swp k a i≠k/\swp k a i<n:=by
 unfold swp
 by_cases c1:i=k
 ·subst c1
  simp only[if_true]
  by_cases c2:a=i
  ·omega
  ·rw[if_neg c2]
   exact⟨rfl,c2,h2⟩
 ·rw[if_neg c1,if_neg e,if_neg c1,if_neg e]
  exact⟨rfl,c1,hi⟩
def rs(cols:Nat)(y:Nat->Rat)(M:Nat->Nat->Rat)(i:Nat):Rat:=su cols (fun j=>M i j*y j)-M i cols
theorem YF{cols:Nat}{y:Nat->Rat}{u v:Nat->Rat}{x:Rat}:su cols (fun j=>(u j-v j*x)*y j)-(u cols-v cols*x)=(su cols (fun j=>u j*y j)-u cols)-(su cols (fun j=>v j*y j)-v cols)*x:=by
 have:su cols (fun j=>(u j-v j*x)*y j)=su cols fun j=>1*(u j*y j) + -x*(v j*y j):=Aa fun j _=>by grind
 rw[this,DT];grind
theorem T8{cols k a c:Nat}{y:Nat->Rat}{M:Nat->Nat->Rat}(h1:k<=a)(h2:a<n)(hp:M a c≠0)(h:∀i,i<n->rs cols y (elm M k a c) i=0):∀i,i<n->rs cols y M i=0:=by
 have hdiv:rs cols y M a/M a c=0:=by
  have:=h k (by omega);unfold rs elm at this;simp only[if_true]at this;unfold rs;have e:su cols (fun j=>M a j/M a c*y j)=su cols (fun j=>M a j*y j)*(M a c)⁻¹:=by
   rw[AdK,<-AR];exact Aa fun j _=>by rw[AdS];grind
  rw[e,AdS]at this;rw[AdS];grind
 have ha:rs cols y M a=0:=by
  rw[AdS]at hdiv;rcases AeH.1 hdiv with e|e
  ·exact e
  ·exact absurd (by rw[<-Rat.inv_inv (M a c),e,Rat.inv_zero]) hp
 intro i hi
 by_cases e:i=a
 ·rw[e];exact ha
 ·obtain⟨hs,hne,hlt⟩:=Uq h1 h2 hi e
  have:=h (swp k a i) hlt;unfold rs elm at this;rw[if_neg hne,hs]at this;simp only[if_neg hne,hs]at this;have e2:=YF (cols:=cols) (y:=y) (u:=M i) (v:=fun j=>M a j/M a c) (x:=M i c);rw[e2]at this;have e3:su cols (fun j=>M a j/M a c*y j)-M a cols/M a c=0:=by
   have:=hdiv;unfold rs at this;have e:su cols (fun j=>M a j/M a c*y j)=su cols (fun j=>M a j*y j)*(M a c)⁻¹:=by
    rw[AdK,<-AR];exact Aa fun j _=>by rw[AdS];grind
   rw[e,AdS];rw[AdS]at this;grind
  rw[e3]at this;unfold rs;grind
theorem Ls{cols:Nat}{y:Nat->Rat}:∀c,(∀i,i<n->rs cols y (gjR A n c).M i=0)->∀i,i<n->rs cols y A i=0
 |0,h=>h
 |
  c+1,h=>by
  obtain⟨σ,hg⟩:=EA (A:=A) (n:=n) c;have hkn:=hg.kn;obtain⟨h1,h2,h3,h4⟩:=K7 (M:=(gjR A n c).M) (c:=c) (n:=n) (n-(gjR A n c).k) (gjR A n c).k (by omega);refine Ls c ?_;rw[gjR,gst]at h
  split at h
  ·rename_i hlt
   exact T8 h1 hlt (h3 hlt) h
  ·exact h
theorem Gj.comb{M:Nat->Nat->Rat}{k c:Nat}{σ κ:Nat->Nat}(h:Gj A n k c σ κ M){i:Nat}(hk:k<=i)(hi:i<n):∃y:Nat->Rat,∀j,M i j=su n fun r=>y r*A r j:=by
 obtain⟨l,hl⟩:=h.nc i hk hi;have one:∀a,a<n->∀j,su n (fun r=>(if r=a then 1 else 0)*A r j)=A a j:=fun a ha j=>by
  rw[CI ha fun r _ hne=>by rw[if_neg hne];grind,if_pos rfl];grind
 have hkn:=h.kn;refine⟨fun r=>(if r=σ i then 1 else 0)-su k fun s=>l s*(if r=σ s then 1 else 0),fun j=>?_⟩;have e:su n (fun r=>((if r=σ i then 1 else 0)-su k fun s=>l s*(if r=σ s then 1 else 0))*A r j)=su n (fun r=>(if r=σ i then 1 else 0)*A r j)-su n (fun r=>su k fun s=>l s*((if r=σ s then 1 else 0)*A r j)):=by
  rw[<-CB];refine Aa fun r _=>?_
  have:su k (fun s=>l s*((if r=σ s then 1 else 0)*A r j))=A r j*su k fun s=>l s*(if r=σ s then 1 else 0):=by
   rw[<-AR];exact Aa fun s _=>by grind
  rw[this];grind
 rw[e,one _ (h.σn i hi),B5,hl];congr 1;refine Aa fun s hs=>?_
 rw[AR,one _ (h.σn s (by omega))]
def xs(s:GS)(cols j:Nat):Rat:=su s.k fun t=>if s.κ t=j then s.M t cols else 0
theorem CV{cols:Nat}(hcons:∀y:Nat->Rat,(∀j,j<cols->su n (fun r=>y r*A r j)=0)->su n (fun r=>y r*A r cols)=0):∀i,i<n->su cols (fun j=>A i j*xs (gjR A n cols) cols j)=A i cols:=by
 obtain⟨σ,h⟩:=EA (A:=A) (n:=n) cols;have hback:=Ls (A:=A) (n:=n) (cols:=cols) (y:=xs (gjR A n cols) cols) cols;generalize gjR A n cols=s at *;have hx:∀i,i<n->rs cols (xs s cols) s.M i=0:=fun i hi=>by
  unfold rs
  by_cases hk:i<s.k
  ·have e:su cols (fun j=>s.M i j*xs s cols j)=su s.k fun t=>(if i=t then s.M t cols else 0):=by
    have e1:su cols (fun j=>s.M i j*xs s cols j)=su cols fun j=>su s.k fun t=>s.M i j*(if s.κ t=j then s.M t cols else 0):=Aa fun j _=>by
     unfold xs;rw[AR]
    rw[e1,B5];refine Aa fun t ht=>?_
    rw[CI (h.kc t ht) fun j _ hne=>by rw[if_neg fun e=>hne e.symm];grind,if_pos rfl,h.piv i t hk ht]
    split<;>grind
   rw[e,CI hk fun t _ hne=>if_neg fun e=>hne e.symm,if_pos rfl];grind
  ·obtain⟨y,hy⟩:=h.comb (by omega) hi
   have h0:=hcons y fun j hj=>by rw[<-hy,h.z i j (by omega) hi hj]
   rw[<-hy]at h0;rw[h0,GM fun j hj=>by rw[h.z i j (by omega) hi hj];grind];grind
 intro i hi;have:=hback hx i hi;unfold rs at this;grind
end
structure GQ where
 s:GS
 q:Nat->Rat
 d:Nat->Rat
structure Gq(A:Nat->Nat->Rat)(n c:Nat)(σ:Nat->Nat)(g:GQ):Prop where
 h:Gj A n g.s.k c σ g.s.κ g.s.M
 dk:g.d g.s.k=det g.s.k (fun r s=>A (σ r) (g.s.κ s))
 d0:∀t,t<=g.s.k->g.d t≠0
 q:∀t,t<g.s.k->g.q t*g.d t=g.d (t+1)
section
variable {A:Nat->Nat->Rat}{n c w cols:Nat}{σ:Nat->Nat}{g:GQ}
structure FitQ(X:Nat->Nat->Rat)(n w k a c:Nat):Prop where
 s:∀j,j<w->sm (X a j)
 v:∀i,i<n->i≠k->((X (swp k a i) c).num*((X a c).den:Int)).natAbs<=MX/\(((X (swp k a i) c).den:Int)*(X a c).num).natAbs<=MX
 m:∀i j,i<n->i≠k->j<w->((X (swp k a i) c/X a c).num*(X a j).num).natAbs<=MX/\(X (swp k a i) c/X a c).den*(X a j).den<=MX
 p:∀i j,i<n->i≠k->j<w->sm (X (swp k a i) c/X a c*X a j)
 u:∀i j,i<n->i≠k->j<w->∃L,(X (swp k a i) j).den∣L/\(X (swp k a i) c/X a c*X a j).den∣L/\0<L/\L<=MX/\(sc (X (swp k a i) j) L).natAbs+(sc (X (swp k a i) c/X a c*X a j) L).natAbs<=MX
end
section
variable {A:Nat->Nat->Rat}{n c w cols:Nat}{σ:Nat->Nat}{g:GQ}
end
def frs(f:Nat->Rat):Nat->List AV
 |0=>[]
 |w+1=>frs f w++[.int .i64 (f w).num,.int .i64 ((f w).den:Int)]
theorem Ar{f:Nat->Rat}:∀w,(frs f w).length=w*2
 |0=>rfl
 |w+1=>by rw[frs,AcO,Ar w,AeB];rfl
theorem Am{f g:Nat->Rat}:∀{w:Nat},(∀j,j<w->f j=g j)->frs f w=frs g w
 |0,_=>rfl
 |w+1,h=>by rw[frs,frs,Am fun j hj=>h j (by omega),h w (by omega)]
theorem Ep{f:Nat->Rat}:∀w,(frs f w).all AV.one=true
 |0=>rfl
 |w+1=>by rw[frs,AdW,Ep w];rfl
theorem Et{f:Nat->Rat}:∀w,(frs f w).all (·.ids.isEmpty)=true
 |0=>rfl
 |w+1=>by rw[frs,AdW,Et w];rfl
theorem HV{f:Nat->Rat}{j:Nat}:∀{w:Nat},j<w->seg (frs f w) (j*2) 2=some [.int .i64 (f j).num,.int .i64 ((f j).den:Int)]
 |0,h=>by omega
 |
  w+1,h=>by
  have hl:=Ar (f:=f) w;have hl2:=Ar (f:=f) (w+1);unfold seg;rw[if_pos (by omega)]
  by_cases c:j=w
  ·subst c
   rw[frs,<-hl,List.drop_left]
   rfl
  ·have ih:=HV (f:=f) (show j<w by omega)
   unfold seg at ih;rw[if_pos (by omega)]at ih;rw[frs,AdP (by omega),AdG (by rw[Ad2];omega)];exact ih
theorem GY{f:Nat->Rat}{j:Nat}{q:Rat}:∀{w:Nat},j<w->splice (frs f w) (j*2) [.int .i64 q.num,.int .i64 (q.den:Int)]=frs (fun i=>if i=j then q else f i) w
 |0,h=>by omega
 |
  w+1,h=>by
  have hl:=Ar (f:=f) w;unfold splice
  by_cases c:j=w
  ·subst c
   rw[frs,frs,if_pos rfl,<-hl,List.take_left,Adv (by simp),AcV];congr 1;exact Am fun i hi=>by rw[if_neg (by omega)]
  ·have ih:=GY (f:=f) (q:=q) (show j<w by omega)
   unfold splice at ih;rw[frs,frs,if_neg (fun e=>c e.symm),<-ih,AdG (by omega),AdP (by simp;omega)];simp
structure MH(b:Nat)(R:List Row)(O:Nat)(idf:Nat->Nat)(cap:Nat->Cap)(M:Nat->Nat->Rat)(n w:Nat):Prop where
 o:R[O]?=some (.cells ((List.range n).map fun i=>AV.slice (idf i) 0 w (cap i)))
 r:∀i,i<n->R[idf i]?=some (.cells (frs (M i) w))
 inj:∀i j,i<n->j<n->idf i=idf j->i=j
 io:∀i,i<n->idf i≠O
 ob:b<=O
 ib:∀i,i<n->b<=idf i
def up2(M:Nat->Nat->Rat)(i j:Nat)(q:Rat):Nat->Nat->Rat:=fun i' j'=>if i'=i/\j'=j then q else M i' j'
section
variable {b:Nat}{R:List Row}{O:Nat}{idf:Nat->Nat}{cap:Nat->Cap}{M:Nat->Nat->Rat}{n w:Nat}
theorem MH.app(h:MH b R O idf cap M n w)(X:List Row):MH b (R++X) O idf cap M n w where
 o:=by rw[AcD (AcF.1 h.o).1];exact h.o
 r:=fun i hi=>by rw[AcD (AcF.1 (h.r i hi)).1];exact h.r i hi
 inj:=h.inj
 io:=h.io
 ob:=h.ob
 ib:=h.ib
theorem MH.congr(h:MH b R O idf cap M n w){N:Nat->Nat->Rat}(e:∀i j,i<n->j<w->M i j=N i j):MH b R O idf cap N n w:=
 {h with r:=fun i hi=>by rw[h.r i hi,Am fun j hj=>e i j hi hj]}
theorem MH.set(h:MH b R O idf cap M n w){i j:Nat}(hi:i<n)(hj:j<w)(q:Rat):MH b (R.set (idf i) (.cells (frs (fun j'=>if j'=j then q else M i j') w))) O idf cap (up2 M i j q) n w where
 o:=by rw[AcH (h.io i hi)];exact h.o
 r:=fun i' hi'=>by
  by_cases e:i'=i
  ·subst e
   rw[AcM (AcF.1 (h.r i' hi')).1];congr 2;exact Am fun j' _=>by simp[up2]
  ·rw[AcH (fun e2=>e (h.inj i' i hi' hi e2.symm)),h.r i' hi']
   congr 2;exact Am fun j' _=>by simp[up2,e]
 inj:=h.inj
 io:=h.io
 ob:=h.ob
 ib:=h.ib
theorem MH.ne(h:MH b R O idf cap M n w){id:Nat}(hid:R.length<=id):id≠O/\∀i,i<n->id≠idf i:=by
 have:=(AcF.1 h.o).1;refine⟨by omega,fun i hi=>?_⟩;have:=(AcF.1 (h.r i hi)).1;omega
theorem MH.row(h:MH b R O idf cap M n w){i:Nat}(hi:i<n):evP R (.load1 (.c (.ptr O i)))=some (.slice (idf i) 0 w (cap i)):=by
 have hr:Ae R O=some ((List.range n).map fun i=>AV.slice (idf i) 0 w (cap i)):=by unfold Ae;rw[h.o]
 show Af R (Ak []) _=_;unfold Af;simp only[Ak,hr];simp[hi]
theorem C8{id j:Nat}{c:Cap}(hj:j<w):evP R (.idxS 2 (.c (.slice id 0 w c)) (.c (.int .i64 j)))=some (.ptr id (j*2)):=by
 have e:AI (j:Int) w=some j:=by rw[Bz (by omega) (by omega),Adf]
 show Af R (Ak []) _=_;unfold Af;simp only[Ak,e,Ads]
theorem CJ{id j:Nat}{f:Nat->Rat}(h:R[id]?=some (.cells (frs f w)))(hj:j<w):evP R (.loadN 2 (.c (.ptr id (j*2))))=some (fr (f j)):=by
 have hr:Ae R id=some (frs f w):=by unfold Ae;rw[h]
 show Af R (Ak []) _=_;unfold Af;simp only[Ak,hr,HV hj]
 rfl
theorem CD{id j low:Nat}{f:Nat->Rat}{q:Rat}(h:R[id]?=some (.cells (frs f w)))(hj:j<w):evE R low (.storeN 2 (.c (.ptr id (j*2))) (.c (fr q)))=some (.tup [],R.set id (.cells (frs (fun j'=>if j'=j then q else f j') w)),Ab low id):=by
 have hc:cells? R id=some (frs f w):=by unfold cells?;rw[h]
 have hl:=Ar (f:=f) w;unfold fr;rw[Ax];simp only[hc,Ac4];rw[if_pos ⟨rfl,by omega,rfl⟩,GY hj]
theorem MH.ld(h:MH b R O idf cap M n w){i j:Nat}(hi:i<n)(hj:j<w):evP R (.loadN 2 (.c (.ptr (idf i) (j*2))))=some (fr (M i j)):=CJ (h.r i hi) hj
theorem XA{q:Rat}:Aq [.int .i64 q.num,.int .i64 (q.den:Int)] [.int .i64 0,.int .i64 1]=some (decide (q=0)):=by
 by_cases c:q=0
 ·subst c;rfl
 ·have:q.num≠0:=fun e=>c (Rat.num_eq_zero.1 e)
  simp[Aq,c,this]
end
theorem Ba{R:List Row}{β:Type}{f:Row->β}:List.drop R.length (R.map f)=[]:=Adv (by simp)
theorem He{b low id:Nat}(h1:b<=low)(h2:b<=id):b<=Ab low id:=by unfold Ab;split<;>omega
abbrev C64:Ctx:=.fn [.t 6]
def Fx(R R':List Row)(p:Nat->Prop):Prop:=R.length<=R'.length/\∀id,id<R.length->¬p id->R'[id]?=R[id]?
theorem Fx.refl{R:List Row}{p:Nat->Prop}:Fx R R p:=⟨AcE _,fun _ _ _=>rfl⟩
theorem Fx.trans{R R' R'':List Row}{p:Nat->Prop}(h:Fx R R' p)(k:Fx R' R'' p):Fx R R'' p:=
 ⟨AcP h.1 k.1,fun id h1 h2=>(k.2 id (by have:=h.1;omega) h2).trans (h.2 id h1 h2)⟩
theorem Fx.app{R:List Row}{p:Nat->Prop}(X:List Row):Fx R (R++X) p:=⟨by simp,fun id h1 _=>AcD h1⟩
theorem Fx.set{R:List Row}{p:Nat->Prop}{i:Nat}{y:Row}(h:p i):Fx R (R.set i y) p:=⟨by simp,fun id h1 h2=>by rw[AcH fun e=>h2 (by rw[<-e];exact h)]⟩
theorem Fx.mono{R R':List Row}{p q:Nat->Prop}(h:Fx R R' p)(hpq:∀id,id<R.length->p id->q id):Fx R R' q:=⟨h.1,fun id h1 h2=>h.2 id h1 fun hp=>h2 (hpq id h1 hp)⟩
theorem Fx.row{R R':List Row}{p:Nat->Prop}{id:Nat}{vs:List AV}(h:Fx R R' p)(hr:R[id]?=some (.cells vs))(hp:¬p id):R'[id]?=some (.cells vs):=by
 rw[h.2 id (AcF.1 hr).1 hp];exact hr
theorem KC{R:List Row}{B:Nat}{q:Rat}(h:R[B]?=some (.cells [.int .i64 q.num,.int .i64 (q.den:Int)])):evP R (.loadN 2 (.c (.ptr B 0)))=some (fr q):=by
 have hr:Ae R B=some [.int .i64 q.num,.int .i64 (q.den:Int)]:=by unfold Ae;rw[h]
 show Af R (Ak []) _=_;unfold Af;simp only[Ak,hr]
 rfl
section
variable {b:Nat}{O:Nat}{idf:Nat->Nat}{cap:Nat->Cap}{n w:Nat}{r:AV×List Row×Nat->Prop}{x0 x5 x7 x9 x10 x31 x32 x95 x96 x97:AV}
theorem U5{B k i:Nat}{q:Rat}{M:Nat->Nat->Rat}(hk:k<n)(hi:i<n)(hne:i≠k)(hw:w<=1000)(hq:sm q)
  (hfit:∀j,j<w->sm (M k j)/\sm (M k j*q)/\∃L,(M i j).den∣L/\(M k j*q).den∣L/\0<L/\L<=MX/\(sc (M i j) L).natAbs+(sc (M k j*q) L).natAbs<=MX) {base:Nat}
  {R0:List Row} (hB:idf i≠B) (hBq:R0[B]?=some (.cells [.int .i64 q.num,.int .i64 (q.den:Int)]))
  (hc:∀(R:List Row) (low:Nat) (sl:List (Nat×AV)),MH b R O idf cap (fun i' j'=>if i'=i then M i j'-M k j'*q else M i' j') n w->Fx R0 R (· = idf i)->R.length=R0.length->b<=low->low<=base->lk sl 0=x0->lk sl 5=x5->lk sl 7=x7->lk sl 9=x9->lk sl 10=x10->lk sl 12 = .slice (idf k) 0 w (cap k)->lk sl 31=x31->lk sl 32=x32->lk sl 95=x95->lk sl 96=x96->lk sl 97=x97->
   Ex F C64 [.code c64k9,.inLoop c64l8,.inBlock 8,.code c64s7,.inBlock 3,.code c64k4,.inLoop c64l3,.inBlock 2,.code c64s2,.inScope c64p0] ⟨mk 148 sl,R,low⟩ r):
  ∀(d j:Nat) (R:List Row) (low:Nat),w-j=d->j<=w->MH b R O idf cap (fun i' j'=>if i'=i/\j'<j then M i j'-M k j'*q else M i' j') n w->Fx R0 R (· = idf i)->R.length=R0.length->b<=low->low<=base->
  Lc64l10 F C64 x0 x5 x7 x9 x10 (.slice (idf k) 0 w (cap k)) (.slice (idf i) 0 w (cap i)) (.ptr B 0) x31 x32 x95 x96 x97 (.int .i64 w) (.int .i64 j) R low r:=by
 intro d
 induction d with
 |zero=>
  intro j R low hd hj h hF hl hlow hlb;have hj':j=w:=by omega
  subst hj';unfold Lc64l10;simp[-uc64k9];refine hc R low _ (h.congr fun i' j' _ h2=>?_) hF hl hlow hlb ?_ ?_ ?_ ?_ ?_ ?_ ?_ ?_ ?_ ?_ ?_
  ·by_cases e:i'=i
   ·rw[if_pos ⟨e,h2⟩,if_pos e]
   ·rw[if_neg (fun h=>e h.1),if_neg e]
  all_goals simp
 |succ d ih=>
  intro j R low hd hj0 h hF hl hlow hlb;have hj:j<w:=by omega
  have hwj:IntKind.i64.wrap ((j:Int)+1)=((j+1:Nat):Int):=wS (by omega);obtain⟨f1,f2,L,g1,g2,g3,g4,g5⟩:=hfit j hj;have lr:=h.ld hi hj;have lk:=h.ld hk hj;simp only[hne.symm,false_and,if_false,Nat.lt_irrefl,and_false]at lr lk;have lq:=KC (hF.row hBq hB.symm);have r99:Ret F 99 [fr (M k j),fr q] R=some (fr (M k j*q),R,none):=FL f1 hq f2;have r95:Ret F 95 [fr (M i j),fr (M k j*q)] R=some (fr (M i j-M k j*q),R,none):=Fa g1 g2 g3 g4 g5 f2;have ixk:=fun R:List Row=>C8 (R:=R) (id:=idf k) (c:=cap k) hj
  have ixi:=fun R:List Row=>C8 (R:=R) (id:=idf i) (c:=cap i) hj
  have hrow:=h.r i hi;have st:=CD (low:=low) (q:=M i j-M k j*q) hrow hj;have hset:=h.set hi hj (M i j-M k j*q);have hset':=hset.congr (N:=fun i' j'=>if i'=i/\j'<j+1 then M i j'-M k j'*q else M i' j') fun i' j' _ _=>by
   show(if i'=i/\j'=j then _ else(if i'=i/\j'<j then M i j'-M k j'*q else M i' j'))=(if i'=i/\j'<j+1 then M i j'-M k j'*q else M i' j')
   by_cases e1:i'=i
   ·subst e1
    by_cases e2:j'=j
    ·subst e2;rw[if_pos ⟨rfl,rfl⟩,if_pos ⟨rfl,by omega⟩]
    ·rw[if_neg (fun h=>e2 h.2)]
     by_cases e3:j'<j
     ·rw[if_pos ⟨rfl,e3⟩,if_pos ⟨rfl,by omega⟩]
     ·rw[if_neg (fun h=>e3 h.2),if_neg (fun h=>by omega)]
   ·rw[if_neg (fun h=>e1 h.1),if_neg (fun h=>e1 h.1),if_neg (fun h=>e1 h.1)]
  have:=ih (j+1) _ (Ab low (idf i)) (by omega) (by omega) hset' (hF.trans (Fx.set rfl)) (by rw[Adh];exact hl) (He hlow (h.ib i hi)) (AcP (AW _ _) hlb);unfold Lc64l10;simp[hj,ixk,ixi,lr,lk,lq,opC,Aw,bd,r99,r95,AC,st,hwj,Ai,Ba];simpa using this
end
section
variable {b:Nat}{O:Nat}{idf:Nat->Nat}{cap:Nat->Cap}{n w:Nat}{r:AV×List Row×Nat->Prop}{x0 x5 x7 x9 x10 x31 x32 x95 x96 x97:AV}
theorem Uj{B k:Nat}{q:Rat}{M:Nat->Nat->Rat}(hk:k<n)(hw:w<=1000)(hq:sm q)(hq0:q≠0)
  (hfit:∀j,j<w->sm (M k j)/\sm (M k j/q)) {base:Nat}
  {R0:List Row} (hB:idf k≠B) (hBq:R0[B]?=some (.cells [.int .i64 q.num,.int .i64 (q.den:Int)]))
  (hc:∀(R:List Row) (low:Nat) (sl:List (Nat×AV)),MH b R O idf cap (fun i' j'=>if i'=k then M k j'/q else M i' j') n w->Fx R0 R (· = idf k)->R.length=R0.length->b<=low->low<=base->lk sl 0=x0->lk sl 5=x5->lk sl 7=x7->lk sl 9=x9->lk sl 10=x10->lk sl 12 = .slice (idf k) 0 w (cap k)->lk sl 31=x31->lk sl 32=x32->
   Ex F C64 [.code c64s31,.inBlock 3,.code c64k4,.inLoop c64l3,.inBlock 2,.code c64s2,.inScope c64p0] ⟨mk 148 sl,R,low⟩ r):
  ∀(d j:Nat) (R:List Row) (low:Nat),w-j=d->j<=w->MH b R O idf cap (fun i' j'=>if i'=k/\j'<j then M k j'/q else M i' j') n w->Fx R0 R (· = idf k)->R.length=R0.length->b<=low->low<=base->
  Lc64l32 F C64 x0 x5 x7 x9 x10 (.slice (idf k) 0 w (cap k)) (.ptr B 0) x31 x32 (.int .i64 w) (.int .i64 j) R low r:=by
 intro d
 induction d with
 |zero=>
  intro j R low hd hj h hF hl hlow hlb;have hj':j=w:=by omega
  subst hj';unfold Lc64l32;simp[-uc64s31];refine hc R low _ (h.congr fun i' j' _ h2=>?_) hF hl hlow hlb ?_ ?_ ?_ ?_ ?_ ?_ ?_ ?_
  ·by_cases e:i'=k
   ·rw[if_pos ⟨e,h2⟩,if_pos e]
   ·rw[if_neg (fun h=>e h.1),if_neg e]
  all_goals simp
 |succ d ih=>
  intro j R low hd hj0 h hF hl hlow hlb;have hj:j<w:=by omega
  have hwj:IntKind.i64.wrap ((j:Int)+1)=((j+1:Nat):Int):=wS (by omega);obtain⟨f1,f2⟩:=hfit j hj;have lk:=h.ld hk hj;simp only[Nat.lt_irrefl,and_false,if_false]at lk;have lq:=KC (hF.row hBq hB.symm);have r123:Ret F 123 [fr (M k j),fr q] R=some (fr (M k j/q),R,none):=Q4 f1 hq hq0 f2;have ixk:=fun R:List Row=>C8 (R:=R) (id:=idf k) (c:=cap k) hj
  have hrow:=h.r k hk;have st:=CD (low:=low) (q:=M k j/q) hrow hj;have hset:=h.set hk hj (M k j/q);have hset':=hset.congr (N:=fun i' j'=>if i'=k/\j'<j+1 then M k j'/q else M i' j') fun i' j' _ _=>by
   show(if i'=k/\j'=j then _ else(if i'=k/\j'<j then M k j'/q else M i' j'))=(if i'=k/\j'<j+1 then M k j'/q else M i' j')
   by_cases e1:i'=k
   ·subst e1
    by_cases e2:j'=j
    ·subst e2;rw[if_pos ⟨rfl,rfl⟩,if_pos ⟨rfl,by omega⟩]
    ·rw[if_neg (fun h=>e2 h.2)]
     by_cases e3:j'<j
     ·rw[if_pos ⟨rfl,e3⟩,if_pos ⟨rfl,by omega⟩]
     ·rw[if_neg (fun h=>e3 h.2),if_neg (fun h=>by omega)]
   ·rw[if_neg (fun h=>e1 h.1),if_neg (fun h=>e1 h.1),if_neg (fun h=>e1 h.1)]
  have:=ih (j+1) _ (Ab low (idf k)) (by omega) (by omega) hset' (hF.trans (Fx.set rfl)) (by rw[Adh];exact hl) (He hlow (h.ib k hk)) (AcP (AW _ _) hlb);unfold Lc64l32;simp[hj,ixk,lk,lq,opC,Aw,bd,r123,AC,st,hwj,Ai,Ba];simpa using this
theorem IH{q:Rat}:eqA (.ints 2) (fr q) (fr 0)=some (decide (q=0)):=by
 have:=XA (q:=q);unfold fr;simpa[eqA]using this
theorem HN{R:List Row}{O n i:Nat}{c:Cap}(hi:i<n):evP R (.idxS 1 (.c (.slice O 0 n c)) (.c (.int .i64 i)))=some (.ptr O i):=by
 have e:AI (i:Int) n=some i:=by rw[Bz (by omega) (by omega),Adf]
 show Af R (Ak []) _=_;unfold Af;simp only[Ak,e,Ads,Add]
theorem VU{B k c:Nat}{M:Nat->Nat->Rat}{R:List Row}{low:Nat}(hc:c<w)(hn:n<=1000)(h:MH b R O idf cap M n w){cO:Cap}
  (hB:R[B]?=some (.cells [.int .i64 0,.int .i64 1]))
  (hk:∀(sl:List (Nat×AV)) (a:Nat),lk sl 0 = .slice O 0 n cO->lk sl 5 = .ptr B 0->lk sl 7=x7->lk sl 9=x9->lk sl 10 = .int .i64 c->lk sl 11 = .int .i64 a->lk sl 31=x31->lk sl 32=x32->a=fnd M c (n-k) k->
   Ex F C64 [.code c64s50,.inBlock 3,.code c64k4,.inLoop c64l3,.inBlock 2,.code c64s2,.inScope c64p0] ⟨mk 148 sl,R,low⟩ r):
  ∀(d a:Nat),n-a=d->a<=n->fnd M c (n-a) a=fnd M c (n-k) k->
  Lc64l51 F C64 (.slice O 0 n cO) (.ptr B 0) x7 x9 (.int .i64 c) (.int .i64 a) x31 x32 R low r:=by
 intro d
 induction d with
 |zero=>
  intro a hd ha hf;have ha':a=n:=by omega
  subst ha';unfold Lc64l51;simp[-uc64s50];refine hk _ a ?_ ?_ ?_ ?_ ?_ ?_ ?_ ?_ ?_
  rotate_right
  ·rw[<-hf,Ac8];rfl
  all_goals simp
 |succ d ih=>
  intro a hd ha hf;have ha':a<n:=by omega
  have hwj:IntKind.i64.wrap ((a:Int)+1)=((a+1:Nat):Int):=wS (by omega);have l1:=h.row ha';have l2:=h.ld ha' hc;have l3:=KC (q:=0) hB;have ixO:=HN (R:=R) (O:=O) (c:=cO) ha';have ixc:=C8 (R:=R) (id:=idf a) (c:=cap a) hc;rw[show n-a=(n-(a+1))+1 by omega,fnd]at hf
  by_cases hz:M a c=0
  ·rw[if_pos hz]at hf
   have:=ih (a+1) (by omega) (by omega) hf;unfold Lc64l51;simp[ha',l1,l2,l3,ixO,ixc,hz,IH,hwj];simpa using this
  ·rw[if_neg hz]at hf
   unfold Lc64l51;simp[ha',l1,l2,l3,ixO,ixc,IH,hz,hwj,-uc64s50];refine hk _ a ?_ ?_ ?_ ?_ ?_ ?_ ?_ ?_ hf
   all_goals simp
end
theorem Xp{R:List Row}{low:Nat}{q:Rat}{a b:AV}(h:low<=R.length):evE (R++[.cells [a,b]]) low (.storeN 2 (.c (.ptr R.length 0)) (.c (fr q)))=some (.tup [],R++[.cells [.int .i64 q.num,.int .i64 (q.den:Int)]],low):=by
 have hc:cells? (R++[.cells [a,b]]) R.length=some [a,b]:=by unfold cells?;simp
 have hl:Ab low R.length=low:=lwS (by omega);unfold fr;rw[Ax];simp only[hc,Ac4];rw[if_pos ⟨rfl,by simp,rfl⟩,hl];simp[splice]
def elo(M:Nat->Nat->Rat)(k c i:Nat):Nat->Nat->Rat:=fun i' j'=>if i'<i/\i'≠k then M i' j'-M k j'*M i' c else M i' j'
section
variable {b:Nat}{O:Nat}{idf:Nat->Nat}{cap:Nat->Cap}{n w:Nat}{r:AV×List Row×Nat->Prop}{x0 x5 x7 x9 x10 x31 x32 x95 x96 x97:AV}
theorem Yh{Z k c:Nat}{M:Nat->Nat->Rat}{cO:Cap}(hk:k<n)(hcw:c<w)(hn:n<=1000)(hw:w<=1000)
  (hfit:∀i j,i<n->i≠k->j<w->sm (M i c)/\sm (M k j)/\sm (M k j*M i c)/\∃L,(M i j).den∣L/\(M k j*M i c).den∣L/\0<L/\L<=MX/\(sc (M i j) L).natAbs+(sc (M k j*M i c) L).natAbs<=MX) {base:Nat}
  {R0:List Row} (hZ:∀i,i<n->idf i≠Z) (hZ0:R0[Z]?=some (.cells [.int .i64 0,.int .i64 1])) (hbase:base<=R0.length)
  (hc:∀(R:List Row) (low:Nat) (sl:List (Nat×AV)),MH b R O idf cap (elo M k c n) n w->Fx R0 R (fun id=>∃i,i<n/\id=idf i)->b<=low->low<=base->lk sl 0 = .slice O 0 n cO->lk sl 5 = .ptr Z 0->lk sl 7=x7->lk sl 9 = .int .i64 k->lk sl 10 = .int .i64 c->lk sl 31=x31->lk sl 32=x32->
   Ex F C64 [.code c64s7,.inBlock 3,.code c64k4,.inLoop c64l3,.inBlock 2,.code c64s2,.inScope c64p0] ⟨mk 148 sl,R,low⟩ r):
  ∀(d i:Nat) (R:List Row) (low:Nat),n-i=d->i<=n->MH b R O idf cap (elo M k c i) n w->Fx R0 R (fun id=>∃i,i<n/\id=idf i)->b<=low->low<=base->
  Lc64l8 F C64 (.slice O 0 n cO) (.ptr Z 0) x7 (.int .i64 k) (.int .i64 c) (.slice (idf k) 0 w (cap k)) x31 x32 (.slice O 0 n cO) (.int .i64 n) (.int .i64 i) R low r:=by
 intro d
 induction d with
 |zero=>
  intro i R low hd hi h hF hlow hlb;have hi':i=n:=by omega
  subst hi';unfold Lc64l8;simp[-uc64s7];refine hc R low _ h hF hlow hlb ?_ ?_ ?_ ?_ ?_ ?_ ?_
  all_goals simp
 |succ d ih=>
  intro i R low hd hi0 h hF hlow hlb;have hi:i<n:=by omega
  have hwi:IntKind.i64.wrap ((i:Int)+1)=((i+1:Nat):Int):=wS (by omega);have l1:=h.row hi;have l2:=h.ld hi hcw;have l3:=KC (q:=0) (hF.row hZ0 fun⟨i',h1,h2⟩=>hZ i' h1 h2.symm);have e0:elo M k c i i c=M i c:=by unfold elo;rw[if_neg (by omega)]
  rw[e0]at l2;have ixO:=fun R:List Row=>HN (R:=R) (O:=O) (c:=cO) hi
  have ixc:=fun R:List Row=>C8 (R:=R) (id:=idf i) (c:=cap i) hcw
  by_cases hik:i=k
  ·subst hik
   have hs:∀i' j',elo M i c i i' j'=elo M i c (i+1) i' j':=fun i' j'=>by
    unfold elo
    by_cases e:i'=i
    ·rw[if_neg (fun h=>h.2 e),if_neg (fun h=>h.2 e)]
    ·by_cases e2:i'<i
     ·rw[if_pos ⟨e2,e⟩,if_pos ⟨by omega,e⟩]
     ·rw[if_neg (fun h=>e2 h.1),if_neg (fun h=>by omega)]
   have:=ih (i+1) R low (by omega) (by omega) (h.congr fun i' j' _ _=>hs i' j') hF hlow hlb;unfold Lc64l8;simp[hi,l1,l2,l3,ixO,ixc,IH,hwi];simpa using this
  have hikZ:¬(i:Int)=(k:Int):=by omega
  by_cases hz:M i c=0
  ·have hs:∀i' j',elo M k c i i' j'=elo M k c (i+1) i' j':=fun i' j'=>by
    unfold elo
    by_cases e:i'=i
    ·subst e
     rw[if_neg (by omega),if_pos ⟨by omega,hik⟩,hz];grind
    ·by_cases e2:i'<i/\i'≠k
     ·rw[if_pos e2,if_pos ⟨by omega,e2.2⟩]
     ·rw[if_neg e2,if_neg (fun h=>e2 ⟨by omega,h.2⟩)]
   have:=ih (i+1) R low (by omega) (by omega) (h.congr fun i' j' _ _=>hs i' j') hF hlow hlb;unfold Lc64l8;simp[hi,hikZ,l1,l2,l3,ixO,ixc,IH,hz,hwi];simpa using this
  ·have hRn:=h.ne (id:=R.length) (AcE _)
   have hlR:low<=R.length:=by have:=hF.1;omega
   have hk':elo M k c i k=M k:=by funext j;unfold elo;rw[if_neg (fun h=>h.2 rfl)]
   have hi':∀j,elo M k c i i j=M i j:=fun j=>by unfold elo;rw[if_neg (by omega)]
   have hl10:=U5 (b:=b) (O:=O) (idf:=idf) (cap:=cap) (n:=n) (w:=w) (r:=r) (x0:=.slice O 0 n cO) (x5:=.ptr Z 0) (x7:=x7) (x9:=.int .i64 k) (x10:=.int .i64 c) (x31:=x31) (x32:=x32) (x95:=.slice O 0 n cO) (x96:=.int .i64 n) (x97:=.int .i64 i) (B:=R.length) (q:=M i c) (M:=elo M k c i) (base:=base) (R0:=R++[.cells [.int .i64 (M i c).num,.int .i64 ((M i c).den:Int)]]) hk hi hik hw (hfit i c hi hik hcw).1 (fun j hj=>by rw[hk',hi'];exact(hfit i j hi hik hj).2) (hRn.2 i hi).symm (by simp) (fun R1 low1 sl g1 g2 g3 g4 g5 s0 s5 s7 s9 s10 s12 s31 s32 s95 s96 s97=>by
    have hs:∀i' j',(if i'=i then elo M k c i i j'-elo M k c i k j'*M i c else elo M k c i i' j')=elo M k c (i+1) i' j':=fun i' j'=>by
     rw[hk',hi']
     by_cases e:i'=i
     ·subst e
      rw[if_pos rfl];unfold elo;rw[if_pos ⟨by omega,hik⟩]
     ·rw[if_neg e]
      unfold elo
      by_cases e2:i'<i/\i'≠k
      ·rw[if_pos e2,if_pos ⟨by omega,e2.2⟩]
      ·rw[if_neg e2,if_neg (fun h=>e2 ⟨by omega,h.2⟩)]
    have:=ih (i+1) R1 low1 (by omega) (by omega) (g1.congr fun i' j' _ _=>hs i' j') (hF.trans ((Fx.app _).trans (g2.mono fun id _ e=>⟨i,hi,e⟩))) g4 g5;simp[s0,s5,s7,s9,s10,s12,s31,s32,s95,s96,s97,hwi]
    simpa using this) w 0 (R++[.cells [.int .i64 (M i c).num,.int .i64 ((M i c).den:Int)]]) low (by omega) (by omega) ((h.app _).congr fun i' j' _ _=>by rw[if_neg (by omega)]) Fx.refl rfl hlow hlb
   unfold Lc64l8;simp[hi,hikZ,l1,l2,l3,ixO,ixc,IH,hz,hwi,Xp hlR];simpa using hl10
end
theorem XF{k a i j:Nat}(h:swp k a i=swp k a j):i=j:=by
 unfold swp at h
 split at h<;>split at h<;>(try split at h)<;>(try split at h)<;>omega
theorem Ev{k a i n:Nat}(hk:k<n)(ha:a<n)(hi:i<n):swp k a i<n:=by unfold swp;split;exact ha;split;exact hk;exact hi
theorem V9{n k a:Nat}(hk:k<n)(ha:a<n)(f:Nat->AV):(((List.range n).map f).set k (f a)).set a (f k)=(List.range n).map fun i=>f (swp k a i):=by
 apply List.ext_getElem (by simp);intro i h1 h2;simp only[Adt,Aeb]at h2;simp only[List.getElem_set,List.getElem_map,List.getElem_range];unfold swp
 by_cases e1:a=i
 ·subst e1
  by_cases e2:a=k
  ·subst e2;simp
  ·simp[e2]
 ·by_cases e2:k=i
  ·subst e2;simp[e1]
  ·simp[e1,e2,Ne.symm e1,Ne.symm e2]
section
variable {b:Nat}{R:List Row}{O:Nat}{idf:Nat->Nat}{cap:Nat->Cap}{M:Nat->Nat->Rat}{n w:Nat}
theorem MH.swap(h:MH b R O idf cap M n w){k a:Nat}(hk:k<n)(ha:a<n):MH b (R.set O (.cells ((List.range n).map fun i=>AV.slice (idf (swp k a i)) 0 w (cap (swp k a i))))) O (fun i=>idf (swp k a i)) (fun i=>cap (swp k a i)) (fun i=>M (swp k a i)) n w where
 o:=by rw[AcM (AcF.1 h.o).1]
 r:=fun i hi=>by
  rw[AcH (h.io _ (Ev hk ha hi)).symm];exact h.r _ (Ev hk ha hi)
 inj:=fun i j hi hj e=>XF (h.inj _ _ (Ev hk ha hi) (Ev hk ha hj) e)
 io:=fun i hi=>h.io _ (Ev hk ha hi)
 ob:=h.ob
 ib:=fun i hi=>h.ib _ (Ev hk ha hi)
end
section
variable {cx:Ctx}{k:List Itm}{r:AV×List Row×Nat->Prop}
theorem US{l0:List (Nat×AV)}{R:List Row}{low:Nat}:Ex F cx (.ops [.one ⟨some 70,.idxS 1 (.t 59) (.t 60),none⟩,.one ⟨none,.store1 (.t 70) (.t 68),none⟩]::k) ⟨mk 148 l0,R,low⟩ r↔
  bnd (evP R (.idxS 1 (.c (lk l0 59)) (.c (lk l0 60)))) fun v=>bnd (evE R low (.store1 (.c v) (.c (lk l0 68)))) fun q=>Ex F cx k ⟨mk 148 ((70,v)::l0),q.2.1,q.2.2⟩ r:=by
 rw[J8 rfl];exact Iff.rfl
theorem Wf{R:List Row}{id low i j n:Nat}{c:Cap}{l:List AV}{sl:List (Nat×AV)}{vi vj:AV}(hW:R[id]?=some (.cells l))(hi:i<n)(hj:j<n)(hn:n<=l.length)
  (h1:l.all AV.one=true) (hli:l[i]?=some vi) (hlj:l[j]?=some vj)
  (s0:lk sl 0 = .slice id 0 n c) (s9:lk sl 9 = .int .i64 i) (s11:lk sl 11 = .int .i64 j)
  (h:∀sl',(∀j∈[0,5,7,9,10,11,31,32],lk sl' j=lk sl j)->Ex F cx k ⟨mk 148 sl',R.set id (.cells ((l.set i vj).set j vi)),Ab low id⟩ r):
  Ex F cx (.code c64k46::k) ⟨mk 148 sl,R,low⟩ r:=by
 have hWl:=(AcF.1 hW).1;have hrow:Ae R id=some l:=by unfold Ae;rw[hW]
 have hm:Bf R id i 1=R.set id (.cells (splice l i [.any])):=by unfold Bf;rw[hW];rfl
 have iI:AI (i:Int) n=some i:=by rw[Bz (by omega) (by omega),Adf]
 have iJ:AI (j:Int) n=some j:=by rw[Bz (by omega) (by omega),Adf]
 have t7:Nat.testBit 8179 7=true:=by decide
 have t11:Nat.testBit 8179 11=true:=by decide
 have oi:vi.one=true:=AcT.1 h1 _ (Ac5 hli);have oj:vj.one=true:=AcT.1 h1 _ (Ac5 hlj);have pI:∀R:List Row,evP R (.idxS 1 (.c (.slice id 0 n c)) (.c (.int .i64 i)))=some (.ptr id i):=fun R=>HN hi
 have pJ:∀R:List Row,evP R (.idxS 1 (.c (.slice id 0 n c)) (.c (.int .i64 j)))=some (.ptr id j):=fun R=>HN hj
 rw[uc64k46,Df,Bu,Jb,uc64r46,HG];simp[LH,LZ,FE,GX,I6,AY,s0,s9,s11,pI,pJ,hrow,hli,hlj,hm,BT,CG,t7,t11];refine⟨id,i,⟨rfl,rfl⟩,?_⟩;have hcel:cells? (R.set id (.cells (l.set i vj))) id=some (l.set i vj):=by unfold cells?;rw[AcM hWl]
 have hset3:(R.set id (.cells (l.set i vj))).set id (.cells ((l.set i vj).set j vi))=R.set id (.cells ((l.set i vj).set j vi)):=by rw[Ad5]
 have hll:Ab (Ab low id) id=Ab low id:=by unfold Ab;split<;>simp<;>omega
 refine⟨_,by simp[hW,oj,show i<l.length by omega];rfl,?_⟩
 try simp only[Adn,AcV]
 rw[US];simp[pJ,hcel,oi,show j<l.length by omega,hset3,hll];refine h _ ?_;intro j hj;simp only[Ade,Aef,or_false]at hj;rcases hj with rfl|rfl|rfl|rfl|rfl|rfl|rfl|rfl<;>simp[s0,s9,s11]
end
def fsl(s:GS)(n:Nat):List Int:=(List.range n).map fun i=>if i<s.k then(s.κ i:Int)else -1
theorem OP{s:GS}{n:Nat}:(fsl s n).length=n:=by simp[fsl]
theorem TN{s:GS}{n c:Nat}{M:Nat->Nat->Rat}(hk:s.k<n):(fsl s n).set s.k (c:Int)=fsl ⟨M,s.k+1,fun t=>if t=s.k then c else s.κ t⟩ n:=by
 unfold fsl;apply List.ext_getElem (by simp);intro i h1 h2;simp only[List.getElem_set,List.getElem_map,List.getElem_range]
 by_cases e:s.k=i
 ·subst e;simp
 ·rw[if_neg e]
  by_cases e2:i<s.k
  ·rw[if_pos e2,if_pos (by omega),if_neg (fun h=>e h.symm)]
  ·rw[if_neg e2,if_neg (by omega)]
structure RS(b:Nat)(R0 R:List Row)(O FI:Nat)(idf0 idf:Nat->Nat)(cap:Nat->Cap)(M:Nat->Nat->Rat)(n w:Nat)(l:List Int):Prop where
 mh:MH b R O idf cap M n w
 fx:Fx R0 R (fun id=>id=O\/id=FI\/∃i,i<n/\id=idf0 i)
 pm:∀i,i<n->∃i',i'<n/\idf i=idf0 i'
 fi:R[FI]?=some (.cells (Ad .i64 l))
theorem UT{M:Nat->Nat->Rat}{n k a c:Nat}{i j:Nat}(hi:i<n)(hj:c<n\/True):elo (fun i' j'=>if i'=k then M (swp k a k) j'/M a c else M (swp k a i') j') k c n i j=elm M k a c i j:=by
 have e:swp k a k=a:=by unfold swp;rw[if_pos rfl]
 unfold elo elm
 by_cases h:i=k
 ·subst h
  rw[if_neg (fun h=>h.2 rfl),if_pos rfl];simp only[if_true,e]
 ·rw[if_pos ⟨hi,h⟩,if_neg h]
  simp only[if_neg h,if_true,e]
theorem NG{R:List Row}{id i low:Nat}{l:List Int}{x:Int}(h:R[id]?=some (.cells (Ad .i64 l)))(hi:i<l.length):evE R low (.store1 (.c (.ptr id i)) (.c (.int .i64 x)))=some (.tup [],R.set id (.cells (Ad .i64 (l.set i x))),Ab low id):=by
 have hc:cells? R id=some (Ad .i64 l):=by unfold cells?;rw[h]
 have hl:(Ad .i64 l).length=l.length:=by simp[Ad]
 rw[A4];simp only[hc,Ac4];rw[if_pos ⟨by omega,rfl⟩];simp[Ad,Aeh]
theorem MH.oth{b:Nat}{R:List Row}{O:Nat}{idf:Nat->Nat}{cap:Nat->Cap}{M:Nat->Nat->Rat}{n w:Nat}(h:MH b R O idf cap M n w){id:Nat}{y:Row}(h1:id≠O)(h2:∀i,i<n->id≠idf i):MH b (R.set id y) O idf cap M n w:=
 {h with
  o:=by rw[AcH h1];exact h.o
  r:=fun i hi=>by rw[AcH (h2 i hi)];exact h.r i hi}
section
variable {b:Nat}{O FI Z:Nat}{idf0:Nat->Nat}{n w cols:Nat}{A:Nat->Nat->Rat}{cO cF:Cap}{r:AV×List Row×Nat->Prop}
theorem WZ{base:Nat}{R0:List Row}(hn:n<=1000)(hw:w<=1000)(hcw:cols<=w)(hb:Bd A n w cols)(hk5:∀c a,c<cols->(gjR A n c).k<=a->a<n->(gjR A n c).M a c≠0->(gjR A n c).k<=5)
  (hbase:base<=R0.length) (hOb:O<base) (hbF:b<=FI) (hFO:FI≠O) (hFi:∀i,i<n->idf0 i≠FI) (hZO:Z≠O) (hZF:Z≠FI) (hZi:∀i,i<n->idf0 i≠Z) (hZ0:R0[Z]?=some (.cells [.int .i64 0,.int .i64 1]))
  (hc:∀(R:List Row) (low:Nat) (sl:List (Nat×AV)) (idf:Nat->Nat) (cap:Nat->Cap),RS b R0 R O FI idf0 idf cap (gjR A n cols).M n w (fsl (gjR A n cols) n)->b<=low->low<=base->(low=base->∀id,id<base->R[id]?=R0[id]?)->lk sl 7 = .slice FI 0 n cF->
   Ex F C64 [.code c64s2,.inScope c64p0] ⟨mk 148 sl,R,low⟩ r):
  ∀(d c:Nat) (R:List Row) (low:Nat) (idf:Nat->Nat) (cap:Nat->Cap),cols-c=d->c<=cols->RS b R0 R O FI idf0 idf cap (gjR A n c).M n w (fsl (gjR A n c) n)->b<=low->low<=base->(low=base->∀id,id<base->R[id]?=R0[id]?)->
  Lc64l3 F C64 (.slice O 0 n cO) (.ptr Z 0) (.slice FI 0 n cF) (.int .i64 ((gjR A n c).k:Int)) (.int .i64 cols) (.int .i64 c) R low r:=by
 intro d
 induction d with
 |zero=>
  intro c R low idf cap hd hc' h hlow hlb hq;have e:c=cols:=by omega
  subst e;unfold Lc64l3;simp[-uc64s2];refine hc R low _ idf cap h hlow hlb hq ?_;simp
 |succ d ih=>
  intro c R low idf cap hd hc0 h hlow hlb hq;have hcc:c<cols:=by omega
  have hcw':c<w:=by omega
  have hwc:IntKind.i64.wrap ((c:Int)+1)=((c+1:Nat):Int):=wS (by omega);obtain⟨σ,hgj⟩:=EA (A:=A) (n:=n) c;have hkn:=hgj.kn;have hnx:gjR A n (c+1)=gst n (gjR A n c) c:=rfl;have hfnd:=K7 (M:=(gjR A n c).M) (c:=c) (n:=n) (n-(gjR A n c).k) (gjR A n c).k (by omega);generalize hs:gjR A n c=s at *
  have hZR:=h.fx.row hZ0 (fun hz=>by
   rcases hz with hz|hz|⟨i,h1,h2⟩
   ·exact hZO hz
   ·exact hZF hz
   ·exact hZi i h1 h2.symm)
  unfold Lc64l3;simp[hcc];refine VU (k:=s.k) hcw' hn h.mh (cO:=cO) hZR (fun sl a s0 s5 s7 s9 s10 s11 s31 s32 ha=>?_) (n-s.k) s.k rfl hkn rfl;rw[<-ha]at hfnd;obtain⟨f1,f2,f3,f4⟩:=hfnd;have hgst:gst n s c=if a<n then⟨elm s.M s.k a c,s.k+1,fun t=>if t=s.k then c else s.κ t⟩else s:=by
   unfold gst;simp only[<-ha]
  by_cases han:a<n
  ·have hkl:s.k<n:=by omega
   rw[if_pos han]at hgst;have hfit:=hgj.fit hb hcc hcw (by have:=hk5 c a hcc;rw[hs]at this;exact this f1 han (f3 han)) f1 han (f3 han);have hnZ:¬(a:Int)=(n:Int):=by omega
   have hn0:=f3 han;have ekk:swp s.k a s.k=a:=by unfold swp;rw[if_pos rfl]
   have hOl:b<=O:=h.mh.ob;have m1:=h.mh.swap hkl han;have hsl:=V9 hkl han fun i=>AV.slice (idf i) 0 w (cap i)
   obtain⟨idf',hidf⟩:∃f,f=fun i=>idf (swp s.k a i):=⟨_,rfl⟩
   obtain⟨cap',hcap⟩:∃f,f=fun i=>cap (swp s.k a i):=⟨_,rfl⟩
   obtain⟨M',hM⟩:∃f,f=fun i=>s.M (swp s.k a i):=⟨_,rfl⟩
   rw[<-hidf,<-hcap,<-hM]at m1;have hMk:M' s.k=s.M a:=by rw[hM];simp only[ekk]
   have hMi:∀i,M' i=s.M (swp s.k a i):=fun i=>by rw[hM]
   have hpm:∀i,i<n->∃i',i'<n/\idf' i=idf0 i':=fun i hi=>by rw[hidf];exact h.pm _ (Ev hkl han hi)
   have hbl:=h.fx.1;simp[s0,s5,s7,s9,s10,s11,s31,s32,hnZ,-uc64k46];refine Wf (i:=s.k) (j:=a) (c:=cO) h.mh.o hkl han (by simp) (by simp[AV.one]) (vi:=.slice (idf s.k) 0 w (cap s.k)) (vj:=.slice (idf a) 0 w (cap a)) (by simp[hkl]) (by simp[han]) (by simp) (by simp) (by simp) (fun sl' hsl'=>?_);rw[hsl];simp only[Ade,Aef,or_false,forall_eq_or_imp,forall_eq]at hsl';obtain⟨t0,t5,t7,t9,t10,t11,t31,t32⟩:=hsl';generalize hR2:R.set O (.cells ((List.range n).map fun i=>AV.slice (idf (swp s.k a i)) 0 w (cap (swp s.k a i))))=R2 at m1;have hf2:Fx R R2 (fun id=>id=O\/id=FI\/∃i,i<n/\id=idf0 i):=by rw[<-hR2];exact Fx.set (Or.inl rfl)
   have hfi2:R2[FI]?=some (.cells (Ad .i64 (fsl s n))):=by rw[<-hR2,AcH hFO.symm];exact h.fi
   have hlow2:=He hlow hOl;have hlb2:=AcP (AW low O) hlb;have hlO:=AK low O;generalize Ab low O=low2 at hlow2 hlb2 hlO;have l1:=m1.row hkl;have l2:=m1.ld hkl hcw';rw[hMk]at l2;have ixO:=HN (R:=R2) (O:=O) (c:=cO) hkl;have ixc:=C8 (R:=R2) (id:=idf' s.k) (c:=cap' s.k) hcw';have hlR2:low2<=R2.length:=by have:=hf2.1;omega
   simp[t0,t5,t7,t9,t10,t31,t32,l1,l2,ixO,ixc,Xp hlR2];have hne2:=m1.ne (id:=R2.length) (AcE _);refine Uj (b:=b) (idf:=idf') (cap:=cap') (n:=n) (O:=O) (M:=M') (q:=s.M a c) (base:=low2) (R0:=R2++[.cells [.int .i64 (s.M a c).num,.int .i64 ((s.M a c).den:Int)]]) hkl hw (hfit.s a c han hcw') hn0 (fun j hj=>by rw[hMk];exact⟨hfit.s a j han hj,hfit.o j hj⟩) (hne2.2 s.k hkl).symm (by simp) (fun R3 low3 sl3 m3 g3 e3 hlow3 hlb3 u0 u5 u7 u9 u10 u12 u31 u32=>?_) w 0 _ low2 (by omega) (by omega) ((m1.app _).congr fun i' j' _ _=>by rw[if_neg (by omega)]) Fx.refl rfl hlow2 (AcE _)
   have hf3:Fx R R3 (fun id=>id=O\/id=FI\/∃i,i<n/\id=idf0 i):=hf2.trans ((Fx.app _).trans (g3.mono fun id _ e=>by
    obtain⟨i',h1,h2⟩:=hpm s.k hkl
    exact Or.inr (Or.inr ⟨i',h1,by rw[e,h2]⟩)))
   have hZ3:=hf3.row hZR (fun hz=>by
    rcases hz with hz|hz|⟨i,h1,h2⟩
    ·exact hZO hz
    ·exact hZF hz
    ·exact hZi i h1 h2.symm)
   have hlen3:low2<=R3.length:=by have:=hf3.1;omega
   simp[u0,u5,u7,u9,u10,u12,u31,u32,-uc64s7];refine Yh (b:=b) (idf:=idf') (cap:=cap') (n:=n) (O:=O) (k:=s.k) (c:=c) (base:=low2) (R0:=R3) (M:=fun i' j'=>if i'=s.k then M' s.k j'/s.M a c else M' i' j') hkl hcw' hn hw (fun i j hi hik hj=>?_) (fun i hi=>by obtain⟨i',h1,h2⟩:=hpm i hi;rw[h2];exact hZi i' h1) hZ3 hlen3 (fun R4 low4 sl4 m4 g4 hlow4 hlb4 v0 v5 v7 v9 v10 v31 v32=>?_) n 0 R3 low3 (by omega) (by omega) (m3.congr fun i' j' _ _=>by unfold elo;exact(if_neg (fun h:i'<0/\i'≠s.k=>Nat.not_lt_zero _ h.1)).symm) Fx.refl hlow3 hlb3
   ·simp only[if_neg hik,if_true,hMk,hMi]
    exact⟨hfit.s _ c (Ev hkl han hi) hcw',hfit.o j hj,hfit.m i j hi hik hj,hfit.u i j hi hik hj⟩
   ·have hf4:Fx R R4 (fun id=>id=O\/id=FI\/∃i,i<n/\id=idf0 i):=hf3.trans (g4.mono fun id _ e=>by
     obtain⟨i,h0,e⟩:=e;obtain⟨i',h1,h2⟩:=hpm i h0
     exact Or.inr (Or.inr ⟨i',h1,by rw[e,h2]⟩))
    have hfi3:R3[FI]?=some (.cells (Ad .i64 (fsl s n))):=by
     have:(R2++[Row.cells [.int .i64 (s.M a c).num,.int .i64 ((s.M a c).den:Int)]])[FI]?=some (.cells (Ad .i64 (fsl s n))):=by
      rw[AcD (AcF.1 hfi2).1];exact hfi2
     exact g3.row this fun e=>by obtain⟨i',h1,h2⟩:=hpm s.k hkl;exact hFi i' h1 (by rw[<-h2,<-e])
    have hfi4:R4[FI]?=some (.cells (Ad .i64 (fsl s n))):=g4.row hfi3 fun e=>by
     obtain⟨i,h0,e⟩:=e;obtain⟨i',h1,h2⟩:=hpm i h0;exact hFi i' h1 (by rw[<-h2,<-e])
    have hfl:=OP (s:=s) (n:=n);have st4:=NG (low:=low4) (i:=s.k) (x:=(c:Int)) hfi4 (by omega);have ixF:=fun R:List Row=>HN (R:=R) (O:=FI) (c:=cF) hkl
    have hwk:IntKind.i64.wrap ((s.k:Int)+1)=((s.k+1:Nat):Int):=by rw[AM (by omega) (by omega)];omega
    rw[TN (M:=elm s.M s.k a c) hkl,<-hgst,<-hnx]at st4;have m5:RS b R0 (R4.set FI (.cells (Ad .i64 (fsl (gjR A n (c+1)) n)))) O FI idf0 idf' cap' (gjR A n (c+1)).M n w (fsl (gjR A n (c+1)) n):=
     {mh:=(m4.oth hFO (fun i hi=>by obtain⟨i',h1,h2⟩:=hpm i hi;rw[h2];exact(hFi i' h1).symm)).congr fun i j hi hj=>by
       rw[hMk,hnx,hgst];have:=UT (M:=s.M) (n:=n) (k:=s.k) (a:=a) (c:=c) (j:=j) hi (Or.inr trivial);rw[ekk]at this;show _=elm s.M s.k a c i j;rw[hM];exact this
      fx:=h.fx.trans (hf4.trans (Fx.set (Or.inr (Or.inl rfl))))
      pm:=hpm
      fi:=by rw[AcM (AcF.1 hfi4).1]}
    have:=ih (c+1) _ _ idf' cap' (by omega) (by omega) m5 (He hlow4 hbF) (AcP (AW _ _) (AcP hlb4 hlb2)) (fun e=>by have:=AW low4 FI;omega);have hkk:(gjR A n (c+1)).k=s.k+1:=by rw[hnx,hgst]
    rw[hkk]at this;simp[v0,v5,v7,v9,v10,v31,v32,ixF,st4,hwk,hwc];simpa using this
  ·have e:a=n:=by omega
   subst e;rw[if_neg han]at hgst;have:=ih (c+1) R low idf cap (by omega) (by omega) (by rw[hnx,hgst];exact h) hlow hlb hq;rw[hnx,hgst]at this;simp[s0,s5,s7,s9,s10,s11,s31,s32,hwc];simpa using this
end
def m1s(n j:Nat):List Int:=(List.range n).map fun i=>if i<j then -1 else 0
theorem We{n j:Nat}:(m1s n j).length=n:=by simp[m1s]
theorem TO{n j:Nat}:(m1s n j).set j (-1)=m1s n (j+1):=by
 unfold m1s;apply List.ext_getElem (by simp);intro i h1 h2;simp only[List.getElem_set,List.getElem_map,List.getElem_range]
 by_cases e:j=i
 ·subst e;rw[if_pos rfl,if_pos (by omega)]
 ·rw[if_neg e]
  by_cases e2:i<j
  ·rw[if_pos e2,if_pos (by omega)]
  ·rw[if_neg e2,if_neg (by omega)]
theorem AaE{n:Nat}:Ad .i64 (m1s n 0)=List.replicate n (.int .i64 0):=by
 apply List.ext_getElem (by simp[Ad,m1s]);intro i h1 h2;simp[Ad,m1s]
theorem Z0{A:Nat->Nat->Rat}{n:Nat}:m1s n n=fsl (gjR A n 0) n:=by
 unfold m1s fsl;apply AdM;intro i hi;rw[if_pos (Adm.1 hi),if_neg (by show ¬i<0;omega)]
section
variable {n:Nat}{cF:Cap}{x0 x1 x5:AV}{r:AV×List Row×Nat->Prop}
theorem Vn{L:List Row}{FI low:Nat}(hn:n<=1000)(hlF:low<=FI)
  (hc:∀sl:List (Nat×AV),lk sl 0=x0->lk sl 1=x1->lk sl 5=x5->lk sl 7 = .slice FI 0 n cF->
   Ex F C64 [.code c64s68,.inScope c64p0] ⟨mk 148 sl,L.set FI (.cells (Ad .i64 (m1s n n))),low⟩ r) (hFI:FI<L.length):
  ∀(d j:Nat),n-j=d->j<=n->
  Lc64l69 F C64 x0 x1 x5 (.slice FI 0 n cF) (.int .i64 n) (.int .i64 j) (L.set FI (.cells (Ad .i64 (m1s n j)))) low r:=by
 intro d
 induction d with
 |zero=>
  intro j hd hj;have e:j=n:=by omega
  subst e;unfold Lc64l69;simp[-uc64s68];refine hc _ ?_ ?_ ?_ ?_
  all_goals simp
 |succ d ih=>
  intro j hd hj0;have hj:j<n:=by omega
  have hwj:IntKind.i64.wrap ((j:Int)+1)=((j+1:Nat):Int):=wS (by omega);have hl:=We (n:=n) (j:=j);have hg:(L.set FI (.cells (Ad .i64 (m1s n j))))[FI]?=some (.cells (Ad .i64 (m1s n j))):=by rw[AcM hFI]
  have st:=NG (low:=low) (i:=j) (x:=-1) hg (by omega);have hlw:Ab low FI=low:=lwS (by omega);rw[TO,Ad5,hlw]at st;have ix:=fun R:List Row=>HN (R:=R) (O:=FI) (c:=cF) hj
  have:=ih (j+1) (by omega) (by omega);unfold Lc64l69;simp[hj,ix,st,hwj];simpa using this
end
section
variable {rows:List Row}{b O:Nat}{idf:Nat->Nat}{cap:Nat->Cap}{A:Nat->Nat->Rat}{n w cols:Nat}{cO:Cap}
theorem Fh{rows R':List Row}{id o n:Nat}{c:Cap}{vs:List AV}(h:R'[id]?=some (.cells vs))(hid:rows.length<=id)(hv:vs.all (·.ids.isEmpty)=true):fin rows (.slice id o n c) R' rows.length=(.slice rows.length o n c,rows++[.cells vs],none):=by
 have e:¬id<rows.length:=by omega
 unfold fin;rw[if_pos rfl];simp only[CO,AdH,Aes,Aeu,decide_eq_true_eq];rw[if_neg e,h];simp only[hv,Bool.true_and,AV.plain1,AV.plain,if_true,AV.ren1,AV.ren]
theorem Yy{R':List Row}{base low id o n:Nat}{c:Cap}(h:base<=id):gc base low (.slice id o n c) R'=R':=by
 unfold gc;rw[if_neg];simp only[AV.under,CO,AdH,Aes,Aeu,Ac3,decide_eq_true_eq];omega
def AbR(rows:List Row)(b O:Nat)(idf:Nat->Nat)(A:Nat->Nat->Rat)(n w cols:Nat)(q:AV×List Row×Option Nat):Prop:=
 ∃FI cF R' lo idf' cap',q=(.slice FI 0 n cF,R',lo)/\rows.length<=FI/\MH b R' O idf' cap' (gjR A n cols).M n w/\(∀i,i<n->∃i',i'<n/\idf' i=idf i')/\
   R'[FI]?=some (.cells (Ad .i64 (fsl (gjR A n cols) n)))/\Fx rows R' (fun id=>id=O\/∃i,i<n/\id=idf i)/\∀l,lo=some l->b<=l
theorem VT{cx:Ctx}{k:List Itm}{s:St}{α:Type}{f:AV×List Row×Nat->α}{P:α->Prop}(h:Ex F cx k s fun r=>P (f r)):∃q,Ex F cx k s (fun r=>f r=q)/\P q:=by
 obtain⟨n,r,e,hr⟩:=h;exact⟨f r,⟨n,r,e,rfl⟩,hr⟩
theorem JX(hn:n<=1000)(hw:w<=1000)(hcw:cols<=w)(hb:Bd A n w cols)(hk5:∀c a,c<cols->(gjR A n c).k<=a->a<n->(gjR A n c).M a c≠0->(gjR A n c).k<=5)(h:MH b rows O idf cap A n w):
  ∃q,Ret F 64 [.slice O 0 n cO,.int .i64 cols,fr 0] rows=some q/\AbR rows b O idf A n w cols q:=by
 suffices hs:Ex F (.fn [.t 6]) [.code c64b] ⟨mk 148 [(0,.slice O 0 n cO),(1,.int .i64 cols),(2,fr 0)],rows,rows.length⟩ (fun r=>AbR rows b O idf A n w cols (fin rows r.1 r.2.1 r.2.2))by
  obtain⟨q,h1,h2⟩:=VT hs;exact⟨q,i64 F64 h1,h2⟩
 have hO:=(AcF.1 h.o).1;have hI:∀i,i<n->idf i<rows.length:=fun i hi=>(AcF.1 (h.r i hi)).1
 have hbx:evE rows rows.length (.box (.c (fr 0)))=some (.ptr rows.length 0,rows++[.cells [.int .i64 0,.int .i64 1]],rows.length):=rfl;have hlim:n<=lim:=by unfold lim;omega
 simp[hbx,hlim];have hset:rows++[.cells [.int .i64 0,.int .i64 1],.cells (List.replicate n (.int .i64 0))]=(rows++[Row.cells [.int .i64 0,.int .i64 1],.cells (List.replicate n (.int .i64 0))]).set (rows.length+1) (.cells (Ad .i64 (m1s n 0))):=by
  rw[AaE,AcW _ _ (by omega)];simp
 rw[hset];have hlen:(rows++[Row.cells [.int .i64 0,.int .i64 1],.cells (List.replicate n (.int .i64 0))]).length=rows.length+2:=by simp
 refine Vn (n:=n) hn (by omega) (fun sl s0 s1 s5 s7=>?_) (by omega) n 0 (by omega) (by omega);have e2:(rows++[Row.cells [.int .i64 0,.int .i64 1],.cells (List.replicate n (.int .i64 0))]).set (rows.length+1) (.cells (Ad .i64 (m1s n n)))=rows++[.cells [.int .i64 0,.int .i64 1],.cells (Ad .i64 (m1s n n))]:=by
  rw[AcW _ _ (by omega)];simp
 rw[e2];simp[s0,s1,s5,s7];have hm0:MH b (rows++[Row.cells [.int .i64 0,.int .i64 1],.cells (Ad .i64 (m1s n n))]) O idf cap (gjR A n 0).M n w:=h.app _;refine WZ (O:=O) (FI:=rows.length+1) (Z:=rows.length) (idf0:=idf) (base:=rows.length) (R0:=rows++[.cells [.int .i64 0,.int .i64 1],.cells (Ad .i64 (m1s n n))]) hn hw hcw hb hk5 (by simp) hO (AcP h.ob (by omega)) (by omega) (fun i hi=>by have:=hI i hi;omega) (by omega) (by omega) (fun i hi=>by have:=hI i hi;omega) (by simp) (fun R' low sl' idf' cap' hR hbl hlow hq s7'=>?_) cols 0 _ rows.length idf cap (by omega) (by omega) ⟨hm0,Fx.refl,fun i hi=>⟨i,hi,rfl⟩,by rw[Z0 (A:=A)];simp⟩ (AcP h.ob (by omega)) (AcE _) (fun _ _ _=>rfl);simp[s7'];have hfx:∀id,id<rows.length->¬(id=O\/∃i,i<n/\id=idf i)->R'[id]?=rows[id]?:=fun id h1 h2=>by
  rw[hR.fx.2 id (by simp;omega) (fun hp=>by
   rcases hp with hp|hp|hp
   ·exact h2 (Or.inl hp)
   ·omega
   ·exact h2 (Or.inr hp)),AcD h1]
 have hl2:rows.length+2<=R'.length:=by
  have:=hR.fx.1;simp at this;omega
 by_cases hlow':low=rows.length
 ·subst hlow'
  have hold:∀id,id<rows.length->rows[id]?=R'[id]?:=fun id hid=>by rw[hq rfl id hid,AcD hid]
  rw[Fh hR.fi (by omega) (by simp[Ad])];have hm:MH b rows O idf' cap' (gjR A n cols).M n w:=
   {hR.mh with
    o:=by rw[hold O hO];exact hR.mh.o
    r:=fun i hi=>by
     obtain⟨i',h1,h2⟩:=hR.pm i hi;have:=hI i' h1;rw[hold _ (by rw[h2];exact this)]
     exact hR.mh.r i hi}
  exact⟨rows.length,_,_,none,idf',cap',rfl,AcE _,hm.app _,hR.pm,by simp,Fx.app _,fun l hl=>by simp at hl⟩
 ·rw[SP hlow',Yy (by omega)]
  exact⟨rows.length+1,_,R',some low,idf',cap',rfl,by omega,hR.mh,hR.pm,hR.fi,⟨by omega,hfx⟩,fun l hl=>by cases hl;exact hbl⟩
end
section
variable {rows:List Row}{cols:Nat}{x5 x7:AV}{r:AV×List Row×Nat->Prop}
theorem Vd{R:List Row}{low:Nat}(hcols:cols<=1000)(hc:∀sl:List (Nat×AV),lk sl 7=x7->Ex F C64 [.code c64s2,.inScope c64p0] ⟨mk 148 sl,R,low⟩ r):
  ∀(d c:Nat),cols-c=d->c<=cols->Lc64l3 F C64 .nilslice x5 x7 (.int .i64 0) (.int .i64 cols) (.int .i64 c) R low r:=by
 intro d
 induction d with
 |zero=>
  intro c hd hc';have e:c=cols:=by omega
  subst e;unfold Lc64l3;simp[-uc64s2];exact hc _ (by simp)
 |succ d ih=>
  intro c hd hc0;have hcc:c<cols:=by omega
  have hwc:IntKind.i64.wrap ((c:Int)+1)=((c+1:Nat):Int):=wS (by omega);have:=ih (c+1) (by omega) (by omega);unfold Lc64l3;simp[hcc];unfold Lc64l51;simp[hwc];simpa using this
theorem JJ(hcols:cols<=1000):∃cF,Ret F 64 [.nilslice,.int .i64 cols,fr 0] rows=some (.slice rows.length 0 0 cF,rows++[.cells []],none):=by
 have hbx:evE rows rows.length (.box (.c (fr 0)))=some (.ptr rows.length 0,rows++[.cells [.int .i64 0,.int .i64 1]],rows.length):=rfl;refine⟨.at_ 0,i64 F64 ?_⟩;simp[hbx];unfold Lc64l69;simp;refine Vd hcols (fun sl s7=>?_) cols 0 (by omega) (by omega);simp[s7];exact Fh (by simp) (by omega) rfl
end
def GZ(R:List Row):Prop:=R[0]?=some (.ro (Ad .i64 [0,1]))
theorem N2{R:List Row}(h:GZ R):evP R (.loadN 2 (.c (.ptr 0 0)))=some (fr 0):=by
 have hr:Ae R 0=some (Ad .i64 [0,1]):=by unfold Ae;rw[h]
 show Af R (Ak []) _=_;unfold Af;simp only[Ak,hr]
 rfl
theorem GZ.lt{R:List Row}(h:GZ R):0<R.length:=(AcF.1 h).1
theorem GZ.fx{R R':List Row}{p:Nat->Prop}(h:GZ R)(hF:Fx R R' p)(hp:¬p 0):GZ R':=(hF.2 0 h.lt hp).trans h
theorem RQ{f:Nat->Rat}{N:Nat}:∀{a:Nat},a<=N->(frs f N).drop (a*2)=frs (fun j=>f (a+j)) (N-a):=by
 induction N with
 |zero=>
      intro a h;have:a=0:=by omega
      subst this;rfl
 |succ N ih=>
  intro a h
  by_cases e:a=N+1
  ·subst e
   rw[Adv (by rw[Ar];omega),Ac8]
   rfl
  ·rw[frs,AdP (by rw[Ar];omega),ih (by omega),show N+1-a=(N-a)+1 by omega,frs,show a+(N-a)=N by omega]
theorem RT{f:Nat->Rat}{N:Nat}:∀{a:Nat},a<=N->(frs f N).take (a*2)=frs f a:=by
 induction N with
 |zero=>
      intro a h;have:a=0:=by omega
      subst this;rfl
 |succ N ih=>
  intro a h
  by_cases e:a=N+1
  ·subst e
   rw[Adq (by rw[Ar];omega)]
  ·rw[frs,AdG (by rw[Ar];omega),ih (by omega)]
theorem UE{f:Nat->Rat}{N a u:Nat}(h:a+u<=N):seg (frs f N) (a*2) (u*2)=some (frs (fun j=>f (a+j)) u):=by
 unfold seg;rw[if_pos (by rw[Ar];omega),RQ (by omega),RT (by omega)]
section
variable {rows:List Row}{RO n u:Nat}{cR:Cap}{f:Nat->Rat}{A:Nat->Nat->Rat}{r:AV×List Row×Nat->Prop}
def DY(f:Nat->Rat)(u i:Nat):Nat->Rat:=fun j=>if j<u then f (i*11+j)else f (i*11+10)
theorem VG{f:Nat->Rat}{u i:Nat}:frs (DY f u i) (u+1)=frs (fun j=>f (i*11+j)) u++[.int .i64 (f (i*11+10)).num,.int .i64 ((f (i*11+10)).den:Int)]:=by
 rw[frs];congr 1
 ·exact Am fun j hj=>by unfold DY;rw[if_pos hj]
 ·unfold DY
  rw[if_neg (by omega)]
theorem Tz{R:List Row}{low i:Nat}{l:List (Nat×AV)}{k:List Itm}{cx:Ctx}{q8:AV×List Row×Nat}(hR:R[RO]?=some (.cells (frs f (n*11))))(hu:u<=10)(hi:i<n)(hu0:0<u)
  (s0:lk l 0 = .slice RO 0 n cR) (s1:lk l 1 = .int .i64 u) (s6:lk l 6 = .int .i64 i)
  (happ:evE (R++[.cells [.int .i64 (f (i*11+10)).num,.int .i64 ((f (i*11+10)).den:Int)],.cells (frs (DY f u i) (u+1)),.cells [.slice (R.length+1) 0 (u+1) (.op 2)]]) low (.app 1 24 (.c (lk l 5)) (.c (.slice (R.length+2) 0 1 (.at_ 1))))=some q8)
  (h:∀sl',lk sl' 5=q8.1->(∀j∈[0,1,12,13],lk sl' j=lk l j)->Ex F cx k ⟨mk 69 sl',q8.2.1,q8.2.2⟩ r):
  Ex F cx (.code c98k29::k) ⟨mk 69 l,R,low⟩ r:=by
 have ix:∀R:List Row,evP R (.idxS 22 (.c (.slice RO 0 n cR)) (.c (.int .i64 i)))=some (.ptr RO (i*22)):=fun R=>by
  have e:AI (i:Int) n=some i:=by rw[Bz (by omega) (by omega),Adf]
  show Af R (Ak []) _=_;unfold Af;simp only[Ak,e,Ads]
 have hsl:BR 11 2 (.ptr RO (i*22)) none (some (.int .i64 u)) (some (.int .i64 u))=some (.slice RO (i*22) u (.at_ u)):=by
  have b1:Aj (some (.int .i64 (u:Int))) 11 11=some u:=by
   unfold Aj;simp;omega
  have b2:Aj (some (.int .i64 (u:Int))) 11 u=some u:=by
   unfold Aj;simp
  have b3:Aj none 0 u=some 0:=by
   unfold Aj;simp
  unfold BR A8;simp[b1,b2,b3]
 have i10:AI (10:Int) 11=some 10:=rfl;have hrow:Ae R RO=some (frs f (n*11)):=by unfold Ae;rw[hR]
 have hld:evP R (.loadN 2 (.c (.ptr RO (i*22+10*2))))=some (fr (f (i*11+10))):=by
  have:=CJ (R:=R) (id:=RO) (w:=n*11) (j:=i*11+10) hR (by omega);rw[show i*22+10*2=(i*11+10)*2 by omega];exact this
 have hfill:Ap (Ak []) [(0,2,.c (fr (f (i*11+10))))] [.int .i64 0,.int .i64 0]=some [.int .i64 (f (i*11+10)).num,.int .i64 ((f (i*11+10)).den:Int)]:=rfl;have hfill2:∀v,Ap (Ak []) [(0,1,.c (.slice (R.length+1) 0 (u+1) v))] [.nilslice]=some [.slice (R.length+1) 0 (u+1) v]:=fun v=>rfl
 have t1:Nat.testBit 8190 12=true:=by decide
 have t2:Nat.testBit 16382 12=true:=by decide
 have t3:Nat.testBit 16382 13=true:=by decide
 have hEl:∀X:List Row,El (R ++ .cells [.int .i64 (f (i*11+10)).num,.int .i64 ((f (i*11+10)).den:Int)]::X) 2 (.slice R.length 0 1 (.at_ 1)) [.int .i64 (f (i*11+10)).num,.int .i64 ((f (i*11+10)).den:Int)] 1:=fun X=>by
  unfold El A5;have hr:Ae (R ++ .cells [.int .i64 (f (i*11+10)).num,.int .i64 ((f (i*11+10)).den:Int)]::X) R.length=some [.int .i64 (f (i*11+10)).num,.int .i64 ((f (i*11+10)).den:Int)]:=by unfold Ae;simp
  simp only[hr]
  rfl
 have happ1:evE (R++[.cells [.int .i64 (f (i*11+10)).num,.int .i64 ((f (i*11+10)).den:Int)]]) (R.length+1) (.app 2 16 (.c (.slice RO (i*22) u (.at_ u))) (.c (.slice R.length 0 1 (.at_ 1))))=some (.slice (R.length+1) 0 (u+1) (.op 2),R++[.cells [.int .i64 (f (i*11+10)).num,.int .i64 ((f (i*11+10)).den:Int)],.cells (frs (DY f u i) (u+1))],R.length+1):=by
  have hr:Ae (R++[.cells [.int .i64 (f (i*11+10)).num,.int .i64 ((f (i*11+10)).den:Int)]]) RO=some (frs f (n*11)):=by
   unfold Ae;rw[AcD (AcF.1 hR).1,hR]
  have hsg:=UE (f:=f) (N:=n*11) (a:=i*11) (u:=u) (by omega);rw[show i*11*2=i*22 by omega]at hsg;rw[Sz hr hsg (hEl []) (by omega) (by unfold lim;omega) (by omega),<-VG];simp
 simp[s0,s1,s6,ix,hsl,i10,hld,hfill,Ai,Ba,Bx,t1,t2,t3,happ1,hfill2,happ];refine h _ (by simp) ?_;intro j hj;simp only[Ade,Aef,or_false]at hj;rcases hj with rfl|rfl|rfl|rfl<;>simp[s0,s1]
end
section
variable {b:Nat}{R:List Row}{LO:Nat}{idf:Nat->Nat}{M:Nat->Nat->Rat}{i w:Nat}{t t2:Row}
theorem MH.one'(hb:b<=R.length):MH b (R++[t,.cells (frs (M 0) w),t2,.cells [.slice (R.length+1) 0 w (.op 2)]]) (R.length+3) (fun _=>R.length+1) (fun _=>.op 2) M 1 w where
 o:=by rw[AcG (by omega)];simp[show R.length+3-R.length=3 by omega]
 r:=fun i hi=>by
  have:i=0:=by omega
  subst this;rw[AcG (by omega)];simp[show R.length+1-R.length=1 by omega]
 inj:=fun i j hi hj _=>by omega
 io:=fun i hi=>by omega
 ob:=by omega
 ib:=fun i hi=>by omega
theorem MH.more(h:MH b R LO idf (fun _=>.op 2) M i w)(hb:b<=R.length):MH b ((R++[t,.cells (frs (M i) w),t2]).set LO .dead++[.cells (((List.range i).map fun j=>AV.slice (idf j) 0 w (.op 2))++[.slice (R.length+1) 0 w (.op 2)])]) (R.length+3) (fun j=>if j=i then R.length+1 else idf j) (fun _=>.op 2) M (i+1) w where
 o:=by
  have hO:=(AcF.1 h.o).1;rw[AcG (by simp)];simp[Aeo];intro j hj e;omega
 r:=fun j hj=>by
  have hO:=(AcF.1 h.o).1
  by_cases e:j=i
  ·subst e
   rw[if_pos rfl,AcD (by simp),AcH (by omega),AcG (by omega)];simp[show R.length+1-R.length=1 by omega]
  ·have hl:=(AcF.1 (h.r j (by omega))).1
   rw[if_neg e,AcD (by simp;omega),AcH (h.io j (by omega)).symm,AcD hl];exact h.r j (by omega)
 inj:=fun j k hj hk e=>by
  by_cases e1:j=i
  ·by_cases e2:k=i
   ·omega
   ·have hl:=(AcF.1 (h.r k (by omega))).1
    simp only[if_pos e1,if_neg e2]at e;omega
  ·have hl:=(AcF.1 (h.r j (by omega))).1
   by_cases e2:k=i
   ·simp only[if_neg e1,if_pos e2]at e
    omega
   ·simp only[if_neg e1,if_neg e2]at e
    exact h.inj j k (by omega) (by omega) e
 io:=fun j hj=>by
  by_cases e:j=i
  ·simp only[if_pos e];omega
  ·have hl:=(AcF.1 (h.r j (by omega))).1
   simp only[if_neg e];omega
 ob:=by omega
 ib:=fun j hj=>by
  by_cases e:j=i
  ·simp only[if_pos e];omega
  ·simp only[if_neg e];exact h.ib j (by omega)
end
section
variable {rows:List Row}{RO n u:Nat}{cR:Cap}{f:Nat->Rat}{r:AV×List Row×Nat->Prop}
def Tb(rows R:List Row)(f:Nat->Rat)(u i:Nat)(v:AV):Prop:=Fx rows R (fun _=>False)/\((i=0/\v = .nilslice)\/(0<i/\∃LO idf,v = .slice LO 0 i (.op 1)/\MH rows.length R LO idf (fun _=>.op 2) (DY f u) i (u+1)))
theorem Tb.more{R:List Row}{i:Nat}{v:AV}(h:Tb rows R f u i v)(hi:i<1000)(t t2:Row)(ht:t2 = .cells [.slice (R.length+1) 0 (u+1) (.op 2)]):∃v' R',evE (R++[t,.cells (frs (DY f u i) (u+1)),t2]) rows.length (.app 1 24 (.c v) (.c (.slice (R.length+2) 0 1 (.at_ 1))))=some (v',R',rows.length)/\Tb rows R' f u (i+1) v':=by
 subst ht;obtain⟨hF,hc⟩:=h;have hEl:El (R++[t,.cells (frs (DY f u i) (u+1)),.cells [.slice (R.length+1) 0 (u+1) (.op 2)]]) 1 (.slice (R.length+2) 0 1 (.at_ 1)) [.slice (R.length+1) 0 (u+1) (.op 2)] 1:=by
  unfold El A5;have hr:Ae (R++[t,.cells (frs (DY f u i) (u+1)),.cells [.slice (R.length+1) 0 (u+1) (.op 2)]]) (R.length+2)=some [.slice (R.length+1) 0 (u+1) (.op 2)]:=by
   unfold Ae;rw[AcG (by omega)];simp[show R.length+2-R.length=2 by omega]
  simp only[hr]
  rfl
 rcases hc with ⟨rfl,rfl⟩|⟨h0,LO,idf,rfl,hm⟩
 ·refine⟨_,_,HJ hEl (by omega) (by unfold lim;omega),⟨?_,.inr ⟨by omega,R.length+3,fun _=>R.length+1,?_,?_⟩⟩⟩
  ·rw[AcL];exact hF.trans (Fx.app _)
  ·simp
  ·rw[AcL];exact MH.one' hF.1
 ·have hO:=(AcF.1 hm.o).1
  have hcel:cells? (R++[t,.cells (frs (DY f u i) (u+1)),.cells [.slice (R.length+1) 0 (u+1) (.op 2)]]) LO=some ((List.range i).map fun j=>AV.slice (idf j) 0 (u+1) (.op 2)):=by
   unfold cells?;rw[AcD hO,hm.o]
  have hsg:seg ((List.range i).map fun j=>AV.slice (idf j) 0 (u+1) (.op 2)) 0 (i*1)=some ((List.range i).map fun j=>AV.slice (idf j) 0 (u+1) (.op 2)):=by
   unfold seg;rw[if_pos (by simp),Aeg,Adq (by simp)]
  have hlw:Ab rows.length LO=rows.length:=by unfold Ab;rw[if_neg (by have:=hm.ob;omega)]
  refine⟨_,_,by rw[Lr hcel hsg hEl (by omega) (by unfold lim;omega),hlw],⟨?_,.inr ⟨by omega,R.length+3,_,?_,hm.more hF.1⟩⟩⟩
  ·refine⟨by have:=hF.1;simp;omega,fun id h1 h2=>?_⟩
   have:=hF.1;have:=hm.ob;rw[AcD (by simp;omega),AcH (by omega),AcD (by omega),hF.2 id h1 h2]
  ·simp
theorem T0(hR:rows[RO]?=some (.cells (frs f (n*11))))(hu:u<=10)(hn:n<=1000)(hu0:0<u)
  (hc:∀(R:List Row) (v:AV) (sl:List (Nat×AV)),Tb rows R f u n v->lk sl 1 = .int .i64 u->lk sl 5=v->Ex F (.fn [.t 4]) [.code c98s26] ⟨mk 69 sl,R,rows.length⟩ r):
  ∀(d i:Nat) (R:List Row) (v:AV),n-i=d->i<=n->Tb rows R f u i v->Lc98l27 F (.fn [.t 4]) (.slice RO 0 n cR) (.int .i64 u) v (.int .i64 n) (.int .i64 i) R rows.length r:=by
 intro d
 induction d with
 |zero=>
  intro i R v hd hi h;have e:i=n:=by omega
  subst e;unfold Lc98l27;simp[-uc98s26];refine hc R v _ h ?_ ?_<;>simp
 |succ d ih=>
  intro i R v hd hi0 h;have hi:i<n:=by omega
  have hwi:IntKind.i64.wrap ((i:Int)+1)=((i+1:Nat):Int):=wS (by omega);obtain⟨v',R',happ,hT⟩:=h.more (by omega) (.cells [.int .i64 (f (i*11+10)).num,.int .i64 ((f (i*11+10)).den:Int)]) _ rfl;have:=ih (i+1) R' v' (by omega) (by omega) hT;unfold Lc98l27;simp[hi,-uc98k29];refine Tz (f:=f) (n:=n) (u:=u) (i:=i) (RO:=RO) (cR:=cR) (h.1.row hR (by simp)) hu hi hu0 (by simp) (by simp) (by simp) (by simpa using happ) (fun sl' h5 hsl=>?_);simp only[Ade,Aef,or_false,forall_eq_or_imp,forall_eq]at hsl;obtain⟨s0,s1,s12,s13⟩:=hsl;simp[s0,s1,s12,s13,h5,hwi];simpa using this
end
abbrev C98:Ctx:=.fn [.t 4]
section
variable {rows:List Row}{u:Nat}{cO:Cap}{x1 x5:AV}{r:AV×List Row×Nat->Prop}
def Dp(u j:Nat):List AV:=frs (fun _=>0) j++(List.replicate (u-j) [AV.int .i64 0,AV.int .i64 0]).flatten
theorem QY{u j:Nat}(h:j<=u):(Dp u j).length=u*2:=by
 have e:(List.replicate (u-j) [AV.int .i64 0,AV.int .i64 0]).flatten.length=(u-j)*2:=by simp
 unfold Dp;rw[AcO,Ar,e];omega
theorem Pt{u:Nat}:Dp u u=frs (fun _=>0) u:=by unfold Dp;simp
theorem VR{u j:Nat}(h:j<u):splice (Dp u j) (j*2) [.int .i64 0,.int .i64 1]=Dp u (j+1):=by
 have hl:=Ar (f:=fun _=>0) j;unfold splice Dp;rw[show u-j=(u-(j+1))+1 by omega,AdZ,Aez,<-hl,List.take_left,frs];rw[show(frs (fun _=>0) j).length+[AV.int .i64 0,AV.int .i64 1].length=(frs (fun _=>0) j).length+2 from rfl,List.drop_append];simp
theorem Jy{R:List Row}{O u j low:Nat}(h:R[O]?=some (.cells (Dp u j)))(hj:j<u):evE R low (.storeN 2 (.c (.ptr O (j*2))) (.c (fr 0)))=some (.tup [],R.set O (.cells (Dp u (j+1))),Ab low O):=by
 have hc:cells? R O=some (Dp u j):=by unfold cells?;rw[h]
 have hl:=QY (u:=u) (j:=j) (by omega);have e:fr 0 = .agg [.int .i64 0,.int .i64 1]:=rfl;rw[e,Ax];simp only[hc,Ac4];rw[if_pos ⟨rfl,by omega,rfl⟩,VR hj]
theorem UZ{L:List Row}{O low:Nat}(hu:u<=1000)(hG:GZ L)(hO:O<L.length)(hlO:low<=O)(hO0:O≠0)
  (hc:∀sl:List (Nat×AV),lk sl 1=x1->lk sl 5=x5->lk sl 7 = .slice O 0 u cO->Ex F C98 [.code c98s14] ⟨mk 69 sl,L.set O (.cells (frs (fun _=>0) u)),low⟩ r):
  ∀(d j:Nat),u-j=d->j<=u->Lc98l15 F C98 x1 x5 (.slice O 0 u cO) (.int .i64 u) (.int .i64 j) (L.set O (.cells (Dp u j))) low r:=by
 intro d
 induction d with
 |zero=>
  intro j hd hj;have e:j=u:=by omega
  subst e;unfold Lc98l15;simp[-uc98s14];rw[Pt];refine hc _ ?_ ?_ ?_<;>simp
 |succ d ih=>
  intro j hd hj0;have hj:j<u:=by omega
  have hwj:IntKind.i64.wrap ((j:Int)+1)=((j+1:Nat):Int):=wS (by omega);have hG':GZ (L.set O (.cells (Dp u j))):=by unfold GZ;rw[AcH hO0];exact hG
  have ld:=N2 hG';have hg:(L.set O (.cells (Dp u j)))[O]?=some (.cells (Dp u j)):=by rw[AcM hO]
  have st:=Jy (low:=low) hg hj;have hlw:Ab low O=low:=lwS (by omega);rw[Ad5,hlw]at st;have ix:=fun R:List Row=>C8 (R:=R) (id:=O) (c:=cO) hj
  have:=ih (j+1) (by omega) (by omega);unfold Lc98l15;simp[hj,ld,ix,st,hwj];simpa using this
end
def xsI(s:GS)(cols i j:Nat):Rat:=su (min i s.k) fun t=>if s.κ t=j then s.M t cols else 0
theorem Abb{s:GS}{cols j:Nat}:xsI s cols 0 j=0:=by unfold xsI;rw[Nat.zero_min];rfl
theorem AaS{s:GS}{cols n j:Nat}(h:s.k<=n):xsI s cols n j=xs s cols j:=by unfold xsI xs;rw[Nat.min_eq_right h]
theorem QV{s:GS}{cols i j:Nat}(h:s.k<=i):xsI s cols (i+1) j=xsI s cols i j:=by unfold xsI;rw[Nat.min_eq_right h,Nat.min_eq_right (by omega)]
theorem QP{s:GS}{cols i j:Nat}(h:i<s.k)(hinj:∀t,t<i->s.κ t≠s.κ i):xsI s cols (i+1) j=if j=s.κ i then s.M i cols else xsI s cols i j:=by
 unfold xsI;rw[Nat.min_eq_left (by omega),Nat.min_eq_left (by omega),su]
 by_cases e:j=s.κ i
 ·subst e
  rw[if_pos rfl,if_pos rfl,Aa (g:=fun _=>0) (fun t ht=>by rw[if_neg (hinj t ht)]),Xy];grind
 ·rw[if_neg e,if_neg (fun h=>e h.symm)]
  grind
section
variable {rows:List Row}{u n:Nat}{cO cF cL:Cap}{r:AV×List Row×Nat->Prop}
theorem XK{R:List Row}{b OUT FI LO low:Nat}{idf:Nat->Nat}{cap:Nat->Cap}{s:GS}(hn:n<=1000)(hm:MH b R LO idf cap s.M n (u+1))(hF:R[FI]?=some (.cells (Ad .i64 (fsl s n))))(hk:s.k<=n)(hki:∀a t,a<t->t<s.k->s.κ a<s.κ t)(hku:∀t,t<s.k->s.κ t<u)
  (hOF:OUT≠FI) (hOL:OUT≠LO) (hOi:∀i,i<n->OUT≠idf i) (hO:OUT<R.length) (hlO:low<=OUT)
  (hc:∀sl:List (Nat×AV),lk sl 7 = .slice OUT 0 u cO->Ex F C98 [.code c98s1] ⟨mk 69 sl,R.set OUT (.cells (frs (xs s u) u)),low⟩ r):
  ∀(d i:Nat),n-i=d->i<=n->Lc98l2 F C98 (.int .i64 u) (.slice LO 0 n cL) (.slice OUT 0 u cO) (.slice FI 0 n cF) (.int .i64 n) (.int .i64 i) (R.set OUT (.cells (frs (xsI s u i) u))) low r:=by
 intro d
 induction d with
 |zero=>
  intro i hd hi;have e:i=n:=by omega
  subst e;unfold Lc98l2;simp[-uc98s1];rw[Am (g:=xs s u) fun j _=>AaS hk];refine hc _ ?_;simp
 |succ d ih=>
  intro i hd hi0;have hi:i<n:=by omega
  have hwi:IntKind.i64.wrap ((i:Int)+1)=((i+1:Nat):Int):=wS (by omega);have hlw:Ab low OUT=low:=lwS (by omega);have ixF:=fun R:List Row=>HN (R:=R) (O:=FI) (c:=cF) hi
  have ixL:=fun R:List Row=>HN (R:=R) (O:=LO) (c:=cL) hi
  have hm':MH b (R.set OUT (.cells (frs (xsI s u i) u))) LO idf cap s.M n (u+1):=hm.oth hOL hOi;have lF:evP (R.set OUT (.cells (frs (xsI s u i) u))) (.load1 (.c (.ptr FI i)))=some (.int .i64 (if i<s.k then(s.κ i:Int)else -1)):=by
   have hr:Ae (R.set OUT (.cells (frs (xsI s u i) u))) FI=some (Ad .i64 (fsl s n)):=by unfold Ae;rw[AcH hOF,hF]
   show Af _ (Ak []) _=_;unfold Af;simp only[Ak,hr];simp[Ad,fsl,hi]
  have:=ih (i+1) (by omega) (by omega)
  by_cases hik:i<s.k
  ·have hg:(R.set OUT (.cells (frs (xsI s u i) u)))[OUT]?=some (.cells (frs (xsI s u i) u)):=by rw[AcM hO]
   have st:=CD (low:=low) (q:=s.M i u) hg (hku i hik);rw[Ad5,hlw,Am (f:=fun j'=>if j'=s.κ i then s.M i u else xsI s u i j') (g:=xsI s u (i+1)) fun j hj=>by rw[QP hik fun t ht=>by have:=hki t i ht hik;omega]]at st;have l1:=hm'.row hi;have l2:=hm'.ld hi (show u<u+1 by omega);have ixu:=fun R:List Row=>C8 (R:=R) (id:=idf i) (c:=cap i) (show u<u+1 by omega)
   have ixo:=fun R:List Row=>C8 (R:=R) (id:=OUT) (c:=cO) (hku i hik)
   rw[if_pos hik]at lF;unfold Lc98l2;simp[hi,ixF,lF,ixL,l1,l2,ixu,ixo,st,hwi];simpa using this
  ·rw[Am (f:=xsI s u (i+1)) (g:=xsI s u i) fun j _=>QV (by omega)]at this
   rw[if_neg hik]at lF;unfold Lc98l2;simp[hi,ixF,lF,hwi];simpa using this
end
section
variable {rows:List Row}{RO n u:Nat}{cR:Cap}{f:Nat->Rat}
theorem GI(hG:GZ rows)(hR:rows[RO]?=some (.cells (frs f (n*11))))(hn0:0<n)(hn:n<=1000)(hu0:0<u)(hu:u<=10)(hb:Bd (DY f u) n (u+1) u)
  (hk5:∀c a,c<u->(gjR (DY f u) n c).k<=a->a<n->(gjR (DY f u) n c).M a c≠0->(gjR (DY f u) n c).k<=5):
  Ret F 98 [.slice RO 0 n cR,.int .i64 u] rows=some (.slice rows.length 0 u (.at_ u),rows++[.cells (frs (xs (gjR (DY f u) n u) u) u)],none):=by
 refine i98 F98 ?_;have hlim:(u:Int)<=lim:=by unfold lim;omega
 simp;refine T0 (f:=f) (n:=n) (u:=u) (RO:=RO) (cR:=cR) hR hu hn hu0 (fun R v sl hT s1 s5=>?_) n 0 rows .nilslice (by omega) (by omega) ⟨Fx.refl,.inl ⟨rfl,rfl⟩⟩;obtain⟨hF,hc⟩:=hT;rcases hc with ⟨h0,_⟩|⟨_,LO,idf,rfl,hm⟩
 ·omega
 have hl0:=hF.1;have hG1:=hG.fx hF (by simp);have hLO:=(AcF.1 hm.o).1;have hI:∀i,i<n->idf i<R.length:=fun i hi=>(AcF.1 (hm.r i hi)).1
 simp[s1,s5,hlim];have hset:R++[Row.cells (List.replicate u [AV.int .i64 0,AV.int .i64 0]).flatten]=(R++[Row.cells (List.replicate u [AV.int .i64 0,AV.int .i64 0]).flatten]).set R.length (.cells (Dp u 0)):=by
  rw[AcW _ _ (AcE _)];simp[Dp,frs]
 have hset2:(R++[Row.cells (List.replicate u [AV.int .i64 0,AV.int .i64 0]).flatten]).set R.length (.cells (frs (fun _=>0) u))=R++[.cells (frs (fun _=>0) u)]:=by
  rw[AcW _ _ (AcE _)];simp
 have hGa:GZ (R++[Row.cells (List.replicate u [AV.int .i64 0,AV.int .i64 0]).flatten]):=hG1.fx (Fx.app (p:=fun _=>False) _) (by simp);have h0l:=hG1.lt;rw[hset];refine UZ (O:=R.length) (by omega) hGa (by simp) hl0 (by omega) (fun sl s1 s5 s7=>?_) u 0 (by omega) (by omega);rw[hset2];have hGb:GZ (R++[Row.cells (frs (fun _=>0) u)]):=hG1.fx (Fx.app (p:=fun _=>False) _) (by simp);have ld:=N2 hGb;obtain⟨q,hq,FI,cF,R',lo,idf',cap',rfl,hFI,hm',hpm,hF',hfx,hlo⟩:=JX (cO:=.op 1) hn (show u+1<=1000 by omega) (by omega) hb hk5 (hm.app [.cells (frs (fun _=>0) u)]);have hlow:AC rows.length lo=rows.length:=by
  cases lo with
  |none=>rfl
  |some l=>
   have:=hlo l rfl;show Ab rows.length l=rows.length;unfold Ab;rw[if_neg (by omega)]
 simp only[AC]at hlow;obtain⟨σ,hgj⟩:=EA (A:=DY f u) (n:=n) u;have hfl:=OP (s:=gjR (DY f u) n u) (n:=n);simp[s1,s5,s7,ld,hq,hlow];have hOut:R'[R.length]?=some (.cells (frs (fun _=>0) u)):=by
  rw[hfx.2 R.length (by simp) (fun hp=>by
   rcases hp with hp|⟨i,h1,h2⟩
   ·omega
   ·have:=hI i h1;omega)]
  simp
 have hOl:=(AcF.1 hOut).1;have hs0:R'=R'.set R.length (.cells (frs (xsI (gjR (DY f u) n u) u 0) u)):=by
  rw[Am (g:=fun _=>0) fun j _=>Abb];apply Adx;intro i
  by_cases e:R.length=i
  ·subst e;rw[AcM hOl,hOut]
  ·rw[AcH e]
 have hFI':R.length+1<=FI:=by simpa using hFI
 rw[hs0];refine XK (b:=rows.length) (s:=gjR (DY f u) n u) (OUT:=R.length) hn hm' hF' hgj.kn hgj.ki hgj.kc (by omega) (by omega) (fun i hi=>?_) hOl hl0 (fun sl s7=>?_) n 0 (by omega) (by omega)
 ·obtain⟨i',h1,h2⟩:=hpm i hi
  have:=hI i' h1;omega
 ·simp[s7]
  exact Fh (by rw[AcM hOl]) hl0 (Et u)
end
theorem BZ{xs:List AV}{k:Nat}(h:xs.length=k):seg xs 0 k=some xs:=by
 unfold seg;rw[if_pos (by omega),Aeg,Adq (by omega)]
theorem KU{R:List Row}{O low k:Nat}{xs vs:List AV}(h:R[O]?=some (.cells vs))(hv:vs.length=k)(hx:xs.length=k)(h1:xs.all AV.one=true):evE R low (.storeN k (.c (.ptr O 0)) (.c (.agg xs)))=some (.tup [],R.set O (.cells xs),Ab low O):=by
 have hc:cells? R O=some vs:=by unfold cells?;rw[h]
 rw[Ax];simp only[hc,Ac4];rw[if_pos ⟨hx,by omega,h1⟩];have:splice vs 0 xs=xs:=by
  unfold splice;rw[Adv (by omega)];simp
 rw[this]
theorem Ti:∀{vs:List AV},vs.all (·.ids.isEmpty)=true->AV.ids.idsL vs=[]
 |[],_=>rfl
 |
  v::vs,h=>by
  rw[AdH,Ac3]at h;rw[DJ,Ti h.2,AcV];exact List.isEmpty_iff.1 h.1
theorem RF{rows R':List Row}{vs:List AV}(h:vs.all (·.ids.isEmpty)=true):fin rows (.agg vs) R' rows.length=(.agg vs,rows,none):=Vo (by
 rw[OJ]
 exact Ti h)
section
variable {rows:List Row}{r:AV×List Row×Nat->Prop}{x0:AV}
theorem Fm{R:List Row}{n id j o:Nat}(hj:j<n):evP R (.idxA n 2 (.c (.ptr id o)) (.c (.int .i64 j)))=some (.ptr id (o+j*2)):=by
 have e:AI (j:Int) n=some j:=by rw[Bz (by omega) (by omega),Adf]
 show Af R (Ak []) _=_;unfold Af;simp only[Ak,e]
theorem Abh{L:List Row}{O low:Nat}(hG:GZ L)(hO:O<L.length)(hlO:low<=O)(hO0:O≠0)
  (hc:∀sl:List (Nat×AV),lk sl 0=x0->lk sl 1 = .ptr O 0->Ex F (.fn [.cellN 0 22]) [.code c96s1] ⟨mk 11 sl,L.set O (.cells (frs (fun _=>0) 11)),low⟩ r):
  ∀(d j:Nat),11-j=d->j<=11->Lc96l2 F (.fn [.cellN 0 22]) x0 (.ptr O 0) (.int .i64 j) (L.set O (.cells (Dp 11 j))) low r:=by
 intro d
 induction d with
 |zero=>
  intro j hd hj;have e:j=11:=by omega
  subst e;unfold Lc96l2;simp[-uc96s1];rw[Pt];refine hc _ ?_ ?_<;>simp
 |succ d ih=>
  intro j hd hj0;have hj:j<11:=by omega
  have hjZ:(j:Int)<11:=by omega
  have hwj:IntKind.i64.wrap ((j:Int)+1)=((j+1:Nat):Int):=wS (by omega);have hG':GZ (L.set O (.cells (Dp 11 j))):=by unfold GZ;rw[AcH hO0];exact hG
  have ld:=N2 hG';have hg:(L.set O (.cells (Dp 11 j)))[O]?=some (.cells (Dp 11 j)):=by rw[AcM hO]
  have st:=Jy (low:=low) hg hj;have hlw:Ab low O=low:=lwS (by omega);rw[Ad5,hlw]at st;have ix:=fun R:List Row=>Fm (R:=R) (id:=O) (o:=0) hj
  simp only[Ads]at ix;have:=ih (j+1) (by omega) (by omega);unfold Lc96l2;simp[hjZ,ld,ix,st,hwj];simpa using this
theorem Ej(hG:GZ rows):Ret F 96 [] rows=some (.agg (frs (fun _=>0) 11),rows,none):=by
 refine i96 F96 ?_;simp[-List.reduceReplicate];have hs:rows++[Row.cells (List.replicate 22 (.int .i64 0)),.cells (List.replicate 22 (.int .i64 0))]=(rows++[Row.cells (List.replicate 22 (.int .i64 0)),.cells (List.replicate 22 (.int .i64 0))]).set (rows.length+1) (.cells (Dp 11 0)):=by
  rw[AcW _ _ (by omega)];simp
  rfl
 rw[hs];refine Abh (O:=rows.length+1) (hG.fx (Fx.app (p:=fun _=>False) _) (by simp)) (by simp) (by omega) (by omega) (fun sl s0 s1=>?_) 11 0 (by omega) (by omega);rw[AcW _ _ (by omega)];simp[-List.reduceReplicate,s0,s1];have hsg:seg (frs (fun _=>0) 11) 0 22=some (frs (fun _=>0) 11):=BZ (Ar 11);have hst:=KU (R:=rows++[.cells (List.replicate 22 (.int .i64 0)),.cells (frs (fun _=>0) 11)]) (O:=rows.length) (low:=rows.length) (xs:=frs (fun _=>0) 11) (vs:=List.replicate 22 (.int .i64 0)) (k:=22) (by simp[-List.reduceReplicate]) (by simp[-List.reduceReplicate]) (Ar 11) (Ep 11);have hset:(rows++[Row.cells (List.replicate 22 (.int .i64 0)),.cells (frs (fun _=>0) 11)]).set rows.length (.cells (frs (fun _=>0) 11))=rows++[.cells (frs (fun _=>0) 11),.cells (frs (fun _=>0) 11)]:=by
  rw[AcW _ _ (AcE _)];simp
 have hlw:Ab rows.length rows.length=rows.length:=by unfold Ab;simp
 rw[hset,hlw]at hst;have hrw:Ae (rows++[.cells (frs (fun _=>0) 11),.cells (frs (fun _=>0) 11)]) rows.length=some (frs (fun _=>0) 11):=by unfold Ae;simp
 simp[-List.reduceReplicate,-Ax,hsg,hst,hrw];exact RF (Et 11)
end
abbrev C70:Ctx:=.fn [.t 4]
theorem IX{R:List Row}{β:Type}{f:Row->β}{i:Nat}{y:β}:List.drop R.length ((R.map f).set i y)=[]:=Adv (by simp)
def zr(z:Nat->Int):Nat->Rat:=fun j=>(z j:Rat)
theorem LD{a:Int}:sc (a:Rat) 1=a:=by
 unfold sc;rw[Ad9,AdN];simp
theorem Lb{rows:List Row}{a b:Int}(h:a.natAbs+b.natAbs<=MX):Ret F 97 [fr (a:Rat),fr (b:Rat)] rows=some (fr ((a+b:Int):Rat),rows,none):=by
 rw[AdY];exact Ip (L:=1) (by rw[AdN];exact Nat.dvd_refl 1) (by rw[AdN];exact Nat.dvd_refl 1) (by omega) (by unfold MX;omega) (by rw[LD,LD];exact h)
theorem Pd{rows:List Row}{a b:Int}(h:a.natAbs+b.natAbs<=MX):Ret F 95 [fr (a:Rat),fr (b:Rat)] rows=some (fr ((a-b:Int):Rat),rows,none):=by
 rw[Rat.intCast_sub];refine Fa (L:=1) (by rw[AdN];exact Nat.dvd_refl 1) (by rw[AdN];exact Nat.dvd_refl 1) (by omega) (by unfold MX;omega) (by rw[LD,LD];exact h) ⟨?_,?_⟩
 ·rw[Ad9];omega
 ·rw[AdN];unfold MX;omega
def dd(k x:Nat):Int:=if x=k%6 then 1 else if x=k/6 then -1 else 0
theorem Ri{k x:Nat}:(dd k x).natAbs<=1:=by
 unfold dd
 split
 ·simp
 ·split<;>simp
def zL(ks:List Nat)(v:Nat):Nat->Nat->Int
 |0,_=>0
 |i+1,j=>zL ks v i j+dd (gN ks i) v*dd (gN ks i) j
theorem Xg{ks:List Nat}{v j:Nat}:∀i,(zL ks v i j).natAbs<=i
 |0=>by simp[zL]
 |
  i+1=>by
  have:=Xg (ks:=ks) (v:=v) (j:=j) i;have h1:=Ri (k:=gN ks i) (x:=v);have h2:=Ri (k:=gN ks i) (x:=j);have h3:(dd (gN ks i) v*dd (gN ks i) j).natAbs<=1:=by rw[Ac6];exact Ac1 h1 h2
  rw[zL];omega
section
variable {R:List Row}{low O E v u kk:Nat}{a0 a1:Int}{z:Nat->Int}{x2 x5 x6 x25 x26 x31 x32 x33:AV}{r:AV×List Row×Nat->Prop}
def bmp(z:Nat->Int)(v u:Nat):Nat->Int:=fun j=>if j=u then z u-1 else if j=v then z v+1 else z j
theorem Oe(hO:R[O]?=some (.cells (frs (zr z) 11)))(hE:Ae R E=some [.int .i64 a0,.int .i64 a1])(hOE:O≠E)(hv:v<6)(hu:u<6)(huv:u≠v)(hkk:kk<2)(hlow:low<=O)(hz:∀j,(z j).natAbs<=1000)
  (h1:(if kk=0 then a0 else a1)=v) (h2:(if kk=0 then a1 else a0)=u)
  (hn:Lc70l41 F C70 x2 x5 x6 (.int .i64 v) (.ptr O 0) (.ptr E 0) x25 x26 x31 x32 x33 (.int .i64 (kk+1:Nat)) (R.set O (.cells (frs (zr (bmp z v u)) 11))) low r):
  Lc70l41 F C70 x2 x5 x6 (.int .i64 v) (.ptr O 0) (.ptr E 0) x25 x26 x31 x32 x33 (.int .i64 kk) R low r:=by
 have hOl:=(AcF.1 hO).1;have hwk:IntKind.i64.wrap ((kk:Int)+1)=((kk+1:Nat):Int):=wS (by omega);have hw2:IntKind.i64.wrap (1-(kk:Int))=((1-kk:Nat):Int):=by rw[AM (by omega) (by omega)];omega
 have hlw:Ab low O=low:=lwS (by omega);have r63:=fun R':List Row=>BM (rows:=R') (n:=1)
 have ixv:=fun R':List Row=>Fm (R:=R') (id:=O) (o:=0) (show v<11 by omega)
 have ixu:=fun R':List Row=>Fm (R:=R') (id:=O) (o:=0) (show u<11 by omega)
 simp only[Ads]at ixv ixu;have ldv:=CJ hO (show v<11 by omega);have stv:=CD (low:=low) (q:=((z v+1:Int):Rat)) hO (show v<11 by omega);have hO1:(R.set O (.cells (frs (fun j'=>if j'=v then((z v+1:Int):Rat)else zr z j') 11)))[O]?=some (.cells (frs (fun j'=>if j'=v then((z v+1:Int):Rat)else zr z j') 11)):=by rw[AcM hOl]
 have ldu:=CJ hO1 (show u<11 by omega);have stu:=CD (low:=low) (q:=((z u-1:Int):Rat)) hO1 (show u<11 by omega);rw[Ad5,hlw]at stu;rw[hlw]at stv;rw[if_neg huv]at ldu;have p1:=fun R':List Row=>Lb (rows:=R') (a:=z v) (b:=1) (by have:=hz v;unfold MX;simp;omega)
 have p2:=fun R':List Row=>Pd (rows:=R') (a:=z u) (b:=1) (by have:=hz u;unfold MX;simp;omega)
 have hset:frs (fun j'=>if j'=u then((z u-1:Int):Rat)else if j'=v then((z v+1:Int):Rat)else zr z j') 11=frs (zr (bmp z v u)) 11:=Am fun j _=>by
  unfold zr bmp
  split
  ·rfl
  ·split<;>rfl
 rw[hset]at stu;have hE1:∀X,Ae (R.set O X) E=some [.int .i64 a0,.int .i64 a1]:=fun X=>by
  unfold Ae at hE ⊢;rw[AcH hOE];exact hE
 have e1:∀z:Int,fr ((z:Int):Rat)=fr ((z:Int):Rat):=fun _=>rfl
 have hone:fr ((1:Int):Rat)=fr 1:=rfl;rw[hone]at r63;simp only[hone]at p1 p2;have hzv:zr z v=((z v:Int):Rat):=rfl;have hzu:zr z u=((z u:Int):Rat):=rfl;rw[hzv]at ldv;rw[hzu]at ldu;have hk:kk=0\/kk=1:=by omega
 have i0:AI 0 2=some 0:=rfl;have i1:AI 1 2=some 1:=rfl;have w0:IntKind.i64.wrap 0=0:=rfl;have w1:IntKind.i64.wrap 1=1:=rfl;have w2:IntKind.i64.wrap 2=2:=rfl;rcases hk with rfl|rfl
 ·simp only[if_pos]at h1 h2
  subst h1;subst h2;unfold Lc70l41;simp[-Rat.intCast_add,-Rat.intCast_sub,hE,hE1,i0,i1,w0,w1,w2,r63,ixv,ixu,ldv,ldu,stv,stu,p1,p2,opC,Aw,Ba,IX];simpa using hn
 ·simp only[if_neg (show ¬(1=0)by omega)]at h1 h2
  subst h1;subst h2;unfold Lc70l41;simp[-Rat.intCast_add,-Rat.intCast_sub,hE,hE1,i0,i1,w0,w1,w2,r63,ixv,ixu,ldv,ldu,stv,stu,p1,p2,opC,Aw,Ba,IX];simpa using hn
theorem EP(hE:Ae R E=some [.int .i64 a0,.int .i64 a1])(hkk:kk<2)(h1:(if kk=0 then a0 else a1)≠v)
  (hn:Lc70l41 F C70 x2 x5 x6 (.int .i64 v) (.ptr O 0) (.ptr E 0) x25 x26 x31 x32 x33 (.int .i64 (kk+1:Nat)) R low r):
  Lc70l41 F C70 x2 x5 x6 (.int .i64 v) (.ptr O 0) (.ptr E 0) x25 x26 x31 x32 x33 (.int .i64 kk) R low r:=by
 have hwk:IntKind.i64.wrap ((kk:Int)+1)=((kk+1:Nat):Int):=wS (by omega);have hk:kk=0\/kk=1:=by omega
 have i0:AI 0 2=some 0:=rfl;have i1:AI 1 2=some 1:=rfl;have w0:IntKind.i64.wrap 0=0:=rfl;have w1:IntKind.i64.wrap 1=1:=rfl;have w2:IntKind.i64.wrap 2=2:=rfl;rcases hk with rfl|rfl
 ·simp only[if_pos]at h1
  unfold Lc70l41;simp[hE,i0,i1,w1,w2,h1];simpa using hn
 ·simp only[if_neg (show ¬(1=0)by omega)]at h1
  unfold Lc70l41;simp[hE,i0,i1,w1,w2,h1];simpa using hn
end
theorem Z5{z:Nat->Int}{k:Nat}(h:k/6<k%6):bmp z (k/6) (k%6)=fun j=>z j+dd k (k/6)*dd k j:=by
 funext j;unfold bmp dd;rw[if_neg (show ¬k/6=k%6 by omega),if_pos rfl]
 by_cases e1:j=k%6
 ·rw[if_pos e1,if_pos e1,e1];omega
 ·rw[if_neg e1,if_neg e1]
  by_cases e2:j=k/6
  ·rw[if_pos e2,if_pos e2,e2];omega
  ·rw[if_neg e2,if_neg e2];omega
theorem Aak{z:Nat->Int}{k:Nat}(h:k/6<k%6):bmp z (k%6) (k/6)=fun j=>z j+dd k (k%6)*dd k j:=by
 funext j;unfold bmp dd;rw[if_pos rfl]
 by_cases e1:j=k%6
 ·rw[if_neg (show ¬j=k/6 by omega),if_pos e1,if_pos e1,e1];omega
 ·rw[if_neg e1,if_neg e1]
  by_cases e2:j=k/6
  ·rw[if_pos e2,if_pos e2,e2];omega
  ·rw[if_neg e2,if_neg e2];omega
theorem Abl{z:Nat->Int}{k v:Nat}(h1:v≠k/6)(h2:v≠k%6):(fun j=>z j+dd k v*dd k j)=z:=by
 funext j;have:dd k v=0:=by unfold dd;rw[if_neg h2,if_neg h1]
 rw[this];omega
section
variable {B:List Row}{N low v:Nat}{ks ps:List Nat}{ev x2 x5 x6 x25 x26:AV}{r:AV×List Row×Nat->Prop}
theorem V0(hok:GOK N ks ps)(hv:v<N)(he:El B 2 ev (Ad .i64 (eC ks)) ks.length)(hlow:low<=B.length)
  (hc:∀(R:List Row) (sl:List (Nat×AV)),Fx B R (fun _=>False)->R[B.length]?=some (.cells (frs (zr (zL ks v ks.length)) 11))->lk sl 2=x2->lk sl 5=x5->lk sl 6=x6->lk sl 8 = .int .i64 v->lk sl 9 = .ptr B.length 0->lk sl 25=x25->lk sl 26=x26->
   Ex F C70 [.code c70s38,.inBlock 1,.code c70k35,.inLoop c70l34,.inBlock 0,.code c70s33] ⟨mk 119 sl,R,low⟩ r):
  ∀(d i:Nat) (R:List Row),ks.length-i=d->i<=ks.length->Fx B R (fun _=>False)->R[B.length]?=some (.cells (frs (zr (zL ks v i)) 11))->
   Lc70l39 F C70 x2 x5 x6 (.int .i64 v) (.ptr B.length 0) x25 x26 ev (.int .i64 ks.length) (.int .i64 i) R low r:=by
 have n6:=hok.n6;have hek:=hok.ek;intro d
 induction d with
 |zero=>
  intro i R hd hi hF hO;have e:i=ks.length:=by omega
  subst e;unfold Lc70l39;simp[-uc70s38];refine hc R _ hF hO ?_ ?_ ?_ ?_ ?_ ?_ ?_<;>simp
 |succ d ih=>
  intro i R hd hi0 hF hO;have hi:i<ks.length:=by omega
  have hww:IntKind.i64.wrap ((i:Int)+1)=((i+1:Nat):Int):=wS (by omega);obtain⟨e1,e2⟩:=KI hi;have hee:=hok.ee _ (AH hi);have hS:Sm B.length B.length B R:=⟨hF.1,fun id h1 _=>hF.2 id h1 (by simp)⟩
  have he':El R 2 ev (Ad .i64 (eC ks)) ks.length:=Cd hS he (by rcases BA he with e|e;exact .inl e;exact .inr ⟨e,by omega⟩);have hOl:=(AcF.1 hO).1;have hlw:Ab low R.length=low:=lwS (by omega);have hlb:Ab low B.length=low:=lwS (by omega);have ix:=B7 he' hi;have ld:=P3 he' hi;rw[e1,e2]at ld;generalize hk:gN ks i=k at *;have hz:∀j,(zL ks v i j).natAbs<=1000:=fun j=>by have:=Xg (ks:=ks) (v:=v) (j:=j) i;omega
  have hfin:∀Z:Nat->Int,Z=zL ks v (i+1)->Lc70l41 F C70 x2 x5 x6 (.int .i64 v) (.ptr B.length 0) (.ptr R.length 0) x25 x26 ev (.int .i64 ks.length) (.int .i64 i) (.int .i64 (2:Nat)) ((R++[Row.cells [.int .i64 (k/6:Nat),.int .i64 (k%6:Nat)]]).set B.length (Row.cells (frs (zr Z) 11))) low r:=by
   intro Z hZ;subst hZ
   have:=ih (i+1) ((R++[Row.cells [.int .i64 (k/6:Nat),.int .i64 (k%6:Nat)]]).set B.length (Row.cells (frs (zr (zL ks v (i+1))) 11))) (by omega) (by omega) ⟨by simp;omega,fun id h1 _=>by
    rw[AcH (by omega),AcD (by omega)]
    exact hF.2 id h1 (by simp)⟩ (by rw[AcM (by simp;omega)])
   unfold Lc70l41;simp[hww];simpa using this
  have hOa:(R++[Row.cells [.int .i64 (k/6:Nat),.int .i64 (k%6:Nat)]])[B.length]?=some (.cells (frs (zr (zL ks v i)) 11)):=by rw[AcD hOl];exact hO
  have hEa:Ae (R++[Row.cells [.int .i64 (k/6:Nat),.int .i64 (k%6:Nat)]]) R.length=some [.int .i64 (k/6:Nat),.int .i64 (k%6:Nat)]:=by unfold Ae;simp
  have hsame:(R++[Row.cells [.int .i64 (k/6:Nat),.int .i64 (k%6:Nat)]])=(R++[Row.cells [.int .i64 (k/6:Nat),.int .i64 (k%6:Nat)]]).set B.length (Row.cells (frs (zr (zL ks v i)) 11)):=by
   apply Adx;intro j
   by_cases e:B.length=j
   ·subst e;rw[AcM (by simp;omega),hOa]
   ·rw[AcH e]
  have hEs:∀X,Ae ((R++[Row.cells [.int .i64 (k/6:Nat),.int .i64 (k%6:Nat)]]).set B.length X) R.length=some [.int .i64 (k/6:Nat),.int .i64 (k%6:Nat)]:=fun X=>by
   unfold Ae at hEa ⊢;rw[AcH (by omega)];exact hEa
  have hzL:∀Z:Nat->Int,Z=(fun j=>zL ks v i j+dd k v*dd k j)->Z=zL ks v (i+1):=fun Z hZ=>by
   rw[hZ];funext j;rw[zL,hk]
  have key:Lc70l41 F C70 x2 x5 x6 (.int .i64 v) (.ptr B.length 0) (.ptr R.length 0) x25 x26 ev (.int .i64 ks.length) (.int .i64 i) (.int .i64 (0:Nat)) (R++[Row.cells [.int .i64 (k/6:Nat),.int .i64 (k%6:Nat)]]) low r:=by
   by_cases c1:v=k/6
   ·refine Oe (u:=k%6) hOa hEa (by omega) (by omega) (by omega) (by omega) (by omega) hlow hz (by rw[if_pos rfl,c1]) (by rw[if_pos rfl]) ?_
    refine EP (hEs _) (by omega) (by rw[if_neg (by omega)];omega) ?_;exact hfin _ (hzL _ (by rw[c1];exact Z5 hee.1))
   ·by_cases c2:v=k%6
    ·refine EP hEa (by omega) (by rw[if_pos rfl];omega) ?_
     refine Oe (u:=k/6) hOa hEa (by omega) (by omega) (by omega) (by omega) (by omega) hlow hz (by rw[if_neg (by omega),c2]) (by rw[if_neg (by omega)]) ?_;exact hfin _ (hzL _ (by rw[c2];exact Aak hee.1))
    ·refine EP hEa (by omega) (by rw[if_pos rfl];omega) ?_
     refine EP hEa (by omega) (by rw[if_neg (by omega)];omega) ?_;rw[hsame];exact hfin _ (hzL _ (Abl c1 c2).symm)
  unfold Lc70l39;simp[hi,ix,ld,AV.cells,splice,hlw];simpa using key
end
def tf(T:Nat->Nat->Rat):Nat->Rat:=fun j=>T (j/11) (j%11)
theorem OA{f:Nat->Rat}{a:Nat}:∀b,frs f (a+b)=frs f a++frs (fun j=>f (a+j)) b
 |0=>by simp[frs]
 |
  b+1=>by
  show frs f (a+b)++[.int .i64 (f (a+b)).num,.int .i64 ((f (a+b)).den:Int)]=frs f a++(frs (fun j=>f (a+j)) b++[.int .i64 (f (a+b)).num,.int .i64 ((f (a+b)).den:Int)])
  rw[OA b,AcL]
theorem Ho{T:Nat->Nat->Rat}{n:Nat}:frs (tf T) (n*11)++frs (T n) 11=frs (tf T) ((n+1)*11):=by
 rw[AeB,OA];congr 1;exact Am fun j hj=>by
  show T n j=T ((n*11+j)/11) ((n*11+j)%11);rw[show(n*11+j)/11=n by omega,show(n*11+j)%11=j by omega]
theorem Nr{B L R:List Row}{sz n:Nat}{c:Cap}{v:AV}{cs:List AV}(h:Acc B L sz c v cs n)(hF:Fx (B++L) R (fun _=>False)):∃L',R=B++L'/\Acc B L' sz c v cs n:=by
 have hB:∃L',R=B++L':=by
  refine⟨R.drop B.length,?_⟩;have:R.take B.length=B:=by
   apply Adx;intro i
   by_cases c:i<B.length
   ·have:=hF.2 i (by simp;omega) (by simp)
    rw[AcZ c,this,AcD c]
   ·rw[Ac0 (by simp;omega),Ac0 (by omega)]
  conv=>lhs;rw[<-List.take_append_drop B.length R,this]
 obtain⟨L',rfl⟩:=hB;obtain⟨h1,h2⟩:=h;refine⟨L',rfl,h1,?_⟩;rcases h2 with h2|⟨k,hv,hk⟩
 ·exact .inl h2
 ·have hkl:=(AcF.1 hk).1
  refine .inr ⟨k,hv,?_⟩;have:=hF.2 (B.length+k) (by simp;omega) (by simp);rw[AcG (by omega),AcG (by omega),AcS]at this;rw[this,hk]
theorem HO{f:Nat->Rat}:Ap (Ak []) [(0,22,Opd.c (.agg (frs f 11)))] (List.replicate 22 (.int .i64 0))=some (frs f 11):=by
 have h1:=Ar (f:=f) 11;have h2:=Ep (f:=f) 11;show(if(frs f 11).length=22/\0+22<=(List.replicate 22 (AV.int .i64 0)).length/\(frs f 11).all AV.one=true then Ap (Ak []) [] (splice (List.replicate 22 (.int .i64 0)) 0 (frs f 11))else none)=_;rw[if_pos ⟨h1,by simp,h2⟩];show some (splice _ 0 _)=_;unfold splice;rw[Adv (by simp;omega)];simp
def gT(ks:List Nat)(gl:List Int)(i j:Nat):Rat:=if j=10 then((gI gl i:Int):Rat)else((zL ks i ks.length j:Int):Rat)
section
variable {B:List Row}{N low:Nat}{ks ps:List Nat}{ev n0 pv x6:AV}{G:Nat}{gl:List Int}{r:AV×List Row×Nat->Prop}
theorem Uy(hGZ:GZ B)(hok:GOK N ks ps)(he:El B 2 ev (Ad .i64 (eC ks)) ks.length)(hlow:low<=B.length)(hG:Ae B G=some [.int .i64 N,ev,pv])(hgl:IsL B x6 gl)(hgn:gl.length=N)
  (hc:∀(L:List Row) (v:AV) (sl:List (Nat×AV)),Acc B L 22 (.op 22) v (frs (tf (gT ks gl)) (N*11)) N->lk sl 2 = .ptr G 0->lk sl 5=v->Ex F C70 [.code c70s33] ⟨mk 119 sl,B++L,low⟩ r):
  ∀(d i:Nat) (L:List Row) (v:AV),N-i=d->i<=N->Acc B L 22 (.op 22) v (frs (tf (gT ks gl)) (i*11)) i->
   Lc70l34 F C70 (.ptr G 0) v x6 (.int .i64 N) (.int .i64 i) (B++L) low r:=by
 have n6:=hok.n6;have hek:=hok.ek;intro d
 induction d with
 |zero=>
  intro i L v hd hi hA;have e:i=N:=by omega
  subst e;unfold Lc70l34;simp[-uc70s33];refine hc L v _ hA ?_ ?_<;>simp
 |succ d ih=>
  intro i L v hd hi0 hA;have hi:i<N:=by omega
  have hww:IntKind.i64.wrap ((i:Int)+1)=((i+1:Nat):Int):=wS (by omega);have hFx:Fx B (B++L) (fun _=>False):=Fx.app L;have hZ:GZ (B++L):=hGZ.fx hFx (by simp);have h96:=Ej hZ;have he':=Ag he L;have hG':=Ah hG (L++[.cells (frs (fun _=>0) 11)]);have A9:=An he;have hlw:Ab low (B++L).length=low:=by unfold Ab;rw[if_neg (by simp;omega)]
  have hsg:seg (frs (fun _=>0) 11) 0 22=some (frs (fun _=>0) 11):=BZ (Ar 11);have hst:=KU (R:=B++L++[.cells (List.replicate 22 (.int .i64 0))]) (O:=(B++L).length) (low:=low) (xs:=frs (fun _=>0) 11) (vs:=List.replicate 22 (.int .i64 0)) (k:=22) (by simp[-List.reduceReplicate]) (by simp) (Ar 11) (Ep 11);have ln:=AF (Ag he (L++[.cells (frs (fun _=>0) 11)]))
  have h39:=V0 (B:=B++L) (N:=N) (low:=low) (v:=i) (ks:=ks) (ps:=ps) (ev:=ev) (x2:=.ptr G 0) (x5:=v) (x6:=x6) (x25:=.int .i64 N) (x26:=.int .i64 i) (r:=r) hok hi he' (by simp;omega) (fun R sl hF hO s2 s5 s6 s8 s9 s25 s26=>by
   have hOl:=(AcF.1 hO).1;have hS:Sm B.length B.length B R:=⟨(hFx.trans hF).1,fun id h1 _=>(hFx.trans hF).2 id h1 (by simp)⟩
   have hgl':IsL R x6 gl:=Cd hS hgl (by rcases BA hgl with e|e;exact .inl e;exact .inr ⟨e,by omega⟩);have ix:=B7 hgl' (i:=i) (by omega);have ld:=F0 hgl' (j:=i) (by omega);rw[Add]at ix;have r63:=fun R':List Row=>BM (rows:=R') (n:=gI gl i)
   have ixt:=fun R':List Row=>Fm (R:=R') (id:=(B++L).length) (o:=0) (show 10<11 by omega)
   have st:=CD (low:=low) (q:=((gI gl i:Int):Rat)) hO (show 10<11 by omega);have hOe:(B++L).length=B.length+L.length:=by simp
   have i10:AI 10 11=some 10:=rfl;have hlw2:Ab low (B.length+L.length)=low:=lwS (by omega);rw[hOe,hlw2]at st;rw[hOe]at hOl;have hrow:frs (fun j'=>if j'=10 then((gI gl i:Int):Rat)else zr (zL ks i ks.length) j') 11=frs (gT ks gl i) 11:=Am fun j _=>rfl
   rw[hrow]at st
   have hR':Fx (B++L) (R.set (B.length+L.length) (.cells (frs (gT ks gl i) 11))) (fun _=>False):=⟨by rw[Adh];exact hF.1,fun id h1 _=>by
    rw[hOe]at h1;rw[AcH (by omega)]
    exact hF.2 id (by omega) (by simp)⟩
   obtain⟨L',hL',hA'⟩:=Nr hA hR';have hr':Ae (B++L') (B.length+L.length)=some (frs (gT ks gl i) 11):=by
    rw[<-hL'];unfold Ae;rw[AcM hOl]
   have hsg':seg (frs (gT ks gl i) 11) 0 22=some (frs (gT ks gl i) 11):=BZ (Ar 11);obtain⟨v',L'',happ,hA2,_⟩:=BQ (low:=low) (b:=176) hA' (Ar 11) (by omega) (by omega) hlow;rw[Ho]at hA2;have:=ih (i+1) L'' v' (by omega) (by omega) hA2;rw[hL']at st;simp[-List.reduceReplicate,s2,s5,s6,s8,s9,s25,s26,ix,ld,r63,ixt,i10,st,hr',hsg',HO,happ,hww]
   simpa using this) ks.length 0 (B++L++[.cells (frs (fun _=>0) 11)]) (by omega) (by omega) (Fx.app _) (by rw[AcG (AcE _),Ac8];exact congrArg (fun l=>some (Row.cells l)) (Am fun j _=>rfl))
  have hset:(B++L++[Row.cells (List.replicate 22 (.int .i64 0))]).set (B++L).length (.cells (frs (fun _=>0) 11))=B++L++[.cells (frs (fun _=>0) 11)]:=by
   rw[AcW _ _ (AcE _),Ac8]
   rfl
  rw[hset,hlw]at hst;have hg1:Ae (B++(L++[Row.cells (frs (fun _=>0) 11)])) G=some [.int .i64 N,ev,pv]:=hG';simp only[AcL,AcO]at hst hlw;unfold Lc70l34;simp[-List.reduceReplicate,-Ax,hi,h96,hlw,hst,hg1,ln];simpa using h39
end
def Db(f:Nat->Nat)(i m:Nat):Nat->Rat:=fun j=>if j<m/\f j=i then 1 else 0
section
variable {R0:List Row}{N low P i:Nat}{f:Nat->Nat}{x2 x5 x86 x87:AV}{r:AV×List Row×Nat->Prop}
theorem Xo(n6:N<=6)(hi:i<6)(hf:∀R,Fx R0 R (fun _=>False)->∀v,v<N->Ret F 100 [.int .i64 v,.ptr P 0] R=some (.int .i64 (f v),R,none))(hlow:low<=R0.length)
  (hc:∀(R:List Row) (sl:List (Nat×AV)),Fx R0 R (fun _=>False)->R[R0.length]?=some (.cells (frs (Db f i N) 11))->lk sl 2=x2->lk sl 5=x5->lk sl 14 = .func 100 [.ptr P 0]->lk sl 16 = .ptr R0.length 0->lk sl 86=x86->lk sl 87=x87->
   Ex F C70 [.code c70k4,.inBlock 7,.code c70k3,.inLoop c70l2,.inBlock 6,.code c70s1] ⟨mk 119 sl,R,low⟩ r):
  ∀(d m:Nat) (R:List Row),N-m=d->m<=N->Fx R0 R (fun _=>False)->R[R0.length]?=some (.cells (frs (Db f i m) 11))->
   Lc70l5 F C70 x2 x5 (.func 100 [.ptr P 0]) (.int .i64 i) (.ptr R0.length 0) x86 x87 (.int .i64 N) (.int .i64 m) R low r:=by
 intro d
 induction d with
 |zero=>
  intro m R hd hm hF hO;have e:m=N:=by omega
  subst e;unfold Lc70l5;simp[-uc70k4];refine hc R _ hF hO ?_ ?_ ?_ ?_ ?_ ?_<;>simp
 |succ d ih=>
  intro m R hd hm0 hF hO;have hm:m<N:=by omega
  have hww:IntKind.i64.wrap ((m:Int)+1)=((m+1:Nat):Int):=wS (by omega);have hOl:=(AcF.1 hO).1;have h100:=hf R hF m hm;have hlw:Ab low R0.length=low:=lwS (by omega)
  by_cases c:f m=i
  ·have r63:=fun R':List Row=>BM (rows:=R') (n:=1)
   have ixt:=fun R':List Row=>Fm (R:=R') (id:=R0.length) (o:=0) (show m<11 by omega)
   simp only[Ads]at ixt;have st:=CD (low:=low) (q:=((1:Int):Rat)) hO (show m<11 by omega);rw[hlw]at st;have hrow:frs (fun j'=>if j'=m then((1:Int):Rat)else Db f i m j') 11=frs (Db f i (m+1)) 11:=Am fun j _=>by
    unfold Db
    by_cases e:j=m
    ·rw[if_pos e,if_pos ⟨by omega,by rw[e];exact c⟩];rfl
    ·rw[if_neg e]
     by_cases e2:j<m/\f j=i
     ·rw[if_pos e2,if_pos ⟨by omega,e2.2⟩]
     ·rw[if_neg e2,if_neg fun h=>e2 ⟨by omega,h.2⟩]
   rw[hrow]at st;have hone:fr ((1:Int):Rat)=fr 1:=rfl;rw[hone]at st r63;have:=ih (m+1) (R.set R0.length (.cells (frs (Db f i (m+1)) 11))) (by omega) (by omega) ⟨by rw[Adh];exact hF.1,fun id h1 h2=>by rw[AcH (by omega)];exact hF.2 id h1 h2⟩ (by rw[AcM hOl]);unfold Lc70l5;simp[hm,Bp,h100,c,r63,ixt,st,hww];simpa using this
  ·have hrow:frs (Db f i m) 11=frs (Db f i (m+1)) 11:=Am fun j _=>by
    unfold Db
    by_cases e2:j<m/\f j=i
    ·rw[if_pos e2,if_pos ⟨by omega,e2.2⟩]
    ·rw[if_neg e2,if_neg fun h=>e2 ⟨by
      have:j≠m:=fun e=>c (by rw[<-e];exact h.2)
      omega,h.2⟩]
   rw[hrow]at hO;have:=ih (m+1) R (by omega) (by omega) hF hO;have hce:¬((f m:Int)=i):=by omega
   unfold Lc70l5;simp[hm,Bp,h100,c,hce,hww];simpa using this
def rts(f:Nat->Nat)(n:Nat):List Nat:=(List.range n).filter fun v=>f v==v
theorem EW{f:Nat->Nat}{n:Nat}:rts f (n+1)=rts f n++if f n=n then[n]else[]:=by
 unfold rts;rw[Aeo,Aei];congr 1
 by_cases c:f n=n
 ·rw[if_pos c];simp[c]
 ·rw[if_neg c];simp[c]
theorem Ns{f:Nat->Nat}{n:Nat}:∀d,∃l,rts f (n+d)=rts f n++l
 |0=>⟨[],by simp⟩
 |
  d+1=>by
  obtain⟨l,h⟩:=Ns (f:=f) (n:=n) d;exact⟨l++if f (n+d)=n+d then[n+d]else[],by rw[<-Nat.add_assoc,EW,h,AcL]⟩
theorem SZ{f:Nat->Nat}{N i:Nat}(hi:i<N)(h:f i=i):(rts f N)[(rts f i).length]?=some i:=by
 obtain⟨l,e⟩:=Ns (f:=f) (n:=i+1) (N-(i+1));rw[show i+1+(N-(i+1))=N by omega,EW,if_pos h]at e;rw[e];simp
def bT(ks:List Nat)(gl:List Int)(N:Nat)(f:Nat->Nat)(i j:Nat):Rat:=if i<N then gT ks gl i j else Db f ((rts f N)[i-N]?.getD 7) N j
end
section
variable {B:List Row}{N low P W G:Nat}{ks:List Nat}{gl D:List Int}{f:Nat->Nat}{ev pv:AV}{r:AV×List Row×Nat->Prop}
theorem Xm{c i:Nat}(hi:i<N)(h:f i=i)(hcn:c=(rts f i).length):frs (Db f i N) 11=frs (bT ks gl N f (N+c)) 11:=Am fun j _=>by
 unfold bT;rw[if_neg (by omega),show N+c-N=c by omega,hcn,SZ hi h]
 rfl
theorem Sj{n:Nat}:(rts f n).length<=n:=by
 unfold rts;exact AcP (List.length_filter_le _ _) (by simp)
theorem YM(hGZ:GZ B)(n1:1<=N)(n6:N<=6)(hlow:low<=B.length)(hG:Ae B G=some [.int .i64 N,ev,pv])
  (hf:∀R,Ae R W=some (Ad .i64 D)->Ae R P=some [.ptr W 0]->∀v,v<N->Ret F 100 [.int .i64 v,.ptr P 0] R=some (.int .i64 (f v),R,none))
  (hc:∀(L:List Row) (v:AV) (sl:List (Nat×AV)),Acc B L 22 (.op 22) v (frs (tf (bT ks gl N f)) ((N+(rts f N).length)*11)) (N+(rts f N).length)->lk sl 2 = .ptr G 0->lk sl 5=v->Ex F C70 [.code c70s1] ⟨mk 119 sl,B++L,low⟩ r):
  ∀(d i:Nat) (L:List Row) (v:AV),N-i=d->i<=N->Acc B L 22 (.op 22) v (frs (tf (bT ks gl N f)) ((N+(rts f i).length)*11)) (N+(rts f i).length)->Ae (B++L) W=some (Ad .i64 D)->Ae (B++L) P=some [.ptr W 0]->W≠sid v->P≠sid v->
   Lc70l2 F C70 (.ptr G 0) v (.func 100 [.ptr P 0]) (.int .i64 N) (.int .i64 i) (B++L) low r:=by
 intro d
 induction d with
 |zero=>
  intro i L v hd hi hA hW hP hWv hPv;have e:i=N:=by omega
  subst e;unfold Lc70l2;simp[-uc70s1];refine hc L v _ hA ?_ ?_<;>simp
 |succ d ih=>
  intro i L v hd hi0 hA hW hP hWv hPv;have hi:i<N:=by omega
  have hww:IntKind.i64.wrap ((i:Int)+1)=((i+1:Nat):Int):=wS (by omega);have h100:=hf _ hW hP i hi
  by_cases c:f i=i
  ·have hFx:Fx B (B++L) (fun _=>False):=Fx.app L
   have hZ:GZ (B++L):=hGZ.fx hFx (by simp);have h96:=Ej hZ;have hlw:Ab low (B++L).length=low:=by unfold Ab;rw[if_neg (by simp;omega)]
   have hsg:seg (frs (fun _=>0) 11) 0 22=some (frs (fun _=>0) 11):=BZ (Ar 11);have hst:=KU (R:=B++L++[.cells (List.replicate 22 (.int .i64 0))]) (O:=(B++L).length) (low:=low) (xs:=frs (fun _=>0) 11) (vs:=List.replicate 22 (.int .i64 0)) (k:=22) (by simp[-List.reduceReplicate]) (by simp) (Ar 11) (Ep 11);have hset:(B++L++[Row.cells (List.replicate 22 (.int .i64 0))]).set (B++L).length (.cells (frs (fun _=>0) 11))=B++L++[.cells (frs (fun _=>0) 11)]:=by
    rw[AcW _ _ (AcE _),Ac8]
    rfl
   rw[hset,hlw]at hst;have hg1:Ae (B++(L++[Row.cells (frs (fun _=>0) 11)])) G=some [.int .i64 N,ev,pv]:=Ah hG _;have hfx:∀R,Fx (B++L) R (fun _=>False)->∀v,v<N->Ret F 100 [.int .i64 v,.ptr P 0] R=some (.int .i64 (f v),R,none):=fun R hF=>by
    have keep:∀id vs,Ae (B++L) id=some vs->Ae R id=some vs:=fun id vs h=>by
     have hl:id<(B++L).length:=by
      unfold Ae at h;rcases Adc id (B++L).length with c|c
      ·exact c
      ·rw[Ac0 c]at h;simp at h
     unfold Ae at h ⊢;rw[hF.2 id hl (by simp)];exact h
    exact hf R (keep _ _ hW) (keep _ _ hP)
   have h5:=Xo (R0:=B++L) (N:=N) (low:=low) (P:=P) (i:=i) (f:=f) (x2:=.ptr G 0) (x5:=v) (x86:=.int .i64 N) (x87:=.int .i64 i) (r:=r) n6 (by omega) hfx (by simp;omega) (fun R sl hF hO s2 s5 s14 s16 s86 s87=>by
    have hOe:(B++L).length=B.length+L.length:=by simp
    rw[hOe]at hO s16;obtain⟨L',hL',hA'⟩:=Nr hA hF;subst hL';have hr':Ae (B++L') (B.length+L.length)=some (frs (Db f i N) 11):=by
     unfold Ae;rw[hO]
    have hsg':seg (frs (Db f i N) 11) 0 22=some (frs (Db f i N) 11):=BZ (Ar 11);have hrl:=Sj (f:=f) (n:=i);obtain⟨v',L'',happ,hA2,hkeep,hsid,_⟩:=BQ (low:=low) (b:=176) (x:=frs (Db f i N) 11) hA' (Ar 11) (by omega) (by omega) hlow;have hrow:=Xm (N:=N) (ks:=ks) (gl:=gl) hi c rfl;have hA2:Acc B L'' 22 (.op 22) v' (frs (tf (bT ks gl N f)) ((N+(rts f i).length+1)*11)) (N+(rts f i).length+1):=by
     rw[hrow,Ho]at hA2;exact hA2
    have hlen:(rts f (i+1)).length=(rts f i).length+1:=by rw[EW,if_pos c];simp
    rw[Adb,<-hlen]at hA2;have hFl:=hF.1;rw[hOe,AcO]at hFl;have keep2:∀id vs,Ae (B++L) id=some vs->id≠sid v->Ae (B++L'') id=some vs/\id≠sid v':=fun id vs h hne=>by
     have hl:id<(B++L).length:=by
      unfold Ae at h;rcases Adc id (B++L).length with c|c
      ·exact c
      ·rw[Ac0 c]at h;simp at h
     refine⟨?_,by rw[hOe]at hl;omega⟩;unfold Ae at h ⊢;rw[hkeep id (by rw[hOe]at hl;omega) (.inr hne),hF.2 id hl (by simp)];exact h
    have kW:=keep2 _ _ hW hWv;have kP:=keep2 _ _ hP hPv;have:=ih (i+1) L'' v' (by omega) (by omega) hA2 kW.1 kP.1 kW.2 kP.2;simp[-List.reduceReplicate,s2,s5,s14,s16,s86,s87,hr',hsg',HO,happ,hww]
    simpa using this) N 0 (B++L++[.cells (frs (fun _=>0) 11)]) (by omega) (by omega) (Fx.app _) (by rw[AcG (AcE _),Ac8];exact congrArg (fun l=>some (Row.cells l)) (Am fun j _=>by unfold Db;rw[if_neg (by omega)]))
   simp only[AcL,AcO]at hst hlw;unfold Lc70l2;simp[-List.reduceReplicate,-Ax,hi,Bp,h100,c,h96,hlw,hst,hg1];simpa using h5
  ·have hce:¬((f i:Int)=i):=by omega
   have hlen:(rts f (i+1)).length=(rts f i).length:=by rw[EW,if_neg c];simp
   have:=ih (i+1) L v (by omega) (by omega) (by rw[hlen];exact hA) hW hP hWv hPv;unfold Lc70l2;simp[hi,Bp,h100,c,hce,hww];simpa using this
end
theorem Jr{rows R:List Row}{g:AV}{N:Nat}{ks ps:List Nat}(h:GRd rows g N ks ps)(hF:Fx rows R (fun _=>False)):GRd R g N ks ps:=by
 have hS:Sm rows.length rows.length rows R:=⟨hF.1,fun id h1 _=>hF.2 id h1 (by simp)⟩
 obtain⟨ev,pv,e,h1,h2,h3⟩:=h.eq;refine⟨h.ok,ev,pv,e,Cd hS h1 ?_,Cd hS h2 ?_,h3⟩
 ·rcases BA h1 with e|e
  ·exact .inl e
  ·exact .inr ⟨e,by omega⟩
 ·rcases BA h2 with e|e
  ·exact .inl e
  ·exact .inr ⟨e,by omega⟩
section
variable {R:List Row}{N low G:Nat}{ks ps:List Nat}{ev pv v:AV}{sl:List (Nat×AV)}{r:AV×List Row×Nat->Prop}
def wD(ks:List Nat)(N:Nat):List Int:=(fiS ks (List.replicate ks.length 0) N).1
theorem Vx(hg:GRd R (.agg [.int .i64 N,ev,pv]) N ks ps)(hG:Ae R G=some [.int .i64 N,ev,pv])(hlow:low<=R.length)(s2:lk sl 2 = .ptr G 0)(s5:lk sl 5=v)
  (hn:Lc70l2 F C70 (.ptr G 0) v (.func 100 [.ptr (R.length+2) 0]) (.int .i64 N) (.int .i64 0) (R++[.cells (Ad .i64 (List.replicate ks.length 0)),.cells (Ad .i64 (wD ks N)),.cells [.ptr (R.length+1) 0]]) low r):
  Ex F C70 [.code c70s33] ⟨mk 119 sl,R,low⟩ r:=by
 obtain⟨ev',pv',e,he,hp,_⟩:=id hg.eq;cases e;have hek:=hg.ok.ek;have o1:=An he;have o2:=An hp;have ln:=AF he;have hlim:(ks.length:Int)<=lim:=by unfold lim;omega
 have hz:IsL (R++[.cells (Ad .i64 (List.replicate ks.length 0))]) (.slice R.length 0 ks.length (.at_ ks.length)) (List.replicate ks.length 0):=U0 (by simp);have r78:=Mp (Jr hg (Fx.app [.cells (Ad .i64 (List.replicate ks.length 0))])) hz (by simp);have hmk:=O1 (m:=ks.length);have t31:Nat.testBit 31 4=true:=rfl;have hlw:Ab low (R.length+2)=low:=lwS (by omega);have hD:(fiS ks (List.replicate ks.length 0) N).fst=wD ks N:=rfl;rw[hD]at r78;simp only[AcL,AcO,AcU,Ac7,Ads,Aee,AdI]at r78;simp[s2,s5,hG,seg,ln,hlim,hmk,Ap,Ai,Bx,Function.comp_def,opC,Aw,r78,AC,splice,t31,hlw,Ah hG];simpa using hn
end
def dg(ks:List Nat)(v:Nat):Nat->Nat
 |0=>0
 |i+1=>dg ks v i+(dd (gN ks i) v).natAbs
theorem VE{ks:List Nat}{v j:Nat}:∀i,(zL ks v i j).natAbs<=dg ks v i
 |0=>by simp[zL]
 |
  i+1=>by
  have:=VE (ks:=ks) (v:=v) (j:=j) i;have h3:(dd (gN ks i) v*dd (gN ks i) j).natAbs<=(dd (gN ks i) v).natAbs:=by
   rw[Ac6];have:=Aet (dd (gN ks i) v).natAbs (Ri (k:=gN ks i) (x:=j));omega
  rw[zL,dg];omega
theorem Pw{f g:Nat->Nat}:∀n,ns n (fun i=>f i+g i)=ns n f+ns n g
 |0=>rfl
 |n+1=>by rw[ns,ns,ns,Pw n];omega
theorem OV{k:Nat}(h:k/6≠k%6):∀n,ns n (fun j=>(dd k j).natAbs)<=(if k/6<n then 1 else 0)+if k%6<n then 1 else 0
 |0=>AcX _
 |
  n+1=>by
  have:=OV h n;rw[ns];have e:(dd k n).natAbs<=(if k/6=n then 1 else 0)+if k%6=n then 1 else 0:=by
   unfold dd
   by_cases c1:n=k%6
   ·rw[if_pos c1,if_pos c1.symm];simp
   ·rw[if_neg c1]
    by_cases c2:n=k/6
    ·rw[if_pos c2,if_pos c2.symm];simp
    ·rw[if_neg c2];simp
  split at this<;>split at this<;>split at e<;>split at e<;>split<;>split<;>omega
theorem SX{ks:List Nat}{v n:Nat}(h:∀k∈ks,k/6<k%6):∀i,i<=ks.length->ns n (fun j=>(zL ks v i j).natAbs)<=2*dg ks v i
 |
  0,_=>by
  have:ns n (fun j=>(zL ks v 0 j).natAbs)=n*0:=by rw[<-DU];rfl
  omega
 |
  i+1,hi=>by
  have ih:=SX (v:=v) (n:=n) h i (by omega);have hk:=h _ (AH (show i<ks.length by omega));have h1:ns n (fun j=>(zL ks v (i+1) j).natAbs)<=ns n (fun j=>(zL ks v i j).natAbs+(dd (gN ks i) j).natAbs*(dd (gN ks i) v).natAbs):=Wg fun j _=>by
   have:(zL ks v (i+1) j)=zL ks v i j+dd (gN ks i) v*dd (gN ks i) j:=rfl;rw[this];have h2:(dd (gN ks i) v*dd (gN ks i) j).natAbs=(dd (gN ks i) j).natAbs*(dd (gN ks i) v).natAbs:=by rw[Ac6,AdR]
   have:=Int.natAbs_add_le (zL ks v i j) (dd (gN ks i) v*dd (gN ks i) j);omega
  rw[Pw,O6]at h1;have h2:=OV (k:=gN ks i) (by omega) n;have h3:ns n (fun j=>(dd (gN ks i) j).natAbs)<=2:=by split at h2<;>split at h2<;>omega
  have h4:=Ady (dd (gN ks i) v).natAbs h3;rw[dg];omega
theorem IN{ks:List Nat}{v:Nat}(h:∀k∈ks,k/6<k%6):∀i,i<=ks.length->dg ks v i=((ks.take i).filter fun k=>k/6==v||k%6==v).length
 |0,_=>by simp[dg]
 |
  i+1,hi=>by
  have hil:i<ks.length:=by omega
  have e:ks[i]=gN ks i:=by simp[gN,hil]
  rw[dg,IN h i (by omega),List.take_succ_eq_append_getElem hil,Aei,AcO,e];congr 1;have hk:=h _ (AH hil);unfold dd
  by_cases c1:v=gN ks i%6
  ·rw[if_pos c1,List.filter_cons_of_pos (by simp[c1])];rfl
  ·rw[if_neg c1]
   by_cases c2:v=gN ks i/6
   ·rw[if_pos c2,List.filter_cons_of_pos (by simp[c2])];rfl
   ·rw[if_neg c2,List.filter_cons_of_neg (by simp;omega)];rfl
section
variable {N:Nat}{ks ps:List Nat}{v:Nat}
theorem Od(hok:GOK N ks ps)(hv:v<N):dg ks v ks.length<=5:=by
 have h6:=hok.n6;have hlt:∀k∈ks,k/6<k%6:=fun k hk=>(hok.ee k hk).1
 rw[IN hlt ks.length (AcE _),List.take_length];have hnd:ks.Nodup:=hok.es.imp fun h=>by omega
 have hfn:=hnd.filter fun k=>k/6==v||k%6==v
 have hinj:((ks.filter fun k=>k/6==v||k%6==v).map fun k=>k/6+k%6-v).Nodup:=by
  refine List.pairwise_map.2 (List.Pairwise.imp_of_mem (fun{x y} hx hy hne e=>hne ?_) hfn);have h1:=Ad7.1 hx;have h2:=Ad7.1 hy;have:=hlt x h1.1;have:=hlt y h2.1;have c1:=h1.2;have c2:=h2.2;simp only[Ael,beq_iff_eq]at c1 c2;omega
 have hv2:v∉((ks.filter fun k=>k/6==v||k%6==v).map fun k=>k/6+k%6-v):=fun hm=>by
  obtain⟨x,hx,e⟩:=Ad0.1 hm;have h1:=Ad7.1 hx;have:=hlt x h1.1;have c1:=h1.2;simp only[Ael,beq_iff_eq]at c1;omega
 have:=List.Nodup.length_le_of_subset (List.nodup_cons.2 ⟨hv2,hinj⟩) (l₂:=List.range N) fun x hx=>by
  rcases Ade.1 hx with rfl|hx
  ·exact Adm.2 hv
  ·obtain⟨y,hy,e⟩:=Ad0.1 hx
   have h1:=Ad7.1 hy;have:=hok.ee y h1.1;have c1:=h1.2;simp only[Ael,beq_iff_eq]at c1;exact Adm.2 (by omega)
 simp at this;omega
end
def gZ(ks:List Nat)(fl:List Int)(v:Nat):Nat->Int
 |0=>0
 |i+1=>gZ ks fl v i+dd (gN ks i) v*gI fl i
theorem Rp{ks:List Nat}{fl:List Int}{v:Nat}(hl:fl.length=ks.length)(hb:∀x∈fl,-100<=x/\x<=100):∀i,i<=ks.length->(gZ ks fl v i).natAbs<=100*dg ks v i
 |0,_=>by simp[gZ]
 |
  i+1,hi=>by
  have:=Rp (v:=v) hl hb i (by omega);have hm:=hb _ (FT (show i<fl.length by omega));have h2:(dd (gN ks i) v*gI fl i).natAbs<=(dd (gN ks i) v).natAbs*100:=by
   rw[Ac6];exact Aet _ (by omega)
  rw[gZ,dg];omega
theorem VH{ks:List Nat}{fl:List Int}{v:Nat}(hl:fl.length=ks.length)(hek:ks.length<=10)(hb:∀x∈fl,-100<=x/\x<=100){i:Nat}(hi:i<=ks.length):(gZ ks fl v i).natAbs<=1000:=by
 have h1:=Rp (v:=v) hl hb i hi;have h2:∀i,dg ks v i<=i:=fun i=>by
  induction i with
  |zero=>exact AcE _
  |succ i ih=>have:=Ri (k:=gN ks i) (x:=v);rw[dg];omega
 have:=h2 i;omega
theorem Pv{N:Nat}{ks ps:List Nat}{fl:List Int}(hok:GOK N ks ps)(hl:fl.length=ks.length)(hb:∀x∈fl,-100<=x/\x<=100){v:Nat}(hv:v<N):∀i,i<=ks.length->gI (gnS N ks fl i) v=gZ ks fl v i
 |0,_=>by simp[gnS,gZ,gI,hv]
 |
  i+1,hi=>by
  have ih:=fun v hv=>Pv hok hl hb (v:=v) hv i (by omega)
  have hee:=hok.ee _ (AH (show i<ks.length by omega));have hm:=hb _ (FT (show i<fl.length by omega));have hlen:=Kx (N:=N) (ks:=ks) (f:=fl) i;have hw:=fun v=>VH (v:=v) hl hok.ek hb (i:=i) (by omega)
  have ha:=hw (gN ks i/6);have hc:=hw (gN ks i%6);rw[gnS,gZ];show gI (((gnS N ks fl i).set _ _).set _ _) v=_;rw[Jk (by simp;omega),Jk (by omega),Jk (by omega)];unfold dd
  by_cases c1:v=gN ks i%6
  ·rw[if_pos c1,if_pos c1,if_neg (by omega),ih _ hee.2,AM (by omega) (by omega),c1]
   omega
  ·rw[if_neg c1,if_neg c1]
   by_cases c2:v=gN ks i/6
   ·rw[if_pos c2,if_pos c2,ih _ (by omega),AM (by omega) (by omega),c2]
    omega
   ·rw[if_neg c2,if_neg c2,ih _ hv]
    omega
def bA(ks:List Nat)(gl:List Int)(N:Nat)(f:Nat->Nat):Nat->Nat->Rat:=DY (tf (bT ks gl N f)) N
section
variable {N:Nat}{ks ps:List Nat}{gl fl:List Int}{f:Nat->Nat}
theorem OT(h6:N<=6){i j:Nat}(hj:j<N):bA ks gl N f i j=bT ks gl N f i j:=by
 unfold bA DY tf;rw[if_pos hj,show(i*11+j)/11=i by omega,show(i*11+j)%11=j by omega]
theorem Of{i j:Nat}(hj:N<=j):bA ks gl N f i j=bT ks gl N f i 10:=by
 unfold bA DY tf;rw[if_neg (by omega),show(i*11+10)/11=i by omega,show(i*11+10)%11=10 by omega]
theorem KV{i m j:Nat}:isz (Db f i m j) 1:=by
 unfold Db
 split
 ·exact Qo
 ·exact Us
theorem Xs(hok:GOK N ks ps)(hgl:∀v,v<N->(gI gl v).natAbs<=500)(n:Nat):Bd (bA ks gl N f) n (N+1) N:=by
 have h6:=hok.n6;have hlt:∀k∈ks,k/6<k%6:=fun k hk=>(hok.ee k hk).1
 have key:∀i j,j<N->isz (bA ks gl N f i j) (if i<N then(zL ks i ks.length j).natAbs else 1):=fun i j hj=>by
  rw[OT h6 hj];unfold bT
  by_cases c:i<N
  ·rw[if_pos c,if_pos c]
   unfold gT;rw[if_neg (by omega)];exact⟨_,rfl,AcE _⟩
  ·rw[if_neg c,if_neg c]
   exact KV
 have k5:∀i j,(if i<N then(zL ks i ks.length j).natAbs else 1)<=5:=fun i j=>by
  split
  ·rename_i c
   have:=VE (ks:=ks) (v:=i) (j:=j) ks.length;have:=Od hok c;omega
  ·omega
 refine⟨fun i j hi hj=>?_,fun i j hi hj=>IF (key i j hj) (k5 i j),fun i j=>if i<N then(zL ks i ks.length j).natAbs else 1,fun i j hi hj=>key i j hj,fun i hi=>?_⟩
 ·by_cases c:j<N
  ·exact IF (key i j c) (by have:=k5 i j;omega)
  ·rw[Of (by omega)]
   unfold bT
   by_cases c2:i<N
   ·rw[if_pos c2]
    unfold gT;rw[if_pos rfl];exact⟨_,rfl,hgl i c2⟩
   ·rw[if_neg c2]
    exact IF KV (by omega)
 ·by_cases c:i<N
  ·simp only[if_pos c]
   have h1:=SX (v:=i) (n:=N) hlt ks.length (AcE _);have:=Od hok c;omega
  ·simp only[if_neg c]
   rw[DU];omega
end
def bN(ks:List Nat)(N:Nat):Nat:=N+(rts (fo ks N) N).length
def bG(ks:List Nat)(fl:List Int)(N:Nat):GS:=gjR (bA ks (gnS N ks fl ks.length) N (fo ks N)) (bN ks N) N
def bH(ks:List Nat)(fl:List Int)(N:Nat):Nat->Rat:=xs (bG ks fl N) N
section
variable {rows:List Row}{N:Nat}{ks ps:List Nat}{g x1:AV}{fl:List Int}
theorem Lo(hGZ:GZ rows)(hg:GRd rows g N ks ps)(h:IsL rows x1 fl)(hl:fl.length=ks.length)(hb:∀x∈fl,-100<=x/\x<=100):Ret F 70 [g,x1] rows=some (.slice rows.length 0 N (.at_ N),rows++[.cells (frs (bH ks fl N) N)],none):=by
 obtain⟨ev,pv,rfl,he,hp,_⟩:=id hg.eq;have hok:=hg.ok;have o1:=An he;have o2:=An hp;obtain⟨gv,X,r22,hX,hgl,_⟩:=P4 (hg.app [.cells [.int .i64 N,ev,pv]]) (Al h [.cells [.int .i64 N,ev,pv]]) hl hb;obtain⟨B,hB⟩:∃B,B=rows++[.cells [.int .i64 N,ev,pv]]++X:=⟨_,rfl⟩
 rw[<-hB]at r22 hgl;have hFB:Fx rows B (fun _=>False):=by rw[hB,AcL];exact Fx.app _
 have hBl:rows.length<B.length:=by rw[hB];simp
 have hGB:Ae B rows.length=some [.int .i64 N,ev,pv]:=by rw[hB];simp[Ae]
 have hZB:GZ B:=hGZ.fx hFB (by simp);have hgB:=Jr hg hFB;have heB:El B 2 ev (Ad .i64 (eC ks)) ks.length:=by rw[hB,AcL];exact Ag he _
 have hgn:=Kx (N:=N) (ks:=ks) (f:=fl) ks.length;have hfl0:(List.replicate ks.length (0:Int)).length=ks.length:=by simp
 have hb0:∀x∈List.replicate ks.length (0:Int),-100<=x/\x<=100:=fun x hx=>by rw[List.eq_of_mem_replicate hx];omega
 have hD13:(wD ks N).length=13:=(GT hok N (AcE _)).d;have h6:=hok.n6;have hrl:=Sj (f:=fo ks N) (n:=N);have hend:∀(L:List Row) (v:AV) (sl:List (Nat×AV)),Acc B L 22 (.op 22) v (frs (tf (bT ks (gnS N ks fl ks.length) N (fo ks N))) ((N+(rts (fo ks N) N).length)*11)) (N+(rts (fo ks N) N).length)->lk sl 2 = .ptr rows.length 0->lk sl 5=v->
   Ex F C70 [.code c70s1] ⟨mk 119 sl,B++L,rows.length⟩ fun r=>fin rows r.1 r.2.1 r.2.2=(.slice rows.length 0 N (.at_ N),rows++[.cells (frs (bH ks fl N) N)],none):=by
  intro L v sl hA s2 s5;obtain⟨h1,h2⟩:=hA;rcases h2 with ⟨rfl,e⟩|⟨k,rfl,hk⟩
  ·rw[e]at h1
   simp at h1;have:=hok.n1;omega
  ·have hr:(B++L)[B.length+k]?=some (.cells (frs (tf (bT ks (gnS N ks fl ks.length) N (fo ks N))) ((N+(rts (fo ks N) N).length)*11))):=by
    rw[AcG (by omega),AcS];exact hk
   have hBd:=Xs (f:=fo ks N) (gl:=gnS N ks fl ks.length) hok (fun v hv=>by
    rw[Pv hok hl hb hv ks.length (AcE _)];have:=Rp (v:=v) hl hb ks.length (AcE _);have:=Od hok hv
    omega) (N+(rts (fo ks N) N).length)
   have r98:=GI (cR:=.op 22) (hZB.fx (Fx.app (p:=fun _=>False) L) (by simp)) hr (by have:=hok.n1;omega) (by omega) (by have:=hok.n1;omega) (by omega) hBd (fun c a hc h1 h2 h3=>by
    obtain⟨σ,hgj⟩:=EA (A:=DY (tf (bT ks (gnS N ks fl ks.length) N (fo ks N))) N) (n:=N+(rts (fo ks N) N).length) c;have:=hgj.kle
    omega)
   have hbH:xs (gjR (DY (tf (bT ks (gnS N ks fl ks.length) N (fo ks N))) N) (N+(rts (fo ks N) N).length) N) N=bH ks fl N:=rfl;rw[hbH]at r98;have hG':=Ah hGB L;have hlw:Ab rows.length (B++L).length=rows.length:=Ac (by simp;omega);have hfin:=Fh (rows:=rows) (R':=B++L++[.cells (frs (bH ks fl N) N)]) (id:=(B++L).length) (o:=0) (n:=N) (c:=.at_ N) (vs:=frs (bH ks fl N) N) (by simp) (by simp;omega) (Et N);simp only[AcL,AcO]at hfin hlw r98;simp[s2,s5,hG',r98,hlw];simpa using hfin
 have hmid:∀(L:List Row) (v:AV) (sl:List (Nat×AV)),Acc B L 22 (.op 22) v (frs (tf (gT ks (gnS N ks fl ks.length))) (N*11)) N->lk sl 2 = .ptr rows.length 0->lk sl 5=v->
   Ex F C70 [.code c70s33] ⟨mk 119 sl,B++L,rows.length⟩ fun r=>fin rows r.1 r.2.1 r.2.2=(.slice rows.length 0 N (.at_ N),rows++[.cells (frs (bH ks fl N) N)],none):=by
  intro L v sl hA s2 s5;have hlt:=Sw hA (by have:=hok.n1;omega) (by omega);refine Vx (Jr hgB (Fx.app L)) (Ah hGB L) (by simp;omega) s2 s5 ?_;have hA2:=FF hA [.cells (Ad .i64 (List.replicate ks.length 0)),.cells (Ad .i64 (wD ks N)),.cells [.ptr ((B++L).length+1) 0]];have hT:frs (tf (gT ks (gnS N ks fl ks.length))) (N*11)=frs (tf (bT ks (gnS N ks fl ks.length) N (fo ks N))) ((N+(rts (fo ks N) 0).length)*11):=by
   show _=frs _ ((N+0)*11);exact Am fun j hj=>by
    unfold tf bT;rw[if_pos (by omega)]
  rw[hT]at hA2;have hW:Ae (B++L++[.cells (Ad .i64 (List.replicate ks.length 0)),.cells (Ad .i64 (wD ks N)),.cells [.ptr ((B++L).length+1) 0]]) ((B++L).length+1)=some (Ad .i64 (wD ks N)):=by
   unfold Ae;rw[AcG (by omega),AcS];rfl
  have hP:Ae (B++L++[.cells (Ad .i64 (List.replicate ks.length 0)),.cells (Ad .i64 (wD ks N)),.cells [.ptr ((B++L).length+1) 0]]) ((B++L).length+2)=some [.ptr ((B++L).length+1) 0]:=by
   unfold Ae;rw[AcG (by omega),AcS];rfl
  rw[AcL]at hW hP ⊢;exact YM (G:=rows.length) (D:=wD ks N) (f:=fo ks N) (ks:=ks) (gl:=gnS N ks fl ks.length) hZB hok.n1 h6 (by omega) hGB (fun R h1 h2 v hv=>O9 hD13 h1 h2 (Tv hok hfl0 hb0 hv)) hend _ 0 _ v rfl (AcX _) hA2 hW hP (by simp;omega) (by simp;omega)
 have hl34:=Uy (ps:=ps) (r:=fun r=>fin rows r.1 r.2.1 r.2.2=(.slice rows.length 0 N (.at_ N),rows++[.cells (frs (bH ks fl N) N)],none)) hZB hok heB (Nat.le_of_lt hBl) hGB hgl hgn hmid N 0 [] .nilslice rfl (AcX _) (by rw[AeI];exact CM);have hg1:Ae (rows++[.cells [.int .i64 N,ev,pv]]) rows.length=some [.int .i64 N,ev,pv]:=by simp[Ae]
 rw[AcV]at hl34;refine i70 F70 ?_;simp[o1,o2,hg1,seg,r22,hGB];simpa using hl34
end
section
variable {rows:List Row}{N:Nat}{ks ps:List Nat}
theorem J1{M b o:Nat}{sl:List AV}{asg body:ICode}{d1 d2 q P:Nat}{ev:AV}{R0:List Row}{C:Nat->Row}(hks:ks.length<=10)(hb:b=R0.length)(hMb:M<b)(hMo:M≠o)(hob:o<b)
  (he:El R0 2 ev (Ad .i64 (eC ks)) ks.length) (heo:sid ev≠o) (hL:R0[M]?=some (.loop .ready none sl [d1,d2] asg body)) (hP:Ae R0 P=some [.int .i64 (q/36:Nat),.int .i64 (q/6%6:Nat),.int .i64 (q%6:Nat)]) (hPo:P≠o)
  (hbody:∀(R:List Row) (i:Nat),Sm b o R0 R->R[o]?=some (C i)->i<ks.length->sgn q (gN ks i)≠0->Ex F (.round M) [.code asg,.rfBegin,.code body] ⟨putL sl [d1,d2] [.int .i64 i,.int .i64 (sgn q (gN ks i))],R,R.length⟩ fun x=>
   x.1 = .bool true/\R.length<=x.2.1.length/\(∀id,id<R.length->id≠o->x.2.1[id]?=R[id]?)/\x.2.1[o]?=some (C (i+1))/\o<=x.2.2/\x.2.2<=M)
  (hC0:∀i,i<ks.length->sgn q (gN ks i)=0->C (i+1)=C i)
  {r:AV×List Row×Nat->Prop} {lw0:Nat} (hlw0:lw0<=b) (hMl:M<lw0) (hoM:o<M) (hend:∀R low,Sm b o R0 R->R[o]?=some (C ks.length)->(low=lw0/\C ks.length=C 0\/o<=low/\low<=M)->r (.tup [],R,low)):
  ∀(n i:Nat) (R:List Row) (low:Nat),ks.length-i=n->i<=ks.length->Sm b o R0 R->R[o]?=some (C i)->(low=lw0/\C i=C 0\/o<=low/\low<=M)->
  Lc93l0 F (.fn []) (.yield M) (.ptr P 0) ev (.int .i64 ks.length) (.int .i64 i) R low r:=by
 intro n
 induction n with
 |zero=>
  intro i R low hn h1 hS hC hlow;have:i=ks.length:=by omega
  subst this;have:=hend R low hS hC hlow;unfold Lc93l0;simp;exact this
 |succ n ih=>
  intro i R low hn h1 hS hC hlow;have hi:i<ks.length:=by omega
  have hPb:P<b:=hb ▸ AS hP;have hw:IntKind.i64.wrap ((i:Int)+1)=((i+1:Nat):Int):=wS (by omega);have he':El R 2 ev (Ad .i64 (eC ks)) ks.length:=Cd hS he (by rcases BA he with h|h;exact .inl h;exact .inr ⟨by omega,heo⟩);have hP':=Ah (Bt hS hP hPb hPo) [.cells [.int .i64 (gN ks i/6:Nat),.int .i64 (gN ks i%6:Nat)]];obtain⟨e1,e2⟩:=KI hi;have hRb:=hS.1;have hlw:Ab low R.length=low:=Ac (by omega);have hS1:=BI hS [.cells [.int .i64 (gN ks i/6:Nat),.int .i64 (gN ks i%6:Nat)]];have hC1:(R++[Row.cells [.int .i64 (gN ks i/6:Nat),.int .i64 (gN ks i%6:Nat)]])[o]?=some (C i):=by
   rw[AcD (by omega)];exact hC
  have hL1:(R++[Row.cells [.int .i64 (gN ks i/6:Nat),.int .i64 (gN ks i%6:Nat)]])[M]?=some (.loop .ready none sl [d1,d2] asg body):=(hS1.2 M hMb hMo).trans hL;have hskip:=ih (i+1) _ low (by omega) (by omega) hS1;have hround:=hbody _ i hS1 hC1 hi;have hsgn:sgn q (gN ks i)=if(gN ks i/6=q/36/\gN ks i%6=q/6%6)\/(gN ks i/6=q/6%6/\gN ks i%6=q%6)then 1 else if gN ks i/6=q/36/\gN ks i%6=q%6 then -1 else 0:=rfl
  have hsd:=hC0 i hi;have hstep:sgn q (gN ks i)≠0->Ex F (.round M) [.code asg,.rfBegin,.code body] ⟨putL sl [d1,d2] [.int .i64 i,.int .i64 (sgn q (gN ks i))],R++[.cells [.int .i64 (gN ks i/6:Nat),.int .i64 (gN ks i%6:Nat)]],(R++[Row.cells [.int .i64 (gN ks i/6:Nat),.int .i64 (gN ks i%6:Nat)]]).length⟩ fun x=>
    x.1 = .bool true/\Lc93l0 F (.fn []) (.yield M) (.ptr P 0) ev (.int .i64 ks.length) (.int .i64 ((i+1:Nat):Int)) (gc (R++[Row.cells [.int .i64 (gN ks i/6:Nat),.int .i64 (gN ks i%6:Nat)]]).length (Ab low x.2.2) x.1 x.2.1) (Ab low x.2.2) r:=by
   intro hs;obtain⟨m,x,e,k1,k2,k3,k4,k5,k6⟩:=hround hs;refine⟨m,x,e,k1,?_⟩;have hlx:Ab low x.2.2<=M/\o<=Ab low x.2.2:=by
    rcases hlow with ⟨h,_⟩|h
    ·unfold Ab;split<;>omega
    ·unfold Ab;split<;>omega
   have hgc:∃Rg,gc (R++[Row.cells [.int .i64 (gN ks i/6:Nat),.int .i64 (gN ks i%6:Nat)]]).length (Ab low x.2.2) x.1 x.2.1=Rg/\(R++[Row.cells [.int .i64 (gN ks i/6:Nat),.int .i64 (gN ks i%6:Nat)]]).length<=Rg.length/\∀id,id<(R++[Row.cells [.int .i64 (gN ks i/6:Nat),.int .i64 (gN ks i%6:Nat)]]).length->Rg[id]?=x.2.1[id]?:=by
    rcases CU (R++[Row.cells [.int .i64 (gN ks i/6:Nat),.int .i64 (gN ks i%6:Nat)]]).length (Ab low x.2.2) x.1 x.2.1 with h|⟨h,_⟩
    ·exact⟨_,h,k2,fun _ _=>rfl⟩
    ·exact⟨_,h,by rw[AdQ];omega,fun id hid=>AcZ hid⟩
   obtain⟨Rg,hgc,hg1,hg2⟩:=hgc;rw[hgc];refine ih (i+1) _ _ (by omega) (by omega) ⟨AcP hS1.1 hg1,fun id a1 a2=>?_⟩ ?_ ?_
   ·have:=hS1.1
    rw[hg2 id (by omega),k3 id (by omega) a2];exact hS1.2 id a1 a2
   ·have:=hS1.1
    rw[hg2 o (by omega)];exact k4
   ·right
    exact⟨hlx.2,hlx.1⟩
  have i02:AI 2 3=some 2:=rfl;have i03:AI 0 3=some 0:=rfl;have i13:AI 1 3=some 1:=rfl;generalize sgn q (gN ks i)=S at *;generalize gN ks i/6=A at *;generalize gN ks i%6=C at *;generalize q/36=qa at *;generalize q/6%6=qb at *;generalize q%6=qc at *;have q1:=eq2 (k:=.i64) (a:=A) (b:=C) (c:=qa) (d:=qb);have q2:=eq2 (k:=.i64) (a:=A) (b:=C) (c:=qb) (d:=qc);have q3:=eq2 (k:=.i64) (a:=A) (b:=C) (c:=qa) (d:=qc);have no:S=0->Lc93l0 F (.fn []) (.yield M) (.ptr P 0) ev (.int .i64 ks.length) (.int .i64 ((i+1:Nat):Int)) (R++[.cells [.int .i64 A,.int .i64 C]]) low r:=fun h=>by
   have hsd:=hsd h;rw[hsd]at hskip;exact hskip hC1 (by rcases hlow with ⟨h1,h2⟩|h1;exact .inl ⟨h1,h2⟩;exact .inr h1)
  have nope:S=0->Jc93s4 F (.fn []) (.yield M) (.ptr P 0) (.int .i64 i) (.int .i64 0) ev (.int .i64 ks.length) (.int .i64 i) (R++[.cells [.int .i64 A,.int .i64 C]]) low r:=fun h=>by
   have:=no h;unfold Jc93s4;simp[hw];simpa using this
  have yes:S≠0->Jc93s4 F (.fn []) (.yield M) (.ptr P 0) (.int .i64 i) (.int .i64 S) ev (.int .i64 ks.length) (.int .i64 i) (R++[.cells [.int .i64 A,.int .i64 C]]) low r:=fun h=>by
   obtain⟨m,x,e,hx1,hx2⟩:=hstep h;unfold Jc93s4;simp[h];rw[P1 hL1 rfl];refine⟨m,x,e,?_⟩;rw[hx1]at hx2;simp only[hx1];simp[hw];simpa using hx2
  rw[G2 (S:=S) hi he' hlw e1 e2 hP' hsgn]
  by_cases c:S=0
  ·have:=nope c
   rw[<-c]at this;exact this
  ·exact yes c
theorem FA{cx:Ctx}{f:Opd}{k:List Itm}{sl:List AV}{asg body:ICode}{d1 d2 p ga pa o low:Nat}{n0 ev pv:AV}{Rb:List Row}{C:Nat->Row}{r:AV×List Row×Nat->Prop}(hcx:KZ cx Rb=true)(hks:ks.length<=10)(hp:p<ps.length)
  (hf:Ak sl f = .func 93 [.ptr ga 0,.ptr pa 0]) (hga:Ae Rb ga=some [n0,ev,pv]) (hpa:Ae Rb pa=some [.int .i64 p]) (he:El Rb 2 ev (Ad .i64 (eC ks)) ks.length) (hpv:El Rb 3 pv (Ad .i64 (pC ps)) ps.length)
  (ho:o<Rb.length) (heo:sid ev≠o) (hc0:Rb[o]?=some (C 0)) (hC0:∀i,i<ks.length->sgn (gN ps p) (gN ks i)=0->C (i+1)=C i)
  (hbody:∀(R:List Row) (i:Nat),Sm Rb.length o Rb R->R[Rb.length]?=some (.loop .ready none sl [d1,d2] asg body)->R[o]?=some (C i)->i<ks.length->sgn (gN ps p) (gN ks i)≠0->Ex F (.round Rb.length) [.code asg,.rfBegin,.code body] ⟨putL sl [d1,d2] [.int .i64 i,.int .i64 (sgn (gN ps p) (gN ks i))],R,R.length⟩ fun x=>
   x.1 = .bool true/\R.length<=x.2.1.length/\(∀id,id<R.length->id≠o->x.2.1[id]?=R[id]?)/\x.2.1[o]?=some (C (i+1))/\o<=x.2.2/\x.2.2<=Rb.length)
  (hend:∀R low2,Sm Rb.length o Rb R->R[o]?=some (C ks.length)->low2<=low->min low o<=low2->Ex F cx k ⟨sl,R,low2⟩ r):
  Ex F cx (.code (.rf f [d1,d2] asg body)::k) ⟨sl,Rb,low⟩ r:=by
 rw[Uu];refine⟨hcx,(93,[.yield Rb.length,.ptr ga 0,.ptr pa 0]),by rw[hf];rfl,?_⟩;obtain⟨R0c,hR0⟩:∃R0c,R0c=Rb++[Row.loop .ready none sl [d1,d2] asg body]:=⟨_,rfl⟩
 rw[<-hR0];have hlen:R0c.length=Rb.length+1:=by rw[hR0];simp
 have hS0:Sm Rb.length o Rb R0c:=by rw[hR0];exact BI (A2 (AcE _)) _
 have hL0:R0c[Rb.length]?=some (.loop .ready none sl [d1,d2] asg body):=by rw[hR0];simp
 have hga':Ae R0c ga=some [n0,ev,pv]:=by rw[hR0];exact Ah hga _
 have hpa':Ae R0c pa=some [.int .i64 p]:=by rw[hR0];exact Ah hpa _
 have he':El R0c 2 ev (Ad .i64 (eC ks)) ks.length:=by rw[hR0];exact Ag he _
 have hpv':El R0c 3 pv (Ad .i64 (pC ps)) ps.length:=by rw[hR0];exact Ag hpv _
 obtain⟨P0,hP0⟩:∃P0:Row,P0 = .cells [.int .i64 (gN ps p/36:Nat),.int .i64 (gN ps p/6%6:Nat),.int .i64 (gN ps p%6:Nat)]:=⟨_,rfl⟩
 let after:AV×List Row×Option Nat->Prop:=fun q=>∃z,AL Rb.length low q.2.1 q.2.2=some z/\Ex F cx (z.1++k) ⟨sl,z.2.1,z.2.2⟩ r
 -- what is left, seen from outside
 have hafter:∀(R:List Row) (d:Option Nat) (low2:Nat),AC low d=low2->low2<=low->min low o<=low2->R[Rb.length]?=some (.loop .ready none sl [d1,d2] asg body)->Sm Rb.length o Rb R->R[o]?=some (C ks.length)->after (.tup [],R,d):=by
  intro R d low2 hd hl1 hl2 hM hS hC;have hal:AL Rb.length low R d=some ([],gc Rb.length low2 (.tup []) (R.set Rb.length .dead),low2):=by
   unfold AL;simp only[hM];rw[if_neg (by decide),hd]
   rfl
  refine⟨_,hal,?_⟩;have hS1:=DC hS (i:=Rb.length) (x:=.dead) (.inr (AcE _));have hC1:(R.set Rb.length .dead)[o]?=some (C ks.length):=by rw[AcH (by omega)];exact hC
  show Ex F cx ([]++k) ⟨sl,gc Rb.length low2 (.tup []) (R.set Rb.length .dead),low2⟩ r;rcases CU Rb.length low2 (.tup []) (R.set Rb.length .dead)with h|⟨h,_⟩
  ·rw[h];exact hend _ _ hS1 hC1 hl1 hl2
  ·rw[h]
   refine hend _ _ (HH hS1 (AcE _)) ?_ hl1 hl2;rw[AcZ ho];exact hC1
 refine D7 F93 (R:=after) (show Ex F (.fn []) [.code c93b] ⟨mk 52 [(0,.yield Rb.length),(1,.ptr ga 0),(2,.ptr pa 0)],R0c,R0c.length⟩ _ from ?_);have hl:=J1 (M:=Rb.length) (b:=R0c.length+1) (o:=o) (sl:=sl) (asg:=asg) (body:=body) (d1:=d1) (d2:=d2) (q:=gN ps p) (P:=R0c.length) (ev:=ev) (R0:=R0c++[P0]) (C:=C) (ks:=ks) hks (by simp) (by omega) (by omega) (by omega) (Ag he' _) heo
  (by rw[AcD (by omega)];exact hL0) (by rw[hP0];exact B6) (by omega)
  (fun R i hS hC hi hs=>hbody R i (A7 hS0 (A7 (BI (A2 (AcE R0c.length)) [P0]) hS (Nat.le_succ _)) (by omega)) (by
   rw[hS.2 _ (by omega) (by omega),AcD (by omega)];exact hL0) hC hi hs) hC0
  (r:=fun x=>after (fin R0c x.1 x.2.1 x.2.2)) (lw0:=R0c.length) (by omega) (by omega) (by omega) (fun R lw hS hC hlw=>by
   have hSb:Sm Rb.length o Rb R:=A7 hS0 (A7 (BI (A2 (AcE R0c.length)) [P0]) hS (Nat.le_succ _)) (by omega);have hLR:R[Rb.length]?=some (.loop .ready none sl [d1,d2] asg body):=by
    rw[hS.2 _ (by omega) (by omega),AcD (by omega)];exact hL0
   by_cases c:lw=R0c.length
   ·have hfin:fin R0c (.tup []) R lw=(.tup [],R0c,none):=by
     unfold fin;rw[if_pos c]
     rfl
    rw[hfin];have hcc:C ks.length=C 0:=by
     rcases hlw with ⟨_,h⟩|h
     ·exact h
     ·omega
    refine hafter _ none low rfl (AcE _) (Nat.min_le_left _ _) hL0 hS0 ?_;rw[hcc,hR0,AcD ho];exact hc0
   ·have hlo2:o<=lw:=by
     rcases hlw with ⟨h,_⟩|h
     ·exact absurd h c
     ·omega
    have hfin:fin R0c (.tup []) R lw=(.tup [],gc R0c.length lw (.tup []) R,some lw):=by
     unfold fin;rw[if_neg c]
    rw[hfin];have hlowO:AC low (some lw)<=low/\min low o<=AC low (some lw):=by
     show Ab low lw<=low/\min low o<=Ab low lw;unfold Ab
     split<;>omega
    rcases CU R0c.length lw (.tup []) R with h|⟨h,_⟩
    ·rw[h];exact hafter _ _ _ rfl hlowO.1 hlowO.2 hLR hSb hC
    ·rw[h]
     refine hafter _ _ _ rfl hlowO.1 hlowO.2 ?_ (HH hSb (by omega)) ?_
     ·rw[AcZ (by omega)];exact hLR
     ·rw[AcZ (by omega)];exact hC) _ 0 (R0c++[P0]) R0c.length rfl (AcX _) (A2 (by simp)) (by
   rw[AcD (by omega),hR0,AcD ho];exact hc0) (.inl ⟨rfl,rfl⟩)
 rw[hP0]at hl;obtain⟨e1,e2,e3⟩:=W1 hp;have ix:=B7 hpv' hp;have ld:=AaZ hpv' hp;rw[e1,e2,e3]at ld;have hga2:=Ah hga' [.cells [.int .i64 (gN ps p/36:Nat),.int .i64 (gN ps p/6%6:Nat),.int .i64 (gN ps p%6:Nat)]];have ln:=AF (Ag he' [.cells [.int .i64 (gN ps p/36:Nat),.int .i64 (gN ps p/6%6:Nat),.int .i64 (gN ps p%6:Nat)]]);have hlw:Ab R0c.length R0c.length=R0c.length:=Ac (AcE _);generalize gN ps p/36=qa at *;generalize gN ps p/6%6=qb at *;generalize gN ps p%6=qc at *;clear hafter hend hbody;simp[hga',hpa',ix,ld,AV.cells,splice,hlw,hga2,ln];simpa using hl
end
abbrev C68:Ctx:=.fn [.cellN 4 3]
theorem Nu{q:Rat}:Ap (Ak []) [(0,2,Opd.c (fr q))] [.int .i64 0,.int .i64 0]=some [.int .i64 q.num,.int .i64 (q.den:Int)]:=by
 simp[Ap,fr,AV.cells,splice]
structure PO(B L0:List Row)(w:AV->List AV)(L:List Row)(v:AV)(cs:List AV)(n:Nat):Prop where
 a:Acc B L 2 (.op 2) v cs n
 o:L[0]?=some (.cells (w v))
 s:v = .nilslice\/B.length+L0.length<=sid v
 k:∀id,id<L0.length->id≠0->L[id]?=L0[id]?
 l:L0.length<=L.length
section
variable {B L0 L:List Row}{w:AV->List AV}{v:AV}{cs:List AV}{n:Nat}
theorem PO.app(h:PO B L0 w L v cs n)(X:List Row):PO B L0 w (L++X) v cs n where
 a:=FF h.a X
 o:=by rw[AcD (AcF.1 h.o).1];exact h.o
 s:=h.s
 k:=fun id h1 h2=>by rw[AcD (by have:=h.l;omega)];exact h.k id h1 h2
 l:=by have:=h.l;simp;omega
theorem PO.push(h:PO B L0 w L v cs n){x:List AV}{j low b:Nat}(hx:x.length=2)(hn:n<1000000000)(hlow:low<=B.length)(h0:0<L0.length)(hj:∀v v',(w v).set j v'=w v')(hjl:j<(w v).length):
  ∃v' L' L'',evE (B++(L++[.cells x])) low (.app 2 b (.c v) (.c (.slice (B.length+L.length) 0 1 (.at_ 1))))=some (v',B++L',low)/\evE (B++L') low (.store1 (.c (.ptr B.length j)) (.c v'))=some (.tup [],B++L'',low)/\PO B L0 w L'' v' (cs++x) (n+1):=by
 obtain⟨v',L',happ,hA,hkeep,hsid,hlen⟩:=BQ (low:=low) (b:=b) h.a hx (by omega) hn hlow;have hl:=h.l;have keep:∀id,id<L0.length->L'[id]?=L[id]?:=fun id hid=>by
  have:=hkeep (B.length+id) (by omega) (by
   rcases h.s with e|e
   ·exact .inl e
   ·exact .inr (by omega))
  rw[AcG (by omega),AcG (by omega),AcS]at this;exact this
 have ho:L'[0]?=some (.cells (w v)):=by rw[keep 0 h0];exact h.o
 have hol:=(AcF.1 ho).1;have hc:cells? (B++L') B.length=some (w v):=by
  unfold cells?;rw[AcG (AcE _),Ac8,ho]
 have hone:v'.one=true:=An (IA hA (by omega));have hst:evE (B++L') low (.store1 (.c (.ptr B.length j)) (.c v'))=some (.tup [],B++L'.set 0 (.cells (w v')),low):=by
  rw[A4];simp only[hc,Ac4];rw[if_pos ⟨hjl,hone⟩,hj,Ac hlow,AcW _ _ (AcE _),Ac8]
 refine⟨v',L',L'.set 0 (.cells (w v')),happ,hst,?_,?_,?_,?_,?_⟩
 ·obtain⟨a1,a2⟩:=hA
  refine⟨a1,?_⟩;rcases a2 with a2|⟨k,hv,hk⟩
  ·exact .inl a2
  ·refine .inr ⟨k,hv,?_⟩
   rw[hv]at hsid;simp only[HK]at hsid;rw[AcH (by omega)];exact hk
 ·rw[AcM hol]
 ·exact .inr (by omega)
 ·intro id h1 h2
  rw[AcH (by omega),keep id h1];exact h.k id h1 h2
 ·rw[Adh];omega
end
section
variable {R R' R'':List Row}{low O H E A C N:Nat}{v v':AV}{h:Nat->Rat}{q:Rat}{sl:List (Nat×AV)}{k:List Itm}{r:AV×List Row×Nat->Prop}
theorem Yd{b:Nat}:Ai b []=[]:=rfl
theorem T4{ws:List AV}(hO:Ae R O=some ws)(hv:ws[0]?=some v)(hE:Ae R E=some [.int .i64 A,.int .i64 C])(hH:R[H]?=some (.cells (frs h N)))(hA:A<N)(hC:C<N)
  (hmin:∀R:List Row,Ret F 95 [fr (h C),fr (h A)] R=some (fr q,R,none))
  (happ:evE (R++[.cells [.int .i64 q.num,.int .i64 (q.den:Int)]]) low (.app 2 16 (.c v) (.c (.slice R.length 0 1 (.at_ 1))))=some (v',R',low)) (hst:evE R' low (.store1 (.c (.ptr O 0)) (.c v'))=some (.tup [],R'',low))
  (s5:lk sl 5 = .ptr O 0) (s6:lk sl 6 = .slice H 0 N (.at_ N)) (s8:lk sl 8 = .ptr E 0)
  (hn:∀sl':List (Nat×AV),(∀j∈[1,2,4,5,6,31,32,33],lk sl' j=lk sl j)->Ex F C68 k ⟨mk 180 sl',R'',low⟩ r):
  Ex F C68 (.code c68k85::k) ⟨mk 180 sl,R,low⟩ r:=by
 have lda:=CJ hH hA;have ldc:=CJ hH hC;have ixa:=fun R:List Row=>C8 (R:=R) (id:=H) (c:=.at_ N) hA
 have ixc:=fun R:List Row=>C8 (R:=R) (id:=H) (c:=.at_ N) hC
 have i02:AI 0 2=some 0:=rfl;have i12:AI 1 2=some 1:=rfl;have i03:AI 0 3=some 0:=rfl;simp[-A4,s5,s6,s8,i02,i12,i03,hO,hv,hE,ixa,ixc,lda,ldc,opC,Aw,hmin,Ba,Yd,Nu,happ,hst];refine hn _ ?_;simp[s5,s6]
end
def dfl(h:Nat->Rat)(ks:List Nat)(e:Nat):Rat:=h (gN ks e%6)-h (gN ks e/6)
section
variable {B L0:List Row}{N low:Nat}{ks ps:List Nat}{ev pv x1 x2 x4:AV}{h:Nat->Rat}{r:AV×List Row×Nat->Prop}
def w0(v:AV):List AV:=[v,.nilslice,.nilslice]
theorem VZ(hok:GOK N ks ps)(he:El B 2 ev (Ad .i64 (eC ks)) ks.length)(hlow:low<=B.length)(hL0:L0.length=2)(hH:L0[1]?=some (.cells (frs h N)))
  (hmin:∀(R:List Row) (e:Nat),e<ks.length->Ret F 95 [fr (h (gN ks e%6)),fr (h (gN ks e/6))] R=some (fr (dfl h ks e),R,none))
  (hc:∀(L:List Row) (v:AV) (sl:List (Nat×AV)),PO B L0 w0 L v (frs (dfl h ks) ks.length) ks.length->lk sl 1=x1->lk sl 2=x2->lk sl 4=x4->lk sl 5 = .ptr B.length 0->Ex F C68 [.code c68s82] ⟨mk 180 sl,B++L,low⟩ r):
  ∀(d i:Nat) (L:List Row) (v:AV),ks.length-i=d->i<=ks.length->PO B L0 w0 L v (frs (dfl h ks) i) i->
   Lc68l83 F C68 x1 x2 x4 (.ptr B.length 0) (.slice (B.length+1) 0 N (.at_ N)) ev (.int .i64 ks.length) (.int .i64 i) (B++L) low r:=by
 have n6:=hok.n6;have hek:=hok.ek;intro d
 induction d with
 |zero=>
  intro i L v hd hi hP;have e:i=ks.length:=by omega
  subst e;unfold Lc68l83;simp[-uc68s82];refine hc L v _ hP ?_ ?_ ?_ ?_<;>simp
 |succ d ih=>
  intro i L v hd hi0 hP;have hi:i<ks.length:=by omega
  have hww:IntKind.i64.wrap ((i:Int)+1)=((i+1:Nat):Int):=wS (by omega);obtain⟨e1,e2⟩:=KI hi;have hee:=hok.ee _ (AH hi);have he':=Ag he L;have ix:=B7 he' hi;have ld:=P3 he' hi;rw[e1,e2]at ld;have r95:=fun R:List Row=>hmin R i hi
  have hdf:dfl h ks i=h (gN ks i%6)-h (gN ks i/6):=rfl;have hP1:=hP.app [.cells [.int .i64 (gN ks i/6:Nat),.int .i64 (gN ks i%6:Nat)]];obtain⟨v',L',L'',happ,hst,hP2⟩:=hP1.push (x:=[.int .i64 (dfl h ks i).num,.int .i64 ((dfl h ks i).den:Int)]) (j:=0) (low:=low) (b:=16) rfl (by omega) hlow (by omega) (fun _ _=>rfl) (by simp[w0]);have hfrs:frs (dfl h ks) i++[.int .i64 (dfl h ks i).num,.int .i64 ((dfl h ks i).den:Int)]=frs (dfl h ks) (i+1):=rfl;rw[hfrs]at hP2;have:=ih (i+1) L'' v' (by omega) (by omega) hP2;have hHr:(B++(L++[Row.cells [.int .i64 (gN ks i/6:Nat),.int .i64 (gN ks i%6:Nat)]]))[B.length+1]?=some (.cells (frs h N)):=by
   rw[AcG (by omega),AcS,hP1.k 1 (by omega) (by omega)];exact hH
  have hOr:Ae (B++(L++[Row.cells [.int .i64 (gN ks i/6:Nat),.int .i64 (gN ks i%6:Nat)]])) B.length=some (w0 v):=by
   unfold Ae;rw[AcG (AcE _),Ac8,hP1.o]
  have hE:Ae (B++(L++[Row.cells [.int .i64 (gN ks i/6:Nat),.int .i64 (gN ks i%6:Nat)]])) (B.length+L.length)=some [.int .i64 (gN ks i/6:Nat),.int .i64 (gN ks i%6:Nat)]:=by
   unfold Ae;rw[AcG (by omega),AcS];simp
  have hlw:Ab low (B.length+L.length)=low:=lwS (by omega);have happ':evE ((B++(L++[Row.cells [.int .i64 (gN ks i/6:Nat),.int .i64 (gN ks i%6:Nat)]]))++[.cells [.int .i64 (dfl h ks i).num,.int .i64 ((dfl h ks i).den:Int)]]) low (.app 2 16 (.c v) (.c (.slice (B++(L++[Row.cells [.int .i64 (gN ks i/6:Nat),.int .i64 (gN ks i%6:Nat)]])).length 0 1 (.at_ 1))))=some (v',B++L',low):=by
   rw[AcL,AcO];exact happ
  have hk:∀sl:List (Nat×AV),lk sl 1=x1->lk sl 2=x2->lk sl 4=x4->lk sl 5 = .ptr B.length 0->lk sl 6 = .slice (B.length+1) 0 N (.at_ N)->lk sl 8 = .ptr (B.length+L.length) 0->lk sl 31=ev->lk sl 32 = .int .i64 ks.length->lk sl 33 = .int .i64 i->
    Ex F C68 [.code c68k85,.inBlock 1,.code c68k84,.inLoop c68l83,.inBlock 0,.code c68s82] ⟨mk 180 sl,B++(L++[Row.cells [.int .i64 (gN ks i/6:Nat),.int .i64 (gN ks i%6:Nat)]]),low⟩ r:=by
   intro sl s1 s2 s4 s5 s6 s8 s31 s32 s33;refine T4 hOr (v:=v) rfl hE hHr (by omega) hee.2 r95 happ' hst s5 s6 s8 fun sl' hs=>?_
   have t1:=hs 1 (by simp);have t2:=hs 2 (by simp);have t4:=hs 4 (by simp);have t5:=hs 5 (by simp);have t6:=hs 6 (by simp);have t31:=hs 31 (by simp);have t32:=hs 32 (by simp);have t33:=hs 33 (by simp);rw[s1]at t1;rw[s2]at t2;rw[s4]at t4;rw[s5]at t5;rw[s6]at t6;rw[s31]at t31;rw[s32]at t32;rw[s33]at t33;simp[t1,t2,t4,t5,t6,t31,t32,t33,hww];simpa using this
  unfold Lc68l83;simp[-uc68k85,hi,ix,ld,AV.cells,splice,hlw];refine hk _ ?_ ?_ ?_ ?_ ?_ ?_ ?_ ?_ ?_<;>simp
end
theorem QG{q k:Nat}:(sgn q k).natAbs<=1:=by
 unfold sgn
 split
 ·simp
 ·split<;>simp
def Nh(z:Nat->Int)(q:Nat)(c:Int):Nat->Int:=fun j=>if j=q then z j+c else z j
theorem Sg{z:Nat->Int}{q:Nat}:Nh z q 0=z:=by
 funext j;unfold Nh;split<;>omega
section
variable {N:Nat}{ks ps:List Nat}{r:AV×List Row×Nat->Prop}{k:List Itm}
theorem X7{Rb:List Row}{low q i O ga qa e14 e15 e16 M1:Nat}{sp:Int}{z:Nat->Int}{n0 ev pv:AV}{sl:List (Nat×AV)}(hcx:KZ (.round M1) Rb=true)(hek:ks.length<=10)(hi:i<ks.length)(hq:q<ps.length)(hpk:ps.length<=6)(hsp:sp.natAbs<=1)(hz:∀j,(z j).natAbs<=1000)
  (he:El Rb 2 ev (Ad .i64 (eC ks)) ks.length) (hpv:El Rb 3 pv (Ad .i64 (pC ps)) ps.length) (heo:sid ev≠O)
  (hga:Ae Rb ga=some [n0,ev,pv]) (hqa:Ae Rb qa=some [.int .i64 q]) (h14:Ae Rb e14=some [.int .i64 i]) (h15:Ae Rb e15=some [.int .i64 sp]) (h16:Ae Rb e16=some [.int .i64 q])
  (g14:e14≠O) (g15:e15≠O) (g16:e16≠O) (hO:Rb[O]?=some (.cells (frs (zr z) 11)))
  (s80:lk sl 80 = .func 93 [.ptr ga 0,.ptr qa 0]) (s13:lk sl 13 = .ptr O 0) (s14:lk sl 14 = .ptr e14 0) (s15:lk sl 15 = .ptr e15 0) (s16:lk sl 16 = .ptr e16 0)
  (hend:∀Q low2,Sm Rb.length O Rb Q->Q[O]?=some (.cells (frs (zr (Nh z q (sp*sgn (gN ps q) (gN ks i)))) 11))->low2<=low->min low O<=low2->Ex F (.round M1) k ⟨mk 180 sl,Q,low2⟩ r):
  Ex F (.round M1) (.code (.rf (.t 80) [81,82] c68f50a c68f50b)::k) ⟨mk 180 sl,Rb,low⟩ r:=by
 have hOl:=(AcF.1 hO).1;have hl14:=AS h14;have hl15:=AS h15;have hl16:=AS h16;refine FA (ks:=ks) (ps:=ps) (p:=q) (ga:=ga) (pa:=qa) (o:=O) (n0:=n0) (ev:=ev) (pv:=pv) (C:=fun j=>Row.cells (frs (zr (Nh z q (if i<j then sp*sgn (gN ps q) (gN ks i)else 0))) 11)) hcx hek hq (by rw[Dc _ _ _ (by omega)];exact s80) hga hqa he hpv hOl heo (by rw[if_neg (by omega),Sg];exact hO) ?_ ?_ ?_
 ·intro j hj h0
  by_cases e:j=i
  ·subst e
   simp only[if_pos (show j<j+1 by omega),if_neg (show ¬j<j by omega),h0,Int.mul_zero]
  ·by_cases c:i<j
   ·simp only[if_pos c,if_pos (show i<j+1 by omega)]
   ·simp only[if_neg c,if_neg (show ¬i<j+1 by omega)]
 ·intro Q j hSQ hM hCQ hj hsg
  have hQl:=hSQ.1;have hML:=(AcF.1 hM).1;rw[ER,uc68f50a];simp only[Fc,uc68k55,uc68k54];rw[B9];refine⟨none,mk 180 sl,[81,82],c68f50a,c68f50b,hM,?_⟩;have hlwM:Ab Q.length Rb.length=Rb.length:=by unfold Ab;split<;>omega
  have hlwo:Ab Rb.length O=O:=by unfold Ab;split<;>omega
  rw[hlwM];obtain⟨Q1,hQ1⟩:∃Q1,Q1=Q.set Rb.length (.loop .busy none (mk 180 sl) [81,82] c68f50a c68f50b):=⟨_,rfl⟩
  rw[<-hQ1];have hS1:Sm Rb.length O Rb Q1:=by rw[hQ1];exact DC hSQ (.inr (AcE _))
  have a14:=Bt hS1 h14 hl14 g14;have a15:=Bt hS1 h15 hl15 g15;have a16:=Bt hS1 h16 hl16 g16;have hCo:Q1[O]?=some (.cells (frs (zr (Nh z q (if i<j then sp*sgn (gN ps q) (gN ks i)else 0))) 11)):=by rw[hQ1,AcH (by omega)];exact hCQ
  have hM0:Q1[Rb.length]?=some (.loop .busy none (mk 180 sl) [81,82] c68f50a c68f50b):=by rw[hQ1,AcM hML]
  have hQ1l:Q1.length=Q.length:=by rw[hQ1,Adh]
  have hback:Q1.set Rb.length (.loop .ready none (mk 180 sl) [81,82] c68f50a c68f50b)=Q:=by
   rw[hQ1,Ad5];apply Adx;intro id
   by_cases c:Rb.length=id
   ·subst c;rw[AcM hML,hM]
   ·rw[AcH c]
  by_cases e:j=i
  ·subst e
   rw[if_neg (by omega),Sg]at hCo;have hp2:(sp*sgn (gN ps q) (gN ks j)).natAbs<=1:=by
    rw[Ac6];have:=Ac1 hsp (QG (q:=gN ps q) (k:=gN ks j));omega
   have hwm:IntKind.i64.wrap (sp*sgn (gN ps q) (gN ks j))=sp*sgn (gN ps q) (gN ks j):=AM (by omega) (by omega);have r63:=fun R:List Row=>BM (rows:=R) (n:=sp*sgn (gN ps q) (gN ks j))
   have hpl:=fun R:List Row=>Lb (rows:=R) (a:=z q) (b:=sp*sgn (gN ps q) (gN ks j)) (by have:=hz q;unfold MX;omega)
   have ixt:=fun R':List Row=>Fm (R:=R') (id:=O) (o:=0) (show q<11 by omega)
   simp only[Ads]at ixt;have ld:=CJ hCo (show q<11 by omega);have hzq:zr z q=((z q:Int):Rat):=rfl;rw[hzq]at ld;have st:=CD (low:=Rb.length) (q:=((z q+sp*sgn (gN ps q) (gN ks j):Int):Rat)) hCo (show q<11 by omega);have hrow:frs (fun j'=>if j'=q then((z q+sp*sgn (gN ps q) (gN ks j):Int):Rat)else zr z j') 11=frs (zr (Nh z q (sp*sgn (gN ps q) (gN ks j)))) 11:=Am fun j' _=>by
    unfold zr Nh
    by_cases c:j'=q
    ·rw[if_pos c,if_pos c,c]
    ·rw[if_neg c,if_neg c]
   rw[hrow,hlwo]at st;generalize sgn (gN ps q) (gN ks j)=s at *;generalize hps:sp*s=t at *;have hM1:(Q1.set O (.cells (frs (zr (Nh z q t)) 11)))[Rb.length]?=some (.loop .busy none (mk 180 sl) [81,82] c68f50a c68f50b):=by
    rw[AcH (by omega),hM0]
   have hput:=Fv (R:=Q) (M:=Rb.length) (o:=O) (x:=.cells (frs (zr (Nh z q t)) 11)) (y:=.loop .busy none (mk 180 sl) [81,82] c68f50a c68f50b) hM (by omega);rw[<-hQ1]at hput;have hone:∀n:Int,fr (n:Rat)=fr (n:Rat):=fun _=>rfl
   simp[-Rat.intCast_add,s13,s14,s15,s16,a14,a15,a16,hps,hwm,r63,hpl,ixt,ld,st,opC,Aw,Ba];rw[CA hM1];refine⟨rfl,by rw[hput.1];exact AcE _,fun id h1 h2=>hput.2.1 id h2,?_,?_,?_⟩
   ·exact hput.2.2
   ·show O<=Ab O Rb.length
    unfold Ab;split<;>omega
   ·show Ab O Rb.length<=Rb.length
    unfold Ab;split<;>omega
  ·have hne:¬((j:Int)=i):=by omega
   simp[s13,s14,s15,s16,a14,a15,a16,hne];rw[CA hM0,hback];refine⟨rfl,AcE _,fun id h1 h2=>rfl,?_,?_,?_⟩
   ·rw[hCQ]
    by_cases c:i<j
    ·rw[if_pos c,if_pos (show i<j+1 by omega)]
    ·rw[if_neg c,if_neg (show ¬i<j+1 by omega)]
   ·show O<=Ab Rb.length Rb.length
    unfold Ab;split<;>omega
   ·show Ab Rb.length Rb.length<=Rb.length
    unfold Ab;split<;>omega
 ·intro Q low2 hSQ hCQ h1 h2
  simp only[if_pos hi]at hCQ;exact hend Q low2 hSQ hCQ h1 h2
end
def zS(ks:List Nat)(a b:Nat):Nat->Int
 |0=>0
 |i+1=>zS ks a b i+sgn a (gN ks i)*sgn b (gN ks i)
theorem XT{ks:List Nat}{a b:Nat}:∀i,(zS ks a b i).natAbs<=i
 |0=>by simp[zS]
 |
  i+1=>by
  have:=XT (ks:=ks) (a:=a) (b:=b) i;have h3:(sgn a (gN ks i)*sgn b (gN ks i)).natAbs<=1:=by
   rw[Ac6];exact Ac1 QG QG
  rw[zS];omega
def CZ(ks ps:List Nat)(a i:Nat):Nat->Int:=fun j=>if j<ps.length then zS ks a (gN ps j) i else 0
def zi(ks ps:List Nat)(z:Nat->Int)(sp:Int)(i q:Nat):Nat->Int:=fun j=>if j<q then z j+sp*sgn (gN ps j) (gN ks i)else z j
theorem Acs{ks ps:List Nat}{z:Nat->Int}{sp:Int}{i:Nat}:zi ks ps z sp i 0=z:=by
 funext j;unfold zi;rw[if_neg (by omega)]
theorem Acv{ks ps:List Nat}{z:Nat->Int}{sp:Int}{i q:Nat}:Nh (zi ks ps z sp i q) q (sp*sgn (gN ps q) (gN ks i))=zi ks ps z sp i (q+1):=by
 funext j;unfold Nh zi
 by_cases c:j=q
 ·rw[if_pos c,if_neg (by omega),if_pos (by omega),c]
 ·rw[if_neg c]
  by_cases c2:j<q
  ·rw[if_pos c2,if_pos (by omega)]
  ·rw[if_neg c2,if_neg (by omega)]
theorem WY{ks ps:List Nat}{a i:Nat}:zi ks ps (CZ ks ps a i) (sgn a (gN ks i)) i ps.length=CZ ks ps a (i+1):=by
 funext j;unfold zi CZ
 by_cases c:j<ps.length
 ·rw[if_pos c,if_pos c,if_pos c,zS]
 ·rw[if_neg c,if_neg c,if_neg c]
section
variable {N:Nat}{ks ps:List Nat}{r:AV×List Row×Nat->Prop}{k:List Itm}
theorem TP{R0:List Row}{lw0 i O G e14 e15 M1:Nat}{sp:Int}{z:Nat->Int}{n0 ev pv:AV}(hM1:KZ (.round M1) R0=true)(hM1O:M1≠O)(hM1l:M1<R0.length)(hlw0:lw0<=R0.length)(hek:ks.length<=10)(hpk:ps.length<=6)(hi:i<ks.length)(hsp:sp.natAbs<=1)(hz:∀j,(z j).natAbs<=100)
  (o0:n0.one=true) (he:El R0 2 ev (Ad .i64 (eC ks)) ks.length) (hpv:El R0 3 pv (Ad .i64 (pC ps)) ps.length) (heo:sid ev≠O) (hpo:sid pv≠O) (hG:Ae R0 G=some [n0,ev,pv]) (hGO:G≠O)
  (h14:Ae R0 e14=some [.int .i64 i]) (h15:Ae R0 e15=some [.int .i64 sp]) (g14:e14≠O) (g15:e15≠O) (hOl:O<R0.length)
  (hend:∀(R:List Row) (low:Nat) (sl:List (Nat×AV)),Sm R0.length O R0 R->R[O]?=some (.cells (frs (zr (zi ks ps z sp i ps.length)) 11))->O<=low->low<=lw0->Ex F (.round M1) [] ⟨mk 180 sl,R,low⟩ r):
  ∀(d q:Nat) (R:List Row) (low:Nat),ps.length-q=d->q<=ps.length->Sm R0.length O R0 R->R[O]?=some (.cells (frs (zr (zi ks ps z sp i q)) 11))->O<=low->low<=lw0->
   Lc68l48 F (.round M1) (.ptr G 0) (.ptr O 0) (.ptr e14 0) (.ptr e15 0) (.int .i64 ps.length) (.int .i64 q) R low r:=by
 intro d
 induction d with
 |zero=>
  intro q R low hd hq hS hO h1 h2;have e:q=ps.length:=by omega
  subst e;unfold Lc68l48;simp;exact hend R low _ hS hO h1 h2
 |succ d ih=>
  intro q R low hd hq0 hS hO h1 h2;have hq:q<ps.length:=by omega
  have hww:IntKind.i64.wrap ((q:Int)+1)=((q+1:Nat):Int):=wS (by omega);have hRl:=hS.1;have he':El R 2 ev (Ad .i64 (eC ks)) ks.length:=Cd hS he (by rcases BA he with e|e;exact .inl e;exact .inr ⟨e,heo⟩);have hp':El R 3 pv (Ad .i64 (pC ps)) ps.length:=Cd hS hpv (by rcases BA hpv with e|e;exact .inl e;exact .inr ⟨e,hpo⟩);have hG':=Bt hS hG (AS hG) hGO;have h14':=Bt hS h14 (AS h14) g14;have h15':=Bt hS h15 (AS h15) g15;have A9:=An he;have one2:=An hpv;have hlw:Ab low R.length=low:=lwS (by omega);have hGa:=Ah hG' [.cells [.int .i64 q]];have hsd:=DB (rows:=R++[.cells [.int .i64 q]]) (n0:=n0) (ev:=ev) (pv:=pv) (i:=q) o0 A9 one2;obtain⟨Rb,hRb⟩:∃Rb,Rb=R++[.cells [.int .i64 q],.cells [n0,ev,pv],.cells [.int .i64 q]]:=⟨_,rfl⟩
  have hRbl:Rb.length=R.length+3:=by rw[hRb];simp
  have hSb:Sm R0.length O R0 Rb:=by rw[hRb];exact BI hS _
  have hrf:∀sl:List (Nat×AV),lk sl 80 = .func 93 [.ptr (R.length+1) 0,.ptr (R.length+2) 0]->lk sl 2 = .ptr G 0->lk sl 13 = .ptr O 0->lk sl 14 = .ptr e14 0->lk sl 15 = .ptr e15 0->lk sl 16 = .ptr R.length 0->lk sl 74 = .int .i64 ps.length->lk sl 75 = .int .i64 q->
    Ex F (.round M1) (.code (.rf (.t 80) [81,82] c68f50a c68f50b)::[.inBlock 8,.inBlock 7,.code c68k49,.inLoop c68l48,.inBlock 6,.inBlock 5]) ⟨mk 180 sl,Rb,low⟩ r:=by
   intro sl s80 s2 s13 s14 s15 s16 s74 s75;refine X7 (sp:=sp) (z:=zi ks ps z sp i q) (i:=i) (q:=q) (n0:=n0) (ev:=ev) (pv:=pv) ?_ hek hi hq hpk hsp (fun j=>?_) (by rw[hRb];exact Ag he' _) (by rw[hRb];exact Ag hp' _) heo (ga:=R.length+1) (qa:=R.length+2) (by rw[hRb];simp[Ae]) (by rw[hRb];simp[Ae]) (by rw[hRb];exact Ah h14' _) (by rw[hRb];exact Ah h15' _)
    (e16:=R.length) (by rw[hRb];simp[Ae]) g14 g15 (by omega) (by rw[hRb,AcD (by omega)];exact hO) s80 s13 s14 s15 s16 (fun Q low2 hSQ hOQ l1 l2=>?_)
   ·have:=hSb.2 M1 hM1l hM1O
    unfold KZ at hM1 ⊢;simp only[this]at hM1 ⊢;exact hM1
   ·have h3:(sp*sgn (gN ps j) (gN ks i)).natAbs<=1:=by
     rw[Ac6];exact Ac1 hsp QG
    have:=hz j;unfold zi
    split<;>omega
   ·rw[Acv]at hOQ
    have hSQ2:Sm R0.length O R0 Q:=A7 hSb hSQ (by omega);have:=ih (q+1) Q low2 (by omega) (by omega) hSQ2 hOQ (by omega) (by omega);simp[s2,s13,s14,s15,s74,s75,hww];simpa using this
  rw[hRb]at hrf;unfold Lc68l48;simp[hq,hGa,seg,hsd,hlw];refine hrf _ ?_ ?_ ?_ ?_ ?_ ?_ ?_ ?_<;>simp
end
section
variable {N:Nat}{ks ps:List Nat}{r:AV×List Row×Nat->Prop}{k:List Itm}
theorem Ua{Rb:List Row}{low p O G ga pa:Nat}{n0 ev pv:AV}{sl:List (Nat×AV)}(hek:ks.length<=10)(hp:p<ps.length)(hpk:ps.length<=6)(o0:n0.one=true)
  (he:El Rb 2 ev (Ad .i64 (eC ks)) ks.length) (hpv:El Rb 3 pv (Ad .i64 (pC ps)) ps.length) (heo:sid ev≠O) (hpo:sid pv≠O) (hG:Ae Rb G=some [n0,ev,pv]) (hGO:G≠O)
  (hga:Ae Rb ga=some [n0,ev,pv]) (hpa:Ae Rb pa=some [.int .i64 p]) (hO:Rb[O]?=some (.cells (frs (zr fun _=>0) 11))) (hlo:low<=O)
  (s69:lk sl 69 = .func 93 [.ptr ga 0,.ptr pa 0]) (s13:lk sl 13 = .ptr O 0) (s2:lk sl 2 = .ptr G 0)
  (hend:∀Q,Sm Rb.length O Rb Q->Q[O]?=some (.cells (frs (zr (CZ ks ps (gN ps p) ks.length)) 11))->Ex F C68 k ⟨mk 180 sl,Q,low⟩ r):
  Ex F C68 (.code (.rf (.t 69) [70,71] c68f47a c68f47b)::k) ⟨mk 180 sl,Rb,low⟩ r:=by
 have hOl:=(AcF.1 hO).1;have hz0:CZ ks ps (gN ps p) 0=fun _=>0:=by
  funext j;unfold CZ;split<;>rfl
 refine FA (ks:=ks) (ps:=ps) (p:=p) (ga:=ga) (pa:=pa) (o:=O) (n0:=n0) (ev:=ev) (pv:=pv) (C:=fun i=>Row.cells (frs (zr (CZ ks ps (gN ps p) i)) 11)) rfl hek hp (by rw[Dc _ _ _ (by omega)];exact s69) hga hpa he hpv hOl heo (by rw[hz0];exact hO) ?_ ?_ ?_
 ·intro i hi h0
  congr 2;funext j;unfold zr CZ
  split
  ·rw[zS,h0,Int.zero_mul,Int.add_zero]
  ·rfl
 ·intro Q i hSQ hM hCQ hi hsg
  have hQl:=hSQ.1;have hML:=(AcF.1 hM).1;obtain⟨S,hS⟩:∃S,S=sgn (gN ps p) (gN ks i):=⟨_,rfl⟩
  have hS1:S.natAbs<=1:=by rw[hS];exact QG
  rw[<-hS,ER,uc68f47a];obtain⟨Q2,hQ2⟩:∃Q2,Q2=Q++[Row.cells [.int .i64 i],.cells [.int .i64 S]]:=⟨_,rfl⟩
  have hQ2l:Q2.length=Q.length+2:=by rw[hQ2];simp
  obtain⟨Q1,hQ1⟩:∃Q1,Q1=Q2.set Rb.length (.loop .busy none (mk 180 sl) [70,71] c68f47a c68f47b):=⟨_,rfl⟩
  have hQ1l:Q1.length=Q.length+2:=by rw[hQ1,Adh,hQ2l]
  have hSb:Sm Rb.length O Rb Q1:=by rw[hQ1,hQ2];exact DC (BI hSQ _) (.inr (AcE _))
  have hM2:Q2[Rb.length]?=some (.loop .ready none (mk 180 sl) [70,71] c68f47a c68f47b):=by rw[hQ2,AcD hML];exact hM
  have hM1:Q1[Rb.length]?=some (.loop .busy none (mk 180 sl) [70,71] c68f47a c68f47b):=by rw[hQ1,AcM (by omega)]
  have hG1:=Bt hSb hG (AS hG) hGO;have he1:El Q1 2 ev (Ad .i64 (eC ks)) ks.length:=Cd hSb he (by rcases BA he with e|e;exact .inl e;exact .inr ⟨e,heo⟩);have hp1:El Q1 3 pv (Ad .i64 (pC ps)) ps.length:=Cd hSb hpv (by rcases BA hpv with e|e;exact .inl e;exact .inr ⟨e,hpo⟩);have h14:Ae Q1 Q.length=some [.int .i64 i]:=by
   unfold Ae;rw[hQ1,AcH (by omega),hQ2,AcG (AcE _),Ac8];rfl
  have h15:Ae Q1 (Q.length+1)=some [.int .i64 S]:=by
   unfold Ae;rw[hQ1,AcH (by omega),hQ2,AcG (by omega),AcS];rfl
  have hO1:Q1[O]?=some (.cells (frs (zr (zi ks ps (CZ ks ps (gN ps p) i) S i 0)) 11)):=by
   rw[Acs,hQ1,AcH (by omega),hQ2,AcD (by omega)];exact hCQ
  have hlast:=TP (R0:=Q1) (lw0:=Rb.length) (i:=i) (O:=O) (G:=G) (e14:=Q.length) (e15:=Q.length+1) (M1:=Rb.length) (sp:=S) (z:=CZ ks ps (gN ps p) i) (n0:=n0) (ev:=ev) (pv:=pv) (by unfold KZ;simp only[hM1]) (by omega) (by omega) (by omega) hek hpk hi hS1 (fun j=>by
    unfold CZ;have:=XT (ks:=ks) (a:=gN ps p) (b:=gN ps j) i
    split<;>simp<;>omega) o0 he1 hp1 heo hpo hG1 hGO h14 h15 (by omega) (by omega) (by omega)
   (r:=fun x=>x.1 = .bool true/\Q.length<=x.2.1.length/\(∀id,id<Q.length->id≠O->x.2.1[id]?=Q[id]?)/\x.2.1[O]?=some (Row.cells (frs (zr (CZ ks ps (gN ps p) (i+1))) 11))/\O<=x.2.2/\x.2.2<=Rb.length) (fun R low2 sl2 hSR hOR l1 l2=>by
    have hRl:=hSR.1;have hMR:R[Rb.length]?=some (.loop .busy none (mk 180 sl) [70,71] c68f47a c68f47b):=by rw[hSR.2 _ (by omega) (by omega)];exact hM1
    rw[CA hMR];refine⟨rfl,by simp;omega,fun id h1 h2=>?_,?_,?_,?_⟩
    ·by_cases c:Rb.length=id
     ·subst c
      show(R.set Rb.length _)[Rb.length]?=_;rw[AcM (by omega),hM]
     ·show(R.set Rb.length _)[id]?=_
      rw[AcH c,hSR.2 id (by omega) h2,hQ1,AcH c,hQ2,AcD h1]
    ·show(R.set Rb.length _)[O]?=_
     rw[AcH (by omega),hOR,hS,WY]
    ·show O<=Ab low2 Rb.length
     unfold Ab;split<;>omega
    ·show Ab low2 Rb.length<=Rb.length
     unfold Ab;split<;>omega) _ 0 Q1 Rb.length rfl (AcX _) (A2 (AcE _)) hO1 (by omega) (AcE _)
  have ln:=AF hp1;have hlwM:Ab Q.length Rb.length=Rb.length:=by unfold Ab;split<;>omega
  have hrest:∀sl':List (Nat×AV),lk sl' 2 = .ptr G 0->lk sl' 13 = .ptr O 0->lk sl' 14 = .ptr Q.length 0->lk sl' 15 = .ptr (Q.length+1) 0->
    Ex F (.round Rb.length) [.rfBegin,.code c68f47b] ⟨mk 180 sl',Q2,Q.length⟩ fun x=>x.1 = .bool true/\Q.length<=x.2.1.length/\(∀id,id<Q.length->id≠O->x.2.1[id]?=Q[id]?)/\x.2.1[O]?=some (Row.cells (frs (zr (CZ ks ps (gN ps p) (i+1))) 11))/\O<=x.2.2/\x.2.2<=Rb.length:=by
   intro sl' t2 t13 t14 t15;rw[B9];refine⟨none,mk 180 sl,[70,71],c68f47a,c68f47b,hM2,?_⟩;rw[hlwM,<-hQ1];simp[t2,t13,t14,t15,hG1,ln];simpa using hlast
  rw[hQ2]at hrest;have hlq:Ab Q.length Q.length=Q.length:=by unfold Ab;split<;>omega
  have hlq1:Ab Q.length (Q.length+1)=Q.length:=by unfold Ab;split<;>omega
  simp[hlq,hlq1];refine hrest _ ?_ ?_ ?_ ?_<;>simp[s2,s13]
 ·intro Q low2 hSQ hCQ h1 h2
  have e:low2=low:=by omega
  rw[e];exact hend Q hSQ hCQ
end
end Go.Abs