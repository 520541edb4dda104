/- The texts that the row uses, part 6. -/
import Derived.Test.YtichbmhjgbjiiaaDoorBG5
import Derived.AtR
import Derived.Orders
import Derived.KernelRfl
import Derived.Laws.Cells
import Derived.Laws.CopyRow
import Derived.Laws.Append
import Derived.Laws.AppendOwn
import Derived.Laws.Entries
import Derived.ArgAppend
import Derived.ChangeKeysEq
import Derived.WideLaws
import Derived.Laws.Small
import Derived.Laws.StructEq
import Derived.Laws.Cover3
import Derived.Laws.Tables
import Derived.Laws.Rows
import Derived.Below
import Derived.Laws.IdiomCopy
import Derived.RangeFuncNested
import Derived.Test.YtichbmhjgbjiiaaDoorProg
import Derived.Test.YtichbmhjgbjiiaaDoorRows
import Derived.ProofKit
import Derived.LaidMore
import Derived.OpenShut
import Derived.Stop.Joined
import Derived.ChangeSlices
import Derived.SizedLaws
import Derived.SevenTiedAt
import Derived.WalkKit
import Derived.ShutString
import Derived.ChangeOld
import Derived.Carry
set_option linter.unusedVariables false
set_option linter.unusedSimpArgs false
namespace Go.Abs
theorem bx_st{R:List Row}{low:Nat}{q:Rat}{a b:AV}(h:low<=R.length):evE (R++[.cells [a,b]]) low (.storeN 2 (.c (.ptr R.length 0)) (.c (fr q)))=some (.tup [],R++[.cells [.int .i64 q.num,.int .i64 (q.den:Int)]],low):=by
 have hc:cells? (R++[.cells [a,b]]) R.length=some [a,b]:=by unfold cells?;simp
 have hl:lower low R.length=low:=by unfold lower;rw[if_neg (by omega)]
 unfold fr
 rw[evE_storeN]
 simp only[hc,Option.bind_some]
 rw[if_pos ⟨rfl,by simp,rfl⟩,hl]
 simp[splice]
def elo(M:Nat->Nat->Rat)(k c i:Nat):Nat->Nat->Rat:=fun i' j'=>if i'<i/\i'≠k then M i' j'-M k j'*M i' c else M i' j'
section
variable {b:Nat}{O:Nat}{idf:Nat->Nat}{cap:Nat->Cap}{n w:Nat}{r:AV×List Row×Nat->Prop}{x0 x5 x7 x9 x10 x31 x32 x95 x96 x97:AV}
set_option maxHeartbeats 8000000 in
theorem red_l8{Z k c:Nat}{M:Nat->Nat->Rat}{cO:Cap}(hk:k<n)(hcw:c<w)(hn:n<=1000)(hw:w<=1000)
  (hfit:∀i j,i<n->i≠k->j<w->sm (M i c)/\sm (M k j)/\sm (M k j*M i c)/\∃L,(M i j).den∣L/\(M k j*M i c).den∣L/\0<L/\L<=MX/\(sc (M i j) L).natAbs+(sc (M k j*M i c) L).natAbs<=MX) {base:Nat}
  {R0:List Row} (hZ:∀i,i<n->idf i≠Z) (hZ0:R0[Z]?=some (.cells [.int .i64 0,.int .i64 1])) (hbase:base<=R0.length)
  (hc:∀(R:List Row) (low:Nat) (sl:List (Nat×AV)),MH b R O idf cap (elo M k c n) n w->Fx R0 R (fun id=>∃i,i<n/\id=idf i)->b<=low->low<=base->lk sl 0 = .slice O 0 n cO->lk sl 5 = .ptr Z 0->lk sl 7=x7->lk sl 9 = .int .i64 k->lk sl 10 = .int .i64 c->lk sl 31=x31->lk sl 32=x32->
   Ex F C64 [.code c64s7,.inBlock 3,.code c64k4,.inLoop c64l3,.inBlock 2,.code c64s2,.inScope c64p0] ⟨mk 148 sl,R,low⟩ r):
  ∀(d i:Nat) (R:List Row) (low:Nat),n-i=d->i<=n->MH b R O idf cap (elo M k c i) n w->Fx R0 R (fun id=>∃i,i<n/\id=idf i)->b<=low->low<=base->
  Lc64l8 F C64 (.slice O 0 n cO) (.ptr Z 0) x7 (.int .i64 k) (.int .i64 c) (.slice (idf k) 0 w (cap k)) x31 x32 (.slice O 0 n cO) (.int .i64 n) (.int .i64 i) R low r:=by
 intro d
 induction d with
 |
  zero=>
  intro i R low hd hi h hF hlow hlb
  have hi':i=n:=by omega
  subst hi'
  unfold Lc64l8
  simp[-uc64s7]
  refine hc R low _ h hF hlow hlb ?_ ?_ ?_ ?_ ?_ ?_ ?_
  all_goals simp
 |
  succ d ih=>
  intro i R low hd hi0 h hF hlow hlb
  have hi:i<n:=by omega
  have hwi:IntKind.i64.wrap ((i:Int)+1)=((i+1:Nat):Int):=by rw[wrap64 (by omega) (by omega)];omega
  have l1:=h.row hi
  have l2:=h.ld hi hcw
  have l3:=fr_row (q:=0) (hF.row hZ0 fun⟨i',h1,h2⟩=>hZ i' h1 h2.symm)
  have e0:elo M k c i i c=M i c:=by unfold elo;rw[if_neg (by omega)]
  rw[e0]at l2
  have ixO:=fun R:List Row=>sl_ix (R:=R) (O:=O) (c:=cO) hi
  have ixc:=fun R:List Row=>fr_ix (R:=R) (id:=idf i) (c:=cap i) hcw
  by_cases hik:i=k
  ·subst hik
   have hs:∀i' j',elo M i c i i' j'=elo M i c (i+1) i' j':=fun i' j'=>by
    unfold elo
    by_cases e:i'=i
    ·rw[if_neg (fun h=>h.2 e),if_neg (fun h=>h.2 e)]
    ·by_cases e2:i'<i
     ·rw[if_pos ⟨e2,e⟩,if_pos ⟨by omega,e⟩]
     ·rw[if_neg (fun h=>e2 h.1),if_neg (fun h=>by omega)]
   have:=ih (i+1) R low (by omega) (by omega) (h.congr fun i' j' _ _=>hs i' j') hF hlow hlb
   unfold Lc64l8
   simp[hi,l1,l2,l3,ixO,ixc,fr_eqA,hwi]
   simpa using this
  have hikZ:¬(i:Int)=(k:Int):=by omega
  by_cases hz:M i c=0
  ·have hs:∀i' j',elo M k c i i' j'=elo M k c (i+1) i' j':=fun i' j'=>by
    unfold elo
    by_cases e:i'=i
    ·subst e
     rw[if_neg (by omega),if_pos ⟨by omega,hik⟩,hz]
     grind
    ·by_cases e2:i'<i/\i'≠k
     ·rw[if_pos e2,if_pos ⟨by omega,e2.2⟩]
     ·rw[if_neg e2,if_neg (fun h=>e2 ⟨by omega,h.2⟩)]
   have:=ih (i+1) R low (by omega) (by omega) (h.congr fun i' j' _ _=>hs i' j') hF hlow hlb
   unfold Lc64l8
   simp[hi,hikZ,l1,l2,l3,ixO,ixc,fr_eqA,hz,hwi]
   simpa using this
  ·have hRn:=h.ne (id:=R.length) (Nat.le_refl _)
   have hlR:low<=R.length:=by have:=hF.1;omega
   have hk':elo M k c i k=M k:=by funext j;unfold elo;rw[if_neg (fun h=>h.2 rfl)]
   have hi':∀j,elo M k c i i j=M i j:=fun j=>by unfold elo;rw[if_neg (by omega)]
   have hl10:=red_l10 (b:=b) (O:=O) (idf:=idf) (cap:=cap) (n:=n) (w:=w) (r:=r) (x0:=.slice O 0 n cO) (x5:=.ptr Z 0) (x7:=x7) (x9:=.int .i64 k) (x10:=.int .i64 c) (x31:=x31) (x32:=x32) (x95:=.slice O 0 n cO) (x96:=.int .i64 n) (x97:=.int .i64 i) (B:=R.length) (q:=M i c) (M:=elo M k c i) (base:=base) (R0:=R++[.cells [.int .i64 (M i c).num,.int .i64 ((M i c).den:Int)]]) hk hi hik hw (hfit i c hi hik hcw).1 (fun j hj=>by rw[hk',hi'];exact(hfit i j hi hik hj).2) (hRn.2 i hi).symm (by simp) (fun R1 low1 sl g1 g2 g3 g4 g5 s0 s5 s7 s9 s10 s12 s31 s32 s95 s96 s97=>by
    have hs:∀i' j',(if i'=i then elo M k c i i j'-elo M k c i k j'*M i c else elo M k c i i' j')=elo M k c (i+1) i' j':=fun i' j'=>by
     rw[hk',hi']
     by_cases e:i'=i
     ·subst e
      rw[if_pos rfl]
      unfold elo
      rw[if_pos ⟨by omega,hik⟩]
     ·rw[if_neg e]
      unfold elo
      by_cases e2:i'<i/\i'≠k
      ·rw[if_pos e2,if_pos ⟨by omega,e2.2⟩]
      ·rw[if_neg e2,if_neg (fun h=>e2 ⟨by omega,h.2⟩)]
    have:=ih (i+1) R1 low1 (by omega) (by omega) (g1.congr fun i' j' _ _=>hs i' j') (hF.trans ((Fx.app _).trans (g2.mono fun id _ e=>⟨i,hi,e⟩))) g4 g5
    simp[s0,s5,s7,s9,s10,s12,s31,s32,s95,s96,s97,hwi]
    simpa using this) w 0 (R++[.cells [.int .i64 (M i c).num,.int .i64 ((M i c).den:Int)]]) low (by omega) (by omega) ((h.app _).congr fun i' j' _ _=>by rw[if_neg (by omega)]) Fx.refl rfl hlow hlb
   unfold Lc64l8
   simp[hi,hikZ,l1,l2,l3,ixO,ixc,fr_eqA,hz,hwi,bx_st hlR]
   simpa using hl10
end
end Go.Abs
namespace Go.Abs
theorem swp_ne{k a i j:Nat}(h:swp k a i=swp k a j):i=j:=by
 unfold swp at h
 split at h<;>split at h<;>(try split at h)<;>(try split at h)<;>omega
theorem swp_in{k a i n:Nat}(hk:k<n)(ha:a<n)(hi:i<n):swp k a i<n:=by unfold swp;split;exact ha;split;exact hk;exact hi
theorem swp_tab{n k a:Nat}(hk:k<n)(ha:a<n)(f:Nat->AV):(((List.range n).map f).set k (f a)).set a (f k)=(List.range n).map fun i=>f (swp k a i):=by
 apply List.ext_getElem (by simp)
 intro i h1 h2
 simp only[List.length_map,List.length_range]at h2
 simp only[List.getElem_set,List.getElem_map,List.getElem_range]
 unfold swp
 by_cases e1:a=i
 ·subst e1
  by_cases e2:a=k
  ·subst e2;simp
  ·simp[e2]
 ·by_cases e2:k=i
  ·subst e2;simp[e1]
  ·simp[e1,e2,Ne.symm e1,Ne.symm e2]
section
variable {b:Nat}{R:List Row}{O:Nat}{idf:Nat->Nat}{cap:Nat->Cap}{M:Nat->Nat->Rat}{n w:Nat}
theorem MH.swap(h:MH b R O idf cap M n w){k a:Nat}(hk:k<n)(ha:a<n):MH b (R.set O (.cells ((List.range n).map fun i=>AV.slice (idf (swp k a i)) 0 w (cap (swp k a i))))) O (fun i=>idf (swp k a i)) (fun i=>cap (swp k a i)) (fun i=>M (swp k a i)) n w where
 o:=by rw[List.getElem?_set_self (List.getElem?_eq_some_iff.1 h.o).1]
 r:=fun i hi=>by
  rw[List.getElem?_set_ne (h.io _ (swp_in hk ha hi)).symm]
  exact h.r _ (swp_in hk ha hi)
 inj:=fun i j hi hj e=>swp_ne (h.inj _ _ (swp_in hk ha hi) (swp_in hk ha hj) e)
 io:=fun i hi=>h.io _ (swp_in hk ha hi)
 ob:=h.ob
 ib:=fun i hi=>h.ib _ (swp_in hk ha hi)
end
section
variable {cx:Ctx}{k:List Itm}{r:AV×List Row×Nat->Prop}
theorem red_ops{l0:List (Nat×AV)}{R:List Row}{low:Nat}:Ex F cx (.ops [.one ⟨some 70,.idxS 1 (.t 59) (.t 60),none⟩,.one ⟨none,.store1 (.t 70) (.t 68),none⟩]::k) ⟨mk 148 l0,R,low⟩ r↔
  bnd (evP R (.idxS 1 (.c (lk l0 59)) (.c (lk l0 60)))) fun v=>bnd (evE R low (.store1 (.c v) (.c (lk l0 68)))) fun q=>Ex F cx k ⟨mk 148 ((70,v)::l0),q.2.1,q.2.2⟩ r:=by
 rw[Ex_runQ rfl]
 exact Iff.rfl
set_option maxHeartbeats 8000000 in
theorem red_k46{R:List Row}{id low i j n:Nat}{c:Cap}{l:List AV}{sl:List (Nat×AV)}{vi vj:AV}(hW:R[id]?=some (.cells l))(hi:i<n)(hj:j<n)(hn:n<=l.length)
  (h1:l.all AV.one=true) (hli:l[i]?=some vi) (hlj:l[j]?=some vj)
  (s0:lk sl 0 = .slice id 0 n c) (s9:lk sl 9 = .int .i64 i) (s11:lk sl 11 = .int .i64 j)
  (h:∀sl',(∀j∈[0,5,7,9,10,11,31,32],lk sl' j=lk sl j)->Ex F cx k ⟨mk 148 sl',R.set id (.cells ((l.set i vj).set j vi)),lower low id⟩ r):
  Ex F cx (.code c64k46::k) ⟨mk 148 sl,R,low⟩ r:=by
 have hWl:=(List.getElem?_eq_some_iff.1 hW).1
 have hrow:row? R id=some l:=by unfold row?;rw[hW]
 have hm:maskR R id i 1=R.set id (.cells (splice l i [.any])):=by unfold maskR;rw[hW];rfl
 have iI:idx? (i:Int) n=some i:=by rw[idx?_ok (by omega) (by omega),Int.toNat_natCast]
 have iJ:idx? (j:Int) n=some j:=by rw[idx?_ok (by omega) (by omega),Int.toNat_natCast]
 have t7:Nat.testBit 8179 7=true:=by decide
 have t11:Nat.testBit 8179 11=true:=by decide
 have oi:vi.one=true:=List.all_eq_true.1 h1 _ (List.mem_of_getElem? hli)
 have oj:vj.one=true:=List.all_eq_true.1 h1 _ (List.mem_of_getElem? hlj)
 have pI:∀R:List Row,evP R (.idxS 1 (.c (.slice id 0 n c)) (.c (.int .i64 i)))=some (.ptr id i):=fun R=>sl_ix hi
 have pJ:∀R:List Row,evP R (.idxS 1 (.c (.slice id 0 n c)) (.c (.int .i64 j)))=some (.ptr id j):=fun R=>sl_ix hj
 rw[uc64k46,Ex_kill,kill_dead,Ex_ops,uc64r46,Ex_grpwR]
 simp[evalG_mv,evalG_idxS,evalG_load1,evalG_lenc,evalG_nil,subO,s0,s9,s11,pI,pJ,hrow,hli,hlj,hm,baseW,stored,t7,t11]
 refine⟨id,i,⟨rfl,rfl⟩,?_⟩
 have hcel:cells? (R.set id (.cells (l.set i vj))) id=some (l.set i vj):=by unfold cells?;rw[List.getElem?_set_self hWl]
 have hset3:(R.set id (.cells (l.set i vj))).set id (.cells ((l.set i vj).set j vi))=R.set id (.cells ((l.set i vj).set j vi)):=by rw[List.set_set]
 have hll:lower (lower low id) id=lower low id:=by unfold lower;split<;>simp<;>omega
 refine⟨_,by simp[hW,oj,show i<l.length by omega];rfl,?_⟩
 try simp only[List.map_nil,List.append_nil]
 rw[red_ops]
 simp[pJ,hcel,oi,show j<l.length by omega,hset3,hll]
 refine h _ ?_
 intro j hj
 simp only[List.mem_cons,List.not_mem_nil,or_false]at hj
 rcases hj with rfl|rfl|rfl|rfl|rfl|rfl|rfl|rfl<;>simp[s0,s9,s11]
end
end Go.Abs
namespace Go.Abs
def fsl(s:GS)(n:Nat):List Int:=(List.range n).map fun i=>if i<s.k then(s.κ i:Int)else -1
theorem fsl_len{s:GS}{n:Nat}:(fsl s n).length=n:=by simp[fsl]
theorem fsl_set{s:GS}{n c:Nat}{M:Nat->Nat->Rat}(hk:s.k<n):(fsl s n).set s.k (c:Int)=fsl ⟨M,s.k+1,fun t=>if t=s.k then c else s.κ t⟩ n:=by
 unfold fsl
 apply List.ext_getElem (by simp)
 intro i h1 h2
 simp only[List.getElem_set,List.getElem_map,List.getElem_range]
 by_cases e:s.k=i
 ·subst e;simp
 ·rw[if_neg e]
  by_cases e2:i<s.k
  ·rw[if_pos e2,if_pos (by omega),if_neg (fun h=>e h.symm)]
  ·rw[if_neg e2,if_neg (by omega)]
structure RS(b:Nat)(R0 R:List Row)(O FI:Nat)(idf0 idf:Nat->Nat)(cap:Nat->Cap)(M:Nat->Nat->Rat)(n w:Nat)(l:List Int):Prop where
 mh:MH b R O idf cap M n w
 fx:Fx R0 R (fun id=>id=O\/id=FI\/∃i,i<n/\id=idf0 i)
 pm:∀i,i<n->∃i',i'<n/\idf i=idf0 i'
 fi:R[FI]?=some (.cells (nums .i64 l))
theorem elo_elm{M:Nat->Nat->Rat}{n k a c:Nat}{i j:Nat}(hi:i<n)(hj:c<n\/True):elo (fun i' j'=>if i'=k then M (swp k a k) j'/M a c else M (swp k a i') j') k c n i j=elm M k a c i j:=by
 have e:swp k a k=a:=by unfold swp;rw[if_pos rfl]
 unfold elo elm
 by_cases h:i=k
 ·subst h
  rw[if_neg (fun h=>h.2 rfl),if_pos rfl]
  simp only[if_true,e]
 ·rw[if_pos ⟨hi,h⟩,if_neg h]
  simp only[if_neg h,if_true,e]
theorem nums_st{R:List Row}{id i low:Nat}{l:List Int}{x:Int}(h:R[id]?=some (.cells (nums .i64 l)))(hi:i<l.length):evE R low (.store1 (.c (.ptr id i)) (.c (.int .i64 x)))=some (.tup [],R.set id (.cells (nums .i64 (l.set i x))),lower low id):=by
 have hc:cells? R id=some (nums .i64 l):=by unfold cells?;rw[h]
 have hl:(nums .i64 l).length=l.length:=by simp[nums]
 rw[evE_store1]
 simp only[hc,Option.bind_some]
 rw[if_pos ⟨by omega,rfl⟩]
 simp[nums,List.map_set]
theorem MH.oth{b:Nat}{R:List Row}{O:Nat}{idf:Nat->Nat}{cap:Nat->Cap}{M:Nat->Nat->Rat}{n w:Nat}(h:MH b R O idf cap M n w){id:Nat}{y:Row}(h1:id≠O)(h2:∀i,i<n->id≠idf i):MH b (R.set id y) O idf cap M n w:=
 {h with
  o:=by rw[List.getElem?_set_ne h1];exact h.o
  r:=fun i hi=>by rw[List.getElem?_set_ne (h2 i hi)];exact h.r i hi}
section
variable {b:Nat}{O FI Z:Nat}{idf0:Nat->Nat}{n w cols:Nat}{A:Nat->Nat->Rat}{cO cF:Cap}{r:AV×List Row×Nat->Prop}
set_option maxHeartbeats 16000000 in
theorem red_l3{base:Nat}{R0:List Row}(hn:n<=1000)(hw:w<=1000)(hcw:cols<=w)(hb:Bd A n w cols)(hk5:∀c a,c<cols->(gjR A n c).k<=a->a<n->(gjR A n c).M a c≠0->(gjR A n c).k<=5)
  (hbase:base<=R0.length) (hOb:O<base) (hbF:b<=FI) (hFO:FI≠O) (hFi:∀i,i<n->idf0 i≠FI) (hZO:Z≠O) (hZF:Z≠FI) (hZi:∀i,i<n->idf0 i≠Z) (hZ0:R0[Z]?=some (.cells [.int .i64 0,.int .i64 1]))
  (hc:∀(R:List Row) (low:Nat) (sl:List (Nat×AV)) (idf:Nat->Nat) (cap:Nat->Cap),RS b R0 R O FI idf0 idf cap (gjR A n cols).M n w (fsl (gjR A n cols) n)->b<=low->low<=base->(low=base->∀id,id<base->R[id]?=R0[id]?)->lk sl 7 = .slice FI 0 n cF->
   Ex F C64 [.code c64s2,.inScope c64p0] ⟨mk 148 sl,R,low⟩ r):
  ∀(d c:Nat) (R:List Row) (low:Nat) (idf:Nat->Nat) (cap:Nat->Cap),cols-c=d->c<=cols->RS b R0 R O FI idf0 idf cap (gjR A n c).M n w (fsl (gjR A n c) n)->b<=low->low<=base->(low=base->∀id,id<base->R[id]?=R0[id]?)->
  Lc64l3 F C64 (.slice O 0 n cO) (.ptr Z 0) (.slice FI 0 n cF) (.int .i64 ((gjR A n c).k:Int)) (.int .i64 cols) (.int .i64 c) R low r:=by
 intro d
 induction d with
 |
  zero=>
  intro c R low idf cap hd hc' h hlow hlb hq
  have e:c=cols:=by omega
  subst e
  unfold Lc64l3
  simp[-uc64s2]
  refine hc R low _ idf cap h hlow hlb hq ?_
  simp
 |
  succ d ih=>
  intro c R low idf cap hd hc0 h hlow hlb hq
  have hcc:c<cols:=by omega
  have hcw':c<w:=by omega
  have hwc:IntKind.i64.wrap ((c:Int)+1)=((c+1:Nat):Int):=by rw[wrap64 (by omega) (by omega)];omega
  obtain⟨σ,hgj⟩:=gjR_ok (A:=A) (n:=n) c
  have hkn:=hgj.kn
  have hnx:gjR A n (c+1)=gst n (gjR A n c) c:=rfl
  have hfnd:=fnd_ok (M:=(gjR A n c).M) (c:=c) (n:=n) (n-(gjR A n c).k) (gjR A n c).k (by omega)
  generalize hs:gjR A n c=s at *
  have hZR:=h.fx.row hZ0 (fun hz=>by
   rcases hz with hz|hz|⟨i,h1,h2⟩
   ·exact hZO hz
   ·exact hZF hz
   ·exact hZi i h1 h2.symm)
  unfold Lc64l3
  simp[hcc]
  refine red_l51 (k:=s.k) hcw' hn h.mh (cO:=cO) hZR (fun sl a s0 s5 s7 s9 s10 s11 s31 s32 ha=>?_) (n-s.k) s.k rfl hkn rfl
  rw[<-ha]at hfnd
  obtain⟨f1,f2,f3,f4⟩:=hfnd
  have hgst:gst n s c=if a<n then⟨elm s.M s.k a c,s.k+1,fun t=>if t=s.k then c else s.κ t⟩else s:=by
   unfold gst
   simp only[<-ha]
  by_cases han:a<n
  ·have hkl:s.k<n:=by omega
   rw[if_pos han]at hgst
   have hfit:=hgj.fit hb hcc hcw (by have:=hk5 c a hcc;rw[hs]at this;exact this f1 han (f3 han)) f1 han (f3 han)
   have hnZ:¬(a:Int)=(n:Int):=by omega
   have hn0:=f3 han
   have ekk:swp s.k a s.k=a:=by unfold swp;rw[if_pos rfl]
   have hOl:b<=O:=h.mh.ob
   have m1:=h.mh.swap hkl han
   have hsl:=swp_tab hkl han fun i=>AV.slice (idf i) 0 w (cap i)
   obtain⟨idf',hidf⟩:∃f,f=fun i=>idf (swp s.k a i):=⟨_,rfl⟩
   obtain⟨cap',hcap⟩:∃f,f=fun i=>cap (swp s.k a i):=⟨_,rfl⟩
   obtain⟨M',hM⟩:∃f,f=fun i=>s.M (swp s.k a i):=⟨_,rfl⟩
   rw[<-hidf,<-hcap,<-hM]at m1
   have hMk:M' s.k=s.M a:=by rw[hM];simp only[ekk]
   have hMi:∀i,M' i=s.M (swp s.k a i):=fun i=>by rw[hM]
   have hpm:∀i,i<n->∃i',i'<n/\idf' i=idf0 i':=fun i hi=>by rw[hidf];exact h.pm _ (swp_in hkl han hi)
   have hbl:=h.fx.1
   simp[s0,s5,s7,s9,s10,s11,s31,s32,hnZ,-uc64k46]
   refine red_k46 (i:=s.k) (j:=a) (c:=cO) h.mh.o hkl han (by simp) (by simp[AV.one]) (vi:=.slice (idf s.k) 0 w (cap s.k)) (vj:=.slice (idf a) 0 w (cap a)) (by simp[hkl]) (by simp[han]) (by simp) (by simp) (by simp) (fun sl' hsl'=>?_)
   rw[hsl]
   simp only[List.mem_cons,List.not_mem_nil,or_false,forall_eq_or_imp,forall_eq]at hsl'
   obtain⟨t0,t5,t7,t9,t10,t11,t31,t32⟩:=hsl'
   generalize hR2:R.set O (.cells ((List.range n).map fun i=>AV.slice (idf (swp s.k a i)) 0 w (cap (swp s.k a i))))=R2 at m1
   have hf2:Fx R R2 (fun id=>id=O\/id=FI\/∃i,i<n/\id=idf0 i):=by rw[<-hR2];exact Fx.set (Or.inl rfl)
   have hfi2:R2[FI]?=some (.cells (nums .i64 (fsl s n))):=by rw[<-hR2,List.getElem?_set_ne hFO.symm];exact h.fi
   have hlow2:=lower_b hlow hOl
   have hlb2:=Nat.le_trans (lower_le low O) hlb
   have hlO:=lower_le_id low O
   generalize lower low O=low2 at hlow2 hlb2 hlO
   have l1:=m1.row hkl
   have l2:=m1.ld hkl hcw'
   rw[hMk]at l2
   have ixO:=sl_ix (R:=R2) (O:=O) (c:=cO) hkl
   have ixc:=fr_ix (R:=R2) (id:=idf' s.k) (c:=cap' s.k) hcw'
   have hlR2:low2<=R2.length:=by have:=hf2.1;omega
   simp[t0,t5,t7,t9,t10,t31,t32,l1,l2,ixO,ixc,bx_st hlR2]
   have hne2:=m1.ne (id:=R2.length) (Nat.le_refl _)
   refine red_l32 (b:=b) (idf:=idf') (cap:=cap') (n:=n) (O:=O) (M:=M') (q:=s.M a c) (base:=low2) (R0:=R2++[.cells [.int .i64 (s.M a c).num,.int .i64 ((s.M a c).den:Int)]]) hkl hw (hfit.s a c han hcw') hn0 (fun j hj=>by rw[hMk];exact⟨hfit.s a j han hj,hfit.o j hj⟩) (hne2.2 s.k hkl).symm (by simp) (fun R3 low3 sl3 m3 g3 e3 hlow3 hlb3 u0 u5 u7 u9 u10 u12 u31 u32=>?_) w 0 _ low2 (by omega) (by omega) ((m1.app _).congr fun i' j' _ _=>by rw[if_neg (by omega)]) Fx.refl rfl hlow2 (Nat.le_refl _)
   have hf3:Fx R R3 (fun id=>id=O\/id=FI\/∃i,i<n/\id=idf0 i):=hf2.trans ((Fx.app _).trans (g3.mono fun id _ e=>by
    obtain⟨i',h1,h2⟩:=hpm s.k hkl
    exact Or.inr (Or.inr ⟨i',h1,by rw[e,h2]⟩)))
   have hZ3:=hf3.row hZR (fun hz=>by
    rcases hz with hz|hz|⟨i,h1,h2⟩
    ·exact hZO hz
    ·exact hZF hz
    ·exact hZi i h1 h2.symm)
   have hlen3:low2<=R3.length:=by have:=hf3.1;omega
   simp[u0,u5,u7,u9,u10,u12,u31,u32,-uc64s7]
   refine red_l8 (b:=b) (idf:=idf') (cap:=cap') (n:=n) (O:=O) (k:=s.k) (c:=c) (base:=low2) (R0:=R3) (M:=fun i' j'=>if i'=s.k then M' s.k j'/s.M a c else M' i' j') hkl hcw' hn hw (fun i j hi hik hj=>?_) (fun i hi=>by obtain⟨i',h1,h2⟩:=hpm i hi;rw[h2];exact hZi i' h1) hZ3 hlen3 (fun R4 low4 sl4 m4 g4 hlow4 hlb4 v0 v5 v7 v9 v10 v31 v32=>?_) n 0 R3 low3 (by omega) (by omega) (m3.congr fun i' j' _ _=>by unfold elo;exact(if_neg (fun h:i'<0/\i'≠s.k=>Nat.not_lt_zero _ h.1)).symm) Fx.refl hlow3 hlb3
   ·simp only[if_neg hik,if_true,hMk,hMi]
    exact⟨hfit.s _ c (swp_in hkl han hi) hcw',hfit.o j hj,hfit.m i j hi hik hj,hfit.u i j hi hik hj⟩
   ·have hf4:Fx R R4 (fun id=>id=O\/id=FI\/∃i,i<n/\id=idf0 i):=hf3.trans (g4.mono fun id _ e=>by
     obtain⟨i,h0,e⟩:=e
     obtain⟨i',h1,h2⟩:=hpm i h0
     exact Or.inr (Or.inr ⟨i',h1,by rw[e,h2]⟩))
    have hfi3:R3[FI]?=some (.cells (nums .i64 (fsl s n))):=by
     have:(R2++[Row.cells [.int .i64 (s.M a c).num,.int .i64 ((s.M a c).den:Int)]])[FI]?=some (.cells (nums .i64 (fsl s n))):=by
      rw[List.getElem?_append_left (List.getElem?_eq_some_iff.1 hfi2).1];exact hfi2
     exact g3.row this fun e=>by obtain⟨i',h1,h2⟩:=hpm s.k hkl;exact hFi i' h1 (by rw[<-h2,<-e])
    have hfi4:R4[FI]?=some (.cells (nums .i64 (fsl s n))):=g4.row hfi3 fun e=>by
     obtain⟨i,h0,e⟩:=e
     obtain⟨i',h1,h2⟩:=hpm i h0
     exact hFi i' h1 (by rw[<-h2,<-e])
    have hfl:=fsl_len (s:=s) (n:=n)
    have st4:=nums_st (low:=low4) (i:=s.k) (x:=(c:Int)) hfi4 (by omega)
    have ixF:=fun R:List Row=>sl_ix (R:=R) (O:=FI) (c:=cF) hkl
    have hwk:IntKind.i64.wrap ((s.k:Int)+1)=((s.k+1:Nat):Int):=by rw[wrap64 (by omega) (by omega)];omega
    rw[fsl_set (M:=elm s.M s.k a c) hkl,<-hgst,<-hnx]at st4
    have m5:RS b R0 (R4.set FI (.cells (nums .i64 (fsl (gjR A n (c+1)) n)))) O FI idf0 idf' cap' (gjR A n (c+1)).M n w (fsl (gjR A n (c+1)) n):=
     {mh:=(m4.oth hFO (fun i hi=>by obtain⟨i',h1,h2⟩:=hpm i hi;rw[h2];exact(hFi i' h1).symm)).congr fun i j hi hj=>by
       rw[hMk,hnx,hgst]
       have:=elo_elm (M:=s.M) (n:=n) (k:=s.k) (a:=a) (c:=c) (j:=j) hi (Or.inr trivial)
       rw[ekk]at this
       show _=elm s.M s.k a c i j
       rw[hM]
       exact this
      fx:=h.fx.trans (hf4.trans (Fx.set (Or.inr (Or.inl rfl))))
      pm:=hpm
      fi:=by rw[List.getElem?_set_self (List.getElem?_eq_some_iff.1 hfi4).1]}
    have:=ih (c+1) _ _ idf' cap' (by omega) (by omega) m5 (lower_b hlow4 hbF) (Nat.le_trans (lower_le _ _) (Nat.le_trans hlb4 hlb2)) (fun e=>by have:=lower_le low4 FI;omega)
    have hkk:(gjR A n (c+1)).k=s.k+1:=by rw[hnx,hgst]
    rw[hkk]at this
    simp[v0,v5,v7,v9,v10,v31,v32,ixF,st4,hwk,hwc]
    simpa using this
  ·have e:a=n:=by omega
   subst e
   rw[if_neg han]at hgst
   have:=ih (c+1) R low idf cap (by omega) (by omega) (by rw[hnx,hgst];exact h) hlow hlb hq
   rw[hnx,hgst]at this
   simp[s0,s5,s7,s9,s10,s11,s31,s32,hwc]
   simpa using this
end
end Go.Abs
namespace Go.Abs
def m1s(n j:Nat):List Int:=(List.range n).map fun i=>if i<j then -1 else 0
theorem m1s_len{n j:Nat}:(m1s n j).length=n:=by simp[m1s]
theorem m1s_set{n j:Nat}:(m1s n j).set j (-1)=m1s n (j+1):=by
 unfold m1s
 apply List.ext_getElem (by simp)
 intro i h1 h2
 simp only[List.getElem_set,List.getElem_map,List.getElem_range]
 by_cases e:j=i
 ·subst e;rw[if_pos rfl,if_pos (by omega)]
 ·rw[if_neg e]
  by_cases e2:i<j
  ·rw[if_pos e2,if_pos (by omega)]
  ·rw[if_neg e2,if_neg (by omega)]
theorem m1s_0{n:Nat}:nums .i64 (m1s n 0)=List.replicate n (.int .i64 0):=by
 apply List.ext_getElem (by simp[nums,m1s])
 intro i h1 h2
 simp[nums,m1s]
theorem m1s_n{A:Nat->Nat->Rat}{n:Nat}:m1s n n=fsl (gjR A n 0) n:=by
 unfold m1s fsl
 apply List.map_congr_left
 intro i hi
 rw[if_pos (List.mem_range.1 hi),if_neg (by show ¬i<0;omega)]
section
variable {n:Nat}{cF:Cap}{x0 x1 x5:AV}{r:AV×List Row×Nat->Prop}
set_option maxHeartbeats 8000000 in
theorem red_l69{L:List Row}{FI low:Nat}(hn:n<=1000)(hlF:low<=FI)
  (hc:∀sl:List (Nat×AV),lk sl 0=x0->lk sl 1=x1->lk sl 5=x5->lk sl 7 = .slice FI 0 n cF->
   Ex F C64 [.code c64s68,.inScope c64p0] ⟨mk 148 sl,L.set FI (.cells (nums .i64 (m1s n n))),low⟩ r) (hFI:FI<L.length):
  ∀(d j:Nat),n-j=d->j<=n->
  Lc64l69 F C64 x0 x1 x5 (.slice FI 0 n cF) (.int .i64 n) (.int .i64 j) (L.set FI (.cells (nums .i64 (m1s n j)))) low r:=by
 intro d
 induction d with
 |
  zero=>
  intro j hd hj
  have e:j=n:=by omega
  subst e
  unfold Lc64l69
  simp[-uc64s68]
  refine hc _ ?_ ?_ ?_ ?_
  all_goals simp
 |
  succ d ih=>
  intro j hd hj0
  have hj:j<n:=by omega
  have hwj:IntKind.i64.wrap ((j:Int)+1)=((j+1:Nat):Int):=by rw[wrap64 (by omega) (by omega)];omega
  have hl:=m1s_len (n:=n) (j:=j)
  have hg:(L.set FI (.cells (nums .i64 (m1s n j))))[FI]?=some (.cells (nums .i64 (m1s n j))):=by rw[List.getElem?_set_self hFI]
  have st:=nums_st (low:=low) (i:=j) (x:=-1) hg (by omega)
  have hlw:lower low FI=low:=by unfold lower;rw[if_neg (by omega)]
  rw[m1s_set,List.set_set,hlw]at st
  have ix:=fun R:List Row=>sl_ix (R:=R) (O:=FI) (c:=cF) hj
  have:=ih (j+1) (by omega) (by omega)
  unfold Lc64l69
  simp[hj,ix,st,hwj]
  simpa using this
end
section
variable {rows:List Row}{b O:Nat}{idf:Nat->Nat}{cap:Nat->Cap}{A:Nat->Nat->Rat}{n w cols:Nat}{cO:Cap}
theorem fin_sl1{rows R':List Row}{id o n:Nat}{c:Cap}{vs:List AV}(h:R'[id]?=some (.cells vs))(hid:rows.length<=id)(hv:vs.all (·.ids.isEmpty)=true):fin rows (.slice id o n c) R' rows.length=(.slice rows.length o n c,rows++[.cells vs],none):=by
 have e:¬id<rows.length:=by omega
 unfold fin
 rw[if_pos rfl]
 simp only[ids_slice,List.all_cons,List.all_nil,Bool.and_true,decide_eq_true_eq]
 rw[if_neg e,h]
 simp only[hv,Bool.true_and,AV.plain1,AV.plain,if_true,AV.ren1,AV.ren]
theorem gc_new{R':List Row}{base low id o n:Nat}{c:Cap}(h:base<=id):gc base low (.slice id o n c) R'=R':=by
 unfold gc
 rw[if_neg]
 simp only[AV.under,ids_slice,List.all_cons,List.all_nil,Bool.and_true,Bool.and_eq_true,decide_eq_true_eq]
 omega
def RdOk(rows:List Row)(b O:Nat)(idf:Nat->Nat)(A:Nat->Nat->Rat)(n w cols:Nat)(q:AV×List Row×Option Nat):Prop:=
 ∃FI cF R' lo idf' cap',q=(.slice FI 0 n cF,R',lo)/\rows.length<=FI/\MH b R' O idf' cap' (gjR A n cols).M n w/\(∀i,i<n->∃i',i'<n/\idf' i=idf i')/\
   R'[FI]?=some (.cells (nums .i64 (fsl (gjR A n cols) n)))/\Fx rows R' (fun id=>id=O\/∃i,i<n/\id=idf i)/\∀l,lo=some l->b<=l
theorem Ex_pull{cx:Ctx}{k:List Itm}{s:St}{α:Type}{f:AV×List Row×Nat->α}{P:α->Prop}(h:Ex F cx k s fun r=>P (f r)):∃q,Ex F cx k s (fun r=>f r=q)/\P q:=by
 obtain⟨n,r,e,hr⟩:=h
 exact⟨f r,⟨n,r,e,rfl⟩,hr⟩
set_option maxHeartbeats 8000000 in
theorem reduced_ret(hn:n<=1000)(hw:w<=1000)(hcw:cols<=w)(hb:Bd A n w cols)(hk5:∀c a,c<cols->(gjR A n c).k<=a->a<n->(gjR A n c).M a c≠0->(gjR A n c).k<=5)(h:MH b rows O idf cap A n w):
  ∃q,Ret F 64 [.slice O 0 n cO,.int .i64 cols,fr 0] rows=some q/\RdOk rows b O idf A n w cols q:=by
 suffices hs:Ex F (.fn [.t 6]) [.code c64b] ⟨mk 148 [(0,.slice O 0 n cO),(1,.int .i64 cols),(2,fr 0)],rows,rows.length⟩ (fun r=>RdOk rows b O idf A n w cols (fin rows r.1 r.2.1 r.2.2))by
  obtain⟨q,h1,h2⟩:=Ex_pull hs
  exact⟨q,i64 F64 h1,h2⟩
 have hO:=(List.getElem?_eq_some_iff.1 h.o).1
 have hI:∀i,i<n->idf i<rows.length:=fun i hi=>(List.getElem?_eq_some_iff.1 (h.r i hi)).1
 have hbx:evE rows rows.length (.box (.c (fr 0)))=some (.ptr rows.length 0,rows++[.cells [.int .i64 0,.int .i64 1]],rows.length):=rfl
 have hlim:n<=lim:=by unfold lim;omega
 simp[hbx,hlim]
 have hset:rows++[.cells [.int .i64 0,.int .i64 1],.cells (List.replicate n (.int .i64 0))]=(rows++[Row.cells [.int .i64 0,.int .i64 1],.cells (List.replicate n (.int .i64 0))]).set (rows.length+1) (.cells (nums .i64 (m1s n 0))):=by
  rw[m1s_0,List.set_append_right _ _ (by omega)]
  simp
 rw[hset]
 have hlen:(rows++[Row.cells [.int .i64 0,.int .i64 1],.cells (List.replicate n (.int .i64 0))]).length=rows.length+2:=by simp
 refine red_l69 (n:=n) hn (by omega) (fun sl s0 s1 s5 s7=>?_) (by omega) n 0 (by omega) (by omega)
 have e2:(rows++[Row.cells [.int .i64 0,.int .i64 1],.cells (List.replicate n (.int .i64 0))]).set (rows.length+1) (.cells (nums .i64 (m1s n n)))=rows++[.cells [.int .i64 0,.int .i64 1],.cells (nums .i64 (m1s n n))]:=by
  rw[List.set_append_right _ _ (by omega)]
  simp
 rw[e2]
 simp[s0,s1,s5,s7]
 have hm0:MH b (rows++[Row.cells [.int .i64 0,.int .i64 1],.cells (nums .i64 (m1s n n))]) O idf cap (gjR A n 0).M n w:=h.app _
 refine red_l3 (O:=O) (FI:=rows.length+1) (Z:=rows.length) (idf0:=idf) (base:=rows.length) (R0:=rows++[.cells [.int .i64 0,.int .i64 1],.cells (nums .i64 (m1s n n))]) hn hw hcw hb hk5 (by simp) hO (Nat.le_trans h.ob (by omega)) (by omega) (fun i hi=>by have:=hI i hi;omega) (by omega) (by omega) (fun i hi=>by have:=hI i hi;omega) (by simp) (fun R' low sl' idf' cap' hR hbl hlow hq s7'=>?_) cols 0 _ rows.length idf cap (by omega) (by omega) ⟨hm0,Fx.refl,fun i hi=>⟨i,hi,rfl⟩,by rw[m1s_n (A:=A)];simp⟩ (Nat.le_trans h.ob (by omega)) (Nat.le_refl _) (fun _ _ _=>rfl)
 simp[s7']
 have hfx:∀id,id<rows.length->¬(id=O\/∃i,i<n/\id=idf i)->R'[id]?=rows[id]?:=fun id h1 h2=>by
  rw[hR.fx.2 id (by simp;omega) (fun hp=>by
   rcases hp with hp|hp|hp
   ·exact h2 (Or.inl hp)
   ·omega
   ·exact h2 (Or.inr hp)),List.getElem?_append_left h1]
 have hl2:rows.length+2<=R'.length:=by
  have:=hR.fx.1
  simp at this
  omega
 by_cases hlow':low=rows.length
 ·subst hlow'
  have hold:∀id,id<rows.length->rows[id]?=R'[id]?:=fun id hid=>by rw[hq rfl id hid,List.getElem?_append_left hid]
  rw[fin_sl1 hR.fi (by omega) (by simp[nums])]
  have hm:MH b rows O idf' cap' (gjR A n cols).M n w:=
   {hR.mh with
    o:=by rw[hold O hO];exact hR.mh.o
    r:=fun i hi=>by
     obtain⟨i',h1,h2⟩:=hR.pm i hi
     have:=hI i' h1
     rw[hold _ (by rw[h2];exact this)]
     exact hR.mh.r i hi}
  exact⟨rows.length,_,_,none,idf',cap',rfl,Nat.le_refl _,hm.app _,hR.pm,by simp,Fx.app _,fun l hl=>by simp at hl⟩
 ·rw[fin_lt hlow',gc_new (by omega)]
  exact⟨rows.length+1,_,R',some low,idf',cap',rfl,by omega,hR.mh,hR.pm,hR.fi,⟨by omega,hfx⟩,fun l hl=>by cases hl;exact hbl⟩
end
end Go.Abs
namespace Go.Abs
section
variable {rows:List Row}{cols:Nat}{x5 x7:AV}{r:AV×List Row×Nat->Prop}
set_option maxHeartbeats 8000000 in
theorem red0_l3{R:List Row}{low:Nat}(hcols:cols<=1000)(hc:∀sl:List (Nat×AV),lk sl 7=x7->Ex F C64 [.code c64s2,.inScope c64p0] ⟨mk 148 sl,R,low⟩ r):
  ∀(d c:Nat),cols-c=d->c<=cols->Lc64l3 F C64 .nilslice x5 x7 (.int .i64 0) (.int .i64 cols) (.int .i64 c) R low r:=by
 intro d
 induction d with
 |
  zero=>
  intro c hd hc'
  have e:c=cols:=by omega
  subst e
  unfold Lc64l3
  simp[-uc64s2]
  exact hc _ (by simp)
 |
  succ d ih=>
  intro c hd hc0
  have hcc:c<cols:=by omega
  have hwc:IntKind.i64.wrap ((c:Int)+1)=((c+1:Nat):Int):=by rw[wrap64 (by omega) (by omega)];omega
  have:=ih (c+1) (by omega) (by omega)
  unfold Lc64l3
  simp[hcc]
  unfold Lc64l51
  simp[hwc]
  simpa using this
set_option maxHeartbeats 8000000 in
theorem reduced_nil(hcols:cols<=1000):∃cF,Ret F 64 [.nilslice,.int .i64 cols,fr 0] rows=some (.slice rows.length 0 0 cF,rows++[.cells []],none):=by
 have hbx:evE rows rows.length (.box (.c (fr 0)))=some (.ptr rows.length 0,rows++[.cells [.int .i64 0,.int .i64 1]],rows.length):=rfl
 refine⟨.at_ 0,i64 F64 ?_⟩
 simp[hbx]
 unfold Lc64l69
 simp
 refine red0_l3 hcols (fun sl s7=>?_) cols 0 (by omega) (by omega)
 simp[s7]
 exact fin_sl1 (by simp) (by omega) rfl
end
end Go.Abs
namespace Go.Abs
def GZ(R:List Row):Prop:=R[0]?=some (.ro (nums .i64 [0,1]))
theorem gz_ld{R:List Row}(h:GZ R):evP R (.loadN 2 (.c (.ptr 0 0)))=some (fr 0):=by
 have hr:row? R 0=some (nums .i64 [0,1]):=by unfold row?;rw[h]
 show evalP R (getO []) _=_
 unfold evalP
 simp only[getO,hr]
 rfl
theorem GZ.lt{R:List Row}(h:GZ R):0<R.length:=(List.getElem?_eq_some_iff.1 h).1
theorem GZ.fx{R R':List Row}{p:Nat->Prop}(h:GZ R)(hF:Fx R R' p)(hp:¬p 0):GZ R':=(hF.2 0 h.lt hp).trans h
section
variable {rows:List Row}{RO n u:Nat}{cR:Cap}{f:Nat->Rat}{A:Nat->Nat->Rat}{r:AV×List Row×Nat->Prop}
def cutr(f:Nat->Rat)(u i:Nat):Nat->Rat:=fun j=>if j<u then f (i*11+j)else f (i*11+10)
end
end Go.Abs
namespace Go.Abs
section
variable {b:Nat}{R:List Row}{LO:Nat}{idf:Nat->Nat}{M:Nat->Nat->Rat}{i w:Nat}{t t2:Row}
theorem MH.one'(hb:b<=R.length):MH b (R++[t,.cells (frs (M 0) w),t2,.cells [.slice (R.length+1) 0 w (.op 2)]]) (R.length+3) (fun _=>R.length+1) (fun _=>.op 2) M 1 w where
 o:=by rw[List.getElem?_append_right (by omega)];simp[show R.length+3-R.length=3 by omega]
 r:=fun i hi=>by
  have:i=0:=by omega
  subst this
  rw[List.getElem?_append_right (by omega)]
  simp[show R.length+1-R.length=1 by omega]
 inj:=fun i j hi hj _=>by omega
 io:=fun i hi=>by omega
 ob:=by omega
 ib:=fun i hi=>by omega
theorem MH.more(h:MH b R LO idf (fun _=>.op 2) M i w)(hb:b<=R.length):MH b ((R++[t,.cells (frs (M i) w),t2]).set LO .dead++[.cells (((List.range i).map fun j=>AV.slice (idf j) 0 w (.op 2))++[.slice (R.length+1) 0 w (.op 2)])]) (R.length+3) (fun j=>if j=i then R.length+1 else idf j) (fun _=>.op 2) M (i+1) w where
 o:=by
  have hO:=(List.getElem?_eq_some_iff.1 h.o).1
  rw[List.getElem?_append_right (by simp)]
  simp[List.range_succ]
  intro j hj e
  omega
 r:=fun j hj=>by
  have hO:=(List.getElem?_eq_some_iff.1 h.o).1
  by_cases e:j=i
  ·subst e
   rw[if_pos rfl,List.getElem?_append_left (by simp),List.getElem?_set_ne (by omega),List.getElem?_append_right (by omega)]
   simp[show R.length+1-R.length=1 by omega]
  ·have hl:=(List.getElem?_eq_some_iff.1 (h.r j (by omega))).1
   rw[if_neg e,List.getElem?_append_left (by simp;omega),List.getElem?_set_ne (h.io j (by omega)).symm,List.getElem?_append_left hl]
   exact h.r j (by omega)
 inj:=fun j k hj hk e=>by
  by_cases e1:j=i
  ·by_cases e2:k=i
   ·omega
   ·have hl:=(List.getElem?_eq_some_iff.1 (h.r k (by omega))).1
    simp only[if_pos e1,if_neg e2]at e
    omega
  ·have hl:=(List.getElem?_eq_some_iff.1 (h.r j (by omega))).1
   by_cases e2:k=i
   ·simp only[if_neg e1,if_pos e2]at e
    omega
   ·simp only[if_neg e1,if_neg e2]at e
    exact h.inj j k (by omega) (by omega) e
 io:=fun j hj=>by
  by_cases e:j=i
  ·simp only[if_pos e];omega
  ·have hl:=(List.getElem?_eq_some_iff.1 (h.r j (by omega))).1
   simp only[if_neg e];omega
 ob:=by omega
 ib:=fun j hj=>by
  by_cases e:j=i
  ·simp only[if_pos e];omega
  ·simp only[if_neg e];exact h.ib j (by omega)
end
section
variable {rows:List Row}{RO n u:Nat}{cR:Cap}{f:Nat->Rat}{r:AV×List Row×Nat->Prop}
def Tb(rows R:List Row)(f:Nat->Rat)(u i:Nat)(v:AV):Prop:=Fx rows R (fun _=>False)/\((i=0/\v = .nilslice)\/(0<i/\∃LO idf,v = .slice LO 0 i (.op 1)/\MH rows.length R LO idf (fun _=>.op 2) (cutr f u) i (u+1)))
theorem Tb.more{R:List Row}{i:Nat}{v:AV}(h:Tb rows R f u i v)(hi:i<1000)(t t2:Row)(ht:t2 = .cells [.slice (R.length+1) 0 (u+1) (.op 2)]):∃v' R',evE (R++[t,.cells (frs (cutr f u i) (u+1)),t2]) rows.length (.app 1 24 (.c v) (.c (.slice (R.length+2) 0 1 (.at_ 1))))=some (v',R',rows.length)/\Tb rows R' f u (i+1) v':=by
 subst ht
 obtain⟨hF,hc⟩:=h
 have hEl:El (R++[t,.cells (frs (cutr f u i) (u+1)),.cells [.slice (R.length+1) 0 (u+1) (.op 2)]]) 1 (.slice (R.length+2) 0 1 (.at_ 1)) [.slice (R.length+1) 0 (u+1) (.op 2)] 1:=by
  unfold El elems
  have hr:row? (R++[t,.cells (frs (cutr f u i) (u+1)),.cells [.slice (R.length+1) 0 (u+1) (.op 2)]]) (R.length+2)=some [.slice (R.length+1) 0 (u+1) (.op 2)]:=by
   unfold row?
   rw[List.getElem?_append_right (by omega)]
   simp[show R.length+2-R.length=2 by omega]
  simp only[hr]
  rfl
 rcases hc with ⟨rfl,rfl⟩|⟨h0,LO,idf,rfl,hm⟩
 ·refine⟨_,_,app_nil hEl (by omega) (by unfold lim;omega),⟨?_,.inr ⟨by omega,R.length+3,fun _=>R.length+1,?_,?_⟩⟩⟩
  ·rw[List.append_assoc];exact hF.trans (Fx.app _)
  ·simp
  ·rw[List.append_assoc];exact MH.one' hF.1
 ·have hO:=(List.getElem?_eq_some_iff.1 hm.o).1
  have hcel:cells? (R++[t,.cells (frs (cutr f u i) (u+1)),.cells [.slice (R.length+1) 0 (u+1) (.op 2)]]) LO=some ((List.range i).map fun j=>AV.slice (idf j) 0 (u+1) (.op 2)):=by
   unfold cells?
   rw[List.getElem?_append_left hO,hm.o]
  have hsg:seg ((List.range i).map fun j=>AV.slice (idf j) 0 (u+1) (.op 2)) 0 (i*1)=some ((List.range i).map fun j=>AV.slice (idf j) 0 (u+1) (.op 2)):=by
   unfold seg
   rw[if_pos (by simp),List.drop_zero,List.take_of_length_le (by simp)]
  have hlw:lower rows.length LO=rows.length:=by unfold lower;rw[if_neg (by have:=hm.ob;omega)]
  refine⟨_,_,by rw[app_op hcel hsg hEl (by omega) (by unfold lim;omega),hlw],⟨?_,.inr ⟨by omega,R.length+3,_,?_,hm.more hF.1⟩⟩⟩
  ·refine⟨by have:=hF.1;simp;omega,fun id h1 h2=>?_⟩
   have:=hF.1
   have:=hm.ob
   rw[List.getElem?_append_left (by simp;omega),List.getElem?_set_ne (by omega),List.getElem?_append_left (by omega),hF.2 id h1 h2]
  ·simp
end
end Go.Abs
namespace Go.Abs
section
variable {rows:List Row}{u:Nat}{cO:Cap}{x1 x5:AV}{r:AV×List Row×Nat->Prop}
def zrow(u j:Nat):List AV:=frs (fun _=>0) j++(List.replicate (u-j) [AV.int .i64 0,AV.int .i64 0]).flatten
theorem zrow_len{u j:Nat}(h:j<=u):(zrow u j).length=u*2:=by
 have e:(List.replicate (u-j) [AV.int .i64 0,AV.int .i64 0]).flatten.length=(u-j)*2:=by simp
 unfold zrow
 rw[List.length_append,frs_len,e]
 omega
theorem zrow_n{u:Nat}:zrow u u=frs (fun _=>0) u:=by unfold zrow;simp
theorem zrow_st{u j:Nat}(h:j<u):splice (zrow u j) (j*2) [.int .i64 0,.int .i64 1]=zrow u (j+1):=by
 have hl:=frs_len (f:=fun _=>0) j
 unfold splice zrow
 rw[show u-j=(u-(j+1))+1 by omega,List.replicate_succ,List.flatten_cons,<-hl,List.take_left,frs]
 rw[show(frs (fun _=>0) j).length+[AV.int .i64 0,AV.int .i64 1].length=(frs (fun _=>0) j).length+2 from rfl,List.drop_append]
 simp
theorem zrow_se{R:List Row}{O u j low:Nat}(h:R[O]?=some (.cells (zrow u j)))(hj:j<u):evE R low (.storeN 2 (.c (.ptr O (j*2))) (.c (fr 0)))=some (.tup [],R.set O (.cells (zrow u (j+1))),lower low O):=by
 have hc:cells? R O=some (zrow u j):=by unfold cells?;rw[h]
 have hl:=zrow_len (u:=u) (j:=j) (by omega)
 have e:fr 0 = .agg [.int .i64 0,.int .i64 1]:=rfl
 rw[e,evE_storeN]
 simp only[hc,Option.bind_some]
 rw[if_pos ⟨rfl,by omega,rfl⟩,zrow_st hj]
end
section
variable {rows:List Row}{u n:Nat}{cO cF cL:Cap}{r:AV×List Row×Nat->Prop}
end
end Go.Abs
namespace Go.Abs
section
variable {b:Nat}{O:Nat}{idf:Nat->Nat}{cap:Nat->Cap}{n w:Nat}{r:AV×List Row×Nat->Prop}{x11 x12:AV}{cO:Cap}
set_option maxHeartbeats 8000000 in
theorem slv_l20{B k i c:Nat}{q:Rat}{M:Nat->Nat->Rat}(hk:k<n)(hi:i<n)(hne:i≠k)(hn:n<=1000)
  (hfit:∀j,c<=j->j<n+1->(q.num*(M k j).num).natAbs<=MX/\q.den*(M k j).den<=MX/\sm (q*M k j)/\∃L,(M i j).den∣L/\(q*M k j).den∣L/\0<L/\L<=MX/\(sc (M i j) L).natAbs+(sc (q*M k j) L).natAbs<=MX) {base:Nat}
  {R0:List Row} (hB:idf i≠B) (hBq:R0[B]?=some (.cells [.int .i64 q.num,.int .i64 (q.den:Int)])) (hbase:base<=b)
  (hc:∀(R:List Row) (sl:List (Nat×AV)),MH b R O idf cap (fun i' j'=>if i'=i/\c<=j' then M i j'-q*M k j' else M i' j') n (n+1)->Fx R0 R (· = idf i)->R.length=R0.length->lk sl 6 = .int .i64 n->lk sl 7 = .slice O 0 n cO->lk sl 10 = .int .i64 k->lk sl 11=x11->lk sl 12=x12->lk sl 13 = .int .i64 c->lk sl 15 = .int .i64 i->
   Ex F (.fn [.t 4,.t 5]) [.code c86k19,.inLoop c86l18,.inBlock 6,.code c86s17,.inBlock 3,.code c86k14,.inLoop c86l13,.inBlock 2,.code c86s12] ⟨mk 197 sl,R,base⟩ r):
  ∀(d j:Nat) (R:List Row),n+1-j=d->c<=j->j<=n+1->MH b R O idf cap (fun i' j'=>if i'=i/\c<=j'/\j'<j then M i j'-q*M k j' else M i' j') n (n+1)->Fx R0 R (· = idf i)->R.length=R0.length->
  Lc86l20 F (.fn [.t 4,.t 5]) (.int .i64 n) (.slice O 0 n cO) (.int .i64 k) x11 x12 (.int .i64 c) (.int .i64 i) (.ptr B 0) (.int .i64 j) R base r:=by
 intro d
 induction d with
 |
  zero=>
  intro j R hd hcj hj h hF hl
  have hj':j=n+1:=by omega
  subst hj'
  have hle:¬(n:Int)+1<=(n:Int):=by omega
  unfold Lc86l20
  simp[-uc86k19,hle]
  refine hc R _ (h.congr fun i' j' _ h2=>?_) hF hl ?_ ?_ ?_ ?_ ?_ ?_ ?_
  ·by_cases e:i'=i/\c<=j'
   ·rw[if_pos ⟨e.1,e.2,h2⟩,if_pos e]
   ·rw[if_neg (fun h=>e ⟨h.1,h.2.1⟩),if_neg e]
  all_goals simp
 |
  succ d ih=>
  intro j R hd hcj hj0 h hF hl
  have hj:j<n+1:=by omega
  have hle:(j:Int)<=(n:Int):=by omega
  have hwj:IntKind.i64.wrap ((j:Int)+1)=((j+1:Nat):Int):=by rw[wrap64 (by omega) (by omega)];omega
  obtain⟨f1,f2,f3,L,g1,g2,g3,g4,g5⟩:=hfit j hcj hj
  have wi:=h.row hi
  have wk:=h.row hk
  have lr:=h.ld hi hj
  have lk:=h.ld hk hj
  simp only[hne.symm,false_and,if_false,Nat.lt_irrefl,and_false]at lr lk
  have lq:=fr_row (hF.row hBq hB.symm)
  have r35:Ret F 35 [fr q,fr (M k j)] R=some (fr (q*M k j),R,none):=Mul_ret f1 f2
  have r34:Ret F 34 [fr (M i j),fr (q*M k j)] R=some (fr (M i j-q*M k j),R,none):=Sub_ret g1 g2 g3 g4 g5 f3
  have ixi:=fun R:List Row=>sl_ix (R:=R) (O:=O) (c:=cO) hi
  have ixk:=fun R:List Row=>sl_ix (R:=R) (O:=O) (c:=cO) hk
  have iyk:=fun R:List Row=>fr_ix (R:=R) (id:=idf k) (c:=cap k) hj
  have iyi:=fun R:List Row=>fr_ix (R:=R) (id:=idf i) (c:=cap i) hj
  have hrow:=h.r i hi
  have st:=frs_st (low:=base) (q:=M i j-q*M k j) hrow hj
  have hlw:lower base (idf i)=base:=by unfold lower;rw[if_neg (by have:=h.ib i hi;omega)]
  rw[hlw]at st
  have hset:=h.set hi hj (M i j-q*M k j)
  have hset':=hset.congr (N:=fun i' j'=>if i'=i/\c<=j'/\j'<j+1 then M i j'-q*M k j' else M i' j') fun i' j' _ _=>by
   show(if i'=i/\j'=j then _ else(if i'=i/\c<=j'/\j'<j then M i j'-q*M k j' else M i' j'))=(if i'=i/\c<=j'/\j'<j+1 then M i j'-q*M k j' else M i' j')
   by_cases e1:i'=i
   ·subst e1
    by_cases e2:j'=j
    ·subst e2;rw[if_pos ⟨rfl,rfl⟩,if_pos ⟨rfl,hcj,by omega⟩]
    ·rw[if_neg (fun h=>e2 h.2)]
     by_cases e3:c<=j'/\j'<j
     ·rw[if_pos ⟨rfl,e3⟩,if_pos ⟨rfl,e3.1,by omega⟩]
     ·rw[if_neg (fun h=>e3 h.2),if_neg (fun h=>e3 ⟨h.2.1,by omega⟩)]
   ·rw[if_neg (fun h=>e1 h.1),if_neg (fun h=>e1 h.1),if_neg (fun h=>e1 h.1)]
  have:=ih (j+1) _ (by omega) (by omega) (by omega) hset' (hF.trans (Fx.set rfl)) (by rw[List.length_set];exact hl)
  unfold Lc86l20
  simp[hle,ixi,ixk,iyi,iyk,wi,wk,lr,lk,lq,opC,targetC,r35,r34,lowO,st,hwj,maskE,drop_mapN]
  simpa using this
end
end Go.Abs
namespace Go.Abs
theorem frs_num{R:List Row}{id j w:Nat}{f:Nat->Rat}(h:R[id]?=some (.cells (frs f w)))(hj:j<w):evP R (.load1 (.c (.ptr id (j*2))))=some (.int .i64 (f j).num):=by
 have hr:row? R id=some (frs f w):=by unfold row?;rw[h]
 have hs:=frs_seg (f:=f) hj
 have hl:=frs_len (f:=f) w
 unfold seg at hs
 rw[if_pos (by omega)]at hs
 injection hs with hs
 have h0:((frs f w).drop (j*2))[0]?=some (.int .i64 (f j).num):=by
  have:=congrArg (fun l=>l[0]?) hs
  simpa using this
 rw[List.getElem?_drop]at h0
 show evalP R (getO []) _=_
 unfold evalP
 simp only[getO,hr]
 simpa using h0
theorem fr_ixA1{R:List Row}{id o:Nat}:evP R (.idxA 2 1 (.c (.ptr id o)) (.c (.int .i64 0)))=some (.ptr id o):=by
 show evalP R (getO []) _=_
 unfold evalP
 simp[getO,idx?]
def eloR(M:Nat->Nat->Rat)(k c i:Nat):Nat->Nat->Rat:=fun i' j'=>if i'<i/\i'≠k/\c<=j' then M i' j'-M i' c/M k c*M k j' else M i' j'
section
variable {b:Nat}{O:Nat}{idf:Nat->Nat}{cap:Nat->Cap}{n:Nat}{r:AV×List Row×Nat->Prop}{x11 x12:AV}{cO:Cap}
set_option maxHeartbeats 8000000 in
theorem slv_l18{k c:Nat}{M:Nat->Nat->Rat}(hk:k<n)(hcn:c<n)(hn:n<=1000)(hp:M k c≠0)
  (hfit:∀i,i<n->i≠k->((M i c).num*((M k c).den:Int)).natAbs<=MX/\(((M i c).den:Int)*(M k c).num).natAbs<=MX/\∀j,c<=j->j<n+1->((M i c/M k c).num*(M k j).num).natAbs<=MX/\(M i c/M k c).den*(M k j).den<=MX/\sm (M i c/M k c*M k j)/\∃L,(M i j).den∣L/\(M i c/M k c*M k j).den∣L/\0<L/\L<=MX/\(sc (M i j) L).natAbs+(sc (M i c/M k c*M k j) L).natAbs<=MX) {base:Nat}
  {R0:List Row} (hbase:base<=b)
  (hc:∀(R:List Row) (sl:List (Nat×AV)),MH b R O idf cap (eloR M k c n) n (n+1)->Fx R0 R (fun id=>∃i,i<n/\id=idf i)->lk sl 6 = .int .i64 n->lk sl 7 = .slice O 0 n cO->lk sl 10 = .int .i64 k->lk sl 11=x11->lk sl 12=x12->lk sl 13 = .int .i64 c->
   Ex F (.fn [.t 4,.t 5]) [.code c86s17,.inBlock 3,.code c86k14,.inLoop c86l13,.inBlock 2,.code c86s12] ⟨mk 197 sl,R,base⟩ r):
  ∀(d i:Nat) (R:List Row),n-i=d->i<=n->MH b R O idf cap (eloR M k c i) n (n+1)->Fx R0 R (fun id=>∃i,i<n/\id=idf i)->
  Lc86l18 F (.fn [.t 4,.t 5]) (.int .i64 n) (.slice O 0 n cO) (.int .i64 k) x11 x12 (.int .i64 c) (.int .i64 i) R base r:=by
 intro d
 induction d with
 |
  zero=>
  intro i R hd hi h hF
  have hi':i=n:=by omega
  subst hi'
  unfold Lc86l18
  simp[-uc86s17]
  refine hc R _ h hF ?_ ?_ ?_ ?_ ?_ ?_
  all_goals simp
 |
  succ d ih=>
  intro i R hd hi0 h hF
  have hi:i<n:=by omega
  have hwi:IntKind.i64.wrap ((i:Int)+1)=((i+1:Nat):Int):=by rw[wrap64 (by omega) (by omega)];omega
  have hcw:c<n+1:=by omega
  have l1:=h.row hi
  have e0:eloR M k c i i c=M i c:=by unfold eloR;rw[if_neg (by omega)]
  have l2:=frs_num (h.r i hi) hcw
  rw[e0]at l2
  have ixO:=fun R:List Row=>sl_ix (R:=R) (O:=O) (c:=cO) hi
  have ixc:=fun R:List Row=>fr_ix (R:=R) (id:=idf i) (c:=cap i) hcw
  have ia:=fun R:List Row=>fr_ixA1 (R:=R) (id:=idf i) (o:=c*2)
  by_cases hik:i=k
  ·subst hik
   have hs:∀i' j',eloR M i c i i' j'=eloR M i c (i+1) i' j':=fun i' j'=>by
    unfold eloR
    by_cases e:i'=i
    ·rw[if_neg (fun h=>h.2.1 e),if_neg (fun h=>h.2.1 e)]
    ·by_cases e2:i'<i/\c<=j'
     ·rw[if_pos ⟨e2.1,e,e2.2⟩,if_pos ⟨by omega,e,e2.2⟩]
     ·rw[if_neg (fun h=>e2 ⟨h.1,h.2.2⟩),if_neg (fun h=>e2 ⟨by omega,h.2.2⟩)]
   have:=ih (i+1) R (by omega) (by omega) (h.congr fun i' j' _ _=>hs i' j') hF
   unfold Lc86l18
   simp[hi,l1,l2,ixO,ixc,ia,hwi]
   simpa using this
  have hikZ:¬(i:Int)=(k:Int):=by omega
  by_cases hz:M i c=0
  ·have hs:∀i' j',eloR M k c i i' j'=eloR M k c (i+1) i' j':=fun i' j'=>by
    unfold eloR
    by_cases e:i'=i
    ·subst e
     rw[if_neg (by omega)]
     by_cases e2:c<=j'
     ·rw[if_pos ⟨by omega,hik,e2⟩,hz]
      grind
     ·rw[if_neg (fun h=>e2 h.2.2)]
    ·by_cases e2:i'<i/\i'≠k/\c<=j'
     ·rw[if_pos e2,if_pos ⟨by omega,e2.2⟩]
     ·rw[if_neg e2,if_neg (fun h=>e2 ⟨by omega,h.2⟩)]
   have:=ih (i+1) R (by omega) (by omega) (h.congr fun i' j' _ _=>hs i' j') hF
   have hz':(M i c).num=0:=Rat.num_eq_zero.2 hz
   unfold Lc86l18
   simp[hi,hikZ,l1,l2,ixO,ixc,ia,hz',hwi]
   simpa using this
  ·have hz':¬(M i c).num=0:=fun e=>hz (Rat.num_eq_zero.1 e)
   obtain⟨v1,v2,hj⟩:=hfit i hi hik
   have hRn:=h.ne (id:=R.length) (Nat.le_refl _)
   have hbR:b<=R.length:=by have:=(List.getElem?_eq_some_iff.1 h.o).1;have:=h.ob;omega
   have hk':eloR M k c i k=M k:=by funext j;unfold eloR;rw[if_neg (fun h=>h.2.1 rfl)]
   have hi':∀j,eloR M k c i i j=M i j:=fun j=>by unfold eloR;rw[if_neg (by omega)]
   have l4:=h.row hk
   have l5:=h.ld hk hcw
   have l6:=h.ld hi hcw
   rw[hk']at l5
   rw[hi']at l6
   have ixk:=fun R:List Row=>sl_ix (R:=R) (O:=O) (c:=cO) hk
   have iyk:=fun R:List Row=>fr_ix (R:=R) (id:=idf k) (c:=cap k) hcw
   have r88:Ret F 88 [fr (M i c),fr (M k c)] R=some (fr (M i c/M k c),R,none):=Div_ret hp v1 v2
   have hl20:=slv_l20 (b:=b) (O:=O) (idf:=idf) (cap:=cap) (n:=n) (r:=r) (x11:=x11) (x12:=x12) (cO:=cO) (B:=R.length) (q:=M i c/M k c) (M:=eloR M k c i) (c:=c) (base:=base) (R0:=R++[.cells [.int .i64 (M i c/M k c).num,.int .i64 ((M i c/M k c).den:Int)]]) hk hi hik hn (fun j h1 h2=>by rw[hk',hi'];exact hj j h1 h2) (hRn.2 i hi).symm (by simp) hbase (fun R1 sl g1 g2 g3 s6 s7 s10 s11 s12 s13 s15=>by
    have hs:∀i' j',(if i'=i/\c<=j' then eloR M k c i i j'-M i c/M k c*eloR M k c i k j' else eloR M k c i i' j')=eloR M k c (i+1) i' j':=fun i' j'=>by
     rw[hk',hi']
     by_cases e:i'=i
     ·subst e
      by_cases e2:c<=j'
      ·rw[if_pos ⟨rfl,e2⟩]
       unfold eloR
       rw[if_pos ⟨by omega,hik,e2⟩]
      ·rw[if_neg (fun h=>e2 h.2)]
       unfold eloR
       rw[if_neg (fun h=>e2 h.2.2),if_neg (fun h=>e2 h.2.2)]
     ·rw[if_neg (fun h=>e h.1)]
      unfold eloR
      by_cases e2:i'<i/\i'≠k/\c<=j'
      ·rw[if_pos e2,if_pos ⟨by omega,e2.2⟩]
      ·rw[if_neg e2,if_neg (fun h=>e2 ⟨by omega,h.2⟩)]
    have:=ih (i+1) R1 (by omega) (by omega) (g1.congr fun i' j' _ _=>hs i' j') (hF.trans ((Fx.app _).trans (g2.mono fun id _ e=>⟨i,hi,e⟩)))
    simp[s6,s7,s10,s11,s12,s13,s15,hwi]
    simpa using this) (n+1-c) c (R++[.cells [.int .i64 (M i c/M k c).num,.int .i64 ((M i c/M k c).den:Int)]]) rfl (Nat.le_refl _) (by omega) ((h.app _).congr fun i' j' _ _=>by rw[if_neg (by omega)]) Fx.refl rfl
   unfold Lc86l18
   simp[hi,hikZ,l1,l2,l4,l5,l6,ixO,ixc,ixk,iyk,ia,hz',hwi,r88,opC,targetC,maskE,drop_mapN,bx_st (show base<=R.length by omega)]
   simpa using hl20
end
end Go.Abs
namespace Go.Abs
section
variable {b:Nat}{O:Nat}{idf:Nat->Nat}{cap:Nat->Cap}{n w:Nat}{r:AV×List Row×Nat->Prop}{x10 x11 x12:AV}{cO:Cap}
set_option maxHeartbeats 8000000 in
theorem slv_l44{k c:Nat}{M:Nat->Nat->Rat}{R:List Row}{low:Nat}(hcw:c<w)(hn:n<=1000)(h:MH b R O idf cap M n w)
  (hk:∀(sl:List (Nat×AV)) (a:Nat),lk sl 6 = .int .i64 n->lk sl 7 = .slice O 0 n cO->lk sl 10=x10->lk sl 11=x11->lk sl 12=x12->lk sl 13 = .int .i64 c->lk sl 14 = .int .i64 a->a=fnd M c (n-k) k->
   Ex F (.fn [.t 4,.t 5]) [.code c86s43,.inBlock 3,.code c86k14,.inLoop c86l13,.inBlock 2,.code c86s12] ⟨mk 197 sl,R,low⟩ r):
  ∀(d a:Nat),n-a=d->a<=n->fnd M c (n-a) a=fnd M c (n-k) k->
  Lc86l44 F (.fn [.t 4,.t 5]) (.int .i64 n) (.slice O 0 n cO) x10 x11 x12 (.int .i64 c) (.int .i64 a) R low r:=by
 intro d
 induction d with
 |
  zero=>
  intro a hd ha hf
  have ha':a=n:=by omega
  subst ha'
  unfold Lc86l44
  simp[-uc86s43]
  refine hk _ a ?_ ?_ ?_ ?_ ?_ ?_ ?_ ?_
  rotate_right
  ·rw[<-hf,Nat.sub_self];rfl
  all_goals simp
 |
  succ d ih=>
  intro a hd ha hf
  have ha':a<n:=by omega
  have hwj:IntKind.i64.wrap ((a:Int)+1)=((a+1:Nat):Int):=by rw[wrap64 (by omega) (by omega)];omega
  have l1:=h.row ha'
  have l2:=frs_num (h.r a ha') hcw
  have ixO:=fun R:List Row=>sl_ix (R:=R) (O:=O) (c:=cO) ha'
  have ixc:=fun R:List Row=>fr_ix (R:=R) (id:=idf a) (c:=cap a) hcw
  have ia:=fun R:List Row=>fr_ixA1 (R:=R) (id:=idf a) (o:=c*2)
  rw[show n-a=(n-(a+1))+1 by omega,fnd]at hf
  by_cases hz:M a c=0
  ·rw[if_pos hz]at hf
   have hz':(M a c).num=0:=Rat.num_eq_zero.2 hz
   have:=ih (a+1) (by omega) (by omega) hf
   unfold Lc86l44
   simp[ha',l1,l2,ixO,ixc,ia,hz',hwj]
   simpa using this
  ·rw[if_neg hz]at hf
   have hz':¬(M a c).num=0:=fun e=>hz (Rat.num_eq_zero.1 e)
   unfold Lc86l44
   simp[ha',l1,l2,ixO,ixc,ia,hz',hwj,-uc86s43]
   refine hk _ a ?_ ?_ ?_ ?_ ?_ ?_ ?_ hf
   all_goals simp
end
section
variable {cx:Ctx}{k:List Itm}{r:AV×List Row×Nat->Prop}
theorem slv_ops{l0:List (Nat×AV)}{R:List Row}{low:Nat}:Ex F cx (.ops [.one ⟨some 91,.idxS 1 (.t 80) (.t 81),none⟩,.one ⟨none,.store1 (.t 91) (.t 89),none⟩]::k) ⟨mk 197 l0,R,low⟩ r↔
  bnd (evP R (.idxS 1 (.c (lk l0 80)) (.c (lk l0 81)))) fun v=>bnd (evE R low (.store1 (.c v) (.c (lk l0 89)))) fun q=>Ex F cx k ⟨mk 197 ((91,v)::l0),q.2.1,q.2.2⟩ r:=by
 rw[Ex_runQ rfl]
 exact Iff.rfl
set_option maxHeartbeats 8000000 in
theorem slv_k39{R:List Row}{id low i j n:Nat}{c:Cap}{l:List AV}{sl:List (Nat×AV)}{vi vj:AV}(hW:R[id]?=some (.cells l))(hi:i<n)(hj:j<n)(hn:n<=l.length)
  (h1:l.all AV.one=true) (hli:l[i]?=some vi) (hlj:l[j]?=some vj)
  (s7:lk sl 7 = .slice id 0 n c) (s10:lk sl 10 = .int .i64 i) (s14:lk sl 14 = .int .i64 j)
  (h:∀sl',(∀j∈[6,7,10,11,12,13,14],lk sl' j=lk sl j)->Ex F cx k ⟨mk 197 sl',R.set id (.cells ((l.set i vj).set j vi)),lower low id⟩ r):
  Ex F cx (.code c86k39::k) ⟨mk 197 sl,R,low⟩ r:=by
 have hWl:=(List.getElem?_eq_some_iff.1 hW).1
 have hrow:row? R id=some l:=by unfold row?;rw[hW]
 have hm:maskR R id i 1=R.set id (.cells (splice l i [.any])):=by unfold maskR;rw[hW];rfl
 have t7:Nat.testBit 8179 7=true:=by decide
 have t11:Nat.testBit 8179 11=true:=by decide
 have oi:vi.one=true:=List.all_eq_true.1 h1 _ (List.mem_of_getElem? hli)
 have oj:vj.one=true:=List.all_eq_true.1 h1 _ (List.mem_of_getElem? hlj)
 have pI:∀R:List Row,evP R (.idxS 1 (.c (.slice id 0 n c)) (.c (.int .i64 i)))=some (.ptr id i):=fun R=>sl_ix hi
 have pJ:∀R:List Row,evP R (.idxS 1 (.c (.slice id 0 n c)) (.c (.int .i64 j)))=some (.ptr id j):=fun R=>sl_ix hj
 rw[uc86k39,Ex_kill,kill_dead,Ex_ops,uc86r39,Ex_grpwR]
 simp[evalG_mv,evalG_idxS,evalG_load1,evalG_lenc,evalG_nil,subO,s7,s10,s14,pI,pJ,hrow,hli,hlj,hm,baseW,stored,t7,t11]
 refine⟨id,i,⟨rfl,rfl⟩,?_⟩
 have hcel:cells? (R.set id (.cells (l.set i vj))) id=some (l.set i vj):=by unfold cells?;rw[List.getElem?_set_self hWl]
 have hset3:(R.set id (.cells (l.set i vj))).set id (.cells ((l.set i vj).set j vi))=R.set id (.cells ((l.set i vj).set j vi)):=by rw[List.set_set]
 have hll:lower (lower low id) id=lower low id:=by unfold lower;split<;>simp<;>omega
 refine⟨_,by simp[hW,oj,show i<l.length by omega];rfl,?_⟩
 try simp only[List.map_nil,List.append_nil]
 rw[slv_ops]
 simp[pJ,hcel,oi,show j<l.length by omega,hset3,hll]
 refine h _ ?_
 intro j hj
 simp only[List.mem_cons,List.not_mem_nil,or_false]at hj
 rcases hj with rfl|rfl|rfl|rfl|rfl|rfl|rfl<;>simp[s7,s10,s14]
end
end Go.Abs
namespace Go.Abs
def pvL(A:Nat->Nat->Rat)(n:Nat):Nat->List Int
 |0=>List.replicate n 0
 |c+1=>(pvL A n c).set c (if fnd (gqR A n c).s.M c (n-(gqR A n c).s.k) (gqR A n c).s.k<n then((gqR A n c).s.k:Int)else -1)
theorem pvL_len{A:Nat->Nat->Rat}{n:Nat}:∀c,(pvL A n c).length=n
 |0=>by simp[pvL]
 |c+1=>by rw[pvL,List.length_set,pvL_len c]
structure RSQ(b:Nat)(R0 R:List Row)(O XI PI:Nat)(idf0 idf:Nat->Nat)(cap:Nat->Cap)(M:Nat->Nat->Rat)(n:Nat)(xl:List AV)(pl:List Int):Prop where
 mh:MH b R O idf cap M n (n+1)
 fx:Fx R0 R (fun id=>id=O\/id=XI\/id=PI\/∃i,i<n/\id=idf0 i)
 pm:∀i,i<n->∃i',i'<n/\idf i=idf0 i'
 xi:R[XI]?=some (.cells xl)
 pi:R[PI]?=some (.cells (nums .i64 pl))
theorem eloR_elm{X:Nat->Nat->Rat}{n k a c:Nat}{i j:Nat}(hi:i<n)(hz:∀j,j<c->X a j=0):eloR (fun i'=>X (swp k a i')) k c n i j=elmR X k a c i j:=by
 have e:swp k a k=a:=by unfold swp;rw[if_pos rfl]
 unfold eloR elmR
 by_cases h:i=k
 ·subst h
  rw[if_neg (fun h=>h.2.1 rfl),if_pos rfl]
  simp only[e]
 ·rw[if_neg h]
  by_cases h2:c<=j
  ·rw[if_pos ⟨hi,h,h2⟩]
   simp only[e]
  ·rw[if_neg (fun h=>h2 h.2.2),hz j (by omega)]
   grind
section
variable {b:Nat}{O XI PI:Nat}{idf0:Nat->Nat}{n:Nat}{A:Nat->Nat->Rat}{cO cX cP:Cap}{r:AV×List Row×Nat->Prop}
set_option maxHeartbeats 16000000 in
theorem slv_l13{base:Nat}{R0:List Row}(hn:n<=6)(hb:Bd A n (n+1) n)(hbase:base<=b)(hbX:b<=XI)(hbP:b<=PI)
  (hXO:XI≠O) (hPO:PI≠O) (hXP:XI≠PI) (hXi:∀i,i<n->idf0 i≠XI) (hPi:∀i,i<n->idf0 i≠PI)
  (hc:∀(R:List Row) (sl:List (Nat×AV)) (idf:Nat->Nat) (cap:Nat->Cap),RSQ b R0 R O XI PI idf0 idf cap (XR (gqR A n n)) n (zrow n n) (pvL A n n)->lk sl 6 = .int .i64 n->lk sl 7 = .slice O 0 n cO->lk sl 10 = .int .i64 ((gqR A n n).s.k:Int)->lk sl 11 = .slice XI 0 n cX->lk sl 12 = .slice PI 0 n cP->
   Ex F (.fn [.t 4,.t 5]) [.code c86s12] ⟨mk 197 sl,R,base⟩ r):
  ∀(d c:Nat) (R:List Row) (idf:Nat->Nat) (cap:Nat->Cap),n-c=d->c<=n->RSQ b R0 R O XI PI idf0 idf cap (XR (gqR A n c)) n (zrow n c) (pvL A n c)->
  Lc86l13 F (.fn [.t 4,.t 5]) (.int .i64 n) (.slice O 0 n cO) (.int .i64 ((gqR A n c).s.k:Int)) (.slice XI 0 n cX) (.slice PI 0 n cP) (.int .i64 c) R base r:=by
 intro d
 induction d with
 |
  zero=>
  intro c R idf cap hd hc' h
  have e:c=n:=by omega
  subst e
  unfold Lc86l13
  simp[-uc86s12]
  refine hc R _ idf cap h ?_ ?_ ?_ ?_ ?_<;>simp
 |
  succ d ih=>
  intro c R idf cap hd hc0 h
  have hcc:c<n:=by omega
  have hwc:IntKind.i64.wrap ((c:Int)+1)=((c+1:Nat):Int):=by rw[wrap64 (by omega) (by omega)];omega
  obtain⟨σ,hgq⟩:=gqR_ok (A:=A) (n:=n) c
  have hgj:=hgq.h
  have hkn:=hgj.kn
  have hkc:=hgj.kle
  have hnx:gqR A n (c+1)=gqst n (gqR A n c) c:=rfl
  have hpx:pvL A n (c+1)=(pvL A n c).set c (if fnd (gqR A n c).s.M c (n-(gqR A n c).s.k) (gqR A n c).s.k<n then((gqR A n c).s.k:Int)else -1):=rfl
  have hpl:=pvL_len (A:=A) (n:=n) c
  have hfnd:=fnd_ok (M:=(gqR A n c).s.M) (c:=c) (n:=n) (n-(gqR A n c).s.k) (gqR A n c).s.k (by omega)
  have hd':=gqR_d hb c (by omega)
  generalize hg:gqR A n c=g at *
  generalize hp0:pvL A n c=pl at *
  have hfX:fnd (XR g) c (n-g.s.k) g.s.k=fnd g.s.M c (n-g.s.k) g.s.k:=fnd_congr _ _ fun i hi=>XR_ge hi
  -- x and the row of columns
  have lw:∀id,b<=id->lower base id=base:=fun id hid=>by unfold lower;rw[if_neg (by omega)]
  have ixX:=fun R:List Row=>fr_ix (R:=R) (id:=XI) (c:=cX) hcc
  have ixP:=fun R:List Row=>sl_ix (R:=R) (O:=PI) (c:=cP) hcc
  have stX:=zrow_se (low:=base) h.xi hcc
  rw[lw XI hbX]at stX
  have hP1:(R.set XI (.cells (zrow n (c+1))))[PI]?=some (.cells (nums .i64 pl)):=by rw[List.getElem?_set_ne hXP];exact h.pi
  have stP:=nums_st (low:=base) (i:=c) (x:=-1) hP1 (by omega)
  rw[lw PI hbP]at stP
  have hXi':∀i,i<n->XI≠idf i:=fun i hi=>by obtain⟨i',h1,h2⟩:=h.pm i hi;rw[h2];exact(hXi i' h1).symm
  have hPi':∀i,i<n->PI≠idf i:=fun i hi=>by obtain⟨i',h1,h2⟩:=h.pm i hi;rw[h2];exact(hPi i' h1).symm
  have m1:=(h.mh.oth (y:=.cells (zrow n (c+1))) hXO hXi').oth (y:=.cells (nums .i64 (pl.set c (-1)))) hPO hPi'
  have f1:Fx R0 ((R.set XI (.cells (zrow n (c+1)))).set PI (.cells (nums .i64 (pl.set c (-1))))) (fun id=>id=O\/id=XI\/id=PI\/∃i,i<n/\id=idf0 i):=h.fx.trans ((Fx.set (Or.inr (Or.inl rfl))).trans (Fx.set (Or.inr (Or.inr (Or.inl rfl)))))
  have x1:((R.set XI (.cells (zrow n (c+1)))).set PI (.cells (nums .i64 (pl.set c (-1)))))[XI]?=some (.cells (zrow n (c+1))):=by
   rw[List.getElem?_set_ne hXP.symm,List.getElem?_set_self (List.getElem?_eq_some_iff.1 h.xi).1]
  have p1:((R.set XI (.cells (zrow n (c+1)))).set PI (.cells (nums .i64 (pl.set c (-1)))))[PI]?=some (.cells (nums .i64 (pl.set c (-1)))):=by
   rw[List.getElem?_set_self (by rw[List.length_set];exact(List.getElem?_eq_some_iff.1 h.pi).1)]
  have e01:fillA (getO []) [(0,1,.c (.int .i64 0)),(1,1,.c (.int .i64 1))] [.int .i64 0,.int .i64 0]=some [.int .i64 0,.int .i64 1]:=rfl
  have efr:AV.agg [.int .i64 0,.int .i64 1]=fr 0:=rfl
  generalize hR1:(R.set XI (.cells (zrow n (c+1)))).set PI (.cells (nums .i64 (pl.set c (-1))))=R1 at *
  unfold Lc86l13
  simp[hcc,e01,efr,ixX,stX,ixP,stP,-evE_storeN,-evE_store1]
  refine slv_l44 (k:=g.s.k) (c:=c) (w:=n+1) (by omega) (by omega) m1 (fun sl a s6 s7 s10 s11 s12 s13 s14 ha=>?_) (n-g.s.k) g.s.k rfl hkn rfl
  rw[hfX]at ha
  rw[<-ha]at hfnd hpx
  obtain⟨q1,q2,q3,q4⟩:=hfnd
  by_cases han:a<n
  ·have hkl:g.s.k<n:=by omega
   have hp:=q3 han
   have hgst:gqst n g c=⟨⟨elm g.s.M g.s.k a c,g.s.k+1,fun t=>if t=g.s.k then c else g.s.κ t⟩,fun i=>if i=g.s.k then g.s.M a c else g.q i,fun t=>if t=g.s.k+1 then g.s.M a c*g.d g.s.k else g.d t⟩:=by
    unfold gqst
    simp only[<-ha]
    rw[if_pos han]
   rw[if_pos han]at hpx
   have hfit:=hgq.fit hb hcc (by omega) (by omega) q1 han hp hd'
   have hnZ:¬(a:Int)=(n:Int):=by omega
   have ekk:swp g.s.k a g.s.k=a:=by unfold swp;rw[if_pos rfl]
   have hXa:XR g a c≠0:=by rw[XR_ge q1];exact hp
   have hXz:∀j,j<c->XR g a j=0:=fun j hj=>by rw[XR_ge q1];exact hgj.z a j q1 han hj
   have m2:=m1.swap hkl han
   have hsl:=swp_tab hkl han fun i=>AV.slice (idf i) 0 (n+1) (cap i)
   obtain⟨idf',hidf⟩:∃f,f=fun i=>idf (swp g.s.k a i):=⟨_,rfl⟩
   obtain⟨cap',hcap⟩:∃f,f=fun i=>cap (swp g.s.k a i):=⟨_,rfl⟩
   obtain⟨M',hM⟩:∃f,f=fun i=>XR g (swp g.s.k a i):=⟨_,rfl⟩
   rw[<-hidf,<-hcap,<-hM]at m2
   have hMk:M' g.s.k=XR g a:=by rw[hM];simp only[ekk]
   have hMi:∀i,M' i=XR g (swp g.s.k a i):=fun i=>by rw[hM]
   have hpm:∀i,i<n->∃i',i'<n/\idf' i=idf0 i':=fun i hi=>by rw[hidf];exact h.pm _ (swp_in hkl han hi)
   simp[s6,s7,s10,s11,s12,s13,s14,hnZ,-uc86k39]
   refine slv_k39 (i:=g.s.k) (j:=a) (c:=cO) m1.o hkl han (by simp) (by simp[AV.one]) (vi:=.slice (idf g.s.k) 0 (n+1) (cap g.s.k)) (vj:=.slice (idf a) 0 (n+1) (cap a)) (by simp[hkl]) (by simp[han]) (by simp) (by simp) (by simp) (fun sl' hsl'=>?_)
   rw[hsl,lw O m1.ob]
   simp only[List.mem_cons,List.not_mem_nil,or_false,forall_eq_or_imp,forall_eq]at hsl'
   obtain⟨t6,t7,t10,t11,t12,t13,t14⟩:=hsl'
   generalize hR2:R1.set O (.cells ((List.range n).map fun i=>AV.slice (idf (swp g.s.k a i)) 0 (n+1) (cap (swp g.s.k a i))))=R2 at m2
   have f2:Fx R0 R2 (fun id=>id=O\/id=XI\/id=PI\/∃i,i<n/\id=idf0 i):=by rw[<-hR2];exact f1.trans (Fx.set (Or.inl rfl))
   have x2:R2[XI]?=some (.cells (zrow n (c+1))):=by rw[<-hR2,List.getElem?_set_ne hXO.symm];exact x1
   have p2:R2[PI]?=some (.cells (nums .i64 (pl.set c (-1)))):=by rw[<-hR2,List.getElem?_set_ne hPO.symm];exact p1
   simp[t6,t7,t10,t11,t12,t13,-uc86s17]
   refine slv_l18 (b:=b) (idf:=idf') (cap:=cap') (n:=n) (O:=O) (k:=g.s.k) (c:=c) (base:=base) (R0:=R2) (M:=M') hkl hcc (by omega) (by rw[hMk];exact hXa) (fun i hi hik=>?_) hbase (fun R4 sl4 m4 g4 v6 v7 v10 v11 v12 v13=>?_) n 0 R2 rfl (by omega) (m2.congr fun i' j' _ _=>by unfold eloR;exact(if_neg (fun h:i'<0/\i'≠g.s.k/\c<=j'=>Nat.not_lt_zero _ h.1)).symm) Fx.refl
   ·rw[hMk,hMi]
    exact⟨(hfit.v i hi hik).1,(hfit.v i hi hik).2,fun j _ hj=>⟨(hfit.m i j hi hik hj).1,(hfit.m i j hi hik hj).2,hfit.p i j hi hik hj,hfit.u i j hi hik hj⟩⟩
   ·have hX4:∀id,id=XI\/id=PI->¬∃i,i<n/\id=idf' i:=fun id hid ⟨i,h0,e⟩=>by
     obtain⟨i',h1,h2⟩:=hpm i h0
     rcases hid with hid|hid
     ·exact hXi i' h1 (by rw[<-h2,<-e,hid])
     ·exact hPi i' h1 (by rw[<-h2,<-e,hid])
    have x4:=g4.row x2 (hX4 XI (.inl rfl))
    have p4:=g4.row p2 (hX4 PI (.inr rfl))
    have f4:Fx R0 R4 (fun id=>id=O\/id=XI\/id=PI\/∃i,i<n/\id=idf0 i):=f2.trans (g4.mono fun id _ e=>by
     obtain⟨i,h0,e⟩:=e
     obtain⟨i',h1,h2⟩:=hpm i h0
     exact Or.inr (Or.inr (Or.inr ⟨i',h1,by rw[e,h2]⟩)))
    have st4:=nums_st (low:=base) (i:=c) (x:=(g.s.k:Int)) p4 (by rw[List.length_set];omega)
    rw[lw PI hbP,List.set_set,<-hpx]at st4
    have hwk:IntKind.i64.wrap ((g.s.k:Int)+1)=((g.s.k+1:Nat):Int):=by rw[wrap64 (by omega) (by omega)];omega
    have m5:RSQ b R0 (R4.set PI (.cells (nums .i64 (pvL A n (c+1))))) O XI PI idf0 idf' cap' (XR (gqR A n (c+1))) n (zrow n (c+1)) (pvL A n (c+1)):=
     {mh:=(m4.oth hPO (fun i hi=>by obtain⟨i',h1,h2⟩:=hpm i hi;rw[h2];exact(hPi i' h1).symm)).congr fun i j hi hj=>by
       rw[hM,eloR_elm hi hXz,hnx,hgst,XR_step hgq q1 han hp hi]
      fx:=f4.trans (Fx.set (Or.inr (Or.inr (Or.inl rfl))))
      pm:=hpm
      xi:=by rw[List.getElem?_set_ne hXP.symm];exact x4
      pi:=by rw[List.getElem?_set_self (List.getElem?_eq_some_iff.1 p4).1]}
    have:=ih (c+1) _ idf' cap' (by omega) (by omega) m5
    have hkk:(gqR A n (c+1)).s.k=g.s.k+1:=by rw[hnx,hgst]
    rw[hkk]at this
    simp[v6,v7,v10,v11,v12,v13,ixP,st4,hwk,hwc,-evE_store1]
    simpa using this
  ·have e:a=n:=by omega
   subst e
   have hgst:gqst a g c=g:=by
    unfold gqst
    simp only[<-ha]
    rw[if_neg han]
   rw[if_neg han]at hpx
   have:=ih (c+1) R1 idf cap (by omega) (by omega) (by rw[hnx,hgst,hpx];exact⟨m1,f1,h.pm,x1,p1⟩)
   rw[hnx,hgst]at this
   simp[s6,s7,s10,s11,s12,s13,s14,hwc]
   simpa using this
end
end Go.Abs
namespace Go.Abs
theorem seg_all{xs:List AV}{k:Nat}(h:xs.length=k):seg xs 0 k=some xs:=by
 unfold seg
 rw[if_pos (by omega),List.drop_zero,List.take_of_length_le (by omega)]
section
variable {rows:List Row}{r:AV×List Row×Nat->Prop}{x0:AV}
end
end Go.Abs
namespace Go.Abs
theorem GRd_fx{rows R:List Row}{g:AV}{N:Nat}{ks ps:List Nat}(h:GRd rows g N ks ps)(hF:Fx rows R (fun _=>False)):GRd R g N ks ps:=by
 have hS:Sm rows.length rows.length rows R:=⟨hF.1,fun id h1 _=>hF.2 id h1 (by simp)⟩
 obtain⟨ev,pv,e,h1,h2,h3⟩:=h.eq
 refine⟨h.ok,ev,pv,e,Sm_El hS h1 ?_,Sm_El hS h2 ?_,h3⟩
 ·rcases El_lt h1 with e|e
  ·exact .inl e
  ·exact .inr ⟨e,by omega⟩
 ·rcases El_lt h2 with e|e
  ·exact .inl e
  ·exact .inr ⟨e,by omega⟩
theorem MH.fx{b:Nat}{R R':List Row}{O:Nat}{idf:Nat->Nat}{cap:Nat->Cap}{M:Nat->Nat->Rat}{n w:Nat}(h:MH b R O idf cap M n w){p:Nat->Prop}(hF:Fx R R' p)(hO:¬p O)(hi:∀i,i<n->¬p (idf i)):MH b R' O idf cap M n w:=
 {h with
  o:=hF.row h.o hO
  r:=fun i hi'=>hF.row (h.r i hi') (hi i hi')}
def Tg(rows R:List Row)(M:Nat->Nat->Rat)(w i:Nat)(v:AV):Prop:=Fx rows R (fun _=>False)/\((i=0/\v = .nilslice)\/(0<i/\∃LO idf,v = .slice LO 0 i (.op 1)/\MH rows.length R LO idf (fun _=>.at_ w) M i w))
theorem Tg.fx{rows R R':List Row}{M:Nat->Nat->Rat}{w i:Nat}{v:AV}(h:Tg rows R M w i v)(hF:Fx R R' (fun _=>False)):Tg rows R' M w i v:=by
 refine⟨h.1.trans hF,?_⟩
 rcases h.2 with h|⟨h0,LO,idf,e,hm⟩
 ·exact .inl h
 ·exact .inr ⟨h0,LO,idf,e,hm.fx hF (by simp) (by simp)⟩
theorem Tg.push{rows R R':List Row}{M:Nat->Nat->Rat}{w i id low:Nat}{v:AV}(h:Tg rows R M w i v)(hlow:low<=rows.length)(hi:i<1000)(hF:Fx R R' (fun _=>False))(hid:R.length<=id)(hr:R'[id]?=some (.cells (frs (M i) w))):∃v' R'',evE (R'++[.cells [.slice id 0 w (.at_ w)]]) low (.app 1 24 (.c v) (.c (.slice R'.length 0 1 (.at_ 1))))=some (v',R'',low)/\Tg rows R'' M w (i+1) v':=by
 have hFb:=h.1.trans hF
 have hidl:=(List.getElem?_eq_some_iff.1 hr).1
 have hbl:=h.1.1
 have hEl:El (R'++[.cells [.slice id 0 w (.at_ w)]]) 1 (.slice R'.length 0 1 (.at_ 1)) [.slice id 0 w (.at_ w)] 1:=by
  unfold El elems
  have hr:row? (R'++[.cells [.slice id 0 w (.at_ w)]]) R'.length=some [.slice id 0 w (.at_ w)]:=by
   unfold row?
   rw[List.getElem?_append_right (by omega)]
   simp
  simp only[hr]
  rfl
 rcases h.2 with ⟨rfl,rfl⟩|⟨h0,LO,idf,rfl,hm0⟩
 ·refine⟨_,_,app_nil hEl (by omega) (by unfold lim;omega),⟨?_,.inr ⟨by omega,R'.length+1,fun _=>id,?_,?_⟩⟩⟩
  ·rw[List.append_assoc];exact hFb.trans (Fx.app _)
  ·simp
  ·rw[List.append_assoc]
   refine⟨?_,fun j hj=>?_,fun j k hj hk _=>by omega,fun j hj=>by omega,by omega,fun j hj=>by omega⟩
   ·rw[List.getElem?_append_right (by omega)];simp[show R'.length+1-R'.length=1 by omega]
   ·have:j=0:=by omega
    subst this
    rw[List.getElem?_append_left hidl,hr]
 ·have hO0:=(List.getElem?_eq_some_iff.1 hm0.o).1
  have hI0:∀j,j<i->idf j<R.length:=fun j hj=>(List.getElem?_eq_some_iff.1 (hm0.r j hj)).1
  have hm:MH rows.length R' LO idf (fun _=>.at_ w) M i w:=hm0.fx hF (by simp) (by simp)
  have hO:=(List.getElem?_eq_some_iff.1 hm.o).1
  have hI:∀j,j<i->idf j<R'.length:=fun j hj=>(List.getElem?_eq_some_iff.1 (hm.r j hj)).1
  have hcel:cells? (R'++[.cells [.slice id 0 w (.at_ w)]]) LO=some ((List.range i).map fun j=>AV.slice (idf j) 0 w (.at_ w)):=by
   unfold cells?
   rw[List.getElem?_append_left hO,hm.o]
  have hsg:seg ((List.range i).map fun j=>AV.slice (idf j) 0 w (.at_ w)) 0 (i*1)=some ((List.range i).map fun j=>AV.slice (idf j) 0 w (.at_ w)):=by
   unfold seg
   rw[if_pos (by simp),List.drop_zero,List.take_of_length_le (by simp)]
  have hob:=hm.ob
  have hlw:lower low LO=low:=by unfold lower;rw[if_neg (by omega)]
  refine⟨_,_,by rw[app_op hcel hsg hEl (by omega) (by unfold lim;omega),hlw],⟨?_,.inr ⟨by omega,R'.length+1,fun j=>if j=i then id else idf j,?_,?_⟩⟩⟩
  ·refine⟨by have:=hFb.1;simp;omega,fun id h1 h2=>?_⟩
   have:=hFb.1
   rw[List.getElem?_append_left (by simp;omega),List.getElem?_set_ne (by omega),List.getElem?_append_left (by omega),hFb.2 id h1 h2]
  ·simp
  ·refine⟨?_,fun j hj=>?_,fun j k hj hk e=>?_,fun j hj=>?_,by omega,fun j hj=>?_⟩
   ·rw[List.getElem?_append_right (by simp)]
    simp[List.range_succ]
    intro j hj e
    omega
   ·by_cases e:j=i
    ·subst e
     rw[if_pos rfl,List.getElem?_append_left (by simp;omega),List.getElem?_set_ne (by omega),List.getElem?_append_left hidl,hr]
    ·have:=hI j (by omega)
     rw[if_neg e,List.getElem?_append_left (by simp;omega),List.getElem?_set_ne (hm.io j (by omega)).symm,List.getElem?_append_left this]
     exact hm.r j (by omega)
   ·by_cases e1:j=i
    ·by_cases e2:k=i
     ·omega
     ·have:=hI0 k (by omega)
      simp only[if_pos e1,if_neg e2]at e
      omega
    ·have:=hI0 j (by omega)
     by_cases e2:k=i
     ·simp only[if_neg e1,if_pos e2]at e
      omega
     ·simp only[if_neg e1,if_neg e2]at e
      exact hm.inj j k (by omega) (by omega) e
   ·by_cases e:j=i
    ·simp only[if_pos e];omega
    ·have:=hI j (by omega)
     simp only[if_neg e];omega
   ·by_cases e:j=i
    ·simp only[if_pos e];omega
    ·simp only[if_neg e];exact hm.ib j (by omega)
def frI(f:Nat->Rat):Nat->List Int
 |0=>[]
 |w+1=>frI f w++[(f w).num,((f w).den:Int)]
theorem frI_nums{f:Nat->Rat}:∀w,nums .i64 (frI f w)=frs f w
 |0=>rfl
 |
  w+1=>by
  have ih:=frI_nums (f:=f) w
  unfold nums at ih ⊢
  rw[frI,frs,List.map_append,ih]
  rfl
def updG(i:Nat)(s:Int)(c:List Int):List Int:=c.take (i*2)++[s,1]++c.drop (i*2+2)
theorem updG_nums{i w:Nat}{s:Int}{c:List Int}{f:Nat->Rat}(h:nums .i64 c=frs f w)(hi:i<w):nums .i64 (updG i s c)=frs (fun j=>if j=i then(s:Rat)else f j) w:=by
 rw[<-frs_splice hi,<-h]
 unfold nums updG splice
 simp[List.map_take,List.map_drop]
def plr(q:Nat)(ks:List Nat)(e:Nat):Rat:=((sgn q (gN ks e):Int):Rat)
theorem sdG{q w:Nat}{ks:List Nat}{c0:List Int}(h0:nums .i64 c0=frs (fun _=>0) w):∀i,i<=w->nums .i64 (sdS q ks updG c0 i)=frs (fun e=>if e<i then plr q ks e else 0) w
 |0,_=>by rw[sdS,h0];exact frs_congr fun j _=>by rw[if_neg (by omega)]
 |
  i+1,hi=>by
  have ih:=sdG (q:=q) (ks:=ks) h0 i (by omega)
  rw[sdS]
  split
  ·rename_i hz
   rw[ih]
   refine frs_congr fun j _=>?_
   by_cases e:j<i
   ·rw[if_pos e,if_pos (by omega)]
   ·rw[if_neg e]
    by_cases e2:j=i
    ·subst e2
     rw[if_pos (by omega)]
     unfold plr
     rw[hz]
     rfl
    ·rw[if_neg (by omega)]
  ·rw[updG_nums ih (by omega)]
   refine frs_congr fun j _=>?_
   by_cases e2:j=i
   ·subst e2
    rw[if_pos rfl,if_pos (by omega)]
    rfl
   ·rw[if_neg e2]
    by_cases e:j<i
    ·rw[if_pos e,if_pos (by omega)]
    ·rw[if_neg e,if_neg (by omega)]
end Go.Abs
namespace Go.Abs
def To(rows R:List Row)(M:Nat->Nat->Rat)(w i:Nat)(v:AV):Prop:=Fx rows R (fun _=>False)/\((i=0/\v = .nilslice)\/(0<i/\∃LO idf,v = .slice LO 0 i (.op 1)/\MH rows.length R LO idf (fun _=>.op 2) M i w))
theorem To.fx{rows R R':List Row}{M:Nat->Nat->Rat}{w i:Nat}{v:AV}(h:To rows R M w i v)(hF:Fx R R' (fun _=>False)):To rows R' M w i v:=by
 refine⟨h.1.trans hF,?_⟩
 rcases h.2 with h|⟨h0,LO,idf,e,hm⟩
 ·exact .inl h
 ·exact .inr ⟨h0,LO,idf,e,hm.fx hF (by simp) (by simp)⟩
theorem To.push{rows R R':List Row}{M:Nat->Nat->Rat}{w i id low:Nat}{v:AV}(h:To rows R M w i v)(hlow:low<=rows.length)(hi:i<1000)(hF:Fx R R' (fun _=>False))(hid:R.length<=id)(hr:R'[id]?=some (.cells (frs (M i) w))):∃v' R'',evE (R'++[.cells [.slice id 0 w (.op 2)]]) low (.app 1 24 (.c v) (.c (.slice R'.length 0 1 (.at_ 1))))=some (v',R'',low)/\To rows R'' M w (i+1) v':=by
 have hFb:=h.1.trans hF
 have hidl:=(List.getElem?_eq_some_iff.1 hr).1
 have hbl:=h.1.1
 have hEl:El (R'++[.cells [.slice id 0 w (.op 2)]]) 1 (.slice R'.length 0 1 (.at_ 1)) [.slice id 0 w (.op 2)] 1:=by
  unfold El elems
  have hr:row? (R'++[.cells [.slice id 0 w (.op 2)]]) R'.length=some [.slice id 0 w (.op 2)]:=by
   unfold row?
   rw[List.getElem?_append_right (by omega)]
   simp
  simp only[hr]
  rfl
 rcases h.2 with ⟨rfl,rfl⟩|⟨h0,LO,idf,rfl,hm0⟩
 ·refine⟨_,_,app_nil hEl (by omega) (by unfold lim;omega),⟨?_,.inr ⟨by omega,R'.length+1,fun _=>id,?_,?_⟩⟩⟩
  ·rw[List.append_assoc];exact hFb.trans (Fx.app _)
  ·simp
  ·rw[List.append_assoc]
   refine⟨?_,fun j hj=>?_,fun j k hj hk _=>by omega,fun j hj=>by omega,by omega,fun j hj=>by omega⟩
   ·rw[List.getElem?_append_right (by omega)];simp[show R'.length+1-R'.length=1 by omega]
   ·have:j=0:=by omega
    subst this
    rw[List.getElem?_append_left hidl,hr]
 ·have hO0:=(List.getElem?_eq_some_iff.1 hm0.o).1
  have hI0:∀j,j<i->idf j<R.length:=fun j hj=>(List.getElem?_eq_some_iff.1 (hm0.r j hj)).1
  have hm:MH rows.length R' LO idf (fun _=>.op 2) M i w:=hm0.fx hF (by simp) (by simp)
  have hO:=(List.getElem?_eq_some_iff.1 hm.o).1
  have hI:∀j,j<i->idf j<R'.length:=fun j hj=>(List.getElem?_eq_some_iff.1 (hm.r j hj)).1
  have hcel:cells? (R'++[.cells [.slice id 0 w (.op 2)]]) LO=some ((List.range i).map fun j=>AV.slice (idf j) 0 w (.op 2)):=by
   unfold cells?
   rw[List.getElem?_append_left hO,hm.o]
  have hsg:seg ((List.range i).map fun j=>AV.slice (idf j) 0 w (.op 2)) 0 (i*1)=some ((List.range i).map fun j=>AV.slice (idf j) 0 w (.op 2)):=by
   unfold seg
   rw[if_pos (by simp),List.drop_zero,List.take_of_length_le (by simp)]
  have hob:=hm.ob
  have hlw:lower low LO=low:=by unfold lower;rw[if_neg (by omega)]
  refine⟨_,_,by rw[app_op hcel hsg hEl (by omega) (by unfold lim;omega),hlw],⟨?_,.inr ⟨by omega,R'.length+1,fun j=>if j=i then id else idf j,?_,?_⟩⟩⟩
  ·refine⟨by have:=hFb.1;simp;omega,fun id h1 h2=>?_⟩
   have:=hFb.1
   rw[List.getElem?_append_left (by simp;omega),List.getElem?_set_ne (by omega),List.getElem?_append_left (by omega),hFb.2 id h1 h2]
  ·simp
  ·refine⟨?_,fun j hj=>?_,fun j k hj hk e=>?_,fun j hj=>?_,by omega,fun j hj=>?_⟩
   ·rw[List.getElem?_append_right (by simp)]
    simp[List.range_succ]
    intro j hj e
    omega
   ·by_cases e:j=i
    ·subst e
     rw[if_pos rfl,List.getElem?_append_left (by simp;omega),List.getElem?_set_ne (by omega),List.getElem?_append_left hidl,hr]
    ·have:=hI j (by omega)
     rw[if_neg e,List.getElem?_append_left (by simp;omega),List.getElem?_set_ne (hm.io j (by omega)).symm,List.getElem?_append_left this]
     exact hm.r j (by omega)
   ·by_cases e1:j=i
    ·by_cases e2:k=i
     ·omega
     ·have:=hI0 k (by omega)
      simp only[if_pos e1,if_neg e2]at e
      omega
    ·have:=hI0 j (by omega)
     by_cases e2:k=i
     ·simp only[if_neg e1,if_pos e2]at e
      omega
     ·simp only[if_neg e1,if_neg e2]at e
      exact hm.inj j k (by omega) (by omega) e
   ·by_cases e:j=i
    ·simp only[if_pos e];omega
    ·have:=hI j (by omega)
     simp only[if_neg e];omega
   ·by_cases e:j=i
    ·simp only[if_pos e];omega
    ·simp only[if_neg e];exact hm.ib j (by omega)
theorem pv_ok{A:Nat->Nat->Rat}{n:Nat}:∀c,c<=n->∀j,j<c->(gI (pvL A n c) j = -1/\∀t,t<(gqR A n c).s.k->(gqR A n c).s.κ t≠j)\/∃t,t<(gqR A n c).s.k/\(gqR A n c).s.κ t=j/\gI (pvL A n c) j=(t:Int)
 |0,_,j,hj=>by omega
 |
  c+1,hc,j,hj=>by
  obtain⟨σ,hgq⟩:=gqR_ok (A:=A) (n:=n) c
  have hgj:=hgq.h
  have hl:=pvL_len (A:=A) (n:=n) c
  have ih:=pv_ok (A:=A) (n:=n) c (by omega)
  have hnx:gqR A n (c+1)=gqst n (gqR A n c) c:=rfl
  rw[pvL,gI_set (show c<(pvL A n c).length by omega),hnx]
  generalize gqR A n c=g at *
  unfold gqst
  simp only
  by_cases han:fnd g.s.M c (n-g.s.k) g.s.k<n
  ·rw[if_pos han,if_pos han]
   by_cases e:j=c
   ·subst e
    rw[if_pos rfl]
    exact .inr ⟨g.s.k,Nat.lt_succ_self _,if_pos rfl,rfl⟩
   ·rw[if_neg e]
    rcases ih j (by omega)with ⟨h1,h2⟩|⟨t,h1,h2,h3⟩
    ·refine .inl ⟨h1,fun t ht=>?_⟩
     by_cases e2:t=g.s.k
     ·simp only[if_pos e2];omega
     ·simp only[if_neg e2]
      have ht':t<g.s.k+1:=ht
      exact h2 t (by omega)
    ·refine .inr ⟨t,Nat.lt_succ_of_lt h1,?_,h3⟩
     simp only[if_neg (show t≠g.s.k by omega)]
     exact h2
  ·rw[if_neg han,if_neg han]
   by_cases e:j=c
   ·subst e
    rw[if_pos rfl]
    exact .inl ⟨rfl,fun t ht=>by have:=hgj.kc t ht;omega⟩
   ·rw[if_neg e]
    exact ih j (by omega)
theorem xs_at{s:GS}{cols t:Nat}(ht:t<s.k)(hki:∀a t,a<t->t<s.k->s.κ a<s.κ t):xs s cols (s.κ t)=s.M t cols:=by
 unfold xs
 rw[su_one ht fun u hu hne=>if_neg fun e=>by
  rcases Nat.lt_or_gt_of_ne hne with h|h
  ·have:=hki u t h ht;omega
  ·have:=hki t u h hu;omega,if_pos rfl]
theorem xs_no{s:GS}{cols j:Nat}(h:∀t,t<s.k->s.κ t≠j):xs s cols j=0:=by
 unfold xs
 rw[su_congr (g:=fun _=>0) (fun t ht=>if_neg (h t ht)),su_0]
end Go.Abs
namespace Go.Abs
abbrev C86:Ctx:=.fn [.t 4,.t 5]
def aug(A:Nat->Nat->Rat)(g:Nat->Rat)(n:Nat):Nat->Nat->Rat:=fun i j=>if j<n then A i j else g i
theorem aug_frs{A:Nat->Nat->Rat}{g:Nat->Rat}{n i:Nat}:frs (aug A g n i) (n+1)=frs (A i) n++[.int .i64 (g i).num,.int .i64 ((g i).den:Int)]:=by
 rw[frs]
 congr 1
 ·exact frs_congr fun j hj=>by unfold aug;rw[if_pos hj]
 ·unfold aug
  rw[if_neg (by omega)]
section
variable {rows:List Row}{n:Nat}{A:Nat->Nat->Rat}{g:Nat->Rat}{bA AO BO:Nat}{idA:Nat->Nat}{capA:Nat->Cap}{cA cB:Cap}{r:AV×List Row×Nat->Prop}
set_option maxHeartbeats 8000000 in
theorem slv_l67(hA:MH bA rows AO idA capA A n n)(hB:rows[BO]?=some (.cells (frs g n)))(hn:n<=100)
  (hc:∀(R:List Row) (v:AV) (sl:List (Nat×AV)),To rows R (aug A g n) (n+1) n v->lk sl 6 = .int .i64 n->lk sl 7=v->Ex F C86 [.code c86s66] ⟨mk 197 sl,R,rows.length⟩ r):
  ∀(d i:Nat) (R:List Row) (v:AV),n-i=d->i<=n->To rows R (aug A g n) (n+1) i v->
   Lc86l67 F C86 (.slice AO 0 n cA) (.slice BO 0 n cB) (.int .i64 n) v (.int .i64 i) R rows.length r:=by
 intro d
 induction d with
 |
  zero=>
  intro i R v hd hi h
  have e:i=n:=by omega
  subst e
  unfold Lc86l67
  simp[-uc86s66]
  refine hc R v _ h ?_ ?_<;>simp
 |
  succ d ih=>
  intro i R v hd hi0 h
  have hi:i<n:=by omega
  have hwi:IntKind.i64.wrap ((i:Int)+1)=((i+1:Nat):Int):=by rw[wrap64 (by omega) (by omega)];omega
  have hlR:=h.1.1
  have hm:MH bA R AO idA capA A n n:=hA.fx h.1 (by simp) (by simp)
  have hBR:=h.1.row hB (by simp)
  have l1:=hm.row hi
  have ixA:=fun R:List Row=>sl_ix (R:=R) (O:=AO) (c:=cA) hi
  have ixB:=fun R:List Row=>fr_ix (R:=R) (id:=BO) (c:=cB) hi
  have hEl1:El R 2 (.slice (idA i) 0 n (capA i)) (frs (A i) n) n:=by
   unfold El elems
   have hr:row? R (idA i)=some (frs (A i) n):=by unfold row?;rw[hm.r i hi]
   simp only[hr]
   rw[seg_all (frs_len n)]
   rfl
  have a1:evE R rows.length (.app 2 16 (.c .nilslice) (.c (.slice (idA i) 0 n (capA i))))=some (.slice R.length 0 n (.op 2),R++[.cells (frs (A i) n)],rows.length):=app_nil hEl1 (by omega) (by unfold lim;omega)
  have ld:=frs_ld (R:=R++[.cells (frs (A i) n)]) (id:=BO) (w:=n) (j:=i) (f:=g) (by rw[List.getElem?_append_left (List.getElem?_eq_some_iff.1 hBR).1];exact hBR) hi
  have hfill:fillA (getO []) [(0,2,.c (fr (g i)))] [.int .i64 0,.int .i64 0]=some [.int .i64 (g i).num,.int .i64 ((g i).den:Int)]:=rfl
  have hlw:lower rows.length R.length=rows.length:=by unfold lower;rw[if_neg (by omega)]
  have a2:evE (R++[.cells (frs (A i) n),.cells [.int .i64 (g i).num,.int .i64 ((g i).den:Int)]]) rows.length (.app 2 16 (.c (.slice R.length 0 n (.op 2))) (.c (.slice (R.length+1) 0 1 (.at_ 1))))=some (.slice (R.length+2) 0 (n+1) (.op 2),R++[.dead,.cells [.int .i64 (g i).num,.int .i64 ((g i).den:Int)],.cells (frs (aug A g n i) (n+1))],rows.length):=by
   have hcel:cells? (R++[.cells (frs (A i) n),.cells [.int .i64 (g i).num,.int .i64 ((g i).den:Int)]]) R.length=some (frs (A i) n):=by unfold cells?;simp
   have hEl2:El (R++[.cells (frs (A i) n),.cells [.int .i64 (g i).num,.int .i64 ((g i).den:Int)]]) 2 (.slice (R.length+1) 0 1 (.at_ 1)) [.int .i64 (g i).num,.int .i64 ((g i).den:Int)] 1:=by
    unfold El elems
    have hr:row? (R++[.cells (frs (A i) n),.cells [.int .i64 (g i).num,.int .i64 ((g i).den:Int)]]) (R.length+1)=some [.int .i64 (g i).num,.int .i64 ((g i).den:Int)]:=by simp[row?]
    simp only[hr]
    rfl
   rw[app_op hcel (seg_all (frs_len n)) hEl2 (by omega) (by unfold lim;omega),hlw,<-aug_frs]
   simp[List.set_append_right]
  have hfill2:fillA (getO []) [(0,1,.c (.slice (R.length+2) 0 (n+1) (.op 2)))] [.nilslice]=some [.slice (R.length+2) 0 (n+1) (.op 2)]:=rfl
  obtain⟨v',R'',happ,hT⟩:=h.push (low:=rows.length) (id:=R.length+2) (R':=R++[.dead,.cells [.int .i64 (g i).num,.int .i64 ((g i).den:Int)],.cells (frs (aug A g n i) (n+1))]) (Nat.le_refl _) (by omega) (Fx.app _) (by omega) (by simp[List.getElem?_append_right])
  simp at happ
  have:=ih (i+1) R'' v' (by omega) (by omega) hT
  unfold Lc86l67
  simp[hi,ixA,ixB,l1,a1,ld,hfill,a2,hfill2,happ,hwi]
  simpa using this
end
end Go.Abs
namespace Go.Abs
section
variable {n:Nat}{A:Nat->Nat->Rat}{cO cX cP:Cap}{r:AV×List Row×Nat->Prop}{x10:AV}
set_option maxHeartbeats 16000000 in
theorem slv_l2{b base O XI PI:Nat}{idf:Nat->Nat}{cap:Nat->Cap}{R:List Row}(hn:n<=6)(hb:Bd A n (n+1) n)(hm:MH b R O idf cap (XR (gqR A n n)) n (n+1))(hP:R[PI]?=some (.cells (nums .i64 (pvL A n n))))
  (hXO:XI≠O) (hXP:XI≠PI) (hXi:∀i,i<n->XI≠idf i) (hXl:XI<R.length) (hbX:base<=XI)
  (hc:∀(sl:List (Nat×AV)),lk sl 10=x10->lk sl 11 = .slice XI 0 n cX->Ex F C86 [.code c86s1] ⟨mk 197 sl,R.set XI (.cells (frs (xs (gjR A n n) n) n)),base⟩ r):
  ∀(d i:Nat),n-i=d->i<=n->Lc86l2 F C86 (.int .i64 n) (.slice O 0 n cO) x10 (.slice XI 0 n cX) (.slice PI 0 n cP) (.int .i64 i) (R.set XI (.cells (frs (fun j=>if j<i then xs (gjR A n n) n j else 0) n))) base r:=by
 have hgs:=gqR_s (A:=A) (n:=n) n
 intro d
 induction d with
 |
  zero=>
  intro i hd hi
  have e:i=n:=by omega
  subst e
  unfold Lc86l2
  simp[-uc86s1]
  rw[frs_congr (g:=xs (gjR A i i) i) fun j hj=>by rw[if_pos hj]]
  refine hc _ ?_ ?_<;>simp
 |
  succ d ih=>
  intro i hd hi0
  have hi:i<n:=by omega
  have hwi:IntKind.i64.wrap ((i:Int)+1)=((i+1:Nat):Int):=by rw[wrap64 (by omega) (by omega)];omega
  have hlw:lower base XI=base:=by unfold lower;rw[if_neg (by omega)]
  have hpl:=pvL_len (A:=A) (n:=n) n
  have ixP:=fun R:List Row=>sl_ix (R:=R) (O:=PI) (c:=cP) hi
  have ixX:=fun R:List Row=>fr_ix (R:=R) (id:=XI) (c:=cX) hi
  have hm':MH b (R.set XI (.cells (frs (fun j=>if j<i then xs (gjR A n n) n j else 0) n))) O idf cap (XR (gqR A n n)) n (n+1):=hm.oth hXO hXi
  have hg:(R.set XI (.cells (frs (fun j=>if j<i then xs (gjR A n n) n j else 0) n)))[XI]?=some (.cells (frs (fun j=>if j<i then xs (gjR A n n) n j else 0) n)):=by rw[List.getElem?_set_self hXl]
  have lP:evP (R.set XI (.cells (frs (fun j=>if j<i then xs (gjR A n n) n j else 0) n))) (.load1 (.c (.ptr PI i)))=some (.int .i64 (gI (pvL A n n) i)):=by
   have hr:row? (R.set XI (.cells (frs (fun j=>if j<i then xs (gjR A n n) n j else 0) n))) PI=some (nums .i64 (pvL A n n)):=by unfold row?;rw[List.getElem?_set_ne hXP,hP]
   show evalP _ (getO []) _=_
   unfold evalP
   simp only[getO,hr]
   rw[nums_get,gI_get (by omega)]
   rfl
  have:=ih (i+1) (by omega) (by omega)
  obtain⟨σ,hgq⟩:=gqR_ok (A:=A) (n:=n) n
  have hgj:=hgq.h
  rcases pv_ok (A:=A) n (Nat.le_refl _) i hi with ⟨h1,h2⟩|⟨t,h1,h2,h3⟩
  ·rw[h1]at lP
   have hx:xs (gjR A n n) n i=0:=by rw[<-hgs];exact xs_no h2
   rw[frs_congr (f:=fun j=>if j<i+1 then xs (gjR A n n) n j else 0) (g:=fun j=>if j<i then xs (gjR A n n) n j else 0) fun j _=>by
    by_cases e:j=i
    ·subst e;rw[if_pos (by omega),if_neg (by omega),hx]
    ·by_cases e2:j<i
     ·rw[if_pos e2,if_pos (by omega)]
     ·rw[if_neg e2,if_neg (by omega)]]at this
   unfold Lc86l2
   simp[hi,ixP,lP,hwi]
   simpa using this
  ·rw[h3]at lP
   have hkn:=hgj.kn
   have ht:t<n:=by omega
   obtain⟨q1,q2,q3,q4⟩:=last_fit hb (Nat.lt_succ_self n) (by omega) h1
   rw[h2]at q1 q2 q3 q4
   have hx:xs (gjR A n n) n i=XR (gqR A n n) t n/XR (gqR A n n) t i:=by
    rw[q4,<-hgs,<-h2]
    exact xs_at h1 hgj.ki
   have l1:=hm'.row ht
   have l2:=hm'.ld ht (show n<n+1 by omega)
   have l3:=hm'.ld ht (show i<n+1 by omega)
   have ixO:=fun R:List Row=>sl_ix (R:=R) (O:=O) (c:=cO) ht
   have iyn:=fun R:List Row=>fr_ix (R:=R) (id:=idf t) (c:=cap t) (show n<n+1 by omega)
   have iyi:=fun R:List Row=>fr_ix (R:=R) (id:=idf t) (c:=cap t) (show i<n+1 by omega)
   have r88:=fun R:List Row=>Div_ret (rows:=R) q1 q2 q3
   have st:=frs_st (low:=base) (q:=XR (gqR A n n) t n/XR (gqR A n n) t i) hg hi
   rw[hlw,List.set_set,frs_congr (f:=fun j'=>if j'=i then XR (gqR A n n) t n/XR (gqR A n n) t i else if j'<i then xs (gjR A n n) n j' else 0) (g:=fun j=>if j<i+1 then xs (gjR A n n) n j else 0) fun j _=>by
    by_cases e:j=i
    ·subst e;rw[if_pos rfl,if_pos (by omega),hx]
    ·rw[if_neg e]
     by_cases e2:j<i
     ·rw[if_pos e2,if_pos (by omega)]
     ·rw[if_neg e2,if_neg (by omega)]]at st
   generalize R.set XI (.cells (frs (fun j=>if j<i then xs (gjR A n n) n j else 0) n))=R1 at *
   generalize hR2:R.set XI (.cells (frs (fun j=>if j<i+1 then xs (gjR A n n) n j else 0) n))=R2 at *
   unfold Lc86l2
   simp[hi,ixP,lP,ixO,l1,iyn,iyi,l2,l3,r88,opC,targetC,drop_mapN,ixX,st,hwi]
   simpa using this
end
end Go.Abs
namespace Go.Abs
theorem fin_sl_int{rows R':List Row}{id o n:Nat}{c:Cap}{vs:List AV}{kd:IntKind}{e:Int}(h:R'[id]?=some (.cells vs))(hid:rows.length<=id)(hv:vs.all (·.ids.isEmpty)=true):fin rows (.tup [.slice id o n c,.int kd e]) R' rows.length=(.tup [.slice rows.length o n c,.int kd e],rows++[.cells vs],none):=by
 have e:¬id<rows.length:=by omega
 unfold fin
 rw[if_pos rfl]
 simp only[ids_tup,idsL_cons,idsL_nil,ids_slice,ids_int,List.append_nil,List.all_cons,List.all_nil,Bool.and_true,decide_eq_true_eq]
 rw[if_neg e,h]
 simp only[hv,Bool.true_and,AV.plain1,AV.plain,List.all_cons,List.all_nil,ids_int,List.isEmpty_nil,Bool.and_self,if_true,AV.ren1,AV.ren,List.map_cons,List.map_nil]
section
variable {rows:List Row}{n:Nat}{A:Nat->Nat->Rat}{g:Nat->Rat}{bA AO BO:Nat}{idA:Nat->Nat}{capA:Nat->Cap}{cA cB:Cap}
set_option maxHeartbeats 16000000 in
theorem Solve_ret(hA:MH bA rows AO idA capA A n n)(hB:rows[BO]?=some (.cells (frs g n)))(hn0:0<n)(hn:n<=6)(hb:Bd (aug A g n) n (n+1) n):
  Ret F 86 [.slice AO 0 n cA,.slice BO 0 n cB] rows=some (.tup [.slice rows.length 0 n (.at_ n),.int .i64 ((gjR (aug A g n) n n).k:Int)],rows++[.cells (frs (xs (gjR (aug A g n) n n) n) n)],none):=by
 refine i86 F86 ?_
 have hl67:=slv_l67 (cA:=cA) (cB:=cB) (r:=fun r=>fin rows r.1 r.2.1 r.2.2=(.tup [.slice rows.length 0 n (.at_ n),.int .i64 ((gjR (aug A g n) n n).k:Int)],rows++[.cells (frs (xs (gjR (aug A g n) n n) n) n)],none)) hA hB (by omega) (fun R v sl hT s6 s7=>by
  have hlR:=hT.1.1
  rcases hT.2 with ⟨e0,_⟩|⟨_,LO,idf,rfl,hm⟩
  ·omega
  ·have hLO:=(List.getElem?_eq_some_iff.1 hm.o).1
   have hI:∀i,i<n->idf i<R.length:=fun i hi=>(List.getElem?_eq_some_iff.1 (hm.r i hi)).1
   have hlim:(n:Int)<=lim:=by unfold lim;omega
   have hz0:(List.replicate n [AV.int .i64 0,AV.int .i64 0]).flatten=zrow n 0:=by unfold zrow frs;simp
   have hp0:List.replicate n (AV.int .i64 0)=nums .i64 (pvL (aug A g n) n 0):=by unfold nums pvL;simp
   have hl13:=slv_l13 (A:=aug A g n) (n:=n) (b:=rows.length) (base:=rows.length) (O:=LO) (XI:=R.length) (PI:=R.length+1) (idf0:=idf) (cO:=.op 1) (cX:=.at_ n) (cP:=.at_ n) (R0:=R++[.cells (zrow n 0),.cells (nums .i64 (pvL (aug A g n) n 0))]) (r:=fun r=>fin rows r.1 r.2.1 r.2.2=(.tup [.slice rows.length 0 n (.at_ n),.int .i64 ((gjR (aug A g n) n n).k:Int)],rows++[.cells (frs (xs (gjR (aug A g n) n n) n) n)],none)) hn hb (Nat.le_refl _) hlR (by omega) (by omega) (by omega) (by omega) (fun i hi=>by have:=hI i hi;omega) (fun i hi=>by have:=hI i hi;omega) (fun R2 sl2 idf2 cap2 hq t6 t7 t10 t11 t12=>by
    have hXl:=(List.getElem?_eq_some_iff.1 hq.xi).1
    have hs0:R2=R2.set R.length (.cells (frs (fun j=>if j<0 then xs (gjR (aug A g n) n n) n j else 0) n)):=by
     rw[frs_congr (g:=fun _=>0) fun j _=>if_neg (Nat.not_lt_zero j),<-zrow_n]
     apply List.ext_getElem?
     intro i
     by_cases e:R.length=i
     ·subst e;rw[List.getElem?_set_self hXl,hq.xi]
     ·rw[List.getElem?_set_ne e]
    simp[t6,t7,t10,t11,t12]
    rw[hs0]
    refine slv_l2 (b:=rows.length) (A:=aug A g n) hn hb hq.mh hq.pi (by omega) (by omega) (fun i hi=>?_) hXl hlR (fun sl3 v10 v11=>?_) n 0 rfl (by omega)
    ·obtain⟨i',h1,h2⟩:=hq.pm i hi
     have:=hI i' h1
     omega
    ·have hgs:=gqR_s (A:=aug A g n) (n:=n) n
     rw[hgs]at v10
     simp[v10,v11]
     exact fin_sl_int (by rw[List.getElem?_set_self hXl]) hlR (frs_ids n)) n 0 (R++[.cells (zrow n 0),.cells (nums .i64 (pvL (aug A g n) n 0))]) idf (fun _=>.op 2) rfl (by omega) ⟨(hm.app _).congr fun i j _ _=>by rw[XR_ge (Nat.zero_le i)];rfl,Fx.refl,fun i hi=>⟨i,hi,rfl⟩,by simp,by simp⟩
   have hk0:(gqR (aug A g n) n 0).s.k=0:=rfl
   rw[hk0]at hl13
   simp[s6,s7,hlim,hz0,hp0]
   simpa using hl13) n 0 rows .nilslice rfl (by omega) ⟨Fx.refl,.inl ⟨rfl,rfl⟩⟩
 simp
 simpa using hl67
end
end Go.Abs
namespace Go.Abs
theorem fr_cells(s:Int):[AV.int .i64 s,.int .i64 1]=[AV.int .i64 (s:Rat).num,.int .i64 ((s:Rat).den:Int)]:=rfl
theorem frs_succ{f:Nat->Rat}{w:Nat}:frs f (w+1)=frs f w++[.int .i64 (f w).num,.int .i64 ((f w).den:Int)]:=rfl
theorem Acc_finF{B L:List Row}{v:AV}{f:Nat->Rat}{n:Nat}(h:Acc B L 2 (.op 2) v (frs f n) n)(h0:0<n):fin B v (B++L) B.length=(.slice B.length 0 n (.op 2),B++[.cells (frs f n)],none):=by
 obtain⟨h1,h2⟩:=h
 rcases h2 with ⟨rfl,h3⟩|⟨k,rfl,hk⟩
 ·have:=frs_len (f:=f) n
  rw[h3]at this
  simp at this
  omega
 ·exact fin_slice hk (frs_ids n)
section
variable {rows:List Row}{n:Nat}
def uni(n a:Nat):List Int:=(List.replicate n 0).set a 1
theorem unit_ret{a:Nat}(ha:a<n)(hn:n<=1000):Ret F 71 [.int .i64 n,.int .i64 a] rows=some (.slice rows.length 0 n (.at_ n),rows++[.cells (nums .i64 (uni n a))],none):=by
 have hlim:(n:Int)<=lim:=by unfold lim;omega
 have ix:=fun R:List Row=>sl_ix (R:=R) (O:=rows.length) (c:=.at_ n) ha
 have hz:List.replicate n (AV.int .i64 0)=nums .i64 (List.replicate n 0):=by simp[nums]
 have st:=nums_st (R:=rows++[.cells (nums .i64 (List.replicate n 0))]) (id:=rows.length) (low:=rows.length) (i:=a) (x:=1) (l:=List.replicate n 0) (by simp) (by simpa using ha)
 have hlw:lower rows.length rows.length=rows.length:=by unfold lower;simp
 have hset:(rows++[Row.cells (nums .i64 (List.replicate n 0))]).set rows.length (.cells (nums .i64 (uni n a)))=rows++[.cells (nums .i64 (uni n a))]:=by
  rw[List.set_append_right _ _ (Nat.le_refl _)]
  simp
 rw[hlw,show(List.replicate n (0:Int)).set a 1=uni n a from rfl,hset]at st
 refine i71 F71 ?_
 simp[hlim,ix,hz,st,-evE_store1]
variable {v:AV}{l:List Int}
set_option maxHeartbeats 8000000 in
theorem Whole_loop(h:IsL rows v l)(hl:l.length<=1000){r:AV×List Row×Nat->Prop}
  (hc:∀(L:List Row) (y:AV),Acc rows L 2 (.op 2) y (frs (fun i=>((gI l i:Int):Rat)) l.length) l.length->r (y,rows++L,rows.length)):
  ∀(d i:Nat) (L:List Row) (y:AV),l.length-i=d->i<=l.length->Acc rows L 2 (.op 2) y (frs (fun i=>((gI l i:Int):Rat)) i) i->
  Lc43l2 F (.fn [.t 2]) v y (.int .i64 i) (rows++L) rows.length r:=by
 intro d
 induction d with
 |
  zero=>
  intro i L y hd hi hA
  have e:i=l.length:=by omega
  subst e
  have ln:=lenL0 (IsL_app h L)
  have:=hc L y hA
  unfold Lc43l2
  simp[ln]
  exact this
 |
  succ d ih=>
  intro i L y hd hi0 hA
  have hi:i<l.length:=by omega
  have hwi:IntKind.i64.wrap ((i:Int)+1)=((i+1:Nat):Int):=by rw[wrap64 (by omega) (by omega)];omega
  have h':=IsL_app h L
  have ln:=lenL0 h'
  have ix:=idxW h' hi
  have ld:=ldW1 h' hi
  rw[Nat.mul_one]at ix
  have hfill:fillA (getO []) [(0,1,.c (.int .i64 (gI l i))),(1,1,.c (.int .i64 1))] [.int .i64 0,.int .i64 0]=some [.int .i64 (gI l i),.int .i64 1]:=rfl
  have hfill2:fillA (getO []) [(0,2,.c (.agg [.int .i64 (gI l i),.int .i64 1]))] [.int .i64 0,.int .i64 0]=some [.int .i64 (gI l i),.int .i64 1]:=rfl
  obtain⟨y',L',ev,hA2⟩:=Acc_more (low:=rows.length) (b:=16) (x:=[.int .i64 (gI l i),.int .i64 1]) hA rfl (by omega) (by omega) (Nat.le_refl _)
  rw[fr_cells,<-frs_succ (f:=fun i=>((gI l i:Int):Rat))]at hA2
  have:=ih (i+1) L' y' (by omega) (by omega) hA2
  unfold Lc43l2
  simp[ln,hi,ix,ld,hfill,hfill2,ev,hwi]
  simpa using this
theorem Whole_ret(h:IsL rows v l)(hl:l.length<=1000)(h0:0<l.length):Ret F 43 [v] rows=some (.slice rows.length 0 l.length (.op 2),rows++[.cells (frs (fun i=>((gI l i:Int):Rat)) l.length)],none):=by
 refine i43 F43 ?_
 have:=Whole_loop (r:=fun r=>fin rows r.1 r.2.1 r.2.2=(.slice rows.length 0 l.length (.op 2),rows++[.cells (frs (fun i=>((gI l i:Int):Rat)) l.length)],none)) h hl (fun L y hA=>Acc_finF hA h0) l.length 0 [] .nilslice rfl (by omega) Acc_nil
 simp
 simpa using this
end
end Go.Abs
namespace Go.Abs
def colM(ls:List (List Int)):Nat->Nat->Rat:=fun i k=>((gI (gLL ls k) i:Int):Rat)
theorem IsL_fx{rows R:List Row}{v:AV}{l:List Int}(h:IsL rows v l)(hF:Fx rows R (fun _=>False)):IsL R v l:=by
 have hS:Sm rows.length rows.length rows R:=⟨hF.1,fun id h1 _=>hF.2 id h1 (by simp)⟩
 exact Sm_El hS h (by rcases El_lt h with e|e;exact .inl e;exact .inr ⟨e,by omega⟩)
theorem El_fx{rows R:List Row}{sz n:Nat}{v:AV}{cs:List AV}(h:El rows sz v cs n)(hF:Fx rows R (fun _=>False)):El R sz v cs n:=by
 have hS:Sm rows.length rows.length rows R:=⟨hF.1,fun id h1 _=>hF.2 id h1 (by simp)⟩
 exact Sm_El hS h (by rcases El_lt h with e|e;exact .inl e;exact .inr ⟨e,by omega⟩)
theorem IsLL_fx{rows R:List Row}{v:AV}{ls:List (List Int)}(h:IsLL rows v ls)(hF:Fx rows R (fun _=>False)):IsLL R v ls:=by
 obtain⟨vs,h1,h2⟩:=h
 exact⟨vs,El_fx h1 hF,fun i hi=>IsL_fx (h2 i hi) hF⟩
section
variable {rows:List Row}{v:AV}{ls:List (List Int)}{r:AV×List Row×Nat->Prop}{x3:AV}
set_option maxHeartbeats 8000000 in
theorem col_l5{R:List Row}{low i:Nat}(h:IsLL R v ls)(hn:ls.length<=100)(hi:i<ls.length)(hlen:∀k,k<ls.length->(gLL ls k).length=ls.length)(hlow:low<=R.length)
  (hc:∀(L:List Row) (y:AV) (sl:List (Nat×AV)),Acc R L 2 (.op 2) y (frs (colM ls i) ls.length) ls.length->lk sl 0=v->lk sl 3=x3->lk sl 4 = .int .i64 i->lk sl 5=y->Ex F (.fn [.t 2]) [.code c87k4,.inBlock 1,.code c87k3,.inLoop c87l2,.inBlock 0,.code c87s1] ⟨mk 35 sl,R++L,low⟩ r):
  ∀(d j:Nat) (L:List Row) (y:AV),ls.length-j=d->j<=ls.length->Acc R L 2 (.op 2) y (frs (colM ls i) j) j->
  Lc87l5 F (.fn [.t 2]) v x3 (.int .i64 i) y (.int .i64 j) (R++L) low r:=by
 intro d
 induction d with
 |
  zero=>
  intro j L y hd hj hA
  have e:j=ls.length:=by omega
  subst e
  have ln:=lenLL h L
  unfold Lc87l5
  simp[ln,-uc87k4]
  refine hc L y _ hA ?_ ?_ ?_ ?_<;>simp
 |
  succ d ih=>
  intro j L y hd hj0 hA
  have hj:j<ls.length:=by omega
  have hwj:IntKind.i64.wrap ((j:Int)+1)=((j+1:Nat):Int):=by rw[wrap64 (by omega) (by omega)];omega
  have ln:=lenLL h L
  obtain⟨vs,h1,h2⟩:=IsLL_app h L
  have ix:=idxW h1 hj
  rw[Nat.mul_one]at ix
  have ld:evP (R++L) (.load1 (.c (.ptr (sid v) (soff v+j))))=some (gA vs j):=by
   have hvl:vs.length=ls.length:=by simpa using El_len h1
   rw[evP_loadE h1 (by omega),gA_get (by omega)]
  have h3:=h2 j hj
  have iy:=idxW h3 (show i<(gLL ls j).length by rw[hlen j hj];exact hi)
  have ly:=ldW1 h3 (show i<(gLL ls j).length by rw[hlen j hj];exact hi)
  rw[Nat.mul_one]at iy
  have hfill:fillA (getO []) [(0,1,.c (.int .i64 (gI (gLL ls j) i))),(1,1,.c (.int .i64 1))] [.int .i64 0,.int .i64 0]=some [.int .i64 (gI (gLL ls j) i),.int .i64 1]:=rfl
  have hfill2:fillA (getO []) [(0,2,.c (.agg [.int .i64 (gI (gLL ls j) i),.int .i64 1]))] [.int .i64 0,.int .i64 0]=some [.int .i64 (gI (gLL ls j) i),.int .i64 1]:=rfl
  obtain⟨y',L',ev,hA2⟩:=Acc_more (low:=low) (b:=16) (x:=[.int .i64 (gI (gLL ls j) i),.int .i64 1]) hA rfl (by omega) (by omega) hlow
  rw[fr_cells,show[AV.int .i64 ((gI (gLL ls j) i:Int):Rat).num,.int .i64 (((gI (gLL ls j) i:Int):Rat).den:Int)]=[AV.int .i64 (colM ls i j).num,.int .i64 ((colM ls i j).den:Int)]from rfl,<-frs_succ]at hA2
  have:=ih (j+1) L' y' (by omega) (by omega) hA2
  unfold Lc87l5
  simp[ln,hj,ix,ld,iy,ly,hfill,hfill2,ev,hwj]
  simpa using this
set_option maxHeartbeats 8000000 in
theorem col_l2(h:IsLL rows v ls)(hn0:0<ls.length)(hn:ls.length<=100)(hlen:∀k,k<ls.length->(gLL ls k).length=ls.length)
  (hc:∀(R:List Row) (y:AV),To rows R (colM ls) ls.length ls.length y->r (y,R,rows.length)):
  ∀(d i:Nat) (R:List Row) (y:AV),ls.length-i=d->i<=ls.length->To rows R (colM ls) ls.length i y->
   Lc87l2 F (.fn [.t 2]) v y (.int .i64 i) R rows.length r:=by
 intro d
 induction d with
 |
  zero=>
  intro i R y hd hi hT
  have e:i=ls.length:=by omega
  subst e
  have ln:=lenLL (IsLL_fx h hT.1) []
  rw[List.append_nil]at ln
  have:=hc R y hT
  unfold Lc87l2
  simp[ln]
  exact this
 |
  succ d ih=>
  intro i R y hd hi0 hT
  have hi:i<ls.length:=by omega
  have hwi:IntKind.i64.wrap ((i:Int)+1)=((i+1:Nat):Int):=by rw[wrap64 (by omega) (by omega)];omega
  have hR:=IsLL_fx h hT.1
  have hlR:=hT.1.1
  have ln:=lenLL hR []
  rw[List.append_nil]at ln
  have hl5:=col_l5 (R:=R) (low:=rows.length) (i:=i) (x3:=y) (r:=r) hR hn hi hlen hlR (fun L z sl hA s0 s3 s4 s5=>by
   obtain⟨e1,e2⟩:=hA
   rcases e2 with ⟨_,e3⟩|⟨k,rfl,hk⟩
   ·have:=frs_len (f:=colM ls i) ls.length
    rw[e3]at this
    simp at this
    omega
   ·obtain⟨v',R'',happ,hT'⟩:=hT.push (low:=rows.length) (id:=R.length+k) (R':=R++L) (Nat.le_refl _) (by omega) (Fx.app _) (by omega) (by rw[List.getElem?_append_right (by omega),Nat.add_sub_cancel_left];exact hk)
    have hfill:fillA (getO []) [(0,1,.c (.slice (R.length+k) 0 ls.length (.op 2)))] [.nilslice]=some [.slice (R.length+k) 0 ls.length (.op 2)]:=rfl
    have:=ih (i+1) R'' v' (by omega) (by omega) hT'
    simp only[List.append_assoc,List.length_append]at happ
    simp[s0,s3,s4,s5,hfill,happ,hwi]
    simpa using this) ls.length 0 [] .nilslice rfl (by omega) Acc_nil
  rw[List.append_nil]at hl5
  unfold Lc87l2
  simp[ln,hi]
  simpa using hl5
def Tbl(rows:List Row)(M:Nat->Nat->Rat)(n w:Nat)(q:AV×List Row×Option Nat):Prop:=∃LO idf R,q=(.slice LO 0 n (.op 1),R,none)/\Fx rows R (fun _=>False)/\MH rows.length R LO idf (fun _=>.op 2) M n w
theorem fin_tbl{rows R:List Row}{LO o n:Nat}{c:Cap}{vs:List AV}(h:R[LO]?=some (.cells vs))(hLO:rows.length<=LO)(hv:vs.all (·.ids.isEmpty)=false):fin rows (.slice LO o n c) R rows.length=(.slice LO o n c,R,none):=by
 have e:¬LO<rows.length:=by omega
 unfold fin
 rw[if_pos rfl]
 simp only[ids_slice,List.all_cons,List.all_nil,Bool.and_true,decide_eq_true_eq]
 rw[if_neg e,h]
 simp only[hv,Bool.false_and,Bool.false_eq_true,if_false]
theorem columns_ret(h:IsLL rows v ls)(hn0:0<ls.length)(hn:ls.length<=100)(hlen:∀k,k<ls.length->(gLL ls k).length=ls.length):∃q,Ret F 87 [v] rows=some q/\Tbl rows (colM ls) ls.length ls.length q:=by
 suffices hs:Ex F (.fn [.t 2]) [.code c87b] ⟨mk 35 [(0,v)],rows,rows.length⟩ (fun r=>Tbl rows (colM ls) ls.length ls.length (fin rows r.1 r.2.1 r.2.2))by
  obtain⟨q,h1,h2⟩:=Ex_pull hs
  exact⟨q,i87 F87 h1,h2⟩
 have hl2:=col_l2 (r:=fun r=>Tbl rows (colM ls) ls.length ls.length (fin rows r.1 r.2.1 r.2.2)) h hn0 hn hlen (fun R y hT=>by
  rcases hT.2 with ⟨e,_⟩|⟨_,LO,idf,rfl,hm⟩
  ·omega
  ·refine⟨LO,idf,R,?_,hT.1,hm⟩
   refine fin_tbl hm.o hm.ob ?_
   rw[List.all_eq_false]
   exact⟨.slice (idf 0) 0 ls.length (.op 2),List.mem_map.2 ⟨0,List.mem_range.2 hn0,rfl⟩,by simp⟩) ls.length 0 rows .nilslice rfl (by omega) ⟨Fx.refl,.inl ⟨rfl,rfl⟩⟩
 simp
 simpa using hl2
end
end Go.Abs
namespace Go.Abs
theorem IsL_ne{R:List Row}{LO:Nat}{vs:List AV}{z:AV}{l:List Int}(h:R[LO]?=some (.cells vs))(hv:∀x∈vs,∀n,x ≠ .int .i64 n)(hz:IsL R z l)(hl:l≠[]):sid z≠LO:=by
 intro e
 have hz':elems R 1 z=some (nums .i64 l,l.length):=hz
 have hmem:∀id off m,row? R id=some vs->seg vs off (m*1)=some (nums .i64 l)->False:=fun id off m hr hs=>by
  unfold seg at hs
  split at hs
  ·injection hs with hs
   cases l with
   |nil=>exact hl rfl
   |
    cons x l=>
    have h1:AV.int .i64 x∈(vs.drop off).take (m*1):=by rw[hs];simp[nums]
    exact hv _ (List.mem_of_mem_drop (List.mem_of_mem_take h1)) x rfl
  ·exact absurd hs (by simp)
 have hrow:row? R LO=some vs:=by unfold row?;rw[h]
 unfold elems at hz'
 split at hz'
 ·injection hz' with hz'
  have:=congrArg Prod.snd hz'
  simp at this
  exact hl (List.length_eq_zero_iff.1 this.symm)
 ·rename_i id off m c
  have e':id=LO:=e
  subst e'
  rw[hrow]at hz'
  simp only[Option.map_eq_some_iff,Prod.mk.injEq]at hz'
  obtain⟨w,h1,h2,h3⟩:=hz'
  subst h2
  exact hmem id off m hrow h1
 ·exact absurd hz' (by simp)
theorem IsL_noint{R:List Row}{z:AV}{l:List Int}(hz:IsL R z l):∀n,z ≠ .int .i64 n:=by
 intro n e
 subst e
 have hz':elems R 1 (.int .i64 n)=some (nums .i64 l,l.length):=hz
 exact absurd hz' (by simp[elems])
def Tl(rows R:List Row)(ls:Nat->List Int)(i:Nat)(y:AV):Prop:=Fx rows R (fun _=>False)/\((i=0/\y = .nilslice)\/(0<i/\∃LO vs,y = .slice LO 0 i (.op 1)/\rows.length<=LO/\R[LO]?=some (.cells vs)/\vs.length=i/\(∀x∈vs,∀n,x ≠ .int .i64 n)/\∀k,k<i->IsL R (gA vs k) (ls k)))
theorem Tl.fx{rows R R':List Row}{ls:Nat->List Int}{i:Nat}{y:AV}(h:Tl rows R ls i y)(hF:Fx R R' (fun _=>False)):Tl rows R' ls i y:=by
 refine⟨h.1.trans hF,?_⟩
 rcases h.2 with h|⟨h0,LO,vs,e,hb,hr,hl,hn,hk⟩
 ·exact .inl h
 ·exact .inr ⟨h0,LO,vs,e,hb,hF.row hr (by simp),hl,hn,fun k hk'=>IsL_fx (hk k hk') hF⟩
theorem Tl.push{rows R:List Row}{ls:Nat->List Int}{i low:Nat}{y z:AV}(h:Tl rows R ls i y)(hlow:low<=rows.length)(hi:i<1000)(hne:∀k,k<=i->ls k≠[])(hz:IsL R z (ls i)):∃y' R'',evE (R++[.cells [z]]) low (.app 1 24 (.c y) (.c (.slice R.length 0 1 (.at_ 1))))=some (y',R'',low)/\Tl rows R'' ls (i+1) y':=by
 have hEl:El (R++[.cells [z]]) 1 (.slice R.length 0 1 (.at_ 1)) [z] 1:=by
  unfold El elems
  have hr:row? (R++[.cells [z]]) R.length=some [z]:=by
   unfold row?
   rw[List.getElem?_append_right (by omega)]
   simp
  simp only[hr]
  rfl
 have hzn:=IsL_noint hz
 rcases h.2 with ⟨rfl,rfl⟩|⟨h0,LO,vs,rfl,hob,hr,hl,hn,hk⟩
 ·refine⟨_,_,app_nil hEl (by omega) (by unfold lim;omega),⟨?_,.inr ⟨by omega,R.length+1,[z],?_,?_,?_,rfl,?_,?_⟩⟩⟩
  ·rw[List.append_assoc];exact h.1.trans (Fx.app _)
  ·simp
  ·have:=h.1.1;omega
  ·rw[List.getElem?_append_right (by simp)];simp
  ·intro x hx
   have:x=z:=by simpa using hx
   subst this
   exact hzn
  ·intro k hk
   have:k=0:=by omega
   subst this
   rw[List.append_assoc]
   exact IsL_app hz _
 ·have hO:=(List.getElem?_eq_some_iff.1 hr).1
  have hcel:cells? (R++[.cells [z]]) LO=some vs:=by
   unfold cells?
   rw[List.getElem?_append_left hO,hr]
  have hsg:seg vs 0 (i*1)=some vs:=seg_all (by omega)
  have hlw:lower low LO=low:=by unfold lower;rw[if_neg (by omega)]
  have hFb:=h.1.1
  -- what stays
  have hS:Sm R.length LO R ((R++[Row.cells [z]]).set LO .dead++[Row.cells (vs++[z])]):=Sm_app (Sm_set (Sm_app (Sm_refl (Nat.le_refl _)) _) (.inl rfl)) _
  have hst:∀(w:AV) (l:List Int),IsL R w l->l≠[]->IsL ((R++[Row.cells [z]]).set LO .dead++[Row.cells (vs++[z])]) w l:=fun w l hw hl=>by
   have hne:=IsL_ne hr hn hw hl
   exact Sm_El hS hw (by rcases El_lt hw with e|e;exact .inl e;exact .inr ⟨e,hne⟩)
  refine⟨_,_,by rw[app_op hcel hsg hEl (by omega) (by unfold lim;omega),hlw],⟨?_,.inr ⟨by omega,R.length+1,vs++[z],?_,by omega,?_,by simp[hl],?_,?_⟩⟩⟩
  ·refine⟨by simp;omega,fun id h1 h2=>?_⟩
   rw[List.getElem?_append_left (by simp;omega),List.getElem?_set_ne (by omega),List.getElem?_append_left (by omega),h.1.2 id h1 h2]
  ·simp
  ·rw[List.getElem?_append_right (by simp)];simp
  ·intro x hx
   rcases List.mem_append.1 hx with hx|hx
   ·exact hn x hx
   ·have:x=z:=by simpa using hx
    subst this
    exact hzn
  ·intro k hk'
   by_cases e:k=i
   ·subst e
    have:gA (vs++[z]) k=z:=by unfold gA;simp[<-hl]
    rw[this]
    exact hst z _ hz (hne k (Nat.le_refl _))
   ·have:gA (vs++[z]) k=gA vs k:=by unfold gA;simp[List.getD,List.getElem?_append_left (show k<vs.length by omega)]
    rw[this]
    exact hst _ _ (hk k (by omega)) (hne k (by omega))
theorem Tl.ll{rows R:List Row}{ls:Nat->List Int}{i:Nat}{y:AV}(h:Tl rows R ls i y):IsLL R y ((List.range i).map ls):=by
 rcases h.2 with ⟨rfl,rfl⟩|⟨h0,LO,vs,rfl,hob,hr,hl,hn,hk⟩
 ·exact⟨[],rfl,fun i hi=>by simp at hi⟩
 ·refine⟨vs,?_,fun k hk'=>?_⟩
  ·unfold El elems
   have hrow:row? R LO=some vs:=by unfold row?;rw[hr]
   simp only[hrow]
   rw[seg_all (by omega)]
   simp
  ·have hk2:k<i:=by simpa using hk'
   have:gLL ((List.range i).map ls) k=ls k:=by unfold gLL;simp[hk2]
   rw[this]
   exact hk k hk2
end Go.Abs
namespace Go.Abs
theorem sgn_bd{q k:Nat} : -1<=sgn q k/\sgn q k<=1:=by
 unfold sgn
 split
 ·omega
 ·split<;>omega
theorem sgn_t{q k:Nat}{t:Int}{B:Int}(ht : -B<=t/\t<=B) : -B<=sgn q k*t/\sgn q k*t<=B:=by
 unfold sgn
 split
 ·omega
 ·split<;>omega
theorem sw_get{q:Nat}{ks:List Nat}{t:Int}{c:List Int}(ht : -50<=t/\t<=50)(hc:c.length=ks.length)(hb:∀e,e<ks.length -> -50<=gI c e/\gI c e<=50):∀i,i<=ks.length->∀e,e<ks.length->gI (sdS q ks (updS t) c i) e=if e<i then gI c e+sgn q (gN ks e)*t else gI c e
 |0,_,e,_=>by rw[sdS,if_neg (by omega)]
 |
  i+1,hi,e,he=>by
  have ih:=sw_get (q:=q) ht hc hb i (by omega)
  have hl:=sdS_len (q:=q) (ks:=ks) (upd:=updS t) hc (fun i s c h=>by simp[updS,h]) i
  rw[sdS]
  by_cases hz:sgn q (gN ks i)=0
  ·rw[if_pos hz,ih e he]
   by_cases e1:e=i
   ·subst e1
    rw[if_neg (by omega),if_pos (by omega),hz]
    omega
   ·by_cases e2:e<i
    ·rw[if_pos e2,if_pos (by omega)]
    ·rw[if_neg e2,if_neg (by omega)]
  ·rw[if_neg hz]
   show gI ((sdS q ks (updS t) c i).set i _) e=_
   rw[gI_set (by omega)]
   by_cases e1:e=i
   ·subst e1
    have h1:=ih e he
    rw[if_neg (by omega)]at h1
    have h2:=sgn_t (q:=q) (k:=gN ks e) ht
    have h3:=hb e he
    rw[if_pos rfl,if_pos (by omega),h1]
    generalize sgn q (gN ks e)*t=z at *
    rw[wrap64 (n:=z) (by omega) (by omega),wrap64 (by omega) (by omega)]
   ·rw[if_neg e1,ih e he]
    by_cases e2:e<i
    ·rw[if_pos e2,if_pos (by omega)]
    ·rw[if_neg e2,if_neg (by omega)]
theorem uni_len{n a:Nat}:(uni n a).length=n:=by simp[uni]
theorem uni_get{n a i:Nat}(hi:i<n):gI (uni n a) i=if i=a then 1 else 0:=by
 unfold uni
 by_cases ha:a<n
 ·rw[gI_set (by simpa using ha)]
  by_cases e:i=a
  ·rw[if_pos e,if_pos e]
  ·rw[if_neg e,if_neg e,gI_eq (by simpa using hi)]
   simp
 ·rw[List.set_eq_of_length_le (by simp;omega),if_neg (by omega),gI_eq (by simpa using hi)]
  simp
theorem sw_uni{ks ps:List Nat}{p:Nat}(hp:p<ps.length):∀q,q<=ps.length->∀e,e<ks.length->gI (swS ks ps (uni ps.length p) q) e=if p<q then sgn (gN ps p) (gN ks e)else 0
 |
  0,_,e,he=>by
  rw[swS,if_neg (by omega),gI_eq (by simpa using he)]
  simp
 |
  q+1,hq,e,he=>by
  have ih:=sw_uni (ks:=ks) hp q (by omega)
  have hl:=swS_len (ks:=ks) (ps:=ps) (l:=uni ps.length p) q
  rw[swS,uni_get (by omega),sw_get (by split<;>omega) hl (fun e he=>by
   rw[ih e he]
   have:=sgn_bd (q:=gN ps p) (k:=gN ks e)
   split<;>omega) ks.length (Nat.le_refl _) e he,if_pos he,ih e he]
  by_cases e1:q=p
  ·subst e1
   rw[if_neg (by omega),if_pos rfl,if_pos (by omega)]
   omega
  ·rw[if_neg e1]
   by_cases e2:p<q
   ·rw[if_pos e2,if_pos (by omega)]
    omega
   ·rw[if_neg e2,if_neg (by omega)]
    omega
end Go.Abs
namespace Go.Abs
def suZ:Nat->(Nat->Int)->Int
 |0,_=>0
 |n+1,f=>suZ n f+f n
theorem tu_get{q:Nat}{ks:List Nat}{f:List Int}(hm:ks.length<=10)(hf:∀e,e<ks.length -> -1<=gI f e/\gI f e<=1):∀i,i<=ks.length->sdS q ks (updT f) [0] i=[suZ i fun e=>sgn q (gN ks e)*gI f e] /\ -(i:Int)<=suZ i (fun e=>sgn q (gN ks e)*gI f e)/\suZ i (fun e=>sgn q (gN ks e)*gI f e)<=i
 |0,_=>⟨rfl,by simp[suZ],by simp[suZ]⟩
 |
  i+1,hi=>by
  obtain⟨h1,h2,h3⟩:=tu_get (q:=q) hm hf i (by omega)
  have h4:=sgn_t (q:=q) (k:=gN ks i) (t:=gI f i) (B:=1) (hf i (by omega))
  rw[sdS,h1]
  show(if sgn q (gN ks i)=0 then _ else _)=[suZ i (fun e=>sgn q (gN ks e)*gI f e)+sgn q (gN ks i)*gI f i] /\ -((i+1:Nat):Int)<=suZ i (fun e=>sgn q (gN ks e)*gI f e)+sgn q (gN ks i)*gI f i/\suZ i (fun e=>sgn q (gN ks e)*gI f e)+sgn q (gN ks i)*gI f i<=((i+1:Nat):Int)
  generalize suZ i (fun e=>sgn q (gN ks e)*gI f e)=S at *
  refine⟨?_,by omega,by omega⟩
  by_cases hz:sgn q (gN ks i)=0
  ·rw[if_pos hz,hz]
   simp
  ·rw[if_neg hz]
   show[IntKind.i64.wrap (gI [S] 0+IntKind.i64.wrap (sgn q (gN ks i)*gI f i))]=_
   have e:gI [S] 0=S:=rfl
   rw[e,wrap64 (n:=sgn q (gN ks i)*gI f i) (by omega) (by omega),wrap64 (by omega) (by omega)]
def tsw(ks ps:List Nat)(p:Nat):List Int:=ps.map (tuS ks (swS ks ps (uni ps.length p) ps.length))
theorem tsw_len{ks ps:List Nat}{p:Nat}:(tsw ks ps p).length=ps.length:=by simp[tsw]
theorem sw_bd{ks ps:List Nat}{p:Nat}(hp:p<ps.length):∀e,e<ks.length -> -1<=gI (swS ks ps (uni ps.length p) ps.length) e/\gI (swS ks ps (uni ps.length p) ps.length) e<=1:=fun e he=>by
 rw[sw_uni hp ps.length (Nat.le_refl _) e he,if_pos hp]
 exact sgn_bd
theorem tsw_get{ks ps:List Nat}{p q:Nat}(hm:ks.length<=10)(hp:p<ps.length)(hq:q<ps.length):gI (tsw ks ps p) q=suZ ks.length fun e=>sgn (gN ps q) (gN ks e)*gI (swS ks ps (uni ps.length p) ps.length) e:=by
 have h:=tu_get (q:=gN ps q) hm (sw_bd hp) ks.length (Nat.le_refl _)
 unfold tsw
 rw[gI_eq (by simpa using hq),List.getElem_map]
 have e:ps[q]=gN ps q:=by unfold gN;simp[hq]
 rw[e]
 unfold tuS
 rw[h.1]
 rfl
theorem IsL_fill{R:List Row}{z:AV}{l:List Int}(h:IsL R z l):fillA (getO []) [(0,1,.c z)] [.nilslice]=some [z]:=by
 have hz:elems R 1 z=some (nums .i64 l,l.length):=h
 unfold elems at hz
 split at hz
 ·rfl
 ·rfl
 ·exact absurd hz (by simp)
abbrev C65:Ctx:=.fn [.t 4,.t 5]
section
variable {rows:List Row}{N:Nat}{ks ps:List Nat}{ev pv x1:AV}{r:AV×List Row×Nat->Prop}
set_option maxHeartbeats 16000000 in
theorem spin_k4{R:List Row}{p:Nat}{y:AV}{sl:List (Nat×AV)}{k:List Itm}(hg:GRd rows (.agg [.int .i64 N,ev,pv]) N ks ps)(hp:p<ps.length)(hT:Tl (rows++[.cells [.int .i64 N,ev,pv]]) R (tsw ks ps) p y)
  (s2:lk sl 2 = .ptr rows.length 0) (s6:lk sl 6=y) (s7:lk sl 7 = .int .i64 p)
  (h:∀(R':List Row) (y':AV) (sl':List (Nat×AV)),Tl (rows++[.cells [.int .i64 N,ev,pv]]) R' (tsw ks ps) (p+1) y'->lk sl' 6=y'->lk sl' 1=lk sl 1->lk sl' 2=lk sl 2->lk sl' 7=lk sl 7->Ex F C65 k ⟨mk 36 sl',R',rows.length⟩ r):
  Ex F C65 (.code c65k4::k) ⟨mk 36 sl,R,rows.length⟩ r:=by
 have hok:=hg.ok
 have hek:=hok.ek
 have hpk:=hok.pk
 have hFR:Fx rows R (fun _=>False):=(Fx.app _).trans hT.1
 have hgR:=GRd_fx hg hFR
 have hb0:row? R rows.length=some [.int .i64 N,ev,pv]:=by
  unfold row?
  rw[hT.1.2 rows.length (by simp) (by simp)]
  simp
 obtain⟨ev',pv',e,he',hp',_⟩:=id hgR.eq
 cases e
 have lnp:=evP_lenE hp'
 have r71:=unit_ret (rows:=R) hp (show ps.length<=1000 by omega)
 have hU:IsL (R++[.cells (nums .i64 (uni ps.length p))]) (.slice R.length 0 ps.length (.at_ ps.length)) (uni ps.length p):=by
  unfold IsL El elems
  have hr:row? (R++[.cells (nums .i64 (uni ps.length p))]) R.length=some (nums .i64 (uni ps.length p)):=by simp[row?]
  simp only[hr]
  rw[seg_all (by simp[nums,uni_len]),uni_len]
  rfl
 obtain⟨z1,X,r54,_,hX,_⟩:=RSwirl_ret (hgR.app [.cells (nums .i64 (uni ps.length p))]) hU uni_len (fun x hx=>by
  obtain⟨i,hi,rfl⟩:=List.mem_iff_getElem.1 hx
  rw[uni_len]at hi
  rw[<-gI_eq (by rw[uni_len];exact hi),uni_get hi]
  split<;>omega)
 obtain⟨z2,Y,r55,_,hY,_⟩:=RTurns_ret ((hgR.app [.cells (nums .i64 (uni ps.length p))]).app X) hX (swS_len _) (fun x hx=>by
  obtain⟨i,hi,rfl⟩:=List.mem_iff_getElem.1 hx
  rw[swS_len]at hi
  rw[<-gI_eq (by rw[swS_len];exact hi)]
  have:=sw_bd (ks:=ks) hp i hi
  omega)
 have hne:∀k,tsw ks ps k≠[]:=fun k e=>by
  have:=tsw_len (ks:=ks) (ps:=ps) (p:=k)
  rw[e]at this
  simp at this
  omega
 have hFY:Fx R (R++[.cells (nums .i64 (uni ps.length p))]++X++Y) (fun _=>False):=by
  rw[List.append_assoc,List.append_assoc];exact Fx.app _
 obtain⟨y',R'',happ,hT'⟩:=(hT.fx hFY).push (low:=rows.length) (by simp) (by omega) (fun k _=>hne k) hY
 have t1:Nat.testBit 252 7=true:=by decide
 have t2:Nat.testBit 510 7=true:=by decide
 have t3:Nat.testBit 510 8=true:=by decide
 have t4:Nat.testBit 1022 7=true:=by decide
 have t5:Nat.testBit 1022 8=true:=by decide
 have t6:Nat.testBit 1022 9=true:=by decide
 have hfill:fillA (getO []) [(0,1,.c z2)] [.nilslice]=some [z2]:=IsL_fill hY
 simp only[List.append_assoc,List.length_append,List.length_cons,List.length_nil,List.cons_append,List.nil_append]at r54 r55
 have happ':evE (R++Row.cells (nums .i64 (uni ps.length p))::(X++(Y++[Row.cells [z2]]))) rows.length (.app 1 24 (.c y) (.c (.slice (R.length+(1+(X.length+Y.length))) 0 1 (.at_ 1))))=some (y',R'',rows.length):=by
  have e:(R++[Row.cells (nums .i64 (uni ps.length p))]++X++Y).length=R.length+(1+(X.length+Y.length)):=by simp;omega
  rw[e]at happ
  simpa using happ
 have e1:R.length+(X.length+1)-(R.length+1)=X.length:=by omega
 have e2:R.length+(X.length+Y.length+1)-(R.length+(1+X.length))=Y.length:=by omega
 have e3:∀c:Row,List.drop (1+X.length) (c::(X++Y))=Y:=fun c=>by rw[Nat.add_comm,List.drop_succ_cons,List.drop_left]
 have e4:∀c t:Row,List.drop (1+(X.length+Y.length)) (c::(X++(Y++[t])))=[t]:=fun c t=>by
  rw[Nat.add_comm,List.drop_succ_cons,<-List.append_assoc,<-List.length_append,List.drop_left]
 simp[s2,s6,s7,hb0,seg,lnp,r71,r54,r55,opC,targetC,maskE,drop_mapN,drop_mapL,t1,t2,t3,t4,t5,t6,hfill,Function.comp_def,e1,e2,e3,e4,happ']
 refine h R'' y' _ hT' ?_ ?_ ?_ ?_<;>simp[s2,s7]
end
end Go.Abs
namespace Go.Abs
theorem Fx_app{R R':List Row}(h:Fx R R' (fun _=>False)):R'=R++R'.drop R.length:=by
 apply List.ext_getElem?
 intro i
 by_cases c:i<R.length
 ·rw[h.2 i c (by simp),List.getElem?_append_left c]
 ·rw[List.getElem?_append_right (by omega),List.getElem?_drop]
  congr 1
  omega
def spL(ks ps:List Nat):List (List Int):=(List.range ps.length).map (tsw ks ps)
theorem spL_len{ks ps:List Nat}:(spL ks ps).length=ps.length:=by simp[spL]
theorem spL_get{ks ps:List Nat}{k:Nat}(hk:k<ps.length):gLL (spL ks ps) k=tsw ks ps k:=by unfold gLL spL;simp[hk]
def spA(ks ps:List Nat)(f:List Int):Nat->Nat->Rat:=aug (colM (spL ks ps)) (fun i=>((gI (ps.map (tuS ks f)) i:Int):Rat)) ps.length
section
variable {rows:List Row}{N:Nat}{ks ps:List Nat}{ev pv x1:AV}{r:AV×List Row×Nat->Prop}
set_option maxHeartbeats 8000000 in
theorem spin_l2(hg:GRd rows (.agg [.int .i64 N,ev,pv]) N ks ps)
  (hc:∀(R:List Row) (y:AV) (sl:List (Nat×AV)),Tl (rows++[.cells [.int .i64 N,ev,pv]]) R (tsw ks ps) ps.length y->lk sl 1=x1->lk sl 2 = .ptr rows.length 0->lk sl 6=y->Ex F C65 [.code c65s1] ⟨mk 36 sl,R,rows.length⟩ r):
  ∀(d p:Nat) (R:List Row) (y:AV),ps.length-p=d->p<=ps.length->Tl (rows++[.cells [.int .i64 N,ev,pv]]) R (tsw ks ps) p y->
   Lc65l2 F C65 x1 (.ptr rows.length 0) y (.int .i64 p) R rows.length r:=by
 have hok:=hg.ok
 have hpk:=hok.pk
 intro d
 induction d with
 |
  zero=>
  intro p R y hd hp hT
  have e:p=ps.length:=by omega
  subst e
  have hFR:Fx rows R (fun _=>False):=(Fx.app _).trans hT.1
  have hgR:=GRd_fx hg hFR
  have hb0:row? R rows.length=some [.int .i64 N,ev,pv]:=by
   unfold row?
   rw[hT.1.2 rows.length (by simp) (by simp)]
   simp
  obtain⟨ev',pv',e,he',hp',_⟩:=id hgR.eq
  cases e
  have lnp:=evP_lenE hp'
  unfold Lc65l2
  simp[hb0,lnp,-uc65s1]
  refine hc R y _ hT ?_ ?_ ?_<;>simp
 |
  succ d ih=>
  intro p R y hd hp0 hT
  have hp:p<ps.length:=by omega
  have hwp:IntKind.i64.wrap ((p:Int)+1)=((p+1:Nat):Int):=by rw[wrap64 (by omega) (by omega)];omega
  have hFR:Fx rows R (fun _=>False):=(Fx.app _).trans hT.1
  have hgR:=GRd_fx hg hFR
  have hb0:row? R rows.length=some [.int .i64 N,ev,pv]:=by
   unfold row?
   rw[hT.1.2 rows.length (by simp) (by simp)]
   simp
  obtain⟨ev',pv',e,he',hp',_⟩:=id hgR.eq
  cases e
  have lnp:=evP_lenE hp'
  unfold Lc65l2
  simp[hb0,lnp,hp,-uc65k4]
  refine spin_k4 hg hp hT (by simp) (by simp) (by simp) (fun R' y' sl' hT' t6 t1 t2 t7=>?_)
  have:=ih (p+1) R' y' (by omega) (by omega) hT'
  simp at t1 t2 t7
  simp[t1,t2,t6,t7,hwp]
  simpa using this
set_option maxHeartbeats 16000000 in
theorem spin_ret{f:List Int}(hg:GRd rows (.agg [.int .i64 N,ev,pv]) N ks ps)(hf:IsL rows x1 f)(hfl:f.length=ks.length)(hfb:∀x∈f,-100<=x/\x<=100)(h0:0<ps.length)(hb:Bd (spA ks ps f) ps.length (ps.length+1) ps.length):
  Ret F 65 [.agg [.int .i64 N,ev,pv],x1] rows=some (.tup [.slice rows.length 0 ps.length (.at_ ps.length),.int .i64 ((gjR (spA ks ps f) ps.length ps.length).k:Int)],rows++[.cells (frs (xs (gjR (spA ks ps f) ps.length ps.length) ps.length) ps.length)],none):=by
 have hok:=hg.ok
 have hpk:=hok.pk
 obtain⟨ev',pv',e,he',hp',_⟩:=id hg.eq
 cases e
 have o1:=El_one he'
 have o2:=El_one hp'
 refine i65 F65 ?_
 have hl2:=spin_l2 (x1:=x1) (r:=fun r=>fin rows r.1 r.2.1 r.2.2=(.tup [.slice rows.length 0 ps.length (.at_ ps.length),.int .i64 ((gjR (spA ks ps f) ps.length ps.length).k:Int)],rows++[.cells (frs (xs (gjR (spA ks ps f) ps.length ps.length) ps.length) ps.length)],none)) hg (fun R y sl hT s1 s2 s6=>by
  have hFR:Fx rows R (fun _=>False):=(Fx.app _).trans hT.1
  have hlR:=hFR.1
  have hll:IsLL R y (spL ks ps):=hT.ll
  obtain⟨q,hq,LO,idf,R2,rfl,hF2,hm⟩:=columns_ret hll (by rw[spL_len];exact h0) (by rw[spL_len];omega) (fun k hk=>by rw[spL_len]at hk ⊢;rw[spL_get hk,tsw_len])
  rw[spL_len]at hq hm
  obtain⟨Z,rfl⟩:∃Z,R2=R++Z:=⟨_,Fx_app hF2⟩
  have hF3:=hFR.trans hF2
  have hgR:=GRd_fx hg hF3
  have hfR:=IsL_fx hf hF3
  have hbR:row? R rows.length=some [.int .i64 N,ev,pv]:=by
   unfold row?
   rw[hT.1.2 rows.length (by simp) (by simp)]
   simp
  have hb0:∀W,row? (R++W) rows.length=some [.int .i64 N,ev,pv]:=fun W=>row?_old hbR W
  obtain⟨z,X,r55,_,hz,_⟩:=RTurns_ret hgR hfR hfl hfb
  have r43:=Whole_ret hz (by simp;omega) (by simp;omega)
  simp only[List.length_map]at r43
  have r86:=Solve_ret (cA:=.op 1) (cB:=.op 2) (rows:=(R++Z)++X++[.cells (frs (fun i=>((gI (ps.map (tuS ks f)) i:Int):Rat)) ps.length)]) (BO:=((R++Z)++X).length) ((hm.app X).app _) (by simp) h0 hpk hb
  simp only[List.append_assoc,List.length_append]at r55 r43 r86 hq
  simp[s1,s2,s6,hq,hb0,seg,opC,targetC,r55,r43,r86,maskE,drop_mapN,drop_mapL,Function.comp_def,Nat.add_assoc]
  exact fin_sl_int (by simp[List.getElem?_append_right];rfl) (by omega) (frs_ids _)) ps.length 0 (rows++[.cells [.int .i64 N,ev,pv]]) .nilslice rfl (by omega) ⟨Fx.refl,.inl ⟨rfl,rfl⟩⟩
 simp[o1,o2]
 simpa using hl2
end
end Go.Abs
namespace Go.Abs
abbrev C16:Ctx:=.fn [.t 2,.t 3]
section
variable {rows:List Row}{w:Nat}{x1 x2 x3 x5 x6 x23 x24:AV}{r:AV×List Row×Nat->Prop}
set_option maxHeartbeats 8000000 in
theorem gau_l29{R:List Row}{low:Nat}{cF:Cap}(hw:w<=1000)(hG:GZ R)(hlo:low<=R.length)
  (hc:∀sl:List (Nat×AV),lk sl 1=x1->lk sl 2=x2->lk sl 3=x3->lk sl 5=x5->lk sl 6=x6->lk sl 7 = .ptr (R.length+1) 0->lk sl 23=x23->lk sl 24=x24->
   Ex F C16 [.code c16s28,.inBlock 1,.code c16k20,.inLoop c16l19,.inBlock 0,.code c16s18] ⟨mk 87 sl,R++[.cells (frs (fun _=>0) w),.cells [.slice R.length 0 w cF]],low⟩ r):
  ∀(d j:Nat),w-j=d->j<=w->Lc16l29 F C16 x1 x2 x3 x5 x6 (.ptr (R.length+1) 0) x23 x24 (.int .i64 w) (.int .i64 j) (R++[.cells (zrow w j),.cells [.slice R.length 0 w cF]]) low r:=by
 have h0:=hG.lt
 intro d
 induction d with
 |
  zero=>
  intro j hd hj
  have e:j=w:=by omega
  subst e
  unfold Lc16l29
  simp[-uc16s28]
  rw[zrow_n]
  refine hc _ ?_ ?_ ?_ ?_ ?_ ?_ ?_ ?_<;>simp
 |
  succ d ih=>
  intro j hd hj0
  have hj:j<w:=by omega
  have hwj:IntKind.i64.wrap ((j:Int)+1)=((j+1:Nat):Int):=by rw[wrap64 (by omega) (by omega)];omega
  have hG':GZ (R++[.cells (zrow w j),.cells [.slice R.length 0 w cF]]):=hG.fx (Fx.app (p:=fun _=>False) _) (by simp)
  have ld:=gz_ld hG'
  have hg:(R++[Row.cells (zrow w j),.cells [.slice R.length 0 w cF]])[R.length]?=some (.cells (zrow w j)):=by simp
  have st:=zrow_se (low:=low) hg hj
  have hlw:lower low R.length=low:=by unfold lower;rw[if_neg (by omega)]
  have hset:(R++[Row.cells (zrow w j),.cells [.slice R.length 0 w cF]]).set R.length (.cells (zrow w (j+1)))=R++[.cells (zrow w (j+1)),.cells [.slice R.length 0 w cF]]:=by
   rw[List.set_append_right _ _ (Nat.le_refl _)]
   simp
  rw[hset,hlw]at st
  have hr7:row? (R++[Row.cells (zrow w j),.cells [.slice R.length 0 w cF]]) (R.length+1)=some [.slice R.length 0 w cF]:=by simp[row?]
  have ix:=fun R':List Row=>fr_ix (R:=R') (id:=R.length) (c:=cF) hj
  have:=ih (j+1) (by omega) (by omega)
  unfold Lc16l29
  simp[hj,hr7,ld,ix,st,hwj]
  simpa using this
end
end Go.Abs
namespace Go.Abs
section
variable {N:Nat}{ks ps:List Nat}{r:AV×List Row×Nat->Prop}
set_option maxHeartbeats 8000000 in
theorem gau_rf{R Rb:List Row}{low p:Nat}{n0 ev pv:AV}{sl:List (Nat×AV)}{k:List Itm}(hek:ks.length<=10)(hp:p<ps.length)(hlo:low<=R.length)(h0:0<R.length)
  (he:El R 2 ev (nums .i64 (eC ks)) ks.length) (hpv:El R 3 pv (nums .i64 (pC ps)) ps.length)
  (hRb:Rb=R++[.cells (frs (fun _=>0) ks.length),.cells [.slice R.length 0 ks.length (.at_ ks.length)],.cells [n0,ev,pv],.cells [.int .i64 p]])
  (s43:lk sl 43 = .func 93 [.ptr (R.length+2) 0,.ptr (R.length+3) 0]) (s7:lk sl 7 = .ptr (R.length+1) 0)
  (hend:∀Q,Fx R Q (fun _=>False)->row? Q (R.length+1)=some [.slice R.length 0 ks.length (.at_ ks.length)]->R.length+4<=Q.length->Q[R.length]?=some (.cells (frs (plr (gN ps p) ks) ks.length))->Ex F C16 k ⟨mk 87 sl,Q,low⟩ r):
  Ex F C16 (.code (.rf (.t 43) [44,45] c16f22a c16f22b)::k) ⟨mk 87 sl,Rb,low⟩ r:=by
 have hRbl:Rb.length=R.length+4:=by rw[hRb];simp
 have hlt1:ev = .nilslice\/sid ev<R.length:=El_lt he
 have heo:sid ev≠R.length:=by
  rcases hlt1 with e|e
  ·subst e
   show 0≠_
   omega
  ·omega
 have hc0:=frI_nums (f:=fun _=>0) ks.length
 have b1:row? Rb (R.length+1)=some [.slice R.length 0 ks.length (.at_ ks.length)]:=by
  rw[hRb]
  unfold row?
  rw[List.getElem?_append_right (by omega)]
  simp[show R.length+1-R.length=1 by omega]
 refine sides_rf (ks:=ks) (ps:=ps) (p:=p) (ga:=R.length+2) (pa:=R.length+3) (o:=R.length) (n0:=n0) (ev:=ev) (pv:=pv) (upd:=updG) (c0:=frI (fun _=>0) ks.length) hek hp (by rw[mk_getO _ _ _ (by omega)];exact s43)
  (by rw[hRb];simp[row?]) (by rw[hRb];simp[row?]) (by rw[hRb];exact El_app he _) (by rw[hRb];exact El_app hpv _) hlo (by omega) heo (by rw[hRb,hc0];simp) ?_ ?_
 ·intro Q i hSQ hM hCQ hi2 hsg
  have hQl:=hSQ.1
  have hML:=(List.getElem?_eq_some_iff.1 hM).1
  have hnum:=sdG (q:=gN ps p) (ks:=ks) hc0 i (by omega)
  generalize hc:sdS (gN ps p) ks updG (frI (fun _=>0) ks.length) i=c at *
  generalize hsgn:sgn (gN ps p) (gN ks i)=s at *
  generalize hg:(fun e=>if e<i then plr (gN ps p) ks e else 0)=g at *
  have hupd:=updG_nums (s:=s) hnum hi2
  rw[hnum]at hCQ
  rw[hupd]
  rw[mk_putL2,uc16f22a]
  simp only[Ex_seq,uc16k25,uc16k24]
  rw[Ex_rfBegin]
  refine⟨none,mk 87 sl,[44,45],c16f22a,c16f22b,hM,?_⟩
  have hlwM:lower Q.length Rb.length=Rb.length:=by unfold lower;split<;>omega
  have hlwo:lower Rb.length R.length=R.length:=by unfold lower;split<;>omega
  have hlwe:lower R.length Rb.length=R.length:=by unfold lower;split<;>omega
  rw[hlwM]
  obtain⟨Q1,hQ1⟩:∃Q1,Q1=Q.set Rb.length (.loop .busy none (mk 87 sl) [44,45] c16f22a c16f22b):=⟨_,rfl⟩
  rw[<-hQ1]
  have hS1:Sm Rb.length R.length Rb Q1:=by rw[hQ1];exact Sm_set hSQ (.inr (Nat.le_refl _))
  have a1:=Sm_row hS1 b1 (by omega) (by omega)
  have hCo:Q1[R.length]?=some (.cells (frs g ks.length)):=by rw[hQ1,List.getElem?_set_ne (by omega)];exact hCQ
  have st:=frs_st (low:=Rb.length) (q:=(s:Rat)) hCo hi2
  rw[hlwo]at st
  have hM1:(Q1.set R.length (.cells (frs (fun j=>if j=i then(s:Rat)else g j) ks.length)))[Rb.length]?=some (.loop .busy none (mk 87 sl) [44,45] c16f22a c16f22b):=by
   rw[List.getElem?_set_ne (by omega),hQ1,List.getElem?_set_self hML]
  have hput:=round_put (R:=Q) (M:=Rb.length) (o:=R.length) (x:=.cells (frs (fun j=>if j=i then(s:Rat)else g j) ks.length)) (y:=.loop .busy none (mk 87 sl) [44,45] c16f22a c16f22b) hM (by omega)
  rw[<-hQ1]at hput
  have r63:=fun R:List Row=>whole_ret (rows:=R) (n:=s)
  have ix:=fun R':List Row=>fr_ix (R:=R') (id:=R.length) (c:=.at_ ks.length) hi2
  simp[s7,a1,r63,ix,st,opC,targetC,drop_mapN]
  rw[round_end hM1,hlwe]
  refine⟨rfl,hput.1,hput.2.1,hput.2.2,?_⟩
  show R.length=min Rb.length R.length
  omega
 ·intro Q hSQ hCQ
  have hQl:=hSQ.1
  rw[sdG (q:=gN ps p) (ks:=ks) hc0 ks.length (Nat.le_refl _)]at hCQ
  refine hend Q ⟨by omega,fun id h1 _=>?_⟩ (Sm_row hSQ b1 (by omega) (by omega)) (by omega) ?_
  ·rw[hSQ.2 id (by omega) (by omega),hRb,List.getElem?_append_left h1]
  ·rw[hCQ]
   congr 2
   exact frs_congr fun j hj=>by rw[if_pos hj]
end
end Go.Abs
namespace Go.Abs
def plM(ks ps:List Nat)(p e:Nat):Rat:=plr (gN ps p) ks e
section
variable {rows:List Row}{N:Nat}{ks ps:List Nat}{n0 ev pv x2 x3:AV}{r:AV×List Row×Nat->Prop}
set_option maxHeartbeats 16000000 in
theorem gau_l19(hGZ:GZ rows)(hek:ks.length<=10)(hpk:ps.length<=10)(o0:n0.one=true)(he:El rows 2 ev (nums .i64 (eC ks)) ks.length)(hpv:El rows 3 pv (nums .i64 (pC ps)) ps.length)
  (hc:∀(R:List Row) (v:AV) (sl:List (Nat×AV)),Tg (rows++[.cells [n0,ev,pv]]) R (plM ks ps) ks.length ps.length v->lk sl 1 = .ptr rows.length 0->lk sl 5=v->Ex F C16 [.code c16s18] ⟨mk 87 sl,R,rows.length⟩ r):
  ∀(d p:Nat) (R:List Row) (v:AV),ps.length-p=d->p<=ps.length->Tg (rows++[.cells [n0,ev,pv]]) R (plM ks ps) ks.length p v->
   Lc16l19 F C16 (.ptr rows.length 0) x2 x3 v (.int .i64 ps.length) (.int .i64 p) R rows.length r:=by
 intro d
 induction d with
 |
  zero=>
  intro p R v hd hp hT
  have e:p=ps.length:=by omega
  subst e
  unfold Lc16l19
  simp[-uc16s18]
  refine hc R v _ hT ?_ ?_<;>simp
 |
  succ d ih=>
  intro p R v hd hp0 hT
  have hp:p<ps.length:=by omega
  have hwp:IntKind.i64.wrap ((p:Int)+1)=((p+1:Nat):Int):=by rw[wrap64 (by omega) (by omega)];omega
  have hFR:Fx rows R (fun _=>False):=(Fx.app _).trans hT.1
  have hl1:=hT.1.1
  have hl1':rows.length+1<=R.length:=by simpa using hl1
  have hZ:GZ R:=hGZ.fx hFR (by simp)
  have hS:Sm rows.length rows.length rows R:=⟨hFR.1,fun id h1 _=>hFR.2 id h1 (by simp)⟩
  have he':El R 2 ev (nums .i64 (eC ks)) ks.length:=Sm_El hS he (by rcases El_lt he with e|e;exact .inl e;exact .inr ⟨e,by omega⟩)
  have hp':El R 3 pv (nums .i64 (pC ps)) ps.length:=Sm_El hS hpv (by rcases El_lt hpv with e|e;exact .inl e;exact .inr ⟨e,by omega⟩)
  have hb0:row? R rows.length=some [n0,ev,pv]:=by
   unfold row?
   rw[hT.1.2 rows.length (by simp) (by simp)]
   simp
  have ln:=evP_lenE he'
  have one1:=El_one he
  have one2:=El_one hpv
  have hlim:(ks.length:Int)<=lim:=by unfold lim;omega
  have hset0:List.replicate ks.length [AV.int .i64 0,AV.int .i64 0]=List.replicate (ks.length-0) [AV.int .i64 0,AV.int .i64 0]:=rfl
  have hz0:(List.replicate ks.length [AV.int .i64 0,AV.int .i64 0]).flatten=zrow ks.length 0:=by unfold zrow frs;simp
  have hl29:=gau_l29 (R:=R) (low:=rows.length) (w:=ks.length) (cF:=.at_ ks.length) (x1:=.ptr rows.length 0) (x2:=x2) (x3:=x3) (x5:=v) (x6:=.int .i64 p) (x23:=.int .i64 ps.length) (x24:=.int .i64 p) (r:=r) (by omega) hZ (by omega) (fun sl s1 s2 s3 s5 s6 s7 s23 s24=>by
   have hb1:row? (R++[.cells (frs (fun _=>0) ks.length),.cells [.slice R.length 0 ks.length (.at_ ks.length)]]) rows.length=some [n0,ev,pv]:=row?_old hb0 _
   have hsd:=sides_ret (rows:=R++[.cells (frs (fun _=>0) ks.length),.cells [.slice R.length 0 ks.length (.at_ ks.length)]]) (n0:=n0) (ev:=ev) (pv:=pv) (i:=p) o0 one1 one2
   have hrf:∀sl',lk sl' 43 = .func 93 [.ptr (R.length+2) 0,.ptr (R.length+3) 0]->lk sl' 7 = .ptr (R.length+1) 0->lk sl' 1 = .ptr rows.length 0->lk sl' 2=x2->lk sl' 3=x3->lk sl' 5=v->lk sl' 23 = .int .i64 ps.length->lk sl' 24 = .int .i64 p->
     Ex F C16 (.code (.rf (.t 43) [44,45] c16f22a c16f22b)::.inBlock 4::.code c16k21::.inBlock 1::.code c16k20::.inLoop c16l19::.inBlock 0::.code c16s18::[]) ⟨mk 87 sl',R++[.cells (frs (fun _=>0) ks.length),.cells [.slice R.length 0 ks.length (.at_ ks.length)],.cells [n0,ev,pv],.cells [.int .i64 p]],rows.length⟩ r:=fun sl' t43 t7 t1 t2 t3 t5 t23 t24=>by
    refine gau_rf (p:=p) (n0:=n0) hek hp (by omega) (by omega) he' hp' rfl t43 t7 (fun Q hQ hq1 hq2 hq3=>?_)
    obtain⟨v',R'',happ,hT'⟩:=hT.push (low:=rows.length) (by simp) (by omega) hQ (Nat.le_refl _) hq3
    have:=ih (p+1) R'' v' (by omega) (by omega) hT'
    simp[t1,t2,t3,t5,t7,t23,t24,hq1,fillA,splice,happ,hwp]
    simpa using this
   simp[s1,s2,s3,s5,s6,s7,s23,s24,hb1,seg,hsd]
   refine hrf _ ?_ ?_ ?_ ?_ ?_ ?_ ?_ ?_<;>simp) ks.length 0 (by omega) (by omega)
  have hlw:lower rows.length (R.length+1)=rows.length:=lower_ge' (by omega)
  unfold Lc16l19
  simp[hp,hb0,ln,hlim,hz0,hlw]
  simpa using hl29
end
end Go.Abs
namespace Go.Abs
theorem sgn_isz{q k:Nat}:isz ((sgn q k:Int):Rat) 1:=by
 refine⟨sgn q k,rfl,?_⟩
 unfold sgn
 split
 ·decide
 ·split<;>decide
theorem plM_Bd{ks ps:List Nat}{n:Nat}(h:ks.length<=10):Bd (plM ks ps) n ks.length ks.length where
 e:=fun i j _ _=>isz_le sgn_isz (by omega)
 a:=fun i j _ _=>isz_le sgn_isz (by omega)
 nu:=⟨fun _ _=>1,fun i j _ _=>sgn_isz,fun i _=>by rw[ns_const];omega⟩
section
variable {rows:List Row}{n:Nat}{cF:Cap}{x1:AV}{r:AV×List Row×Nat->Prop}
set_option maxHeartbeats 8000000 in
theorem gau_l4{R:List Row}{FI low:Nat}{s:GS}(hn:n<=1000)(hk:s.k<=n)(hF:R[FI]?=some (.cells (nums .i64 (fsl s n))))
  (hc:∀sl:List (Nat×AV),lk sl 1=x1->lk sl 11 = .int .i64 s.k->Ex F C16 [.code c16s3] ⟨mk 87 sl,R,low⟩ r):
  ∀(d i:Nat),n-i=d->i<=n->Lc16l4 F C16 x1 (.int .i64 (min i s.k:Nat)) (.slice FI 0 n cF) (.int .i64 n) (.int .i64 i) R low r:=by
 intro d
 induction d with
 |
  zero=>
  intro i hd hi
  have e:i=n:=by omega
  subst e
  have hm:min i s.k=s.k:=Nat.min_eq_right hk
  rw[hm]
  unfold Lc16l4
  simp[-uc16s3]
  refine hc _ ?_ ?_<;>simp
 |
  succ d ih=>
  intro i hd hi0
  have hi:i<n:=by omega
  have hwi:IntKind.i64.wrap ((i:Int)+1)=((i+1:Nat):Int):=by rw[wrap64 (by omega) (by omega)];omega
  have ixF:=fun R:List Row=>sl_ix (R:=R) (O:=FI) (c:=cF) hi
  have lF:evP R (.load1 (.c (.ptr FI i)))=some (.int .i64 (if i<s.k then(s.κ i:Int)else -1)):=by
   have hr:row? R FI=some (nums .i64 (fsl s n)):=by unfold row?;rw[hF]
   show evalP _ (getO []) _=_
   unfold evalP
   simp only[getO,hr]
   simp[nums,fsl,hi]
  have:=ih (i+1) (by omega) (by omega)
  by_cases hik:i<s.k
  ·have e1:min i s.k=i:=Nat.min_eq_left (by omega)
   have e2:min (i+1) s.k=i+1:=Nat.min_eq_left (by omega)
   rw[if_pos hik]at lF
   rw[e2]at this
   rw[e1]
   unfold Lc16l4
   simp[hi,ixF,lF,hwi]
   simpa using this
  ·have e1:min i s.k=s.k:=Nat.min_eq_right (by omega)
   have e2:min (i+1) s.k=s.k:=Nat.min_eq_right (by omega)
   rw[if_neg hik]at lF
   rw[e2]at this
   rw[e1]
   unfold Lc16l4
   simp[hi,ixF,lF,hwi]
   simpa using this
end
end Go.Abs
namespace Go.Abs
def rkS(ks ps:List Nat):Nat:=(gjR (plM ks ps) ps.length ks.length).k
section
variable {rows:List Row}{N:Nat}{ks ps:List Nat}{g:AV}
theorem rkS_le:rkS ks ps<=ps.length:=by
 obtain⟨σ,h⟩:=gjR_ok (A:=plM ks ps) (n:=ps.length) ks.length
 exact h.kn
set_option maxHeartbeats 16000000 in
theorem gau_end{R:List Row}{sl:List (Nat×AV)}{ev pv:AV}(hg:GRd rows (.agg [.int .i64 N,ev,pv]) N ks ps)(hFR:Fx (rows++[.cells [.int .i64 N,ev,pv]]) R (fun _=>False))
  (s1:lk sl 1 = .ptr rows.length 0) (s11:lk sl 11 = .int .i64 (rkS ks ps)):
  Ex F C16 [.code c16s3] ⟨mk 87 sl,R,rows.length⟩ fun r=>fin rows r.1 r.2.1 r.2.2=(.tup [.int .i64 ((ks.length:Int)-((N:Int)-(cntL ks N:Int))-(rkS ks ps:Int)),.int .i64 0],rows,none):=by
 have hok:=hg.ok
 have hgR:=GRd_fx hg ((Fx.app (p:=fun _=>False) _).trans hFR)
 have hb0:row? R rows.length=some [.int .i64 N,ev,pv]:=by
  unfold row?
  rw[hFR.2 rows.length (by simp) (by simp)]
  simp
 have hP:=Pieces_ret hgR
 obtain⟨ev',pv',e,he,hp,_⟩:=hgR.eq
 cases e
 have ln:=evP_lenE he
 have h1:=cntL_le (ks:=ks) N
 have h2:=rkS_le (ks:=ks) (ps:=ps)
 have hek:=hok.ek
 have hpk:=hok.pk
 have hN:=hok.n6
 generalize cntL ks N=C at *
 generalize rkS ks ps=K at *
 have w1:IntKind.i64.wrap ((N:Int)-(C:Int))=(N:Int)-(C:Int):=wrap64 (by omega) (by omega)
 have w2:IntKind.i64.wrap ((ks.length:Int)-((N:Int)-(C:Int)))=(ks.length:Int)-((N:Int)-(C:Int)):=wrap64 (by omega) (by omega)
 have w3:IntKind.i64.wrap ((ks.length:Int)-((N:Int)-(C:Int))-(K:Int))=(ks.length:Int)-((N:Int)-(C:Int))-(K:Int):=wrap64 (by omega) (by omega)
 simp[s1,s11,hb0,seg,hP,ln,w1,w2,w3,fin]
set_option maxHeartbeats 16000000 in
theorem Gauge_ret(hGZ:GZ rows)(hg:GRd rows g N ks ps):Ret F 16 [g] rows=some (.tup [.int .i64 ((ks.length:Int)-((N:Int)-(cntL ks N:Int))-(rkS ks ps:Int)),.int .i64 0],rows,none):=by
 obtain⟨ev,pv,rfl,he,hp,_⟩:=id hg.eq
 have hok:=hg.ok
 have o1:=El_one he
 have o2:=El_one hp
 have hek:=hok.ek
 have hpk:=hok.pk
 have hC:=Check_ret (N:=N) (El_app he [.cells [.int .i64 N,ev,pv]]) (by omega) (El_app hp [.cells [.int .i64 N,ev,pv]]) (by omega)
 rw[gndB_ok hok]at hC
 have lnp:=evP_lenE (El_app hp [.cells [.int .i64 N,ev,pv]])
 refine i16 F16 ?_
 have hl19:=gau_l19 (rows:=rows) (ks:=ks) (ps:=ps) (n0:=.int .i64 N) (ev:=ev) (pv:=pv) (x2:=.int .i64 0) (x3:=.int .i64 0) (r:=fun r=>fin rows r.1 r.2.1 r.2.2=(.tup [.int .i64 ((ks.length:Int)-((N:Int)-(cntL ks N:Int))-(rkS ks ps:Int)),.int .i64 0],rows,none)) hGZ hek (by omega) rfl he hp (fun R v sl hT s1 s5=>by
  have hl1:=hT.1.1
  have hl1':rows.length+1<=R.length:=by simpa using hl1
  have hFR:Fx rows R (fun _=>False):=(Fx.app _).trans hT.1
  have hZ:=hGZ.fx hFR (by simp)
  have ld:=gz_ld hZ
  have hb0:row? R rows.length=some [.int .i64 N,ev,pv]:=by
   unfold row?
   rw[hT.1.2 rows.length (by simp) (by simp)]
   simp
  have hgR:=GRd_fx hg hFR
  obtain⟨ev',pv',e,he',hp',_⟩:=hgR.eq
  cases e
  have ln:=evP_lenE he'
  rcases hT.2 with ⟨e0,rfl⟩|⟨h0,LO,idf,rfl,hm⟩
  ·obtain⟨cF,hr⟩:=reduced_nil (rows:=R) (cols:=ks.length) (by omega)
   have hrk:rkS ks ps=0:=by have:=rkS_le (ks:=ks) (ps:=ps);omega
   simp[s1,s5,ld,hb0,ln,hr]
   refine gau_l4 (n:=0) (s:=gjR (plM ks ps) ps.length ks.length) (FI:=R.length) (by omega) (by have:=hrk;unfold rkS at this;omega) (by simp[fsl,nums]) (fun sl t1 t11=>?_) 0 0 rfl (Nat.le_refl _)
   exact gau_end hg (hT.1.trans (Fx.app _)) t1 t11
  ·obtain⟨q,hq,FI,cF,R',lo,idf',cap',rfl,hFI,hm',hpm,hF',hfx,hlo⟩:=reduced_ret (cO:=.op 1) (by omega) (show ks.length<=1000 by omega) (Nat.le_refl _) (plM_Bd hek) (fun c a _ h1 h2 _=>by omega) hm
   have hlow:lowO rows.length lo=rows.length:=by
    cases lo with
    |none=>rfl
    |
     some l=>
     have:=hlo l rfl
     simp at this
     show lower rows.length l=rows.length
     unfold lower
     rw[if_neg (by omega)]
   simp only[lowO]at hlow
   simp[s1,s5,ld,hb0,ln,hq,hlow]
   refine gau_l4 (n:=ps.length) (s:=gjR (plM ks ps) ps.length ks.length) (by omega) rkS_le hF' (fun sl t1 t11=>?_) ps.length 0 rfl (by omega)
   refine gau_end hg ⟨by have:=hfx.1;omega,fun id h1 _=>?_⟩ t1 t11
   rw[hfx.2 id (by omega) (fun hp=>?_),hT.1.2 id h1 (by simp)]
   rcases hp with hp|⟨i,hi,hp⟩
   ·have:=hm.ob;omega
   ·have:=hm.ib i hi;omega) ps.length 0 (rows++[.cells [.int .i64 N,ev,pv]]) .nilslice rfl (by omega) ⟨Fx.refl,.inl ⟨rfl,rfl⟩⟩
 simp[o1,o2,seg,hC,lnp]
 simpa using hl19
end
end Go.Abs
namespace Go.Abs
section
variable {rows:List Row}{N:Nat}{ks ps:List Nat}{ev pv x1 v:AV}
theorem columns_nil:Ret F 87 [.nilslice] rows=some (.nilslice,rows,none):=by
 refine i87 F87 ?_
 simp
 unfold Lc87l2
 simp
theorem Whole_nil(h:IsL rows v []):Ret F 43 [v] rows=some (.nilslice,rows,none):=by
 have ln:=lenL0 h
 refine i43 F43 ?_
 simp
 unfold Lc43l2
 simp[ln]
set_option maxHeartbeats 8000000 in
theorem Solve_nil:Ret F 86 [.nilslice,.nilslice] rows=some (.tup [.slice rows.length 0 0 (.at_ 0),.int .i64 0],rows++[.cells []],none):=by
 refine i86 F86 ?_
 simp
 unfold Lc86l67
 simp
 unfold Lc86l13
 simp
 unfold Lc86l2
 simp
 exact fin_sl_int (by simp) (Nat.le_refl _) rfl
set_option maxHeartbeats 16000000 in
theorem spin_nil{f:List Int}(hg:GRd rows (.agg [.int .i64 N,ev,pv]) N ks ps)(hf:IsL rows x1 f)(hfl:f.length=ks.length)(hfb:∀x∈f,-100<=x/\x<=100)(h0:ps=[]):
  Ret F 65 [.agg [.int .i64 N,ev,pv],x1] rows=some (.tup [.slice rows.length 0 0 (.at_ 0),.int .i64 0],rows++[.cells []],none):=by
 have hok:=hg.ok
 obtain⟨ev',pv',e,he',hp',_⟩:=id hg.eq
 cases e
 have o1:=El_one he'
 have o2:=El_one hp'
 refine i65 F65 ?_
 have hl2:=spin_l2 (x1:=x1) (r:=fun r=>fin rows r.1 r.2.1 r.2.2=(.tup [.slice rows.length 0 0 (.at_ 0),.int .i64 0],rows++[.cells []],none)) hg (fun R y sl hT s1 s2 s6=>by
  have hFR:Fx rows R (fun _=>False):=(Fx.app _).trans hT.1
  have hlR:=hFR.1
  have hy:y = .nilslice:=by
   rcases hT.2 with ⟨_,e⟩|⟨e,_⟩
   ·exact e
   ·rw[h0]at e;simp at e
  subst hy
  have hgR:=GRd_fx hg hFR
  have hfR:=IsL_fx hf hFR
  have hbR:row? R rows.length=some [.int .i64 N,ev,pv]:=by
   unfold row?
   rw[hT.1.2 rows.length (by simp) (by simp)]
   simp
  obtain⟨z,X,r55,_,hz,_⟩:=RTurns_ret hgR hfR hfl hfb
  rw[h0]at hz
  have r43:=Whole_nil hz
  have r86:=Solve_nil (rows:=R++X)
  have r87:=columns_nil (rows:=R)
  simp[s1,s2,s6,r87,hbR,seg,opC,targetC,r55,r43,r86,maskE,drop_mapN,drop_mapL,Function.comp_def,Nat.add_assoc]
  exact fin_sl_int (by simp[List.getElem?_append_right]) (by omega) rfl) ps.length 0 (rows++[.cells [.int .i64 N,ev,pv]]) .nilslice rfl (by omega) ⟨Fx.refl,.inl ⟨rfl,rfl⟩⟩
 simp[o1,o2]
 simpa using hl2
end
end Go.Abs
namespace Go.Abs
def rkR(ks ps:List Nat):Nat:=(gjR (spA ks ps (List.replicate ks.length 0)) ps.length ps.length).k
theorem rkR_le{ks ps:List Nat}:rkR ks ps<=ps.length:=by
 obtain⟨σ,h⟩:=gjR_ok (A:=spA ks ps (List.replicate ks.length 0)) (n:=ps.length) ps.length
 exact h.kn
section
variable {rows:List Row}{N:Nat}{ks ps:List Nat}{g:AV}
set_option maxHeartbeats 16000000 in
theorem RGauge_ret(hg:GRd rows g N ks ps)(hb:0<ps.length->Bd (spA ks ps (List.replicate ks.length 0)) ps.length (ps.length+1) ps.length):Ret F 18 [g] rows=some (.int .i64 ((ks.length:Int)-((N:Int)-(cntL ks N:Int))-(rkR ks ps:Int)),rows,none):=by
 obtain⟨ev,pv,rfl,he,hp,_⟩:=id hg.eq
 have hok:=hg.ok
 have o1:=El_one he
 have o2:=El_one hp
 have hek:=hok.ek
 have hpk:=hok.pk
 have hN:=hok.n6
 have hz:IsL (rows++[.cells [.int .i64 N,ev,pv],.cells (nums .i64 (List.replicate ks.length 0))]) (.slice (rows.length+1) 0 ks.length (.at_ ks.length)) (List.replicate ks.length 0):=by
  have:=Acc_IsL (Acc_make (B:=rows) (L:=[.cells [.int .i64 N,ev,pv]]) (m:=ks.length))
  exact this.1
 have hlim:(ks.length:Int)<=lim:=by unfold lim;omega
 have h65:∃z w,Ret F 65 [.agg [.int .i64 N,ev,pv],.slice (rows.length+1) 0 ks.length (.at_ ks.length)] (rows++[.cells [.int .i64 N,ev,pv],.cells (nums .i64 (List.replicate ks.length 0))])=some (.tup [z,.int .i64 (rkR ks ps)],rows++[.cells [.int .i64 N,ev,pv],.cells (nums .i64 (List.replicate ks.length 0)),w],none):=by
  by_cases h0:0<ps.length
  ·have:=spin_ret (hg.app [.cells [.int .i64 N,ev,pv],.cells (nums .i64 (List.replicate ks.length 0))]) hz (by simp) rep_ok h0 (hb h0)
   simp only[List.append_assoc,List.cons_append,List.nil_append]at this
   exact⟨_,_,this⟩
  ·have hps:ps=[]:=List.length_eq_zero_iff.1 (by omega)
   have:=spin_nil (hg.app [.cells [.int .i64 N,ev,pv],.cells (nums .i64 (List.replicate ks.length 0))]) hz (by simp) rep_ok hps
   have hrk:rkR ks ps=0:=by have:=rkR_le (ks:=ks) (ps:=ps);omega
   rw[hrk]
   simp only[List.append_assoc,List.cons_append,List.nil_append]at this
   exact⟨_,_,this⟩
 obtain⟨z,w,r65⟩:=h65
 have r56:=fun L=>Count_ret (hg.app L)
 rw[cnt_eq hok N (Nat.le_refl _)]at r56
 have ln0:=evP_lenE (El_app he [.cells [.int .i64 N,ev,pv]])
 have ln1:=fun L=>evP_lenE (El_app he L)
 have h1:cntL ks N<=N:=cntL_le N
 have h2:=rkR_le (ks:=ks) (ps:=ps)
 have hz0:List.replicate ks.length (AV.int .i64 0)=nums .i64 (List.replicate ks.length 0):=by simp[nums]
 generalize cntL ks N=C at *
 generalize rkR ks ps=K at *
 have w1:IntKind.i64.wrap ((N:Int)-(C:Int))=(N:Int)-(C:Int):=wrap64 (by omega) (by omega)
 have w2:IntKind.i64.wrap ((ks.length:Int)-((N:Int)-(C:Int)))=(ks.length:Int)-((N:Int)-(C:Int)):=wrap64 (by omega) (by omega)
 have w3:IntKind.i64.wrap ((ks.length:Int)-((N:Int)-(C:Int))-(K:Int))=(ks.length:Int)-((N:Int)-(C:Int))-(K:Int):=wrap64 (by omega) (by omega)
 refine i18 F18 ?_
 simp[o1,o2,seg,ln0,hlim,hz0,r65,ln1,r56,w1,w2,w3,opC,targetC,maskE,drop_mapN,drop_mapL,Function.comp_def,Nat.add_assoc]
end
end Go.Abs
namespace Go.Abs
section
variable {A:Nat->Nat->Rat}{n:Nat}
theorem swp_inj{k a i j:Nat}(h:swp k a i=swp k a j):i=j:=by
 unfold swp at h
 split at h<;>split at h<;>(try split at h)<;>(try split at h)<;>omega
theorem swp_rng{k a i n:Nat}(hk:k<n)(ha:a<n)(hi:i<n):swp k a i<n:=by unfold swp;split;exact ha;split;exact hk;exact hi
theorem swp_swp{k a i:Nat}:swp k a (swp k a i)=i:=by
 unfold swp
 by_cases h1:i=k
 ·subst h1
  rw[if_pos rfl]
  by_cases h2:a=i
  ·subst h2;rw[if_pos rfl]
  ·rw[if_neg h2,if_pos rfl]
 ·rw[if_neg h1]
  by_cases h2:i=a
  ·subst h2;rw[if_pos rfl,if_pos rfl]
  ·rw[if_neg h2,if_neg h1,if_neg h2]
theorem gjR_inj:∀c,∃σ,Gj A n (gjR A n c).k c σ (gjR A n c).κ (gjR A n c).M/\(∀i j,i<n->j<n->σ i=σ j->i=j)/\∀r,r<n->∃i,i<n/\σ i=r
 |0=>⟨id,Gj_0,fun i j _ _ h=>h,fun r hr=>⟨r,hr,rfl⟩⟩
 |
  c+1=>by
  obtain⟨σ,h,hin,hsu⟩:=gjR_inj c
  have hkn:=h.kn
  obtain⟨h1,h2,h3,h4⟩:=fnd_ok (M:=(gjR A n c).M) (c:=c) (n:=n) (n-(gjR A n c).k) (gjR A n c).k (by omega)
  rw[gjR,gst]
  split
  ·rename_i hlt
   refine⟨_,h.step h1 hlt (h3 hlt),fun i j hi hj e=>swp_inj (hin _ _ (swp_rng (by omega) hlt hi) (swp_rng (by omega) hlt hj) e),fun r hr=>?_⟩
   obtain⟨i,hi,e⟩:=hsu r hr
   exact⟨_,swp_rng (show(gjR A n c).k<n by omega) hlt hi,by rw[swp_swp];exact e⟩
  ·exact⟨σ,h.skip fun i hi hin=>h4 i hi (by omega),hin,hsu⟩
theorem su_unit{a:Nat}(ha:a<n)(f:Nat->Rat):su n (fun r=>(if r=a then 1 else 0)*f r)=f a:=by
 rw[su_one ha fun r _ hne=>by rw[if_neg hne];grind,if_pos rfl]
 grind
theorem nontriv{C:Nat->Nat->Rat}{m k:Nat}(hk:k<m):∃y:Nat->Rat,(∃i,i<m/\y i≠0)/\∀j,j<k->su m (fun r=>y r*C r j)=0:=by
 obtain⟨σ,h,hin,_⟩:=gjR_inj (A:=C) (n:=m) k
 have hle:=h.kle
 obtain⟨l,hl⟩:=h.nc (gjR C m k).k (Nat.le_refl _) (by omega)
 have hz:=h.z (gjR C m k).k
 generalize (gjR C m k).k=q at *
 have hq:q<m:=by omega
 refine⟨fun r=>(if r=σ q then 1 else 0)-su q fun s=>l s*(if r=σ s then 1 else 0),⟨σ q,h.σn q hq,?_⟩,fun j hj=>?_⟩
 ·simp only[if_true]
  rw[su_congr (g:=fun _=>0) (fun s hs=>by
   rw[if_neg (fun e=>by have:=hin q s hq (by omega) e;omega)]
   grind),su_0]
  grind
 ·have e:su m (fun r=>((if r=σ q then 1 else 0)-su q fun s=>l s*(if r=σ s then 1 else 0))*C r j)=su m (fun r=>(if r=σ q then 1 else 0)*C r j)-su m (fun r=>su q fun s=>l s*((if r=σ s then 1 else 0)*C r j)):=by
   rw[<-su_sub]
   refine su_congr fun r _=>?_
   have:su q (fun s=>l s*((if r=σ s then 1 else 0)*C r j))=C r j*su q fun s=>l s*(if r=σ s then 1 else 0):=by
    rw[<-su_mul]
    exact su_congr fun s _=>by grind
   rw[this]
   grind
  rw[e,su_unit (h.σn q hq) (fun r=>C r j),su_comm]
  have:=hz j (Nat.le_refl _) hq hj
  rw[hl]at this
  refine Eq.trans ?_ this
  congr 1
  refine su_congr fun s hs=>?_
  rw[su_mul,su_unit (h.σn s (by omega)) (fun r=>C r j)]
theorem Gj.comb1{M:Nat->Nat->Rat}{k c:Nat}{σ κ:Nat->Nat}(h:Gj A n k c σ κ M){t:Nat}(ht:t<k):∃y:Nat->Rat,∀j,M t j=su n fun r=>y r*A r j:=by
 obtain⟨μ,hμ⟩:=h.pc t ht
 have hkn:=h.kn
 refine⟨fun r=>su k fun s=>μ s*(if r=σ s then 1 else 0),fun j=>?_⟩
 have e:su n (fun r=>(su k fun s=>μ s*(if r=σ s then 1 else 0))*A r j)=su n (fun r=>su k fun s=>μ s*((if r=σ s then 1 else 0)*A r j)):=su_congr fun r _=>by
  have:su k (fun s=>μ s*((if r=σ s then 1 else 0)*A r j))=A r j*su k fun s=>μ s*(if r=σ s then 1 else 0):=by
   rw[<-su_mul]
   exact su_congr fun s _=>by grind
  rw[this]
  grind
 rw[e,su_comm,hμ]
 refine su_congr fun s hs=>?_
 rw[su_mul,su_unit (h.σn s (by omega)) (fun r=>A r j)]
theorem Gj.span{w:Nat}{M:Nat->Nat->Rat}{k:Nat}{σ κ:Nat->Nat}(h:Gj A n k w σ κ M)(hsur:∀r,r<n->∃i,i<n/\σ i=r){r:Nat}(hr:r<n):∃d:Nat->Rat,∀j,j<w->A r j=su k fun s=>d s*A (σ s) j:=by
 obtain⟨i,hi,rfl⟩:=hsur r hr
 by_cases c:i<k
 ·refine⟨fun s=>if s=i then 1 else 0,fun j _=>?_⟩
  show A (σ i) j=su k fun s=>(if s=i then 1 else 0)*A (σ s) j
  rw[su_one c (fun s _ hne=>by rw[if_neg hne];grind),if_pos rfl]
  grind
 ·obtain⟨l,hl⟩:=h.nc i (by omega) hi
  refine⟨l,fun j hj=>?_⟩
  have:=h.z i j (by omega) hi hj
  rw[hl]at this
  grind
theorem rank_le{B:Nat->Nat->Rat}{wA wB:Nat}(h:∀y:Nat->Rat,(∀j,j<wA->su n (fun r=>y r*A r j)=0)->∀j,j<wB->su n (fun r=>y r*B r j)=0):(gjR B n wB).k<=(gjR A n wA).k:=by
 obtain⟨σ,hA,hin,hsur⟩:=gjR_inj (A:=A) (n:=n) wA
 obtain⟨τ,hB⟩:=gjR_ok (A:=B) (n:=n) wB
 have hspan:=fun{r} (hr:r<n)=>hA.span hsur hr
 generalize hkA:(gjR A n wA).k=kA at *
 generalize hkB:(gjR B n wB).k=kB at *
 apply Nat.le_of_not_lt
 intro hlt
 -- the rows of B that stand alone, as combinations
 have hp:∀t,∃y:Nat->Rat,t<kB->∀j,(gjR B n wB).M t j=su n fun r=>y r*B r j:=fun t=>by
  by_cases ht:t<kB
  ·obtain⟨y,hy⟩:=hB.comb1 ht
   exact⟨y,fun _=>hy⟩
  ·exact⟨fun _=>0,fun h=>absurd h ht⟩
 have hd:∀r,∃d:Nat->Rat,r<n->∀j,j<wA->A r j=su kA fun s=>d s*A (σ s) j:=fun r=>by
  by_cases hr:r<n
  ·obtain⟨d,hd⟩:=hspan hr
   exact⟨d,fun _=>hd⟩
  ·exact⟨fun _=>0,fun h=>absurd h hr⟩
 obtain⟨p,hp⟩:=Classical.axiomOfChoice hp
 obtain⟨d,hd⟩:=Classical.axiomOfChoice hd
 obtain⟨z,⟨i,hi,hz0⟩,hz⟩:=nontriv (C:=fun t s=>su n fun r=>p t r*d r s) hlt
 apply hz0
 have hv:=h (fun r=>su kB fun t=>z t*p t r) (fun j hj=>by
  have e:su n (fun r=>(su kB fun t=>z t*p t r)*A r j)=su n (fun r=>su kA fun s=>(su kB fun t=>z t*(p t r*d r s))*A (σ s) j):=su_congr fun r hr=>by
   rw[hd r hr j hj]
   rw[<-su_mul]
   refine su_congr fun s _=>?_
   have:su kB (fun t=>z t*(p t r*d r s))=d r s*su kB fun t=>z t*p t r:=by
    rw[<-su_mul]
    exact su_congr fun t _=>by grind
   rw[this]
   grind
  rw[e,su_comm]
  refine su_z fun s hs=>?_
  have e2:su n (fun r=>(su kB fun t=>z t*(p t r*d r s))*A (σ s) j)=A (σ s) j*su n fun r=>su kB fun t=>z t*(p t r*d r s):=by
   rw[<-su_mul]
   exact su_congr fun r _=>by grind
  rw[e2,su_comm]
  have e3:su kB (fun t=>su n fun r=>z t*(p t r*d r s))=su kB fun t=>z t*su n fun r=>p t r*d r s:=su_congr fun t _=>su_mul n
  rw[e3,hz s hs]
  grind)
 have hki:=hB.kc i hi
 have h2:=hv ((gjR B n wB).κ i) hki
 have e:su n (fun r=>(su kB fun t=>z t*p t r)*B r ((gjR B n wB).κ i))=su kB fun t=>z t*(gjR B n wB).M t ((gjR B n wB).κ i):=by
  have e1:su n (fun r=>(su kB fun t=>z t*p t r)*B r ((gjR B n wB).κ i))=su n (fun r=>su kB fun t=>z t*(p t r*B r ((gjR B n wB).κ i))):=su_congr fun r _=>by
   have:su kB (fun t=>z t*(p t r*B r ((gjR B n wB).κ i)))=B r ((gjR B n wB).κ i)*su kB fun t=>z t*p t r:=by
    rw[<-su_mul]
    exact su_congr fun t _=>by grind
   rw[this]
   grind
  rw[e1,su_comm]
  refine su_congr fun t ht=>?_
  rw[su_mul,hp t ht]
 rw[e]at h2
 rw[su_one hi (fun t ht hne=>by rw[hB.piv t i ht hi,if_neg hne];grind),hB.piv i i hi hi,if_pos rfl]at h2
 grind
end
end Go.Abs
namespace Go.Abs
theorem sq_nn(x:Rat):0<=x*x:=by
 rcases(Rat.le_total (a:=0) (b:=x))with h|h
 ·exact Rat.mul_nonneg h h
 ·have h2:0 <= -x:=by grind
  have:=Rat.mul_nonneg h2 h2
  grind
theorem su_sq_nn{f:Nat->Rat}:∀n,0<=su n fun e=>f e*f e
 |0=>Rat.le_refl
 |
  n+1=>by
  have h1:=su_sq_nn (f:=f) n
  have h2:=sq_nn (f n)
  rw[su]
  grind
theorem su_sq{f:Nat->Rat}:∀{n:Nat},su n (fun e=>f e*f e)=0->∀e,e<n->f e=0
 |0,_,e,he=>by omega
 |
  n+1,h,e,he=>by
  have h1:=su_sq_nn (f:=f) n
  have h2:=sq_nn (f n)
  rw[su]at h
  have h3:su n (fun e=>f e*f e)=0:=by grind
  have h4:f n*f n=0:=by grind
  by_cases c:e=n
  ·subst c
   rcases Rat.mul_eq_zero.1 h4 with h|h<;>exact h
  ·exact su_sq h3 e (by omega)
section
variable {S G:Nat->Nat->Rat}{n w:Nat}
theorem gram_to(hG:∀i j,i<n->j<n->G i j=su w fun e=>S i e*S j e){y:Nat->Rat}{j:Nat}(hj:j<n):su n (fun r=>y r*G r j)=su w fun e=>(su n fun r=>y r*S r e)*S j e:=by
 have e1:su n (fun r=>y r*G r j)=su n fun r=>su w fun e=>y r*(S r e*S j e):=su_congr fun r hr=>by rw[hG r j hr hj,su_mul]
 rw[e1,su_comm]
 refine su_congr fun e _=>?_
 have:su n (fun r=>y r*(S r e*S j e))=S j e*su n fun r=>y r*S r e:=by
  rw[<-su_mul]
  exact su_congr fun r _=>by grind
 rw[this]
 grind
theorem gram_z(hG:∀i j,i<n->j<n->G i j=su w fun e=>S i e*S j e){y:Nat->Rat}(h:∀j,j<n->su n (fun r=>y r*G r j)=0):∀e,e<w->su n (fun r=>y r*S r e)=0:=by
 have h1:su n (fun j=>y j*su n fun r=>y r*G r j)=0:=su_z fun j hj=>by rw[h j hj];grind
 have h2:su n (fun j=>y j*su n fun r=>y r*G r j)=su w fun e=>(su n fun r=>y r*S r e)*(su n fun r=>y r*S r e):=by
  have e1:su n (fun j=>y j*su n fun r=>y r*G r j)=su n fun j=>su w fun e=>y j*((su n fun r=>y r*S r e)*S j e):=su_congr fun j hj=>by rw[gram_to hG hj,su_mul]
  rw[e1,su_comm]
  refine su_congr fun e _=>?_
  have:su n (fun j=>y j*((su n fun r=>y r*S r e)*S j e))=(su n fun r=>y r*S r e)*su n fun j=>y j*S j e:=by
   rw[<-su_mul]
   exact su_congr fun j _=>by grind
  rw[this]
 rw[h2]at h1
 exact su_sq h1
theorem gram_rank(hG:∀i j,i<n->j<n->G i j=su w fun e=>S i e*S j e):(gjR S n w).k=(gjR G n n).k:=by
 apply Nat.le_antisymm
 ·exact rank_le fun y h=>gram_z hG h
 ·exact rank_le fun y h j hj=>by
   rw[gram_to hG hj]
   exact su_z fun e he=>by rw[h e he];grind
end
end Go.Abs
namespace Go.Abs
theorem if_one{g:Nat->Int}{n:Nat}(a:Nat):(if a<n+1 then g a else 0)=(if a<n then g a else 0)+(if n=a then g n else 0):=by
 by_cases e:n=a
 ·subst e
  rw[if_pos (by omega),if_neg (by omega),if_pos rfl]
  omega
 ·rw[if_neg e]
  by_cases c:a<n
  ·rw[if_pos c,if_pos (by omega)]
   omega
  ·rw[if_neg c,if_neg (by omega)]
   omega
theorem su_three{g h:Nat->Int}{i1 i2 i3 w:Nat}(l13:i1<i3)(l32:i3<i2)(hs:∀e,e<w->h e=if e=i1\/e=i2 then 1 else if e=i3 then -1 else 0):∀n,n<=w->suZ n (fun e=>g e*h e)=(if i1<n then g i1 else 0)+(if i2<n then g i2 else 0)-(if i3<n then g i3 else 0)
 |0,_=>by simp[suZ]
 |
  n+1,hn=>by
  have ih:=su_three (g:=g) l13 l32 hs n (by omega)
  rw[suZ,ih,hs n (by omega),if_one i1,if_one i2,if_one i3]
  generalize (if i1<n then g i1 else 0)=A
  generalize (if i2<n then g i2 else 0)=B
  generalize (if i3<n then g i3 else 0)=C
  by_cases c1:n=i1
  ·have h2:¬n=i2:=by omega
   have h3:¬n=i3:=by omega
   simp only[c1,true_or,if_true]
   simp only[<-c1,h2,h3,if_false]
   omega
  ·by_cases c2:n=i2
   ·have h3:¬n=i3:=by omega
    simp only[c1,if_false,c2,or_true,if_true]
    simp only[<-c2,h3,if_false]
    omega
   ·by_cases c3:n=i3
    ·have h1:¬i3=i1:=by omega
     have h2:¬i3=i2:=by omega
     simp only[c3,h1,h2,or_self,if_false,if_true]
     omega
    ·simp only[c1,c2,c3,or_self,if_false]
     omega
def plOk(q:Nat):Bool:=decide (q/36<q/6%6)&&decide (q/6%6<q%6)
def pl3(p q:Nat):Int:=sgn p (q/36*6+q/6%6)+sgn p (q/6%6*6+q%6)-sgn p (q/36*6+q%6)
theorem pl_two:((List.range 216).all fun q=>!plOk q||(List.range 216).all fun p=>!plOk p||p==q||(decide (-1<=pl3 p q)&&decide (pl3 p q<=1)))=true:=by decide +kernel
theorem pl_ne{p q:Nat}(hp:plOk p=true)(hq:plOk q=true)(h1:p<216)(h2:q<216)(hne:p≠q) : -1<=pl3 p q/\pl3 p q<=1:=by
 have h:=pl_two
 rw[List.all_eq_true]at h
 have:=h q (List.mem_range.2 h2)
 rw[hq,Bool.not_true,Bool.false_or,List.all_eq_true]at this
 have:=this p (List.mem_range.2 h1)
 rw[hp,Bool.not_true,Bool.false_or]at this
 simp only[Bool.or_eq_true,beq_iff_eq,Bool.and_eq_true,decide_eq_true_eq]at this
 rcases this with h|h
 ·exact absurd h hne
 ·exact h
section
variable {N:Nat}{ks ps:List Nat}
theorem gram3(hok:GOK N ks ps){i j:Nat}(hi:i<ps.length)(hj:j<ps.length):suZ ks.length (fun e=>sgn (gN ps i) (gN ks e)*sgn (gN ps j) (gN ks e))=pl3 (gN ps i) (gN ps j):=by
 obtain⟨h1,h2,h3,k1,k2,k3⟩:=hok.pe _ (gN_mem hj)
 generalize hq:gN ps j=q at *
 have hm1:q/6%6<6:=Nat.mod_lt _ (by omega)
 have hm2:q%6<6:=Nat.mod_lt _ (by omega)
 obtain⟨i1,a1,a2,a3⟩:=edge_at hm1 k1
 obtain⟨i3,c1,c2,c3⟩:=edge_at hm2 k2
 obtain⟨i2,b1,b2,b3⟩:=edge_at hm2 k3
 have hs:∀e,e<ks.length->sgn q (gN ks e)=if e=i1\/e=i2 then 1 else if e=i3 then -1 else 0:=fun i hi=>by
  have e1:i=i1↔gN ks i=q/36*6+q/6%6:=⟨fun e=>by rw[e,a3],fun e=>gN_inj hok.es hi a1 (by omega)⟩
  have e2:i=i2↔gN ks i=q/6%6*6+q%6:=⟨fun e=>by rw[e,b3],fun e=>gN_inj hok.es hi b1 (by omega)⟩
  have e3:i=i3↔gN ks i=q/36*6+q%6:=⟨fun e=>by rw[e,c3],fun e=>gN_inj hok.es hi c1 (by omega)⟩
  unfold sgn
  have d1:(gN ks i/6=q/36/\gN ks i%6=q/6%6)↔i=i1:=by rw[e1];omega
  have d2:(gN ks i/6=q/6%6/\gN ks i%6=q%6)↔i=i2:=by rw[e2];omega
  have d3:(gN ks i/6=q/36/\gN ks i%6=q%6)↔i=i3:=by rw[e3];omega
  simp only[d1,d2,d3]
 have l13:=gN_lt' hok.es a1 c1 (by omega)
 have l32:=gN_lt' hok.es c1 b1 (by omega)
 rw[su_three (g:=fun e=>sgn (gN ps i) (gN ks e)) l13 l32 hs ks.length (Nat.le_refl _),if_pos a1,if_pos b1,if_pos c1,a3,b3,c3]
 rfl
end
end Go.Abs
namespace Go.Abs
theorem suZ_congr{f g:Nat->Int}:∀{n:Nat},(∀e,e<n->f e=g e)->suZ n f=suZ n g
 |0,_=>rfl
 |n+1,h=>by rw[suZ,suZ,suZ_congr fun e he=>h e (by omega),h n (by omega)]
theorem suZ_cast{f:Nat->Int}:∀n,((suZ n f:Int):Rat)=su n fun e=>((f e:Int):Rat)
 |0=>rfl
 |n+1=>by rw[suZ,su,Rat.intCast_add,suZ_cast n]
theorem ns_two{i:Nat}:∀n,ns n (fun j=>if i=j then 3 else 1)<=n+(if i<n then 2 else 0)
 |0=>by simp[ns]
 |
  n+1=>by
  have ih:=ns_two (i:=i) n
  rw[ns]
  by_cases e:i=n
  ·subst e
   rw[if_neg (by omega)]at ih
   rw[if_pos rfl,if_pos (by omega)]
   omega
  ·rw[if_neg e]
   by_cases c:i<n
   ·rw[if_pos c]at ih
    rw[if_pos (by omega)]
    omega
   ·rw[if_neg c]at ih
    rw[if_neg (by omega)]
    omega
section
variable {N:Nat}{ks ps:List Nat}{f:List Int}
theorem spA_gram(hok:GOK N ks ps){i j:Nat}(hi:i<ps.length)(hj:j<ps.length):spA ks ps f i j=((suZ ks.length (fun e=>sgn (gN ps i) (gN ks e)*sgn (gN ps j) (gN ks e)):Int):Rat):=by
 unfold spA aug
 rw[if_pos hj]
 unfold colM
 rw[spL_get hj,tsw_get hok.ek hj hi]
 congr 1
 exact suZ_congr fun e he=>by rw[sw_uni hj ps.length (Nat.le_refl _) e he,if_pos hj]
theorem pl3_bd{p q:Nat} : -3<=pl3 p q/\pl3 p q<=3:=by
 unfold pl3
 have h1:=sgn_bd (q:=p) (k:=q/36*6+q/6%6)
 have h2:=sgn_bd (q:=p) (k:=q/6%6*6+q%6)
 have h3:=sgn_bd (q:=p) (k:=q/36*6+q%6)
 omega
theorem spA_Bd(hok:GOK N ks ps)(hf:∀i,i<ps.length -> -500<=gI (ps.map (tuS ks f)) i/\gI (ps.map (tuS ks f)) i<=500):Bd (spA ks ps f) ps.length (ps.length+1) ps.length where
 e:=fun i j hi hj=>by
  by_cases c:j<ps.length
  ·rw[spA_gram hok hi c,gram3 hok hi c]
   have:=pl3_bd (p:=gN ps i) (q:=gN ps j)
   exact⟨_,rfl,by omega⟩
  ·have:=hf i hi
   unfold spA aug
   rw[if_neg c]
   exact⟨_,rfl,by omega⟩
 a:=fun i j hi hj=>by
  rw[spA_gram hok hi hj,gram3 hok hi hj]
  have:=pl3_bd (p:=gN ps i) (q:=gN ps j)
  exact⟨_,rfl,by omega⟩
 nu:=by
  refine⟨fun i j=>if i=j then 3 else 1,fun i j hi hj=>?_,fun i hi=>?_⟩
  ·rw[spA_gram hok hi hj,gram3 hok hi hj]
   show isz _ (if i=j then 3 else 1)
   by_cases e:i=j
   ·have:=pl3_bd (p:=gN ps i) (q:=gN ps j)
    rw[if_pos e]
    exact⟨_,rfl,by omega⟩
   ·have hpk:∀k,k<ps.length->plOk (gN ps k)=true/\gN ps k<216:=fun k hk=>by
     obtain⟨h1,h2,h3,_⟩:=hok.pe _ (gN_mem hk)
     exact⟨by unfold plOk;simp[h1,h2],h3⟩
    have:=pl_ne (hpk i hi).1 (hpk j hj).1 (hpk i hi).2 (hpk j hj).2 (fun h=>e (gN_inj hok.psd hi hj h))
    rw[if_neg e]
    exact⟨_,rfl,by omega⟩
  ·show ns ps.length (fun j=>if i=j then 3 else 1)<=10
   have:=ns_two (i:=i) ps.length
   have:=hok.pk
   have e:(if i<ps.length then 2 else 0)<=2:=by split<;>omega
   omega
theorem tu0_bd(hok:GOK N ks ps):∀i,i<ps.length -> -500<=gI (ps.map (tuS ks (List.replicate ks.length 0))) i/\gI (ps.map (tuS ks (List.replicate ks.length 0))) i<=500:=fun i hi=>by
 have hek:=hok.ek
 have h:=tu_get (q:=ps[i]) (f:=List.replicate ks.length 0) hek (fun e he=>by rw[gI_eq (by simpa using he)];simp) ks.length (Nat.le_refl _)
 rw[gI_eq (by simpa using hi),List.getElem_map]
 unfold tuS
 rw[h.1]
 have h2:=h.2.1
 have h3:=h.2.2
 show -500<=suZ _ _/\suZ _ _<=500
 omega
theorem rk_eq(hok:GOK N ks ps):rkS ks ps=rkR ks ps:=by
 unfold rkS rkR
 refine gram_rank fun i j hi hj=>?_
 rw[spA_gram hok hi hj,suZ_cast]
 refine su_congr fun e _=>?_
 rw[Rat.intCast_mul]
 rfl
theorem RGauge_ret'{rows:List Row}{g:AV}(hg:GRd rows g N ks ps):Ret F 18 [g] rows=some (.int .i64 ((ks.length:Int)-((N:Int)-(cntL ks N:Int))-(rkS ks ps:Int)),rows,none):=by
 rw[rk_eq hg.ok]
 exact RGauge_ret hg fun _=>spA_Bd hg.ok (tu0_bd hg.ok)
end
end Go.Abs
namespace Go.Abs
structure LawIn(rows:List Row)(g lv:AV)(l:List Int):Prop where
 g:∃(x:Int) (ev pv:AV) (fe fp:List Int) (m0 k0:Nat),g = .agg [.int .i64 x,ev,pv]/\El rows 2 ev (nums .i64 fe) m0/\m0<=9223372036854775807/\El rows 3 pv (nums .i64 fp) k0/\k0<=9223372036854775807
 l:IsL rows lv l
section
variable {rows:List Row}
theorem Und_one{X:List Row}{vs:List AV}(h:Und rows X)(hv:(Row.cells vs).under (rows.length+X.length+1)=true):Und rows (X++[.cells vs]):=Und_app h (fun y hy=>by
 simp only[List.mem_singleton]at hy
 subst hy
 simpa using hv)
theorem agg_under{N:Int}{ev pv:AV}{b:Nat}(h1:ev.under b=true)(h2:pv.under b=true):(Row.cells [.int .i64 N,ev,pv]).under b=true:=by
 simp[Row.under,AV.under,AV.ids]
 exact⟨by simpa[AV.under]using h1,by simpa[AV.under]using h2⟩
theorem under_mono{v:AV}{a b:Nat}(h:v.under a=true)(hab:a<=b):v.under b=true:=by
 have:=und_mono (y:=.cells [v]) (a:=a) (b:=b) (by simpa[Row.under]using h) hab
 simpa[Row.under]using this
theorem GRd_under{g:AV}{N:Nat}{ks ps:List Nat}(h:GRd rows g N ks ps):∃ev pv,g = .agg [.int .i64 N,ev,pv]/\ev.under rows.length=true/\pv.under rows.length=true/\ev.one=true/\pv.one=true/\El rows 2 ev (nums .i64 (eC ks)) ks.length:=by
 obtain⟨ev,pv,e,h1,h2,h3⟩:=h.eq
 exact⟨ev,pv,e,El_under h1,El_under h2,El_one h1,El_one h2,h1⟩
end
end Go.Abs
namespace Go.Abs
structure Beg(rows:List Row)(gv:AV)(N:Nat)(ks ps:List Nat)(B1 B3 B4:List Row)(ev1 pv1 ev2 pv2:AV):Prop where
 gx:∃(x:Int) (ev pv:AV),gv = .agg [.int .i64 x,ev,pv]/\ev.one=true/\pv.one=true/\Ret F 15 [gv] (rows++[.cells [.int .i64 x,ev,pv]])=some (.agg [.int .i64 N,ev1,pv1],B1,none)/\row? (rows++[.cells [.int .i64 x,ev,pv]]) rows.length=some [.int .i64 x,ev,pv]
 r17:Ret F 17 [.agg [.int .i64 N,ev1,pv1]] (B1++[.cells [.int .i64 N,ev1,pv1]])=some (.agg [.int .i64 N,ev2,pv2],B3,none)
 o:ev1.one=true/\pv1.one=true/\ev2.one=true/\pv2.one=true
 l1:rows.length<=B1.length
 l3:rows.length<=B3.length
 r2:row? (B1++[.cells [.int .i64 N,ev1,pv1]]) B1.length=some [.int .i64 N,ev1,pv1]
 e4:B3++[.cells [.int .i64 N,ev2,pv2]]=B4
 rx:row? B4 B1.length=some [.int .i64 N,ev1,pv1]
 ry:row? B4 B3.length=some [.int .i64 N,ev2,pv2]
 gx4:GRd B4 (.agg [.int .i64 N,ev1,pv1]) N ks ps
 gy4:GRd B4 (.agg [.int .i64 N,ev2,pv2]) N ks ps
 un:∃Y,B4=rows++Y/\Und rows Y
 gy3:GRd B3 (.agg [.int .i64 N,ev2,pv2]) N ks ps
 gx3:GRd B3 (.agg [.int .i64 N,ev1,pv1]) N ks ps
 u3:∃Y,B3=rows++Y/\Und rows Y
 rx3:row? B3 B1.length=some [.int .i64 N,ev1,pv1]
theorem law_beg{rows:List Row}{gv lv:AV}{l:List Int}(h:LawIn rows gv lv l):∃N ks ps B1 B3 B4 ev1 pv1 ev2 pv2,Beg rows gv N ks ps B1 B3 B4 ev1 pv1 ev2 pv2:=by
 obtain⟨x,ev,pv,fe,fp,m0,k0,rfl,he,hm,hp,hk0⟩:=h.g
 have ue:=El_under he
 have up:=El_under hp
 have o1:=El_one he
 have o2:=El_one hp
 -- tame
 obtain⟨R1,hR1⟩:∃R1,R1=rows++[.cells [.int .i64 x,ev,pv]]:=⟨_,rfl⟩
 have hl1:R1.length=rows.length+1:=by simp[hR1]
 have row1:row? R1 rows.length=some [.int .i64 x,ev,pv]:=by rw[hR1];exact row_end
 obtain⟨N,ks,ps,g,X1,r15,u1,g1⟩:=tame_ret (rows:=R1) (x:=x) (hR1 ▸ El_app he _) hm (hR1 ▸ El_app hp _) hk0 (by
  rw[hl1];exact⟨under_mono ue (by omega),under_mono up (by omega)⟩)
 obtain⟨ev1,pv1,rfl,ue1,up1,oe1,op1,_⟩:=GRd_under g1
 obtain⟨B1,hB1⟩:∃B1,B1=R1++X1:=⟨_,rfl⟩
 rw[<-hB1]at r15 g1 ue1 up1
 have U1:Und rows ([.cells [.int .i64 x,ev,pv]]++X1):=Und_app (by
  have:=Und_one (rows:=rows) (X:=[]) (vs:=[.int .i64 x,ev,pv]) Und_nil (agg_under (under_mono ue (by simp)) (under_mono up (by simp)))
  simpa using this) (by rw[<-hR1];exact u1)
 have B1e:B1=rows++([.cells [.int .i64 x,ev,pv]]++X1):=by rw[hB1,hR1];simp
 obtain⟨Y1,hY1⟩:∃Y1,Y1=[Row.cells [.int .i64 x,ev,pv]]++X1:=⟨_,rfl⟩
 rw[<-hY1]at U1 B1e
 obtain⟨B2,hB2⟩:∃B2,B2=B1++[.cells [.int .i64 N,ev1,pv1]]:=⟨_,rfl⟩
 have row2:row? B2 B1.length=some [.int .i64 N,ev1,pv1]:=by rw[hB2];exact row_end
 have U2:Und rows (Y1++[.cells [.int .i64 N,ev1,pv1]]):=Und_one U1 (by
  have e:B1.length=rows.length+Y1.length:=by rw[B1e];simp
  rw[<-e]
  exact agg_under (under_mono ue1 (by omega)) (under_mono up1 (by omega)))
 have B2e:B2=rows++(Y1++[.cells [.int .i64 N,ev1,pv1]]):=by rw[hB2,B1e];simp
 have g2:GRd B2 (.agg [.int .i64 N,ev1,pv1]) N ks ps:=by rw[hB2];exact g1.app _
 -- given
 obtain⟨g',X2,r17,u2,g3⟩:=given_ret (rows:=B2) g2
 obtain⟨ev2,pv2,rfl,ue2,up2,oe2,op2,_⟩:=GRd_under g3
 obtain⟨B3,hB3⟩:∃B3,B3=B2++X2:=⟨_,rfl⟩
 rw[<-hB3]at r17 g3 ue2 up2
 obtain⟨Y2,hY2⟩:∃Y2,Y2=(Y1++[.cells [.int .i64 N,ev1,pv1]])++X2:=⟨_,rfl⟩
 have U3:Und rows Y2:=by rw[hY2];exact Und_app U2 (by rw[<-B2e];exact u2)
 have B3e:B3=rows++Y2:=by rw[hB3,B2e,hY2];simp
 obtain⟨B4,hB4⟩:∃B4,B4=B3++[.cells [.int .i64 N,ev2,pv2]]:=⟨_,rfl⟩
 obtain⟨Y3,hY3⟩:∃Y3,Y3=Y2++[.cells [.int .i64 N,ev2,pv2]]:=⟨_,rfl⟩
 have U4:Und rows Y3:=by
  rw[hY3]
  refine Und_one U3 ?_
  have e:B3.length=rows.length+Y2.length:=by rw[B3e];simp
  rw[<-e]
  exact agg_under (under_mono ue2 (by omega)) (under_mono up2 (by omega))
 have B4e:B4=rows++Y3:=by rw[hB4,B3e,hY3];simp
 have row4:row? B4 B3.length=some [.int .i64 N,ev2,pv2]:=by rw[hB4];exact row_end
 have row2':row? B4 B1.length=some [.int .i64 N,ev1,pv1]:=by rw[hB4,hB3];exact row?_old (row?_old row2 _) _
 have row1':row? B4 B1.length=some [.int .i64 N,ev1,pv1]:=by rw[hB4,hB3];exact row?_old (row?_old row2 _) _
 have g4:GRd B4 (.agg [.int .i64 N,ev2,pv2]) N ks ps:=by rw[hB4];exact g3.app _
 have g4':GRd B4 (.agg [.int .i64 N,ev1,pv1]) N ks ps:=by rw[hB4,hB3];exact(g2.app _).app _
 have hlen1:rows.length<=B1.length:=by rw[B1e];simp
 have hlen3:rows.length<=B3.length:=by rw[B3e];simp
 refine⟨N,ks,ps,B1,B3,B4,ev1,pv1,ev2,pv2,⟨x,ev,pv,rfl,o1,o2,by rw[<-hR1];exact r15,by rw[<-hR1];exact row1⟩,by rw[<-hB2];exact r17,⟨oe1,op1,oe2,op2⟩,hlen1,hlen3,by rw[<-hB2];exact row2,hB4.symm,row2',row4,g4',g4,⟨Y3,B4e,U4⟩,g3,by rw[hB3];exact g2.app _,⟨Y2,B3e,U3⟩,by rw[hB3];exact row?_old row2 _⟩
end Go.Abs
set_option maxRecDepth 20000
set_option maxHeartbeats 4000000
namespace Go.Abs
variable {F:Nat->Option IFn}{cx:Ctx}{k:List Itm}{s:St}{l:List (Nat×AV)}{rows:List Row}{low:Nat}{r:AV×List Row×Nat->Prop}
def c3r0:List Seg:=[
 zm 14 5,
 zo 15 (.bin .eql (.t 14) (.c (.int .i64 0))),
 zm 16 15,
 .one ⟨some 17,.mv (.t 4),some (16,true)⟩,
 .one ⟨some 18,.loadN 3 (.t 3),some (16,true)⟩,
 .one ⟨some 19,.call [] (.c (.func 18 [])) [(.t 18)],some (16,true)⟩,
 .one ⟨some 20,.bin .eql (.t 17) (.t 19),some (16,true)⟩,
 zo 21 (.pick (.t 16) (.t 20) (.c (.bool false))),
 zm 22 21,
 .one ⟨some 23,.call [] (.c (.func 19 [])) [],some (22,true)⟩,
 zo 24 (.pick (.t 22) (.t 23) (.c (.bool false))),
 zm 2 24]
def c3k0:ICode:=.kill 25 qq143 (.ops c3r0)
@[simp] theorem uc3k0:Ex F cx (.code c3k0::k) ⟨mk 25 l,rows,low⟩ r↔bnd (evP rows (.bin .eql (.c (lk l 5)) (.c (.int .i64 0)))) fun v0=>bnd (gv v0 true (evP rows (.mv (.c (lk l 4))))) fun v1=>bnd (gv v0 true (evP rows (.loadN 3 (.c (lk l 3))))) fun v2=>gcall F v0 true rows low [v2] [] (.func 18 []) fun v3 R3 L3=>bnd (gv v0 true (evP R3 (.bin .eql (.c v1) (.c v3)))) fun v4=>bnd (evP R3 (.pick (.c v0) (.c v4) (.c (.bool false)))) fun v5=>gcall F v5 true R3 L3 [] [] (.func 19 []) fun v6 R6 L6=>bnd (evP R6 (.pick (.c v5) (.c v6) (.c (.bool false)))) fun v7=>Ex F cx k ⟨mk 25 ([(2,v7),(24,v7),(23,v6),(22,v5),(21,v5),(20,v4),(19,v3),(18,v2),(17,v1),(16,v0),(15,v0),(14,lk l 5)]++kp l qq143),R6,L6⟩ r:=rg qq143 c3r0 rfl (by kernel_rfl)
def c3s1:ICode:=(.seq c3k0 .ret)
@[simp] theorem uc3s1:U c3s1 (.seq c3k0 .ret):=ur
def c3r2:List Seg:=[
 zo 9 (.loadN 3 (.t 3)),
 zo 10 (.call [] (.c (.func 17 [])) [(.t 9)]),
 zo 11 (.call [] (.c (.func 16 [])) [(.t 10)]),
 zm 8 11,
 zo 12 (.ext (.t 8) 0),
 zo 13 (.ext (.t 8) 1),
 zm 4 12,
 zm 5 13]
def c3k2:ICode:=.kill 25 [3] (.ops c3r2)
@[simp] theorem uc3k2:Ex F cx (.code c3k2::k) ⟨mk 25 l,rows,low⟩ r↔bnd (evP rows (.loadN 3 (.c (lk l 3)))) fun v0=>bnd (Ret F 17 [v0] rows) fun q1=>bnd (Ret F 16 [q1.1] q1.2.1) fun q2=>bnd (evP q2.2.1 (.ext (.c q2.1) 0)) fun v3=>bnd (evP q2.2.1 (.ext (.c q2.1) 1)) fun v4=>Ex F cx k ⟨mk 25 [(5,v4),(4,v3),(13,v4),(12,v3),(8,q2.1),(11,q2.1),(10,q1.1),(9,v0),(3,lk l 3)],q2.2.1,(lowO (lowO low q1.2.2) q2.2.2)⟩ r:=rg [3] c3r2 rfl (by kernel_rfl)
def c3s3:ICode:=(.seq c3k2 c3s1)
@[simp] theorem uc3s3:U c3s3 (.seq c3k2 c3s1):=ur
def c3r4:List Seg:=[
 zo 6 (.loadN 3 (.t 1)),
 zo 7 (.call [] (.c (.func 15 [])) [(.t 6)]),
 zo 3 (.box (.c (.agg [.int .i64 0,.nilslice,.nilslice]))),
 .one ⟨none,.storeN 3 (.t 3) (.t 7),none⟩]
def c3k4:ICode:=.kill 25 [1] (.ops c3r4)
@[simp] theorem uc3k4:Ex F cx (.code c3k4::k) ⟨mk 25 l,rows,low⟩ r↔bnd (evP rows (.loadN 3 (.c (lk l 1)))) fun v0=>bnd (Ret F 15 [v0] rows) fun q1=>bnd (evE q1.2.1 (lowO low q1.2.2) (.box (.c (.agg [.int .i64 0,.nilslice,.nilslice])))) fun q2=>bnd (evE q2.2.1 q2.2.2 (.storeN 3 (.c q2.1) (.c q1.1))) fun q3=>Ex F cx k ⟨mk 25 [(3,q2.1),(7,q1.1),(6,v0),(1,lk l 1)],q3.2.1,q3.2.2⟩ r:=rg [1] c3r4 rfl (by kernel_rfl)
def c3s5:ICode:=(.seq c3k4 c3s3)
@[simp] theorem uc3s5:U c3s5 (.seq c3k4 c3s3):=ur
def c3r6:List Seg:=[
 zo 1 (.box (.t 0)),
 zo 2 (.mv (.c (.bool false)))]
def c3k6:ICode:=.kill 25 [0] (.ops c3r6)
@[simp] theorem uc3k6:Ex F cx (.code c3k6::k) ⟨mk 25 l,rows,low⟩ r↔bnd (evE rows low (.box (.c (lk l 0)))) fun q0=>Ex F cx k ⟨mk 25 [(2,(.bool false)),(1,q0.1),(0,lk l 0)],q0.2.1,q0.2.2⟩ r:=rg [0] c3r6 rfl (by kernel_rfl)
def c3b:ICode:=(.seq c3k6 c3s5)
@[simp] theorem uc3b:U c3b (.seq c3k6 c3s5):=ur
def c3:IFn:=⟨25,[.t 2],c3b⟩
def h3:List (Nat×Nat×List Nat):=[(0,(25,[0])),(1,(25,[1])),(2,(25,[3])),(3,(25,[3,4,5]))]
theorem i3{x0:AV}(hF:F 3=some c3){q:AV×List Row×Option Nat}(h:Ex F (.fn [.t 2]) [.code c3b] ⟨mk 25 [(0,x0)],rows,rows.length⟩ fun r=>fin rows r.1 r.2.1 r.2.2=q):Ret F 3 [x0] rows=some q:=Ret_mk hF h
end Go.Abs
namespace Go.Abs
abbrev G3':Nat->Option IFn:=more F 3 c3
theorem toG3{f:Nat}{vs:List AV}{rows:List Row}{q:AV×List Row×Option Nat}(h:Ret F f vs rows=some q):Ret G3' f vs rows=some q:=Ret_ext (more_ext (by kernel_rfl)) h
set_option maxHeartbeats 16000000 in
theorem gauges_ret{rows:List Row}{gv lv:AV}{l:List Int}(h:LawIn rows gv lv l)(hGZ:GZ rows)(hA:∀H,Und rows H->Ret F 19 [] (rows++H)=some (.bool true,rows++H,none)):
  Ret G3' 3 [gv] rows=some (.bool true,rows,none):=by
 obtain⟨N,ks,ps,B1,B3,B4,ev1,pv1,ev2,pv2,hb⟩:=law_beg h
 obtain⟨x,ev,pv,rfl,o1,o2,r15,row1⟩:=hb.gx
 have r17:=hb.r17
 obtain⟨oe1,op1,oe2,op2⟩:=hb.o
 have hl1:=hb.l1
 have row2:=hb.r2
 obtain⟨Y,hY,hU⟩:=hb.u3
 have hZ3:GZ B3:=by rw[hY];exact hGZ.fx (Fx.app (p:=fun _=>False) _) (by simp)
 have r16:=toG3 (Gauge_ret hZ3 hb.gy3)
 have r18:=toG3 (RGauge_ret' hb.gx3)
 have r19:=toG3 (hA Y hU)
 rw[<-hY]at r19
 have rx3:=hb.rx3
 have r15':=toG3 r15
 have r17':=toG3 r17
 have low1:lower rows.length B1.length=rows.length:=lower_ge' hl1
 have hfin:fin rows (.bool true) B3 rows.length=(.bool true,rows,none):=by simp
 refine i3 rfl ?_
 simp[AV.cells,o1,o2,row1,seg,r15',low1,oe1,op1,cell_end,splice,row2,r17',r16,rx3,r18,r19,hfin]
end Go.Abs