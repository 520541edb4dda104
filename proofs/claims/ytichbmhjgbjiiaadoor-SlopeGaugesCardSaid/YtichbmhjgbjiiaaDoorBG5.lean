/- The texts that the row uses, part 5. -/
import Derived.Test.YtichbmhjgbjiiaaDoorBG4
import Derived.AtR
import Derived.Orders
import Derived.KernelRfl
import Derived.Laws.Cells
import Derived.Laws.CopyRow
import Derived.Laws.Append
import Derived.Laws.AppendOwn
import Derived.Laws.Entries
import Derived.ArgAppend
import Derived.ChangeKeysEq
import Derived.WideLaws
import Derived.Laws.Small
import Derived.Laws.StructEq
import Derived.Laws.Cover3
import Derived.Laws.Tables
import Derived.Laws.Rows
import Derived.Below
import Derived.Laws.IdiomCopy
import Derived.RangeFuncNested
import Derived.Test.YtichbmhjgbjiiaaDoorProg
import Derived.Test.YtichbmhjgbjiiaaDoorRows
import Derived.ProofKit
import Derived.LaidMore
import Derived.OpenShut
import Derived.Stop.Joined
import Derived.ChangeSlices
import Derived.SizedLaws
import Derived.SevenTiedAt
import Derived.WalkKit
import Derived.ShutString
import Derived.ChangeOld
import Derived.Carry
set_option linter.unusedVariables false
set_option maxRecDepth 20000
set_option maxHeartbeats 4000000
namespace Go.Abs
variable {F:Nat->Option IFn}{cx:Ctx}{k:List Itm}{s:St}{l:List (Nat×AV)}{rows:List Row}{low:Nat}{r:AV×List Row×Nat->Prop}
@[simp] abbrev Kc16l4:List Itm:=.inLoop c16l4::.inBlock 6::.code c16s3::[]
@[simp] abbrev Kc16l19:List Itm:=.inLoop c16l19::.inBlock 0::.code c16s18::[]
@[simp] abbrev Kc16l29:List Itm:=.inLoop c16l29::.inBlock 2::.code c16s28::.inBlock 1::.code c16k20::Kc16l19
@[simp] theorem uc16k0:Ex F cx (.code c16k0::k) ⟨mk 87 l,rows,low⟩ r↔bnd (evP rows (.fieldA 1 (.c (lk l 1)))) fun v0=>bnd (evP rows (.load1 (.c v0))) fun v1=>bnd (evP rows (.len 0 (.c v1))) fun v2=>bnd (evP rows (.fieldA 0 (.c (lk l 1)))) fun v3=>bnd (evP rows (.load1 (.c v3))) fun v4=>bnd (evP rows (.bin .sub (.c v4) (.c (lk l 14)))) fun v5=>bnd (evP rows (.bin .sub (.c v2) (.c v5))) fun v6=>bnd (evP rows (.bin .sub (.c v6) (.c (lk l 11)))) fun v7=>Ex F cx k ⟨mk 87 ([(3,(.int .i64 0)),(2,v7),(86,v7),(85,lk l 11),(84,v6),(83,v5),(82,lk l 14),(81,v4),(80,v3),(79,v2),(78,v1),(77,v0)]++kp l qq49),rows,low⟩ r:=rg qq49 c16r0 rfl (by kernel_rfl)
@[simp] theorem uc16s1:U c16s1 (.seq c16k0 .ret):=ur
@[simp] theorem uc16k2:Ex F cx (.code c16k2::k) ⟨mk 87 l,rows,low⟩ r↔bnd (evP rows (.loadN 3 (.c (lk l 1)))) fun v0=>bnd (Ret F 50 [v0] rows) fun q1=>bnd (evP q1.2.1 (.ext (.c q1.1) 0)) fun v2=>bnd (evP q1.2.1 (.ext (.c q1.1) 1)) fun v3=>Ex F cx k ⟨mk 87 [(15,v3),(14,v2),(76,v3),(75,v2),(72,q1.1),(74,q1.1),(73,v0),(1,lk l 1),(11,lk l 11)],q1.2.1,(lowO low q1.2.2)⟩ r:=rg qq51 c16r2 rfl (by kernel_rfl)
@[simp] theorem uc16s3:U c16s3 (.seq c16k2 c16s1):=ur
@[simp] theorem uc16k5:Ex F cx (.code c16k5::k) ⟨mk 87 l,rows,low⟩ r↔bnd (evP rows (.bin .add (.c (lk l 63)) (.c (.int .i64 1)))) fun v0=>Ex F cx k ⟨mk 87 ([(63,v0),(71,v0)]++kp l qq50),rows,low⟩ r:=rg qq50 c16r5 rfl (by kernel_rfl)
@[simp] theorem uc16k6:Ex F cx (.code c16k6::k) ⟨mk 87 l,rows,low⟩ r↔bnd (evP rows (.bin .add (.c (lk l 11)) (.c (.int .i64 1)))) fun v0=>Ex F cx k ⟨mk 87 ([(11,v0),(70,v0),(69,lk l 11)]++kp l qq50),rows,low⟩ r:=rg qq50 c16r6 rfl (by kernel_rfl)
@[simp] theorem uc16s7:U c16s7 (.cond (.t 68) c16k6 .skip):=ur
@[simp] theorem uc16k8:Ex F cx (.code c16k8::k) ⟨mk 87 l,rows,low⟩ r↔bnd (evP rows (.bin .geq (.c (lk l 13)) (.c (.int .i64 0)))) fun v0=>Ex F cx k ⟨mk 87 ([(68,v0),(67,lk l 13)]++kp l qq48),rows,low⟩ r:=rg qq48 c16r8 rfl (by kernel_rfl)
@[simp] theorem uc16s9:U c16s9 (.seq c16k8 c16s7):=ur
@[simp] theorem uc16k10:Ex F cx (.code c16k10::k) ⟨mk 87 l,rows,low⟩ r↔bnd (evP rows (.idxS 1 (.c (lk l 61)) (.c (lk l 63)))) fun v0=>bnd (evP rows (.load1 (.c v0))) fun v1=>Ex F cx k ⟨mk 87 ([(13,v1),(66,v1),(65,v0)]++kp l qq50),rows,low⟩ r:=rg qq50 c16r10 rfl (by kernel_rfl)
@[simp] theorem uc16s11:U c16s11 (.seq (.block 7 (.seq c16k10 c16s9)) c16k5):=ur
@[simp] theorem uc16s12:U c16s12 (.seq (.cond (.t 64) .skip (.exit 6)) c16s11):=ur
@[simp] theorem uc16k13:Ex F cx (.code c16k13::k) ⟨mk 87 l,rows,low⟩ r↔bnd (evP rows (.bin .lss (.c (lk l 63)) (.c (lk l 62)))) fun v0=>Ex F cx k ⟨mk 87 ([(64,v0)]++kp l qq50),rows,low⟩ r:=rg qq50 c16r13 rfl (by kernel_rfl)
@[simp] theorem uc16s14:U c16s14 (.block 6 (.loop c16l4)):=ur
@[simp] theorem uc16k15:Ex F cx (.code c16k15::k) ⟨mk 87 l,rows,low⟩ r↔bnd (evP rows (.fieldA 1 (.c (lk l 1)))) fun v0=>bnd (evP rows (.load1 (.c v0))) fun v1=>bnd (evP rows (.len 0 (.c v1))) fun v2=>bnd (evP rows (.loadN 2 (.c (.ptr 0 0)))) fun v3=>bnd (Ret F 64 [lk l 5,v2,v3] rows) fun q4=>bnd (evP q4.2.1 (.len 0 (.c q4.1))) fun v5=>Ex F cx k ⟨mk 87 ([(63,(.int .i64 0)),(62,v5),(61,q4.1),(60,v3),(59,v2),(58,v1),(57,v0),(56,lk l 5)]++kp l qq113),q4.2.1,(lowO low q4.2.2)⟩ r:=rg qq113 c16r15 rfl (by kernel_rfl)
@[simp] theorem uc16s16:U c16s16 (.seq (.seq c16k15 c16s14) c16s3):=ur
@[simp] theorem uc16k17:Ex F cx (.code c16k17::k) ⟨mk 87 l,rows,low⟩ r↔Ex F cx k ⟨mk 87 [(11,(.int .i64 0)),(1,lk l 1),(5,lk l 5)],rows,low⟩ r:=rg qq119 c16r17 rfl (by kernel_rfl)
@[simp] theorem uc16s18:U c16s18 (.seq c16k17 c16s16):=ur
@[simp] theorem uc16k20:Ex F cx (.code c16k20::k) ⟨mk 87 l,rows,low⟩ r↔bnd (evP rows (.bin .add (.c (lk l 24)) (.c (.int .i64 1)))) fun v0=>Ex F cx k ⟨mk 87 ([(24,v0),(55,v0)]++kp l qq64),rows,low⟩ r:=rg qq64 c16r20 rfl (by kernel_rfl)
@[simp] theorem uc16k21:Ex F cx (.code c16k21::k) ⟨mk 87 l,rows,low⟩ r↔bnd (evP rows (.load1 (.c (lk l 7)))) fun v0=>bnd (evE rows low (.mkslice 1 [.nilslice] [(0,1,(.c v0))])) fun q1=>bnd (evE q1.2.1 q1.2.2 (.app 1 24 (.c (lk l 5)) (.c q1.1))) fun q2=>Ex F cx k ⟨mk 87 ([(5,q2.1),(54,q2.1),(53,q1.1),(52,v0),(51,lk l 5)]++kp l qq69),q2.2.1,q2.2.2⟩ r:=rg qq69 c16r21 rfl (by kernel_rfl)
@[simp] theorem uc16k23:Ex F cx (.code c16k23::k) ⟨mk 87 l,rows,low⟩ r↔bnd (evP (rows++maskE 0 rn) (.load1 (.c (lk l 7)))) fun v0=>bnd (opC F (rows++maskE 4 rn) (rows.length+rn.length) [lk l 10] [] (.func 63 [])) fun q1=>q1.2.2=rows.length+rn.length/\bnd (some (rn++List.map (fun(x:Row)=>(3,x)) (q1.2.1.drop (rows.length+rn.length)))) fun e1=>bnd (evP (rows++List.map (fun(x:Nat×Row)=>x.2) e1) (.idxS 2 (.c v0) (.c (lk l 9)))) fun v2=>bnd (evE (rows++List.map (fun(x:Nat×Row)=>x.2) e1) low (.storeN 2 (.c v2) (.c q1.1))) fun q3=>Ex F cx k ⟨mk 87 ([(50,v2),(49,q1.1),(48,lk l 10),(47,lk l 9),(46,v0)]++kp l qq159),q3.2.1,q3.2.2⟩ r:=rg qq159 c16r23 rfl (by kernel_rfl)
@[simp] theorem uc16k24:Ex F cx (.code c16k24::k) ⟨mk 87 l,rows,low⟩ r↔Ex F cx k ⟨mk 87 ([(10,lk l 45)]++kp l qq160),rows,low⟩ r:=rg qq160 c16r24 rfl (by kernel_rfl)
@[simp] theorem uc16k25:Ex F cx (.code c16k25::k) ⟨mk 87 l,rows,low⟩ r↔Ex F cx k ⟨mk 87 ([(9,lk l 44)]++kp l qq158),rows,low⟩ r:=rg qq158 c16r25 rfl (by kernel_rfl)
@[simp] theorem uc16f22a:U c16f22a (.seq c16k25 c16k24):=ur
@[simp] theorem uc16f22b:U c16f22b (.block 5 c16k23):=ur
@[simp] theorem uc16s26:U c16s26 (.block 4 (.rf (.t 43) [44,45] c16f22a c16f22b)):=ur
@[simp] theorem uc16k27:Ex F cx (.code c16k27::k) ⟨mk 87 l,rows,low⟩ r↔bnd (evP rows (.loadN 3 (.c (lk l 1)))) fun v0=>bnd (Ret F 62 [v0,lk l 6] rows) fun q1=>Ex F cx k ⟨mk 87 ([(43,q1.1),(42,lk l 6),(41,v0)]++kp l qq67),q1.2.1,(lowO low q1.2.2)⟩ r:=rg qq67 c16r27 rfl (by kernel_rfl)
@[simp] theorem uc16s28:U c16s28 (.seq (.seq c16k27 c16s26) c16k21):=ur
@[simp] theorem uc16k30:Ex F cx (.code c16k30::k) ⟨mk 87 l,rows,low⟩ r↔bnd (evP rows (.bin .add (.c (lk l 33)) (.c (.int .i64 1)))) fun v0=>Ex F cx k ⟨mk 87 ([(33,v0),(40,v0)]++kp l qq66),rows,low⟩ r:=rg qq66 c16r30 rfl (by kernel_rfl)
@[simp] theorem uc16k31:Ex F cx (.code c16k31::k) ⟨mk 87 l,rows,low⟩ r↔bnd (evP rows (.load1 (.c (lk l 7)))) fun v0=>bnd (evP rows (.loadN 2 (.c (.ptr 0 0)))) fun v1=>bnd (evP rows (.idxS 2 (.c v0) (.c (lk l 8)))) fun v2=>bnd (evE rows low (.storeN 2 (.c v2) (.c v1))) fun q3=>Ex F cx k ⟨mk 87 ([(39,v2),(38,v1),(37,lk l 8),(36,v0)]++kp l qq68),q3.2.1,q3.2.2⟩ r:=rg qq68 c16r31 rfl (by kernel_rfl)
@[simp] theorem uc16k32:Ex F cx (.code c16k32::k) ⟨mk 87 l,rows,low⟩ r↔Ex F cx k ⟨mk 87 ([(8,lk l 33),(35,lk l 33)]++kp l qq66),rows,low⟩ r:=rg qq66 c16r32 rfl (by kernel_rfl)
@[simp] theorem uc16s33:U c16s33 (.seq (.block 3 (.seq c16k32 c16k31)) c16k30):=ur
@[simp] theorem uc16s34:U c16s34 (.seq (.cond (.t 34) .skip (.exit 2)) c16s33):=ur
@[simp] theorem uc16k35:Ex F cx (.code c16k35::k) ⟨mk 87 l,rows,low⟩ r↔bnd (evP rows (.bin .lss (.c (lk l 33)) (.c (lk l 32)))) fun v0=>Ex F cx k ⟨mk 87 ([(34,v0)]++kp l qq66),rows,low⟩ r:=rg qq66 c16r35 rfl (by kernel_rfl)
@[simp] theorem uc16s36:U c16s36 (.block 2 (.loop c16l29)):=ur
@[simp] theorem uc16k37:Ex F cx (.code c16k37::k) ⟨mk 87 l,rows,low⟩ r↔bnd (evP rows (.load1 (.c (lk l 7)))) fun v0=>bnd (evP rows (.len 0 (.c v0))) fun v1=>Ex F cx k ⟨mk 87 ([(33,(.int .i64 0)),(32,v1),(31,v0)]++kp l qq67),rows,low⟩ r:=rg qq67 c16r37 rfl (by kernel_rfl)
@[simp] theorem uc16s38:U c16s38 (.seq (.seq c16k37 c16s36) c16s28):=ur
@[simp] theorem uc16k39:Ex F cx (.code c16k39::k) ⟨mk 87 l,rows,low⟩ r↔bnd (evP rows (.fieldA 1 (.c (lk l 1)))) fun v0=>bnd (evP rows (.load1 (.c v0))) fun v1=>bnd (evP rows (.len 0 (.c v1))) fun v2=>bnd (evE rows low (.make [.int .i64 0,.int .i64 0] 16 (.c v2) (.c v2))) fun q3=>bnd (evE q3.2.1 q3.2.2 (.box (.c .nilslice))) fun q4=>bnd (evE q4.2.1 q4.2.2 (.store1 (.c q4.1) (.c q3.1))) fun q5=>Ex F cx k ⟨mk 87 ([(7,q4.1),(30,q3.1),(29,v2),(28,v1),(27,v0)]++kp l qq65),q5.2.1,q5.2.2⟩ r:=rg qq65 c16r39 rfl (by kernel_rfl)
@[simp] theorem uc16s40:U c16s40 (.seq c16k39 c16s38):=ur
@[simp] theorem uc16k41:Ex F cx (.code c16k41::k) ⟨mk 87 l,rows,low⟩ r↔Ex F cx k ⟨mk 87 ([(6,lk l 24),(26,lk l 24)]++kp l qq64),rows,low⟩ r:=rg qq64 c16r41 rfl (by kernel_rfl)
@[simp] theorem uc16s42:U c16s42 (.seq (.block 1 (.seq c16k41 c16s40)) c16k20):=ur
@[simp] theorem uc16s43:U c16s43 (.seq (.cond (.t 25) .skip (.exit 0)) c16s42):=ur
@[simp] theorem uc16k44:Ex F cx (.code c16k44::k) ⟨mk 87 l,rows,low⟩ r↔bnd (evP rows (.bin .lss (.c (lk l 24)) (.c (lk l 23)))) fun v0=>Ex F cx k ⟨mk 87 ([(25,v0)]++kp l qq64),rows,low⟩ r:=rg qq64 c16r44 rfl (by kernel_rfl)
@[simp] theorem uc16s45:U c16s45 (.block 0 (.loop c16l19)):=ur
@[simp] theorem uc16k46:Ex F cx (.code c16k46::k) ⟨mk 87 l,rows,low⟩ r↔bnd (evP rows (.fieldA 2 (.c (lk l 1)))) fun v0=>bnd (evP rows (.load1 (.c v0))) fun v1=>bnd (evP rows (.len 0 (.c v1))) fun v2=>Ex F cx k ⟨mk 87 ([(24,(.int .i64 0)),(23,v2),(22,v1),(21,v0)]++kp l qq70),rows,low⟩ r:=rg qq70 c16r46 rfl (by kernel_rfl)
@[simp] theorem uc16s47:U c16s47 (.seq (.seq c16k46 c16s45) c16s18):=ur
@[simp] theorem uc16k48:Ex F cx (.code c16k48::k) ⟨mk 87 l,rows,low⟩ r↔Ex F cx k ⟨mk 87 ([(5,.nilslice)]++kp l qq72),rows,low⟩ r:=rg qq72 c16r48 rfl (by kernel_rfl)
@[simp] theorem uc16s49:U c16s49 (.seq c16k48 c16s47):=ur
@[simp] theorem uc16k50:Ex F cx (.code c16k50::k) ⟨mk 87 l,rows,low⟩ r↔Ex F cx k ⟨mk 87 [(3,lk l 4),(2,(.int .i64 0)),(20,lk l 4),(4,lk l 4)],rows,low⟩ r:=rg [4] c16r50 rfl (by kernel_rfl)
@[simp] theorem uc16s51:U c16s51 (.cond (.t 19) (.seq c16k50 .ret) .skip):=ur
@[simp] theorem uc16k52:Ex F cx (.code c16k52::k) ⟨mk 87 l,rows,low⟩ r↔bnd (evP rows (.bin .neq (.c (lk l 4)) (.c (.int .i64 0)))) fun v0=>Ex F cx k ⟨mk 87 ([(19,v0),(18,lk l 4)]++kp l qq63),rows,low⟩ r:=rg qq63 c16r52 rfl (by kernel_rfl)
@[simp] theorem uc16s53:U c16s53 (.seq c16k52 c16s51):=ur
@[simp] theorem uc16k54:Ex F cx (.code c16k54::k) ⟨mk 87 l,rows,low⟩ r↔bnd (evP rows (.loadN 3 (.c (lk l 1)))) fun v0=>bnd (Ret F 59 [v0] rows) fun q1=>Ex F cx k ⟨mk 87 ([(4,q1.1),(17,q1.1),(16,v0)]++kp l qq72),q1.2.1,(lowO low q1.2.2)⟩ r:=rg qq72 c16r54 rfl (by kernel_rfl)
@[simp] theorem uc16s55:U c16s55 (.seq (.seq c16k54 c16s53) c16s49):=ur
@[simp] theorem uc16k56:Ex F cx (.code c16k56::k) ⟨mk 87 l,rows,low⟩ r↔bnd (evE rows low (.box (.c (lk l 0)))) fun q0=>Ex F cx k ⟨mk 87 [(3,(.int .i64 0)),(2,(.int .i64 0)),(1,q0.1),(0,lk l 0)],q0.2.1,q0.2.2⟩ r:=rg [0] c16r56 rfl (by kernel_rfl)
def Lc16l4(F:Nat->Option IFn)(cx:Ctx)(x1 x11 x61 x62 x63:AV)(rows:List Row)(low:Nat)(r:AV×List Row×Nat->Prop):Prop:=Ex F cx (.code c16l4::Kc16l4) ⟨mk 87 [(1,x1),(11,x11),(61,x61),(62,x62),(63,x63)],rows,low⟩ r
@[simp] theorem nc16l4:Ex F cx (Kc16l4) ⟨mk 87 l,rows,low⟩ r↔Lc16l4 F cx (lk l 1) (lk l 11) (lk l 61) (lk l 62) (lk l 63) rows low r:=loopN (keep:=qq50) (by kernel_rfl)
@[simp] theorem ec16l4:Ex F cx (.code (.loop c16l4)::.inBlock 6::.code c16s3::[]) ⟨mk 87 l,rows,low⟩ r↔Lc16l4 F cx (lk l 1) (lk l 11) (lk l 61) (lk l 62) (lk l 63) rows low r:=loopE (keep:=qq50) (by kernel_rfl)
@[simp] theorem uc16l4:U c16l4 (.seq c16k13 c16s12):=ur
def Lc16l29(F:Nat->Option IFn)(cx:Ctx)(x1 x2 x3 x5 x6 x7 x23 x24 x32 x33:AV)(rows:List Row)(low:Nat)(r:AV×List Row×Nat->Prop):Prop:=Ex F cx (.code c16l29::Kc16l29) ⟨mk 87 [(1,x1),(2,x2),(3,x3),(5,x5),(6,x6),(7,x7),(23,x23),(24,x24),(32,x32),(33,x33)],rows,low⟩ r
@[simp] theorem nc16l29:Ex F cx (Kc16l29) ⟨mk 87 l,rows,low⟩ r↔Lc16l29 F cx (lk l 1) (lk l 2) (lk l 3) (lk l 5) (lk l 6) (lk l 7) (lk l 23) (lk l 24) (lk l 32) (lk l 33) rows low r:=loopN (keep:=qq66) (by kernel_rfl)
@[simp] theorem ec16l29:Ex F cx (.code (.loop c16l29)::.inBlock 2::.code c16s28::.inBlock 1::.code c16k20::Kc16l19) ⟨mk 87 l,rows,low⟩ r↔Lc16l29 F cx (lk l 1) (lk l 2) (lk l 3) (lk l 5) (lk l 6) (lk l 7) (lk l 23) (lk l 24) (lk l 32) (lk l 33) rows low r:=loopE (keep:=qq66) (by kernel_rfl)
@[simp] theorem uc16l29:U c16l29 (.seq c16k35 c16s34):=ur
def Lc16l19(F:Nat->Option IFn)(cx:Ctx)(x1 x2 x3 x5 x23 x24:AV)(rows:List Row)(low:Nat)(r:AV×List Row×Nat->Prop):Prop:=Ex F cx (.code c16l19::Kc16l19) ⟨mk 87 [(1,x1),(2,x2),(3,x3),(5,x5),(23,x23),(24,x24)],rows,low⟩ r
@[simp] theorem nc16l19:Ex F cx (Kc16l19) ⟨mk 87 l,rows,low⟩ r↔Lc16l19 F cx (lk l 1) (lk l 2) (lk l 3) (lk l 5) (lk l 23) (lk l 24) rows low r:=loopN (keep:=qq64) (by kernel_rfl)
@[simp] theorem ec16l19:Ex F cx (.code (.loop c16l19)::.inBlock 0::.code c16s18::[]) ⟨mk 87 l,rows,low⟩ r↔Lc16l19 F cx (lk l 1) (lk l 2) (lk l 3) (lk l 5) (lk l 23) (lk l 24) rows low r:=loopE (keep:=qq64) (by kernel_rfl)
@[simp] theorem uc16l19:U c16l19 (.seq c16k44 c16s43):=ur
@[simp] theorem uc16b:U c16b (.seq c16k56 c16s55):=ur
theorem i16{x0:AV}(hF:F 16=some c16){q:AV×List Row×Option Nat}(h:Ex F (.fn [.t 2,.t 3]) [.code c16b] ⟨mk 87 [(0,x0)],rows,rows.length⟩ fun r=>fin rows r.1 r.2.1 r.2.2=q):Ret F 16 [x0] rows=some q:=Ret_mk hF h
@[simp] theorem uc18k0:Ex F cx (.code c18k0::k) ⟨mk 25 l,rows,low⟩ r↔bnd (evP (rows++maskE 0 rn) (.fieldA 1 (.c (lk l 1)))) fun v0=>bnd (evP (rows++maskE 1 rn) (.load1 (.c v0))) fun v1=>bnd (evP (rows++maskE 3 rn) (.len 0 (.c v1))) fun v2=>bnd (evP (rows++maskE 0 rn) (.fieldA 0 (.c (lk l 1)))) fun v3=>bnd (evP (rows++maskE 8 rn) (.load1 (.c v3))) fun v4=>bnd (evP (rows++maskE 0 rn) (.loadN 3 (.c (lk l 1)))) fun v5=>bnd (opC F (rows++maskE 32 rn) (rows.length+rn.length) [v5] [] (.func 56 [])) fun q6=>q6.2.2=rows.length+rn.length/\bnd (some (rn++List.map (fun(x:Row)=>(6,x)) (q6.2.1.drop (rows.length+rn.length)))) fun e6=>bnd (evP (rows++maskE 120 e6) (.bin .sub (.c v4) (.c q6.1))) fun v7=>bnd (evP (rows++maskE 255 e6) (.bin .sub (.c v2) (.c v7))) fun v8=>bnd (evP (rows++List.map (fun(x:Nat×Row)=>x.2) e6) (.bin .sub (.c v8) (.c (lk l 4)))) fun v9=>Ex F cx k ⟨mk 25 [(2,v9),(24,v9),(23,lk l 4),(22,v8),(21,v7),(20,q6.1),(19,v5),(18,v4),(17,v3),(16,v2),(15,v1),(14,v0),(1,lk l 1),(4,lk l 4)],(rows++List.map (fun(x:Nat×Row)=>x.2) e6),low⟩ r:=rg qq112 c18r0 rfl (by kernel_rfl)
@[simp] theorem uc18s1:U c18s1 (.seq c18k0 .ret):=ur
@[simp] theorem uc18k2:Ex F cx (.code c18k2::k) ⟨mk 25 l,rows,low⟩ r↔bnd (evP (rows++maskE 0 rn) (.loadN 3 (.c (lk l 1)))) fun v0=>bnd (evP (rows++maskE 0 rn) (.fieldA 1 (.c (lk l 1)))) fun v1=>bnd (evP (rows++maskE 2 rn) (.load1 (.c v1))) fun v2=>bnd (evP (rows++maskE 6 rn) (.len 0 (.c v2))) fun v3=>bnd (evE (rows++maskE 14 rn) (rows.length+rn.length) (.make [.int .i64 0] 8 (.c v3) (.c v3))) fun q4=>q4.2.2=rows.length+rn.length/\bnd (some (rn++List.map (fun(x:Row)=>(4,x)) (q4.2.1.drop (rows.length+rn.length)))) fun e4=>bnd (Ret F 65 [v0,q4.1] (rows++List.map (fun(x:Nat×Row)=>x.2) e4)) fun q5=>bnd (evP q5.2.1 (.ext (.c q5.1) 0)) fun v6=>bnd (evP q5.2.1 (.ext (.c q5.1) 1)) fun v7=>Ex F cx k ⟨mk 25 [(4,v7),(3,v6),(13,v7),(12,v6),(5,q5.1),(11,q5.1),(10,q4.1),(9,v3),(8,v2),(7,v1),(6,v0),(1,lk l 1)],q5.2.1,(lowO low q5.2.2)⟩ r:=rg [1] c18r2 rfl (by kernel_rfl)
@[simp] theorem uc18s3:U c18s3 (.seq c18k2 c18s1):=ur
@[simp] theorem uc18k4:Ex F cx (.code c18k4::k) ⟨mk 25 l,rows,low⟩ r↔bnd (evE rows low (.box (.c (lk l 0)))) fun q0=>Ex F cx k ⟨mk 25 [(2,(.int .i64 0)),(1,q0.1),(0,lk l 0)],q0.2.1,q0.2.2⟩ r:=rg [0] c18r4 rfl (by kernel_rfl)
@[simp] theorem uc18b:U c18b (.seq c18k4 c18s3):=ur
theorem i18{x0:AV}(hF:F 18=some c18){q:AV×List Row×Option Nat}(h:Ex F (.fn [.t 2]) [.code c18b] ⟨mk 25 [(0,x0)],rows,rows.length⟩ fun r=>fin rows r.1 r.2.1 r.2.2=q):Ret F 18 [x0] rows=some q:=Ret_mk hF h
@[simp] abbrev Kc31l2:List Itm:=.inLoop c31l2::.inBlock 2::.code c31s1::[]
@[simp] abbrev Kc31l23:List Itm:=.inLoop c31l23::.inBlock 0::.code c31s22::[]
@[simp] abbrev Kc31l4:List Itm:=.inLoop c31l4::.inBlock 4::.inBlock 3::.code c31k3::Kc31l2
@[simp] theorem uc31k0:Ex F cx (.code c31k0::k) ⟨mk 63 l,rows,low⟩ r↔Ex F cx k ⟨mk 63 [(2,lk l 3),(62,lk l 3),(3,lk l 3)],rows,low⟩ r:=rg [3] c31r0 rfl (by kernel_rfl)
@[simp] theorem uc31s1:U c31s1 (.seq c31k0 .ret):=ur
@[simp] theorem uc31k3:Ex F cx (.code c31k3::k) ⟨mk 63 l,rows,low⟩ r↔bnd (evP rows (.bin .add (.c (lk l 5)) (.c (.int .i64 1)))) fun v0=>Ex F cx k ⟨mk 63 ([(5,v0),(25,v0),(24,lk l 5)]++kp l qq108),rows,low⟩ r:=rg qq108 c31r3 rfl (by kernel_rfl)
@[simp] theorem uc31k5:Ex F cx (.code c31k5::k) ⟨mk 63 l,rows,low⟩ r↔bnd (evP rows (.bin .add (.c (lk l 6)) (.c (.int .i64 1)))) fun v0=>Ex F cx k ⟨mk 63 ([(6,v0),(32,v0),(31,lk l 6)]++kp l qq107),rows,low⟩ r:=rg qq107 c31r5 rfl (by kernel_rfl)
@[simp] theorem uc31k6:Ex F cx (.code c31k6::k) ⟨mk 63 l,rows,low⟩ r↔bnd (evP rows (.idxS 1 (.c (lk l 3)) (.c (lk l 8)))) fun v0=>bnd (evE rows low (.store1 (.c v0) (.c (lk l 9)))) fun q1=>Ex F cx k ⟨mk 63 ([(61,v0),(60,lk l 9),(59,lk l 8),(58,lk l 3)]++kp l qq106),q1.2.1,q1.2.2⟩ r:=rg qq106 c31r6 rfl (by kernel_rfl)
@[simp] theorem uc31k7:Ex F cx (.code c31k7::k) ⟨mk 63 l,rows,low⟩ r↔bnd (evP rows (.idxS 1 (.c (lk l 3)) (.c (lk l 7)))) fun v0=>bnd (evE rows low (.store1 (.c v0) (.c (lk l 9)))) fun q1=>Ex F cx k ⟨mk 63 ([(57,v0),(56,lk l 9),(55,lk l 7),(54,lk l 3)]++kp l qq104),q1.2.1,q1.2.2⟩ r:=rg qq104 c31r7 rfl (by kernel_rfl)
@[simp] theorem uc31s8:U c31s8 (.seq c31k7 c31k6):=ur
@[simp] theorem uc31k9:Ex F cx (.code c31k9::k) ⟨mk 63 l,rows,low⟩ r↔bnd (evP rows (.idxS 1 (.c (lk l 3)) (.c (lk l 7)))) fun v0=>bnd (evP rows (.load1 (.c v0))) fun v1=>bnd (evP rows (.idxS 1 (.c (lk l 3)) (.c (lk l 8)))) fun v2=>bnd (evP rows (.load1 (.c v2))) fun v3=>bnd (evP rows (.mn [(.c v1),(.c v3)])) fun v4=>Ex F cx k ⟨mk 63 ([(9,v4),(53,v4),(52,v3),(51,v2),(50,lk l 8),(49,lk l 3),(48,v1),(47,v0),(46,lk l 7),(45,lk l 3)]++kp l qq105),rows,low⟩ r:=rg qq105 c31r9 rfl (by kernel_rfl)
@[simp] theorem uc31s10:U c31s10 (.seq c31k9 c31s8):=ur
@[simp] theorem uc31k11:Ex F cx (.code c31k11::k) ⟨mk 63 l,rows,low⟩ r↔bnd (evP rows (.fieldA 1 (.c (lk l 1)))) fun v0=>bnd (evP rows (.load1 (.c v0))) fun v1=>bnd (evP rows (.idxS 2 (.c v1) (.c (lk l 6)))) fun v2=>bnd (evP rows (.idxA 2 1 (.c v2) (.c (.int .i64 0)))) fun v3=>bnd (evP rows (.load1 (.c v3))) fun v4=>bnd (evP rows (.fieldA 1 (.c (lk l 1)))) fun v5=>bnd (evP rows (.load1 (.c v5))) fun v6=>bnd (evP rows (.idxS 2 (.c v6) (.c (lk l 6)))) fun v7=>bnd (evP rows (.idxA 2 1 (.c v7) (.c (.int .i64 1)))) fun v8=>bnd (evP rows (.load1 (.c v8))) fun v9=>Ex F cx k ⟨mk 63 ([(8,v9),(7,v4),(44,v9),(43,v8),(42,v7),(41,lk l 6),(40,v6),(39,v5),(38,v4),(37,v3),(36,v2),(35,lk l 6),(34,v1),(33,v0)]++kp l qq107),rows,low⟩ r:=rg qq107 c31r11 rfl (by kernel_rfl)
@[simp] theorem uc31s12:U c31s12 (.seq (.block 5 (.seq c31k11 c31s10)) c31k5):=ur
@[simp] theorem uc31s13:U c31s13 (.cond (.t 30) .skip (.exit 4)):=ur
@[simp] theorem uc31k14:Ex F cx (.code c31k14::k) ⟨mk 63 l,rows,low⟩ r↔bnd (evP rows (.fieldA 1 (.c (lk l 1)))) fun v0=>bnd (evP rows (.load1 (.c v0))) fun v1=>bnd (evP rows (.len 0 (.c v1))) fun v2=>bnd (evP rows (.bin .lss (.c (lk l 6)) (.c v2))) fun v3=>Ex F cx k ⟨mk 63 ([(30,v3),(29,v2),(28,v1),(27,v0),(26,lk l 6)]++kp l qq107),rows,low⟩ r:=rg qq107 c31r14 rfl (by kernel_rfl)
@[simp] theorem uc31s15:U c31s15 (.block 4 (.loop c31l4)):=ur
@[simp] theorem uc31k16:Ex F cx (.code c31k16::k) ⟨mk 63 l,rows,low⟩ r↔Ex F cx k ⟨mk 63 ([(6,(.int .i64 0))]++kp l qq108),rows,low⟩ r:=rg qq108 c31r16 rfl (by kernel_rfl)
@[simp] theorem uc31s17:U c31s17 (.seq (.block 3 (.seq c31k16 c31s15)) c31k3):=ur
@[simp] theorem uc31s18:U c31s18 (.cond (.t 23) .skip (.exit 2)):=ur
@[simp] theorem uc31k19:Ex F cx (.code c31k19::k) ⟨mk 63 l,rows,low⟩ r↔bnd (evP rows (.fieldA 0 (.c (lk l 1)))) fun v0=>bnd (evP rows (.load1 (.c v0))) fun v1=>bnd (evP rows (.bin .lss (.c (lk l 5)) (.c v1))) fun v2=>Ex F cx k ⟨mk 63 ([(23,v2),(22,v1),(21,v0),(20,lk l 5)]++kp l qq108),rows,low⟩ r:=rg qq108 c31r19 rfl (by kernel_rfl)
@[simp] theorem uc31s20:U c31s20 (.block 2 (.loop c31l2)):=ur
@[simp] theorem uc31k21:Ex F cx (.code c31k21::k) ⟨mk 63 l,rows,low⟩ r↔Ex F cx k ⟨mk 63 [(5,(.int .i64 0)),(1,lk l 1),(3,lk l 3)],rows,low⟩ r:=rg qq110 c31r21 rfl (by kernel_rfl)
@[simp] theorem uc31s22:U c31s22 (.seq (.seq c31k21 c31s20) c31s1):=ur
@[simp] theorem uc31k24:Ex F cx (.code c31k24::k) ⟨mk 63 l,rows,low⟩ r↔bnd (evP rows (.bin .add (.c (lk l 4)) (.c (.int .i64 1)))) fun v0=>Ex F cx k ⟨mk 63 ([(4,v0),(15,v0),(14,lk l 4)]++kp l qq103),rows,low⟩ r:=rg qq103 c31r24 rfl (by kernel_rfl)
@[simp] theorem uc31k25:Ex F cx (.code c31k25::k) ⟨mk 63 l,rows,low⟩ r↔bnd (evE rows low (.mkslice 1 [.int .i64 0] [(0,1,(.c (lk l 4)))])) fun q0=>bnd (evE q0.2.1 q0.2.2 (.app 1 8 (.c (lk l 3)) (.c q0.1))) fun q1=>Ex F cx k ⟨mk 63 ([(3,q1.1),(19,q1.1),(18,q0.1),(17,lk l 4),(16,lk l 3)]++kp l qq103),q1.2.1,q1.2.2⟩ r:=rg qq103 c31r25 rfl (by kernel_rfl)
@[simp] theorem uc31s26:U c31s26 (.seq (.block 1 c31k25) c31k24):=ur
@[simp] theorem uc31s27:U c31s27 (.cond (.t 13) .skip (.exit 0)):=ur
@[simp] theorem uc31k28:Ex F cx (.code c31k28::k) ⟨mk 63 l,rows,low⟩ r↔bnd (evP rows (.fieldA 0 (.c (lk l 1)))) fun v0=>bnd (evP rows (.load1 (.c v0))) fun v1=>bnd (evP rows (.bin .lss (.c (lk l 4)) (.c v1))) fun v2=>Ex F cx k ⟨mk 63 ([(13,v2),(12,v1),(11,v0),(10,lk l 4)]++kp l qq103),rows,low⟩ r:=rg qq103 c31r28 rfl (by kernel_rfl)
@[simp] theorem uc31s29:U c31s29 (.block 0 (.loop c31l23)):=ur
@[simp] theorem uc31k30:Ex F cx (.code c31k30::k) ⟨mk 63 l,rows,low⟩ r↔Ex F cx k ⟨mk 63 [(4,(.int .i64 0)),(1,lk l 1),(3,lk l 3)],rows,low⟩ r:=rg qq110 c31r30 rfl (by kernel_rfl)
@[simp] theorem uc31s31:U c31s31 (.seq (.seq c31k30 c31s29) c31s22):=ur
@[simp] theorem uc31k32:Ex F cx (.code c31k32::k) ⟨mk 63 l,rows,low⟩ r↔Ex F cx k ⟨mk 63 [(3,.nilslice),(1,lk l 1)],rows,low⟩ r:=rg [1] c31r32 rfl (by kernel_rfl)
@[simp] theorem uc31s33:U c31s33 (.seq c31k32 c31s31):=ur
@[simp] theorem uc31k34:Ex F cx (.code c31k34::k) ⟨mk 63 l,rows,low⟩ r↔bnd (evE rows low (.box (.c (lk l 0)))) fun q0=>Ex F cx k ⟨mk 63 [(2,.nilslice),(1,q0.1),(0,lk l 0)],q0.2.1,q0.2.2⟩ r:=rg [0] c31r34 rfl (by kernel_rfl)
def Lc31l4(F:Nat->Option IFn)(cx:Ctx)(x1 x3 x5 x6:AV)(rows:List Row)(low:Nat)(r:AV×List Row×Nat->Prop):Prop:=Ex F cx (.code c31l4::Kc31l4) ⟨mk 63 [(1,x1),(3,x3),(5,x5),(6,x6)],rows,low⟩ r
@[simp] theorem nc31l4:Ex F cx (Kc31l4) ⟨mk 63 l,rows,low⟩ r↔Lc31l4 F cx (lk l 1) (lk l 3) (lk l 5) (lk l 6) rows low r:=loopN (keep:=qq107) (by kernel_rfl)
@[simp] theorem ec31l4:Ex F cx (.code (.loop c31l4)::.inBlock 4::.inBlock 3::.code c31k3::Kc31l2) ⟨mk 63 l,rows,low⟩ r↔Lc31l4 F cx (lk l 1) (lk l 3) (lk l 5) (lk l 6) rows low r:=loopE (keep:=qq107) (by kernel_rfl)
@[simp] theorem uc31l4:U c31l4 (.seq (.seq c31k14 c31s13) c31s12):=ur
def Lc31l2(F:Nat->Option IFn)(cx:Ctx)(x1 x3 x5:AV)(rows:List Row)(low:Nat)(r:AV×List Row×Nat->Prop):Prop:=Ex F cx (.code c31l2::Kc31l2) ⟨mk 63 [(1,x1),(3,x3),(5,x5)],rows,low⟩ r
@[simp] theorem nc31l2:Ex F cx (Kc31l2) ⟨mk 63 l,rows,low⟩ r↔Lc31l2 F cx (lk l 1) (lk l 3) (lk l 5) rows low r:=loopN (keep:=qq108) (by kernel_rfl)
@[simp] theorem ec31l2:Ex F cx (.code (.loop c31l2)::.inBlock 2::.code c31s1::[]) ⟨mk 63 l,rows,low⟩ r↔Lc31l2 F cx (lk l 1) (lk l 3) (lk l 5) rows low r:=loopE (keep:=qq108) (by kernel_rfl)
@[simp] theorem uc31l2:U c31l2 (.seq (.seq c31k19 c31s18) c31s17):=ur
def Lc31l23(F:Nat->Option IFn)(cx:Ctx)(x1 x3 x4:AV)(rows:List Row)(low:Nat)(r:AV×List Row×Nat->Prop):Prop:=Ex F cx (.code c31l23::Kc31l23) ⟨mk 63 [(1,x1),(3,x3),(4,x4)],rows,low⟩ r
@[simp] theorem nc31l23:Ex F cx (Kc31l23) ⟨mk 63 l,rows,low⟩ r↔Lc31l23 F cx (lk l 1) (lk l 3) (lk l 4) rows low r:=loopN (keep:=qq103) (by kernel_rfl)
@[simp] theorem ec31l23:Ex F cx (.code (.loop c31l23)::.inBlock 0::.code c31s22::[]) ⟨mk 63 l,rows,low⟩ r↔Lc31l23 F cx (lk l 1) (lk l 3) (lk l 4) rows low r:=loopE (keep:=qq103) (by kernel_rfl)
@[simp] theorem uc31l23:U c31l23 (.seq (.seq c31k28 c31s27) c31s26):=ur
@[simp] theorem uc31b:U c31b (.seq c31k34 c31s33):=ur
theorem i31{x0:AV}(hF:F 31=some c31){q:AV×List Row×Option Nat}(h:Ex F (.fn [.t 2]) [.code c31b] ⟨mk 63 [(0,x0)],rows,rows.length⟩ fun r=>fin rows r.1 r.2.1 r.2.2=q):Ret F 31 [x0] rows=some q:=Ret_mk hF h
@[simp] theorem uc32k0:Ex F cx (.code c32k0::k) ⟨mk 34 l,rows,low⟩ r↔bnd (evP rows (.idxA 2 1 (.c (lk l 2)) (.c (.int .i64 0)))) fun v0=>bnd (evP rows (.load1 (.c v0))) fun v1=>bnd (evP rows (.idxA 2 1 (.c (lk l 3)) (.c (.int .i64 1)))) fun v2=>bnd (evP rows (.load1 (.c v2))) fun v3=>bnd (evP rows (.bin .quo (.c v3) (.c (lk l 5)))) fun v4=>bnd (evP rows (.bin .mul (.c v1) (.c v4))) fun v5=>bnd (evP rows (.idxA 2 1 (.c (lk l 3)) (.c (.int .i64 0)))) fun v6=>bnd (evP rows (.load1 (.c v6))) fun v7=>bnd (evP rows (.idxA 2 1 (.c (lk l 2)) (.c (.int .i64 1)))) fun v8=>bnd (evP rows (.load1 (.c v8))) fun v9=>bnd (evP rows (.bin .quo (.c v9) (.c (lk l 5)))) fun v10=>bnd (evP rows (.bin .mul (.c v7) (.c v10))) fun v11=>bnd (evP rows (.bin .add (.c v5) (.c v11))) fun v12=>bnd (evP rows (.idxA 2 1 (.c (lk l 2)) (.c (.int .i64 1)))) fun v13=>bnd (evP rows (.load1 (.c v13))) fun v14=>bnd (evP rows (.bin .quo (.c v14) (.c (lk l 5)))) fun v15=>bnd (evP rows (.idxA 2 1 (.c (lk l 3)) (.c (.int .i64 1)))) fun v16=>bnd (evP rows (.load1 (.c v16))) fun v17=>bnd (evP rows (.bin .mul (.c v15) (.c v17))) fun v18=>bnd (Ret F 73 [v12,v18] rows) fun q19=>bnd (evE q19.2.1 (lowO low q19.2.2) (.storeN 2 (.c (lk l 4)) (.c q19.1))) fun q20=>Ex F cx k ⟨mk 34 ([(33,q19.1),(32,v18),(31,v17),(30,v16),(29,v15),(28,lk l 5),(27,v14),(26,v13),(25,v12),(24,v11),(23,v10),(22,lk l 5),(21,v9),(20,v8),(19,v7),(18,v6),(17,v5),(16,v4),(15,lk l 5),(14,v3),(13,v2),(12,v1),(11,v0)]++kp l qq129),q20.2.1,q20.2.2⟩ r:=rg qq129 c32r0 rfl (by kernel_rfl)
@[simp] theorem uc32s1:U c32s1 (.seq c32k0 .ret):=ur
@[simp] theorem uc32k2:Ex F cx (.code c32k2::k) ⟨mk 34 l,rows,low⟩ r↔bnd (evP rows (.idxA 2 1 (.c (lk l 2)) (.c (.int .i64 1)))) fun v0=>bnd (evP rows (.load1 (.c v0))) fun v1=>bnd (evP rows (.idxA 2 1 (.c (lk l 3)) (.c (.int .i64 1)))) fun v2=>bnd (evP rows (.load1 (.c v2))) fun v3=>bnd (Ret F 72 [v1,v3] rows) fun q4=>Ex F cx k ⟨mk 34 ([(5,q4.1),(10,q4.1),(9,v3),(8,v2),(7,v1),(6,v0)]++kp l qq130),q4.2.1,(lowO low q4.2.2)⟩ r:=rg qq130 c32r2 rfl (by kernel_rfl)
@[simp] theorem uc32s3:U c32s3 (.seq c32k2 c32s1):=ur
@[simp] theorem uc32k4:Ex F cx (.code c32k4::k) ⟨mk 34 l,rows,low⟩ r↔bnd (evE rows low (.box (.c (lk l 0)))) fun q0=>bnd (evE q0.2.1 q0.2.2 (.box (.c (lk l 1)))) fun q1=>bnd (evE q1.2.1 q1.2.2 (.box (.c (.agg [.int .i64 0,.int .i64 0])))) fun q2=>Ex F cx k ⟨mk 34 [(4,q2.1),(3,q1.1),(2,q0.1),(0,lk l 0),(1,lk l 1)],q2.2.1,q2.2.2⟩ r:=rg qq21 c32r4 rfl (by kernel_rfl)
@[simp] theorem uc32b:U c32b (.seq c32k4 c32s3):=ur
theorem i32{x0 x1:AV}(hF:F 32=some c32){q:AV×List Row×Option Nat}(h:Ex F (.fn [.cellN 4 2]) [.code c32b] ⟨mk 34 [(0,x0),(1,x1)],rows,rows.length⟩ fun r=>fin rows r.1 r.2.1 r.2.2=q):Ret F 32 [x0,x1] rows=some q:=Ret_mk hF h
@[simp] theorem uc34k0:Ex F cx (.code c34k0::k) ⟨mk 13 l,rows,low⟩ r↔bnd (evP rows (.loadN 2 (.c (lk l 2)))) fun v0=>bnd (evP rows (.idxA 2 1 (.c (lk l 3)) (.c (.int .i64 0)))) fun v1=>bnd (evP rows (.load1 (.c v1))) fun v2=>bnd (evP rows (.un .neg (.c v2))) fun v3=>bnd (evP rows (.idxA 2 1 (.c (lk l 3)) (.c (.int .i64 1)))) fun v4=>bnd (evP rows (.load1 (.c v4))) fun v5=>bnd (evP rows (.mkagg [.int .i64 0,.int .i64 0] [(0,1,(.c v3)),(1,1,(.c v5))])) fun v6=>bnd (Ret F 32 [v0,v6] rows) fun q7=>bnd (evE q7.2.1 (lowO low q7.2.2) (.storeN 2 (.c (lk l 4)) (.c q7.1))) fun q8=>Ex F cx k ⟨mk 13 ([(12,q7.1),(11,v6),(10,v5),(9,v4),(8,v3),(7,v2),(6,v1),(5,v0)]++kp l qq130),q8.2.1,q8.2.2⟩ r:=rg qq130 c34r0 rfl (by kernel_rfl)
@[simp] theorem uc34s1:U c34s1 (.seq c34k0 .ret):=ur
@[simp] theorem uc34k2:Ex F cx (.code c34k2::k) ⟨mk 13 l,rows,low⟩ r↔bnd (evE rows low (.box (.c (lk l 0)))) fun q0=>bnd (evE q0.2.1 q0.2.2 (.box (.c (lk l 1)))) fun q1=>bnd (evE q1.2.1 q1.2.2 (.box (.c (.agg [.int .i64 0,.int .i64 0])))) fun q2=>Ex F cx k ⟨mk 13 [(4,q2.1),(3,q1.1),(2,q0.1),(0,lk l 0),(1,lk l 1)],q2.2.1,q2.2.2⟩ r:=rg qq21 c34r2 rfl (by kernel_rfl)
@[simp] theorem uc34b:U c34b (.seq c34k2 c34s1):=ur
theorem i34{x0 x1:AV}(hF:F 34=some c34){q:AV×List Row×Option Nat}(h:Ex F (.fn [.cellN 4 2]) [.code c34b] ⟨mk 13 [(0,x0),(1,x1)],rows,rows.length⟩ fun r=>fin rows r.1 r.2.1 r.2.2=q):Ret F 34 [x0,x1] rows=some q:=Ret_mk hF h
@[simp] theorem uc35k0:Ex F cx (.code c35k0::k) ⟨mk 16 l,rows,low⟩ r↔bnd (evP rows (.idxA 2 1 (.c (lk l 2)) (.c (.int .i64 0)))) fun v0=>bnd (evP rows (.load1 (.c v0))) fun v1=>bnd (evP rows (.idxA 2 1 (.c (lk l 3)) (.c (.int .i64 0)))) fun v2=>bnd (evP rows (.load1 (.c v2))) fun v3=>bnd (evP rows (.bin .mul (.c v1) (.c v3))) fun v4=>bnd (evP rows (.idxA 2 1 (.c (lk l 2)) (.c (.int .i64 1)))) fun v5=>bnd (evP rows (.load1 (.c v5))) fun v6=>bnd (evP rows (.idxA 2 1 (.c (lk l 3)) (.c (.int .i64 1)))) fun v7=>bnd (evP rows (.load1 (.c v7))) fun v8=>bnd (evP rows (.bin .mul (.c v6) (.c v8))) fun v9=>bnd (Ret F 73 [v4,v9] rows) fun q10=>bnd (evE q10.2.1 (lowO low q10.2.2) (.storeN 2 (.c (lk l 4)) (.c q10.1))) fun q11=>Ex F cx k ⟨mk 16 ([(15,q10.1),(14,v9),(13,v8),(12,v7),(11,v6),(10,v5),(9,v4),(8,v3),(7,v2),(6,v1),(5,v0)]++kp l qq130),q11.2.1,q11.2.2⟩ r:=rg qq130 c35r0 rfl (by kernel_rfl)
@[simp] theorem uc35s1:U c35s1 (.seq c35k0 .ret):=ur
@[simp] theorem uc35k2:Ex F cx (.code c35k2::k) ⟨mk 16 l,rows,low⟩ r↔bnd (evE rows low (.box (.c (lk l 0)))) fun q0=>bnd (evE q0.2.1 q0.2.2 (.box (.c (lk l 1)))) fun q1=>bnd (evE q1.2.1 q1.2.2 (.box (.c (.agg [.int .i64 0,.int .i64 0])))) fun q2=>Ex F cx k ⟨mk 16 [(4,q2.1),(3,q1.1),(2,q0.1),(0,lk l 0),(1,lk l 1)],q2.2.1,q2.2.2⟩ r:=rg qq21 c35r2 rfl (by kernel_rfl)
@[simp] theorem uc35b:U c35b (.seq c35k2 c35s1):=ur
theorem i35{x0 x1:AV}(hF:F 35=some c35){q:AV×List Row×Option Nat}(h:Ex F (.fn [.cellN 4 2]) [.code c35b] ⟨mk 16 [(0,x0),(1,x1)],rows,rows.length⟩ fun r=>fin rows r.1 r.2.1 r.2.2=q):Ret F 35 [x0,x1] rows=some q:=Ret_mk hF h
@[simp] abbrev Kc43l2:List Itm:=.inLoop c43l2::.inBlock 0::.code c43s1::[]
@[simp] theorem uc43k0:Ex F cx (.code c43k0::k) ⟨mk 20 l,rows,low⟩ r↔Ex F cx k ⟨mk 20 [(2,lk l 3),(19,lk l 3),(3,lk l 3)],rows,low⟩ r:=rg [3] c43r0 rfl (by kernel_rfl)
@[simp] theorem uc43s1:U c43s1 (.seq c43k0 .ret):=ur
@[simp] theorem uc43k3:Ex F cx (.code c43k3::k) ⟨mk 20 l,rows,low⟩ r↔bnd (evP rows (.bin .add (.c (lk l 4)) (.c (.int .i64 1)))) fun v0=>Ex F cx k ⟨mk 20 ([(4,v0),(10,v0),(9,lk l 4)]++kp l qq25),rows,low⟩ r:=rg qq25 c43r3 rfl (by kernel_rfl)
@[simp] theorem uc43k4:Ex F cx (.code c43k4::k) ⟨mk 20 l,rows,low⟩ r↔bnd (evP rows (.idxS 1 (.c (lk l 0)) (.c (lk l 4)))) fun v0=>bnd (evP rows (.load1 (.c v0))) fun v1=>bnd (evP rows (.mkagg [.int .i64 0,.int .i64 0] [(0,1,(.c v1)),(1,1,(.c (.int .i64 1)))])) fun v2=>bnd (evE rows low (.mkslice 1 [.int .i64 0,.int .i64 0] [(0,2,(.c v2))])) fun q3=>bnd (evE q3.2.1 q3.2.2 (.app 2 16 (.c (lk l 3)) (.c q3.1))) fun q4=>Ex F cx k ⟨mk 20 ([(3,q4.1),(18,q4.1),(17,q3.1),(16,v2),(15,v1),(14,v0),(13,lk l 4),(12,lk l 0),(11,lk l 3)]++kp l qq25),q4.2.1,q4.2.2⟩ r:=rg qq25 c43r4 rfl (by kernel_rfl)
@[simp] theorem uc43s5:U c43s5 (.seq (.block 1 c43k4) c43k3):=ur
@[simp] theorem uc43s6:U c43s6 (.cond (.t 8) .skip (.exit 0)):=ur
@[simp] theorem uc43k7:Ex F cx (.code c43k7::k) ⟨mk 20 l,rows,low⟩ r↔bnd (evP rows (.len 0 (.c (lk l 0)))) fun v0=>bnd (evP rows (.bin .lss (.c (lk l 4)) (.c v0))) fun v1=>Ex F cx k ⟨mk 20 ([(8,v1),(7,v0),(6,lk l 0),(5,lk l 4)]++kp l qq25),rows,low⟩ r:=rg qq25 c43r7 rfl (by kernel_rfl)
@[simp] theorem uc43s8:U c43s8 (.block 0 (.loop c43l2)):=ur
@[simp] theorem uc43k9:Ex F cx (.code c43k9::k) ⟨mk 20 l,rows,low⟩ r↔Ex F cx k ⟨mk 20 [(4,(.int .i64 0)),(0,lk l 0),(3,lk l 3)],rows,low⟩ r:=rg qq28 c43r9 rfl (by kernel_rfl)
@[simp] theorem uc43s10:U c43s10 (.seq (.seq c43k9 c43s8) c43s1):=ur
@[simp] theorem uc43k11:Ex F cx (.code c43k11::k) ⟨mk 20 l,rows,low⟩ r↔Ex F cx k ⟨mk 20 [(3,.nilslice),(0,lk l 0)],rows,low⟩ r:=rg [0] c43r11 rfl (by kernel_rfl)
@[simp] theorem uc43s12:U c43s12 (.seq c43k11 c43s10):=ur
@[simp] theorem uc43k13:Ex F cx (.code c43k13::k) ⟨mk 20 l,rows,low⟩ r↔Ex F cx k ⟨mk 20 [(2,.nilslice),(0,lk l 0)],rows,low⟩ r:=rg [0] c43r13 rfl (by kernel_rfl)
def Lc43l2(F:Nat->Option IFn)(cx:Ctx)(x0 x3 x4:AV)(rows:List Row)(low:Nat)(r:AV×List Row×Nat->Prop):Prop:=Ex F cx (.code c43l2::Kc43l2) ⟨mk 20 [(0,x0),(3,x3),(4,x4)],rows,low⟩ r
@[simp] theorem nc43l2:Ex F cx (Kc43l2) ⟨mk 20 l,rows,low⟩ r↔Lc43l2 F cx (lk l 0) (lk l 3) (lk l 4) rows low r:=loopN (keep:=qq25) (by kernel_rfl)
@[simp] theorem ec43l2:Ex F cx (.code (.loop c43l2)::.inBlock 0::.code c43s1::[]) ⟨mk 20 l,rows,low⟩ r↔Lc43l2 F cx (lk l 0) (lk l 3) (lk l 4) rows low r:=loopE (keep:=qq25) (by kernel_rfl)
@[simp] theorem uc43l2:U c43l2 (.seq (.seq c43k7 c43s6) c43s5):=ur
@[simp] theorem uc43b:U c43b (.seq c43k13 c43s12):=ur
theorem i43{x0:AV}(hF:F 43=some c43){q:AV×List Row×Option Nat}(h:Ex F (.fn [.t 2]) [.code c43b] ⟨mk 20 [(0,x0)],rows,rows.length⟩ fun r=>fin rows r.1 r.2.1 r.2.2=q):Ret F 43 [x0] rows=some q:=Ret_mk hF h
@[simp] theorem uc63k0:Ex F cx (.code c63k0::k) ⟨mk 5 l,rows,low⟩ r↔bnd (evP rows (.mkagg [.int .i64 0,.int .i64 0] [(0,1,(.c (lk l 0))),(1,1,(.c (.int .i64 1)))])) fun v0=>bnd (evE rows low (.storeN 2 (.c (lk l 2)) (.c v0))) fun q1=>Ex F cx k ⟨mk 5 [(4,v0),(3,lk l 0),(0,lk l 0),(2,lk l 2)],q1.2.1,q1.2.2⟩ r:=rg qq22 c63r0 rfl (by kernel_rfl)
@[simp] theorem uc63s1:U c63s1 (.seq c63k0 .ret):=ur
@[simp] theorem uc63k2:Ex F cx (.code c63k2::k) ⟨mk 5 l,rows,low⟩ r↔bnd (evE rows low (.box (.c (.agg [.int .i64 0,.int .i64 0])))) fun q0=>Ex F cx k ⟨mk 5 [(2,q0.1),(0,lk l 0)],q0.2.1,q0.2.2⟩ r:=rg [0] c63r2 rfl (by kernel_rfl)
@[simp] theorem uc63b:U c63b (.seq c63k2 c63s1):=ur
theorem i63{x0:AV}(hF:F 63=some c63){q:AV×List Row×Option Nat}(h:Ex F (.fn [.cellN 2 2]) [.code c63b] ⟨mk 5 [(0,x0)],rows,rows.length⟩ fun r=>fin rows r.1 r.2.1 r.2.2=q):Ret F 63 [x0] rows=some q:=Ret_mk hF h
@[simp] abbrev Kc64l3:List Itm:=.inLoop c64l3::.inBlock 2::.code c64s2::.inScope c64p0::[]
@[simp] abbrev Kc64l69:List Itm:=.inLoop c64l69::.inBlock 0::.code c64s68::.inScope c64p0::[]
@[simp] abbrev Kc64l8:List Itm:=.inLoop c64l8::.inBlock 8::.code c64s7::.inBlock 3::.code c64k4::Kc64l3
@[simp] abbrev Kc64l32:List Itm:=.inLoop c64l32::.inBlock 6::.code c64s31::.inBlock 3::.code c64k4::Kc64l3
@[simp] abbrev Kc64l51:List Itm:=.inLoop c64l51::.inBlock 4::.code c64s50::.inBlock 3::.code c64k4::Kc64l3
@[simp] abbrev Kc64l10:List Itm:=.inLoop c64l10::.inBlock 10::.inBlock 9::.code c64k9::Kc64l8
@[simp] theorem uc64k1:Ex F cx (.code c64k1::k) ⟨mk 148 l,rows,low⟩ r↔Ex F cx k ⟨mk 148 [(6,lk l 7),(147,lk l 7),(7,lk l 7)],rows,low⟩ r:=rg [7] c64r1 rfl (by kernel_rfl)
@[simp] theorem uc64s2:U c64s2 (.seq c64k1 .ret):=ur
@[simp] theorem uc64k4:Ex F cx (.code c64k4::k) ⟨mk 148 l,rows,low⟩ r↔bnd (evP rows (.bin .add (.c (lk l 32)) (.c (.int .i64 1)))) fun v0=>Ex F cx k ⟨mk 148 ([(32,v0),(146,v0)]++kp l qq47),rows,low⟩ r:=rg qq47 c64r4 rfl (by kernel_rfl)
@[simp] theorem uc64k5:Ex F cx (.code c64k5::k) ⟨mk 148 l,rows,low⟩ r↔bnd (evP rows (.bin .add (.c (lk l 9)) (.c (.int .i64 1)))) fun v0=>Ex F cx k ⟨mk 148 ([(9,v0),(145,v0),(144,lk l 9)]++kp l qq47),rows,low⟩ r:=rg qq47 c64r5 rfl (by kernel_rfl)
@[simp] theorem uc64k6:Ex F cx (.code c64k6::k) ⟨mk 148 l,rows,low⟩ r↔bnd (evP rows (.idxS 1 (.c (lk l 7)) (.c (lk l 9)))) fun v0=>bnd (evE rows low (.store1 (.c v0) (.c (lk l 10)))) fun q1=>Ex F cx k ⟨mk 148 ([(143,v0),(142,lk l 10),(141,lk l 9),(140,lk l 7)]++kp l qq46),q1.2.1,q1.2.2⟩ r:=rg qq46 c64r6 rfl (by kernel_rfl)
@[simp] theorem uc64s7:U c64s7 (.seq c64k6 c64k5):=ur
@[simp] theorem uc64k9:Ex F cx (.code c64k9::k) ⟨mk 148 l,rows,low⟩ r↔bnd (evP rows (.bin .add (.c (lk l 97)) (.c (.int .i64 1)))) fun v0=>Ex F cx k ⟨mk 148 ([(97,v0),(139,v0)]++kp l qq44),rows,low⟩ r:=rg qq44 c64r9 rfl (by kernel_rfl)
@[simp] theorem uc64k11:Ex F cx (.code c64k11::k) ⟨mk 148 l,rows,low⟩ r↔bnd (evP rows (.bin .add (.c (lk l 119)) (.c (.int .i64 1)))) fun v0=>Ex F cx k ⟨mk 148 ([(119,v0),(138,v0)]++kp l qq41),rows,low⟩ r:=rg qq41 c64r11 rfl (by kernel_rfl)
@[simp] theorem uc64k12:Ex F cx (.code c64k12::k) ⟨mk 148 l,rows,low⟩ r↔bnd (evP (rows++maskE 12 rn) (.idxS 2 (.c (lk l 16)) (.c (lk l 18)))) fun v0=>bnd (evP (rows++maskE 28 rn) (.loadN 2 (.c v0))) fun v1=>bnd (evP (rows++maskE 60 rn) (.mkif 86 (.c v1))) fun v2=>bnd (evP (rows++maskE 384 rn) (.idxS 2 (.c (lk l 12)) (.c (lk l 18)))) fun v3=>bnd (evP (rows++maskE 896 rn) (.loadN 2 (.c v3))) fun v4=>bnd (evP (rows++maskE 1920 rn) (.mkif 86 (.c v4))) fun v5=>bnd (evP (rows++maskE 0 rn) (.loadN 2 (.c (lk l 17)))) fun v6=>bnd (opC F (rows++maskE 8064 rn) (rows.length+rn.length) [v6] [(86,99)] v5) fun q7=>q7.2.2=rows.length+rn.length/\bnd (some (rn++List.map (fun(x:Row)=>(13,x)) (q7.2.1.drop (rows.length+rn.length)))) fun e7=>bnd (opC F (rows++maskE 16380 e7) (rows.length+e7.length) [q7.1] [(86,95)] v2) fun q8=>q8.2.2=rows.length+e7.length/\bnd (some (e7++List.map (fun(x:Row)=>(14,x)) (q8.2.1.drop (rows.length+e7.length)))) fun e8=>bnd (evP (rows++List.map (fun(x:Nat×Row)=>x.2) e8) (.idxS 2 (.c (lk l 16)) (.c (lk l 18)))) fun v9=>bnd (evE (rows++List.map (fun(x:Nat×Row)=>x.2) e8) low (.storeN 2 (.c v9) (.c q8.1))) fun q10=>Ex F cx k ⟨mk 148 ([(137,v9),(136,q8.1),(135,q7.1),(134,v6),(133,v5),(132,v4),(131,v3),(130,lk l 18),(129,lk l 12),(128,v2),(127,v1),(126,v0),(125,lk l 18),(124,lk l 16),(123,lk l 18),(122,lk l 16)]++kp l qq40),q10.2.1,q10.2.2⟩ r:=rg qq40 c64r12 rfl (by kernel_rfl)
@[simp] theorem uc64k13:Ex F cx (.code c64k13::k) ⟨mk 148 l,rows,low⟩ r↔Ex F cx k ⟨mk 148 ([(18,lk l 119),(121,lk l 119)]++kp l qq41),rows,low⟩ r:=rg qq41 c64r13 rfl (by kernel_rfl)
@[simp] theorem uc64s14:U c64s14 (.seq (.block 11 (.seq c64k13 c64k12)) c64k11):=ur
@[simp] theorem uc64s15:U c64s15 (.seq (.cond (.t 120) .skip (.exit 10)) c64s14):=ur
@[simp] theorem uc64k16:Ex F cx (.code c64k16::k) ⟨mk 148 l,rows,low⟩ r↔bnd (evP rows (.bin .lss (.c (lk l 119)) (.c (lk l 118)))) fun v0=>Ex F cx k ⟨mk 148 ([(120,v0)]++kp l qq41),rows,low⟩ r:=rg qq41 c64r16 rfl (by kernel_rfl)
@[simp] theorem uc64s17:U c64s17 (.block 10 (.loop c64l10)):=ur
@[simp] theorem uc64k18:Ex F cx (.code c64k18::k) ⟨mk 148 l,rows,low⟩ r↔bnd (evP rows (.len 0 (.c (lk l 16)))) fun v0=>Ex F cx k ⟨mk 148 ([(119,(.int .i64 0)),(118,v0),(117,lk l 16)]++kp l qq42),rows,low⟩ r:=rg qq42 c64r18 rfl (by kernel_rfl)
@[simp] theorem uc64s19:U c64s19 (.seq c64k18 c64s17):=ur
@[simp] theorem uc64k20:Ex F cx (.code c64k20::k) ⟨mk 148 l,rows,low⟩ r↔bnd (evP rows (.idxS 2 (.c (lk l 16)) (.c (lk l 10)))) fun v0=>bnd (evP rows (.loadN 2 (.c v0))) fun v1=>bnd (evE rows low (.box (.c (.agg [.int .i64 0,.int .i64 0])))) fun q2=>bnd (evE q2.2.1 q2.2.2 (.storeN 2 (.c q2.1) (.c v1))) fun q3=>Ex F cx k ⟨mk 148 ([(17,q2.1),(116,v1),(115,v0),(114,lk l 10),(113,lk l 16)]++kp l qq43),q3.2.1,q3.2.2⟩ r:=rg qq43 c64r20 rfl (by kernel_rfl)
@[simp] theorem uc64s21:U c64s21 (.seq c64k20 c64s19):=ur
@[simp] theorem uc64s22:U c64s22 (.cond (.t 112) (.exit 9) .skip):=ur
@[simp] theorem uc64k23:Ex F cx (.code c64k23::k) ⟨mk 148 l,rows,low⟩ r↔bnd (evP rows (.bin .eql (.c (lk l 15)) (.c (lk l 9)))) fun v0=>bnd (gv v0 false (evP rows (.mv (.c (lk l 16))))) fun v1=>bnd (gv v0 false (evP rows (.mv (.c (lk l 10))))) fun v2=>bnd (gv v0 false (evP rows (.idxS 2 (.c v1) (.c v2)))) fun v3=>bnd (gv v0 false (evP rows (.loadN 2 (.c v3)))) fun v4=>bnd (gv v0 false (evP rows (.loadN 2 (.c (lk l 5))))) fun v5=>bnd (gv v0 false (evP rows (.eqv false (.ints 2) (.c v4) (.c v5)))) fun v6=>bnd (evP rows (.pick (.c v0) (.c (.bool true)) (.c v6))) fun v7=>Ex F cx k ⟨mk 148 ([(112,v7),(111,v6),(110,v5),(109,v4),(108,v3),(107,v2),(106,v1),(105,v0),(104,v0),(103,lk l 9),(102,lk l 15)]++kp l qq39),rows,low⟩ r:=rg qq39 c64r23 rfl (by kernel_rfl)
@[simp] theorem uc64s24:U c64s24 (.seq (.seq c64k23 c64s22) c64s21):=ur
@[simp] theorem uc64k25:Ex F cx (.code c64k25::k) ⟨mk 148 l,rows,low⟩ r↔bnd (evP rows (.idxS 1 (.c (lk l 95)) (.c (lk l 97)))) fun v0=>bnd (evP rows (.load1 (.c v0))) fun v1=>Ex F cx k ⟨mk 148 ([(16,v1),(15,lk l 97),(101,v1),(100,v0),(99,lk l 97)]++kp l qq44),rows,low⟩ r:=rg qq44 c64r25 rfl (by kernel_rfl)
@[simp] theorem uc64s26:U c64s26 (.seq (.block 9 (.seq c64k25 c64s24)) c64k9):=ur
@[simp] theorem uc64s27:U c64s27 (.seq (.cond (.t 98) .skip (.exit 8)) c64s26):=ur
@[simp] theorem uc64k28:Ex F cx (.code c64k28::k) ⟨mk 148 l,rows,low⟩ r↔bnd (evP rows (.bin .lss (.c (lk l 97)) (.c (lk l 96)))) fun v0=>Ex F cx k ⟨mk 148 ([(98,v0)]++kp l qq44),rows,low⟩ r:=rg qq44 c64r28 rfl (by kernel_rfl)
@[simp] theorem uc64s29:U c64s29 (.block 8 (.loop c64l8)):=ur
@[simp] theorem uc64k30:Ex F cx (.code c64k30::k) ⟨mk 148 l,rows,low⟩ r↔bnd (evP rows (.len 0 (.c (lk l 0)))) fun v0=>Ex F cx k ⟨mk 148 ([(97,(.int .i64 0)),(96,v0),(95,lk l 0)]++kp l qq45),rows,low⟩ r:=rg qq45 c64r30 rfl (by kernel_rfl)
@[simp] theorem uc64s31:U c64s31 (.seq (.seq c64k30 c64s29) c64s7):=ur
@[simp] theorem uc64k33:Ex F cx (.code c64k33::k) ⟨mk 148 l,rows,low⟩ r↔bnd (evP rows (.bin .add (.c (lk l 81)) (.c (.int .i64 1)))) fun v0=>Ex F cx k ⟨mk 148 ([(81,v0),(94,v0)]++kp l qq37),rows,low⟩ r:=rg qq37 c64r33 rfl (by kernel_rfl)
@[simp] theorem uc64k34:Ex F cx (.code c64k34::k) ⟨mk 148 l,rows,low⟩ r↔bnd (evP (rows++maskE 12 rn) (.idxS 2 (.c (lk l 12)) (.c (lk l 14)))) fun v0=>bnd (evP (rows++maskE 28 rn) (.loadN 2 (.c v0))) fun v1=>bnd (evP (rows++maskE 60 rn) (.mkif 86 (.c v1))) fun v2=>bnd (evP (rows++maskE 0 rn) (.loadN 2 (.c (lk l 13)))) fun v3=>bnd (opC F (rows++maskE 252 rn) (rows.length+rn.length) [v3] [(86,123)] v2) fun q4=>q4.2.2=rows.length+rn.length/\bnd (some (rn++List.map (fun(x:Row)=>(8,x)) (q4.2.1.drop (rows.length+rn.length)))) fun e4=>bnd (evP (rows++List.map (fun(x:Nat×Row)=>x.2) e4) (.idxS 2 (.c (lk l 12)) (.c (lk l 14)))) fun v5=>bnd (evE (rows++List.map (fun(x:Nat×Row)=>x.2) e4) low (.storeN 2 (.c v5) (.c q4.1))) fun q6=>Ex F cx k ⟨mk 148 ([(93,v5),(92,q4.1),(91,v3),(90,v2),(89,v1),(88,v0),(87,lk l 14),(86,lk l 12),(85,lk l 14),(84,lk l 12)]++kp l qq36),q6.2.1,q6.2.2⟩ r:=rg qq36 c64r34 rfl (by kernel_rfl)
@[simp] theorem uc64k35:Ex F cx (.code c64k35::k) ⟨mk 148 l,rows,low⟩ r↔Ex F cx k ⟨mk 148 ([(14,lk l 81),(83,lk l 81)]++kp l qq37),rows,low⟩ r:=rg qq37 c64r35 rfl (by kernel_rfl)
@[simp] theorem uc64s36:U c64s36 (.seq (.block 7 (.seq c64k35 c64k34)) c64k33):=ur
@[simp] theorem uc64s37:U c64s37 (.seq (.cond (.t 82) .skip (.exit 6)) c64s36):=ur
@[simp] theorem uc64k38:Ex F cx (.code c64k38::k) ⟨mk 148 l,rows,low⟩ r↔bnd (evP rows (.bin .lss (.c (lk l 81)) (.c (lk l 80)))) fun v0=>Ex F cx k ⟨mk 148 ([(82,v0)]++kp l qq37),rows,low⟩ r:=rg qq37 c64r38 rfl (by kernel_rfl)
@[simp] theorem uc64s39:U c64s39 (.block 6 (.loop c64l32)):=ur
@[simp] theorem uc64k40:Ex F cx (.code c64k40::k) ⟨mk 148 l,rows,low⟩ r↔bnd (evP rows (.len 0 (.c (lk l 12)))) fun v0=>Ex F cx k ⟨mk 148 ([(81,(.int .i64 0)),(80,v0),(79,lk l 12)]++kp l qq38),rows,low⟩ r:=rg qq38 c64r40 rfl (by kernel_rfl)
@[simp] theorem uc64s41:U c64s41 (.seq (.seq c64k40 c64s39) c64s31):=ur
@[simp] theorem uc64k42:Ex F cx (.code c64k42::k) ⟨mk 148 l,rows,low⟩ r↔bnd (evP rows (.idxS 2 (.c (lk l 12)) (.c (lk l 10)))) fun v0=>bnd (evP rows (.loadN 2 (.c v0))) fun v1=>bnd (evE rows low (.box (.c (.agg [.int .i64 0,.int .i64 0])))) fun q2=>bnd (evE q2.2.1 q2.2.2 (.storeN 2 (.c q2.1) (.c v1))) fun q3=>Ex F cx k ⟨mk 148 ([(13,q2.1),(78,v1),(77,v0),(76,lk l 10),(75,lk l 12)]++kp l qq45),q3.2.1,q3.2.2⟩ r:=rg qq45 c64r42 rfl (by kernel_rfl)
@[simp] theorem uc64s43:U c64s43 (.seq c64k42 c64s41):=ur
@[simp] theorem uc64k44:Ex F cx (.code c64k44::k) ⟨mk 148 l,rows,low⟩ r↔bnd (evP rows (.idxS 1 (.c (lk l 0)) (.c (lk l 9)))) fun v0=>bnd (evP rows (.load1 (.c v0))) fun v1=>Ex F cx k ⟨mk 148 ([(12,v1),(74,v1),(73,v0),(72,lk l 9),(71,lk l 0)]++kp l qq46),rows,low⟩ r:=rg qq46 c64r44 rfl (by kernel_rfl)
@[simp] theorem uc64s45:U c64s45 (.seq c64k44 c64s43):=ur
@[simp] theorem uc64k46:U c64k46 (.kill 148 [0,5,7,9,10,11,31,32] (.ops c64r46)):=ur
@[simp] theorem uc64r46:Ex F cx (.ops c64r46::k) s r↔Ex F cx (.ops [
 .grpw (.t 69) (.t 64) none 8179 [(⟨some 57,.mv (.t 0),none⟩,0),(⟨some 58,.mv (.t 9),none⟩,0),(⟨some 59,.mv (.t 0),none⟩,0),(⟨some 60,.mv (.t 11),none⟩,0),(⟨some 61,.mv (.t 0),none⟩,0),(⟨some 62,.mv (.t 11),none⟩,0),(⟨some 63,.idxS 1 (.t 61) (.t 62),none⟩,48),(⟨some 64,.load1 (.t 63),none⟩,112),(⟨some 65,.mv (.t 0),none⟩,0),(⟨some 66,.mv (.t 9),none⟩,0),(⟨some 67,.idxS 1 (.t 65) (.t 66),none⟩,768),(⟨some 68,.load1 (.t 67),none⟩,1792),(⟨some 69,.idxS 1 (.t 57) (.t 58),none⟩,4083),(⟨none,.lenc 0,none⟩,8179)],
 .one ⟨some 70,.idxS 1 (.t 59) (.t 60),none⟩,
 .one ⟨none,.store1 (.t 70) (.t 68),none⟩]::k) s r:=Iff.rfl
@[simp] theorem uc64s47:U c64s47 (.seq c64k46 c64s45):=ur
@[simp] theorem uc64s48:U c64s48 (.cond (.t 56) (.exit 3) .skip):=ur
@[simp] theorem uc64k49:Ex F cx (.code c64k49::k) ⟨mk 148 l,rows,low⟩ r↔bnd (evP rows (.len 0 (.c (lk l 0)))) fun v0=>bnd (evP rows (.bin .eql (.c (lk l 11)) (.c v0))) fun v1=>Ex F cx k ⟨mk 148 ([(56,v1),(55,v0),(54,lk l 0),(53,lk l 11)]++kp l qq35),rows,low⟩ r:=rg qq35 c64r49 rfl (by kernel_rfl)
@[simp] theorem uc64s50:U c64s50 (.seq (.seq c64k49 c64s48) c64s47):=ur
@[simp] theorem uc64k52:Ex F cx (.code c64k52::k) ⟨mk 148 l,rows,low⟩ r↔bnd (evP rows (.bin .add (.c (lk l 11)) (.c (.int .i64 1)))) fun v0=>Ex F cx k ⟨mk 148 ([(11,v0),(52,v0),(51,lk l 11)]++kp l qq35),rows,low⟩ r:=rg qq35 c64r52 rfl (by kernel_rfl)
@[simp] theorem uc64s53:U c64s53 (.block 5 c64k52):=ur
@[simp] theorem uc64s54:U c64s54 (.cond (.t 50) .skip (.exit 4)):=ur
@[simp] theorem uc64k55:Ex F cx (.code c64k55::k) ⟨mk 148 l,rows,low⟩ r↔bnd (evP rows (.len 0 (.c (lk l 0)))) fun v0=>bnd (evP rows (.bin .lss (.c (lk l 11)) (.c v0))) fun v1=>bnd (gv v1 true (evP rows (.mv (.c (lk l 0))))) fun v2=>bnd (gv v1 true (evP rows (.mv (.c (lk l 11))))) fun v3=>bnd (gv v1 true (evP rows (.idxS 1 (.c v2) (.c v3)))) fun v4=>bnd (gv v1 true (evP rows (.load1 (.c v4)))) fun v5=>bnd (gv v1 true (evP rows (.mv (.c (lk l 10))))) fun v6=>bnd (gv v1 true (evP rows (.idxS 2 (.c v5) (.c v6)))) fun v7=>bnd (gv v1 true (evP rows (.loadN 2 (.c v7)))) fun v8=>bnd (gv v1 true (evP rows (.loadN 2 (.c (lk l 5))))) fun v9=>bnd (gv v1 true (evP rows (.eqv false (.ints 2) (.c v8) (.c v9)))) fun v10=>bnd (evP rows (.pick (.c v1) (.c v10) (.c (.bool false)))) fun v11=>Ex F cx k ⟨mk 148 ([(50,v11),(49,v10),(48,v9),(47,v8),(46,v7),(45,v6),(44,v5),(43,v4),(42,v3),(41,v2),(40,v1),(39,v1),(38,v0),(37,lk l 0),(36,lk l 11)]++kp l qq35),rows,low⟩ r:=rg qq35 c64r55 rfl (by kernel_rfl)
@[simp] theorem uc64s56:U c64s56 (.seq (.block 4 (.loop c64l51)) c64s50):=ur
@[simp] theorem uc64k57:Ex F cx (.code c64k57::k) ⟨mk 148 l,rows,low⟩ r↔Ex F cx k ⟨mk 148 ([(11,lk l 9),(35,lk l 9)]++kp l qq46),rows,low⟩ r:=rg qq46 c64r57 rfl (by kernel_rfl)
@[simp] theorem uc64s58:U c64s58 (.seq c64k57 c64s56):=ur
@[simp] theorem uc64k59:Ex F cx (.code c64k59::k) ⟨mk 148 l,rows,low⟩ r↔Ex F cx k ⟨mk 148 ([(10,lk l 32),(34,lk l 32)]++kp l qq47),rows,low⟩ r:=rg qq47 c64r59 rfl (by kernel_rfl)
@[simp] theorem uc64s60:U c64s60 (.seq (.block 3 (.seq c64k59 c64s58)) c64k4):=ur
@[simp] theorem uc64s61:U c64s61 (.seq (.cond (.t 33) .skip (.exit 2)) c64s60):=ur
@[simp] theorem uc64k62:Ex F cx (.code c64k62::k) ⟨mk 148 l,rows,low⟩ r↔bnd (evP rows (.bin .lss (.c (lk l 32)) (.c (lk l 31)))) fun v0=>Ex F cx k ⟨mk 148 ([(33,v0)]++kp l qq47),rows,low⟩ r:=rg qq47 c64r62 rfl (by kernel_rfl)
@[simp] theorem uc64s63:U c64s63 (.block 2 (.loop c64l3)):=ur
@[simp] theorem uc64k64:Ex F cx (.code c64k64::k) ⟨mk 148 l,rows,low⟩ r↔Ex F cx k ⟨mk 148 ([(32,(.int .i64 0)),(31,lk l 1)]++kp l qq10),rows,low⟩ r:=rg qq10 c64r64 rfl (by kernel_rfl)
@[simp] theorem uc64s65:U c64s65 (.seq (.seq c64k64 c64s63) c64s2):=ur
@[simp] theorem uc64s66:U c64s66 (.seq .skip c64s65):=ur
@[simp] theorem uc64k67:Ex F cx (.code c64k67::k) ⟨mk 148 l,rows,low⟩ r↔Ex F cx k ⟨mk 148 ([(9,(.int .i64 0))]++kp l qq11),rows,low⟩ r:=rg qq11 c64r67 rfl (by kernel_rfl)
@[simp] theorem uc64s68:U c64s68 (.seq c64k67 c64s66):=ur
@[simp] theorem uc64k70:Ex F cx (.code c64k70::k) ⟨mk 148 l,rows,low⟩ r↔bnd (evP rows (.bin .add (.c (lk l 24)) (.c (.int .i64 1)))) fun v0=>Ex F cx k ⟨mk 148 ([(24,v0),(30,v0)]++kp l qq8),rows,low⟩ r:=rg qq8 c64r70 rfl (by kernel_rfl)
@[simp] theorem uc64k71:Ex F cx (.code c64k71::k) ⟨mk 148 l,rows,low⟩ r↔bnd (evP rows (.idxS 1 (.c (lk l 7)) (.c (lk l 8)))) fun v0=>bnd (evE rows low (.store1 (.c v0) (.c (.int .i64 (-1))))) fun q1=>Ex F cx k ⟨mk 148 ([(29,v0),(28,lk l 8),(27,lk l 7)]++kp l qq9),q1.2.1,q1.2.2⟩ r:=rg qq9 c64r71 rfl (by kernel_rfl)
@[simp] theorem uc64k72:Ex F cx (.code c64k72::k) ⟨mk 148 l,rows,low⟩ r↔Ex F cx k ⟨mk 148 ([(8,lk l 24),(26,lk l 24)]++kp l qq8),rows,low⟩ r:=rg qq8 c64r72 rfl (by kernel_rfl)
@[simp] theorem uc64s73:U c64s73 (.seq (.block 1 (.seq c64k72 c64k71)) c64k70):=ur
@[simp] theorem uc64s74:U c64s74 (.seq (.cond (.t 25) .skip (.exit 0)) c64s73):=ur
@[simp] theorem uc64k75:Ex F cx (.code c64k75::k) ⟨mk 148 l,rows,low⟩ r↔bnd (evP rows (.bin .lss (.c (lk l 24)) (.c (lk l 23)))) fun v0=>Ex F cx k ⟨mk 148 ([(25,v0)]++kp l qq8),rows,low⟩ r:=rg qq8 c64r75 rfl (by kernel_rfl)
@[simp] theorem uc64s76:U c64s76 (.block 0 (.loop c64l69)):=ur
@[simp] theorem uc64k77:Ex F cx (.code c64k77::k) ⟨mk 148 l,rows,low⟩ r↔bnd (evP rows (.len 0 (.c (lk l 7)))) fun v0=>Ex F cx k ⟨mk 148 ([(24,(.int .i64 0)),(23,v0),(22,lk l 7)]++kp l qq11),rows,low⟩ r:=rg qq11 c64r77 rfl (by kernel_rfl)
@[simp] theorem uc64s78:U c64s78 (.seq (.seq c64k77 c64s76) c64s68):=ur
@[simp] theorem uc64k79:Ex F cx (.code c64k79::k) ⟨mk 148 l,rows,low⟩ r↔bnd (evP rows (.len 0 (.c (lk l 0)))) fun v0=>bnd (evE rows low (.make [.int .i64 0] 8 (.c v0) (.c v0))) fun q1=>Ex F cx k ⟨mk 148 ([(7,q1.1),(21,q1.1),(20,v0),(19,lk l 0)]++kp l qq12),q1.2.1,q1.2.2⟩ r:=rg qq12 c64r79 rfl (by kernel_rfl)
@[simp] theorem uc64p0:U c64p0 (.seq c64k79 c64s78):=ur
@[simp] theorem uc64s80:U c64s80 (.scope c64p0):=ur
@[simp] theorem uc64k81:Ex F cx (.code c64k81::k) ⟨mk 148 l,rows,low⟩ r↔bnd (evE rows low (.box (.c (lk l 2)))) fun q0=>Ex F cx k ⟨mk 148 ([(6,.nilslice),(5,q0.1)]++kp l qq0),q0.2.1,q0.2.2⟩ r:=rg qq0 c64r81 rfl (by kernel_rfl)
def Lc64l10(F:Nat->Option IFn)(cx:Ctx)(x0 x5 x7 x9 x10 x12 x16 x17 x31 x32 x95 x96 x97 x118 x119:AV)(rows:List Row)(low:Nat)(r:AV×List Row×Nat->Prop):Prop:=Ex F cx (.code c64l10::Kc64l10) ⟨mk 148 [(0,x0),(5,x5),(7,x7),(9,x9),(10,x10),(12,x12),(16,x16),(17,x17),(31,x31),(32,x32),(95,x95),(96,x96),(97,x97),(118,x118),(119,x119)],rows,low⟩ r
@[simp] theorem nc64l10:Ex F cx (Kc64l10) ⟨mk 148 l,rows,low⟩ r↔Lc64l10 F cx (lk l 0) (lk l 5) (lk l 7) (lk l 9) (lk l 10) (lk l 12) (lk l 16) (lk l 17) (lk l 31) (lk l 32) (lk l 95) (lk l 96) (lk l 97) (lk l 118) (lk l 119) rows low r:=loopN (keep:=qq41) (by kernel_rfl)
@[simp] theorem ec64l10:Ex F cx (.code (.loop c64l10)::.inBlock 10::.inBlock 9::.code c64k9::Kc64l8) ⟨mk 148 l,rows,low⟩ r↔Lc64l10 F cx (lk l 0) (lk l 5) (lk l 7) (lk l 9) (lk l 10) (lk l 12) (lk l 16) (lk l 17) (lk l 31) (lk l 32) (lk l 95) (lk l 96) (lk l 97) (lk l 118) (lk l 119) rows low r:=loopE (keep:=qq41) (by kernel_rfl)
@[simp] theorem uc64l10:U c64l10 (.seq c64k16 c64s15):=ur
def Lc64l8(F:Nat->Option IFn)(cx:Ctx)(x0 x5 x7 x9 x10 x12 x31 x32 x95 x96 x97:AV)(rows:List Row)(low:Nat)(r:AV×List Row×Nat->Prop):Prop:=Ex F cx (.code c64l8::Kc64l8) ⟨mk 148 [(0,x0),(5,x5),(7,x7),(9,x9),(10,x10),(12,x12),(31,x31),(32,x32),(95,x95),(96,x96),(97,x97)],rows,low⟩ r
@[simp] theorem nc64l8:Ex F cx (Kc64l8) ⟨mk 148 l,rows,low⟩ r↔Lc64l8 F cx (lk l 0) (lk l 5) (lk l 7) (lk l 9) (lk l 10) (lk l 12) (lk l 31) (lk l 32) (lk l 95) (lk l 96) (lk l 97) rows low r:=loopN (keep:=qq44) (by kernel_rfl)
@[simp] theorem ec64l8:Ex F cx (.code (.loop c64l8)::.inBlock 8::.code c64s7::.inBlock 3::.code c64k4::Kc64l3) ⟨mk 148 l,rows,low⟩ r↔Lc64l8 F cx (lk l 0) (lk l 5) (lk l 7) (lk l 9) (lk l 10) (lk l 12) (lk l 31) (lk l 32) (lk l 95) (lk l 96) (lk l 97) rows low r:=loopE (keep:=qq44) (by kernel_rfl)
@[simp] theorem uc64l8:U c64l8 (.seq c64k28 c64s27):=ur
def Lc64l32(F:Nat->Option IFn)(cx:Ctx)(x0 x5 x7 x9 x10 x12 x13 x31 x32 x80 x81:AV)(rows:List Row)(low:Nat)(r:AV×List Row×Nat->Prop):Prop:=Ex F cx (.code c64l32::Kc64l32) ⟨mk 148 [(0,x0),(5,x5),(7,x7),(9,x9),(10,x10),(12,x12),(13,x13),(31,x31),(32,x32),(80,x80),(81,x81)],rows,low⟩ r
@[simp] theorem nc64l32:Ex F cx (Kc64l32) ⟨mk 148 l,rows,low⟩ r↔Lc64l32 F cx (lk l 0) (lk l 5) (lk l 7) (lk l 9) (lk l 10) (lk l 12) (lk l 13) (lk l 31) (lk l 32) (lk l 80) (lk l 81) rows low r:=loopN (keep:=qq37) (by kernel_rfl)
@[simp] theorem ec64l32:Ex F cx (.code (.loop c64l32)::.inBlock 6::.code c64s31::.inBlock 3::.code c64k4::Kc64l3) ⟨mk 148 l,rows,low⟩ r↔Lc64l32 F cx (lk l 0) (lk l 5) (lk l 7) (lk l 9) (lk l 10) (lk l 12) (lk l 13) (lk l 31) (lk l 32) (lk l 80) (lk l 81) rows low r:=loopE (keep:=qq37) (by kernel_rfl)
@[simp] theorem uc64l32:U c64l32 (.seq c64k38 c64s37):=ur
def Lc64l51(F:Nat->Option IFn)(cx:Ctx)(x0 x5 x7 x9 x10 x11 x31 x32:AV)(rows:List Row)(low:Nat)(r:AV×List Row×Nat->Prop):Prop:=Ex F cx (.code c64l51::Kc64l51) ⟨mk 148 [(0,x0),(5,x5),(7,x7),(9,x9),(10,x10),(11,x11),(31,x31),(32,x32)],rows,low⟩ r
@[simp] theorem nc64l51:Ex F cx (Kc64l51) ⟨mk 148 l,rows,low⟩ r↔Lc64l51 F cx (lk l 0) (lk l 5) (lk l 7) (lk l 9) (lk l 10) (lk l 11) (lk l 31) (lk l 32) rows low r:=loopN (keep:=qq35) (by kernel_rfl)
@[simp] theorem ec64l51:Ex F cx (.code (.loop c64l51)::.inBlock 4::.code c64s50::.inBlock 3::.code c64k4::Kc64l3) ⟨mk 148 l,rows,low⟩ r↔Lc64l51 F cx (lk l 0) (lk l 5) (lk l 7) (lk l 9) (lk l 10) (lk l 11) (lk l 31) (lk l 32) rows low r:=loopE (keep:=qq35) (by kernel_rfl)
@[simp] theorem uc64l51:U c64l51 (.seq (.seq c64k55 c64s54) c64s53):=ur
def Lc64l3(F:Nat->Option IFn)(cx:Ctx)(x0 x5 x7 x9 x31 x32:AV)(rows:List Row)(low:Nat)(r:AV×List Row×Nat->Prop):Prop:=Ex F cx (.code c64l3::Kc64l3) ⟨mk 148 [(0,x0),(5,x5),(7,x7),(9,x9),(31,x31),(32,x32)],rows,low⟩ r
@[simp] theorem nc64l3:Ex F cx (Kc64l3) ⟨mk 148 l,rows,low⟩ r↔Lc64l3 F cx (lk l 0) (lk l 5) (lk l 7) (lk l 9) (lk l 31) (lk l 32) rows low r:=loopN (keep:=qq47) (by kernel_rfl)
@[simp] theorem ec64l3:Ex F cx (.code (.loop c64l3)::.inBlock 2::.code c64s2::.inScope c64p0::[]) ⟨mk 148 l,rows,low⟩ r↔Lc64l3 F cx (lk l 0) (lk l 5) (lk l 7) (lk l 9) (lk l 31) (lk l 32) rows low r:=loopE (keep:=qq47) (by kernel_rfl)
@[simp] theorem uc64l3:U c64l3 (.seq c64k62 c64s61):=ur
def Lc64l69(F:Nat->Option IFn)(cx:Ctx)(x0 x1 x5 x7 x23 x24:AV)(rows:List Row)(low:Nat)(r:AV×List Row×Nat->Prop):Prop:=Ex F cx (.code c64l69::Kc64l69) ⟨mk 148 [(0,x0),(1,x1),(5,x5),(7,x7),(23,x23),(24,x24)],rows,low⟩ r
@[simp] theorem nc64l69:Ex F cx (Kc64l69) ⟨mk 148 l,rows,low⟩ r↔Lc64l69 F cx (lk l 0) (lk l 1) (lk l 5) (lk l 7) (lk l 23) (lk l 24) rows low r:=loopN (keep:=qq8) (by kernel_rfl)
@[simp] theorem ec64l69:Ex F cx (.code (.loop c64l69)::.inBlock 0::.code c64s68::.inScope c64p0::[]) ⟨mk 148 l,rows,low⟩ r↔Lc64l69 F cx (lk l 0) (lk l 1) (lk l 5) (lk l 7) (lk l 23) (lk l 24) rows low r:=loopE (keep:=qq8) (by kernel_rfl)
@[simp] theorem uc64l69:U c64l69 (.seq c64k75 c64s74):=ur
@[simp] theorem uc64b:U c64b (.seq c64k81 c64s80):=ur
theorem i64{x0 x1 x2:AV}(hF:F 64=some c64){q:AV×List Row×Option Nat}(h:Ex F (.fn [.t 6]) [.code c64b] ⟨mk 148 [(0,x0),(1,x1),(2,x2)],rows,rows.length⟩ fun r=>fin rows r.1 r.2.1 r.2.2=q):Ret F 64 [x0,x1,x2] rows=some q:=Ret_mk hF h
@[simp] abbrev Kc65l2:List Itm:=.inLoop c65l2::.inBlock 0::.code c65s1::[]
@[simp] theorem uc65k0:Ex F cx (.code c65k0::k) ⟨mk 36 l,rows,low⟩ r↔bnd (opC F (rows++maskE 1 rn) (rows.length+rn.length) [lk l 6] [] (.func 87 [])) fun q0=>q0.2.2=rows.length+rn.length/\bnd (some (rn++List.map (fun(x:Row)=>(1,x)) (q0.2.1.drop (rows.length+rn.length)))) fun e0=>bnd (evP (rows++maskE 0 e0) (.loadN 3 (.c (lk l 2)))) fun v1=>bnd (Ret F 55 [v1,lk l 1] (rows++List.map (fun(x:Nat×Row)=>x.2) e0)) fun q2=>bnd (Ret F 43 [q2.1] q2.2.1) fun q3=>bnd (Ret F 86 [q0.1,q3.1] q3.2.1) fun q4=>bnd (evP q4.2.1 (.ext (.c q4.1) 0)) fun v5=>bnd (evP q4.2.1 (.ext (.c q4.1) 1)) fun v6=>Ex F cx k ⟨mk 36 ([(5,v6),(4,v5),(35,v6),(34,v5),(33,q4.1),(32,q3.1),(31,q2.1),(30,lk l 1),(29,v1),(28,q0.1),(27,lk l 6)]++kp l qq97),q4.2.1,(lowO (lowO (lowO low q2.2.2) q3.2.2) q4.2.2)⟩ r:=rg qq97 c65r0 rfl (by kernel_rfl)
@[simp] theorem uc65s1:U c65s1 (.seq c65k0 .ret):=ur
@[simp] theorem uc65k3:Ex F cx (.code c65k3::k) ⟨mk 36 l,rows,low⟩ r↔bnd (evP rows (.bin .add (.c (lk l 7)) (.c (.int .i64 1)))) fun v0=>Ex F cx k ⟨mk 36 ([(7,v0),(14,v0),(13,lk l 7)]++kp l qq96),rows,low⟩ r:=rg qq96 c65r3 rfl (by kernel_rfl)
@[simp] theorem uc65k4:Ex F cx (.code c65k4::k) ⟨mk 36 l,rows,low⟩ r↔bnd (evP (rows++maskE 0 rn) (.loadN 3 (.c (lk l 2)))) fun v0=>bnd (evP (rows++maskE 0 rn) (.loadN 3 (.c (lk l 2)))) fun v1=>bnd (evP (rows++maskE 0 rn) (.fieldA 2 (.c (lk l 2)))) fun v2=>bnd (evP (rows++maskE 8 rn) (.load1 (.c v2))) fun v3=>bnd (evP (rows++maskE 24 rn) (.len 0 (.c v3))) fun v4=>bnd (opC F (rows++maskE 120 rn) (rows.length+rn.length) [v4,lk l 7] [] (.func 71 [])) fun q5=>q5.2.2=rows.length+rn.length/\bnd (some (rn++List.map (fun(x:Row)=>(7,x)) (q5.2.1.drop (rows.length+rn.length)))) fun e5=>bnd (opC F (rows++maskE 252 e5) (rows.length+e5.length) [v1,q5.1] [] (.func 54 [])) fun q6=>q6.2.2=rows.length+e5.length/\bnd (some (e5++List.map (fun(x:Row)=>(8,x)) (q6.2.1.drop (rows.length+e5.length)))) fun e6=>bnd (opC F (rows++maskE 510 e6) (rows.length+e6.length) [v0,q6.1] [] (.func 55 [])) fun q7=>q7.2.2=rows.length+e6.length/\bnd (some (e6++List.map (fun(x:Row)=>(9,x)) (q7.2.1.drop (rows.length+e6.length)))) fun e7=>bnd (evE (rows++maskE 1022 e7) (rows.length+e7.length) (.mkslice 1 [.nilslice] [(0,1,(.c q7.1))])) fun q8=>q8.2.2=rows.length+e7.length/\bnd (some (e7++List.map (fun(x:Row)=>(10,x)) (q8.2.1.drop (rows.length+e7.length)))) fun e8=>bnd (evE (rows++List.map (fun(x:Nat×Row)=>x.2) e8) low (.app 1 24 (.c (lk l 6)) (.c q8.1))) fun q9=>Ex F cx k ⟨mk 36 ([(6,q9.1),(26,q9.1),(25,q8.1),(24,q7.1),(23,q6.1),(22,q5.1),(21,lk l 7),(20,v4),(19,v3),(18,v2),(17,v1),(16,v0),(15,lk l 6)]++kp l qq96),q9.2.1,q9.2.2⟩ r:=rg qq96 c65r4 rfl (by kernel_rfl)
@[simp] theorem uc65s5:U c65s5 (.seq (.block 1 c65k4) c65k3):=ur
@[simp] theorem uc65s6:U c65s6 (.cond (.t 12) .skip (.exit 0)):=ur
@[simp] theorem uc65k7:Ex F cx (.code c65k7::k) ⟨mk 36 l,rows,low⟩ r↔bnd (evP rows (.fieldA 2 (.c (lk l 2)))) fun v0=>bnd (evP rows (.load1 (.c v0))) fun v1=>bnd (evP rows (.len 0 (.c v1))) fun v2=>bnd (evP rows (.bin .lss (.c (lk l 7)) (.c v2))) fun v3=>Ex F cx k ⟨mk 36 ([(12,v3),(11,v2),(10,v1),(9,v0),(8,lk l 7)]++kp l qq96),rows,low⟩ r:=rg qq96 c65r7 rfl (by kernel_rfl)
@[simp] theorem uc65s8:U c65s8 (.block 0 (.loop c65l2)):=ur
@[simp] theorem uc65k9:Ex F cx (.code c65k9::k) ⟨mk 36 l,rows,low⟩ r↔Ex F cx k ⟨mk 36 ([(7,(.int .i64 0))]++kp l qq97),rows,low⟩ r:=rg qq97 c65r9 rfl (by kernel_rfl)
@[simp] theorem uc65s10:U c65s10 (.seq (.seq c65k9 c65s8) c65s1):=ur
@[simp] theorem uc65k11:Ex F cx (.code c65k11::k) ⟨mk 36 l,rows,low⟩ r↔Ex F cx k ⟨mk 36 [(6,.nilslice),(1,lk l 1),(2,lk l 2)],rows,low⟩ r:=rg qq100 c65r11 rfl (by kernel_rfl)
@[simp] theorem uc65s12:U c65s12 (.seq c65k11 c65s10):=ur
@[simp] theorem uc65k13:Ex F cx (.code c65k13::k) ⟨mk 36 l,rows,low⟩ r↔bnd (evE rows low (.box (.c (lk l 0)))) fun q0=>Ex F cx k ⟨mk 36 [(5,(.int .i64 0)),(4,.nilslice),(2,q0.1),(0,lk l 0),(1,lk l 1)],q0.2.1,q0.2.2⟩ r:=rg qq21 c65r13 rfl (by kernel_rfl)
def Lc65l2(F:Nat->Option IFn)(cx:Ctx)(x1 x2 x6 x7:AV)(rows:List Row)(low:Nat)(r:AV×List Row×Nat->Prop):Prop:=Ex F cx (.code c65l2::Kc65l2) ⟨mk 36 [(1,x1),(2,x2),(6,x6),(7,x7)],rows,low⟩ r
@[simp] theorem nc65l2:Ex F cx (Kc65l2) ⟨mk 36 l,rows,low⟩ r↔Lc65l2 F cx (lk l 1) (lk l 2) (lk l 6) (lk l 7) rows low r:=loopN (keep:=qq96) (by kernel_rfl)
@[simp] theorem ec65l2:Ex F cx (.code (.loop c65l2)::.inBlock 0::.code c65s1::[]) ⟨mk 36 l,rows,low⟩ r↔Lc65l2 F cx (lk l 1) (lk l 2) (lk l 6) (lk l 7) rows low r:=loopE (keep:=qq96) (by kernel_rfl)
@[simp] theorem uc65l2:U c65l2 (.seq (.seq c65k7 c65s6) c65s5):=ur
@[simp] theorem uc65b:U c65b (.seq c65k13 c65s12):=ur
theorem i65{x0 x1:AV}(hF:F 65=some c65){q:AV×List Row×Option Nat}(h:Ex F (.fn [.t 4,.t 5]) [.code c65b] ⟨mk 36 [(0,x0),(1,x1)],rows,rows.length⟩ fun r=>fin rows r.1 r.2.1 r.2.2=q):Ret F 65 [x0,x1] rows=some q:=Ret_mk hF h
@[simp] theorem uc71k0:Ex F cx (.code c71k0::k) ⟨mk 12 l,rows,low⟩ r↔Ex F cx k ⟨mk 12 [(4,lk l 5),(11,lk l 5),(5,lk l 5)],rows,low⟩ r:=rg [5] c71r0 rfl (by kernel_rfl)
@[simp] theorem uc71s1:U c71s1 (.seq c71k0 .ret):=ur
@[simp] theorem uc71k2:Ex F cx (.code c71k2::k) ⟨mk 12 l,rows,low⟩ r↔bnd (evP rows (.idxS 1 (.c (lk l 5)) (.c (lk l 1)))) fun v0=>bnd (evE rows low (.store1 (.c v0) (.c (.int .i64 1)))) fun q1=>Ex F cx k ⟨mk 12 [(10,v0),(9,lk l 1),(8,lk l 5),(1,lk l 1),(5,lk l 5)],q1.2.1,q1.2.2⟩ r:=rg qq119 c71r2 rfl (by kernel_rfl)
@[simp] theorem uc71s3:U c71s3 (.seq c71k2 c71s1):=ur
@[simp] theorem uc71k4:Ex F cx (.code c71k4::k) ⟨mk 12 l,rows,low⟩ r↔bnd (evE rows low (.make [.int .i64 0] 8 (.c (lk l 0)) (.c (lk l 0)))) fun q0=>Ex F cx k ⟨mk 12 [(5,q0.1),(7,q0.1),(6,lk l 0),(0,lk l 0),(1,lk l 1)],q0.2.1,q0.2.2⟩ r:=rg qq21 c71r4 rfl (by kernel_rfl)
@[simp] theorem uc71s5:U c71s5 (.seq c71k4 c71s3):=ur
@[simp] theorem uc71k6:Ex F cx (.code c71k6::k) ⟨mk 12 l,rows,low⟩ r↔Ex F cx k ⟨mk 12 [(4,.nilslice),(0,lk l 0),(1,lk l 1)],rows,low⟩ r:=rg qq21 c71r6 rfl (by kernel_rfl)
@[simp] theorem uc71b:U c71b (.seq c71k6 c71s5):=ur
theorem i71{x0 x1:AV}(hF:F 71=some c71){q:AV×List Row×Option Nat}(h:Ex F (.fn [.t 4]) [.code c71b] ⟨mk 12 [(0,x0),(1,x1)],rows,rows.length⟩ fun r=>fin rows r.1 r.2.1 r.2.2=q):Ret F 71 [x0,x1] rows=some q:=Ret_mk hF h
@[simp] abbrev Kc72l2:List Itm:=.inLoop c72l2::.inBlock 0::.code c72s1::[]
@[simp] theorem uc72k0:Ex F cx (.code c72k0::k) ⟨mk 15 l,rows,low⟩ r↔bnd (evP rows (.un .neg (.c (lk l 0)))) fun v0=>bnd (evP rows (.mx [(.c (lk l 0)),(.c v0),(.c (.int .i64 1))])) fun v1=>Ex F cx k ⟨mk 15 [(4,v1),(14,v1),(13,v0),(12,lk l 0),(11,lk l 0),(0,lk l 0)],rows,low⟩ r:=rg [0] c72r0 rfl (by kernel_rfl)
@[simp] theorem uc72s1:U c72s1 (.seq c72k0 .ret):=ur
@[simp] theorem uc72k3:Ex F cx (.code c72k3::k) ⟨mk 15 l,rows,low⟩ r↔bnd (evP rows (.bin .rem (.c (lk l 0)) (.c (lk l 1)))) fun v0=>Ex F cx k ⟨mk 15 [(1,v0),(0,lk l 1),(10,v0),(9,lk l 1),(8,lk l 0),(7,lk l 1),(0,lk l 0),(1,lk l 1)],rows,low⟩ r:=rg qq21 c72r3 rfl (by kernel_rfl)
@[simp] theorem uc72s4:U c72s4 (.block 1 c72k3):=ur
@[simp] theorem uc72s5:U c72s5 (.cond (.t 6) .skip (.exit 0)):=ur
@[simp] theorem uc72k6:Ex F cx (.code c72k6::k) ⟨mk 15 l,rows,low⟩ r↔bnd (evP rows (.bin .neq (.c (lk l 1)) (.c (.int .i64 0)))) fun v0=>Ex F cx k ⟨mk 15 [(6,v0),(5,lk l 1),(0,lk l 0),(1,lk l 1)],rows,low⟩ r:=rg qq21 c72r6 rfl (by kernel_rfl)
@[simp] theorem uc72s7:U c72s7 (.seq (.block 0 (.loop c72l2)) c72s1):=ur
@[simp] theorem uc72k8:Ex F cx (.code c72k8::k) ⟨mk 15 l,rows,low⟩ r↔Ex F cx k ⟨mk 15 [(4,(.int .i64 0)),(0,lk l 0),(1,lk l 1)],rows,low⟩ r:=rg qq21 c72r8 rfl (by kernel_rfl)
def Lc72l2(F:Nat->Option IFn)(cx:Ctx)(x0 x1:AV)(rows:List Row)(low:Nat)(r:AV×List Row×Nat->Prop):Prop:=Ex F cx (.code c72l2::Kc72l2) ⟨mk 15 [(0,x0),(1,x1)],rows,low⟩ r
@[simp] theorem nc72l2:Ex F cx (Kc72l2) ⟨mk 15 l,rows,low⟩ r↔Lc72l2 F cx (lk l 0) (lk l 1) rows low r:=loopN (keep:=qq21) (by kernel_rfl)
@[simp] theorem ec72l2:Ex F cx (.code (.loop c72l2)::.inBlock 0::.code c72s1::[]) ⟨mk 15 l,rows,low⟩ r↔Lc72l2 F cx (lk l 0) (lk l 1) rows low r:=loopE (keep:=qq21) (by kernel_rfl)
@[simp] theorem uc72l2:U c72l2 (.seq (.seq c72k6 c72s5) c72s4):=ur
@[simp] theorem uc72b:U c72b (.seq c72k8 c72s7):=ur
theorem i72{x0 x1:AV}(hF:F 72=some c72){q:AV×List Row×Option Nat}(h:Ex F (.fn [.t 4]) [.code c72b] ⟨mk 15 [(0,x0),(1,x1)],rows,rows.length⟩ fun r=>fin rows r.1 r.2.1 r.2.2=q):Ret F 72 [x0,x1] rows=some q:=Ret_mk hF h
@[simp] theorem uc73k0:Ex F cx (.code c73k0::k) ⟨mk 22 l,rows,low⟩ r↔bnd (evP rows (.bin .quo (.c (lk l 0)) (.c (lk l 5)))) fun v0=>bnd (evP rows (.bin .quo (.c (lk l 1)) (.c (lk l 5)))) fun v1=>bnd (evP rows (.mkagg [.int .i64 0,.int .i64 0] [(0,1,(.c v0)),(1,1,(.c v1))])) fun v2=>bnd (evE rows low (.storeN 2 (.c (lk l 4)) (.c v2))) fun q3=>Ex F cx k ⟨mk 22 ([(21,v2),(20,v1),(19,lk l 5),(18,lk l 1),(17,v0),(16,lk l 5),(15,lk l 0)]++kp l qq3),q3.2.1,q3.2.2⟩ r:=rg qq3 c73r0 rfl (by kernel_rfl)
@[simp] theorem uc73s1:U c73s1 (.seq c73k0 .ret):=ur
@[simp] theorem uc73k2:Ex F cx (.code c73k2::k) ⟨mk 22 l,rows,low⟩ r↔bnd (Ret F 72 [lk l 0,lk l 1] rows) fun q0=>Ex F cx k ⟨mk 22 ([(5,q0.1),(14,q0.1),(13,lk l 1),(12,lk l 0)]++kp l qq4),q0.2.1,(lowO low q0.2.2)⟩ r:=rg qq4 c73r2 rfl (by kernel_rfl)
@[simp] theorem uc73s3:U c73s3 (.seq c73k2 c73s1):=ur
@[simp] theorem uc73k4:Ex F cx (.code c73k4::k) ⟨mk 22 l,rows,low⟩ r↔bnd (evP rows (.un .neg (.c (lk l 0)))) fun v0=>bnd (evP rows (.un .neg (.c (lk l 1)))) fun v1=>Ex F cx k ⟨mk 22 ([(1,v1),(0,v0),(11,v1),(10,lk l 1),(9,v0),(8,lk l 0)]++kp l qq4),rows,low⟩ r:=rg qq4 c73r4 rfl (by kernel_rfl)
@[simp] theorem uc73s5:U c73s5 (.cond (.t 7) c73k4 .skip):=ur
@[simp] theorem uc73k6:Ex F cx (.code c73k6::k) ⟨mk 22 l,rows,low⟩ r↔bnd (evP rows (.bin .lss (.c (lk l 1)) (.c (.int .i64 0)))) fun v0=>Ex F cx k ⟨mk 22 ([(7,v0),(6,lk l 1)]++kp l qq4),rows,low⟩ r:=rg qq4 c73r6 rfl (by kernel_rfl)
@[simp] theorem uc73s7:U c73s7 (.seq (.seq c73k6 c73s5) c73s3):=ur
@[simp] theorem uc73k8:Ex F cx (.code c73k8::k) ⟨mk 22 l,rows,low⟩ r↔bnd (evE rows low (.box (.c (.agg [.int .i64 0,.int .i64 0])))) fun q0=>Ex F cx k ⟨mk 22 [(4,q0.1),(0,lk l 0),(1,lk l 1)],q0.2.1,q0.2.2⟩ r:=rg qq21 c73r8 rfl (by kernel_rfl)
@[simp] theorem uc73b:U c73b (.seq c73k8 c73s7):=ur
theorem i73{x0 x1:AV}(hF:F 73=some c73){q:AV×List Row×Option Nat}(h:Ex F (.fn [.cellN 4 2]) [.code c73b] ⟨mk 22 [(0,x0),(1,x1)],rows,rows.length⟩ fun r=>fin rows r.1 r.2.1 r.2.2=q):Ret F 73 [x0,x1] rows=some q:=Ret_mk hF h
@[simp] abbrev Kc86l2:List Itm:=.inLoop c86l2::.inBlock 10::.code c86s1::[]
@[simp] abbrev Kc86l13:List Itm:=.inLoop c86l13::.inBlock 2::.code c86s12::[]
@[simp] abbrev Kc86l67:List Itm:=.inLoop c86l67::.inBlock 0::.code c86s66::[]
@[simp] abbrev Kc86l18:List Itm:=.inLoop c86l18::.inBlock 6::.code c86s17::.inBlock 3::.code c86k14::Kc86l13
@[simp] abbrev Kc86l44:List Itm:=.inLoop c86l44::.inBlock 4::.code c86s43::.inBlock 3::.code c86k14::Kc86l13
@[simp] abbrev Kc86l20:List Itm:=.inLoop c86l20::.inBlock 8::.inBlock 7::.code c86k19::Kc86l18
@[simp] theorem uc86k0:Ex F cx (.code c86k0::k) ⟨mk 197 l,rows,low⟩ r↔Ex F cx k ⟨mk 197 [(5,lk l 10),(4,lk l 11),(196,lk l 10),(195,lk l 11),(10,lk l 10),(11,lk l 11)],rows,low⟩ r:=rg qq126 c86r0 rfl (by kernel_rfl)
@[simp] theorem uc86s1:U c86s1 (.seq c86k0 .ret):=ur
@[simp] theorem uc86k3:Ex F cx (.code c86k3::k) ⟨mk 197 l,rows,low⟩ r↔bnd (evP rows (.bin .add (.c (lk l 18)) (.c (.int .i64 1)))) fun v0=>Ex F cx k ⟨mk 197 ([(18,v0),(165,v0),(164,lk l 18)]++kp l qq153),rows,low⟩ r:=rg qq153 c86r3 rfl (by kernel_rfl)
@[simp] theorem uc86k4:Ex F cx (.code c86k4::k) ⟨mk 197 l,rows,low⟩ r↔bnd (evP (rows++maskE 24 rn) (.idxS 1 (.c (lk l 12)) (.c (lk l 18)))) fun v0=>bnd (evP (rows++maskE 56 rn) (.load1 (.c v0))) fun v1=>bnd (evP (rows++maskE 124 rn) (.idxS 1 (.c (lk l 7)) (.c v1))) fun v2=>bnd (evP (rows++maskE 252 rn) (.load1 (.c v2))) fun v3=>bnd (evP (rows++maskE 1020 rn) (.idxS 2 (.c v3) (.c (lk l 6)))) fun v4=>bnd (evP (rows++maskE 2044 rn) (.loadN 2 (.c v4))) fun v5=>bnd (evP (rows++maskE 24576 rn) (.idxS 1 (.c (lk l 12)) (.c (lk l 18)))) fun v6=>bnd (evP (rows++maskE 57344 rn) (.load1 (.c v6))) fun v7=>bnd (evP (rows++maskE 126976 rn) (.idxS 1 (.c (lk l 7)) (.c v7))) fun v8=>bnd (evP (rows++maskE 258048 rn) (.load1 (.c v8))) fun v9=>bnd (evP (rows++maskE 1044480 rn) (.idxS 2 (.c v9) (.c (lk l 18)))) fun v10=>bnd (evP (rows++maskE 2093056 rn) (.loadN 2 (.c v10))) fun v11=>bnd (opC F (rows++maskE 4194300 rn) (rows.length+rn.length) [v5,v11] [] (.func 88 [])) fun q12=>q12.2.2=rows.length+rn.length/\bnd (some (rn++List.map (fun(x:Row)=>(22,x)) (q12.2.1.drop (rows.length+rn.length)))) fun e12=>bnd (evP (rows++List.map (fun(x:Nat×Row)=>x.2) e12) (.idxS 2 (.c (lk l 11)) (.c (lk l 18)))) fun v13=>bnd (evE (rows++List.map (fun(x:Nat×Row)=>x.2) e12) low (.storeN 2 (.c v13) (.c q12.1))) fun q14=>Ex F cx k ⟨mk 197 ([(194,v13),(193,q12.1),(192,v11),(191,v10),(190,lk l 18),(189,v9),(188,v8),(187,v7),(186,v6),(185,lk l 18),(184,lk l 12),(183,lk l 7),(182,v5),(181,v4),(180,lk l 6),(179,v3),(178,v2),(177,v1),(176,v0),(175,lk l 18),(174,lk l 12),(173,lk l 7),(172,lk l 18),(171,lk l 11)]++kp l qq153),q14.2.1,q14.2.2⟩ r:=rg qq153 c86r4 rfl (by kernel_rfl)
@[simp] theorem uc86s5:U c86s5 (.cond (.t 170) c86k4 .skip):=ur
@[simp] theorem uc86k6:Ex F cx (.code c86k6::k) ⟨mk 197 l,rows,low⟩ r↔bnd (evP rows (.idxS 1 (.c (lk l 12)) (.c (lk l 18)))) fun v0=>bnd (evP rows (.load1 (.c v0))) fun v1=>bnd (evP rows (.bin .geq (.c v1) (.c (.int .i64 0)))) fun v2=>Ex F cx k ⟨mk 197 ([(170,v2),(169,v1),(168,v0),(167,lk l 18),(166,lk l 12)]++kp l qq153),rows,low⟩ r:=rg qq153 c86r6 rfl (by kernel_rfl)
@[simp] theorem uc86s7:U c86s7 (.seq (.block 11 (.seq c86k6 c86s5)) c86k3):=ur
@[simp] theorem uc86s8:U c86s8 (.cond (.t 163) .skip (.exit 10)):=ur
@[simp] theorem uc86k9:Ex F cx (.code c86k9::k) ⟨mk 197 l,rows,low⟩ r↔bnd (evP rows (.bin .lss (.c (lk l 18)) (.c (lk l 6)))) fun v0=>Ex F cx k ⟨mk 197 ([(163,v0),(162,lk l 6),(161,lk l 18)]++kp l qq153),rows,low⟩ r:=rg qq153 c86r9 rfl (by kernel_rfl)
@[simp] theorem uc86s10:U c86s10 (.block 10 (.loop c86l2)):=ur
@[simp] theorem uc86k11:Ex F cx (.code c86k11::k) ⟨mk 197 l,rows,low⟩ r↔Ex F cx k ⟨mk 197 ([(18,(.int .i64 0))]++kp l qq154),rows,low⟩ r:=rg qq154 c86r11 rfl (by kernel_rfl)
@[simp] theorem uc86s12:U c86s12 (.seq (.seq c86k11 c86s10) c86s1):=ur
@[simp] theorem uc86k14:Ex F cx (.code c86k14::k) ⟨mk 197 l,rows,low⟩ r↔bnd (evP rows (.bin .add (.c (lk l 13)) (.c (.int .i64 1)))) fun v0=>Ex F cx k ⟨mk 197 ([(13,v0),(50,v0),(49,lk l 13)]++kp l qq152),rows,low⟩ r:=rg qq152 c86r14 rfl (by kernel_rfl)
@[simp] theorem uc86k15:Ex F cx (.code c86k15::k) ⟨mk 197 l,rows,low⟩ r↔bnd (evP rows (.bin .add (.c (lk l 10)) (.c (.int .i64 1)))) fun v0=>Ex F cx k ⟨mk 197 ([(10,v0),(160,v0),(159,lk l 10)]++kp l qq152),rows,low⟩ r:=rg qq152 c86r15 rfl (by kernel_rfl)
@[simp] theorem uc86k16:Ex F cx (.code c86k16::k) ⟨mk 197 l,rows,low⟩ r↔bnd (evP rows (.idxS 1 (.c (lk l 12)) (.c (lk l 13)))) fun v0=>bnd (evE rows low (.store1 (.c v0) (.c (lk l 10)))) fun q1=>Ex F cx k ⟨mk 197 ([(158,v0),(157,lk l 10),(156,lk l 13),(155,lk l 12)]++kp l qq152),q1.2.1,q1.2.2⟩ r:=rg qq152 c86r16 rfl (by kernel_rfl)
@[simp] theorem uc86s17:U c86s17 (.seq c86k16 c86k15):=ur
@[simp] theorem uc86k19:Ex F cx (.code c86k19::k) ⟨mk 197 l,rows,low⟩ r↔bnd (evP rows (.bin .add (.c (lk l 15)) (.c (.int .i64 1)))) fun v0=>Ex F cx k ⟨mk 197 ([(15,v0),(96,v0),(95,lk l 15)]++kp l qq151),rows,low⟩ r:=rg qq151 c86r19 rfl (by kernel_rfl)
@[simp] theorem uc86k21:Ex F cx (.code c86k21::k) ⟨mk 197 l,rows,low⟩ r↔bnd (evP rows (.bin .add (.c (lk l 17)) (.c (.int .i64 1)))) fun v0=>Ex F cx k ⟨mk 197 ([(17,v0),(131,v0),(130,lk l 17)]++kp l qq149),rows,low⟩ r:=rg qq149 c86r21 rfl (by kernel_rfl)
@[simp] theorem uc86k22:Ex F cx (.code c86k22::k) ⟨mk 197 l,rows,low⟩ r↔bnd (evP (rows++maskE 3 rn) (.idxS 1 (.c (lk l 7)) (.c (lk l 15)))) fun v0=>bnd (evP (rows++maskE 7 rn) (.load1 (.c v0))) fun v1=>bnd (evP (rows++maskE 96 rn) (.idxS 1 (.c (lk l 7)) (.c (lk l 15)))) fun v2=>bnd (evP (rows++maskE 224 rn) (.load1 (.c v2))) fun v3=>bnd (evP (rows++maskE 992 rn) (.idxS 2 (.c v3) (.c (lk l 17)))) fun v4=>bnd (evP (rows++maskE 2016 rn) (.loadN 2 (.c v4))) fun v5=>bnd (evP (rows++maskE 0 rn) (.loadN 2 (.c (lk l 16)))) fun v6=>bnd (evP (rows++maskE 24576 rn) (.idxS 1 (.c (lk l 7)) (.c (lk l 10)))) fun v7=>bnd (evP (rows++maskE 57344 rn) (.load1 (.c v7))) fun v8=>bnd (evP (rows++maskE 253952 rn) (.idxS 2 (.c v8) (.c (lk l 17)))) fun v9=>bnd (evP (rows++maskE 516096 rn) (.loadN 2 (.c v9))) fun v10=>bnd (opC F (rows++maskE 1044480 rn) (rows.length+rn.length) [v6,v10] [] (.func 35 [])) fun q11=>q11.2.2=rows.length+rn.length/\bnd (some (rn++List.map (fun(x:Row)=>(20,x)) (q11.2.1.drop (rows.length+rn.length)))) fun e11=>bnd (opC F (rows++maskE 2097120 e11) (rows.length+e11.length) [v5,q11.1] [] (.func 34 [])) fun q12=>q12.2.2=rows.length+e11.length/\bnd (some (e11++List.map (fun(x:Row)=>(21,x)) (q12.2.1.drop (rows.length+e11.length)))) fun e12=>bnd (evP (rows++List.map (fun(x:Nat×Row)=>x.2) e12) (.idxS 2 (.c v1) (.c (lk l 17)))) fun v13=>bnd (evE (rows++List.map (fun(x:Nat×Row)=>x.2) e12) low (.storeN 2 (.c v13) (.c q12.1))) fun q14=>Ex F cx k ⟨mk 197 ([(154,v13),(153,q12.1),(152,q11.1),(151,v10),(150,v9),(149,lk l 17),(148,v8),(147,v7),(146,lk l 10),(145,lk l 7),(144,v6),(143,v5),(142,v4),(141,lk l 17),(140,v3),(139,v2),(138,lk l 15),(137,lk l 7),(136,lk l 17),(135,v1),(134,v0),(133,lk l 15),(132,lk l 7)]++kp l qq149),q14.2.1,q14.2.2⟩ r:=rg qq149 c86r22 rfl (by kernel_rfl)
@[simp] theorem uc86s23:U c86s23 (.seq (.block 9 c86k22) c86k21):=ur
@[simp] theorem uc86s24:U c86s24 (.cond (.t 129) .skip (.exit 8)):=ur
@[simp] theorem uc86k25:Ex F cx (.code c86k25::k) ⟨mk 197 l,rows,low⟩ r↔bnd (evP rows (.bin .leq (.c (lk l 17)) (.c (lk l 6)))) fun v0=>Ex F cx k ⟨mk 197 ([(129,v0),(128,lk l 6),(127,lk l 17)]++kp l qq149),rows,low⟩ r:=rg qq149 c86r25 rfl (by kernel_rfl)
@[simp] theorem uc86s26:U c86s26 (.block 8 (.loop c86l20)):=ur
@[simp] theorem uc86k27:Ex F cx (.code c86k27::k) ⟨mk 197 l,rows,low⟩ r↔Ex F cx k ⟨mk 197 ([(17,lk l 13),(126,lk l 13)]++kp l qq150),rows,low⟩ r:=rg qq150 c86r27 rfl (by kernel_rfl)
@[simp] theorem uc86s28:U c86s28 (.seq c86k27 c86s26):=ur
@[simp] theorem uc86k29:Ex F cx (.code c86k29::k) ⟨mk 197 l,rows,low⟩ r↔bnd (evP (rows++maskE 3 rn) (.idxS 1 (.c (lk l 7)) (.c (lk l 15)))) fun v0=>bnd (evP (rows++maskE 7 rn) (.load1 (.c v0))) fun v1=>bnd (evP (rows++maskE 31 rn) (.idxS 2 (.c v1) (.c (lk l 13)))) fun v2=>bnd (evP (rows++maskE 63 rn) (.loadN 2 (.c v2))) fun v3=>bnd (evP (rows++maskE 384 rn) (.idxS 1 (.c (lk l 7)) (.c (lk l 10)))) fun v4=>bnd (evP (rows++maskE 896 rn) (.load1 (.c v4))) fun v5=>bnd (evP (rows++maskE 3968 rn) (.idxS 2 (.c v5) (.c (lk l 13)))) fun v6=>bnd (evP (rows++maskE 8064 rn) (.loadN 2 (.c v6))) fun v7=>bnd (opC F (rows++maskE 16383 rn) (rows.length+rn.length) [v3,v7] [] (.func 88 [])) fun q8=>q8.2.2=rows.length+rn.length/\bnd (some (rn++List.map (fun(x:Row)=>(14,x)) (q8.2.1.drop (rows.length+rn.length)))) fun e8=>bnd (evE (rows++maskE 0 e8) (rows.length+e8.length) (.box (.c (.agg [.int .i64 0,.int .i64 0])))) fun q9=>q9.2.2=rows.length+e8.length/\bnd (some (e8++List.map (fun(x:Row)=>(15,x)) (q9.2.1.drop (rows.length+e8.length)))) fun e9=>bnd (evE (rows++List.map (fun(x:Nat×Row)=>x.2) e9) low (.storeN 2 (.c q9.1) (.c q8.1))) fun q10=>Ex F cx k ⟨mk 197 ([(16,q9.1),(125,q8.1),(124,v7),(123,v6),(122,lk l 13),(121,v5),(120,v4),(119,lk l 10),(118,lk l 7),(117,v3),(116,v2),(115,lk l 13),(114,v1),(113,v0),(112,lk l 15),(111,lk l 7)]++kp l qq151),q10.2.1,q10.2.2⟩ r:=rg qq151 c86r29 rfl (by kernel_rfl)
@[simp] theorem uc86s30:U c86s30 (.seq c86k29 c86s28):=ur
@[simp] theorem uc86s31:U c86s31 (.cond (.t 110) (.exit 7) .skip):=ur
@[simp] theorem uc86k32:Ex F cx (.code c86k32::k) ⟨mk 197 l,rows,low⟩ r↔bnd (evP rows (.bin .eql (.c (lk l 15)) (.c (lk l 10)))) fun v0=>bnd (gv v0 false (evP rows (.mv (.c (lk l 7))))) fun v1=>bnd (gv v0 false (evP rows (.mv (.c (lk l 15))))) fun v2=>bnd (gv v0 false (evP rows (.idxS 1 (.c v1) (.c v2)))) fun v3=>bnd (gv v0 false (evP rows (.load1 (.c v3)))) fun v4=>bnd (gv v0 false (evP rows (.mv (.c (lk l 13))))) fun v5=>bnd (gv v0 false (evP rows (.idxS 2 (.c v4) (.c v5)))) fun v6=>bnd (gv v0 false (evP rows (.idxA 2 1 (.c v6) (.c (.int .i64 0))))) fun v7=>bnd (gv v0 false (evP rows (.load1 (.c v7)))) fun v8=>bnd (gv v0 false (evP rows (.bin .eql (.c v8) (.c (.int .i64 0))))) fun v9=>bnd (evP rows (.pick (.c v0) (.c (.bool true)) (.c v9))) fun v10=>Ex F cx k ⟨mk 197 ([(110,v10),(109,v9),(108,v8),(107,v7),(106,v6),(105,v5),(104,v4),(103,v3),(102,v2),(101,v1),(100,v0),(99,v0),(98,lk l 10),(97,lk l 15)]++kp l qq151),rows,low⟩ r:=rg qq151 c86r32 rfl (by kernel_rfl)
@[simp] theorem uc86s33:U c86s33 (.seq (.block 7 (.seq (.seq c86k32 c86s31) c86s30)) c86k19):=ur
@[simp] theorem uc86s34:U c86s34 (.cond (.t 94) .skip (.exit 6)):=ur
@[simp] theorem uc86k35:Ex F cx (.code c86k35::k) ⟨mk 197 l,rows,low⟩ r↔bnd (evP rows (.bin .lss (.c (lk l 15)) (.c (lk l 6)))) fun v0=>Ex F cx k ⟨mk 197 ([(94,v0),(93,lk l 6),(92,lk l 15)]++kp l qq151),rows,low⟩ r:=rg qq151 c86r35 rfl (by kernel_rfl)
@[simp] theorem uc86s36:U c86s36 (.block 6 (.loop c86l18)):=ur
@[simp] theorem uc86k37:Ex F cx (.code c86k37::k) ⟨mk 197 l,rows,low⟩ r↔Ex F cx k ⟨mk 197 ([(15,(.int .i64 0))]++kp l qq152),rows,low⟩ r:=rg qq152 c86r37 rfl (by kernel_rfl)
@[simp] theorem uc86s38:U c86s38 (.seq (.seq c86k37 c86s36) c86s17):=ur
@[simp] theorem uc86k39:U c86k39 (.kill 197 [6,7,10,11,12,13,14] (.ops c86r39)):=ur
@[simp] theorem uc86r39:Ex F cx (.ops c86r39::k) s r↔Ex F cx (.ops [
 .grpw (.t 90) (.t 85) none 8179 [(⟨some 78,.mv (.t 7),none⟩,0),(⟨some 79,.mv (.t 10),none⟩,0),(⟨some 80,.mv (.t 7),none⟩,0),(⟨some 81,.mv (.t 14),none⟩,0),(⟨some 82,.mv (.t 7),none⟩,0),(⟨some 83,.mv (.t 14),none⟩,0),(⟨some 84,.idxS 1 (.t 82) (.t 83),none⟩,48),(⟨some 85,.load1 (.t 84),none⟩,112),(⟨some 86,.mv (.t 7),none⟩,0),(⟨some 87,.mv (.t 10),none⟩,0),(⟨some 88,.idxS 1 (.t 86) (.t 87),none⟩,768),(⟨some 89,.load1 (.t 88),none⟩,1792),(⟨some 90,.idxS 1 (.t 78) (.t 79),none⟩,4083),(⟨none,.lenc 0,none⟩,8179)],
 .one ⟨some 91,.idxS 1 (.t 80) (.t 81),none⟩,
 .one ⟨none,.store1 (.t 91) (.t 89),none⟩]::k) s r:=Iff.rfl
@[simp] theorem uc86s40:U c86s40 (.seq c86k39 c86s38):=ur
@[simp] theorem uc86s41:U c86s41 (.cond (.t 77) (.exit 3) .skip):=ur
@[simp] theorem uc86k42:Ex F cx (.code c86k42::k) ⟨mk 197 l,rows,low⟩ r↔bnd (evP rows (.bin .eql (.c (lk l 14)) (.c (lk l 6)))) fun v0=>Ex F cx k ⟨mk 197 ([(77,v0),(76,lk l 6),(75,lk l 14)]++kp l qq148),rows,low⟩ r:=rg qq148 c86r42 rfl (by kernel_rfl)
@[simp] theorem uc86s43:U c86s43 (.seq (.seq c86k42 c86s41) c86s40):=ur
@[simp] theorem uc86k45:Ex F cx (.code c86k45::k) ⟨mk 197 l,rows,low⟩ r↔bnd (evP rows (.bin .add (.c (lk l 14)) (.c (.int .i64 1)))) fun v0=>Ex F cx k ⟨mk 197 ([(14,v0),(74,v0),(73,lk l 14)]++kp l qq148),rows,low⟩ r:=rg qq148 c86r45 rfl (by kernel_rfl)
@[simp] theorem uc86s46:U c86s46 (.block 5 c86k45):=ur
@[simp] theorem uc86s47:U c86s47 (.cond (.t 72) .skip (.exit 4)):=ur
@[simp] theorem uc86k48:Ex F cx (.code c86k48::k) ⟨mk 197 l,rows,low⟩ r↔bnd (evP rows (.bin .lss (.c (lk l 14)) (.c (lk l 6)))) fun v0=>bnd (gv v0 true (evP rows (.mv (.c (lk l 7))))) fun v1=>bnd (gv v0 true (evP rows (.mv (.c (lk l 14))))) fun v2=>bnd (gv v0 true (evP rows (.idxS 1 (.c v1) (.c v2)))) fun v3=>bnd (gv v0 true (evP rows (.load1 (.c v3)))) fun v4=>bnd (gv v0 true (evP rows (.mv (.c (lk l 13))))) fun v5=>bnd (gv v0 true (evP rows (.idxS 2 (.c v4) (.c v5)))) fun v6=>bnd (gv v0 true (evP rows (.idxA 2 1 (.c v6) (.c (.int .i64 0))))) fun v7=>bnd (gv v0 true (evP rows (.load1 (.c v7)))) fun v8=>bnd (gv v0 true (evP rows (.bin .eql (.c v8) (.c (.int .i64 0))))) fun v9=>bnd (evP rows (.pick (.c v0) (.c v9) (.c (.bool false)))) fun v10=>Ex F cx k ⟨mk 197 ([(72,v10),(71,v9),(70,v8),(69,v7),(68,v6),(67,v5),(66,v4),(65,v3),(64,v2),(63,v1),(62,v0),(61,v0),(60,lk l 6),(59,lk l 14)]++kp l qq148),rows,low⟩ r:=rg qq148 c86r48 rfl (by kernel_rfl)
@[simp] theorem uc86s49:U c86s49 (.seq (.block 4 (.loop c86l44)) c86s43):=ur
@[simp] theorem uc86k50:Ex F cx (.code c86k50::k) ⟨mk 197 l,rows,low⟩ r↔Ex F cx k ⟨mk 197 ([(14,lk l 10),(58,lk l 10)]++kp l qq152),rows,low⟩ r:=rg qq152 c86r50 rfl (by kernel_rfl)
@[simp] theorem uc86s51:U c86s51 (.seq c86k50 c86s49):=ur
@[simp] theorem uc86k52:Ex F cx (.code c86k52::k) ⟨mk 197 l,rows,low⟩ r↔bnd (evP rows (.idxS 1 (.c (lk l 12)) (.c (lk l 13)))) fun v0=>bnd (evE rows low (.store1 (.c v0) (.c (.int .i64 (-1))))) fun q1=>Ex F cx k ⟨mk 197 ([(57,v0),(56,lk l 13),(55,lk l 12)]++kp l qq152),q1.2.1,q1.2.2⟩ r:=rg qq152 c86r52 rfl (by kernel_rfl)
@[simp] theorem uc86s53:U c86s53 (.seq c86k52 c86s51):=ur
@[simp] theorem uc86k54:Ex F cx (.code c86k54::k) ⟨mk 197 l,rows,low⟩ r↔bnd (evP rows (.mkagg [.int .i64 0,.int .i64 0] [(0,1,(.c (.int .i64 0))),(1,1,(.c (.int .i64 1)))])) fun v0=>bnd (evP rows (.idxS 2 (.c (lk l 11)) (.c (lk l 13)))) fun v1=>bnd (evE rows low (.storeN 2 (.c v1) (.c v0))) fun q2=>Ex F cx k ⟨mk 197 ([(54,v1),(53,v0),(52,lk l 13),(51,lk l 11)]++kp l qq152),q2.2.1,q2.2.2⟩ r:=rg qq152 c86r54 rfl (by kernel_rfl)
@[simp] theorem uc86s55:U c86s55 (.seq (.block 3 (.seq c86k54 c86s53)) c86k14):=ur
@[simp] theorem uc86s56:U c86s56 (.cond (.t 48) .skip (.exit 2)):=ur
@[simp] theorem uc86k57:Ex F cx (.code c86k57::k) ⟨mk 197 l,rows,low⟩ r↔bnd (evP rows (.bin .lss (.c (lk l 13)) (.c (lk l 6)))) fun v0=>Ex F cx k ⟨mk 197 ([(48,v0),(47,lk l 6),(46,lk l 13)]++kp l qq152),rows,low⟩ r:=rg qq152 c86r57 rfl (by kernel_rfl)
@[simp] theorem uc86s58:U c86s58 (.block 2 (.loop c86l13)):=ur
@[simp] theorem uc86k59:Ex F cx (.code c86k59::k) ⟨mk 197 l,rows,low⟩ r↔Ex F cx k ⟨mk 197 ([(13,(.int .i64 0))]++kp l qq154),rows,low⟩ r:=rg qq154 c86r59 rfl (by kernel_rfl)
@[simp] theorem uc86s60:U c86s60 (.seq (.seq c86k59 c86s58) c86s12):=ur
@[simp] theorem uc86k61:Ex F cx (.code c86k61::k) ⟨mk 197 l,rows,low⟩ r↔bnd (evE rows low (.make [.int .i64 0] 8 (.c (lk l 6)) (.c (lk l 6)))) fun q0=>Ex F cx k ⟨mk 197 ([(12,q0.1),(45,q0.1),(44,lk l 6)]++kp l qq155),q0.2.1,q0.2.2⟩ r:=rg qq155 c86r61 rfl (by kernel_rfl)
@[simp] theorem uc86s62:U c86s62 (.seq c86k61 c86s60):=ur
@[simp] theorem uc86k63:Ex F cx (.code c86k63::k) ⟨mk 197 l,rows,low⟩ r↔bnd (evE rows low (.make [.int .i64 0,.int .i64 0] 16 (.c (lk l 6)) (.c (lk l 6)))) fun q0=>Ex F cx k ⟨mk 197 ([(11,q0.1),(43,q0.1),(42,lk l 6)]++kp l qq156),q0.2.1,q0.2.2⟩ r:=rg qq156 c86r63 rfl (by kernel_rfl)
@[simp] theorem uc86s64:U c86s64 (.seq c86k63 c86s62):=ur
@[simp] theorem uc86k65:Ex F cx (.code c86k65::k) ⟨mk 197 l,rows,low⟩ r↔Ex F cx k ⟨mk 197 [(10,(.int .i64 0)),(6,lk l 6),(7,lk l 7)],rows,low⟩ r:=rg qq157 c86r65 rfl (by kernel_rfl)
@[simp] theorem uc86s66:U c86s66 (.seq c86k65 c86s64):=ur
@[simp] theorem uc86k68:Ex F cx (.code c86k68::k) ⟨mk 197 l,rows,low⟩ r↔bnd (evP rows (.bin .add (.c (lk l 8)) (.c (.int .i64 1)))) fun v0=>Ex F cx k ⟨mk 197 ([(8,v0),(25,v0),(24,lk l 8)]++kp l qq14),rows,low⟩ r:=rg qq14 c86r68 rfl (by kernel_rfl)
@[simp] theorem uc86k69:Ex F cx (.code c86k69::k) ⟨mk 197 l,rows,low⟩ r↔bnd (evP rows (.idxS 2 (.c (lk l 1)) (.c (lk l 8)))) fun v0=>bnd (evP rows (.loadN 2 (.c v0))) fun v1=>bnd (evE rows low (.mkslice 1 [.int .i64 0,.int .i64 0] [(0,2,(.c v1))])) fun q2=>bnd (evE q2.2.1 q2.2.2 (.app 2 16 (.c (lk l 9)) (.c q2.1))) fun q3=>bnd (evE q3.2.1 q3.2.2 (.mkslice 1 [.nilslice] [(0,1,(.c q3.1))])) fun q4=>bnd (evE q4.2.1 q4.2.2 (.app 1 24 (.c (lk l 7)) (.c q4.1))) fun q5=>Ex F cx k ⟨mk 197 ([(7,q5.1),(41,q5.1),(40,q4.1),(39,q3.1),(38,q2.1),(37,v1),(36,v0),(35,lk l 8),(34,lk l 1),(33,lk l 9),(32,lk l 7)]++kp l qq13),q5.2.1,q5.2.2⟩ r:=rg qq13 c86r69 rfl (by kernel_rfl)
@[simp] theorem uc86k70:Ex F cx (.code c86k70::k) ⟨mk 197 l,rows,low⟩ r↔bnd (evP rows (.idxS 1 (.c (lk l 0)) (.c (lk l 8)))) fun v0=>bnd (evP rows (.load1 (.c v0))) fun v1=>bnd (evE rows low (.app 2 16 (.c (lk l 9)) (.c v1))) fun q2=>Ex F cx k ⟨mk 197 ([(9,q2.1),(31,q2.1),(30,v1),(29,v0),(28,lk l 8),(27,lk l 0),(26,lk l 9)]++kp l qq13),q2.2.1,q2.2.2⟩ r:=rg qq13 c86r70 rfl (by kernel_rfl)
@[simp] theorem uc86s71:U c86s71 (.seq c86k70 c86k69):=ur
@[simp] theorem uc86k72:Ex F cx (.code c86k72::k) ⟨mk 197 l,rows,low⟩ r↔Ex F cx k ⟨mk 197 ([(9,.nilslice)]++kp l qq14),rows,low⟩ r:=rg qq14 c86r72 rfl (by kernel_rfl)
@[simp] theorem uc86s73:U c86s73 (.seq (.block 1 (.seq c86k72 c86s71)) c86k68):=ur
@[simp] theorem uc86s74:U c86s74 (.cond (.t 23) .skip (.exit 0)):=ur
@[simp] theorem uc86k75:Ex F cx (.code c86k75::k) ⟨mk 197 l,rows,low⟩ r↔bnd (evP rows (.bin .lss (.c (lk l 8)) (.c (lk l 6)))) fun v0=>Ex F cx k ⟨mk 197 ([(23,v0),(22,lk l 6),(21,lk l 8)]++kp l qq14),rows,low⟩ r:=rg qq14 c86r75 rfl (by kernel_rfl)
@[simp] theorem uc86s76:U c86s76 (.block 0 (.loop c86l67)):=ur
@[simp] theorem uc86k77:Ex F cx (.code c86k77::k) ⟨mk 197 l,rows,low⟩ r↔Ex F cx k ⟨mk 197 ([(8,(.int .i64 0))]++kp l qq16),rows,low⟩ r:=rg qq16 c86r77 rfl (by kernel_rfl)
@[simp] theorem uc86s78:U c86s78 (.seq (.seq c86k77 c86s76) c86s66):=ur
@[simp] theorem uc86k79:Ex F cx (.code c86k79::k) ⟨mk 197 l,rows,low⟩ r↔Ex F cx k ⟨mk 197 ([(7,.nilslice)]++kp l qq17),rows,low⟩ r:=rg qq17 c86r79 rfl (by kernel_rfl)
@[simp] theorem uc86s80:U c86s80 (.seq c86k79 c86s78):=ur
@[simp] theorem uc86k81:Ex F cx (.code c86k81::k) ⟨mk 197 l,rows,low⟩ r↔bnd (evP rows (.len 0 (.c (lk l 1)))) fun v0=>Ex F cx k ⟨mk 197 [(6,v0),(20,v0),(19,lk l 1),(0,lk l 0),(1,lk l 1)],rows,low⟩ r:=rg qq21 c86r81 rfl (by kernel_rfl)
@[simp] theorem uc86s82:U c86s82 (.seq c86k81 c86s80):=ur
@[simp] theorem uc86k83:Ex F cx (.code c86k83::k) ⟨mk 197 l,rows,low⟩ r↔Ex F cx k ⟨mk 197 [(5,(.int .i64 0)),(4,.nilslice),(0,lk l 0),(1,lk l 1)],rows,low⟩ r:=rg qq21 c86r83 rfl (by kernel_rfl)
def Lc86l2(F:Nat->Option IFn)(cx:Ctx)(x6 x7 x10 x11 x12 x18:AV)(rows:List Row)(low:Nat)(r:AV×List Row×Nat->Prop):Prop:=Ex F cx (.code c86l2::Kc86l2) ⟨mk 197 [(6,x6),(7,x7),(10,x10),(11,x11),(12,x12),(18,x18)],rows,low⟩ r
@[simp] theorem nc86l2:Ex F cx (Kc86l2) ⟨mk 197 l,rows,low⟩ r↔Lc86l2 F cx (lk l 6) (lk l 7) (lk l 10) (lk l 11) (lk l 12) (lk l 18) rows low r:=loopN (keep:=qq153) (by kernel_rfl)
@[simp] theorem ec86l2:Ex F cx (.code (.loop c86l2)::.inBlock 10::.code c86s1::[]) ⟨mk 197 l,rows,low⟩ r↔Lc86l2 F cx (lk l 6) (lk l 7) (lk l 10) (lk l 11) (lk l 12) (lk l 18) rows low r:=loopE (keep:=qq153) (by kernel_rfl)
@[simp] theorem uc86l2:U c86l2 (.seq (.seq c86k9 c86s8) c86s7):=ur
def Lc86l20(F:Nat->Option IFn)(cx:Ctx)(x6 x7 x10 x11 x12 x13 x15 x16 x17:AV)(rows:List Row)(low:Nat)(r:AV×List Row×Nat->Prop):Prop:=Ex F cx (.code c86l20::Kc86l20) ⟨mk 197 [(6,x6),(7,x7),(10,x10),(11,x11),(12,x12),(13,x13),(15,x15),(16,x16),(17,x17)],rows,low⟩ r
@[simp] theorem nc86l20:Ex F cx (Kc86l20) ⟨mk 197 l,rows,low⟩ r↔Lc86l20 F cx (lk l 6) (lk l 7) (lk l 10) (lk l 11) (lk l 12) (lk l 13) (lk l 15) (lk l 16) (lk l 17) rows low r:=loopN (keep:=qq149) (by kernel_rfl)
@[simp] theorem ec86l20:Ex F cx (.code (.loop c86l20)::.inBlock 8::.inBlock 7::.code c86k19::Kc86l18) ⟨mk 197 l,rows,low⟩ r↔Lc86l20 F cx (lk l 6) (lk l 7) (lk l 10) (lk l 11) (lk l 12) (lk l 13) (lk l 15) (lk l 16) (lk l 17) rows low r:=loopE (keep:=qq149) (by kernel_rfl)
@[simp] theorem uc86l20:U c86l20 (.seq (.seq c86k25 c86s24) c86s23):=ur
def Lc86l18(F:Nat->Option IFn)(cx:Ctx)(x6 x7 x10 x11 x12 x13 x15:AV)(rows:List Row)(low:Nat)(r:AV×List Row×Nat->Prop):Prop:=Ex F cx (.code c86l18::Kc86l18) ⟨mk 197 [(6,x6),(7,x7),(10,x10),(11,x11),(12,x12),(13,x13),(15,x15)],rows,low⟩ r
@[simp] theorem nc86l18:Ex F cx (Kc86l18) ⟨mk 197 l,rows,low⟩ r↔Lc86l18 F cx (lk l 6) (lk l 7) (lk l 10) (lk l 11) (lk l 12) (lk l 13) (lk l 15) rows low r:=loopN (keep:=qq151) (by kernel_rfl)
@[simp] theorem ec86l18:Ex F cx (.code (.loop c86l18)::.inBlock 6::.code c86s17::.inBlock 3::.code c86k14::Kc86l13) ⟨mk 197 l,rows,low⟩ r↔Lc86l18 F cx (lk l 6) (lk l 7) (lk l 10) (lk l 11) (lk l 12) (lk l 13) (lk l 15) rows low r:=loopE (keep:=qq151) (by kernel_rfl)
@[simp] theorem uc86l18:U c86l18 (.seq (.seq c86k35 c86s34) c86s33):=ur
def Lc86l44(F:Nat->Option IFn)(cx:Ctx)(x6 x7 x10 x11 x12 x13 x14:AV)(rows:List Row)(low:Nat)(r:AV×List Row×Nat->Prop):Prop:=Ex F cx (.code c86l44::Kc86l44) ⟨mk 197 [(6,x6),(7,x7),(10,x10),(11,x11),(12,x12),(13,x13),(14,x14)],rows,low⟩ r
@[simp] theorem nc86l44:Ex F cx (Kc86l44) ⟨mk 197 l,rows,low⟩ r↔Lc86l44 F cx (lk l 6) (lk l 7) (lk l 10) (lk l 11) (lk l 12) (lk l 13) (lk l 14) rows low r:=loopN (keep:=qq148) (by kernel_rfl)
@[simp] theorem ec86l44:Ex F cx (.code (.loop c86l44)::.inBlock 4::.code c86s43::.inBlock 3::.code c86k14::Kc86l13) ⟨mk 197 l,rows,low⟩ r↔Lc86l44 F cx (lk l 6) (lk l 7) (lk l 10) (lk l 11) (lk l 12) (lk l 13) (lk l 14) rows low r:=loopE (keep:=qq148) (by kernel_rfl)
@[simp] theorem uc86l44:U c86l44 (.seq (.seq c86k48 c86s47) c86s46):=ur
def Lc86l13(F:Nat->Option IFn)(cx:Ctx)(x6 x7 x10 x11 x12 x13:AV)(rows:List Row)(low:Nat)(r:AV×List Row×Nat->Prop):Prop:=Ex F cx (.code c86l13::Kc86l13) ⟨mk 197 [(6,x6),(7,x7),(10,x10),(11,x11),(12,x12),(13,x13)],rows,low⟩ r
@[simp] theorem nc86l13:Ex F cx (Kc86l13) ⟨mk 197 l,rows,low⟩ r↔Lc86l13 F cx (lk l 6) (lk l 7) (lk l 10) (lk l 11) (lk l 12) (lk l 13) rows low r:=loopN (keep:=qq152) (by kernel_rfl)
@[simp] theorem ec86l13:Ex F cx (.code (.loop c86l13)::.inBlock 2::.code c86s12::[]) ⟨mk 197 l,rows,low⟩ r↔Lc86l13 F cx (lk l 6) (lk l 7) (lk l 10) (lk l 11) (lk l 12) (lk l 13) rows low r:=loopE (keep:=qq152) (by kernel_rfl)
@[simp] theorem uc86l13:U c86l13 (.seq (.seq c86k57 c86s56) c86s55):=ur
def Lc86l67(F:Nat->Option IFn)(cx:Ctx)(x0 x1 x6 x7 x8:AV)(rows:List Row)(low:Nat)(r:AV×List Row×Nat->Prop):Prop:=Ex F cx (.code c86l67::Kc86l67) ⟨mk 197 [(0,x0),(1,x1),(6,x6),(7,x7),(8,x8)],rows,low⟩ r
@[simp] theorem nc86l67:Ex F cx (Kc86l67) ⟨mk 197 l,rows,low⟩ r↔Lc86l67 F cx (lk l 0) (lk l 1) (lk l 6) (lk l 7) (lk l 8) rows low r:=loopN (keep:=qq14) (by kernel_rfl)
@[simp] theorem ec86l67:Ex F cx (.code (.loop c86l67)::.inBlock 0::.code c86s66::[]) ⟨mk 197 l,rows,low⟩ r↔Lc86l67 F cx (lk l 0) (lk l 1) (lk l 6) (lk l 7) (lk l 8) rows low r:=loopE (keep:=qq14) (by kernel_rfl)
@[simp] theorem uc86l67:U c86l67 (.seq (.seq c86k75 c86s74) c86s73):=ur
@[simp] theorem uc86b:U c86b (.seq c86k83 c86s82):=ur
theorem i86{x0 x1:AV}(hF:F 86=some c86){q:AV×List Row×Option Nat}(h:Ex F (.fn [.t 4,.t 5]) [.code c86b] ⟨mk 197 [(0,x0),(1,x1)],rows,rows.length⟩ fun r=>fin rows r.1 r.2.1 r.2.2=q):Ret F 86 [x0,x1] rows=some q:=Ret_mk hF h
@[simp] abbrev Kc87l2:List Itm:=.inLoop c87l2::.inBlock 0::.code c87s1::[]
@[simp] abbrev Kc87l5:List Itm:=.inLoop c87l5::.inBlock 2::.code c87k4::.inBlock 1::.code c87k3::Kc87l2
@[simp] theorem uc87k0:Ex F cx (.code c87k0::k) ⟨mk 35 l,rows,low⟩ r↔Ex F cx k ⟨mk 35 [(2,lk l 3),(34,lk l 3),(3,lk l 3)],rows,low⟩ r:=rg [3] c87r0 rfl (by kernel_rfl)
@[simp] theorem uc87s1:U c87s1 (.seq c87k0 .ret):=ur
@[simp] theorem uc87k3:Ex F cx (.code c87k3::k) ⟨mk 35 l,rows,low⟩ r↔bnd (evP rows (.bin .add (.c (lk l 4)) (.c (.int .i64 1)))) fun v0=>Ex F cx k ⟨mk 35 ([(4,v0),(12,v0),(11,lk l 4)]++kp l qq25),rows,low⟩ r:=rg qq25 c87r3 rfl (by kernel_rfl)
@[simp] theorem uc87k4:Ex F cx (.code c87k4::k) ⟨mk 35 l,rows,low⟩ r↔bnd (evE rows low (.mkslice 1 [.nilslice] [(0,1,(.c (lk l 5)))])) fun q0=>bnd (evE q0.2.1 q0.2.2 (.app 1 24 (.c (lk l 3)) (.c q0.1))) fun q1=>Ex F cx k ⟨mk 35 ([(3,q1.1),(33,q1.1),(32,q0.1),(31,lk l 5),(30,lk l 3)]++kp l qq24),q1.2.1,q1.2.2⟩ r:=rg qq24 c87r4 rfl (by kernel_rfl)
@[simp] theorem uc87k6:Ex F cx (.code c87k6::k) ⟨mk 35 l,rows,low⟩ r↔bnd (evP rows (.bin .add (.c (lk l 6)) (.c (.int .i64 1)))) fun v0=>Ex F cx k ⟨mk 35 ([(6,v0),(18,v0),(17,lk l 6)]++kp l qq23),rows,low⟩ r:=rg qq23 c87r6 rfl (by kernel_rfl)
@[simp] theorem uc87k7:Ex F cx (.code c87k7::k) ⟨mk 35 l,rows,low⟩ r↔bnd (evP rows (.idxS 1 (.c (lk l 0)) (.c (lk l 6)))) fun v0=>bnd (evP rows (.load1 (.c v0))) fun v1=>bnd (evP rows (.idxS 1 (.c v1) (.c (lk l 4)))) fun v2=>bnd (evP rows (.load1 (.c v2))) fun v3=>bnd (evP rows (.mkagg [.int .i64 0,.int .i64 0] [(0,1,(.c v3)),(1,1,(.c (.int .i64 1)))])) fun v4=>bnd (evE rows low (.mkslice 1 [.int .i64 0,.int .i64 0] [(0,2,(.c v4))])) fun q5=>bnd (evE q5.2.1 q5.2.2 (.app 2 16 (.c (lk l 5)) (.c q5.1))) fun q6=>Ex F cx k ⟨mk 35 ([(5,q6.1),(29,q6.1),(28,q5.1),(27,v4),(26,v3),(25,v2),(24,lk l 4),(23,v1),(22,v0),(21,lk l 6),(20,lk l 0),(19,lk l 5)]++kp l qq23),q6.2.1,q6.2.2⟩ r:=rg qq23 c87r7 rfl (by kernel_rfl)
@[simp] theorem uc87s8:U c87s8 (.seq (.block 3 c87k7) c87k6):=ur
@[simp] theorem uc87s9:U c87s9 (.cond (.t 16) .skip (.exit 2)):=ur
@[simp] theorem uc87k10:Ex F cx (.code c87k10::k) ⟨mk 35 l,rows,low⟩ r↔bnd (evP rows (.len 0 (.c (lk l 0)))) fun v0=>bnd (evP rows (.bin .lss (.c (lk l 6)) (.c v0))) fun v1=>Ex F cx k ⟨mk 35 ([(16,v1),(15,v0),(14,lk l 0),(13,lk l 6)]++kp l qq23),rows,low⟩ r:=rg qq23 c87r10 rfl (by kernel_rfl)
@[simp] theorem uc87s11:U c87s11 (.block 2 (.loop c87l5)):=ur
@[simp] theorem uc87k12:Ex F cx (.code c87k12::k) ⟨mk 35 l,rows,low⟩ r↔Ex F cx k ⟨mk 35 ([(6,(.int .i64 0))]++kp l qq24),rows,low⟩ r:=rg qq24 c87r12 rfl (by kernel_rfl)
@[simp] theorem uc87s13:U c87s13 (.seq (.seq c87k12 c87s11) c87k4):=ur
@[simp] theorem uc87k14:Ex F cx (.code c87k14::k) ⟨mk 35 l,rows,low⟩ r↔Ex F cx k ⟨mk 35 ([(5,.nilslice)]++kp l qq25),rows,low⟩ r:=rg qq25 c87r14 rfl (by kernel_rfl)
@[simp] theorem uc87s15:U c87s15 (.seq (.block 1 (.seq c87k14 c87s13)) c87k3):=ur
@[simp] theorem uc87s16:U c87s16 (.cond (.t 10) .skip (.exit 0)):=ur
@[simp] theorem uc87k17:Ex F cx (.code c87k17::k) ⟨mk 35 l,rows,low⟩ r↔bnd (evP rows (.len 0 (.c (lk l 0)))) fun v0=>bnd (evP rows (.bin .lss (.c (lk l 4)) (.c v0))) fun v1=>Ex F cx k ⟨mk 35 ([(10,v1),(9,v0),(8,lk l 0),(7,lk l 4)]++kp l qq25),rows,low⟩ r:=rg qq25 c87r17 rfl (by kernel_rfl)
@[simp] theorem uc87s18:U c87s18 (.block 0 (.loop c87l2)):=ur
@[simp] theorem uc87k19:Ex F cx (.code c87k19::k) ⟨mk 35 l,rows,low⟩ r↔Ex F cx k ⟨mk 35 [(4,(.int .i64 0)),(0,lk l 0),(3,lk l 3)],rows,low⟩ r:=rg qq28 c87r19 rfl (by kernel_rfl)
@[simp] theorem uc87s20:U c87s20 (.seq (.seq c87k19 c87s18) c87s1):=ur
@[simp] theorem uc87k21:Ex F cx (.code c87k21::k) ⟨mk 35 l,rows,low⟩ r↔Ex F cx k ⟨mk 35 [(3,.nilslice),(0,lk l 0)],rows,low⟩ r:=rg [0] c87r21 rfl (by kernel_rfl)
@[simp] theorem uc87s22:U c87s22 (.seq c87k21 c87s20):=ur
@[simp] theorem uc87k23:Ex F cx (.code c87k23::k) ⟨mk 35 l,rows,low⟩ r↔Ex F cx k ⟨mk 35 [(2,.nilslice),(0,lk l 0)],rows,low⟩ r:=rg [0] c87r23 rfl (by kernel_rfl)
def Lc87l5(F:Nat->Option IFn)(cx:Ctx)(x0 x3 x4 x5 x6:AV)(rows:List Row)(low:Nat)(r:AV×List Row×Nat->Prop):Prop:=Ex F cx (.code c87l5::Kc87l5) ⟨mk 35 [(0,x0),(3,x3),(4,x4),(5,x5),(6,x6)],rows,low⟩ r
@[simp] theorem nc87l5:Ex F cx (Kc87l5) ⟨mk 35 l,rows,low⟩ r↔Lc87l5 F cx (lk l 0) (lk l 3) (lk l 4) (lk l 5) (lk l 6) rows low r:=loopN (keep:=qq23) (by kernel_rfl)
@[simp] theorem ec87l5:Ex F cx (.code (.loop c87l5)::.inBlock 2::.code c87k4::.inBlock 1::.code c87k3::Kc87l2) ⟨mk 35 l,rows,low⟩ r↔Lc87l5 F cx (lk l 0) (lk l 3) (lk l 4) (lk l 5) (lk l 6) rows low r:=loopE (keep:=qq23) (by kernel_rfl)
@[simp] theorem uc87l5:U c87l5 (.seq (.seq c87k10 c87s9) c87s8):=ur
def Lc87l2(F:Nat->Option IFn)(cx:Ctx)(x0 x3 x4:AV)(rows:List Row)(low:Nat)(r:AV×List Row×Nat->Prop):Prop:=Ex F cx (.code c87l2::Kc87l2) ⟨mk 35 [(0,x0),(3,x3),(4,x4)],rows,low⟩ r
@[simp] theorem nc87l2:Ex F cx (Kc87l2) ⟨mk 35 l,rows,low⟩ r↔Lc87l2 F cx (lk l 0) (lk l 3) (lk l 4) rows low r:=loopN (keep:=qq25) (by kernel_rfl)
@[simp] theorem ec87l2:Ex F cx (.code (.loop c87l2)::.inBlock 0::.code c87s1::[]) ⟨mk 35 l,rows,low⟩ r↔Lc87l2 F cx (lk l 0) (lk l 3) (lk l 4) rows low r:=loopE (keep:=qq25) (by kernel_rfl)
@[simp] theorem uc87l2:U c87l2 (.seq (.seq c87k17 c87s16) c87s15):=ur
@[simp] theorem uc87b:U c87b (.seq c87k23 c87s22):=ur
theorem i87{x0:AV}(hF:F 87=some c87){q:AV×List Row×Option Nat}(h:Ex F (.fn [.t 2]) [.code c87b] ⟨mk 35 [(0,x0)],rows,rows.length⟩ fun r=>fin rows r.1 r.2.1 r.2.2=q):Ret F 87 [x0] rows=some q:=Ret_mk hF h
@[simp] theorem uc88k0:Ex F cx (.code c88k0::k) ⟨mk 16 l,rows,low⟩ r↔bnd (evP rows (.idxA 2 1 (.c (lk l 2)) (.c (.int .i64 0)))) fun v0=>bnd (evP rows (.load1 (.c v0))) fun v1=>bnd (evP rows (.idxA 2 1 (.c (lk l 3)) (.c (.int .i64 1)))) fun v2=>bnd (evP rows (.load1 (.c v2))) fun v3=>bnd (evP rows (.bin .mul (.c v1) (.c v3))) fun v4=>bnd (evP rows (.idxA 2 1 (.c (lk l 2)) (.c (.int .i64 1)))) fun v5=>bnd (evP rows (.load1 (.c v5))) fun v6=>bnd (evP rows (.idxA 2 1 (.c (lk l 3)) (.c (.int .i64 0)))) fun v7=>bnd (evP rows (.load1 (.c v7))) fun v8=>bnd (evP rows (.bin .mul (.c v6) (.c v8))) fun v9=>bnd (Ret F 73 [v4,v9] rows) fun q10=>bnd (evE q10.2.1 (lowO low q10.2.2) (.storeN 2 (.c (lk l 4)) (.c q10.1))) fun q11=>Ex F cx k ⟨mk 16 ([(15,q10.1),(14,v9),(13,v8),(12,v7),(11,v6),(10,v5),(9,v4),(8,v3),(7,v2),(6,v1),(5,v0)]++kp l qq130),q11.2.1,q11.2.2⟩ r:=rg qq130 c88r0 rfl (by kernel_rfl)
@[simp] theorem uc88s1:U c88s1 (.seq c88k0 .ret):=ur
@[simp] theorem uc88k2:Ex F cx (.code c88k2::k) ⟨mk 16 l,rows,low⟩ r↔bnd (evE rows low (.box (.c (lk l 0)))) fun q0=>bnd (evE q0.2.1 q0.2.2 (.box (.c (lk l 1)))) fun q1=>bnd (evE q1.2.1 q1.2.2 (.box (.c (.agg [.int .i64 0,.int .i64 0])))) fun q2=>Ex F cx k ⟨mk 16 [(4,q2.1),(3,q1.1),(2,q0.1),(0,lk l 0),(1,lk l 1)],q2.2.1,q2.2.2⟩ r:=rg qq21 c88r2 rfl (by kernel_rfl)
@[simp] theorem uc88b:U c88b (.seq c88k2 c88s1):=ur
theorem i88{x0 x1:AV}(hF:F 88=some c88){q:AV×List Row×Option Nat}(h:Ex F (.fn [.cellN 4 2]) [.code c88b] ⟨mk 16 [(0,x0),(1,x1)],rows,rows.length⟩ fun r=>fin rows r.1 r.2.1 r.2.2=q):Ret F 88 [x0,x1] rows=some q:=Ret_mk hF h
@[simp] theorem uc95k0:Ex F cx (.code c95k0::k) ⟨mk 13 l,rows,low⟩ r↔bnd (evP rows (.loadN 2 (.c (lk l 2)))) fun v0=>bnd (evP rows (.fieldA 0 (.c (lk l 3)))) fun v1=>bnd (evP rows (.load1 (.c v1))) fun v2=>bnd (evP rows (.un .neg (.c v2))) fun v3=>bnd (evP rows (.fieldA 1 (.c (lk l 3)))) fun v4=>bnd (evP rows (.load1 (.c v4))) fun v5=>bnd (evP rows (.mkagg [.int .i64 0,.int .i64 0] [(0,1,(.c v3)),(1,1,(.c v5))])) fun v6=>bnd (Ret F 97 [v0,v6] rows) fun q7=>bnd (evE q7.2.1 (lowO low q7.2.2) (.storeN 2 (.c (lk l 4)) (.c q7.1))) fun q8=>Ex F cx k ⟨mk 13 ([(12,q7.1),(11,v6),(10,v5),(9,v4),(8,v3),(7,v2),(6,v1),(5,v0)]++kp l qq130),q8.2.1,q8.2.2⟩ r:=rg qq130 c95r0 rfl (by kernel_rfl)
@[simp] theorem uc95s1:U c95s1 (.seq c95k0 .ret):=ur
@[simp] theorem uc95k2:Ex F cx (.code c95k2::k) ⟨mk 13 l,rows,low⟩ r↔bnd (evE rows low (.box (.c (lk l 0)))) fun q0=>bnd (evE q0.2.1 q0.2.2 (.box (.c (lk l 1)))) fun q1=>bnd (evE q1.2.1 q1.2.2 (.box (.c (.agg [.int .i64 0,.int .i64 0])))) fun q2=>Ex F cx k ⟨mk 13 [(4,q2.1),(3,q1.1),(2,q0.1),(0,lk l 0),(1,lk l 1)],q2.2.1,q2.2.2⟩ r:=rg qq21 c95r2 rfl (by kernel_rfl)
@[simp] theorem uc95b:U c95b (.seq c95k2 c95s1):=ur
theorem i95{x0 x1:AV}(hF:F 95=some c95){q:AV×List Row×Option Nat}(h:Ex F (.fn [.cellN 4 2]) [.code c95b] ⟨mk 13 [(0,x0),(1,x1)],rows,rows.length⟩ fun r=>fin rows r.1 r.2.1 r.2.2=q):Ret F 95 [x0,x1] rows=some q:=Ret_mk hF h
@[simp] theorem uc97k0:Ex F cx (.code c97k0::k) ⟨mk 28 l,rows,low⟩ r↔bnd (evP rows (.fieldA 0 (.c (lk l 2)))) fun v0=>bnd (evP rows (.load1 (.c v0))) fun v1=>bnd (evP rows (.fieldA 1 (.c (lk l 5)))) fun v2=>bnd (evP rows (.load1 (.c v2))) fun v3=>bnd (evP rows (.bin .mul (.c v1) (.c v3))) fun v4=>bnd (evP rows (.fieldA 0 (.c (lk l 3)))) fun v5=>bnd (evP rows (.load1 (.c v5))) fun v6=>bnd (evP rows (.fieldA 0 (.c (lk l 5)))) fun v7=>bnd (evP rows (.load1 (.c v7))) fun v8=>bnd (evP rows (.bin .mul (.c v6) (.c v8))) fun v9=>bnd (evP rows (.bin .add (.c v4) (.c v9))) fun v10=>bnd (evP rows (.fieldA 1 (.c (lk l 2)))) fun v11=>bnd (evP rows (.load1 (.c v11))) fun v12=>bnd (evP rows (.fieldA 1 (.c (lk l 5)))) fun v13=>bnd (evP rows (.load1 (.c v13))) fun v14=>bnd (evP rows (.bin .mul (.c v12) (.c v14))) fun v15=>bnd (Ret F 106 [v10,v15] rows) fun q16=>bnd (evE q16.2.1 (lowO low q16.2.2) (.storeN 2 (.c (lk l 4)) (.c q16.1))) fun q17=>Ex F cx k ⟨mk 28 ([(27,q16.1),(26,v15),(25,v14),(24,v13),(23,v12),(22,v11),(21,v10),(20,v9),(19,v8),(18,v7),(17,v6),(16,v5),(15,v4),(14,v3),(13,v2),(12,v1),(11,v0)]++kp l qq129),q17.2.1,q17.2.2⟩ r:=rg qq129 c97r0 rfl (by kernel_rfl)
@[simp] theorem uc97s1:U c97s1 (.seq c97k0 .ret):=ur
@[simp] theorem uc97k2:Ex F cx (.code c97k2::k) ⟨mk 28 l,rows,low⟩ r↔bnd (evP rows (.fieldA 1 (.c (lk l 2)))) fun v0=>bnd (evP rows (.load1 (.c v0))) fun v1=>bnd (evP rows (.fieldA 1 (.c (lk l 3)))) fun v2=>bnd (evP rows (.load1 (.c v2))) fun v3=>bnd (Ret F 106 [v1,v3] rows) fun q4=>bnd (evE q4.2.1 (lowO low q4.2.2) (.box (.c (.agg [.int .i64 0,.int .i64 0])))) fun q5=>bnd (evE q5.2.1 q5.2.2 (.storeN 2 (.c q5.1) (.c q4.1))) fun q6=>Ex F cx k ⟨mk 28 ([(5,q5.1),(10,q4.1),(9,v3),(8,v2),(7,v1),(6,v0)]++kp l qq130),q6.2.1,q6.2.2⟩ r:=rg qq130 c97r2 rfl (by kernel_rfl)
@[simp] theorem uc97s3:U c97s3 (.seq c97k2 c97s1):=ur
@[simp] theorem uc97k4:Ex F cx (.code c97k4::k) ⟨mk 28 l,rows,low⟩ r↔bnd (evE rows low (.box (.c (lk l 0)))) fun q0=>bnd (evE q0.2.1 q0.2.2 (.box (.c (lk l 1)))) fun q1=>bnd (evE q1.2.1 q1.2.2 (.box (.c (.agg [.int .i64 0,.int .i64 0])))) fun q2=>Ex F cx k ⟨mk 28 [(4,q2.1),(3,q1.1),(2,q0.1),(0,lk l 0),(1,lk l 1)],q2.2.1,q2.2.2⟩ r:=rg qq21 c97r4 rfl (by kernel_rfl)
@[simp] theorem uc97b:U c97b (.seq c97k4 c97s3):=ur
theorem i97{x0 x1:AV}(hF:F 97=some c97){q:AV×List Row×Option Nat}(h:Ex F (.fn [.cellN 4 2]) [.code c97b] ⟨mk 28 [(0,x0),(1,x1)],rows,rows.length⟩ fun r=>fin rows r.1 r.2.1 r.2.2=q):Ret F 97 [x0,x1] rows=some q:=Ret_mk hF h
@[simp] theorem uc99k0:Ex F cx (.code c99k0::k) ⟨mk 28 l,rows,low⟩ r↔bnd (evP rows (.fieldA 0 (.c (lk l 5)))) fun v0=>bnd (evP rows (.load1 (.c v0))) fun v1=>bnd (evP rows (.fieldA 0 (.c (lk l 6)))) fun v2=>bnd (evP rows (.load1 (.c v2))) fun v3=>bnd (evP rows (.bin .mul (.c v1) (.c v3))) fun v4=>bnd (evP rows (.fieldA 1 (.c (lk l 5)))) fun v5=>bnd (evP rows (.load1 (.c v5))) fun v6=>bnd (evP rows (.fieldA 1 (.c (lk l 6)))) fun v7=>bnd (evP rows (.load1 (.c v7))) fun v8=>bnd (evP rows (.bin .mul (.c v6) (.c v8))) fun v9=>bnd (evP rows (.mkagg [.int .i64 0,.int .i64 0] [(0,1,(.c v4)),(1,1,(.c v9))])) fun v10=>bnd (evE rows low (.storeN 2 (.c (lk l 4)) (.c v10))) fun q11=>Ex F cx k ⟨mk 28 ([(27,v10),(26,v9),(25,v8),(24,v7),(23,v6),(22,v5),(21,v4),(20,v3),(19,v2),(18,v1),(17,v0)]++kp l qq146),q11.2.1,q11.2.2⟩ r:=rg qq146 c99r0 rfl (by kernel_rfl)
@[simp] theorem uc99s1:U c99s1 (.seq c99k0 .ret):=ur
@[simp] theorem uc99k2:Ex F cx (.code c99k2::k) ⟨mk 28 l,rows,low⟩ r↔bnd (evP (rows++maskE 0 rn) (.fieldA 0 (.c (lk l 2)))) fun v0=>bnd (evP (rows++maskE 1 rn) (.load1 (.c v0))) fun v1=>bnd (evP (rows++maskE 0 rn) (.fieldA 1 (.c (lk l 3)))) fun v2=>bnd (evP (rows++maskE 4 rn) (.load1 (.c v2))) fun v3=>bnd (opC F (rows++maskE 15 rn) (rows.length+rn.length) [v1,v3] [] (.func 106 [])) fun q4=>q4.2.2=rows.length+rn.length/\bnd (some (rn++List.map (fun(x:Row)=>(4,x)) (q4.2.1.drop (rows.length+rn.length)))) fun e4=>bnd (evP (rows++maskE 0 e4) (.fieldA 0 (.c (lk l 3)))) fun v5=>bnd (evP (rows++maskE 32 e4) (.load1 (.c v5))) fun v6=>bnd (evP (rows++maskE 0 e4) (.fieldA 1 (.c (lk l 2)))) fun v7=>bnd (evP (rows++maskE 128 e4) (.load1 (.c v7))) fun v8=>bnd (opC F (rows++maskE 511 e4) (rows.length+e4.length) [v6,v8] [] (.func 106 [])) fun q9=>q9.2.2=rows.length+e4.length/\bnd (some (e4++List.map (fun(x:Row)=>(9,x)) (q9.2.1.drop (rows.length+e4.length)))) fun e9=>bnd (evE (rows++maskE 0 e9) (rows.length+e9.length) (.box (.c (.agg [.int .i64 0,.int .i64 0])))) fun q10=>q10.2.2=rows.length+e9.length/\bnd (some (e9++List.map (fun(x:Row)=>(10,x)) (q10.2.1.drop (rows.length+e9.length)))) fun e10=>bnd (evE (rows++maskE 0 e10) (rows.length+e10.length) (.box (.c (.agg [.int .i64 0,.int .i64 0])))) fun q11=>q11.2.2=rows.length+e10.length/\bnd (some (e10++List.map (fun(x:Row)=>(11,x)) (q11.2.1.drop (rows.length+e10.length)))) fun e11=>bnd (evE (rows++List.map (fun(x:Nat×Row)=>x.2) e11) low (.storeN 2 (.c q10.1) (.c q4.1))) fun q12=>bnd (evE q12.2.1 q12.2.2 (.storeN 2 (.c q11.1) (.c q9.1))) fun q13=>Ex F cx k ⟨mk 28 ([(6,q11.1),(5,q10.1),(16,q9.1),(15,v8),(14,v7),(13,v6),(12,v5),(11,q4.1),(10,v3),(9,v2),(8,v1),(7,v0)]++kp l qq130),q13.2.1,q13.2.2⟩ r:=rg qq130 c99r2 rfl (by kernel_rfl)
@[simp] theorem uc99s3:U c99s3 (.seq c99k2 c99s1):=ur
@[simp] theorem uc99k4:Ex F cx (.code c99k4::k) ⟨mk 28 l,rows,low⟩ r↔bnd (evE rows low (.box (.c (lk l 0)))) fun q0=>bnd (evE q0.2.1 q0.2.2 (.box (.c (lk l 1)))) fun q1=>bnd (evE q1.2.1 q1.2.2 (.box (.c (.agg [.int .i64 0,.int .i64 0])))) fun q2=>Ex F cx k ⟨mk 28 [(4,q2.1),(3,q1.1),(2,q0.1),(0,lk l 0),(1,lk l 1)],q2.2.1,q2.2.2⟩ r:=rg qq21 c99r4 rfl (by kernel_rfl)
@[simp] theorem uc99b:U c99b (.seq c99k4 c99s3):=ur
theorem i99{x0 x1:AV}(hF:F 99=some c99){q:AV×List Row×Option Nat}(h:Ex F (.fn [.cellN 4 2]) [.code c99b] ⟨mk 28 [(0,x0),(1,x1)],rows,rows.length⟩ fun r=>fin rows r.1 r.2.1 r.2.2=q):Ret F 99 [x0,x1] rows=some q:=Ret_mk hF h
@[simp] abbrev Kc106l10:List Itm:=.inLoop c106l10::.inBlock 0::.code c106s9::[]
@[simp] theorem uc106k0:Ex F cx (.code c106k0::k) ⟨mk 30 l,rows,low⟩ r↔bnd (evP rows (.bin .quo (.c (lk l 0)) (.c (lk l 5)))) fun v0=>bnd (evP rows (.bin .quo (.c (lk l 1)) (.c (lk l 5)))) fun v1=>bnd (evP rows (.mkagg [.int .i64 0,.int .i64 0] [(0,1,(.c v0)),(1,1,(.c v1))])) fun v2=>bnd (evE rows low (.storeN 2 (.c (lk l 4)) (.c v2))) fun q3=>Ex F cx k ⟨mk 30 ([(29,v2),(28,v1),(27,lk l 5),(26,lk l 1),(25,v0),(24,lk l 5),(23,lk l 0)]++kp l qq3),q3.2.1,q3.2.2⟩ r:=rg qq3 c106r0 rfl (by kernel_rfl)
@[simp] theorem uc106s1:U c106s1 (.seq c106k0 .ret):=ur
@[simp] theorem uc106k2:Ex F cx (.code c106k2::k) ⟨mk 30 l,rows,low⟩ r↔bnd (evP rows (.un .neg (.c (lk l 5)))) fun v0=>Ex F cx k ⟨mk 30 ([(5,v0),(22,v0),(21,lk l 5)]++kp l qq3),rows,low⟩ r:=rg qq3 c106r2 rfl (by kernel_rfl)
@[simp] theorem uc106s3:U c106s3 (.cond (.t 20) c106k2 .skip):=ur
@[simp] theorem uc106k4:Ex F cx (.code c106k4::k) ⟨mk 30 l,rows,low⟩ r↔bnd (evP rows (.bin .lss (.c (lk l 1)) (.c (.int .i64 0)))) fun v0=>Ex F cx k ⟨mk 30 ([(20,v0),(19,lk l 1)]++kp l qq3),rows,low⟩ r:=rg qq3 c106r4 rfl (by kernel_rfl)
@[simp] theorem uc106s5:U c106s5 (.seq (.seq c106k4 c106s3) c106s1):=ur
@[simp] theorem uc106k6:Ex F cx (.code c106k6::k) ⟨mk 30 l,rows,low⟩ r↔bnd (evP rows (.un .neg (.c (lk l 5)))) fun v0=>Ex F cx k ⟨mk 30 ([(5,v0),(18,v0),(17,lk l 5)]++kp l qq3),rows,low⟩ r:=rg qq3 c106r6 rfl (by kernel_rfl)
@[simp] theorem uc106s7:U c106s7 (.cond (.t 16) c106k6 .skip):=ur
@[simp] theorem uc106k8:Ex F cx (.code c106k8::k) ⟨mk 30 l,rows,low⟩ r↔bnd (evP rows (.bin .lss (.c (lk l 5)) (.c (.int .i64 0)))) fun v0=>Ex F cx k ⟨mk 30 ([(16,v0),(15,lk l 5)]++kp l qq3),rows,low⟩ r:=rg qq3 c106r8 rfl (by kernel_rfl)
@[simp] theorem uc106s9:U c106s9 (.seq (.seq c106k8 c106s7) c106s5):=ur
@[simp] theorem uc106k11:Ex F cx (.code c106k11::k) ⟨mk 30 l,rows,low⟩ r↔bnd (evP rows (.bin .rem (.c (lk l 5)) (.c (lk l 6)))) fun v0=>Ex F cx k ⟨mk 30 ([(6,v0),(5,lk l 6),(14,v0),(13,lk l 6),(12,lk l 5),(11,lk l 6)]++kp l qq2),rows,low⟩ r:=rg qq2 c106r11 rfl (by kernel_rfl)
@[simp] theorem uc106s12:U c106s12 (.block 1 c106k11):=ur
@[simp] theorem uc106s13:U c106s13 (.cond (.t 10) .skip (.exit 0)):=ur
@[simp] theorem uc106k14:Ex F cx (.code c106k14::k) ⟨mk 30 l,rows,low⟩ r↔bnd (evP rows (.bin .neq (.c (lk l 6)) (.c (.int .i64 0)))) fun v0=>Ex F cx k ⟨mk 30 ([(10,v0),(9,lk l 6)]++kp l qq2),rows,low⟩ r:=rg qq2 c106r14 rfl (by kernel_rfl)
@[simp] theorem uc106s15:U c106s15 (.seq (.block 0 (.loop c106l10)) c106s9):=ur
@[simp] theorem uc106k16:Ex F cx (.code c106k16::k) ⟨mk 30 l,rows,low⟩ r↔Ex F cx k ⟨mk 30 ([(6,lk l 1),(5,lk l 0),(8,lk l 1),(7,lk l 0)]++kp l qq4),rows,low⟩ r:=rg qq4 c106r16 rfl (by kernel_rfl)
@[simp] theorem uc106s17:U c106s17 (.seq c106k16 c106s15):=ur
@[simp] theorem uc106k18:Ex F cx (.code c106k18::k) ⟨mk 30 l,rows,low⟩ r↔bnd (evE rows low (.box (.c (.agg [.int .i64 0,.int .i64 0])))) fun q0=>Ex F cx k ⟨mk 30 [(4,q0.1),(0,lk l 0),(1,lk l 1)],q0.2.1,q0.2.2⟩ r:=rg qq21 c106r18 rfl (by kernel_rfl)
def Lc106l10(F:Nat->Option IFn)(cx:Ctx)(x0 x1 x4 x5 x6:AV)(rows:List Row)(low:Nat)(r:AV×List Row×Nat->Prop):Prop:=Ex F cx (.code c106l10::Kc106l10) ⟨mk 30 [(0,x0),(1,x1),(4,x4),(5,x5),(6,x6)],rows,low⟩ r
@[simp] theorem nc106l10:Ex F cx (Kc106l10) ⟨mk 30 l,rows,low⟩ r↔Lc106l10 F cx (lk l 0) (lk l 1) (lk l 4) (lk l 5) (lk l 6) rows low r:=loopN (keep:=qq2) (by kernel_rfl)
@[simp] theorem ec106l10:Ex F cx (.code (.loop c106l10)::.inBlock 0::.code c106s9::[]) ⟨mk 30 l,rows,low⟩ r↔Lc106l10 F cx (lk l 0) (lk l 1) (lk l 4) (lk l 5) (lk l 6) rows low r:=loopE (keep:=qq2) (by kernel_rfl)
@[simp] theorem uc106l10:U c106l10 (.seq (.seq c106k14 c106s13) c106s12):=ur
@[simp] theorem uc106b:U c106b (.seq c106k18 c106s17):=ur
theorem i106{x0 x1:AV}(hF:F 106=some c106){q:AV×List Row×Option Nat}(h:Ex F (.fn [.cellN 4 2]) [.code c106b] ⟨mk 30 [(0,x0),(1,x1)],rows,rows.length⟩ fun r=>fin rows r.1 r.2.1 r.2.2=q):Ret F 106 [x0,x1] rows=some q:=Ret_mk hF h
@[simp] theorem uc123k0:Ex F cx (.code c123k0::k) ⟨mk 24 l,rows,low⟩ r↔bnd (evP rows (.loadN 2 (.c (lk l 2)))) fun v0=>bnd (evP rows (.fieldA 1 (.c (lk l 3)))) fun v1=>bnd (evP rows (.load1 (.c v1))) fun v2=>bnd (evP rows (.fieldA 0 (.c (lk l 3)))) fun v3=>bnd (evP rows (.load1 (.c v3))) fun v4=>bnd (evP rows (.mkagg [.int .i64 0,.int .i64 0] [(0,1,(.c v2)),(1,1,(.c v4))])) fun v5=>bnd (Ret F 99 [v0,v5] rows) fun q6=>bnd (evE q6.2.1 (lowO low q6.2.2) (.storeN 2 (.c (lk l 4)) (.c q6.1))) fun q7=>Ex F cx k ⟨mk 24 ([(23,q6.1),(22,v5),(21,v4),(20,v3),(19,v2),(18,v1),(17,v0)]++kp l qq130),q7.2.1,q7.2.2⟩ r:=rg qq130 c123r0 rfl (by kernel_rfl)
@[simp] theorem uc123s1:U c123s1 (.seq c123k0 .ret):=ur
@[simp] theorem uc123k2:Ex F cx (.code c123k2::k) ⟨mk 24 l,rows,low⟩ r↔bnd (evP rows (.loadN 2 (.c (lk l 2)))) fun v0=>bnd (evP rows (.fieldA 1 (.c (lk l 3)))) fun v1=>bnd (evP rows (.load1 (.c v1))) fun v2=>bnd (evP rows (.un .neg (.c v2))) fun v3=>bnd (evP rows (.fieldA 0 (.c (lk l 3)))) fun v4=>bnd (evP rows (.load1 (.c v4))) fun v5=>bnd (evP rows (.un .neg (.c v5))) fun v6=>bnd (evP rows (.mkagg [.int .i64 0,.int .i64 0] [(0,1,(.c v3)),(1,1,(.c v6))])) fun v7=>bnd (Ret F 99 [v0,v7] rows) fun q8=>bnd (evE q8.2.1 (lowO low q8.2.2) (.storeN 2 (.c (lk l 4)) (.c q8.1))) fun q9=>Ex F cx k ⟨mk 24 ([(16,q8.1),(15,v7),(14,v6),(13,v5),(12,v4),(11,v3),(10,v2),(9,v1),(8,v0)]++kp l qq130),q9.2.1,q9.2.2⟩ r:=rg qq130 c123r2 rfl (by kernel_rfl)
@[simp] theorem uc123s3:U c123s3 (.cond (.t 7) (.seq c123k2 .ret) .skip):=ur
@[simp] theorem uc123k4:Ex F cx (.code c123k4::k) ⟨mk 24 l,rows,low⟩ r↔bnd (evP rows (.fieldA 0 (.c (lk l 3)))) fun v0=>bnd (evP rows (.load1 (.c v0))) fun v1=>bnd (evP rows (.bin .lss (.c v1) (.c (.int .i64 0)))) fun v2=>Ex F cx k ⟨mk 24 ([(7,v2),(6,v1),(5,v0)]++kp l qq130),rows,low⟩ r:=rg qq130 c123r4 rfl (by kernel_rfl)
@[simp] theorem uc123s5:U c123s5 (.seq (.seq c123k4 c123s3) c123s1):=ur
@[simp] theorem uc123k6:Ex F cx (.code c123k6::k) ⟨mk 24 l,rows,low⟩ r↔bnd (evE rows low (.box (.c (lk l 0)))) fun q0=>bnd (evE q0.2.1 q0.2.2 (.box (.c (lk l 1)))) fun q1=>bnd (evE q1.2.1 q1.2.2 (.box (.c (.agg [.int .i64 0,.int .i64 0])))) fun q2=>Ex F cx k ⟨mk 24 [(4,q2.1),(3,q1.1),(2,q0.1),(0,lk l 0),(1,lk l 1)],q2.2.1,q2.2.2⟩ r:=rg qq21 c123r6 rfl (by kernel_rfl)
@[simp] theorem uc123b:U c123b (.seq c123k6 c123s5):=ur
theorem i123{x0 x1:AV}(hF:F 123=some c123){q:AV×List Row×Option Nat}(h:Ex F (.fn [.cellN 4 2]) [.code c123b] ⟨mk 24 [(0,x0),(1,x1)],rows,rows.length⟩ fun r=>fin rows r.1 r.2.1 r.2.2=q):Ret F 123 [x0,x1] rows=some q:=Ret_mk hF h
end Go.Abs
set_option linter.unusedSimpArgs false
namespace Go.Abs
def peS(ks:List Nat)(p:List Int):Nat->List Int
 |0=>p
 |
  i+1=>
  let s:=peS ks p i
  let m:=min (gI s (gN ks i/6)) (gI s (gN ks i%6))
  (s.set (gN ks i/6) m).set (gN ks i%6) m
def pcS(ks:List Nat)(N:Nat):Nat->List Int
 |0=>(List.range N).map fun(v:Nat)=>(v:Int)
 |r+1=>peS ks (pcS ks N r) ks.length
theorem peS_len{ks:List Nat}{p:List Int}:∀i,(peS ks p i).length=p.length
 |0=>rfl
 |i+1=>by simp[peS,peS_len i]
theorem pcS_len{ks:List Nat}{N:Nat}:∀r,(pcS ks N r).length=N
 |0=>by simp[pcS]
 |r+1=>by rw[pcS,peS_len,pcS_len r]
section
variable {rows:List Row}{N:Nat}{ks ps:List Nat}{v g:AV}{l:List Int}
set_option maxHeartbeats 8000000 in
theorem RPieces_edges{B:List Row}{ev pv n0:AV}{c:Cap}(hok:GOK N ks ps)(he:El B 2 ev (nums .i64 (eC ks)) ks.length){low:Nat}(hlow:low<=B.length){r:AV×List Row×Nat->Prop}{x3 x5:AV}(hne:B.length≠sid x3){p:List Int}(hp:p.length=N)
  (hk:∀(L:List Row) (sl:List (Nat×AV)),row? (B++L) B.length=some [n0,ev,pv]->Acc B L 1 c x3 (nums .i64 (peS ks p ks.length)) N->lk sl 1 = .ptr B.length 0->lk sl 3=x3->lk sl 5=x5->Ex F (.fn [.t 2]) [.code c31k3,.inLoop c31l2,.inBlock 2,.code c31s1] ⟨mk 63 sl,B++L,low⟩ r):
  ∀(d i:Nat) (L:List Row),ks.length-i=d->i<=ks.length->row? (B++L) B.length=some [n0,ev,pv]->Acc B L 1 c x3 (nums .i64 (peS ks p i)) N->
  Lc31l4 F (.fn [.t 2]) (.ptr B.length 0) x3 x5 (.int .i64 i) (B++L) low r:=by
 have hek:=hok.ek
 intro d
 induction d with
 |
  zero=>
  intro i L hd h1 hG hA
  have hi:i=ks.length:=by omega
  subst hi
  have he':=El_app he L
  unfold Lc31l4
  simp[hG,lenW he',-uc31k3]
  refine hk L _ hG hA ?_ ?_ ?_<;>simp
 |
  succ d ih=>
  intro i L hd h1 hG hA
  have hi:i<ks.length:=by omega
  have hw:IntKind.i64.wrap ((i:Int)+1)=((i+1:Nat):Int):=by rw[wrap64 (by omega) (by omega)];omega
  obtain⟨e1,e2⟩:=eC_a hi
  have hee:=hok.ee _ (gN_mem hi)
  have n6:=hok.n6
  have hs:peS ks p (i+1)=((peS ks p i).set (gN ks i/6) (min (gI (peS ks p i) (gN ks i/6)) (gI (peS ks p i) (gN ks i%6)))).set (gN ks i%6) (min (gI (peS ks p i) (gN ks i/6)) (gI (peS ks p i) (gN ks i%6))):=rfl
  generalize gN ks i/6=A at *
  generalize gN ks i%6=C at *
  have hAN:A<N:=by omega
  have hCN:C<N:=by omega
  generalize hm:min (gI (peS ks p i) A) (gI (peS ks p i) C)=m at *
  have ixA:=Acc_idx hA hAN
  have ldA:=Acc_ld hA hAN
  have ixC:=Acc_idx hA hCN
  have ldC:=Acc_ld hA hCN
  obtain⟨L1,ev1,hA2,hL1,hR1⟩:=Acc_store (i:=A) (x:=m) hA hAN hlow
  have ixC1:=Acc_idx hA2 hCN
  have hG1:=hR1 _ _ hne hG
  obtain⟨L2,ev2,hA3,hL2,hR2⟩:=Acc_store (i:=C) (x:=m) hA2 hCN hlow
  rw[<-hs]at hA3
  have:=ih (i+1) L2 (by omega) (by omega) (hR2 _ _ hne hG1) hA3
  have he':=El_app he L
  have i01:idx? 0 2=some 0:=rfl
  have i11:idx? 1 2=some 1:=rfl
  have w1:=ldW1 he' (j:=i*2) (by rw[eC_len];omega)
  have w2:=ldW1 he' (j:=i*2+1) (by rw[eC_len];omega)
  rw[<-Nat.add_assoc]at w2
  unfold Lc31l4
  simp (disch:=first|omega|(simp;done)|fail) [hG,lenW he',hi,idxW he',i01,i11,w1,w2,e1,e2,ixA,ldA,ixC,ldC,hm,ev1,ixC1,ev2,hw,-evE_store1]
  simpa using this
set_option maxHeartbeats 8000000 in
theorem RPieces_rounds{B:List Row}{ev pv:AV}{c:Cap}(hok:GOK N ks ps)(he:El B 2 ev (nums .i64 (eC ks)) ks.length){low:Nat}(hlow:low<=B.length){r:AV×List Row×Nat->Prop}{x3:AV}(hne:B.length≠sid x3)
  (hk:∀(L:List Row),Acc B L 1 c x3 (nums .i64 (pcS ks N N)) N->r (x3,B++L,low)):
  ∀(d i:Nat) (L:List Row),N-i=d->i<=N->row? (B++L) B.length=some [.int .i64 N,ev,pv]->Acc B L 1 c x3 (nums .i64 (pcS ks N i)) N->
  Lc31l2 F (.fn [.t 2]) (.ptr B.length 0) x3 (.int .i64 i) (B++L) low r:=by
 have n6:=hok.n6
 intro d
 induction d with
 |
  zero=>
  intro i L hd h1 hG hA
  have hi:i=N:=by omega
  subst hi
  have:=hk L hA
  unfold Lc31l2
  simp[hG]
  exact this
 |
  succ d ih=>
  intro i L hd h1 hG hA
  have hi:i<N:=by omega
  have hw:IntKind.i64.wrap ((i:Int)+1)=((i+1:Nat):Int):=by rw[wrap64 (by omega) (by omega)];omega
  have:=RPieces_edges (c:=c) (pv:=pv) (n0:=.int .i64 N) (x5:=.int .i64 i) (r:=r) hok he hlow hne (pcS_len (ks:=ks) i) (fun L' sl hG' hA' s1 s3 s5=>by
   have:=ih (i+1) L' (by omega) (by omega) hG' hA'
   simp[s1,s3,s5,hw]
   simpa using this) _ 0 L rfl (Nat.zero_le _) hG hA
  unfold Lc31l2
  simp[hG,hi]
  simpa using this
set_option maxHeartbeats 8000000 in
theorem RPieces_fill{B:List Row}{ev pv:AV}(hok:GOK N ks ps)(he:El B 2 ev (nums .i64 (eC ks)) ks.length){low:Nat}(hlow:low<=B.length){r:AV×List Row×Nat->Prop}
  (hk:∀(L:List Row) (x3:AV),Acc B L 1 (.op 1) x3 (nums .i64 (pcS ks N N)) N->r (x3,B++L,low)):
  ∀(d i:Nat) (L:List Row) (x3:AV),N-i=d->i<=N->row? (B++L) B.length=some [.int .i64 N,ev,pv]->(x3 = .nilslice/\i=0\/B.length<sid x3)->Acc B L 1 (.op 1) x3 (nums .i64 ((List.range i).map fun(v:Nat)=>(v:Int))) i->
  Lc31l23 F (.fn [.t 2]) (.ptr B.length 0) x3 (.int .i64 i) (B++L) low r:=by
 have n6:=hok.n6
 have n1:=hok.n1
 intro d
 induction d with
 |
  zero=>
  intro i L x3 hd h1 hG hx hA
  have hi:i=N:=by omega
  subst hi
  have hne:B.length≠sid x3:=by
   rcases hx with ⟨_,h⟩|h
   ·omega
   ·omega
  have:=RPieces_rounds (c:=.op 1) (r:=r) (x3:=x3) (pv:=pv) hok he hlow hne (fun L hA=>hk L x3 hA) _ 0 L rfl (Nat.zero_le _) hG hA
  unfold Lc31l23
  simp[hG]
  simpa using this
 |
  succ d ih=>
  intro i L x3 hd h1 hG hx hA
  have hi:i<N:=by omega
  have hw:IntKind.i64.wrap ((i:Int)+1)=((i+1:Nat):Int):=by rw[wrap64 (by omega) (by omega)];omega
  obtain⟨x3',L2,ev2,hA2,hid,hsid,hLl⟩:=Acc_more2 (low:=low) (b:=8) (x:=[.int .i64 i]) hA rfl (by omega) (by omega) hlow
  rw[show nums .i64 ((List.range i).map fun(v:Nat)=>(v:Int))++[.int .i64 i]=nums .i64 ((List.range (i+1)).map fun(v:Nat)=>(v:Int))from by rw[List.range_succ,List.map_append,<-nums_app];rfl]at hA2
  have hGl:B.length<B.length+L.length:=by have:=row?_lt hG;simpa using this
  have hG2:row? (B++L2) B.length=some [.int .i64 N,ev,pv]:=by
   unfold row? at hG ⊢
   rw[hid B.length hGl (by
    rcases hx with ⟨h,_⟩|h
    ·exact .inl h
    ·exact .inr (by omega))]
   exact hG
  have:=ih (i+1) L2 x3' (by omega) (by omega) hG2 (.inr (by omega)) hA2
  unfold Lc31l23
  simp[hG,hi,fillA,splice,ev2,hw]
  simpa using this
set_option maxHeartbeats 4000000 in
theorem RPieces_ret(hg:GRd rows g N ks ps):LRet1 31 [g] rows (pcS ks N N):=by
 obtain⟨ev,pv,rfl,he,hp,_⟩:=hg.eq
 have hok:=hg.ok
 have o1:=El_one he
 have o2:=El_one hp
 let Q:AV×List Row×Nat->Prop:=fun r=>∃v X,fin rows r.1 r.2.1 r.2.2=(v,rows++X,none)/\X.all (Row.under 0)=true/\IsL (rows++X) v (pcS ks N N)/\Cp 1 v
 have main:Ex F (.fn [.t 2]) [.code c31b] ⟨mk 63 [(0,.agg [.int .i64 N,ev,pv])],rows,rows.length⟩ Q:=by
  have hloop:=RPieces_fill (B:=rows) (pv:=pv) (low:=rows.length) (r:=Q) hok he (Nat.le_refl _) (fun L x3 hA=>by
   obtain⟨v',X,e,h1,h2,h3,h4⟩:=Acc_fin1 hA (.inl rfl)
   exact⟨v',X,e,h1,h2,h4⟩) _ 0 [.cells [.int .i64 N,ev,pv]] .nilslice rfl (Nat.zero_le _) row_end (.inl ⟨rfl,rfl⟩) Acc_nil
  simp[o1,o2]
  simpa using hloop
 obtain⟨n1,q,e,v',X,h1,h2⟩:=main
 exact⟨v',X,i31 F31 ⟨n1,q,e,h1⟩,h2⟩
def cntS(p:List Int):Nat->Nat
 |0=>0
 |i+1=>cntS p i+if gI p i=(i:Int)then 1 else 0
theorem cntS_le{p:List Int}:∀i,cntS p i<=i
 |0=>Nat.le_refl _
 |
  i+1=>by
  have:=cntS_le (p:=p) i
  rw[cntS]
  split<;>omega
set_option maxHeartbeats 4000000 in
theorem Count_loop{R:List Row}{w n1 n2:AV}{a:Nat}{p:List Int}(h:IsL R w p)(hp:p.length=N)(hN:N<=6)(ha:row? R a=some [.int .i64 N,n1,n2]){low:Nat}{r:AV×List Row×Nat->Prop}(hr:r (.int .i64 (cntS p N),R,low)):∀(d i:Nat),N-i=d->i<=N->
  Lc56l2 F (.fn [.t 2]) (.ptr a 0) (.int .i64 (cntS p i)) w (.int .i64 i) R low r:=by
 intro d
 induction d with
 |
  zero=>
  intro i hd h1
  have hi:i=N:=by omega
  subst hi
  unfold Lc56l2
  simp[ha]
  exact hr
 |
  succ d ih=>
  intro i hd h1
  have hi:i<N:=by omega
  have hw:IntKind.i64.wrap ((i:Int)+1)=((i+1:Nat):Int):=by rw[wrap64 (by omega) (by omega)];omega
  have hc:=cntS_le (p:=p) i
  have hw2:IntKind.i64.wrap ((cntS p i:Int)+1)=((cntS p i+1:Nat):Int):=by rw[wrap64 (by omega) (by omega)];omega
  have:=ih (i+1) (by omega) (by omega)
  rw[cntS]at this
  unfold Lc56l2
  by_cases c:gI p i=(i:Int)
  ·rw[if_pos c]at this
   simp (disch:=first|omega|(simp;done)|fail) [ha,hi,idxL0 h,loadL0 h,c,hw,hw2]
   simpa using this
  ·rw[if_neg c]at this
   simp (disch:=first|omega|(simp;done)|fail) [ha,hi,idxL0 h,loadL0 h,c,hw]
   simpa using this
set_option maxHeartbeats 4000000 in
theorem Count_ret(hg:GRd rows g N ks ps):Ret F 56 [g] rows=some (.int .i64 (cntS (pcS ks N N) N),rows,none):=by
 obtain⟨ev,pv,rfl,he,hp,_⟩:=id hg.eq
 have hok:=hg.ok
 have o1:=El_one he
 have o2:=El_one hp
 obtain⟨v',X,r31,_,k,_⟩:=RPieces_ret (hg.app [.cells [.int .i64 N,ev,pv]])
 have hrow:row? (rows++[.cells [.int .i64 N,ev,pv]]++X) rows.length=some [.int .i64 N,ev,pv]:=row?_old row_end X
 have hloop:=Count_loop (r:=fun r=>fin rows r.1 r.2.1 r.2.2=(.int .i64 (cntS (pcS ks N N) N),rows,none)) k (pcS_len N) hok.n6 hrow (low:=rows.length) (by simp) _ 0 rfl (Nat.zero_le _)
 refine i56 F56 ?_
 simp[o1,o2,seg,r31]
 simpa[cntS]using hloop
end
end Go.Abs
namespace Go.Abs
def Adj(ks:List Nat)(u v:Nat):Prop:=∃k∈ks,(k/6=u/\k%6=v)\/(k/6=v/\k%6=u)
inductive Cn(ks:List Nat):Nat->Nat->Prop
 |refl (u:Nat):Cn ks u u
 |step {u v w:Nat}:Cn ks u v->Adj ks v w->Cn ks u w
theorem Adj.symm{ks:List Nat}{u v:Nat}(h:Adj ks u v):Adj ks v u:=by
 obtain⟨k,hk,h⟩:=h
 exact⟨k,hk,h.symm⟩
theorem Cn.trans{ks:List Nat}{u v w:Nat}(h1:Cn ks u v)(h2:Cn ks v w):Cn ks u w:=by
 induction h2 with
 |refl=>exact h1
 |step _ a ih=>exact .step ih a
theorem Cn.symm{ks:List Nat}{u v:Nat}(h:Cn ks u v):Cn ks v u:=by
 induction h with
 |refl=>exact .refl _
 |step _ a ih=>exact Cn.trans (.step (.refl _) a.symm) ih
def Lst(ks:List Nat)(v:Nat):Prop:=∀u,Cn ks v u->v<=u
theorem Lst_ex{ks:List Nat}:∀v,∃u,Cn ks v u/\Lst ks u:=by
 intro v
 induction v using Nat.strongRecOn with
 |
  ind v ih=>
  by_cases h:Lst ks v
  ·exact⟨v,.refl _,h⟩
  ·obtain⟨w,hw⟩:∃w,¬(Cn ks v w->v<=w):=by
    apply Classical.byContradiction
    intro hn
    exact h fun u hu=>Classical.byContradiction fun hc=>hn ⟨u,fun hi=>hc (hi hu)⟩
   have hc:Cn ks v w:=Classical.byContradiction fun hc=>hw fun hi=>absurd hi hc
   have hlt:w<v:=by
    apply Nat.lt_of_not_le
    intro hle
    exact hw fun _=>hle
   obtain⟨u,hu1,hu2⟩:=ih w hlt
   exact⟨u,hc.trans hu1,hu2⟩
theorem Cn_lt{N:Nat}{ks ps:List Nat}(hok:GOK N ks ps){u v:Nat}(h:Cn ks u v)(hu:u<N):v<N:=by
 induction h with
 |refl=>exact hu
 |
  step _ a _=>
  obtain⟨k,hk,h⟩:=a
  have:=hok.ee k hk
  omega
open Classical in
noncomputable def cntL(ks:List Nat):Nat->Nat
 |0=>0
 |i+1=>cntL ks i+if Lst ks i then 1 else 0
theorem filter_lt{f g:Nat->Bool}:∀{l:List Nat},(∀x∈l,f x=true->g x=true)->(l.filter f).length<=(l.filter g).length/\((∃x∈l,g x=true/\f x=false)->(l.filter f).length<(l.filter g).length)
 |[],_=>⟨Nat.le_refl _,fun⟨x,hx,_⟩=>by simp at hx⟩
 |
  a::l,h=>by
  have ih:=filter_lt (l:=l) fun x hx=>h x (List.mem_cons_of_mem _ hx)
  have ha:=h a (List.mem_cons_self ..)
  constructor
  ·cases hf:f a with
   |true=>simp[hf,ha hf];exact ih.1
   |
    false=>
    cases hg:g a with
    |true=>simp[hf,hg];have:=ih.1;omega
    |false=>simp[hf,hg];exact ih.1
  ·rintro ⟨x,hx,h1,h2⟩
   rcases List.mem_cons.1 hx with rfl|hx
   ·simp[h1,h2];have:=ih.1;omega
   ·have:=ih.2 ⟨x,hx,h1,h2⟩
    cases hf:f a with
    |true=>simp[hf,ha hf];omega
    |
     false=>
     cases hg:g a with
     |true=>simp[hf,hg];omega
     |false=>simp[hf,hg];exact this
section
variable {N:Nat}{ks ps:List Nat}
def PIn(N:Nat)(ks:List Nat)(p:List Int):Prop:=p.length=N/\∀v,v<N->∃u:Nat,gI p v=u/\Cn ks v u
theorem gI_set_eq{c:List Int}{i:Nat}{x:Int}(h:i<c.length):gI (c.set i x) i=x:=by
 simp only[gI,List.getD_eq_getElem?_getD]
 rw[List.getElem?_set_self h]
 rfl
theorem gI_set{c:List Int}{i j:Nat}{x:Int}(h:i<c.length):gI (c.set i x) j=if j=i then x else gI c j:=by
 split
 ·rename_i e;subst e;exact gI_set_eq h
 ·rename_i e;exact gI_set_ne (fun h=>e h.symm)
theorem pe_get{p:List Int}{i:Nat}(hl:(peS ks p i).length=N)(h1:gN ks i/6<N)(h2:gN ks i%6<N)(v:Nat):
  gI (peS ks p (i+1)) v=if v=gN ks i/6\/v=gN ks i%6 then min (gI (peS ks p i) (gN ks i/6)) (gI (peS ks p i) (gN ks i%6))else gI (peS ks p i) v:=by
 rw[peS]
 rw[gI_set (by simp;omega),gI_set (by omega)]
 by_cases c1:v=gN ks i%6
 ·rw[if_pos c1,if_pos (.inr c1)]
 ·by_cases c2:v=gN ks i/6
  ·rw[if_neg c1,if_pos c2,if_pos (.inl c2)]
  ·rw[if_neg c1,if_neg c2,if_neg (by omega)]
theorem pe_adj{i:Nat}(hi:i<ks.length):Adj ks (gN ks i/6) (gN ks i%6):=⟨_,gN_mem hi,.inl ⟨rfl,rfl⟩⟩
theorem pe_in(hok:GOK N ks ps){p:List Int}(h:PIn N ks p):∀i,i<=ks.length->PIn N ks (peS ks p i)
 |0,_=>h
 |
  i+1,hi=>by
  have ih:=pe_in hok h i (by omega)
  have hee:=hok.ee _ (gN_mem (show i<ks.length by omega))
  have ha:=pe_adj (show i<ks.length by omega)
  refine⟨by rw[peS_len];exact h.1,fun v hv=>?_⟩
  rw[pe_get ih.1 (by omega) hee.2]
  obtain⟨ua,ea,ca⟩:=ih.2 (gN ks i/6) (by omega)
  obtain⟨ub,eb,cb⟩:=ih.2 (gN ks i%6) (by omega)
  split
  ·rename_i hv2
   have hva:Cn ks v (gN ks i/6):=by
    rcases hv2 with e|e
    ·rw[e];exact .refl _
    ·rw[e];exact .step (.refl _) ha.symm
   have hvb:Cn ks v (gN ks i%6):=.step hva ha
   rw[ea,eb]
   by_cases c:ua<=ub
   ·exact⟨ua,by omega,hva.trans ca⟩
   ·exact⟨ub,by omega,hvb.trans cb⟩
  ·exact ih.2 v hv
theorem pc_in(hok:GOK N ks ps):∀r,PIn N ks (pcS ks N r)
 |0=>⟨pcS_len 0,fun v hv=>⟨v,by simp[pcS,gI,hv],.refl _⟩⟩
 |
  r+1=>by
  rw[pcS]
  exact pe_in hok (pc_in hok r) _ (Nat.le_refl _)
theorem pe_keep(hok:GOK N ks ps){p:List Int}(h:PIn N ks p){u:Nat}(hu:Lst ks u){v:Nat}(hv:v<N):∀i j,i<=j->j<=ks.length->gI (peS ks p i) v=u->gI (peS ks p j) v=u:=by
 intro i j hij hj
 induction j with
 |
  zero=>
  obtain rfl:i=0:=by omega
  exact id
 |
  succ j ih=>
  intro hiv
  rcases Nat.eq_or_lt_of_le hij with e|e
  ·rw[<-e];exact hiv
  ·have hp:=ih (by omega) (by omega) hiv
   have hin:=pe_in hok h j (by omega)
   have hee:=hok.ee _ (gN_mem (show j<ks.length by omega))
   have ha:=pe_adj (show j<ks.length by omega)
   rw[pe_get hin.1 (by omega) hee.2]
   split
   ·rename_i hv2
    obtain⟨ua,ea,ca⟩:=hin.2 (gN ks j/6) (by omega)
    obtain⟨ub,eb,cb⟩:=hin.2 (gN ks j%6) (by omega)
    have hva:Cn ks v (gN ks j/6):=by
     rcases hv2 with e|e
     ·rw[e];exact .refl _
     ·rw[e];exact .step (.refl _) ha.symm
    have hvb:Cn ks v (gN ks j%6):=.step hva ha
    obtain⟨uv,ev,cv⟩:=hin.2 v hv
    have huv:uv=u:=by omega
    rw[huv]at cv
    have h1:=hu ua (cv.symm.trans (hva.trans ca))
    have h2:=hu ub (cv.symm.trans (hvb.trans cb))
    rw[ea,eb]
    rcases hv2 with e|e
    ·rw[e,ea]at hp;omega
    ·rw[e,eb]at hp;omega
   ·exact hp
def TB(p:List Int)(u:Nat)(v:Nat):Bool:=decide (gI p v=(u:Int))
def Clo(ks:List Nat)(p:List Int)(u:Nat):Prop:=∀k∈ks,gI p (k/6)=(u:Int)↔gI p (k%6)=(u:Int)
theorem pc_grow(hok:GOK N ks ps){u:Nat}(hu:Lst ks u)(r:Nat)(hn:¬Clo ks (pcS ks N r) u):((List.range N).filter (TB (pcS ks N r) u)).length<((List.range N).filter (TB (pcS ks N (r+1)) u)).length:=by
 have hin:=pc_in hok r
 have hkeep:=fun v (hv:v<N)=>pe_keep hok hin hu hv 0 ks.length (Nat.zero_le _) (Nat.le_refl _)
 refine(filter_lt fun x hx h=>?_).2 ?_
 ·have hx:=List.mem_range.1 hx
  simp only[TB,decide_eq_true_eq]at h ⊢
  exact hkeep x hx h
 ·obtain⟨k,hk⟩:∃k,¬(k∈ks->(gI (pcS ks N r) (k/6)=(u:Int)↔gI (pcS ks N r) (k%6)=(u:Int))):=by
   apply Classical.byContradiction
   intro h
   exact hn fun k hk=>Classical.byContradiction fun hc=>h ⟨k,fun hi=>hc (hi hk)⟩
  have hkm:k∈ks:=Classical.byContradiction fun hc=>hk fun h=>absurd h hc
  have hkn:¬(gI (pcS ks N r) (k/6)=(u:Int)↔gI (pcS ks N r) (k%6)=(u:Int)):=fun h=>hk fun _=>h
  obtain⟨i,hi,rfl⟩:=List.mem_iff_getElem.1 hkm
  rw[<-gN_eq hi]at hkn
  have hee:=hok.ee _ (gN_mem hi)
  have hin2:=pe_in hok hin i (by omega)
  -- both ends have it then
  have both:∀w,(w=gN ks i/6\/w=gN ks i%6)->gI (pcS ks N r) w=(u:Int)->∀x,(x=gN ks i/6\/x=gN ks i%6)->gI (pcS ks N (r+1)) x=(u:Int):=by
   intro w hw hwu x hx
   have hwN:w<N:=by rcases hw with e|e<;>omega
   have hxN:x<N:=by rcases hx with e|e<;>omega
   have h1:=pe_keep hok hin hu hwN 0 i (Nat.zero_le _) (by omega) hwu
   have h2:=pe_keep hok hin hu hwN i (i+1) (by omega) (by omega) h1
   rw[pe_get hin2.1 (by omega) hee.2,if_pos hw]at h2
   have h3:gI (peS ks (pcS ks N r) (i+1)) x=u:=by
    rw[pe_get hin2.1 (by omega) hee.2,if_pos hx];exact h2
   exact pe_keep hok hin hu hxN (i+1) ks.length (by omega) (Nat.le_refl _) h3
  by_cases c:gI (pcS ks N r) (gN ks i/6)=(u:Int)
  ·have c2:¬gI (pcS ks N r) (gN ks i%6)=(u:Int):=fun h=>hkn ⟨fun _=>h,fun _=>c⟩
   exact⟨gN ks i%6,List.mem_range.2 (by omega),by simp only[TB,decide_eq_true_eq];exact both _ (.inl rfl) c _ (.inr rfl),by simp only[TB,decide_eq_false_iff_not];exact c2⟩
  ·have c2:gI (pcS ks N r) (gN ks i%6)=(u:Int):=Classical.byContradiction fun h=>hkn ⟨fun h1=>absurd h1 c,fun h1=>absurd h1 h⟩
   exact⟨gN ks i/6,List.mem_range.2 (by omega),by simp only[TB,decide_eq_true_eq];exact both _ (.inr rfl) c2 _ (.inl rfl),by simp only[TB,decide_eq_false_iff_not];exact c⟩
theorem pc_keep(hok:GOK N ks ps){u:Nat}(hu:Lst ks u){v:Nat}(hv:v<N){r:Nat}(h:gI (pcS ks N r) v=(u:Int)):∀d,gI (pcS ks N (r+d)) v=(u:Int)
 |0=>h
 |
  d+1=>by
  rw[<-Nat.add_assoc,pcS]
  exact pe_keep hok (pc_in hok _) hu hv 0 ks.length (Nat.zero_le _) (Nat.le_refl _) (pc_keep hok hu hv h d)
theorem pc_least(hok:GOK N ks ps){u v:Nat}(hu:Lst ks u)(huN:u<N)(hc:Cn ks u v):gI (pcS ks N N) v=(u:Int):=by
 have h0:gI (pcS ks N 0) u=(u:Int):=by simp[pcS,gI,huN]
 have hgrow:∀r,(∃r',r'<r/\Clo ks (pcS ks N r') u)\/r+1<=((List.range N).filter (TB (pcS ks N r) u)).length:=by
  intro r
  induction r with
  |
   zero=>
   right
   have hm:u∈(List.range N).filter (TB (pcS ks N 0) u):=List.mem_filter.2 ⟨List.mem_range.2 huN,by simp[TB,h0]⟩
   exact List.length_pos_of_mem hm
  |
   succ r ih=>
   rcases ih with ⟨r',h1,h2⟩|h
   ·exact .inl ⟨r',by omega,h2⟩
   ·by_cases c:Clo ks (pcS ks N r) u
    ·exact .inl ⟨r,by omega,c⟩
    ·right
     have:=pc_grow hok hu r c
     omega
 have hle:=List.length_filter_le (TB (pcS ks N N) u) (List.range N)
 rw[List.length_range]at hle
 obtain⟨r,hr,hclo⟩:∃r',r'<N/\Clo ks (pcS ks N r') u:=by
  rcases hgrow N with h|h
  ·exact h
  ·omega
 have hall:gI (pcS ks N r) v=(u:Int):=by
  induction hc with
  |refl=>simpa using pc_keep hok hu huN h0 r
  |
   step _ a ih=>
   obtain⟨k,hk,e|e⟩:=a
   ·rw[<-e.2];exact(hclo k hk).1 (by rw[e.1];exact ih)
   ·rw[<-e.1];exact(hclo k hk).2 (by rw[e.2];exact ih)
 have:=pc_keep hok hu (Cn_lt hok hc huN) hall (N-r)
 rwa[show r+(N-r)=N from by omega]at this
theorem pc_iff(hok:GOK N ks ps){v:Nat}(hv:v<N):gI (pcS ks N N) v=(v:Int)↔Lst ks v:=by
 constructor
 ·intro h
  obtain⟨u,hu1,hu2⟩:=Lst_ex (ks:=ks) v
  have:=pc_least hok hu2 (Cn_lt hok hu1 hv) hu1.symm
  have:u=v:=by omega
  rw[<-this];exact hu2
 ·intro h
  exact pc_least hok h hv (.refl _)
theorem cnt_eq(hok:GOK N ks ps):∀i,i<=N->cntS (pcS ks N N) i=cntL ks i
 |0,_=>rfl
 |
  i+1,hi=>by
  rw[cntS,cntL,cnt_eq hok i (by omega)]
  have:=pc_iff hok (show i<N by omega)
  by_cases c:Lst ks i
  ·rw[if_pos c,if_pos (this.2 c)]
  ·rw[if_neg c,if_neg (fun h=>c (this.1 h))]
end
end Go.Abs
namespace Go.Abs
variable {F:Nat->Option IFn}{cx:Ctx}{k:List Itm}{r:AV×List Row×Nat->Prop}
theorem subI_pure{o:IOp}(h:o.pure=true)(g:Opd->AV):(subI g o).pure=true:=by cases o<;>first|rfl|simp[IOp.pure]at h
theorem evalG_p{B:Nat->List Row}{i d b n:Nat}{l:List (Nat×AV)}{op:IOp}{g:List (IOpx×Nat)}(hop:op.pure=true):
  evalG (Ret F) B i ((⟨some d,op,none⟩,b)::g) (mk n l) []=(evP (B i) (subI (getO (mk n l)) op)).bind fun v=>evalG (Ret F) B (i+1) g (mk n ((d,v)::l)) []:=by
 have h1:opG F getO (mk n l) (B i++maskE b []) ((B i).length+([]:List (Nat×Row)).length) ⟨some d,op,none⟩=(evP (B i) (subI (getO (mk n l)) op)).map fun v=>(v,B i,(B i).length):=by
  have h2:opG F getO (mk n l) (B i++maskE b []) ((B i).length+([]:List (Nat×Row)).length) ⟨some d,op,none⟩=evE (B i++maskE b []) ((B i).length+([]:List (Nat×Row)).length) (subI (getO (mk n l)) op):=by
   cases op<;>first|rfl|simp[IOp.pure]at hop
  rw[h2]
  simp only[maskE_nil,List.append_nil,List.length_nil,Nat.add_zero]
  exact evalE_pure (subI_pure hop _) _ _ _
 rw[evalG,opG_ok,h1]
 cases evP (B i) (subI (getO (mk n l)) op)with
 |none=>rfl
 |some v=>simp[putO,mk_set]
theorem evalG_p0{B:Nat->List Row}{i b n:Nat}{l:List (Nat×AV)}{op:IOp}{g:List (IOpx×Nat)}(hop:op.pure=true):
  evalG (Ret F) B i ((⟨none,op,none⟩,b)::g) (mk n l) []=(evP (B i) (subI (getO (mk n l)) op)).bind fun _=>evalG (Ret F) B (i+1) g (mk n l) []:=by
 have h1:opG F getO (mk n l) (B i++maskE b []) ((B i).length+([]:List (Nat×Row)).length) ⟨none,op,none⟩=(evP (B i) (subI (getO (mk n l)) op)).map fun v=>(v,B i,(B i).length):=by
  have h2:opG F getO (mk n l) (B i++maskE b []) ((B i).length+([]:List (Nat×Row)).length) ⟨none,op,none⟩=evE (B i++maskE b []) ((B i).length+([]:List (Nat×Row)).length) (subI (getO (mk n l)) op):=by
   cases op<;>first|rfl|simp[IOp.pure]at hop
  rw[h2]
  simp only[maskE_nil,List.append_nil,List.length_nil,Nat.add_zero]
  exact evalE_pure (subI_pure hop _) _ _ _
 rw[evalG,opG_ok,h1]
 cases evP (B i) (subI (getO (mk n l)) op)with
 |none=>rfl
 |some v=>simp[putO]
theorem evalG_nil{B:Nat->List Row}{i:Nat}{sl:List AV}:evalG (Ret F) B i [] sl []=some (sl,[]):=rfl
section
variable {B:Nat->List Row}{i d b n:Nat}{l:List (Nat×AV)}{g:List (IOpx×Nat)}
theorem evalG_mv{x:Opd}:evalG (Ret F) B i ((⟨some d,.mv x,none⟩,b)::g) (mk n l) []=(evP (B i) (.mv (subO (getO (mk n l)) x))).bind fun v=>evalG (Ret F) B (i+1) g (mk n ((d,v)::l)) []:=evalG_p rfl
theorem evalG_nilck{x:Opd}:evalG (Ret F) B i ((⟨some d,.nilck x,none⟩,b)::g) (mk n l) []=(evP (B i) (.nilck (subO (getO (mk n l)) x))).bind fun v=>evalG (Ret F) B (i+1) g (mk n ((d,v)::l)) []:=evalG_p rfl
theorem evalG_fieldA{o:Nat}{x:Opd}:evalG (Ret F) B i ((⟨some d,.fieldA o x,none⟩,b)::g) (mk n l) []=(evP (B i) (.fieldA o (subO (getO (mk n l)) x))).bind fun v=>evalG (Ret F) B (i+1) g (mk n ((d,v)::l)) []:=evalG_p rfl
theorem evalG_idxA{m z:Nat}{x y:Opd}:evalG (Ret F) B i ((⟨some d,.idxA m z x y,none⟩,b)::g) (mk n l) []=(evP (B i) (.idxA m z (subO (getO (mk n l)) x) (subO (getO (mk n l)) y))).bind fun v=>evalG (Ret F) B (i+1) g (mk n ((d,v)::l)) []:=evalG_p rfl
theorem evalG_load1{x:Opd}:evalG (Ret F) B i ((⟨some d,.load1 x,none⟩,b)::g) (mk n l) []=(evP (B i) (.load1 (subO (getO (mk n l)) x))).bind fun v=>evalG (Ret F) B (i+1) g (mk n ((d,v)::l)) []:=evalG_p rfl
theorem evalG_bin{o:BinOp}{x y:Opd}:evalG (Ret F) B i ((⟨some d,.bin o x y,none⟩,b)::g) (mk n l) []=(evP (B i) (.bin o (subO (getO (mk n l)) x) (subO (getO (mk n l)) y))).bind fun v=>evalG (Ret F) B (i+1) g (mk n ((d,v)::l)) []:=evalG_p rfl
theorem evalG_lenc{m:Nat}:evalG (Ret F) B i ((⟨none,.lenc m,none⟩,b)::g) (mk n l) []=evalG (Ret F) B (i+1) g (mk n l) []:=by rw[evalG_p0 rfl];rfl
end
end Go.Abs
namespace Go.Abs
variable {cx:Ctx}{k:List Itm}{r:AV×List Row×Nat->Prop}
theorem walk_ops{l0:List (Nat×AV)}{R:List Row}{low:Nat}:Ex F cx (.ops [.one ⟨some 107,.idxA 6 1 (.t 106) (.t 92),none⟩,.one ⟨none,.store1 (.t 107) (.t 101),none⟩]::k) ⟨mk 116 l0,R,low⟩ r↔
  bnd (evP R (.idxA 6 1 (.c (lk l0 106)) (.c (lk l0 92)))) fun v=>bnd (evE R low (.store1 (.c v) (.c (lk l0 101)))) fun q=>Ex F cx k ⟨mk 116 ((107,v)::l0),q.2.1,q.2.2⟩ r:=by
 rw[Ex_runQ rfl]
 exact Iff.rfl
set_option maxHeartbeats 8000000 in
theorem walk_k10{R:List Row}{W low A T:Nat}{D:List Int}{f:Int}{sl:List (Nat×AV)}(hW:R[W]?=some (.cells (nums .i64 D)))(hD:D.length=13)(hA:A<6)(hT:T<6)(hlow:low<=W)
  (s5:lk sl 5 = .ptr W 0) (s9:lk sl 9 = .int .i64 A) (s14:lk sl 14 = .int .i64 T) (s15:lk sl 15 = .int .i64 f)
  (h:∀sl',(∀j∈[1,2,5,6,8,9,10,11,14,20,21,53,54,55,60],lk sl' j=lk sl j)->Ex F cx k ⟨mk 116 sl',R.set W (.cells (nums .i64 ((D.set T A).set (6+T) (IntKind.i64.wrap (gI D (6+A)+f))))),low⟩ r):
  Ex F cx (.code c78k10::k) ⟨mk 116 sl,R,low⟩ r:=by
 have hWl:=(List.getElem?_eq_some_iff.1 hW).1
 have hrow:row? R W=some (nums .i64 D):=by unfold row?;rw[hW]
 have hm:maskR R W T 1=R.set W (.cells (splice (nums .i64 D) T [.any])):=by unfold maskR;rw[hW];rfl
 have hld:(nums .i64 D)[6+A]?=some (.int .i64 (gI D (6+A))):=by rw[nums_get,gI_get (by omega)];rfl
 have hrm:row? (R.set W (.cells (splice (nums .i64 D) T [.any]))) W=some (splice (nums .i64 D) T [.any]):=by unfold row?;rw[List.getElem?_set_self hWl]
 have hld2:(splice (nums .i64 D) T [.any])[6+A]?=some (.int .i64 (gI D (6+A))):=by
  rw[splice_one _ _ _ (by simp[nums];omega),List.getElem?_set_ne (by omega)];exact hld
 have iA:idx? (A:Int) 6=some A:=by simp[hA]
 have iT:idx? (T:Int) 6=some T:=by simp[hT]
 rw[uc78k10,Ex_kill,kill_dead,Ex_ops,uc78r10,Ex_grpwR]
 simp[evalG_mv,evalG_nilck,evalG_fieldA,evalG_idxA,evalG_load1,evalG_bin,evalG_lenc,evalG_nil,subO,s5,s9,s14,s15,iA,iT,hrow,hld,hm,hrm,hld2,baseW,stored]
 refine⟨W,T,⟨rfl,rfl⟩,?_⟩
 have tb:Nat.testBit 59379 10=true:=by decide
 have hlen:(nums .i64 D).length=13:=by simp[nums,hD]
 have hset1:(nums .i64 D).set T (.int .i64 A)=nums .i64 (D.set T A):=by simp[nums,List.map_set]
 have hset2:(nums .i64 (D.set T A)).set (6+T) (.int .i64 (IntKind.i64.wrap (gI D (6+A)+f)))=nums .i64 ((D.set T A).set (6+T) (IntKind.i64.wrap (gI D (6+A)+f))):=by simp[nums,List.map_set]
 have hcel:cells? (R.set W (.cells (nums .i64 (D.set T A)))) W=some (nums .i64 (D.set T A)):=by unfold cells?;rw[List.getElem?_set_self hWl]
 have hlen2:(nums .i64 (D.set T A)).length=13:=by simp[nums,hD]
 have hlw:lower low W=low:=lower_ge' hlow
 have hset3:(R.set W (.cells (nums .i64 (D.set T A)))).set W (.cells (nums .i64 ((D.set T A).set (6+T) (IntKind.i64.wrap (gI D (6+A)+f)))))=R.set W (.cells (nums .i64 ((D.set T A).set (6+T) (IntKind.i64.wrap (gI D (6+A)+f))))):=by rw[List.set_set]
 rw[if_pos tb,hrow]
 simp only[Option.bind_some,hld,evP_bin,binA_add]
 refine⟨_,_,rfl,_,by simp[hW,hlen,show T<13 by omega,hset1];rfl,?_⟩
 rw[hlw]
 simp only[List.map_nil,List.append_nil]
 rw[walk_ops]
 simp[iT,hcel,hlen2,show 6+T<13 by omega,hset2,hset3,hlw]
 refine h _ ?_
 intro j hj
 simp only[List.mem_cons,List.not_mem_nil,or_false]at hj
 rcases hj with rfl|rfl|rfl|rfl|rfl|rfl|rfl|rfl|rfl|rfl|rfl|rfl|rfl|rfl|rfl<;>simp[s5,s9,s14]
end Go.Abs
namespace Go.Abs
def mpE(S:List Nat):List (AV×AV):=S.map fun(v:Nat)=>(AV.int .i64 (v:Int),AV.bool true)
theorem findK_mp{t:Nat}:∀(S:List Nat) (i:Nat),∃j,findK (.int .i64 (t:Int)) (mpE S) i=some (if t∈S then some (j,AV.bool true)else none)
 |[],i=>⟨0,by simp[mpE,findK]⟩
 |
  v::S,i=>by
  obtain⟨j,hj⟩:=findK_mp (t:=t) S (i+1)
  by_cases c:t=v
  ·refine⟨i,?_⟩
   subst c
   simp[mpE,findK,keyEq]
  ·refine⟨j,?_⟩
   have e:mpE (v::S)=(AV.int .i64 (v:Int),AV.bool true)::mpE S:=rfl
   have hk:keyEq (.int .i64 (t:Int)) (.int .i64 (v:Int))=some false:=by simp[keyEq];omega
   rw[e,findK]
   simp only[hk,hj]
   simp[c]
theorem look_mp{R:List Row}{M t:Nat}{S:List Nat}(h:R[M]?=some (.mp (mpE S))):evP R (.look (.bool false) false (.c (.map M)) (.c (.int .i64 t)))=some (.bool (decide (t∈S))):=by
 obtain⟨j,hj⟩:=findK_mp (t:=t) S 0
 show evalP R (getO []) _=_
 unfold evalP
 simp only[getO,h,hj]
 by_cases c:t∈S<;>simp[c]
theorem mset_mp{R:List Row}{M t low:Nat}{S:List Nat}(h:R[M]?=some (.mp (mpE S)))(ht:t∉S):evE R low (.mset (.c (.map M)) (.c (.int .i64 t)) (.c (.bool true)))=some (.tup [],R.set M (.mp (mpE (S++[t]))),lower low M):=by
 obtain⟨j,hj⟩:=findK_mp (t:=t) S 0
 rw[if_neg ht]at hj
 show evalE (getO []) R low _=_
 unfold evalE
 have hk:(keyEq (.int .i64 (t:Int)) (.int .i64 (t:Int))).isSome=true:=by simp[keyEq]
 have hm:mpE (S++[t])=mpE S++[(AV.int .i64 (t:Int),AV.bool true)]:=by simp[mpE]
 simp[getO,h,hj,hk,hm]
def Qu(b:Nat)(R:List Row)(x:AV)(q:List Nat):Prop:=∃id off c vs,x = .slice id off q.length c/\b<=id/\(c = .at_ q.length\/c = .op 1)/\R[id]?=some (.cells vs)/\seg vs off q.length=some (nums .i64 (q.map fun(v:Nat)=>(v:Int)))
theorem Qu_push{b:Nat}{R:List Row}{x:AV}{q:List Nat}{t low:Nat}(h:Qu b R x q)(hlow:low<=b)(hq:q.length<=100):
  ∃v' R',evE (R++[.cells [.int .i64 t]]) low (.app 1 8 (.c x) (.c (.slice R.length 0 1 (.at_ 1))))=some (v',R',low)/\Qu b R' v' (q++[t])/\(∀i,i<R.length->i≠sid x->R'[i]?=R[i]?)/\R.length<=sid v'/\R.length<=R'.length:=by
 obtain⟨id,off,c,vs,rfl,hb,hc,hr,hs⟩:=h
 have hid:=(List.getElem?_eq_some_iff.1 hr).1
 have hx:El (R++[.cells [.int .i64 t]]) 1 (.slice R.length 0 1 (.at_ 1)) [.int .i64 t] 1:=by
  unfold El elems
  simp[row_end,seg]
 have hcel:cells? (R++[.cells [.int .i64 t]]) id=some vs:=by unfold cells?;rw[List.getElem?_append_left hid,hr]
 have hrw:row? (R++[.cells [.int .i64 t]]) id=some vs:=by unfold row?;rw[List.getElem?_append_left hid,hr]
 have e:nums .i64 (q.map fun(v:Nat)=>(v:Int))++[.int .i64 t]=nums .i64 ((q++[t]).map fun(v:Nat)=>(v:Int)):=by rw[List.map_append,<-nums_app];rfl
 have hsg:seg (nums .i64 ((q++[t]).map fun(v:Nat)=>(v:Int))) 0 (q++[t]).length=some (nums .i64 ((q++[t]).map fun(v:Nat)=>(v:Int))):=by
  rw[nums_seg,if_pos (by simp),List.drop_zero,List.take_of_length_le (by simp)]
 rcases hc with rfl|rfl
 ·refine⟨_,_,app_at hrw (by simpa using hs) hx (by omega) (by simp[lim];omega) (by omega),⟨_,_,_,nums .i64 (q.map fun(v:Nat)=>(v:Int))++[.int .i64 t],by rw[show(q++[t]).length=q.length+1 from by simp],?_,.inr rfl,by rw[List.getElem?_append_right (Nat.le_refl _)];simp,by rw[e];exact hsg⟩,?_,?_,?_⟩
  ·simp;omega
  ·intro i hi hne
   rw[List.append_assoc,List.getElem?_append_left hi]
  ·simp
  ·simp
 ·have hap:=app_op (low:=low) (b:=8) hcel (by simpa using hs) hx (by omega) (by simp[lim];omega)
  rw[lower_ge' (show low<=id by omega)]at hap
  refine⟨_,_,hap,⟨_,_,_,nums .i64 (q.map fun(v:Nat)=>(v:Int))++[.int .i64 t],by rw[show(q++[t]).length=q.length+1 from by simp],?_,.inr rfl,?_,by rw[e];exact hsg⟩,?_,?_,?_⟩
  ·simp;omega
  ·rw[List.getElem?_append_right (by simp)];simp
  ·intro i hi hne
   simp only[sid_s]at hne
   rw[List.getElem?_append_left (by simp;omega),List.getElem?_set_ne (by omega),List.getElem?_append_left hi]
  ·simp
  ·simp;omega
theorem Qu_pop{b:Nat}{R:List Row}{x:AV}{a:Nat}{q:List Nat}(h:Qu b R x (a::q)):∃x',sliceV 1 x (some (.int .i64 1)) none none=some x'/\Qu b R x' q/\sid x'=sid x:=by
 obtain⟨id,off,c,vs,rfl,hb,hc,hr,hs⟩:=h
 have hsl:=seg_len hs
 have hs2:seg vs (off+1) q.length=some (nums .i64 (q.map fun(v:Nat)=>(v:Int))):=by
  unfold seg at hs ⊢
  split at hs
  ·rename_i hle
   simp only[List.length_cons]at hle
   rw[if_pos (by omega)]
   injection hs with hs
   have h2:=congrArg (List.drop 1) hs
   rw[List.drop_take,List.drop_drop]at h2
   simp only[List.length_cons,Nat.add_sub_cancel]at h2
   rw[h2]
   simp[nums]
  ·simp at hs
 rcases hc with rfl|rfl
 ·by_cases c0:q=[]
  ·subst c0
   refine⟨.slice id off 0 (.at_ 0),by simp[sliceV,bound?],⟨id,off,.at_ 0,vs,rfl,hb,.inl rfl,hr,?_⟩,rfl⟩
   unfold seg at hs ⊢
   split at hs
   ·rw[if_pos (by simp only[List.length_cons,List.length_nil]at *;omega)];rfl
   ·simp at hs
  ·have hpos:=List.length_pos_iff.2 c0
   refine⟨.slice id (off+1) q.length (.at_ q.length),?_,⟨id,off+1,.at_ q.length,vs,rfl,hb,.inl rfl,hr,hs2⟩,rfl⟩
   have e1:((1:Int)<=(q.length:Int)+1):=by omega
   simp[sliceV,bound?,e1,c0]
 ·refine⟨.slice id (off+1) q.length (.op 1),?_,⟨id,off+1,.op 1,vs,rfl,hb,.inr rfl,hr,hs2⟩,rfl⟩
  have e1:((1:Int)<=(q.length:Int)+1):=by omega
  simp[sliceV,bound?,e1]
theorem Qu_head{b:Nat}{R:List Row}{x:AV}{a:Nat}{q:List Nat}(h:Qu b R x (a::q)):evP R (.idxS 1 (.c x) (.c (.int .i64 0)))=some (.ptr (sid x) (soff x))/\evP R (.load1 (.c (.ptr (sid x) (soff x))))=some (.int .i64 a)/\evP R (.len 0 (.c x))=some (.int .i64 (q.length+1:Nat)):=by
 obtain⟨id,off,c,vs,rfl,hb,hc,hr,hs⟩:=h
 have hl:IsL R (.slice id off (a::q).length c) ((a::q).map fun(v:Nat)=>(v:Int)):=by
  unfold IsL El elems
  have hrw:row? R id=some vs:=by unfold row?;rw[hr]
  simp only[hrw,Nat.mul_one,hs]
  simp
 have h1:=idxL0 (k:=.i64) (i:=0) hl (by omega) (by simp)
 have h2:=loadL0 (j:=0) hl (by simp)
 refine⟨by simpa using h1,by simpa[gI]using h2,rfl⟩
end Go.Abs
namespace Go.Abs
structure WS(rows:List Row)(G:List AV)(D:List Int)(S:List Nat)(R:List Row):Prop where
 base:∃L,R=rows++L
 g:row? R rows.length=some G
 d:R[rows.length+1]?=some (.cells (nums .i64 D))
 m:R[rows.length+2]?=some (.mp (mpE S))
section
variable {rows R:List Row}{G:List AV}{D:List Int}{S:List Nat}
theorem WS.len(h:WS rows G D S R):rows.length+3<=R.length:=(List.getElem?_eq_some_iff.1 h.m).1
theorem WS.app(h:WS rows G D S R)(X:List Row):WS rows G D S (R++X):=by
 have hl:=h.len
 obtain⟨⟨L,hL⟩,h2,h3,h4⟩:=h
 refine⟨⟨L++X,by rw[hL,List.append_assoc]⟩,row?_old h2 X,?_,?_⟩
 ·rw[List.getElem?_append_left (by omega)];exact h3
 ·rw[List.getElem?_append_left (by omega)];exact h4
theorem base_set{rows R:List Row}{i:Nat}{x:Row}(h:∃L,R=rows++L)(hi:rows.length<=i):∃L,R.set i x=rows++L:=by
 obtain⟨L,rfl⟩:=h
 exact⟨L.set (i-rows.length) x,by rw[List.set_append_right _ _ hi]⟩
theorem WS.setD(h:WS rows G D S R)(D':List Int):WS rows G D' S (R.set (rows.length+1) (.cells (nums .i64 D'))):=by
 have hl:=h.len
 refine⟨base_set h.base (by omega),?_,by rw[List.getElem?_set_self (by omega)],by rw[List.getElem?_set_ne (by omega)];exact h.m⟩
 have:=h.g
 unfold row? at this ⊢
 rw[List.getElem?_set_ne (by omega)]
 exact this
theorem WS.setS(h:WS rows G D S R)(S':List Nat):WS rows G D S' (R.set (rows.length+2) (.mp (mpE S'))):=by
 have hl:=h.len
 refine⟨base_set h.base (by omega),?_,by rw[List.getElem?_set_ne (by omega)];exact h.d,by rw[List.getElem?_set_self (by omega)]⟩
 have:=h.g
 unfold row? at this ⊢
 rw[List.getElem?_set_ne (by omega)]
 exact this
theorem WS.of(h:WS rows G D S R){R':List Row}(hl:R.length<=R'.length){o:Nat}(ho:rows.length+3<=o)(he:∀i,i<R.length->i≠o->R'[i]?=R[i]?):WS rows G D S R':=by
 have hlen:=h.len
 refine⟨?_,?_,?_,?_⟩
 ·have hb:=h.base
  have hS:Sm rows.length o rows R':=by
   obtain⟨L,rfl⟩:=hb
   refine⟨by simp at hl;omega,fun i h1 h2=>?_⟩
   rw[he i (by simp;omega) h2,List.getElem?_append_left h1]
  exact Sm_split hS (by omega)
 ·have:=h.g
  unfold row? at this ⊢
  rw[he _ (by omega) (by omega)]
  exact this
 ·rw[he _ (by omega) (by omega)];exact h.d
 ·rw[he _ (by omega) (by omega)];exact h.m
theorem Qu_set{b i:Nat}{R:List Row}{x:AV}{q:List Nat}{y:Row}(h:Qu b R x q)(hi:i<b):Qu b (R.set i y) x q:=by
 obtain⟨id,off,c,vs,e,hb,hc,hr,hs⟩:=h
 exact⟨id,off,c,vs,e,hb,hc,by rw[List.getElem?_set_ne (by omega)];exact hr,hs⟩
theorem Qu_app{b:Nat}{R:List Row}{x:AV}{q:List Nat}(h:Qu b R x q)(X:List Row):Qu b (R++X) x q:=by
 obtain⟨id,off,c,vs,e,hb,hc,hr,hs⟩:=h
 exact⟨id,off,c,vs,e,hb,hc,by rw[List.getElem?_append_left (List.getElem?_eq_some_iff.1 hr).1];exact hr,hs⟩
def stp(at_ fr to:Nat)(f:Int)(s:List Int×List Nat×List Nat):List Int×List Nat×List Nat:=
 if fr=at_/\to∉s.2.1 then((s.1.set to at_).set (6+to) (IntKind.i64.wrap (gI s.1 (6+at_)+f)),s.2.1++[to],s.2.2++[to])else s
set_option maxHeartbeats 8000000 in
theorem walk_s15{x1 x8 x10 x20 x21 x53 x54 x55:AV}{A T E fr kk:Nat}{q:List Nat}{f:Int}{vs:List AV}{r:AV×List Row×Nat->Prop}(h:WS rows G D S R)(hD:D.length=13)(hA:A<6)(hT:T<6)(hq:Qu (rows.length+3) R x8 q)(hql:q.length<=100)(hE:row? R E=some vs)(hEb:rows.length+3<=E)(hne:E≠sid x8)(hk:kk<2)
  (hc:∀R' x8' D' S' q',stp A fr T f (D,S,q)=(D',S',q')->WS rows G D' S' R'->Qu (rows.length+3) R' x8' q'->row? R' E=some vs->E≠sid x8'->
   Lc78l7 F (.fn [.t 4]) x1 (.ptr rows.length 0) (.ptr (rows.length+1) 0) (.map (rows.length+2)) x8' (.int .i64 A) x10 (.ptr E 0) x20 x21 x53 x54 x55 (.int .i64 (kk+1:Nat)) R' rows.length r):
  Jc78s15 F (.fn [.t 4]) x1 (.ptr rows.length 0) (.ptr (rows.length+1) 0) (.map (rows.length+2)) x8 (.int .i64 A) x10 (.ptr E 0) (.int .i64 fr) (.int .i64 T) (.int .i64 f) x20 x21 x53 x54 x55 (.int .i64 kk) R rows.length r:=by
 have hw:IntKind.i64.wrap ((kk:Int)+1)=((kk+1:Nat):Int):=by rw[wrap64 (by omega) (by omega)];omega
 have hlook:=look_mp (t:=T) h.m
 have hRl:=h.len
 unfold Jc78s15
 by_cases c1:fr=A
 ·by_cases c2:T∈S
  ·have:=hc R x8 D S q (by unfold stp;rw[if_neg (fun h=>h.2 c2)]) h hq hE hne
   simp[c1,hlook,c2,hw]
   simpa using this
  ·have hms:=mset_mp (low:=rows.length) h.m c2
   have hlw:lower rows.length (rows.length+2)=rows.length:=lower_ge' (by omega)
   rw[hlw]at hms
   have h2:=h.setS (S++[T])
   simp[c1,hlook,c2,hms,-uc78k10,-uc78k9]
   refine walk_k10 (W:=rows.length+1) (A:=A) (T:=T) (f:=f) h2.d hD hA hT (by omega) (by simp) (by simp) (by simp) (by simp) (fun sl' hsl=>?_)
   have h3:=h2.setD ((D.set T A).set (6+T) (IntKind.i64.wrap (gI D (6+A)+f)))
   have hq3:Qu (rows.length+3) ((R.set (rows.length+2) (.mp (mpE (S++[T])))).set (rows.length+1) (.cells (nums .i64 ((D.set T A).set (6+T) (IntKind.i64.wrap (gI D (6+A)+f)))))) x8 q:=Qu_set (Qu_set hq (by omega)) (by omega)
   have hE3:row? ((R.set (rows.length+2) (.mp (mpE (S++[T])))).set (rows.length+1) (.cells (nums .i64 ((D.set T A).set (6+T) (IntKind.i64.wrap (gI D (6+A)+f)))))) E=some vs:=by
    unfold row? at hE ⊢
    rw[List.getElem?_set_ne (by omega),List.getElem?_set_ne (by omega)]
    exact hE
   generalize hR3:(R.set (rows.length+2) (.mp (mpE (S++[T])))).set (rows.length+1) (.cells (nums .i64 ((D.set T A).set (6+T) (IntKind.i64.wrap (gI D (6+A)+f)))))=R3 at *
   obtain⟨x8',R',ev,k1,k2,k3,k4⟩:=Qu_push (t:=T) (low:=rows.length) hq3 (by omega) hql
   have hEl:=row?_lt hE3
   have hws:=h3.of k4 (o:=sid x8) (by obtain⟨id,off,c,us,rfl,hb,_⟩:=hq;exact hb) k2
   have hE4:row? R' E=some vs:=by
    unfold row? at hE3 ⊢
    rw[k2 E hEl hne]
    exact hE3
   have:=hc R' x8' _ _ _ (by unfold stp;rw[if_pos ⟨c1,c2⟩]) hws k1 hE4 (by omega)
   have t1:=hsl 1 (by simp)
   have t2:=hsl 2 (by simp)
   have t5:=hsl 5 (by simp)
   have t6:=hsl 6 (by simp)
   have t8:=hsl 8 (by simp)
   have t9:=hsl 9 (by simp)
   have t10:=hsl 10 (by simp)
   have t11:=hsl 11 (by simp)
   have t14:=hsl 14 (by simp)
   have t20:=hsl 20 (by simp)
   have t21:=hsl 21 (by simp)
   have t53:=hsl 53 (by simp)
   have t54:=hsl 54 (by simp)
   have t55:=hsl 55 (by simp)
   have t60:=hsl 60 (by simp)
   simp at t1 t2 t5 t6 t8 t9 t10 t11 t14 t20 t21 t53 t54 t55 t60
   simp[t1,t2,t5,t6,t8,t9,t10,t11,t14,t20,t21,t53,t54,t55,t60,fillA,splice,ev,hw]
   simpa using this
 ·have:=hc R x8 D S q (by unfold stp;rw[if_neg (fun h=>c1 h.1)]) h hq hE hne
  have c1':¬((fr:Int)=A):=by omega
  simp[c1',hw]
  simpa using this
end
end Go.Abs
namespace Go.Abs
abbrev WSt:=List Int×List Nat×List Nat
structure SI(N:Nat)(s:WSt):Prop where
 d:s.1.length=13
 nd:s.2.1.Nodup
 b:∀v∈s.2.1,v<N
 q:s.2.2.length<=s.2.1.length
theorem SI.s6{N:Nat}{s:WSt}(h:SI N s)(hN:N<=6):s.2.1.length<=6:=by
 have:=List.Nodup.length_le_of_subset h.nd (l₂:=List.range N) (fun x hx=>List.mem_range.2 (h.b x hx))
 simp at this
 omega
theorem stp_SI{N a fr to:Nat}{f:Int}{s:WSt}(h:SI N s)(ht:to<N):SI N (stp a fr to f s):=by
 unfold stp
 split
 ·rename_i hc
  refine⟨by simp[h.d],?_,?_,?_⟩
  ·simp only
   rw[List.nodup_append]
   refine⟨h.nd,by simp,?_⟩
   intro x hx y hy e
   simp only[List.mem_singleton]at hy
   subst e hy
   exact hc.2 hx
  ·intro v hv
   rcases List.mem_append.1 hv with hv|hv
   ·exact h.b v hv
   ·simp only[List.mem_singleton]at hv;omega
  ·simp only[List.length_append,List.length_cons,List.length_nil]
   have:=h.q
   omega
 ·exact h
def est(a k:Nat)(f:Int)(s:WSt):WSt:=stp a (k%6) (k/6) (IntKind.i64.wrap (0-f)) (stp a (k/6) (k%6) f s)
def esS(a:Nat)(ks:List Nat)(fl:List Int)(s:WSt):Nat->WSt
 |0=>s
 |i+1=>est a (gN ks i) (gI fl i) (esS a ks fl s i)
section
variable {rows R:List Row}{G:List AV}{N:Nat}{ks ps:List Nat}{x1 ev:AV}{fl:List Int}
set_option maxHeartbeats 8000000 in
theorem walk_k0{x8 x9 x20 x21 x53 x54 x55 x2 x5 x6:AV}{A C E i:Nat}{r:AV×List Row×Nat->Prop}(hE:row? R E=some [.int .i64 A,.int .i64 C])(hf:IsL R x1 fl)(hi:i<fl.length)
  (h:Jc78s15 F (.fn [.t 4]) x1 x2 x5 x6 x8 x9 (.int .i64 i) (.ptr E 0) (.int .i64 A) (.int .i64 C) (.int .i64 (gI fl i)) x20 x21 x53 x54 x55 (.int .i64 0) R rows.length r):
  Lc78l7 F (.fn [.t 4]) x1 x2 x5 x6 x8 x9 (.int .i64 i) (.ptr E 0) x20 x21 x53 x54 x55 (.int .i64 0) R rows.length r:=by
 have ix:=idxW hf hi
 have ld:=ldW1 hf hi
 rw[Nat.mul_one]at ix
 have i01:idx? 0 2=some 0:=rfl
 have i11:idx? 1 2=some 1:=rfl
 have w1:IntKind.i64.wrap 1=1:=rfl
 unfold Lc78l7
 simp[hE,i01,i11,ix,ld,w1,-uc78s15,jc78s15]
 simpa using h
set_option maxHeartbeats 8000000 in
theorem walk_k1{x8 x9 x20 x21 x53 x54 x55 x2 x5 x6:AV}{A C E i:Nat}{r:AV×List Row×Nat->Prop}(hE:row? R E=some [.int .i64 A,.int .i64 C])(hf:IsL R x1 fl)(hi:i<fl.length)
  (h:Jc78s15 F (.fn [.t 4]) x1 x2 x5 x6 x8 x9 (.int .i64 i) (.ptr E 0) (.int .i64 C) (.int .i64 A) (.int .i64 (IntKind.i64.wrap (0-gI fl i))) x20 x21 x53 x54 x55 (.int .i64 1) R rows.length r):
  Lc78l7 F (.fn [.t 4]) x1 x2 x5 x6 x8 x9 (.int .i64 i) (.ptr E 0) x20 x21 x53 x54 x55 (.int .i64 1) R rows.length r:=by
 have ix:=idxW hf hi
 have ld:=ldW1 hf hi
 rw[Nat.mul_one]at ix
 have i01:idx? 0 2=some 0:=rfl
 have i11:idx? 1 2=some 1:=rfl
 have w1:IntKind.i64.wrap 0=0:=rfl
 unfold Lc78l7
 simp[hE,i01,i11,ix,ld,w1,-uc78s15,jc78s15]
 simpa using h
theorem WS.flow{D:List Int}{S:List Nat}(h:WS rows G D S R){v:AV}{sz n:Nat}{cs:List AV}(hf:El rows sz v cs n):El R sz v cs n:=by
 obtain⟨L,rfl⟩:=h.base
 exact El_app hf L
set_option maxHeartbeats 8000000 in
theorem walk_both{x8 x20 x21 x53 x54 x55:AV}{a k E i:Nat}{s:WSt}{r:AV×List Row×Nat->Prop}(hN:N<=6)(ha:a<N)(hk1:k/6<N)(hk2:k%6<N)(h:WS rows G s.1 s.2.1 R)(hs:SI N s)(hq:Qu (rows.length+3) R x8 s.2.2)(hE:row? R E=some [.int .i64 (k/6:Nat),.int .i64 (k%6:Nat)])(hEb:rows.length+3<=E)(hne:E≠sid x8)(hf:IsL rows x1 fl)(hi:i<fl.length)
  (hc:∀R' x8',WS rows G (est a k (gI fl i) s).1 (est a k (gI fl i) s).2.1 R'->Qu (rows.length+3) R' x8' (est a k (gI fl i) s).2.2->
   Lc78l7 F (.fn [.t 4]) x1 (.ptr rows.length 0) (.ptr (rows.length+1) 0) (.map (rows.length+2)) x8' (.int .i64 a) (.int .i64 i) (.ptr E 0) x20 x21 x53 x54 x55 (.int .i64 2) R' rows.length r):
  Lc78l7 F (.fn [.t 4]) x1 (.ptr rows.length 0) (.ptr (rows.length+1) 0) (.map (rows.length+2)) x8 (.int .i64 a) (.int .i64 i) (.ptr E 0) x20 x21 x53 x54 x55 (.int .i64 0) R rows.length r:=by
 have h6:=hs.s6 hN
 have hq6:=hs.q
 refine walk_k0 hE (h.flow hf) hi ?_
 refine walk_s15 (kk:=0) h hs.d (by omega) (by omega) hq (by omega) hE hEb hne (by omega) (fun R1 x81 D1 S1 q1 e1 w1 u1 hE1 hne1=>?_)
 have hs1:=stp_SI (a:=a) (fr:=k/6) (f:=gI fl i) hs hk2
 have e1':stp a (k/6) (k%6) (gI fl i) s=(D1,S1,q1):=e1
 have h61:=hs1.s6 hN
 have hq61:=hs1.q
 refine walk_k1 hE1 (w1.flow hf) hi ?_
 rw[e1']at hs1 h61 hq61
 have hq1l:q1.length<=S1.length:=hq61
 have hs1l:S1.length<=6:=h61
 refine walk_s15 (kk:=1) w1 hs1.d (by omega) (by omega) u1 (by omega) hE1 hEb hne1 (by omega) (fun R2 x82 D2 S2 q2 e2 w2 u2 hE2 hne2=>?_)
 have e3:est a k (gI fl i) s=(D2,S2,q2):=by
  unfold est
  rw[e1']
  exact e2
 rw[e3]at hc
 exact hc R2 x82 w2 u2
theorem est_SI{a k:Nat}{f:Int}{s:WSt}(h:SI N s)(hk1:k/6<N)(hk2:k%6<N):SI N (est a k f s):=stp_SI (stp_SI h hk2) hk1
theorem esS_SI(hok:GOK N ks ps){a:Nat}{s:WSt}(h:SI N s):∀i,i<=ks.length->SI N (esS a ks fl s i)
 |0,_=>h
 |
  i+1,hi=>by
  have hee:=hok.ee _ (gN_mem (show i<ks.length by omega))
  exact est_SI (esS_SI hok h i (by omega)) (by omega) hee.2
set_option maxHeartbeats 8000000 in
theorem walk_edges{x20 x21:AV}{a:Nat}{s:WSt}{r:AV×List Row×Nat->Prop}(hok:GOK N ks ps)(ha:a<N)(hs:SI N s)(he:El rows 2 ev (nums .i64 (eC ks)) ks.length)(hf:IsL rows x1 fl)(hfl:fl.length=ks.length)
  (hc:∀R' x8',WS rows G (esS a ks fl s ks.length).1 (esS a ks fl s ks.length).2.1 R'->Qu (rows.length+3) R' x8' (esS a ks fl s ks.length).2.2->
   Lc78l4 F (.fn [.t 4]) x1 (.ptr rows.length 0) (.ptr (rows.length+1) 0) (.map (rows.length+2)) x8' x20 x21 R' rows.length r):
  ∀(d i:Nat) (R:List Row) (x8:AV),ks.length-i=d->i<=ks.length->WS rows G (esS a ks fl s i).1 (esS a ks fl s i).2.1 R->Qu (rows.length+3) R x8 (esS a ks fl s i).2.2->
  Lc78l5 F (.fn [.t 4]) x1 (.ptr rows.length 0) (.ptr (rows.length+1) 0) (.map (rows.length+2)) x8 (.int .i64 a) x20 x21 ev (.int .i64 ks.length) (.int .i64 i) R rows.length r:=by
 have hek:=hok.ek
 have n6:=hok.n6
 intro d
 induction d with
 |
  zero=>
  intro i R x8 hd h1 hw hq
  have hi:i=ks.length:=by omega
  subst hi
  have:=hc R x8 hw hq
  unfold Lc78l5
  simp
  simpa using this
 |
  succ d ih=>
  intro i R x8 hd h1 hw hq
  have hi:i<ks.length:=by omega
  have hww:IntKind.i64.wrap ((i:Int)+1)=((i+1:Nat):Int):=by rw[wrap64 (by omega) (by omega)];omega
  obtain⟨e1,e2⟩:=eC_a hi
  have hee:=hok.ee _ (gN_mem hi)
  have he':=hw.flow he
  have hRl:=hw.len
  have hqid:sid x8<R.length:=by
   obtain⟨id,off,c,vs,rfl,_,_,hr,_⟩:=hq
   exact(List.getElem?_eq_some_iff.1 hr).1
  have hlw:lower rows.length R.length=rows.length:=lower_ge' (by omega)
  have hb:=walk_both (i:=i) (x8:=x8) (x20:=x20) (x21:=x21) (x53:=ev) (x54:=.int .i64 ks.length) (x55:=.int .i64 i) (E:=R.length) (k:=gN ks i) (r:=r) n6 ha (by omega) hee.2 (hw.app [.cells [.int .i64 (gN ks i/6:Nat),.int .i64 (gN ks i%6:Nat)]]) (esS_SI hok hs i (by omega)) (Qu_app hq _) row_end (by omega) (by omega) hf (by omega) (fun R' x8' w' u'=>by
   have:=ih (i+1) R' x8' (by omega) (by omega) w' u'
   unfold Lc78l7
   simp[hww]
   simpa using this)
  have ix:=idxW he' hi
  have ld:=ldW2 he' hi
  rw[e1,e2]at ld
  unfold Lc78l5
  simp[hi,ix,ld,AV.cells,splice,hlw]
  simpa using hb
end
end Go.Abs
namespace Go.Abs
def qsS(ks:List Nat)(fl:List Int):Nat->WSt->WSt
 |0,s=>s
 |n+1,(D,S,[])=>(D,S,[])
 |n+1,(D,S,a::q)=>qsS ks fl n (esS a ks fl (D,S,q) ks.length)
def fiS(ks:List Nat)(fl:List Int):Nat->WSt
 |0=>(List.replicate 13 0,[],[])
 |
  i+1=>
  let s:=fiS ks fl i
  if i∈s.2.1 then s else qsS ks fl 20 (((s.1.set 12 (IntKind.i64.wrap (gI s.1 12+1))).set i i),s.2.1++[i],[i])
theorem stp_len{a fr to:Nat}{f:Int}{s:WSt}:(stp a fr to f s).2.2.length+s.2.1.length=s.2.2.length+(stp a fr to f s).2.1.length/\s.2.1.length<=(stp a fr to f s).2.1.length:=by
 unfold stp
 split
 ·simp;omega
 ·exact⟨rfl,Nat.le_refl _⟩
theorem esS_len{a:Nat}{ks:List Nat}{fl:List Int}{s:WSt}:∀i,(esS a ks fl s i).2.2.length+s.2.1.length=s.2.2.length+(esS a ks fl s i).2.1.length/\s.2.1.length<=(esS a ks fl s i).2.1.length
 |0=>⟨rfl,Nat.le_refl _⟩
 |
  i+1=>by
  have ih:=esS_len (a:=a) (ks:=ks) (fl:=fl) (s:=s) i
  have h1:=stp_len (a:=a) (fr:=gN ks i/6) (to:=gN ks i%6) (f:=gI fl i) (s:=esS a ks fl s i)
  have h2:=stp_len (a:=a) (fr:=gN ks i%6) (to:=gN ks i/6) (f:=IntKind.i64.wrap (0-gI fl i)) (s:=stp a (gN ks i/6) (gN ks i%6) (gI fl i) (esS a ks fl s i))
  rw[esS,est]
  omega
def QIn(N:Nat)(s:WSt):Prop:=∀v∈s.2.2,v<N
theorem stp_QIn{N a fr to:Nat}{f:Int}{s:WSt}(h:QIn N s)(ht:to<N):QIn N (stp a fr to f s):=by
 unfold stp
 split
 ·intro v hv
  rcases List.mem_append.1 hv with hv|hv
  ·exact h v hv
  ·simp only[List.mem_singleton]at hv;omega
 ·exact h
theorem esS_QIn{N:Nat}{ks ps:List Nat}(hok:GOK N ks ps){a:Nat}{fl:List Int}{s:WSt}(h:QIn N s):∀i,i<=ks.length->QIn N (esS a ks fl s i)
 |0,_=>h
 |
  i+1,hi=>by
  have hee:=hok.ee _ (gN_mem (show i<ks.length by omega))
  exact stp_QIn (stp_QIn (esS_QIn hok h i (by omega)) hee.2) (by omega)
section
variable {rows R:List Row}{G:List AV}{N:Nat}{ks ps:List Nat}{x1:AV}{fl:List Int}
set_option maxHeartbeats 8000000 in
theorem walk_queue{x20 x21 n0 ev pv:AV}{r:AV×List Row×Nat->Prop}(hok:GOK N ks ps)(he:El rows 2 ev (nums .i64 (eC ks)) ks.length)(hf:IsL rows x1 fl)(hfl:fl.length=ks.length):
  ∀(n:Nat) (s:WSt) (R:List Row) (x8:AV),2*(N-s.2.1.length)+s.2.2.length+1<=n->SI N s->QIn N s->WS rows [n0,ev,pv] s.1 s.2.1 R->Qu (rows.length+3) R x8 s.2.2->
  (∀R',SI N (qsS ks fl n s)->WS rows [n0,ev,pv] (qsS ks fl n s).1 (qsS ks fl n s).2.1 R'->∀sl:List (Nat×AV),lk sl 1=x1->lk sl 2 = .ptr rows.length 0->lk sl 5 = .ptr (rows.length+1) 0->lk sl 6 = .map (rows.length+2)->lk sl 20=x20->lk sl 21=x21->
   Ex F (.fn [.t 4]) [.code c78k3,.inLoop c78l2,.inBlock 0,.code c78s1] ⟨mk 116 sl,R',rows.length⟩ r)->
  Lc78l4 F (.fn [.t 4]) x1 (.ptr rows.length 0) (.ptr (rows.length+1) 0) (.map (rows.length+2)) x8 x20 x21 R rows.length r:=by
 intro n
 induction n with
 |zero=>intro s R x8 h;omega
 |
  succ n ih=>
  intro s R x8 hn hs hqi hw hq hc
  obtain⟨D,S,q⟩:=s
  cases q with
  |
   nil=>
   have hlen:evP R (.len 0 (.c x8))=some (.int .i64 0):=by
    obtain⟨id,off,c,vs,rfl,_⟩:=hq
    rfl
   have:=hc R hs hw
   unfold Lc78l4
   simp[hlen,-uc78k3]
   refine this _ ?_ ?_ ?_ ?_ ?_ ?_<;>simp
  |
   cons a q=>
   obtain⟨k1,k2,k3⟩:=Qu_head hq
   obtain⟨x',p1,p2,p3⟩:=Qu_pop hq
   have ha:a<N:=hqi a (List.mem_cons_self ..)
   have hs0:SI N (D,S,q):=⟨hs.d,hs.nd,hs.b,by have:(a::q).length<=S.length:=hs.q;simp only[List.length_cons]at this;show q.length<=S.length;omega⟩
   have hq0:QIn N (D,S,q):=fun v hv=>hqi v (List.mem_cons_of_mem _ hv)
   have hel:=esS_len (a:=a) (ks:=ks) (fl:=fl) (s:=(D,S,q)) ks.length
   have hes:=esS_SI (fl:=fl) (a:=a) hok hs0 ks.length (Nat.le_refl _)
   have hS6:=List.Nodup.length_le_of_subset hes.nd (l₂:=List.range N) (fun x hx=>List.mem_range.2 (hes.b x hx))
   have hed:=walk_edges (x20:=x20) (x21:=x21) (a:=a) (s:=(D,S,q)) (r:=r) hok ha hs0 he hf hfl (fun R' x8' w' u'=>by
    refine ih (esS a ks fl (D,S,q) ks.length) R' x8' ?_ hes (esS_QIn hok hq0 _ (Nat.le_refl _)) w' u' (fun R'' hs'' w''=>hc R'' hs'' w'')
    simp only[List.length_cons,List.length_range]at hn hel hS6
    omega) _ 0 R x' rfl (Nat.zero_le _) hw p2
   have hg:=hw.g
   have ln:=evP_lenE (hw.flow he)
   have hpos:((q.length:Int)+1>0):=by omega
   have i1:bound? (some (AV.int .i64 1)) 0 (q.length+1)=some 1:=by simp[bound?];omega
   unfold Lc78l4
   simp[k1,k2,k3,p1,hg,ln]
   simpa using hed
end
end Go.Abs
namespace Go.Abs
section
variable {rows R:List Row}{G:List AV}{N:Nat}{ks ps:List Nat}{x1:AV}{fl:List Int}
theorem qsS_SI(hok:GOK N ks ps):∀(n:Nat) (s:WSt),SI N s->QIn N s->SI N (qsS ks fl n s)
 |0,s,h,_=>h
 |n+1,(D,S,[]),h,_=>h
 |
  n+1,(D,S,a::q),h,hq=>by
  have hs0:SI N (D,S,q):=⟨h.d,h.nd,h.b,by have:(a::q).length<=S.length:=h.q;simp only[List.length_cons]at this;show q.length<=S.length;omega⟩
  have hq0:QIn N (D,S,q):=fun v hv=>hq v (List.mem_cons_of_mem _ hv)
  exact qsS_SI hok n _ (esS_SI hok hs0 _ (Nat.le_refl _)) (esS_QIn hok hq0 _ (Nat.le_refl _))
def ini1(s:WSt)(i:Nat):WSt:=((s.1.set 12 (IntKind.i64.wrap (gI s.1 12+1))).set i i,s.2.1++[i],[i])
theorem ini1_SI{s:WSt}{i:Nat}(h:SI N s)(hi:i<N)(hn:i∉s.2.1):SI N (ini1 s i)/\QIn N (ini1 s i):=by
 refine⟨⟨by simp[ini1,h.d],?_,?_,by simp[ini1]⟩,?_⟩
 ·show(s.2.1++[i]).Nodup
  rw[List.nodup_append]
  refine⟨h.nd,by simp,?_⟩
  intro x hx y hy e
  simp only[List.mem_singleton]at hy
  subst e hy
  exact hn hx
 ·intro v hv
  rcases List.mem_append.1 hv with hv|hv
  ·exact h.b v hv
  ·simp only[List.mem_singleton]at hv;omega
 ·intro v hv
  have:v=i:=by simpa[ini1]using hv
  omega
theorem fiS_SI(hok:GOK N ks ps):∀i,i<=N->SI N (fiS ks fl i)
 |0,_=>⟨by simp[fiS],by simp[fiS],by simp[fiS],by simp[fiS]⟩
 |
  i+1,hi=>by
  have ih:=fiS_SI hok i (by omega)
  rw[fiS]
  split
  ·exact ih
  ·rename_i hn
   obtain⟨h1,h2⟩:=ini1_SI ih (show i<N by omega) hn
   exact qsS_SI hok 20 _ h1 h2
set_option maxHeartbeats 8000000 in
theorem walk_first{n0 ev pv:AV}{r:AV×List Row×Nat->Prop}(hok:GOK N ks ps)(he:El rows 2 ev (nums .i64 (eC ks)) ks.length)(hf:IsL rows x1 fl)(hfl:fl.length=ks.length)
  (hc:∀R',WS rows [n0,ev,pv] (fiS ks fl N).1 (fiS ks fl N).2.1 R'->r (.ptr (rows.length+1) 0,R',rows.length)):
  ∀(d i:Nat) (R:List Row),N-i=d->i<=N->WS rows [n0,ev,pv] (fiS ks fl i).1 (fiS ks fl i).2.1 R->
  Lc78l2 F (.fn [.t 4]) x1 (.ptr rows.length 0) (.ptr (rows.length+1) 0) (.map (rows.length+2)) (.int .i64 N) (.int .i64 i) R rows.length r:=by
 have n6:=hok.n6
 intro d
 induction d with
 |
  zero=>
  intro i R hd h1 hw
  have hi:i=N:=by omega
  subst hi
  have:=hc R hw
  unfold Lc78l2
  simp
  exact this
 |
  succ d ih=>
  intro i R hd h1 hw
  have hi:i<N:=by omega
  have hww:IntKind.i64.wrap ((i:Int)+1)=((i+1:Nat):Int):=by rw[wrap64 (by omega) (by omega)];omega
  have hlook:=look_mp (t:=i) hw.m
  have hsi:=fiS_SI (fl:=fl) hok i (by omega)
  by_cases c:i∈(fiS ks fl i).2.1
  ·have hst:fiS ks fl (i+1)=fiS ks fl i:=by rw[fiS];simp only[if_pos c]
   have:=ih (i+1) R (by omega) (by omega) (by rw[hst];exact hw)
   unfold Lc78l2
   simp[hi,hlook,c,hww]
   simpa using this
  ·have hst:fiS ks fl (i+1)=qsS ks fl 20 (ini1 (fiS ks fl i) i):=by rw[fiS];simp only[if_neg c];rfl
   obtain⟨hs1,hs2⟩:=ini1_SI hsi hi c
   have hD:=hsi.d
   generalize hs:fiS ks fl i=s at *
   obtain⟨D,S,q⟩:=s
   simp only at hw hlook c hD
   -- the stores
   have hRl:=hw.len
   have hrow:row? R (rows.length+1)=some (nums .i64 D):=by unfold row?;rw[hw.d]
   have hcel:cells? R (rows.length+1)=some (nums .i64 D):=by unfold cells?;rw[hw.d]
   have hnl:(nums .i64 D).length=13:=by simp[nums,hD]
   obtain⟨D1,hD1⟩:∃D1,D1=D.set 12 (IntKind.i64.wrap (gI D 12+1)):=⟨_,rfl⟩
   have h12:12<D.length:=by omega
   have hu12:D.set 12 (IntKind.i64.wrap (D[12]+1))=D1:=by rw[hD1,gI_eq h12]
   have hw1:=hw.setD D1
   have hlw1:lower rows.length (rows.length+1)=rows.length:=lower_ge' (by omega)
   have hlw2:lower rows.length (rows.length+2)=rows.length:=lower_ge' (by omega)
   obtain⟨R1,hR1⟩:∃R1,R1=R.set (rows.length+1) (.cells (nums .i64 D1)):=⟨_,rfl⟩
   rw[<-hR1]at hw1
   have hms:=mset_mp (low:=rows.length) hw1.m c
   rw[hlw2]at hms
   have hw2:=hw1.setS (S++[i])
   obtain⟨R2,hR2⟩:∃R2,R2=R1.set (rows.length+2) (.mp (mpE (S++[i]))):=⟨_,rfl⟩
   rw[<-hR2]at hw2 hms
   have hcel2:cells? R2 (rows.length+1)=some (nums .i64 D1):=by unfold cells?;rw[hw2.d]
   have hnl2:(nums .i64 D1).length=13:=by simp[nums,hD1,hD]
   have hset2:(nums .i64 D1).set i (.int .i64 i)=nums .i64 (D1.set i i):=by simp[nums,List.map_set]
   have hw3:=hw2.setD (D1.set i i)
   obtain⟨R3,hR3⟩:∃R3,R3=R2.set (rows.length+1) (.cells (nums .i64 (D1.set i i))):=⟨_,rfl⟩
   rw[<-hR3]at hw3
   have hw4:=hw3.app [.cells [.int .i64 i]]
   have hQ:Qu (rows.length+3) (R3++[.cells [.int .i64 i]]) (.slice R3.length 0 1 (.at_ 1)) [i]:=⟨R3.length,0,.at_ 1,[.int .i64 i],rfl,hw3.len,.inl rfl,by simp,by simp[seg,nums]⟩
   have hini:ini1 (D,S,q) i=(D1.set i i,S++[i],[i]):=by unfold ini1;rw[hD1]
   have hlen0:2*(N-(S++[i]).length)+1+1<=20:=by omega
   rw[hini]at hs1 hs2 hst
   have hqu:=walk_queue (x20:=.int .i64 N) (x21:=.int .i64 i) (r:=r) hok he hf hfl 20 (D1.set i i,S++[i],[i]) (R3++[.cells [.int .i64 i]]) (.slice R3.length 0 1 (.at_ 1)) hlen0 hs1 hs2 hw4 hQ (fun R' _ w' sl t1 t2 t5 t6 t20 t21=>by
    have:=ih (i+1) R' (by omega) (by omega) (by rw[hst];exact w')
    simp[t1,t2,t5,t6,t20,t21,hww]
    simpa using this)
   have hi6:idx? (i:Int) 6=some i:=by simp;omega
   have hi13:i<13:=by omega
   unfold Lc78l2
   simp[hi,hlook,c,hrow,h12,hcel,hnl,hu12,hlw1,<-hR1,hms,hi6,hcel2,hnl2,hi13,hset2,<-hR3,fillA,splice]
   simpa using hqu
end
end Go.Abs
namespace Go.Abs
structure Rl(ks:List Nat)(a:Nat)(s s':WSt):Prop where
 S:∀v∈s.2.1,v∈s'.2.1
 q:∀v∈s.2.2,v∈s'.2.2
 n:∀v∈s'.2.1,v∈s.2.1\/(v∈s'.2.2/\Adj ks a v)
 p:∀v∈s'.2.2,v∈s.2.2\/v∈s'.2.1/\Adj ks a v
 d:gI s'.1 12=gI s.1 12
theorem Rl.refl{ks:List Nat}{a:Nat}{s:WSt}:Rl ks a s s:=⟨fun _ h=>h,fun _ h=>h,fun _ h=>.inl h,fun _ h=>.inl h,rfl⟩
theorem Rl.trans{ks:List Nat}{a:Nat}{s s1 s2:WSt}(h:Rl ks a s s1)(k:Rl ks a s1 s2):Rl ks a s s2:=
 ⟨fun v hv=>k.S v (h.S v hv),fun v hv=>k.q v (h.q v hv),fun v hv=>by
  rcases k.n v hv with e|e
  ·rcases h.n v e with e|⟨e1,e2⟩
   ·exact .inl e
   ·exact .inr ⟨k.q v e1,e2⟩
  ·exact .inr e,fun v hv=>by
  rcases k.p v hv with e|e
  ·rcases h.p v e with e|⟨e1,e2⟩
   ·exact .inl e
   ·exact .inr ⟨k.S v e1,e2⟩
  ·exact .inr e,k.d.trans h.d⟩
theorem stp_Rl{ks:List Nat}{a fr to:Nat}{f:Int}{s:WSt}(hadj:Adj ks fr to)(ht:to<6):Rl ks a s (stp a fr to f s)/\(fr=a->to∈(stp a fr to f s).2.1):=by
 unfold stp
 split
 ·rename_i hc
  obtain⟨rfl,hc2⟩:=hc
  refine⟨⟨fun v h=>List.mem_append_left _ h,fun v h=>List.mem_append_left _ h,fun v h=>?_,fun v h=>?_,?_⟩,fun _=>by simp⟩
  ·rcases List.mem_append.1 h with h|h
   ·exact .inl h
   ·right
    simp only[List.mem_singleton]at h
    subst h
    exact⟨by simp,hadj⟩
  ·rcases List.mem_append.1 h with h|h
   ·exact .inl h
   ·right
    simp only[List.mem_singleton]at h
    subst h
    exact⟨by simp,hadj⟩
  ·show gI ((s.1.set to _).set (6+to) _) 12=gI s.1 12
   rw[gI_set_ne (by omega),gI_set_ne (by omega)]
 ·rename_i hc
  refine⟨Rl.refl,fun e=>?_⟩
  exact Classical.byContradiction fun h=>hc ⟨e,h⟩
section
variable {N:Nat}{ks ps:List Nat}{fl:List Int}
theorem esS_Rl(hok:GOK N ks ps){a:Nat}{s:WSt}:∀i,i<=ks.length->Rl ks a s (esS a ks fl s i)/\∀j,j<i->(gN ks j/6=a->gN ks j%6∈(esS a ks fl s i).2.1)/\(gN ks j%6=a->gN ks j/6∈(esS a ks fl s i).2.1)
 |0,_=>⟨Rl.refl,fun j hj=>by omega⟩
 |
  i+1,hi=>by
  obtain⟨h1,h2⟩:=esS_Rl hok (a:=a) (s:=s) i (by omega)
  have hil:i<ks.length:=by omega
  have hee:=hok.ee _ (gN_mem hil)
  have n6:=hok.n6
  have ha:=pe_adj hil
  have k1:=stp_Rl (a:=a) (f:=gI fl i) (s:=esS a ks fl s i) ha (by omega)
  have k2:=stp_Rl (a:=a) (f:=IntKind.i64.wrap (0-gI fl i)) (s:=stp a (gN ks i/6) (gN ks i%6) (gI fl i) (esS a ks fl s i)) ha.symm (by omega)
  have e:esS a ks fl s (i+1)=stp a (gN ks i%6) (gN ks i/6) (IntKind.i64.wrap (0-gI fl i)) (stp a (gN ks i/6) (gN ks i%6) (gI fl i) (esS a ks fl s i)):=rfl
  rw[e]
  refine⟨(h1.trans k1.1).trans k2.1,fun j hj=>?_⟩
  by_cases c:j=i
  ·subst c
   exact⟨fun e=>k2.1.S _ (k1.2 e),fun e=>k2.2 e⟩
  ·obtain⟨m1,m2⟩:=h2 j (by omega)
   exact⟨fun e=>k2.1.S _ (k1.1.S _ (m1 e)),fun e=>k2.1.S _ (k1.1.S _ (m2 e))⟩
def ClQ(ks:List Nat)(s:WSt):Prop:=(∀v∈s.2.2,v∈s.2.1)/\∀v∈s.2.1,v∉s.2.2->∀w,Adj ks v w->w∈s.2.1
theorem qsS_ok(hok:GOK N ks ps):∀(n:Nat) (s:WSt),SI N s->QIn N s->ClQ ks s->2*(N-s.2.1.length)+s.2.2.length+1<=n->
  (∀v∈s.2.1,v∈(qsS ks fl n s).2.1)/\(∀v∈(qsS ks fl n s).2.1,∀w,Adj ks v w->w∈(qsS ks fl n s).2.1)/\gI (qsS ks fl n s).1 12=gI s.1 12/\∀v∈(qsS ks fl n s).2.1,v∈s.2.1\/∃u∈s.2.2,Cn ks u v
 |0,s,_,_,_,h=>by omega
 |
  n+1,(D,S,[]),hs,hq,hc,h=>by
  refine⟨fun v hv=>hv,fun v hv w hw=>hc.2 v hv (by simp) w hw,rfl,fun v hv=>.inl hv⟩
 |
  n+1,(D,S,a::q),hs,hq,hc,h=>by
  have hs0:SI N (D,S,q):=⟨hs.d,hs.nd,hs.b,by have:(a::q).length<=S.length:=hs.q;simp only[List.length_cons]at this;show q.length<=S.length;omega⟩
  have hq0:QIn N (D,S,q):=fun v hv=>hq v (List.mem_cons_of_mem _ hv)
  have hel:=esS_len (a:=a) (ks:=ks) (fl:=fl) (s:=(D,S,q)) ks.length
  have hes:=esS_SI (fl:=fl) (a:=a) hok hs0 ks.length (Nat.le_refl _)
  have hS6:=List.Nodup.length_le_of_subset hes.nd (l₂:=List.range N) (fun x hx=>List.mem_range.2 (hes.b x hx))
  obtain⟨r1,r2⟩:=esS_Rl (fl:=fl) hok (a:=a) (s:=(D,S,q)) ks.length (Nat.le_refl _)
  have e:qsS ks fl (n+1) (D,S,a::q)=qsS ks fl n (esS a ks fl (D,S,q) ks.length):=rfl
  rw[e]
  obtain⟨c1,c2⟩:=hc
  have hcl:ClQ ks (esS a ks fl (D,S,q) ks.length):=by
   refine⟨fun v hv=>?_,fun v hv hnq w hw=>?_⟩
   ·rcases r1.p v hv with e|⟨e,_⟩
    ·exact r1.S v (c1 v (List.mem_cons_of_mem _ e))
    ·exact e
   ·rcases r1.n v hv with e|⟨e,_⟩
    ·by_cases ca:v=a
     ·subst ca
      obtain⟨k,hk,e1|e1⟩:=hw
      ·obtain⟨j,hj,rfl⟩:=List.mem_iff_getElem.1 hk
       rw[<-gN_eq hj]at e1
       have:=(r2 j hj).1 e1.1
       rwa[e1.2]at this
      ·obtain⟨j,hj,rfl⟩:=List.mem_iff_getElem.1 hk
       rw[<-gN_eq hj]at e1
       have:=(r2 j hj).2 e1.2
       rwa[e1.1]at this
     ·refine r1.S w (c2 v e ?_ w hw)
      intro hm
      rcases List.mem_cons.1 hm with hm|hm
      ·exact ca hm
      ·exact hnq (r1.q v hm)
    ·exact absurd e hnq
  have ih:=qsS_ok hok n (esS a ks fl (D,S,q) ks.length) hes (esS_QIn hok hq0 _ (Nat.le_refl _)) hcl (by
   simp only[List.length_cons,List.length_range]at h hel hS6
   omega)
  obtain⟨i1,i2,i3,i4⟩:=ih
  refine⟨fun v hv=>i1 v (r1.S v hv),i2,i3.trans r1.d,fun v hv=>?_⟩
  rcases i4 v hv with h4|⟨u,hu,hcn⟩
  ·rcases r1.n v h4 with e|⟨_,e⟩
   ·exact .inl e
   ·exact .inr ⟨a,List.mem_cons_self ..,.step (.refl _) e⟩
  ·rcases r1.p u hu with e|⟨_,e⟩
   ·exact .inr ⟨u,List.mem_cons_of_mem _ e,hcn⟩
   ·exact .inr ⟨a,List.mem_cons_self ..,Cn.trans (.step (.refl _) e) hcn⟩
theorem cntL_le(i:Nat):cntL ks i<=i:=by
 induction i with
 |zero=>exact Nat.le_refl _
 |
  succ i ih=>
  rw[cntL]
  split<;>omega
theorem closed_cn{S:List Nat}(h:∀v∈S,∀w,Adj ks v w->w∈S){u v:Nat}(hc:Cn ks u v)(hu:u∈S):v∈S:=by
 induction hc with
 |refl=>exact hu
 |step _ a ih=>exact h _ ih _ a
theorem fiS_ok(hok:GOK N ks ps):∀i,i<=N->(∀v∈(fiS ks fl i).2.1,∀w,Adj ks v w->w∈(fiS ks fl i).2.1)/\(∀u,u<i->u∈(fiS ks fl i).2.1)/\(∀v∈(fiS ks fl i).2.1,∃u,u<i/\Cn ks u v)/\gI (fiS ks fl i).1 12=(cntL ks i:Int)
 |0,_=>⟨by simp[fiS],fun u h=>by omega,by simp[fiS],rfl⟩
 |
  i+1,hi=>by
  obtain⟨h1,h2,h3,h4⟩:=fiS_ok hok i (by omega)
  have hsi:=fiS_SI (fl:=fl) hok i (by omega)
  have n6:=hok.n6
  have hcl:=cntL_le (ks:=ks) i
  by_cases c:i∈(fiS ks fl i).2.1
  ·have hst:fiS ks fl (i+1)=fiS ks fl i:=by rw[fiS];simp only[if_pos c]
   rw[hst]
   obtain⟨u,hu,hcn⟩:=h3 i c
   have hnl:¬Lst ks i:=fun h=>by have:=h u hcn.symm;omega
   refine⟨h1,fun v hv=>?_,fun v hv=>?_,?_⟩
   ·by_cases e:v=i
    ·subst e;exact c
    ·exact h2 v (by omega)
   ·obtain⟨u,hu,hcn⟩:=h3 v hv
    exact⟨u,by omega,hcn⟩
   ·rw[h4,cntL,if_neg hnl];rfl
  ·have hst:fiS ks fl (i+1)=qsS ks fl 20 (ini1 (fiS ks fl i) i):=by rw[fiS];simp only[if_neg c];rfl
   obtain⟨hs1,hs2⟩:=ini1_SI hsi (show i<N by omega) c
   have hl:Lst ks i:=fun u hu=>by
    apply Classical.byContradiction
    intro hlt
    exact c (closed_cn h1 hu.symm (h2 u (by omega)))
   have hC:ClQ ks (ini1 (fiS ks fl i) i):=by
    refine⟨fun v hv=>?_,fun v hv hnq w hw=>?_⟩
    ·have:v=i:=by simpa[ini1]using hv
     subst this
     simp[ini1]
    ·have hvi:v≠i:=fun e=>hnq (by subst e;simp[ini1])
     have hvS:v∈(fiS ks fl i).2.1:=by
      have:v∈(fiS ks fl i).2.1++[i]:=hv
      rcases List.mem_append.1 this with h|h
      ·exact h
      ·simp only[List.mem_singleton]at h;exact absurd h hvi
     exact List.mem_append_left _ (h1 v hvS w hw)
   obtain⟨q1,q2,q3,q4⟩:=qsS_ok (fl:=fl) hok 20 _ hs1 hs2 hC (by show 2*(N-((fiS ks fl i).2.1++[i]).length)+1+1<=20;omega)
   rw[hst]
   refine⟨q2,fun v hv=>?_,fun v hv=>?_,?_⟩
   ·by_cases e:v=i
    ·subst e;exact q1 v (by simp[ini1])
    ·exact q1 v (List.mem_append_left _ (h2 v (by omega)))
   ·rcases q4 v hv with h|⟨u,hu,hcn⟩
    ·have:v∈(fiS ks fl i).2.1++[i]:=h
     rcases List.mem_append.1 this with h|h
     ·obtain⟨u,hu,hcn⟩:=h3 v h
      exact⟨u,by omega,hcn⟩
     ·simp only[List.mem_singleton]at h
      subst h
      exact⟨v,by omega,.refl _⟩
    ·have:u=i:=by simpa[ini1]using hu
     subst this
     exact⟨u,by omega,hcn⟩
   ·rw[q3]
    show gI (((fiS ks fl i).1.set 12 (IntKind.i64.wrap (gI (fiS ks fl i).1 12+1))).set i i) 12=_
    rw[gI_set_ne (by omega),gI_set_eq (by rw[hsi.d];omega),h4,cntL,if_pos hl,wrap64 (by omega) (by omega)]
    omega
end
end Go.Abs
namespace Go.Abs
section
variable {rows R:List Row}{N:Nat}{ks ps:List Nat}{g x1:AV}{fl:List Int}
theorem fin_ptr1{L:List Row}{o:Nat}{vs:List AV}(h:L[1]?=some (.cells vs))(hv:vs.all (·.ids.isEmpty)=true):fin rows (.ptr (rows.length+1) o) (rows++L) rows.length=(.ptr rows.length o,rows++[.cells vs],none):=by
 have e:¬rows.length+1<rows.length:=by omega
 unfold fin
 rw[if_pos rfl]
 have hid:(AV.ptr (rows.length+1) o).ids=[rows.length+1]:=rfl
 rw[hid]
 simp only[List.all_cons,List.all_nil,Bool.and_true,decide_eq_true_eq]
 rw[if_neg e,rows_at,h]
 simp[hv,AV.plain1,AV.plain,AV.ren1,AV.ren]
set_option maxHeartbeats 4000000 in
theorem walked_ret(hg:GRd rows g N ks ps)(hf:IsL rows x1 fl)(hfl:fl.length=ks.length):Ret F 78 [g,x1] rows=some (.ptr rows.length 0,rows++[.cells (nums .i64 (fiS ks fl N).1)],none):=by
 obtain⟨ev,pv,rfl,he,hp,_⟩:=id hg.eq
 have hok:=hg.ok
 have o1:=El_one he
 have o2:=El_one hp
 have hw0:WS rows [.int .i64 N,ev,pv] (List.replicate 13 0) [] (rows++[.cells [.int .i64 N,ev,pv],.cells (nums .i64 (List.replicate 13 0)),.mp []]):=⟨⟨_,rfl⟩,by simp[row?],by simp,by simp[mpE]⟩
 have hloop:=walk_first (x1:=x1) (fl:=fl) (n0:=.int .i64 N) (pv:=pv) (r:=fun r=>fin rows r.1 r.2.1 r.2.2=(.ptr rows.length 0,rows++[.cells (nums .i64 (fiS ks fl N).1)],none)) hok he hf hfl (fun R' hw=>by
  obtain⟨L,rfl⟩:=hw.base
  have hd:=hw.d
  rw[List.getElem?_append_right (by omega),Nat.add_sub_cancel_left]at hd
  exact fin_ptr1 hd nums_ids) _ 0 _ rfl (Nat.zero_le _) hw0
 have hz:AV.cells (.agg (List.replicate 13 (AV.int .i64 0)))=nums .i64 (List.replicate 13 0):=rfl
 refine i78 F78 ?_
 simp[o1,o2,fillA,nums]at hloop ⊢
 simpa using hloop
theorem rep_ok{m:Nat}:∀x∈List.replicate m (0:Int),-100<=x/\x<=100:=by
 intro x hx
 have:=List.eq_of_mem_replicate hx
 omega
set_option maxHeartbeats 4000000 in
theorem Pieces_ret(hg:GRd rows g N ks ps):Ret F 50 [g] rows=some (.tup [.int .i64 (cntL ks N),.int .i64 0],rows,none):=by
 obtain⟨ev,pv,rfl,he,hp,_⟩:=id hg.eq
 have hok:=hg.ok
 have o1:=El_one he
 have o2:=El_one hp
 have hek:=hok.ek
 have hpk:=hok.pk
 have hC:=Check_ret (N:=N) (El_app he [.cells [.int .i64 N,ev,pv]]) (by omega) (El_app hp [.cells [.int .i64 N,ev,pv]]) (by omega)
 rw[gndB_ok hok]at hC
 have hz:IsL (rows++[.cells [.int .i64 N,ev,pv],.cells (nums .i64 (List.replicate ks.length 0))]) (.slice (rows.length+1) 0 ks.length (.at_ ks.length)) (List.replicate ks.length 0):=by
  have:=Acc_IsL (Acc_make (B:=rows) (L:=[.cells [.int .i64 N,ev,pv]]) (m:=ks.length))
  exact this.1
 have r78:=walked_ret (hg.app [.cells [.int .i64 N,ev,pv],.cells (nums .i64 (List.replicate ks.length 0))]) hz (by simp)
 have hD:=(fiS_SI (fl:=List.replicate ks.length 0) hok N (Nat.le_refl _)).d
 have h12:=(fiS_ok (fl:=List.replicate ks.length 0) hok N (Nat.le_refl _)).2.2.2
 generalize (fiS ks (List.replicate ks.length 0) N).1=D at *
 have ln:=evP_lenE (El_app he [.cells [.int .i64 N,ev,pv]])
 have hlim:(ks.length:Int)<=lim:=by simp[lim];omega
 have hl:12<D.length:=by omega
 have hD12:D[12]=(cntL ks N:Int):=by rw[<-h12,gI_eq hl]
 simp only[List.length_append,List.length_cons,List.length_nil,Nat.zero_add]at r78
 refine i50 F50 ?_
 simp[o1,o2,seg,hC,ln,hlim,rep_nums,r78,hl,hD12,maskE,drop_mapL,Nat.add_assoc]
end
end Go.Abs
namespace Go.Abs
def fr(q:Rat):AV:=.agg [.int .i64 q.num,.int .i64 (q.den:Int)]
def MX:Nat:=9223372036854775807
theorem wrapM{n:Int}(h:n.natAbs<=MX):IntKind.i64.wrap n=n:=by
 unfold MX at h
 exact wrap64 (by omega) (by omega)
theorem gcd_step{x y:Int}:Int.gcd y (x.tmod y)=Int.gcd x y:=by
 have:(x.tmod y).natAbs=x.natAbs%y.natAbs:=Int.natAbs_tmod ..
 unfold Int.gcd
 rw[this,Nat.gcd_comm,<-Nat.gcd_rec,Nat.gcd_comm]
theorem tmod_lt{x y:Int}(h:y≠0):(x.tmod y).natAbs<y.natAbs:=by
 have:(x.tmod y).natAbs=x.natAbs%y.natAbs:=Int.natAbs_tmod ..
 rw[this]
 exact Nat.mod_lt _ (by omega)
theorem tdiv_dvd{a:Int}{g:Nat}(h:(g:Int)∣a):a.tdiv g=a/g:=Int.tdiv_eq_ediv_of_dvd h
section
variable {rows:List Row}{a b:Int}
theorem fin_fr{a b:Int}{L:List Row}:fin rows (.agg [.int .i64 a,.int .i64 b]) (rows++L) rows.length=(.agg [.int .i64 a,.int .i64 b],rows,none):=by
 have h:(AV.agg [.int .i64 a,.int .i64 b]).ids=[]:=rfl
 simp[fin,h]
theorem div_small{a:Int}{g:Nat}(ha:a.natAbs<=MX):(a/(g:Int)).natAbs<=MX:=by
 refine Nat.le_trans ?_ ha
 by_cases c:g=0
 ·subst c;simp
 ·have h1:=Int.natAbs_ediv a g
  have:(a/(g:Int)).natAbs<=a.natAbs:=Int.natAbs_ediv_le_natAbs a g
  exact this
set_option maxHeartbeats 4000000 in
theorem low_end{X:Int}{sl:List (Nat×AV)}(s0:lk sl 0 = .int .i64 a)(s1:lk sl 1 = .int .i64 b)(s4:lk sl 4 = .ptr rows.length 0)(s5:lk sl 5 = .int .i64 X)(hb:b≠0)(ha:a.natAbs<=MX)(hbm:b.natAbs<=MX)(hX:X.natAbs=Int.gcd a b):
  Ex F (.fn [.cellN 4 2]) [.code c106s9] ⟨mk 30 sl,rows++[.cells [.int .i64 0,.int .i64 0]],rows.length⟩ fun r=>fin rows r.1 r.2.1 r.2.2=(fr (Rat.divInt a b),rows,none):=by
 have hg0:0<Int.gcd a b:=Int.gcd_pos_of_ne_zero_right a hb
 have hga:(Int.gcd a b:Int)∣a:=Int.gcd_dvd_left ..
 have hgb:(Int.gcd a b:Int)∣b:=Int.gcd_dvd_right ..
 have hgm:Int.gcd a b<=MX:=by
  have:Int.gcd a b<=b.natAbs:=Nat.le_of_dvd (by omega) (Nat.gcd_dvd_right ..)
  omega
 have hnum:(Rat.divInt a b).num=b.sign*a/(Int.gcd a b:Int):=by rw[Rat.num_divInt,Int.gcd_comm]
 have hden:((Rat.divInt a b).den:Int)=(b.natAbs:Int)/(Int.gcd a b:Int):=by rw[Rat.den_divInt,if_neg hb,Int.gcd_comm];rfl
 unfold fr
 rw[hnum,hden]
 generalize Int.gcd a b=g at *
 have hlow:lower rows.length rows.length=rows.length:=lower_ge' (Nat.le_refl _)
 have hcel:cells? (rows++[.cells [.int .i64 0,.int .i64 0]]) rows.length=some [.int .i64 0,.int .i64 0]:=by simp[cells?]
 have key:∀x:Int,(x=g\/x = -g)->(x<0↔b<0)->x≠0/\a.tdiv x=b.sign*a/(g:Int)/\b.tdiv x=(b.natAbs:Int)/(g:Int):=by
  intro x hx hs
  refine⟨by omega,?_,?_⟩
  ·rcases hx with rfl|rfl
   ·have hb1:0<b:=by omega
    rw[tdiv_dvd hga,Int.sign_eq_one_of_pos hb1,Int.one_mul]
   ·have hb1:b<0:=by omega
    rw[Int.tdiv_neg,tdiv_dvd hga,Int.sign_eq_neg_one_of_neg hb1,Int.neg_one_mul,Int.neg_ediv_of_dvd hga]
  ·rcases hx with rfl|rfl
   ·have hb1:0<b:=by omega
    rw[tdiv_dvd hgb,show((b.natAbs:Nat):Int)=b from by omega]
   ·have hb1:b<0:=by omega
    rw[Int.tdiv_neg,tdiv_dvd hgb,show((b.natAbs:Nat):Int) = -b from by omega,Int.neg_ediv_of_dvd hgb]
 have w1:IntKind.i64.wrap (b.sign*a/(g:Int))=b.sign*a/(g:Int):=by
  apply wrapM
  apply div_small
  rw[Int.natAbs_mul,Int.natAbs_sign]
  split<;>omega
 have w2:IntKind.i64.wrap ((b.natAbs:Int)/(g:Int))=(b.natAbs:Int)/(g:Int):=by
  apply wrapM
  apply div_small
  omega
 have wX:IntKind.i64.wrap (-X) = -X:=wrapM (by rw[Int.natAbs_neg];omega)
 have wg:IntKind.i64.wrap (-(g:Int)) = -(g:Int):=wrapM (by omega)
 have wp:IntKind.i64.wrap (g:Int)=(g:Int):=wrapM (by omega)
 generalize b.sign*a/(g:Int)=P at *
 generalize (b.natAbs:Int)/(g:Int)=Q at *
 have kp:=key g (.inl rfl)
 have kn:=key (-g) (.inr rfl)
 by_cases c1:X<0
 ·have e1 : -X=(g:Int):=by omega
  by_cases c2:b<0
  ·obtain⟨h0,h1,h2⟩:=kn (by omega)
   have h0':¬(g=0):=by omega
   rw[Int.tdiv_neg]at h1 h2
   simp[s0,s1,s4,s5,c1,wX,e1,c2,wg,wp,h0',h1,h2,w1,w2,fillA,splice,hcel,hlow,fin_fr,seg]
  ·obtain⟨h0,h1,h2⟩:=kp (by omega)
   have h0':¬(g=0):=by omega
   simp[s0,s1,s4,s5,c1,wX,e1,c2,wp,h0',h1,h2,w1,w2,fillA,splice,hcel,hlow,fin_fr,seg]
 ·have e1:X=(g:Int):=by omega
  rw[e1]at s5
  have c1':¬((g:Int)<0):=by omega
  by_cases c2:b<0
  ·obtain⟨h0,h1,h2⟩:=kn (by omega)
   have h0':¬(g=0):=by omega
   rw[Int.tdiv_neg]at h1 h2
   simp[s0,s1,s4,s5,c1',c2,wg,h0',h1,h2,w1,w2,fillA,splice,hcel,hlow,fin_fr,seg]
  ·obtain⟨h0,h1,h2⟩:=kp (by omega)
   have h0':¬(g=0):=by omega
   simp[s0,s1,s4,s5,c1',c2,h0',h1,h2,w1,w2,fillA,splice,hcel,hlow,fin_fr,seg]
set_option maxHeartbeats 4000000 in
theorem low_loop(hb:b≠0)(ha:a.natAbs<=MX)(hbm:b.natAbs<=MX):∀(n:Nat) (x y:Int),y.natAbs<=n->x.natAbs<=MX->y.natAbs<=MX->Int.gcd x y=Int.gcd a b->
  Lc106l10 F (.fn [.cellN 4 2]) (.int .i64 a) (.int .i64 b) (.ptr rows.length 0) (.int .i64 x) (.int .i64 y) (rows++[.cells [.int .i64 0,.int .i64 0]]) rows.length fun r=>fin rows r.1 r.2.1 r.2.2=(fr (Rat.divInt a b),rows,none):=by
 intro n
 induction n with
 |
  zero=>
  intro x y h1 h2 h3 h4
  obtain rfl:y=0:=by omega
  unfold Lc106l10
  simp[-uc106s9]
  refine low_end (X:=x) ?_ ?_ ?_ ?_ hb ha hbm (by rw[<-h4];simp)<;>simp
 |
  succ n ih=>
  intro x y h1 h2 h3 h4
  by_cases c:y=0
  ·subst c
   exact ih x 0 (by omega) h2 (by simp) h4
  ·have h5:=tmod_lt (x:=x) c
   have:=ih y (x.tmod y) (by omega) h3 (by omega) (by rw[gcd_step,h4])
   unfold Lc106l10
   simp[c]
   simpa using this
theorem lowest_ret(hb:b≠0)(ha:a.natAbs<=MX)(hbm:b.natAbs<=MX):Ret F 106 [.int .i64 a,.int .i64 b] rows=some (fr (Rat.divInt a b),rows,none):=by
 have:=low_loop (rows:=rows) hb ha hbm _ a b (Nat.le_refl _) ha hbm rfl
 refine i106 F106 ?_
 simp
 simpa using this
end
end Go.Abs
namespace Go.Abs
def sc(q:Rat)(L:Nat):Int:=q.num*((L/q.den:Nat):Int)
def sm(q:Rat):Prop:=q.num.natAbs<=MX/\q.den<=MX
theorem dvi{a:Int}{b:Nat}(hb:0<b):(Rat.divInt a b).num=a/(Int.gcd a b:Int)/\(Rat.divInt a b).den=b/Int.gcd a b:=by
 rw[Rat.num_divInt,Rat.den_divInt,if_neg (by omega),Int.gcd_comm]
 rw[Int.sign_eq_one_of_pos (by omega),Int.one_mul]
 exact⟨rfl,rfl⟩
theorem mul_le_of{a b:Int}{n:Nat}(h:(a*b).natAbs<=n)(hb:1<=b.natAbs):a.natAbs<=n:=by
 rw[Int.natAbs_mul]at h
 exact Nat.le_trans (Nat.le_mul_of_pos_right _ hb) h
theorem two_den{f g:Rat}{L:Nat}(h1:f.den∣L)(h2:g.den∣L)(h0:0<L):∃p q G t:Nat,f.den=G*p/\g.den=G*q/\0<G/\0<p/\0<q/\0<t/\sc f L=f.num*q*t/\sc g L=g.num*p*t/\Nat.gcd f.den g.den=G/\f.den*q<=L:=by
 obtain⟨p,q,hc,e1,e2⟩:=Nat.exists_coprime f.den g.den
 have fd:=f.den_pos
 have gd:=g.den_pos
 have hG:0<Nat.gcd f.den g.den:=Nat.gcd_pos_of_pos_left _ fd
 generalize hGe:Nat.gcd f.den g.den=G at *
 obtain⟨u,hu⟩:=h1
 obtain⟨v,hv⟩:=h2
 have hp:0<p:=Nat.pos_of_ne_zero fun e=>by rw[e,Nat.zero_mul]at e1;omega
 have hq:0<q:=Nat.pos_of_ne_zero fun e=>by rw[e,Nat.zero_mul]at e2;omega
 have huv:p*u=q*v:=by
  have:G*(p*u)=G*(q*v):=by
   rw[<-Nat.mul_assoc,<-Nat.mul_assoc,Nat.mul_comm G p,Nat.mul_comm G q,<-e1,<-e2,<-hu,<-hv]
  exact Nat.eq_of_mul_eq_mul_left hG this
 obtain⟨t,ht⟩:q∣u:=hc.symm.dvd_of_dvd_mul_left ⟨v,huv⟩
 have hvt:v=p*t:=by
  have:q*v=q*(p*t):=by rw[<-huv,ht];rw[Nat.mul_left_comm]
  exact Nat.eq_of_mul_eq_mul_left hq this
 have ht0:0<t:=Nat.pos_of_ne_zero fun e=>by rw[ht,e,Nat.mul_zero,Nat.mul_zero]at hu;omega
 refine⟨p,q,G,t,by rw[e1,Nat.mul_comm],by rw[e2,Nat.mul_comm],hG,hp,hq,ht0,?_,?_,rfl,?_⟩
 ·unfold sc
  rw[hu,Nat.mul_div_cancel_left _ fd,ht,Int.natCast_mul,Int.mul_assoc]
 ·unfold sc
  rw[hv,Nat.mul_div_cancel_left _ gd,hvt,Int.natCast_mul,Int.mul_assoc]
 ·rw[hu,ht,<-Nat.mul_assoc]
  exact Nat.le_mul_of_pos_right _ ht0
theorem plus_eq{f g:Rat}{p q G:Nat}(e1:f.den=G*p)(e2:g.den=G*q)(hG:0<G)(hp:0<p)(hq:0<q):Rat.divInt (f.num*q+g.num*p) (((f.den*q:Nat):Nat):Int)=f+g:=by
 have h1:f+g=Rat.divInt (f.num*g.den+g.num*f.den) (f.den*g.den):=by
  rw[<-Rat.divInt_add_divInt _ _ (by have:=f.den_pos;omega) (by have:=g.den_pos;omega),Rat.num_divInt_den,Rat.num_divInt_den]
 rw[h1]
 have e3:f.num*(g.den:Int)+g.num*(f.den:Int)=(G:Int)*(f.num*q+g.num*p):=by
  rw[e1,e2,Int.natCast_mul,Int.natCast_mul,Int.mul_add,Int.mul_left_comm,Int.mul_left_comm (g.num)]
 have e4:((f.den:Int)*(g.den:Int))=(G:Int)*((f.den*q:Nat):Int):=by
  rw[e2,Int.natCast_mul,Int.natCast_mul,Int.mul_left_comm]
 rw[e3,e4,Rat.divInt_mul_left (by omega)]
section
variable {rows:List Row}{f g:Rat}
theorem natCast_ediv'{a b:Nat}:((a:Int)/(b:Int))=((a/b:Nat):Int):=rfl
set_option maxHeartbeats 4000000 in
theorem plus_ret{L:Nat}(h1:f.den∣L)(h2:g.den∣L)(h0:0<L)(hL:L<=MX)(hs:(sc f L).natAbs+(sc g L).natAbs<=MX):Ret F 97 [fr f,fr g] rows=some (fr (f+g),rows,none):=by
 obtain⟨p,q,G,t,e1,e2,hG,hp,hq,ht,s1,s2,hg,hl⟩:=two_den h1 h2 h0
 have fl:=Nat.le_of_dvd h0 h1
 have gl:=Nat.le_of_dvd h0 h2
 have fd:=f.den_pos
 have gd:=g.den_pos
 have b1:(f.num*q*t).natAbs+(g.num*p*t).natAbs<=MX:=by rw[<-s1,<-s2];exact hs
 have b2:(f.num*q).natAbs<=(f.num*q*t).natAbs:=by rw[Int.natAbs_mul (f.num*q)];exact Nat.le_mul_of_pos_right _ (by omega)
 have b3:(g.num*p).natAbs<=(g.num*p*t).natAbs:=by rw[Int.natAbs_mul (g.num*p)];exact Nat.le_mul_of_pos_right _ (by omega)
 have w1:IntKind.i64.wrap (f.num*q)=f.num*q:=wrapM (by omega)
 have w2:IntKind.i64.wrap (g.num*p)=g.num*p:=wrapM (by omega)
 have w3:IntKind.i64.wrap (f.num*q+g.num*p)=f.num*q+g.num*p:=wrapM (by omega)
 have w4:IntKind.i64.wrap ((f.den:Int)*q)=(f.den:Int)*q:=by rw[<-Int.natCast_mul];exact wrapM (by omega)
 have d1:(Rat.divInt (f.den:Int) (g.den:Int)).num=p:=by
  rw[(dvi gd).1,Int.gcd_natCast_natCast,hg,natCast_ediv',e1,Nat.mul_div_cancel_left _ hG]
 have d2:(Rat.divInt (f.den:Int) (g.den:Int)).den=q:=by
  rw[(dvi gd).2,Int.gcd_natCast_natCast,hg,e2,Nat.mul_div_cancel_left _ hG]
 have r1:∀R:List Row,Ret F 106 [.int .i64 f.den,.int .i64 g.den] R=some (.agg [.int .i64 p,.int .i64 q],R,none):=fun R=>by
  have:=lowest_ret (rows:=R) (a:=f.den) (b:=g.den) (by omega) (by omega) (by omega)
  rw[this]
  unfold fr
  rw[d1,d2]
 have hfq:0<f.den*q:=Nat.mul_pos fd hq
 have r2:∀R:List Row,Ret F 106 [.int .i64 (f.num*q+g.num*p),.int .i64 ((f.den:Int)*q)] R=some (fr (f+g),R,none):=fun R=>by
  rw[<-Int.natCast_mul,lowest_ret (by omega) (by omega) (by omega),plus_eq e1 e2 hG hp hq]
 have q1:row? (rows++[.cells [.int .i64 f.num,.int .i64 f.den],.cells [.int .i64 g.num,.int .i64 g.den]]) rows.length=some [.int .i64 f.num,.int .i64 f.den]:=by simp[row?]
 have hlw:∀i,lower rows.length (rows.length+i)=rows.length:=fun i=>lower_ge' (by omega)
 unfold fr at *
 refine i97 F97 ?_
 simp[r1,w1,w2,w3,w4,r2,splice,seg,hlw,Nat.add_assoc]
set_option maxHeartbeats 4000000 in
theorem minus_ret{L:Nat}(h1:f.den∣L)(h2:g.den∣L)(h0:0<L)(hL:L<=MX)(hs:(sc f L).natAbs+(sc g L).natAbs<=MX)(hg:sm g):Ret F 95 [fr f,fr g] rows=some (fr (f-g),rows,none):=by
 have e:sc (-g) L = - sc g L:=by unfold sc;rw[Rat.neg_num,Rat.neg_den,Int.neg_mul]
 have hp:∀R:List Row,Ret F 97 [fr f,fr (-g)] R=some (fr (f-g),R,none):=fun R=>by
  rw[Rat.sub_eq_add_neg]
  exact plus_ret h1 (by rw[Rat.neg_den];exact h2) h0 hL (by rw[e,Int.natAbs_neg];exact hs)
 have w:IntKind.i64.wrap (-g.num) = -g.num:=wrapM (by rw[Int.natAbs_neg];exact hg.1)
 unfold fr at *
 rw[Rat.neg_num,Rat.neg_den]at hp
 refine i95 F95 ?_
 simp[w,hp,fillA,splice,seg,Nat.add_assoc]
theorem times_eq:(Rat.divInt f.num (g.den:Int)).num*(Rat.divInt g.num (f.den:Int)).num=(f*g).num/\(Rat.divInt f.num (g.den:Int)).den*(Rat.divInt g.num (f.den:Int)).den=(f*g).den:=by
 have fd:=f.den_pos
 have gd:=g.den_pos
 obtain⟨a1,a2⟩:=dvi (a:=f.num) gd
 obtain⟨b1,b2⟩:=dvi (a:=g.num) fd
 have hA:0<Int.gcd f.num (g.den:Int):=Int.gcd_pos_of_ne_zero_right _ (by omega)
 have hB:0<Int.gcd g.num (f.den:Int):=Int.gcd_pos_of_ne_zero_right _ (by omega)
 have cA:(Int.gcd f.num (g.den:Int):Int)∣f.num:=Int.gcd_dvd_left ..
 have cB:(Int.gcd g.num (f.den:Int):Int)∣g.num:=Int.gcd_dvd_left ..
 have dA:Int.gcd f.num (g.den:Int)∣g.den:=Nat.gcd_dvd_right ..
 have dB:Int.gcd g.num (f.den:Int)∣f.den:=Nat.gcd_dvd_right ..
 have r1:=(Rat.divInt f.num (g.den:Int)).reduced
 have r2:=(Rat.divInt g.num (f.den:Int)).reduced
 have rf:=f.reduced
 have rg:=g.reduced
 rw[a1,a2]at r1
 rw[b1,b2]at r2
 rw[a1,a2,b1,b2]
 generalize Int.gcd f.num (g.den:Int)=A at *
 generalize Int.gcd g.num (f.den:Int)=B at *
 obtain⟨x,hx⟩:=cA
 obtain⟨y,hy⟩:=cB
 obtain⟨u,hu⟩:=dA
 obtain⟨v,hv⟩:=dB
 have e1:f.num/(A:Int)=x:=by rw[hx,Int.mul_ediv_cancel_left _ (by omega)]
 have e2:g.num/(B:Int)=y:=by rw[hy,Int.mul_ediv_cancel_left _ (by omega)]
 have e3:g.den/A=u:=by rw[hu,Nat.mul_div_cancel_left _ hA]
 have e4:f.den/B=v:=by rw[hv,Nat.mul_div_cancel_left _ hB]
 rw[e1,e3]at r1
 rw[e2,e4]at r2
 rw[e1,e2,e3,e4]
 have c1:Nat.Coprime x.natAbs v:=by
  have h:Nat.Coprime f.num.natAbs f.den:=rf
  rw[hx,hv,Int.natAbs_mul]at h
  exact(h.coprime_mul_left).coprime_mul_left_right
 have c2:Nat.Coprime y.natAbs u:=by
  have h:Nat.Coprime g.num.natAbs g.den:=rg
  rw[hy,hu,Int.natAbs_mul]at h
  exact(h.coprime_mul_left).coprime_mul_left_right
 have hc:Nat.Coprime (x*y).natAbs (u*v):=by
  rw[Int.natAbs_mul]
  exact Nat.Coprime.mul_left (Nat.Coprime.mul_right r1 c1) (Nat.Coprime.mul_right c2 r2)
 have huv:u*v≠0:=by
  intro h
  rcases Nat.mul_eq_zero.1 h with h|h
  ·rw[h,Nat.mul_zero]at hu;omega
  ·rw[h,Nat.mul_zero]at hv;omega
 have hfg:f*g=⟨x*y,u*v,huv,hc⟩:=by
  rw[Rat.mk_eq_divInt]
  have:f*g=Rat.divInt (f.num*g.num) (f.den*g.den):=by
   rw[<-Rat.divInt_mul_divInt,Rat.num_divInt_den,Rat.num_divInt_den]
  rw[this]
  have s1:f.num*g.num=((A*B:Nat):Int)*(x*y):=by
   rw[Int.natCast_mul]
   conv=>lhs;rw[hx,hy]
   simp only[Int.mul_assoc,Int.mul_left_comm]
  have s2:(f.den:Int)*(g.den:Int)=((A*B:Nat):Int)*((u*v:Nat):Int):=by
   rw[<-Int.natCast_mul,<-Int.natCast_mul]
   conv=>lhs;rw[hu,hv]
   congr 1
   simp only[Nat.mul_assoc,Nat.mul_left_comm,Nat.mul_comm]
  rw[s1,s2,Rat.divInt_mul_left (by have:=Nat.mul_pos hA hB;omega)]
 rw[hfg]
 exact⟨rfl,rfl⟩
set_option maxHeartbeats 4000000 in
theorem times_ret(hf:sm f)(hg:sm g)(h:sm (f*g)):Ret F 99 [fr f,fr g] rows=some (fr (f*g),rows,none):=by
 have fd:=f.den_pos
 have gd:=g.den_pos
 obtain⟨t1,t2⟩:=times_eq (f:=f) (g:=g)
 have r1:∀R:List Row,Ret F 106 [.int .i64 f.num,.int .i64 g.den] R=some (fr (Rat.divInt f.num g.den),R,none):=fun R=>lowest_ret (by omega) hf.1 (by have:=hg.2;omega)
 have r2:∀R:List Row,Ret F 106 [.int .i64 g.num,.int .i64 f.den] R=some (fr (Rat.divInt g.num f.den),R,none):=fun R=>lowest_ret (by omega) hg.1 (by have:=hf.2;omega)
 have w1:IntKind.i64.wrap ((Rat.divInt f.num (g.den:Int)).num*(Rat.divInt g.num (f.den:Int)).num)=(f*g).num:=by rw[t1];exact wrapM h.1
 have w2:IntKind.i64.wrap (((Rat.divInt f.num (g.den:Int)).den:Int)*((Rat.divInt g.num (f.den:Int)).den:Int))=((f*g).den:Int):=by
  rw[<-Int.natCast_mul,t2]
  exact wrapM h.2
 unfold fr at *
 refine i99 F99 ?_
 generalize (Rat.divInt f.num (g.den:Int))=a at *
 generalize (Rat.divInt g.num (f.den:Int))=b at *
 generalize f*g=c at *
 simp[maskE,r1,r2,opC,targetC,lowO,lower_ge',drop_mapL,Nat.add_assoc,w1,w2,fillA,splice,seg]
end
end Go.Abs
namespace Go.Abs
section
variable {rows:List Row}{f g:Rat}
theorem fr_inv_pos(h:0<g.num):fr g⁻¹ = .agg [.int .i64 g.den,.int .i64 g.num]:=by
 unfold fr
 rw[Rat.num_inv,Rat.den_inv,Int.sign_eq_one_of_pos h,Int.one_mul,if_neg (by omega)]
 rw[show((g.num.natAbs:Nat):Int)=g.num from by omega]
theorem fr_inv_neg(h:g.num<0):fr g⁻¹ = .agg [.int .i64 (-(g.den:Int)),.int .i64 (-g.num)]:=by
 unfold fr
 rw[Rat.num_inv,Rat.den_inv,Int.sign_eq_neg_one_of_neg h,Int.neg_one_mul,if_neg (by omega)]
 rw[show((g.num.natAbs:Nat):Int) = -g.num from by omega]
theorem sm_inv(hg:sm g):sm g⁻¹:=by
 unfold sm at *
 rw[Rat.num_inv,Rat.den_inv]
 have:=g.den_pos
 constructor
 ·rw[Int.natAbs_mul,Int.natAbs_sign]
  split<;>simp
  exact hg.2
 ·split
  ·unfold MX;omega
  ·exact hg.1
set_option maxHeartbeats 4000000 in
theorem over_ret(hf:sm f)(hg:sm g)(h0:g≠0)(h:sm (f/g)):Ret F 123 [fr f,fr g] rows=some (fr (f/g),rows,none):=by
 have hn:g.num≠0:=fun e=>h0 (Rat.num_eq_zero.1 e)
 have ht:∀R:List Row,Ret F 99 [fr f,fr g⁻¹] R=some (fr (f/g),R,none):=fun R=>by
  rw[Rat.div_def]
  exact times_ret hf (sm_inv hg) (by rw[<-Rat.div_def];exact h)
 have w1:IntKind.i64.wrap (-(g.den:Int)) = -(g.den:Int):=wrapM (by rw[Int.natAbs_neg];have:=hg.2;omega)
 have w2:IntKind.i64.wrap (-g.num) = -g.num:=wrapM (by rw[Int.natAbs_neg];exact hg.1)
 refine i123 F123 ?_
 by_cases c:g.num<0
 ·rw[fr_inv_neg c]at ht
  unfold fr at *
  simp[c,w1,w2,ht,fillA,splice,seg,Nat.add_assoc]
 ·rw[fr_inv_pos (by omega)]at ht
  unfold fr at *
  simp[c,ht,fillA,splice,seg,Nat.add_assoc]
theorem fr_int{n:Int}:fr (n:Rat) = .agg [.int .i64 n,.int .i64 1]:=by
 unfold fr
 rw[Rat.num_intCast,Rat.den_intCast]
 rfl
theorem whole_ret{n:Int}:Ret F 63 [.int .i64 n] rows=some (fr (n:Rat),rows,none):=by
 rw[fr_int]
 refine i63 F63 ?_
 simp[fillA,splice,seg]
theorem gcd_end{X:Int}{sl:List (Nat×AV)}{n:Nat}(s0:lk sl 0 = .int .i64 X)(hX:X.natAbs=n)(h1:1<=n)(hm:n<=MX):Ex F (.fn [.t 4]) [.code c72s1] ⟨mk 15 sl,rows,rows.length⟩ fun r=>fin rows r.1 r.2.1 r.2.2=(.int .i64 n,rows,none):=by
 have w:IntKind.i64.wrap (-X) = -X:=wrapM (by rw[Int.natAbs_neg];omega)
 have e:evP rows (.mx [.c (.int .i64 X),.c (.int .i64 (-X)),.c (.int .i64 1)])=some (.int .i64 n):=by
  show foldA mxA (.int .i64 X) [.int .i64 (-X),.int .i64 1]=_
  simp only[foldA,mxA,if_true]
  have e2:(if(1:Int)>(if -X>X then -X else X)then 1 else if -X>X then -X else X)=(n:Int):=by
   split<;>split at *<;>omega
  rw[e2]
 simp[s0,w,e]
theorem gcd_loop{a b:Int}(hb:b≠0)(hbm:b.natAbs<=MX):∀(n:Nat) (x y:Int),y.natAbs<=n->x.natAbs<=MX->y.natAbs<=MX->Int.gcd x y=Int.gcd a b->
  Lc72l2 F (.fn [.t 4]) (.int .i64 x) (.int .i64 y) rows rows.length fun r=>fin rows r.1 r.2.1 r.2.2=(.int .i64 (Int.gcd a b),rows,none):=by
 have hg0:0<Int.gcd a b:=Int.gcd_pos_of_ne_zero_right a hb
 have hgm:Int.gcd a b<=MX:=by
  have:Int.gcd a b<=b.natAbs:=Nat.le_of_dvd (by omega) (Nat.gcd_dvd_right ..)
  omega
 intro n
 induction n with
 |
  zero=>
  intro x y h1 h2 h3 h4
  obtain rfl:y=0:=by omega
  unfold Lc72l2
  simp[-uc72s1]
  exact gcd_end (X:=x) (by simp) (by rw[<-h4];simp) hg0 hgm
 |
  succ n ih=>
  intro x y h1 h2 h3 h4
  by_cases c:y=0
  ·subst c
   exact ih x 0 (by omega) h2 (by simp) h4
  ·have h5:=tmod_lt (x:=x) c
   have:=ih y (x.tmod y) (by omega) h3 (by omega) (by rw[gcd_step,h4])
   unfold Lc72l2
   simp[c]
   simpa using this
theorem gcd_ret{a b:Int}(hb:b≠0)(ha:a.natAbs<=MX)(hbm:b.natAbs<=MX):Ret F 72 [.int .i64 a,.int .i64 b] rows=some (.int .i64 (Int.gcd a b),rows,none):=by
 have:=gcd_loop (rows:=rows) (a:=a) hb hbm _ a b (Nat.le_refl _) ha hbm rfl
 refine i72 F72 ?_
 simp
 simpa using this
set_option maxHeartbeats 4000000 in
theorem Frac_pos{a:Int}{b:Nat}(hb:0<b)(ha:a.natAbs<=MX)(hbm:b<=MX){sl:List (Nat×AV)}(s0:lk sl 0 = .int .i64 a)(s1:lk sl 1 = .int .i64 b)(s4:lk sl 4 = .ptr rows.length 0):
  Ex F (.fn [.cellN 4 2]) [.code c73s3] ⟨mk 22 sl,rows++[.cells [.int .i64 0,.int .i64 0]],rows.length⟩ fun r=>fin rows r.1 r.2.1 r.2.2=(fr (Rat.divInt a b),rows,none):=by
 have r72:=gcd_ret (rows:=rows++[.cells [.int .i64 0,.int .i64 0]]) (a:=a) (b:=b) (by omega) ha (by omega)
 obtain⟨e1,e2⟩:=dvi (a:=a) hb
 have hg:0<Int.gcd a (b:Int):=Int.gcd_pos_of_ne_zero_right _ (by omega)
 have cA:(Int.gcd a (b:Int):Int)∣a:=Int.gcd_dvd_left ..
 have dA:Int.gcd a (b:Int)∣b:=Nat.gcd_dvd_right ..
 unfold fr
 rw[e1,e2]
 generalize Int.gcd a (b:Int)=n at *
 have w1:IntKind.i64.wrap (a.tdiv n)=a/n:=by rw[tdiv_dvd cA];exact wrapM (div_small ha)
 have w2:IntKind.i64.wrap ((b:Int)/(n:Int))=(b:Int)/(n:Int):=by
  rw[natCast_ediv']
  exact wrapM (by have:=Nat.div_le_self b n;omega)
 have hn:¬(n=0):=by omega
 have hlow:lower rows.length rows.length=rows.length:=lower_ge' (Nat.le_refl _)
 simp[s0,s1,s4,r72,hn,w1,w2,fillA,splice,hlow,seg]
theorem Frac_ret{a b:Int}(hb:b≠0)(ha:a.natAbs<=MX)(hbm:b.natAbs<=MX):Ret F 73 [.int .i64 a,.int .i64 b] rows=some (fr (Rat.divInt a b),rows,none):=by
 refine i73 F73 ?_
 by_cases c:b<0
 ·have w1:IntKind.i64.wrap (-a) = -a:=wrapM (by rw[Int.natAbs_neg];exact ha)
  have w2:IntKind.i64.wrap (-b)=((b.natAbs:Nat):Int):=by rw[show((b.natAbs:Nat):Int) = -b from by omega];exact wrapM (by rw[Int.natAbs_neg];exact hbm)
  have e:Rat.divInt a b=Rat.divInt (-a) ((b.natAbs:Nat):Int):=by
   rw[show((b.natAbs:Nat):Int) = -b from by omega,Rat.neg_divInt_neg]
  rw[e]
  simp[c,w1,w2,-uc73s3]
  exact Frac_pos (by omega) (by rw[Int.natAbs_neg];exact ha) hbm (by simp) (by simp) (by simp)
 ·obtain⟨n,rfl⟩:∃n:Nat,b=n:=⟨b.toNat,by omega⟩
  simp[c,-uc73s3]
  exact Frac_pos (by omega) ha (by omega) (by simp) (by simp) (by simp)
set_option maxHeartbeats 4000000 in
theorem Add_ret{L:Nat}(h1:f.den∣L)(h2:g.den∣L)(h0:0<L)(hL:L<=MX)(hs:(sc f L).natAbs+(sc g L).natAbs<=MX):Ret F 32 [fr f,fr g] rows=some (fr (f+g),rows,none):=by
 obtain⟨p,q,G,t,e1,e2,hG,hp,hq,ht,s1,s2,hg,hl⟩:=two_den h1 h2 h0
 have fl:=Nat.le_of_dvd h0 h1
 have gl:=Nat.le_of_dvd h0 h2
 have fd:=f.den_pos
 have gd:=g.den_pos
 have b1:(f.num*q*t).natAbs+(g.num*p*t).natAbs<=MX:=by rw[<-s1,<-s2];exact hs
 have b2:(f.num*q).natAbs<=(f.num*q*t).natAbs:=by rw[Int.natAbs_mul (f.num*q)];exact Nat.le_mul_of_pos_right _ (by omega)
 have b3:(g.num*p).natAbs<=(g.num*p*t).natAbs:=by rw[Int.natAbs_mul (g.num*p)];exact Nat.le_mul_of_pos_right _ (by omega)
 have w1:IntKind.i64.wrap (f.num*q)=f.num*q:=wrapM (by omega)
 have w2:IntKind.i64.wrap (g.num*p)=g.num*p:=wrapM (by omega)
 have w3:IntKind.i64.wrap (f.num*q+g.num*p)=f.num*q+g.num*p:=wrapM (by omega)
 have hpq:p*g.den=f.den*q:=by rw[e1,e2,Nat.mul_left_comm,Nat.mul_assoc]
 have w4:IntKind.i64.wrap ((p:Int)*(g.den:Int))=(f.den:Int)*q:=by rw[<-Int.natCast_mul,<-Int.natCast_mul,hpq];exact wrapM (by omega)
 have hpm:p<=MX:=by have:=Nat.le_mul_of_pos_left p hG;omega
 have hqm:q<=MX:=by have:=Nat.le_mul_of_pos_left q hG;omega
 have k1:IntKind.i64.wrap ((f.den:Int)/(G:Int))=p:=by
  rw[natCast_ediv',e1,Nat.mul_div_cancel_left _ hG]
  exact wrapM (by omega)
 have k2:IntKind.i64.wrap ((g.den:Int)/(G:Int))=q:=by
  rw[natCast_ediv',e2,Nat.mul_div_cancel_left _ hG]
  exact wrapM (by omega)
 have r1:∀R:List Row,Ret F 72 [.int .i64 f.den,.int .i64 g.den] R=some (.int .i64 G,R,none):=fun R=>by
  rw[gcd_ret (by omega) (by omega) (by omega),Int.gcd_natCast_natCast,hg]
 have hfq:0<f.den*q:=Nat.mul_pos fd hq
 have r2:∀R:List Row,Ret F 73 [.int .i64 (f.num*q+g.num*p),.int .i64 ((f.den:Int)*q)] R=some (fr (f+g),R,none):=fun R=>by
  rw[<-Int.natCast_mul,Frac_ret (by omega) (by omega) (by omega),plus_eq e1 e2 hG hp hq]
 have hG0:¬(G=0):=by omega
 have x0:idx? 0 2=some 0:=rfl
 have x1:idx? 1 2=some 1:=rfl
 unfold fr at *
 refine i32 F32 ?_
 simp[r1,hG0,x0,x1,k1,k2,w1,w2,w3,w4,r2,splice,seg,Nat.add_assoc]
set_option maxHeartbeats 4000000 in
theorem Sub_ret{L:Nat}(h1:f.den∣L)(h2:g.den∣L)(h0:0<L)(hL:L<=MX)(hs:(sc f L).natAbs+(sc g L).natAbs<=MX)(hg:sm g):Ret F 34 [fr f,fr g] rows=some (fr (f-g),rows,none):=by
 have e:sc (-g) L = - sc g L:=by unfold sc;rw[Rat.neg_num,Rat.neg_den,Int.neg_mul]
 have hp:∀R:List Row,Ret F 32 [fr f,fr (-g)] R=some (fr (f-g),R,none):=fun R=>by
  rw[Rat.sub_eq_add_neg]
  exact Add_ret h1 (by rw[Rat.neg_den];exact h2) h0 hL (by rw[e,Int.natAbs_neg];exact hs)
 have w:IntKind.i64.wrap (-g.num) = -g.num:=wrapM (by rw[Int.natAbs_neg];exact hg.1)
 have x0:idx? 0 2=some 0:=rfl
 have x1:idx? 1 2=some 1:=rfl
 unfold fr at *
 rw[Rat.neg_num,Rat.neg_den]at hp
 refine i34 F34 ?_
 simp[x0,x1,w,hp,fillA,splice,seg,Nat.add_assoc]
set_option maxHeartbeats 4000000 in
theorem Mul_ret(h1:(f.num*g.num).natAbs<=MX)(h2:f.den*g.den<=MX):Ret F 35 [fr f,fr g] rows=some (fr (f*g),rows,none):=by
 have hd:0<f.den*g.den:=Nat.mul_pos f.den_pos g.den_pos
 have r:∀R:List Row,Ret F 73 [.int .i64 (f.num*g.num),.int .i64 ((f.den:Int)*(g.den:Int))] R=some (fr (f*g),R,none):=fun R=>by
  rw[<-Int.natCast_mul,Frac_ret (by omega) h1 (by omega),Int.natCast_mul,<-Rat.divInt_mul_divInt,Rat.num_divInt_den,Rat.num_divInt_den]
 have w1:IntKind.i64.wrap (f.num*g.num)=f.num*g.num:=wrapM h1
 have w2:IntKind.i64.wrap ((f.den:Int)*(g.den:Int))=(f.den:Int)*(g.den:Int):=by rw[<-Int.natCast_mul];exact wrapM (by omega)
 have x0:idx? 0 2=some 0:=rfl
 have x1:idx? 1 2=some 1:=rfl
 unfold fr at *
 refine i35 F35 ?_
 simp[x0,x1,w1,w2,r,splice,seg,Nat.add_assoc]
set_option maxHeartbeats 4000000 in
theorem Div_ret(h0:g≠0)(h1:(f.num*g.den).natAbs<=MX)(h2:((f.den:Int)*g.num).natAbs<=MX):Ret F 88 [fr f,fr g] rows=some (fr (f/g),rows,none):=by
 have hn:g.num≠0:=fun e=>h0 (Rat.num_eq_zero.1 e)
 have hd:(f.den:Int)*g.num≠0:=Int.mul_ne_zero (by have:=f.den_pos;omega) hn
 have r:∀R:List Row,Ret F 73 [.int .i64 (f.num*g.den),.int .i64 ((f.den:Int)*g.num)] R=some (fr (f/g),R,none):=fun R=>by
  rw[Frac_ret hd h1 h2,<-Rat.divInt_mul_divInt,Rat.num_divInt_den,<-Rat.inv_divInt,Rat.num_divInt_den,Rat.div_def]
 have w1:IntKind.i64.wrap (f.num*g.den)=f.num*g.den:=wrapM h1
 have w2:IntKind.i64.wrap ((f.den:Int)*g.num)=(f.den:Int)*g.num:=wrapM h2
 have x0:idx? 0 2=some 0:=rfl
 have x1:idx? 1 2=some 1:=rfl
 unfold fr at *
 refine i88 F88 ?_
 simp[x0,x1,w1,w2,r,splice,seg,Nat.add_assoc]
end
end Go.Abs
namespace Go.Abs
def su:Nat->(Nat->Rat)->Rat
 |0,_=>0
 |n+1,f=>su n f+f n
theorem su_congr{f g:Nat->Rat}:∀{n:Nat},(∀i,i<n->f i=g i)->su n f=su n g
 |0,_=>rfl
 |n+1,h=>by rw[su,su,su_congr fun i hi=>h i (by omega),h n (by omega)]
theorem su_lin{f g:Nat->Rat}{x y:Rat}:∀n,su n (fun i=>x*f i+y*g i)=x*su n f+y*su n g
 |0=>by simp only[su];grind
 |n+1=>by rw[su,su,su,su_lin n];grind
theorem su_0:∀n,su n (fun _=>0)=0
 |0=>rfl
 |n+1=>by rw[su,su_0 n];grind
theorem su_z{f:Nat->Rat}{n:Nat}(h:∀i,i<n->f i=0):su n f=0:=by
 rw[su_congr h,su_0]
theorem su_mul{f:Nat->Rat}{x:Rat}(n:Nat):su n (fun i=>x*f i)=x*su n f:=by
 have:=su_lin (f:=f) (g:=fun _=>0) (x:=x) (y:=0) n
 rw[su_0]at this
 rw[su_congr (g:=fun i=>x*f i+0*0) fun i _=>by grind,this]
 grind
theorem su_add{f g:Nat->Rat}(n:Nat):su n (fun i=>f i+g i)=su n f+su n g:=by
 have:=su_lin (f:=f) (g:=g) (x:=1) (y:=1) n
 rw[su_congr (g:=fun i=>1*f i+1*g i) fun i _=>by grind,this]
 grind
theorem su_sub{f g:Nat->Rat}(n:Nat):su n (fun i=>f i-g i)=su n f-su n g:=by
 have:=su_lin (f:=f) (g:=g) (x:=1) (y:=-1) n
 rw[su_congr (g:=fun i=>1*f i + -1*g i) fun i _=>by grind,this]
 grind
theorem su_one{f:Nat->Rat}{j:Nat}:∀{n:Nat},j<n->(∀i,i<n->i≠j->f i=0)->su n f=f j
 |0,h,_=>by omega
 |
  n+1,h,hz=>by
  rw[su]
  by_cases c:j=n
  ·subst c
   rw[su_z fun i hi=>hz i (by omega) (by omega)]
   grind
  ·rw[su_one (show j<n by omega) fun i hi hne=>hz i (by omega) hne,hz n (by omega) (by omega)]
   grind
theorem su_comm{f:Nat->Nat->Rat}(m:Nat):∀n,su n (fun i=>su m (f i))=su m (fun j=>su n fun i=>f i j)
 |0=>by simp only[su];rw[su_0]
 |
  n+1=>by
  simp only[su]
  rw[su_comm m n,<-su_add]
def skp(j s:Nat):Nat:=if s<j then s else s+1
theorem su_skp{g:Nat->Rat}{j:Nat}:∀{n:Nat},j<=n->su (n+1) g=g j+su n (fun l=>g (skp j l))
 |
  0,h=>by
  obtain rfl:j=0:=by omega
  simp only[su]
  grind
 |
  n+1,h=>by
  rw[su]
  by_cases c:j=n+1
  ·subst c
   rw[su_congr (f:=fun l=>g (skp (n+1) l)) (g:=g) fun l hl=>by unfold skp;rw[if_pos hl]]
   grind
  ·rw[su_skp (show j<=n by omega)]
   conv=>rhs;rw[su]
   have e:skp j n=n+1:=by unfold skp;rw[if_neg (by omega)]
   rw[e]
   grind
def sg(j:Nat):Rat:=if j%2=0 then 1 else -1
theorem sg_succ{j:Nat}:sg (j+1) = - sg j:=by
 unfold sg
 by_cases c:j%2=0
 ·rw[if_pos c,if_neg (by omega)]
 ·rw[if_neg c,if_pos (by omega)]
  rfl
def det:Nat->(Nat->Nat->Rat)->Rat
 |0,_=>1
 |k+1,a=>su (k+1) fun j=>sg j*a 0 j*det k (fun r s=>a (r+1) (skp j s))
theorem skp_lt{j s k:Nat}(h:s<k):skp j s<k+1:=by unfold skp;split<;>omega
theorem det_congr:∀{k:Nat} {a b:Nat->Nat->Rat},(∀r s,r<k->s<k->a r s=b r s)->det k a=det k b
 |0,a,b,_=>rfl
 |
  k+1,a,b,h=>by
  rw[det,det]
  refine su_congr fun j hj=>?_
  rw[h 0 j (by omega) hj,det_congr (k:=k) fun r s hr hs=>h (r+1) (skp j s) (by omega) (skp_lt hs)]
def upd(a:Nat->Nat->Rat)(t:Nat)(u:Nat->Rat):Nat->Nat->Rat:=fun r s=>if r=t then u s else a r s
theorem upd_s{a:Nat->Nat->Rat}{t j:Nat}{u:Nat->Rat}:(fun r s=>upd a (t+1) u (r+1) (skp j s))=upd (fun r s=>a (r+1) (skp j s)) t (fun s=>u (skp j s)):=by
 funext r s
 unfold upd
 by_cases c:r=t
 ·subst c;simp
 ·simp[c]
theorem det_lin{x y:Rat}:∀{k t:Nat} {a:Nat->Nat->Rat} {u v:Nat->Rat},t<k->det k (upd a t fun s=>x*u s+y*v s)=x*det k (upd a t u)+y*det k (upd a t v)
 |0,t,a,u,v,h=>by omega
 |
  k+1,0,a,u,v,h=>by
  simp only[det]
  rw[<-su_lin]
  refine su_congr fun j hj=>?_
  have e:∀w:Nat->Rat,(fun r s=>upd a 0 w (r+1) (skp j s))=fun r s=>a (r+1) (skp j s):=fun w=>by funext r s;simp[upd]
  rw[e,e,e]
  simp only[upd,if_true]
  generalize det k _=d
  grind
 |
  k+1,t+1,a,u,v,h=>by
  simp only[det]
  rw[<-su_lin]
  refine su_congr fun j hj=>?_
  rw[upd_s,upd_s,upd_s,det_lin (k:=k) (t:=t) (by omega)]
  have e:∀w:Nat->Rat,upd a (t+1) w 0 j=a 0 j:=fun w=>by simp[upd]
  rw[e,e,e]
  generalize det k _=d
  generalize det k _=d'
  grind
theorem det_sum{k t:Nat}{a:Nat->Nat->Rat}(h:t<k){x:Nat->Rat}{b:Nat->Nat->Rat}:∀n,det k (upd a t fun s=>su n fun r=>x r*b r s)=su n fun r=>x r*det k (upd a t (b r))
 |
  0=>by
  have:=det_lin (x:=0) (y:=0) (a:=a) (u:=fun _=>0) (v:=fun _=>0) h
  simp only[su]
  have e:(fun(_:Nat)=>(0:Rat)*0+0*0)=fun _=>0:=by funext;grind
  rw[e]at this
  rw[this]
  grind
 |
  n+1=>by
  have:=det_lin (x:=1) (y:=x n) (a:=a) (u:=fun s=>su n fun r=>x r*b r s) (v:=b n) h
  rw[det_sum h n]at this
  simp only[su]
  have e:(fun s=>(1:Rat)*su n (fun r=>x r*b r s)+x n*b n s)=fun s=>su n (fun r=>x r*b r s)+x n*b n s:=by funext s;grind
  rw[e]at this
  rw[this]
  grind
end Go.Abs
namespace Go.Abs
theorem su_neg{f:Nat->Rat}(n:Nat):su n (fun i=>- f i) = - su n f:=by
 have:=su_mul (f:=f) (x:=-1) n
 rw[su_congr (g:=fun i=>-1*f i) fun i _=>by grind,this]
 grind
theorem su_alt{G:Nat->Nat->Rat}{n:Nat}(h:∀u v,u<n->v<n->G u v = - G v u):su n (fun u=>su n (G u))=0:=by
 have h1:su n (fun u=>su n (G u))=su n (fun u=>su n fun v=>- G v u):=su_congr fun u hu=>su_congr fun v hv=>h u v hu hv
 have h2:su n (fun u=>su n fun v=>- G v u) = - su n (fun u=>su n (G u)):=by
  rw[su_congr (g:=fun u=>- su n fun v=>G v u) fun u _=>su_neg n,su_neg,su_comm]
 rw[h2]at h1
 grind
theorem skp_skp{u v s:Nat}(h:u<v):skp u (skp (v-1) s)=skp v (skp u s):=by
 unfold skp
 by_cases c1:s<v-1<;>by_cases c2:s<u
 ·simp[c1,c2];omega
 ·simp[c1,c2];omega
 ·omega
 ·simp[c1,c2];rw[if_neg (by omega),if_neg (by omega)]
theorem det_two{m:Nat}{a:Nat->Nat->Rat}(h:∀s,s<m+2->a 0 s=a 1 s):det (m+2) a=0:=by
 let M:Nat->Nat->Rat:=fun u v=>det m (fun r s=>a (r+2) (skp u (skp v s)))
 let G:Nat->Nat->Rat:=fun u v=>if u<v then sg u*sg (v-1)*a 0 u*a 0 v*M u (v-1)else if v<u then sg u*sg v*a 0 u*a 0 v*M u v else 0
 have e:det (m+2) a=su (m+2) (fun u=>su (m+2) (G u)):=by
  rw[det]
  refine su_congr fun j hj=>?_
  rw[det,<-su_mul,su_skp (g:=G j) (show j<=m+1 by omega)]
  have g0:G j j=0:=by simp[G]
  rw[g0,Rat.zero_add]
  refine su_congr fun l hl=>?_
  have hs:=skp_lt (j:=j) hl
  rw[show(fun r s=>a (r+1+1) (skp j (skp l s)))=(fun r s=>a (r+2) (skp j (skp l s)))from rfl,<-h _ hs]
  by_cases c:l<j
  ·have e1:skp j l=l:=by unfold skp;rw[if_pos c]
   simp only[e1,G]
   rw[if_neg (by omega),if_pos c]
   simp only[M]
   generalize det m _=d
   grind
  ·have e1:skp j l=l+1:=by unfold skp;rw[if_neg c]
   simp only[e1,G]
   rw[if_pos (by omega),Nat.add_sub_cancel]
   simp only[M]
   generalize det m _=d
   grind
 rw[e]
 refine su_alt fun u v hu hv=>?_
 have key:∀u v,u<v->G u v = - G v u:=by
  intro u v huv
  simp only[G]
  rw[if_pos huv,if_neg (by omega),if_pos huv]
  have hM:M u (v-1)=M v u:=by
   simp only[M]
   congr 1
   funext r s
   rw[skp_skp huv]
  have hsg:sg v = - sg (v-1):=by rw[<-sg_succ,show v-1+1=v from by omega]
  rw[hM,hsg]
  generalize M v u=d
  grind
 rcases Nat.lt_trichotomy u v with c|c|c
 ·exact key u v c
 ·subst c
  simp[G]
 ·rw[key v u c]
  grind
theorem upd_comm{a:Nat->Nat->Rat}{t t':Nat}{u v:Nat->Rat}(h:t≠t'):upd (upd a t u) t' v=upd (upd a t' v) t u:=by
 funext r s;unfold upd;by_cases c1:r=t<;>by_cases c2:r=t'<;>simp[c1,c2]<;>omega
theorem upd_self{a:Nat->Nat->Rat}{t:Nat}:upd a t (a t)=a:=by
 funext r s;unfold upd;split
 ·rename_i e;rw[e]
 ·rfl
theorem det_swap'{k:Nat}(hA:∀(a:Nat->Nat->Rat) (t t':Nat),t<t'->t'<k->(∀s,s<k->a t s=a t' s)->det k a=0){a:Nat->Nat->Rat}{t t':Nat}(h:t<t')(h':t'<k){u v:Nat->Rat}:
  det k (upd (upd a t u) t' v) = - det k (upd (upd a t v) t' u):=by
 have hne:t≠t':=by omega
 have h0:∀x:Nat->Rat,det k (upd (upd a t x) t' x)=0:=fun x=>hA _ t t' h h' fun s _=>by
  simp[upd,hne]
 have e1:=h0 fun s=>1*u s+1*v s
 rw[det_lin h',upd_comm hne,upd_comm hne,det_lin (by omega),det_lin (by omega),<-upd_comm hne,<-upd_comm hne,<-upd_comm hne,<-upd_comm hne,h0,h0]at e1
 grind
theorem det_alt:∀{k:Nat} {a:Nat->Nat->Rat} {t t':Nat},t<t'->t'<k->(∀s,s<k->a t s=a t' s)->det k a=0
 |0,a,t,t',h,h',_=>by omega
 |1,a,t,t',h,h',_=>by omega
 |
  k+2,a,t,t',h,h',he=>by
  by_cases c:t=0
  ·subst c
   by_cases c1:t'=1
   ·subst c1
    exact det_two he
   ·-- rows 1 and t' change places
    have hsw:det (k+2) a = - det (k+2) (upd (upd a 1 (a t')) t' (a 1)):=by
     rw[det,det,<-su_neg]
     refine su_congr fun j hj=>?_
     have e0:upd (upd a 1 (a t')) t' (a 1) 0 j=a 0 j:=by
      unfold upd
      rw[if_neg (by omega),if_neg (by omega)]
     have e1:(fun r s=>upd (upd a 1 (a t')) t' (a 1) (r+1) (skp j s))=upd (upd (fun r s=>a (r+1) (skp j s)) 0 (fun s=>a t' (skp j s))) (t'-1) (fun s=>a 1 (skp j s)):=by
      conv=>lhs;rw[show t'=(t'-1)+1 from by omega,upd_s,show(1:Nat)=0+1 from rfl,upd_s]
      rw[show t'-1+1=t' from by omega]
     rw[e0,e1,det_swap' (k:=k+1) (fun a t t' h1 h2 h3=>det_alt h1 h2 h3) (show 0<t'-1 by omega) (by omega)]
     have e2:upd (upd (fun r s=>a (r+1) (skp j s)) 0 (fun s=>a 1 (skp j s))) (t'-1) (fun s=>a t' (skp j s))=fun r s=>a (r+1) (skp j s):=by
      funext r s
      unfold upd
      split
      ·rename_i e;rw[e,show t'-1+1=t' from by omega]
      ·split
       ·rename_i e;rw[e]
       ·rfl
     rw[e2]
     generalize det (k+1) _=d
     grind
    rw[hsw,det_two fun s hs=>by
     simp only[upd]
     rw[if_neg (by omega),if_neg (by omega),if_neg (by omega)]
     exact he s hs]
    grind
  ·rw[det]
   refine su_z fun j hj=>?_
   rw[det_alt (k:=k+1) (t:=t-1) (t':=t'-1) (by omega) (by omega) fun s hs=>by
    show a (t-1+1) (skp j s)=a (t'-1+1) (skp j s)
    rw[show t-1+1=t from by omega,show t'-1+1=t' from by omega]
    exact he _ (skp_lt hs)]
   grind
theorem cramer{k t:Nat}{a:Nat->Nat->Rat}{v x:Nat->Rat}(h:∀s,s<k->v s=su k fun r=>x r*a r s)(ht:t<k):x t*det k a=det k (upd a t v):=by
 have e1:det k (upd a t v)=det k (upd a t fun s=>su k fun r=>x r*a r s):=det_congr fun r s hr hs=>by
  unfold upd
  split
  ·exact h s hs
  ·rfl
 rw[e1,det_sum ht,su_one ht,upd_self]
 intro i hi hne
 have:det k (upd a t (a i))=0:=by
  rcases Nat.lt_or_gt_of_ne hne with c|c
  ·exact det_alt (t:=i) (t':=t) c ht fun s _=>by simp[upd]
  ·exact det_alt (t:=t) (t':=i) c hi fun s _=>by simp[upd]
 rw[this]
 grind
theorem det_last:∀{k:Nat} {a:Nat->Nat->Rat},(∀s,s<k->a k s=0)->det (k+1) a=a k k*det k a
 |
  0,a,_=>by
  simp only[det,su,sg]
  grind
 |
  k+1,a,h=>by
  rw[det,su]
  have hz:det (k+1) (fun r s=>a (r+1) (skp (k+1) s))=0:=by
   rw[det_last (k:=k) fun s hs=>by
    show a (k+1) (skp (k+1) s)=0
    unfold skp
    rw[if_pos (by omega)]
    exact h s (by omega)]
   have:a (k+1) (skp (k+1) k)=0:=by
    unfold skp
    rw[if_pos (by omega)]
    exact h k (by omega)
   rw[this]
   grind
  rw[hz]
  have hr:a (k+1) (k+1)*det (k+1) a=su (k+1) fun j=>sg j*a 0 j*det (k+1) (fun r s=>a (r+1) (skp j s)):=by
   rw[det,<-su_mul]
   refine su_congr fun j hj=>?_
   rw[det_last (k:=k) fun s hs=>by
    show a (k+1) (skp j s)=0
    exact h _ (skp_lt hs)]
   have:skp j k=k+1:=by unfold skp;rw[if_neg (by omega)]
   rw[this]
   generalize det k _=d
   grind
  rw[hr]
  grind
end Go.Abs
namespace Go.Abs
def isz(x:Rat)(B:Nat):Prop:=∃n:Int,x=(n:Rat)/\n.natAbs<=B
theorem isz_le{x:Rat}{B C:Nat}(h:isz x B)(hC:B<=C):isz x C:=by
 obtain⟨n,e,hn⟩:=h
 exact⟨n,e,by omega⟩
theorem isz_0{B:Nat}:isz 0 B:=⟨0,rfl,by simp⟩
theorem isz_1:isz 1 1:=⟨1,rfl,by simp⟩
theorem isz_add{x y:Rat}{B C:Nat}(h:isz x B)(k:isz y C):isz (x+y) (B+C):=by
 obtain⟨n,e,hn⟩:=h
 obtain⟨m,f,hm⟩:=k
 exact⟨n+m,by rw[e,f,Rat.intCast_add],by omega⟩
theorem isz_neg{x:Rat}{B:Nat}(h:isz x B):isz (-x) B:=by
 obtain⟨n,e,hn⟩:=h
 exact⟨-n,by rw[e,Rat.intCast_neg],by omega⟩
theorem isz_sub{x y:Rat}{B C:Nat}(h:isz x B)(k:isz y C):isz (x-y) (B+C):=by
 rw[Rat.sub_eq_add_neg]
 exact isz_add h (isz_neg k)
theorem isz_mul{x y:Rat}{B C:Nat}(h:isz x B)(k:isz y C):isz (x*y) (B*C):=by
 obtain⟨n,e,hn⟩:=h
 obtain⟨m,f,hm⟩:=k
 exact⟨n*m,by rw[e,f,Rat.intCast_mul],by rw[Int.natAbs_mul];exact Nat.mul_le_mul hn hm⟩
def ns:Nat->(Nat->Nat)->Nat
 |0,_=>0
 |n+1,f=>ns n f+f n
theorem isz_su{f:Nat->Rat}{b:Nat->Nat}:∀{n:Nat},(∀i,i<n->isz (f i) (b i))->isz (su n f) (ns n b)
 |0,_=>isz_0
 |n+1,h=>isz_add (isz_su fun i hi=>h i (by omega)) (h n (by omega))
theorem ns_le{f g:Nat->Nat}:∀{n:Nat},(∀i,i<n->f i<=g i)->ns n f<=ns n g
 |0,_=>Nat.le_refl _
 |n+1,h=>Nat.add_le_add (ns_le fun i hi=>h i (by omega)) (h n (by omega))
theorem ns_mul{f:Nat->Nat}{c:Nat}:∀n,ns n (fun i=>f i*c)=ns n f*c
 |0=>by simp[ns]
 |n+1=>by rw[ns,ns,ns_mul n,Nat.add_mul]
theorem ns_const{c:Nat}:∀n,ns n (fun _=>c)=n*c
 |0=>by simp[ns]
 |n+1=>by rw[ns,ns_const n,Nat.succ_mul]
theorem ns_sub{f:Nat->Nat}{κ:Nat->Nat}:∀{k c:Nat},(∀s t,s<t->t<k->κ s<κ t)->(∀s,s<k->κ s<c)->ns k (fun s=>f (κ s))<=ns c f
 |0,c,_,_=>Nat.zero_le _
 |
  k+1,c,h,hc=>by
  have hk:=hc k (by omega)
  have ih:=ns_sub (f:=f) (k:=k) (c:=κ k) (fun s t h1 h2=>h s t h1 (by omega)) (fun s hs=>h s k hs (by omega))
  have hmono:∀a b,a<=b->ns a f<=ns b f:=by
   intro a b hab
   induction b with
   |
    zero=>
    obtain rfl:a=0:=by omega
    exact Nat.le_refl _
   |
    succ b ihb=>
    rcases Nat.eq_or_lt_of_le hab with e|e
    ·rw[e];exact Nat.le_refl _
    ·exact Nat.le_trans (ihb (by omega)) (Nat.le_add_right ..)
  have:=hmono (κ k+1) c (by omega)
  rw[ns]at this ⊢
  omega
def pr:Nat->(Nat->Nat)->Nat
 |0,_=>1
 |k+1,f=>f 0*pr k fun r=>f (r+1)
theorem pr_const{c:Nat}:∀k,pr k (fun _=>c)=c^k
 |0=>rfl
 |k+1=>by rw[pr,pr_const k,Nat.pow_succ,Nat.mul_comm]
theorem pr_one{c:Nat}:∀{k s:Nat},s<k->pr k (fun r=>if r=s then 1 else c)=c^(k-1)
 |0,s,h=>by omega
 |
  k+1,0,h=>by
  have e:(fun r=>if r+1=0 then 1 else c)=fun _=>c:=by funext r;simp
  rw[pr,e,pr_const]
  simp
 |
  k+1,s+1,h=>by
  have e:(fun r=>if r+1=s+1 then 1 else c)=fun r=>if r=s then 1 else c:=by funext r;simp
  rw[pr,e,pr_one (show s<k by omega),if_neg (by omega),Nat.mul_comm,<-Nat.pow_succ]
  congr 1
  omega
theorem det_isz:∀{k:Nat} {ν:Nat->Nat} {a:Nat->Nat->Rat} {b:Nat->Nat->Nat},(∀r s,r<k->s<k->isz (a r s) (b r s))->(∀r,r<k->ns k (b r)<=ν r)->isz (det k a) (pr k ν)
 |0,ν,a,b,_,_=>⟨1,rfl,by simp[pr]⟩
 |
  k+1,ν,a,b,h,hn=>by
  rw[det]
  have hsg:∀j,isz (sg j) 1:=fun j=>by
   unfold sg
   split
   ·exact isz_1
   ·exact isz_neg isz_1
  have hd:∀j,j<k+1->isz (det k fun r s=>a (r+1) (skp j s)) (pr k fun r=>ν (r+1)):=fun j hj=>by
   refine det_isz (b:=fun r s=>b (r+1) (skp j s)) (fun r s hr hs=>h _ _ (by omega) (skp_lt hs)) fun r hr=>?_
   refine Nat.le_trans ?_ (hn (r+1) (by omega))
   refine ns_sub (f:=b (r+1)) (fun s t h1 h2=>?_) fun s hs=>skp_lt hs
   unfold skp
   split<;>split<;>omega
  have hs:=isz_su (n:=k+1) (f:=fun j=>sg j*a 0 j*det k fun r s=>a (r+1) (skp j s)) (b:=fun j=>1*b 0 j*pr k fun r=>ν (r+1)) fun j hj=>isz_mul (isz_mul (hsg j) (h 0 j (by omega) hj)) (hd j hj)
  refine isz_le hs ?_
  rw[ns_mul (f:=fun j=>1*b 0 j),pr]
  refine Nat.mul_le_mul_right _ ?_
  refine Nat.le_trans (ns_le fun i hi=>?_) (hn 0 (by omega))
  omega
def swp(k a i:Nat):Nat:=if i=k then a else if i=a then k else i
def elm(M:Nat->Nat->Rat)(k at_ c:Nat):Nat->Nat->Rat:=fun i j=>
 if i=k then M at_ j/M at_ c else M (swp k at_ i) j-M at_ j/M at_ c*M (swp k at_ i) c
structure Gj(A:Nat->Nat->Rat)(n k c:Nat)(σ κ:Nat->Nat)(M:Nat->Nat->Rat):Prop where
 kn:k<=n
 kc:∀s,s<k->κ s<c
 ki:∀s t,s<t->t<k->κ s<κ t
 σn:∀i,i<n->σ i<n
 piv:∀t s,t<k->s<k->M t (κ s)=if t=s then 1 else 0
 np:∀i s,k<=i->i<n->s<k->M i (κ s)=0
 z:∀i j,k<=i->i<n->j<c->M i j=0
 pc:∀t,t<k->∃μ:Nat->Rat,∀j,M t j=su k fun s=>μ s*A (σ s) j
 nc:∀i,k<=i->i<n->∃l:Nat->Rat,∀j,M i j=A (σ i) j-su k fun s=>l s*A (σ s) j
 D:det k (fun r s=>A (σ r) (κ s))≠0
theorem Gj_0{A:Nat->Nat->Rat}{n:Nat}:Gj A n 0 0 id id A where
 kn:=Nat.zero_le _
 kc:=fun s h=>by omega
 ki:=fun s t _ h=>by omega
 σn:=fun i h=>h
 piv:=fun t s h=>by omega
 np:=fun i s _ _ h=>by omega
 z:=fun i j _ _ h=>by omega
 pc:=fun t h=>by omega
 nc:=fun i _ _=>⟨fun _=>0,fun j=>by simp only[su,id];grind⟩
 D:=by rw[det];grind
section
variable {A M:Nat->Nat->Rat}{n k c:Nat}{σ κ:Nat->Nat}
theorem Gj.skip(h:Gj A n k c σ κ M)(hz:∀i,k<=i->i<n->M i c=0):Gj A n k (c+1) σ κ M:=
 {h with
  kc:=fun s hs=>by have:=h.kc s hs;omega
  z:=fun i j h1 h2 h3=>by
   by_cases e:j=c
   ·subst e;exact hz i h1 h2
   ·exact h.z i j h1 h2 (by omega)}
theorem Gj.det(h:Gj A n k c σ κ M){a:Nat}(h1:k<=a)(h2:a<n):Go.Abs.det (k+1) (fun r s=>A (σ (swp k a r)) (if s=k then c else κ s))=M a c*Go.Abs.det k (fun r s=>A (σ r) (κ s)):=by
 obtain⟨l,hl⟩:=h.nc a h1 h2
 have e0:∀r,r<k->swp k a r=r:=fun r hr=>by unfold swp;rw[if_neg (by omega),if_neg (by omega)]
 have ek:swp k a k=a:=by unfold swp;rw[if_pos rfl]
 obtain⟨X,hX⟩:∃X:Nat->Nat->Rat,X=fun r s=>A (σ (swp k a r)) (if s=k then c else κ s):=⟨_,rfl⟩
 have e1:Go.Abs.det (k+1) X=Go.Abs.det (k+1) (upd X k fun s=>1*(if s=k then M a c else 0)+1*su k (fun r=>l r*X r s)):=by
  refine det_congr fun r s hr hs=>?_
  unfold upd
  split
  ·rename_i e
   subst e
   rw[hX]
   simp only[ek]
   have e2:su r (fun q=>l q*A (σ (swp r a q)) (if s=r then c else κ s))=su r fun q=>l q*A (σ q) (if s=r then c else κ s):=su_congr fun q hq=>by rw[e0 q hq]
   rw[e2]
   have:=hl (if s=r then c else κ s)
   by_cases cs:s=r
   ·simp only[if_pos cs]at this ⊢
    grind
   ·simp only[if_neg cs]at this ⊢
    rw[h.np a s h1 h2 (by omega)]at this
    grind
  ·rfl
 have e3:Go.Abs.det (k+1) (upd X k fun s=>su k (fun r=>l r*X r s))=0:=by
  rw[det_sum (by omega)]
  refine su_z fun i hi=>?_
  rw[det_alt (t:=i) (t':=k) hi (by omega) fun s _=>by simp[upd];try omega]
  grind
 have e4:Go.Abs.det (k+1) (upd X k fun s=>if s=k then M a c else 0)=M a c*Go.Abs.det k (fun r s=>A (σ r) (κ s)):=by
  rw[det_last fun s hs=>by simp[upd];try omega]
  congr 1
  ·simp[upd]
  ·refine det_congr fun r s hr hs=>?_
   unfold upd
   rw[if_neg (by omega),hX]
   simp only[e0 r hr]
   rw[if_neg (by omega)]
 rw[<-hX,e1,det_lin (by omega),e3,e4]
 grind
theorem swp_lt{k a i:Nat}(h:i<k)(hka:k<=a):swp k a i=i:=by unfold swp;rw[if_neg (by omega),if_neg (by omega)]
theorem swp_ge{k a i n:Nat}(h:k<=i)(hi:i<n)(hka:k<=a)(ha:a<n):k<=swp k a i/\swp k a i<n:=by
 unfold swp
 split
 ·omega
 ·split<;>omega
theorem Gj.step(h:Gj A n k c σ κ M){a:Nat}(h1:k<=a)(h2:a<n)(hp:M a c≠0):Gj A n (k+1) (c+1) (fun i=>σ (swp k a i)) (fun s=>if s=k then c else κ s) (elm M k a c):=by
 have ek:swp k a k=a:=by unfold swp;rw[if_pos rfl]
 obtain⟨la,hla⟩:=h.nc a h1 h2
 have hpp:M a c*(M a c)⁻¹=1:=Rat.mul_inv_cancel _ hp
 have hdd:M a c/M a c=1:=by rw[Rat.div_def];exact hpp
 have hzz:∀x:Rat,(0:Rat)/x=0:=fun x=>by rw[Rat.div_def,Rat.zero_mul]
 have hrow:∀i,i≠k->∀j,elm M k a c i j=M (swp k a i) j-M a j/M a c*M (swp k a i) c:=fun i hi j=>by unfold elm;rw[if_neg hi]
 have hrk:∀j,elm M k a c k j=M a j/M a c:=fun j=>by unfold elm;rw[if_pos rfl]
 refine⟨by omega,?_,?_,?_,?_,?_,?_,?_,?_,?_⟩
 ·intro s hs
  split
  ·omega
  ·have:=h.kc s (by omega);omega
 ·intro s t h3 h4
  by_cases e:t=k
  ·subst e
   simp only[if_true]
   rw[if_neg (by omega)]
   exact h.kc s h3
  ·rw[if_neg (by omega),if_neg e]
   exact h.ki s t h3 (by omega)
 ·intro i hi
  refine h.σn _ ?_
  unfold swp
  split
  ·exact h2
  ·split<;>omega
 ·intro t s ht hs
  by_cases et:t=k
  ·subst et
   rw[hrk]
   by_cases es:s=t
   ·subst es;simp[hdd]
   ·rw[if_neg es,if_neg (fun e=>es e.symm),h.np a s h1 h2 (by omega),hzz]
  ·rw[hrow t et,swp_lt (by omega) h1]
   by_cases es:s=k
   ·subst es
    rw[if_pos rfl,if_neg et,hdd]
    grind
   ·rw[if_neg es,h.np a s h1 h2 (by omega),hzz,h.piv t s (by omega) (by omega)]
    grind
 ·intro i s hi hin hs
  have hg:=swp_ge (k:=k) (a:=a) (i:=i) (n:=n) (by omega) hin h1 h2
  rw[hrow i (by omega)]
  by_cases es:s=k
  ·subst es
   rw[if_pos rfl,hdd]
   grind
  ·rw[if_neg es,h.np a s h1 h2 (by omega),hzz,h.np _ s hg.1 hg.2 (by omega)]
   grind
 ·intro i j hi hin hj
  have hg:=swp_ge (k:=k) (a:=a) (i:=i) (n:=n) (by omega) hin h1 h2
  rw[hrow i (by omega)]
  by_cases ej:j=c
  ·subst ej
   rw[hdd]
   grind
  ·rw[h.z a j h1 h2 (by omega),h.z _ j hg.1 hg.2 (by omega),hzz]
   grind
 ·intro t ht
  by_cases et:t=k
  ·subst et
   refine⟨fun s=>if s=t then(M a c)⁻¹ else-la s*(M a c)⁻¹,fun j=>?_⟩
   rw[hrk,hla j,su]
   simp only[if_true,ek]
   have:su t (fun s=>(if s=t then(M a c)⁻¹ else -la s*(M a c)⁻¹)*A (σ (swp t a s)) j)=su t fun s=>-(M a c)⁻¹*(la s*A (σ s) j):=su_congr fun s hs=>by
    rw[if_neg (by omega),swp_lt hs h1]
    grind
   rw[this,su_mul,Rat.div_def]
   grind
  ·obtain⟨μ,hμ⟩:=h.pc t (by omega)
   refine⟨fun s=>if s=k then-(M t c*(M a c)⁻¹)else μ s+M t c*(M a c)⁻¹*la s,fun j=>?_⟩
   rw[hrow t et,swp_lt (by omega) h1,hμ j,hla j,su]
   simp only[if_true,ek]
   have:su k (fun s=>(if s=k then-(M t c*(M a c)⁻¹)else μ s+M t c*(M a c)⁻¹*la s)*A (σ (swp k a s)) j)=su k fun s=>1*(μ s*A (σ s) j)+(M t c*(M a c)⁻¹)*(la s*A (σ s) j):=su_congr fun s hs=>by
    rw[if_neg (by omega),swp_lt hs h1]
    grind
   rw[this,su_lin,Rat.div_def]
   grind
 ·intro i hi hin
  have hg:=swp_ge (k:=k) (a:=a) (i:=i) (n:=n) (by omega) hin h1 h2
  obtain⟨li,hli⟩:=h.nc _ hg.1 hg.2
  refine⟨fun s=>if s=k then M (swp k a i) c*(M a c)⁻¹ else li s-M (swp k a i) c*(M a c)⁻¹*la s,fun j=>?_⟩
  rw[hrow i (by omega)]
  have hx:=hli j
  have hy:=hla j
  generalize M (swp k a i) c=x at *
  rw[hx,hy,su]
  simp only[if_true,ek]
  have:su k (fun s=>(if s=k then x*(M a c)⁻¹ else li s-x*(M a c)⁻¹*la s)*A (σ (swp k a s)) j)=su k fun s=>1*(li s*A (σ s) j) + -(x*(M a c)⁻¹)*(la s*A (σ s) j):=su_congr fun s hs=>by
   rw[if_neg (by omega),swp_lt hs h1]
   grind
  rw[this,su_lin,Rat.div_def]
  grind
 ·rw[h.det h1 h2]
  intro e
  rcases Rat.mul_eq_zero.1 e with e|e
  ·exact hp e
  ·exact h.D e
end
end Go.Abs
namespace Go.Abs
structure dn(q:Rat)(L B:Nat):Prop where
 L0:0<L
 d:q.den∣L
 b:(sc q L).natAbs<=B
theorem sc_val{q:Rat}{L:Nat}(h:q.den∣L):((sc q L:Int):Rat)=q*((L:Int):Rat):=by
 obtain⟨t,rfl⟩:=h
 have hd:=q.den_pos
 unfold sc
 rw[Nat.mul_div_cancel_left _ hd,Rat.intCast_mul]
 have e:q*((q.den:Int):Rat)=((q.num:Int):Rat):=by
  conv=>lhs;arg 1;rw[<-Rat.num_divInt_den q,Rat.divInt_eq_div]
  exact Rat.div_mul_cancel (by
   intro h
   have:=congrArg Rat.num h
   rw[Rat.num_intCast]at this
   have h2:(0:Rat).num=0:=rfl
   omega)
 have e2:(((q.den*t:Nat):Int):Rat)=((q.den:Int):Rat)*((t:Int):Rat):=by rw[Int.natCast_mul,Rat.intCast_mul]
 rw[e2,<-e]
 grind
theorem cast_inj{a b:Int}(h:(a:Rat)=(b:Rat)):a=b:=by
 have:=congrArg Rat.num h
 rwa[Rat.num_intCast,Rat.num_intCast]at this
theorem dn_of{q:Rat}{d n:Int}{t:Nat}(hd:d≠0)(h:q*(d:Rat)=(n:Rat))(ht:0<t):dn q (d.natAbs*t) (n.natAbs*t):=by
 have hdQ:(d:Rat)≠0:=fun e=>hd (cast_inj e)
 have hq:q=Rat.divInt n d:=by
  rw[Rat.divInt_eq_div,<-h,Rat.mul_div_cancel hdQ]
 have hdv:q.den∣d.natAbs:=by
  rw[hq,Rat.den_divInt,if_neg hd]
  exact Nat.div_dvd_of_dvd (Nat.gcd_dvd_left ..)
 have hdv2:q.den∣d.natAbs*t:=Nat.dvd_trans hdv (Nat.dvd_mul_right ..)
 refine⟨Nat.mul_pos (by omega) ht,hdv2,?_⟩
 have hv:=sc_val hdv2
 have:(sc q (d.natAbs*t)).natAbs=n.natAbs*t:=by
  rcases Int.natAbs_eq d with e|e
  ·have:sc q (d.natAbs*t)=n*t:=cast_inj (by
    rw[hv,Int.natCast_mul,<-e,Rat.intCast_mul,Rat.intCast_mul,<-h]
    grind)
   rw[this,Int.natAbs_mul]
   rfl
  ·have e':((d.natAbs:Nat):Int) = -d:=by omega
   have:sc q (d.natAbs*t) = -(n*t):=cast_inj (by
    rw[hv,Int.natCast_mul,e',Rat.intCast_mul,Rat.intCast_neg,Rat.intCast_neg,Rat.intCast_mul,<-h]
    grind)
   rw[this,Int.natAbs_neg,Int.natAbs_mul]
   rfl
 omega
theorem dn_le{q:Rat}{L B C:Nat}(h:dn q L B)(hB:B<=C):dn q L C:=⟨h.L0,h.d,Nat.le_trans h.b hB⟩
theorem dn_sub{x y:Rat}{L B C:Nat}(h:dn x L B)(k:dn y L C):dn (x-y) L (B+C):=by
 have h1:=sc_val h.d
 have k1:=sc_val k.d
 have hL:(L:Int)≠0:=by have:=h.L0;omega
 have:=dn_of (q:=x-y) (d:=L) (n:=sc x L-sc y L) (t:=1) hL (by rw[Rat.intCast_sub,h1,k1];grind) (by omega)
 rw[Nat.mul_one,Nat.mul_one,Int.natAbs_natCast]at this
 exact dn_le this (by have:=h.b;have:=k.b;omega)
theorem dn_sm{q:Rat}{L B:Nat}(h:dn q L B)(hL:L<=MX)(hB:B<=MX):sm q:=by
 have h1:=Nat.le_of_dvd h.L0 h.d
 refine⟨?_,by omega⟩
 have hb:=h.b
 unfold sc at hb
 have hq:=q.den_pos
 have:1<=L/q.den:=(Nat.le_div_iff_mul_le hq).2 (by omega)
 have:=mul_le_of hb (by omega)
 omega
structure Bd(A:Nat->Nat->Rat)(n w cols:Nat):Prop where
 e:∀i j,i<n->j<w->isz (A i j) 500
 a:∀i j,i<n->j<cols->isz (A i j) 5
 nu:∃b:Nat->Nat->Nat,(∀i j,i<n->j<cols->isz (A i j) (b i j))/\∀i,i<n->ns cols (b i)<=10
theorem det_isc{k ν:Nat}{a:Nat->Nat->Rat}{b:Nat->Nat->Nat}(h:∀r s,r<k->s<k->isz (a r s) (b r s))(hn:∀r,r<k->ns k (b r)<=ν):isz (det k a) (ν^k):=by
 rw[<-pr_const]
 exact det_isz h hn
theorem det_unit{k s ν i:Nat}{a:Nat->Nat->Rat}{b:Nat->Nat->Nat}(hs:s<k)(h:∀r q,r<k->q<k->isz (a r q) (b r q))(hn:∀r,r<k->ns k (b r)<=ν):isz (det k (upd a s fun q=>if i=q then 1 else 0)) (ν^(k-1)):=by
 rw[<-pr_one hs]
 refine det_isz (b:=fun r q=>if r=s then(if i=q then 1 else 0)else b r q) (fun r q hr hq=>?_) fun r hr=>?_
 ·unfold upd
  by_cases e:r=s
  ·rw[if_pos e,if_pos e]
   by_cases e2:i=q
   ·simp only[if_pos e2];exact isz_1
   ·simp only[if_neg e2];exact isz_0
  ·rw[if_neg e,if_neg e]
   exact h r q hr hq
 ·by_cases e:r=s
  ·simp only[if_pos e]
   have:∀m,(m<=i->ns m (fun q=>if i=q then 1 else 0)=0)/\ns m (fun q=>if i=q then 1 else 0)<=1:=by
    intro m
    induction m with
    |zero=>exact⟨fun _=>rfl,Nat.zero_le _⟩
    |
     succ m ih=>
     rw[ns]
     by_cases c:i=m
     ·have:=ih.1 (by omega)
      rw[this,if_pos c]
      exact⟨fun h=>by omega,Nat.le_refl _⟩
     ·rw[if_neg c]
      exact⟨fun h=>ih.1 (by omega),ih.2⟩
   exact(this k).2
  ·simp only[if_neg e]
   exact hn r hr
section
variable {A M:Nat->Nat->Rat}{n k c w cols:Nat}{σ κ:Nat->Nat}
theorem Gj.Disz(h:Gj A n k c σ κ M)(hb:Bd A n w cols)(hc:c<=cols){i:Nat}(hi:i<n):
  isz (Go.Abs.det k (fun r s=>A (σ r) (κ s))) (10^k)/\∀j B,(∀i,i<n->isz (A i j) B)->isz (Go.Abs.det k (fun r s=>A (σ r) (κ s))*M i j) (if i<k then k*(10^(k-1)*B)else(k+1)*10^k*B):=by
 obtain⟨b,hb1,hb2⟩:=hb.nu
 have hκ:∀s,s<k->κ s<cols:=fun s hs=>by have:=h.kc s hs;omega
 have hkn:=h.kn
 have hnorm:∀r,r<n->ns k (fun s=>b r (κ s))<=10:=fun r hr=>Nat.le_trans (ns_sub (f:=b r) h.ki hκ) (hb2 r hr)
 have hD:isz (Go.Abs.det k (fun r s=>A (σ r) (κ s))) (10^k):=det_isc (b:=fun r s=>b (σ r) (κ s)) (fun r s hr hs=>hb1 _ _ (h.σn r (by omega)) (hκ s hs)) fun r hr=>hnorm _ (h.σn r (by omega))
 refine⟨hD,fun j B hj=>?_⟩
 have hsum:∀(x:Nat->Rat) (P:Nat),(∀s,s<k->isz (x s*Go.Abs.det k (fun r s=>A (σ r) (κ s))) P)->isz (Go.Abs.det k (fun r s=>A (σ r) (κ s))*su k fun s=>x s*A (σ s) j) (k*(P*B)):=fun x P hx=>by
  have:=isz_su (n:=k) (f:=fun s=>x s*Go.Abs.det k (fun r s=>A (σ r) (κ s))*A (σ s) j) (b:=fun _=>P*B) fun s hs=>isz_mul (hx s hs) (hj _ (h.σn s (by omega)))
  rw[ns_const]at this
  rw[<-su_mul]
  have e:su k (fun s=>x s*Go.Abs.det k (fun r s=>A (σ r) (κ s))*A (σ s) j)=su k fun s=>Go.Abs.det k (fun r s=>A (σ r) (κ s))*(x s*A (σ s) j):=su_congr fun s _=>by
   generalize Go.Abs.det k _=d
   grind
  rwa[e]at this
 by_cases hk:i<k
 ·obtain⟨μ,hμ⟩:=h.pc i hk
  rw[if_pos hk]
  have:=hsum μ (10^(k-1)) fun s hs=>by
   rw[cramer (v:=fun r=>if i=r then 1 else 0) (fun r hr=>by
    show(if i=r then(1:Rat)else 0)=su k fun q=>μ q*A (σ q) (κ r)
    rw[<-hμ,h.piv i r hk hr]) hs]
   exact det_unit (b:=fun r s=>b (σ r) (κ s)) hs (fun r q hr hq=>hb1 _ _ (h.σn r (by omega)) (hκ q hq)) (fun r hr=>hnorm _ (h.σn r (by omega)))
  rw[<-hμ]at this
  exact this
 ·obtain⟨l,hl⟩:=h.nc i (by omega) hi
  rw[if_neg hk]
  have:=hsum l (10^k) fun s hs=>by
   rw[cramer (v:=fun r=>A (σ i) (κ r)) (fun r hr=>by
    have:=hl (κ r)
    rw[h.np i r (by omega) hi hr]at this
    show A (σ i) (κ r)=su k fun q=>l q*A (σ q) (κ r)
    grind) hs]
   refine det_isc (b:=fun r q=>if r=s then b (σ i) (κ q)else b (σ r) (κ q)) (fun r q hr hq=>?_) fun r hr=>?_
   ·unfold upd
    split
    ·exact hb1 _ _ (h.σn i hi) (hκ q hq)
    ·exact hb1 _ _ (h.σn r (by omega)) (hκ q hq)
   ·by_cases e:r=s
    ·simp only[if_pos e]
     exact hnorm _ (h.σn i hi)
    ·simp only[if_neg e]
     exact hnorm _ (h.σn r (by omega))
  rw[hl]
  have h2:=isz_sub (isz_mul hD (hj _ (h.σn i hi))) this
  have e:∀d x y:Rat,d*(x-y)=d*x-d*y:=fun d x y=>by grind
  rw[e]
  exact isz_le h2 (by rw[Nat.mul_assoc,Nat.add_mul,Nat.one_mul];omega)
set_option maxRecDepth 4000
structure Fit(M:Nat->Nat->Rat)(n w k a c:Nat):Prop where
 s:∀i j,i<n->j<w->sm (M i j)
 o:∀j,j<w->sm (M a j/M a c)
 m:∀i j,i<n->i≠k->j<w->sm (M a j/M a c*M (swp k a i) c)
 u:∀i j,i<n->i≠k->j<w->∃L,(M (swp k a i) j).den∣L/\(M a j/M a c*M (swp k a i) c).den∣L/\0<L/\L<=MX/\(sc (M (swp k a i) j) L).natAbs+(sc (M a j/M a c*M (swp k a i) c) L).natAbs<=MX
theorem pow10{k m:Nat}(h:k<=m):10^k<=10^m:=Nat.pow_le_pow_right (by omega) h
theorem Gj.fit(h:Gj A n k c σ κ M)(hb:Bd A n w cols)(hc:c<cols)(hcw:cols<=w)(hk:k<=5){a:Nat}(h1:k<=a)(h2:a<n)(hp:M a c≠0):Fit M n w k a c:=by
 have h':=h.step h1 h2 hp
 have hdet:=h.det h1 h2
 have p5:=pow10 hk
 have p6:=pow10 (show k+1<=6 by omega)
 rw[show(10:Nat)^5=100000 from rfl]at p5
 rw[show(10:Nat)^6=1000000 from rfl]at p6
 have p4:=pow10 (show k-1<=4 by omega)
 rw[show(10:Nat)^4=10000 from rfl]at p4
 have b5:∀i,(if i<k then k*(10^(k-1)*500)else(k+1)*10^k*500)<=300000000:=fun i=>by
  have:=Nat.mul_le_mul (show k+1<=6 by omega) p5
  have:=Nat.mul_le_mul (show k<=5 by omega) p4
  split
  ·rw[<-Nat.mul_assoc];omega
  ·omega
 have b6:∀i,(if i<k+1 then(k+1)*(10^(k+1-1)*500)else(k+1+1)*10^(k+1)*500)<=3500000000:=fun i=>by
  have:=Nat.mul_le_mul (show k+1+1<=7 by omega) p6
  have:=Nat.mul_le_mul (show k+1<=6 by omega) p5
  split
  ·rw[Nat.add_sub_cancel,<-Nat.mul_assoc];omega
  ·omega
 have hMX:MX=9223372036854775807:=rfl
 -- one denominator for all
 have hn0:0<n:=by omega
 obtain⟨D1,hD1,hD1b⟩:=(h.Disz hb (by omega) h2).1
 have hD10:D1≠0:=fun e=>h.D (by rw[hD1,e];rfl)
 obtain⟨D2,hD2,hD2b⟩:=(h'.Disz hb (by omega) h2).1
 have hD20:D2≠0:=fun e=>h'.D (by rw[hD2,e];rfl)
 have q1:∀i j,i<n->j<w->∀t,0<t->dn (M i j) (D1.natAbs*t) (300000000*t):=fun i j hi hj t ht=>by
  obtain⟨m,hm,hmb⟩:=(h.Disz hb (by omega) hi).2 j 500 (fun i hi=>hb.e i j hi hj)
  rw[hD1]at hm
  exact dn_le (dn_of hD10 (by rw[<-hm];grind) ht) (Nat.mul_le_mul_right _ (Nat.le_trans hmb (b5 i)))
 have q2:∀i j,i<n->j<w->∀t,0<t->dn (elm M k a c i j) (D2.natAbs*t) (3500000000*t):=fun i j hi hj t ht=>by
  obtain⟨m,hm,hmb⟩:=(h'.Disz hb (by omega) hi).2 j 500 (fun i hi=>hb.e i j hi hj)
  rw[hD2]at hm
  exact dn_le (dn_of hD20 (by rw[<-hm];grind) ht) (Nat.mul_le_mul_right _ (Nat.le_trans hmb (b6 i)))
 have hL1:D1.natAbs<=100000:=by omega
 have hL2:D2.natAbs<=1000000:=by omega
 have hLL:D1.natAbs*D2.natAbs<=100000*1000000:=Nat.mul_le_mul hL1 hL2
 have w1:300000000*D2.natAbs<=300000000*1000000:=Nat.mul_le_mul_left _ hL2
 have w2:3500000000*D1.natAbs<=3500000000*100000:=Nat.mul_le_mul_left _ hL1
 have hkk:k<n:=by omega
 have both:∀i j,i<n->i≠k->j<w->dn (M (swp k a i) j) (D1.natAbs*D2.natAbs) 300000000000000/\dn (M a j/M a c*M (swp k a i) c) (D1.natAbs*D2.natAbs) 650000000000000:=fun i j hi hne hj=>by
  have hs:swp k a i<n:=by
   unfold swp
   split
   ·exact h2
   ·split<;>omega
  have r1:=dn_le (q1 _ j hs hj D2.natAbs (by omega)) w1
  have r2:=q2 i j hi hj D1.natAbs (by omega)
  rw[Nat.mul_comm D2.natAbs]at r2
  have r2:=dn_le r2 w2
  refine⟨r1,?_⟩
  have e:M a j/M a c*M (swp k a i) c=M (swp k a i) j-elm M k a c i j:=by
   unfold elm
   rw[if_neg hne]
   grind
  rw[e]
  exact dn_le (dn_sub r1 r2) (by omega)
 refine⟨fun i j hi hj=>?_,fun j hj=>?_,fun i j hi hne hj=>?_,fun i j hi hne hj=>?_⟩
 ·have:=q1 i j hi hj 1 (by omega)
  exact dn_sm this (by omega) (by omega)
 ·have:=q2 k j hkk hj 1 (by omega)
  unfold elm at this
  rw[if_pos rfl]at this
  exact dn_sm this (by omega) (by omega)
 ·exact dn_sm (both i j hi hne hj).2 (by omega) (by omega)
 ·obtain⟨r1,r2⟩:=both i j hi hne hj
  refine⟨_,r1.d,r2.d,r1.L0,by omega,?_⟩
  have:=r1.b
  have:=r2.b
  omega
end
end Go.Abs
namespace Go.Abs
def fnd(M:Nat->Nat->Rat)(c:Nat):Nat->Nat->Nat
 |0,a=>a
 |d+1,a=>if M a c=0 then fnd M c d (a+1)else a
theorem fnd_ok{M:Nat->Nat->Rat}{c n:Nat}:∀d a,a+d=n->a<=fnd M c d a/\fnd M c d a<=n/\(fnd M c d a<n->M (fnd M c d a) c≠0)/\∀i,a<=i->i<fnd M c d a->M i c=0
 |
  0,a,h=>by
  rw[fnd]
  exact⟨Nat.le_refl _,by omega,fun h'=>by omega,fun i h1 h2=>by omega⟩
 |
  d+1,a,h=>by
  rw[fnd]
  split
  ·rename_i hz
   obtain⟨h1,h2,h3,h4⟩:=fnd_ok (M:=M) (c:=c) (n:=n) d (a+1) (by omega)
   refine⟨by omega,h2,h3,fun i h5 h6=>?_⟩
   by_cases e:i=a
   ·subst e;exact hz
   ·exact h4 i (by omega) h6
  ·rename_i hz
   exact⟨Nat.le_refl _,by omega,fun _=>hz,fun i h1 h2=>by omega⟩
structure GS where
 M:Nat->Nat->Rat
 k:Nat
 κ:Nat->Nat
def gst(n:Nat)(s:GS)(c:Nat):GS:=
 let a:=fnd s.M c (n-s.k) s.k
 if a<n then⟨elm s.M s.k a c,s.k+1,fun t=>if t=s.k then c else s.κ t⟩else s
def gjR(A:Nat->Nat->Rat)(n:Nat):Nat->GS
 |0=>⟨A,0,id⟩
 |c+1=>gst n (gjR A n c) c
section
variable {A:Nat->Nat->Rat}{n:Nat}
theorem gjR_ok:∀c,∃σ,Gj A n (gjR A n c).k c σ (gjR A n c).κ (gjR A n c).M
 |0=>⟨id,Gj_0⟩
 |
  c+1=>by
  obtain⟨σ,h⟩:=gjR_ok c
  have hkn:=h.kn
  obtain⟨h1,h2,h3,h4⟩:=fnd_ok (M:=(gjR A n c).M) (c:=c) (n:=n) (n-(gjR A n c).k) (gjR A n c).k (by omega)
  rw[gjR,gst]
  split
  ·rename_i hlt
   exact⟨_,h.step h1 hlt (h3 hlt)⟩
  ·exact⟨σ,h.skip fun i hi hin=>h4 i hi (by omega)⟩
theorem Gj.kle{M:Nat->Nat->Rat}{k c:Nat}{σ κ:Nat->Nat}(h:Gj A n k c σ κ M):k<=c:=by
 have:∀s,s<k->s<=κ s:=by
  intro s
  induction s with
  |zero=>intro _;exact Nat.zero_le _
  |
   succ s ih=>
   intro hs
   have:=ih (by omega)
   have:=h.ki s (s+1) (by omega) hs
   omega
 by_cases c0:k=0
 ·omega
 ·have h1:=this (k-1) (by omega)
  have h2:=h.kc (k-1) (by omega)
  omega
def rs(cols:Nat)(y:Nat->Rat)(M:Nat->Nat->Rat)(i:Nat):Rat:=su cols (fun j=>M i j*y j)-M i cols
def xs(s:GS)(cols j:Nat):Rat:=su s.k fun t=>if s.κ t=j then s.M t cols else 0
end
end Go.Abs
namespace Go.Abs
def elmR(X:Nat->Nat->Rat)(k a c:Nat):Nat->Nat->Rat:=fun i j=>
 if i=k then X a j else X (swp k a i) j-X (swp k a i) c/X a c*X a j
structure GQ where
 s:GS
 q:Nat->Rat
 d:Nat->Rat
def gqst(n:Nat)(g:GQ)(c:Nat):GQ:=
 let a:=fnd g.s.M c (n-g.s.k) g.s.k
 if a<n then⟨⟨elm g.s.M g.s.k a c,g.s.k+1,fun t=>if t=g.s.k then c else g.s.κ t⟩,fun i=>if i=g.s.k then g.s.M a c else g.q i,fun t=>if t=g.s.k+1 then g.s.M a c*g.d g.s.k else g.d t⟩else g
def gqR(A:Nat->Nat->Rat)(n:Nat):Nat->GQ
 |0=>⟨⟨A,0,id⟩,fun _=>1,fun _=>1⟩
 |c+1=>gqst n (gqR A n c) c
theorem gqR_s{A:Nat->Nat->Rat}{n:Nat}:∀c,(gqR A n c).s=gjR A n c
 |0=>rfl
 |
  c+1=>by
  rw[gqR,gjR,<-gqR_s c,gqst,gst]
  split<;>rfl
def XR(g:GQ)(i j:Nat):Rat:=(if i<g.s.k then g.q i else 1)*g.s.M i j
theorem XR_ge{g:GQ}{i j:Nat}(h:g.s.k<=i):XR g i j=g.s.M i j:=by
 unfold XR
 rw[if_neg (by omega)]
 grind
theorem fnd_congr{M X:Nat->Nat->Rat}{c:Nat}:∀d a,(∀i,a<=i->M i c=X i c)->fnd M c d a=fnd X c d a
 |0,a,_=>rfl
 |
  d+1,a,h=>by
  rw[fnd,fnd,h a (Nat.le_refl _),fnd_congr d (a+1) fun i hi=>h i (by omega)]
structure Gq(A:Nat->Nat->Rat)(n c:Nat)(σ:Nat->Nat)(g:GQ):Prop where
 h:Gj A n g.s.k c σ g.s.κ g.s.M
 dk:g.d g.s.k=det g.s.k (fun r s=>A (σ r) (g.s.κ s))
 d0:∀t,t<=g.s.k->g.d t≠0
 q:∀t,t<g.s.k->g.q t*g.d t=g.d (t+1)
section
variable {A:Nat->Nat->Rat}{n c w cols:Nat}{σ:Nat->Nat}{g:GQ}
theorem Gq.step(h:Gq A n c σ g){a:Nat}(h1:g.s.k<=a)(h2:a<n)(hp:g.s.M a c≠0):Gq A n (c+1) (fun i=>σ (swp g.s.k a i)) ⟨⟨elm g.s.M g.s.k a c,g.s.k+1,fun t=>if t=g.s.k then c else g.s.κ t⟩,fun i=>if i=g.s.k then g.s.M a c else g.q i,fun t=>if t=g.s.k+1 then g.s.M a c*g.d g.s.k else g.d t⟩ where
 h:=h.h.step h1 h2 hp
 dk:=by
  show(if g.s.k+1=g.s.k+1 then g.s.M a c*g.d g.s.k else _)=_
  rw[if_pos rfl,h.dk]
  exact(h.h.det h1 h2).symm
 d0:=fun t ht=>by
  show(if t=g.s.k+1 then g.s.M a c*g.d g.s.k else g.d t)≠0
  split
  ·intro e
   rcases Rat.mul_eq_zero.1 e with e|e
   ·exact hp e
   ·exact h.d0 _ (Nat.le_refl _) e
  ·exact h.d0 t (by have:t<=g.s.k+1:=ht;omega)
 q:=fun t ht=>by
  have ht:t<g.s.k+1:=ht
  show(if t=g.s.k then g.s.M a c else g.q t)*(if t=g.s.k+1 then g.s.M a c*g.d g.s.k else g.d t)=(if t+1=g.s.k+1 then g.s.M a c*g.d g.s.k else g.d (t+1))
  by_cases e:t=g.s.k
  ·subst e
   rw[if_pos rfl,if_neg (by omega),if_pos rfl]
  ·rw[if_neg e,if_neg (by omega),if_neg (by omega)]
   exact h.q t (by omega)
theorem XR_step(h:Gq A n c σ g){a:Nat}(h1:g.s.k<=a)(h2:a<n)(hp:g.s.M a c≠0){i:Nat}(hi:i<n)(j:Nat):
  XR ⟨⟨elm g.s.M g.s.k a c,g.s.k+1,fun t=>if t=g.s.k then c else g.s.κ t⟩,fun i=>if i=g.s.k then g.s.M a c else g.q i,fun t=>if t=g.s.k+1 then g.s.M a c*g.d g.s.k else g.d t⟩ i j=elmR (XR g) g.s.k a c i j:=by
 show(if i<g.s.k+1 then(if i=g.s.k then g.s.M a c else g.q i)else 1)*elm g.s.M g.s.k a c i j=_
 unfold elmR elm
 rw[XR_ge h1,XR_ge h1]
 by_cases e:i=g.s.k
 ·subst e
  rw[if_pos (by omega),if_pos rfl,if_pos rfl,if_pos rfl,Rat.mul_comm,Rat.div_mul_cancel hp]
 ·rw[if_neg e,if_neg e,if_neg e]
  have hx:∀f x y p:Rat,f*(x-y/p*(0+1))=f*x-f/p*y:=fun f x y p=>by rw[Rat.div_def,Rat.div_def];grind
  by_cases e2:i<g.s.k
  ·rw[if_pos (by omega),swp_lt e2 h1]
   unfold XR
   rw[if_pos e2,Rat.div_def,Rat.div_def]
   grind
  ·have hg:=swp_ge (k:=g.s.k) (a:=a) (i:=i) (n:=n) (by omega) hi h1 h2
   rw[if_neg (by omega),XR_ge hg.1,XR_ge hg.1,Rat.div_def,Rat.div_def]
   grind
theorem gqR_ok:∀c,∃σ,Gq A n c σ (gqR A n c)
 |0=>⟨id,Gj_0,rfl,fun _ _=>by show(1:Rat)≠0;grind,fun t ht=>by have:t<0:=ht;omega⟩
 |
  c+1=>by
  obtain⟨σ,h⟩:=gqR_ok c
  have hkn:=h.h.kn
  obtain⟨h1,h2,h3,h4⟩:=fnd_ok (M:=(gqR A n c).s.M) (c:=c) (n:=n) (n-(gqR A n c).s.k) (gqR A n c).s.k (by omega)
  rw[gqR,gqst]
  split
  ·rename_i hlt
   exact⟨_,h.step h1 hlt (h3 hlt)⟩
  ·exact⟨σ,h.h.skip fun i hi hin=>h4 i hi (by omega),h.dk,h.d0,h.q⟩
theorem dn_nd{q:Rat}{L B:Nat}(h:dn q L B):q.num.natAbs<=B/\q.den<=L:=by
 refine⟨?_,Nat.le_of_dvd h.L0 h.d⟩
 have hb:=h.b
 unfold sc at hb
 have hq:=q.den_pos
 have hl:=Nat.le_of_dvd h.L0 h.d
 have:1<=L/q.den:=(Nat.le_div_iff_mul_le hq).2 (by omega)
 exact mul_le_of hb (by omega)
structure FitQ(X:Nat->Nat->Rat)(n w k a c:Nat):Prop where
 s:∀j,j<w->sm (X a j)
 v:∀i,i<n->i≠k->((X (swp k a i) c).num*((X a c).den:Int)).natAbs<=MX/\(((X (swp k a i) c).den:Int)*(X a c).num).natAbs<=MX
 m:∀i j,i<n->i≠k->j<w->((X (swp k a i) c/X a c).num*(X a j).num).natAbs<=MX/\(X (swp k a i) c/X a c).den*(X a j).den<=MX
 p:∀i j,i<n->i≠k->j<w->sm (X (swp k a i) c/X a c*X a j)
 u:∀i j,i<n->i≠k->j<w->∃L,(X (swp k a i) j).den∣L/\(X (swp k a i) c/X a c*X a j).den∣L/\0<L/\L<=MX/\(sc (X (swp k a i) j) L).natAbs+(sc (X (swp k a i) c/X a c*X a j) L).natAbs<=MX
set_option maxRecDepth 4000
theorem ne_cast{D:Rat}{n:Int}(h:D≠0)(e:D=(n:Rat)):n≠0:=fun e2=>h (by rw[e,e2];rfl)
theorem Gq.num(h:Gq A n c σ g)(hb:Bd A n w cols)(hc:c<=cols){t:Nat}(ht:t<=g.s.k)(hd:∀t,t<=g.s.k->isz (g.d t) (10^t)):∃e:Int,g.d t=(e:Rat)/\e≠0/\e.natAbs<=10^t:=by
 obtain⟨e,h1,h2⟩:=hd t ht
 exact⟨e,h1,ne_cast (h.d0 t ht) h1,h2⟩
theorem fit_row{X X' P:Rat}{δ0 δ1 δ δ' x x':Int}(h0:δ0≠0)(h1:δ≠0)(h2:δ'≠0)(e1:X*((δ0*δ:Int):Rat)=((δ1*x:Int):Rat))(e2:X'*((δ0*δ':Int):Rat)=((δ1*x':Int):Rat))(hP:P=X-X')
  (hL:δ0.natAbs*δ.natAbs*δ'.natAbs<=1000000000000000) (hB1:δ1.natAbs*x.natAbs*δ'.natAbs<=2500000000000000000) (hB2:δ1.natAbs*x'.natAbs*δ.natAbs<=3500000000000000000):sm P/\∃L,X.den∣L/\P.den∣L/\0<L/\L<=MX/\(sc X L).natAbs+(sc P L).natAbs<=MX:=by
 have hMX:MX=9223372036854775807:=rfl
 have r1:=dn_of (Int.mul_ne_zero h0 h1) e1 (t:=δ'.natAbs) (by omega)
 have r2:=dn_of (Int.mul_ne_zero h0 h2) e2 (t:=δ.natAbs) (by omega)
 rw[Int.natAbs_mul,Int.natAbs_mul]at r1 r2
 rw[show δ0.natAbs*δ'.natAbs*δ.natAbs=δ0.natAbs*δ.natAbs*δ'.natAbs from by rw[Nat.mul_assoc,Nat.mul_comm δ'.natAbs,<-Nat.mul_assoc]]at r2
 have r3:=dn_sub r1 r2
 rw[<-hP]at r3
 refine⟨dn_sm r3 (by omega) (by omega),_,r1.d,r3.d,r1.L0,by omega,?_⟩
 have:=r1.b
 have:=r3.b
 omega
end
section
variable {A:Nat->Nat->Rat}{n c w cols:Nat}{σ:Nat->Nat}{g:GQ}
theorem Gq.over(h:Gq A n c σ g){t:Nat}(ht:t<g.s.k){δ0 δ1 δ x:Int}(e0:g.d t=(δ0:Rat))(e1:g.d (t+1)=(δ1:Rat)){y z:Rat}(hy:y=g.q t*z)(hz:z*(δ:Rat)=(x:Rat)):y*((δ0*δ:Int):Rat)=((δ1*x:Int):Rat):=by
 have:=h.q t ht
 rw[e0,e1]at this
 rw[Rat.intCast_mul,Rat.intCast_mul,hy,<-this,<-hz]
 grind
theorem prod3{a b c A B C:Nat}(h1:a<=A)(h2:b<=B)(h3:c<=C):a*b*c<=A*B*C:=Nat.mul_le_mul (Nat.mul_le_mul h1 h2) h3
set_option maxHeartbeats 4000000 in
theorem Gq.fit(h:Gq A n c σ g)(hb:Bd A n w cols)(hc:c<cols)(hcw:cols<=w)(hk:g.s.k<=5){a:Nat}(h1:g.s.k<=a)(h2:a<n)(hp:g.s.M a c≠0)(hd:∀t,t<=g.s.k->isz (g.d t) (10^t)):FitQ (XR g) n w g.s.k a c:=by
 have hMX:MX=9223372036854775807:=rfl
 have hs:=h.h.step h1 h2 hp
 have hdet:=h.h.det h1 h2
 have hcw':c<w:=by omega
 have q10:∀t,t<=5->10^t<=100000:=fun t ht=>by have:=pow10 ht;rw[show(10:Nat)^5=100000 from rfl]at this;exact this
 have q4:∀t,t<=4->10^t<=10000:=fun t ht=>by have:=pow10 ht;rw[show(10:Nat)^4=10000 from rfl]at this;exact this
 have p6:=pow10 (show g.s.k+1<=6 by omega)
 rw[show(10:Nat)^6=1000000 from rfl]at p6
 -- the two determinants
 obtain⟨δ,hδ,hδ0,hδb⟩:=h.num hb (by omega) (Nat.le_refl _) hd
 obtain⟨δ',hδ',hδb'⟩:=(hs.Disz hb (by omega) h2).1
 have hδ0':=ne_cast hs.D hδ'
 have hδk:=h.dk
 rw[hδ]at hδk
 rw[hdet,<-hδk]at hδ'
 have L1:δ.natAbs<=100000:=Nat.le_trans hδb (q10 _ hk)
 have L2:δ'.natAbs<=1000000:=Nat.le_trans hδb' p6
 -- numbers before and behind
 have before:∀i j B,i<n->(∀i,i<n->isz (A i j) B)->∃x:Int,g.s.M i j*(δ:Rat)=(x:Rat)/\x.natAbs<=(if i<g.s.k then 50000*B else 600000*B):=fun i j B hi hB=>by
  obtain⟨x,hx,hxb⟩:=(h.h.Disz hb (by omega) hi).2 j B hB
  rw[<-hδk]at hx
  refine⟨x,by rw[<-hx];grind,Nat.le_trans hxb ?_⟩
  split
  ·rw[<-Nat.mul_assoc]
   refine Nat.mul_le_mul_right _ ?_
   have:=Nat.mul_le_mul (show g.s.k<=5 by omega) (q4 (g.s.k-1) (by omega))
   omega
  ·refine Nat.mul_le_mul_right _ ?_
   have:=Nat.mul_le_mul (show g.s.k+1<=6 by omega) (q10 _ hk)
   omega
 have behind:∀i j,i<n->j<w->∃x:Int,elm g.s.M g.s.k a c i j*(δ':Rat)=(x:Rat)/\x.natAbs<=(if i<g.s.k+1 then 300000000 else 3500000000):=fun i j hi hj=>by
  obtain⟨x,hx,hxb⟩:=(hs.Disz hb (by omega) hi).2 j 500 fun i hi=>hb.e i j hi hj
  rw[hdet,<-hδk,hδ']at hx
  refine⟨x,by rw[<-hx];grind,Nat.le_trans hxb ?_⟩
  split
  ·rw[Nat.add_sub_cancel]
   have:=Nat.mul_le_mul (show g.s.k+1<=6 by omega) (Nat.mul_le_mul_right 500 (q10 _ hk))
   omega
  ·have:=Nat.mul_le_mul (show g.s.k+1+1<=7 by omega) p6
   omega
 -- the row that clears
 have own:∀j,j<w->∃z:Int,XR g a j*(δ:Rat)=(z:Rat)/\z.natAbs<=300000000:=fun j hj=>by
  obtain⟨z,hz,hzb⟩:=before a j 500 h2 fun i hi=>hb.e i j hi hj
  rw[if_neg (by omega)]at hzb
  exact⟨z,by rw[XR_ge h1];exact hz,by omega⟩
 have ownc:XR g a c*(δ:Rat)=(δ':Rat):=by rw[XR_ge h1,hδ']
 have ownd:=fun j (hj:j<w)=>(own j hj).elim fun z hz=>dn_nd (dn_le (dn_of hδ0 hz.1 (t:=1) (by omega)) (show z.natAbs*1<=300000000 by omega))
 have ownn:=dn_nd (dn_of hδ0 ownc (t:=1) (by omega))
 have hX:XR g a c≠0:=by rw[XR_ge h1];exact hp
 -- a row, one by one
 have row:∀i,i<n->i≠g.s.k->∃δ0 δ1:Int,δ0≠0/\δ0.natAbs<=10000/\δ1.natAbs<=100000/\
   (∃y:Int,XR g (swp g.s.k a i) c*((δ0*δ:Int):Rat)=((δ1*y:Int):Rat)/\δ1.natAbs*y.natAbs<=25000000000)/\
   ∀j,j<w->∃x x':Int,XR g (swp g.s.k a i) j*((δ0*δ:Int):Rat)=((δ1*x:Int):Rat)/\elmR (XR g) g.s.k a c i j*((δ0*δ':Int):Rat)=((δ1*x':Int):Rat)/\δ1.natAbs*x.natAbs*δ'.natAbs<=2500000000000000000/\δ1.natAbs*x'.natAbs*δ.natAbs<=3500000000000000000:=fun i hi hne=>by
  by_cases e:i<g.s.k
  ·obtain⟨δ0,a1,a2,a3⟩:=h.num hb (by omega) (show i<=g.s.k by omega) hd
   obtain⟨δ1,b1,b2,b3⟩:=h.num hb (by omega) (show i+1<=g.s.k by omega) hd
   have a4:=q4 i (by omega)
   have b4:=q10 (i+1) (by omega)
   rw[swp_lt e h1]
   have hq:∀j,XR g i j=g.q i*g.s.M i j:=fun j=>by unfold XR;rw[if_pos e]
   refine⟨δ0,δ1,a2,by omega,by omega,?_,fun j hj=>?_⟩
   ·obtain⟨y,hy,hyb⟩:=before i c 5 hi fun i hi=>hb.a i c hi hc
    rw[if_pos e]at hyb
    refine⟨y,h.over e a1 b1 (hq c) hy,?_⟩
    have:=Nat.mul_le_mul (show δ1.natAbs<=100000 by omega) hyb
    omega
   ·obtain⟨x,hx,hxb⟩:=before i j 500 hi fun i hi=>hb.e i j hi hj
    rw[if_pos e]at hxb
    obtain⟨x',hx',hxb'⟩:=behind i j hi hj
    rw[if_pos (by omega)]at hxb'
    refine⟨x,x',h.over e a1 b1 (hq j) hx,?_,?_,?_⟩
    ·have hstep:=XR_step h h1 h2 hp hi j
     refine h.over e a1 b1 (y:=elmR (XR g) g.s.k a c i j) (z:=elm g.s.M g.s.k a c i j) ?_ hx'
     rw[<-hstep]
     unfold XR
     show(if i<g.s.k+1 then(if i=g.s.k then g.s.M a c else g.q i)else 1)*elm g.s.M g.s.k a c i j=_
     rw[if_pos (by omega),if_neg hne]
    ·have:=prod3 (show δ1.natAbs<=100000 by omega) hxb L2
     omega
    ·have:=prod3 (show δ1.natAbs<=100000 by omega) hxb' L1
     omega
  ·have hg:=swp_ge (k:=g.s.k) (a:=a) (i:=i) (n:=n) (by omega) hi h1 h2
   have c1:∀(y:Rat) (x d:Int),y*(d:Rat)=(x:Rat)->y*((1*d:Int):Rat)=((1*x:Int):Rat):=fun y x d e=>by rw[Int.one_mul,Int.one_mul];exact e
   refine⟨1,1,by omega,by omega,by omega,?_,fun j hj=>?_⟩
   ·obtain⟨y,hy,hyb⟩:=before _ c 5 hg.2 fun i hi=>hb.a i c hi hc
    rw[if_neg (by omega)]at hyb
    refine⟨y,c1 _ _ _ (by rw[XR_ge hg.1];exact hy),?_⟩
    rw[show(1:Int).natAbs=1 from rfl,Nat.one_mul]
    omega
   ·obtain⟨x,hx,hxb⟩:=before _ j 500 hg.2 fun i hi=>hb.e i j hi hj
    rw[if_neg (by omega)]at hxb
    obtain⟨x',hx',hxb'⟩:=behind i j hi hj
    rw[if_neg (by omega)]at hxb'
    refine⟨x,x',c1 _ _ _ (by rw[XR_ge hg.1];exact hx),c1 _ _ _ ?_,?_,?_⟩
    ·have hstep:=XR_step h h1 h2 hp hi j
     rw[<-hstep]
     unfold XR
     show(if i<g.s.k+1 then(if i=g.s.k then g.s.M a c else g.q i)else 1)*elm g.s.M g.s.k a c i j*_=_
     rw[if_neg (by omega),<-hx']
     grind
    ·rw[show(1:Int).natAbs=1 from rfl,Nat.one_mul]
     have:=Nat.mul_le_mul hxb L2
     omega
    ·rw[show(1:Int).natAbs=1 from rfl,Nat.one_mul]
     have:=Nat.mul_le_mul hxb' L1
     omega
 have hP:∀i j,i≠g.s.k->XR g (swp g.s.k a i) c/XR g a c*XR g a j=XR g (swp g.s.k a i) j-elmR (XR g) g.s.k a c i j:=fun i j hne=>by
  unfold elmR
  rw[if_neg hne]
  grind
 have all:∀i j,i<n->i≠g.s.k->j<w->sm (XR g (swp g.s.k a i) c/XR g a c*XR g a j)/\∃L,(XR g (swp g.s.k a i) j).den∣L/\(XR g (swp g.s.k a i) c/XR g a c*XR g a j).den∣L/\0<L/\L<=MX/\(sc (XR g (swp g.s.k a i) j) L).natAbs+(sc (XR g (swp g.s.k a i) c/XR g a c*XR g a j) L).natAbs<=MX:=fun i j hi hne hj=>by
  obtain⟨δ0,δ1,r1,r2,r3,_,r5⟩:=row i hi hne
  obtain⟨x,x',x1,x2,x3,x4⟩:=r5 j hj
  refine fit_row r1 hδ0 hδ0' x1 x2 (hP i j hne) ?_ x3 x4
  have:=prod3 r2 L1 L2
  omega
 refine⟨fun j hj=>?_,fun i hi hne=>?_,fun i j hi hne hj=>?_,fun i j hi hne hj=>(all i j hi hne hj).1,fun i j hi hne hj=>(all i j hi hne hj).2⟩
 ·obtain⟨z,z1,z2⟩:=own j hj
  exact dn_sm (dn_of hδ0 z1 (t:=1) (by omega)) (by omega) (by omega)
 ·obtain⟨δ0,δ1,r1,r2,r3,⟨y,y1,y2⟩,_⟩:=row i hi hne
  have hn:=dn_nd (dn_of (Int.mul_ne_zero r1 hδ0) y1 (t:=1) (by omega))
  rw[Int.natAbs_mul,Int.natAbs_mul]at hn
  have hL:=Nat.mul_le_mul r2 L1
  have e1:=Nat.mul_le_mul (show(XR g (swp g.s.k a i) c).num.natAbs<=25000000000 by omega) (show(XR g a c).den<=100000 by have:=ownn.2;omega)
  have e2:=Nat.mul_le_mul (show(XR g (swp g.s.k a i) c).den<=1000000000 by omega) (show(XR g a c).num.natAbs<=1000000 by have:=ownn.1;omega)
  rw[Int.natAbs_mul,Int.natAbs_mul,Int.natAbs_natCast,Int.natAbs_natCast]
  omega
 ·obtain⟨δ0,δ1,r1,r2,r3,⟨y,y1,y2⟩,_⟩:=row i hi hne
  obtain⟨z,z1,z2⟩:=own j hj
  have hby:(XR g (swp g.s.k a i) c/XR g a c)*((δ0*δ':Int):Rat)=((δ1*y:Int):Rat):=by
   rw[<-y1,Rat.intCast_mul,Rat.intCast_mul,<-ownc,Rat.div_def]
   have:=Rat.mul_inv_cancel _ hX
   generalize (XR g a c)⁻¹=iv at *
   grind
  have hn:=dn_nd (dn_of (Int.mul_ne_zero r1 hδ0') hby (t:=1) (by omega))
  rw[Int.natAbs_mul,Int.natAbs_mul]at hn
  have hL:=Nat.mul_le_mul r2 L2
  have hz:=dn_nd (dn_of hδ0 z1 (t:=1) (by omega))
  have e1:=Nat.mul_le_mul (show(XR g (swp g.s.k a i) c/XR g a c).num.natAbs<=25000000000 by omega) (show(XR g a j).num.natAbs<=300000000 by omega)
  have e2:=Nat.mul_le_mul (show(XR g (swp g.s.k a i) c/XR g a c).den<=10000000000 by omega) (show(XR g a j).den<=100000 by omega)
  rw[Int.natAbs_mul]
  omega
end
end Go.Abs
namespace Go.Abs
set_option maxRecDepth 4000
section
variable {A:Nat->Nat->Rat}{n w cols:Nat}
theorem gqR_d(hb:Bd A n w cols):∀c,c<=cols->∀t,t<=(gqR A n c).s.k->isz ((gqR A n c).d t) (10^t)
 |
  0,_,t,ht=>by
  have:t<=0:=ht
  obtain rfl:t=0:=by omega
  exact isz_1
 |
  c+1,hc,t,ht=>by
  obtain⟨σ,h⟩:=gqR_ok (A:=A) (n:=n) c
  have ih:=gqR_d hb c (by omega)
  have hkn:=h.h.kn
  obtain⟨h1,h2,h3,h4⟩:=fnd_ok (M:=(gqR A n c).s.M) (c:=c) (n:=n) (n-(gqR A n c).s.k) (gqR A n c).s.k (by omega)
  rw[gqR,gqst]at ht ⊢
  split at ht
  ·rename_i hlt
   rw[if_pos hlt]
   have ht:t<=(gqR A n c).s.k+1:=ht
   show isz (if t=(gqR A n c).s.k+1 then _ else _) _
   split
   ·rename_i e
    have hs:=h.h.step h1 hlt (h3 hlt)
    have:=(hs.Disz hb hc hlt).1
    rw[h.h.det h1 hlt,<-h.dk]at this
    rw[e]
    exact this
   ·exact ih t (by omega)
  ·rename_i hlt
   rw[if_neg hlt]
   exact ih t ht
theorem last_fit(hb:Bd A n w cols)(hw:cols<w)(hk:(gqR A n cols).s.k<=6){t:Nat}(ht:t<(gqR A n cols).s.k):
  XR (gqR A n cols) t ((gqR A n cols).s.κ t)≠0/\((XR (gqR A n cols) t cols).num*((XR (gqR A n cols) t ((gqR A n cols).s.κ t)).den:Int)).natAbs<=MX/\(((XR (gqR A n cols) t cols).den:Int)*(XR (gqR A n cols) t ((gqR A n cols).s.κ t)).num).natAbs<=MX/\
  XR (gqR A n cols) t cols/XR (gqR A n cols) t ((gqR A n cols).s.κ t)=(gqR A n cols).s.M t cols:=by
 have hMX:MX=9223372036854775807:=rfl
 obtain⟨σ,h⟩:=gqR_ok (A:=A) (n:=n) cols
 have hd:=gqR_d hb cols (Nat.le_refl _)
 generalize gqR A n cols=g at *
 have hkn:=h.h.kn
 have q10:∀t,t<=5->10^t<=100000:=fun t ht=>by have:=pow10 ht;rw[show(10:Nat)^5=100000 from rfl]at this;exact this
 have q6:∀t,t<=6->10^t<=1000000:=fun t ht=>by have:=pow10 ht;rw[show(10:Nat)^6=1000000 from rfl]at this;exact this
 have q4:∀t,t<=4->10^t<=10000:=fun t ht=>by have:=pow10 ht;rw[show(10:Nat)^4=10000 from rfl]at this;exact this
 obtain⟨δ0,a1,a2,a3⟩:=h.num hb (Nat.le_refl _) (show t<=g.s.k by omega) hd
 obtain⟨δ1,b1,b2,b3⟩:=h.num hb (Nat.le_refl _) (show t+1<=g.s.k by omega) hd
 obtain⟨δ,c1,c2,c3⟩:=h.num hb (Nat.le_refl _) (Nat.le_refl _) hd
 have hδk:=h.dk
 rw[c1]at hδk
 have hq:=h.q t ht
 rw[a1,b1]at hq
 have hpiv:XR g t (g.s.κ t)=g.q t:=by
  unfold XR
  rw[if_pos ht,h.h.piv t t ht ht,if_pos rfl]
  grind
 have hval:XR g t cols=g.q t*g.s.M t cols:=by unfold XR;rw[if_pos ht]
 have hq0:g.q t≠0:=fun e=>by
  rw[e]at hq
  exact b2 (cast_inj (by rw[<-hq];simp))
 have hgn:=dn_nd (dn_of a2 hq (t:=1) (by omega))
 obtain⟨x,hx,hxb⟩:=(h.h.Disz hb (Nat.le_refl _) (show t<n by omega)).2 cols 500 fun i hi=>hb.e i cols hi hw
 rw[if_pos ht]at hxb
 rw[<-hδk]at hx
 have hx':g.s.M t cols*(δ:Rat)=(x:Rat):=by rw[<-hx];grind
 have hxb':x.natAbs<=300000000:=by
  have:=Nat.mul_le_mul (show g.s.k<=6 by omega) (Nat.mul_le_mul_right 500 (q10 (g.s.k-1) (by omega)))
  omega
 rw[hpiv]
 refine⟨hq0,?_⟩
 have hdiv:XR g t cols/g.q t=g.s.M t cols:=by
  rw[hval,Rat.div_def]
  have:=Rat.mul_inv_cancel _ hq0
  grind
 by_cases e:t+1=g.s.k
 ·have hδ:δ1=δ:=cast_inj (by rw[<-b1,e,c1])
  have hf:XR g t cols*(δ0:Rat)=(x:Rat):=by
   rw[hval,<-hx',<-hδ,<-hq]
   grind
  have hfn:=dn_nd (dn_of a2 hf (t:=1) (by omega))
  have p5:=q10 t (by omega)
  have p6:=q6 (t+1) (by omega)
  have e1:=Nat.mul_le_mul (show(XR g t cols).num.natAbs<=300000000 by omega) (show(g.q t).den<=100000 by omega)
  have e2:=Nat.mul_le_mul (show(XR g t cols).den<=100000 by omega) (show(g.q t).num.natAbs<=1000000 by omega)
  refine⟨?_,?_,hdiv⟩
  ·rw[Int.natAbs_mul,Int.natAbs_natCast];omega
  ·rw[Int.natAbs_mul,Int.natAbs_natCast];omega
 ·have hf:=h.over ht a1 b1 hval hx'
  have hfn:=dn_nd (dn_of (Int.mul_ne_zero a2 c2) hf (t:=1) (by omega))
  rw[Int.natAbs_mul,Int.natAbs_mul]at hfn
  have p4:=q4 t (by omega)
  have p5:=q10 (t+1) (by omega)
  have p6:=q6 g.s.k hk
  have m1:=Nat.mul_le_mul (show δ1.natAbs<=100000 by omega) hxb'
  have m2:=Nat.mul_le_mul (show δ0.natAbs<=10000 by omega) (show δ.natAbs<=1000000 by omega)
  have e1:=Nat.mul_le_mul (show(XR g t cols).num.natAbs<=30000000000000 by omega) (show(g.q t).den<=10000 by omega)
  have e2:=Nat.mul_le_mul (show(XR g t cols).den<=10000000000 by omega) (show(g.q t).num.natAbs<=100000 by omega)
  refine⟨?_,?_,hdiv⟩
  ·rw[Int.natAbs_mul,Int.natAbs_natCast];omega
  ·rw[Int.natAbs_mul,Int.natAbs_natCast];omega
end
end Go.Abs
namespace Go.Abs
def htv(s:WSt)(v:Nat):Int:=gI s.1 (6+v)
section
variable {N:Nat}{ks ps:List Nat}{fl:List Int}
end
end Go.Abs
namespace Go.Abs
section
variable {rows B:List Row}{N:Nat}{ks ps:List Nat}{x1 ev g:AV}{fl D l:List Int}
def hts(N:Nat)(D:List Int):List Int:=(D.drop 6).take N
end
end Go.Abs
namespace Go.Abs
def bls(l:List Bool):List AV:=l.map AV.bool
section
variable {B L:List Row}{n:Nat}{c:Cap}{v:AV}
end
end Go.Abs
namespace Go.Abs
abbrev HSt:=List Int×List Bool
section
variable {N:Nat}{ks ps:List Nat}{fl:List Int}
end
end Go.Abs
namespace Go.Abs
def hR(B M:List Row)(G:List AV)(t:HSt):List Row:=B++(.cells G::.cells (nums .i64 t.1)::.cells (bls t.2)::M)
section
variable {B M:List Row}{G:List AV}{t:HSt}{N low i:Nat}
end
section
variable {B M:List Row}{N:Nat}{ks ps:List Nat}{x1 x8 ev pv:AV}{fl p:List Int}{low:Nat}
end
end Go.Abs
namespace Go.Abs
section
variable {F:Nat->Option IFn}{cx:Ctx}{k:List Itm}{r:AV×List Row×Nat->Prop}
theorem evalG_idxS{B:Nat->List Row}{i d b n:Nat}{l:List (Nat×AV)}{g:List (IOpx×Nat)}{z:Nat}{x y:Opd}:evalG (Ret F) B i ((⟨some d,.idxS z x y,none⟩,b)::g) (mk n l) []=(evP (B i) (.idxS z (subO (getO (mk n l)) x) (subO (getO (mk n l)) y))).bind fun v=>evalG (Ret F) B (i+1) g (mk n ((d,v)::l)) []:=evalG_p rfl
end
section
variable {k:List Itm}{cx:Ctx}{r:AV×List Row×Nat->Prop}
end
end Go.Abs
namespace Go.Abs
def frs(f:Nat->Rat):Nat->List AV
 |0=>[]
 |w+1=>frs f w++[.int .i64 (f w).num,.int .i64 ((f w).den:Int)]
theorem frs_len{f:Nat->Rat}:∀w,(frs f w).length=w*2
 |0=>rfl
 |w+1=>by rw[frs,List.length_append,frs_len w,Nat.succ_mul];rfl
theorem frs_congr{f g:Nat->Rat}:∀{w:Nat},(∀j,j<w->f j=g j)->frs f w=frs g w
 |0,_=>rfl
 |w+1,h=>by rw[frs,frs,frs_congr fun j hj=>h j (by omega),h w (by omega)]
theorem frs_ids{f:Nat->Rat}:∀w,(frs f w).all (·.ids.isEmpty)=true
 |0=>rfl
 |w+1=>by rw[frs,List.all_append,frs_ids w];rfl
theorem frs_seg{f:Nat->Rat}{j:Nat}:∀{w:Nat},j<w->seg (frs f w) (j*2) 2=some [.int .i64 (f j).num,.int .i64 ((f j).den:Int)]
 |0,h=>by omega
 |
  w+1,h=>by
  have hl:=frs_len (f:=f) w
  have hl2:=frs_len (f:=f) (w+1)
  unfold seg
  rw[if_pos (by omega)]
  by_cases c:j=w
  ·subst c
   rw[frs,<-hl,List.drop_left]
   rfl
  ·have ih:=frs_seg (f:=f) (show j<w by omega)
   unfold seg at ih
   rw[if_pos (by omega)]at ih
   rw[frs,List.drop_append_of_le_length (by omega),List.take_append_of_le_length (by rw[List.length_drop];omega)]
   exact ih
theorem frs_splice{f:Nat->Rat}{j:Nat}{q:Rat}:∀{w:Nat},j<w->splice (frs f w) (j*2) [.int .i64 q.num,.int .i64 (q.den:Int)]=frs (fun i=>if i=j then q else f i) w
 |0,h=>by omega
 |
  w+1,h=>by
  have hl:=frs_len (f:=f) w
  unfold splice
  by_cases c:j=w
  ·subst c
   rw[frs,frs,if_pos rfl,<-hl,List.take_left,List.drop_eq_nil_of_le (by simp),List.append_nil]
   congr 1
   exact frs_congr fun i hi=>by rw[if_neg (by omega)]
  ·have ih:=frs_splice (f:=f) (q:=q) (show j<w by omega)
   unfold splice at ih
   rw[frs,frs,if_neg (fun e=>c e.symm),<-ih,List.take_append_of_le_length (by omega),List.drop_append_of_le_length (by simp;omega)]
   simp
structure MH(b:Nat)(R:List Row)(O:Nat)(idf:Nat->Nat)(cap:Nat->Cap)(M:Nat->Nat->Rat)(n w:Nat):Prop where
 o:R[O]?=some (.cells ((List.range n).map fun i=>AV.slice (idf i) 0 w (cap i)))
 r:∀i,i<n->R[idf i]?=some (.cells (frs (M i) w))
 inj:∀i j,i<n->j<n->idf i=idf j->i=j
 io:∀i,i<n->idf i≠O
 ob:b<=O
 ib:∀i,i<n->b<=idf i
def up2(M:Nat->Nat->Rat)(i j:Nat)(q:Rat):Nat->Nat->Rat:=fun i' j'=>if i'=i/\j'=j then q else M i' j'
section
variable {b:Nat}{R:List Row}{O:Nat}{idf:Nat->Nat}{cap:Nat->Cap}{M:Nat->Nat->Rat}{n w:Nat}
theorem MH.app(h:MH b R O idf cap M n w)(X:List Row):MH b (R++X) O idf cap M n w where
 o:=by rw[List.getElem?_append_left (List.getElem?_eq_some_iff.1 h.o).1];exact h.o
 r:=fun i hi=>by rw[List.getElem?_append_left (List.getElem?_eq_some_iff.1 (h.r i hi)).1];exact h.r i hi
 inj:=h.inj
 io:=h.io
 ob:=h.ob
 ib:=h.ib
theorem MH.congr(h:MH b R O idf cap M n w){N:Nat->Nat->Rat}(e:∀i j,i<n->j<w->M i j=N i j):MH b R O idf cap N n w:=
 {h with r:=fun i hi=>by rw[h.r i hi,frs_congr fun j hj=>e i j hi hj]}
theorem MH.set(h:MH b R O idf cap M n w){i j:Nat}(hi:i<n)(hj:j<w)(q:Rat):MH b (R.set (idf i) (.cells (frs (fun j'=>if j'=j then q else M i j') w))) O idf cap (up2 M i j q) n w where
 o:=by rw[List.getElem?_set_ne (h.io i hi)];exact h.o
 r:=fun i' hi'=>by
  by_cases e:i'=i
  ·subst e
   rw[List.getElem?_set_self (List.getElem?_eq_some_iff.1 (h.r i' hi')).1]
   congr 2
   exact frs_congr fun j' _=>by simp[up2]
  ·rw[List.getElem?_set_ne (fun e2=>e (h.inj i' i hi' hi e2.symm)),h.r i' hi']
   congr 2
   exact frs_congr fun j' _=>by simp[up2,e]
 inj:=h.inj
 io:=h.io
 ob:=h.ob
 ib:=h.ib
theorem MH.ne(h:MH b R O idf cap M n w){id:Nat}(hid:R.length<=id):id≠O/\∀i,i<n->id≠idf i:=by
 have:=(List.getElem?_eq_some_iff.1 h.o).1
 refine⟨by omega,fun i hi=>?_⟩
 have:=(List.getElem?_eq_some_iff.1 (h.r i hi)).1
 omega
theorem MH.row(h:MH b R O idf cap M n w){i:Nat}(hi:i<n):evP R (.load1 (.c (.ptr O i)))=some (.slice (idf i) 0 w (cap i)):=by
 have hr:row? R O=some ((List.range n).map fun i=>AV.slice (idf i) 0 w (cap i)):=by unfold row?;rw[h.o]
 show evalP R (getO []) _=_
 unfold evalP
 simp only[getO,hr]
 simp[hi]
theorem fr_ix{id j:Nat}{c:Cap}(hj:j<w):evP R (.idxS 2 (.c (.slice id 0 w c)) (.c (.int .i64 j)))=some (.ptr id (j*2)):=by
 have e:idx? (j:Int) w=some j:=by rw[idx?_ok (by omega) (by omega),Int.toNat_natCast]
 show evalP R (getO []) _=_
 unfold evalP
 simp only[getO,e,Nat.zero_add]
theorem frs_ld{id j:Nat}{f:Nat->Rat}(h:R[id]?=some (.cells (frs f w)))(hj:j<w):evP R (.loadN 2 (.c (.ptr id (j*2))))=some (fr (f j)):=by
 have hr:row? R id=some (frs f w):=by unfold row?;rw[h]
 show evalP R (getO []) _=_
 unfold evalP
 simp only[getO,hr,frs_seg hj]
 rfl
theorem frs_st{id j low:Nat}{f:Nat->Rat}{q:Rat}(h:R[id]?=some (.cells (frs f w)))(hj:j<w):evE R low (.storeN 2 (.c (.ptr id (j*2))) (.c (fr q)))=some (.tup [],R.set id (.cells (frs (fun j'=>if j'=j then q else f j') w)),lower low id):=by
 have hc:cells? R id=some (frs f w):=by unfold cells?;rw[h]
 have hl:=frs_len (f:=f) w
 unfold fr
 rw[evE_storeN]
 simp only[hc,Option.bind_some]
 rw[if_pos ⟨rfl,by omega,rfl⟩,frs_splice hj]
theorem MH.ld(h:MH b R O idf cap M n w){i j:Nat}(hi:i<n)(hj:j<w):evP R (.loadN 2 (.c (.ptr (idf i) (j*2))))=some (fr (M i j)):=frs_ld (h.r i hi) hj
theorem fr_eq0{q:Rat}:eqInts [.int .i64 q.num,.int .i64 (q.den:Int)] [.int .i64 0,.int .i64 1]=some (decide (q=0)):=by
 by_cases c:q=0
 ·subst c;rfl
 ·have:q.num≠0:=fun e=>c (Rat.num_eq_zero.1 e)
  simp[eqInts,c,this]
end
end Go.Abs
namespace Go.Abs
theorem drop_mapN{R:List Row}{β:Type}{f:Row->β}:List.drop R.length (R.map f)=[]:=List.drop_eq_nil_of_le (by simp)
theorem lower_b{b low id:Nat}(h1:b<=low)(h2:b<=id):b<=lower low id:=by unfold lower;split<;>omega
abbrev C64:Ctx:=.fn [.t 6]
def Fx(R R':List Row)(p:Nat->Prop):Prop:=R.length<=R'.length/\∀id,id<R.length->¬p id->R'[id]?=R[id]?
theorem Fx.refl{R:List Row}{p:Nat->Prop}:Fx R R p:=⟨Nat.le_refl _,fun _ _ _=>rfl⟩
theorem Fx.trans{R R' R'':List Row}{p:Nat->Prop}(h:Fx R R' p)(k:Fx R' R'' p):Fx R R'' p:=
 ⟨Nat.le_trans h.1 k.1,fun id h1 h2=>(k.2 id (by have:=h.1;omega) h2).trans (h.2 id h1 h2)⟩
theorem Fx.app{R:List Row}{p:Nat->Prop}(X:List Row):Fx R (R++X) p:=⟨by simp,fun id h1 _=>List.getElem?_append_left h1⟩
theorem Fx.set{R:List Row}{p:Nat->Prop}{i:Nat}{y:Row}(h:p i):Fx R (R.set i y) p:=⟨by simp,fun id h1 h2=>by rw[List.getElem?_set_ne fun e=>h2 (by rw[<-e];exact h)]⟩
theorem Fx.mono{R R':List Row}{p q:Nat->Prop}(h:Fx R R' p)(hpq:∀id,id<R.length->p id->q id):Fx R R' q:=⟨h.1,fun id h1 h2=>h.2 id h1 fun hp=>h2 (hpq id h1 hp)⟩
theorem Fx.row{R R':List Row}{p:Nat->Prop}{id:Nat}{vs:List AV}(h:Fx R R' p)(hr:R[id]?=some (.cells vs))(hp:¬p id):R'[id]?=some (.cells vs):=by
 rw[h.2 id (List.getElem?_eq_some_iff.1 hr).1 hp];exact hr
theorem fr_row{R:List Row}{B:Nat}{q:Rat}(h:R[B]?=some (.cells [.int .i64 q.num,.int .i64 (q.den:Int)])):evP R (.loadN 2 (.c (.ptr B 0)))=some (fr q):=by
 have hr:row? R B=some [.int .i64 q.num,.int .i64 (q.den:Int)]:=by unfold row?;rw[h]
 show evalP R (getO []) _=_
 unfold evalP
 simp only[getO,hr]
 rfl
section
variable {b:Nat}{O:Nat}{idf:Nat->Nat}{cap:Nat->Cap}{n w:Nat}{r:AV×List Row×Nat->Prop}{x0 x5 x7 x9 x10 x31 x32 x95 x96 x97:AV}
set_option maxHeartbeats 8000000 in
theorem red_l10{B k i:Nat}{q:Rat}{M:Nat->Nat->Rat}(hk:k<n)(hi:i<n)(hne:i≠k)(hw:w<=1000)(hq:sm q)
  (hfit:∀j,j<w->sm (M k j)/\sm (M k j*q)/\∃L,(M i j).den∣L/\(M k j*q).den∣L/\0<L/\L<=MX/\(sc (M i j) L).natAbs+(sc (M k j*q) L).natAbs<=MX) {base:Nat}
  {R0:List Row} (hB:idf i≠B) (hBq:R0[B]?=some (.cells [.int .i64 q.num,.int .i64 (q.den:Int)]))
  (hc:∀(R:List Row) (low:Nat) (sl:List (Nat×AV)),MH b R O idf cap (fun i' j'=>if i'=i then M i j'-M k j'*q else M i' j') n w->Fx R0 R (· = idf i)->R.length=R0.length->b<=low->low<=base->lk sl 0=x0->lk sl 5=x5->lk sl 7=x7->lk sl 9=x9->lk sl 10=x10->lk sl 12 = .slice (idf k) 0 w (cap k)->lk sl 31=x31->lk sl 32=x32->lk sl 95=x95->lk sl 96=x96->lk sl 97=x97->
   Ex F C64 [.code c64k9,.inLoop c64l8,.inBlock 8,.code c64s7,.inBlock 3,.code c64k4,.inLoop c64l3,.inBlock 2,.code c64s2,.inScope c64p0] ⟨mk 148 sl,R,low⟩ r):
  ∀(d j:Nat) (R:List Row) (low:Nat),w-j=d->j<=w->MH b R O idf cap (fun i' j'=>if i'=i/\j'<j then M i j'-M k j'*q else M i' j') n w->Fx R0 R (· = idf i)->R.length=R0.length->b<=low->low<=base->
  Lc64l10 F C64 x0 x5 x7 x9 x10 (.slice (idf k) 0 w (cap k)) (.slice (idf i) 0 w (cap i)) (.ptr B 0) x31 x32 x95 x96 x97 (.int .i64 w) (.int .i64 j) R low r:=by
 intro d
 induction d with
 |
  zero=>
  intro j R low hd hj h hF hl hlow hlb
  have hj':j=w:=by omega
  subst hj'
  unfold Lc64l10
  simp[-uc64k9]
  refine hc R low _ (h.congr fun i' j' _ h2=>?_) hF hl hlow hlb ?_ ?_ ?_ ?_ ?_ ?_ ?_ ?_ ?_ ?_ ?_
  ·by_cases e:i'=i
   ·rw[if_pos ⟨e,h2⟩,if_pos e]
   ·rw[if_neg (fun h=>e h.1),if_neg e]
  all_goals simp
 |
  succ d ih=>
  intro j R low hd hj0 h hF hl hlow hlb
  have hj:j<w:=by omega
  have hwj:IntKind.i64.wrap ((j:Int)+1)=((j+1:Nat):Int):=by rw[wrap64 (by omega) (by omega)];omega
  obtain⟨f1,f2,L,g1,g2,g3,g4,g5⟩:=hfit j hj
  have lr:=h.ld hi hj
  have lk:=h.ld hk hj
  simp only[hne.symm,false_and,if_false,Nat.lt_irrefl,and_false]at lr lk
  have lq:=fr_row (hF.row hBq hB.symm)
  have r99:Ret F 99 [fr (M k j),fr q] R=some (fr (M k j*q),R,none):=times_ret f1 hq f2
  have r95:Ret F 95 [fr (M i j),fr (M k j*q)] R=some (fr (M i j-M k j*q),R,none):=minus_ret g1 g2 g3 g4 g5 f2
  have ixk:=fun R:List Row=>fr_ix (R:=R) (id:=idf k) (c:=cap k) hj
  have ixi:=fun R:List Row=>fr_ix (R:=R) (id:=idf i) (c:=cap i) hj
  have hrow:=h.r i hi
  have st:=frs_st (low:=low) (q:=M i j-M k j*q) hrow hj
  have hset:=h.set hi hj (M i j-M k j*q)
  have hset':=hset.congr (N:=fun i' j'=>if i'=i/\j'<j+1 then M i j'-M k j'*q else M i' j') fun i' j' _ _=>by
   show(if i'=i/\j'=j then _ else(if i'=i/\j'<j then M i j'-M k j'*q else M i' j'))=(if i'=i/\j'<j+1 then M i j'-M k j'*q else M i' j')
   by_cases e1:i'=i
   ·subst e1
    by_cases e2:j'=j
    ·subst e2;rw[if_pos ⟨rfl,rfl⟩,if_pos ⟨rfl,by omega⟩]
    ·rw[if_neg (fun h=>e2 h.2)]
     by_cases e3:j'<j
     ·rw[if_pos ⟨rfl,e3⟩,if_pos ⟨rfl,by omega⟩]
     ·rw[if_neg (fun h=>e3 h.2),if_neg (fun h=>by omega)]
   ·rw[if_neg (fun h=>e1 h.1),if_neg (fun h=>e1 h.1),if_neg (fun h=>e1 h.1)]
  have:=ih (j+1) _ (lower low (idf i)) (by omega) (by omega) hset' (hF.trans (Fx.set rfl)) (by rw[List.length_set];exact hl) (lower_b hlow (h.ib i hi)) (Nat.le_trans (lower_le _ _) hlb)
  unfold Lc64l10
  simp[hj,ixk,ixi,lr,lk,lq,opC,targetC,bd,r99,r95,lowO,st,hwj,maskE,drop_mapN]
  simpa using this
end
end Go.Abs
namespace Go.Abs
section
variable {b:Nat}{O:Nat}{idf:Nat->Nat}{cap:Nat->Cap}{n w:Nat}{r:AV×List Row×Nat->Prop}{x0 x5 x7 x9 x10 x31 x32 x95 x96 x97:AV}
set_option maxHeartbeats 8000000 in
theorem red_l32{B k:Nat}{q:Rat}{M:Nat->Nat->Rat}(hk:k<n)(hw:w<=1000)(hq:sm q)(hq0:q≠0)
  (hfit:∀j,j<w->sm (M k j)/\sm (M k j/q)) {base:Nat}
  {R0:List Row} (hB:idf k≠B) (hBq:R0[B]?=some (.cells [.int .i64 q.num,.int .i64 (q.den:Int)]))
  (hc:∀(R:List Row) (low:Nat) (sl:List (Nat×AV)),MH b R O idf cap (fun i' j'=>if i'=k then M k j'/q else M i' j') n w->Fx R0 R (· = idf k)->R.length=R0.length->b<=low->low<=base->lk sl 0=x0->lk sl 5=x5->lk sl 7=x7->lk sl 9=x9->lk sl 10=x10->lk sl 12 = .slice (idf k) 0 w (cap k)->lk sl 31=x31->lk sl 32=x32->
   Ex F C64 [.code c64s31,.inBlock 3,.code c64k4,.inLoop c64l3,.inBlock 2,.code c64s2,.inScope c64p0] ⟨mk 148 sl,R,low⟩ r):
  ∀(d j:Nat) (R:List Row) (low:Nat),w-j=d->j<=w->MH b R O idf cap (fun i' j'=>if i'=k/\j'<j then M k j'/q else M i' j') n w->Fx R0 R (· = idf k)->R.length=R0.length->b<=low->low<=base->
  Lc64l32 F C64 x0 x5 x7 x9 x10 (.slice (idf k) 0 w (cap k)) (.ptr B 0) x31 x32 (.int .i64 w) (.int .i64 j) R low r:=by
 intro d
 induction d with
 |
  zero=>
  intro j R low hd hj h hF hl hlow hlb
  have hj':j=w:=by omega
  subst hj'
  unfold Lc64l32
  simp[-uc64s31]
  refine hc R low _ (h.congr fun i' j' _ h2=>?_) hF hl hlow hlb ?_ ?_ ?_ ?_ ?_ ?_ ?_ ?_
  ·by_cases e:i'=k
   ·rw[if_pos ⟨e,h2⟩,if_pos e]
   ·rw[if_neg (fun h=>e h.1),if_neg e]
  all_goals simp
 |
  succ d ih=>
  intro j R low hd hj0 h hF hl hlow hlb
  have hj:j<w:=by omega
  have hwj:IntKind.i64.wrap ((j:Int)+1)=((j+1:Nat):Int):=by rw[wrap64 (by omega) (by omega)];omega
  obtain⟨f1,f2⟩:=hfit j hj
  have lk:=h.ld hk hj
  simp only[Nat.lt_irrefl,and_false,if_false]at lk
  have lq:=fr_row (hF.row hBq hB.symm)
  have r123:Ret F 123 [fr (M k j),fr q] R=some (fr (M k j/q),R,none):=over_ret f1 hq hq0 f2
  have ixk:=fun R:List Row=>fr_ix (R:=R) (id:=idf k) (c:=cap k) hj
  have hrow:=h.r k hk
  have st:=frs_st (low:=low) (q:=M k j/q) hrow hj
  have hset:=h.set hk hj (M k j/q)
  have hset':=hset.congr (N:=fun i' j'=>if i'=k/\j'<j+1 then M k j'/q else M i' j') fun i' j' _ _=>by
   show(if i'=k/\j'=j then _ else(if i'=k/\j'<j then M k j'/q else M i' j'))=(if i'=k/\j'<j+1 then M k j'/q else M i' j')
   by_cases e1:i'=k
   ·subst e1
    by_cases e2:j'=j
    ·subst e2;rw[if_pos ⟨rfl,rfl⟩,if_pos ⟨rfl,by omega⟩]
    ·rw[if_neg (fun h=>e2 h.2)]
     by_cases e3:j'<j
     ·rw[if_pos ⟨rfl,e3⟩,if_pos ⟨rfl,by omega⟩]
     ·rw[if_neg (fun h=>e3 h.2),if_neg (fun h=>by omega)]
   ·rw[if_neg (fun h=>e1 h.1),if_neg (fun h=>e1 h.1),if_neg (fun h=>e1 h.1)]
  have:=ih (j+1) _ (lower low (idf k)) (by omega) (by omega) hset' (hF.trans (Fx.set rfl)) (by rw[List.length_set];exact hl) (lower_b hlow (h.ib k hk)) (Nat.le_trans (lower_le _ _) hlb)
  unfold Lc64l32
  simp[hj,ixk,lk,lq,opC,targetC,bd,r123,lowO,st,hwj,maskE,drop_mapN]
  simpa using this
theorem fr_eqA{q:Rat}:eqA (.ints 2) (fr q) (fr 0)=some (decide (q=0)):=by
 have:=fr_eq0 (q:=q)
 unfold fr
 simpa[eqA]using this
theorem sl_ix{R:List Row}{O n i:Nat}{c:Cap}(hi:i<n):evP R (.idxS 1 (.c (.slice O 0 n c)) (.c (.int .i64 i)))=some (.ptr O i):=by
 have e:idx? (i:Int) n=some i:=by rw[idx?_ok (by omega) (by omega),Int.toNat_natCast]
 show evalP R (getO []) _=_
 unfold evalP
 simp only[getO,e,Nat.zero_add,Nat.mul_one]
set_option maxHeartbeats 8000000 in
theorem red_l51{B k c:Nat}{M:Nat->Nat->Rat}{R:List Row}{low:Nat}(hc:c<w)(hn:n<=1000)(h:MH b R O idf cap M n w){cO:Cap}
  (hB:R[B]?=some (.cells [.int .i64 0,.int .i64 1]))
  (hk:∀(sl:List (Nat×AV)) (a:Nat),lk sl 0 = .slice O 0 n cO->lk sl 5 = .ptr B 0->lk sl 7=x7->lk sl 9=x9->lk sl 10 = .int .i64 c->lk sl 11 = .int .i64 a->lk sl 31=x31->lk sl 32=x32->a=fnd M c (n-k) k->
   Ex F C64 [.code c64s50,.inBlock 3,.code c64k4,.inLoop c64l3,.inBlock 2,.code c64s2,.inScope c64p0] ⟨mk 148 sl,R,low⟩ r):
  ∀(d a:Nat),n-a=d->a<=n->fnd M c (n-a) a=fnd M c (n-k) k->
  Lc64l51 F C64 (.slice O 0 n cO) (.ptr B 0) x7 x9 (.int .i64 c) (.int .i64 a) x31 x32 R low r:=by
 intro d
 induction d with
 |
  zero=>
  intro a hd ha hf
  have ha':a=n:=by omega
  subst ha'
  unfold Lc64l51
  simp[-uc64s50]
  refine hk _ a ?_ ?_ ?_ ?_ ?_ ?_ ?_ ?_ ?_
  rotate_right
  ·rw[<-hf,Nat.sub_self];rfl
  all_goals simp
 |
  succ d ih=>
  intro a hd ha hf
  have ha':a<n:=by omega
  have hwj:IntKind.i64.wrap ((a:Int)+1)=((a+1:Nat):Int):=by rw[wrap64 (by omega) (by omega)];omega
  have l1:=h.row ha'
  have l2:=h.ld ha' hc
  have l3:=fr_row (q:=0) hB
  have ixO:=sl_ix (R:=R) (O:=O) (c:=cO) ha'
  have ixc:=fr_ix (R:=R) (id:=idf a) (c:=cap a) hc
  rw[show n-a=(n-(a+1))+1 by omega,fnd]at hf
  by_cases hz:M a c=0
  ·rw[if_pos hz]at hf
   have:=ih (a+1) (by omega) (by omega) hf
   unfold Lc64l51
   simp[ha',l1,l2,l3,ixO,ixc,hz,fr_eqA,hwj]
   simpa using this
  ·rw[if_neg hz]at hf
   unfold Lc64l51
   simp[ha',l1,l2,l3,ixO,ixc,fr_eqA,hz,hwj,-uc64s50]
   refine hk _ a ?_ ?_ ?_ ?_ ?_ ?_ ?_ ?_ hf
   all_goals simp
end
end Go.Abs