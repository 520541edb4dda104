/- The texts that the row uses, part 4. -/
import Derived.Test.YtichbmhjgbjiiaaDoorBG3
import Derived.AtR
import Derived.Orders
import Derived.KernelRfl
import Derived.Laws.Cells
import Derived.Laws.CopyRow
import Derived.Laws.Append
import Derived.Laws.AppendOwn
import Derived.Laws.Entries
import Derived.ArgAppend
import Derived.ChangeKeysEq
import Derived.WideLaws
import Derived.Laws.Small
import Derived.Laws.StructEq
import Derived.Laws.Cover3
import Derived.Laws.Tables
import Derived.Laws.Rows
import Derived.Below
import Derived.Laws.IdiomCopy
import Derived.RangeFuncNested
import Derived.Test.YtichbmhjgbjiiaaDoorProg
import Derived.Test.YtichbmhjgbjiiaaDoorRows
import Derived.ProofKit
import Derived.LaidMore
import Derived.OpenShut
import Derived.Stop.Joined
import Derived.ChangeSlices
import Derived.SizedLaws
import Derived.SevenTiedAt
import Derived.WalkKit
import Derived.ShutString
import Derived.ChangeOld
import Derived.Carry
set_option linter.unusedVariables false
set_option maxRecDepth 20000
set_option maxHeartbeats 4000000
namespace Go.Abs
variable {F:Nat->Option IFn}{cx:Ctx}{k:List Itm}{s:St}{l:List (Nat×AV)}{rows:List Row}{low:Nat}{r:AV×List Row×Nat->Prop}
@[simp] abbrev Kc15l2:List Itm:=.inLoop c15l2::.inBlock 4::.code c15s1::[]
@[simp] abbrev Kc15l29:List Itm:=.inLoop c15l29::.inBlock 2::.code c15s28::[]
@[simp] abbrev Kc15l42:List Itm:=.inLoop c15l42::.inBlock 0::.code c15s41::[]
@[simp] abbrev Kc15l4:List Itm:=.inLoop c15l4::.inBlock 6::.inBlock 5::.code c15k3::Kc15l2
@[simp] abbrev Kc15l6:List Itm:=.inLoop c15l6::.inBlock 8::.inBlock 7::.code c15k5::Kc15l4
@[simp] theorem uc15k0:Ex F cx (.code c15k0::k) ⟨mk 164 l,rows,low⟩ r↔bnd (evP rows (.loadN 3 (.c (lk l 3)))) fun v0=>bnd (evE rows low (.storeN 3 (.c (lk l 2)) (.c v0))) fun q1=>Ex F cx k ⟨mk 164 [(163,v0),(2,lk l 2),(3,lk l 3)],q1.2.1,q1.2.2⟩ r:=rg qq131 c15r0 rfl (by kernel_rfl)
@[simp] theorem uc15s1:U c15s1 (.seq c15k0 .ret):=ur
@[simp] theorem uc15k3:Ex F cx (.code c15k3::k) ⟨mk 164 l,rows,low⟩ r↔bnd (evP rows (.bin .add (.c (lk l 12)) (.c (.int .i64 1)))) fun v0=>Ex F cx k ⟨mk 164 ([(12,v0),(102,v0),(101,lk l 12)]++kp l qq55),rows,low⟩ r:=rg qq55 c15r3 rfl (by kernel_rfl)
@[simp] theorem uc15k5:Ex F cx (.code c15k5::k) ⟨mk 164 l,rows,low⟩ r↔bnd (evP rows (.bin .add (.c (lk l 13)) (.c (.int .i64 1)))) fun v0=>Ex F cx k ⟨mk 164 ([(13,v0),(110,v0),(109,lk l 13)]++kp l qq54),rows,low⟩ r:=rg qq54 c15r5 rfl (by kernel_rfl)
@[simp] theorem uc15k7:Ex F cx (.code c15k7::k) ⟨mk 164 l,rows,low⟩ r↔bnd (evP rows (.bin .add (.c (lk l 14)) (.c (.int .i64 1)))) fun v0=>Ex F cx k ⟨mk 164 ([(14,v0),(118,v0),(117,lk l 14)]++kp l qq53),rows,low⟩ r:=rg qq53 c15r7 rfl (by kernel_rfl)
@[simp] theorem uc15k8:Ex F cx (.code c15k8::k) ⟨mk 164 l,rows,low⟩ r↔bnd (evP rows (.mkagg [.int .i64 0,.int .i64 0,.int .i64 0] [(0,1,(.c (lk l 12))),(1,1,(.c (lk l 13))),(2,1,(.c (lk l 14)))])) fun v0=>bnd (evE rows low (.mkslice 1 [.int .i64 0,.int .i64 0,.int .i64 0] [(0,3,(.c v0))])) fun q1=>bnd (evE q1.2.1 q1.2.2 (.app 3 24 (.c (lk l 15)) (.c q1.1))) fun q2=>bnd (evP q2.2.1 (.fieldA 2 (.c (lk l 3)))) fun v3=>bnd (evE q2.2.1 q2.2.2 (.store1 (.c v3) (.c q2.1))) fun q4=>Ex F cx k ⟨mk 164 ([(162,v3),(161,q2.1),(160,q1.1),(159,v0),(158,lk l 14),(157,lk l 13),(156,lk l 12),(155,lk l 15)]++kp l qq52),q4.2.1,q4.2.2⟩ r:=rg qq52 c15r8 rfl (by kernel_rfl)
@[simp] theorem uc15s9:U c15s9 (.cond (.t 154) c15k8 .skip):=ur
@[simp] theorem uc15k10:Ex F cx (.code c15k10::k) ⟨mk 164 l,rows,low⟩ r↔bnd (evP rows (.loadN 3 (.c (lk l 3)))) fun v0=>bnd (Ret F 60 [v0,lk l 12,lk l 13] rows) fun q1=>bnd (evP q1.2.1 (.bin .geq (.c q1.1) (.c (.int .i64 0)))) fun v2=>bnd (gv v2 true (evP q1.2.1 (.loadN 3 (.c (lk l 3))))) fun v3=>bnd (gv v2 true (evP q1.2.1 (.mv (.c (lk l 12))))) fun v4=>bnd (gv v2 true (evP q1.2.1 (.mv (.c (lk l 14))))) fun v5=>gcall F v2 true q1.2.1 (lowO low q1.2.2) [v3,v4,v5] [] (.func 60 []) fun v6 R6 L6=>bnd (gv v2 true (evP R6 (.bin .geq (.c v6) (.c (.int .i64 0))))) fun v7=>bnd (evP R6 (.pick (.c v2) (.c v7) (.c (.bool false)))) fun v8=>bnd (gv v8 true (evP R6 (.loadN 3 (.c (lk l 3))))) fun v9=>bnd (gv v8 true (evP R6 (.mv (.c (lk l 13))))) fun v10=>bnd (gv v8 true (evP R6 (.mv (.c (lk l 14))))) fun v11=>gcall F v8 true R6 L6 [v9,v10,v11] [] (.func 60 []) fun v12 R12 L12=>bnd (gv v8 true (evP R12 (.bin .geq (.c v12) (.c (.int .i64 0))))) fun v13=>bnd (evP R12 (.pick (.c v8) (.c v13) (.c (.bool false)))) fun v14=>bnd (gv v14 true (evP R12 (.mv (.c (lk l 15))))) fun v15=>bnd (gv v14 true (evP R12 (.len 0 (.c v15)))) fun v16=>bnd (gv v14 true (evP R12 (.bin .lss (.c v16) (.c (.int .i64 6))))) fun v17=>bnd (evP R12 (.pick (.c v14) (.c v17) (.c (.bool false)))) fun v18=>bnd (gv v18 true (evP R12 (.fieldA 2 (.c (lk l 1))))) fun v19=>bnd (gv v18 true (evP R12 (.load1 (.c v19)))) fun v20=>bnd (gv v18 true (evP R12 (.mv (.c (lk l 12))))) fun v21=>bnd (gv v18 true (evP R12 (.mv (.c (lk l 13))))) fun v22=>bnd (gv v18 true (evP R12 (.bin .add (.c v21) (.c v22)))) fun v23=>bnd (gv v18 true (evP R12 (.mv (.c (lk l 14))))) fun v24=>bnd (gv v18 true (evP R12 (.bin .add (.c v23) (.c v24)))) fun v25=>gcall F v18 true R12 L12 [v20,v25] [] (.func 61 []) fun v26 R26 L26=>bnd (evP R26 (.pick (.c v18) (.c v26) (.c (.bool false)))) fun v27=>Ex F cx k ⟨mk 164 ([(154,v27),(153,v26),(152,v25),(151,v24),(150,v23),(149,v22),(148,v21),(147,v20),(146,v19),(145,v18),(144,v18),(143,v17),(142,v16),(141,v15),(140,v14),(139,v14),(138,v13),(137,v12),(136,v11),(135,v10),(134,v9),(133,v8),(132,v8),(131,v7),(130,v6),(129,v5),(128,v4),(127,v3),(126,v2),(125,v2),(124,q1.1),(123,lk l 13),(122,lk l 12),(121,v0)]++kp l qq52),R26,L26⟩ r:=rg qq52 c15r10 rfl (by kernel_rfl)
@[simp] theorem uc15s11:U c15s11 (.seq c15k10 c15s9):=ur
@[simp] theorem uc15k12:Ex F cx (.code c15k12::k) ⟨mk 164 l,rows,low⟩ r↔bnd (evP rows (.fieldA 2 (.c (lk l 3)))) fun v0=>bnd (evP rows (.load1 (.c v0))) fun v1=>Ex F cx k ⟨mk 164 ([(15,v1),(120,v1),(119,v0)]++kp l qq53),rows,low⟩ r:=rg qq53 c15r12 rfl (by kernel_rfl)
@[simp] theorem uc15s13:U c15s13 (.seq (.block 9 (.seq c15k12 c15s11)) c15k7):=ur
@[simp] theorem uc15s14:U c15s14 (.cond (.t 116) .skip (.exit 8)):=ur
@[simp] theorem uc15k15:Ex F cx (.code c15k15::k) ⟨mk 164 l,rows,low⟩ r↔bnd (evP rows (.fieldA 0 (.c (lk l 3)))) fun v0=>bnd (evP rows (.load1 (.c v0))) fun v1=>bnd (evP rows (.bin .lss (.c (lk l 14)) (.c v1))) fun v2=>Ex F cx k ⟨mk 164 ([(116,v2),(115,v1),(114,v0),(113,lk l 14)]++kp l qq53),rows,low⟩ r:=rg qq53 c15r15 rfl (by kernel_rfl)
@[simp] theorem uc15s16:U c15s16 (.block 8 (.loop c15l6)):=ur
@[simp] theorem uc15k17:Ex F cx (.code c15k17::k) ⟨mk 164 l,rows,low⟩ r↔bnd (evP rows (.bin .add (.c (lk l 13)) (.c (.int .i64 1)))) fun v0=>Ex F cx k ⟨mk 164 ([(14,v0),(112,v0),(111,lk l 13)]++kp l qq54),rows,low⟩ r:=rg qq54 c15r17 rfl (by kernel_rfl)
@[simp] theorem uc15s18:U c15s18 (.seq (.block 7 (.seq c15k17 c15s16)) c15k5):=ur
@[simp] theorem uc15s19:U c15s19 (.cond (.t 108) .skip (.exit 6)):=ur
@[simp] theorem uc15k20:Ex F cx (.code c15k20::k) ⟨mk 164 l,rows,low⟩ r↔bnd (evP rows (.fieldA 0 (.c (lk l 3)))) fun v0=>bnd (evP rows (.load1 (.c v0))) fun v1=>bnd (evP rows (.bin .lss (.c (lk l 13)) (.c v1))) fun v2=>Ex F cx k ⟨mk 164 ([(108,v2),(107,v1),(106,v0),(105,lk l 13)]++kp l qq54),rows,low⟩ r:=rg qq54 c15r20 rfl (by kernel_rfl)
@[simp] theorem uc15s21:U c15s21 (.block 6 (.loop c15l4)):=ur
@[simp] theorem uc15k22:Ex F cx (.code c15k22::k) ⟨mk 164 l,rows,low⟩ r↔bnd (evP rows (.bin .add (.c (lk l 12)) (.c (.int .i64 1)))) fun v0=>Ex F cx k ⟨mk 164 ([(13,v0),(104,v0),(103,lk l 12)]++kp l qq55),rows,low⟩ r:=rg qq55 c15r22 rfl (by kernel_rfl)
@[simp] theorem uc15s23:U c15s23 (.seq (.block 5 (.seq c15k22 c15s21)) c15k3):=ur
@[simp] theorem uc15s24:U c15s24 (.cond (.t 100) .skip (.exit 4)):=ur
@[simp] theorem uc15k25:Ex F cx (.code c15k25::k) ⟨mk 164 l,rows,low⟩ r↔bnd (evP rows (.fieldA 0 (.c (lk l 3)))) fun v0=>bnd (evP rows (.load1 (.c v0))) fun v1=>bnd (evP rows (.bin .lss (.c (lk l 12)) (.c v1))) fun v2=>Ex F cx k ⟨mk 164 ([(100,v2),(99,v1),(98,v0),(97,lk l 12)]++kp l qq55),rows,low⟩ r:=rg qq55 c15r25 rfl (by kernel_rfl)
@[simp] theorem uc15s26:U c15s26 (.block 4 (.loop c15l2)):=ur
@[simp] theorem uc15k27:Ex F cx (.code c15k27::k) ⟨mk 164 l,rows,low⟩ r↔Ex F cx k ⟨mk 164 ([(12,(.int .i64 0))]++kp l qq72),rows,low⟩ r:=rg qq72 c15r27 rfl (by kernel_rfl)
@[simp] theorem uc15s28:U c15s28 (.seq (.seq c15k27 c15s26) c15s1):=ur
@[simp] theorem uc15k30:Ex F cx (.code c15k30::k) ⟨mk 164 l,rows,low⟩ r↔bnd (evP rows (.bin .add (.c (lk l 10)) (.c (.int .i64 1)))) fun v0=>Ex F cx k ⟨mk 164 ([(10,v0),(82,v0),(81,lk l 10)]++kp l qq57),rows,low⟩ r:=rg qq57 c15r30 rfl (by kernel_rfl)
@[simp] theorem uc15k31:Ex F cx (.code c15k31::k) ⟨mk 164 l,rows,low⟩ r↔bnd (evP rows (.bin .quo (.c (lk l 10)) (.c (.int .i64 6)))) fun v0=>bnd (evP rows (.bin .rem (.c (lk l 10)) (.c (.int .i64 6)))) fun v1=>bnd (evP rows (.mkagg [.int .i64 0,.int .i64 0] [(0,1,(.c v0)),(1,1,(.c v1))])) fun v2=>bnd (evE rows low (.mkslice 1 [.int .i64 0,.int .i64 0] [(0,2,(.c v2))])) fun q3=>bnd (evE q3.2.1 q3.2.2 (.app 2 16 (.c (lk l 11)) (.c q3.1))) fun q4=>bnd (evP q4.2.1 (.fieldA 1 (.c (lk l 3)))) fun v5=>bnd (evE q4.2.1 q4.2.2 (.store1 (.c v5) (.c q4.1))) fun q6=>Ex F cx k ⟨mk 164 ([(96,v5),(95,q4.1),(94,q3.1),(93,v2),(92,v1),(91,lk l 10),(90,v0),(89,lk l 10),(88,lk l 11)]++kp l qq56),q6.2.1,q6.2.2⟩ r:=rg qq56 c15r31 rfl (by kernel_rfl)
@[simp] theorem uc15s32:U c15s32 (.cond (.t 87) c15k31 .skip):=ur
@[simp] theorem uc15k33:Ex F cx (.code c15k33::k) ⟨mk 164 l,rows,low⟩ r↔bnd (evP rows (.idxA 36 1 (.c (lk l 4)) (.c (lk l 10)))) fun v0=>bnd (evP rows (.load1 (.c v0))) fun v1=>Ex F cx k ⟨mk 164 ([(87,v1),(86,v0),(85,lk l 10)]++kp l qq56),rows,low⟩ r:=rg qq56 c15r33 rfl (by kernel_rfl)
@[simp] theorem uc15s34:U c15s34 (.seq c15k33 c15s32):=ur
@[simp] theorem uc15k35:Ex F cx (.code c15k35::k) ⟨mk 164 l,rows,low⟩ r↔bnd (evP rows (.fieldA 1 (.c (lk l 3)))) fun v0=>bnd (evP rows (.load1 (.c v0))) fun v1=>Ex F cx k ⟨mk 164 ([(11,v1),(84,v1),(83,v0)]++kp l qq57),rows,low⟩ r:=rg qq57 c15r35 rfl (by kernel_rfl)
@[simp] theorem uc15s36:U c15s36 (.seq (.block 3 (.seq c15k35 c15s34)) c15k30):=ur
@[simp] theorem uc15s37:U c15s37 (.cond (.t 80) .skip (.exit 2)):=ur
@[simp] theorem uc15k38:Ex F cx (.code c15k38::k) ⟨mk 164 l,rows,low⟩ r↔bnd (evP rows (.bin .lss (.c (lk l 10)) (.c (.int .i64 36)))) fun v0=>Ex F cx k ⟨mk 164 ([(80,v0),(79,lk l 10)]++kp l qq57),rows,low⟩ r:=rg qq57 c15r38 rfl (by kernel_rfl)
@[simp] theorem uc15s39:U c15s39 (.block 2 (.loop c15l29)):=ur
@[simp] theorem uc15k40:Ex F cx (.code c15k40::k) ⟨mk 164 l,rows,low⟩ r↔Ex F cx k ⟨mk 164 ([(10,(.int .i64 0))]++kp l qq63),rows,low⟩ r:=rg qq63 c15r40 rfl (by kernel_rfl)
@[simp] theorem uc15s41:U c15s41 (.seq (.seq c15k40 c15s39) c15s28):=ur
@[simp] theorem uc15k43:Ex F cx (.code c15k43::k) ⟨mk 164 l,rows,low⟩ r↔bnd (evP rows (.bin .add (.c (lk l 6)) (.c (.int .i64 1)))) fun v0=>Ex F cx k ⟨mk 164 ([(6,v0),(33,v0),(32,lk l 6)]++kp l qq61),rows,low⟩ r:=rg qq61 c15r43 rfl (by kernel_rfl)
@[simp] theorem uc15k44:Ex F cx (.code c15k44::k) ⟨mk 164 l,rows,low⟩ r↔bnd (evP rows (.bin .add (.c (lk l 5)) (.c (.int .i64 1)))) fun v0=>Ex F cx k ⟨mk 164 ([(5,v0),(78,v0),(77,lk l 5)]++kp l qq61),rows,low⟩ r:=rg qq61 c15r44 rfl (by kernel_rfl)
@[simp] theorem uc15k45:Ex F cx (.code c15k45::k) ⟨mk 164 l,rows,low⟩ r↔bnd (evP rows (.idxA 36 1 (.c (lk l 4)) (.c (lk l 9)))) fun v0=>bnd (evE rows low (.store1 (.c v0) (.c (.bool true)))) fun q1=>Ex F cx k ⟨mk 164 ([(76,v0),(75,lk l 9)]++kp l qq60),q1.2.1,q1.2.2⟩ r:=rg qq60 c15r45 rfl (by kernel_rfl)
@[simp] theorem uc15s46:U c15s46 (.cond (.t 74) (.seq c15k45 c15k44) .skip):=ur
@[simp] theorem uc15k47:Ex F cx (.code c15k47::k) ⟨mk 164 l,rows,low⟩ r↔bnd (evP rows (.bin .neq (.c (lk l 7)) (.c (lk l 8)))) fun v0=>bnd (gv v0 true (evP rows (.mv (.c (lk l 9))))) fun v1=>bnd (gv v0 true (evP rows (.idxA 36 1 (.c (lk l 4)) (.c v1)))) fun v2=>bnd (gv v0 true (evP rows (.load1 (.c v2)))) fun v3=>bnd (gv v0 true (evP rows (.un .not (.c v3)))) fun v4=>bnd (evP rows (.pick (.c v0) (.c v4) (.c (.bool false)))) fun v5=>Ex F cx k ⟨mk 164 ([(74,v5),(73,v4),(72,v3),(71,v2),(70,v1),(69,v0),(68,v0),(67,lk l 8),(66,lk l 7)]++kp l qq58),rows,low⟩ r:=rg qq58 c15r47 rfl (by kernel_rfl)
@[simp] theorem uc15s48:U c15s48 (.seq c15k47 c15s46):=ur
@[simp] theorem uc15k49:Ex F cx (.code c15k49::k) ⟨mk 164 l,rows,low⟩ r↔bnd (evP rows (.mn [(.c (lk l 7)),(.c (lk l 8))])) fun v0=>bnd (evP rows (.bin .mul (.c v0) (.c (.int .i64 6)))) fun v1=>bnd (evP rows (.mx [(.c (lk l 7)),(.c (lk l 8))])) fun v2=>bnd (evP rows (.bin .add (.c v1) (.c v2))) fun v3=>Ex F cx k ⟨mk 164 ([(9,v3),(65,v3),(64,v2),(63,lk l 8),(62,lk l 7),(61,v1),(60,v0),(59,lk l 8),(58,lk l 7)]++kp l qq59),rows,low⟩ r:=rg qq59 c15r49 rfl (by kernel_rfl)
@[simp] theorem uc15s50:U c15s50 (.seq c15k49 c15s48):=ur
@[simp] theorem uc15k51:Ex F cx (.code c15k51::k) ⟨mk 164 l,rows,low⟩ r↔bnd (evP rows (.fieldA 1 (.c (lk l 1)))) fun v0=>bnd (evP rows (.load1 (.c v0))) fun v1=>bnd (evP rows (.idxS 2 (.c v1) (.c (lk l 6)))) fun v2=>bnd (evP rows (.idxA 2 1 (.c v2) (.c (.int .i64 0)))) fun v3=>bnd (evP rows (.load1 (.c v3))) fun v4=>bnd (evP rows (.conv .u64 (.c v4))) fun v5=>bnd (evP rows (.fieldA 0 (.c (lk l 3)))) fun v6=>bnd (evP rows (.load1 (.c v6))) fun v7=>bnd (evP rows (.conv .u64 (.c v7))) fun v8=>bnd (evP rows (.bin .rem (.c v5) (.c v8))) fun v9=>bnd (evP rows (.conv .i64 (.c v9))) fun v10=>bnd (evP rows (.fieldA 1 (.c (lk l 1)))) fun v11=>bnd (evP rows (.load1 (.c v11))) fun v12=>bnd (evP rows (.idxS 2 (.c v12) (.c (lk l 6)))) fun v13=>bnd (evP rows (.idxA 2 1 (.c v13) (.c (.int .i64 1)))) fun v14=>bnd (evP rows (.load1 (.c v14))) fun v15=>bnd (evP rows (.conv .u64 (.c v15))) fun v16=>bnd (evP rows (.fieldA 0 (.c (lk l 3)))) fun v17=>bnd (evP rows (.load1 (.c v17))) fun v18=>bnd (evP rows (.conv .u64 (.c v18))) fun v19=>bnd (evP rows (.bin .rem (.c v16) (.c v19))) fun v20=>bnd (evP rows (.conv .i64 (.c v20))) fun v21=>Ex F cx k ⟨mk 164 ([(8,v21),(7,v10),(57,v21),(56,v20),(55,v19),(54,v18),(53,v17),(52,v16),(51,v15),(50,v14),(49,v13),(48,lk l 6),(47,v12),(46,v11),(45,v10),(44,v9),(43,v8),(42,v7),(41,v6),(40,v5),(39,v4),(38,v3),(37,v2),(36,lk l 6),(35,v1),(34,v0)]++kp l qq61),rows,low⟩ r:=rg qq61 c15r51 rfl (by kernel_rfl)
@[simp] theorem uc15s52:U c15s52 (.seq (.block 1 (.seq c15k51 c15s50)) c15k43):=ur
@[simp] theorem uc15s53:U c15s53 (.cond (.t 31) .skip (.exit 0)):=ur
@[simp] theorem uc15k54:Ex F cx (.code c15k54::k) ⟨mk 164 l,rows,low⟩ r↔bnd (evP rows (.fieldA 1 (.c (lk l 1)))) fun v0=>bnd (evP rows (.load1 (.c v0))) fun v1=>bnd (evP rows (.len 0 (.c v1))) fun v2=>bnd (evP rows (.bin .lss (.c (lk l 6)) (.c v2))) fun v3=>bnd (gv v3 true (evP rows (.mv (.c (lk l 5))))) fun v4=>bnd (gv v3 true (evP rows (.bin .lss (.c v4) (.c (.int .i64 10))))) fun v5=>bnd (evP rows (.pick (.c v3) (.c v5) (.c (.bool false)))) fun v6=>Ex F cx k ⟨mk 164 ([(31,v6),(30,v5),(29,v4),(28,v3),(27,v3),(26,v2),(25,v1),(24,v0),(23,lk l 6)]++kp l qq61),rows,low⟩ r:=rg qq61 c15r54 rfl (by kernel_rfl)
@[simp] theorem uc15s55:U c15s55 (.block 0 (.loop c15l42)):=ur
@[simp] theorem uc15k56:Ex F cx (.code c15k56::k) ⟨mk 164 l,rows,low⟩ r↔Ex F cx k ⟨mk 164 ([(6,(.int .i64 0))]++kp l qq62),rows,low⟩ r:=rg qq62 c15r56 rfl (by kernel_rfl)
@[simp] theorem uc15s57:U c15s57 (.seq (.seq c15k56 c15s55) c15s41):=ur
@[simp] theorem uc15k58:Ex F cx (.code c15k58::k) ⟨mk 164 l,rows,low⟩ r↔Ex F cx k ⟨mk 164 ([(5,(.int .i64 0))]++kp l qq63),rows,low⟩ r:=rg qq63 c15r58 rfl (by kernel_rfl)
@[simp] theorem uc15s59:U c15s59 (.seq c15k58 c15s57):=ur
@[simp] theorem uc15k60:Ex F cx (.code c15k60::k) ⟨mk 164 l,rows,low⟩ r↔bnd (evE rows low (.box (.c (.agg (List.replicate 36 (.bool false)))))) fun q0=>Ex F cx k ⟨mk 164 ([(4,q0.1)]++kp l qq72),q0.2.1,q0.2.2⟩ r:=rg qq72 c15r60 rfl (by kernel_rfl)
@[simp] theorem uc15s61:U c15s61 (.seq c15k60 c15s59):=ur
@[simp] theorem uc15k62:Ex F cx (.code c15k62::k) ⟨mk 164 l,rows,low⟩ r↔bnd (evP rows (.fieldA 0 (.c (lk l 1)))) fun v0=>bnd (evP rows (.load1 (.c v0))) fun v1=>bnd (evP rows (.conv .u64 (.c v1))) fun v2=>bnd (evP rows (.bin .rem (.c v2) (.c (.int .u64 6)))) fun v3=>bnd (evP rows (.conv .i64 (.c v3))) fun v4=>bnd (evP rows (.bin .add (.c (.int .i64 1)) (.c v4))) fun v5=>bnd (evP rows (.mkagg [.int .i64 0,.nilslice,.nilslice] [(0,1,(.c v5))])) fun v6=>bnd (evE rows low (.box (.c (.agg [.int .i64 0,.nilslice,.nilslice])))) fun q7=>bnd (evE q7.2.1 q7.2.2 (.storeN 3 (.c q7.1) (.c v6))) fun q8=>Ex F cx k ⟨mk 164 [(3,q7.1),(22,v6),(21,v5),(20,v4),(19,v3),(18,v2),(17,v1),(16,v0),(1,lk l 1),(2,lk l 2)],q8.2.1,q8.2.2⟩ r:=rg qq100 c15r62 rfl (by kernel_rfl)
@[simp] theorem uc15s63:U c15s63 (.seq c15k62 c15s61):=ur
@[simp] theorem uc15k64:Ex F cx (.code c15k64::k) ⟨mk 164 l,rows,low⟩ r↔bnd (evE rows low (.box (.c (lk l 0)))) fun q0=>bnd (evE q0.2.1 q0.2.2 (.box (.c (.agg [.int .i64 0,.nilslice,.nilslice])))) fun q1=>Ex F cx k ⟨mk 164 [(2,q1.1),(1,q0.1),(0,lk l 0)],q1.2.1,q1.2.2⟩ r:=rg [0] c15r64 rfl (by kernel_rfl)
def Lc15l6(F:Nat->Option IFn)(cx:Ctx)(x1 x2 x3 x12 x13 x14:AV)(rows:List Row)(low:Nat)(r:AV×List Row×Nat->Prop):Prop:=Ex F cx (.code c15l6::Kc15l6) ⟨mk 164 [(1,x1),(2,x2),(3,x3),(12,x12),(13,x13),(14,x14)],rows,low⟩ r
@[simp] theorem nc15l6:Ex F cx (Kc15l6) ⟨mk 164 l,rows,low⟩ r↔Lc15l6 F cx (lk l 1) (lk l 2) (lk l 3) (lk l 12) (lk l 13) (lk l 14) rows low r:=loopN (keep:=qq53) (by kernel_rfl)
@[simp] theorem ec15l6:Ex F cx (.code (.loop c15l6)::.inBlock 8::.inBlock 7::.code c15k5::Kc15l4) ⟨mk 164 l,rows,low⟩ r↔Lc15l6 F cx (lk l 1) (lk l 2) (lk l 3) (lk l 12) (lk l 13) (lk l 14) rows low r:=loopE (keep:=qq53) (by kernel_rfl)
@[simp] theorem uc15l6:U c15l6 (.seq (.seq c15k15 c15s14) c15s13):=ur
def Lc15l4(F:Nat->Option IFn)(cx:Ctx)(x1 x2 x3 x12 x13:AV)(rows:List Row)(low:Nat)(r:AV×List Row×Nat->Prop):Prop:=Ex F cx (.code c15l4::Kc15l4) ⟨mk 164 [(1,x1),(2,x2),(3,x3),(12,x12),(13,x13)],rows,low⟩ r
@[simp] theorem nc15l4:Ex F cx (Kc15l4) ⟨mk 164 l,rows,low⟩ r↔Lc15l4 F cx (lk l 1) (lk l 2) (lk l 3) (lk l 12) (lk l 13) rows low r:=loopN (keep:=qq54) (by kernel_rfl)
@[simp] theorem ec15l4:Ex F cx (.code (.loop c15l4)::.inBlock 6::.inBlock 5::.code c15k3::Kc15l2) ⟨mk 164 l,rows,low⟩ r↔Lc15l4 F cx (lk l 1) (lk l 2) (lk l 3) (lk l 12) (lk l 13) rows low r:=loopE (keep:=qq54) (by kernel_rfl)
@[simp] theorem uc15l4:U c15l4 (.seq (.seq c15k20 c15s19) c15s18):=ur
def Lc15l2(F:Nat->Option IFn)(cx:Ctx)(x1 x2 x3 x12:AV)(rows:List Row)(low:Nat)(r:AV×List Row×Nat->Prop):Prop:=Ex F cx (.code c15l2::Kc15l2) ⟨mk 164 [(1,x1),(2,x2),(3,x3),(12,x12)],rows,low⟩ r
@[simp] theorem nc15l2:Ex F cx (Kc15l2) ⟨mk 164 l,rows,low⟩ r↔Lc15l2 F cx (lk l 1) (lk l 2) (lk l 3) (lk l 12) rows low r:=loopN (keep:=qq55) (by kernel_rfl)
@[simp] theorem ec15l2:Ex F cx (.code (.loop c15l2)::.inBlock 4::.code c15s1::[]) ⟨mk 164 l,rows,low⟩ r↔Lc15l2 F cx (lk l 1) (lk l 2) (lk l 3) (lk l 12) rows low r:=loopE (keep:=qq55) (by kernel_rfl)
@[simp] theorem uc15l2:U c15l2 (.seq (.seq c15k25 c15s24) c15s23):=ur
def Lc15l29(F:Nat->Option IFn)(cx:Ctx)(x1 x2 x3 x4 x10:AV)(rows:List Row)(low:Nat)(r:AV×List Row×Nat->Prop):Prop:=Ex F cx (.code c15l29::Kc15l29) ⟨mk 164 [(1,x1),(2,x2),(3,x3),(4,x4),(10,x10)],rows,low⟩ r
@[simp] theorem nc15l29:Ex F cx (Kc15l29) ⟨mk 164 l,rows,low⟩ r↔Lc15l29 F cx (lk l 1) (lk l 2) (lk l 3) (lk l 4) (lk l 10) rows low r:=loopN (keep:=qq57) (by kernel_rfl)
@[simp] theorem ec15l29:Ex F cx (.code (.loop c15l29)::.inBlock 2::.code c15s28::[]) ⟨mk 164 l,rows,low⟩ r↔Lc15l29 F cx (lk l 1) (lk l 2) (lk l 3) (lk l 4) (lk l 10) rows low r:=loopE (keep:=qq57) (by kernel_rfl)
@[simp] theorem uc15l29:U c15l29 (.seq (.seq c15k38 c15s37) c15s36):=ur
def Lc15l42(F:Nat->Option IFn)(cx:Ctx)(x1 x2 x3 x4 x5 x6:AV)(rows:List Row)(low:Nat)(r:AV×List Row×Nat->Prop):Prop:=Ex F cx (.code c15l42::Kc15l42) ⟨mk 164 [(1,x1),(2,x2),(3,x3),(4,x4),(5,x5),(6,x6)],rows,low⟩ r
@[simp] theorem nc15l42:Ex F cx (Kc15l42) ⟨mk 164 l,rows,low⟩ r↔Lc15l42 F cx (lk l 1) (lk l 2) (lk l 3) (lk l 4) (lk l 5) (lk l 6) rows low r:=loopN (keep:=qq61) (by kernel_rfl)
@[simp] theorem ec15l42:Ex F cx (.code (.loop c15l42)::.inBlock 0::.code c15s41::[]) ⟨mk 164 l,rows,low⟩ r↔Lc15l42 F cx (lk l 1) (lk l 2) (lk l 3) (lk l 4) (lk l 5) (lk l 6) rows low r:=loopE (keep:=qq61) (by kernel_rfl)
@[simp] theorem uc15l42:U c15l42 (.seq (.seq c15k54 c15s53) c15s52):=ur
@[simp] theorem uc15b:U c15b (.seq c15k64 c15s63):=ur
theorem i15{x0:AV}(hF:F 15=some c15){q:AV×List Row×Option Nat}(h:Ex F (.fn [.cellN 2 3]) [.code c15b] ⟨mk 164 [(0,x0)],rows,rows.length⟩ fun r=>fin rows r.1 r.2.1 r.2.2=q):Ret F 15 [x0] rows=some q:=Ret_mk hF h
@[simp] theorem uc17k0:Ex F cx (.code c17k0::k) ⟨mk 16 l,rows,low⟩ r↔bnd (evP (rows++maskE 0 rn) (.fieldA 0 (.c (lk l 1)))) fun v0=>bnd (evP (rows++maskE 1 rn) (.load1 (.c v0))) fun v1=>bnd (evP (rows++maskE 0 rn) (.fieldA 1 (.c (lk l 1)))) fun v2=>bnd (evP (rows++maskE 8 rn) (.load1 (.c v2))) fun v3=>bnd (evE (rows++maskE 28 rn) (rows.length+rn.length) (.app 2 16 (.c (lk l 3)) (.c v3))) fun q4=>q4.2.2=rows.length+rn.length/\bnd (some (rn++List.map (fun(x:Row)=>(5,x)) (q4.2.1.drop (rows.length+rn.length)))) fun e4=>bnd (evP (rows++maskE 0 e4) (.fieldA 2 (.c (lk l 1)))) fun v5=>bnd (evP (rows++maskE 128 e4) (.load1 (.c v5))) fun v6=>bnd (evE (rows++maskE 508 e4) (rows.length+e4.length) (.app 3 24 (.c (lk l 4)) (.c v6))) fun q7=>q7.2.2=rows.length+e4.length/\bnd (some (e4++List.map (fun(x:Row)=>(9,x)) (q7.2.1.drop (rows.length+e4.length)))) fun e7=>bnd (evP (rows++List.map (fun(x:Nat×Row)=>x.2) e7) (.mkagg [.int .i64 0,.nilslice,.nilslice] [(0,1,(.c v1)),(1,1,(.c q4.1)),(2,1,(.c q7.1))])) fun v8=>bnd (evE (rows++List.map (fun(x:Nat×Row)=>x.2) e7) low (.storeN 3 (.c (lk l 2)) (.c v8))) fun q9=>Ex F cx k ⟨mk 16 ([(15,v8),(14,q7.1),(13,v6),(12,v5),(11,lk l 4),(10,q4.1),(9,v3),(8,v2),(7,lk l 3),(6,v1),(5,v0)]++kp l qq63),q9.2.1,q9.2.2⟩ r:=rg qq63 c17r0 rfl (by kernel_rfl)
@[simp] theorem uc17s1:U c17s1 (.seq c17k0 .ret):=ur
@[simp] theorem uc17k2:Ex F cx (.code c17k2::k) ⟨mk 16 l,rows,low⟩ r↔Ex F cx k ⟨mk 16 ([(4,.nilslice)]++kp l qq72),rows,low⟩ r:=rg qq72 c17r2 rfl (by kernel_rfl)
@[simp] theorem uc17s3:U c17s3 (.seq c17k2 c17s1):=ur
@[simp] theorem uc17k4:Ex F cx (.code c17k4::k) ⟨mk 16 l,rows,low⟩ r↔Ex F cx k ⟨mk 16 [(3,.nilslice),(1,lk l 1),(2,lk l 2)],rows,low⟩ r:=rg qq100 c17r4 rfl (by kernel_rfl)
@[simp] theorem uc17s5:U c17s5 (.seq c17k4 c17s3):=ur
@[simp] theorem uc17k6:Ex F cx (.code c17k6::k) ⟨mk 16 l,rows,low⟩ r↔bnd (evE rows low (.box (.c (lk l 0)))) fun q0=>bnd (evE q0.2.1 q0.2.2 (.box (.c (.agg [.int .i64 0,.nilslice,.nilslice])))) fun q1=>Ex F cx k ⟨mk 16 [(2,q1.1),(1,q0.1),(0,lk l 0)],q1.2.1,q1.2.2⟩ r:=rg [0] c17r6 rfl (by kernel_rfl)
@[simp] theorem uc17b:U c17b (.seq c17k6 c17s5):=ur
theorem i17{x0:AV}(hF:F 17=some c17){q:AV×List Row×Option Nat}(h:Ex F (.fn [.cellN 2 3]) [.code c17b] ⟨mk 16 [(0,x0)],rows,rows.length⟩ fun r=>fin rows r.1 r.2.1 r.2.2=q):Ret F 17 [x0] rows=some q:=Ret_mk hF h
@[simp] abbrev Kc59l2:List Itm:=.inLoop c59l2::.inBlock 2::.code c59s1::[]
@[simp] abbrev Kc59l28:List Itm:=.inLoop c59l28::.inBlock 0::.code c59s27::[]
@[simp] abbrev Kc59l4:List Itm:=.inLoop c59l4::.inBlock 4::.inBlock 3::.code c59k3::Kc59l2
@[simp] theorem uc59k0:Ex F cx (.code c59k0::k) ⟨mk 133 l,rows,low⟩ r↔Ex F cx k ⟨mk 133 [(2,(.int .i64 0))],rows,low⟩ r:=rg [] c59r0 rfl (by kernel_rfl)
@[simp] theorem uc59s1:U c59s1 (.seq c59k0 .ret):=ur
@[simp] theorem uc59k3:Ex F cx (.code c59k3::k) ⟨mk 133 l,rows,low⟩ r↔bnd (evP rows (.bin .add (.c (lk l 73)) (.c (.int .i64 1)))) fun v0=>Ex F cx k ⟨mk 133 ([(73,v0),(132,v0)]++kp l qq124),rows,low⟩ r:=rg qq124 c59r3 rfl (by kernel_rfl)
@[simp] theorem uc59k5:Ex F cx (.code c59k5::k) ⟨mk 133 l,rows,low⟩ r↔bnd (evP rows (.bin .add (.c (lk l 122)) (.c (.int .i64 1)))) fun v0=>Ex F cx k ⟨mk 133 ([(122,v0),(131,v0)]++kp l qq123),rows,low⟩ r:=rg qq123 c59r5 rfl (by kernel_rfl)
@[simp] theorem uc59k6:Ex F cx (.code c59k6::k) ⟨mk 133 l,rows,low⟩ r↔Ex F cx k ⟨mk 133 [(2,(.int .i64 30))],rows,low⟩ r:=rg [] c59r6 rfl (by kernel_rfl)
@[simp] theorem uc59s7:U c59s7 (.cond (.t 130) (.seq c59k6 .ret) .skip):=ur
@[simp] theorem uc59k8:Ex F cx (.code c59k8::k) ⟨mk 133 l,rows,low⟩ r↔bnd (evP rows (.fieldA 1 (.c (lk l 1)))) fun v0=>bnd (evP rows (.load1 (.c v0))) fun v1=>bnd (evP rows (.loadN 2 (.c (lk l 8)))) fun v2=>bnd (Ret F 92 [v1,v2] rows) fun q3=>bnd (evP q3.2.1 (.un .not (.c q3.1))) fun v4=>Ex F cx k ⟨mk 133 ([(130,v4),(129,q3.1),(128,v2),(127,v1),(126,v0)]++kp l qq125),q3.2.1,(lowO low q3.2.2)⟩ r:=rg qq125 c59r8 rfl (by kernel_rfl)
@[simp] theorem uc59s9:U c59s9 (.seq c59k8 c59s7):=ur
@[simp] theorem uc59k10:Ex F cx (.code c59k10::k) ⟨mk 133 l,rows,low⟩ r↔bnd (evP rows (.idxS 2 (.c (lk l 120)) (.c (lk l 122)))) fun v0=>bnd (evP rows (.loadN 2 (.c v0))) fun v1=>bnd (evE rows low (.box (.c (.agg [.int .i64 0,.int .i64 0])))) fun q2=>bnd (evE q2.2.1 q2.2.2 (.storeN 2 (.c q2.1) (.c v1))) fun q3=>Ex F cx k ⟨mk 133 ([(8,q2.1),(125,v1),(124,v0)]++kp l qq123),q3.2.1,q3.2.2⟩ r:=rg qq123 c59r10 rfl (by kernel_rfl)
@[simp] theorem uc59s11:U c59s11 (.seq (.block 5 (.seq c59k10 c59s9)) c59k5):=ur
@[simp] theorem uc59s12:U c59s12 (.seq (.cond (.t 123) .skip (.exit 4)) c59s11):=ur
@[simp] theorem uc59k13:Ex F cx (.code c59k13::k) ⟨mk 133 l,rows,low⟩ r↔bnd (evP rows (.bin .lss (.c (lk l 122)) (.c (lk l 121)))) fun v0=>Ex F cx k ⟨mk 133 ([(123,v0)]++kp l qq123),rows,low⟩ r:=rg qq123 c59r13 rfl (by kernel_rfl)
@[simp] theorem uc59s14:U c59s14 (.block 4 (.loop c59l4)):=ur
@[simp] theorem uc59k15:Ex F cx (.code c59k15::k) ⟨mk 133 l,rows,low⟩ r↔bnd (evP rows (.idxA 3 1 (.c (lk l 6)) (.c (.int .i64 0)))) fun v0=>bnd (evP rows (.load1 (.c v0))) fun v1=>bnd (evP rows (.idxA 3 1 (.c (lk l 6)) (.c (.int .i64 1)))) fun v2=>bnd (evP rows (.load1 (.c v2))) fun v3=>bnd (evP rows (.mkagg [.int .i64 0,.int .i64 0] [(0,1,(.c v1)),(1,1,(.c v3))])) fun v4=>bnd (evP rows (.idxA 3 1 (.c (lk l 6)) (.c (.int .i64 0)))) fun v5=>bnd (evP rows (.load1 (.c v5))) fun v6=>bnd (evP rows (.idxA 3 1 (.c (lk l 6)) (.c (.int .i64 2)))) fun v7=>bnd (evP rows (.load1 (.c v7))) fun v8=>bnd (evP rows (.mkagg [.int .i64 0,.int .i64 0] [(0,1,(.c v6)),(1,1,(.c v8))])) fun v9=>bnd (evP rows (.idxA 3 1 (.c (lk l 6)) (.c (.int .i64 1)))) fun v10=>bnd (evP rows (.load1 (.c v10))) fun v11=>bnd (evP rows (.idxA 3 1 (.c (lk l 6)) (.c (.int .i64 2)))) fun v12=>bnd (evP rows (.load1 (.c v12))) fun v13=>bnd (evP rows (.mkagg [.int .i64 0,.int .i64 0] [(0,1,(.c v11)),(1,1,(.c v13))])) fun v14=>bnd (evE rows low (.mkslice 3 [.int .i64 0,.int .i64 0,.int .i64 0,.int .i64 0,.int .i64 0,.int .i64 0] [(0,2,(.c v4)),(2,2,(.c v9)),(4,2,(.c v14))])) fun q15=>bnd (evP q15.2.1 (.len 0 (.c q15.1))) fun v16=>Ex F cx k ⟨mk 133 ([(122,(.int .i64 0)),(121,v16),(120,q15.1),(119,v14),(118,v13),(117,v12),(116,v11),(115,v10),(114,v9),(113,v8),(112,v7),(111,v6),(110,v5),(109,v4),(108,v3),(107,v2),(106,v1),(105,v0)]++kp l qq120),q15.2.1,q15.2.2⟩ r:=rg qq120 c59r15 rfl (by kernel_rfl)
@[simp] theorem uc59s16:U c59s16 (.seq c59k15 c59s14):=ur
@[simp] theorem uc59k17:Ex F cx (.code c59k17::k) ⟨mk 133 l,rows,low⟩ r↔Ex F cx k ⟨mk 133 [(2,(.int .i64 30))],rows,low⟩ r:=rg [] c59r17 rfl (by kernel_rfl)
@[simp] theorem uc59s18:U c59s18 (.cond (.t 104) (.seq c59k17 .ret) .skip):=ur
@[simp] theorem uc59k19:Ex F cx (.code c59k19::k) ⟨mk 133 l,rows,low⟩ r↔bnd (evP rows (.idxA 3 1 (.c (lk l 6)) (.c (.int .i64 0)))) fun v0=>bnd (evP rows (.load1 (.c v0))) fun v1=>bnd (evP rows (.idxA 3 1 (.c (lk l 6)) (.c (.int .i64 1)))) fun v2=>bnd (evP rows (.load1 (.c v2))) fun v3=>bnd (evP rows (.bin .geq (.c v1) (.c v3))) fun v4=>bnd (gv v4 false (evP rows (.idxA 3 1 (.c (lk l 6)) (.c (.int .i64 1))))) fun v5=>bnd (gv v4 false (evP rows (.load1 (.c v5)))) fun v6=>bnd (gv v4 false (evP rows (.idxA 3 1 (.c (lk l 6)) (.c (.int .i64 2))))) fun v7=>bnd (gv v4 false (evP rows (.load1 (.c v7)))) fun v8=>bnd (gv v4 false (evP rows (.bin .geq (.c v6) (.c v8)))) fun v9=>bnd (evP rows (.pick (.c v4) (.c (.bool true)) (.c v9))) fun v10=>bnd (gv v10 false (evP rows (.mv (.c (lk l 5))))) fun v11=>bnd (gv v10 false (evP rows (.bin .gtr (.c v11) (.c (.int .i64 0))))) fun v12=>bnd (gv v10 false (evP rows (.mv (.c v12)))) fun v13=>bnd (gv v13 true (evP rows (.fieldA 2 (.c (lk l 1))))) fun v14=>bnd (gv v13 true (evP rows (.load1 (.c v14)))) fun v15=>bnd (gv v13 true (evP rows (.mv (.c (lk l 5))))) fun v16=>bnd (gv v13 true (evP rows (.bin .sub (.c v16) (.c (.int .i64 1))))) fun v17=>bnd (gv v13 true (evP rows (.idxS 3 (.c v15) (.c v17)))) fun v18=>bnd (gv v13 true (evP rows (.sliceA 3 1 (.c v18) none none none))) fun v19=>bnd (gv v13 true (evP rows (.sliceA 3 1 (.c (lk l 6)) none none none))) fun v20=>gcall F v13 true rows low [v19,v20] [] (.func 91 []) fun v21 R21 L21=>bnd (gv v13 true (evP R21 (.bin .geq (.c v21) (.c (.int .i64 0))))) fun v22=>bnd (gv v10 false (evP R21 (.pick (.c v13) (.c v22) (.c (.bool false))))) fun v23=>bnd (evP R21 (.pick (.c v10) (.c (.bool true)) (.c v23))) fun v24=>Ex F cx k ⟨mk 133 ([(104,v24),(103,v23),(102,v22),(101,v21),(100,v20),(99,v19),(98,v18),(97,v17),(96,v16),(95,v15),(94,v14),(93,v13),(92,v12),(91,v11),(90,v10),(89,v10),(88,v9),(87,v8),(86,v7),(85,v6),(84,v5),(83,v4),(82,v4),(81,v3),(80,v2),(79,v1),(78,v0)]++kp l qq114),R21,L21⟩ r:=rg qq114 c59r19 rfl (by kernel_rfl)
@[simp] theorem uc59s20:U c59s20 (.seq (.seq c59k19 c59s18) c59s16):=ur
@[simp] theorem uc59k21:Ex F cx (.code c59k21::k) ⟨mk 133 l,rows,low⟩ r↔bnd (evP rows (.idxS 3 (.c (lk l 71)) (.c (lk l 73)))) fun v0=>bnd (evP rows (.loadN 3 (.c v0))) fun v1=>bnd (evE rows low (.box (.c (.agg [.int .i64 0,.int .i64 0,.int .i64 0])))) fun q2=>bnd (evE q2.2.1 q2.2.2 (.storeN 3 (.c q2.1) (.c v1))) fun q3=>Ex F cx k ⟨mk 133 ([(5,lk l 73),(6,q2.1),(77,v1),(76,v0),(75,lk l 73)]++kp l qq124),q3.2.1,q3.2.2⟩ r:=rg qq124 c59r21 rfl (by kernel_rfl)
@[simp] theorem uc59s22:U c59s22 (.seq (.block 3 (.seq c59k21 c59s20)) c59k3):=ur
@[simp] theorem uc59s23:U c59s23 (.seq (.cond (.t 74) .skip (.exit 2)) c59s22):=ur
@[simp] theorem uc59k24:Ex F cx (.code c59k24::k) ⟨mk 133 l,rows,low⟩ r↔bnd (evP rows (.bin .lss (.c (lk l 73)) (.c (lk l 72)))) fun v0=>Ex F cx k ⟨mk 133 ([(74,v0)]++kp l qq124),rows,low⟩ r:=rg qq124 c59r24 rfl (by kernel_rfl)
@[simp] theorem uc59s25:U c59s25 (.block 2 (.loop c59l2)):=ur
@[simp] theorem uc59k26:Ex F cx (.code c59k26::k) ⟨mk 133 l,rows,low⟩ r↔bnd (evP rows (.fieldA 2 (.c (lk l 1)))) fun v0=>bnd (evP rows (.load1 (.c v0))) fun v1=>bnd (evP rows (.len 0 (.c v1))) fun v2=>Ex F cx k ⟨mk 133 [(73,(.int .i64 0)),(72,v2),(71,v1),(70,v0),(1,lk l 1)],rows,low⟩ r:=rg [1] c59r26 rfl (by kernel_rfl)
@[simp] theorem uc59s27:U c59s27 (.seq (.seq c59k26 c59s25) c59s1):=ur
@[simp] theorem uc59k29:Ex F cx (.code c59k29::k) ⟨mk 133 l,rows,low⟩ r↔bnd (evP rows (.bin .add (.c (lk l 32)) (.c (.int .i64 1)))) fun v0=>Ex F cx k ⟨mk 133 ([(32,v0),(69,v0)]++kp l qq109),rows,low⟩ r:=rg qq109 c59r29 rfl (by kernel_rfl)
@[simp] theorem uc59k30:Ex F cx (.code c59k30::k) ⟨mk 133 l,rows,low⟩ r↔Ex F cx k ⟨mk 133 [(2,(.int .i64 30))],rows,low⟩ r:=rg [] c59r30 rfl (by kernel_rfl)
@[simp] theorem uc59s31:U c59s31 (.cond (.t 68) (.seq c59k30 .ret) .skip):=ur
@[simp] theorem uc59k32:Ex F cx (.code c59k32::k) ⟨mk 133 l,rows,low⟩ r↔bnd (evP rows (.idxA 2 1 (.c (lk l 4)) (.c (.int .i64 0)))) fun v0=>bnd (evP rows (.load1 (.c v0))) fun v1=>bnd (evP rows (.bin .lss (.c v1) (.c (.int .i64 0)))) fun v2=>bnd (gv v2 false (evP rows (.idxA 2 1 (.c (lk l 4)) (.c (.int .i64 0))))) fun v3=>bnd (gv v2 false (evP rows (.load1 (.c v3)))) fun v4=>bnd (gv v2 false (evP rows (.idxA 2 1 (.c (lk l 4)) (.c (.int .i64 1))))) fun v5=>bnd (gv v2 false (evP rows (.load1 (.c v5)))) fun v6=>bnd (gv v2 false (evP rows (.bin .geq (.c v4) (.c v6)))) fun v7=>bnd (evP rows (.pick (.c v2) (.c (.bool true)) (.c v7))) fun v8=>bnd (gv v8 false (evP rows (.idxA 2 1 (.c (lk l 4)) (.c (.int .i64 1))))) fun v9=>bnd (gv v8 false (evP rows (.load1 (.c v9)))) fun v10=>bnd (gv v8 false (evP rows (.fieldA 0 (.c (lk l 1))))) fun v11=>bnd (gv v8 false (evP rows (.load1 (.c v11)))) fun v12=>bnd (gv v8 false (evP rows (.bin .geq (.c v10) (.c v12)))) fun v13=>bnd (evP rows (.pick (.c v8) (.c (.bool true)) (.c v13))) fun v14=>bnd (gv v14 false (evP rows (.mv (.c (lk l 3))))) fun v15=>bnd (gv v14 false (evP rows (.bin .gtr (.c v15) (.c (.int .i64 0))))) fun v16=>bnd (gv v14 false (evP rows (.mv (.c v16)))) fun v17=>bnd (gv v17 true (evP rows (.fieldA 1 (.c (lk l 1))))) fun v18=>bnd (gv v17 true (evP rows (.load1 (.c v18)))) fun v19=>bnd (gv v17 true (evP rows (.mv (.c (lk l 3))))) fun v20=>bnd (gv v17 true (evP rows (.bin .sub (.c v20) (.c (.int .i64 1))))) fun v21=>bnd (gv v17 true (evP rows (.idxS 2 (.c v19) (.c v21)))) fun v22=>bnd (gv v17 true (evP rows (.sliceA 2 1 (.c v22) none none none))) fun v23=>bnd (gv v17 true (evP rows (.sliceA 2 1 (.c (lk l 4)) none none none))) fun v24=>gcall F v17 true rows low [v23,v24] [] (.func 91 []) fun v25 R25 L25=>bnd (gv v17 true (evP R25 (.bin .geq (.c v25) (.c (.int .i64 0))))) fun v26=>bnd (gv v14 false (evP R25 (.pick (.c v17) (.c v26) (.c (.bool false))))) fun v27=>bnd (evP R25 (.pick (.c v14) (.c (.bool true)) (.c v27))) fun v28=>Ex F cx k ⟨mk 133 ([(68,v28),(67,v27),(66,v26),(65,v25),(64,v24),(63,v23),(62,v22),(61,v21),(60,v20),(59,v19),(58,v18),(57,v17),(56,v16),(55,v15),(54,v14),(53,v14),(52,v13),(51,v12),(50,v11),(49,v10),(48,v9),(47,v8),(46,v8),(45,v7),(44,v6),(43,v5),(42,v4),(41,v3),(40,v2),(39,v2),(38,v1),(37,v0)]++kp l qq101),R25,L25⟩ r:=rg qq101 c59r32 rfl (by kernel_rfl)
@[simp] theorem uc59s33:U c59s33 (.seq c59k32 c59s31):=ur
@[simp] theorem uc59k34:Ex F cx (.code c59k34::k) ⟨mk 133 l,rows,low⟩ r↔bnd (evP rows (.idxS 2 (.c (lk l 30)) (.c (lk l 32)))) fun v0=>bnd (evP rows (.loadN 2 (.c v0))) fun v1=>bnd (evE rows low (.box (.c (.agg [.int .i64 0,.int .i64 0])))) fun q2=>bnd (evE q2.2.1 q2.2.2 (.storeN 2 (.c q2.1) (.c v1))) fun q3=>Ex F cx k ⟨mk 133 ([(3,lk l 32),(4,q2.1),(36,v1),(35,v0),(34,lk l 32)]++kp l qq109),q3.2.1,q3.2.2⟩ r:=rg qq109 c59r34 rfl (by kernel_rfl)
@[simp] theorem uc59s35:U c59s35 (.seq (.block 1 (.seq c59k34 c59s33)) c59k29):=ur
@[simp] theorem uc59s36:U c59s36 (.seq (.cond (.t 33) .skip (.exit 0)) c59s35):=ur
@[simp] theorem uc59k37:Ex F cx (.code c59k37::k) ⟨mk 133 l,rows,low⟩ r↔bnd (evP rows (.bin .lss (.c (lk l 32)) (.c (lk l 31)))) fun v0=>Ex F cx k ⟨mk 133 ([(33,v0)]++kp l qq109),rows,low⟩ r:=rg qq109 c59r37 rfl (by kernel_rfl)
@[simp] theorem uc59s38:U c59s38 (.block 0 (.loop c59l28)):=ur
@[simp] theorem uc59k39:Ex F cx (.code c59k39::k) ⟨mk 133 l,rows,low⟩ r↔bnd (evP rows (.fieldA 1 (.c (lk l 1)))) fun v0=>bnd (evP rows (.load1 (.c v0))) fun v1=>bnd (evP rows (.len 0 (.c v1))) fun v2=>Ex F cx k ⟨mk 133 [(32,(.int .i64 0)),(31,v2),(30,v1),(29,v0),(1,lk l 1)],rows,low⟩ r:=rg [1] c59r39 rfl (by kernel_rfl)
@[simp] theorem uc59s40:U c59s40 (.seq (.seq c59k39 c59s38) c59s27):=ur
@[simp] theorem uc59k41:Ex F cx (.code c59k41::k) ⟨mk 133 l,rows,low⟩ r↔Ex F cx k ⟨mk 133 [(2,(.int .i64 30))],rows,low⟩ r:=rg [] c59r41 rfl (by kernel_rfl)
@[simp] theorem uc59s42:U c59s42 (.cond (.t 28) (.seq c59k41 .ret) .skip):=ur
@[simp] theorem uc59k43:Ex F cx (.code c59k43::k) ⟨mk 133 l,rows,low⟩ r↔bnd (evP rows (.fieldA 0 (.c (lk l 1)))) fun v0=>bnd (evP rows (.load1 (.c v0))) fun v1=>bnd (evP rows (.bin .lss (.c v1) (.c (.int .i64 1)))) fun v2=>bnd (gv v2 false (evP rows (.fieldA 0 (.c (lk l 1))))) fun v3=>bnd (gv v2 false (evP rows (.load1 (.c v3)))) fun v4=>bnd (gv v2 false (evP rows (.bin .gtr (.c v4) (.c (.int .i64 6))))) fun v5=>bnd (evP rows (.pick (.c v2) (.c (.bool true)) (.c v5))) fun v6=>bnd (gv v6 false (evP rows (.fieldA 1 (.c (lk l 1))))) fun v7=>bnd (gv v6 false (evP rows (.load1 (.c v7)))) fun v8=>bnd (gv v6 false (evP rows (.len 0 (.c v8)))) fun v9=>bnd (gv v6 false (evP rows (.bin .gtr (.c v9) (.c (.int .i64 10))))) fun v10=>bnd (evP rows (.pick (.c v6) (.c (.bool true)) (.c v10))) fun v11=>bnd (gv v11 false (evP rows (.fieldA 2 (.c (lk l 1))))) fun v12=>bnd (gv v11 false (evP rows (.load1 (.c v12)))) fun v13=>bnd (gv v11 false (evP rows (.len 0 (.c v13)))) fun v14=>bnd (gv v11 false (evP rows (.bin .gtr (.c v14) (.c (.int .i64 6))))) fun v15=>bnd (evP rows (.pick (.c v11) (.c (.bool true)) (.c v15))) fun v16=>Ex F cx k ⟨mk 133 [(28,v16),(27,v15),(26,v14),(25,v13),(24,v12),(23,v11),(22,v11),(21,v10),(20,v9),(19,v8),(18,v7),(17,v6),(16,v6),(15,v5),(14,v4),(13,v3),(12,v2),(11,v2),(10,v1),(9,v0),(1,lk l 1)],rows,low⟩ r:=rg [1] c59r43 rfl (by kernel_rfl)
@[simp] theorem uc59s44:U c59s44 (.seq (.seq c59k43 c59s42) c59s40):=ur
@[simp] theorem uc59k45:Ex F cx (.code c59k45::k) ⟨mk 133 l,rows,low⟩ r↔bnd (evE rows low (.box (.c (lk l 0)))) fun q0=>Ex F cx k ⟨mk 133 [(2,(.int .i64 0)),(1,q0.1),(0,lk l 0)],q0.2.1,q0.2.2⟩ r:=rg [0] c59r45 rfl (by kernel_rfl)
def Lc59l4(F:Nat->Option IFn)(cx:Ctx)(x1 x71 x72 x73 x120 x121 x122:AV)(rows:List Row)(low:Nat)(r:AV×List Row×Nat->Prop):Prop:=Ex F cx (.code c59l4::Kc59l4) ⟨mk 133 [(1,x1),(71,x71),(72,x72),(73,x73),(120,x120),(121,x121),(122,x122)],rows,low⟩ r
@[simp] theorem nc59l4:Ex F cx (Kc59l4) ⟨mk 133 l,rows,low⟩ r↔Lc59l4 F cx (lk l 1) (lk l 71) (lk l 72) (lk l 73) (lk l 120) (lk l 121) (lk l 122) rows low r:=loopN (keep:=qq123) (by kernel_rfl)
@[simp] theorem ec59l4:Ex F cx (.code (.loop c59l4)::.inBlock 4::.inBlock 3::.code c59k3::Kc59l2) ⟨mk 133 l,rows,low⟩ r↔Lc59l4 F cx (lk l 1) (lk l 71) (lk l 72) (lk l 73) (lk l 120) (lk l 121) (lk l 122) rows low r:=loopE (keep:=qq123) (by kernel_rfl)
@[simp] theorem uc59l4:U c59l4 (.seq c59k13 c59s12):=ur
def Jc59s16(F:Nat->Option IFn)(cx:Ctx)(x1 x6 x71 x72 x73:AV)(rows:List Row)(low:Nat)(r:AV×List Row×Nat->Prop):Prop:=Ex F cx (.code c59s16::.inBlock 3::.code c59k3::Kc59l2) ⟨mk 133 [(1,x1),(6,x6),(71,x71),(72,x72),(73,x73)],rows,low⟩ r
theorem jc59s16:Ex F cx (.code c59s16::.inBlock 3::.code c59k3::Kc59l2) ⟨mk 133 l,rows,low⟩ r↔Jc59s16 F cx (lk l 1) (lk l 6) (lk l 71) (lk l 72) (lk l 73) rows low r:=Ex_canon (keep:=qq120) (by kernel_rfl)
def Lc59l2(F:Nat->Option IFn)(cx:Ctx)(x1 x71 x72 x73:AV)(rows:List Row)(low:Nat)(r:AV×List Row×Nat->Prop):Prop:=Ex F cx (.code c59l2::Kc59l2) ⟨mk 133 [(1,x1),(71,x71),(72,x72),(73,x73)],rows,low⟩ r
@[simp] theorem nc59l2:Ex F cx (Kc59l2) ⟨mk 133 l,rows,low⟩ r↔Lc59l2 F cx (lk l 1) (lk l 71) (lk l 72) (lk l 73) rows low r:=loopN (keep:=qq124) (by kernel_rfl)
@[simp] theorem ec59l2:Ex F cx (.code (.loop c59l2)::.inBlock 2::.code c59s1::[]) ⟨mk 133 l,rows,low⟩ r↔Lc59l2 F cx (lk l 1) (lk l 71) (lk l 72) (lk l 73) rows low r:=loopE (keep:=qq124) (by kernel_rfl)
@[simp] theorem uc59l2:U c59l2 (.seq c59k24 c59s23):=ur
def Lc59l28(F:Nat->Option IFn)(cx:Ctx)(x1 x30 x31 x32:AV)(rows:List Row)(low:Nat)(r:AV×List Row×Nat->Prop):Prop:=Ex F cx (.code c59l28::Kc59l28) ⟨mk 133 [(1,x1),(30,x30),(31,x31),(32,x32)],rows,low⟩ r
@[simp] theorem nc59l28:Ex F cx (Kc59l28) ⟨mk 133 l,rows,low⟩ r↔Lc59l28 F cx (lk l 1) (lk l 30) (lk l 31) (lk l 32) rows low r:=loopN (keep:=qq109) (by kernel_rfl)
@[simp] theorem ec59l28:Ex F cx (.code (.loop c59l28)::.inBlock 0::.code c59s27::[]) ⟨mk 133 l,rows,low⟩ r↔Lc59l28 F cx (lk l 1) (lk l 30) (lk l 31) (lk l 32) rows low r:=loopE (keep:=qq109) (by kernel_rfl)
@[simp] theorem uc59l28:U c59l28 (.seq c59k37 c59s36):=ur
@[simp] theorem uc59b:U c59b (.seq c59k45 c59s44):=ur
theorem i59{x0:AV}(hF:F 59=some c59){q:AV×List Row×Option Nat}(h:Ex F (.fn [.t 2]) [.code c59b] ⟨mk 133 [(0,x0)],rows,rows.length⟩ fun r=>fin rows r.1 r.2.1 r.2.2=q):Ret F 59 [x0] rows=some q:=Ret_mk hF h
@[simp] abbrev Kc60l2:List Itm:=.inLoop c60l2::.inBlock 0::.code c60s1::[]
@[simp] theorem uc60k0:Ex F cx (.code c60k0::k) ⟨mk 29 l,rows,low⟩ r↔Ex F cx k ⟨mk 29 [(6,(.int .i64 (-1)))],rows,low⟩ r:=rg [] c60r0 rfl (by kernel_rfl)
@[simp] theorem uc60s1:U c60s1 (.seq c60k0 .ret):=ur
@[simp] theorem uc60k3:Ex F cx (.code c60k3::k) ⟨mk 29 l,rows,low⟩ r↔bnd (evP rows (.bin .add (.c (lk l 7)) (.c (.int .i64 1)))) fun v0=>Ex F cx k ⟨mk 29 ([(7,v0),(14,v0),(13,lk l 7)]++kp l qq71),rows,low⟩ r:=rg qq71 c60r3 rfl (by kernel_rfl)
@[simp] theorem uc60k4:Ex F cx (.code c60k4::k) ⟨mk 29 l,rows,low⟩ r↔Ex F cx k ⟨mk 29 [(6,lk l 7),(28,lk l 7),(7,lk l 7)],rows,low⟩ r:=rg [7] c60r4 rfl (by kernel_rfl)
@[simp] theorem uc60s5:U c60s5 (.cond (.t 27) (.seq c60k4 .ret) .skip):=ur
@[simp] theorem uc60k6:Ex F cx (.code c60k6::k) ⟨mk 29 l,rows,low⟩ r↔bnd (evP rows (.fieldA 1 (.c (lk l 3)))) fun v0=>bnd (evP rows (.load1 (.c v0))) fun v1=>bnd (evP rows (.idxS 2 (.c v1) (.c (lk l 7)))) fun v2=>bnd (evP rows (.loadN 2 (.c v2))) fun v3=>bnd (evP rows (.mn [(.c (lk l 1)),(.c (lk l 2))])) fun v4=>bnd (evP rows (.mx [(.c (lk l 1)),(.c (lk l 2))])) fun v5=>bnd (evP rows (.mkagg [.int .i64 0,.int .i64 0] [(0,1,(.c v4)),(1,1,(.c v5))])) fun v6=>bnd (evP rows (.eqv false (.ints 2) (.c v3) (.c v6))) fun v7=>Ex F cx k ⟨mk 29 ([(27,v7),(26,v6),(25,v5),(24,lk l 2),(23,lk l 1),(22,v4),(21,lk l 2),(20,lk l 1),(19,v3),(18,v2),(17,lk l 7),(16,v1),(15,v0)]++kp l qq71),rows,low⟩ r:=rg qq71 c60r6 rfl (by kernel_rfl)
@[simp] theorem uc60s7:U c60s7 (.seq (.block 1 (.seq c60k6 c60s5)) c60k3):=ur
@[simp] theorem uc60s8:U c60s8 (.cond (.t 12) .skip (.exit 0)):=ur
@[simp] theorem uc60k9:Ex F cx (.code c60k9::k) ⟨mk 29 l,rows,low⟩ r↔bnd (evP rows (.fieldA 1 (.c (lk l 3)))) fun v0=>bnd (evP rows (.load1 (.c v0))) fun v1=>bnd (evP rows (.len 0 (.c v1))) fun v2=>bnd (evP rows (.bin .lss (.c (lk l 7)) (.c v2))) fun v3=>Ex F cx k ⟨mk 29 ([(12,v3),(11,v2),(10,v1),(9,v0),(8,lk l 7)]++kp l qq71),rows,low⟩ r:=rg qq71 c60r9 rfl (by kernel_rfl)
@[simp] theorem uc60s10:U c60s10 (.block 0 (.loop c60l2)):=ur
@[simp] theorem uc60k11:Ex F cx (.code c60k11::k) ⟨mk 29 l,rows,low⟩ r↔Ex F cx k ⟨mk 29 ([(7,(.int .i64 0))]++kp l qq72),rows,low⟩ r:=rg qq72 c60r11 rfl (by kernel_rfl)
@[simp] theorem uc60s12:U c60s12 (.seq (.seq c60k11 c60s10) c60s1):=ur
@[simp] theorem uc60k13:Ex F cx (.code c60k13::k) ⟨mk 29 l,rows,low⟩ r↔bnd (evE rows low (.box (.c (lk l 0)))) fun q0=>Ex F cx k ⟨mk 29 ([(6,(.int .i64 0)),(3,q0.1)]++kp l qq0),q0.2.1,q0.2.2⟩ r:=rg qq0 c60r13 rfl (by kernel_rfl)
def Lc60l2(F:Nat->Option IFn)(cx:Ctx)(x1 x2 x3 x7:AV)(rows:List Row)(low:Nat)(r:AV×List Row×Nat->Prop):Prop:=Ex F cx (.code c60l2::Kc60l2) ⟨mk 29 [(1,x1),(2,x2),(3,x3),(7,x7)],rows,low⟩ r
@[simp] theorem nc60l2:Ex F cx (Kc60l2) ⟨mk 29 l,rows,low⟩ r↔Lc60l2 F cx (lk l 1) (lk l 2) (lk l 3) (lk l 7) rows low r:=loopN (keep:=qq71) (by kernel_rfl)
@[simp] theorem ec60l2:Ex F cx (.code (.loop c60l2)::.inBlock 0::.code c60s1::[]) ⟨mk 29 l,rows,low⟩ r↔Lc60l2 F cx (lk l 1) (lk l 2) (lk l 3) (lk l 7) rows low r:=loopE (keep:=qq71) (by kernel_rfl)
@[simp] theorem uc60l2:U c60l2 (.seq (.seq c60k9 c60s8) c60s7):=ur
@[simp] theorem uc60b:U c60b (.seq c60k13 c60s12):=ur
theorem i60{x0 x1 x2:AV}(hF:F 60=some c60){q:AV×List Row×Option Nat}(h:Ex F (.fn [.t 6]) [.code c60b] ⟨mk 29 [(0,x0),(1,x1),(2,x2)],rows,rows.length⟩ fun r=>fin rows r.1 r.2.1 r.2.2=q):Ret F 60 [x0,x1,x2] rows=some q:=Ret_mk hF h
@[simp] abbrev Kc61l2:List Itm:=.inLoop c61l2::.inBlock 0::.code c61s1::[]
@[simp] theorem uc61k0:Ex F cx (.code c61k0::k) ⟨mk 39 l,rows,low⟩ r↔Ex F cx k ⟨mk 39 [(4,(.bool false))],rows,low⟩ r:=rg [] c61r0 rfl (by kernel_rfl)
@[simp] theorem uc61s1:U c61s1 (.seq c61k0 .ret):=ur
@[simp] theorem uc61k3:Ex F cx (.code c61k3::k) ⟨mk 39 l,rows,low⟩ r↔bnd (evP rows (.bin .add (.c (lk l 5)) (.c (.int .i64 1)))) fun v0=>Ex F cx k ⟨mk 39 ([(5,v0),(15,v0),(14,lk l 5)]++kp l qq12),rows,low⟩ r:=rg qq12 c61r3 rfl (by kernel_rfl)
@[simp] theorem uc61k4:Ex F cx (.code c61k4::k) ⟨mk 39 l,rows,low⟩ r↔Ex F cx k ⟨mk 39 [(4,(.bool true))],rows,low⟩ r:=rg [] c61r4 rfl (by kernel_rfl)
@[simp] theorem uc61s5:U c61s5 (.cond (.t 38) (.seq c61k4 .ret) .skip):=ur
@[simp] theorem uc61k6:Ex F cx (.code c61k6::k) ⟨mk 39 l,rows,low⟩ r↔bnd (evP rows (.idxS 3 (.c (lk l 0)) (.c (lk l 5)))) fun v0=>bnd (evP rows (.idxA 3 1 (.c v0) (.c (.int .i64 0)))) fun v1=>bnd (evP rows (.load1 (.c v1))) fun v2=>bnd (evP rows (.idxS 3 (.c (lk l 0)) (.c (lk l 5)))) fun v3=>bnd (evP rows (.idxA 3 1 (.c v3) (.c (.int .i64 1)))) fun v4=>bnd (evP rows (.load1 (.c v4))) fun v5=>bnd (evP rows (.bin .add (.c v2) (.c v5))) fun v6=>bnd (evP rows (.idxS 3 (.c (lk l 0)) (.c (lk l 5)))) fun v7=>bnd (evP rows (.idxA 3 1 (.c v7) (.c (.int .i64 2)))) fun v8=>bnd (evP rows (.load1 (.c v8))) fun v9=>bnd (evP rows (.bin .add (.c v6) (.c v9))) fun v10=>bnd (evP rows (.conv .u64 (.c v10))) fun v11=>bnd (evP rows (.bin .rem (.c v11) (.c (.int .u64 4)))) fun v12=>bnd (evP rows (.conv .u64 (.c (lk l 1)))) fun v13=>bnd (evP rows (.bin .rem (.c v13) (.c (.int .u64 4)))) fun v14=>bnd (evP rows (.bin .eql (.c v12) (.c v14))) fun v15=>Ex F cx k ⟨mk 39 ([(38,v15),(37,v14),(36,v13),(35,lk l 1),(34,v12),(33,v11),(32,v10),(31,v9),(30,v8),(29,v7),(28,lk l 5),(27,lk l 0),(26,v6),(25,v5),(24,v4),(23,v3),(22,lk l 5),(21,lk l 0),(20,v2),(19,v1),(18,v0),(17,lk l 5),(16,lk l 0)]++kp l qq12),rows,low⟩ r:=rg qq12 c61r6 rfl (by kernel_rfl)
@[simp] theorem uc61s7:U c61s7 (.seq (.block 1 (.seq c61k6 c61s5)) c61k3):=ur
@[simp] theorem uc61s8:U c61s8 (.cond (.t 13) .skip (.exit 0)):=ur
@[simp] theorem uc61k9:Ex F cx (.code c61k9::k) ⟨mk 39 l,rows,low⟩ r↔bnd (evP rows (.len 0 (.c (lk l 0)))) fun v0=>bnd (evP rows (.bin .lss (.c (lk l 5)) (.c v0))) fun v1=>bnd (gv v1 true (evP rows (.mv (.c (lk l 5))))) fun v2=>bnd (gv v1 true (evP rows (.bin .lss (.c v2) (.c (.int .i64 10))))) fun v3=>bnd (evP rows (.pick (.c v1) (.c v3) (.c (.bool false)))) fun v4=>Ex F cx k ⟨mk 39 ([(13,v4),(12,v3),(11,v2),(10,v1),(9,v1),(8,v0),(7,lk l 0),(6,lk l 5)]++kp l qq12),rows,low⟩ r:=rg qq12 c61r9 rfl (by kernel_rfl)
@[simp] theorem uc61s10:U c61s10 (.block 0 (.loop c61l2)):=ur
@[simp] theorem uc61k11:Ex F cx (.code c61k11::k) ⟨mk 39 l,rows,low⟩ r↔Ex F cx k ⟨mk 39 [(5,(.int .i64 0)),(0,lk l 0),(1,lk l 1)],rows,low⟩ r:=rg qq21 c61r11 rfl (by kernel_rfl)
@[simp] theorem uc61s12:U c61s12 (.seq (.seq c61k11 c61s10) c61s1):=ur
@[simp] theorem uc61k13:Ex F cx (.code c61k13::k) ⟨mk 39 l,rows,low⟩ r↔Ex F cx k ⟨mk 39 [(4,(.bool false)),(0,lk l 0),(1,lk l 1)],rows,low⟩ r:=rg qq21 c61r13 rfl (by kernel_rfl)
def Lc61l2(F:Nat->Option IFn)(cx:Ctx)(x0 x1 x5:AV)(rows:List Row)(low:Nat)(r:AV×List Row×Nat->Prop):Prop:=Ex F cx (.code c61l2::Kc61l2) ⟨mk 39 [(0,x0),(1,x1),(5,x5)],rows,low⟩ r
@[simp] theorem nc61l2:Ex F cx (Kc61l2) ⟨mk 39 l,rows,low⟩ r↔Lc61l2 F cx (lk l 0) (lk l 1) (lk l 5) rows low r:=loopN (keep:=qq12) (by kernel_rfl)
@[simp] theorem ec61l2:Ex F cx (.code (.loop c61l2)::.inBlock 0::.code c61s1::[]) ⟨mk 39 l,rows,low⟩ r↔Lc61l2 F cx (lk l 0) (lk l 1) (lk l 5) rows low r:=loopE (keep:=qq12) (by kernel_rfl)
@[simp] theorem uc61l2:U c61l2 (.seq (.seq c61k9 c61s8) c61s7):=ur
@[simp] theorem uc61b:U c61b (.seq c61k13 c61s12):=ur
theorem i61{x0 x1:AV}(hF:F 61=some c61){q:AV×List Row×Option Nat}(h:Ex F (.fn [.t 4]) [.code c61b] ⟨mk 39 [(0,x0),(1,x1)],rows,rows.length⟩ fun r=>fin rows r.1 r.2.1 r.2.2=q):Ret F 61 [x0,x1] rows=some q:=Ret_mk hF h
@[simp] abbrev Kc75l2:List Itm:=.inLoop c75l2::.inBlock 0::.code c75s1::[]
@[simp] theorem uc75k0:Ex F cx (.code c75k0::k) ⟨mk 19 l,rows,low⟩ r↔Ex F cx k ⟨mk 19 [(4,(.int .i64 (-1)))],rows,low⟩ r:=rg [] c75r0 rfl (by kernel_rfl)
@[simp] theorem uc75s1:U c75s1 (.seq c75k0 .ret):=ur
@[simp] theorem uc75k3:Ex F cx (.code c75k3::k) ⟨mk 19 l,rows,low⟩ r↔bnd (evP rows (.bin .add (.c (lk l 8)) (.c (.int .i64 1)))) fun v0=>Ex F cx k ⟨mk 19 ([(8,v0),(18,v0)]++kp l qq27),rows,low⟩ r:=rg qq27 c75r3 rfl (by kernel_rfl)
@[simp] theorem uc75k4:Ex F cx (.code c75k4::k) ⟨mk 19 l,rows,low⟩ r↔Ex F cx k ⟨mk 19 [(4,lk l 5),(17,lk l 5),(5,lk l 5)],rows,low⟩ r:=rg [5] c75r4 rfl (by kernel_rfl)
@[simp] theorem uc75s5:U c75s5 (.cond (.t 16) (.seq c75k4 .ret) .skip):=ur
@[simp] theorem uc75k6:Ex F cx (.code c75k6::k) ⟨mk 19 l,rows,low⟩ r↔bnd (evP rows (.loadN 2 (.c (lk l 3)))) fun v0=>bnd (evP rows (.idxS 2 (.c (lk l 0)) (.c (lk l 5)))) fun v1=>bnd (evP rows (.loadN 2 (.c v1))) fun v2=>bnd (evP rows (.eqv false (.ints 2) (.c v0) (.c v2))) fun v3=>Ex F cx k ⟨mk 19 ([(16,v3),(15,v2),(14,v1),(13,lk l 5),(12,lk l 0),(11,v0)]++kp l qq26),rows,low⟩ r:=rg qq26 c75r6 rfl (by kernel_rfl)
@[simp] theorem uc75s7:U c75s7 (.seq c75k6 c75s5):=ur
@[simp] theorem uc75k8:Ex F cx (.code c75k8::k) ⟨mk 19 l,rows,low⟩ r↔Ex F cx k ⟨mk 19 ([(5,lk l 8),(10,lk l 8)]++kp l qq27),rows,low⟩ r:=rg qq27 c75r8 rfl (by kernel_rfl)
@[simp] theorem uc75s9:U c75s9 (.seq (.block 1 (.seq c75k8 c75s7)) c75k3):=ur
@[simp] theorem uc75s10:U c75s10 (.seq (.cond (.t 9) .skip (.exit 0)) c75s9):=ur
@[simp] theorem uc75k11:Ex F cx (.code c75k11::k) ⟨mk 19 l,rows,low⟩ r↔bnd (evP rows (.bin .lss (.c (lk l 8)) (.c (lk l 7)))) fun v0=>Ex F cx k ⟨mk 19 ([(9,v0)]++kp l qq27),rows,low⟩ r:=rg qq27 c75r11 rfl (by kernel_rfl)
@[simp] theorem uc75s12:U c75s12 (.block 0 (.loop c75l2)):=ur
@[simp] theorem uc75k13:Ex F cx (.code c75k13::k) ⟨mk 19 l,rows,low⟩ r↔bnd (evP rows (.len 0 (.c (lk l 0)))) fun v0=>Ex F cx k ⟨mk 19 [(8,(.int .i64 0)),(7,v0),(6,lk l 0),(0,lk l 0),(3,lk l 3)],rows,low⟩ r:=rg qq28 c75r13 rfl (by kernel_rfl)
@[simp] theorem uc75s14:U c75s14 (.seq (.seq c75k13 c75s12) c75s1):=ur
@[simp] theorem uc75k15:Ex F cx (.code c75k15::k) ⟨mk 19 l,rows,low⟩ r↔bnd (evE rows low (.box (.c (lk l 1)))) fun q0=>Ex F cx k ⟨mk 19 [(4,(.int .i64 0)),(3,q0.1),(0,lk l 0),(1,lk l 1)],q0.2.1,q0.2.2⟩ r:=rg qq21 c75r15 rfl (by kernel_rfl)
def Lc75l2(F:Nat->Option IFn)(cx:Ctx)(x0 x3 x7 x8:AV)(rows:List Row)(low:Nat)(r:AV×List Row×Nat->Prop):Prop:=Ex F cx (.code c75l2::Kc75l2) ⟨mk 19 [(0,x0),(3,x3),(7,x7),(8,x8)],rows,low⟩ r
@[simp] theorem nc75l2:Ex F cx (Kc75l2) ⟨mk 19 l,rows,low⟩ r↔Lc75l2 F cx (lk l 0) (lk l 3) (lk l 7) (lk l 8) rows low r:=loopN (keep:=qq27) (by kernel_rfl)
@[simp] theorem ec75l2:Ex F cx (.code (.loop c75l2)::.inBlock 0::.code c75s1::[]) ⟨mk 19 l,rows,low⟩ r↔Lc75l2 F cx (lk l 0) (lk l 3) (lk l 7) (lk l 8) rows low r:=loopE (keep:=qq27) (by kernel_rfl)
@[simp] theorem uc75l2:U c75l2 (.seq c75k11 c75s10):=ur
@[simp] theorem uc75b:U c75b (.seq c75k15 c75s14):=ur
theorem i75{x0 x1:AV}(hF:F 75=some c75){q:AV×List Row×Option Nat}(h:Ex F (.fn [.t 4]) [.code c75b] ⟨mk 19 [(0,x0),(1,x1)],rows,rows.length⟩ fun r=>fin rows r.1 r.2.1 r.2.2=q):Ret F 75 [x0,x1] rows=some q:=Ret_mk hF h
@[simp] abbrev Kc91l6:List Itm:=.inLoop c91l6::.inBlock 0::.code c91s5::[]
@[simp] theorem uc91k0:Ex F cx (.code c91k0::k) ⟨mk 36 l,rows,low⟩ r↔Ex F cx k ⟨mk 36 [(4,(.int .i64 0))],rows,low⟩ r:=rg [] c91r0 rfl (by kernel_rfl)
@[simp] theorem uc91s1:U c91s1 (.seq c91k0 .ret):=ur
@[simp] theorem uc91k2:Ex F cx (.code c91k2::k) ⟨mk 36 l,rows,low⟩ r↔Ex F cx k ⟨mk 36 [(4,(.int .i64 (-1)))],rows,low⟩ r:=rg [] c91r2 rfl (by kernel_rfl)
@[simp] theorem uc91s3:U c91s3 (.cond (.t 35) (.seq c91k2 .ret) .skip):=ur
@[simp] theorem uc91k4:Ex F cx (.code c91k4::k) ⟨mk 36 l,rows,low⟩ r↔bnd (evP rows (.len 0 (.c (lk l 0)))) fun v0=>bnd (evP rows (.len 0 (.c (lk l 1)))) fun v1=>bnd (evP rows (.bin .lss (.c v0) (.c v1))) fun v2=>Ex F cx k ⟨mk 36 [(35,v2),(34,v1),(33,lk l 1),(32,v0),(31,lk l 0),(0,lk l 0),(1,lk l 1)],rows,low⟩ r:=rg qq21 c91r4 rfl (by kernel_rfl)
@[simp] theorem uc91s5:U c91s5 (.seq (.seq c91k4 c91s3) c91s1):=ur
@[simp] theorem uc91k7:Ex F cx (.code c91k7::k) ⟨mk 36 l,rows,low⟩ r↔bnd (evP rows (.bin .add (.c (lk l 11)) (.c (.int .i64 1)))) fun v0=>Ex F cx k ⟨mk 36 ([(11,v0),(30,v0)]++kp l qq20),rows,low⟩ r:=rg qq20 c91r7 rfl (by kernel_rfl)
@[simp] theorem uc91k8:Ex F cx (.code c91k8::k) ⟨mk 36 l,rows,low⟩ r↔Ex F cx k ⟨mk 36 [(4,lk l 8),(29,lk l 8),(8,lk l 8)],rows,low⟩ r:=rg [8] c91r8 rfl (by kernel_rfl)
@[simp] theorem uc91s9:U c91s9 (.cond (.t 28) (.seq c91k8 .ret) .skip):=ur
@[simp] theorem uc91k10:Ex F cx (.code c91k10::k) ⟨mk 36 l,rows,low⟩ r↔bnd (evP rows (.bin .neq (.c (lk l 8)) (.c (.int .i64 0)))) fun v0=>Ex F cx k ⟨mk 36 ([(28,v0),(27,lk l 8)]++kp l qq19),rows,low⟩ r:=rg qq19 c91r10 rfl (by kernel_rfl)
@[simp] theorem uc91s11:U c91s11 (.seq c91k10 c91s9):=ur
@[simp] theorem uc91k12:Ex F cx (.code c91k12::k) ⟨mk 36 l,rows,low⟩ r↔bnd (Ret F 105 [lk l 6,lk l 7] rows) fun q0=>Ex F cx k ⟨mk 36 ([(8,q0.1),(26,q0.1),(25,lk l 7),(24,lk l 6)]++kp l qq15),q0.2.1,(lowO low q0.2.2)⟩ r:=rg qq15 c91r12 rfl (by kernel_rfl)
@[simp] theorem uc91s13:U c91s13 (.seq c91k12 c91s11):=ur
@[simp] theorem uc91k14:Ex F cx (.code c91k14::k) ⟨mk 36 l,rows,low⟩ r↔bnd (evP rows (.idxS 1 (.c (lk l 1)) (.c (lk l 5)))) fun v0=>bnd (evP rows (.load1 (.c v0))) fun v1=>Ex F cx k ⟨mk 36 ([(7,v1),(23,v1),(22,v0),(21,lk l 5),(20,lk l 1)]++kp l qq6),rows,low⟩ r:=rg qq6 c91r14 rfl (by kernel_rfl)
@[simp] theorem uc91s15:U c91s15 (.seq c91k14 c91s13):=ur
@[simp] theorem uc91k16:Ex F cx (.code c91k16::k) ⟨mk 36 l,rows,low⟩ r↔Ex F cx k ⟨mk 36 [(4,(.int .i64 1))],rows,low⟩ r:=rg [] c91r16 rfl (by kernel_rfl)
@[simp] theorem uc91s17:U c91s17 (.cond (.t 19) (.seq c91k16 .ret) .skip):=ur
@[simp] theorem uc91k18:Ex F cx (.code c91k18::k) ⟨mk 36 l,rows,low⟩ r↔bnd (evP rows (.len 0 (.c (lk l 1)))) fun v0=>bnd (evP rows (.bin .geq (.c (lk l 5)) (.c v0))) fun v1=>Ex F cx k ⟨mk 36 ([(19,v1),(18,v0),(17,lk l 1),(16,lk l 5)]++kp l qq6),rows,low⟩ r:=rg qq6 c91r18 rfl (by kernel_rfl)
@[simp] theorem uc91s19:U c91s19 (.seq (.seq c91k18 c91s17) c91s15):=ur
@[simp] theorem uc91k20:Ex F cx (.code c91k20::k) ⟨mk 36 l,rows,low⟩ r↔bnd (evP rows (.idxS 1 (.c (lk l 9)) (.c (lk l 11)))) fun v0=>bnd (evP rows (.load1 (.c v0))) fun v1=>Ex F cx k ⟨mk 36 ([(6,v1),(5,lk l 11),(15,v1),(14,v0),(13,lk l 11)]++kp l qq20),rows,low⟩ r:=rg qq20 c91r20 rfl (by kernel_rfl)
@[simp] theorem uc91s21:U c91s21 (.seq (.block 1 (.seq c91k20 c91s19)) c91k7):=ur
@[simp] theorem uc91s22:U c91s22 (.seq (.cond (.t 12) .skip (.exit 0)) c91s21):=ur
@[simp] theorem uc91k23:Ex F cx (.code c91k23::k) ⟨mk 36 l,rows,low⟩ r↔bnd (evP rows (.bin .lss (.c (lk l 11)) (.c (lk l 10)))) fun v0=>Ex F cx k ⟨mk 36 ([(12,v0)]++kp l qq20),rows,low⟩ r:=rg qq20 c91r23 rfl (by kernel_rfl)
@[simp] theorem uc91s24:U c91s24 (.block 0 (.loop c91l6)):=ur
@[simp] theorem uc91k25:Ex F cx (.code c91k25::k) ⟨mk 36 l,rows,low⟩ r↔bnd (evP rows (.len 0 (.c (lk l 0)))) fun v0=>Ex F cx k ⟨mk 36 [(11,(.int .i64 0)),(10,v0),(9,lk l 0),(0,lk l 0),(1,lk l 1)],rows,low⟩ r:=rg qq21 c91r25 rfl (by kernel_rfl)
@[simp] theorem uc91s26:U c91s26 (.seq (.seq c91k25 c91s24) c91s5):=ur
@[simp] theorem uc91k27:Ex F cx (.code c91k27::k) ⟨mk 36 l,rows,low⟩ r↔Ex F cx k ⟨mk 36 [(4,(.int .i64 0)),(0,lk l 0),(1,lk l 1)],rows,low⟩ r:=rg qq21 c91r27 rfl (by kernel_rfl)
def Lc91l6(F:Nat->Option IFn)(cx:Ctx)(x0 x1 x9 x10 x11:AV)(rows:List Row)(low:Nat)(r:AV×List Row×Nat->Prop):Prop:=Ex F cx (.code c91l6::Kc91l6) ⟨mk 36 [(0,x0),(1,x1),(9,x9),(10,x10),(11,x11)],rows,low⟩ r
@[simp] theorem nc91l6:Ex F cx (Kc91l6) ⟨mk 36 l,rows,low⟩ r↔Lc91l6 F cx (lk l 0) (lk l 1) (lk l 9) (lk l 10) (lk l 11) rows low r:=loopN (keep:=qq20) (by kernel_rfl)
@[simp] theorem ec91l6:Ex F cx (.code (.loop c91l6)::.inBlock 0::.code c91s5::[]) ⟨mk 36 l,rows,low⟩ r↔Lc91l6 F cx (lk l 0) (lk l 1) (lk l 9) (lk l 10) (lk l 11) rows low r:=loopE (keep:=qq20) (by kernel_rfl)
@[simp] theorem uc91l6:U c91l6 (.seq c91k23 c91s22):=ur
@[simp] theorem uc91b:U c91b (.seq c91k27 c91s26):=ur
theorem i91{x0 x1:AV}(hF:F 91=some c91){q:AV×List Row×Option Nat}(h:Ex F (.fn [.t 4]) [.code c91b] ⟨mk 36 [(0,x0),(1,x1)],rows,rows.length⟩ fun r=>fin rows r.1 r.2.1 r.2.2=q):Ret F 91 [x0,x1] rows=some q:=Ret_mk hF h
@[simp] theorem uc92k0:Ex F cx (.code c92k0::k) ⟨mk 9 l,rows,low⟩ r↔bnd (evP rows (.loadN 2 (.c (lk l 3)))) fun v0=>bnd (Ret F 75 [lk l 0,v0] rows) fun q1=>bnd (evP q1.2.1 (.bin .geq (.c q1.1) (.c (.int .i64 0)))) fun v2=>Ex F cx k ⟨mk 9 [(4,v2),(8,v2),(7,q1.1),(6,v0),(5,lk l 0),(0,lk l 0),(3,lk l 3)],q1.2.1,(lowO low q1.2.2)⟩ r:=rg qq28 c92r0 rfl (by kernel_rfl)
@[simp] theorem uc92s1:U c92s1 (.seq c92k0 .ret):=ur
@[simp] theorem uc92k2:Ex F cx (.code c92k2::k) ⟨mk 9 l,rows,low⟩ r↔bnd (evE rows low (.box (.c (lk l 1)))) fun q0=>Ex F cx k ⟨mk 9 [(4,(.bool false)),(3,q0.1),(0,lk l 0),(1,lk l 1)],q0.2.1,q0.2.2⟩ r:=rg qq21 c92r2 rfl (by kernel_rfl)
@[simp] theorem uc92b:U c92b (.seq c92k2 c92s1):=ur
theorem i92{x0 x1:AV}(hF:F 92=some c92){q:AV×List Row×Option Nat}(h:Ex F (.fn [.t 4]) [.code c92b] ⟨mk 9 [(0,x0),(1,x1)],rows,rows.length⟩ fun r=>fin rows r.1 r.2.1 r.2.2=q):Ret F 92 [x0,x1] rows=some q:=Ret_mk hF h
@[simp] theorem uc105k0:Ex F cx (.code c105k0::k) ⟨mk 20 l,rows,low⟩ r↔Ex F cx k ⟨mk 20 [(4,(.int .i64 0))],rows,low⟩ r:=rg [] c105r0 rfl (by kernel_rfl)
@[simp] theorem uc105s1:U c105s1 (.seq c105k0 .ret):=ur
@[simp] theorem uc105k2:Ex F cx (.code c105k2::k) ⟨mk 20 l,rows,low⟩ r↔Ex F cx k ⟨mk 20 [(4,(.int .i64 1))],rows,low⟩ r:=rg [] c105r2 rfl (by kernel_rfl)
@[simp] theorem uc105s3:U c105s3 (.cond (.t 19) (.seq c105k2 .ret) .skip):=ur
@[simp] theorem uc105k4:Ex F cx (.code c105k4::k) ⟨mk 20 l,rows,low⟩ r↔bnd (evP rows (.bin .gtr (.c (lk l 0)) (.c (lk l 1)))) fun v0=>Ex F cx k ⟨mk 20 [(19,v0),(18,lk l 1),(17,lk l 0),(0,lk l 0),(1,lk l 1)],rows,low⟩ r:=rg qq21 c105r4 rfl (by kernel_rfl)
@[simp] theorem uc105s5:U c105s5 (.seq (.seq c105k4 c105s3) c105s1):=ur
@[simp] theorem uc105k6:Ex F cx (.code c105k6::k) ⟨mk 20 l,rows,low⟩ r↔Ex F cx k ⟨mk 20 [(4,(.int .i64 (-1)))],rows,low⟩ r:=rg [] c105r6 rfl (by kernel_rfl)
@[simp] theorem uc105s7:U c105s7 (.cond (.t 16) (.seq c105k6 .ret) .skip):=ur
@[simp] theorem uc105k8:Ex F cx (.code c105k8::k) ⟨mk 20 l,rows,low⟩ r↔bnd (evP rows (.bin .lss (.c (lk l 0)) (.c (lk l 1)))) fun v0=>Ex F cx k ⟨mk 20 [(16,v0),(15,lk l 1),(14,lk l 0),(0,lk l 0),(1,lk l 1)],rows,low⟩ r:=rg qq21 c105r8 rfl (by kernel_rfl)
@[simp] theorem uc105s9:U c105s9 (.seq (.seq c105k8 c105s7) c105s5):=ur
@[simp] theorem uc105s11:U c105s11 (.cond (.t 13) (.seq c105k10 .ret) .skip):=ur
@[simp] theorem uc105k12:Ex F cx (.code c105k12::k) ⟨mk 20 l,rows,low⟩ r↔Ex F cx k ⟨mk 20 ([(13,lk l 6)]++kp l qq17),rows,low⟩ r:=rg qq17 c105r12 rfl (by kernel_rfl)
@[simp] theorem uc105s13:U c105s13 (.seq (.seq c105k12 c105s11) c105s9):=ur
@[simp] theorem uc105s15:U c105s15 (.seq c105k14 .ret):=ur
@[simp] theorem uc105s17:U c105s17 (.cond (.t 12) (.seq c105k16 .ret) .skip):=ur
@[simp] theorem uc105s19:U c105s19 (.cond (.t 11) (.seq (.seq c105k18 c105s17) c105s15) .skip):=ur
@[simp] theorem uc105k20:Ex F cx (.code c105k20::k) ⟨mk 20 l,rows,low⟩ r↔Ex F cx k ⟨mk 20 ([(11,lk l 5)]++kp l qq7),rows,low⟩ r:=rg qq7 c105r20 rfl (by kernel_rfl)
@[simp] theorem uc105s21:U c105s21 (.seq (.seq c105k20 c105s19) c105s13):=ur
@[simp] theorem uc105k22:Ex F cx (.code c105k22::k) ⟨mk 20 l,rows,low⟩ r↔bnd (Ret F 107 [lk l 1] rows) fun q0=>Ex F cx k ⟨mk 20 ([(6,q0.1),(10,q0.1),(9,lk l 1)]++kp l qq12),q0.2.1,(lowO low q0.2.2)⟩ r:=rg qq12 c105r22 rfl (by kernel_rfl)
@[simp] theorem uc105s23:U c105s23 (.seq c105k22 c105s21):=ur
@[simp] theorem uc105k24:Ex F cx (.code c105k24::k) ⟨mk 20 l,rows,low⟩ r↔bnd (Ret F 107 [lk l 0] rows) fun q0=>Ex F cx k ⟨mk 20 [(5,q0.1),(8,q0.1),(7,lk l 0),(0,lk l 0),(1,lk l 1)],q0.2.1,(lowO low q0.2.2)⟩ r:=rg qq21 c105r24 rfl (by kernel_rfl)
@[simp] theorem uc105s25:U c105s25 (.seq c105k24 c105s23):=ur
@[simp] theorem uc105k26:Ex F cx (.code c105k26::k) ⟨mk 20 l,rows,low⟩ r↔Ex F cx k ⟨mk 20 [(4,(.int .i64 0)),(0,lk l 0),(1,lk l 1)],rows,low⟩ r:=rg qq21 c105r26 rfl (by kernel_rfl)
@[simp] theorem uc105b:U c105b (.seq c105k26 c105s25):=ur
theorem i105{x0 x1:AV}(hF:F 105=some c105){q:AV×List Row×Option Nat}(h:Ex F (.fn [.t 4]) [.code c105b] ⟨mk 20 [(0,x0),(1,x1)],rows,rows.length⟩ fun r=>fin rows r.1 r.2.1 r.2.2=q):Ret F 105 [x0,x1] rows=some q:=Ret_mk hF h
@[simp] theorem uc107k0:Ex F cx (.code c107k0::k) ⟨mk 6 l,rows,low⟩ r↔bnd (evP rows (.bin .neq (.c (lk l 0)) (.c (lk l 0)))) fun v0=>Ex F cx k ⟨mk 6 [(2,v0),(5,v0),(4,lk l 0),(3,lk l 0),(0,lk l 0)],rows,low⟩ r:=rg [0] c107r0 rfl (by kernel_rfl)
@[simp] theorem uc107s1:U c107s1 (.seq c107k0 .ret):=ur
@[simp] theorem uc107k2:Ex F cx (.code c107k2::k) ⟨mk 6 l,rows,low⟩ r↔Ex F cx k ⟨mk 6 [(2,(.bool false)),(0,lk l 0)],rows,low⟩ r:=rg [0] c107r2 rfl (by kernel_rfl)
@[simp] theorem uc107b:U c107b (.seq c107k2 c107s1):=ur
theorem i107{x0:AV}(hF:F 107=some c107){q:AV×List Row×Option Nat}(h:Ex F (.fn [.t 2]) [.code c107b] ⟨mk 6 [(0,x0)],rows,rows.length⟩ fun r=>fin rows r.1 r.2.1 r.2.2=q):Ret F 107 [x0] rows=some q:=Ret_mk hF h
end Go.Abs
set_option linter.unusedSimpArgs false
namespace Go.Abs
section
variable {rows:List Row}
theorem nums_len'{k:IntKind}{a:List Int}:(nums k a).length=a.length:=by simp[nums]
end
end Go.Abs
namespace Go.Abs
section
variable {rows:List Row}
theorem isNaN_ret{k:IntKind}{n:Int}:Ret F 107 [.int k n] rows=some (.bool false,rows,none):=by
 refine i107 F107 ?_
 simp
theorem cmp_ret{a b:Int}:Ret F 105 [.int .i64 a,.int .i64 b] rows=some (.int .i64 (if a<b then -1 else if b<a then 1 else 0),rows,none):=by
 refine i105 F105 ?_
 by_cases h1:a<b
 ·simp[isNaN_ret,h1]
 ·by_cases h2:b<a<;>simp[isNaN_ret,h1,h2]
def cmpL:List Int->List Int->Int
 |[],[]=>0
 |[],_::_=>-1
 |_::_,[]=>1
 |a::l,b::m=>if a<b then -1 else if b<a then 1 else cmpL l m
set_option maxHeartbeats 4000000 in
theorem Compare_loop{v w:AV}{l m:List Int}(h:IsL rows v l)(h2:IsL rows w m)(hl:l.length<=1000)(hm:m.length<=1000){q:AV×List Row×Option Nat}(hq:(.int .i64 (cmpL l m),rows,none)=q):∀(d i:Nat),l.length-i=d->i<=l.length->i<=m.length->cmpL (l.drop i) (m.drop i)=cmpL l m->
  Lc91l6 F (.fn [.t 4]) v w v (.int .i64 l.length) (.int .i64 i) rows rows.length (fun r=>fin rows r.1 r.2.1 r.2.2=q):=by
 intro d
 induction d with
 |
  zero=>
  intro i hd h1 h3 he
  have hi:i=l.length:=by omega
  subst hi
  rw[List.drop_of_length_le (Nat.le_refl _)]at he
  unfold Lc91l6
  by_cases hlt:l.length<m.length
  ·have e:cmpL l m = -1:=by
    rw[<-he,List.drop_eq_getElem_cons hlt];rfl
   simp[lenL0 h,lenL0 h2,hlt]
   rw[<-hq,e]
  ·have e:cmpL l m=0:=by
    rw[<-he,List.drop_of_length_le (by omega)];rfl
   simp[lenL0 h,lenL0 h2,hlt]
   rw[<-hq,e]
 |
  succ d ih=>
  intro i hd h1 h3 he
  have hi:i<l.length:=by omega
  have hw:IntKind.i64.wrap ((i:Int)+1)=((i+1:Nat):Int):=by rw[wrap64 (by omega) (by omega)];omega
  rw[List.drop_eq_getElem_cons hi]at he
  unfold Lc91l6
  by_cases hlt:i<m.length
  ·rw[List.drop_eq_getElem_cons hlt]at he
   simp only[cmpL]at he
   have g1:=gI_eq hi
   have g2:=gI_eq hlt
   rw[<-g1,<-g2]at he
   by_cases c1:gI l i<gI m i
   ·rw[if_pos c1]at he
    simp (disch:=first|omega|(simp;done)|fail) [hi,idxL0 h,loadL0 h,lenL0 h2,hlt,idxL0 h2,loadL0 h2,cmp_ret,c1,show ¬((m.length:Int)<=i)by omega]
    rw[<-hq,<-he]
   ·rw[if_neg c1]at he
    by_cases c2:gI m i<gI l i
    ·rw[if_pos c2]at he
     simp (disch:=first|omega|(simp;done)|fail) [hi,idxL0 h,loadL0 h,lenL0 h2,hlt,idxL0 h2,loadL0 h2,cmp_ret,c1,c2,show ¬((m.length:Int)<=i)by omega]
     rw[<-hq,<-he]
    ·rw[if_neg c2]at he
     simp (disch:=first|omega|(simp;done)|fail) [hi,idxL0 h,loadL0 h,lenL0 h2,hlt,idxL0 h2,loadL0 h2,cmp_ret,c1,c2,hw,show ¬((m.length:Int)<=i)by omega]
     exact ih (i+1) (by omega) (by omega) (by omega) he
  ·have e:cmpL l m=1:=by
    rw[<-he,show m.drop i=[]from List.drop_of_length_le (by omega)];rfl
   simp (disch:=first|omega|(simp;done)|fail) [hi,idxL0 h,loadL0 h,lenL0 h2,hlt,show((m.length:Int)<=i)by omega]
   rw[<-hq,e]
theorem Compare_ret{v w:AV}{l m:List Int}(h:IsL rows v l)(h2:IsL rows w m)(hl:l.length<=1000)(hm:m.length<=1000):Ret F 91 [v,w] rows=some (.int .i64 (cmpL l m),rows,none):=by
 refine i91 F91 ?_
 simp[lenL0 h]
 exact Compare_loop h h2 hl hm rfl _ 0 rfl (by omega) (by omega) rfl
def pix(fl:List Int)(a b:Int):Nat->Nat->Int
 |0,_=>-1
 |d+1,i=>if gI fl (i*2)=a/\gI fl (i*2+1)=b then i else pix fl a b d (i+1)
theorem pix_s{fl:List Int}{a b:Int}{d i:Nat}:pix fl a b (d+1) i=if gI fl (i*2)=a/\gI fl (i*2+1)=b then(i:Int)else pix fl a b d (i+1):=rfl
theorem Index2_loop{v:AV}{fl:List Int}{n:Nat}(h:El rows 2 v (nums .i64 fl) n)(hn:n<=1000000){a b:Int}{q:AV×List Row×Option Nat}(hq:(.int .i64 (pix fl a b n 0),rows,none)=q):∀(d i:Nat),n-i=d->i<=n->pix fl a b d i=pix fl a b n 0->
  Lc75l2 F (.fn [.t 4]) v (.ptr rows.length 0) (.int .i64 n) (.int .i64 i) (rows++[.cells [.int .i64 a,.int .i64 b]]) rows.length (fun r=>fin rows r.1 r.2.1 r.2.2=q):=by
 have h':=El_app h [.cells [.int .i64 a,.int .i64 b]]
 intro d
 induction d with
 |
  zero=>
  intro i hd h1 he
  have hi:i=n:=by omega
  subst hi
  unfold Lc75l2
  simp
  rw[<-hq,<-he];rfl
 |
  succ d ih=>
  intro i hd h1 he
  have hi:i<n:=by omega
  have hw:IntKind.i64.wrap ((i:Int)+1)=((i+1:Nat):Int):=by rw[wrap64 (by omega) (by omega)];omega
  rw[pix_s]at he
  unfold Lc75l2
  by_cases hc:gI fl (i*2)=a/\gI fl (i*2+1)=b
  ·rw[if_pos hc]at he
   obtain⟨c1,c2⟩:=hc
   simp (disch:=first|omega|(simp;done)|fail) [hi,idxW h',ldW2 h',seg,eqA,eqInts,c1,c2]
   rw[<-hq,<-he]
  ·rw[if_neg hc]at he
   have hne:(a==gI fl (i*2)&&b==gI fl (i*2+1))=false:=by
    cases e:(a==gI fl (i*2)&&b==gI fl (i*2+1))with
    |false=>rfl
    |true=>simp at e;exact absurd ⟨e.1.symm,e.2.symm⟩ hc
   simp (disch:=first|omega|(simp;done)|fail) [hi,idxW h',ldW2 h',seg,eqA,eqInts,hne,hw,-Bool.and_eq_true]
   exact ih (i+1) (by omega) (by omega) he
theorem Index2_ret{v:AV}{fl:List Int}{n:Nat}(h:El rows 2 v (nums .i64 fl) n)(hn:n<=1000000){a b:Int}:Ret F 75 [v,.agg [.int .i64 a,.int .i64 b]] rows=some (.int .i64 (pix fl a b n 0),rows,none):=by
 refine i75 F75 ?_
 have h':=El_app h [.cells [.int .i64 a,.int .i64 b]]
 simp[lenW h']
 exact Index2_loop h hn rfl _ 0 rfl (by omega) rfl
theorem Contains2_ret{v:AV}{fl:List Int}{n:Nat}(h:El rows 2 v (nums .i64 fl) n)(hn:n<=1000000){a b:Int}:Ret F 92 [v,.agg [.int .i64 a,.int .i64 b]] rows=some (.bool (decide (0<=pix fl a b n 0)),rows,none):=by
 refine i92 F92 ?_
 have h':=El_app h [.cells [.int .i64 a,.int .i64 b]]
 simp[seg,Index2_ret h' hn]
end
end Go.Abs
namespace Go.Abs
def eC(ks:List Nat):List Int:=ks.flatMap fun k=>[((k/6:Nat):Int),((k%6:Nat):Int)]
def pC(ps:List Nat):List Int:=ps.flatMap fun p=>[((p/36:Nat):Int),((p/6%6:Nat):Int),((p%6:Nat):Int)]
def gN(l:List Nat)(i:Nat):Nat:=l.getD i 0
theorem gN_eq{l:List Nat}{i:Nat}(h:i<l.length):gN l i=l[i]:=by simp[gN,h]
theorem gN_mem{l:List Nat}{i:Nat}(h:i<l.length):gN l i∈l:=by rw[gN_eq h];exact List.getElem_mem h
theorem eC_app{a b:List Nat}:eC (a++b)=eC a++eC b:=by simp[eC]
theorem pC_app{a b:List Nat}:pC (a++b)=pC a++pC b:=by simp[pC]
theorem eC_len:∀ks:List Nat,(eC ks).length=ks.length*2
 |[]=>rfl
 |
  k::ks=>by
  have:=eC_len ks
  simp only[eC,List.flatMap_cons,List.length_append,List.length_cons,List.length_nil]at *
  omega
theorem pC_len:∀ps:List Nat,(pC ps).length=ps.length*3
 |[]=>rfl
 |
  k::ks=>by
  have:=pC_len ks
  simp only[pC,List.flatMap_cons,List.length_append,List.length_cons,List.length_nil]at *
  omega
theorem gI_cons_succ{x:Int}{l:List Int}{i:Nat}:gI (x::l) (i+1)=gI l i:=by simp[gI]
theorem eC_a:∀{ks:List Nat} {i:Nat},i<ks.length->gI (eC ks) (i*2)=(gN ks i/6:Nat)/\gI (eC ks) (i*2+1)=(gN ks i%6:Nat)
 |[],i,h=>by simp at h
 |
  k::ks,0,h=>by
  constructor<;>rfl
 |
  k::ks,i+1,h=>by
  have ih:=eC_a (ks:=ks) (i:=i) (by simpa using h)
  have e:gN (k::ks) (i+1)=gN ks i:=by simp[gN]
  rw[e]
  have e2:eC (k::ks)=((k/6:Nat):Int)::((k%6:Nat):Int)::eC ks:=rfl
  rw[e2,show(i+1)*2=i*2+1+1 from by omega,gI_cons_succ,gI_cons_succ,show i*2+1+1+1=(i*2+1)+1+1 from rfl,gI_cons_succ,gI_cons_succ]
  exact ih
theorem pC_a:∀{ps:List Nat} {i:Nat},i<ps.length->gI (pC ps) (i*3)=(gN ps i/36:Nat)/\gI (pC ps) (i*3+1)=(gN ps i/6%6:Nat)/\gI (pC ps) (i*3+2)=(gN ps i%6:Nat)
 |[],i,h=>by simp at h
 |k::ks,0,h=>⟨rfl,rfl,rfl⟩
 |
  k::ks,i+1,h=>by
  have ih:=pC_a (ps:=ks) (i:=i) (by simpa using h)
  have e:gN (k::ks) (i+1)=gN ks i:=by simp[gN]
  rw[e]
  have e2:pC (k::ks)=((k/36:Nat):Int)::((k/6%6:Nat):Int)::((k%6:Nat):Int)::pC ks:=rfl
  rw[e2,show(i+1)*3=i*3+1+1+1 from by omega,gI_cons_succ,gI_cons_succ,gI_cons_succ,show i*3+1+1+1+1=(i*3+1)+1+1+1 from rfl,gI_cons_succ,gI_cons_succ,gI_cons_succ,
   show i*3+1+1+1+2=(i*3+2)+1+1+1 from rfl,gI_cons_succ,gI_cons_succ,gI_cons_succ]
  exact ih
theorem pix_eC{ks:List Nat}{a b:Nat}(hb:b<6):∀d i,i+d=ks.length->(0<=pix (eC ks) a b d i↔a*6+b∈ks.drop i)
 |
  0,i,h=>by
  rw[List.drop_of_length_le (by omega)]
  simp[pix]
 |
  d+1,i,h=>by
  have hi:i<ks.length:=by omega
  have ih:=pix_eC (ks:=ks) (a:=a) hb d (i+1) (by omega)
  obtain⟨e1,e2⟩:=eC_a hi
  rw[List.drop_eq_getElem_cons hi,List.mem_cons,<-ih,<-gN_eq hi,pix_s,e1,e2]
  split
  ·rename_i e
   constructor
   ·intro _;left;omega
   ·intro _;omega
  ·rename_i e
   constructor
   ·intro h;exact .inr h
   ·rintro (h|h)
    ·exfalso;apply e;constructor<;>omega
    ·exact h
theorem pix_in{ks:List Nat}{a b:Nat}(hb:b<6):0<=pix (eC ks) a b ks.length 0↔a*6+b∈ks:=by
 have:=pix_eC (ks:=ks) (a:=a) hb ks.length 0 (by omega)
 rwa[List.drop_zero]at this
theorem pix_hit{fl:List Int}{a b:Int}:∀d i,0<=pix fl a b d i->∃k:Nat,pix fl a b d i=k/\i<=k/\k<i+d/\gI fl (k*2)=a/\gI fl (k*2+1)=b
 |0,i,h=>by simp[pix]at h
 |
  d+1,i,h=>by
  rw[pix_s]at h ⊢
  split
  ·rename_i e
   exact⟨i,rfl,Nat.le_refl _,by omega,e.1,e.2⟩
  ·rename_i e
   rw[if_neg e]at h
   obtain⟨k,h1,h2,h3,h4⟩:=pix_hit d (i+1) h
   exact⟨k,h1,by omega,by omega,h4⟩
structure GOK(N:Nat)(ks ps:List Nat):Prop where
 n1:1<=N
 n6:N<=6
 ek:ks.length<=10
 es:ks.Pairwise (· < ·)
 ee:∀k∈ks,k/6<k%6/\k%6<N
 pk:ps.length<=6
 psd:ps.Pairwise (· < ·)
 pe:∀p∈ps,p/36<p/6%6/\p/6%6<p%6/\p<216/\p/36*6+p/6%6∈ks/\p/36*6+p%6∈ks/\p/6%6*6+p%6∈ks
structure GRd(rows:List Row)(g:AV)(N:Nat)(ks ps:List Nat):Prop where
 ok:GOK N ks ps
 eq:∃ev pv,g = .agg [.int .i64 N,ev,pv]/\El rows 2 ev (nums .i64 (eC ks)) ks.length/\El rows 3 pv (nums .i64 (pC ps)) ps.length/\Cp 2 ev/\Cp 3 pv
theorem GRd.app{rows:List Row}{g:AV}{N:Nat}{ks ps:List Nat}(h:GRd rows g N ks ps)(L:List Row):GRd (rows++L) g N ks ps:=by
 obtain⟨ev,pv,e,h1,h2,h3⟩:=h.eq
 exact⟨h.ok,ev,pv,e,El_app h1 L,El_app h2 L,h3⟩
section
variable {rows:List Row}
theorem Edge_loop{n0:AV}{ev pv:AV}{fl:List Int}{m:Nat}(h:El rows 2 ev (nums .i64 fl) m)(hm:m<=1000000){a b:Int}{q:AV×List Row×Option Nat}(hq:(.int .i64 (pix fl (min a b) (max a b) m 0),rows,none)=q):∀(d i:Nat),m-i=d->i<=m->pix fl (min a b) (max a b) d i=pix fl (min a b) (max a b) m 0->
  Lc60l2 F (.fn [.t 6]) (.int .i64 a) (.int .i64 b) (.ptr rows.length 0) (.int .i64 i) (rows++[.cells [n0,ev,pv]]) rows.length (fun r=>fin rows r.1 r.2.1 r.2.2=q):=by
 have h':=El_app h [.cells [n0,ev,pv]]
 intro d
 induction d with
 |
  zero=>
  intro i hd h1 he
  have hi:i=m:=by omega
  subst hi
  unfold Lc60l2
  simp[lenW h']
  rw[<-hq,<-he];rfl
 |
  succ d ih=>
  intro i hd h1 he
  have hi:i<m:=by omega
  have hw:IntKind.i64.wrap ((i:Int)+1)=((i+1:Nat):Int):=by rw[wrap64 (by omega) (by omega)];omega
  rw[pix_s]at he
  unfold Lc60l2
  by_cases hc:gI fl (i*2)=min a b/\gI fl (i*2+1)=max a b
  ·rw[if_pos hc]at he
   obtain⟨c1,c2⟩:=hc
   simp (disch:=first|omega|(simp;done)|fail) [hi,lenW h',idxW h',ldW2 h',seg,eqA,eqInts,c1,c2,fillA,splice]
   rw[<-hq,<-he]
  ·rw[if_neg hc]at he
   have hne:(gI fl (i*2)==min a b&&gI fl (i*2+1)==max a b)=false:=by
    cases e:(gI fl (i*2)==min a b&&gI fl (i*2+1)==max a b)with
    |false=>rfl
    |true=>simp at e;exact absurd e hc
   simp (disch:=first|omega|(simp;done)|fail) [hi,lenW h',idxW h',ldW2 h',seg,eqA,eqInts,hne,hw,fillA,splice,-Bool.and_eq_true]
   exact ih (i+1) (by omega) (by omega) he
theorem Edge_ret{n0:AV}{ev pv:AV}{fl:List Int}{m:Nat}(h:El rows 2 ev (nums .i64 fl) m)(hm:m<=1000000)(hone:n0.one=true/\ev.one=true/\pv.one=true){a b:Int}:Ret F 60 [.agg [n0,ev,pv],.int .i64 a,.int .i64 b] rows=some (.int .i64 (pix fl (min a b) (max a b) m 0),rows,none):=by
 refine i60 F60 ?_
 have h':=El_app h [.cells [n0,ev,pv]]
 simp[AV.cells,hone.1,hone.2.1,hone.2.2]
 exact Edge_loop h hm rfl _ 0 rfl (by omega) rfl
theorem El_one{sz n:Nat}{v:AV}{cs:List AV}(h:El rows sz v cs n):v.one=true:=by
 rcases El_cases h with ⟨rfl,_⟩|⟨_,_,_,_,rfl,_⟩<;>rfl
theorem wanted_loop{v:AV}{fl:List Int}{n:Nat}(h:El rows 3 v (nums .i64 fl) n)(hn:n<=9223372036854775807){s:Int}:∀(d i:Nat),n-i=d->i<=n->∃b:Bool,
  Lc61l2 F (.fn [.t 4]) v (.int .i64 s) (.int .i64 i) rows rows.length (fun r=>fin rows r.1 r.2.1 r.2.2=(.bool b,rows,none)):=by
 intro d
 induction d with
 |
  zero=>
  intro i hd h1
  have hi:i=n:=by omega
  subst hi
  refine⟨false,?_⟩
  unfold Lc61l2
  simp[lenW h]
 |
  succ d ih=>
  intro i hd h1
  have hi:i<n:=by omega
  have hl:=El_num_len h
  have hw:IntKind.i64.wrap ((i:Int)+1)=((i+1:Nat):Int):=by rw[wrap64 (by omega) (by omega)];omega
  obtain⟨b,hb⟩:=ih (i+1) (by omega) (by omega)
  have l0:=ldW1 h (j:=i*3) (by omega)
  have l1:=ldW1 h (j:=i*3+1) (by omega)
  have l2:=ldW1 h (j:=i*3+2) (by omega)
  simp only[<-Nat.add_assoc]at l1 l2
  have x0:idx? 0 3=some 0:=rfl
  have x1:idx? 1 3=some 1:=rfl
  have x2:idx? 2 3=some 2:=rfl
  by_cases h10:i<10
  ·by_cases hc:(IntKind.u64.wrap (IntKind.i64.wrap (IntKind.i64.wrap (gI fl (i*3)+gI fl (i*3+1))+gI fl (i*3+2)))).tmod 4=(IntKind.u64.wrap s).tmod 4
   ·refine⟨true,?_⟩
    unfold Lc61l2
    simp (disch:=first|omega|(simp;done)|fail) [hi,lenW h,idxW h,x0,x1,x2,l0,l1,l2,h10,hc,show((i:Int)<10)by omega]
   ·refine⟨b,?_⟩
    unfold Lc61l2
    simp (disch:=first|omega|(simp;done)|fail) [hi,lenW h,idxW h,x0,x1,x2,l0,l1,l2,h10,hc,hw,show((i:Int)<10)by omega]
    exact hb
  ·refine⟨false,?_⟩
   unfold Lc61l2
   simp (disch:=first|omega|(simp;done)|fail) [hi,lenW h,show ¬((i:Int)<10)by omega]
theorem wanted_ret{v:AV}{fl:List Int}{n:Nat}(h:El rows 3 v (nums .i64 fl) n)(hn:n<=9223372036854775807)(s:Int):∃b:Bool,Ret F 61 [v,.int .i64 s] rows=some (.bool b,rows,none):=by
 obtain⟨b,hb⟩:=wanted_loop h hn (s:=s) _ 0 rfl (by omega)
 refine⟨b,i61 F61 ?_⟩
 simp
 exact hb
end
end Go.Abs
namespace Go.Abs
def bl(f:Nat->Bool):List AV:=(List.range 36).map fun k=>.bool (f k)
@[simp] theorem bl_len{f:Nat->Bool}:(bl f).length=36:=by simp[bl]
theorem bl_get{f:Nat->Bool}{k:Nat}(h:k<36):(bl f)[k]?=some (.bool (f k)):=by simp[bl,h]
theorem bl_set{f:Nat->Bool}{k:Nat}:(bl f).set k (.bool true)=bl fun j=>if j=k then true else f j:=by
 apply List.ext_getElem?
 intro j
 simp only[bl,List.getElem?_set,List.getElem?_map,List.length_map,List.length_range]
 by_cases h:k=j
 ·subst h
  by_cases hk:k<36<;>simp[hk]
 ·rw[if_neg h]
  by_cases hj:j<36
  ·have e:j≠k:=fun e=>h e.symm
   simp[List.getElem?_range hj,e]
  ·simp[hj]
def cnt(f:Nat->Bool)(n:Nat):Nat:=((List.range n).filter f).length
theorem cnt_set{f:Nat->Bool}{k:Nat}(hk:f k=false):∀n,cnt (fun j=>if j=k then true else f j) n=cnt f n+if k<n then 1 else 0
 |0=>by simp[cnt]
 |
  n+1=>by
  have ih:=cnt_set hk n
  simp only[cnt,List.range_succ,List.filter_append,List.length_append]at *
  rw[ih]
  by_cases e:n=k
  ·subst e
   simp[hk]
  ·rw[show(if k<n+1 then 1 else 0)=(if k<n then 1 else 0)by
    by_cases h:k<n
    ·rw[if_pos h,if_pos (by omega)]
    ·rw[if_neg h,if_neg (by omega)]]
   cases hf:f n<;>simp[e,hf]<;>omega
structure MkOK(N:Nat)(f:Nat->Bool)(many:Nat):Prop where
 e:∀k,f k=true->k<36/\k/6<k%6/\k%6<N
 c:cnt f 36=many
 m:many<=10
def accN(b:Nat)(H:List Row)(sz:Nat)(cs:List AV)(n:Nat):AV:=match cs with
 |[]=>.nilslice
 |_=>.slice (b+H.length) 0 n (.op sz)
theorem accV_N{rows H:List Row}{sz n:Nat}{cs:List AV}:accV rows H sz cs n=accN rows.length H sz cs n:=by cases cs<;>rfl
abbrev tR(rows:List Row)(G Z:Row)(N:Nat)(E P:AV)(f:Nat->Bool)(T:List Row):List Row:=rows++G::Z::.cells [.int .i64 N,E,P]::.cells (bl f)::T
section
variable {rows:List Row}{gn ev pv:AV}{fe fp:List Int}{m0 k0 N:Nat}{Z:Row}{r:AV×List Row×Nat->Prop}
abbrev tG(gn ev pv:AV):Row:=.cells [gn,ev,pv]
set_option maxHeartbeats 8000000 in
theorem mark_loop(he:El rows 2 ev (nums .i64 fe) m0)(hm0:m0<=9223372036854775807)(hN:1<=N/\N<=6)
  (hk:∀(sl:List (Nat×AV)) (f:Nat->Bool) (many:Nat),MkOK N f many->lk sl 1 = .ptr rows.length 0->lk sl 2 = .ptr (rows.length+1) 0->lk sl 3 = .ptr (rows.length+2) 0->lk sl 4 = .ptr (rows.length+3) 0->Ex F (.fn [.cellN 2 3]) [.code c15s41] ⟨mk 164 sl,tR rows (tG gn ev pv) Z N .nilslice .nilslice f [],rows.length⟩ r):
  ∀(d i:Nat) (f:Nat->Bool) (many:Nat),m0-i=d->i<=m0->MkOK N f many->
  Lc15l42 F (.fn [.cellN 2 3]) (.ptr rows.length 0) (.ptr (rows.length+1) 0) (.ptr (rows.length+2) 0) (.ptr (rows.length+3) 0) (.int .i64 many) (.int .i64 i) (tR rows (tG gn ev pv) Z N .nilslice .nilslice f []) rows.length r:=by
 have x0:idx? 0 2=some 0:=rfl
 have x1:idx? 1 2=some 1:=rfl
 intro d
 induction d with
 |
  zero=>
  intro i f many hd h1 hM
  have hi:i=m0:=by omega
  subst hi
  have h':=El_app he (tG gn ev pv::Z::.cells [.int .i64 N,.nilslice,.nilslice]::.cells (bl f)::[])
  unfold Lc15l42
  simp[lenW h',-uc15s41]
  refine hk _ f many hM ?_ ?_ ?_ ?_<;>simp
 |
  succ d ih=>
  intro i f many hd h1 hM
  have hi:i<m0:=by omega
  have h':=El_app he (tG gn ev pv::Z::.cells [.int .i64 N,.nilslice,.nilslice]::.cells (bl f)::[])
  have hl:=El_num_len he
  have hw:IntKind.i64.wrap ((i:Int)+1)=((i+1:Nat):Int):=by rw[wrap64 (by omega) (by omega)];omega
  by_cases h10:many<10
  ·have wN:IntKind.u64.wrap (N:Int)=N:=wrapU64 (by omega) (by omega)
   obtain⟨a,ha,haN⟩:=umodI (x:=gI fe (i*2)) (m:=N) (by omega) (by omega)
   obtain⟨b,hb,hbN⟩:=umodI (x:=gI fe (i*2+1)) (m:=N) (by omega) (by omega)
   have hN0:¬(N=0):=by omega
   have h10i:(many:Int)<10:=by omega
   have h10j:¬(10<=(many:Int)):=by omega
   have l0:=ldW1 h' (j:=i*2) (by omega)
   have l1:=ldW1 h' (j:=i*2+1) (by omega)
   simp only[<-Nat.add_assoc]at l1
   obtain⟨mi,hmi⟩:∃mi:Nat,min (a:Int) b=mi:=⟨min a b,by omega⟩
   obtain⟨mx,hmx⟩:∃mx:Nat,max (a:Int) b=mx:=⟨max a b,by omega⟩
   have w1:IntKind.i64.wrap ((mi:Int)*6)=(mi:Int)*6:=wrap64 (by omega) (by omega)
   have w2:IntKind.i64.wrap ((mi:Int)*6+mx)=(mi:Int)*6+mx:=wrap64 (by omega) (by omega)
   have w3:IntKind.i64.wrap ((many:Int)+1)=((many+1:Nat):Int):=by rw[wrap64 (by omega) (by omega)];omega
   have ik:idx? ((mi:Int)*6+mx) 36=some (mi*6+mx):=by
    rw[idx?_ok (by omega) (by omega)]
    first|rfl|(congr 1;omega)
   by_cases hab:a=b
   ·unfold Lc15l42
    simp (disch:=first|omega|(simp;done)|fail) [lenW h',hi,h10i,h10j,idxW h',x0,x1,l0,l1,wN,ha,hb,hN0,hmi,hmx,w1,w2,hab,hw,-uc15s41]
    simpa using ih (i+1) f many (by omega) (by omega) hM
   ·have hkk:mi*6+mx<36:=by omega
    have bg:=bl_get (f:=f) hkk
    cases hf:f (mi*6+mx)with
    |
     true=>
     rw[hf]at bg
     unfold Lc15l42
     simp (disch:=first|omega|(simp;done)|fail) [lenW h',hi,h10i,h10j,idxW h',x0,x1,l0,l1,wN,ha,hb,hN0,hmi,hmx,w1,w2,show ¬((a:Int)=b)by omega,hw,ik,bg,-uc15s41]
     simpa using ih (i+1) f many (by omega) (by omega) hM
    |
     false=>
     rw[hf]at bg
     have hM':MkOK N (fun j=>if j=mi*6+mx then true else f j) (many+1):=by
      refine⟨fun k hk=>?_,?_,by omega⟩
      ·by_cases e:k=mi*6+mx
       ·subst e
        refine⟨hkk,?_,?_⟩<;>omega
       ·simp only[e,if_false]at hk
        exact hM.e k hk
      ·have:=cnt_set hf 36
       rw[hM.c,if_pos hkk]at this
       exact this
     have:=ih (i+1) _ (many+1) (by omega) (by omega) hM'
     unfold Lc15l42
     simp (disch:=first|omega|(simp;done)|fail) [lenW h',hi,h10i,h10j,idxW h',x0,x1,l0,l1,wN,ha,hb,hN0,hmi,hmx,w1,w2,w3,show ¬((a:Int)=b)by omega,hw,ik,bg,hkk,bl_set,AV.one,lower_ge',-uc15s41]
     simpa using this
  ·unfold Lc15l42
   simp (disch:=first|omega|(simp;done)|fail) [lenW h',hi,show ¬((many:Int)<10)by omega,show 10<=(many:Int)by omega,-uc15s41]
   refine hk _ f many hM ?_ ?_ ?_ ?_<;>simp
def ksOf(f:Nat->Bool)(k:Nat):List Nat:=(List.range k).filter f
theorem ksOf_succ{f:Nat->Bool}{k:Nat}:ksOf f (k+1)=ksOf f k++if f k then[k]else[]:=by
 unfold ksOf
 rw[List.range_succ,List.filter_append]
 cases h:f k<;>simp[h]
theorem ksOf_len{f:Nat->Bool}{k:Nat}(hk:k<=36):(ksOf f k).length<=cnt f 36:=by
 unfold ksOf cnt
 rw[show(36:Nat)=k+(36-k)by omega,List.range_add,List.filter_append,List.length_append]
 omega
abbrev eA(f:Nat->Bool)(k:Nat):List AV:=nums .i64 (eC (ksOf f k))
theorem accN_one{b sz n:Nat}{H:List Row}{cs:List AV}:(accN b H sz cs n).one=true:=by cases cs<;>rfl
theorem acc_more4{H:List Row}{a b c d:Row}{x cs:List AV}{sz n low bb:Nat}(hn:cs.length=n*sz)(hx:x.length=sz)(hsz:0<sz)(hl:n<1000000000)(hlow:low<=rows.length)(hH:H.all (Row.under 0)=true)(hc:(Row.cells cs).under 0=true)(hxu:(Row.cells x).under 0=true):
  ∃H',H'.all (Row.under 0)=true/\evE (rows++a::b::c::d::(accR H cs++[.cells x])) low (.app sz bb (.c (accN (rows.length+4) H sz cs n)) (.c (.slice (rows.length+((accR H cs).length+1+1+1+1)) 0 1 (.at_ 1))))=some (accN (rows.length+4) H' sz (cs++x) (n+1),rows++a::b::c::d::accR H' (cs++x),low):=by
 obtain⟨H',hH',e⟩:=acc_more (rows:=rows++[a,b,c,d]) (H:=H) (sz:=sz) (n:=n) (cs:=cs) (x:=x) (low:=low) (b:=bb) hn hx hsz hl (by simp;omega) hH hc hxu
 refine⟨H',hH',?_⟩
 have h2:(rows++[a,b,c,d]).length=rows.length+4:=by simp
 have h3:rows.length+4+(accR H cs).length=rows.length+((accR H cs).length+1+1+1+1):=by omega
 rw[accV_N,accV_N,h2,h3,List.append_assoc,List.append_assoc]at e
 exact e
set_option maxHeartbeats 8000000 in
theorem edge_loop{f:Nat->Bool}{many:Nat}(hM:MkOK N f many){G:Row}
  (hk:∀(sl:List (Nat×AV)) (H:List Row),H.all (Row.under 0)=true->lk sl 1 = .ptr rows.length 0->lk sl 2 = .ptr (rows.length+1) 0->lk sl 3 = .ptr (rows.length+2) 0->Ex F (.fn [.cellN 2 3]) [.code c15s28] ⟨mk 164 sl,tR rows G Z N (accN (rows.length+4) H 2 (eA f 36) (ksOf f 36).length) .nilslice f (accR H (eA f 36)),rows.length⟩ r):
  ∀(d k:Nat) (H:List Row),36-k=d->k<=36->H.all (Row.under 0)=true->
  Lc15l29 F (.fn [.cellN 2 3]) (.ptr rows.length 0) (.ptr (rows.length+1) 0) (.ptr (rows.length+2) 0) (.ptr (rows.length+3) 0) (.int .i64 k) (tR rows G Z N (accN (rows.length+4) H 2 (eA f k) (ksOf f k).length) .nilslice f (accR H (eA f k))) rows.length r:=by
 intro d
 induction d with
 |
  zero=>
  intro k H hd h1 hH
  have hi:k=36:=by omega
  subst hi
  unfold Lc15l29
  simp[-uc15s28]
  refine hk _ H hH ?_ ?_ ?_<;>simp
 |
  succ d ih=>
  intro k H hd h1 hH
  have hi:k<36:=by omega
  have hw:IntKind.i64.wrap ((k:Int)+1)=((k+1:Nat):Int):=by rw[wrap64 (by omega) (by omega)];omega
  have hs:=ksOf_succ (f:=f) (k:=k)
  have hlen:=ksOf_len (f:=f) (k:=k) (by omega)
  have hmc:=hM.c
  have hmm:=hM.m
  have bg:=bl_get (f:=f) hi
  have ik:idx? (k:Int) 36=some k:=by rw[idx?_ok (by omega) (by omega)];rfl
  cases hf:f k with
  |
   false=>
   rw[hf]at bg
   rw[hf]at hs
   have:=ih (k+1) H (by omega) (by omega) hH
   simp only[eA,hs,Bool.false_eq_true,if_false,List.append_nil]at this
   unfold Lc15l29
   simp (disch:=first|omega|(simp;done)|fail) [show((k:Int)<36)by omega,ik,bg,hw,-uc15s28]
   simpa using this
  |
   true=>
   rw[hf]at bg
   rw[hf]at hs
   have hq:IntKind.i64.wrap ((k:Int)/6)=((k/6:Nat):Int):=by
    rw[wrap64 (by omega) (by omega)];omega
   have hr:(k:Int).tmod 6=((k%6:Nat):Int):=by
    rw[Int.tmod_eq_emod_of_nonneg (by omega)];omega
   obtain⟨H',hH',e⟩:=acc_more4 (rows:=rows) (a:=G) (b:=Z) (c:=.cells [.int .i64 N,accN (rows.length+4) H 2 (eA f k) (ksOf f k).length,.nilslice]) (d:=.cells (bl f)) (H:=H) (sz:=2) (n:=(ksOf f k).length) (cs:=eA f k) (x:=[.int .i64 ((k/6:Nat):Int),.int .i64 ((k%6:Nat):Int)]) (low:=rows.length) (bb:=16) (by rw[nums_len',eC_len]) rfl (by omega) (by omega) (by simp) hH nums_und (by simp[Row.under,AV.under,AV.ids])
   have:=ih (k+1) H' (by omega) (by omega) hH'
   have e2:eA f k++[.int .i64 ((k/6:Nat):Int),.int .i64 ((k%6:Nat):Int)]=eA f (k+1):=by
    simp only[eA,hs,if_true,eC_app,<-nums_app]
    rfl
   have e3:(ksOf f (k+1)).length=(ksOf f k).length+1:=by rw[hs];simp
   rw[e2]at e
   rw[e3]at this
   generalize hQ:((k/6:Nat):Int)=Q at *
   generalize hR:((k%6:Nat):Int)=R at *
   unfold Lc15l29
   simp (disch:=first|omega|(simp;done)|fail) [show((k:Int)<36)by omega,ik,bg,hw,hq,hr,fillA,splice,e,accN_one,lower_ge',-uc15s28]
   simpa using this
end
end Go.Abs
namespace Go.Abs
structure PInv(N:Nat)(ks ps:List Nat)(c:Nat):Prop where
 s:ps.Pairwise (· < ·)
 k:ps.length<=6
 e:∀p∈ps,p<c/\p/36<p/6%6/\p/6%6<p%6/\p<216/\p/36*6+p/6%6∈ks/\p/36*6+p%6∈ks/\p/6%6*6+p%6∈ks
theorem PInv.mono{N:Nat}{ks ps:List Nat}{c c':Nat}(h:PInv N ks ps c)(hc:c<=c'):PInv N ks ps c':=
 ⟨h.s,h.k,fun p hp=>by have:=h.e p hp;exact⟨by omega,this.2⟩⟩
theorem PInv.add{N i j k:Nat}{ks ps:List Nat}(h:PInv N ks ps (i*36+j*6+k))(hij:i<j)(hjk:j<k)(hk:k<6)(hl:ps.length<6)(h1:i*6+j∈ks)(h2:i*6+k∈ks)(h3:j*6+k∈ks):PInv N ks (ps++[i*36+j*6+k]) (i*36+j*6+k+1):=by
 have e1:(i*36+j*6+k)/36=i:=by omega
 have e2:(i*36+j*6+k)/6%6=j:=by omega
 have e3:(i*36+j*6+k)%6=k:=by omega
 refine⟨?_,by simp;omega,fun p hp=>?_⟩
 ·rw[List.pairwise_append]
  refine⟨h.s,by simp,fun a ha b hb=>?_⟩
  have:b=i*36+j*6+k:=by simpa using hb
  subst this
  exact(h.e a ha).1
 ·rcases List.mem_append.1 hp with hp|hp
  ·have:=h.e p hp
   exact⟨by omega,this.2⟩
  ·have:p=i*36+j*6+k:=by simpa using hp
   subst this
   rw[e1,e2,e3]
   exact⟨by omega,hij,hjk,by omega,h1,h2,h3⟩
section
variable {rows:List Row}{gn ev pv:AV}{fe fp:List Int}{m0 k0 N:Nat}{Z:Row}{r:AV×List Row×Nat->Prop}
theorem acc_more4T{H T:List Row}{a b c d:Row}{x cs:List AV}{sz n low bb:Nat}(hn:cs.length=n*sz)(hx:x.length=sz)(hsz:0<sz)(hl:n<1000000000)(hlow:low<=rows.length)(hH:H.all (Row.under 0)=true)(hc:(Row.cells cs).under 0=true)(hxu:(Row.cells x).under 0=true):
  ∃H',H'.all (Row.under 0)=true/\evE (rows++a::b::c::d::(T++(accR H cs++[.cells x]))) low (.app sz bb (.c (accN (rows.length+4+T.length) H sz cs n)) (.c (.slice (rows.length+(T.length+(accR H cs).length+1+1+1+1)) 0 1 (.at_ 1))))=some (accN (rows.length+4+T.length) H' sz (cs++x) (n+1),rows++a::b::c::d::(T++accR H' (cs++x)),low):=by
 obtain⟨H',hH',e⟩:=acc_more (rows:=rows++[a,b,c,d]++T) (H:=H) (sz:=sz) (n:=n) (cs:=cs) (x:=x) (low:=low) (b:=bb) hn hx hsz hl (by simp;omega) hH hc hxu
 refine⟨H',hH',?_⟩
 have h2:(rows++[a,b,c,d]++T).length=rows.length+4+T.length:=by simp;omega
 have h3:rows.length+4+T.length+(accR H cs).length=rows.length+(T.length+(accR H cs).length+1+1+1+1):=by omega
 rw[accV_N,accV_N,h2,h3]at e
 simp only[List.append_assoc,List.cons_append,List.nil_append]at e
 exact e
abbrev pA(ps:List Nat):List AV:=nums .i64 (pC ps)
variable {ks:List Nat}{f:Nat->Bool}{E:AV}{T:List Row}
abbrev pR(rows:List Row)(gn ev pv:AV)(Z:Row)(N:Nat)(E:AV)(f:Nat->Bool)(T:List Row)(ps:List Nat)(H:List Row):List Row:=
 tR rows (tG gn ev pv) Z N E (accN (rows.length+4+T.length) H 3 (pA ps) ps.length) f (T++accR H (pA ps))
set_option maxHeartbeats 16000000 in
theorem k_loop(hp0:El rows 3 pv (nums .i64 fp) k0)(hk0:k0<=9223372036854775807)(hN:1<=N/\N<=6)(hks:ks.length<=36)
  (hE:∀P (L:List Row),El (rows++tG gn ev pv::Z::.cells [.int .i64 N,E,P]::.cells (bl f)::(T++L)) 2 E (nums .i64 (eC ks)) ks.length) {i j:Nat} (hij:i<j) (hj:j<N)
  (hk:∀(ps:List Nat) (H:List Row),H.all (Row.under 0)=true->PInv N ks ps (i*36+(j+1)*6)->Lc15l4 F (.fn [.cellN 2 3]) (.ptr rows.length 0) (.ptr (rows.length+1) 0) (.ptr (rows.length+2) 0) (.int .i64 i) (.int .i64 ((j+1:Nat):Int)) (pR rows gn ev pv Z N E f T ps H) rows.length r):
  ∀(d k:Nat) (ps:List Nat) (H:List Row),N-k=d->k<=N->j<k->H.all (Row.under 0)=true->PInv N ks ps (i*36+j*6+k)->
  Lc15l6 F (.fn [.cellN 2 3]) (.ptr rows.length 0) (.ptr (rows.length+1) 0) (.ptr (rows.length+2) 0) (.int .i64 i) (.int .i64 j) (.int .i64 k) (pR rows gn ev pv Z N E f T ps H) rows.length r:=by
 intro d
 induction d with
 |
  zero=>
  intro k ps H hd h1 hjk hH hP
  have hkN:k=N:=by omega
  subst hkN
  have:=hk ps H hH (hP.mono (by omega))
  have hw:IntKind.i64.wrap ((j:Int)+1)=((j+1:Nat):Int):=by rw[wrap64 (by omega) (by omega)];omega
  unfold Lc15l6
  simp[hw]
  simpa using this
 |
  succ d ih=>
  intro k ps H hd h1 hjk hH hP
  have hkN:k<N:=by omega
  have hw:IntKind.i64.wrap ((k:Int)+1)=((k+1:Nat):Int):=by rw[wrap64 (by omega) (by omega)];omega
  have hR:=hE (accN (rows.length+4+T.length) H 3 (pA ps) ps.length) (accR H (pA ps))
  have one3:(AV.int IntKind.i64 N).one=true/\E.one=true/\(accN (rows.length+4+T.length) H 3 (pA ps) ps.length).one=true:=⟨rfl,El_one hR,accN_one⟩
  have e1:=Edge_ret (n0:=.int .i64 N) hR (by omega) one3 (a:=i) (b:=j)
  have e2:=Edge_ret (n0:=.int .i64 N) hR (by omega) one3 (a:=i) (b:=k)
  have e3:=Edge_ret (n0:=.int .i64 N) hR (by omega) one3 (a:=j) (b:=k)
  rw[show min (i:Int) j=i by omega,show max (i:Int) j=j by omega]at e1
  rw[show min (i:Int) k=i by omega,show max (i:Int) k=k by omega]at e2
  rw[show min (j:Int) k=j by omega,show max (j:Int) k=k by omega]at e3
  have m1:=pix_in (ks:=ks) (a:=i) (b:=j) (by omega)
  have m2:=pix_in (ks:=ks) (a:=i) (b:=k) (by omega)
  have m3:=pix_in (ks:=ks) (a:=j) (b:=k) (by omega)
  generalize pix (eC ks) i j ks.length 0=y1 at e1 m1
  generalize pix (eC ks) i k ks.length 0=y2 at e2 m2
  generalize pix (eC ks) j k ks.length 0=y3 at e3 m3
  have hlP:∀L,evP (pR rows gn ev pv Z N E f T ps H++L) (.len 0 (.c (accN (rows.length+4+T.length) H 3 (pA ps) ps.length)))=some (.int .i64 ps.length):=fun L=>by
   have:=acc_El (rows:=rows++[tG gn ev pv,Z,.cells [.int .i64 N,E,accN (rows.length+4+T.length) H 3 (pA ps) ps.length],.cells (bl f)]++T) (H:=H) (cs:=pA ps) (n:=ps.length) (sz:=3) (by rw[nums_len',pC_len]) (by omega)
   have h:=lenW (El_app this.1 L)
   have h2:(rows++[tG gn ev pv,Z,.cells [.int .i64 N,E,accN (rows.length+4+T.length) H 3 (pA ps) ps.length],.cells (bl f)]++T).length=rows.length+4+T.length:=by simp;omega
   rw[accV_N,h2]at h
   simpa using h
  have hlP:=hlP []
  rw[List.append_nil]at hlP
  have wij:IntKind.i64.wrap ((i:Int)+j)=(i:Int)+j:=wrap64 (by omega) (by omega)
  have wijk:IntKind.i64.wrap ((i:Int)+j+k)=(i:Int)+j+k:=wrap64 (by omega) (by omega)
  have next:=ih (k+1) ps H (by omega) (by omega) (by omega) hH (hP.mono (by omega))
  by_cases c1:0<=y1
  ·by_cases c2:0<=y2
   ·by_cases c3:0<=y3
    ·by_cases c4:ps.length<6
     ·obtain⟨bb,hb⟩:=wanted_ret (El_app hp0 (tG gn ev pv::Z::.cells [.int .i64 N,E,accN (rows.length+4+T.length) H 3 (pA ps) ps.length]::.cells (bl f)::(T++accR H (pA ps)))) hk0 ((i:Int)+j+k)
      cases bb with
      |
       false=>
       unfold Lc15l6
       simp[hkN,e1,e2,e3,c1,c2,c3,hlP,show((ps.length:Int)<6)by omega,wij,wijk,hb,hw,seg]
       simpa using next
      |
       true=>
       have hP':=hP.add hij hjk (by omega) c4 (m1.1 c1) (m2.1 c2) (m3.1 c3)
       obtain⟨H',hH',e⟩:=acc_more4T (rows:=rows) (a:=tG gn ev pv) (b:=Z) (c:=.cells [.int .i64 N,E,accN (rows.length+4+T.length) H 3 (pA ps) ps.length]) (d:=.cells (bl f)) (T:=T) (H:=H) (sz:=3) (n:=ps.length) (cs:=pA ps) (x:=[.int .i64 i,.int .i64 j,.int .i64 k]) (low:=rows.length) (bb:=24) (by rw[nums_len',pC_len]) rfl (by omega) (by omega) (by simp) hH nums_und (by simp[Row.under,AV.under,AV.ids])
       have e4:pA ps++[.int .i64 i,.int .i64 j,.int .i64 k]=pA (ps++[i*36+j*6+k]):=by
        simp only[pA,pC_app,<-nums_app]
        congr 1
        have h1:(i*36+j*6+k)/36=i:=by omega
        have h2:(i*36+j*6+k)/6%6=j:=by omega
        have h3:(i*36+j*6+k)%6=k:=by omega
        simp only[pC,List.flatMap_cons,List.flatMap_nil,List.append_nil,h1,h2,h3]
        rfl
       have e5:(ps++[i*36+j*6+k]).length=ps.length+1:=by simp
       have:=ih (k+1) (ps++[i*36+j*6+k]) H' (by omega) (by omega) (by omega) hH' (by rw[show i*36+j*6+(k+1)=i*36+j*6+k+1 by omega];exact hP')
       simp only[pR,e5]at this
       rw[e4]at e
       unfold Lc15l6
       simp[hkN,e1,e2,e3,c1,c2,c3,hlP,show((ps.length:Int)<6)by omega,wij,wijk,hb,hw,seg,fillA,splice,e,accN_one,lower_ge']
       simpa using this
     ·unfold Lc15l6
      simp[hkN,e1,e2,e3,c1,c2,c3,hlP,show ¬((ps.length:Int)<6)by omega,hw,seg]
      simpa using next
    ·unfold Lc15l6
     simp[hkN,e1,e2,e3,c1,c2,c3,hw,seg]
     simpa using next
   ·unfold Lc15l6
    simp[hkN,e1,e2,c1,c2,hw,seg]
    simpa using next
  ·unfold Lc15l6
   simp[hkN,e1,c1,hw,seg]
   simpa using next
end
end Go.Abs
namespace Go.Abs
section
variable {rows:List Row}{gn ev pv:AV}{fe fp:List Int}{m0 k0 N:Nat}{Z:Row}{r:AV×List Row×Nat->Prop}
variable {ks:List Nat}{f:Nat->Bool}{E:AV}{T:List Row}
theorem j_loop(hp0:El rows 3 pv (nums .i64 fp) k0)(hk0:k0<=9223372036854775807)(hN:1<=N/\N<=6)(hks:ks.length<=36)
  (hE:∀P (L:List Row),El (rows++tG gn ev pv::Z::.cells [.int .i64 N,E,P]::.cells (bl f)::(T++L)) 2 E (nums .i64 (eC ks)) ks.length) {i:Nat} (hi:i<N)
  (hk:∀(ps:List Nat) (H:List Row),H.all (Row.under 0)=true->PInv N ks ps ((i+1)*36)->Lc15l2 F (.fn [.cellN 2 3]) (.ptr rows.length 0) (.ptr (rows.length+1) 0) (.ptr (rows.length+2) 0) (.int .i64 ((i+1:Nat):Int)) (pR rows gn ev pv Z N E f T ps H) rows.length r):
  ∀(d j:Nat) (ps:List Nat) (H:List Row),N-j=d->j<=N->i<j->H.all (Row.under 0)=true->PInv N ks ps (i*36+j*6)->
  Lc15l4 F (.fn [.cellN 2 3]) (.ptr rows.length 0) (.ptr (rows.length+1) 0) (.ptr (rows.length+2) 0) (.int .i64 i) (.int .i64 j) (pR rows gn ev pv Z N E f T ps H) rows.length r:=by
 intro d
 induction d with
 |
  zero=>
  intro j ps H hd h1 hij hH hP
  have hjN:j=N:=by omega
  subst hjN
  have:=hk ps H hH (hP.mono (by omega))
  have hw:IntKind.i64.wrap ((i:Int)+1)=((i+1:Nat):Int):=by rw[wrap64 (by omega) (by omega)];omega
  unfold Lc15l4
  simp[hw]
  simpa using this
 |
  succ d ih=>
  intro j ps H hd h1 hij hH hP
  have hjN:j<N:=by omega
  have hw:IntKind.i64.wrap ((j:Int)+1)=((j+1:Nat):Int):=by rw[wrap64 (by omega) (by omega)];omega
  have:=k_loop (r:=r) hp0 hk0 hN hks hE hij hjN (fun ps H hH hP=>ih (j+1) ps H (by omega) (by omega) (by omega) hH hP) _ (j+1) ps H rfl (by omega) (by omega) hH (hP.mono (by omega))
  unfold Lc15l4
  simp[hjN,hw]
  simpa using this
theorem i_loop(hp0:El rows 3 pv (nums .i64 fp) k0)(hk0:k0<=9223372036854775807)(hN:1<=N/\N<=6)(hks:ks.length<=36)
  (hE:∀P (L:List Row),El (rows++tG gn ev pv::Z::.cells [.int .i64 N,E,P]::.cells (bl f)::(T++L)) 2 E (nums .i64 (eC ks)) ks.length)
  (hk:∀(sl:List (Nat×AV)) (ps:List Nat) (H:List Row),H.all (Row.under 0)=true->PInv N ks ps 1000->lk sl 2 = .ptr (rows.length+1) 0->lk sl 3 = .ptr (rows.length+2) 0->Ex F (.fn [.cellN 2 3]) [.code c15s1] ⟨mk 164 sl,pR rows gn ev pv Z N E f T ps H,rows.length⟩ r):
  ∀(d i:Nat) (ps:List Nat) (H:List Row),N-i=d->i<=N->H.all (Row.under 0)=true->PInv N ks ps (i*36)->
  Lc15l2 F (.fn [.cellN 2 3]) (.ptr rows.length 0) (.ptr (rows.length+1) 0) (.ptr (rows.length+2) 0) (.int .i64 i) (pR rows gn ev pv Z N E f T ps H) rows.length r:=by
 intro d
 induction d with
 |
  zero=>
  intro i ps H hd h1 hH hP
  have hiN:i=N:=by omega
  subst hiN
  unfold Lc15l2
  simp[-uc15s1]
  refine hk _ ps H hH (hP.mono (by omega)) ?_ ?_<;>simp
 |
  succ d ih=>
  intro i ps H hd h1 hH hP
  have hiN:i<N:=by omega
  have hw:IntKind.i64.wrap ((i:Int)+1)=((i+1:Nat):Int):=by rw[wrap64 (by omega) (by omega)];omega
  have:=j_loop (r:=r) hp0 hk0 hN hks hE hiN (fun ps H hH hP=>ih (i+1) ps H (by omega) (by omega) hH hP) _ (i+1) ps H rfl (by omega) (by omega) hH (hP.mono (by omega))
  unfold Lc15l2
  simp[hiN,hw]
  simpa using this
theorem fin_agg{l:List AV}{X:List Row}:fin rows (.agg l) (rows++X) rows.length=(.agg l,rows++X,none)\/(fin rows (.agg l) (rows++X) rows.length=(.agg l,rows,none)/\(AV.agg l).ids.all (· < rows.length)=true):=by
 unfold fin
 rw[if_pos rfl]
 split
 ·rename_i h;exact .inr ⟨rfl,h⟩
 ·rename_i hn
  left
  split
  ·rename_i i e
   split
   ·rw[if_neg]
    intro h
    simp only[Bool.and_eq_true]at h
    have h2:(AV.agg l).plain=true:=h.2
    have h3:(AV.agg l).ids.isEmpty=true:=h2
    rw[e]at h3
    simp at h3
   ·rfl
  ·rfl
theorem ids_accN{b sz n:Nat}{H:List Row}{cs:List AV}{x:Nat}(h:(accN b H sz cs n).ids.all (· < x)=true)(hx:x<=b):cs=[]:=by
 cases cs with
 |nil=>rfl
 |
  cons y cs=>
  simp[accN,AV.ids]at h
  omega
@[simp] theorem one_nil:AV.nilslice.one=true:=rfl
theorem pR_nil:pR rows gn ev pv Z N E f T [] []=tR rows (tG gn ev pv) Z N E .nilslice f T:=by
 simp[pA,pC,nums,accN]
set_option maxHeartbeats 8000000 in
theorem tame_ret{x:Int}(he:El rows 2 ev (nums .i64 fe) m0)(hm0:m0<=9223372036854775807)(hp0:El rows 3 pv (nums .i64 fp) k0)(hk0:k0<=9223372036854775807)(hu:ev.under rows.length=true/\pv.under rows.length=true):
  ∃N ks ps g X,Ret F 15 [.agg [.int .i64 x,ev,pv]] rows=some (g,rows++X,none)/\Und rows X/\GRd (rows++X) g N ks ps:=by
 obtain⟨n,hn,hn6⟩:=umodI (x:=x) (m:=6) (by omega) (by omega)
 let N:=1+n
 have hN:1<=N/\N<=6:=by simp only[N];omega
 have wN:IntKind.i64.wrap (1+(n:Int))=(N:Int):=by rw[wrap64 (by omega) (by omega)];simp[N]
 let Z:Row:=.cells [.int .i64 0,.nilslice,.nilslice]
 -- what is left
 let Q:AV×List Row×Nat->Prop:=fun r=>∃ks ps g X,fin rows r.1 r.2.1 r.2.2=(g,rows++X,none)/\Und rows X/\GRd (rows++X) g N ks ps
 have main:Ex F (.fn [.cellN 2 3]) [.code c15b] ⟨mk 164 [(0,.agg [.int .i64 x,ev,pv])],rows,rows.length⟩ Q:=by
  have hml:=mark_loop (rows:=rows) (gn:=.int .i64 x) (ev:=ev) (pv:=pv) (Z:=Z) (r:=Q) he hm0 hN (by
   intro sl f many hM s1 s2 s3 s4
   have hel:=edge_loop (rows:=rows) (Z:=Z) (r:=Q) (G:=tG (.int .i64 x) ev pv) hM (by
    intro sl2 H hH t1 t2 t3
    have hlen:=ksOf_len (f:=f) (k:=36) (by omega)
    have hc:=hM.c
    have hmm:=hM.m
    have hcs:(eA f 36).length=(ksOf f 36).length*2:=by rw[nums_len',eC_len]
    have hE:∀P (L:List Row),El (rows++tG (.int .i64 x) ev pv::Z::.cells [.int .i64 N,accN (rows.length+4) H 2 (eA f 36) (ksOf f 36).length,P]::.cells (bl f)::(accR H (eA f 36)++L)) 2 (accN (rows.length+4) H 2 (eA f 36) (ksOf f 36).length) (nums .i64 (eC (ksOf f 36))) (ksOf f 36).length:=fun P L=>by
     have:=(acc_El (rows:=rows++[tG (.int .i64 x) ev pv,Z,.cells [.int .i64 N,accN (rows.length+4) H 2 (eA f 36) (ksOf f 36).length,P],.cells (bl f)]) (H:=H) (cs:=eA f 36) (n:=(ksOf f 36).length) (sz:=2) hcs (by omega)).1
     have h2:(rows++[tG (.int .i64 x) ev pv,Z,.cells [.int .i64 N,accN (rows.length+4) H 2 (eA f 36) (ksOf f 36).length,P],.cells (bl f)]).length=rows.length+4:=by simp
     rw[accV_N,h2]at this
     have h3:=El_app this L
     simpa using h3
    have hil:=i_loop (rows:=rows) (gn:=.int .i64 x) (Z:=Z) (f:=f) (T:=accR H (eA f 36)) (r:=Q) hp0 hk0 hN (ks:=ksOf f 36) (by omega) hE (by
     intro sl3 ps H2 hH2 hP u2 u3
     -- the result
     have hone:(accN (rows.length+4) H 2 (eA f 36) (ksOf f 36).length).one=true:=accN_one
     have hone2:(accN (rows.length+4+(accR H (eA f 36)).length) H2 3 (pA ps) ps.length).one=true:=accN_one
     have hH1:=acc_und (cs:=eA f 36) hH nums_und
     have hH3:=acc_und (cs:=pA ps) hH2 nums_und
     generalize hEE:accN (rows.length+4) H 2 (eA f 36) (ksOf f 36).length=E at *
     generalize hPP:accN (rows.length+4+(accR H (eA f 36)).length) H2 3 (pA ps) ps.length=P at *
     have hGO:GOK N (ksOf f 36) ps:=by
      refine⟨hN.1,hN.2,by omega,?_,fun k hk=>?_,hP.k,hP.s,fun p hp=>(hP.e p hp).2⟩
      ·exact List.Pairwise.filter _ List.pairwise_lt_range
      ·have:=(List.mem_filter.1 hk).2
       exact(hM.e k this).2
     let X:List Row:=[tG (.int .i64 x) ev pv,.cells [.int .i64 N,E,P],.cells [.int .i64 N,E,P],.cells (bl f)]++(accR H (eA f 36)++accR H2 (pA ps))
     have hXl:rows.length+X.length=rows.length+4+(accR H (eA f 36)).length+(accR H2 (pA ps)).length:=by simp[X];omega
     have hPel:El (rows++X) 3 P (nums .i64 (pC ps)) ps.length/\Cp 3 P:=by
      have:=acc_El (rows:=rows++[tG (.int .i64 x) ev pv,.cells [.int .i64 N,E,P],.cells [.int .i64 N,E,P],.cells (bl f)]++accR H (eA f 36)) (H:=H2) (cs:=pA ps) (n:=ps.length) (sz:=3) (by rw[nums_len',pC_len]) (by omega)
      have h2:(rows++[tG (.int .i64 x) ev pv,.cells [.int .i64 N,E,P],.cells [.int .i64 N,E,P],.cells (bl f)]++accR H (eA f 36)).length=rows.length+4+(accR H (eA f 36)).length:=by simp;omega
      rw[accV_N,h2,hPP]at this
      refine⟨?_,this.2⟩
      have h3:=this.1
      simpa[X]using h3
     have hEel:El (rows++X) 2 E (nums .i64 (eC (ksOf f 36))) (ksOf f 36).length/\Cp 2 E:=by
      have:=acc_El (rows:=rows++[tG (.int .i64 x) ev pv,.cells [.int .i64 N,E,P],.cells [.int .i64 N,E,P],.cells (bl f)]) (H:=H) (cs:=eA f 36) (n:=(ksOf f 36).length) (sz:=2) hcs (by omega)
      have h2:(rows++[tG (.int .i64 x) ev pv,.cells [.int .i64 N,E,P],.cells [.int .i64 N,E,P],.cells (bl f)]).length=rows.length+4:=by simp
      rw[accV_N,h2,hEE]at this
      refine⟨?_,this.2⟩
      have h3:=El_app this.1 (accR H2 (pA ps))
      simpa[X]using h3
     have uE:E.under (rows.length+X.length)=true:=by
      rcases El_cases hEel.1 with ⟨rfl,_⟩|⟨id,off,c,vs,rfl,hr,_⟩
      ·rfl
      ·have:=row?_lt hr
       simp[AV.under,AV.ids]
       simpa using this
     have uP:P.under (rows.length+X.length)=true:=by
      rcases El_cases hPel.1 with ⟨rfl,_⟩|⟨id,off,c,vs,rfl,hr,_⟩
      ·rfl
      ·have:=row?_lt hr
       simp[AV.under,AV.ids]
       simpa using this
     have hUX:Und rows X:=by
      intro y hy
      have und3:∀a:AV,a.ids=[]->(Row.cells [a,E,P]).under (rows.length+X.length)=true:=fun a ha=>by
       simp[Row.under,uE,uP,AV.under,ha]
       exact⟨by simpa[AV.under]using uE,by simpa[AV.under]using uP⟩
      simp only[X,List.mem_append,List.mem_cons,List.not_mem_nil,or_false]at hy
      rcases hy with (hy|hy|hy|hy)|hy|hy
      ·subst hy
       have h1:=Sh.runder_mono (y:=tG (.int .i64 x) ev pv) (show rows.length<=rows.length+X.length by omega) (by
        simp[Row.under,AV.under,AV.ids]
        exact⟨by simpa[AV.under]using hu.1,by simpa[AV.under]using hu.2⟩)
       exact h1
      ·subst hy;exact und3 _ rfl
      ·subst hy;exact und3 _ rfl
      ·subst hy
       refine und_mono (a:=0) ?_ (Nat.zero_le _)
       simp[Row.under,bl,AV.under,AV.ids]
      ·exact und_mono (List.all_eq_true.1 hH1 y hy) (Nat.zero_le _)
      ·exact und_mono (List.all_eq_true.1 hH3 y hy) (Nat.zero_le _)
     have hfin:=fin_agg (rows:=rows) (l:=[.int .i64 N,E,P]) (X:=X)
     simp[u2,u3,seg,splice,hone,hone2,hPP,Z,lower_ge']
     have hQ:Q (.agg [.int .i64 N,E,P],rows++X,rows.length):=by
      rcases hfin with h|⟨h,hids⟩
      ·exact⟨_,_,_,X,h,hUX,hGO,E,P,rfl,hEel.1,hPel.1,hEel.2,hPel.2⟩
      ·simp only[AV.ids,AV.ids.idsL,List.nil_append,List.all_append,Bool.and_eq_true,List.append_nil]at hids
       rw[<-hEE]at hids
       rw[<-hPP]at hids
       have c1:=ids_accN hids.1 (by omega)
       have c2:=ids_accN hids.2 (by omega)
       have k1:ksOf f 36=[]:=by
        have:=eC_len (ksOf f 36)
        rw[show eC (ksOf f 36)=[]by simpa[nums]using c1]at this
        exact List.eq_nil_of_length_eq_zero (by simp only[List.length_nil]at this;omega)
       have k2:ps=[]:=by
        have:=pC_len ps
        rw[show pC ps=[]by simpa[pA,nums]using c2]at this
        exact List.eq_nil_of_length_eq_zero (by simp only[List.length_nil]at this;omega)
       have hE0:E = .nilslice:=by rw[<-hEE,c1];rfl
       have hP0:P = .nilslice:=by rw[<-hPP,c2];rfl
       subst hE0 hP0
       refine⟨_,_,_,[],by rw[List.append_nil];exact h,Und_nil,hGO,.nilslice,.nilslice,rfl,?_,?_,trivial,trivial⟩
       ·rw[k1];exact El_nil
       ·rw[k2];exact El_nil
     simpa[X]using hQ) _ 0 [] [] rfl (by omega) rfl ⟨List.Pairwise.nil,by simp,fun p hp=>by simp at hp⟩
    rw[pR_nil]at hil
    simp[t1,t2,t3]
    simpa using hil) _ 0 [] rfl (by omega) rfl
   simp only[eA,ksOf,List.range_zero,List.filter_nil,eC,List.flatMap_nil,nums,List.map_nil,accN,accR_nil]at hel
   simp[s1,s2,s3,s4]
   simpa using hel) _ 0 (fun _=>false) 0 rfl (by omega) ⟨fun k hk=>by simp at hk,by simp[cnt],by omega⟩
  have hone1:ev.one=true/\pv.one=true:=⟨El_one he,El_one hp0⟩
  have hbl:List.replicate 36 (AV.bool false)=bl fun _=>false:=by rfl
  have hb2:(∀x,x∈(bl fun _=>false)->x.one=true)=True:=eq_true fun x hx=>by
   obtain⟨k,_,rfl⟩:=List.mem_map.1 hx
   rfl
  simp[AV.cells,hone1.1,hone1.2,seg,splice,fillA,hn,wN,hbl,hb2,lower_ge',Nat.add_assoc]
  simpa[Z]using hml
 obtain⟨n1,q,e,ks,ps,g,X,h1,h2,h3⟩:=main
 exact⟨N,ks,ps,g,X,i15 F15 ⟨n1,q,e,h1⟩,h2,h3⟩
end
end Go.Abs
namespace Go.Abs
section
variable {rows:List Row}{N:Nat}{ks ps:List Nat}
theorem nil_or{l:List AV}:l=[]\/∃x m,l=x::m:=by cases l<;>simp
theorem El_under{sz n:Nat}{v:AV}{cs:List AV}(h:El rows sz v cs n):v.under rows.length=true:=by
 rcases El_cases h with ⟨rfl,_⟩|⟨id,off,c,vs,rfl,hr,_⟩
 ·rfl
 ·have:=row?_lt hr
  simpa[AV.under,AV.ids]using this
theorem tb5:Nat.testBit 508 5=true:=by decide
theorem drop_mapL{β:Type}{f:Row->β}{M:List β}{k:Nat}:List.drop (rows.length+k) (rows.map f++M)=M.drop k:=by
 have:=List.drop_length_add_append (l₁:=rows.map f) (l₂:=M) (i:=k)
 simpa using this
set_option maxHeartbeats 8000000 in
theorem given_ret{g:AV}(h:GRd rows g N ks ps):∃g' X,Ret F 17 [g] rows=some (g',rows++X,none)/\Und rows X/\GRd (rows++X) g' N ks ps:=by
 obtain⟨ev,pv,rfl,he,hp,ce,cp⟩:=h.eq
 have hok:=h.ok
 have hks:=hok.ek
 have hps:=hok.pk
 have one1:=El_one he
 have one2:=El_one hp
 let G:Row:=.cells [.int .i64 N,ev,pv]
 have uG:∀b,rows.length<=b->G.under b=true:=fun b hb=>und_mono (a:=rows.length) (by
  have u1:=El_under he
  have u2:=El_under hp
  simp[G,Row.under,AV.under,AV.ids]
  exact⟨by simpa[AV.under]using u1,by simpa[AV.under]using u2⟩) hb
 have ecl:(nums .i64 (eC ks)).length=ks.length*2:=by rw[nums_len',eC_len]
 have pcl:(nums .i64 (pC ps)).length=ps.length*3:=by rw[nums_len',pC_len]
 -- the result, by its parts
 have fin0:∀(E P:AV) (T:List Row),El (rows++(G::.cells [.int .i64 N,E,P]::T)) 2 E (nums .i64 (eC ks)) ks.length->El (rows++(G::.cells [.int .i64 N,E,P]::T)) 3 P (nums .i64 (pC ps)) ps.length->Cp 2 E->Cp 3 P->T.all (Row.under 0)=true->
   ((∃x,E.ids=[x]/\rows.length<=x)\/E = .nilslice)->((∃x,P.ids=[x]/\rows.length<=x)\/P = .nilslice)->
   ∃g' X,fin rows (.agg [.int .i64 N,E,P]) (rows++(G::.cells [.int .i64 N,E,P]::T)) rows.length=(g',rows++X,none)/\Und rows X/\GRd (rows++X) g' N ks ps:=by
  intro E P T hE hP cE cP hT iE iP
  have uE:=El_under hE
  have uP:=El_under hP
  have hU:Und rows (G::.cells [.int .i64 N,E,P]::T):=by
   intro y hy
   simp only[List.mem_cons]at hy
   rcases hy with hy|hy|hy
   ·subst hy;exact uG _ (by omega)
   ·subst hy
    simp only[List.length_append]at uE uP
    simp[Row.under,AV.under,AV.ids]
    exact⟨by simpa[AV.under]using uE,by simpa[AV.under]using uP⟩
   ·exact und_mono (List.all_eq_true.1 hT y hy) (Nat.zero_le _)
  rcases fin_agg (rows:=rows) (l:=[.int .i64 N,E,P]) (X:=G::.cells [.int .i64 N,E,P]::T)with hf|⟨hf,hids⟩
  ·exact⟨_,_,hf,hU,hok,E,P,rfl,hE,hP,cE,cP⟩
  ·simp only[AV.ids,AV.ids.idsL,List.nil_append,List.all_append,Bool.and_eq_true,List.append_nil]at hids
   have k1:E = .nilslice:=by
    rcases iE with ⟨x,e,hx⟩|e
    ·rw[e]at hids;simp at hids;omega
    ·exact e
   have k2:P = .nilslice:=by
    rcases iP with ⟨x,e,hx⟩|e
    ·rw[e]at hids;simp at hids;omega
    ·exact e
   subst k1 k2
   have h1:=hE
   have h2:=hP
   rcases El_cases h1 with ⟨_,c1,n1⟩|⟨_,_,_,_,e,_⟩
   ·rcases El_cases h2 with ⟨_,c2,n2⟩|⟨_,_,_,_,e,_⟩
    ·refine⟨_,[],by rw[List.append_nil];exact hf,Und_nil,hok,.nilslice,.nilslice,rfl,?_,?_,trivial,trivial⟩
     ·rw[c1,n1];exact El_nil
     ·rw[c2,n2];exact El_nil
    ·simp at e
   ·simp at e
 have hc1:∀L,evE (rows++L) (rows++L).length (.app 2 16 (.c .nilslice) (.c ev))=some (accV (rows++L) [] 2 (nums .i64 (eC ks)) ks.length,rows++L++accR [] (nums .i64 (eC ks)),(rows++L).length):=fun L=>app_copy (El_app he L) (by omega) (by omega)
 have hc2:∀L low,evE (rows++L) low (.app 3 24 (.c .nilslice) (.c pv))=some (accV (rows++L) [] 3 (nums .i64 (pC ps)) ps.length,rows++L++accR [] (nums .i64 (pC ps)),low):=fun L low=>app_copy (El_app hp L) (by omega) (by omega)
 let Z:Row:=.cells [.int .i64 0,.nilslice,.nilslice]
 have c1:=hc1 [G,Z]
 have und0:∀{x:AV} {m:List AV} {l:List Int},nums .i64 l=x::m->(Row.cells (x::m)).under 0=true:=fun e=>by rw[<-e];exact nums_und
 let Q:AV×List Row×Nat->Prop:=fun r=>∃g' X,fin rows r.1 r.2.1 r.2.2=(g',rows++X,none)/\Und rows X/\GRd (rows++X) g' N ks ps
 have main:Ex F (.fn [.cellN 2 3]) [.code c17b] ⟨mk 16 [(0,.agg [.int .i64 N,ev,pv])],rows,rows.length⟩ Q:=by
  rcases nil_or (l:=nums .i64 (eC ks))with h1|⟨x,m,h1⟩
  ·rcases nil_or (l:=nums .i64 (pC ps))with h2|⟨y,m2,h2⟩
   ·have c2:=hc2 [G,Z] (rows++[G,Z]).length
    have f:=fin0 .nilslice .nilslice [] (by
     have:ks.length=0:=by rw[h1]at ecl;simp at ecl;omega
     rw[h1,this];exact El_nil) (by
     have:ps.length=0:=by rw[h2]at pcl;simp at pcl;omega
     rw[h2,this];exact El_nil) trivial trivial rfl (.inr rfl) (.inr rfl)
    rw[h1]at c1
    rw[h2]at c2
    simp[G,Z]at c1 c2
    simp[AV.cells,one1,one2,maskE,c1,c2,seg,splice,fillA,lower_ge',drop_mapL,Nat.add_assoc,tb5]
    exact f
   ·have c2:=hc2 [G,Z] (rows++[G,Z]).length
    have hP:=acc_El (rows:=rows++[G,.cells [.int .i64 N,.nilslice,.slice (rows.length+2) 0 ps.length (.op 3)]]) (H:=[]) (cs:=nums .i64 (pC ps)) (n:=ps.length) (sz:=3) pcl (by omega)
    rw[h2]at hP
    have f:=fin0 .nilslice (.slice (rows.length+2) 0 ps.length (.op 3)) [.cells (y::m2)] (by
     have:ks.length=0:=by rw[h1]at ecl;simp at ecl;omega
     rw[h1,this];exact El_nil) (by rw[h2];simpa using hP.1) trivial (by simpa using hP.2) (by simp[und0 h2]) (.inr rfl) (.inl ⟨_,rfl,by omega⟩)
    rw[h1]at c1
    rw[h2]at c2
    simp[G,Z]at c1 c2
    simp[AV.cells,one1,one2,maskE,c1,c2,seg,splice,fillA,lower_ge',drop_mapL,Nat.add_assoc,tb5]
    exact f
  ·rcases nil_or (l:=nums .i64 (pC ps))with h2|⟨y,m2,h2⟩
   ·have c2:=hc2 [G,Z,.cells (x::m)] (rows++[G,Z,.cells (x::m)]).length
    have c2d:=hc2 [G,Z,.dead] (rows++[G,Z,.dead]).length
    have hE:=acc_El (rows:=rows++[G,.cells [.int .i64 N,.slice (rows.length+2) 0 ks.length (.op 2),.nilslice]]) (H:=[]) (cs:=nums .i64 (eC ks)) (n:=ks.length) (sz:=2) ecl (by omega)
    rw[h1]at hE
    have f:=fin0 (.slice (rows.length+2) 0 ks.length (.op 2)) .nilslice [.cells (x::m)] (by rw[h1];simpa using hE.1) (by
     have:ps.length=0:=by rw[h2]at pcl;simp at pcl;omega
     rw[h2,this];exact El_nil) (by simpa using hE.2) trivial (by simp[und0 h1]) (.inl ⟨_,rfl,by omega⟩) (.inr rfl)
    rw[h1]at c1
    rw[h2]at c2 c2d
    simp[G,Z]at c1 c2 c2d
    simp[AV.cells,one1,one2,maskE,c1,c2,c2d,seg,splice,fillA,lower_ge',drop_mapL,Nat.add_assoc,tb5]
    exact f
   ·have c2:=hc2 [G,Z,.cells (x::m)] (rows++[G,Z,.cells (x::m)]).length
    have c2d:=hc2 [G,Z,.dead] (rows++[G,Z,.dead]).length
    have hE:=acc_El (rows:=rows++[G,.cells [.int .i64 N,.slice (rows.length+2) 0 ks.length (.op 2),.slice (rows.length+3) 0 ps.length (.op 3)]]) (H:=[]) (cs:=nums .i64 (eC ks)) (n:=ks.length) (sz:=2) ecl (by omega)
    have hP:=acc_El (rows:=rows++[G,.cells [.int .i64 N,.slice (rows.length+2) 0 ks.length (.op 2),.slice (rows.length+3) 0 ps.length (.op 3)],.cells (x::m)]) (H:=[]) (cs:=nums .i64 (pC ps)) (n:=ps.length) (sz:=3) pcl (by omega)
    rw[h1]at hE
    rw[h2]at hP
    have hE1:=El_app hE.1 [.cells (y::m2)]
    have f:=fin0 (.slice (rows.length+2) 0 ks.length (.op 2)) (.slice (rows.length+3) 0 ps.length (.op 3)) [.cells (x::m),.cells (y::m2)] (by rw[h1];simpa using hE1) (by rw[h2];simpa using hP.1) (by simpa using hE.2) (by simpa using hP.2) (by simp[und0 h1,und0 h2]) (.inl ⟨_,rfl,by omega⟩) (.inl ⟨_,rfl,by omega⟩)
    rw[h1]at c1
    rw[h2]at c2 c2d
    simp[G,Z]at c1 c2 c2d
    simp[AV.cells,one1,one2,maskE,c1,c2,c2d,seg,splice,fillA,lower_ge',drop_mapL,Nat.add_assoc,tb5]
    exact f
 obtain⟨n1,q,e,g',X,h1,h2,h3⟩:=main
 exact⟨g',X,i17 F17 ⟨n1,q,e,h1⟩,h2,h3⟩
end
end Go.Abs
namespace Go.Abs
def eok(N:Int)(fl:List Int)(i:Nat):Bool:=decide (0<=gI fl (i*2)/\gI fl (i*2)<gI fl (i*2+1)/\gI fl (i*2+1)<N/\(0<i->cmpL [gI fl ((i-1)*2),gI fl ((i-1)*2+1)] [gI fl (i*2),gI fl (i*2+1)]<0))
def eAll(N:Int)(fl:List Int):Nat->Nat->Bool
 |0,_=>true
 |d+1,i=>eok N fl i&&eAll N fl d (i+1)
def pok(fe fl:List Int)(m i:Nat):Bool:=decide (gI fl (i*3)<gI fl (i*3+1)/\gI fl (i*3+1)<gI fl (i*3+2)/\(0<i->cmpL [gI fl ((i-1)*3),gI fl ((i-1)*3+1),gI fl ((i-1)*3+2)] [gI fl (i*3),gI fl (i*3+1),gI fl (i*3+2)]<0)/\
 0<=pix fe (gI fl (i*3)) (gI fl (i*3+1)) m 0/\0<=pix fe (gI fl (i*3)) (gI fl (i*3+2)) m 0/\0<=pix fe (gI fl (i*3+1)) (gI fl (i*3+2)) m 0)
def pAll(fe fl:List Int)(m:Nat):Nat->Nat->Bool
 |0,_=>true
 |d+1,i=>pok fe fl m i&&pAll fe fl m d (i+1)
def gndB(N:Int)(fe:List Int)(m:Nat)(fp:List Int)(k:Nat):Bool:=decide (1<=N/\N<=6/\m<=10/\k<=6)&&(eAll N fe m 0&&pAll fe fp m k 0)
section
variable {rows:List Row}{N:Int}{ev pv:AV}{fe fp:List Int}{m k:Nat}{r:AV×List Row×Nat->Prop}
abbrev cR(rows:List Row)(N:Int)(ev pv:AV)(H:List Row):List Row:=rows ++ .cells [.int .i64 N,ev,pv]::H
abbrev cQ0(rows:List Row)(b:Bool):AV×List Row×Nat->Prop:=fun r=>fin rows r.1 r.2.1 r.2.2=(.int .i64 (if b then 0 else 30),rows,none)
@[simp] theorem cQ0_t{R:List Row}:cQ0 rows true (.int .i64 0,R,rows.length)↔True:=by simp[cQ0]
@[simp] theorem cQ0_f{R:List Row}:cQ0 rows false (.int .i64 30,R,rows.length)↔True:=by simp[cQ0]
set_option maxHeartbeats 16000000 in
theorem three_loop(he:El rows 2 ev (nums .i64 fe) m)(hm:m<=1000000){a0 a1 a2:Int}{H:List Row}{n:Nat}{B:Bool}
  (hbad:¬(0<=pix fe a0 a1 m 0/\0<=pix fe a0 a2 m 0/\0<=pix fe a1 a2 m 0)->B=false)
  {pt:Nat} (ht:row? (cR rows N ev pv H) pt=some (nums .i64 [a0,a1,a0,a2,a1,a2]))
  (hk:(0<=pix fe a0 a1 m 0/\0<=pix fe a0 a2 m 0/\0<=pix fe a1 a2 m 0)->∀H',Lc59l2 F (.fn [.t 2]) (.ptr rows.length 0) pv (.int .i64 k) (.int .i64 ((n+1:Nat):Int)) (cR rows N ev pv H') rows.length (cQ0 rows B)) (hn:n<=1000000):
  Lc59l4 F (.fn [.t 2]) (.ptr rows.length 0) pv (.int .i64 k) (.int .i64 n) (.slice pt 0 3 (.at_ 3)) (.int .i64 3) (.int .i64 0) (cR rows N ev pv H) rows.length (cQ0 rows B):=by
 have hw:IntKind.i64.wrap ((n:Int)+1)=((n+1:Nat):Int):=by rw[wrap64 (by omega) (by omega)];omega
 have hT:∀L,row? (cR rows N ev pv (H++L)) pt=some (nums .i64 [a0,a1,a0,a2,a1,a2]):=fun L=>by
  have:=row?_old (L:=L) ht
  simpa using this
 -- one of the three
 have one:∀(i:Nat) (x y:Int),i<3->gI [a0,a1,a0,a2,a1,a2] (i*2)=x->gI [a0,a1,a0,a2,a1,a2] (i*2+1)=y->∀L:List Row,
   (0<=pix fe x y m 0->Lc59l4 F (.fn [.t 2]) (.ptr rows.length 0) pv (.int .i64 k) (.int .i64 n) (.slice pt 0 3 (.at_ 3)) (.int .i64 3) (.int .i64 ((i+1:Nat):Int)) (cR rows N ev pv (H++(L++[.cells [.int .i64 x,.int .i64 y]]))) rows.length (cQ0 rows B))->(¬0<=pix fe x y m 0->B=false)->
   Lc59l4 F (.fn [.t 2]) (.ptr rows.length 0) pv (.int .i64 k) (.int .i64 n) (.slice pt 0 3 (.at_ 3)) (.int .i64 3) (.int .i64 i) (cR rows N ev pv (H++L)) rows.length (cQ0 rows B):=by
  intro i x y hi hx hy L h1 h2
  have hTL:=hT L
  have htk:List.take 2 (List.drop (i*2) (nums .i64 [a0,a1,a0,a2,a1,a2]))=[.int .i64 x,.int .i64 y]:=by
   rw[<-hx,<-hy]
   match i,hi with
   |0,_=>rfl
   |1,_=>rfl
   |2,_=>rfl
  have hTn:(nums .i64 [a0,a1,a0,a2,a1,a2]).length=6:=rfl
  generalize nums .i64 [a0,a1,a0,a2,a1,a2]=TT at hTL htk hTn
  have hE:=Contains2_ret (El_app he (.cells [.int .i64 N,ev,pv]::(H++(L++[.cells [.int .i64 x,.int .i64 y]])))) hm (a:=x) (b:=y)
  have hwi:IntKind.i64.wrap ((i:Int)+1)=((i+1:Nat):Int):=by rw[wrap64 (by omega) (by omega)];omega
  have hb:i*2+2<=6:=by omega
  by_cases hc:0<=pix fe x y m 0
  ·have h1:=h1 hc
   unfold Lc59l4
   simp[hi,show((i:Int)<3)by omega,hTL,htk,hTn,hb,seg,splice,hE,hc,hwi,lower_ge']
   simpa using h1
  ·have h2:=h2 hc
   unfold Lc59l4
   simp[hi,show((i:Int)<3)by omega,hTL,htk,hTn,hb,seg,splice,hE,hc,hwi,lower_ge',h2]
 have fin3:(0<=pix fe a0 a1 m 0/\0<=pix fe a0 a2 m 0/\0<=pix fe a1 a2 m 0)->∀L:List Row,Lc59l4 F (.fn [.t 2]) (.ptr rows.length 0) pv (.int .i64 k) (.int .i64 n) (.slice pt 0 3 (.at_ 3)) (.int .i64 3) (.int .i64 ((2+1:Nat):Int)) (cR rows N ev pv (H++L)) rows.length (cQ0 rows B):=by
  intro h L
  have:=hk h (H++L)
  unfold Lc59l4
  simp[hw]
  simpa using this
 have:=one 0 a0 a1 (by omega) rfl rfl [] (fun c1=>one 1 a0 a2 (by omega) rfl rfl _ (fun c2=>one 2 a1 a2 (by omega) rfl rfl _ (fun c3=>fin3 ⟨c1,c2,c3⟩ _) (fun h=>hbad fun hh=>h hh.2.2)) (fun h=>hbad fun hh=>h hh.2.1)) (fun h=>hbad fun hh=>h hh.1)
 simpa using this
set_option maxHeartbeats 16000000 in
theorem plate_loop(he:El rows 2 ev (nums .i64 fe) m)(hm:m<=1000000)(hp:El rows 3 pv (nums .i64 fp) k)(hk:k<=1000000):∀(d i:Nat) (H:List Row),k-i=d->i<=k->
  Lc59l2 F (.fn [.t 2]) (.ptr rows.length 0) pv (.int .i64 k) (.int .i64 i) (cR rows N ev pv H) rows.length (cQ0 rows (pAll fe fp m d i)):=by
 intro d
 induction d with
 |
  zero=>
  intro i H hd h1
  have hi:i=k:=by omega
  subst hi
  unfold Lc59l2
  simp[pAll]
 |
  succ d ih=>
  intro i H hd h1
  have hi:i<k:=by omega
  have hw:IntKind.i64.wrap ((i:Int)+1)=((i+1:Nat):Int):=by rw[wrap64 (by omega) (by omega)];omega
  have hl:=El_num_len hp
  have hp':=El_app hp (.cells [.int .i64 N,ev,pv]::H)
  have e1:=idxW hp' hi
  have e2:=ldW3 hp' hi
  simp only[pAll]
  -- the three edges
  have three:∀(x6:AV) (H2:List Row),row? (cR rows N ev pv (H++H2)) (rows.length+(H.length+1))=some [.int .i64 (gI fp (i*3)),.int .i64 (gI fp (i*3+1)),.int .i64 (gI fp (i*3+2))]->
    ∀(B:Bool),(¬(0<=pix fe (gI fp (i*3)) (gI fp (i*3+1)) m 0/\0<=pix fe (gI fp (i*3)) (gI fp (i*3+2)) m 0/\0<=pix fe (gI fp (i*3+1)) (gI fp (i*3+2)) m 0)->B=false)->
    ((0<=pix fe (gI fp (i*3)) (gI fp (i*3+1)) m 0/\0<=pix fe (gI fp (i*3)) (gI fp (i*3+2)) m 0/\0<=pix fe (gI fp (i*3+1)) (gI fp (i*3+2)) m 0)->B=pAll fe fp m d (i+1))->
    Jc59s16 F (.fn [.t 2]) (.ptr rows.length 0) (.ptr (rows.length+(H.length+1)) 0) pv (.int .i64 k) (.int .i64 i) (cR rows N ev pv (H++H2)) rows.length (cQ0 rows B):=by
   intro x6 H2 hr B hB1 hB2
   have hlr:=row?_lt hr
   have t3:=three_loop (rows:=rows) (N:=N) (ev:=ev) (pv:=pv) (fe:=fe) (m:=m) (k:=k) he hm (a0:=gI fp (i*3)) (a1:=gI fp (i*3+1)) (a2:=gI fp (i*3+2)) (H:=H++(H2++[.cells (nums .i64 [gI fp (i*3),gI fp (i*3+1),gI fp (i*3),gI fp (i*3+2),gI fp (i*3+1),gI fp (i*3+2)])])) (n:=i) (B:=B) hB1 (pt:=(cR rows N ev pv (H++H2)).length) (by
    have:cR rows N ev pv (H++(H2++[.cells (nums .i64 [gI fp (i*3),gI fp (i*3+1),gI fp (i*3),gI fp (i*3+2),gI fp (i*3+1),gI fp (i*3+2)])]))=cR rows N ev pv (H++H2)++[.cells (nums .i64 [gI fp (i*3),gI fp (i*3+1),gI fp (i*3),gI fp (i*3+2),gI fp (i*3+1),gI fp (i*3+2)])]:=by simp
    rw[this]
    unfold row?
    simp) (fun h H'=>by
    rw[hB2 h]
    exact ih (i+1) H' (by omega) (by omega)) (by omega)
   have x0:idx? 0 3=some 0:=rfl
   have x1:idx? 1 3=some 1:=rfl
   have x2:idx? 2 3=some 2:=rfl
   unfold Jc59s16
   simp[x0,x1,x2,hr,fillA,splice]
   simpa[nums]using t3
  have x0:idx? 0 3=some 0:=rfl
  have x1:idx? 1 3=some 1:=rfl
  have x2:idx? 2 3=some 2:=rfl
  by_cases c1:gI fp (i*3)<gI fp (i*3+1)
  ·by_cases c2:gI fp (i*3+1)<gI fp (i*3+2)
   ·by_cases c3:0<i
    ·have hwm:IntKind.i64.wrap ((i:Int)-1)=((i-1:Nat):Int):=by rw[wrap64 (by omega) (by omega)];omega
     have hR:row? (cR rows N ev pv (H++[.cells [.int .i64 (gI fp (i*3)),.int .i64 (gI fp (i*3+1)),.int .i64 (gI fp (i*3+2))]])) (rows.length+(H.length+1))=some [.int .i64 (gI fp (i*3)),.int .i64 (gI fp (i*3+1)),.int .i64 (gI fp (i*3+2))]:=by
      unfold row?;simp
     have hp2:=El_app hp (.cells [.int .i64 N,ev,pv]::(H++[.cells [.int .i64 (gI fp (i*3)),.int .i64 (gI fp (i*3+1)),.int .i64 (gI fp (i*3+2))]]))
     have e3:=idxW hp2 (i:=i-1) (by omega)
     have hA:=IsL_W hp2 (i:=i-1) (by omega) (c:=.at_ 3)
     rw[take3 (by omega)]at hA
     have hB:IsL (cR rows N ev pv (H++[.cells [.int .i64 (gI fp (i*3)),.int .i64 (gI fp (i*3+1)),.int .i64 (gI fp (i*3+2))]])) (.slice (rows.length+(H.length+1)) 0 3 (.at_ 3)) [gI fp (i*3),gI fp (i*3+1),gI fp (i*3+2)]:=IsL_mk (n:=0) (off:=0) (c:=.at_ 3) (l:=[gI fp (i*3),gI fp (i*3+1),gI fp (i*3+2)]) hR rfl
     have hC:=Compare_ret hA hB (by simp) (by simp)
     generalize hcm:cmpL [gI fp ((i-1)*3),gI fp ((i-1)*3+1),gI fp ((i-1)*3+2)] [gI fp (i*3),gI fp (i*3+1),gI fp (i*3+2)]=cm at hC
     by_cases c4:cm<0
     ·have h3:=three .any [.cells [.int .i64 (gI fp (i*3)),.int .i64 (gI fp (i*3+1)),.int .i64 (gI fp (i*3+2))]] hR (pok fe fp m i&&pAll fe fp m d (i+1)) (fun h=>by
       have:pok fe fp m i=false:=decide_eq_false (fun hh=>h hh.2.2.2)
       rw[this];rfl) (fun h=>by
       have:pok fe fp m i=true:=decide_eq_true ⟨c1,c2,fun _=>by rw[hcm];exact c4,h⟩
       rw[this];rfl)
      unfold Lc59l2
      simp[hi,e1,e2,e3,seg,splice,lower_ge',x0,x1,x2,c1,c2,c3,hwm,sliceAV,sliceV,bound?,hC,c4,show ¬(gI fp (i*3+1)<=gI fp (i*3))by omega,show ¬(gI fp (i*3+2)<=gI fp (i*3+1))by omega,show ¬(0<=cm)by omega,-uc59s16,jc59s16]
      simpa using h3
     ·have hpk:pok fe fp m i=false:=decide_eq_false (fun hh=>by have:=hh.2.2.1 c3;rw[hcm]at this;omega)
      unfold Lc59l2
      simp[hi,e1,e2,e3,seg,splice,lower_ge',x0,x1,x2,c1,c2,c3,hwm,sliceAV,sliceV,bound?,hC,hpk,show ¬(gI fp (i*3+1)<=gI fp (i*3))by omega,show ¬(gI fp (i*3+2)<=gI fp (i*3+1))by omega,show(0<=cm)by omega]
    ·have i0:i=0:=by omega
     have hR:row? (cR rows N ev pv (H++[.cells [.int .i64 (gI fp (i*3)),.int .i64 (gI fp (i*3+1)),.int .i64 (gI fp (i*3+2))]])) (rows.length+(H.length+1))=some [.int .i64 (gI fp (i*3)),.int .i64 (gI fp (i*3+1)),.int .i64 (gI fp (i*3+2))]:=by
      unfold row?;simp
     have h3:=three .any [.cells [.int .i64 (gI fp (i*3)),.int .i64 (gI fp (i*3+1)),.int .i64 (gI fp (i*3+2))]] hR (pok fe fp m i&&pAll fe fp m d (i+1)) (fun h=>by
       have:pok fe fp m i=false:=decide_eq_false (fun hh=>h hh.2.2.2)
       rw[this];rfl) (fun h=>by
       have:pok fe fp m i=true:=decide_eq_true ⟨c1,c2,fun h0=>absurd h0 c3,h⟩
       rw[this];rfl)
     unfold Lc59l2
     simp[hi,e1,e2,seg,splice,lower_ge',x0,x1,x2,c1,c2,c3,show ¬(gI fp (i*3+1)<=gI fp (i*3))by omega,show ¬(gI fp (i*3+2)<=gI fp (i*3+1))by omega,-uc59s16,jc59s16]
     simpa using h3
   ·have hpk:pok fe fp m i=false:=decide_eq_false (fun hh=>c2 hh.2.1)
    unfold Lc59l2
    simp[hi,e1,e2,seg,splice,lower_ge',x0,x1,x2,c1,hpk,show ¬(gI fp (i*3+1)<=gI fp (i*3))by omega,show(gI fp (i*3+2)<=gI fp (i*3+1))by omega]
  ·have hpk:pok fe fp m i=false:=decide_eq_false (fun hh=>c1 hh.1)
   unfold Lc59l2
   simp[hi,e1,e2,seg,splice,lower_ge',x0,x1,x2,hpk,show(gI fp (i*3+1)<=gI fp (i*3))by omega]
set_option maxHeartbeats 16000000 in
theorem edges_loop(he:El rows 2 ev (nums .i64 fe) m)(hm:m<=1000000)(hp:El rows 3 pv (nums .i64 fp) k)(hk:k<=1000000):∀(d i:Nat) (H:List Row),m-i=d->i<=m->
  Lc59l28 F (.fn [.t 2]) (.ptr rows.length 0) ev (.int .i64 m) (.int .i64 i) (cR rows N ev pv H) rows.length (cQ0 rows (eAll N fe d i&&pAll fe fp m k 0)):=by
 intro d
 induction d with
 |
  zero=>
  intro i H hd h1
  have hi:i=m:=by omega
  subst hi
  have:=plate_loop (rows:=rows) (N:=N) he hm hp hk k 0 H (by omega) (by omega)
  have hp':=El_app hp (.cells [.int .i64 N,ev,pv]::H)
  unfold Lc59l28
  simp[eAll,lenW hp']
  simpa using this
 |
  succ d ih=>
  intro i H hd h1
  have hi:i<m:=by omega
  have hw:IntKind.i64.wrap ((i:Int)+1)=((i+1:Nat):Int):=by rw[wrap64 (by omega) (by omega)];omega
  have hl:=El_num_len he
  have he':=El_app he (.cells [.int .i64 N,ev,pv]::H)
  have e1:=idxW he' hi
  have e2:=ldW2 he' hi
  simp only[eAll]
  have x0:idx? 0 2=some 0:=rfl
  have x1:idx? 1 2=some 1:=rfl
  have next:=ih (i+1) (H++[.cells [.int .i64 (gI fe (i*2)),.int .i64 (gI fe (i*2+1))]]) (by omega) (by omega)
  by_cases c0:0<=gI fe (i*2)
  ·by_cases c1:gI fe (i*2)<gI fe (i*2+1)
   ·by_cases c2:gI fe (i*2+1)<N
    ·by_cases c3:0<i
     ·have hwm:IntKind.i64.wrap ((i:Int)-1)=((i-1:Nat):Int):=by rw[wrap64 (by omega) (by omega)];omega
      have hR:row? (cR rows N ev pv (H++[.cells [.int .i64 (gI fe (i*2)),.int .i64 (gI fe (i*2+1))]])) (rows.length+(H.length+1))=some [.int .i64 (gI fe (i*2)),.int .i64 (gI fe (i*2+1))]:=by
       unfold row?;simp
      have he2:=El_app he (.cells [.int .i64 N,ev,pv]::(H++[.cells [.int .i64 (gI fe (i*2)),.int .i64 (gI fe (i*2+1))]]))
      have e3:=idxW he2 (i:=i-1) (by omega)
      have hA:=IsL_W he2 (i:=i-1) (by omega) (c:=.at_ 2)
      rw[take2 (by omega)]at hA
      have hB:IsL (cR rows N ev pv (H++[.cells [.int .i64 (gI fe (i*2)),.int .i64 (gI fe (i*2+1))]])) (.slice (rows.length+(H.length+1)) 0 2 (.at_ 2)) [gI fe (i*2),gI fe (i*2+1)]:=IsL_mk (n:=0) (off:=0) (c:=.at_ 2) (l:=[gI fe (i*2),gI fe (i*2+1)]) hR rfl
      have hC:=Compare_ret hA hB (by simp) (by simp)
      generalize hcm:cmpL [gI fe ((i-1)*2),gI fe ((i-1)*2+1)] [gI fe (i*2),gI fe (i*2+1)]=cm at hC
      by_cases c4:cm<0
      ·have hek:eok N fe i=true:=decide_eq_true ⟨c0,c1,c2,fun _=>by rw[hcm];exact c4⟩
       unfold Lc59l28
       simp[hi,e1,e2,e3,seg,splice,lower_ge',x0,x1,c0,c1,c2,c3,hwm,sliceAV,sliceV,bound?,hC,c4,hek,hw,show ¬(gI fe (i*2)<0)by omega,show ¬(gI fe (i*2+1)<=gI fe (i*2))by omega,show ¬(N<=gI fe (i*2+1))by omega,show ¬(0<=cm)by omega]
       simpa using next
      ·have hek:eok N fe i=false:=decide_eq_false (fun hh=>by have:=hh.2.2.2 c3;rw[hcm]at this;omega)
       unfold Lc59l28
       simp[hi,e1,e2,e3,seg,splice,lower_ge',x0,x1,c0,c1,c2,c3,hwm,sliceAV,sliceV,bound?,hC,hek,show ¬(gI fe (i*2)<0)by omega,show ¬(gI fe (i*2+1)<=gI fe (i*2))by omega,show ¬(N<=gI fe (i*2+1))by omega,show(0<=cm)by omega]
     ·have hek:eok N fe i=true:=decide_eq_true ⟨c0,c1,c2,fun h=>absurd h c3⟩
      unfold Lc59l28
      simp[hi,e1,e2,seg,splice,lower_ge',x0,x1,c0,c1,c2,c3,hek,hw,show ¬(gI fe (i*2)<0)by omega,show ¬(gI fe (i*2+1)<=gI fe (i*2))by omega,show ¬(N<=gI fe (i*2+1))by omega]
      simpa using next
    ·have hek:eok N fe i=false:=decide_eq_false (fun hh=>c2 hh.2.2.1)
     unfold Lc59l28
     simp[hi,e1,e2,seg,splice,lower_ge',x0,x1,hek,show ¬(gI fe (i*2)<0)by omega,show ¬(gI fe (i*2+1)<=gI fe (i*2))by omega,show(N<=gI fe (i*2+1))by omega]
   ·have hek:eok N fe i=false:=decide_eq_false (fun hh=>c1 hh.2.1)
    unfold Lc59l28
    simp[hi,e1,e2,seg,splice,lower_ge',x0,x1,hek,show ¬(gI fe (i*2)<0)by omega,show(gI fe (i*2+1)<=gI fe (i*2))by omega]
  ·have hek:eok N fe i=false:=decide_eq_false (fun hh=>c0 hh.1)
   unfold Lc59l28
   simp[hi,e1,e2,seg,splice,lower_ge',x0,x1,hek,show(gI fe (i*2)<0)by omega]
set_option maxHeartbeats 16000000 in
theorem Check_ret(he:El rows 2 ev (nums .i64 fe) m)(hm:m<=1000000)(hp:El rows 3 pv (nums .i64 fp) k)(hk:k<=1000000):Ret F 59 [.agg [.int .i64 N,ev,pv]] rows=some (.int .i64 (if gndB N fe m fp k then 0 else 30),rows,none):=by
 have one1:=El_one he
 have one2:=El_one hp
 have he':=El_app he [.cells [.int .i64 N,ev,pv]]
 have hp':=El_app hp [.cells [.int .i64 N,ev,pv]]
 have hmain:=edges_loop (rows:=rows) (N:=N) he hm hp hk m 0 [] (by omega) (by omega)
 refine i59 F59 ?_
 by_cases c1:N<1
 ·have:gndB N fe m fp k=false:=by unfold gndB;rw[decide_eq_false (by omega)];rfl
  simp[AV.cells,one1,one2,c1,this]
 ·by_cases c2:6<N
  ·have:gndB N fe m fp k=false:=by unfold gndB;rw[decide_eq_false (by omega)];rfl
   simp[AV.cells,one1,one2,c1,c2,this]
  ·by_cases c3:10<m
   ·have:gndB N fe m fp k=false:=by unfold gndB;rw[decide_eq_false (by omega)];rfl
    simp[AV.cells,one1,one2,c1,c2,lenW he',show((10:Int)<m)by omega,this]
   ·by_cases c4:6<k
    ·have:gndB N fe m fp k=false:=by unfold gndB;rw[decide_eq_false (by omega)];rfl
     simp[AV.cells,one1,one2,c1,c2,lenW he',lenW hp',show ¬((10:Int)<m)by omega,show((6:Int)<k)by omega,this]
    ·have:gndB N fe m fp k=(eAll N fe m 0&&pAll fe fp m k 0):=by unfold gndB;rw[decide_eq_true (by omega)];rfl
     rw[this]
     generalize (eAll N fe m 0&&pAll fe fp m k 0)=bb at hmain ⊢
     simp[AV.cells,one1,one2,c1,c2,lenW he',lenW hp',show ¬((10:Int)<m)by omega,show ¬((6:Int)<k)by omega]
     exact hmain
end
theorem cmpL2_lt{a b c d:Int}(h:a<c\/(a=c/\b<d)):cmpL [a,b] [c,d]<0:=by
 simp only[cmpL]
 rcases h with h|⟨rfl,h⟩
 ·rw[if_pos h];omega
 ·rw[if_neg (by omega),if_neg (by omega),if_pos h];omega
theorem cmpL3_lt{a b c d e f:Int}(h:a<d\/(a=d/\(b<e\/(b=e/\c<f)))):cmpL [a,b,c] [d,e,f]<0:=by
 simp only[cmpL]
 rcases h with h|⟨rfl,h|⟨rfl,h⟩⟩
 ·rw[if_pos h];omega
 ·rw[if_neg (by omega),if_neg (by omega),if_pos h];omega
 ·rw[if_neg (by omega),if_neg (by omega),if_neg (by omega),if_neg (by omega),if_pos h];omega
theorem gN_lt{l:List Nat}(h:l.Pairwise (· < ·)){i j:Nat}(hij:i<j)(hj:j<l.length):gN l i<gN l j:=by
 rw[gN_eq (by omega),gN_eq hj]
 exact List.pairwise_iff_getElem.1 h i j (by omega) hj hij
theorem eAll_ok{N:Nat}{ks ps:List Nat}(h:GOK N ks ps):∀d i,i+d=ks.length->eAll N (eC ks) d i=true
 |0,_,_=>rfl
 |
  d+1,i,hd=>by
  have hi:i<ks.length:=by omega
  obtain⟨e1,e2⟩:=eC_a hi
  have hm:=h.ee _ (gN_mem hi)
  have:eok N (eC ks) i=true:=by
   refine decide_eq_true ⟨by omega,by omega,by omega,fun h0=>?_⟩
   obtain⟨e3,e4⟩:=eC_a (ks:=ks) (i:=i-1) (by omega)
   have hlt:=gN_lt h.es (i:=i-1) (j:=i) (by omega) hi
   have hm':=h.ee _ (gN_mem (l:=ks) (i:=i-1) (by omega))
   rw[e1,e2,e3,e4]
   apply cmpL2_lt
   omega
  rw[eAll,this,eAll_ok h d (i+1) (by omega)]
  rfl
theorem pAll_ok{N:Nat}{ks ps:List Nat}(h:GOK N ks ps):∀d i,i+d=ps.length->pAll (eC ks) (pC ps) ks.length d i=true
 |0,_,_=>rfl
 |
  d+1,i,hd=>by
  have hi:i<ps.length:=by omega
  obtain⟨e1,e2,e3⟩:=pC_a hi
  have hm:=h.pe _ (gN_mem hi)
  have:pok (eC ks) (pC ps) ks.length i=true:=by
   refine decide_eq_true ⟨by omega,by omega,fun h0=>?_,?_,?_,?_⟩
   ·obtain⟨e4,e5,e6⟩:=pC_a (ps:=ps) (i:=i-1) (by omega)
    have hlt:=gN_lt h.psd (i:=i-1) (j:=i) (by omega) hi
    have hm':=h.pe _ (gN_mem (l:=ps) (i:=i-1) (by omega))
    rw[e1,e2,e3,e4,e5,e6]
    apply cmpL3_lt
    omega
   ·rw[e1,e2]
    exact(pix_in (by omega)).2 hm.2.2.2.1
   ·rw[e1,e3]
    exact(pix_in (by omega)).2 hm.2.2.2.2.1
   ·rw[e2,e3]
    exact(pix_in (by omega)).2 hm.2.2.2.2.2
  rw[pAll,this,pAll_ok h d (i+1) (by omega)]
  rfl
theorem gndB_ok{N:Nat}{ks ps:List Nat}(h:GOK N ks ps):gndB N (eC ks) ks.length (pC ps) ps.length=true:=by
 have h1:=h.n1
 have h2:=h.n6
 have h3:=h.ek
 have h4:=h.pk
 unfold gndB
 rw[decide_eq_true (by omega),eAll_ok h _ 0 (by omega),pAll_ok h _ 0 (by omega)]
 rfl
end Go.Abs
namespace Go.Abs
section
variable {rows:List Row}{fv rv:AV}{fw rg:List Int}{ev pv:AV}{fl:List Int}{m:Nat}
theorem bd_get{fw:List Int}(h:∀x∈fw,-100<=x/\x<=100){i:Nat}(hi:i<fw.length) : -100<=gI fw i/\gI fw i<=100:=h _ (gI_mem hi)
end
end Go.Abs
namespace Go.Abs
section
variable {B L:List Row}{sz n:Nat}{c:Cap}{v:AV}{cs:List AV}
def Acc(B L:List Row)(sz:Nat)(c:Cap)(v:AV)(cs:List AV)(n:Nat):Prop:=
 cs.length=n*sz/\((v = .nilslice/\cs=[])\/∃k,v = .slice (B.length+k) 0 n c/\L[k]?=some (.cells cs))
theorem Acc_nil:Acc B L sz c .nilslice [] 0:=⟨by simp,.inl ⟨rfl,rfl⟩⟩
theorem Acc_app(h:Acc B L sz c v cs n)(M:List Row):Acc B (L++M) sz c v cs n:=by
 obtain⟨h1,h2⟩:=h
 refine⟨h1,?_⟩
 rcases h2 with h2|⟨k,hv,hk⟩
 ·exact .inl h2
 ·refine .inr ⟨k,hv,?_⟩
  rw[List.getElem?_append_left (List.getElem?_eq_some_iff.1 hk).1]
  exact hk
theorem Acc_El(h:Acc B L sz c v cs n)(hsz:0<sz):El (B++L) sz v cs n:=by
 obtain⟨h1,h2⟩:=h
 rcases h2 with ⟨rfl,rfl⟩|⟨k,rfl,hk⟩
 ·have:n=0:=by
   rcases Nat.mul_eq_zero.1 (show n*sz=0 from h1.symm)with h|h
   ·exact h
   ·omega
  subst this
  exact El_nil
 ·have hr:row? (B++L) (B.length+k)=some cs:=by
   unfold row?
   rw[List.getElem?_append_right (by omega),Nat.add_sub_cancel_left,hk]
  show elems _ _ _=_
  unfold elems
  simp only[hr]
  unfold seg
  rw[if_pos (by omega),<-h1]
  simp
theorem Acc_IsL{l:List Int}(h:Acc B L 1 c v (nums .i64 l) n):IsL (B++L) v l/\l.length=n:=by
 have h2:=Acc_El h (by omega)
 have h3:l.length=n:=by have:=h.1;simpa[nums]using this
 exact⟨by unfold IsL;rw[h3];exact h2,h3⟩
theorem Acc_idx{i:Nat}{kd:IntKind}{l:List Int}(h:Acc B L 1 c v (nums kd l) n)(hi:i<n):evP (B++L) (.idxS 1 (.c v) (.c (.int .i64 i)))=some (.ptr (sid v) (soff v+i)):=by
 have:=idxW (Acc_El h (by omega)) hi
 rwa[Nat.mul_one]at this
theorem Acc_ld{i:Nat}{l:List Int}(h:Acc B L 1 c v (nums .i64 l) n)(hi:i<n):evP (B++L) (.load1 (.c (.ptr (sid v) (soff v+i))))=some (.int .i64 (gI l i)):=by
 have h1:=h.1
 exact ldW1 (Acc_El h (by omega)) (by simp[nums]at h1;omega)
theorem Acc_lt(h:Acc B L sz c v cs n)(hn:0<n)(hsz:0<sz):B.length<=sid v/\sid v<B.length+L.length:=by
 obtain⟨h1,h2⟩:=h
 rcases h2 with ⟨rfl,rfl⟩|⟨k,rfl,hk⟩
 ·have:=Nat.mul_pos hn hsz
  simp at h1
  omega
 ·have:=(List.getElem?_eq_some_iff.1 hk).1
  simp only[sid_s]
  omega
theorem Acc_more2{x:List AV}{low b:Nat}(h:Acc B L sz (.op sz) v cs n)(hx:x.length=sz)(hsz:0<sz)(hl:n<1000000000)(hlow:low<=B.length):
  ∃v' L',evE (B++(L++[.cells x])) low (.app sz b (.c v) (.c (.slice (B.length+L.length) 0 1 (.at_ 1))))=some (v',B++L',low)/\Acc B L' sz (.op sz) v' (cs++x) (n+1)/\
   (∀id,id<B.length+L.length->(v = .nilslice\/id≠sid v)->(B++L')[id]?=(B++L)[id]?)/\B.length+L.length<=sid v'/\L.length<=L'.length:=by
 obtain⟨h1,h2⟩:=h
 have hr:row? (B++(L++[.cells x])) (B.length+L.length)=some x:=by
  unfold row?;simp
 have htmp:El (B++(L++[.cells x])) sz (.slice (B.length+L.length) 0 1 (.at_ 1)) x 1:=by
  unfold El elems
  simp only[hr]
  unfold seg
  rw[if_pos (by omega)]
  simp only[List.drop_zero,Option.map_some,Nat.one_mul]
  rw[List.take_of_length_le (by omega)]
 have hlen:(cs++x).length=(n+1)*sz:=by rw[List.length_append,h1,hx,Nat.succ_mul]
 rcases h2 with ⟨rfl,rfl⟩|⟨k,rfl,hk⟩
 ·have h0:n=0:=by
   rcases Nat.mul_eq_zero.1 (show n*sz=0 from h1.symm)with h|h
   ·exact h
   ·omega
  subst h0
  refine⟨_,L++[.cells x,.cells x],?_,⟨hlen,.inr ⟨L.length+1,rfl,by simp⟩⟩,fun id h1 _=>by rw[<-List.append_assoc,List.getElem?_append_left (by simp;omega)],by simp only[sid_s];omega,by simp⟩
  rw[app_nil htmp (by omega) (by simp[lim])]
  simp[Nat.add_assoc]
 ·have hkl:=(List.getElem?_eq_some_iff.1 hk).1
  have hcell:cells? (B++(L++[.cells x])) (B.length+k)=some cs:=by
   unfold cells?
   rw[List.getElem?_append_right (by omega),Nat.add_sub_cancel_left,List.getElem?_append_left hkl,hk]
  refine⟨_,L.set k .dead++[.cells x,.cells (cs++x)],?_,⟨hlen,.inr ⟨L.length+1,rfl,by simp⟩⟩,fun id h1 h2=>?_,by simp only[sid_s];omega,by simp⟩
  ·rw[app_op hcell (xs:=cs) (by unfold seg;rw[if_pos (by omega),<-h1];simp) htmp (by omega) (by simp[lim];omega)]
   simp only[Option.some.injEq,Prod.mk.injEq]
   refine⟨by simp[Nat.add_assoc],?_,lower_ge' (by omega)⟩
   rw[List.set_append_right _ _ (by omega),Nat.add_sub_cancel_left,List.set_append_left _ _ hkl]
   simp
  ·have h3:id≠B.length+k:=by
    rcases h2 with h2|h2
    ·simp at h2
    ·simpa using h2
   by_cases c:id<B.length
   ·rw[List.getElem?_append_left c,List.getElem?_append_left c]
   ·rw[List.getElem?_append_right (by omega),List.getElem?_append_left (by rw[List.length_set];omega),List.getElem?_set_ne (by omega),List.getElem?_append_right (by omega)]
theorem Acc_more{x:List AV}{low b:Nat}(h:Acc B L sz (.op sz) v cs n)(hx:x.length=sz)(hsz:0<sz)(hl:n<1000000000)(hlow:low<=B.length):
  ∃v' L',evE (B++(L++[.cells x])) low (.app sz b (.c v) (.c (.slice (B.length+L.length) 0 1 (.at_ 1))))=some (v',B++L',low)/\Acc B L' sz (.op sz) v' (cs++x) (n+1):=by
 obtain⟨v',L',e,hA,_⟩:=Acc_more2 (low:=low) (b:=b) h hx hsz hl hlow
 exact⟨v',L',e,hA⟩
theorem Acc_store{i:Nat}{l:List Int}{x:Int}{low:Nat}(h:Acc B L 1 c v (nums .i64 l) n)(hi:i<n)(hlow:low<=B.length):
  ∃L',evE (B++L) low (.store1 (.c (.ptr (sid v) (soff v+i))) (.c (.int .i64 x)))=some (.tup [],B++L',low)/\Acc B L' 1 c v (nums .i64 (l.set i x)) n/\L'.length=L.length/\∀(id:Nat) (vs:List AV),id≠sid v->row? (B++L) id=some vs->row? (B++L') id=some vs:=by
 obtain⟨h1,h2⟩:=h
 have hl:l.length=n:=by simpa[nums]using h1
 rcases h2 with ⟨rfl,e⟩|⟨k,rfl,hk⟩
 ·rw[e]at h1
  simp at h1
  omega
 ·have hkl:=(List.getElem?_eq_some_iff.1 hk).1
  have hcell:cells? (B++L) (B.length+k)=some (nums .i64 l):=by
   unfold cells?
   rw[List.getElem?_append_right (by omega),Nat.add_sub_cancel_left,hk]
  have hset:(nums .i64 l).set i (.int .i64 x)=nums .i64 (l.set i x):=by simp[nums,List.map_set]
  refine⟨L.set k (.cells (nums .i64 (l.set i x))),?_,⟨by simp[nums,hl],.inr ⟨k,rfl,by simp[hkl]⟩⟩,by simp,?_⟩
  ·rw[evE_store1]
   simp only[sid_s,soff_s,Nat.zero_add,hcell,Option.bind_some]
   rw[if_pos ⟨by simp[nums];omega,rfl⟩,hset,lower_ge' (by omega),List.set_append_right _ _ (by omega),Nat.add_sub_cancel_left]
  ·intro id vs hid hr
   unfold row? at hr ⊢
   simp only[sid_s]at hid
   by_cases c:id<B.length
   ·rw[List.getElem?_append_left c]at hr ⊢
    exact hr
   ·rw[List.getElem?_append_right (by omega)]at hr ⊢
    rw[List.getElem?_set_ne (by omega)]
    exact hr
theorem Acc_fin1{l:List Int}(h:Acc B L 1 c v (nums .i64 l) n)(hcp:c = .op 1\/∃m,c = .at_ m/\n<=m):
  ∃v' X,fin B v (B++L) B.length=(v',B++X,none)/\X.all (Row.under 0)=true/\IsL (B++X) v' l/\l.length=n/\Cp 1 v':=by
 obtain⟨h1,h2⟩:=h
 have hl:l.length=n:=by simpa[nums]using h1
 rcases h2 with ⟨rfl,e⟩|⟨k,rfl,hk⟩
 ·have h0:n=0:=by rw[e]at h1;simpa using h1.symm
  have:l=[]:=List.eq_nil_of_length_eq_zero (by omega)
  subst this
  exact⟨.nilslice,[],by simp,rfl,IsL_nil,hl,trivial⟩
 ·have hu:(nums .i64 l).all (·.ids.isEmpty)=true:=cells_ids nums_und
  refine⟨_,[.cells (nums .i64 l)],fin_slice hk hu,by simp,?_,hl,?_⟩
  ·have hr:row? (B++[.cells (nums .i64 l)]) B.length=some (nums .i64 l):=by simp[row?]
   rw[<-hl]
   exact IsL_mk (n:=0) hr (by rw[nums_seg,if_pos (by omega)];simp)
  ·rcases hcp with rfl|⟨m,rfl,hm⟩
   ·rfl
   ·exact hm
theorem Acc_make{m:Nat}:Acc B (L++[.cells (nums .i64 (List.replicate m 0))]) 1 (.at_ m) (.slice (B.length+L.length) 0 m (.at_ m)) (nums .i64 (List.replicate m 0)) m:=⟨by simp[nums],.inr ⟨L.length,rfl,by simp⟩⟩
end
end Go.Abs
set_option maxRecDepth 20000
set_option maxHeartbeats 4000000
namespace Go.Abs
variable {F:Nat->Option IFn}{cx:Ctx}{k:List Itm}{s:St}{l:List (Nat×AV)}{rows:List Row}{low:Nat}{r:AV×List Row×Nat->Prop}
@[simp] theorem uc50k0:Ex F cx (.code c50k0::k) ⟨mk 19 l,rows,low⟩ r↔bnd (evP (rows++maskE 0 rn) (.loadN 3 (.c (lk l 1)))) fun v0=>bnd (evP (rows++maskE 0 rn) (.fieldA 1 (.c (lk l 1)))) fun v1=>bnd (evP (rows++maskE 2 rn) (.load1 (.c v1))) fun v2=>bnd (evP (rows++maskE 6 rn) (.len 0 (.c v2))) fun v3=>bnd (evE (rows++maskE 14 rn) (rows.length+rn.length) (.make [.int .i64 0] 8 (.c v3) (.c v3))) fun q4=>q4.2.2=rows.length+rn.length/\bnd (some (rn++List.map (fun(x:Row)=>(4,x)) (q4.2.1.drop (rows.length+rn.length)))) fun e4=>bnd (Ret F 78 [v0,q4.1] (rows++List.map (fun(x:Nat×Row)=>x.2) e4)) fun q5=>bnd (evP q5.2.1 (.nilck (.c q5.1))) fun v6=>bnd (evP q5.2.1 (.fieldA 12 (.c v6))) fun v7=>bnd (evP q5.2.1 (.load1 (.c v7))) fun v8=>Ex F cx k ⟨mk 19 [(3,(.int .i64 0)),(2,v8),(18,v8),(17,v7),(16,v6),(15,q5.1),(14,q4.1),(13,v3),(12,v2),(11,v1),(10,v0),(1,lk l 1)],q5.2.1,(lowO low q5.2.2)⟩ r:=rg [1] c50r0 rfl (by kernel_rfl)
@[simp] theorem uc50s1:U c50s1 (.seq c50k0 .ret):=ur
@[simp] theorem uc50k2:Ex F cx (.code c50k2::k) ⟨mk 19 l,rows,low⟩ r↔Ex F cx k ⟨mk 19 [(3,lk l 4),(2,(.int .i64 0)),(9,lk l 4),(4,lk l 4)],rows,low⟩ r:=rg [4] c50r2 rfl (by kernel_rfl)
@[simp] theorem uc50s3:U c50s3 (.cond (.t 8) (.seq c50k2 .ret) .skip):=ur
@[simp] theorem uc50k4:Ex F cx (.code c50k4::k) ⟨mk 19 l,rows,low⟩ r↔bnd (evP rows (.bin .neq (.c (lk l 4)) (.c (.int .i64 0)))) fun v0=>Ex F cx k ⟨mk 19 [(8,v0),(7,lk l 4),(1,lk l 1),(4,lk l 4)],rows,low⟩ r:=rg qq112 c50r4 rfl (by kernel_rfl)
@[simp] theorem uc50s5:U c50s5 (.seq c50k4 c50s3):=ur
@[simp] theorem uc50k6:Ex F cx (.code c50k6::k) ⟨mk 19 l,rows,low⟩ r↔bnd (evP rows (.loadN 3 (.c (lk l 1)))) fun v0=>bnd (Ret F 59 [v0] rows) fun q1=>Ex F cx k ⟨mk 19 [(4,q1.1),(6,q1.1),(5,v0),(1,lk l 1)],q1.2.1,(lowO low q1.2.2)⟩ r:=rg [1] c50r6 rfl (by kernel_rfl)
@[simp] theorem uc50s7:U c50s7 (.seq (.seq c50k6 c50s5) c50s1):=ur
@[simp] theorem uc50k8:Ex F cx (.code c50k8::k) ⟨mk 19 l,rows,low⟩ r↔bnd (evE rows low (.box (.c (lk l 0)))) fun q0=>Ex F cx k ⟨mk 19 [(3,(.int .i64 0)),(2,(.int .i64 0)),(1,q0.1),(0,lk l 0)],q0.2.1,q0.2.2⟩ r:=rg [0] c50r8 rfl (by kernel_rfl)
@[simp] theorem uc50b:U c50b (.seq c50k8 c50s7):=ur
theorem i50{x0:AV}(hF:F 50=some c50){q:AV×List Row×Option Nat}(h:Ex F (.fn [.t 2,.t 3]) [.code c50b] ⟨mk 19 [(0,x0)],rows,rows.length⟩ fun r=>fin rows r.1 r.2.1 r.2.2=q):Ret F 50 [x0] rows=some q:=Ret_mk hF h
@[simp] abbrev Kc54l2:List Itm:=.inLoop c54l2::.inBlock 0::.code c54s1::[]
@[simp] theorem uc54k0:Ex F cx (.code c54k0::k) ⟨mk 65 l,rows,low⟩ r↔Ex F cx k ⟨mk 65 [(4,lk l 5),(64,lk l 5),(5,lk l 5)],rows,low⟩ r:=rg [5] c54r0 rfl (by kernel_rfl)
@[simp] theorem uc54s1:U c54s1 (.seq c54k0 .ret):=ur
@[simp] theorem uc54k3:Ex F cx (.code c54k3::k) ⟨mk 65 l,rows,low⟩ r↔bnd (evP rows (.bin .add (.c (lk l 6)) (.c (.int .i64 1)))) fun v0=>Ex F cx k ⟨mk 65 ([(6,v0),(18,v0),(17,lk l 6)]++kp l qq94),rows,low⟩ r:=rg qq94 c54r3 rfl (by kernel_rfl)
@[simp] theorem uc54k4:Ex F cx (.code c54k4::k) ⟨mk 65 l,rows,low⟩ r↔bnd (evP rows (.idxA 3 1 (.c (lk l 7)) (.c (.int .i64 2)))) fun v0=>bnd (evP rows (.load1 (.c v0))) fun v1=>bnd (evP rows (.idxA 3 1 (.c (lk l 7)) (.c (.int .i64 2)))) fun v2=>bnd (evP rows (.load1 (.c v2))) fun v3=>bnd (evP rows (.idxS 1 (.c (lk l 5)) (.c v3))) fun v4=>bnd (evP rows (.load1 (.c v4))) fun v5=>bnd (evP rows (.idxS 1 (.c (lk l 1)) (.c (lk l 6)))) fun v6=>bnd (evP rows (.load1 (.c v6))) fun v7=>bnd (evP rows (.bin .sub (.c v5) (.c v7))) fun v8=>bnd (evP rows (.idxS 1 (.c (lk l 5)) (.c v1))) fun v9=>bnd (evE rows low (.store1 (.c v9) (.c v8))) fun q10=>Ex F cx k ⟨mk 65 ([(63,v9),(62,v8),(61,v7),(60,v6),(59,lk l 6),(58,lk l 1),(57,v5),(56,v4),(55,v3),(54,v2),(53,lk l 5),(52,v1),(51,v0),(50,lk l 5)]++kp l qq83),q10.2.1,q10.2.2⟩ r:=rg qq83 c54r4 rfl (by kernel_rfl)
@[simp] theorem uc54k5:Ex F cx (.code c54k5::k) ⟨mk 65 l,rows,low⟩ r↔bnd (evP rows (.idxA 3 1 (.c (lk l 7)) (.c (.int .i64 1)))) fun v0=>bnd (evP rows (.load1 (.c v0))) fun v1=>bnd (evP rows (.idxA 3 1 (.c (lk l 7)) (.c (.int .i64 1)))) fun v2=>bnd (evP rows (.load1 (.c v2))) fun v3=>bnd (evP rows (.idxS 1 (.c (lk l 5)) (.c v3))) fun v4=>bnd (evP rows (.load1 (.c v4))) fun v5=>bnd (evP rows (.idxS 1 (.c (lk l 1)) (.c (lk l 6)))) fun v6=>bnd (evP rows (.load1 (.c v6))) fun v7=>bnd (evP rows (.bin .add (.c v5) (.c v7))) fun v8=>bnd (evP rows (.idxS 1 (.c (lk l 5)) (.c v1))) fun v9=>bnd (evE rows low (.store1 (.c v9) (.c v8))) fun q10=>Ex F cx k ⟨mk 65 ([(49,v9),(48,v8),(47,v7),(46,v6),(45,lk l 6),(44,lk l 1),(43,v5),(42,v4),(41,v3),(40,v2),(39,lk l 5),(38,v1),(37,v0),(36,lk l 5)]++kp l qq83),q10.2.1,q10.2.2⟩ r:=rg qq83 c54r5 rfl (by kernel_rfl)
@[simp] theorem uc54s6:U c54s6 (.seq c54k5 c54k4):=ur
@[simp] theorem uc54k7:Ex F cx (.code c54k7::k) ⟨mk 65 l,rows,low⟩ r↔bnd (evP rows (.idxA 3 1 (.c (lk l 7)) (.c (.int .i64 0)))) fun v0=>bnd (evP rows (.load1 (.c v0))) fun v1=>bnd (evP rows (.idxA 3 1 (.c (lk l 7)) (.c (.int .i64 0)))) fun v2=>bnd (evP rows (.load1 (.c v2))) fun v3=>bnd (evP rows (.idxS 1 (.c (lk l 5)) (.c v3))) fun v4=>bnd (evP rows (.load1 (.c v4))) fun v5=>bnd (evP rows (.idxS 1 (.c (lk l 1)) (.c (lk l 6)))) fun v6=>bnd (evP rows (.load1 (.c v6))) fun v7=>bnd (evP rows (.bin .add (.c v5) (.c v7))) fun v8=>bnd (evP rows (.idxS 1 (.c (lk l 5)) (.c v1))) fun v9=>bnd (evE rows low (.store1 (.c v9) (.c v8))) fun q10=>Ex F cx k ⟨mk 65 ([(35,v9),(34,v8),(33,v7),(32,v6),(31,lk l 6),(30,lk l 1),(29,v5),(28,v4),(27,v3),(26,v2),(25,lk l 5),(24,v1),(23,v0),(22,lk l 5)]++kp l qq83),q10.2.1,q10.2.2⟩ r:=rg qq83 c54r7 rfl (by kernel_rfl)
@[simp] theorem uc54s8:U c54s8 (.seq c54k7 c54s6):=ur
@[simp] theorem uc54k9:Ex F cx (.code c54k9::k) ⟨mk 65 l,rows,low⟩ r↔bnd (evP rows (.loadN 3 (.c (lk l 2)))) fun v0=>bnd (Ret F 89 [v0,lk l 6] rows) fun q1=>bnd (evE q1.2.1 (lowO low q1.2.2) (.box (.c (.agg [.int .i64 0,.int .i64 0,.int .i64 0])))) fun q2=>bnd (evE q2.2.1 q2.2.2 (.storeN 3 (.c q2.1) (.c q1.1))) fun q3=>Ex F cx k ⟨mk 65 ([(7,q2.1),(21,q1.1),(20,lk l 6),(19,v0)]++kp l qq94),q3.2.1,q3.2.2⟩ r:=rg qq94 c54r9 rfl (by kernel_rfl)
@[simp] theorem uc54s10:U c54s10 (.seq (.block 1 (.seq c54k9 c54s8)) c54k3):=ur
@[simp] theorem uc54s11:U c54s11 (.cond (.t 16) .skip (.exit 0)):=ur
@[simp] theorem uc54k12:Ex F cx (.code c54k12::k) ⟨mk 65 l,rows,low⟩ r↔bnd (evP rows (.fieldA 2 (.c (lk l 2)))) fun v0=>bnd (evP rows (.load1 (.c v0))) fun v1=>bnd (evP rows (.len 0 (.c v1))) fun v2=>bnd (evP rows (.bin .lss (.c (lk l 6)) (.c v2))) fun v3=>Ex F cx k ⟨mk 65 ([(16,v3),(15,v2),(14,v1),(13,v0),(12,lk l 6)]++kp l qq94),rows,low⟩ r:=rg qq94 c54r12 rfl (by kernel_rfl)
@[simp] theorem uc54s13:U c54s13 (.block 0 (.loop c54l2)):=ur
@[simp] theorem uc54k14:Ex F cx (.code c54k14::k) ⟨mk 65 l,rows,low⟩ r↔Ex F cx k ⟨mk 65 ([(6,(.int .i64 0))]++kp l qq95),rows,low⟩ r:=rg qq95 c54r14 rfl (by kernel_rfl)
@[simp] theorem uc54s15:U c54s15 (.seq (.seq c54k14 c54s13) c54s1):=ur
@[simp] theorem uc54k16:Ex F cx (.code c54k16::k) ⟨mk 65 l,rows,low⟩ r↔bnd (evP rows (.fieldA 1 (.c (lk l 2)))) fun v0=>bnd (evP rows (.load1 (.c v0))) fun v1=>bnd (evP rows (.len 0 (.c v1))) fun v2=>bnd (evE rows low (.make [.int .i64 0] 8 (.c v2) (.c v2))) fun q3=>Ex F cx k ⟨mk 65 [(5,q3.1),(11,q3.1),(10,v2),(9,v1),(8,v0),(1,lk l 1),(2,lk l 2)],q3.2.1,q3.2.2⟩ r:=rg qq100 c54r16 rfl (by kernel_rfl)
@[simp] theorem uc54s17:U c54s17 (.seq c54k16 c54s15):=ur
@[simp] theorem uc54k18:Ex F cx (.code c54k18::k) ⟨mk 65 l,rows,low⟩ r↔bnd (evE rows low (.box (.c (lk l 0)))) fun q0=>Ex F cx k ⟨mk 65 [(4,.nilslice),(2,q0.1),(0,lk l 0),(1,lk l 1)],q0.2.1,q0.2.2⟩ r:=rg qq21 c54r18 rfl (by kernel_rfl)
def Lc54l2(F:Nat->Option IFn)(cx:Ctx)(x1 x2 x5 x6:AV)(rows:List Row)(low:Nat)(r:AV×List Row×Nat->Prop):Prop:=Ex F cx (.code c54l2::Kc54l2) ⟨mk 65 [(1,x1),(2,x2),(5,x5),(6,x6)],rows,low⟩ r
@[simp] theorem nc54l2:Ex F cx (Kc54l2) ⟨mk 65 l,rows,low⟩ r↔Lc54l2 F cx (lk l 1) (lk l 2) (lk l 5) (lk l 6) rows low r:=loopN (keep:=qq94) (by kernel_rfl)
@[simp] theorem ec54l2:Ex F cx (.code (.loop c54l2)::.inBlock 0::.code c54s1::[]) ⟨mk 65 l,rows,low⟩ r↔Lc54l2 F cx (lk l 1) (lk l 2) (lk l 5) (lk l 6) rows low r:=loopE (keep:=qq94) (by kernel_rfl)
@[simp] theorem uc54l2:U c54l2 (.seq (.seq c54k12 c54s11) c54s10):=ur
@[simp] theorem uc54b:U c54b (.seq c54k18 c54s17):=ur
theorem i54{x0 x1:AV}(hF:F 54=some c54){q:AV×List Row×Option Nat}(h:Ex F (.fn [.t 4]) [.code c54b] ⟨mk 65 [(0,x0),(1,x1)],rows,rows.length⟩ fun r=>fin rows r.1 r.2.1 r.2.2=q):Ret F 54 [x0,x1] rows=some q:=Ret_mk hF h
@[simp] abbrev Kc55l2:List Itm:=.inLoop c55l2::.inBlock 0::.code c55s1::[]
@[simp] theorem uc55k0:Ex F cx (.code c55k0::k) ⟨mk 43 l,rows,low⟩ r↔Ex F cx k ⟨mk 43 [(4,lk l 5),(42,lk l 5),(5,lk l 5)],rows,low⟩ r:=rg [5] c55r0 rfl (by kernel_rfl)
@[simp] theorem uc55s1:U c55s1 (.seq c55k0 .ret):=ur
@[simp] theorem uc55k3:Ex F cx (.code c55k3::k) ⟨mk 43 l,rows,low⟩ r↔bnd (evP rows (.bin .add (.c (lk l 6)) (.c (.int .i64 1)))) fun v0=>Ex F cx k ⟨mk 43 ([(6,v0),(18,v0),(17,lk l 6)]++kp l qq94),rows,low⟩ r:=rg qq94 c55r3 rfl (by kernel_rfl)
@[simp] theorem uc55k4:Ex F cx (.code c55k4::k) ⟨mk 43 l,rows,low⟩ r↔bnd (evP rows (.idxA 3 1 (.c (lk l 7)) (.c (.int .i64 0)))) fun v0=>bnd (evP rows (.load1 (.c v0))) fun v1=>bnd (evP rows (.idxS 1 (.c (lk l 1)) (.c v1))) fun v2=>bnd (evP rows (.load1 (.c v2))) fun v3=>bnd (evP rows (.idxA 3 1 (.c (lk l 7)) (.c (.int .i64 1)))) fun v4=>bnd (evP rows (.load1 (.c v4))) fun v5=>bnd (evP rows (.idxS 1 (.c (lk l 1)) (.c v5))) fun v6=>bnd (evP rows (.load1 (.c v6))) fun v7=>bnd (evP rows (.bin .add (.c v3) (.c v7))) fun v8=>bnd (evP rows (.idxA 3 1 (.c (lk l 7)) (.c (.int .i64 2)))) fun v9=>bnd (evP rows (.load1 (.c v9))) fun v10=>bnd (evP rows (.idxS 1 (.c (lk l 1)) (.c v10))) fun v11=>bnd (evP rows (.load1 (.c v11))) fun v12=>bnd (evP rows (.bin .sub (.c v8) (.c v12))) fun v13=>bnd (evP rows (.idxS 1 (.c (lk l 5)) (.c (lk l 6)))) fun v14=>bnd (evE rows low (.store1 (.c v14) (.c v13))) fun q15=>Ex F cx k ⟨mk 43 ([(41,v14),(40,v13),(39,v12),(38,v11),(37,v10),(36,v9),(35,lk l 1),(34,v8),(33,v7),(32,v6),(31,v5),(30,v4),(29,lk l 1),(28,v3),(27,v2),(26,v1),(25,v0),(24,lk l 1),(23,lk l 6),(22,lk l 5)]++kp l qq83),q15.2.1,q15.2.2⟩ r:=rg qq83 c55r4 rfl (by kernel_rfl)
@[simp] theorem uc55k5:Ex F cx (.code c55k5::k) ⟨mk 43 l,rows,low⟩ r↔bnd (evP rows (.loadN 3 (.c (lk l 2)))) fun v0=>bnd (Ret F 89 [v0,lk l 6] rows) fun q1=>bnd (evE q1.2.1 (lowO low q1.2.2) (.box (.c (.agg [.int .i64 0,.int .i64 0,.int .i64 0])))) fun q2=>bnd (evE q2.2.1 q2.2.2 (.storeN 3 (.c q2.1) (.c q1.1))) fun q3=>Ex F cx k ⟨mk 43 ([(7,q2.1),(21,q1.1),(20,lk l 6),(19,v0)]++kp l qq94),q3.2.1,q3.2.2⟩ r:=rg qq94 c55r5 rfl (by kernel_rfl)
@[simp] theorem uc55s6:U c55s6 (.seq (.block 1 (.seq c55k5 c55k4)) c55k3):=ur
@[simp] theorem uc55s7:U c55s7 (.cond (.t 16) .skip (.exit 0)):=ur
@[simp] theorem uc55k8:Ex F cx (.code c55k8::k) ⟨mk 43 l,rows,low⟩ r↔bnd (evP rows (.fieldA 2 (.c (lk l 2)))) fun v0=>bnd (evP rows (.load1 (.c v0))) fun v1=>bnd (evP rows (.len 0 (.c v1))) fun v2=>bnd (evP rows (.bin .lss (.c (lk l 6)) (.c v2))) fun v3=>Ex F cx k ⟨mk 43 ([(16,v3),(15,v2),(14,v1),(13,v0),(12,lk l 6)]++kp l qq94),rows,low⟩ r:=rg qq94 c55r8 rfl (by kernel_rfl)
@[simp] theorem uc55s9:U c55s9 (.block 0 (.loop c55l2)):=ur
@[simp] theorem uc55k10:Ex F cx (.code c55k10::k) ⟨mk 43 l,rows,low⟩ r↔Ex F cx k ⟨mk 43 ([(6,(.int .i64 0))]++kp l qq95),rows,low⟩ r:=rg qq95 c55r10 rfl (by kernel_rfl)
@[simp] theorem uc55s11:U c55s11 (.seq (.seq c55k10 c55s9) c55s1):=ur
@[simp] theorem uc55k12:Ex F cx (.code c55k12::k) ⟨mk 43 l,rows,low⟩ r↔bnd (evP rows (.fieldA 2 (.c (lk l 2)))) fun v0=>bnd (evP rows (.load1 (.c v0))) fun v1=>bnd (evP rows (.len 0 (.c v1))) fun v2=>bnd (evE rows low (.make [.int .i64 0] 8 (.c v2) (.c v2))) fun q3=>Ex F cx k ⟨mk 43 [(5,q3.1),(11,q3.1),(10,v2),(9,v1),(8,v0),(1,lk l 1),(2,lk l 2)],q3.2.1,q3.2.2⟩ r:=rg qq100 c55r12 rfl (by kernel_rfl)
@[simp] theorem uc55s13:U c55s13 (.seq c55k12 c55s11):=ur
@[simp] theorem uc55k14:Ex F cx (.code c55k14::k) ⟨mk 43 l,rows,low⟩ r↔bnd (evE rows low (.box (.c (lk l 0)))) fun q0=>Ex F cx k ⟨mk 43 [(4,.nilslice),(2,q0.1),(0,lk l 0),(1,lk l 1)],q0.2.1,q0.2.2⟩ r:=rg qq21 c55r14 rfl (by kernel_rfl)
def Lc55l2(F:Nat->Option IFn)(cx:Ctx)(x1 x2 x5 x6:AV)(rows:List Row)(low:Nat)(r:AV×List Row×Nat->Prop):Prop:=Ex F cx (.code c55l2::Kc55l2) ⟨mk 43 [(1,x1),(2,x2),(5,x5),(6,x6)],rows,low⟩ r
@[simp] theorem nc55l2:Ex F cx (Kc55l2) ⟨mk 43 l,rows,low⟩ r↔Lc55l2 F cx (lk l 1) (lk l 2) (lk l 5) (lk l 6) rows low r:=loopN (keep:=qq94) (by kernel_rfl)
@[simp] theorem ec55l2:Ex F cx (.code (.loop c55l2)::.inBlock 0::.code c55s1::[]) ⟨mk 43 l,rows,low⟩ r↔Lc55l2 F cx (lk l 1) (lk l 2) (lk l 5) (lk l 6) rows low r:=loopE (keep:=qq94) (by kernel_rfl)
@[simp] theorem uc55l2:U c55l2 (.seq (.seq c55k8 c55s7) c55s6):=ur
@[simp] theorem uc55b:U c55b (.seq c55k14 c55s13):=ur
theorem i55{x0 x1:AV}(hF:F 55=some c55){q:AV×List Row×Option Nat}(h:Ex F (.fn [.t 4]) [.code c55b] ⟨mk 43 [(0,x0),(1,x1)],rows,rows.length⟩ fun r=>fin rows r.1 r.2.1 r.2.2=q):Ret F 55 [x0,x1] rows=some q:=Ret_mk hF h
@[simp] abbrev Kc56l2:List Itm:=.inLoop c56l2::.inBlock 0::.code c56s1::[]
@[simp] theorem uc56k0:Ex F cx (.code c56k0::k) ⟨mk 23 l,rows,low⟩ r↔Ex F cx k ⟨mk 23 [(2,lk l 3),(22,lk l 3),(3,lk l 3)],rows,low⟩ r:=rg [3] c56r0 rfl (by kernel_rfl)
@[simp] theorem uc56s1:U c56s1 (.seq c56k0 .ret):=ur
@[simp] theorem uc56k3:Ex F cx (.code c56k3::k) ⟨mk 23 l,rows,low⟩ r↔bnd (evP rows (.bin .add (.c (lk l 5)) (.c (.int .i64 1)))) fun v0=>Ex F cx k ⟨mk 23 ([(5,v0),(13,v0),(12,lk l 5)]++kp l qq102),rows,low⟩ r:=rg qq102 c56r3 rfl (by kernel_rfl)
@[simp] theorem uc56k4:Ex F cx (.code c56k4::k) ⟨mk 23 l,rows,low⟩ r↔bnd (evP rows (.bin .add (.c (lk l 3)) (.c (.int .i64 1)))) fun v0=>Ex F cx k ⟨mk 23 ([(3,v0),(21,v0),(20,lk l 3)]++kp l qq102),rows,low⟩ r:=rg qq102 c56r4 rfl (by kernel_rfl)
@[simp] theorem uc56s5:U c56s5 (.cond (.t 19) c56k4 .skip):=ur
@[simp] theorem uc56k6:Ex F cx (.code c56k6::k) ⟨mk 23 l,rows,low⟩ r↔bnd (evP rows (.idxS 1 (.c (lk l 4)) (.c (lk l 5)))) fun v0=>bnd (evP rows (.load1 (.c v0))) fun v1=>bnd (evP rows (.bin .eql (.c v1) (.c (lk l 5)))) fun v2=>Ex F cx k ⟨mk 23 ([(19,v2),(18,lk l 5),(17,v1),(16,v0),(15,lk l 5),(14,lk l 4)]++kp l qq102),rows,low⟩ r:=rg qq102 c56r6 rfl (by kernel_rfl)
@[simp] theorem uc56s7:U c56s7 (.seq (.block 1 (.seq c56k6 c56s5)) c56k3):=ur
@[simp] theorem uc56s8:U c56s8 (.cond (.t 11) .skip (.exit 0)):=ur
@[simp] theorem uc56k9:Ex F cx (.code c56k9::k) ⟨mk 23 l,rows,low⟩ r↔bnd (evP rows (.fieldA 0 (.c (lk l 1)))) fun v0=>bnd (evP rows (.load1 (.c v0))) fun v1=>bnd (evP rows (.bin .lss (.c (lk l 5)) (.c v1))) fun v2=>Ex F cx k ⟨mk 23 ([(11,v2),(10,v1),(9,v0),(8,lk l 5)]++kp l qq102),rows,low⟩ r:=rg qq102 c56r9 rfl (by kernel_rfl)
@[simp] theorem uc56s10:U c56s10 (.block 0 (.loop c56l2)):=ur
@[simp] theorem uc56k11:Ex F cx (.code c56k11::k) ⟨mk 23 l,rows,low⟩ r↔Ex F cx k ⟨mk 23 ([(5,(.int .i64 0))]++kp l qq103),rows,low⟩ r:=rg qq103 c56r11 rfl (by kernel_rfl)
@[simp] theorem uc56s12:U c56s12 (.seq (.seq c56k11 c56s10) c56s1):=ur
@[simp] theorem uc56k13:Ex F cx (.code c56k13::k) ⟨mk 23 l,rows,low⟩ r↔bnd (evP rows (.loadN 3 (.c (lk l 1)))) fun v0=>bnd (Ret F 31 [v0] rows) fun q1=>Ex F cx k ⟨mk 23 [(4,q1.1),(7,q1.1),(6,v0),(1,lk l 1),(3,lk l 3)],q1.2.1,(lowO low q1.2.2)⟩ r:=rg qq110 c56r13 rfl (by kernel_rfl)
@[simp] theorem uc56s14:U c56s14 (.seq c56k13 c56s12):=ur
@[simp] theorem uc56k15:Ex F cx (.code c56k15::k) ⟨mk 23 l,rows,low⟩ r↔Ex F cx k ⟨mk 23 [(3,(.int .i64 0)),(1,lk l 1)],rows,low⟩ r:=rg [1] c56r15 rfl (by kernel_rfl)
@[simp] theorem uc56s16:U c56s16 (.seq c56k15 c56s14):=ur
@[simp] theorem uc56k17:Ex F cx (.code c56k17::k) ⟨mk 23 l,rows,low⟩ r↔bnd (evE rows low (.box (.c (lk l 0)))) fun q0=>Ex F cx k ⟨mk 23 [(2,(.int .i64 0)),(1,q0.1),(0,lk l 0)],q0.2.1,q0.2.2⟩ r:=rg [0] c56r17 rfl (by kernel_rfl)
def Lc56l2(F:Nat->Option IFn)(cx:Ctx)(x1 x3 x4 x5:AV)(rows:List Row)(low:Nat)(r:AV×List Row×Nat->Prop):Prop:=Ex F cx (.code c56l2::Kc56l2) ⟨mk 23 [(1,x1),(3,x3),(4,x4),(5,x5)],rows,low⟩ r
@[simp] theorem nc56l2:Ex F cx (Kc56l2) ⟨mk 23 l,rows,low⟩ r↔Lc56l2 F cx (lk l 1) (lk l 3) (lk l 4) (lk l 5) rows low r:=loopN (keep:=qq102) (by kernel_rfl)
@[simp] theorem ec56l2:Ex F cx (.code (.loop c56l2)::.inBlock 0::.code c56s1::[]) ⟨mk 23 l,rows,low⟩ r↔Lc56l2 F cx (lk l 1) (lk l 3) (lk l 4) (lk l 5) rows low r:=loopE (keep:=qq102) (by kernel_rfl)
@[simp] theorem uc56l2:U c56l2 (.seq (.seq c56k9 c56s8) c56s7):=ur
@[simp] theorem uc56b:U c56b (.seq c56k17 c56s16):=ur
theorem i56{x0:AV}(hF:F 56=some c56){q:AV×List Row×Option Nat}(h:Ex F (.fn [.t 2]) [.code c56b] ⟨mk 23 [(0,x0)],rows,rows.length⟩ fun r=>fin rows r.1 r.2.1 r.2.2=q):Ret F 56 [x0] rows=some q:=Ret_mk hF h
@[simp] theorem uc62k0:Ex F cx (.code c62k0::k) ⟨mk 6 l,rows,low⟩ r↔bnd (evP rows (.mkfn 93 [(.c (lk l 2)),(.c (lk l 3))])) fun v0=>Ex F cx k ⟨mk 6 [(4,v0),(5,v0),(2,lk l 2),(3,lk l 3)],rows,low⟩ r:=rg qq131 c62r0 rfl (by kernel_rfl)
@[simp] theorem uc62s1:U c62s1 (.seq c62k0 .ret):=ur
@[simp] theorem uc62k2:Ex F cx (.code c62k2::k) ⟨mk 6 l,rows,low⟩ r↔bnd (evE rows low (.box (.c (lk l 0)))) fun q0=>bnd (evE q0.2.1 q0.2.2 (.box (.c (lk l 1)))) fun q1=>Ex F cx k ⟨mk 6 [(4,.nilfunc),(3,q1.1),(2,q0.1),(0,lk l 0),(1,lk l 1)],q1.2.1,q1.2.2⟩ r:=rg qq21 c62r2 rfl (by kernel_rfl)
@[simp] theorem uc62b:U c62b (.seq c62k2 c62s1):=ur
theorem i62{x0 x1:AV}(hF:F 62=some c62){q:AV×List Row×Option Nat}(h:Ex F (.fn [.t 4]) [.code c62b] ⟨mk 6 [(0,x0),(1,x1)],rows,rows.length⟩ fun r=>fin rows r.1 r.2.1 r.2.2=q):Ret F 62 [x0,x1] rows=some q:=Ret_mk hF h
@[simp] abbrev Kc78l2:List Itm:=.inLoop c78l2::.inBlock 0::.code c78s1::[]
@[simp] abbrev Kc78l4:List Itm:=.inLoop c78l4::.inBlock 2::.inBlock 1::.code c78k3::Kc78l2
@[simp] abbrev Kc78l5:List Itm:=.inLoop c78l5::.inBlock 4::.inBlock 3::Kc78l4
@[simp] abbrev Kc78l7:List Itm:=.inLoop c78l7::.inBlock 6::.inBlock 5::.code c78k6::Kc78l5
@[simp] theorem uc78k0:Ex F cx (.code c78k0::k) ⟨mk 116 l,rows,low⟩ r↔Ex F cx k ⟨mk 116 [(4,lk l 5),(115,lk l 5),(5,lk l 5)],rows,low⟩ r:=rg [5] c78r0 rfl (by kernel_rfl)
@[simp] theorem uc78s1:U c78s1 (.seq c78k0 .ret):=ur
@[simp] theorem uc78k3:Ex F cx (.code c78k3::k) ⟨mk 116 l,rows,low⟩ r↔bnd (evP rows (.bin .add (.c (lk l 21)) (.c (.int .i64 1)))) fun v0=>Ex F cx k ⟨mk 116 ([(21,v0),(114,v0)]++kp l qq81),rows,low⟩ r:=rg qq81 c78r3 rfl (by kernel_rfl)
@[simp] theorem uc78k6:Ex F cx (.code c78k6::k) ⟨mk 116 l,rows,low⟩ r↔bnd (evP rows (.bin .add (.c (lk l 55)) (.c (.int .i64 1)))) fun v0=>Ex F cx k ⟨mk 116 ([(55,v0),(113,v0)]++kp l qq92),rows,low⟩ r:=rg qq92 c78r6 rfl (by kernel_rfl)
@[simp] theorem uc78k8:Ex F cx (.code c78k8::k) ⟨mk 116 l,rows,low⟩ r↔bnd (evP rows (.bin .add (.c (lk l 60)) (.c (.int .i64 1)))) fun v0=>Ex F cx k ⟨mk 116 ([(60,v0),(112,v0)]++kp l qq90),rows,low⟩ r:=rg qq90 c78r8 rfl (by kernel_rfl)
@[simp] theorem uc78k9:Ex F cx (.code c78k9::k) ⟨mk 116 l,rows,low⟩ r↔bnd (evE rows low (.mkslice 1 [.int .i64 0] [(0,1,(.c (lk l 14)))])) fun q0=>bnd (evE q0.2.1 q0.2.2 (.app 1 8 (.c (lk l 8)) (.c q0.1))) fun q1=>Ex F cx k ⟨mk 116 ([(8,q1.1),(111,q1.1),(110,q0.1),(109,lk l 14),(108,lk l 8)]++kp l qq89),q1.2.1,q1.2.2⟩ r:=rg qq89 c78r9 rfl (by kernel_rfl)
@[simp] theorem uc78k10:U c78k10 (.kill 116 [1,2,5,6,8,9,10,11,14,15,20,21,53,54,55,60] (.ops c78r10)):=ur
@[simp] theorem uc78r10:Ex F cx (.ops c78r10::k) s r↔Ex F cx (.ops [
 .grpw (.t 104) (.t 93) none 59379 [(⟨some 89,.mv (.t 5),none⟩,0),(⟨some 90,.mv (.t 14),none⟩,0),(⟨some 91,.mv (.t 5),none⟩,0),(⟨some 92,.mv (.t 14),none⟩,0),(⟨some 93,.mv (.t 9),none⟩,0),(⟨some 94,.mv (.t 5),none⟩,0),(⟨some 95,.mv (.t 9),none⟩,0),(⟨some 96,.nilck (.t 94),none⟩,32),(⟨some 97,.fieldA 6 (.t 96),none⟩,160),(⟨some 98,.idxA 6 1 (.t 97) (.t 95),none⟩,480),(⟨some 99,.load1 (.t 98),none⟩,992),(⟨some 100,.mv (.t 15),none⟩,0),(⟨some 101,.bin .add (.t 99) (.t 100),none⟩,4064),(⟨some 102,.nilck (.t 89),none⟩,1),(⟨some 103,.fieldA 0 (.t 102),none⟩,8193),(⟨some 104,.idxA 6 1 (.t 103) (.t 90),none⟩,26611),(⟨none,.lenc 0,none⟩,59379),(⟨some 105,.nilck (.t 91),none⟩,4),(⟨some 106,.fieldA 6 (.t 105),none⟩,131076)],
 .one ⟨some 107,.idxA 6 1 (.t 106) (.t 92),none⟩,
 .one ⟨none,.store1 (.t 107) (.t 101),none⟩]::k) s r:=Iff.rfl
@[simp] theorem uc78s11:U c78s11 (.seq c78k10 c78k9):=ur
@[simp] theorem uc78k12:Ex F cx (.code c78k12::k) ⟨mk 116 l,rows,low⟩ r↔bnd (evE rows low (.mset (.c (lk l 6)) (.c (lk l 14)) (.c (.bool true)))) fun q0=>Ex F cx k ⟨mk 116 ([(88,lk l 14),(87,lk l 6)]++kp l qq88),q0.2.1,q0.2.2⟩ r:=rg qq88 c78r12 rfl (by kernel_rfl)
@[simp] theorem uc78s13:U c78s13 (.cond (.t 86) (.seq c78k12 c78s11) .skip):=ur
@[simp] theorem uc78k14:Ex F cx (.code c78k14::k) ⟨mk 116 l,rows,low⟩ r↔bnd (evP rows (.bin .eql (.c (lk l 13)) (.c (lk l 9)))) fun v0=>bnd (gv v0 true (evP rows (.mv (.c (lk l 6))))) fun v1=>bnd (gv v0 true (evP rows (.mv (.c (lk l 14))))) fun v2=>bnd (gv v0 true (evP rows (.look (.bool false) false (.c v1) (.c v2)))) fun v3=>bnd (gv v0 true (evP rows (.un .not (.c v3)))) fun v4=>bnd (evP rows (.pick (.c v0) (.c v4) (.c (.bool false)))) fun v5=>Ex F cx k ⟨mk 116 ([(86,v5),(85,v4),(84,v3),(83,v2),(82,v1),(81,v0),(80,v0),(79,lk l 9),(78,lk l 13)]++kp l qq87),rows,low⟩ r:=rg qq87 c78r14 rfl (by kernel_rfl)
@[simp] theorem uc78s15:U c78s15 (.seq c78k14 c78s13):=ur
@[simp] theorem uc78k16:Ex F cx (.code c78k16::k) ⟨mk 116 l,rows,low⟩ r↔bnd (evP rows (.un .neg (.c (lk l 15)))) fun v0=>Ex F cx k ⟨mk 116 ([(15,v0),(77,v0),(76,lk l 15)]++kp l qq87),rows,low⟩ r:=rg qq87 c78r16 rfl (by kernel_rfl)
@[simp] theorem uc78s17:U c78s17 (.cond (.t 75) c78k16 .skip):=ur
@[simp] theorem uc78k18:Ex F cx (.code c78k18::k) ⟨mk 116 l,rows,low⟩ r↔bnd (evP rows (.bin .eql (.c (lk l 12)) (.c (.int .i64 1)))) fun v0=>Ex F cx k ⟨mk 116 ([(75,v0),(74,lk l 12)]++kp l qq85),rows,low⟩ r:=rg qq85 c78r18 rfl (by kernel_rfl)
@[simp] theorem uc78s19:U c78s19 (.seq (.seq c78k18 c78s17) c78s15):=ur
@[simp] theorem uc78k20:Ex F cx (.code c78k20::k) ⟨mk 116 l,rows,low⟩ r↔bnd (evP rows (.idxA 2 1 (.c (lk l 11)) (.c (lk l 12)))) fun v0=>bnd (evP rows (.load1 (.c v0))) fun v1=>bnd (evP rows (.bin .sub (.c (.int .i64 1)) (.c (lk l 12)))) fun v2=>bnd (evP rows (.idxA 2 1 (.c (lk l 11)) (.c v2))) fun v3=>bnd (evP rows (.load1 (.c v3))) fun v4=>bnd (evP rows (.idxS 1 (.c (lk l 1)) (.c (lk l 10)))) fun v5=>bnd (evP rows (.load1 (.c v5))) fun v6=>Ex F cx k ⟨mk 116 ([(15,v6),(14,v4),(13,v1),(73,v6),(72,v5),(71,lk l 10),(70,lk l 1),(69,v4),(68,v3),(67,v2),(66,lk l 12),(65,v1),(64,v0),(63,lk l 12)]++kp l qq86),rows,low⟩ r:=rg qq86 c78r20 rfl (by kernel_rfl)
@[simp] theorem uc78s21:U c78s21 (.seq c78k20 c78s19):=ur
@[simp] theorem uc78k22:Ex F cx (.code c78k22::k) ⟨mk 116 l,rows,low⟩ r↔Ex F cx k ⟨mk 116 ([(12,lk l 60),(62,lk l 60)]++kp l qq90),rows,low⟩ r:=rg qq90 c78r22 rfl (by kernel_rfl)
@[simp] theorem uc78s23:U c78s23 (.seq (.block 7 (.seq c78k22 c78s21)) c78k8):=ur
@[simp] theorem uc78s24:U c78s24 (.seq (.cond (.t 61) .skip (.exit 6)) c78s23):=ur
@[simp] theorem uc78k25:Ex F cx (.code c78k25::k) ⟨mk 116 l,rows,low⟩ r↔bnd (evP rows (.bin .lss (.c (lk l 60)) (.c (.int .i64 2)))) fun v0=>Ex F cx k ⟨mk 116 ([(61,v0)]++kp l qq90),rows,low⟩ r:=rg qq90 c78r25 rfl (by kernel_rfl)
@[simp] theorem uc78s26:U c78s26 (.block 6 (.loop c78l7)):=ur
@[simp] theorem uc78k27:Ex F cx (.code c78k27::k) ⟨mk 116 l,rows,low⟩ r↔Ex F cx k ⟨mk 116 ([(60,(.int .i64 0))]++kp l qq91),rows,low⟩ r:=rg qq91 c78r27 rfl (by kernel_rfl)
@[simp] theorem uc78s28:U c78s28 (.seq c78k27 c78s26):=ur
@[simp] theorem uc78k29:Ex F cx (.code c78k29::k) ⟨mk 116 l,rows,low⟩ r↔bnd (evP rows (.idxS 2 (.c (lk l 53)) (.c (lk l 55)))) fun v0=>bnd (evP rows (.loadN 2 (.c v0))) fun v1=>bnd (evE rows low (.box (.c (.agg [.int .i64 0,.int .i64 0])))) fun q2=>bnd (evE q2.2.1 q2.2.2 (.storeN 2 (.c q2.1) (.c v1))) fun q3=>Ex F cx k ⟨mk 116 ([(10,lk l 55),(11,q2.1),(59,v1),(58,v0),(57,lk l 55)]++kp l qq92),q3.2.1,q3.2.2⟩ r:=rg qq92 c78r29 rfl (by kernel_rfl)
@[simp] theorem uc78s30:U c78s30 (.seq (.block 5 (.seq c78k29 c78s28)) c78k6):=ur
@[simp] theorem uc78s31:U c78s31 (.seq (.cond (.t 56) .skip (.exit 4)) c78s30):=ur
@[simp] theorem uc78k32:Ex F cx (.code c78k32::k) ⟨mk 116 l,rows,low⟩ r↔bnd (evP rows (.bin .lss (.c (lk l 55)) (.c (lk l 54)))) fun v0=>Ex F cx k ⟨mk 116 ([(56,v0)]++kp l qq92),rows,low⟩ r:=rg qq92 c78r32 rfl (by kernel_rfl)
@[simp] theorem uc78s33:U c78s33 (.block 4 (.loop c78l5)):=ur
@[simp] theorem uc78k34:Ex F cx (.code c78k34::k) ⟨mk 116 l,rows,low⟩ r↔bnd (evP rows (.fieldA 1 (.c (lk l 2)))) fun v0=>bnd (evP rows (.load1 (.c v0))) fun v1=>bnd (evP rows (.len 0 (.c v1))) fun v2=>Ex F cx k ⟨mk 116 ([(55,(.int .i64 0)),(54,v2),(53,v1),(52,v0)]++kp l qq93),rows,low⟩ r:=rg qq93 c78r34 rfl (by kernel_rfl)
@[simp] theorem uc78s35:U c78s35 (.seq c78k34 c78s33):=ur
@[simp] theorem uc78k36:Ex F cx (.code c78k36::k) ⟨mk 116 l,rows,low⟩ r↔bnd (evP rows (.sliceS 1 (.c (lk l 8)) (some (.c (.int .i64 1))) none none)) fun v0=>Ex F cx k ⟨mk 116 ([(8,v0),(51,v0),(50,lk l 8)]++kp l qq93),rows,low⟩ r:=rg qq93 c78r36 rfl (by kernel_rfl)
@[simp] theorem uc78s37:U c78s37 (.seq c78k36 c78s35):=ur
@[simp] theorem uc78k38:Ex F cx (.code c78k38::k) ⟨mk 116 l,rows,low⟩ r↔bnd (evP rows (.idxS 1 (.c (lk l 8)) (.c (.int .i64 0)))) fun v0=>bnd (evP rows (.load1 (.c v0))) fun v1=>Ex F cx k ⟨mk 116 ([(9,v1),(49,v1),(48,v0),(47,lk l 8)]++kp l qq84),rows,low⟩ r:=rg qq84 c78r38 rfl (by kernel_rfl)
@[simp] theorem uc78s39:U c78s39 (.block 3 (.seq c78k38 c78s37)):=ur
@[simp] theorem uc78s40:U c78s40 (.cond (.t 46) .skip (.exit 2)):=ur
@[simp] theorem uc78k41:Ex F cx (.code c78k41::k) ⟨mk 116 l,rows,low⟩ r↔bnd (evP rows (.len 0 (.c (lk l 8)))) fun v0=>bnd (evP rows (.bin .gtr (.c v0) (.c (.int .i64 0)))) fun v1=>Ex F cx k ⟨mk 116 ([(46,v1),(45,v0),(44,lk l 8)]++kp l qq84),rows,low⟩ r:=rg qq84 c78r41 rfl (by kernel_rfl)
@[simp] theorem uc78s42:U c78s42 (.block 2 (.loop c78l4)):=ur
@[simp] theorem uc78k43:Ex F cx (.code c78k43::k) ⟨mk 116 l,rows,low⟩ r↔bnd (evE rows low (.mkslice 1 [.int .i64 0] [(0,1,(.c (lk l 7)))])) fun q0=>Ex F cx k ⟨mk 116 ([(8,q0.1),(43,q0.1),(42,lk l 7)]++kp l qq82),q0.2.1,q0.2.2⟩ r:=rg qq82 c78r43 rfl (by kernel_rfl)
@[simp] theorem uc78s44:U c78s44 (.seq c78k43 c78s42):=ur
@[simp] theorem uc78k45:Ex F cx (.code c78k45::k) ⟨mk 116 l,rows,low⟩ r↔bnd (evP rows (.nilck (.c (lk l 5)))) fun v0=>bnd (evP rows (.fieldA 0 (.c v0))) fun v1=>bnd (evP rows (.idxA 6 1 (.c v1) (.c (lk l 7)))) fun v2=>bnd (evE rows low (.store1 (.c v2) (.c (lk l 7)))) fun q3=>Ex F cx k ⟨mk 116 ([(41,v2),(40,v1),(39,v0),(38,lk l 7),(37,lk l 7),(36,lk l 5)]++kp l qq82),q3.2.1,q3.2.2⟩ r:=rg qq82 c78r45 rfl (by kernel_rfl)
@[simp] theorem uc78s46:U c78s46 (.seq c78k45 c78s44):=ur
@[simp] theorem uc78k47:Ex F cx (.code c78k47::k) ⟨mk 116 l,rows,low⟩ r↔bnd (evE rows low (.mset (.c (lk l 6)) (.c (lk l 7)) (.c (.bool true)))) fun q0=>Ex F cx k ⟨mk 116 ([(35,lk l 7),(34,lk l 6)]++kp l qq82),q0.2.1,q0.2.2⟩ r:=rg qq82 c78r47 rfl (by kernel_rfl)
@[simp] theorem uc78s48:U c78s48 (.seq c78k47 c78s46):=ur
@[simp] theorem uc78k49:Ex F cx (.code c78k49::k) ⟨mk 116 l,rows,low⟩ r↔bnd (evP rows (.nilck (.c (lk l 5)))) fun v0=>bnd (evP rows (.fieldA 12 (.c v0))) fun v1=>bnd (evP rows (.load1 (.c v1))) fun v2=>bnd (evP rows (.bin .add (.c v2) (.c (.int .i64 1)))) fun v3=>bnd (evP rows (.nilck (.c (lk l 5)))) fun v4=>bnd (evP rows (.fieldA 12 (.c v4))) fun v5=>bnd (evE rows low (.store1 (.c v5) (.c v3))) fun q6=>Ex F cx k ⟨mk 116 ([(33,v5),(32,v4),(31,v3),(30,v2),(29,v1),(28,v0),(27,lk l 5)]++kp l qq82),q6.2.1,q6.2.2⟩ r:=rg qq82 c78r49 rfl (by kernel_rfl)
@[simp] theorem uc78s50:U c78s50 (.seq c78k49 c78s48):=ur
@[simp] theorem uc78s51:U c78s51 (.cond (.t 26) (.exit 1) .skip):=ur
@[simp] theorem uc78k52:Ex F cx (.code c78k52::k) ⟨mk 116 l,rows,low⟩ r↔bnd (evP rows (.look (.bool false) false (.c (lk l 6)) (.c (lk l 7)))) fun v0=>Ex F cx k ⟨mk 116 ([(26,v0),(25,lk l 7),(24,lk l 6)]++kp l qq82),rows,low⟩ r:=rg qq82 c78r52 rfl (by kernel_rfl)
@[simp] theorem uc78s53:U c78s53 (.seq (.seq c78k52 c78s51) c78s50):=ur
@[simp] theorem uc78k54:Ex F cx (.code c78k54::k) ⟨mk 116 l,rows,low⟩ r↔Ex F cx k ⟨mk 116 ([(7,lk l 21),(23,lk l 21)]++kp l qq81),rows,low⟩ r:=rg qq81 c78r54 rfl (by kernel_rfl)
@[simp] theorem uc78s55:U c78s55 (.seq (.block 1 (.seq c78k54 c78s53)) c78k3):=ur
@[simp] theorem uc78s56:U c78s56 (.seq (.cond (.t 22) .skip (.exit 0)) c78s55):=ur
@[simp] theorem uc78k57:Ex F cx (.code c78k57::k) ⟨mk 116 l,rows,low⟩ r↔bnd (evP rows (.bin .lss (.c (lk l 21)) (.c (lk l 20)))) fun v0=>Ex F cx k ⟨mk 116 ([(22,v0)]++kp l qq81),rows,low⟩ r:=rg qq81 c78r57 rfl (by kernel_rfl)
@[simp] theorem uc78s58:U c78s58 (.block 0 (.loop c78l2)):=ur
@[simp] theorem uc78k59:Ex F cx (.code c78k59::k) ⟨mk 116 l,rows,low⟩ r↔bnd (evP rows (.fieldA 0 (.c (lk l 2)))) fun v0=>bnd (evP rows (.load1 (.c v0))) fun v1=>Ex F cx k ⟨mk 116 ([(21,(.int .i64 0)),(20,v1),(19,v0)]++kp l qq94),rows,low⟩ r:=rg qq94 c78r59 rfl (by kernel_rfl)
@[simp] theorem uc78s60:U c78s60 (.seq (.seq c78k59 c78s58) c78s1):=ur
@[simp] theorem uc78k61:Ex F cx (.code c78k61::k) ⟨mk 116 l,rows,low⟩ r↔bnd (evE rows low (.mkmap)) fun q0=>Ex F cx k ⟨mk 116 ([(6,q0.1),(18,q0.1)]++kp l qq95),q0.2.1,q0.2.2⟩ r:=rg qq95 c78r61 rfl (by kernel_rfl)
@[simp] theorem uc78s62:U c78s62 (.seq c78k61 c78s60):=ur
@[simp] theorem uc78k63:Ex F cx (.code c78k63::k) ⟨mk 116 l,rows,low⟩ r↔bnd (evP rows (.mkagg (List.replicate 13 (.int .i64 0)) [])) fun v0=>bnd (evE rows low (.box (.c v0))) fun q1=>Ex F cx k ⟨mk 116 [(5,q1.1),(17,q1.1),(16,v0),(1,lk l 1),(2,lk l 2)],q1.2.1,q1.2.2⟩ r:=rg qq100 c78r63 rfl (by kernel_rfl)
@[simp] theorem uc78s64:U c78s64 (.seq c78k63 c78s62):=ur
@[simp] theorem uc78k65:Ex F cx (.code c78k65::k) ⟨mk 116 l,rows,low⟩ r↔bnd (evE rows low (.box (.c (lk l 0)))) fun q0=>Ex F cx k ⟨mk 116 [(4,.nilptr),(2,q0.1),(0,lk l 0),(1,lk l 1)],q0.2.1,q0.2.2⟩ r:=rg qq21 c78r65 rfl (by kernel_rfl)
def Jc78s15(F:Nat->Option IFn)(cx:Ctx)(x1 x2 x5 x6 x8 x9 x10 x11 x13 x14 x15 x20 x21 x53 x54 x55 x60:AV)(rows:List Row)(low:Nat)(r:AV×List Row×Nat->Prop):Prop:=Ex F cx (.code c78s15::.inBlock 7::.code c78k8::Kc78l7) ⟨mk 116 [(1,x1),(2,x2),(5,x5),(6,x6),(8,x8),(9,x9),(10,x10),(11,x11),(13,x13),(14,x14),(15,x15),(20,x20),(21,x21),(53,x53),(54,x54),(55,x55),(60,x60)],rows,low⟩ r
theorem jc78s15:Ex F cx (.code c78s15::.inBlock 7::.code c78k8::Kc78l7) ⟨mk 116 l,rows,low⟩ r↔Jc78s15 F cx (lk l 1) (lk l 2) (lk l 5) (lk l 6) (lk l 8) (lk l 9) (lk l 10) (lk l 11) (lk l 13) (lk l 14) (lk l 15) (lk l 20) (lk l 21) (lk l 53) (lk l 54) (lk l 55) (lk l 60) rows low r:=Ex_canon (keep:=qq87) (by kernel_rfl)
def Lc78l7(F:Nat->Option IFn)(cx:Ctx)(x1 x2 x5 x6 x8 x9 x10 x11 x20 x21 x53 x54 x55 x60:AV)(rows:List Row)(low:Nat)(r:AV×List Row×Nat->Prop):Prop:=Ex F cx (.code c78l7::Kc78l7) ⟨mk 116 [(1,x1),(2,x2),(5,x5),(6,x6),(8,x8),(9,x9),(10,x10),(11,x11),(20,x20),(21,x21),(53,x53),(54,x54),(55,x55),(60,x60)],rows,low⟩ r
@[simp] theorem nc78l7:Ex F cx (Kc78l7) ⟨mk 116 l,rows,low⟩ r↔Lc78l7 F cx (lk l 1) (lk l 2) (lk l 5) (lk l 6) (lk l 8) (lk l 9) (lk l 10) (lk l 11) (lk l 20) (lk l 21) (lk l 53) (lk l 54) (lk l 55) (lk l 60) rows low r:=loopN (keep:=qq90) (by kernel_rfl)
@[simp] theorem ec78l7:Ex F cx (.code (.loop c78l7)::.inBlock 6::.inBlock 5::.code c78k6::Kc78l5) ⟨mk 116 l,rows,low⟩ r↔Lc78l7 F cx (lk l 1) (lk l 2) (lk l 5) (lk l 6) (lk l 8) (lk l 9) (lk l 10) (lk l 11) (lk l 20) (lk l 21) (lk l 53) (lk l 54) (lk l 55) (lk l 60) rows low r:=loopE (keep:=qq90) (by kernel_rfl)
@[simp] theorem uc78l7:U c78l7 (.seq c78k25 c78s24):=ur
def Lc78l5(F:Nat->Option IFn)(cx:Ctx)(x1 x2 x5 x6 x8 x9 x20 x21 x53 x54 x55:AV)(rows:List Row)(low:Nat)(r:AV×List Row×Nat->Prop):Prop:=Ex F cx (.code c78l5::Kc78l5) ⟨mk 116 [(1,x1),(2,x2),(5,x5),(6,x6),(8,x8),(9,x9),(20,x20),(21,x21),(53,x53),(54,x54),(55,x55)],rows,low⟩ r
@[simp] theorem nc78l5:Ex F cx (Kc78l5) ⟨mk 116 l,rows,low⟩ r↔Lc78l5 F cx (lk l 1) (lk l 2) (lk l 5) (lk l 6) (lk l 8) (lk l 9) (lk l 20) (lk l 21) (lk l 53) (lk l 54) (lk l 55) rows low r:=loopN (keep:=qq92) (by kernel_rfl)
@[simp] theorem ec78l5:Ex F cx (.code (.loop c78l5)::.inBlock 4::.inBlock 3::Kc78l4) ⟨mk 116 l,rows,low⟩ r↔Lc78l5 F cx (lk l 1) (lk l 2) (lk l 5) (lk l 6) (lk l 8) (lk l 9) (lk l 20) (lk l 21) (lk l 53) (lk l 54) (lk l 55) rows low r:=loopE (keep:=qq92) (by kernel_rfl)
@[simp] theorem uc78l5:U c78l5 (.seq c78k32 c78s31):=ur
def Lc78l4(F:Nat->Option IFn)(cx:Ctx)(x1 x2 x5 x6 x8 x20 x21:AV)(rows:List Row)(low:Nat)(r:AV×List Row×Nat->Prop):Prop:=Ex F cx (.code c78l4::Kc78l4) ⟨mk 116 [(1,x1),(2,x2),(5,x5),(6,x6),(8,x8),(20,x20),(21,x21)],rows,low⟩ r
@[simp] theorem nc78l4:Ex F cx (Kc78l4) ⟨mk 116 l,rows,low⟩ r↔Lc78l4 F cx (lk l 1) (lk l 2) (lk l 5) (lk l 6) (lk l 8) (lk l 20) (lk l 21) rows low r:=loopN (keep:=qq84) (by kernel_rfl)
@[simp] theorem ec78l4:Ex F cx (.code (.loop c78l4)::.inBlock 2::.inBlock 1::.code c78k3::Kc78l2) ⟨mk 116 l,rows,low⟩ r↔Lc78l4 F cx (lk l 1) (lk l 2) (lk l 5) (lk l 6) (lk l 8) (lk l 20) (lk l 21) rows low r:=loopE (keep:=qq84) (by kernel_rfl)
@[simp] theorem uc78l4:U c78l4 (.seq (.seq c78k41 c78s40) c78s39):=ur
def Lc78l2(F:Nat->Option IFn)(cx:Ctx)(x1 x2 x5 x6 x20 x21:AV)(rows:List Row)(low:Nat)(r:AV×List Row×Nat->Prop):Prop:=Ex F cx (.code c78l2::Kc78l2) ⟨mk 116 [(1,x1),(2,x2),(5,x5),(6,x6),(20,x20),(21,x21)],rows,low⟩ r
@[simp] theorem nc78l2:Ex F cx (Kc78l2) ⟨mk 116 l,rows,low⟩ r↔Lc78l2 F cx (lk l 1) (lk l 2) (lk l 5) (lk l 6) (lk l 20) (lk l 21) rows low r:=loopN (keep:=qq81) (by kernel_rfl)
@[simp] theorem ec78l2:Ex F cx (.code (.loop c78l2)::.inBlock 0::.code c78s1::[]) ⟨mk 116 l,rows,low⟩ r↔Lc78l2 F cx (lk l 1) (lk l 2) (lk l 5) (lk l 6) (lk l 20) (lk l 21) rows low r:=loopE (keep:=qq81) (by kernel_rfl)
@[simp] theorem uc78l2:U c78l2 (.seq c78k57 c78s56):=ur
@[simp] theorem uc78b:U c78b (.seq c78k65 c78s64):=ur
theorem i78{x0 x1:AV}(hF:F 78=some c78){q:AV×List Row×Option Nat}(h:Ex F (.fn [.t 4]) [.code c78b] ⟨mk 116 [(0,x0),(1,x1)],rows,rows.length⟩ fun r=>fin rows r.1 r.2.1 r.2.2=q):Ret F 78 [x0,x1] rows=some q:=Ret_mk hF h
@[simp] theorem uc89k0:Ex F cx (.code c89k0::k) ⟨mk 30 l,rows,low⟩ r↔bnd (evP (rows++maskE 0 rn) (.loadN 3 (.c (lk l 2)))) fun v0=>bnd (evP (rows++maskE 0 rn) (.idxA 3 1 (.c (lk l 5)) (.c (.int .i64 0)))) fun v1=>bnd (evP (rows++maskE 2 rn) (.load1 (.c v1))) fun v2=>bnd (evP (rows++maskE 0 rn) (.idxA 3 1 (.c (lk l 5)) (.c (.int .i64 1)))) fun v3=>bnd (evP (rows++maskE 8 rn) (.load1 (.c v3))) fun v4=>bnd (opC F (rows++maskE 31 rn) (rows.length+rn.length) [v0,v2,v4] [] (.func 60 [])) fun q5=>q5.2.2=rows.length+rn.length/\bnd (some (rn++List.map (fun(x:Row)=>(5,x)) (q5.2.1.drop (rows.length+rn.length)))) fun e5=>bnd (evP (rows++maskE 0 e5) (.loadN 3 (.c (lk l 2)))) fun v6=>bnd (evP (rows++maskE 0 e5) (.idxA 3 1 (.c (lk l 5)) (.c (.int .i64 1)))) fun v7=>bnd (evP (rows++maskE 128 e5) (.load1 (.c v7))) fun v8=>bnd (evP (rows++maskE 0 e5) (.idxA 3 1 (.c (lk l 5)) (.c (.int .i64 2)))) fun v9=>bnd (evP (rows++maskE 512 e5) (.load1 (.c v9))) fun v10=>bnd (opC F (rows++maskE 2047 e5) (rows.length+e5.length) [v6,v8,v10] [] (.func 60 [])) fun q11=>q11.2.2=rows.length+e5.length/\bnd (some (e5++List.map (fun(x:Row)=>(11,x)) (q11.2.1.drop (rows.length+e5.length)))) fun e11=>bnd (evP (rows++maskE 0 e11) (.loadN 3 (.c (lk l 2)))) fun v12=>bnd (evP (rows++maskE 0 e11) (.idxA 3 1 (.c (lk l 5)) (.c (.int .i64 0)))) fun v13=>bnd (evP (rows++maskE 8192 e11) (.load1 (.c v13))) fun v14=>bnd (evP (rows++maskE 0 e11) (.idxA 3 1 (.c (lk l 5)) (.c (.int .i64 2)))) fun v15=>bnd (evP (rows++maskE 32768 e11) (.load1 (.c v15))) fun v16=>bnd (Ret F 60 [v12,v14,v16] (rows++List.map (fun(x:Nat×Row)=>x.2) e11)) fun q17=>bnd (evP q17.2.1 (.mkagg [.int .i64 0,.int .i64 0,.int .i64 0] [(0,1,(.c q5.1)),(1,1,(.c q11.1)),(2,1,(.c q17.1))])) fun v18=>bnd (evE q17.2.1 (lowO low q17.2.2) (.storeN 3 (.c (lk l 4)) (.c v18))) fun q19=>Ex F cx k ⟨mk 30 ([(29,v18),(28,q17.1),(27,v16),(26,v15),(25,v14),(24,v13),(23,v12),(22,q11.1),(21,v10),(20,v9),(19,v8),(18,v7),(17,v6),(16,q5.1),(15,v4),(14,v3),(13,v2),(12,v1),(11,v0)]++kp l qq132),q19.2.1,q19.2.2⟩ r:=rg qq132 c89r0 rfl (by kernel_rfl)
@[simp] theorem uc89s1:U c89s1 (.seq c89k0 .ret):=ur
@[simp] theorem uc89k2:Ex F cx (.code c89k2::k) ⟨mk 30 l,rows,low⟩ r↔bnd (evP rows (.fieldA 2 (.c (lk l 2)))) fun v0=>bnd (evP rows (.load1 (.c v0))) fun v1=>bnd (evP rows (.idxS 3 (.c v1) (.c (lk l 1)))) fun v2=>bnd (evP rows (.loadN 3 (.c v2))) fun v3=>bnd (evE rows low (.box (.c (.agg [.int .i64 0,.int .i64 0,.int .i64 0])))) fun q4=>bnd (evE q4.2.1 q4.2.2 (.storeN 3 (.c q4.1) (.c v3))) fun q5=>Ex F cx k ⟨mk 30 ([(5,q4.1),(10,v3),(9,v2),(8,lk l 1),(7,v1),(6,v0)]++kp l qq80),q5.2.1,q5.2.2⟩ r:=rg qq80 c89r2 rfl (by kernel_rfl)
@[simp] theorem uc89s3:U c89s3 (.seq c89k2 c89s1):=ur
@[simp] theorem uc89k4:Ex F cx (.code c89k4::k) ⟨mk 30 l,rows,low⟩ r↔bnd (evE rows low (.box (.c (lk l 0)))) fun q0=>bnd (evE q0.2.1 q0.2.2 (.box (.c (.agg [.int .i64 0,.int .i64 0,.int .i64 0])))) fun q1=>Ex F cx k ⟨mk 30 [(4,q1.1),(2,q0.1),(0,lk l 0),(1,lk l 1)],q1.2.1,q1.2.2⟩ r:=rg qq21 c89r4 rfl (by kernel_rfl)
@[simp] theorem uc89b:U c89b (.seq c89k4 c89s3):=ur
theorem i89{x0 x1:AV}(hF:F 89=some c89){q:AV×List Row×Option Nat}(h:Ex F (.fn [.cellN 4 3]) [.code c89b] ⟨mk 30 [(0,x0),(1,x1)],rows,rows.length⟩ fun r=>fin rows r.1 r.2.1 r.2.2=q):Ret F 89 [x0,x1] rows=some q:=Ret_mk hF h
@[simp] abbrev Kc93l0:List Itm:=.inLoop c93l0::.inBlock 0::[]
@[simp] theorem uc93k1:Ex F cx (.code c93k1::k) ⟨mk 52 l,rows,low⟩ r↔bnd (evP rows (.bin .add (.c (lk l 16)) (.c (.int .i64 1)))) fun v0=>Ex F cx k ⟨mk 52 ([(16,v0),(51,v0)]++kp l qq29),rows,low⟩ r:=rg qq29 c93r1 rfl (by kernel_rfl)
@[simp] theorem uc93s2:U c93s2 (.cond (.t 50) .ret .skip):=ur
@[simp] theorem uc93k3:Ex F cx (.code c93k3::k) ⟨mk 52 l,rows,low⟩ r↔bnd (evP rows (.bin .neq (.c (lk l 7)) (.c (.int .i64 0)))) fun v0=>bnd (gv v0 true (evP rows (.mv (.c (lk l 0))))) fun v1=>bnd (gv v0 true (evP rows (.mv (.c (lk l 5))))) fun v2=>bnd (gv v0 true (evP rows (.mv (.c (lk l 7))))) fun v3=>gcall F v0 true rows low [v2,v3] [] v1 fun v4 R4 L4=>bnd (gv v0 true (evP R4 (.un .not (.c v4)))) fun v5=>bnd (evP R4 (.pick (.c v0) (.c v5) (.c (.bool false)))) fun v6=>Ex F cx k ⟨mk 52 ([(50,v6),(49,v5),(48,v4),(47,v3),(46,v2),(45,v1),(44,v0),(43,v0),(42,lk l 7)]++kp l qq34),R4,L4⟩ r:=rg qq34 c93r3 rfl (by kernel_rfl)
@[simp] theorem uc93s4:U c93s4 (.seq c93k3 c93s2):=ur
@[simp] theorem uc93k5:Ex F cx (.code c93k5::k) ⟨mk 52 l,rows,low⟩ r↔Ex F cx k ⟨mk 52 ([(7,(.int .i64 1))]++kp l qq30),rows,low⟩ r:=rg qq30 c93r5 rfl (by kernel_rfl)
@[simp] theorem uc93k6:Ex F cx (.code c93k6::k) ⟨mk 52 l,rows,low⟩ r↔Ex F cx k ⟨mk 52 ([(7,(.int .i64 (-1)))]++kp l qq30),rows,low⟩ r:=rg qq30 c93r6 rfl (by kernel_rfl)
@[simp] theorem uc93s7:U c93s7 (.cond (.t 35) c93k6 .skip):=ur
@[simp] theorem uc93k8:Ex F cx (.code c93k8::k) ⟨mk 52 l,rows,low⟩ r↔bnd (evP rows (.idxA 3 1 (.c (lk l 4)) (.c (.int .i64 0)))) fun v0=>bnd (evP rows (.load1 (.c v0))) fun v1=>bnd (evP rows (.idxA 3 1 (.c (lk l 4)) (.c (.int .i64 2)))) fun v2=>bnd (evP rows (.load1 (.c v2))) fun v3=>bnd (evP rows (.mkagg [.int .i64 0,.int .i64 0] [(0,1,(.c v1)),(1,1,(.c v3))])) fun v4=>bnd (evP rows (.eqv false (.ints 2) (.c (lk l 21)) (.c v4))) fun v5=>Ex F cx k ⟨mk 52 ([(35,v5),(41,v5),(40,v4),(39,v3),(38,v2),(37,v1),(36,v0)]++kp l qq33),rows,low⟩ r:=rg qq33 c93r8 rfl (by kernel_rfl)
@[simp] theorem uc93s9:U c93s9 (.cond (.t 22) c93k5 (.seq c93k8 c93s7)):=ur
@[simp] theorem uc93k10:Ex F cx (.code c93k10::k) ⟨mk 52 l,rows,low⟩ r↔bnd (evP rows (.idxA 3 1 (.c (lk l 4)) (.c (.int .i64 1)))) fun v0=>bnd (evP rows (.load1 (.c v0))) fun v1=>bnd (evP rows (.idxA 3 1 (.c (lk l 4)) (.c (.int .i64 2)))) fun v2=>bnd (evP rows (.load1 (.c v2))) fun v3=>bnd (evP rows (.mkagg [.int .i64 0,.int .i64 0] [(0,1,(.c v1)),(1,1,(.c v3))])) fun v4=>bnd (evP rows (.eqv false (.ints 2) (.c (lk l 21)) (.c v4))) fun v5=>Ex F cx k ⟨mk 52 ([(22,v5),(34,v5),(33,v4),(32,v3),(31,v2),(30,v1),(29,v0)]++kp l qq33),rows,low⟩ r:=rg qq33 c93r10 rfl (by kernel_rfl)
@[simp] theorem uc93s11:U c93s11 (.cond (.t 22) .skip c93k10):=ur
@[simp] theorem uc93k12:Ex F cx (.code c93k12::k) ⟨mk 52 l,rows,low⟩ r↔bnd (evP rows (.idxA 3 1 (.c (lk l 4)) (.c (.int .i64 0)))) fun v0=>bnd (evP rows (.load1 (.c v0))) fun v1=>bnd (evP rows (.idxA 3 1 (.c (lk l 4)) (.c (.int .i64 1)))) fun v2=>bnd (evP rows (.load1 (.c v2))) fun v3=>bnd (evP rows (.mkagg [.int .i64 0,.int .i64 0] [(0,1,(.c v1)),(1,1,(.c v3))])) fun v4=>bnd (evP rows (.eqv false (.ints 2) (.c (lk l 21)) (.c v4))) fun v5=>Ex F cx k ⟨mk 52 ([(22,v5),(28,v5),(27,v4),(26,v3),(25,v2),(24,v1),(23,v0)]++kp l qq33),rows,low⟩ r:=rg qq33 c93r12 rfl (by kernel_rfl)
@[simp] theorem uc93s13:U c93s13 (.block 2 (.seq (.seq c93k12 c93s11) c93s9)):=ur
@[simp] theorem uc93k14:Ex F cx (.code c93k14::k) ⟨mk 52 l,rows,low⟩ r↔bnd (evP rows (.loadN 2 (.c (lk l 6)))) fun v0=>Ex F cx k ⟨mk 52 ([(21,v0)]++kp l qq32),rows,low⟩ r:=rg qq32 c93r14 rfl (by kernel_rfl)
@[simp] theorem uc93s15:U c93s15 (.seq (.seq c93k14 c93s13) c93s4):=ur
@[simp] theorem uc93k16:Ex F cx (.code c93k16::k) ⟨mk 52 l,rows,low⟩ r↔Ex F cx k ⟨mk 52 ([(7,(.int .i64 0))]++kp l qq31),rows,low⟩ r:=rg qq31 c93r16 rfl (by kernel_rfl)
@[simp] theorem uc93s17:U c93s17 (.seq c93k16 c93s15):=ur
@[simp] theorem uc93k18:Ex F cx (.code c93k18::k) ⟨mk 52 l,rows,low⟩ r↔bnd (evP rows (.idxS 2 (.c (lk l 14)) (.c (lk l 16)))) fun v0=>bnd (evP rows (.loadN 2 (.c v0))) fun v1=>bnd (evE rows low (.box (.c (.agg [.int .i64 0,.int .i64 0])))) fun q2=>bnd (evE q2.2.1 q2.2.2 (.storeN 2 (.c q2.1) (.c v1))) fun q3=>Ex F cx k ⟨mk 52 ([(5,lk l 16),(6,q2.1),(20,v1),(19,v0),(18,lk l 16)]++kp l qq29),q3.2.1,q3.2.2⟩ r:=rg qq29 c93r18 rfl (by kernel_rfl)
@[simp] theorem uc93s19:U c93s19 (.seq (.block 1 (.seq c93k18 c93s17)) c93k1):=ur
@[simp] theorem uc93s20:U c93s20 (.seq (.cond (.t 17) .skip (.exit 0)) c93s19):=ur
@[simp] theorem uc93k21:Ex F cx (.code c93k21::k) ⟨mk 52 l,rows,low⟩ r↔bnd (evP rows (.bin .lss (.c (lk l 16)) (.c (lk l 15)))) fun v0=>Ex F cx k ⟨mk 52 ([(17,v0)]++kp l qq29),rows,low⟩ r:=rg qq29 c93r21 rfl (by kernel_rfl)
@[simp] theorem uc93s22:U c93s22 (.block 0 (.loop c93l0)):=ur
@[simp] theorem uc93k23:Ex F cx (.code c93k23::k) ⟨mk 52 l,rows,low⟩ r↔bnd (evP rows (.fieldA 1 (.c (lk l 1)))) fun v0=>bnd (evP rows (.load1 (.c v0))) fun v1=>bnd (evP rows (.len 0 (.c v1))) fun v2=>Ex F cx k ⟨mk 52 ([(16,(.int .i64 0)),(15,v2),(14,v1),(13,v0)]++kp l qq4),rows,low⟩ r:=rg qq4 c93r23 rfl (by kernel_rfl)
@[simp] theorem uc93s24:U c93s24 (.seq c93k23 c93s22):=ur
@[simp] theorem uc93k25:Ex F cx (.code c93k25::k) ⟨mk 52 l,rows,low⟩ r↔bnd (evP rows (.fieldA 2 (.c (lk l 1)))) fun v0=>bnd (evP rows (.load1 (.c v0))) fun v1=>bnd (evP rows (.load1 (.c (lk l 2)))) fun v2=>bnd (evP rows (.idxS 3 (.c v1) (.c v2))) fun v3=>bnd (evP rows (.loadN 3 (.c v3))) fun v4=>bnd (evE rows low (.box (.c (.agg [.int .i64 0,.int .i64 0,.int .i64 0])))) fun q5=>bnd (evE q5.2.1 q5.2.2 (.storeN 3 (.c q5.1) (.c v4))) fun q6=>Ex F cx k ⟨mk 52 ([(4,q5.1),(12,v4),(11,v3),(10,v2),(9,v1),(8,v0)]++kp l qq0),q6.2.1,q6.2.2⟩ r:=rg qq0 c93r25 rfl (by kernel_rfl)
def Jc93s4(F:Nat->Option IFn)(cx:Ctx)(x0 x4 x5 x7 x14 x15 x16:AV)(rows:List Row)(low:Nat)(r:AV×List Row×Nat->Prop):Prop:=Ex F cx (.code c93s4::.inBlock 1::.code c93k1::Kc93l0) ⟨mk 52 [(0,x0),(4,x4),(5,x5),(7,x7),(14,x14),(15,x15),(16,x16)],rows,low⟩ r
theorem jc93s4:Ex F cx (.code c93s4::.inBlock 1::.code c93k1::Kc93l0) ⟨mk 52 l,rows,low⟩ r↔Jc93s4 F cx (lk l 0) (lk l 4) (lk l 5) (lk l 7) (lk l 14) (lk l 15) (lk l 16) rows low r:=Ex_canon (keep:=qq34) (by kernel_rfl)
def Lc93l0(F:Nat->Option IFn)(cx:Ctx)(x0 x4 x14 x15 x16:AV)(rows:List Row)(low:Nat)(r:AV×List Row×Nat->Prop):Prop:=Ex F cx (.code c93l0::Kc93l0) ⟨mk 52 [(0,x0),(4,x4),(14,x14),(15,x15),(16,x16)],rows,low⟩ r
@[simp] theorem nc93l0:Ex F cx (Kc93l0) ⟨mk 52 l,rows,low⟩ r↔Lc93l0 F cx (lk l 0) (lk l 4) (lk l 14) (lk l 15) (lk l 16) rows low r:=loopN (keep:=qq29) (by kernel_rfl)
@[simp] theorem ec93l0:Ex F cx (.code (.loop c93l0)::.inBlock 0::[]) ⟨mk 52 l,rows,low⟩ r↔Lc93l0 F cx (lk l 0) (lk l 4) (lk l 14) (lk l 15) (lk l 16) rows low r:=loopE (keep:=qq29) (by kernel_rfl)
@[simp] theorem uc93l0:U c93l0 (.seq c93k21 c93s20):=ur
@[simp] theorem uc93b:U c93b (.seq c93k25 c93s24):=ur
end Go.Abs
namespace Go.Abs
section
variable {rows:List Row}{N:Nat}{ks ps:List Nat}{g v:AV}{l:List Int}
def LRet1(f:Nat)(vs:List AV)(rows:List Row)(l:List Int):Prop:=∃v X,Ret F f vs rows=some (v,rows++X,none)/\X.all (Row.under 0)=true/\IsL (rows++X) v l/\Cp 1 v
end
end Go.Abs
namespace Go.Abs
section
variable {rows:List Row}{N:Nat}{ks ps:List Nat}{g v:AV}{l:List Int}
theorem set_fill{a:List Int}{x:Int}{d i:Nat}(h:a.length=i):(a++List.replicate (d+1) 0).set i x=(a++[x])++List.replicate d 0:=by
 rw[List.set_append_right _ _ (by omega),h,Nat.sub_self,List.replicate_succ]
 simp
end
end Go.Abs
namespace Go.Abs
theorem rep_nums{m:Nat}:List.replicate m (AV.int .i64 0)=nums .i64 (List.replicate m 0):=by simp[nums]
section
variable {rows:List Row}{N:Nat}{ks ps:List Nat}{g v:AV}{l:List Int}
end
end Go.Abs
namespace Go.Abs
def Sm(b o:Nat)(R R':List Row):Prop:=b<=R'.length/\∀id,id<b->id≠o->R'[id]?=R[id]?
section
variable {b o:Nat}{R R' R'':List Row}
theorem Sm_refl(h:b<=R.length):Sm b o R R:=⟨h,fun _ _ _=>rfl⟩
theorem Sm_app(h:Sm b o R R')(X:List Row):Sm b o R (R'++X):=⟨by rw[List.length_append];exact Nat.le_trans h.1 (Nat.le_add_right _ _),fun id h1 h2=>by
 rw[List.getElem?_append_left (Nat.lt_of_lt_of_le h1 h.1)];exact h.2 id h1 h2⟩
theorem Sm_set(h:Sm b o R R'){i:Nat}{x:Row}(hi:i=o\/b<=i):Sm b o R (R'.set i x):=⟨by rw[List.length_set];exact h.1,fun id h1 h2=>by
 rw[List.getElem?_set_ne (by omega)];exact h.2 id h1 h2⟩
theorem Sm_take(h:Sm b o R R'){n:Nat}(hn:b<=n):Sm b o R (R'.take n):=⟨by rw[List.length_take];have:=h.1;omega,fun id h1 h2=>by
 rw[List.getElem?_take_of_lt (by omega)];exact h.2 id h1 h2⟩
theorem Sm_trans(h:Sm b o R R'){b':Nat}(h2:Sm b' o R' R'')(hb:b<=b'):Sm b o R R'':=⟨Nat.le_trans hb h2.1,fun id k1 k2=>(h2.2 id (by omega) k2).trans (h.2 id k1 k2)⟩
theorem Sm_row(h:Sm b o R R'){id:Nat}{vs:List AV}(hr:row? R id=some vs)(h1:id<b)(h2:id≠o):row? R' id=some vs:=by
 unfold row? at *
 rw[h.2 id h1 h2]
 exact hr
theorem Sm_El(h:Sm b o R R'){sz n:Nat}{v:AV}{cs:List AV}(he:El R sz v cs n)(h1:v = .nilslice\/(sid v<b/\sid v≠o)):El R' sz v cs n:=by
 rcases El_cases he with ⟨rfl,rfl,rfl⟩|⟨id,off,c,vs,rfl,hr,hs⟩
 ·exact El_nil
 ·rcases h1 with h1|⟨h1,h2⟩
  ·simp at h1
  ·have:=Sm_row h hr h1 h2
   unfold El elems
   simp only[this,hs]
   rfl
end
theorem El_lt{R:List Row}{sz n:Nat}{v:AV}{cs:List AV}(he:El R sz v cs n):v = .nilslice\/sid v<R.length:=by
 rcases El_cases he with ⟨rfl,_⟩|⟨id,off,c,vs,rfl,hr,_⟩
 ·exact .inl rfl
 ·exact .inr (row?_lt hr)
theorem row_end{B:List Row}{vs:List AV}:row? (B++[.cells vs]) B.length=some vs:=by simp[row?]
theorem cell_end{B:List Row}{vs:List AV}:cells? (B++[.cells vs]) B.length=some vs:=by simp[cells?]
theorem round_end{F:Nat->Option IFn}{M low:Nat}{R:List Row}{sl SL:List AV}{ds:List Nat}{asg body:ICode}{r:AV×List Row×Nat->Prop}(hM:R[M]?=some (.loop .busy none SL ds asg body)):
  Ex F (.round M) [] ⟨sl,R,low⟩ r↔r (.bool true,R.set M (.loop .ready none SL ds asg body),lower low M):=by
 rw[Ex_nil]
 have e:leaveV (.round M) none ⟨sl,R,low⟩=some (.bool true,R.set M (.loop .ready none SL ds asg body),lower low M):=by
  unfold leaveV;simp only[hM];rfl
 constructor
 ·rintro ⟨x,hx,h⟩
  rw[e]at hx
  injection hx with hx
  subst hx
  exact h
 ·intro h
  exact⟨_,e,h⟩
theorem round_put{R:List Row}{M o:Nat}{l y x:Row}(hM:R[M]?=some l)(ho:o<M):
  (((R.set M y).set o x).set M l).length=R.length/\(∀id,id≠o->(((R.set M y).set o x).set M l)[id]?=R[id]?)/\(((R.set M y).set o x).set M l)[o]?=some x:=by
 have hMl:=(List.getElem?_eq_some_iff.1 hM).1
 refine⟨by simp,?_,?_⟩
 ·intro id h
  by_cases c:id=M
  ·subst c
   rw[List.getElem?_set_self (by simp;exact hMl),hM]
  ·rw[List.getElem?_set_ne (by omega),List.getElem?_set_ne (by omega),List.getElem?_set_ne (by omega)]
 ·rw[List.getElem?_set_ne (by omega),List.getElem?_set_self (by simp;omega)]
end Go.Abs
namespace Go.Abs
def sgn(q k:Nat):Int:=if(k/6=q/36/\k%6=q/6%6)\/(k/6=q/6%6/\k%6=q%6)then 1 else if k/6=q/36/\k%6=q%6 then -1 else 0
def sdS(q:Nat)(ks:List Nat)(upd:Nat->Int->List Int->List Int)(c:List Int):Nat->List Int
 |0=>c
 |i+1=>if sgn q (gN ks i)=0 then sdS q ks upd c i else upd i (sgn q (gN ks i)) (sdS q ks upd c i)
section
variable {rows:List Row}{N:Nat}{ks ps:List Nat}
theorem sides_ret{n0 ev pv:AV}{i:Int}(h0:n0.one=true)(h1:ev.one=true)(h2:pv.one=true):Ret F 62 [.agg [n0,ev,pv],.int .i64 i] rows=some (.func 93 [.ptr rows.length 0,.ptr (rows.length+1) 0],rows++[.cells [n0,ev,pv],.cells [.int .i64 i]],none):=by
 refine i62 F62 ?_
 simp[AV.cells,h0,h1,h2,fin]
theorem eq2{k:IntKind}{a b c d:Nat}:eqInts [.int k a,.int k b] [.int k c,.int k d]=some (decide (a=c/\b=d)):=by
 simp[eqInts]
 by_cases h1:a=c<;>by_cases h2:b=d<;>simp[h1,h2,Int.natCast_inj]
set_option maxHeartbeats 8000000 in
theorem sides_head{y ev:AV}{P low m i A C qa qb qc:Nat}{R:List Row}{fl:List Int}{S:Int}{r:AV×List Row×Nat->Prop}(hi:i<m)(he':El R 2 ev (nums .i64 fl) m)(hlw:lower low R.length=low)(e1:gI fl (i*2)=A)(e2:gI fl (i*2+1)=C)
  (hP':row? (R++[.cells [.int .i64 A,.int .i64 C]]) P=some [.int .i64 qa,.int .i64 qb,.int .i64 qc])
  (hsgn:S=if(A=qa/\C=qb)\/(A=qb/\C=qc)then 1 else if A=qa/\C=qc then -1 else 0):
  Lc93l0 F (.fn []) y (.ptr P 0) ev (.int .i64 m) (.int .i64 i) R low r↔Jc93s4 F (.fn []) y (.ptr P 0) (.int .i64 i) (.int .i64 S) ev (.int .i64 m) (.int .i64 i) (R++[.cells [.int .i64 A,.int .i64 C]]) low r:=by
 have q1:=eq2 (k:=.i64) (a:=A) (b:=C) (c:=qa) (d:=qb)
 have q2:=eq2 (k:=.i64) (a:=A) (b:=C) (c:=qb) (d:=qc)
 have q3:=eq2 (k:=.i64) (a:=A) (b:=C) (c:=qa) (d:=qc)
 have i02:idx? 2 3=some 2:=rfl
 have i03:idx? 0 3=some 0:=rfl
 have i13:idx? 1 3=some 1:=rfl
 have ix:=idxW he' hi
 have ld:=ldW2 he' hi
 rw[e1,e2]at ld
 unfold Lc93l0
 by_cases c1:A=qa/\C=qb
 ·rw[decide_eq_true c1]at q1
  rw[if_pos (.inl c1)]at hsgn
  subst hsgn
  simp[hi,ix,ld,AV.cells,splice,hlw,i02,i03,i13,seg,fillA,q1,hP',-uc93s4,jc93s4]
 ·rw[decide_eq_false c1]at q1
  by_cases c2:A=qb/\C=qc
  ·rw[decide_eq_true c2]at q2
   rw[if_pos (.inr c2)]at hsgn
   subst hsgn
   simp[hi,ix,ld,AV.cells,splice,hlw,i02,i03,i13,seg,fillA,q1,q2,hP',-uc93s4,jc93s4]
  ·rw[decide_eq_false c2]at q2
   rw[if_neg (by intro h;rcases h with h|h;exact c1 h;exact c2 h)]at hsgn
   by_cases c3:A=qa/\C=qc
   ·rw[decide_eq_true c3]at q3
    rw[if_pos c3]at hsgn
    subst hsgn
    simp[hi,ix,ld,AV.cells,splice,hlw,i02,i03,i13,seg,fillA,q1,q2,q3,hP',-uc93s4,jc93s4]
   ·rw[decide_eq_false c3]at q3
    rw[if_neg c3]at hsgn
    subst hsgn
    simp[hi,ix,ld,AV.cells,splice,hlw,i02,i03,i13,seg,fillA,q1,q2,q3,hP',-uc93s4,jc93s4]
set_option maxHeartbeats 8000000 in
theorem sides_loop{M b o:Nat}{sl:List AV}{asg body:ICode}{d1 d2 q P:Nat}{ev:AV}{R0:List Row}{upd:Nat->Int->List Int->List Int}{c0:List Int}(hks:ks.length<=10)(hb:b=R0.length)(hMb:M<b)(hMo:M≠o)(hob:o<b)
  (he:El R0 2 ev (nums .i64 (eC ks)) ks.length) (heo:sid ev≠o) (hL:R0[M]?=some (.loop .ready none sl [d1,d2] asg body)) (hP:row? R0 P=some [.int .i64 (q/36:Nat),.int .i64 (q/6%6:Nat),.int .i64 (q%6:Nat)]) (hPo:P≠o)
  (hbody:∀(R:List Row) (i:Nat),Sm b o R0 R->R[o]?=some (.cells (nums .i64 (sdS q ks upd c0 i)))->i<ks.length->sgn q (gN ks i)≠0->Ex F (.round M) [.code asg,.rfBegin,.code body] ⟨putL sl [d1,d2] [.int .i64 i,.int .i64 (sgn q (gN ks i))],R,R.length⟩ fun x=>
   x.1 = .bool true/\x.2.1.length=R.length/\(∀id,id≠o->x.2.1[id]?=R[id]?)/\x.2.1[o]?=some (.cells (nums .i64 (upd i (sgn q (gN ks i)) (sdS q ks upd c0 i))))/\x.2.2=min M o)
  {r:AV×List Row×Nat->Prop} {lw0:Nat} (hlw0:lw0<=b) (hend:∀R low,Sm b o R0 R->R[o]?=some (.cells (nums .i64 (sdS q ks upd c0 ks.length)))->(low=lw0/\sdS q ks upd c0 ks.length=c0\/low=min lw0 (min M o))->r (.tup [],R,low)):
  ∀(n i:Nat) (R:List Row) (low:Nat),ks.length-i=n->i<=ks.length->Sm b o R0 R->R[o]?=some (.cells (nums .i64 (sdS q ks upd c0 i)))->(low=lw0/\sdS q ks upd c0 i=c0\/low=min lw0 (min M o))->
  Lc93l0 F (.fn []) (.yield M) (.ptr P 0) ev (.int .i64 ks.length) (.int .i64 i) R low r:=by
 intro n
 induction n with
 |
  zero=>
  intro i R low hn h1 hS hC hlow
  have:i=ks.length:=by omega
  subst this
  have:=hend R low hS hC hlow
  unfold Lc93l0
  simp
  exact this
 |
  succ n ih=>
  intro i R low hn h1 hS hC hlow
  have hi:i<ks.length:=by omega
  have hPb:P<b:=hb ▸ row?_lt hP
  have hw:IntKind.i64.wrap ((i:Int)+1)=((i+1:Nat):Int):=by rw[wrap64 (by omega) (by omega)];omega
  have he':El R 2 ev (nums .i64 (eC ks)) ks.length:=Sm_El hS he (by rcases El_lt he with h|h;exact .inl h;exact .inr ⟨by omega,heo⟩)
  have hP':=row?_old (Sm_row hS hP hPb hPo) [.cells [.int .i64 (gN ks i/6:Nat),.int .i64 (gN ks i%6:Nat)]]
  obtain⟨e1,e2⟩:=eC_a hi
  have hRb:=hS.1
  have hlw:lower low R.length=low:=lower_ge' (by omega)
  have hS1:=Sm_app hS [.cells [.int .i64 (gN ks i/6:Nat),.int .i64 (gN ks i%6:Nat)]]
  have hC1:(R++[Row.cells [.int .i64 (gN ks i/6:Nat),.int .i64 (gN ks i%6:Nat)]])[o]?=some (.cells (nums .i64 (sdS q ks upd c0 i))):=by
   rw[List.getElem?_append_left (by omega)];exact hC
  have hL1:(R++[Row.cells [.int .i64 (gN ks i/6:Nat),.int .i64 (gN ks i%6:Nat)]])[M]?=some (.loop .ready none sl [d1,d2] asg body):=(hS1.2 M hMb hMo).trans hL
  have hskip:=ih (i+1) _ low (by omega) (by omega) hS1
  have hround:=hbody _ i hS1 hC1 hi
  have hsgn:sgn q (gN ks i)=if(gN ks i/6=q/36/\gN ks i%6=q/6%6)\/(gN ks i/6=q/6%6/\gN ks i%6=q%6)then 1 else if gN ks i/6=q/36/\gN ks i%6=q%6 then -1 else 0:=rfl
  have hsd:sdS q ks upd c0 (i+1)=if sgn q (gN ks i)=0 then sdS q ks upd c0 i else upd i (sgn q (gN ks i)) (sdS q ks upd c0 i):=rfl
  rw[hsd]at hskip
  have hstep:sgn q (gN ks i)≠0->Ex F (.round M) [.code asg,.rfBegin,.code body] ⟨putL sl [d1,d2] [.int .i64 i,.int .i64 (sgn q (gN ks i))],R++[.cells [.int .i64 (gN ks i/6:Nat),.int .i64 (gN ks i%6:Nat)]],(R++[Row.cells [.int .i64 (gN ks i/6:Nat),.int .i64 (gN ks i%6:Nat)]]).length⟩ fun x=>
    x.1 = .bool true/\Lc93l0 F (.fn []) (.yield M) (.ptr P 0) ev (.int .i64 ks.length) (.int .i64 ((i+1:Nat):Int)) (gc (R++[Row.cells [.int .i64 (gN ks i/6:Nat),.int .i64 (gN ks i%6:Nat)]]).length (lower low x.2.2) x.1 x.2.1) (lower low x.2.2) r:=by
   intro hs
   obtain⟨m,x,e,k1,k2,k3,k4,k5⟩:=hround hs
   refine⟨m,x,e,k1,?_⟩
   have hgc:gc (R++[Row.cells [.int .i64 (gN ks i/6:Nat),.int .i64 (gN ks i%6:Nat)]]).length (lower low x.2.2) x.1 x.2.1=x.2.1:=by
    rcases gc_cases (R++[Row.cells [.int .i64 (gN ks i/6:Nat),.int .i64 (gN ks i%6:Nat)]]).length (lower low x.2.2) x.1 x.2.1 with h|⟨h,_⟩
    ·exact h
    ·rw[h];exact List.take_of_length_le (by omega)
   rw[hgc]
   refine ih (i+1) _ _ (by omega) (by omega) ⟨by rw[k2];exact hS1.1,fun id a1 a2=>(k3 id a2).trans (hS1.2 id a1 a2)⟩ ?_ ?_
   ·rw[hsd,if_neg hs];exact k4
   ·right
    rw[k5]
    rcases hlow with ⟨h,_⟩|h<;>rw[h]<;>unfold lower<;>split<;>omega
  have i02:idx? 2 3=some 2:=rfl
  have i03:idx? 0 3=some 0:=rfl
  have i13:idx? 1 3=some 1:=rfl
  generalize sgn q (gN ks i)=S at *
  generalize gN ks i/6=A at *
  generalize gN ks i%6=C at *
  generalize q/36=qa at *
  generalize q/6%6=qb at *
  generalize q%6=qc at *
  have q1:=eq2 (k:=.i64) (a:=A) (b:=C) (c:=qa) (d:=qb)
  have q2:=eq2 (k:=.i64) (a:=A) (b:=C) (c:=qb) (d:=qc)
  have q3:=eq2 (k:=.i64) (a:=A) (b:=C) (c:=qa) (d:=qc)
  have no:S=0->Lc93l0 F (.fn []) (.yield M) (.ptr P 0) ev (.int .i64 ks.length) (.int .i64 ((i+1:Nat):Int)) (R++[.cells [.int .i64 A,.int .i64 C]]) low r:=fun h=>by
   rw[if_pos h]at hskip
   exact hskip hC1 (by rcases hlow with ⟨h1,h2⟩|h1;exact .inl ⟨h1,h2⟩;exact .inr h1)
  have nope:S=0->Jc93s4 F (.fn []) (.yield M) (.ptr P 0) (.int .i64 i) (.int .i64 0) ev (.int .i64 ks.length) (.int .i64 i) (R++[.cells [.int .i64 A,.int .i64 C]]) low r:=fun h=>by
   have:=no h
   unfold Jc93s4
   simp[hw]
   simpa using this
  have yes:S≠0->Jc93s4 F (.fn []) (.yield M) (.ptr P 0) (.int .i64 i) (.int .i64 S) ev (.int .i64 ks.length) (.int .i64 i) (R++[.cells [.int .i64 A,.int .i64 C]]) low r:=fun h=>by
   obtain⟨m,x,e,hx1,hx2⟩:=hstep h
   unfold Jc93s4
   simp[h]
   rw[callK_y hL1 rfl]
   refine⟨m,x,e,?_⟩
   rw[hx1]at hx2
   simp only[hx1]
   simp[hw]
   simpa using hx2
  rw[sides_head (S:=S) hi he' hlw e1 e2 hP' hsgn]
  by_cases c:S=0
  ·have:=nope c
   rw[<-c]at this
   exact this
  ·exact yes c
end
end Go.Abs
namespace Go.Abs
section
variable {rows:List Row}{N:Nat}{ks ps:List Nat}
set_option maxHeartbeats 8000000 in
theorem sides_rf{res:List RV}{f:Opd}{k:List Itm}{sl:List AV}{asg body:ICode}{d1 d2 p ga pa o low:Nat}{n0 ev pv:AV}{Rb:List Row}{upd:Nat->Int->List Int->List Int}{c0:List Int}{r:AV×List Row×Nat->Prop}(hks:ks.length<=10)(hp:p<ps.length)
  (hf:getO sl f = .func 93 [.ptr ga 0,.ptr pa 0]) (hga:row? Rb ga=some [n0,ev,pv]) (hpa:row? Rb pa=some [.int .i64 p]) (he:El Rb 2 ev (nums .i64 (eC ks)) ks.length) (hpv:El Rb 3 pv (nums .i64 (pC ps)) ps.length)
  (hlo:low<=o) (ho:o<Rb.length) (heo:sid ev≠o) (hc0:Rb[o]?=some (.cells (nums .i64 c0)))
  (hbody:∀(R:List Row) (i:Nat),Sm Rb.length o Rb R->R[Rb.length]?=some (.loop .ready none sl [d1,d2] asg body)->R[o]?=some (.cells (nums .i64 (sdS (gN ps p) ks upd c0 i)))->i<ks.length->sgn (gN ps p) (gN ks i)≠0->Ex F (.round Rb.length) [.code asg,.rfBegin,.code body] ⟨putL sl [d1,d2] [.int .i64 i,.int .i64 (sgn (gN ps p) (gN ks i))],R,R.length⟩ fun x=>
   x.1 = .bool true/\x.2.1.length=R.length/\(∀id,id≠o->x.2.1[id]?=R[id]?)/\x.2.1[o]?=some (.cells (nums .i64 (upd i (sgn (gN ps p) (gN ks i)) (sdS (gN ps p) ks upd c0 i))))/\x.2.2=min Rb.length o)
  (hend:∀R,Sm Rb.length o Rb R->R[o]?=some (.cells (nums .i64 (sdS (gN ps p) ks upd c0 ks.length)))->Ex F (.fn res) k ⟨sl,R,low⟩ r):
  Ex F (.fn res) (.code (.rf f [d1,d2] asg body)::k) ⟨sl,Rb,low⟩ r:=by
 rw[Ex_rf]
 refine⟨rfl,(93,[.yield Rb.length,.ptr ga 0,.ptr pa 0]),by rw[hf];rfl,?_⟩
 obtain⟨R0c,hR0⟩:∃R0c,R0c=Rb++[Row.loop .ready none sl [d1,d2] asg body]:=⟨_,rfl⟩
 rw[<-hR0]
 have hlen:R0c.length=Rb.length+1:=by rw[hR0];simp
 have hS0:Sm Rb.length o Rb R0c:=by rw[hR0];exact Sm_app (Sm_refl (Nat.le_refl _)) _
 have hL0:R0c[Rb.length]?=some (.loop .ready none sl [d1,d2] asg body):=by rw[hR0];simp
 have hga':row? R0c ga=some [n0,ev,pv]:=by rw[hR0];exact row?_old hga _
 have hpa':row? R0c pa=some [.int .i64 p]:=by rw[hR0];exact row?_old hpa _
 have he':El R0c 2 ev (nums .i64 (eC ks)) ks.length:=by rw[hR0];exact El_app he _
 have hpv':El R0c 3 pv (nums .i64 (pC ps)) ps.length:=by rw[hR0];exact El_app hpv _
 obtain⟨P0,hP0⟩:∃P0:Row,P0 = .cells [.int .i64 (gN ps p/36:Nat),.int .i64 (gN ps p/6%6:Nat),.int .i64 (gN ps p%6:Nat)]:=⟨_,rfl⟩
 let after:AV×List Row×Option Nat->Prop:=fun q=>∃z,afterLoop Rb.length low q.2.1 q.2.2=some z/\Ex F (.fn res) (z.1++k) ⟨sl,z.2.1,z.2.2⟩ r
 -- what is left, seen from outside
 have hafter:∀(R:List Row) (d:Option Nat),lowO low d=low->R[Rb.length]?=some (.loop .ready none sl [d1,d2] asg body)->Sm Rb.length o Rb R->R[o]?=some (.cells (nums .i64 (sdS (gN ps p) ks upd c0 ks.length)))->after (.tup [],R,d):=by
  intro R d hd hM hS hC
  have hal:afterLoop Rb.length low R d=some ([],gc Rb.length low (.tup []) (R.set Rb.length .dead),low):=by
   unfold afterLoop
   simp only[hM]
   rw[if_neg (by decide),hd]
   rfl
  refine⟨_,hal,?_⟩
  have hS1:=Sm_set hS (i:=Rb.length) (x:=.dead) (.inr (Nat.le_refl _))
  have hC1:(R.set Rb.length .dead)[o]?=some (.cells (nums .i64 (sdS (gN ps p) ks upd c0 ks.length))):=by rw[List.getElem?_set_ne (by omega)];exact hC
  show Ex F (.fn res) ([]++k) ⟨sl,gc Rb.length low (.tup []) (R.set Rb.length .dead),low⟩ r
  rcases gc_cases Rb.length low (.tup []) (R.set Rb.length .dead)with h|⟨h,_⟩
  ·rw[h];exact hend _ hS1 hC1
  ·rw[h]
   refine hend _ (Sm_take hS1 (Nat.le_refl _)) ?_
   rw[List.getElem?_take_of_lt ho];exact hC1
 refine Ret_mk' F93 (R:=after) (show Ex F (.fn []) [.code c93b] ⟨mk 52 [(0,.yield Rb.length),(1,.ptr ga 0),(2,.ptr pa 0)],R0c,R0c.length⟩ _ from ?_)
 have hl:=sides_loop (M:=Rb.length) (b:=R0c.length+1) (o:=o) (sl:=sl) (asg:=asg) (body:=body) (d1:=d1) (d2:=d2) (q:=gN ps p) (P:=R0c.length) (ev:=ev) (R0:=R0c++[P0]) (upd:=upd) (c0:=c0) (ks:=ks) hks (by simp) (by omega) (by omega) (by omega) (El_app he' _) heo
  (by rw[List.getElem?_append_left (by omega)];exact hL0) (by rw[hP0];exact row_end) (by omega)
  (fun R i hS hC hi hs=>hbody R i (Sm_trans hS0 (Sm_trans (Sm_app (Sm_refl (Nat.le_refl R0c.length)) [P0]) hS (Nat.le_succ _)) (by omega)) (by
   rw[hS.2 _ (by omega) (by omega),List.getElem?_append_left (by omega)];exact hL0) hC hi hs)
  (r:=fun x=>after (fin R0c x.1 x.2.1 x.2.2)) (lw0:=R0c.length) (by omega) (fun R lw hS hC hlw=>by
   have hSb:Sm Rb.length o Rb R:=Sm_trans hS0 (Sm_trans (Sm_app (Sm_refl (Nat.le_refl R0c.length)) [P0]) hS (Nat.le_succ _)) (by omega)
   have hLR:R[Rb.length]?=some (.loop .ready none sl [d1,d2] asg body):=by
    rw[hS.2 _ (by omega) (by omega),List.getElem?_append_left (by omega)];exact hL0
   by_cases c:lw=R0c.length
   ·have hfin:fin R0c (.tup []) R lw=(.tup [],R0c,none):=by
     unfold fin
     rw[if_pos c]
     rfl
    rw[hfin]
    have hcc:sdS (gN ps p) ks upd c0 ks.length=c0:=by
     rcases hlw with ⟨_,h⟩|h
     ·exact h
     ·omega
    refine hafter _ none rfl hL0 hS0 ?_
    rw[hcc,hR0,List.getElem?_append_left ho];exact hc0
   ·have hlo2:lw=o:=by
     rcases hlw with ⟨h,_⟩|h
     ·exact absurd h c
     ·omega
    have hfin:fin R0c (.tup []) R lw=(.tup [],gc R0c.length lw (.tup []) R,some lw):=by
     unfold fin
     rw[if_neg c]
    rw[hfin]
    have hlowO:lowO low (some lw)=low:=by
     show lower low lw=low
     exact lower_ge' (by omega)
    rcases gc_cases R0c.length lw (.tup []) R with h|⟨h,_⟩
    ·rw[h];exact hafter _ _ hlowO hLR hSb hC
    ·rw[h]
     refine hafter _ _ hlowO ?_ (Sm_take hSb (by omega)) ?_
     ·rw[List.getElem?_take_of_lt (by omega)];exact hLR
     ·rw[List.getElem?_take_of_lt (by omega)];exact hC) _ 0 (R0c++[P0]) R0c.length rfl (Nat.zero_le _) (Sm_refl (by simp)) (by
   rw[List.getElem?_append_left (by omega),hR0,List.getElem?_append_left ho];exact hc0) (.inl ⟨rfl,rfl⟩)
 rw[hP0]at hl
 obtain⟨e1,e2,e3⟩:=pC_a hp
 have ix:=idxW hpv' hp
 have ld:=ldW3 hpv' hp
 rw[e1,e2,e3]at ld
 have hga2:=row?_old hga' [.cells [.int .i64 (gN ps p/36:Nat),.int .i64 (gN ps p/6%6:Nat),.int .i64 (gN ps p%6:Nat)]]
 have ln:=evP_lenE (El_app he' [.cells [.int .i64 (gN ps p/36:Nat),.int .i64 (gN ps p/6%6:Nat),.int .i64 (gN ps p%6:Nat)]])
 have hlw:lower R0c.length R0c.length=R0c.length:=lower_ge' (Nat.le_refl _)
 generalize gN ps p/36=qa at *
 generalize gN ps p/6%6=qb at *
 generalize gN ps p%6=qc at *
 clear hafter hend hbody
 simp[hga',hpa',ix,ld,AV.cells,splice,hlw,hga2,ln]
 simpa using hl
end
end Go.Abs
namespace Go.Abs
def updS(t:Int)(i:Nat)(s:Int)(c:List Int):List Int:=c.set i (IntKind.i64.wrap (gI c i+IntKind.i64.wrap (s*t)))
def swS(ks ps:List Nat)(l:List Int):Nat->List Int
 |0=>List.replicate ks.length 0
 |p+1=>sdS (gN ps p) ks (updS (gI l p)) (swS ks ps l p) ks.length
theorem sdS_len{q:Nat}{ks:List Nat}{upd:Nat->Int->List Int->List Int}{c:List Int}{m:Nat}(hc:c.length=m)(hu:∀i s c,c.length=m->(upd i s c).length=m):∀i,(sdS q ks upd c i).length=m
 |0=>hc
 |
  i+1=>by
  rw[sdS]
  split
  ·exact sdS_len hc hu i
  ·exact hu _ _ _ (sdS_len hc hu i)
theorem swS_len{ks ps:List Nat}{l:List Int}:∀p,(swS ks ps l p).length=ks.length
 |0=>by simp[swS]
 |p+1=>sdS_len (swS_len p) (fun i s c h=>by simp[updS,h]) _
section
variable {rows:List Row}{N:Nat}{ks ps:List Nat}{v:AV}{l:List Int}
end
end Go.Abs
namespace Go.Abs
theorem Sm_split{B R:List Row}{o:Nat}(h:Sm B.length o B R)(ho:B.length<=o):∃L,R=B++L:=by
 refine⟨R.drop B.length,?_⟩
 apply List.ext_getElem?
 intro i
 by_cases c:i<B.length
 ·rw[List.getElem?_append_left c]
  exact h.2 i c (by omega)
 ·rw[List.getElem?_append_right (by omega),List.getElem?_drop]
  congr 1
  omega
section
variable {rows:List Row}{N:Nat}{ks ps:List Nat}{v g:AV}{l:List Int}
end
end Go.Abs
namespace Go.Abs
def updT(f:List Int)(i:Nat)(s:Int)(c:List Int):List Int:=[IntKind.i64.wrap (gI c 0+IntKind.i64.wrap (s*gI f i))]
def tuS(ks:List Nat)(f:List Int)(q:Nat):Int:=gI (sdS q ks (updT f) [0] ks.length) 0
section
variable {rows:List Row}{N:Nat}{ks ps:List Nat}{v g:AV}{l:List Int}
theorem turns_take{i:Nat}(h:i<ps.length):(ps.map (tuS ks l)).take (i+1)=(ps.map (tuS ks l)).take i++[tuS ks l (gN ps i)]:=by
 rw[List.take_add_one,List.getElem?_eq_getElem (by simpa using h)]
 simp[gN_eq h]
end
end Go.Abs
namespace Go.Abs
theorem edge_at{ks:List Nat}{a b:Nat}(hb:b<6)(h:a*6+b∈ks):∃i,i<ks.length/\pix (eC ks) a b ks.length 0=i/\gN ks i=a*6+b:=by
 have h0:=(pix_in (ks:=ks) (a:=a) hb).2 h
 obtain⟨k,h1,_,h2,h3,h4⟩:=pix_hit ks.length 0 h0
 have hk:k<ks.length:=by omega
 obtain⟨e1,e2⟩:=eC_a hk
 rw[e1]at h3
 rw[e2]at h4
 exact⟨k,hk,h1,by omega⟩
theorem gN_inj{l:List Nat}(h:l.Pairwise (· < ·)){i j:Nat}(hi:i<l.length)(hj:j<l.length)(e:gN l i=gN l j):i=j:=by
 rcases Nat.lt_trichotomy i j with c|c|c
 ·have:=gN_lt h c hj;omega
 ·exact c
 ·have:=gN_lt h c hi;omega
theorem gN_lt'{l:List Nat}(h:l.Pairwise (· < ·)){i j:Nat}(hi:i<l.length)(hj:j<l.length)(e:gN l i<gN l j):i<j:=by
 rcases Nat.lt_trichotomy i j with c|c|c
 ·exact c
 ·subst c;omega
 ·have:=gN_lt h c hi;omega
structure Sides(ks:List Nat)(q i1 i2 i3:Nat):Prop where
 l13:i1<i3
 l32:i3<i2
 l2:i2<ks.length
 p1:pix (eC ks) ((q/36:Nat):Int) ((q/6%6:Nat):Int) ks.length 0=i1
 p2:pix (eC ks) ((q/6%6:Nat):Int) ((q%6:Nat):Int) ks.length 0=i2
 p3:pix (eC ks) ((q/36:Nat):Int) ((q%6:Nat):Int) ks.length 0=i3
 s:∀i,i<ks.length->sgn q (gN ks i)=if i=i1\/i=i2 then 1 else if i=i3 then -1 else 0
theorem sides_at{N:Nat}{ks ps:List Nat}(hok:GOK N ks ps){q:Nat}(hq:q∈ps):∃i1 i2 i3,Sides ks q i1 i2 i3:=by
 obtain⟨h1,h2,h3,k1,k2,k3⟩:=hok.pe q hq
 have hm1:q/6%6<6:=Nat.mod_lt _ (by omega)
 have hm2:q%6<6:=Nat.mod_lt _ (by omega)
 obtain⟨i1,a1,a2,a3⟩:=edge_at hm1 k1
 obtain⟨i3,c1,c2,c3⟩:=edge_at hm2 k2
 obtain⟨i2,b1,b2,b3⟩:=edge_at hm2 k3
 refine⟨i1,i2,i3,gN_lt' hok.es a1 c1 (by omega),gN_lt' hok.es c1 b1 (by omega),b1,a2,b2,c2,fun i hi=>?_⟩
 have e1:i=i1↔gN ks i=q/36*6+q/6%6:=⟨fun e=>by rw[e,a3],fun e=>gN_inj hok.es hi a1 (by omega)⟩
 have e2:i=i2↔gN ks i=q/6%6*6+q%6:=⟨fun e=>by rw[e,b3],fun e=>gN_inj hok.es hi b1 (by omega)⟩
 have e3:i=i3↔gN ks i=q/36*6+q%6:=⟨fun e=>by rw[e,c3],fun e=>gN_inj hok.es hi c1 (by omega)⟩
 unfold sgn
 have d1:(gN ks i/6=q/36/\gN ks i%6=q/6%6)↔i=i1:=by rw[e1];omega
 have d2:(gN ks i/6=q/6%6/\gN ks i%6=q%6)↔i=i2:=by rw[e2];omega
 have d3:(gN ks i/6=q/36/\gN ks i%6=q%6)↔i=i3:=by rw[e3];omega
 simp only[d1,d2,d3]
theorem sd_skip{q:Nat}{ks:List Nat}{upd:Nat->Int->List Int->List Int}{c:List Int}{i:Nat}:∀d,(∀j,i<=j->j<i+d->sgn q (gN ks j)=0)->sdS q ks upd c (i+d)=sdS q ks upd c i
 |0,_=>rfl
 |
  d+1,h=>by
  rw[<-Nat.add_assoc,sdS,if_pos (h (i+d) (by omega) (by omega))]
  exact sd_skip d fun j h1 h2=>h j h1 (by omega)
theorem sd_step{q:Nat}{ks:List Nat}{upd:Nat->Int->List Int->List Int}{c:List Int}{i j:Nat}(hij:i<=j)(h:∀k,i<=k->k<j->sgn q (gN ks k)=0)(hj:sgn q (gN ks j)≠0):sdS q ks upd c (j+1)=upd j (sgn q (gN ks j)) (sdS q ks upd c i):=by
 rw[sdS,if_neg hj]
 have:=sd_skip (q:=q) (ks:=ks) (upd:=upd) (c:=c) (i:=i) (j-i) fun k h1 h2=>h k h1 (by omega)
 rw[show i+(j-i)=j from by omega]at this
 rw[this]
theorem sd_three{ks:List Nat}{q i1 i2 i3:Nat}(h:Sides ks q i1 i2 i3)(upd:Nat->Int->List Int->List Int)(c:List Int):sdS q ks upd c ks.length=upd i2 1 (upd i3 (-1) (upd i1 1 c)):=by
 obtain⟨l13,l32,l2,_,_,_,s⟩:=h
 have z:∀j,j<ks.length->j≠i1->j≠i2->j≠i3->sgn q (gN ks j)=0:=fun j hj n1 n2 n3=>by
  rw[s j hj,if_neg (by omega),if_neg n3]
 have s1:sgn q (gN ks i1)=1:=by rw[s i1 (by omega),if_pos (.inl rfl)]
 have s2:sgn q (gN ks i2)=1:=by rw[s i2 (by omega),if_pos (.inr rfl)]
 have s3:sgn q (gN ks i3) = -1:=by rw[s i3 (by omega),if_neg (by omega),if_pos rfl]
 have t1:=sd_step (q:=q) (ks:=ks) (upd:=upd) (c:=c) (i:=0) (j:=i1) (Nat.zero_le _) (fun k h1 h2=>z k (by omega) (by omega) (by omega) (by omega)) (by omega)
 have t3:=sd_step (q:=q) (ks:=ks) (upd:=upd) (c:=c) (i:=i1+1) (j:=i3) (by omega) (fun k h1 h2=>z k (by omega) (by omega) (by omega) (by omega)) (by omega)
 have t2:=sd_step (q:=q) (ks:=ks) (upd:=upd) (c:=c) (i:=i3+1) (j:=i2) (by omega) (fun k h1 h2=>z k (by omega) (by omega) (by omega) (by omega)) (by omega)
 have t4:=sd_skip (q:=q) (ks:=ks) (upd:=upd) (c:=c) (i:=i2+1) (ks.length-(i2+1)) fun k h1 h2=>z k (by omega) (by omega) (by omega) (by omega)
 rw[show i2+1+(ks.length-(i2+1))=ks.length from by omega]at t4
 rw[t4,t2,t3,t1,s1,s2,s3]
 rfl
section
variable {rows:List Row}{N:Nat}{ks ps:List Nat}{v g:AV}{l:List Int}
set_option maxHeartbeats 4000000 in
theorem RSides_ret(hg:GRd rows g N ks ps){p i1 i2 i3:Nat}(hp:p<ps.length)(hs:Sides ks (gN ps p) i1 i2 i3):Ret F 89 [g,.int .i64 p] rows=some (.agg [.int .i64 i1,.int .i64 i2,.int .i64 i3],rows,none):=by
 obtain⟨ev,pv,rfl,he,hpv,_⟩:=hg.eq
 have hok:=hg.ok
 have o1:=El_one he
 have o2:=El_one hpv
 have hek:=hok.ek
 obtain⟨b1,b2,b3,_⟩:=hok.pe _ (gN_mem hp)
 obtain⟨e1,e2,e3⟩:=pC_a hp
 have p1:=hs.p1
 have p2:=hs.p2
 have p3:=hs.p3
 generalize hqa:gN ps p/36=qa at *
 generalize hqb:gN ps p/6%6=qb at *
 generalize hqc:gN ps p%6=qc at *
 have hR:∀a b:Nat,a<b->Ret F 60 [.agg [.int .i64 N,ev,pv],.int .i64 a,.int .i64 b] (rows++[.cells [.int .i64 N,ev,pv],.cells [.int .i64 0,.int .i64 0,.int .i64 0],.cells [.int .i64 qa,.int .i64 qb,.int .i64 qc]])=some (.int .i64 (pix (eC ks) a b ks.length 0),rows++[.cells [.int .i64 N,ev,pv],.cells [.int .i64 0,.int .i64 0,.int .i64 0],.cells [.int .i64 qa,.int .i64 qb,.int .i64 qc]],none):=fun a b hab=>by
  have:=Edge_ret (n0:=.int .i64 N) (El_app he [.cells [.int .i64 N,ev,pv],.cells [.int .i64 0,.int .i64 0,.int .i64 0],.cells [.int .i64 qa,.int .i64 qb,.int .i64 qc]]) (by omega) ⟨rfl,o1,o2⟩ (a:=a) (b:=b)
  rw[this,show min (a:Int) b=a by omega,show max (a:Int) b=b by omega]
 have r1:=hR qa qb b1
 have r2:=hR qb qc b2
 have r3:=hR qa qc (by omega)
 rw[p1]at r1
 rw[p2]at r2
 rw[p3]at r3
 have ix:=fun L=>idxW (El_app hpv L) hp
 have ld:=fun L=>ldW3 (El_app hpv L) hp
 rw[e1,e2,e3]at ld
 have i02:idx? 2 3=some 2:=rfl
 have i03:idx? 0 3=some 0:=rfl
 have i13:idx? 1 3=some 1:=rfl
 have hlw1:lower rows.length (rows.length+1)=rows.length:=lower_ge' (by omega)
 have hlw2:lower rows.length (rows.length+2)=rows.length:=lower_ge' (by omega)
 refine i89 F89 ?_
 simp[o1,o2,ix,ld,splice,hlw1,hlw2,i02,i03,i13,seg,fillA,r1,r2,r3,Nat.add_assoc,drop_mapL,maskE]
end
end Go.Abs
namespace Go.Abs
theorem gI_set_ne{c:List Int}{i j:Nat}{x:Int}(h:i≠j):gI (c.set i x) j=gI c j:=by
 simp only[gI,List.getD_eq_getElem?_getD]
 rw[List.getElem?_set_ne h]
theorem sw_three{c:List Int}{i1 i2 i3:Nat}{t:Int}(ht : -100<=t/\t<=100)(h1:i1≠i2)(h2:i1≠i3)(h3:i2≠i3):
  ((c.set i1 (IntKind.i64.wrap (gI c i1+t))).set i2 (IntKind.i64.wrap (gI (c.set i1 (IntKind.i64.wrap (gI c i1+t))) i2+t))).set i3 (IntKind.i64.wrap (gI ((c.set i1 (IntKind.i64.wrap (gI c i1+t))).set i2 (IntKind.i64.wrap (gI (c.set i1 (IntKind.i64.wrap (gI c i1+t))) i2+t))) i3-t))=updS t i2 1 (updS t i3 (-1) (updS t i1 1 c)):=by
 have w1:IntKind.i64.wrap (1*t)=t:=by rw[Int.one_mul];exact wrap64 (by omega) (by omega)
 have w2:IntKind.i64.wrap (-1*t) = -t:=by rw[wrap64 (by omega) (by omega)];omega
 unfold updS
 rw[w1,w2]
 generalize c.set i1 (IntKind.i64.wrap (gI c i1+t))=c1
 rw[gI_set_ne h3,gI_set_ne (fun e=>h3 e.symm),List.set_comm _ _ h3]
 rfl
section
variable {rows:List Row}{N:Nat}{ks ps:List Nat}{v g:AV}{l:List Int}
set_option maxHeartbeats 8000000 in
theorem RSwirl_loop{B:List Row}{ev pv:AV}(hg:GRd B (.agg [.int .i64 N,ev,pv]) N ks ps)(h:IsL B v l)(hl:l.length=ps.length)(hb:∀x∈l,-100<=x/\x<=100){low:Nat}(hlow:low<=B.length){r:AV×List Row×Nat->Prop}{x5:AV}{c:Cap}(hne:B.length≠sid x5)
  (hk:∀(L:List Row),Acc B L 1 c x5 (nums .i64 (swS ks ps l ps.length)) ks.length->r (x5,B++L,low)):
  ∀(d p:Nat) (L:List Row),ps.length-p=d->p<=ps.length->row? (B++L) B.length=some [.int .i64 N,ev,pv]->Acc B L 1 c x5 (nums .i64 (swS ks ps l p)) ks.length->
  Lc54l2 F (.fn [.t 4]) v (.ptr B.length 0) x5 (.int .i64 p) (B++L) low r:=by
 obtain⟨_,_,e,he,hp,_⟩:=hg.eq
 simp only[AV.agg.injEq,List.cons.injEq,and_true,true_and]at e
 obtain⟨rfl,rfl⟩:=e
 have hok:=hg.ok
 have hek:=hok.ek
 have hpk:=hok.pk
 intro d
 induction d with
 |
  zero=>
  intro p L hd h1 hG hA
  have hi:p=ps.length:=by omega
  subst hi
  have:=hk L hA
  have hp':=El_app hp L
  unfold Lc54l2
  simp[hG,lenW hp']
  exact this
 |
  succ d ih=>
  intro p L hd h1 hG hA
  have hi:p<ps.length:=by omega
  have hw:IntKind.i64.wrap ((p:Int)+1)=((p+1:Nat):Int):=by rw[wrap64 (by omega) (by omega)];omega
  obtain⟨i1,i2,i3,hs⟩:=sides_at hok (gN_mem hi)
  have hsd:=RSides_ret (rows:=B++L) (hg.app L) hi hs
  have hs2:=hs
  obtain⟨l13,l32,l2,_⟩:=hs
  have hbt:=bd_get hb (i:=p) (by omega)
  have hst:swS ks ps l (p+1)=updS (gI l p) i2 1 (updS (gI l p) i3 (-1) (updS (gI l p) i1 1 (swS ks ps l p))):=by
   rw[swS,sd_three hs2]
  rw[<-sw_three hbt (by omega) (by omega) (by omega)]at hst
  have hlt:=Acc_lt hA (by omega) (by omega)
  have hA1:=Acc_app hA [.cells [.int .i64 i1,.int .i64 i2,.int .i64 i3]]
  have hE:row? (B++(L++[.cells [.int .i64 i1,.int .i64 i2,.int .i64 i3]])) (B.length+L.length)=some [.int .i64 i1,.int .i64 i2,.int .i64 i3]:=by simp[row?]
  have hG':row? (B++(L++[.cells [.int .i64 i1,.int .i64 i2,.int .i64 i3]])) B.length=some [.int .i64 N,ev,pv]:=by
   rw[<-List.append_assoc];exact row?_old hG _
  obtain⟨L1,ev1,hA2,hL1,hR1⟩:=Acc_store (i:=i1) (x:=IntKind.i64.wrap (gI (swS ks ps l p) i1+gI l p)) hA1 (by omega) hlow
  have ix1:=Acc_idx hA1 (show i1<ks.length by omega)
  have ld1:=Acc_ld hA1 (show i1<ks.length by omega)
  have hE1:=hR1 _ _ (by omega) hE
  have hG1:=hR1 _ _ hne hG'
  generalize hc1:(swS ks ps l p).set i1 (IntKind.i64.wrap (gI (swS ks ps l p) i1+gI l p))=c1 at *
  obtain⟨L2,ev2,hA3,hL2,hR2⟩:=Acc_store (i:=i2) (x:=IntKind.i64.wrap (gI c1 i2+gI l p)) hA2 (by omega) hlow
  have ix2:=Acc_idx hA2 (show i2<ks.length by omega)
  have ld2:=Acc_ld hA2 (show i2<ks.length by omega)
  have hE2:=hR2 _ _ (by omega) hE1
  have hG2:=hR2 _ _ hne hG1
  generalize hc2:c1.set i2 (IntKind.i64.wrap (gI c1 i2+gI l p))=c2 at *
  obtain⟨L3,ev3,hA4,hL3,hR3⟩:=Acc_store (i:=i3) (x:=IntKind.i64.wrap (gI c2 i3-gI l p)) hA3 (by omega) hlow
  have ix3:=Acc_idx hA3 (show i3<ks.length by omega)
  have ld3:=Acc_ld hA3 (show i3<ks.length by omega)
  have hG3:=hR3 _ _ hne hG2
  rw[<-hst]at hA4
  have:=ih (p+1) L3 (by omega) (by omega) hG3 hA4
  have hp':=El_app hp L
  have h1':=IsL_app h (L++[.cells [.int .i64 i1,.int .i64 i2,.int .i64 i3]])
  have h2':=IsL_app h L1
  have h3':=IsL_app h L2
  have i02:idx? 2 3=some 2:=rfl
  have i03:idx? 0 3=some 0:=rfl
  have i13:idx? 1 3=some 1:=rfl
  have hlw:lower low (B.length+L.length)=low:=lower_ge' (by omega)
  have hpl:p<l.length:=by omega
  unfold Lc54l2
  simp (disch:=first|omega|(simp;done)|fail) [hG,lenW hp',hi,hsd,seg,splice,hlw,hE,hE1,hE2,i02,i03,i13,idxL0 h1',loadL0 h1',idxL0 h2',loadL0 h2',idxL0 h3',loadL0 h3',ix1,ld1,ev1,ix2,ld2,ev2,ix3,ld3,ev3,hw,-evE_store1]
  simpa using this
set_option maxHeartbeats 4000000 in
theorem RSwirl_ret(hg:GRd rows g N ks ps)(h:IsL rows v l)(hl:l.length=ps.length)(hb:∀x∈l,-100<=x/\x<=100):LRet1 54 [g,v] rows (swS ks ps l ps.length):=by
 obtain⟨ev,pv,rfl,he,hp,_⟩:=hg.eq
 have hok:=hg.ok
 have o1:=El_one he
 have o2:=El_one hp
 have hek:=hok.ek
 let Q:AV×List Row×Nat->Prop:=fun r=>∃v X,fin rows r.1 r.2.1 r.2.2=(v,rows++X,none)/\X.all (Row.under 0)=true/\IsL (rows++X) v (swS ks ps l ps.length)/\Cp 1 v
 have main:Ex F (.fn [.t 4]) [.code c54b] ⟨mk 65 [(0,.agg [.int .i64 N,ev,pv]),(1,v)],rows,rows.length⟩ Q:=by
  have hA0:=Acc_make (B:=rows) (L:=[.cells [.int .i64 N,ev,pv]]) (m:=ks.length)
  have hloop:=RSwirl_loop (B:=rows) (low:=rows.length) (r:=Q) (x5:=.slice (rows.length+1) 0 ks.length (.at_ ks.length)) (c:=.at_ ks.length) hg h hl hb (Nat.le_refl _) (by simp) (fun L hA=>by
   obtain⟨v',X,e,h1,h2,h3,h4⟩:=Acc_fin1 hA (.inr ⟨_,rfl,Nat.le_refl _⟩)
   exact⟨v',X,e,h1,h2,h4⟩) _ 0 ([.cells [.int .i64 N,ev,pv]]++[.cells (nums .i64 (List.replicate ks.length 0))]) rfl (Nat.zero_le _) (by simp[row?]) hA0
  have hlim:(ks.length:Int)<=lim:=by simp[lim];omega
  have ln:=evP_lenE (El_app he [.cells [.int .i64 N,ev,pv]])
  simp[o1,o2,seg,hlim,ln,rep_nums]
  simpa using hloop
 obtain⟨n1,q,e,v',X,h1,h2⟩:=main
 exact⟨v',X,i54 F54 ⟨n1,q,e,h1⟩,h2⟩
theorem tu_val{q i1 i2 i3:Nat}(hs:Sides ks q i1 i2 i3)(hl:l.length=ks.length)(hb:∀x∈l,-100<=x/\x<=100):IntKind.i64.wrap (IntKind.i64.wrap (gI l i1+gI l i2)-gI l i3)=tuS ks l q:=by
 unfold tuS
 rw[sd_three hs]
 obtain⟨l13,l32,l2,_⟩:=hs
 have b1:=bd_get hb (i:=i1) (by omega)
 have b2:=bd_get hb (i:=i2) (by omega)
 have b3:=bd_get hb (i:=i3) (by omega)
 unfold updT
 generalize gI l i1=a at *
 generalize gI l i2=b at *
 generalize gI l i3=c at *
 have g0:∀x:Int,gI [x] 0=x:=fun x=>rfl
 simp only[g0]
 rw[wrap64 (n:=1*a) (by omega) (by omega),wrap64 (n:=-1*c) (by omega) (by omega),wrap64 (n:=1*b) (by omega) (by omega),wrap64 (n:=a+b) (by omega) (by omega),wrap64 (n:=a+b-c) (by omega) (by omega),
  wrap64 (n:=0+1*a) (by omega) (by omega),wrap64 (n:=0+1*a + -1*c) (by omega) (by omega),wrap64 (n:=0+1*a + -1*c+1*b) (by omega) (by omega)]
 omega
set_option maxHeartbeats 8000000 in
theorem RTurns_loop{B:List Row}{ev pv:AV}(hg:GRd B (.agg [.int .i64 N,ev,pv]) N ks ps)(h:IsL B v l)(hl:l.length=ks.length)(hb:∀x∈l,-100<=x/\x<=100){low:Nat}(hlow:low<=B.length){r:AV×List Row×Nat->Prop}{x5:AV}{c:Cap}(hne:B.length≠sid x5)
  (hk:∀(L:List Row),Acc B L 1 c x5 (nums .i64 (ps.map (tuS ks l))) ps.length->r (x5,B++L,low)):
  ∀(d p:Nat) (L:List Row),ps.length-p=d->p<=ps.length->row? (B++L) B.length=some [.int .i64 N,ev,pv]->Acc B L 1 c x5 (nums .i64 ((ps.map (tuS ks l)).take p++List.replicate d 0)) ps.length->
  Lc55l2 F (.fn [.t 4]) v (.ptr B.length 0) x5 (.int .i64 p) (B++L) low r:=by
 obtain⟨_,_,e,he,hp,_⟩:=hg.eq
 simp only[AV.agg.injEq,List.cons.injEq,and_true,true_and]at e
 obtain⟨rfl,rfl⟩:=e
 have hok:=hg.ok
 have hek:=hok.ek
 have hpk:=hok.pk
 intro d
 induction d with
 |
  zero=>
  intro p L hd h1 hG hA
  have hi:p=ps.length:=by omega
  subst hi
  rw[List.take_of_length_le (by simp),List.replicate_zero,List.append_nil]at hA
  have:=hk L hA
  have hp':=El_app hp L
  unfold Lc55l2
  simp[hG,lenW hp']
  exact this
 |
  succ d ih=>
  intro p L hd h1 hG hA
  have hi:p<ps.length:=by omega
  have hw:IntKind.i64.wrap ((p:Int)+1)=((p+1:Nat):Int):=by rw[wrap64 (by omega) (by omega)];omega
  obtain⟨i1,i2,i3,hs⟩:=sides_at hok (gN_mem hi)
  have hsd:=RSides_ret (rows:=B++L) (hg.app L) hi hs
  have htv:=tu_val hs hl hb
  obtain⟨l13,l32,l2,_⟩:=hs
  have htt:=turns_take (ks:=ks) (l:=l) hi
  generalize hX:tuS ks l (gN ps p)=X at *
  have hlt:=Acc_lt hA (by omega) (by omega)
  have hA1:=Acc_app hA [.cells [.int .i64 i1,.int .i64 i2,.int .i64 i3]]
  have hE:row? (B++(L++[.cells [.int .i64 i1,.int .i64 i2,.int .i64 i3]])) (B.length+L.length)=some [.int .i64 i1,.int .i64 i2,.int .i64 i3]:=by simp[row?]
  have hG':row? (B++(L++[.cells [.int .i64 i1,.int .i64 i2,.int .i64 i3]])) B.length=some [.int .i64 N,ev,pv]:=by
   rw[<-List.append_assoc];exact row?_old hG _
  obtain⟨L1,ev1,hA2,hL1,hR1⟩:=Acc_store (i:=p) (x:=X) hA1 hi hlow
  have ix:=Acc_idx hA1 hi
  have hG1:=hR1 _ _ hne hG'
  rw[set_fill (by simp;omega),<-htt]at hA2
  have:=ih (p+1) L1 (by omega) (by omega) hG1 hA2
  have hp':=El_app hp L
  have h1':=IsL_app h (L++[.cells [.int .i64 i1,.int .i64 i2,.int .i64 i3]])
  have i02:idx? 2 3=some 2:=rfl
  have i03:idx? 0 3=some 0:=rfl
  have i13:idx? 1 3=some 1:=rfl
  have hlw:lower low (B.length+L.length)=low:=lower_ge' (by omega)
  unfold Lc55l2
  simp (disch:=first|omega|(simp;done)|fail) [hG,lenW hp',hi,hsd,seg,splice,hlw,hE,i02,i03,i13,idxL0 h1',loadL0 h1',htv,ix,ev1,hw,-evE_store1]
  simpa using this
set_option maxHeartbeats 4000000 in
theorem RTurns_ret(hg:GRd rows g N ks ps)(h:IsL rows v l)(hl:l.length=ks.length)(hb:∀x∈l,-100<=x/\x<=100):LRet1 55 [g,v] rows (ps.map (tuS ks l)):=by
 obtain⟨ev,pv,rfl,he,hp,_⟩:=hg.eq
 have hok:=hg.ok
 have o1:=El_one he
 have o2:=El_one hp
 have hpk:=hok.pk
 let Q:AV×List Row×Nat->Prop:=fun r=>∃v X,fin rows r.1 r.2.1 r.2.2=(v,rows++X,none)/\X.all (Row.under 0)=true/\IsL (rows++X) v (ps.map (tuS ks l))/\Cp 1 v
 have main:Ex F (.fn [.t 4]) [.code c55b] ⟨mk 43 [(0,.agg [.int .i64 N,ev,pv]),(1,v)],rows,rows.length⟩ Q:=by
  have hA0:=Acc_make (B:=rows) (L:=[.cells [.int .i64 N,ev,pv]]) (m:=ps.length)
  have hloop:=RTurns_loop (B:=rows) (low:=rows.length) (r:=Q) (x5:=.slice (rows.length+1) 0 ps.length (.at_ ps.length)) (c:=.at_ ps.length) hg h hl hb (Nat.le_refl _) (by simp) (fun L hA=>by
   obtain⟨v',X,e,h1,h2,h3,h4⟩:=Acc_fin1 hA (.inr ⟨_,rfl,Nat.le_refl _⟩)
   exact⟨v',X,e,h1,h2,h4⟩) _ 0 ([.cells [.int .i64 N,ev,pv]]++[.cells (nums .i64 (List.replicate ps.length 0))]) rfl (Nat.zero_le _) (by simp[row?]) (by simpa using hA0)
  have hlim:(ps.length:Int)<=lim:=by simp[lim];omega
  have ln:=evP_lenE (El_app hp [.cells [.int .i64 N,ev,pv]])
  simp[o1,o2,seg,hlim,ln,rep_nums]
  simpa using hloop
 obtain⟨n1,q,e,v',X,h1,h2⟩:=main
 exact⟨v',X,i55 F55 ⟨n1,q,e,h1⟩,h2⟩
end
end Go.Abs
namespace Go.Abs
def gA(vs:List AV)(i:Nat):AV:=vs.getD i .any
def gLL(ls:List (List Int))(i:Nat):List Int:=ls.getD i []
theorem gA_get{vs:List AV}{i:Nat}(h:i<vs.length):vs[i]?=some (gA vs i):=by
 simp[gA,h]
def IsLL(rows:List Row)(v:AV)(ls:List (List Int)):Prop:=∃vs,El rows 1 v vs ls.length/\∀i,i<ls.length->IsL rows (gA vs i) (gLL ls i)
theorem IsLL_app{rows:List Row}{v:AV}{ls:List (List Int)}(h:IsLL rows v ls)(L:List Row):IsLL (rows++L) v ls:=by
 obtain⟨vs,h1,h2⟩:=h
 exact⟨vs,El_app h1 L,fun i hi=>IsL_app (h2 i hi) L⟩
theorem lenLL{rows:List Row}{v:AV}{ls:List (List Int)}(h:IsLL rows v ls)(L:List Row):evP (rows++L) (.len 0 (.c v))=some (.int .i64 ls.length):=by
 obtain⟨vs,h1,_⟩:=h
 exact evP_lenE (El_app h1 L)
section
variable {rows:List Row}
end
section
variable {rows:List Row}
end
end Go.Abs