/- The texts that the row uses, part 3. -/
import Derived.Test.YtichbmhjgbjiiaaDoorBG2
import Derived.AtR
import Derived.Orders
import Derived.KernelRfl
import Derived.Laws.Cells
import Derived.Laws.CopyRow
import Derived.Laws.Append
import Derived.Laws.AppendOwn
import Derived.Laws.Entries
import Derived.ArgAppend
import Derived.ChangeKeysEq
import Derived.WideLaws
import Derived.Laws.Small
import Derived.Laws.StructEq
import Derived.Laws.Cover3
import Derived.Laws.Tables
import Derived.Laws.Rows
import Derived.Below
import Derived.Laws.IdiomCopy
import Derived.RangeFuncNested
import Derived.Test.YtichbmhjgbjiiaaDoorProg
import Derived.Test.YtichbmhjgbjiiaaDoorRows
import Derived.ProofKit
import Derived.LaidMore
import Derived.OpenShut
import Derived.Stop.Joined
import Derived.ChangeSlices
import Derived.SizedLaws
import Derived.SevenTiedAt
import Derived.WalkKit
import Derived.ShutString
import Derived.ChangeOld
import Derived.Carry
set_option linter.unusedVariables false
set_option maxRecDepth 20000
set_option maxHeartbeats 4000000
namespace Go.Abs
def c60r0:List Seg:=[
 zo 6 (.mv (.c (.int .i64 (-1))))]
def c60k0:ICode:=.kill 29 [] (.ops c60r0)
def c60s1:ICode:=(.seq c60k0 .ret)
def c60r3:List Seg:=[
 zm 13 7,
 zo 14 (.bin .add (.t 13) (.c (.int .i64 1))),
 zm 7 14]
def c60k3:ICode:=.kill 29 qq71 (.ops c60r3)
def c60r4:List Seg:=[
 zm 28 7,
 zm 6 28]
def c60k4:ICode:=.kill 29 [7] (.ops c60r4)
def c60s5:ICode:=(.cond (.t 27) (.seq c60k4 .ret) .skip)
def c60r6:List Seg:=[
 zo 15 (.fieldA 1 (.t 3)),
 zo 16 (.load1 (.t 15)),
 zm 17 7,
 zo 18 (.idxS 2 (.t 16) (.t 17)),
 zo 19 (.loadN 2 (.t 18)),
 zm 20 1,
 zm 21 2,
 zo 22 (.mn [(.t 20),(.t 21)]),
 zm 23 1,
 zm 24 2,
 zo 25 (.mx [(.t 23),(.t 24)]),
 zo 26 (.mkagg [.int .i64 0,.int .i64 0] [(0,1,(.t 22)),(1,1,(.t 25))]),
 zo 27 (.eqv false (.ints 2) (.t 19) (.t 26))]
def c60k6:ICode:=.kill 29 qq71 (.ops c60r6)
def c60s7:ICode:=(.seq (.block 1 (.seq c60k6 c60s5)) c60k3)
def c60s8:ICode:=(.cond (.t 12) .skip (.exit 0))
def c60r9:List Seg:=[
 zm 8 7,
 zo 9 (.fieldA 1 (.t 3)),
 zo 10 (.load1 (.t 9)),
 zo 11 (.len 0 (.t 10)),
 zo 12 (.bin .lss (.t 8) (.t 11))]
def c60k9:ICode:=.kill 29 qq71 (.ops c60r9)
def c60l2:ICode:=(.seq (.seq c60k9 c60s8) c60s7)
def c60s10:ICode:=(.block 0 (.loop c60l2))
def c60r11:List Seg:=[
 zo 7 (.mv (.c (.int .i64 0)))]
def c60k11:ICode:=.kill 29 qq72 (.ops c60r11)
def c60s12:ICode:=(.seq (.seq c60k11 c60s10) c60s1)
def c60r13:List Seg:=[
 zo 3 (.box (.t 0)),
 zo 6 (.mv (.c (.int .i64 0)))]
def c60k13:ICode:=.kill 29 qq0 (.ops c60r13)
def c60b:ICode:=(.seq c60k13 c60s12)
def c60:IFn:=⟨29,[.t 6],c60b⟩
def h60:List (Nat×Nat×List Nat):=[(0,(29,[0,1,2])),(1,(29,[1,2,3])),(2,(29,[1,2,3,7])),(4,(29,[1,2,3,7])),(5,(29,[7])),(3,(29,[1,2,3,7])),(6,(29,[]))]
def c61r0:List Seg:=[
 zo 4 (.mv (.c (.bool false)))]
def c61k0:ICode:=.kill 39 [] (.ops c61r0)
def c61s1:ICode:=(.seq c61k0 .ret)
def c61r3:List Seg:=[
 zm 14 5,
 zo 15 (.bin .add (.t 14) (.c (.int .i64 1))),
 zm 5 15]
def c61k3:ICode:=.kill 39 qq12 (.ops c61r3)
def c61r4:List Seg:=[
 zo 4 (.mv (.c (.bool true)))]
def c61k4:ICode:=.kill 39 [] (.ops c61r4)
def c61s5:ICode:=(.cond (.t 38) (.seq c61k4 .ret) .skip)
def c61r6:List Seg:=[
 .grp [(zn 16 0,0),(zn 17 5,0),(zp 18 (.idxS 3 (.t 16) (.t 17)),3),(zp 19 (.idxA 3 1 (.t 18) (.c (.int .i64 0))),7),(zp 20 (.load1 (.t 19)),15),(zn 21 0,0),(zn 22 5,0),(zp 23 (.idxS 3 (.t 21) (.t 22)),96),(zp 24 (.idxA 3 1 (.t 23) (.c (.int .i64 1))),224),(zp 25 (.load1 (.t 24)),480),(zp 26 (.bin .add (.t 20) (.t 25)),1023),(zn 27 0,0),(zn 28 5,0),(zp 29 (.idxS 3 (.t 27) (.t 28)),6144),(zp 30 (.idxA 3 1 (.t 29) (.c (.int .i64 2))),14336),(zp 31 (.load1 (.t 30)),30720),(zp 32 (.bin .add (.t 26) (.t 31)),65535),(zp 33 (.conv .u64 (.t 32)),131071),(zp 34 (.bin .rem (.t 33) (.c (.int .u64 4))),262143),(zn 35 1,0),(zp 36 (.conv .u64 (.t 35)),524288),(zp 37 (.bin .rem (.t 36) (.c (.int .u64 4))),1572864)],
 zo 38 (.bin .eql (.t 34) (.t 37))]
def c61k6:ICode:=.kill 39 qq12 (.ops c61r6)
def c61s7:ICode:=(.seq (.block 1 (.seq c61k6 c61s5)) c61k3)
def c61s8:ICode:=(.cond (.t 13) .skip (.exit 0))
def c61r9:List Seg:=[
 zm 6 5,
 zm 7 0,
 zo 8 (.len 0 (.t 7)),
 zo 9 (.bin .lss (.t 6) (.t 8)),
 zm 10 9,
 .one ⟨some 11,.mv (.t 5),some (10,true)⟩,
 .one ⟨some 12,.bin .lss (.t 11) (.c (.int .i64 10)),some (10,true)⟩,
 zo 13 (.pick (.t 10) (.t 12) (.c (.bool false)))]
def c61k9:ICode:=.kill 39 qq12 (.ops c61r9)
def c61l2:ICode:=(.seq (.seq c61k9 c61s8) c61s7)
def c61s10:ICode:=(.block 0 (.loop c61l2))
def c61r11:List Seg:=[
 zo 5 (.mv (.c (.int .i64 0)))]
def c61k11:ICode:=.kill 39 qq21 (.ops c61r11)
def c61s12:ICode:=(.seq (.seq c61k11 c61s10) c61s1)
def c61r13:List Seg:=[
 zo 4 (.mv (.c (.bool false)))]
def c61k13:ICode:=.kill 39 qq21 (.ops c61r13)
def c61b:ICode:=(.seq c61k13 c61s12)
def c61:IFn:=⟨39,[.t 4],c61b⟩
def h61:List (Nat×Nat×List Nat):=[(0,(39,[0,1])),(1,(39,[0,1])),(2,(39,[0,1,5])),(4,(39,[0,1,5])),(5,(39,[])),(3,(39,[0,1,5])),(6,(39,[]))]
def c62r0:List Seg:=[
 zo 5 (.mkfn 93 [(.t 2),(.t 3)]),
 zm 4 5]
def c62k0:ICode:=.kill 6 qq131 (.ops c62r0)
def c62s1:ICode:=(.seq c62k0 .ret)
def c62r2:List Seg:=[
 zo 2 (.box (.t 0)),
 zo 3 (.box (.t 1)),
 zo 4 (.mv (.c .nilfunc))]
def c62k2:ICode:=.kill 6 qq21 (.ops c62r2)
def c62b:ICode:=(.seq c62k2 c62s1)
def c62:IFn:=⟨6,[.t 4],c62b⟩
def h62:List (Nat×Nat×List Nat):=[(0,(6,[0,1])),(1,(6,[2,3]))]
def c63r0:List Seg:=[
 zm 3 0,
 zo 4 (.mkagg [.int .i64 0,.int .i64 0] [(0,1,(.t 3)),(1,1,(.c (.int .i64 1)))]),
 .one ⟨none,.storeN 2 (.t 2) (.t 4),none⟩]
def c63k0:ICode:=.kill 5 qq22 (.ops c63r0)
def c63s1:ICode:=(.seq c63k0 .ret)
def c63r2:List Seg:=[
 zo 2 (.box (.c (.agg [.int .i64 0,.int .i64 0])))]
def c63k2:ICode:=.kill 5 [0] (.ops c63r2)
def c63b:ICode:=(.seq c63k2 c63s1)
def c63:IFn:=⟨5,[.cellN 2 2],c63b⟩
def h63:List (Nat×Nat×List Nat):=[(0,(5,[0])),(1,(5,[0,2]))]
def c64r1:List Seg:=[
 zm 147 7,
 zm 6 147]
def c64k1:ICode:=.kill 148 [7] (.ops c64r1)
def c64s2:ICode:=(.seq c64k1 .ret)
def c64r4:List Seg:=[
 zo 146 (.bin .add (.t 32) (.c (.int .i64 1))),
 zm 32 146]
def c64k4:ICode:=.kill 148 qq47 (.ops c64r4)
def c64r5:List Seg:=[
 zm 144 9,
 zo 145 (.bin .add (.t 144) (.c (.int .i64 1))),
 zm 9 145]
def c64k5:ICode:=.kill 148 qq47 (.ops c64r5)
def c64r6:List Seg:=[
 zm 140 7,
 zm 141 9,
 zm 142 10,
 zo 143 (.idxS 1 (.t 140) (.t 141)),
 .one ⟨none,.store1 (.t 143) (.t 142),none⟩]
def c64k6:ICode:=.kill 148 qq46 (.ops c64r6)
def c64s7:ICode:=(.seq c64k6 c64k5)
def c64r9:List Seg:=[
 zo 139 (.bin .add (.t 97) (.c (.int .i64 1))),
 zm 97 139]
def c64k9:ICode:=.kill 148 qq44 (.ops c64r9)
def c64r11:List Seg:=[
 zo 138 (.bin .add (.t 119) (.c (.int .i64 1))),
 zm 119 138]
def c64k11:ICode:=.kill 148 qq41 (.ops c64r11)
def c64r12:List Seg:=[
 .grp [(zn 122 16,0),(zn 123 18,0),(zn 124 16,0),(zn 125 18,0),(zp 126 (.idxS 2 (.t 124) (.t 125)),12),(zp 127 (.loadN 2 (.t 126)),28),(zp 128 (.mkif 86 (.t 127)),60),(zn 129 12,0),(zn 130 18,0),(zp 131 (.idxS 2 (.t 129) (.t 130)),384),(zp 132 (.loadN 2 (.t 131)),896),(zp 133 (.mkif 86 (.t 132)),1920),(zp 134 (.loadN 2 (.t 17)),0),(zp 135 (.call [(86,99)] (.t 133) [(.t 134)]),8064),(zp 136 (.call [(86,95)] (.t 128) [(.t 135)]),16380)],
 zo 137 (.idxS 2 (.t 122) (.t 123)),
 .one ⟨none,.storeN 2 (.t 137) (.t 136),none⟩]
def c64k12:ICode:=.kill 148 qq40 (.ops c64r12)
def c64r13:List Seg:=[
 zm 121 119,
 zm 18 121]
def c64k13:ICode:=.kill 148 qq41 (.ops c64r13)
def c64s14:ICode:=(.seq (.block 11 (.seq c64k13 c64k12)) c64k11)
def c64s15:ICode:=(.seq (.cond (.t 120) .skip (.exit 10)) c64s14)
def c64r16:List Seg:=[
 zo 120 (.bin .lss (.t 119) (.t 118))]
def c64k16:ICode:=.kill 148 qq41 (.ops c64r16)
def c64l10:ICode:=(.seq c64k16 c64s15)
def c64s17:ICode:=(.block 10 (.loop c64l10))
def c64r18:List Seg:=[
 zm 117 16,
 zo 118 (.len 0 (.t 117)),
 zo 119 (.mv (.c (.int .i64 0)))]
def c64k18:ICode:=.kill 148 qq42 (.ops c64r18)
def c64s19:ICode:=(.seq c64k18 c64s17)
def c64r20:List Seg:=[
 zm 113 16,
 zm 114 10,
 zo 115 (.idxS 2 (.t 113) (.t 114)),
 zo 116 (.loadN 2 (.t 115)),
 zo 17 (.box (.c (.agg [.int .i64 0,.int .i64 0]))),
 .one ⟨none,.storeN 2 (.t 17) (.t 116),none⟩]
def c64k20:ICode:=.kill 148 qq43 (.ops c64r20)
def c64s21:ICode:=(.seq c64k20 c64s19)
def c64s22:ICode:=(.cond (.t 112) (.exit 9) .skip)
def c64r23:List Seg:=[
 .grp [(zn 102 15,0),(zn 103 9,0)],
 zo 104 (.bin .eql (.t 102) (.t 103)),
 zm 105 104,
 .grp [(⟨some 106,.mv (.t 16),some (105,false)⟩,0),(⟨some 107,.mv (.t 10),some (105,false)⟩,0),(⟨some 108,.idxS 2 (.t 106) (.t 107),some (105,false)⟩,3),(⟨some 109,.loadN 2 (.t 108),some (105,false)⟩,7),(⟨some 110,.loadN 2 (.t 5),some (105,false)⟩,0)],
 .one ⟨some 111,.eqv false (.ints 2) (.t 109) (.t 110),some (105,false)⟩,
 zo 112 (.pick (.t 105) (.c (.bool true)) (.t 111))]
def c64k23:ICode:=.kill 148 qq39 (.ops c64r23)
def c64s24:ICode:=(.seq (.seq c64k23 c64s22) c64s21)
def c64r25:List Seg:=[
 zm 99 97,
 zo 100 (.idxS 1 (.t 95) (.t 97)),
 zo 101 (.load1 (.t 100)),
 zm 15 99,
 zm 16 101]
def c64k25:ICode:=.kill 148 qq44 (.ops c64r25)
def c64s26:ICode:=(.seq (.block 9 (.seq c64k25 c64s24)) c64k9)
def c64s27:ICode:=(.seq (.cond (.t 98) .skip (.exit 8)) c64s26)
def c64r28:List Seg:=[
 zo 98 (.bin .lss (.t 97) (.t 96))]
def c64k28:ICode:=.kill 148 qq44 (.ops c64r28)
def c64l8:ICode:=(.seq c64k28 c64s27)
def c64s29:ICode:=(.block 8 (.loop c64l8))
def c64r30:List Seg:=[
 zm 95 0,
 zo 96 (.len 0 (.t 95)),
 zo 97 (.mv (.c (.int .i64 0)))]
def c64k30:ICode:=.kill 148 qq45 (.ops c64r30)
def c64s31:ICode:=(.seq (.seq c64k30 c64s29) c64s7)
def c64r33:List Seg:=[
 zo 94 (.bin .add (.t 81) (.c (.int .i64 1))),
 zm 81 94]
def c64k33:ICode:=.kill 148 qq37 (.ops c64r33)
def c64r34:List Seg:=[
 .grp [(zn 84 12,0),(zn 85 14,0),(zn 86 12,0),(zn 87 14,0),(zp 88 (.idxS 2 (.t 86) (.t 87)),12),(zp 89 (.loadN 2 (.t 88)),28),(zp 90 (.mkif 86 (.t 89)),60),(zp 91 (.loadN 2 (.t 13)),0),(zp 92 (.call [(86,123)] (.t 90) [(.t 91)]),252)],
 zo 93 (.idxS 2 (.t 84) (.t 85)),
 .one ⟨none,.storeN 2 (.t 93) (.t 92),none⟩]
def c64k34:ICode:=.kill 148 qq36 (.ops c64r34)
def c64r35:List Seg:=[
 zm 83 81,
 zm 14 83]
def c64k35:ICode:=.kill 148 qq37 (.ops c64r35)
def c64s36:ICode:=(.seq (.block 7 (.seq c64k35 c64k34)) c64k33)
def c64s37:ICode:=(.seq (.cond (.t 82) .skip (.exit 6)) c64s36)
def c64r38:List Seg:=[
 zo 82 (.bin .lss (.t 81) (.t 80))]
def c64k38:ICode:=.kill 148 qq37 (.ops c64r38)
def c64l32:ICode:=(.seq c64k38 c64s37)
def c64s39:ICode:=(.block 6 (.loop c64l32))
def c64r40:List Seg:=[
 zm 79 12,
 zo 80 (.len 0 (.t 79)),
 zo 81 (.mv (.c (.int .i64 0)))]
def c64k40:ICode:=.kill 148 qq38 (.ops c64r40)
def c64s41:ICode:=(.seq (.seq c64k40 c64s39) c64s31)
def c64r42:List Seg:=[
 zm 75 12,
 zm 76 10,
 zo 77 (.idxS 2 (.t 75) (.t 76)),
 zo 78 (.loadN 2 (.t 77)),
 zo 13 (.box (.c (.agg [.int .i64 0,.int .i64 0]))),
 .one ⟨none,.storeN 2 (.t 13) (.t 78),none⟩]
def c64k42:ICode:=.kill 148 qq45 (.ops c64r42)
def c64s43:ICode:=(.seq c64k42 c64s41)
def c64r44:List Seg:=[
 zm 71 0,
 zm 72 9,
 zo 73 (.idxS 1 (.t 71) (.t 72)),
 zo 74 (.load1 (.t 73)),
 zm 12 74]
def c64k44:ICode:=.kill 148 qq46 (.ops c64r44)
def c64s45:ICode:=(.seq c64k44 c64s43)
def c64r46:List Seg:=[
 .grpw (.t 69) (.t 64) none 8179 [(zn 57 0,0),(zn 58 9,0),(zn 59 0,0),(zn 60 11,0),(zn 61 0,0),(zn 62 11,0),(zp 63 (.idxS 1 (.t 61) (.t 62)),48),(zp 64 (.load1 (.t 63)),112),(zn 65 0,0),(zn 66 9,0),(zp 67 (.idxS 1 (.t 65) (.t 66)),768),(zp 68 (.load1 (.t 67)),1792),(zp 69 (.idxS 1 (.t 57) (.t 58)),4083),(⟨none,.lenc 0,none⟩,8179)],
 zo 70 (.idxS 1 (.t 59) (.t 60)),
 .one ⟨none,.store1 (.t 70) (.t 68),none⟩]
def c64k46:ICode:=.kill 148 qq35 (.ops c64r46)
def c64s47:ICode:=(.seq c64k46 c64s45)
def c64s48:ICode:=(.cond (.t 56) (.exit 3) .skip)
def c64r49:List Seg:=[
 zm 53 11,
 zm 54 0,
 zo 55 (.len 0 (.t 54)),
 zo 56 (.bin .eql (.t 53) (.t 55))]
def c64k49:ICode:=.kill 148 qq35 (.ops c64r49)
def c64s50:ICode:=(.seq (.seq c64k49 c64s48) c64s47)
def c64r52:List Seg:=[
 zm 51 11,
 zo 52 (.bin .add (.t 51) (.c (.int .i64 1))),
 zm 11 52]
def c64k52:ICode:=.kill 148 qq35 (.ops c64r52)
def c64s53:ICode:=(.block 5 c64k52)
def c64s54:ICode:=(.cond (.t 50) .skip (.exit 4))
def c64r55:List Seg:=[
 .grp [(zn 36 11,0),(zn 37 0,0),(zp 38 (.len 0 (.t 37)),2)],
 zo 39 (.bin .lss (.t 36) (.t 38)),
 zm 40 39,
 .grp [(⟨some 41,.mv (.t 0),some (40,true)⟩,0),(⟨some 42,.mv (.t 11),some (40,true)⟩,0),(⟨some 43,.idxS 1 (.t 41) (.t 42),some (40,true)⟩,3),(⟨some 44,.load1 (.t 43),some (40,true)⟩,7),(⟨some 45,.mv (.t 10),some (40,true)⟩,0),(⟨some 46,.idxS 2 (.t 44) (.t 45),some (40,true)⟩,31),(⟨some 47,.loadN 2 (.t 46),some (40,true)⟩,63),(⟨some 48,.loadN 2 (.t 5),some (40,true)⟩,0)],
 .one ⟨some 49,.eqv false (.ints 2) (.t 47) (.t 48),some (40,true)⟩,
 zo 50 (.pick (.t 40) (.t 49) (.c (.bool false)))]
def c64k55:ICode:=.kill 148 qq35 (.ops c64r55)
def c64l51:ICode:=(.seq (.seq c64k55 c64s54) c64s53)
def c64s56:ICode:=(.seq (.block 4 (.loop c64l51)) c64s50)
def c64r57:List Seg:=[
 zm 35 9,
 zm 11 35]
def c64k57:ICode:=.kill 148 qq46 (.ops c64r57)
def c64s58:ICode:=(.seq c64k57 c64s56)
def c64r59:List Seg:=[
 zm 34 32,
 zm 10 34]
def c64k59:ICode:=.kill 148 qq47 (.ops c64r59)
def c64s60:ICode:=(.seq (.block 3 (.seq c64k59 c64s58)) c64k4)
def c64s61:ICode:=(.seq (.cond (.t 33) .skip (.exit 2)) c64s60)
def c64r62:List Seg:=[
 zo 33 (.bin .lss (.t 32) (.t 31))]
def c64k62:ICode:=.kill 148 qq47 (.ops c64r62)
def c64l3:ICode:=(.seq c64k62 c64s61)
def c64s63:ICode:=(.block 2 (.loop c64l3))
def c64r64:List Seg:=[
 zm 31 1,
 zo 32 (.mv (.c (.int .i64 0)))]
def c64k64:ICode:=.kill 148 qq10 (.ops c64r64)
def c64s65:ICode:=(.seq (.seq c64k64 c64s63) c64s2)
def c64s66:ICode:=(.seq .skip c64s65)
def c64r67:List Seg:=[
 zo 9 (.mv (.c (.int .i64 0)))]
def c64k67:ICode:=.kill 148 qq11 (.ops c64r67)
def c64s68:ICode:=(.seq c64k67 c64s66)
def c64r70:List Seg:=[
 zo 30 (.bin .add (.t 24) (.c (.int .i64 1))),
 zm 24 30]
def c64k70:ICode:=.kill 148 qq8 (.ops c64r70)
def c64r71:List Seg:=[
 zm 27 7,
 zm 28 8,
 zo 29 (.idxS 1 (.t 27) (.t 28)),
 .one ⟨none,.store1 (.t 29) (.c (.int .i64 (-1))),none⟩]
def c64k71:ICode:=.kill 148 qq9 (.ops c64r71)
def c64r72:List Seg:=[
 zm 26 24,
 zm 8 26]
def c64k72:ICode:=.kill 148 qq8 (.ops c64r72)
def c64s73:ICode:=(.seq (.block 1 (.seq c64k72 c64k71)) c64k70)
def c64s74:ICode:=(.seq (.cond (.t 25) .skip (.exit 0)) c64s73)
def c64r75:List Seg:=[
 zo 25 (.bin .lss (.t 24) (.t 23))]
def c64k75:ICode:=.kill 148 qq8 (.ops c64r75)
def c64l69:ICode:=(.seq c64k75 c64s74)
def c64s76:ICode:=(.block 0 (.loop c64l69))
def c64r77:List Seg:=[
 zm 22 7,
 zo 23 (.len 0 (.t 22)),
 zo 24 (.mv (.c (.int .i64 0)))]
def c64k77:ICode:=.kill 148 qq11 (.ops c64r77)
def c64s78:ICode:=(.seq (.seq c64k77 c64s76) c64s68)
def c64r79:List Seg:=[
 zm 19 0,
 zo 20 (.len 0 (.t 19)),
 zo 21 (.make [.int .i64 0] 8 (.t 20) (.t 20)),
 zm 7 21]
def c64k79:ICode:=.kill 148 qq12 (.ops c64r79)
def c64p0:ICode:=(.seq c64k79 c64s78)
def c64s80:ICode:=(.scope c64p0)
def c64r81:List Seg:=[
 zo 5 (.box (.t 2)),
 zo 6 (.mv (.c .nilslice))]
def c64k81:ICode:=.kill 148 qq0 (.ops c64r81)
def c64b:ICode:=(.seq c64k81 c64s80)
def c64:IFn:=⟨148,[.t 6],c64b⟩
def h64:List (Nat×Nat×List Nat):=[(0,(148,[0,1,2])),(1,(148,[0,1,5])),(2,(148,[0,1,5,7])),(3,(148,[0,1,5,7,23,24])),(4,(148,[0,1,5,7,23,24])),(5,(148,[0,1,5,7,8,23,24])),(6,(148,[0,1,5,7,23,24])),(7,(148,[0,1,5,7])),(8,(148,[0,1,5,7,9])),(9,(148,[0,5,7,9,31,32])),(10,(148,[0,5,7,9,31,32])),(11,(148,[0,5,7,9,10,31,32])),(12,(148,[0,5,7,9,10,11,31,32])),(13,(148,[0,5,7,9,10,11,31,32])),(14,(148,[0,5,7,9,10,11,31,32])),(15,(148,[0,5,7,9,10,11,31,32])),(16,(148,[0,5,7,9,10,31,32])),(17,(148,[0,5,7,9,10,12,31,32])),(18,(148,[0,5,7,9,10,12,13,31,32])),(19,(148,[0,5,7,9,10,12,13,31,32,80,81])),(20,(148,[0,5,7,9,10,12,13,31,32,80,81])),(21,(148,[0,5,7,9,10,12,13,14,31,32,80,81])),(22,(148,[0,5,7,9,10,12,13,31,32,80,81])),(23,(148,[0,5,7,9,10,12,31,32])),(24,(148,[0,5,7,9,10,12,31,32,95,96,97])),(25,(148,[0,5,7,9,10,12,31,32,95,96,97])),(26,(148,[0,5,7,9,10,12,15,16,31,32,95,96,97])),(27,(148,[0,5,7,9,10,12,16,31,32,95,96,97])),(28,(148,[0,5,7,9,10,12,16,17,31,32,95,96,97])),(29,(148,[0,5,7,9,10,12,16,17,31,32,95,96,97,118,119])),(30,(148,[0,5,7,9,10,12,16,17,31,32,95,96,97,118,119])),(31,(148,[0,5,7,9,10,12,16,17,18,31,32,95,96,97,118,119])),(32,(148,[0,5,7,9,10,12,16,17,31,32,95,96,97,118,119])),(33,(148,[0,5,7,9,10,12,31,32,95,96,97])),(34,(148,[0,5,7,9,10,31,32])),(35,(148,[0,5,7,9,31,32])),(36,(148,[0,5,7,9,31,32])),(37,(148,[7]))]
def c65r0:List Seg:=[
 .grp [(zn 27 6,0),(zp 28 (.call [] (.c (.func 87 [])) [(.t 27)]),1),(zp 29 (.loadN 3 (.t 2)),0),(zn 30 1,0)],
 zo 31 (.call [] (.c (.func 55 [])) [(.t 29),(.t 30)]),
 zo 32 (.call [] (.c (.func 43 [])) [(.t 31)]),
 zo 33 (.call [] (.c (.func 86 [])) [(.t 28),(.t 32)]),
 .grp [(zp 34 (.ext (.t 33) 0),0),(zp 35 (.ext (.t 33) 1),0)],
 zm 4 34,
 zm 5 35]
def c65k0:ICode:=.kill 36 qq97 (.ops c65r0)
def c65s1:ICode:=(.seq c65k0 .ret)
def c65r3:List Seg:=[
 zm 13 7,
 zo 14 (.bin .add (.t 13) (.c (.int .i64 1))),
 zm 7 14]
def c65k3:ICode:=.kill 36 qq96 (.ops c65r3)
def c65r4:List Seg:=[
 .grp [(zn 15 6,0),(zp 16 (.loadN 3 (.t 2)),0),(zp 17 (.loadN 3 (.t 2)),0),(zp 18 (.fieldA 2 (.t 2)),0),(zp 19 (.load1 (.t 18)),8),(zp 20 (.len 0 (.t 19)),24),(zn 21 7,0),(zp 22 (.call [] (.c (.func 71 [])) [(.t 20),(.t 21)]),120),(zp 23 (.call [] (.c (.func 54 [])) [(.t 17),(.t 22)]),252),(zp 24 (.call [] (.c (.func 55 [])) [(.t 16),(.t 23)]),510),(zp 25 (.mkslice 1 [.nilslice] [(0,1,(.t 24))]),1022)],
 zo 26 (.app 1 24 (.t 15) (.t 25)),
 zm 6 26]
def c65k4:ICode:=.kill 36 qq96 (.ops c65r4)
def c65s5:ICode:=(.seq (.block 1 c65k4) c65k3)
def c65s6:ICode:=(.cond (.t 12) .skip (.exit 0))
def c65r7:List Seg:=[
 zm 8 7,
 zo 9 (.fieldA 2 (.t 2)),
 zo 10 (.load1 (.t 9)),
 zo 11 (.len 0 (.t 10)),
 zo 12 (.bin .lss (.t 8) (.t 11))]
def c65k7:ICode:=.kill 36 qq96 (.ops c65r7)
def c65l2:ICode:=(.seq (.seq c65k7 c65s6) c65s5)
def c65s8:ICode:=(.block 0 (.loop c65l2))
def c65r9:List Seg:=[
 zo 7 (.mv (.c (.int .i64 0)))]
def c65k9:ICode:=.kill 36 qq97 (.ops c65r9)
def c65s10:ICode:=(.seq (.seq c65k9 c65s8) c65s1)
def c65r11:List Seg:=[
 zo 6 (.mv (.c .nilslice))]
def c65k11:ICode:=.kill 36 qq100 (.ops c65r11)
def c65s12:ICode:=(.seq c65k11 c65s10)
def c65r13:List Seg:=[
 zo 2 (.box (.t 0)),
 zo 4 (.mv (.c .nilslice)),
 zo 5 (.mv (.c (.int .i64 0)))]
def c65k13:ICode:=.kill 36 qq21 (.ops c65r13)
def c65b:ICode:=(.seq c65k13 c65s12)
def c65:IFn:=⟨36,[.t 4,.t 5],c65b⟩
def h65:List (Nat×Nat×List Nat):=[(0,(36,[0,1])),(1,(36,[1,2])),(2,(36,[1,2,6])),(3,(36,[1,2,6,7])),(5,(36,[1,2,6,7])),(4,(36,[1,2,6,7])),(6,(36,[1,2,6]))]
def c66r0:List Seg:=[
 zo 6 (.mv (.c (.int .i64 0)))]
def c66k0:ICode:=.kill 22 [] (.ops c66r0)
def c66s1:ICode:=(.seq c66k0 .ret)
def c66r2:List Seg:=[
 zo 6 (.mv (.c (.int .i64 1)))]
def c66k2:ICode:=.kill 22 [] (.ops c66r2)
def c66s3:ICode:=(.cond (.t 21) (.seq c66k2 .ret) .skip)
def c66r4:List Seg:=[
 zm 13 1,
 zo 14 (.len 0 (.t 13)),
 zm 15 2,
 zo 16 (.call [] (.t 15) []),
 zo 17 (.bin .neq (.t 14) (.t 16)),
 zm 18 17,
 .one ⟨some 19,.mv (.t 1),some (18,false)⟩,
 .one ⟨some 20,.call [] (.c (.func 83 [])) [(.t 19),(.c (.func 94 []))],some (18,false)⟩,
 zo 21 (.pick (.t 18) (.c (.bool true)) (.t 20))]
def c66k4:ICode:=.kill 22 qq100 (.ops c66r4)
def c66s5:ICode:=(.seq (.seq c66k4 c66s3) c66s1)
def c66r6:List Seg:=[
 zm 12 7,
 zm 6 12]
def c66k6:ICode:=.kill 22 [7] (.ops c66r6)
def c66s7:ICode:=(.cond (.t 11) (.seq c66k6 .ret) .skip)
def c66r8:List Seg:=[
 zm 10 7,
 zo 11 (.bin .neq (.t 10) (.c (.int .i64 0)))]
def c66k8:ICode:=.kill 22 qq98 (.ops c66r8)
def c66s9:ICode:=(.seq c66k8 c66s7)
def c66r10:List Seg:=[
 zo 8 (.loadN 3 (.t 3)),
 zo 9 (.call [] (.c (.func 59 [])) [(.t 8)]),
 zm 7 9]
def c66k10:ICode:=.kill 22 qq72 (.ops c66r10)
def c66s11:ICode:=(.seq (.seq c66k10 c66s9) c66s5)
def c66r12:List Seg:=[
 zo 3 (.box (.t 0)),
 zo 6 (.mv (.c (.int .i64 0)))]
def c66k12:ICode:=.kill 22 qq0 (.ops c66r12)
def c66b:ICode:=(.seq c66k12 c66s11)
def c66:IFn:=⟨22,[.t 6],c66b⟩
def h66:List (Nat×Nat×List Nat):=[(0,(22,[0,1,2])),(1,(22,[1,2,3])),(2,(22,[1,2,7])),(3,(22,[7])),(4,(22,[1,2])),(5,(22,[])),(6,(22,[]))]
def c67r0:List Seg:=[
 zo 3 (.fieldA 1 (.t 1)),
 zo 4 (.load1 (.t 3)),
 zo 5 (.len 0 (.t 4)),
 zm 2 5]
def c67k0:ICode:=.kill 6 [1] (.ops c67r0)
def c67s1:ICode:=(.seq c67k0 .ret)
def c67r2:List Seg:=[
 zo 1 (.box (.t 0)),
 zo 2 (.mv (.c (.int .i64 0)))]
def c67k2:ICode:=.kill 6 [0] (.ops c67r2)
def c67b:ICode:=(.seq c67k2 c67s1)
def c67:IFn:=⟨6,[.t 2],c67b⟩
def h67:List (Nat×Nat×List Nat):=[(0,(6,[0])),(1,(6,[1]))]
def c68r0:List Seg:=[
 zo 179 (.loadN 3 (.t 5)),
 .one ⟨none,.storeN 3 (.t 4) (.t 179),none⟩]
def c68k0:ICode:=.kill 180 [4,5] (.ops c68r0)
def c68s1:ICode:=(.seq c68k0 .ret)
def c68r3:List Seg:=[
 zo 178 (.bin .add (.t 155) (.c (.int .i64 1))),
 zm 155 178]
def c68k3:ICode:=.kill 180 qq145 (.ops c68r3)
def c68r4:List Seg:=[
 .grp [(zp 160 (.idxA 3 1 (.t 5) (.c (.int .i64 2))),0),(zp 161 (.load1 (.t 160)),1),(zn 162 26,0),(zp 163 (.call [] (.c (.func 63 [])) [(.t 162)]),4),(zp 164 (.idxA 3 1 (.t 5) (.c (.int .i64 0))),0),(zp 165 (.load1 (.t 164)),16),(zn 166 25,0),(zp 167 (.idxS 2 (.t 165) (.t 166)),112),(zp 168 (.loadN 2 (.t 167)),240),(zp 169 (.call [] (.c (.func 95 [])) [(.t 163),(.t 168)]),508),(zp 170 (.load1 (.t 19)),0),(zn 171 25,0),(zp 172 (.idxS 2 (.t 170) (.t 171)),3072),(zp 173 (.loadN 2 (.t 172)),7168),(zp 174 (.call [] (.c (.func 95 [])) [(.t 169),(.t 173)]),16380),(zp 175 (.mkslice 1 [.int .i64 0,.int .i64 0] [(0,2,(.t 174))]),32764)],
 zo 176 (.app 2 16 (.t 161) (.t 175)),
 zo 177 (.idxA 3 1 (.t 5) (.c (.int .i64 2))),
 .one ⟨none,.store1 (.t 177) (.t 176),none⟩]
def c68k4:ICode:=.kill 180 [4,5,19,25,26,153,154,155] (.ops c68r4)
def c68r5:List Seg:=[
 zm 157 155,
 zo 158 (.idxS 1 (.t 153) (.t 155)),
 zo 159 (.load1 (.t 158)),
 zm 25 157,
 zm 26 159]
def c68k5:ICode:=.kill 180 qq145 (.ops c68r5)
def c68s6:ICode:=(.seq (.block 17 (.seq c68k5 c68k4)) c68k3)
def c68s7:ICode:=(.seq (.cond (.t 156) .skip (.exit 16)) c68s6)
def c68r8:List Seg:=[
 zo 156 (.bin .lss (.t 155) (.t 154))]
def c68k8:ICode:=.kill 180 qq145 (.ops c68r8)
def c68l2:ICode:=(.seq c68k8 c68s7)
def c68s9:ICode:=(.block 16 (.loop c68l2))
def c68r10:List Seg:=[
 zm 153 1,
 zo 154 (.len 0 (.t 153)),
 zo 155 (.mv (.c (.int .i64 0)))]
def c68k10:ICode:=.kill 180 qq111 (.ops c68r10)
def c68s11:ICode:=(.seq (.seq c68k10 c68s9) c68s1)
def c68r12:List Seg:=[
 zo 151 (.load1 (.t 19)),
 zo 152 (.idxA 3 1 (.t 5) (.c (.int .i64 1))),
 .one ⟨none,.store1 (.t 152) (.t 151),none⟩]
def c68k12:ICode:=.kill 180 qq111 (.ops c68r12)
def c68s13:ICode:=(.seq c68k12 c68s11)
def c68r15:List Seg:=[
 zo 150 (.bin .add (.t 128) (.c (.int .i64 1))),
 zm 128 150]
def c68k15:ICode:=.kill 180 qq75 (.ops c68r15)
def c68r17:List Seg:=[
 .grp [(zp 138 (.load1 (.t 19)),0),(zn 139 23,0),(zp 140 (.load1 (.t 19)),0),(zn 141 23,0),(zp 142 (.idxS 2 (.t 140) (.t 141)),12),(zp 143 (.loadN 2 (.t 142)),28),(zp 144 (.loadN 2 (.t 22)),0),(zn 145 24,0),(zp 146 (.call [] (.c (.func 63 [])) [(.t 145)]),128),(zp 147 (.call [] (.c (.func 99 [])) [(.t 144),(.t 146)]),448),(zp 148 (.call [] (.c (.func 97 [])) [(.t 143),(.t 147)]),1020)],
 zo 149 (.idxS 2 (.t 138) (.t 139)),
 .one ⟨none,.storeN 2 (.t 149) (.t 148),none⟩]
def c68k17:ICode:=.kill 180 [19,22,23,24] (.ops c68r17)
def c68r18:List Seg:=[
 zm 24 137]
def c68k18:ICode:=.kill 180 [19,22,23,137] (.ops c68r18)
def c68r19:List Seg:=[
 zm 23 136]
def c68k19:ICode:=.kill 180 [19,22,136,137] (.ops c68r19)
def c68f16a:ICode:=(.seq c68k19 c68k18)
def c68f16b:ICode:=(.block 15 c68k17)
def c68s20:ICode:=(.block 14 (.rf (.t 135) [136,137] c68f16a c68f16b))
def c68r21:List Seg:=[
 zo 133 (.loadN 3 (.t 2)),
 zm 134 21,
 zo 135 (.call [] (.c (.func 62 [])) [(.t 133),(.t 134)])]
def c68k21:ICode:=.kill 180 [1,2,4,5,19,21,22,126,127,128] (.ops c68r21)
def c68s22:ICode:=(.seq c68k21 c68s20)
def c68r23:List Seg:=[
 zm 130 128,
 zo 131 (.idxS 2 (.t 126) (.t 128)),
 zo 132 (.loadN 2 (.t 131)),
 zo 22 (.box (.c (.agg [.int .i64 0,.int .i64 0]))),
 zm 21 130,
 .one ⟨none,.storeN 2 (.t 22) (.t 132),none⟩]
def c68k23:ICode:=.kill 180 qq75 (.ops c68r23)
def c68s24:ICode:=(.seq (.block 13 (.seq c68k23 c68s22)) c68k15)
def c68s25:ICode:=(.seq (.cond (.t 129) .skip (.exit 12)) c68s24)
def c68r26:List Seg:=[
 zo 129 (.bin .lss (.t 128) (.t 127))]
def c68k26:ICode:=.kill 180 qq75 (.ops c68r26)
def c68l14:ICode:=(.seq c68k26 c68s25)
def c68s27:ICode:=(.block 12 (.loop c68l14))
def c68r28:List Seg:=[
 zm 122 11,
 zo 123 (.fieldA 2 (.t 2)),
 zo 124 (.load1 (.t 123)),
 zo 125 (.len 0 (.t 124)),
 zo 126 (.call [] (.c (.func 98 [])) [(.t 122),(.t 125)]),
 zo 127 (.len 0 (.t 126)),
 zo 128 (.mv (.c (.int .i64 0)))]
def c68k28:ICode:=.kill 180 qq74 (.ops c68r28)
def c68s29:ICode:=(.seq (.seq c68k28 c68s27) c68s13)
def c68r31:List Seg:=[
 zo 121 (.bin .add (.t 114) (.c (.int .i64 1))),
 zm 114 121]
def c68k31:ICode:=.kill 180 qq73 (.ops c68r31)
def c68r32:List Seg:=[
 zo 117 (.load1 (.t 19)),
 zm 118 20,
 zo 119 (.loadN 2 (.c (.ptr 0 0))),
 zo 120 (.idxS 2 (.t 117) (.t 118)),
 .one ⟨none,.storeN 2 (.t 120) (.t 119),none⟩]
def c68k32:ICode:=.kill 180 [1,2,4,5,11,19,20,113,114] (.ops c68r32)
def c68r33:List Seg:=[
 zm 116 114,
 zm 20 116]
def c68k33:ICode:=.kill 180 qq73 (.ops c68r33)
def c68s34:ICode:=(.seq (.block 11 (.seq c68k33 c68k32)) c68k31)
def c68s35:ICode:=(.seq (.cond (.t 115) .skip (.exit 10)) c68s34)
def c68r36:List Seg:=[
 zo 115 (.bin .lss (.t 114) (.t 113))]
def c68k36:ICode:=.kill 180 qq73 (.ops c68r36)
def c68l30:ICode:=(.seq c68k36 c68s35)
def c68s37:ICode:=(.block 10 (.loop c68l30))
def c68r38:List Seg:=[
 zo 112 (.load1 (.t 19)),
 zo 113 (.len 0 (.t 112)),
 zo 114 (.mv (.c (.int .i64 0)))]
def c68k38:ICode:=.kill 180 qq74 (.ops c68r38)
def c68s39:ICode:=(.seq (.seq c68k38 c68s37) c68s29)
def c68r40:List Seg:=[
 zo 108 (.fieldA 1 (.t 2)),
 zo 109 (.load1 (.t 108)),
 zo 110 (.len 0 (.t 109)),
 zo 111 (.make [.int .i64 0,.int .i64 0] 16 (.t 110) (.t 110)),
 zo 19 (.box (.c .nilslice)),
 .one ⟨none,.store1 (.t 19) (.t 111),none⟩]
def c68k40:ICode:=.kill 180 [1,2,4,5,11] (.ops c68r40)
def c68s41:ICode:=(.seq c68k40 c68s39)
def c68r43:List Seg:=[
 zo 107 (.bin .add (.t 63) (.c (.int .i64 1))),
 zm 63 107]
def c68k43:ICode:=.kill 180 qq78 (.ops c68r43)
def c68r44:List Seg:=[
 zm 103 11,
 zo 104 (.loadN 22 (.t 13)),
 zo 105 (.mkslice 1 (List.replicate 22 (.int .i64 0)) [(0,22,(.t 104))]),
 zo 106 (.app 22 176 (.t 103) (.t 105)),
 zm 11 106]
def c68k44:ICode:=.kill 180 [1,2,4,5,9,11,13,62,63] (.ops c68r44)
def c68r45:List Seg:=[
 zm 97 9,
 zm 98 12,
 zo 99 (.idxS 1 (.t 97) (.t 98)),
 zo 100 (.load1 (.t 99)),
 zo 101 (.call [] (.c (.func 63 [])) [(.t 100)]),
 zo 102 (.idxA 11 2 (.t 13) (.c (.int .i64 10))),
 .one ⟨none,.storeN 2 (.t 102) (.t 101),none⟩]
def c68k45:ICode:=.kill 180 qq77 (.ops c68r45)
def c68s46:ICode:=(.seq c68k45 c68k44)
def c68r49:List Seg:=[
 zo 96 (.bin .add (.t 75) (.c (.int .i64 1))),
 zm 75 96]
def c68k49:ICode:=.kill 180 qq127 (.ops c68r49)
def c68r51:List Seg:=[
 .grp [(zp 86 (.load1 (.t 16)),0),(zp 87 (.load1 (.t 16)),0),(zp 88 (.idxA 11 2 (.t 13) (.t 87)),2),(zp 89 (.loadN 2 (.t 88)),6),(zp 90 (.load1 (.t 15)),0),(zn 91 18,0),(zp 92 (.bin .mul (.t 90) (.t 91)),48),(zp 93 (.call [] (.c (.func 63 [])) [(.t 92)]),112),(zp 94 (.call [] (.c (.func 97 [])) [(.t 89),(.t 93)]),254)],
 zo 95 (.idxA 11 2 (.t 13) (.t 86)),
 .one ⟨none,.storeN 2 (.t 95) (.t 94),none⟩]
def c68k51:ICode:=.kill 180 [13,15,16,18] (.ops c68r51)
def c68s52:ICode:=(.cond (.t 85) c68k51 .skip)
def c68r53:List Seg:=[
 zm 83 17,
 zo 84 (.load1 (.t 14)),
 zo 85 (.bin .eql (.t 83) (.t 84))]
def c68k53:ICode:=.kill 180 [13,14,15,16,17,18] (.ops c68r53)
def c68r54:List Seg:=[
 zm 18 82]
def c68k54:ICode:=.kill 180 [13,14,15,16,17,82] (.ops c68r54)
def c68r55:List Seg:=[
 zm 17 81]
def c68k55:ICode:=.kill 180 [13,14,15,16,81,82] (.ops c68r55)
def c68f50a:ICode:=(.seq c68k55 c68k54)
def c68f50b:ICode:=(.block 9 (.seq c68k53 c68s52))
def c68s56:ICode:=(.block 8 (.rf (.t 80) [81,82] c68f50a c68f50b))
def c68r57:List Seg:=[
 zo 78 (.loadN 3 (.t 2)),
 zo 79 (.load1 (.t 16)),
 zo 80 (.call [] (.c (.func 62 [])) [(.t 78),(.t 79)])]
def c68k57:ICode:=.kill 180 [2,13,14,15,16,74,75] (.ops c68r57)
def c68s58:ICode:=(.seq c68k57 c68s56)
def c68r59:List Seg:=[
 zm 77 75,
 zo 16 (.box (.c (.int .i64 0))),
 .one ⟨none,.store1 (.t 16) (.t 77),none⟩]
def c68k59:ICode:=.kill 180 qq127 (.ops c68r59)
def c68s60:ICode:=(.seq (.block 7 (.seq c68k59 c68s58)) c68k49)
def c68s61:ICode:=(.seq (.cond (.t 76) .skip (.exit 6)) c68s60)
def c68r62:List Seg:=[
 zo 76 (.bin .lss (.t 75) (.t 74))]
def c68k62:ICode:=.kill 180 qq127 (.ops c68r62)
def c68l48:ICode:=(.seq c68k62 c68s61)
def c68s63:ICode:=(.block 6 (.loop c68l48))
def c68r64:List Seg:=[
 zo 72 (.fieldA 2 (.t 2)),
 zo 73 (.load1 (.t 72)),
 zo 74 (.len 0 (.t 73)),
 zo 75 (.mv (.c (.int .i64 0)))]
def c68k64:ICode:=.kill 180 [2,13,14,15] (.ops c68r64)
def c68r65:List Seg:=[
 zo 15 (.box (.c (.int .i64 0))),
 .one ⟨none,.store1 (.t 15) (.t 71),none⟩]
def c68k65:ICode:=.kill 180 [2,13,14,71] (.ops c68r65)
def c68r66:List Seg:=[
 zo 14 (.box (.c (.int .i64 0))),
 .one ⟨none,.store1 (.t 14) (.t 70),none⟩]
def c68k66:ICode:=.kill 180 [2,13,70,71] (.ops c68r66)
def c68f47a:ICode:=(.seq c68k66 c68k65)
def c68f47b:ICode:=(.block 5 (.seq c68k64 c68s63))
def c68s67:ICode:=(.block 4 (.rf (.t 69) [70,71] c68f47a c68f47b))
def c68r68:List Seg:=[
 zo 67 (.loadN 3 (.t 2)),
 zm 68 12,
 zo 69 (.call [] (.c (.func 62 [])) [(.t 67),(.t 68)])]
def c68k68:ICode:=.kill 180 qq77 (.ops c68r68)
def c68s69:ICode:=(.seq (.seq c68k68 c68s67) c68s46)
def c68r70:List Seg:=[
 zo 66 (.call [] (.c (.func 96 [])) []),
 zo 13 (.box (.c (.agg (List.replicate 22 (.int .i64 0))))),
 .one ⟨none,.storeN 22 (.t 13) (.t 66),none⟩]
def c68k70:ICode:=.kill 180 [1,2,4,5,9,11,12,62,63] (.ops c68r70)
def c68s71:ICode:=(.seq c68k70 c68s69)
def c68r72:List Seg:=[
 zm 65 63,
 zm 12 65]
def c68k72:ICode:=.kill 180 qq78 (.ops c68r72)
def c68s73:ICode:=(.seq (.block 3 (.seq c68k72 c68s71)) c68k43)
def c68s74:ICode:=(.seq (.cond (.t 64) .skip (.exit 2)) c68s73)
def c68r75:List Seg:=[
 zo 64 (.bin .lss (.t 63) (.t 62))]
def c68k75:ICode:=.kill 180 qq78 (.ops c68r75)
def c68l42:ICode:=(.seq c68k75 c68s74)
def c68s76:ICode:=(.block 2 (.loop c68l42))
def c68r77:List Seg:=[
 zo 60 (.fieldA 2 (.t 2)),
 zo 61 (.load1 (.t 60)),
 zo 62 (.len 0 (.t 61)),
 zo 63 (.mv (.c (.int .i64 0)))]
def c68k77:ICode:=.kill 180 [1,2,4,5,9,11] (.ops c68r77)
def c68s78:ICode:=(.seq (.seq c68k77 c68s76) c68s41)
def c68r79:List Seg:=[
 zo 11 (.mv (.c .nilslice))]
def c68k79:ICode:=.kill 180 [1,2,4,5,9] (.ops c68r79)
def c68s80:ICode:=(.seq c68k79 c68s78)
def c68r81:List Seg:=[
 zo 55 (.loadN 3 (.t 2)),
 zm 56 1,
 zo 57 (.call [] (.c (.func 40 [])) [(.t 55),(.t 56)]),
 zm 54 57,
 zo 58 (.ext (.t 54) 0),
 zo 59 (.ext (.t 54) 1),
 zm 9 58,
 zm 10 59]
def c68k81:ICode:=.kill 180 qq79 (.ops c68r81)
def c68s82:ICode:=(.seq c68k81 c68s80)
def c68r84:List Seg:=[
 zo 53 (.bin .add (.t 33) (.c (.int .i64 1))),
 zm 33 53]
def c68k84:ICode:=.kill 180 qq76 (.ops c68r84)
def c68r85:List Seg:=[
 .grp [(zp 37 (.idxA 3 1 (.t 5) (.c (.int .i64 0))),0),(zp 38 (.load1 (.t 37)),1),(zn 39 6,0),(zp 40 (.idxA 2 1 (.t 8) (.c (.int .i64 1))),0),(zp 41 (.load1 (.t 40)),8),(zp 42 (.idxS 2 (.t 39) (.t 41)),28),(zp 43 (.loadN 2 (.t 42)),60),(zn 44 6,0),(zp 45 (.idxA 2 1 (.t 8) (.c (.int .i64 0))),0),(zp 46 (.load1 (.t 45)),256),(zp 47 (.idxS 2 (.t 44) (.t 46)),896),(zp 48 (.loadN 2 (.t 47)),1920),(zp 49 (.call [] (.c (.func 95 [])) [(.t 43),(.t 48)]),4092),(zp 50 (.mkslice 1 [.int .i64 0,.int .i64 0] [(0,2,(.t 49))]),8188)],
 zo 51 (.app 2 16 (.t 38) (.t 50)),
 zo 52 (.idxA 3 1 (.t 5) (.c (.int .i64 0))),
 .one ⟨none,.store1 (.t 52) (.t 51),none⟩]
def c68k85:ICode:=.kill 180 [1,2,4,5,6,8,31,32,33] (.ops c68r85)
def c68r86:List Seg:=[
 zo 35 (.idxS 2 (.t 31) (.t 33)),
 zo 36 (.loadN 2 (.t 35)),
 zo 8 (.box (.c (.agg [.int .i64 0,.int .i64 0]))),
 .one ⟨none,.storeN 2 (.t 8) (.t 36),none⟩]
def c68k86:ICode:=.kill 180 qq76 (.ops c68r86)
def c68s87:ICode:=(.seq (.block 1 (.seq c68k86 c68k85)) c68k84)
def c68s88:ICode:=(.seq (.cond (.t 34) .skip (.exit 0)) c68s87)
def c68r89:List Seg:=[
 zo 34 (.bin .lss (.t 33) (.t 32))]
def c68k89:ICode:=.kill 180 qq76 (.ops c68r89)
def c68l83:ICode:=(.seq c68k89 c68s88)
def c68s90:ICode:=(.block 0 (.loop c68l83))
def c68r91:List Seg:=[
 zo 30 (.fieldA 1 (.t 2)),
 zo 31 (.load1 (.t 30)),
 zo 32 (.len 0 (.t 31)),
 zo 33 (.mv (.c (.int .i64 0)))]
def c68k91:ICode:=.kill 180 [1,2,4,5,6] (.ops c68r91)
def c68s92:ICode:=(.seq (.seq c68k91 c68s90) c68s82)
def c68r93:List Seg:=[
 zo 27 (.loadN 3 (.t 2)),
 zm 28 1,
 zo 29 (.call [] (.c (.func 70 [])) [(.t 27),(.t 28)]),
 zm 6 29]
def c68k93:ICode:=.kill 180 qq79 (.ops c68r93)
def c68s94:ICode:=(.seq c68k93 c68s92)
def c68r95:List Seg:=[
 zo 5 (.box (.c (.agg [.nilslice,.nilslice,.nilslice])))]
def c68k95:ICode:=.kill 180 qq80 (.ops c68r95)
def c68s96:ICode:=(.seq c68k95 c68s94)
def c68r97:List Seg:=[
 zo 2 (.box (.t 0)),
 zo 4 (.box (.c (.agg [.nilslice,.nilslice,.nilslice])))]
def c68k97:ICode:=.kill 180 qq21 (.ops c68r97)
def c68b:ICode:=(.seq c68k97 c68s96)
def c68:IFn:=⟨180,[.cellN 4 3],c68b⟩
def h68:List (Nat×Nat×List Nat):=[(0,(180,[0,1])),(1,(180,[1,2,4])),(2,(180,[1,2,4,5])),(3,(180,[1,2,4,5,6])),(4,(180,[1,2,4,5,6,31,32,33])),(5,(180,[1,2,4,5,6,31,32,33])),(6,(180,[1,2,4,5,6,8,31,32,33])),(7,(180,[1,2,4,5,6,31,32,33])),(8,(180,[1,2,4,5])),(9,(180,[1,2,4,5,9])),(10,(180,[1,2,4,5,9,11])),(11,(180,[1,2,4,5,9,11,62,63])),(12,(180,[1,2,4,5,9,11,62,63])),(13,(180,[1,2,4,5,9,11,12,62,63])),(14,(180,[1,2,4,5,9,11,12,13,62,63])),(15,(180,[2,13,70,71])),(16,(180,[2,13,14,71])),(17,(180,[2,13,14,15])),(18,(180,[2,13,14,15,74,75])),(19,(180,[2,13,14,15,74,75])),(20,(180,[2,13,14,15,16,74,75])),(21,(180,[13,14,15,16,81,82])),(22,(180,[13,14,15,16,17,82])),(23,(180,[13,14,15,16,17,18])),(24,(180,[13,15,16,18])),(25,(180,[2,13,14,15,74,75])),(26,(180,[1,2,4,5,9,11,12,13,62,63])),(27,(180,[1,2,4,5,9,11,13,62,63])),(28,(180,[1,2,4,5,9,11,62,63])),(29,(180,[1,2,4,5,11])),(30,(180,[1,2,4,5,11,19])),(31,(180,[1,2,4,5,11,19,113,114])),(32,(180,[1,2,4,5,11,19,113,114])),(33,(180,[1,2,4,5,11,19,20,113,114])),(34,(180,[1,2,4,5,11,19,113,114])),(35,(180,[1,2,4,5,11,19])),(36,(180,[1,2,4,5,19,126,127,128])),(37,(180,[1,2,4,5,19,126,127,128])),(38,(180,[1,2,4,5,19,21,22,126,127,128])),(39,(180,[19,22,136,137])),(40,(180,[19,22,23,137])),(41,(180,[19,22,23,24])),(42,(180,[1,2,4,5,19,126,127,128])),(43,(180,[1,4,5,19])),(44,(180,[1,4,5,19])),(45,(180,[4,5,19,153,154,155])),(46,(180,[4,5,19,153,154,155])),(47,(180,[4,5,19,25,26,153,154,155])),(48,(180,[4,5,19,153,154,155])),(49,(180,[4,5]))]
def c69r0:List Seg:=[
 zm 21 3,
 zm 2 21]
def c69k0:ICode:=.kill 22 [3] (.ops c69r0)
def c69s1:ICode:=(.seq c69k0 .ret)
def c69r3:List Seg:=[
 zo 20 (.bin .add (.t 8) (.c (.int .i64 1))),
 zm 8 20]
def c69k3:ICode:=.kill 22 qq144 (.ops c69r3)
def c69r4:List Seg:=[
 zm 12 3,
 zo 13 (.fieldA 0 (.t 5)),
 zo 14 (.load1 (.t 13)),
 zo 15 (.fieldA 1 (.t 5)),
 zo 16 (.load1 (.t 15)),
 zo 17 (.mkagg [.int .i64 0,.int .i64 0] [(0,1,(.t 14)),(1,1,(.t 16))]),
 zo 18 (.mkslice 1 [.int .i64 0,.int .i64 0] [(0,2,(.t 17))]),
 zo 19 (.app 2 16 (.t 12) (.t 18)),
 zm 3 19]
def c69k4:ICode:=.kill 22 [3,5,6,7,8] (.ops c69r4)
def c69r5:List Seg:=[
 zo 10 (.idxS 2 (.t 6) (.t 8)),
 zo 11 (.loadN 2 (.t 10)),
 zo 5 (.box (.c (.agg [.int .i64 0,.int .i64 0]))),
 .one ⟨none,.storeN 2 (.t 5) (.t 11),none⟩]
def c69k5:ICode:=.kill 22 qq144 (.ops c69r5)
def c69s6:ICode:=(.seq (.block 1 (.seq c69k5 c69k4)) c69k3)
def c69s7:ICode:=(.seq (.cond (.t 9) .skip (.exit 0)) c69s6)
def c69r8:List Seg:=[
 zo 9 (.bin .lss (.t 8) (.t 7))]
def c69k8:ICode:=.kill 22 qq144 (.ops c69r8)
def c69l2:ICode:=(.seq c69k8 c69s7)
def c69s9:ICode:=(.block 0 (.loop c69l2))
def c69r10:List Seg:=[
 zm 6 0,
 zo 7 (.len 0 (.t 6)),
 zo 8 (.mv (.c (.int .i64 0)))]
def c69k10:ICode:=.kill 22 qq28 (.ops c69r10)
def c69s11:ICode:=(.seq (.seq c69k10 c69s9) c69s1)
def c69r12:List Seg:=[
 zo 3 (.mv (.c .nilslice))]
def c69k12:ICode:=.kill 22 [0] (.ops c69r12)
def c69s13:ICode:=(.seq c69k12 c69s11)
def c69r14:List Seg:=[
 zo 2 (.mv (.c .nilslice))]
def c69k14:ICode:=.kill 22 [0] (.ops c69r14)
def c69b:ICode:=(.seq c69k14 c69s13)
def c69:IFn:=⟨22,[.t 2],c69b⟩
def h69:List (Nat×Nat×List Nat):=[(0,(22,[0])),(1,(22,[0])),(2,(22,[0,3])),(3,(22,[3,6,7,8])),(4,(22,[3,6,7,8])),(5,(22,[3,5,6,7,8])),(6,(22,[3,6,7,8])),(7,(22,[3]))]
def c70r0:List Seg:=[
 zm 115 5,
 zo 116 (.fieldA 0 (.t 2)),
 zo 117 (.load1 (.t 116)),
 zo 118 (.call [] (.c (.func 98 [])) [(.t 115),(.t 117)]),
 zm 4 118]
def c70k0:ICode:=.kill 119 qq142 (.ops c70r0)
def c70s1:ICode:=(.seq c70k0 .ret)
def c70r3:List Seg:=[
 zo 114 (.bin .add (.t 87) (.c (.int .i64 1))),
 zm 87 114]
def c70k3:ICode:=.kill 119 qq136 (.ops c70r3)
def c70r4:List Seg:=[
 zm 110 5,
 zo 111 (.loadN 22 (.t 16)),
 zo 112 (.mkslice 1 (List.replicate 22 (.int .i64 0)) [(0,22,(.t 111))]),
 zo 113 (.app 22 176 (.t 110) (.t 112)),
 zm 5 113]
def c70k4:ICode:=.kill 119 [2,5,14,16,86,87] (.ops c70r4)
def c70r6:List Seg:=[
 zo 109 (.bin .add (.t 98) (.c (.int .i64 1))),
 zm 98 109]
def c70k6:ICode:=.kill 119 qq134 (.ops c70r6)
def c70r7:List Seg:=[
 zm 106 17,
 zo 107 (.call [] (.c (.func 63 [])) [(.c (.int .i64 1))]),
 zo 108 (.idxA 11 2 (.t 16) (.t 106)),
 .one ⟨none,.storeN 2 (.t 108) (.t 107),none⟩]
def c70k7:ICode:=.kill 119 qq133 (.ops c70r7)
def c70s8:ICode:=(.cond (.t 105) c70k7 .skip)
def c70r9:List Seg:=[
 zm 101 14,
 zm 102 17,
 zo 103 (.call [] (.t 101) [(.t 102)]),
 zm 104 15,
 zo 105 (.bin .eql (.t 103) (.t 104))]
def c70k9:ICode:=.kill 119 qq133 (.ops c70r9)
def c70s10:ICode:=(.seq c70k9 c70s8)
def c70r11:List Seg:=[
 zm 100 98,
 zm 17 100]
def c70k11:ICode:=.kill 119 qq134 (.ops c70r11)
def c70s12:ICode:=(.seq (.block 9 (.seq c70k11 c70s10)) c70k6)
def c70s13:ICode:=(.seq (.cond (.t 99) .skip (.exit 8)) c70s12)
def c70r14:List Seg:=[
 zo 99 (.bin .lss (.t 98) (.t 97))]
def c70k14:ICode:=.kill 119 qq134 (.ops c70r14)
def c70l5:ICode:=(.seq c70k14 c70s13)
def c70s15:ICode:=(.block 8 (.loop c70l5))
def c70r16:List Seg:=[
 zo 96 (.fieldA 0 (.t 2)),
 zo 97 (.load1 (.t 96)),
 zo 98 (.mv (.c (.int .i64 0)))]
def c70k16:ICode:=.kill 119 [2,5,14,15,16,86,87] (.ops c70r16)
def c70s17:ICode:=(.seq (.seq c70k16 c70s15) c70k4)
def c70r18:List Seg:=[
 zo 95 (.call [] (.c (.func 96 [])) []),
 zo 16 (.box (.c (.agg (List.replicate 22 (.int .i64 0))))),
 .one ⟨none,.storeN 22 (.t 16) (.t 95),none⟩]
def c70k18:ICode:=.kill 119 qq135 (.ops c70r18)
def c70s19:ICode:=(.seq c70k18 c70s17)
def c70s20:ICode:=(.cond (.t 94) (.exit 7) .skip)
def c70r21:List Seg:=[
 zm 90 14,
 zm 91 15,
 zo 92 (.call [] (.t 90) [(.t 91)]),
 zm 93 15,
 zo 94 (.bin .neq (.t 92) (.t 93))]
def c70k21:ICode:=.kill 119 qq135 (.ops c70r21)
def c70s22:ICode:=(.seq (.seq c70k21 c70s20) c70s19)
def c70r23:List Seg:=[
 zm 89 87,
 zm 15 89]
def c70k23:ICode:=.kill 119 qq136 (.ops c70r23)
def c70s24:ICode:=(.seq (.block 7 (.seq c70k23 c70s22)) c70k3)
def c70s25:ICode:=(.seq (.cond (.t 88) .skip (.exit 6)) c70s24)
def c70r26:List Seg:=[
 zo 88 (.bin .lss (.t 87) (.t 86))]
def c70k26:ICode:=.kill 119 qq136 (.ops c70r26)
def c70l2:ICode:=(.seq c70k26 c70s25)
def c70s27:ICode:=(.block 6 (.loop c70l2))
def c70r28:List Seg:=[
 zo 85 (.fieldA 0 (.t 2)),
 zo 86 (.load1 (.t 85)),
 zo 87 (.mv (.c (.int .i64 0)))]
def c70k28:ICode:=.kill 119 [2,5,14] (.ops c70r28)
def c70s29:ICode:=(.seq (.seq c70k28 c70s27) c70s1)
def c70r30:List Seg:=[
 zo 84 (.mkfn 100 [(.t 13)]),
 zm 14 84]
def c70k30:ICode:=.kill 119 [2,5,13] (.ops c70r30)
def c70s31:ICode:=(.seq c70k30 c70s29)
def c70r32:List Seg:=[
 .grp [(zp 78 (.loadN 3 (.t 2)),0),(zp 79 (.fieldA 1 (.t 2)),0),(zp 80 (.load1 (.t 79)),2),(zp 81 (.len 0 (.t 80)),6),(zp 82 (.make [.int .i64 0] 8 (.t 81) (.t 81)),14),(zp 83 (.call [] (.c (.func 78 [])) [(.t 78),(.t 82)]),31),(zp 13 (.box (.c .nilptr)),0)],
 .one ⟨none,.store1 (.t 13) (.t 83),none⟩]
def c70k32:ICode:=.kill 119 qq142 (.ops c70r32)
def c70s33:ICode:=(.seq c70k32 c70s31)
def c70r35:List Seg:=[
 zo 77 (.bin .add (.t 26) (.c (.int .i64 1))),
 zm 26 77]
def c70k35:ICode:=.kill 119 qq137 (.ops c70r35)
def c70r36:List Seg:=[
 zm 73 5,
 zo 74 (.loadN 22 (.t 9)),
 zo 75 (.mkslice 1 (List.replicate 22 (.int .i64 0)) [(0,22,(.t 74))]),
 zo 76 (.app 22 176 (.t 73) (.t 75)),
 zm 5 76]
def c70k36:ICode:=.kill 119 [2,5,6,9,25,26] (.ops c70r36)
def c70r37:List Seg:=[
 zm 67 6,
 zm 68 8,
 zo 69 (.idxS 1 (.t 67) (.t 68)),
 zo 70 (.load1 (.t 69)),
 zo 71 (.call [] (.c (.func 63 [])) [(.t 70)]),
 zo 72 (.idxA 11 2 (.t 9) (.c (.int .i64 10))),
 .one ⟨none,.storeN 2 (.t 72) (.t 71),none⟩]
def c70k37:ICode:=.kill 119 qq141 (.ops c70r37)
def c70s38:ICode:=(.seq c70k37 c70k36)
def c70r40:List Seg:=[
 zo 66 (.bin .add (.t 33) (.c (.int .i64 1))),
 zm 33 66]
def c70k40:ICode:=.kill 119 qq140 (.ops c70r40)
def c70r42:List Seg:=[
 zo 65 (.bin .add (.t 37) (.c (.int .i64 1))),
 zm 37 65]
def c70k42:ICode:=.kill 119 qq139 (.ops c70r42)
def c70r43:List Seg:=[
 .grp [(zn 52 12,0),(zp 53 (.bin .sub (.c (.int .i64 1)) (.t 52)),1),(zp 54 (.idxA 2 1 (.t 11) (.t 53)),3),(zp 55 (.load1 (.t 54)),7),(zn 56 12,0),(zp 57 (.bin .sub (.c (.int .i64 1)) (.t 56)),16),(zp 58 (.idxA 2 1 (.t 11) (.t 57)),48),(zp 59 (.load1 (.t 58)),112),(zp 60 (.idxA 11 2 (.t 9) (.t 59)),240),(zp 61 (.loadN 2 (.t 60)),496),(zp 62 (.call [] (.c (.func 63 [])) [(.c (.int .i64 1))]),0),(zp 63 (.call [] (.c (.func 95 [])) [(.t 61),(.t 62)]),2032)],
 zo 64 (.idxA 11 2 (.t 9) (.t 55)),
 .one ⟨none,.storeN 2 (.t 64) (.t 63),none⟩]
def c70k43:ICode:=.kill 119 qq138 (.ops c70r43)
def c70r44:List Seg:=[
 .grp [(zn 45 8,0),(zn 46 8,0),(zp 47 (.idxA 11 2 (.t 9) (.t 46)),2),(zp 48 (.loadN 2 (.t 47)),6),(zp 49 (.call [] (.c (.func 63 [])) [(.c (.int .i64 1))]),0),(zp 50 (.call [] (.c (.func 97 [])) [(.t 48),(.t 49)]),30)],
 zo 51 (.idxA 11 2 (.t 9) (.t 45)),
 .one ⟨none,.storeN 2 (.t 51) (.t 50),none⟩]
def c70k44:ICode:=.kill 119 qq138 (.ops c70r44)
def c70s45:ICode:=(.cond (.t 44) (.seq c70k44 c70k43) .skip)
def c70r46:List Seg:=[
 zm 40 12,
 zo 41 (.idxA 2 1 (.t 11) (.t 40)),
 zo 42 (.load1 (.t 41)),
 zm 43 8,
 zo 44 (.bin .eql (.t 42) (.t 43))]
def c70k46:ICode:=.kill 119 qq138 (.ops c70r46)
def c70s47:ICode:=(.seq c70k46 c70s45)
def c70r48:List Seg:=[
 zm 39 37,
 zm 12 39]
def c70k48:ICode:=.kill 119 qq139 (.ops c70r48)
def c70s49:ICode:=(.seq (.block 5 (.seq c70k48 c70s47)) c70k42)
def c70s50:ICode:=(.seq (.cond (.t 38) .skip (.exit 4)) c70s49)
def c70r51:List Seg:=[
 zo 38 (.bin .lss (.t 37) (.c (.int .i64 2)))]
def c70k51:ICode:=.kill 119 qq139 (.ops c70r51)
def c70l41:ICode:=(.seq c70k51 c70s50)
def c70s52:ICode:=(.block 4 (.loop c70l41))
def c70r53:List Seg:=[
 zo 37 (.mv (.c (.int .i64 0)))]
def c70k53:ICode:=.kill 119 [2,5,6,8,9,11,25,26,31,32,33] (.ops c70r53)
def c70s54:ICode:=(.seq c70k53 c70s52)
def c70r55:List Seg:=[
 zo 35 (.idxS 2 (.t 31) (.t 33)),
 zo 36 (.loadN 2 (.t 35)),
 zo 11 (.box (.c (.agg [.int .i64 0,.int .i64 0]))),
 .one ⟨none,.storeN 2 (.t 11) (.t 36),none⟩]
def c70k55:ICode:=.kill 119 qq140 (.ops c70r55)
def c70s56:ICode:=(.seq (.block 3 (.seq c70k55 c70s54)) c70k40)
def c70s57:ICode:=(.seq (.cond (.t 34) .skip (.exit 2)) c70s56)
def c70r58:List Seg:=[
 zo 34 (.bin .lss (.t 33) (.t 32))]
def c70k58:ICode:=.kill 119 qq140 (.ops c70r58)
def c70l39:ICode:=(.seq c70k58 c70s57)
def c70s59:ICode:=(.block 2 (.loop c70l39))
def c70r60:List Seg:=[
 zo 30 (.fieldA 1 (.t 2)),
 zo 31 (.load1 (.t 30)),
 zo 32 (.len 0 (.t 31)),
 zo 33 (.mv (.c (.int .i64 0)))]
def c70k60:ICode:=.kill 119 qq141 (.ops c70r60)
def c70s61:ICode:=(.seq (.seq c70k60 c70s59) c70s38)
def c70r62:List Seg:=[
 zo 29 (.call [] (.c (.func 96 [])) []),
 zo 9 (.box (.c (.agg (List.replicate 22 (.int .i64 0))))),
 .one ⟨none,.storeN 22 (.t 9) (.t 29),none⟩]
def c70k62:ICode:=.kill 119 [2,5,6,8,25,26] (.ops c70r62)
def c70s63:ICode:=(.seq c70k62 c70s61)
def c70r64:List Seg:=[
 zm 28 26,
 zm 8 28]
def c70k64:ICode:=.kill 119 qq137 (.ops c70r64)
def c70s65:ICode:=(.seq (.block 1 (.seq c70k64 c70s63)) c70k35)
def c70s66:ICode:=(.seq (.cond (.t 27) .skip (.exit 0)) c70s65)
def c70r67:List Seg:=[
 zo 27 (.bin .lss (.t 26) (.t 25))]
def c70k67:ICode:=.kill 119 qq137 (.ops c70r67)
def c70l34:ICode:=(.seq c70k67 c70s66)
def c70s68:ICode:=(.block 0 (.loop c70l34))
def c70r69:List Seg:=[
 zo 24 (.fieldA 0 (.t 2)),
 zo 25 (.load1 (.t 24)),
 zo 26 (.mv (.c (.int .i64 0)))]
def c70k69:ICode:=.kill 119 [2,5,6] (.ops c70r69)
def c70s70:ICode:=(.seq (.seq c70k69 c70s68) c70s33)
def c70r71:List Seg:=[
 zo 19 (.loadN 3 (.t 2)),
 zm 20 1,
 zo 21 (.call [] (.c (.func 22 [])) [(.t 19),(.t 20)]),
 zm 18 21,
 zo 22 (.ext (.t 18) 0),
 zo 23 (.ext (.t 18) 1),
 zm 6 22,
 zm 7 23]
def c70k71:ICode:=.kill 119 qq95 (.ops c70r71)
def c70s72:ICode:=(.seq c70k71 c70s70)
def c70r73:List Seg:=[
 zo 5 (.mv (.c .nilslice))]
def c70k73:ICode:=.kill 119 qq100 (.ops c70r73)
def c70s74:ICode:=(.seq c70k73 c70s72)
def c70r75:List Seg:=[
 zo 2 (.box (.t 0)),
 zo 4 (.mv (.c .nilslice))]
def c70k75:ICode:=.kill 119 qq21 (.ops c70r75)
def c70b:ICode:=(.seq c70k75 c70s74)
def c70:IFn:=⟨119,[.t 4],c70b⟩
def h70:List (Nat×Nat×List Nat):=[(0,(119,[0,1])),(1,(119,[1,2])),(2,(119,[1,2,5])),(3,(119,[2,5,6])),(4,(119,[2,5,6,25,26])),(5,(119,[2,5,6,25,26])),(6,(119,[2,5,6,8,25,26])),(7,(119,[2,5,6,8,9,25,26])),(8,(119,[2,5,6,8,9,25,26,31,32,33])),(9,(119,[2,5,6,8,9,25,26,31,32,33])),(10,(119,[2,5,6,8,9,11,25,26,31,32,33])),(11,(119,[2,5,6,8,9,11,25,26,31,32,33,37])),(12,(119,[2,5,6,8,9,11,25,26,31,32,33,37])),(13,(119,[2,5,6,8,9,11,12,25,26,31,32,33,37])),(14,(119,[2,5,6,8,9,11,12,25,26,31,32,33,37])),(15,(119,[2,5,6,8,9,11,12,25,26,31,32,33,37])),(16,(119,[2,5,6,8,9,11,25,26,31,32,33,37])),(17,(119,[2,5,6,8,9,25,26,31,32,33])),(18,(119,[2,5,6,8,9,25,26])),(19,(119,[2,5,6,9,25,26])),(20,(119,[2,5,6,25,26])),(21,(119,[2,5])),(22,(119,[2,5,13])),(23,(119,[2,5,14])),(24,(119,[2,5,14,86,87])),(25,(119,[2,5,14,86,87])),(26,(119,[2,5,14,15,86,87])),(27,(119,[2,5,14,15,86,87])),(28,(119,[2,5,14,15,16,86,87])),(29,(119,[2,5,14,15,16,86,87,97,98])),(30,(119,[2,5,14,15,16,86,87,97,98])),(31,(119,[2,5,14,15,16,17,86,87,97,98])),(32,(119,[2,5,14,15,16,17,86,87,97,98])),(33,(119,[2,5,14,15,16,86,87,97,98])),(34,(119,[2,5,14,16,86,87])),(35,(119,[2,5,14,86,87])),(36,(119,[2,5]))]
def c71r0:List Seg:=[
 zm 11 5,
 zm 4 11]
def c71k0:ICode:=.kill 12 [5] (.ops c71r0)
def c71s1:ICode:=(.seq c71k0 .ret)
def c71r2:List Seg:=[
 zm 8 5,
 zm 9 1,
 zo 10 (.idxS 1 (.t 8) (.t 9)),
 .one ⟨none,.store1 (.t 10) (.c (.int .i64 1)),none⟩]
def c71k2:ICode:=.kill 12 qq119 (.ops c71r2)
def c71s3:ICode:=(.seq c71k2 c71s1)
def c71r4:List Seg:=[
 zm 6 0,
 zo 7 (.make [.int .i64 0] 8 (.t 6) (.t 6)),
 zm 5 7]
def c71k4:ICode:=.kill 12 qq21 (.ops c71r4)
def c71s5:ICode:=(.seq c71k4 c71s3)
def c71r6:List Seg:=[
 zo 4 (.mv (.c .nilslice))]
def c71k6:ICode:=.kill 12 qq21 (.ops c71r6)
def c71b:ICode:=(.seq c71k6 c71s5)
def c71:IFn:=⟨12,[.t 4],c71b⟩
def h71:List (Nat×Nat×List Nat):=[(0,(12,[0,1])),(1,(12,[0,1])),(2,(12,[1,5])),(3,(12,[5]))]
def c72r0:List Seg:=[
 zm 11 0,
 zm 12 0,
 zo 13 (.un .neg (.t 12)),
 zo 14 (.mx [(.t 11),(.t 13),(.c (.int .i64 1))]),
 zm 4 14]
def c72k0:ICode:=.kill 15 [0] (.ops c72r0)
def c72s1:ICode:=(.seq c72k0 .ret)
def c72r3:List Seg:=[
 .grp [(zn 7 1,0),(zn 8 0,0),(zn 9 1,0),(zp 10 (.bin .rem (.t 8) (.t 9)),6),(zn 0 7,3)],
 zm 1 10]
def c72k3:ICode:=.kill 15 qq21 (.ops c72r3)
def c72s4:ICode:=(.block 1 c72k3)
def c72s5:ICode:=(.cond (.t 6) .skip (.exit 0))
def c72r6:List Seg:=[
 zm 5 1,
 zo 6 (.bin .neq (.t 5) (.c (.int .i64 0)))]
def c72k6:ICode:=.kill 15 qq21 (.ops c72r6)
def c72l2:ICode:=(.seq (.seq c72k6 c72s5) c72s4)
def c72s7:ICode:=(.seq (.block 0 (.loop c72l2)) c72s1)
def c72r8:List Seg:=[
 zo 4 (.mv (.c (.int .i64 0)))]
def c72k8:ICode:=.kill 15 qq21 (.ops c72r8)
def c72b:ICode:=(.seq c72k8 c72s7)
def c72:IFn:=⟨15,[.t 4],c72b⟩
def h72:List (Nat×Nat×List Nat):=[(0,(15,[0,1])),(1,(15,[0,1])),(2,(15,[0,1])),(3,(15,[0]))]
def c73r0:List Seg:=[
 .grp [(zn 15 0,0),(zn 16 5,0),(zp 17 (.bin .quo (.t 15) (.t 16)),3),(zn 18 1,0),(zn 19 5,0),(zp 20 (.bin .quo (.t 18) (.t 19)),24)],
 zo 21 (.mkagg [.int .i64 0,.int .i64 0] [(0,1,(.t 17)),(1,1,(.t 20))]),
 .one ⟨none,.storeN 2 (.t 4) (.t 21),none⟩]
def c73k0:ICode:=.kill 22 qq3 (.ops c73r0)
def c73s1:ICode:=(.seq c73k0 .ret)
def c73r2:List Seg:=[
 zm 12 0,
 zm 13 1,
 zo 14 (.call [] (.c (.func 72 [])) [(.t 12),(.t 13)]),
 zm 5 14]
def c73k2:ICode:=.kill 22 qq4 (.ops c73r2)
def c73s3:ICode:=(.seq c73k2 c73s1)
def c73r4:List Seg:=[
 zm 8 0,
 zo 9 (.un .neg (.t 8)),
 zm 10 1,
 zo 11 (.un .neg (.t 10)),
 zm 0 9,
 zm 1 11]
def c73k4:ICode:=.kill 22 qq4 (.ops c73r4)
def c73s5:ICode:=(.cond (.t 7) c73k4 .skip)
def c73r6:List Seg:=[
 zm 6 1,
 zo 7 (.bin .lss (.t 6) (.c (.int .i64 0)))]
def c73k6:ICode:=.kill 22 qq4 (.ops c73r6)
def c73s7:ICode:=(.seq (.seq c73k6 c73s5) c73s3)
def c73r8:List Seg:=[
 zo 4 (.box (.c (.agg [.int .i64 0,.int .i64 0])))]
def c73k8:ICode:=.kill 22 qq21 (.ops c73r8)
def c73b:ICode:=(.seq c73k8 c73s7)
def c73:IFn:=⟨22,[.cellN 4 2],c73b⟩
def h73:List (Nat×Nat×List Nat):=[(0,(22,[0,1])),(1,(22,[0,1,4])),(2,(22,[0,1,4])),(3,(22,[0,1,4])),(4,(22,[0,1,4,5]))]
def c75r0:List Seg:=[
 zo 4 (.mv (.c (.int .i64 (-1))))]
def c75k0:ICode:=.kill 19 [] (.ops c75r0)
def c75s1:ICode:=(.seq c75k0 .ret)
def c75r3:List Seg:=[
 zo 18 (.bin .add (.t 8) (.c (.int .i64 1))),
 zm 8 18]
def c75k3:ICode:=.kill 19 qq27 (.ops c75r3)
def c75r4:List Seg:=[
 zm 17 5,
 zm 4 17]
def c75k4:ICode:=.kill 19 [5] (.ops c75r4)
def c75s5:ICode:=(.cond (.t 16) (.seq c75k4 .ret) .skip)
def c75r6:List Seg:=[
 .grp [(zp 11 (.loadN 2 (.t 3)),0),(zn 12 0,0),(zn 13 5,0),(zp 14 (.idxS 2 (.t 12) (.t 13)),6),(zp 15 (.loadN 2 (.t 14)),14)],
 zo 16 (.eqv false (.ints 2) (.t 11) (.t 15))]
def c75k6:ICode:=.kill 19 qq26 (.ops c75r6)
def c75s7:ICode:=(.seq c75k6 c75s5)
def c75r8:List Seg:=[
 zm 10 8,
 zm 5 10]
def c75k8:ICode:=.kill 19 qq27 (.ops c75r8)
def c75s9:ICode:=(.seq (.block 1 (.seq c75k8 c75s7)) c75k3)
def c75s10:ICode:=(.seq (.cond (.t 9) .skip (.exit 0)) c75s9)
def c75r11:List Seg:=[
 zo 9 (.bin .lss (.t 8) (.t 7))]
def c75k11:ICode:=.kill 19 qq27 (.ops c75r11)
def c75l2:ICode:=(.seq c75k11 c75s10)
def c75s12:ICode:=(.block 0 (.loop c75l2))
def c75r13:List Seg:=[
 zm 6 0,
 zo 7 (.len 0 (.t 6)),
 zo 8 (.mv (.c (.int .i64 0)))]
def c75k13:ICode:=.kill 19 qq28 (.ops c75r13)
def c75s14:ICode:=(.seq (.seq c75k13 c75s12) c75s1)
def c75r15:List Seg:=[
 zo 3 (.box (.t 1)),
 zo 4 (.mv (.c (.int .i64 0)))]
def c75k15:ICode:=.kill 19 qq21 (.ops c75r15)
def c75b:ICode:=(.seq c75k15 c75s14)
def c75:IFn:=⟨19,[.t 4],c75b⟩
def h75:List (Nat×Nat×List Nat):=[(0,(19,[0,1])),(1,(19,[0,3])),(2,(19,[0,3,7,8])),(3,(19,[0,3,7,8])),(4,(19,[0,3,5,7,8])),(5,(19,[5])),(6,(19,[0,3,7,8])),(7,(19,[]))]
def c78r0:List Seg:=[
 zm 115 5,
 zm 4 115]
def c78k0:ICode:=.kill 116 [5] (.ops c78r0)
def c78s1:ICode:=(.seq c78k0 .ret)
def c78r3:List Seg:=[
 zo 114 (.bin .add (.t 21) (.c (.int .i64 1))),
 zm 21 114]
def c78k3:ICode:=.kill 116 qq81 (.ops c78r3)
def c78r6:List Seg:=[
 zo 113 (.bin .add (.t 55) (.c (.int .i64 1))),
 zm 55 113]
def c78k6:ICode:=.kill 116 qq92 (.ops c78r6)
def c78r8:List Seg:=[
 zo 112 (.bin .add (.t 60) (.c (.int .i64 1))),
 zm 60 112]
def c78k8:ICode:=.kill 116 qq90 (.ops c78r8)
def c78r9:List Seg:=[
 zm 108 8,
 zm 109 14,
 zo 110 (.mkslice 1 [.int .i64 0] [(0,1,(.t 109))]),
 zo 111 (.app 1 8 (.t 108) (.t 110)),
 zm 8 111]
def c78k9:ICode:=.kill 116 qq89 (.ops c78r9)
def c78r10:List Seg:=[
 .grpw (.t 104) (.t 93) none 59379 [(zn 89 5,0),(zn 90 14,0),(zn 91 5,0),(zn 92 14,0),(zn 93 9,0),(zn 94 5,0),(zn 95 9,0),(zp 96 (.nilck (.t 94)),32),(zp 97 (.fieldA 6 (.t 96)),160),(zp 98 (.idxA 6 1 (.t 97) (.t 95)),480),(zp 99 (.load1 (.t 98)),992),(zn 100 15,0),(zp 101 (.bin .add (.t 99) (.t 100)),4064),(zp 102 (.nilck (.t 89)),1),(zp 103 (.fieldA 0 (.t 102)),8193),(zp 104 (.idxA 6 1 (.t 103) (.t 90)),26611),(⟨none,.lenc 0,none⟩,59379),(zp 105 (.nilck (.t 91)),4),(zp 106 (.fieldA 6 (.t 105)),131076)],
 zo 107 (.idxA 6 1 (.t 106) (.t 92)),
 .one ⟨none,.store1 (.t 107) (.t 101),none⟩]
def c78k10:ICode:=.kill 116 qq88 (.ops c78r10)
def c78s11:ICode:=(.seq c78k10 c78k9)
def c78r12:List Seg:=[
 zm 87 6,
 zm 88 14,
 .one ⟨none,.mset (.t 87) (.t 88) (.c (.bool true)),none⟩]
def c78k12:ICode:=.kill 116 qq88 (.ops c78r12)
def c78s13:ICode:=(.cond (.t 86) (.seq c78k12 c78s11) .skip)
def c78r14:List Seg:=[
 zm 78 13,
 zm 79 9,
 zo 80 (.bin .eql (.t 78) (.t 79)),
 zm 81 80,
 .one ⟨some 82,.mv (.t 6),some (81,true)⟩,
 .one ⟨some 83,.mv (.t 14),some (81,true)⟩,
 .one ⟨some 84,.look (.bool false) false (.t 82) (.t 83),some (81,true)⟩,
 .one ⟨some 85,.un .not (.t 84),some (81,true)⟩,
 zo 86 (.pick (.t 81) (.t 85) (.c (.bool false)))]
def c78k14:ICode:=.kill 116 qq87 (.ops c78r14)
def c78s15:ICode:=(.seq c78k14 c78s13)
def c78r16:List Seg:=[
 zm 76 15,
 zo 77 (.un .neg (.t 76)),
 zm 15 77]
def c78k16:ICode:=.kill 116 qq87 (.ops c78r16)
def c78s17:ICode:=(.cond (.t 75) c78k16 .skip)
def c78r18:List Seg:=[
 zm 74 12,
 zo 75 (.bin .eql (.t 74) (.c (.int .i64 1)))]
def c78k18:ICode:=.kill 116 qq85 (.ops c78r18)
def c78s19:ICode:=(.seq (.seq c78k18 c78s17) c78s15)
def c78r20:List Seg:=[
 .grp [(zn 63 12,0),(zp 64 (.idxA 2 1 (.t 11) (.t 63)),1),(zp 65 (.load1 (.t 64)),3),(zn 66 12,0),(zp 67 (.bin .sub (.c (.int .i64 1)) (.t 66)),8),(zp 68 (.idxA 2 1 (.t 11) (.t 67)),24),(zp 69 (.load1 (.t 68)),56),(zn 70 1,0),(zn 71 10,0),(zp 72 (.idxS 1 (.t 70) (.t 71)),384),(zp 73 (.load1 (.t 72)),896),(zn 13 65,7),(zn 14 69,2175)],
 zm 15 73]
def c78k20:ICode:=.kill 116 qq86 (.ops c78r20)
def c78s21:ICode:=(.seq c78k20 c78s19)
def c78r22:List Seg:=[
 zm 62 60,
 zm 12 62]
def c78k22:ICode:=.kill 116 qq90 (.ops c78r22)
def c78s23:ICode:=(.seq (.block 7 (.seq c78k22 c78s21)) c78k8)
def c78s24:ICode:=(.seq (.cond (.t 61) .skip (.exit 6)) c78s23)
def c78r25:List Seg:=[
 zo 61 (.bin .lss (.t 60) (.c (.int .i64 2)))]
def c78k25:ICode:=.kill 116 qq90 (.ops c78r25)
def c78l7:ICode:=(.seq c78k25 c78s24)
def c78s26:ICode:=(.block 6 (.loop c78l7))
def c78r27:List Seg:=[
 zo 60 (.mv (.c (.int .i64 0)))]
def c78k27:ICode:=.kill 116 qq91 (.ops c78r27)
def c78s28:ICode:=(.seq c78k27 c78s26)
def c78r29:List Seg:=[
 zm 57 55,
 zo 58 (.idxS 2 (.t 53) (.t 55)),
 zo 59 (.loadN 2 (.t 58)),
 zo 11 (.box (.c (.agg [.int .i64 0,.int .i64 0]))),
 zm 10 57,
 .one ⟨none,.storeN 2 (.t 11) (.t 59),none⟩]
def c78k29:ICode:=.kill 116 qq92 (.ops c78r29)
def c78s30:ICode:=(.seq (.block 5 (.seq c78k29 c78s28)) c78k6)
def c78s31:ICode:=(.seq (.cond (.t 56) .skip (.exit 4)) c78s30)
def c78r32:List Seg:=[
 zo 56 (.bin .lss (.t 55) (.t 54))]
def c78k32:ICode:=.kill 116 qq92 (.ops c78r32)
def c78l5:ICode:=(.seq c78k32 c78s31)
def c78s33:ICode:=(.block 4 (.loop c78l5))
def c78r34:List Seg:=[
 zo 52 (.fieldA 1 (.t 2)),
 zo 53 (.load1 (.t 52)),
 zo 54 (.len 0 (.t 53)),
 zo 55 (.mv (.c (.int .i64 0)))]
def c78k34:ICode:=.kill 116 qq93 (.ops c78r34)
def c78s35:ICode:=(.seq c78k34 c78s33)
def c78r36:List Seg:=[
 zm 50 8,
 zo 51 (.sliceS 1 (.t 50) (some (.c (.int .i64 1))) none none),
 zm 8 51]
def c78k36:ICode:=.kill 116 qq93 (.ops c78r36)
def c78s37:ICode:=(.seq c78k36 c78s35)
def c78r38:List Seg:=[
 zm 47 8,
 zo 48 (.idxS 1 (.t 47) (.c (.int .i64 0))),
 zo 49 (.load1 (.t 48)),
 zm 9 49]
def c78k38:ICode:=.kill 116 qq84 (.ops c78r38)
def c78s39:ICode:=(.block 3 (.seq c78k38 c78s37))
def c78s40:ICode:=(.cond (.t 46) .skip (.exit 2))
def c78r41:List Seg:=[
 zm 44 8,
 zo 45 (.len 0 (.t 44)),
 zo 46 (.bin .gtr (.t 45) (.c (.int .i64 0)))]
def c78k41:ICode:=.kill 116 qq84 (.ops c78r41)
def c78l4:ICode:=(.seq (.seq c78k41 c78s40) c78s39)
def c78s42:ICode:=(.block 2 (.loop c78l4))
def c78r43:List Seg:=[
 zm 42 7,
 zo 43 (.mkslice 1 [.int .i64 0] [(0,1,(.t 42))]),
 zm 8 43]
def c78k43:ICode:=.kill 116 qq82 (.ops c78r43)
def c78s44:ICode:=(.seq c78k43 c78s42)
def c78r45:List Seg:=[
 zm 36 5,
 zm 37 7,
 zm 38 7,
 zo 39 (.nilck (.t 36)),
 zo 40 (.fieldA 0 (.t 39)),
 zo 41 (.idxA 6 1 (.t 40) (.t 37)),
 .one ⟨none,.store1 (.t 41) (.t 38),none⟩]
def c78k45:ICode:=.kill 116 qq82 (.ops c78r45)
def c78s46:ICode:=(.seq c78k45 c78s44)
def c78r47:List Seg:=[
 zm 34 6,
 zm 35 7,
 .one ⟨none,.mset (.t 34) (.t 35) (.c (.bool true)),none⟩]
def c78k47:ICode:=.kill 116 qq82 (.ops c78r47)
def c78s48:ICode:=(.seq c78k47 c78s46)
def c78r49:List Seg:=[
 zm 27 5,
 zo 28 (.nilck (.t 27)),
 zo 29 (.fieldA 12 (.t 28)),
 zo 30 (.load1 (.t 29)),
 zo 31 (.bin .add (.t 30) (.c (.int .i64 1))),
 zo 32 (.nilck (.t 27)),
 zo 33 (.fieldA 12 (.t 32)),
 .one ⟨none,.store1 (.t 33) (.t 31),none⟩]
def c78k49:ICode:=.kill 116 qq82 (.ops c78r49)
def c78s50:ICode:=(.seq c78k49 c78s48)
def c78s51:ICode:=(.cond (.t 26) (.exit 1) .skip)
def c78r52:List Seg:=[
 zm 24 6,
 zm 25 7,
 zo 26 (.look (.bool false) false (.t 24) (.t 25))]
def c78k52:ICode:=.kill 116 qq82 (.ops c78r52)
def c78s53:ICode:=(.seq (.seq c78k52 c78s51) c78s50)
def c78r54:List Seg:=[
 zm 23 21,
 zm 7 23]
def c78k54:ICode:=.kill 116 qq81 (.ops c78r54)
def c78s55:ICode:=(.seq (.block 1 (.seq c78k54 c78s53)) c78k3)
def c78s56:ICode:=(.seq (.cond (.t 22) .skip (.exit 0)) c78s55)
def c78r57:List Seg:=[
 zo 22 (.bin .lss (.t 21) (.t 20))]
def c78k57:ICode:=.kill 116 qq81 (.ops c78r57)
def c78l2:ICode:=(.seq c78k57 c78s56)
def c78s58:ICode:=(.block 0 (.loop c78l2))
def c78r59:List Seg:=[
 zo 19 (.fieldA 0 (.t 2)),
 zo 20 (.load1 (.t 19)),
 zo 21 (.mv (.c (.int .i64 0)))]
def c78k59:ICode:=.kill 116 qq94 (.ops c78r59)
def c78s60:ICode:=(.seq (.seq c78k59 c78s58) c78s1)
def c78r61:List Seg:=[
 zo 18 (.mkmap),
 zm 6 18]
def c78k61:ICode:=.kill 116 qq95 (.ops c78r61)
def c78s62:ICode:=(.seq c78k61 c78s60)
def c78r63:List Seg:=[
 zo 16 (.mkagg (List.replicate 13 (.int .i64 0)) []),
 zo 17 (.box (.t 16)),
 zm 5 17]
def c78k63:ICode:=.kill 116 qq100 (.ops c78r63)
def c78s64:ICode:=(.seq c78k63 c78s62)
def c78r65:List Seg:=[
 zo 2 (.box (.t 0)),
 zo 4 (.mv (.c .nilptr))]
def c78k65:ICode:=.kill 116 qq21 (.ops c78r65)
def c78b:ICode:=(.seq c78k65 c78s64)
def c78:IFn:=⟨116,[.t 4],c78b⟩
def h78:List (Nat×Nat×List Nat):=[(0,(116,[0,1])),(1,(116,[1,2])),(2,(116,[1,2,5])),(3,(116,[1,2,5,6])),(4,(116,[1,2,5,6,20,21])),(5,(116,[1,2,5,6,20,21])),(6,(116,[1,2,5,6,7,20,21])),(7,(116,[1,2,5,6,7,20,21])),(8,(116,[1,2,5,6,7,20,21])),(9,(116,[1,2,5,6,7,20,21])),(10,(116,[1,2,5,6,7,20,21])),(11,(116,[1,2,5,6,8,20,21])),(12,(116,[1,2,5,6,8,20,21])),(13,(116,[1,2,5,6,8,9,20,21])),(14,(116,[1,2,5,6,8,9,20,21])),(15,(116,[1,2,5,6,8,9,20,21,53,54,55])),(16,(116,[1,2,5,6,8,9,20,21,53,54,55])),(17,(116,[1,2,5,6,8,9,10,11,20,21,53,54,55])),(18,(116,[1,2,5,6,8,9,10,11,20,21,53,54,55,60])),(19,(116,[1,2,5,6,8,9,10,11,20,21,53,54,55,60])),(20,(116,[1,2,5,6,8,9,10,11,12,20,21,53,54,55,60])),(21,(116,[1,2,5,6,8,9,10,11,12,13,14,15,20,21,53,54,55,60])),(22,(116,[1,2,5,6,8,9,10,11,13,14,15,20,21,53,54,55,60])),(23,(116,[1,2,5,6,8,9,10,11,13,14,15,20,21,53,54,55,60])),(24,(116,[1,2,5,6,8,9,10,11,14,15,20,21,53,54,55,60])),(25,(116,[1,2,5,6,8,9,10,11,14,15,20,21,53,54,55,60])),(26,(116,[1,2,5,6,8,9,10,11,14,20,21,53,54,55,60])),(27,(116,[1,2,5,6,8,9,10,11,20,21,53,54,55,60])),(28,(116,[1,2,5,6,8,9,20,21,53,54,55])),(29,(116,[1,2,5,6,20,21])),(30,(116,[5]))]
def c79r0:List Seg:=[
 zo 5 (.mkslice 0 [] []),
 zm 6 0,
 zo 7 (.app 1 8 (.t 5) (.t 6)),
 zm 2 7]
def c79k0:ICode:=.kill 8 [0] (.ops c79r0)
def c79s1:ICode:=(.seq c79k0 .ret)
def c79r2:List Seg:=[
 zo 2 (.mv (.c .nilslice))]
def c79k2:ICode:=.kill 8 [] (.ops c79r2)
def c79s3:ICode:=(.cond (.t 4) (.seq c79k2 .ret) .skip)
def c79r4:List Seg:=[
 zm 3 0,
 zo 4 (.eqv false .slice (.t 3) (.c .nilslice))]
def c79k4:ICode:=.kill 8 [0] (.ops c79r4)
def c79s5:ICode:=(.seq (.seq c79k4 c79s3) c79s1)
def c79r6:List Seg:=[
 zo 2 (.mv (.c .nilslice))]
def c79k6:ICode:=.kill 8 [0] (.ops c79r6)
def c79b:ICode:=(.seq c79k6 c79s5)
def c79:IFn:=⟨8,[.t 2],c79b⟩
def h79:List (Nat×Nat×List Nat):=[(0,(8,[0])),(1,(8,[0])),(2,(8,[])),(3,(8,[0]))]
def c83r0:List Seg:=[
 zm 5 0,
 zm 6 1,
 zo 7 (.call [] (.c (.func 103 [])) [(.t 5),(.t 6)]),
 zo 8 (.bin .geq (.t 7) (.c (.int .i64 0))),
 zm 4 8]
def c83k0:ICode:=.kill 9 qq21 (.ops c83r0)
def c83s1:ICode:=(.seq c83k0 .ret)
def c83r2:List Seg:=[
 zo 4 (.mv (.c (.bool false)))]
def c83k2:ICode:=.kill 9 qq21 (.ops c83r2)
def c83b:ICode:=(.seq c83k2 c83s1)
def c83:IFn:=⟨9,[.t 4],c83b⟩
def h83:List (Nat×Nat×List Nat):=[(0,(9,[0,1])),(1,(9,[0,1]))]
def c86r0:List Seg:=[
 zm 195 11,
 zm 196 10,
 zm 4 195,
 zm 5 196]
def c86k0:ICode:=.kill 197 qq126 (.ops c86r0)
def c86s1:ICode:=(.seq c86k0 .ret)
def c86r3:List Seg:=[
 zm 164 18,
 zo 165 (.bin .add (.t 164) (.c (.int .i64 1))),
 zm 18 165]
def c86k3:ICode:=.kill 197 qq153 (.ops c86r3)
def c86r4:List Seg:=[
 .grp [(zn 171 11,0),(zn 172 18,0),(zn 173 7,0),(zn 174 12,0),(zn 175 18,0),(zp 176 (.idxS 1 (.t 174) (.t 175)),24),(zp 177 (.load1 (.t 176)),56),(zp 178 (.idxS 1 (.t 173) (.t 177)),124),(zp 179 (.load1 (.t 178)),252),(zn 180 6,0),(zp 181 (.idxS 2 (.t 179) (.t 180)),1020),(zp 182 (.loadN 2 (.t 181)),2044),(zn 183 7,0),(zn 184 12,0),(zn 185 18,0),(zp 186 (.idxS 1 (.t 184) (.t 185)),24576),(zp 187 (.load1 (.t 186)),57344),(zp 188 (.idxS 1 (.t 183) (.t 187)),126976),(zp 189 (.load1 (.t 188)),258048),(zn 190 18,0),(zp 191 (.idxS 2 (.t 189) (.t 190)),1044480),(zp 192 (.loadN 2 (.t 191)),2093056),(zp 193 (.call [] (.c (.func 88 [])) [(.t 182),(.t 192)]),4194300)],
 zo 194 (.idxS 2 (.t 171) (.t 172)),
 .one ⟨none,.storeN 2 (.t 194) (.t 193),none⟩]
def c86k4:ICode:=.kill 197 qq153 (.ops c86r4)
def c86s5:ICode:=(.cond (.t 170) c86k4 .skip)
def c86r6:List Seg:=[
 zm 166 12,
 zm 167 18,
 zo 168 (.idxS 1 (.t 166) (.t 167)),
 zo 169 (.load1 (.t 168)),
 zo 170 (.bin .geq (.t 169) (.c (.int .i64 0)))]
def c86k6:ICode:=.kill 197 qq153 (.ops c86r6)
def c86s7:ICode:=(.seq (.block 11 (.seq c86k6 c86s5)) c86k3)
def c86s8:ICode:=(.cond (.t 163) .skip (.exit 10))
def c86r9:List Seg:=[
 zm 161 18,
 zm 162 6,
 zo 163 (.bin .lss (.t 161) (.t 162))]
def c86k9:ICode:=.kill 197 qq153 (.ops c86r9)
def c86l2:ICode:=(.seq (.seq c86k9 c86s8) c86s7)
def c86s10:ICode:=(.block 10 (.loop c86l2))
def c86r11:List Seg:=[
 zo 18 (.mv (.c (.int .i64 0)))]
def c86k11:ICode:=.kill 197 qq154 (.ops c86r11)
def c86s12:ICode:=(.seq (.seq c86k11 c86s10) c86s1)
def c86r14:List Seg:=[
 zm 49 13,
 zo 50 (.bin .add (.t 49) (.c (.int .i64 1))),
 zm 13 50]
def c86k14:ICode:=.kill 197 qq152 (.ops c86r14)
def c86r15:List Seg:=[
 zm 159 10,
 zo 160 (.bin .add (.t 159) (.c (.int .i64 1))),
 zm 10 160]
def c86k15:ICode:=.kill 197 qq152 (.ops c86r15)
def c86r16:List Seg:=[
 zm 155 12,
 zm 156 13,
 zm 157 10,
 zo 158 (.idxS 1 (.t 155) (.t 156)),
 .one ⟨none,.store1 (.t 158) (.t 157),none⟩]
def c86k16:ICode:=.kill 197 qq152 (.ops c86r16)
def c86s17:ICode:=(.seq c86k16 c86k15)
def c86r19:List Seg:=[
 zm 95 15,
 zo 96 (.bin .add (.t 95) (.c (.int .i64 1))),
 zm 15 96]
def c86k19:ICode:=.kill 197 qq151 (.ops c86r19)
def c86r21:List Seg:=[
 zm 130 17,
 zo 131 (.bin .add (.t 130) (.c (.int .i64 1))),
 zm 17 131]
def c86k21:ICode:=.kill 197 qq149 (.ops c86r21)
def c86r22:List Seg:=[
 .grp [(zn 132 7,0),(zn 133 15,0),(zp 134 (.idxS 1 (.t 132) (.t 133)),3),(zp 135 (.load1 (.t 134)),7),(zn 136 17,0),(zn 137 7,0),(zn 138 15,0),(zp 139 (.idxS 1 (.t 137) (.t 138)),96),(zp 140 (.load1 (.t 139)),224),(zn 141 17,0),(zp 142 (.idxS 2 (.t 140) (.t 141)),992),(zp 143 (.loadN 2 (.t 142)),2016),(zp 144 (.loadN 2 (.t 16)),0),(zn 145 7,0),(zn 146 10,0),(zp 147 (.idxS 1 (.t 145) (.t 146)),24576),(zp 148 (.load1 (.t 147)),57344),(zn 149 17,0),(zp 150 (.idxS 2 (.t 148) (.t 149)),253952),(zp 151 (.loadN 2 (.t 150)),516096),(zp 152 (.call [] (.c (.func 35 [])) [(.t 144),(.t 151)]),1044480),(zp 153 (.call [] (.c (.func 34 [])) [(.t 143),(.t 152)]),2097120)],
 zo 154 (.idxS 2 (.t 135) (.t 136)),
 .one ⟨none,.storeN 2 (.t 154) (.t 153),none⟩]
def c86k22:ICode:=.kill 197 qq149 (.ops c86r22)
def c86s23:ICode:=(.seq (.block 9 c86k22) c86k21)
def c86s24:ICode:=(.cond (.t 129) .skip (.exit 8))
def c86r25:List Seg:=[
 zm 127 17,
 zm 128 6,
 zo 129 (.bin .leq (.t 127) (.t 128))]
def c86k25:ICode:=.kill 197 qq149 (.ops c86r25)
def c86l20:ICode:=(.seq (.seq c86k25 c86s24) c86s23)
def c86s26:ICode:=(.block 8 (.loop c86l20))
def c86r27:List Seg:=[
 zm 126 13,
 zm 17 126]
def c86k27:ICode:=.kill 197 qq150 (.ops c86r27)
def c86s28:ICode:=(.seq c86k27 c86s26)
def c86r29:List Seg:=[
 .grp [(zn 111 7,0),(zn 112 15,0),(zp 113 (.idxS 1 (.t 111) (.t 112)),3),(zp 114 (.load1 (.t 113)),7),(zn 115 13,0),(zp 116 (.idxS 2 (.t 114) (.t 115)),31),(zp 117 (.loadN 2 (.t 116)),63),(zn 118 7,0),(zn 119 10,0),(zp 120 (.idxS 1 (.t 118) (.t 119)),384),(zp 121 (.load1 (.t 120)),896),(zn 122 13,0),(zp 123 (.idxS 2 (.t 121) (.t 122)),3968),(zp 124 (.loadN 2 (.t 123)),8064),(zp 125 (.call [] (.c (.func 88 [])) [(.t 117),(.t 124)]),16383),(zp 16 (.box (.c (.agg [.int .i64 0,.int .i64 0]))),0)],
 .one ⟨none,.storeN 2 (.t 16) (.t 125),none⟩]
def c86k29:ICode:=.kill 197 qq151 (.ops c86r29)
def c86s30:ICode:=(.seq c86k29 c86s28)
def c86s31:ICode:=(.cond (.t 110) (.exit 7) .skip)
def c86r32:List Seg:=[
 zm 97 15,
 zm 98 10,
 zo 99 (.bin .eql (.t 97) (.t 98)),
 zm 100 99,
 .one ⟨some 101,.mv (.t 7),some (100,false)⟩,
 .one ⟨some 102,.mv (.t 15),some (100,false)⟩,
 .one ⟨some 103,.idxS 1 (.t 101) (.t 102),some (100,false)⟩,
 .one ⟨some 104,.load1 (.t 103),some (100,false)⟩,
 .one ⟨some 105,.mv (.t 13),some (100,false)⟩,
 .one ⟨some 106,.idxS 2 (.t 104) (.t 105),some (100,false)⟩,
 .one ⟨some 107,.idxA 2 1 (.t 106) (.c (.int .i64 0)),some (100,false)⟩,
 .one ⟨some 108,.load1 (.t 107),some (100,false)⟩,
 .one ⟨some 109,.bin .eql (.t 108) (.c (.int .i64 0)),some (100,false)⟩,
 zo 110 (.pick (.t 100) (.c (.bool true)) (.t 109))]
def c86k32:ICode:=.kill 197 qq151 (.ops c86r32)
def c86s33:ICode:=(.seq (.block 7 (.seq (.seq c86k32 c86s31) c86s30)) c86k19)
def c86s34:ICode:=(.cond (.t 94) .skip (.exit 6))
def c86r35:List Seg:=[
 zm 92 15,
 zm 93 6,
 zo 94 (.bin .lss (.t 92) (.t 93))]
def c86k35:ICode:=.kill 197 qq151 (.ops c86r35)
def c86l18:ICode:=(.seq (.seq c86k35 c86s34) c86s33)
def c86s36:ICode:=(.block 6 (.loop c86l18))
def c86r37:List Seg:=[
 zo 15 (.mv (.c (.int .i64 0)))]
def c86k37:ICode:=.kill 197 qq152 (.ops c86r37)
def c86s38:ICode:=(.seq (.seq c86k37 c86s36) c86s17)
def c86r39:List Seg:=[
 .grpw (.t 90) (.t 85) none 8179 [(zn 78 7,0),(zn 79 10,0),(zn 80 7,0),(zn 81 14,0),(zn 82 7,0),(zn 83 14,0),(zp 84 (.idxS 1 (.t 82) (.t 83)),48),(zp 85 (.load1 (.t 84)),112),(zn 86 7,0),(zn 87 10,0),(zp 88 (.idxS 1 (.t 86) (.t 87)),768),(zp 89 (.load1 (.t 88)),1792),(zp 90 (.idxS 1 (.t 78) (.t 79)),4083),(⟨none,.lenc 0,none⟩,8179)],
 zo 91 (.idxS 1 (.t 80) (.t 81)),
 .one ⟨none,.store1 (.t 91) (.t 89),none⟩]
def c86k39:ICode:=.kill 197 qq148 (.ops c86r39)
def c86s40:ICode:=(.seq c86k39 c86s38)
def c86s41:ICode:=(.cond (.t 77) (.exit 3) .skip)
def c86r42:List Seg:=[
 zm 75 14,
 zm 76 6,
 zo 77 (.bin .eql (.t 75) (.t 76))]
def c86k42:ICode:=.kill 197 qq148 (.ops c86r42)
def c86s43:ICode:=(.seq (.seq c86k42 c86s41) c86s40)
def c86r45:List Seg:=[
 zm 73 14,
 zo 74 (.bin .add (.t 73) (.c (.int .i64 1))),
 zm 14 74]
def c86k45:ICode:=.kill 197 qq148 (.ops c86r45)
def c86s46:ICode:=(.block 5 c86k45)
def c86s47:ICode:=(.cond (.t 72) .skip (.exit 4))
def c86r48:List Seg:=[
 zm 59 14,
 zm 60 6,
 zo 61 (.bin .lss (.t 59) (.t 60)),
 zm 62 61,
 .one ⟨some 63,.mv (.t 7),some (62,true)⟩,
 .one ⟨some 64,.mv (.t 14),some (62,true)⟩,
 .one ⟨some 65,.idxS 1 (.t 63) (.t 64),some (62,true)⟩,
 .one ⟨some 66,.load1 (.t 65),some (62,true)⟩,
 .one ⟨some 67,.mv (.t 13),some (62,true)⟩,
 .one ⟨some 68,.idxS 2 (.t 66) (.t 67),some (62,true)⟩,
 .one ⟨some 69,.idxA 2 1 (.t 68) (.c (.int .i64 0)),some (62,true)⟩,
 .one ⟨some 70,.load1 (.t 69),some (62,true)⟩,
 .one ⟨some 71,.bin .eql (.t 70) (.c (.int .i64 0)),some (62,true)⟩,
 zo 72 (.pick (.t 62) (.t 71) (.c (.bool false)))]
def c86k48:ICode:=.kill 197 qq148 (.ops c86r48)
def c86l44:ICode:=(.seq (.seq c86k48 c86s47) c86s46)
def c86s49:ICode:=(.seq (.block 4 (.loop c86l44)) c86s43)
def c86r50:List Seg:=[
 zm 58 10,
 zm 14 58]
def c86k50:ICode:=.kill 197 qq152 (.ops c86r50)
def c86s51:ICode:=(.seq c86k50 c86s49)
def c86r52:List Seg:=[
 zm 55 12,
 zm 56 13,
 zo 57 (.idxS 1 (.t 55) (.t 56)),
 .one ⟨none,.store1 (.t 57) (.c (.int .i64 (-1))),none⟩]
def c86k52:ICode:=.kill 197 qq152 (.ops c86r52)
def c86s53:ICode:=(.seq c86k52 c86s51)
def c86r54:List Seg:=[
 zm 51 11,
 zm 52 13,
 zo 53 (.mkagg [.int .i64 0,.int .i64 0] [(0,1,(.c (.int .i64 0))),(1,1,(.c (.int .i64 1)))]),
 zo 54 (.idxS 2 (.t 51) (.t 52)),
 .one ⟨none,.storeN 2 (.t 54) (.t 53),none⟩]
def c86k54:ICode:=.kill 197 qq152 (.ops c86r54)
def c86s55:ICode:=(.seq (.block 3 (.seq c86k54 c86s53)) c86k14)
def c86s56:ICode:=(.cond (.t 48) .skip (.exit 2))
def c86r57:List Seg:=[
 zm 46 13,
 zm 47 6,
 zo 48 (.bin .lss (.t 46) (.t 47))]
def c86k57:ICode:=.kill 197 qq152 (.ops c86r57)
def c86l13:ICode:=(.seq (.seq c86k57 c86s56) c86s55)
def c86s58:ICode:=(.block 2 (.loop c86l13))
def c86r59:List Seg:=[
 zo 13 (.mv (.c (.int .i64 0)))]
def c86k59:ICode:=.kill 197 qq154 (.ops c86r59)
def c86s60:ICode:=(.seq (.seq c86k59 c86s58) c86s12)
def c86r61:List Seg:=[
 zm 44 6,
 zo 45 (.make [.int .i64 0] 8 (.t 44) (.t 44)),
 zm 12 45]
def c86k61:ICode:=.kill 197 qq155 (.ops c86r61)
def c86s62:ICode:=(.seq c86k61 c86s60)
def c86r63:List Seg:=[
 zm 42 6,
 zo 43 (.make [.int .i64 0,.int .i64 0] 16 (.t 42) (.t 42)),
 zm 11 43]
def c86k63:ICode:=.kill 197 qq156 (.ops c86r63)
def c86s64:ICode:=(.seq c86k63 c86s62)
def c86r65:List Seg:=[
 zo 10 (.mv (.c (.int .i64 0)))]
def c86k65:ICode:=.kill 197 qq157 (.ops c86r65)
def c86s66:ICode:=(.seq c86k65 c86s64)
def c86r68:List Seg:=[
 zm 24 8,
 zo 25 (.bin .add (.t 24) (.c (.int .i64 1))),
 zm 8 25]
def c86k68:ICode:=.kill 197 qq14 (.ops c86r68)
def c86r69:List Seg:=[
 zm 32 7,
 zm 33 9,
 zm 34 1,
 zm 35 8,
 zo 36 (.idxS 2 (.t 34) (.t 35)),
 zo 37 (.loadN 2 (.t 36)),
 zo 38 (.mkslice 1 [.int .i64 0,.int .i64 0] [(0,2,(.t 37))]),
 zo 39 (.app 2 16 (.t 33) (.t 38)),
 zo 40 (.mkslice 1 [.nilslice] [(0,1,(.t 39))]),
 zo 41 (.app 1 24 (.t 32) (.t 40)),
 zm 7 41]
def c86k69:ICode:=.kill 197 qq13 (.ops c86r69)
def c86r70:List Seg:=[
 zm 26 9,
 zm 27 0,
 zm 28 8,
 zo 29 (.idxS 1 (.t 27) (.t 28)),
 zo 30 (.load1 (.t 29)),
 zo 31 (.app 2 16 (.t 26) (.t 30)),
 zm 9 31]
def c86k70:ICode:=.kill 197 qq13 (.ops c86r70)
def c86s71:ICode:=(.seq c86k70 c86k69)
def c86r72:List Seg:=[
 zo 9 (.mv (.c .nilslice))]
def c86k72:ICode:=.kill 197 qq14 (.ops c86r72)
def c86s73:ICode:=(.seq (.block 1 (.seq c86k72 c86s71)) c86k68)
def c86s74:ICode:=(.cond (.t 23) .skip (.exit 0))
def c86r75:List Seg:=[
 zm 21 8,
 zm 22 6,
 zo 23 (.bin .lss (.t 21) (.t 22))]
def c86k75:ICode:=.kill 197 qq14 (.ops c86r75)
def c86l67:ICode:=(.seq (.seq c86k75 c86s74) c86s73)
def c86s76:ICode:=(.block 0 (.loop c86l67))
def c86r77:List Seg:=[
 zo 8 (.mv (.c (.int .i64 0)))]
def c86k77:ICode:=.kill 197 qq16 (.ops c86r77)
def c86s78:ICode:=(.seq (.seq c86k77 c86s76) c86s66)
def c86r79:List Seg:=[
 zo 7 (.mv (.c .nilslice))]
def c86k79:ICode:=.kill 197 qq17 (.ops c86r79)
def c86s80:ICode:=(.seq c86k79 c86s78)
def c86r81:List Seg:=[
 zm 19 1,
 zo 20 (.len 0 (.t 19)),
 zm 6 20]
def c86k81:ICode:=.kill 197 qq21 (.ops c86r81)
def c86s82:ICode:=(.seq c86k81 c86s80)
def c86r83:List Seg:=[
 zo 4 (.mv (.c .nilslice)),
 zo 5 (.mv (.c (.int .i64 0)))]
def c86k83:ICode:=.kill 197 qq21 (.ops c86r83)
def c86b:ICode:=(.seq c86k83 c86s82)
def c86:IFn:=⟨197,[.t 4,.t 5],c86b⟩
def h86:List (Nat×Nat×List Nat):=[(0,(197,[0,1])),(1,(197,[0,1])),(2,(197,[0,1,6])),(3,(197,[0,1,6,7])),(4,(197,[0,1,6,7,8])),(6,(197,[0,1,6,7,8])),(7,(197,[0,1,6,7,8,9])),(8,(197,[0,1,6,7,8,9])),(5,(197,[0,1,6,7,8])),(9,(197,[6,7])),(10,(197,[6,7,10])),(11,(197,[6,7,10,11])),(12,(197,[6,7,10,11,12])),(13,(197,[6,7,10,11,12,13])),(15,(197,[6,7,10,11,12,13])),(16,(197,[6,7,10,11,12,13])),(17,(197,[6,7,10,11,12,13])),(18,(197,[6,7,10,11,12,13,14])),(19,(197,[6,7,10,11,12,13,14])),(20,(197,[6,7,10,11,12,13,14])),(21,(197,[6,7,10,11,12,13,14])),(22,(197,[6,7,10,11,12,13])),(23,(197,[6,7,10,11,12,13,15])),(25,(197,[6,7,10,11,12,13,15])),(26,(197,[6,7,10,11,12,13,15])),(27,(197,[6,7,10,11,12,13,15,16])),(28,(197,[6,7,10,11,12,13,15,16,17])),(30,(197,[6,7,10,11,12,13,15,16,17])),(29,(197,[6,7,10,11,12,13,15,16,17])),(24,(197,[6,7,10,11,12,13,15])),(31,(197,[6,7,10,11,12,13])),(32,(197,[6,7,10,11,12,13])),(14,(197,[6,7,10,11,12,13])),(33,(197,[6,7,10,11,12])),(34,(197,[6,7,10,11,12,18])),(36,(197,[6,7,10,11,12,18])),(37,(197,[6,7,10,11,12,18])),(35,(197,[6,7,10,11,12,18])),(38,(197,[10,11]))]
def c87r0:List Seg:=[
 zm 34 3,
 zm 2 34]
def c87k0:ICode:=.kill 35 [3] (.ops c87r0)
def c87s1:ICode:=(.seq c87k0 .ret)
def c87r3:List Seg:=[
 zm 11 4,
 zo 12 (.bin .add (.t 11) (.c (.int .i64 1))),
 zm 4 12]
def c87k3:ICode:=.kill 35 qq25 (.ops c87r3)
def c87r4:List Seg:=[
 zm 30 3,
 zm 31 5,
 zo 32 (.mkslice 1 [.nilslice] [(0,1,(.t 31))]),
 zo 33 (.app 1 24 (.t 30) (.t 32)),
 zm 3 33]
def c87k4:ICode:=.kill 35 qq24 (.ops c87r4)
def c87r6:List Seg:=[
 zm 17 6,
 zo 18 (.bin .add (.t 17) (.c (.int .i64 1))),
 zm 6 18]
def c87k6:ICode:=.kill 35 qq23 (.ops c87r6)
def c87r7:List Seg:=[
 zm 19 5,
 zm 20 0,
 zm 21 6,
 zo 22 (.idxS 1 (.t 20) (.t 21)),
 zo 23 (.load1 (.t 22)),
 zm 24 4,
 zo 25 (.idxS 1 (.t 23) (.t 24)),
 zo 26 (.load1 (.t 25)),
 zo 27 (.mkagg [.int .i64 0,.int .i64 0] [(0,1,(.t 26)),(1,1,(.c (.int .i64 1)))]),
 zo 28 (.mkslice 1 [.int .i64 0,.int .i64 0] [(0,2,(.t 27))]),
 zo 29 (.app 2 16 (.t 19) (.t 28)),
 zm 5 29]
def c87k7:ICode:=.kill 35 qq23 (.ops c87r7)
def c87s8:ICode:=(.seq (.block 3 c87k7) c87k6)
def c87s9:ICode:=(.cond (.t 16) .skip (.exit 2))
def c87r10:List Seg:=[
 zm 13 6,
 zm 14 0,
 zo 15 (.len 0 (.t 14)),
 zo 16 (.bin .lss (.t 13) (.t 15))]
def c87k10:ICode:=.kill 35 qq23 (.ops c87r10)
def c87l5:ICode:=(.seq (.seq c87k10 c87s9) c87s8)
def c87s11:ICode:=(.block 2 (.loop c87l5))
def c87r12:List Seg:=[
 zo 6 (.mv (.c (.int .i64 0)))]
def c87k12:ICode:=.kill 35 qq24 (.ops c87r12)
def c87s13:ICode:=(.seq (.seq c87k12 c87s11) c87k4)
def c87r14:List Seg:=[
 zo 5 (.mv (.c .nilslice))]
def c87k14:ICode:=.kill 35 qq25 (.ops c87r14)
def c87s15:ICode:=(.seq (.block 1 (.seq c87k14 c87s13)) c87k3)
def c87s16:ICode:=(.cond (.t 10) .skip (.exit 0))
def c87r17:List Seg:=[
 zm 7 4,
 zm 8 0,
 zo 9 (.len 0 (.t 8)),
 zo 10 (.bin .lss (.t 7) (.t 9))]
def c87k17:ICode:=.kill 35 qq25 (.ops c87r17)
def c87l2:ICode:=(.seq (.seq c87k17 c87s16) c87s15)
def c87s18:ICode:=(.block 0 (.loop c87l2))
def c87r19:List Seg:=[
 zo 4 (.mv (.c (.int .i64 0)))]
def c87k19:ICode:=.kill 35 qq28 (.ops c87r19)
def c87s20:ICode:=(.seq (.seq c87k19 c87s18) c87s1)
def c87r21:List Seg:=[
 zo 3 (.mv (.c .nilslice))]
def c87k21:ICode:=.kill 35 [0] (.ops c87r21)
def c87s22:ICode:=(.seq c87k21 c87s20)
def c87r23:List Seg:=[
 zo 2 (.mv (.c .nilslice))]
def c87k23:ICode:=.kill 35 [0] (.ops c87r23)
def c87b:ICode:=(.seq c87k23 c87s22)
def c87:IFn:=⟨35,[.t 2],c87b⟩
def h87:List (Nat×Nat×List Nat):=[(0,(35,[0])),(1,(35,[0])),(2,(35,[0,3])),(3,(35,[0,3,4])),(5,(35,[0,3,4])),(6,(35,[0,3,4,5])),(7,(35,[0,3,4,5,6])),(9,(35,[0,3,4,5,6])),(8,(35,[0,3,4,5,6])),(10,(35,[0,3,4,5])),(4,(35,[0,3,4])),(11,(35,[3]))]
def c88r0:List Seg:=[
 zo 5 (.idxA 2 1 (.t 2) (.c (.int .i64 0))),
 zo 6 (.load1 (.t 5)),
 zo 7 (.idxA 2 1 (.t 3) (.c (.int .i64 1))),
 zo 8 (.load1 (.t 7)),
 zo 9 (.bin .mul (.t 6) (.t 8)),
 zo 10 (.idxA 2 1 (.t 2) (.c (.int .i64 1))),
 zo 11 (.load1 (.t 10)),
 zo 12 (.idxA 2 1 (.t 3) (.c (.int .i64 0))),
 zo 13 (.load1 (.t 12)),
 zo 14 (.bin .mul (.t 11) (.t 13)),
 zo 15 (.call [] (.c (.func 73 [])) [(.t 9),(.t 14)]),
 .one ⟨none,.storeN 2 (.t 4) (.t 15),none⟩]
def c88k0:ICode:=.kill 16 qq130 (.ops c88r0)
def c88s1:ICode:=(.seq c88k0 .ret)
def c88r2:List Seg:=[
 zo 2 (.box (.t 0)),
 zo 3 (.box (.t 1)),
 zo 4 (.box (.c (.agg [.int .i64 0,.int .i64 0])))]
def c88k2:ICode:=.kill 16 qq21 (.ops c88r2)
def c88b:ICode:=(.seq c88k2 c88s1)
def c88:IFn:=⟨16,[.cellN 4 2],c88b⟩
def h88:List (Nat×Nat×List Nat):=[(0,(16,[0,1])),(1,(16,[2,3,4]))]
def c89r0:List Seg:=[
 .grp [(zp 11 (.loadN 3 (.t 2)),0),(zp 12 (.idxA 3 1 (.t 5) (.c (.int .i64 0))),0),(zp 13 (.load1 (.t 12)),2),(zp 14 (.idxA 3 1 (.t 5) (.c (.int .i64 1))),0),(zp 15 (.load1 (.t 14)),8),(zp 16 (.call [] (.c (.func 60 [])) [(.t 11),(.t 13),(.t 15)]),31),(zp 17 (.loadN 3 (.t 2)),0),(zp 18 (.idxA 3 1 (.t 5) (.c (.int .i64 1))),0),(zp 19 (.load1 (.t 18)),128),(zp 20 (.idxA 3 1 (.t 5) (.c (.int .i64 2))),0),(zp 21 (.load1 (.t 20)),512),(zp 22 (.call [] (.c (.func 60 [])) [(.t 17),(.t 19),(.t 21)]),2047),(zp 23 (.loadN 3 (.t 2)),0),(zp 24 (.idxA 3 1 (.t 5) (.c (.int .i64 0))),0),(zp 25 (.load1 (.t 24)),8192),(zp 26 (.idxA 3 1 (.t 5) (.c (.int .i64 2))),0),(zp 27 (.load1 (.t 26)),32768)],
 zo 28 (.call [] (.c (.func 60 [])) [(.t 23),(.t 25),(.t 27)]),
 zo 29 (.mkagg [.int .i64 0,.int .i64 0,.int .i64 0] [(0,1,(.t 16)),(1,1,(.t 22)),(2,1,(.t 28))]),
 .one ⟨none,.storeN 3 (.t 4) (.t 29),none⟩]
def c89k0:ICode:=.kill 30 qq132 (.ops c89r0)
def c89s1:ICode:=(.seq c89k0 .ret)
def c89r2:List Seg:=[
 zo 6 (.fieldA 2 (.t 2)),
 zo 7 (.load1 (.t 6)),
 zm 8 1,
 zo 9 (.idxS 3 (.t 7) (.t 8)),
 zo 10 (.loadN 3 (.t 9)),
 zo 5 (.box (.c (.agg [.int .i64 0,.int .i64 0,.int .i64 0]))),
 .one ⟨none,.storeN 3 (.t 5) (.t 10),none⟩]
def c89k2:ICode:=.kill 30 qq80 (.ops c89r2)
def c89s3:ICode:=(.seq c89k2 c89s1)
def c89r4:List Seg:=[
 zo 2 (.box (.t 0)),
 zo 4 (.box (.c (.agg [.int .i64 0,.int .i64 0,.int .i64 0])))]
def c89k4:ICode:=.kill 30 qq21 (.ops c89r4)
def c89b:ICode:=(.seq c89k4 c89s3)
def c89:IFn:=⟨30,[.cellN 4 3],c89b⟩
def h89:List (Nat×Nat×List Nat):=[(0,(30,[0,1])),(1,(30,[1,2,4])),(2,(30,[2,4,5]))]
def c91r0:List Seg:=[
 zo 4 (.mv (.c (.int .i64 0)))]
def c91k0:ICode:=.kill 36 [] (.ops c91r0)
def c91s1:ICode:=(.seq c91k0 .ret)
def c91r2:List Seg:=[
 zo 4 (.mv (.c (.int .i64 (-1))))]
def c91k2:ICode:=.kill 36 [] (.ops c91r2)
def c91s3:ICode:=(.cond (.t 35) (.seq c91k2 .ret) .skip)
def c91r4:List Seg:=[
 zm 31 0,
 zo 32 (.len 0 (.t 31)),
 zm 33 1,
 zo 34 (.len 0 (.t 33)),
 zo 35 (.bin .lss (.t 32) (.t 34))]
def c91k4:ICode:=.kill 36 qq21 (.ops c91r4)
def c91s5:ICode:=(.seq (.seq c91k4 c91s3) c91s1)
def c91r7:List Seg:=[
 zo 30 (.bin .add (.t 11) (.c (.int .i64 1))),
 zm 11 30]
def c91k7:ICode:=.kill 36 qq20 (.ops c91r7)
def c91r8:List Seg:=[
 zm 29 8,
 zm 4 29]
def c91k8:ICode:=.kill 36 [8] (.ops c91r8)
def c91s9:ICode:=(.cond (.t 28) (.seq c91k8 .ret) .skip)
def c91r10:List Seg:=[
 zm 27 8,
 zo 28 (.bin .neq (.t 27) (.c (.int .i64 0)))]
def c91k10:ICode:=.kill 36 qq19 (.ops c91r10)
def c91s11:ICode:=(.seq c91k10 c91s9)
def c91r12:List Seg:=[
 zm 24 6,
 zm 25 7,
 zo 26 (.call [] (.c (.func 105 [])) [(.t 24),(.t 25)]),
 zm 8 26]
def c91k12:ICode:=.kill 36 qq15 (.ops c91r12)
def c91s13:ICode:=(.seq c91k12 c91s11)
def c91r14:List Seg:=[
 zm 20 1,
 zm 21 5,
 zo 22 (.idxS 1 (.t 20) (.t 21)),
 zo 23 (.load1 (.t 22)),
 zm 7 23]
def c91k14:ICode:=.kill 36 qq6 (.ops c91r14)
def c91s15:ICode:=(.seq c91k14 c91s13)
def c91r16:List Seg:=[
 zo 4 (.mv (.c (.int .i64 1)))]
def c91k16:ICode:=.kill 36 [] (.ops c91r16)
def c91s17:ICode:=(.cond (.t 19) (.seq c91k16 .ret) .skip)
def c91r18:List Seg:=[
 zm 16 5,
 zm 17 1,
 zo 18 (.len 0 (.t 17)),
 zo 19 (.bin .geq (.t 16) (.t 18))]
def c91k18:ICode:=.kill 36 qq6 (.ops c91r18)
def c91s19:ICode:=(.seq (.seq c91k18 c91s17) c91s15)
def c91r20:List Seg:=[
 zm 13 11,
 zo 14 (.idxS 1 (.t 9) (.t 11)),
 zo 15 (.load1 (.t 14)),
 zm 5 13,
 zm 6 15]
def c91k20:ICode:=.kill 36 qq20 (.ops c91r20)
def c91s21:ICode:=(.seq (.block 1 (.seq c91k20 c91s19)) c91k7)
def c91s22:ICode:=(.seq (.cond (.t 12) .skip (.exit 0)) c91s21)
def c91r23:List Seg:=[
 zo 12 (.bin .lss (.t 11) (.t 10))]
def c91k23:ICode:=.kill 36 qq20 (.ops c91r23)
def c91l6:ICode:=(.seq c91k23 c91s22)
def c91s24:ICode:=(.block 0 (.loop c91l6))
def c91r25:List Seg:=[
 zm 9 0,
 zo 10 (.len 0 (.t 9)),
 zo 11 (.mv (.c (.int .i64 0)))]
def c91k25:ICode:=.kill 36 qq21 (.ops c91r25)
def c91s26:ICode:=(.seq (.seq c91k25 c91s24) c91s5)
def c91r27:List Seg:=[
 zo 4 (.mv (.c (.int .i64 0)))]
def c91k27:ICode:=.kill 36 qq21 (.ops c91r27)
def c91b:ICode:=(.seq c91k27 c91s26)
def c91:IFn:=⟨36,[.t 4],c91b⟩
def h91:List (Nat×Nat×List Nat):=[(0,(36,[0,1])),(1,(36,[0,1])),(2,(36,[0,1,9,10,11])),(3,(36,[0,1,9,10,11])),(4,(36,[0,1,5,6,9,10,11])),(5,(36,[])),(6,(36,[0,1,5,6,9,10,11])),(7,(36,[0,1,6,7,9,10,11])),(8,(36,[0,1,8,9,10,11])),(9,(36,[8])),(10,(36,[0,1,9,10,11])),(11,(36,[0,1])),(12,(36,[])),(13,(36,[]))]
def c92r0:List Seg:=[
 zm 5 0,
 zo 6 (.loadN 2 (.t 3)),
 zo 7 (.call [] (.c (.func 75 [])) [(.t 5),(.t 6)]),
 zo 8 (.bin .geq (.t 7) (.c (.int .i64 0))),
 zm 4 8]
def c92k0:ICode:=.kill 9 qq28 (.ops c92r0)
def c92s1:ICode:=(.seq c92k0 .ret)
def c92r2:List Seg:=[
 zo 3 (.box (.t 1)),
 zo 4 (.mv (.c (.bool false)))]
def c92k2:ICode:=.kill 9 qq21 (.ops c92r2)
def c92b:ICode:=(.seq c92k2 c92s1)
def c92:IFn:=⟨9,[.t 4],c92b⟩
def h92:List (Nat×Nat×List Nat):=[(0,(9,[0,1])),(1,(9,[0,3]))]
def c93r1:List Seg:=[
 zo 51 (.bin .add (.t 16) (.c (.int .i64 1))),
 zm 16 51]
def c93k1:ICode:=.kill 52 qq29 (.ops c93r1)
def c93s2:ICode:=(.cond (.t 50) .ret .skip)
def c93r3:List Seg:=[
 zm 42 7,
 zo 43 (.bin .neq (.t 42) (.c (.int .i64 0))),
 zm 44 43,
 .one ⟨some 45,.mv (.t 0),some (44,true)⟩,
 .one ⟨some 46,.mv (.t 5),some (44,true)⟩,
 .one ⟨some 47,.mv (.t 7),some (44,true)⟩,
 .one ⟨some 48,.call [] (.t 45) [(.t 46),(.t 47)],some (44,true)⟩,
 .one ⟨some 49,.un .not (.t 48),some (44,true)⟩,
 zo 50 (.pick (.t 44) (.t 49) (.c (.bool false)))]
def c93k3:ICode:=.kill 52 qq34 (.ops c93r3)
def c93s4:ICode:=(.seq c93k3 c93s2)
def c93r5:List Seg:=[
 zo 7 (.mv (.c (.int .i64 1)))]
def c93k5:ICode:=.kill 52 qq30 (.ops c93r5)
def c93r6:List Seg:=[
 zo 7 (.mv (.c (.int .i64 (-1))))]
def c93k6:ICode:=.kill 52 qq30 (.ops c93r6)
def c93s7:ICode:=(.cond (.t 35) c93k6 .skip)
def c93r8:List Seg:=[
 zo 36 (.idxA 3 1 (.t 4) (.c (.int .i64 0))),
 zo 37 (.load1 (.t 36)),
 zo 38 (.idxA 3 1 (.t 4) (.c (.int .i64 2))),
 zo 39 (.load1 (.t 38)),
 zo 40 (.mkagg [.int .i64 0,.int .i64 0] [(0,1,(.t 37)),(1,1,(.t 39))]),
 zo 41 (.eqv false (.ints 2) (.t 21) (.t 40)),
 zm 35 41]
def c93k8:ICode:=.kill 52 qq33 (.ops c93r8)
def c93s9:ICode:=(.cond (.t 22) c93k5 (.seq c93k8 c93s7))
def c93r10:List Seg:=[
 zo 29 (.idxA 3 1 (.t 4) (.c (.int .i64 1))),
 zo 30 (.load1 (.t 29)),
 zo 31 (.idxA 3 1 (.t 4) (.c (.int .i64 2))),
 zo 32 (.load1 (.t 31)),
 zo 33 (.mkagg [.int .i64 0,.int .i64 0] [(0,1,(.t 30)),(1,1,(.t 32))]),
 zo 34 (.eqv false (.ints 2) (.t 21) (.t 33)),
 zm 22 34]
def c93k10:ICode:=.kill 52 qq33 (.ops c93r10)
def c93s11:ICode:=(.cond (.t 22) .skip c93k10)
def c93r12:List Seg:=[
 zo 23 (.idxA 3 1 (.t 4) (.c (.int .i64 0))),
 zo 24 (.load1 (.t 23)),
 zo 25 (.idxA 3 1 (.t 4) (.c (.int .i64 1))),
 zo 26 (.load1 (.t 25)),
 zo 27 (.mkagg [.int .i64 0,.int .i64 0] [(0,1,(.t 24)),(1,1,(.t 26))]),
 zo 28 (.eqv false (.ints 2) (.t 21) (.t 27)),
 zm 22 28]
def c93k12:ICode:=.kill 52 qq33 (.ops c93r12)
def c93s13:ICode:=(.block 2 (.seq (.seq c93k12 c93s11) c93s9))
def c93r14:List Seg:=[
 zo 21 (.loadN 2 (.t 6))]
def c93k14:ICode:=.kill 52 qq32 (.ops c93r14)
def c93s15:ICode:=(.seq (.seq c93k14 c93s13) c93s4)
def c93r16:List Seg:=[
 zo 7 (.mv (.c (.int .i64 0)))]
def c93k16:ICode:=.kill 52 qq31 (.ops c93r16)
def c93s17:ICode:=(.seq c93k16 c93s15)
def c93r18:List Seg:=[
 zm 18 16,
 zo 19 (.idxS 2 (.t 14) (.t 16)),
 zo 20 (.loadN 2 (.t 19)),
 zo 6 (.box (.c (.agg [.int .i64 0,.int .i64 0]))),
 zm 5 18,
 .one ⟨none,.storeN 2 (.t 6) (.t 20),none⟩]
def c93k18:ICode:=.kill 52 qq29 (.ops c93r18)
def c93s19:ICode:=(.seq (.block 1 (.seq c93k18 c93s17)) c93k1)
def c93s20:ICode:=(.seq (.cond (.t 17) .skip (.exit 0)) c93s19)
def c93r21:List Seg:=[
 zo 17 (.bin .lss (.t 16) (.t 15))]
def c93k21:ICode:=.kill 52 qq29 (.ops c93r21)
def c93l0:ICode:=(.seq c93k21 c93s20)
def c93s22:ICode:=(.block 0 (.loop c93l0))
def c93r23:List Seg:=[
 zo 13 (.fieldA 1 (.t 1)),
 zo 14 (.load1 (.t 13)),
 zo 15 (.len 0 (.t 14)),
 zo 16 (.mv (.c (.int .i64 0)))]
def c93k23:ICode:=.kill 52 qq4 (.ops c93r23)
def c93s24:ICode:=(.seq c93k23 c93s22)
def c93r25:List Seg:=[
 zo 8 (.fieldA 2 (.t 1)),
 zo 9 (.load1 (.t 8)),
 zo 10 (.load1 (.t 2)),
 zo 11 (.idxS 3 (.t 9) (.t 10)),
 zo 12 (.loadN 3 (.t 11)),
 zo 4 (.box (.c (.agg [.int .i64 0,.int .i64 0,.int .i64 0]))),
 .one ⟨none,.storeN 3 (.t 4) (.t 12),none⟩]
def c93k25:ICode:=.kill 52 qq0 (.ops c93r25)
def c93b:ICode:=(.seq c93k25 c93s24)
def c93:IFn:=⟨52,[],c93b⟩
def h93:List (Nat×Nat×List Nat):=[(0,(52,[0,1,2])),(1,(52,[0,1,4])),(2,(52,[0,4,14,15,16])),(3,(52,[0,4,14,15,16])),(4,(52,[0,4,5,6,14,15,16])),(5,(52,[0,4,5,6,7,14,15,16])),(6,(52,[0,4,5,7,14,15,16,21])),(7,(52,[0,4,5,7,14,15,16,21])),(8,(52,[0,4,5,14,15,16])),(9,(52,[0,4,5,7,14,15,16,21])),(10,(52,[0,4,5,14,15,16])),(11,(52,[0,4,5,7,14,15,16])),(12,(52,[0,4,14,15,16]))]
def c94r0:List Seg:=[
 zm 3 0,
 zo 4 (.bin .lss (.t 3) (.c (.int .i64 (-100)))),
 zm 5 4,
 .one ⟨some 6,.mv (.t 0),some (5,false)⟩,
 .one ⟨some 7,.bin .gtr (.t 6) (.c (.int .i64 100)),some (5,false)⟩,
 zo 8 (.pick (.t 5) (.c (.bool true)) (.t 7)),
 zm 2 8]
def c94k0:ICode:=.kill 9 [0] (.ops c94r0)
def c94s1:ICode:=(.seq c94k0 .ret)
def c94r2:List Seg:=[
 zo 2 (.mv (.c (.bool false)))]
def c94k2:ICode:=.kill 9 [0] (.ops c94r2)
def c94b:ICode:=(.seq c94k2 c94s1)
def c94:IFn:=⟨9,[.t 2],c94b⟩
def h94:List (Nat×Nat×List Nat):=[(0,(9,[0])),(1,(9,[0]))]
def c95r0:List Seg:=[
 zo 5 (.loadN 2 (.t 2)),
 zo 6 (.fieldA 0 (.t 3)),
 zo 7 (.load1 (.t 6)),
 zo 8 (.un .neg (.t 7)),
 zo 9 (.fieldA 1 (.t 3)),
 zo 10 (.load1 (.t 9)),
 zo 11 (.mkagg [.int .i64 0,.int .i64 0] [(0,1,(.t 8)),(1,1,(.t 10))]),
 zo 12 (.call [] (.c (.func 97 [])) [(.t 5),(.t 11)]),
 .one ⟨none,.storeN 2 (.t 4) (.t 12),none⟩]
def c95k0:ICode:=.kill 13 qq130 (.ops c95r0)
def c95s1:ICode:=(.seq c95k0 .ret)
def c95r2:List Seg:=[
 zo 2 (.box (.t 0)),
 zo 3 (.box (.t 1)),
 zo 4 (.box (.c (.agg [.int .i64 0,.int .i64 0])))]
def c95k2:ICode:=.kill 13 qq21 (.ops c95r2)
def c95b:ICode:=(.seq c95k2 c95s1)
def c95:IFn:=⟨13,[.cellN 4 2],c95b⟩
def h95:List (Nat×Nat×List Nat):=[(0,(13,[0,1])),(1,(13,[2,3,4]))]
def c96r0:List Seg:=[
 zo 10 (.loadN 22 (.t 1)),
 .one ⟨none,.storeN 22 (.t 0) (.t 10),none⟩]
def c96k0:ICode:=.kill 11 qq21 (.ops c96r0)
def c96s1:ICode:=(.seq c96k0 .ret)
def c96r3:List Seg:=[
 zo 9 (.bin .add (.t 3) (.c (.int .i64 1))),
 zm 3 9]
def c96k3:ICode:=.kill 11 qq1 (.ops c96r3)
def c96r4:List Seg:=[
 zm 6 2,
 zo 7 (.loadN 2 (.c (.ptr 0 0))),
 zo 8 (.idxA 11 2 (.t 1) (.t 6)),
 .one ⟨none,.storeN 2 (.t 8) (.t 7),none⟩]
def c96k4:ICode:=.kill 11 [0,1,2,3] (.ops c96r4)
def c96r5:List Seg:=[
 zm 5 3,
 zm 2 5]
def c96k5:ICode:=.kill 11 qq1 (.ops c96r5)
def c96s6:ICode:=(.seq (.block 1 (.seq c96k5 c96k4)) c96k3)
def c96s7:ICode:=(.seq (.cond (.t 4) .skip (.exit 0)) c96s6)
def c96r8:List Seg:=[
 zo 4 (.bin .lss (.t 3) (.c (.int .i64 11)))]
def c96k8:ICode:=.kill 11 qq1 (.ops c96r8)
def c96l2:ICode:=(.seq c96k8 c96s7)
def c96s9:ICode:=(.block 0 (.loop c96l2))
def c96r10:List Seg:=[
 zo 3 (.mv (.c (.int .i64 0)))]
def c96k10:ICode:=.kill 11 qq21 (.ops c96r10)
def c96s11:ICode:=(.seq (.seq c96k10 c96s9) c96s1)
def c96r12:List Seg:=[
 zo 1 (.box (.c (.agg (List.replicate 22 (.int .i64 0)))))]
def c96k12:ICode:=.kill 11 [0] (.ops c96r12)
def c96s13:ICode:=(.seq c96k12 c96s11)
def c96r14:List Seg:=[
 zo 0 (.box (.c (.agg (List.replicate 22 (.int .i64 0)))))]
def c96k14:ICode:=.kill 11 [] (.ops c96r14)
def c96b:ICode:=(.seq c96k14 c96s13)
def c96:IFn:=⟨11,[.cellN 0 22],c96b⟩
def h96:List (Nat×Nat×List Nat):=[(0,(11,[])),(1,(11,[0])),(2,(11,[0,1])),(3,(11,[0,1,3])),(4,(11,[0,1,3])),(5,(11,[0,1,2,3])),(6,(11,[0,1,3])),(7,(11,[0,1]))]
def c97r0:List Seg:=[
 zo 11 (.fieldA 0 (.t 2)),
 zo 12 (.load1 (.t 11)),
 zo 13 (.fieldA 1 (.t 5)),
 zo 14 (.load1 (.t 13)),
 zo 15 (.bin .mul (.t 12) (.t 14)),
 zo 16 (.fieldA 0 (.t 3)),
 zo 17 (.load1 (.t 16)),
 zo 18 (.fieldA 0 (.t 5)),
 zo 19 (.load1 (.t 18)),
 zo 20 (.bin .mul (.t 17) (.t 19)),
 zo 21 (.bin .add (.t 15) (.t 20)),
 zo 22 (.fieldA 1 (.t 2)),
 zo 23 (.load1 (.t 22)),
 zo 24 (.fieldA 1 (.t 5)),
 zo 25 (.load1 (.t 24)),
 zo 26 (.bin .mul (.t 23) (.t 25)),
 zo 27 (.call [] (.c (.func 106 [])) [(.t 21),(.t 26)]),
 .one ⟨none,.storeN 2 (.t 4) (.t 27),none⟩]
def c97k0:ICode:=.kill 28 qq129 (.ops c97r0)
def c97s1:ICode:=(.seq c97k0 .ret)
def c97r2:List Seg:=[
 zo 6 (.fieldA 1 (.t 2)),
 zo 7 (.load1 (.t 6)),
 zo 8 (.fieldA 1 (.t 3)),
 zo 9 (.load1 (.t 8)),
 zo 10 (.call [] (.c (.func 106 [])) [(.t 7),(.t 9)]),
 zo 5 (.box (.c (.agg [.int .i64 0,.int .i64 0]))),
 .one ⟨none,.storeN 2 (.t 5) (.t 10),none⟩]
def c97k2:ICode:=.kill 28 qq130 (.ops c97r2)
def c97s3:ICode:=(.seq c97k2 c97s1)
def c97r4:List Seg:=[
 zo 2 (.box (.t 0)),
 zo 3 (.box (.t 1)),
 zo 4 (.box (.c (.agg [.int .i64 0,.int .i64 0])))]
def c97k4:ICode:=.kill 28 qq21 (.ops c97r4)
def c97b:ICode:=(.seq c97k4 c97s3)
def c97:IFn:=⟨28,[.cellN 4 2],c97b⟩
def h97:List (Nat×Nat×List Nat):=[(0,(28,[0,1])),(1,(28,[2,3,4])),(2,(28,[2,3,4,5]))]
def c98r0:List Seg:=[
 zm 68 7,
 zm 4 68]
def c98k0:ICode:=.kill 69 [7] (.ops c98r0)
def c98s1:ICode:=(.seq c98k0 .ret)
def c98r3:List Seg:=[
 zo 67 (.bin .add (.t 50) (.c (.int .i64 1))),
 zm 50 67]
def c98k3:ICode:=.kill 69 qq116 (.ops c98r3)
def c98r4:List Seg:=[
 zm 57 7,
 zm 58 10,
 zm 59 5,
 zm 60 9,
 zo 61 (.idxS 1 (.t 59) (.t 60)),
 zo 62 (.load1 (.t 61)),
 zm 63 1,
 zo 64 (.idxS 2 (.t 62) (.t 63)),
 zo 65 (.loadN 2 (.t 64)),
 zo 66 (.idxS 2 (.t 57) (.t 58)),
 .one ⟨none,.storeN 2 (.t 66) (.t 65),none⟩]
def c98k4:ICode:=.kill 69 qq117 (.ops c98r4)
def c98s5:ICode:=(.cond (.t 56) c98k4 .skip)
def c98r6:List Seg:=[
 zm 55 10,
 zo 56 (.bin .geq (.t 55) (.c (.int .i64 0)))]
def c98k6:ICode:=.kill 69 qq117 (.ops c98r6)
def c98s7:ICode:=(.seq c98k6 c98s5)
def c98r8:List Seg:=[
 zm 52 50,
 zo 53 (.idxS 1 (.t 48) (.t 50)),
 zo 54 (.load1 (.t 53)),
 zm 9 52,
 zm 10 54]
def c98k8:ICode:=.kill 69 qq116 (.ops c98r8)
def c98s9:ICode:=(.seq (.block 5 (.seq c98k8 c98s7)) c98k3)
def c98s10:ICode:=(.seq (.cond (.t 51) .skip (.exit 4)) c98s9)
def c98r11:List Seg:=[
 zo 51 (.bin .lss (.t 50) (.t 49))]
def c98k11:ICode:=.kill 69 qq116 (.ops c98r11)
def c98l2:ICode:=(.seq c98k11 c98s10)
def c98s12:ICode:=(.block 4 (.loop c98l2))
def c98r13:List Seg:=[
 zm 45 5,
 zm 46 1,
 zo 47 (.loadN 2 (.c (.ptr 0 0))),
 zo 48 (.call [] (.c (.func 64 [])) [(.t 45),(.t 46),(.t 47)]),
 zo 49 (.len 0 (.t 48)),
 zo 50 (.mv (.c (.int .i64 0)))]
def c98k13:ICode:=.kill 69 qq118 (.ops c98r13)
def c98s14:ICode:=(.seq (.seq c98k13 c98s12) c98s1)
def c98r16:List Seg:=[
 zo 44 (.bin .add (.t 37) (.c (.int .i64 1))),
 zm 37 44]
def c98k16:ICode:=.kill 69 qq115 (.ops c98r16)
def c98r17:List Seg:=[
 zm 40 7,
 zm 41 8,
 zo 42 (.loadN 2 (.c (.ptr 0 0))),
 zo 43 (.idxS 2 (.t 40) (.t 41)),
 .one ⟨none,.storeN 2 (.t 43) (.t 42),none⟩]
def c98k17:ICode:=.kill 69 [1,5,7,8,36,37] (.ops c98r17)
def c98r18:List Seg:=[
 zm 39 37,
 zm 8 39]
def c98k18:ICode:=.kill 69 qq115 (.ops c98r18)
def c98s19:ICode:=(.seq (.block 3 (.seq c98k18 c98k17)) c98k16)
def c98s20:ICode:=(.seq (.cond (.t 38) .skip (.exit 2)) c98s19)
def c98r21:List Seg:=[
 zo 38 (.bin .lss (.t 37) (.t 36))]
def c98k21:ICode:=.kill 69 qq115 (.ops c98r21)
def c98l15:ICode:=(.seq c98k21 c98s20)
def c98s22:ICode:=(.block 2 (.loop c98l15))
def c98r23:List Seg:=[
 zm 35 7,
 zo 36 (.len 0 (.t 35)),
 zo 37 (.mv (.c (.int .i64 0)))]
def c98k23:ICode:=.kill 69 qq118 (.ops c98r23)
def c98s24:ICode:=(.seq (.seq c98k23 c98s22) c98s14)
def c98r25:List Seg:=[
 zm 33 1,
 zo 34 (.make [.int .i64 0,.int .i64 0] 16 (.t 33) (.t 33)),
 zm 7 34]
def c98k25:ICode:=.kill 69 qq119 (.ops c98r25)
def c98s26:ICode:=(.seq c98k25 c98s24)
def c98r28:List Seg:=[
 zo 32 (.bin .add (.t 13) (.c (.int .i64 1))),
 zm 13 32]
def c98k28:ICode:=.kill 69 qq5 (.ops c98r28)
def c98r29:List Seg:=[
 .grp [(zn 16 5,0),(zn 17 0,0),(zn 18 6,0),(zp 19 (.idxS 22 (.t 17) (.t 18)),6),(zn 20 1,0),(zn 21 1,0),(zp 22 (.sliceA 11 2 (.t 19) none (some (.t 20)) (some (.t 21))),62),(zn 23 0,0),(zn 24 6,0),(zp 25 (.idxS 22 (.t 23) (.t 24)),384),(zp 26 (.idxA 11 2 (.t 25) (.c (.int .i64 10))),896),(zp 27 (.loadN 2 (.t 26)),1920),(zp 28 (.mkslice 1 [.int .i64 0,.int .i64 0] [(0,2,(.t 27))]),3968),(zp 29 (.app 2 16 (.t 22) (.t 28)),8190),(zp 30 (.mkslice 1 [.nilslice] [(0,1,(.t 29))]),16382)],
 zo 31 (.app 1 24 (.t 16) (.t 30)),
 zm 5 31]
def c98k29:ICode:=.kill 69 [0,1,5,6,12,13] (.ops c98r29)
def c98r30:List Seg:=[
 zm 15 13,
 zm 6 15]
def c98k30:ICode:=.kill 69 qq5 (.ops c98r30)
def c98s31:ICode:=(.seq (.block 1 (.seq c98k30 c98k29)) c98k28)
def c98s32:ICode:=(.seq (.cond (.t 14) .skip (.exit 0)) c98s31)
def c98r33:List Seg:=[
 zo 14 (.bin .lss (.t 13) (.t 12))]
def c98k33:ICode:=.kill 69 qq5 (.ops c98r33)
def c98l27:ICode:=(.seq c98k33 c98s32)
def c98s34:ICode:=(.block 0 (.loop c98l27))
def c98r35:List Seg:=[
 zm 11 0,
 zo 12 (.len 0 (.t 11)),
 zo 13 (.mv (.c (.int .i64 0)))]
def c98k35:ICode:=.kill 69 qq12 (.ops c98r35)
def c98s36:ICode:=(.seq (.seq c98k35 c98s34) c98s26)
def c98r37:List Seg:=[
 zo 5 (.mv (.c .nilslice))]
def c98k37:ICode:=.kill 69 qq21 (.ops c98r37)
def c98s38:ICode:=(.seq c98k37 c98s36)
def c98r39:List Seg:=[
 zo 4 (.mv (.c .nilslice))]
def c98k39:ICode:=.kill 69 qq21 (.ops c98r39)
def c98b:ICode:=(.seq c98k39 c98s38)
def c98:IFn:=⟨69,[.t 4],c98b⟩
def h98:List (Nat×Nat×List Nat):=[(0,(69,[0,1])),(1,(69,[0,1])),(2,(69,[0,1,5])),(3,(69,[0,1,5,12,13])),(4,(69,[0,1,5,12,13])),(5,(69,[0,1,5,6,12,13])),(6,(69,[0,1,5,12,13])),(7,(69,[1,5])),(8,(69,[1,5,7])),(9,(69,[1,5,7,36,37])),(10,(69,[1,5,7,36,37])),(11,(69,[1,5,7,8,36,37])),(12,(69,[1,5,7,36,37])),(13,(69,[1,5,7])),(14,(69,[1,5,7,48,49,50])),(15,(69,[1,5,7,48,49,50])),(16,(69,[1,5,7,9,10,48,49,50])),(17,(69,[1,5,7,9,10,48,49,50])),(18,(69,[1,5,7,48,49,50])),(19,(69,[7]))]
def c99r0:List Seg:=[
 zo 17 (.fieldA 0 (.t 5)),
 zo 18 (.load1 (.t 17)),
 zo 19 (.fieldA 0 (.t 6)),
 zo 20 (.load1 (.t 19)),
 zo 21 (.bin .mul (.t 18) (.t 20)),
 zo 22 (.fieldA 1 (.t 5)),
 zo 23 (.load1 (.t 22)),
 zo 24 (.fieldA 1 (.t 6)),
 zo 25 (.load1 (.t 24)),
 zo 26 (.bin .mul (.t 23) (.t 25)),
 zo 27 (.mkagg [.int .i64 0,.int .i64 0] [(0,1,(.t 21)),(1,1,(.t 26))]),
 .one ⟨none,.storeN 2 (.t 4) (.t 27),none⟩]
def c99k0:ICode:=.kill 28 qq146 (.ops c99r0)
def c99s1:ICode:=(.seq c99k0 .ret)
def c99r2:List Seg:=[
 .grp [(zp 7 (.fieldA 0 (.t 2)),0),(zp 8 (.load1 (.t 7)),1),(zp 9 (.fieldA 1 (.t 3)),0),(zp 10 (.load1 (.t 9)),4),(zp 11 (.call [] (.c (.func 106 [])) [(.t 8),(.t 10)]),15),(zp 12 (.fieldA 0 (.t 3)),0),(zp 13 (.load1 (.t 12)),32),(zp 14 (.fieldA 1 (.t 2)),0),(zp 15 (.load1 (.t 14)),128),(zp 16 (.call [] (.c (.func 106 [])) [(.t 13),(.t 15)]),511),(zp 5 (.box (.c (.agg [.int .i64 0,.int .i64 0]))),0),(zp 6 (.box (.c (.agg [.int .i64 0,.int .i64 0]))),0)],
 .one ⟨none,.storeN 2 (.t 5) (.t 11),none⟩,
 .one ⟨none,.storeN 2 (.t 6) (.t 16),none⟩]
def c99k2:ICode:=.kill 28 qq130 (.ops c99r2)
def c99s3:ICode:=(.seq c99k2 c99s1)
def c99r4:List Seg:=[
 zo 2 (.box (.t 0)),
 zo 3 (.box (.t 1)),
 zo 4 (.box (.c (.agg [.int .i64 0,.int .i64 0])))]
def c99k4:ICode:=.kill 28 qq21 (.ops c99r4)
def c99b:ICode:=(.seq c99k4 c99s3)
def c99:IFn:=⟨28,[.cellN 4 2],c99b⟩
def h99:List (Nat×Nat×List Nat):=[(0,(28,[0,1])),(1,(28,[2,3,4])),(2,(28,[4,5,6]))]
def c100r0:List Seg:=[
 zm 18 0,
 zm 3 18]
def c100k0:ICode:=.kill 19 [0] (.ops c100r0)
def c100s1:ICode:=(.seq c100k0 .ret)
def c100r3:List Seg:=[
 zo 12 (.load1 (.t 1)),
 zm 13 0,
 zo 14 (.nilck (.t 12)),
 zo 15 (.fieldA 0 (.t 14)),
 zo 16 (.idxA 6 1 (.t 15) (.t 13)),
 zo 17 (.load1 (.t 16)),
 zm 0 17]
def c100k3:ICode:=.kill 19 qq21 (.ops c100r3)
def c100s4:ICode:=(.block 1 c100k3)
def c100s5:ICode:=(.cond (.t 11) .skip (.exit 0))
def c100r6:List Seg:=[
 zo 4 (.load1 (.t 1)),
 zm 5 0,
 zo 6 (.nilck (.t 4)),
 zo 7 (.fieldA 0 (.t 6)),
 zo 8 (.idxA 6 1 (.t 7) (.t 5)),
 zo 9 (.load1 (.t 8)),
 zm 10 0,
 zo 11 (.bin .neq (.t 9) (.t 10))]
def c100k6:ICode:=.kill 19 qq21 (.ops c100r6)
def c100l2:ICode:=(.seq (.seq c100k6 c100s5) c100s4)
def c100s7:ICode:=(.seq (.block 0 (.loop c100l2)) c100s1)
def c100r8:List Seg:=[
 zo 3 (.mv (.c (.int .i64 0)))]
def c100k8:ICode:=.kill 19 qq21 (.ops c100r8)
def c100b:ICode:=(.seq c100k8 c100s7)
def c100:IFn:=⟨19,[.t 3],c100b⟩
def h100:List (Nat×Nat×List Nat):=[(0,(19,[0,1])),(1,(19,[0,1])),(2,(19,[0,1])),(3,(19,[0]))]
def c103r0:List Seg:=[
 zo 4 (.mv (.c (.int .i64 (-1))))]
def c103k0:ICode:=.kill 19 [] (.ops c103r0)
def c103s1:ICode:=(.seq c103k0 .ret)
def c103r3:List Seg:=[
 zo 18 (.bin .add (.t 8) (.c (.int .i64 1))),
 zm 8 18]
def c103k3:ICode:=.kill 19 qq18 (.ops c103r3)
def c103r4:List Seg:=[
 zm 17 5,
 zm 4 17]
def c103k4:ICode:=.kill 19 [5] (.ops c103r4)
def c103s5:ICode:=(.cond (.t 16) (.seq c103k4 .ret) .skip)
def c103r6:List Seg:=[
 zm 11 1,
 zm 12 0,
 zm 13 5,
 zo 14 (.idxS 1 (.t 12) (.t 13)),
 zo 15 (.load1 (.t 14)),
 zo 16 (.call [] (.t 11) [(.t 15)])]
def c103k6:ICode:=.kill 19 [0,1,5,7,8] (.ops c103r6)
def c103s7:ICode:=(.seq c103k6 c103s5)
def c103r8:List Seg:=[
 zm 10 8,
 zm 5 10]
def c103k8:ICode:=.kill 19 qq18 (.ops c103r8)
def c103s9:ICode:=(.seq (.block 1 (.seq c103k8 c103s7)) c103k3)
def c103s10:ICode:=(.seq (.cond (.t 9) .skip (.exit 0)) c103s9)
def c103r11:List Seg:=[
 zo 9 (.bin .lss (.t 8) (.t 7))]
def c103k11:ICode:=.kill 19 qq18 (.ops c103r11)
def c103l2:ICode:=(.seq c103k11 c103s10)
def c103s12:ICode:=(.block 0 (.loop c103l2))
def c103r13:List Seg:=[
 zm 6 0,
 zo 7 (.len 0 (.t 6)),
 zo 8 (.mv (.c (.int .i64 0)))]
def c103k13:ICode:=.kill 19 qq21 (.ops c103r13)
def c103s14:ICode:=(.seq (.seq c103k13 c103s12) c103s1)
def c103r15:List Seg:=[
 zo 4 (.mv (.c (.int .i64 0)))]
def c103k15:ICode:=.kill 19 qq21 (.ops c103r15)
def c103b:ICode:=(.seq c103k15 c103s14)
def c103:IFn:=⟨19,[.t 4],c103b⟩
def h103:List (Nat×Nat×List Nat):=[(0,(19,[0,1])),(1,(19,[0,1])),(2,(19,[0,1,7,8])),(3,(19,[0,1,7,8])),(4,(19,[0,1,5,7,8])),(5,(19,[5])),(6,(19,[0,1,7,8])),(7,(19,[]))]
def c105r0:List Seg:=[
 zo 4 (.mv (.c (.int .i64 0)))]
def c105k0:ICode:=.kill 20 [] (.ops c105r0)
def c105s1:ICode:=(.seq c105k0 .ret)
def c105r2:List Seg:=[
 zo 4 (.mv (.c (.int .i64 1)))]
def c105k2:ICode:=.kill 20 [] (.ops c105r2)
def c105s3:ICode:=(.cond (.t 19) (.seq c105k2 .ret) .skip)
def c105r4:List Seg:=[
 zm 17 0,
 zm 18 1,
 zo 19 (.bin .gtr (.t 17) (.t 18))]
def c105k4:ICode:=.kill 20 qq21 (.ops c105r4)
def c105s5:ICode:=(.seq (.seq c105k4 c105s3) c105s1)
def c105r6:List Seg:=[
 zo 4 (.mv (.c (.int .i64 (-1))))]
def c105k6:ICode:=.kill 20 [] (.ops c105r6)
def c105s7:ICode:=(.cond (.t 16) (.seq c105k6 .ret) .skip)
def c105r8:List Seg:=[
 zm 14 0,
 zm 15 1,
 zo 16 (.bin .lss (.t 14) (.t 15))]
def c105k8:ICode:=.kill 20 qq21 (.ops c105r8)
def c105s9:ICode:=(.seq (.seq c105k8 c105s7) c105s5)
def c105r10:List Seg:=[
 zo 4 (.mv (.c (.int .i64 1)))]
def c105k10:ICode:=.kill 20 [] (.ops c105r10)
def c105s11:ICode:=(.cond (.t 13) (.seq c105k10 .ret) .skip)
def c105r12:List Seg:=[
 zm 13 6]
def c105k12:ICode:=.kill 20 qq17 (.ops c105r12)
def c105s13:ICode:=(.seq (.seq c105k12 c105s11) c105s9)
def c105r14:List Seg:=[
 zo 4 (.mv (.c (.int .i64 (-1))))]
def c105k14:ICode:=.kill 20 [] (.ops c105r14)
def c105s15:ICode:=(.seq c105k14 .ret)
def c105r16:List Seg:=[
 zo 4 (.mv (.c (.int .i64 0)))]
def c105k16:ICode:=.kill 20 [] (.ops c105r16)
def c105s17:ICode:=(.cond (.t 12) (.seq c105k16 .ret) .skip)
def c105r18:List Seg:=[
 zm 12 6]
def c105k18:ICode:=.kill 20 [6] (.ops c105r18)
def c105s19:ICode:=(.cond (.t 11) (.seq (.seq c105k18 c105s17) c105s15) .skip)
def c105r20:List Seg:=[
 zm 11 5]
def c105k20:ICode:=.kill 20 qq7 (.ops c105r20)
def c105s21:ICode:=(.seq (.seq c105k20 c105s19) c105s13)
def c105r22:List Seg:=[
 zm 9 1,
 zo 10 (.call [] (.c (.func 107 [])) [(.t 9)]),
 zm 6 10]
def c105k22:ICode:=.kill 20 qq12 (.ops c105r22)
def c105s23:ICode:=(.seq c105k22 c105s21)
def c105r24:List Seg:=[
 zm 7 0,
 zo 8 (.call [] (.c (.func 107 [])) [(.t 7)]),
 zm 5 8]
def c105k24:ICode:=.kill 20 qq21 (.ops c105r24)
def c105s25:ICode:=(.seq c105k24 c105s23)
def c105r26:List Seg:=[
 zo 4 (.mv (.c (.int .i64 0)))]
def c105k26:ICode:=.kill 20 qq21 (.ops c105r26)
def c105b:ICode:=(.seq c105k26 c105s25)
def c105:IFn:=⟨20,[.t 4],c105b⟩
def h105:List (Nat×Nat×List Nat):=[(0,(20,[0,1])),(1,(20,[0,1])),(2,(20,[0,1,5])),(3,(20,[0,1,5,6])),(4,(20,[6])),(5,(20,[])),(6,(20,[])),(7,(20,[0,1,6])),(8,(20,[])),(9,(20,[0,1])),(10,(20,[])),(11,(20,[0,1])),(12,(20,[])),(13,(20,[]))]
def c106r0:List Seg:=[
 .grp [(zn 23 0,0),(zn 24 5,0),(zp 25 (.bin .quo (.t 23) (.t 24)),3),(zn 26 1,0),(zn 27 5,0),(zp 28 (.bin .quo (.t 26) (.t 27)),24)],
 zo 29 (.mkagg [.int .i64 0,.int .i64 0] [(0,1,(.t 25)),(1,1,(.t 28))]),
 .one ⟨none,.storeN 2 (.t 4) (.t 29),none⟩]
def c106k0:ICode:=.kill 30 qq3 (.ops c106r0)
def c106s1:ICode:=(.seq c106k0 .ret)
def c106r2:List Seg:=[
 zm 21 5,
 zo 22 (.un .neg (.t 21)),
 zm 5 22]
def c106k2:ICode:=.kill 30 qq3 (.ops c106r2)
def c106s3:ICode:=(.cond (.t 20) c106k2 .skip)
def c106r4:List Seg:=[
 zm 19 1,
 zo 20 (.bin .lss (.t 19) (.c (.int .i64 0)))]
def c106k4:ICode:=.kill 30 qq3 (.ops c106r4)
def c106s5:ICode:=(.seq (.seq c106k4 c106s3) c106s1)
def c106r6:List Seg:=[
 zm 17 5,
 zo 18 (.un .neg (.t 17)),
 zm 5 18]
def c106k6:ICode:=.kill 30 qq3 (.ops c106r6)
def c106s7:ICode:=(.cond (.t 16) c106k6 .skip)
def c106r8:List Seg:=[
 zm 15 5,
 zo 16 (.bin .lss (.t 15) (.c (.int .i64 0)))]
def c106k8:ICode:=.kill 30 qq3 (.ops c106r8)
def c106s9:ICode:=(.seq (.seq c106k8 c106s7) c106s5)
def c106r11:List Seg:=[
 .grp [(zn 11 6,0),(zn 12 5,0),(zn 13 6,0),(zp 14 (.bin .rem (.t 12) (.t 13)),6),(zn 5 11,3)],
 zm 6 14]
def c106k11:ICode:=.kill 30 qq2 (.ops c106r11)
def c106s12:ICode:=(.block 1 c106k11)
def c106s13:ICode:=(.cond (.t 10) .skip (.exit 0))
def c106r14:List Seg:=[
 zm 9 6,
 zo 10 (.bin .neq (.t 9) (.c (.int .i64 0)))]
def c106k14:ICode:=.kill 30 qq2 (.ops c106r14)
def c106l10:ICode:=(.seq (.seq c106k14 c106s13) c106s12)
def c106s15:ICode:=(.seq (.block 0 (.loop c106l10)) c106s9)
def c106r16:List Seg:=[
 zm 7 0,
 zm 8 1,
 zm 5 7,
 zm 6 8]
def c106k16:ICode:=.kill 30 qq4 (.ops c106r16)
def c106s17:ICode:=(.seq c106k16 c106s15)
def c106r18:List Seg:=[
 zo 4 (.box (.c (.agg [.int .i64 0,.int .i64 0])))]
def c106k18:ICode:=.kill 30 qq21 (.ops c106r18)
def c106b:ICode:=(.seq c106k18 c106s17)
def c106:IFn:=⟨30,[.cellN 4 2],c106b⟩
def h106:List (Nat×Nat×List Nat):=[(0,(30,[0,1])),(1,(30,[0,1,4])),(2,(30,[0,1,4,5,6])),(3,(30,[0,1,4,5,6])),(4,(30,[0,1,4,5])),(5,(30,[0,1,4,5])),(6,(30,[0,1,4,5])),(7,(30,[0,1,4,5])),(8,(30,[0,1,4,5]))]
def c107r0:List Seg:=[
 zm 3 0,
 zm 4 0,
 zo 5 (.bin .neq (.t 3) (.t 4)),
 zm 2 5]
def c107k0:ICode:=.kill 6 [0] (.ops c107r0)
def c107s1:ICode:=(.seq c107k0 .ret)
def c107r2:List Seg:=[
 zo 2 (.mv (.c (.bool false)))]
def c107k2:ICode:=.kill 6 [0] (.ops c107r2)
def c107b:ICode:=(.seq c107k2 c107s1)
def c107:IFn:=⟨6,[.t 2],c107b⟩
def h107:List (Nat×Nat×List Nat):=[(0,(6,[0])),(1,(6,[0]))]
def c123r0:List Seg:=[
 zo 17 (.loadN 2 (.t 2)),
 zo 18 (.fieldA 1 (.t 3)),
 zo 19 (.load1 (.t 18)),
 zo 20 (.fieldA 0 (.t 3)),
 zo 21 (.load1 (.t 20)),
 zo 22 (.mkagg [.int .i64 0,.int .i64 0] [(0,1,(.t 19)),(1,1,(.t 21))]),
 zo 23 (.call [] (.c (.func 99 [])) [(.t 17),(.t 22)]),
 .one ⟨none,.storeN 2 (.t 4) (.t 23),none⟩]
def c123k0:ICode:=.kill 24 qq130 (.ops c123r0)
def c123s1:ICode:=(.seq c123k0 .ret)
def c123r2:List Seg:=[
 zo 8 (.loadN 2 (.t 2)),
 zo 9 (.fieldA 1 (.t 3)),
 zo 10 (.load1 (.t 9)),
 zo 11 (.un .neg (.t 10)),
 zo 12 (.fieldA 0 (.t 3)),
 zo 13 (.load1 (.t 12)),
 zo 14 (.un .neg (.t 13)),
 zo 15 (.mkagg [.int .i64 0,.int .i64 0] [(0,1,(.t 11)),(1,1,(.t 14))]),
 zo 16 (.call [] (.c (.func 99 [])) [(.t 8),(.t 15)]),
 .one ⟨none,.storeN 2 (.t 4) (.t 16),none⟩]
def c123k2:ICode:=.kill 24 qq130 (.ops c123r2)
def c123s3:ICode:=(.cond (.t 7) (.seq c123k2 .ret) .skip)
def c123r4:List Seg:=[
 zo 5 (.fieldA 0 (.t 3)),
 zo 6 (.load1 (.t 5)),
 zo 7 (.bin .lss (.t 6) (.c (.int .i64 0)))]
def c123k4:ICode:=.kill 24 qq130 (.ops c123r4)
def c123s5:ICode:=(.seq (.seq c123k4 c123s3) c123s1)
def c123r6:List Seg:=[
 zo 2 (.box (.t 0)),
 zo 3 (.box (.t 1)),
 zo 4 (.box (.c (.agg [.int .i64 0,.int .i64 0])))]
def c123k6:ICode:=.kill 24 qq21 (.ops c123r6)
def c123b:ICode:=(.seq c123k6 c123s5)
def c123:IFn:=⟨24,[.cellN 4 2],c123b⟩
def h123:List (Nat×Nat×List Nat):=[(0,(24,[0,1])),(1,(24,[2,3,4])),(2,(24,[2,3,4])),(3,(24,[2,3,4]))]
end Go.Abs
set_option maxRecDepth 20000
set_option maxHeartbeats 4000000
namespace Go.Abs
open Go.Proofs
def hintOf(l:List (Nat×Nat×List Nat))(n:Nat):Option (Nat×List Nat):=l.lookup n
def tabF:List (Nat×IFn):=[(15,c15),(16,c16),(17,c17),(18,c18),(19,c19),(22,c22),(23,c23),(27,c27),(28,c28),(31,c31),(32,c32),(34,c34),(35,c35),(40,c40),(41,c41),(43,c43),(50,c50),(54,c54),(55,c55),(56,c56),(59,c59),(60,c60),(61,c61),(62,c62),(63,c63),(64,c64),(65,c65),(66,c66),(67,c67),(68,c68),(69,c69),(70,c70),(71,c71),(72,c72),(73,c73),(75,c75),(78,c78),(79,c79),(83,c83),(86,c86),(87,c87),(88,c88),(89,c89),(91,c91),(92,c92),(93,c93),(94,c94),(95,c95),(96,c96),(97,c97),(98,c98),(99,c99),(100,c100),(103,c103),(105,c105),(106,c106),(107,c107),(123,c123)]
def F(n:Nat):Option IFn:=tabF.lookup n
theorem ok15:cfn Tryd.prog [0] (hintOf h15) Tryd.f15=some c15:=by kernel_rfl
theorem F15:F 15=some c15:=by kernel_rfl
theorem ok16:cfn Tryd.prog [0] (hintOf h16) Tryd.f16=some c16:=by kernel_rfl
theorem F16:F 16=some c16:=by kernel_rfl
theorem ok17:cfn Tryd.prog [0] (hintOf h17) Tryd.f17=some c17:=by kernel_rfl
theorem F17:F 17=some c17:=by kernel_rfl
theorem ok18:cfn Tryd.prog [0] (hintOf h18) Tryd.f18=some c18:=by kernel_rfl
theorem F18:F 18=some c18:=by kernel_rfl
theorem ok19:cfn Tryd.prog [0] (hintOf h19) Tryd.f19=some c19:=by kernel_rfl
theorem ok22:cfn Tryd.prog [0] (hintOf h22) Tryd.f22=some c22:=by kernel_rfl
theorem ok23:cfn Tryd.prog [0] (hintOf h23) Tryd.f23=some c23:=by kernel_rfl
theorem ok27:cfn Tryd.prog [0] (hintOf h27) Tryd.f27=some c27:=by kernel_rfl
theorem ok28:cfn Tryd.prog [0] (hintOf h28) Tryd.f28=some c28:=by kernel_rfl
theorem ok31:cfn Tryd.prog [0] (hintOf h31) Tryd.f31=some c31:=by kernel_rfl
theorem F31:F 31=some c31:=by kernel_rfl
theorem ok32:cfn Tryd.prog [0] (hintOf h32) Tryd.f32=some c32:=by kernel_rfl
theorem F32:F 32=some c32:=by kernel_rfl
theorem ok34:cfn Tryd.prog [0] (hintOf h34) Tryd.f34=some c34:=by kernel_rfl
theorem F34:F 34=some c34:=by kernel_rfl
theorem ok35:cfn Tryd.prog [0] (hintOf h35) Tryd.f35=some c35:=by kernel_rfl
theorem F35:F 35=some c35:=by kernel_rfl
theorem ok40:cfn Tryd.prog [0] (hintOf h40) Tryd.f40=some c40:=by kernel_rfl
theorem ok41:cfn Tryd.prog [0] (hintOf h41) Tryd.f41=some c41:=by kernel_rfl
theorem ok43:cfn Tryd.prog [0] (hintOf h43) Tryd.f43=some c43:=by kernel_rfl
theorem F43:F 43=some c43:=by kernel_rfl
theorem ok50:cfn Tryd.prog [0] (hintOf h50) Tryd.f50=some c50:=by kernel_rfl
theorem F50:F 50=some c50:=by kernel_rfl
theorem ok54:cfn Tryd.prog [0] (hintOf h54) Tryd.f54=some c54:=by kernel_rfl
theorem F54:F 54=some c54:=by kernel_rfl
theorem ok55:cfn Tryd.prog [0] (hintOf h55) Tryd.f55=some c55:=by kernel_rfl
theorem F55:F 55=some c55:=by kernel_rfl
theorem ok56:cfn Tryd.prog [0] (hintOf h56) Tryd.f56=some c56:=by kernel_rfl
theorem F56:F 56=some c56:=by kernel_rfl
theorem ok59:cfn Tryd.prog [0] (hintOf h59) Tryd.f59=some c59:=by kernel_rfl
theorem F59:F 59=some c59:=by kernel_rfl
theorem ok60:cfn Tryd.prog [0] (hintOf h60) Tryd.f60=some c60:=by kernel_rfl
theorem F60:F 60=some c60:=by kernel_rfl
theorem ok61:cfn Tryd.prog [0] (hintOf h61) Tryd.f61=some c61:=by kernel_rfl
theorem F61:F 61=some c61:=by kernel_rfl
theorem ok62:cfn Tryd.prog [0] (hintOf h62) Tryd.f62=some c62:=by kernel_rfl
theorem F62:F 62=some c62:=by kernel_rfl
theorem ok63:cfn Tryd.prog [0] (hintOf h63) Tryd.f63=some c63:=by kernel_rfl
theorem F63:F 63=some c63:=by kernel_rfl
theorem ok64:cfn Tryd.prog [0] (hintOf h64) Tryd.f64=some c64:=by kernel_rfl
theorem F64:F 64=some c64:=by kernel_rfl
theorem ok65:cfn Tryd.prog [0] (hintOf h65) Tryd.f65=some c65:=by kernel_rfl
theorem F65:F 65=some c65:=by kernel_rfl
theorem ok66:cfn Tryd.prog [0] (hintOf h66) Tryd.f66=some c66:=by kernel_rfl
theorem ok67:cfn Tryd.prog [0] (hintOf h67) Tryd.f67=some c67:=by kernel_rfl
theorem ok68:cfn Tryd.prog [0] (hintOf h68) Tryd.f68=some c68:=by kernel_rfl
theorem ok69:cfn Tryd.prog [0] (hintOf h69) Tryd.f69=some c69:=by kernel_rfl
theorem ok70:cfn Tryd.prog [0] (hintOf h70) Tryd.f70=some c70:=by kernel_rfl
theorem ok71:cfn Tryd.prog [0] (hintOf h71) Tryd.f71=some c71:=by kernel_rfl
theorem F71:F 71=some c71:=by kernel_rfl
theorem ok72:cfn Tryd.prog [0] (hintOf h72) Tryd.f72=some c72:=by kernel_rfl
theorem F72:F 72=some c72:=by kernel_rfl
theorem ok73:cfn Tryd.prog [0] (hintOf h73) Tryd.f73=some c73:=by kernel_rfl
theorem F73:F 73=some c73:=by kernel_rfl
theorem ok75:cfn Tryd.prog [0] (hintOf h75) Tryd.f75=some c75:=by kernel_rfl
theorem F75:F 75=some c75:=by kernel_rfl
theorem ok78:cfn Tryd.prog [0] (hintOf h78) Tryd.f78=some c78:=by kernel_rfl
theorem F78:F 78=some c78:=by kernel_rfl
theorem ok79:cfn Tryd.prog [0] (hintOf h79) Tryd.f79=some c79:=by kernel_rfl
theorem ok83:cfn Tryd.prog [0] (hintOf h83) Tryd.f83=some c83:=by kernel_rfl
theorem ok86:cfn Tryd.prog [0] (hintOf h86) Tryd.f86=some c86:=by kernel_rfl
theorem F86:F 86=some c86:=by kernel_rfl
theorem ok87:cfn Tryd.prog [0] (hintOf h87) Tryd.f87=some c87:=by kernel_rfl
theorem F87:F 87=some c87:=by kernel_rfl
theorem ok88:cfn Tryd.prog [0] (hintOf h88) Tryd.f88=some c88:=by kernel_rfl
theorem F88:F 88=some c88:=by kernel_rfl
theorem ok89:cfn Tryd.prog [0] (hintOf h89) Tryd.f89=some c89:=by kernel_rfl
theorem F89:F 89=some c89:=by kernel_rfl
theorem ok91:cfn Tryd.prog [0] (hintOf h91) Tryd.f91=some c91:=by kernel_rfl
theorem F91:F 91=some c91:=by kernel_rfl
theorem ok92:cfn Tryd.prog [0] (hintOf h92) Tryd.f92=some c92:=by kernel_rfl
theorem F92:F 92=some c92:=by kernel_rfl
theorem ok93:cfn Tryd.prog [0] (hintOf h93) Tryd.f93=some c93:=by kernel_rfl
theorem F93:F 93=some c93:=by kernel_rfl
theorem ok94:cfn Tryd.prog [0] (hintOf h94) Tryd.f94=some c94:=by kernel_rfl
theorem ok95:cfn Tryd.prog [0] (hintOf h95) Tryd.f95=some c95:=by kernel_rfl
theorem F95:F 95=some c95:=by kernel_rfl
theorem ok96:cfn Tryd.prog [0] (hintOf h96) Tryd.f96=some c96:=by kernel_rfl
theorem ok97:cfn Tryd.prog [0] (hintOf h97) Tryd.f97=some c97:=by kernel_rfl
theorem F97:F 97=some c97:=by kernel_rfl
theorem ok98:cfn Tryd.prog [0] (hintOf h98) Tryd.f98=some c98:=by kernel_rfl
theorem ok99:cfn Tryd.prog [0] (hintOf h99) Tryd.f99=some c99:=by kernel_rfl
theorem F99:F 99=some c99:=by kernel_rfl
theorem ok100:cfn Tryd.prog [0] (hintOf h100) Tryd.f100=some c100:=by kernel_rfl
theorem ok103:cfn Tryd.prog [0] (hintOf h103) Tryd.f103=some c103:=by kernel_rfl
theorem ok105:cfn Tryd.prog [0] (hintOf h105) Tryd.f105=some c105:=by kernel_rfl
theorem F105:F 105=some c105:=by kernel_rfl
theorem ok106:cfn Tryd.prog [0] (hintOf h106) Tryd.f106=some c106:=by kernel_rfl
theorem F106:F 106=some c106:=by kernel_rfl
theorem ok107:cfn Tryd.prog [0] (hintOf h107) Tryd.f107=some c107:=by kernel_rfl
theorem F107:F 107=some c107:=by kernel_rfl
theorem ok123:cfn Tryd.prog [0] (hintOf h123) Tryd.f123=some c123:=by kernel_rfl
theorem F123:F 123=some c123:=by kernel_rfl
def OKp(p : Nat × IFn) : Prop := ∃ func hint, Tryd.prog.funcs[p.1]? = some func ∧ cfn Tryd.prog [0] hint func = some p.2 ∧ (func.name == "runtime.NumGoroutine") = false
theorem okp15:OKp (15,c15):=⟨_,_,Tryd.func15,ok15,by kernel_rfl⟩
theorem okp16:OKp (16,c16):=⟨_,_,Tryd.func16,ok16,by kernel_rfl⟩
theorem okp17:OKp (17,c17):=⟨_,_,Tryd.func17,ok17,by kernel_rfl⟩
theorem okp18:OKp (18,c18):=⟨_,_,Tryd.func18,ok18,by kernel_rfl⟩
theorem okp19:OKp (19,c19):=⟨_,_,Tryd.func19,ok19,by kernel_rfl⟩
theorem okp22:OKp (22,c22):=⟨_,_,Tryd.func22,ok22,by kernel_rfl⟩
theorem okp23:OKp (23,c23):=⟨_,_,Tryd.func23,ok23,by kernel_rfl⟩
theorem okp27:OKp (27,c27):=⟨_,_,Tryd.func27,ok27,by kernel_rfl⟩
theorem okp28:OKp (28,c28):=⟨_,_,Tryd.func28,ok28,by kernel_rfl⟩
theorem okp31:OKp (31,c31):=⟨_,_,Tryd.func31,ok31,by kernel_rfl⟩
theorem okp32:OKp (32,c32):=⟨_,_,Tryd.func32,ok32,by kernel_rfl⟩
theorem okp34:OKp (34,c34):=⟨_,_,Tryd.func34,ok34,by kernel_rfl⟩
theorem okp35:OKp (35,c35):=⟨_,_,Tryd.func35,ok35,by kernel_rfl⟩
theorem okp40:OKp (40,c40):=⟨_,_,Tryd.func40,ok40,by kernel_rfl⟩
theorem okp41:OKp (41,c41):=⟨_,_,Tryd.func41,ok41,by kernel_rfl⟩
theorem okp43:OKp (43,c43):=⟨_,_,Tryd.func43,ok43,by kernel_rfl⟩
theorem okp50:OKp (50,c50):=⟨_,_,Tryd.func50,ok50,by kernel_rfl⟩
theorem okp54:OKp (54,c54):=⟨_,_,Tryd.func54,ok54,by kernel_rfl⟩
theorem okp55:OKp (55,c55):=⟨_,_,Tryd.func55,ok55,by kernel_rfl⟩
theorem okp56:OKp (56,c56):=⟨_,_,Tryd.func56,ok56,by kernel_rfl⟩
theorem okp59:OKp (59,c59):=⟨_,_,Tryd.func59,ok59,by kernel_rfl⟩
theorem okp60:OKp (60,c60):=⟨_,_,Tryd.func60,ok60,by kernel_rfl⟩
theorem okp61:OKp (61,c61):=⟨_,_,Tryd.func61,ok61,by kernel_rfl⟩
theorem okp62:OKp (62,c62):=⟨_,_,Tryd.func62,ok62,by kernel_rfl⟩
theorem okp63:OKp (63,c63):=⟨_,_,Tryd.func63,ok63,by kernel_rfl⟩
theorem okp64:OKp (64,c64):=⟨_,_,Tryd.func64,ok64,by kernel_rfl⟩
theorem okp65:OKp (65,c65):=⟨_,_,Tryd.func65,ok65,by kernel_rfl⟩
theorem okp66:OKp (66,c66):=⟨_,_,Tryd.func66,ok66,by kernel_rfl⟩
theorem okp67:OKp (67,c67):=⟨_,_,Tryd.func67,ok67,by kernel_rfl⟩
theorem okp68:OKp (68,c68):=⟨_,_,Tryd.func68,ok68,by kernel_rfl⟩
theorem okp69:OKp (69,c69):=⟨_,_,Tryd.func69,ok69,by kernel_rfl⟩
theorem okp70:OKp (70,c70):=⟨_,_,Tryd.func70,ok70,by kernel_rfl⟩
theorem okp71:OKp (71,c71):=⟨_,_,Tryd.func71,ok71,by kernel_rfl⟩
theorem okp72:OKp (72,c72):=⟨_,_,Tryd.func72,ok72,by kernel_rfl⟩
theorem okp73:OKp (73,c73):=⟨_,_,Tryd.func73,ok73,by kernel_rfl⟩
theorem okp75:OKp (75,c75):=⟨_,_,Tryd.func75,ok75,by kernel_rfl⟩
theorem okp78:OKp (78,c78):=⟨_,_,Tryd.func78,ok78,by kernel_rfl⟩
theorem okp79:OKp (79,c79):=⟨_,_,Tryd.func79,ok79,by kernel_rfl⟩
theorem okp83:OKp (83,c83):=⟨_,_,Tryd.func83,ok83,by kernel_rfl⟩
theorem okp86:OKp (86,c86):=⟨_,_,Tryd.func86,ok86,by kernel_rfl⟩
theorem okp87:OKp (87,c87):=⟨_,_,Tryd.func87,ok87,by kernel_rfl⟩
theorem okp88:OKp (88,c88):=⟨_,_,Tryd.func88,ok88,by kernel_rfl⟩
theorem okp89:OKp (89,c89):=⟨_,_,Tryd.func89,ok89,by kernel_rfl⟩
theorem okp91:OKp (91,c91):=⟨_,_,Tryd.func91,ok91,by kernel_rfl⟩
theorem okp92:OKp (92,c92):=⟨_,_,Tryd.func92,ok92,by kernel_rfl⟩
theorem okp93:OKp (93,c93):=⟨_,_,Tryd.func93,ok93,by kernel_rfl⟩
theorem okp94:OKp (94,c94):=⟨_,_,Tryd.func94,ok94,by kernel_rfl⟩
theorem okp95:OKp (95,c95):=⟨_,_,Tryd.func95,ok95,by kernel_rfl⟩
theorem okp96:OKp (96,c96):=⟨_,_,Tryd.func96,ok96,by kernel_rfl⟩
theorem okp97:OKp (97,c97):=⟨_,_,Tryd.func97,ok97,by kernel_rfl⟩
theorem okp98:OKp (98,c98):=⟨_,_,Tryd.func98,ok98,by kernel_rfl⟩
theorem okp99:OKp (99,c99):=⟨_,_,Tryd.func99,ok99,by kernel_rfl⟩
theorem okp100:OKp (100,c100):=⟨_,_,Tryd.func100,ok100,by kernel_rfl⟩
theorem okp103:OKp (103,c103):=⟨_,_,Tryd.func103,ok103,by kernel_rfl⟩
theorem okp105:OKp (105,c105):=⟨_,_,Tryd.func105,ok105,by kernel_rfl⟩
theorem okp106:OKp (106,c106):=⟨_,_,Tryd.func106,ok106,by kernel_rfl⟩
theorem okp107:OKp (107,c107):=⟨_,_,Tryd.func107,ok107,by kernel_rfl⟩
theorem okp123:OKp (123,c123):=⟨_,_,Tryd.func123,ok123,by kernel_rfl⟩
theorem okAll:∀p∈tabF,OKp p:=by
 unfold tabF
 exact List.forall_mem_cons.2 ⟨okp15,List.forall_mem_cons.2 ⟨okp16,List.forall_mem_cons.2 ⟨okp17,List.forall_mem_cons.2 ⟨okp18,List.forall_mem_cons.2 ⟨okp19,List.forall_mem_cons.2 ⟨okp22,List.forall_mem_cons.2 ⟨okp23,List.forall_mem_cons.2 ⟨okp27,List.forall_mem_cons.2 ⟨okp28,List.forall_mem_cons.2 ⟨okp31,List.forall_mem_cons.2 ⟨okp32,List.forall_mem_cons.2 ⟨okp34,List.forall_mem_cons.2 ⟨okp35,List.forall_mem_cons.2 ⟨okp40,List.forall_mem_cons.2 ⟨okp41,List.forall_mem_cons.2 ⟨okp43,List.forall_mem_cons.2 ⟨okp50,List.forall_mem_cons.2 ⟨okp54,List.forall_mem_cons.2 ⟨okp55,List.forall_mem_cons.2 ⟨okp56,List.forall_mem_cons.2 ⟨okp59,List.forall_mem_cons.2 ⟨okp60,List.forall_mem_cons.2 ⟨okp61,List.forall_mem_cons.2 ⟨okp62,List.forall_mem_cons.2 ⟨okp63,List.forall_mem_cons.2 ⟨okp64,List.forall_mem_cons.2 ⟨okp65,List.forall_mem_cons.2 ⟨okp66,List.forall_mem_cons.2 ⟨okp67,List.forall_mem_cons.2 ⟨okp68,List.forall_mem_cons.2 ⟨okp69,List.forall_mem_cons.2 ⟨okp70,List.forall_mem_cons.2 ⟨okp71,List.forall_mem_cons.2 ⟨okp72,List.forall_mem_cons.2 ⟨okp73,List.forall_mem_cons.2 ⟨okp75,List.forall_mem_cons.2 ⟨okp78,List.forall_mem_cons.2 ⟨okp79,List.forall_mem_cons.2 ⟨okp83,List.forall_mem_cons.2 ⟨okp86,List.forall_mem_cons.2 ⟨okp87,List.forall_mem_cons.2 ⟨okp88,List.forall_mem_cons.2 ⟨okp89,List.forall_mem_cons.2 ⟨okp91,List.forall_mem_cons.2 ⟨okp92,List.forall_mem_cons.2 ⟨okp93,List.forall_mem_cons.2 ⟨okp94,List.forall_mem_cons.2 ⟨okp95,List.forall_mem_cons.2 ⟨okp96,List.forall_mem_cons.2 ⟨okp97,List.forall_mem_cons.2 ⟨okp98,List.forall_mem_cons.2 ⟨okp99,List.forall_mem_cons.2 ⟨okp100,List.forall_mem_cons.2 ⟨okp103,List.forall_mem_cons.2 ⟨okp105,List.forall_mem_cons.2 ⟨okp106,List.forall_mem_cons.2 ⟨okp107,List.forall_mem_cons.2 ⟨okp123,(fun _ h=>nomatch h)⟩⟩⟩⟩⟩⟩⟩⟩⟩⟩⟩⟩⟩⟩⟩⟩⟩⟩⟩⟩⟩⟩⟩⟩⟩⟩⟩⟩⟩⟩⟩⟩⟩⟩⟩⟩⟩⟩⟩⟩⟩⟩⟩⟩⟩⟩⟩⟩⟩⟩⟩⟩⟩⟩⟩⟩⟩⟩
end Go.Abs
set_option linter.unusedSimpArgs false
namespace Go.Abs
open Go.Proofs Go.RowKit
theorem lookup_mem{α:Type}{n:Nat}{c:α}:∀{l:List (Nat×α)},l.lookup n=some c->(n,c)∈l
 |[],h=>by simp at h
 |
  (m,d)::l,h=>by
  rw[List.lookup_cons]at h
  split at h
  ·rename_i e
   injection h with h
   subst h
   rw[beq_iff_eq]at e
   subst e
   exact List.mem_cons_self
  ·exact List.mem_cons_of_mem _ (lookup_mem h)
theorem fnOK_F:FnOK Tryd.prog [0] F:=fun f fn h=>okAll (f,fn) (lookup_mem h)
theorem fnOK_more{i:Nat}{c:IFn}(h:OKp (i,c)):FnOK Tryd.prog [0] (more F i c):=by
 intro f fn e
 unfold more at e
 by_cases e2:f=i
 ·rw[if_pos e2]at e
  have e3:=Option.some.inj e
  rw[<-e3,e2]
  exact h
 ·rw[if_neg e2]at e
  exact fnOK_F f fn e
theorem calls_below{G:Nat->Option IFn}(hG:FnOK Tryd.prog [0] G){f:Nat}{vs:List AV}{rows:List Row}(h:Ret G f vs rows=some (.bool true,rows,none)){θ:Th}{w:World}{args:Array Value}(hr:HRel (KP Tryd.prog [0]) θ rows w)(hg:GRel θ [0])(hv:VL θ vs args.toList):
  Calls Tryd.prog f args w fun e w'=>e = .returned (.bool true)/\Below w.heap.size w w':=by
 obtain⟨n,hn⟩:=Ret_iff.1 h
 refine(call_sound hG (n:=n) hn hr hg hv).mono ?_
 rintro e w' ⟨θ',v',rfl,hV,fr⟩
 cases hV
 refine⟨rfl,fr.os,fr.tape,fr.output,fr.size,fun b hb=>?_⟩
 refine fr.keepB b hb fun id r L hr _ hle _=>?_
 have:=rows_lt hr
 simp only[lowO]at hle
 omega
end Go.Abs
set_option maxRecDepth 10000
namespace Go.Abs
open Go.Proofs Go.RowKit Go.ChangeShapes Go.WideShapes Go.ChangeAt Go.WideElems
open Go.Proofs.YtichbmhjgbjiiaaDoor (Rows.laid_tosher_slope_none)
def laidL : List (String × DataW Unit) := [("tosher/slope.none", Rows.laid_tosher_slope_none)]
def gRows:List Row:=[.ro (nums .i64 [0,1])]
theorem g0 : Tryd.prog.globalNamed "tosher/slope.none" = some 0 := by kernel_rfl
theorem ty0:(Tryd.prog.globals[0]?).map (·.type)=some 86:=by kernel_rfl
theorem frac_cells{P:Program}{W:World}{H:Type}{enc:TypeId×Value->H}{base:Nat}{spare held:_}{fuel t:Nat}{fs:Array Field}{a b:Field}{cs:List Value}{x y:Int}{q:_}(ht:P.underlying t=some (.struct fs))(hf0:fs[0]?=some a)(hf1:fs[1]?=some b)(ha:P.underlying a.type=some (.int .i64))(hb:P.underlying b.type=some (.int .i64))(hca:P.cellsOf a.type=1)(hcb:P.cellsOf b.type=1)(hoa:a.offset=0)(hob:b.offset=1)
  (h:DataW.trod enc P W base spare held fuel t cs=some (.agg [.lit (.int .i64 x),.lit (.int .i64 y)],q)):cs[0]?=some (.int .i64 x)/\cs[1]?=some (.int .i64 y):=by
 obtain⟨xs,m,rfl,hx1,hlen,hn,hel⟩:=DataW.trod_struct ht h
 have h0:=hel 0 a hf0
 have h1:=hel 1 b hf1
 rw[hca,hoa]at h0
 rw[hcb,hob]at h1
 simp only[Prod.mk.injEq,DataW.agg.injEq]at hx1
 have e:xs.map (·.1)=[.lit (.int .i64 x),.lit (.int .i64 y)]:=hx1.1.symm
 have e0:(xs.map (·.1))[0]?=some (.lit (.int .i64 x)):=by rw[e];rfl
 have e1:(xs.map (·.1))[1]?=some (.lit (.int .i64 y)):=by rw[e];rfl
 rw[List.getElem?_map]at e0 e1
 obtain⟨u,hu,hu2⟩:=Option.map_eq_some_iff.1 e0
 obtain⟨v,hv,hv2⟩:=Option.map_eq_some_iff.1 e1
 rw[hu]at h0
 rw[hv]at h1
 obtain⟨k0,c0,d0,_⟩:=DataW.trod_int ha h0
 obtain⟨k1,c1,d1,_⟩:=DataW.trod_int hb h1
 rw[d0]at hu2
 rw[d1]at hv2
 simp only[DataW.lit.injEq,Lit.int.injEq,true_and]at hu2 hv2
 subst hu2 hv2
 cases cs with
 |nil=>simp at c0
 |
  cons z cs=>
  cases cs with
  |nil=>simp at c1
  |
   cons w cs=>
   simp at c0 c1
   subst c0 c1
   exact⟨rfl,rfl⟩
theorem of_laid{W:World}(h:laidMetH Tryd.prog laidL W):W.cell? ⟨0,0,none⟩=some (.int .i64 0)/\W.cell? ⟨0,1,none⟩=some (.int .i64 1)/\0<W.heap.size:=by
 rw[MakeChecks.laidMetH_plain _ _ _ (by kernel_rfl)]at h
 obtain⟨ps,⟨b0,u0,cs0,f0,p0,q0,hg0,ht0,hv0,hd0,_,_⟩,_,_⟩:=h
 obtain rfl:=Option.some.inj (g0.symm.trans hg0)
 obtain rfl:=Option.some.inj (ty0.symm.trans ht0)
 obtain⟨k0,k1⟩:=frac_cells Tryd.underlying86 rfl rfl Tryd.underlying2 Tryd.underlying2 (by kernel_rfl) (by kernel_rfl) rfl rfl hd0
 have h0:W.cell? ⟨0,0,none⟩=some (.int .i64 0):=by
  rw[World.var?_cell hg0 hv0 0]
  simpa using k0
 refine⟨h0,?_,?_⟩
 ·rw[World.var?_cell hg0 hv0 1]
  simpa using k1
 ·unfold World.cell? at h0
  by_cases h:0<W.heap.size
  ·exact h
  ·rw[show W.heap[0]?=none from Array.getElem?_eq_none (by omega)]at h0
   simp at h0
def gTh:Th:=fun id=>if id=0 then some ⟨0,0,0⟩else none
theorem gHRel{κ:KRel}{W:World}(h:laidMetH Tryd.prog laidL W):HRel κ gTh gRows W:=by
 obtain⟨h0,h1,hs⟩:=of_laid h
 refine⟨?_,?_,?_,?_⟩
 ·intro id L e
  unfold gTh at e
  simp only[gRows,List.length_cons,List.length_nil]
  split at e
  ·omega
  ·simp at e
 ·intro id L e
  unfold gTh at e
  split at e
  ·injection e with e;subst e;exact hs
  ·simp at e
 ·intro id r e
  match id,e with
  |
   0,e=>
   injection e with e;subst e
   refine⟨⟨0,0,0⟩,rfl,fun j x hx=>?_⟩
   match j,hx with
   |0,hx=>injection hx with hx;subst hx;exact⟨_,h0,.int _ _,rfl⟩
   |1,hx=>injection hx with hx;subst hx;exact⟨_,h1,.int _ _,rfl⟩
   |j+2,hx=>simp[nums]at hx
  |n+1,e=>simp[gRows]at e
 ·intro i j r s L L' hij hr ho
  match i,hr with
  |0,hr=>injection hr with hr;subst hr;simp[Row.owned]at ho
  |n+1,hr=>simp[gRows]at hr
theorem door_met(os:Os)(args:Array Value):laidMetH Tryd.prog laidL ((World.doorLaid Tryd.prog 400 os).forCall (fun _ _=>0) ⟨#[],args,[]⟩).memory:=
 laidMetH_of_parts3 (fuel:=8) (laidMet_of_run' 8 (by kernel_rfl) (by kernel_rfl)) (by kernel_rfl) (by kernel_rfl)
end Go.Abs
namespace Go.Abs
section
variable {β:Type}
def frcC(c:Cap)(k:Cap->β):β:=match c with
 |.at_ n=>forceN n fun n=>k (.at_ n)
 |.op n=>forceN n fun n=>k (.op n)
def frcV(v:AV)(k:AV->β):β:=match v with
 |.bool b=>forceB b fun b=>k (.bool b)
 |.int kd n=>forceI n fun n=>k (.int kd n)
 |.ptr i o=>forceN i fun i=>forceN o fun o=>k (.ptr i o)
 |.slice i o l c=>forceN i fun i=>forceN o fun o=>forceN l fun l=>frcC c fun c=>k (.slice i o l c)
 |.map i=>forceN i fun i=>k (.map i)
 |.yield i=>forceN i fun i=>k (.yield i)
 |v=>k v
def frcL(l:List AV)(k:List AV->β):β:=match l with
 |[]=>k []
 |v::l=>frcV v fun v=>frcL l fun l=>k (v::l)
def frcW(v:AV)(k:AV->β):β:=match v with
 |.agg l=>frcL l fun l=>k (.agg l)
 |.tup l=>frcL l fun l=>k (.tup l)
 |.func f l=>frcL l fun l=>k (.func f l)
 |
  .iface t v=>frcV v fun v=>match v with
  |.agg l=>frcL l fun l=>k (.iface t (.agg l))
  |v=>k (.iface t v)
 |v=>frcV v k
def frcWs(l:List AV)(k:List AV->β):β:=match l with
 |[]=>k []
 |v::l=>frcW v fun v=>frcWs l fun l=>k (v::l)
def frcE(l:List (AV×AV))(k:List (AV×AV)->β):β:=match l with
 |[]=>k []
 |
  p::l=>match p with
  |(a,b)=>frcV a fun a=>frcW b fun b=>frcE l fun l=>k ((a,b)::l)
def frcR(r:Row)(k:Row->β):β:=match r with
 |.cells vs=>frcL vs fun vs=>k (.cells vs)
 |.mp es=>frcE es fun es=>k (.mp es)
 |.loop st pd sl ps a b=>frcWs sl fun sl=>k (.loop st pd sl ps a b)
 |r=>k r
theorem frcC_eq(c:Cap)(k:Cap->β):frcC c k=k c:=by cases c<;>simp[frcC,forceN_eq]
theorem frcV_eq(v:AV)(k:AV->β):frcV v k=k v:=by cases v<;>simp[frcV,forceN_eq,forceI_eq,forceB_eq,frcC_eq]
theorem frcL_eq:∀(l:List AV) (k:List AV->β),frcL l k=k l
 |[],k=>rfl
 |v::l,k=>by simp[frcL,frcV_eq,frcL_eq l]
theorem frcW_eq(v:AV)(k:AV->β):frcW v k=k v:=by
 cases v<;>simp[frcW,frcL_eq,frcV_eq]
 rename_i t v
 cases v<;>simp[frcL_eq]
theorem frcWs_eq:∀(l:List AV) (k:List AV->β),frcWs l k=k l
 |[],k=>rfl
 |v::l,k=>by simp[frcWs,frcW_eq,frcWs_eq l]
theorem frcE_eq:∀(l:List (AV×AV)) (k:List (AV×AV)->β),frcE l k=k l
 |[],k=>rfl
 |(a,b)::l,k=>by simp[frcE,frcV_eq,frcW_eq,frcE_eq l]
theorem frcR_eq(r:Row)(k:Row->β):frcR r k=k r:=by cases r<;>simp[frcR,frcL_eq,frcE_eq,frcWs_eq]
def setK(rows:List Row)(i:Nat)(r:Row)(k:List Row->β):β:=match rows with
 |[]=>k []
 |
  x::xs=>match i with
  |0=>k (r::xs)
  |i+1=>setK xs i r fun ys=>k (x::ys)
def pushK(rows:List Row)(r:Row)(k:List Row->β):β:=match rows with
 |[]=>k [r]
 |x::xs=>pushK xs r fun ys=>k (x::ys)
def spK(rows:List Row)(k:List Row->β):β:=match rows with
 |[]=>k []
 |x::xs=>spK xs fun ys=>k (x::ys)
theorem setK_eq:∀(rows:List Row) (i:Nat) (r:Row) (k:List Row->β),setK rows i r k=k (rows.set i r)
 |[],_,_,_=>by simp[setK]
 |x::xs,0,r,k=>by simp[setK]
 |x::xs,i+1,r,k=>by simp[setK,setK_eq xs i r]
theorem pushK_eq:∀(rows:List Row) (r:Row) (k:List Row->β),pushK rows r k=k (rows++[r])
 |[],_,_=>by simp[pushK]
 |x::xs,r,k=>by simp[pushK,pushK_eq xs r]
theorem spK_eq:∀(rows:List Row) (k:List Row->β),spK rows k=k rows
 |[],_=>by simp[spK]
 |x::xs,k=>by simp[spK,spK_eq xs]
end
inductive Dl where
 |keep
 |set (id:Nat) (r:Row)
 |push (r:Row)
 |kp (id:Nat) (r:Row)
def Dl.app(rows:List Row):Dl->List Row
 |.keep=>rows
 |.set id r=>rows.set id r
 |.push r=>rows++[r]
 |.kp id r=>rows.set id .dead++[r]
def Dl.run{β:Type}(rows:List Row)(d:Dl)(k:List Row->β):β:=match d with
 |.keep=>k rows
 |.set id r=>forceN id fun id=>frcR r fun r=>setK rows id r k
 |.push r=>frcR r fun r=>pushK rows r k
 |.kp id r=>forceN id fun id=>frcR r fun r=>setK rows id .dead fun rows=>pushK rows r k
theorem Dl.run_eq{β:Type}(rows:List Row)(d:Dl)(k:List Row->β):d.run rows k=k (d.app rows):=by
 cases d<;>simp[Dl.run,Dl.app,forceN_eq,frcR_eq,setK_eq,pushK_eq]
def evalD(g:Opd->AV)(rows:List Row)(low:Nat):IOp->Option (AV×Dl×Nat)
 |.box x=>if(g x).cells.all AV.one then some (.ptr rows.length 0,.push (.cells (g x).cells),low)else none
 |
  .store1 a x=>match g a with
  |
   .ptr id off=>match rows[id]? with
   |some (.cells vs)=>if off<vs.length/\(g x).one then some (.tup [],.set id (.cells (vs.set off (g x))),lower low id)else none
   |_=>none
  |_=>none
 |
  .storeN n a x=>match g a,g x with
  |
   .ptr id off,.agg l=>match rows[id]? with
   |some (.cells vs)=>if l.length=n/\off+n<=vs.length/\l.all AV.one then some (.tup [],.set id (.cells (splice vs off l)),lower low id)else none
   |_=>none
  |_,_=>none
 |
  .mkslice len zero ps=>match fillA g ps zero with
  |some cs=>some (.slice rows.length 0 len (.at_ len),.push (.cells cs),low)
  |none=>none
 |
  .make zero _ len cap=>match g len,g cap with
  |.int _ l,.int _ c=>if 0<=l/\l<=c/\c<=lim then
    some (.slice rows.length 0 l.toNat (.at_ c.toNat),.push (.cells ((List.replicate c.toNat zero).flatten)),low)else none
  |_,_=>none
 |
  .appz zero s x=>match g s,g x with
  |.nilslice,.int _ n=>if 0<n/\n<=lim then some (.slice rows.length 0 n.toNat (.op 1),.push (.cells ((List.replicate n.toNat zero).flatten)),low)else none
  |_,_=>none
 |.mkmap=>some (.map rows.length,.push (.mp []),low)
 |
  .mset m k v=>match g m with
  |
   .map id=>match rows[id]? with
   |
    some (.mp es)=>match findK (g k) es 0 with
    |some (some (i,_))=>some (.tup [],.set id (.mp (es.set i (g k,g v))),lower low id)
    |some none=>if(keyEq (g k) (g k)).isSome then some (.tup [],.set id (.mp (es++[(g k,g v)])),lower low id)else none
    |none=>none
   |_=>none
  |_=>none
 |
  .app sz _ s x=>match elems rows sz (g x)with
  |none=>none
  |
   some (ys,m)=>
   if m=0 then(match g s with
    |.nilslice=>some (.nilslice,.keep,low)
    |.slice id off n c=>some (.slice id off n c,.keep,low)
    |_=>none)
   else if lim<m then none
   else match g s with
    |.nilslice=>some (.slice rows.length 0 m (.op sz),.push (.cells ys),low)
    |
     .slice id off n (.at_ c)=>
     if lim<n+m then none
     else if n+m<=c then match rows[id]? with
      |some (.cells vs)=>if off+n*sz+ys.length<=vs.length then some (.slice id off (n+m) (.at_ c),.set id (.cells (splice vs (off+n*sz) ys)),lower low id)else none
      |_=>none
     else match row? rows id with
      |
       some vs=>match seg vs off (n*sz)with
       |some xs=>some (.slice rows.length 0 (n+m) (.op sz),.push (.cells (xs++ys)),low)
       |none=>none
      |none=>none
    |
     .slice id off n (.op sz')=>
     if lim<n+m\/sz'≠sz then none
     else match rows[id]? with
      |
       some (.cells vs)=>match seg vs off (n*sz)with
       |some xs=>some (.slice rows.length 0 (n+m) (.op sz),.kp id (.cells (xs++ys)),lower low id)
       |none=>none
      |_=>none
    |_=>none
 |o=>(evalP rows g o).map fun v=>(v,.keep,low)
theorem evalD_ok(g:Opd->AV)(rows:List Row)(low:Nat)(o:IOp){v:AV}{d:Dl}{lw:Nat}(h:evalD g rows low o=some (v,d,lw)):evalE g rows low o=some (v,d.app rows,lw):=by
 cases o<;>simp only[evalD,evalE]at h ⊢
 case app=>
  split at h
  ·simp at h
  ·rename_i e
   rw[e]
   simp only
   split at h
   ·rename_i hm
    rw[if_pos hm]
    split at h<;>first|(simp at h;done)|(injection h with h;simp only[Prod.mk.injEq]at h;obtain⟨rfl,rfl,rfl⟩:=h;simp_all[Dl.app])
   ·rename_i hm
    rw[if_neg hm]
    split at h
    ·simp at h
    ·rename_i hl
     rw[if_neg hl]
     split at h
     ·rename_i e2
      injection h with h;simp only[Prod.mk.injEq]at h;obtain⟨rfl,rfl,rfl⟩:=h;simp[e2,Dl.app]
     ·rename_i e2
      rw[e2]
      simp only
      split at h
      ·simp at h
      rename_i h1
      rw[if_neg h1]
      split at h
      ·rename_i h2
       rw[if_pos h2]
       split at h<;>try (simp at h;done)
       rename_i e3
       split at h
       ·rename_i h3
        injection h with h;simp only[Prod.mk.injEq]at h;obtain⟨rfl,rfl,rfl⟩:=h;simp only[e3,if_pos h3,Dl.app]
       ·simp at h
      ·rename_i h2
       rw[if_neg h2]
       split at h<;>try (simp at h;done)
       rename_i e3
       rw[e3]
       simp only
       split at h<;>try (simp at h;done)
       rename_i e4
       rw[e4]
       injection h with h;simp only[Prod.mk.injEq]at h;obtain⟨rfl,rfl,rfl⟩:=h;rfl
     ·rename_i e2
      rw[e2]
      simp only
      split at h
      ·simp at h
      rename_i h1
      rw[if_neg h1]
      split at h<;>try (simp at h;done)
      rename_i e3
      rw[e3]
      simp only
      split at h<;>try (simp at h;done)
      rename_i e4
      rw[e4]
      injection h with h;simp only[Prod.mk.injEq]at h;obtain⟨rfl,rfl,rfl⟩:=h;rfl
     ·simp at h
 all_goals first
  |(
    repeat' split at h
    all_goals first
     |(simp at h;done)
     |(injection h with h;simp only[Prod.mk.injEq]at h;obtain⟨rfl,rfl,rfl⟩:=h;simp_all[Dl.app];done))
  |(injection h with h;simp only[Prod.mk.injEq]at h;obtain⟨rfl,rfl,rfl⟩:=h;simp_all[Dl.app];done)
  |(
    simp only[Option.map_eq_some_iff,Prod.mk.injEq]at h ⊢
    obtain⟨v0,e,rfl,rfl,rfl⟩:=h
    exact⟨_,e,rfl,rfl,rfl⟩)
def wantG(g:Opd->AV):Option (Nat×Bool)->Option Bool
 |none=>some true
 |
  some (t,b)=>match g (.t t)with
  |.bool c=>some (c==b)
  |.tup []=>some false
  |_=>none
theorem wantG_ok(sl:List AV)(gd:Option (Nat×Bool)):want sl gd=wantG (getO sl) gd:=by
 cases gd<;>rfl
def opD(call:CallF)(g:Opd->AV)(rows:List Row)(low:Nat)(o:IOpx):Option (AV×List Row×Nat):=
 match wantG g o.g with
 |none=>none
 |some false=>some (.tup [],rows,low)
 |
  some true=>
  match o.op with
  |
   .call tab f args=>match targetC tab (g f) (args.map g)with
   |
    some (fid,vs)=>match frcWs vs fun vs=>call fid vs rows with
    |some (v,rows',d)=>some (v,rows',lowO low d)
    |none=>none
   |none=>none
  |
   op=>match evalD g rows low op with
   |some (v,d,lw)=>d.run rows fun rows=>some (v,rows,lw)
   |none=>none
theorem opD_ok{call call':CallF}(hc:LeC call call'){sl:List AV}{rows:List Row}{low:Nat}{o:IOpx}{q:AV×List Row×Nat}(h:opD call (getO sl) rows low o=some q):opR call' sl rows low o=some q:=by
 unfold opD at h
 unfold opR
 rw[wantG_ok]
 split at h
 ·simp at h
 ·rename_i hw;rw[hw];exact h
 ·rename_i hw
  rw[hw]
  simp only
  split at h
  ·rename_i tab f args e
   rw[e]
   simp only
   split at h
   ·rename_i fid vs ht
    rw[ht]
    simp only
    split at h
    ·rename_i v rows' d hcall
     rw[frcWs_eq]at hcall
     rw[hc _ _ _ _ hcall]
     exact h
    ·simp at h
   ·simp at h
  ·rename_i op hne
   split at h
   ·rename_i v d lw he
    rw[Dl.run_eq]at h
    injection h with h
    subst h
    have:=evalD_ok _ _ _ _ he
    split
    ·rename_i e;exact absurd e (hne _ _ _)
    ·exact this
   ·simp at h
def frcX{β:Type}(l:List (Nat×Row))(k:List (Nat×Row)->β):β:=match l with
 |[]=>k []
 |
  p::l=>match p with
  |(a,b)=>forceN a fun a=>frcR b fun b=>frcX l fun l=>k ((a,b)::l)
theorem frcX_eq{β:Type}:∀(l:List (Nat×Row)) (k:List (Nat×Row)->β),frcX l k=k l
 |[],k=>rfl
 |(a,b)::l,k=>by simp[frcX,forceN_eq,frcR_eq,frcX_eq l]
def baseX(rows:List Row)(b:Nat)(ext:List (Nat×Row)):List Row:=match ext with
 |[]=>rows
 |_=>rows++maskE b ext
theorem baseX_eq(rows:List Row)(b:Nat)(ext:List (Nat×Row)):baseX rows b ext=rows++maskE b ext:=by
 cases ext with
 |nil=>simp[baseX,maskE]
 |cons=>rfl
def iniK{β:Type}(vs:List AV)(i:Nat)(k:List (Nat×AV)->β):β:=match vs with
 |[]=>k []
 |v::vs=>forceN i fun i=>iniK vs (i+1) fun l=>k ((i,v)::l)
def ini:Nat->List AV->List (Nat×AV)
 |_,[]=>[]
 |i,v::vs=>(i,v)::ini (i+1) vs
theorem iniK_eq{β:Type}:∀(vs:List AV) (i:Nat) (k:List (Nat×AV)->β),iniK vs i k=k (ini i vs)
 |[],i,k=>rfl
 |v::vs,i,k=>by simp[iniK,forceN_eq,iniK_eq vs,ini]
theorem lk_ini:∀(vs:List AV) (i j:Nat),lk (ini i vs) j=if i<=j then(vs[j-i]?).getD .any else .any
 |[],i,j=>by simp[ini]
 |
  v::vs,i,j=>by
  rw[ini,lk_cons,lk_ini vs]
  rcases Nat.lt_trichotomy i j with h|h|h
  ·rw[if_neg (by omega),if_pos (by omega),if_pos (by omega),show j-i=(j-(i+1))+1 from by omega]
   rfl
  ·subst h;simp
  ·rw[if_neg (by omega),if_neg (by omega),if_neg (by omega)]
theorem mk_ini{n:Nat}{vs:List AV}(h:vs.length<=n):mk n (ini 0 vs)=vs++List.replicate (n-vs.length) .any:=by
 apply List.ext_getElem?
 intro j
 rw[mk_get,lk_ini,if_pos (Nat.zero_le _),Nat.sub_zero]
 by_cases hj:j<vs.length
 ·rw[List.getElem?_append_left hj,if_pos (by omega),List.getElem?_eq_getElem hj];rfl
 ·rw[List.getElem?_append_right (by omega),List.getElem?_eq_none (l:=vs) (by omega),List.getElem?_replicate]
  by_cases hn:j<n
  ·rw[if_pos hn,if_pos (by omega)];rfl
  ·rw[if_neg hn,if_neg (by omega)]
def AV.isAny:AV->Bool
 |.any=>true
 |_=>false
def ofL:Nat->List AV->List (Nat×AV)
 |_,[]=>[]
 |i,v::vs=>if v.isAny then ofL (i+1) vs else(i,v)::ofL (i+1) vs
def ofK{β:Type}(vs:List AV)(i:Nat)(k:List (Nat×AV)->β):β:=match vs with
 |[]=>k []
 |
  v::vs=>forceN i fun i=>match v.isAny with
  |true=>ofK vs (i+1) k
  |false=>ofK vs (i+1) fun l=>k ((i,v)::l)
theorem ofK_eq{β:Type}:∀(vs:List AV) (i:Nat) (k:List (Nat×AV)->β),ofK vs i k=k (ofL i vs)
 |[],i,k=>rfl
 |
  v::vs,i,k=>by
  rw[ofK,forceN_eq,ofL]
  cases v.isAny<;>simp[ofK_eq vs]
theorem lk_ofL:∀(vs:List AV) (i j:Nat),lk (ofL i vs) j=if i<=j then(vs[j-i]?).getD .any else .any
 |[],i,j=>by simp[ofL]
 |
  v::vs,i,j=>by
  rw[ofL]
  have step:(if i<=j then((v::vs)[j-i]?).getD AV.any else .any)=if i=j then v else if i+1<=j then(vs[j-(i+1)]?).getD .any else .any:=by
   rcases Nat.lt_trichotomy i j with h|h|h
   ·rw[if_pos (by omega),if_neg (by omega),if_pos (by omega),show j-i=(j-(i+1))+1 from by omega]
    rfl
   ·subst h;simp
   ·rw[if_neg (by omega),if_neg (by omega),if_neg (by omega)]
  rw[step]
  split
  ·rename_i ha
   have hv:v = .any:=by cases v<;>first|rfl|simp[AV.isAny]at ha
   rw[lk_ofL vs,hv]
   by_cases e:i=j
   ·rw[if_pos e,if_neg (by omega)]
   ·rw[if_neg e]
  ·rw[lk_cons,lk_ofL vs]
theorem mk_ofL(vs:List AV):mk vs.length (ofL 0 vs)=vs:=by
 apply List.ext_getElem?
 intro j
 rw[mk_get,lk_ofL,if_pos (Nat.zero_le _),Nat.sub_zero]
 by_cases hj:j<vs.length
 ·rw[if_pos hj,List.getElem?_eq_getElem hj];rfl
 ·rw[if_neg hj,List.getElem?_eq_none (by omega)]
def resVG(rows:List Row)(g:Opd->AV):RV->Option AV
 |.t n=>some (g (.t n))
 |.cell1 n=>evalP rows g (.load1 (.t n))
 |.cellN n sz=>evalP rows g (.loadN sz (.t n))
def resVsG(rows:List Row)(g:Opd->AV):List RV->Option (List AV)
 |[]=>some []
 |
  r::rs=>match resVG rows g r,resVsG rows g rs with
  |some v,some vs=>some (v::vs)
  |_,_=>none
def resultsG(rows:List Row)(g:Opd->AV)(res:List RV):Option AV:=
 match resVsG rows g res with
 |some [v]=>some v
 |some vs=>some (.tup vs)
 |none=>none
theorem resVsG_ok(rows:List Row)(sl:List AV):∀res:List RV,resVs rows sl res=resVsG rows (getO sl) res
 |[]=>rfl
 |
  r::rs=>by
  have:resV rows sl r=resVG rows (getO sl) r:=by cases r<;>rfl
  rw[resVs,resVsG,this,resVsG_ok rows sl rs]
  rfl
theorem resultsG_ok(rows:List Row)(sl:List AV)(res:List RV):results rows sl res=resultsG rows (getO sl) res:=by
 unfold results resultsG
 rw[resVsG_ok]
 rfl
def leaveD(ns:Nat)(cx:Ctx)(j:Option Jump)(l:List (Nat×AV))(rows:List Row)(low:Nat):Option (AV×List Row×Nat):=
 match cx with
 |
  .fn res=>match j with
  |some (.exit _)=>none
  |_=>(resultsG rows (gO ns l) res).map fun v=>(v,rows,low)
 |
  .round id=>match rows[id]? with
  |some (.loop .busy _ sl ps asg body)=>some (.bool j.isNone,rows.set id (.loop (if j.isNone then .ready else .done) j sl ps asg body),lower low id)
  |_=>none
theorem leaveD_ok(ns:Nat)(cx:Ctx)(j:Option Jump)(l:List (Nat×AV))(rows:List Row)(low:Nat):leaveV cx j ⟨mk ns l,rows,low⟩=leaveD ns cx j l rows low:=by
 unfold leaveV leaveD
 cases cx<;>simp only[resultsG_ok,gO_ok]<;>rfl
def callD2(rows:List Row):Option (AV×List Row×Nat)->Option (AV×List Row×Option Nat)
 |
  some (v,rows',low')=>match fin rows v rows' low' with
  |(v,rows2,d)=>frcW v fun v=>spK rows2 fun rows2=>some (v,rows2,d)
 |none=>none
theorem callD2_ok(rows:List Row)(o:Option (AV×List Row×Nat)):callD2 rows o=callR rows o:=by
 cases o with
 |none=>rfl
 |
  some q=>
  obtain⟨v,rows',low'⟩:=q
  simp only[callD2,callR,frcW_eq,spK_eq]
noncomputable def bq{β:Type}(b:Bool)(x y:β):β:=Bool.rec (motive:=fun _=>β) y x b
@[simp] theorem bq_true{β:Type}(x y:β):bq true x y=x:=rfl
@[simp] theorem bq_false{β:Type}(x y:β):bq false x y=y:=rfl
section
variable {β:Type}
noncomputable def qN(n:Nat)(k:Nat->β):β:=Nat.rec (motive:=fun _=>β) (k Nat.zero) (fun m _=>k (Nat.succ m)) n
theorem qN_eq(n:Nat)(k:Nat->β):qN n k=k n:=by cases n<;>rfl
noncomputable def qI(n:Int)(k:Int->β):β:=Int.rec (motive:=fun _=>β) (fun m=>qN m fun m=>k (.ofNat m)) (fun m=>qN m fun m=>k (.negSucc m)) n
theorem qI_eq(n:Int)(k:Int->β):qI n k=k n:=by cases n<;>simp[qI,qN_eq]
noncomputable def qB(b:Bool)(k:Bool->β):β:=Bool.rec (motive:=fun _=>β) (k false) (k true) b
theorem qB_eq(b:Bool)(k:Bool->β):qB b k=k b:=by cases b<;>rfl
noncomputable def lkK(l:List (Nat×AV))(j:Nat)(k:AV->β):β:=List.rec (motive:=fun _=>β) (k .any) (fun p _ ih=>Bool.rec (motive:=fun _=>β) ih (k p.2) (Nat.beq p.1 j)) l
theorem lkK_eq:∀(l:List (Nat×AV)) (j:Nat) (k:AV->β),lkK l j k=k (lk l j)
 |[],j,k=>rfl
 |
  (i,v)::l,j,k=>by
  show Bool.rec (motive:=fun _=>β) (lkK l j k) (k v) (Nat.beq i j)=k (lk ((i,v)::l) j)
  rw[lkK_eq l,lk]
  cases Nat.beq i j<;>rfl
noncomputable def gK(ns:Nat)(l:List (Nat×AV))(x:Opd)(k:AV->β):β:=Opd.rec (motive:=fun _=>β) (fun i=>Bool.rec (motive:=fun _=>β) (k .any) (lkK l i k) (Nat.ble (Nat.succ i) ns)) (fun v=>k v) x
theorem gK_eq(ns:Nat)(l:List (Nat×AV))(x:Opd)(k:AV->β):gK ns l x k=k (gO ns l x):=by
 cases x with
 |
  t i=>
  show Bool.rec (motive:=fun _=>β) (k .any) (lkK l i k) (Nat.ble (i+1) ns)=_
  rw[lkK_eq]
  simp only[gO]
  cases Nat.ble (i+1) ns<;>rfl
 |c v=>rfl
noncomputable def gsK(ns:Nat)(l:List (Nat×AV))(xs:List Opd)(k:List AV->β):β:=List.rec (motive:=fun _=>(List AV->β)->β) (fun k=>k []) (fun x _ ih k=>gK ns l x fun v=>ih fun vs=>k (v::vs)) xs k
theorem gsK_eq(ns:Nat)(l:List (Nat×AV)):∀(xs:List Opd) (k:List AV->β),gsK ns l xs k=k (xs.map (gO ns l))
 |[],k=>rfl
 |
  x::xs,k=>by
  show gK ns l x (fun v=>gsK ns l xs fun vs=>k (v::vs))=_
  rw[gK_eq,gsK_eq ns l xs]
  rfl
noncomputable def onlyQ(l:List (Nat×AV))(ks:List Nat)(k:List (Nat×AV)->β):β:=List.rec (motive:=fun _=>(List (Nat×AV)->β)->β) (fun k=>k []) (fun i _ ih k=>lkK l i fun v=>ih fun r=>k ((i,v)::r)) ks k
theorem onlyQ_eq(l:List (Nat×AV)):∀(ks:List Nat) (k:List (Nat×AV)->β),onlyQ l ks k=k (only l ks)
 |[],k=>rfl
 |
  i::is,k=>by
  show lkK l i (fun v=>onlyQ l is fun r=>k ((i,v)::r))=_
  rw[lkK_eq,onlyQ_eq l is]
  rfl
noncomputable def rowK(rows:List Row)(i:Nat)(k:Row->Option β):Option β:=List.rec (motive:=fun _=>Nat->Option β) (fun _=>none) (fun r _ ih i=>Nat.rec (motive:=fun _=>Option β) (k r) (fun m _=>ih m) i) rows i
theorem rowK_eq:∀(rows:List Row) (i:Nat) (k:Row->Option β),rowK rows i k=(rows[i]?).bind k
 |[],i,k=>by simp[rowK]
 |r::rows,0,k=>rfl
 |
  r::rows,i+1,k=>by
  show rowK rows i k=_
  rw[rowK_eq rows i]
  simp
noncomputable def celK(vs:List AV)(i:Nat)(k:AV->Option β):Option β:=List.rec (motive:=fun _=>Nat->Option β) (fun _=>none) (fun v _ ih i=>Nat.rec (motive:=fun _=>Option β) (k v) (fun m _=>ih m) i) vs i
theorem celK_eq:∀(vs:List AV) (i:Nat) (k:AV->Option β),celK vs i k=(vs[i]?).bind k
 |[],i,k=>by simp[celK]
 |r::rows,0,k=>rfl
 |
  r::rows,i+1,k=>by
  show celK rows i k=_
  rw[celK_eq rows i]
  simp
noncomputable def takK(vs:List AV)(n:Nat)(k:List AV->Option β):Option β:=List.rec (motive:=fun _=>Nat->(List AV->Option β)->Option β) (fun n k=>Nat.rec (motive:=fun _=>Option β) (k []) (fun _ _=>none) n) (fun v _ ih n k=>Nat.rec (motive:=fun _=>Option β) (k []) (fun m _=>ih m fun l=>k (v::l)) n) vs n k
theorem takK_eq:∀(vs:List AV) (n:Nat) (k:List AV->Option β),takK vs n k=if n<=vs.length then k (vs.take n)else none
 |[],0,k=>rfl
 |[],n+1,k=>rfl
 |
  v::vs,0,k=>by
  show k []=_
  rw[if_pos (Nat.zero_le _)];rfl
 |
  v::vs,n+1,k=>by
  show takK vs n (fun l=>k (v::l))=_
  rw[takK_eq vs n]
  simp
noncomputable def drpK(vs:List AV)(n:Nat)(k:List AV->Option β):Option β:=List.rec (motive:=fun _=>Nat->Option β) (fun n=>Nat.rec (motive:=fun _=>Option β) (k []) (fun _ _=>none) n) (fun v vs ih n=>Nat.rec (motive:=fun _=>Option β) (k (v::vs)) (fun m _=>ih m) n) vs n
theorem drpK_eq:∀(vs:List AV) (n:Nat) (k:List AV->Option β),drpK vs n k=if n<=vs.length then k (vs.drop n)else none
 |[],0,k=>rfl
 |[],n+1,k=>rfl
 |
  v::vs,0,k=>by
  show k (v::vs)=_
  rw[if_pos (Nat.zero_le _)];rfl
 |
  v::vs,n+1,k=>by
  show drpK vs n k=_
  rw[drpK_eq vs n]
  simp
noncomputable def segK(vs:List AV)(off n:Nat)(k:List AV->Option β):Option β:=drpK vs off fun vs=>takK vs n k
theorem segK_eq(vs:List AV)(off n:Nat)(k:List AV->Option β):segK vs off n k=(seg vs off n).bind k:=by
 unfold segK seg
 rw[drpK_eq]
 split
 ·rw[takK_eq]
  simp only[List.length_drop]
  by_cases h:off+n<=vs.length
  ·rw[if_pos (by omega),if_pos h];rfl
  ·rw[if_neg (by omega),if_neg h];rfl
 ·rw[if_neg (by omega)];rfl
noncomputable def setQ(rows:List Row)(i:Nat)(r:Row)(k:List Row->β):β:=List.rec (motive:=fun _=>Nat->(List Row->β)->β) (fun _ k=>k []) (fun x xs ih i k=>Nat.rec (motive:=fun _=>β) (k (r::xs)) (fun m _=>ih m fun ys=>k (x::ys)) i) rows i k
theorem setQ_eq(r:Row):∀(rows:List Row) (i:Nat) (k:List Row->β),setQ rows i r k=k (rows.set i r)
 |[],i,k=>by simp[setQ]
 |x::xs,0,k=>rfl
 |
  x::xs,i+1,k=>by
  show setQ xs i r (fun ys=>k (x::ys))=_
  rw[setQ_eq r xs]
  simp
noncomputable def setCQ(vs:List AV)(i:Nat)(v:AV)(k:List AV->Option β):Option β:=List.rec (motive:=fun _=>Nat->(List AV->Option β)->Option β) (fun _ _=>none) (fun x xs ih i k=>Nat.rec (motive:=fun _=>Option β) (k (v::xs)) (fun m _=>ih m fun ys=>k (x::ys)) i) vs i k
theorem setCQ_eq(v:AV):∀(vs:List AV) (i:Nat) (k:List AV->Option β),setCQ vs i v k=if i<vs.length then k (vs.set i v)else none
 |[],i,k=>by simp[setCQ]
 |
  x::xs,0,k=>by
  show k (v::xs)=_
  rw[if_pos (by simp)];rfl
 |
  x::xs,i+1,k=>by
  show setCQ xs i v (fun ys=>k (x::ys))=_
  rw[setCQ_eq v xs]
  simp
noncomputable def ovrK(l:List AV)(vs:List AV)(k:List AV->Option β):Option β:=List.rec (motive:=fun _=>List AV->(List AV->Option β)->Option β) (fun vs k=>k vs) (fun y _ ih vs k=>List.rec (motive:=fun _=>Option β) none (fun _ vs _=>ih vs fun r=>k (y::r)) vs) l vs k
theorem ovrK_eq:∀(l vs:List AV) (k:List AV->Option β),ovrK l vs k=if l.length<=vs.length then k (l++vs.drop l.length)else none
 |[],vs,k=>by simp[ovrK]
 |y::l,[],k=>by simp[ovrK]
 |
  y::l,v::vs,k=>by
  show ovrK l vs (fun r=>k (y::r))=_
  rw[ovrK_eq l vs]
  simp
noncomputable def splK(vs:List AV)(off:Nat)(l:List AV)(k:List AV->Option β):Option β:=List.rec (motive:=fun _=>Nat->(List AV->Option β)->Option β) (fun n k=>Nat.rec (motive:=fun _=>Option β) (ovrK l [] k) (fun _ _=>none) n) (fun x xs ih i k=>Nat.rec (motive:=fun _=>Option β) (ovrK l (x::xs) k) (fun m _=>ih m fun ys=>k (x::ys)) i) vs off k
theorem splK_eq(l:List AV):∀(vs:List AV) (off:Nat) (k:List AV->Option β),splK vs off l k=if off+l.length<=vs.length then k (splice vs off l)else none
 |
  [],0,k=>by
  show ovrK l [] k=_
  rw[ovrK_eq];simp[splice]
 |
  [],n+1,k=>by
  show none=_
  rw[if_neg (by simp only[List.length_nil];omega)]
 |
  x::xs,0,k=>by
  show ovrK l (x::xs) k=_
  rw[ovrK_eq];simp[splice]
 |
  x::xs,i+1,k=>by
  show splK xs i l (fun ys=>k (x::ys))=_
  rw[splK_eq l xs]
  have:i+1+l.length=i+l.length+1:=by omega
  by_cases h:i+l.length<=xs.length
  ·rw[if_pos h,if_pos (by simp;omega)]
   simp[splice,this]
  ·rw[if_neg h,if_neg (by simp;omega)]
noncomputable def pushQ(rows:List Row)(r:Row)(k:List Row->β):β:=List.rec (motive:=fun _=>(List Row->β)->β) (fun k=>k [r]) (fun x _ ih k=>ih fun ys=>k (x::ys)) rows k
theorem pushQ_eq(r:Row):∀(rows:List Row) (k:List Row->β),pushQ rows r k=k (rows++[r])
 |[],k=>rfl
 |
  x::xs,k=>by
  show pushQ xs r (fun ys=>k (x::ys))=_
  rw[pushQ_eq r xs];rfl
noncomputable def spQ(rows:List Row)(k:List Row->β):β:=List.rec (motive:=fun _=>(List Row->β)->β) (fun k=>k []) (fun x _ ih k=>ih fun ys=>k (x::ys)) rows k
theorem spQ_eq:∀(rows:List Row) (k:List Row->β),spQ rows k=k rows
 |[],k=>rfl
 |
  x::xs,k=>by
  show spQ xs (fun ys=>k (x::ys))=_
  rw[spQ_eq xs]
noncomputable def pQ(l:List (Nat×AV))(d:Option Nat)(v:AV)(k:List (Nat×AV)->β):β:=Option.rec (motive:=fun _=>β) (k l) (fun d=>k ((d,v)::l)) d
theorem pQ_eq(l:List (Nat×AV))(d:Option Nat)(v:AV)(k:List (Nat×AV)->β):pQ l d v k=k (pO l d v):=by cases d<;>rfl
end
def wrapQ(k:IntKind)(n:Int):Int:=match k,n with
 |.i64,.ofNat m=>cond (Nat.ble m 9223372036854775807) (.ofNat m) (IntKind.wrap .i64 (.ofNat m))
 |.i64,.negSucc m=>cond (Nat.ble m 9223372036854775807) (.negSucc m) (IntKind.wrap .i64 (.negSucc m))
 |.u64,.ofNat m=>cond (Nat.ble m 18446744073709551615) (.ofNat m) (IntKind.wrap .u64 (.ofNat m))
 |k,n=>k.wrap n
theorem cond_ble{m n:Nat}{x y:Int}(h:m<=n->y=x):cond (Nat.ble m n) x y=y:=by
 cases e:Nat.ble m n with
 |false=>rfl
 |true=>rw[cond_true,h (Nat.le_of_ble_eq_true e)]
theorem wrapQ_eq(k:IntKind)(n:Int):wrapQ k n=k.wrap n:=by
 unfold wrapQ
 split
 ·rename_i m
  refine cond_ble fun h=>wrap64 ?_ ?_<;>(show _<=_;simp only[Int.ofNat_eq_natCast];omega)
 ·rename_i m
  refine cond_ble fun h=>wrap64 ?_ ?_<;>(simp only[Int.negSucc_eq];omega)
 ·rename_i m
  refine cond_ble fun h=>wrapU64 ?_ ?_<;>(simp only[Int.ofNat_eq_natCast];omega)
 ·rfl
def binQ(op:BinOp)(x y:AV):Option AV:=match x,y with
 |
  .int k a,.int k' b=>match op with
  |.add=>if k=k' then some (.int k (wrapQ k (a+b)))else none
  |.sub=>if k=k' then some (.int k (wrapQ k (a-b)))else none
  |.mul=>if k=k' then some (.int k (wrapQ k (a*b)))else none
  |.quo=>if k=k' then(if b=0 then none else some (.int k (wrapQ k (a.tdiv b))))else none
  |op=>binA op (.int k a) (.int k' b)
 |x,y=>binA op x y
theorem binQ_eq(op:BinOp)(x y:AV):binQ op x y=binA op x y:=by
 unfold binQ
 split
 ·split<;>simp only[wrapQ_eq]<;>rfl
 ·rfl
section
variable {β:Type}
noncomputable def qV(v:AV)(k:AV->β):β:=match v with
 |.int kd n=>qI n fun n=>k (.int kd n)
 |.bool b=>qB b fun b=>k (.bool b)
 |.ptr i o=>qN i fun i=>qN o fun o=>k (.ptr i o)
 |v=>frcW v k
theorem qV_eq(v:AV)(k:AV->β):qV v k=k v:=by
 unfold qV
 split<;>simp[qI_eq,qB_eq,qN_eq,frcW_eq]
end
section
variable {β:Type}
noncomputable def ldQ(rows:List Row)(a:AV)(k:List AV->Nat->Option β):Option β:=match a with
 |
  .ptr id off=>rowK rows id fun r=>match r with
  |.cells vs=>k vs off
  |.ro vs=>k vs off
  |_=>none
 |_=>none
theorem ldQ_eq(rows:List Row)(a:AV)(k:List AV->Nat->Option β):ldQ rows a k=match a with|.ptr id off=>(row? rows id).bind fun vs=>k vs off|_=>none:=by
 unfold ldQ
 split
 ·rename_i id off
  rw[rowK_eq]
  unfold row?
  cases rows[id]? with
  |none=>rfl
  |some r=>cases r<;>rfl
 ·rfl
noncomputable def someK(o:Option AV)(k:AV->Option β):Option β:=match o with
 |some v=>qV v k
 |none=>none
theorem someK_eq(o:Option AV)(k:AV->Option β):someK o k=o.bind k:=by
 cases o<;>simp[someK,qV_eq]
noncomputable def idxSQ(sz:Nat)(x i:AV)(k:AV->Option β):Option β:=match x with
 |
  .slice id off len _=>match i with
  |
   .int _ n=>match n with
   |.ofNat j=>bq (Nat.ble (Nat.succ j) len) (qN (Nat.add off (Nat.mul j sz)) fun o=>k (.ptr id o)) none
   |.negSucc _=>none
  |_=>none
 |_=>none
noncomputable def idxAQ(len sz:Nat)(x i:AV)(k:AV->Option β):Option β:=match x with
 |
  .ptr id off=>match i with
  |
   .int _ n=>match n with
   |.ofNat j=>bq (Nat.ble (Nat.succ j) len) (qN (Nat.add off (Nat.mul j sz)) fun o=>k (.ptr id o)) none
   |.negSucc _=>none
  |_=>none
 |_=>none
noncomputable def fieldQ(d:Nat)(x:AV)(k:AV->Option β):Option β:=match x with
 |.ptr id off=>qN (Nat.add off d) fun o=>k (.ptr id o)
 |_=>none
noncomputable def lenQ(x:AV)(k:AV->Option β):Option β:=match x with
 |.slice _ _ n _=>k (.int .i64 (.ofNat n))
 |.nilslice=>k (.int .i64 (.ofNat Nat.zero))
 |_=>none
noncomputable def pureQ(ns:Nat)(op:IOp)(l:List (Nat×AV))(rows:List Row)(k:AV->Option β):Option β:=match op with
 |.mv x=>gK ns l x k
 |.load1 a=>gK ns l a fun a=>ldQ rows a fun vs off=>celK vs off k
 |.loadN n a=>gK ns l a fun a=>ldQ rows a fun vs off=>segK vs off n fun m=>k (.agg m)
 |.bin op x y=>gK ns l x fun x=>gK ns l y fun y=>someK (binQ op x y) k
 |.idxS sz x i=>gK ns l x fun x=>gK ns l i fun i=>idxSQ sz x i k
 |.idxA len sz x i=>gK ns l x fun x=>gK ns l i fun i=>idxAQ len sz x i k
 |.fieldA d x=>gK ns l x fun x=>fieldQ d x k
 |.len 0 x=>gK ns l x fun x=>lenQ x k
 |op=>someK (evalP rows (gO ns l) op) k
theorem pureQ_eq(ns:Nat)(op:IOp)(l:List (Nat×AV))(rows:List Row)(k:AV->Option β):pureQ ns op l rows k=(evalP rows (gO ns l) op).bind k:=by
 have hidx:∀(j len:Nat) (K K':Option β),bq (Nat.ble (Nat.succ j) len) K K'=if j<len then K else K':=fun j len K K'=>by
  cases e:Nat.ble (Nat.succ j) len with
  |true=>have:=Nat.le_of_ble_eq_true e;rw[if_pos (by omega)];rfl
  |false=>rw[if_neg (fun h=>by rw[Nat.ble_eq_true_of_le (by omega)]at e;simp at e)];rfl
 unfold pureQ
 split
 ·rw[gK_eq];rfl
 ·rename_i a
  rw[gK_eq,ldQ_eq]
  simp only[evalP]
  cases gO ns l a<;>try rfl
  simp only
  cases row? rows _<;>simp[celK_eq]
 ·rename_i n a
  rw[gK_eq,ldQ_eq]
  simp only[evalP]
  cases gO ns l a<;>try rfl
  simp only
  cases row? rows _ with
  |none=>rfl
  |some vs=>simp only[Option.bind_some,segK_eq];cases seg vs _ _<;>rfl
 ·rw[gK_eq,gK_eq,someK_eq,binQ_eq];rfl
 ·rename_i sz x i
  rw[gK_eq,gK_eq]
  simp only[evalP,idxSQ]
  cases gO ns l x<;>try rfl
  cases gO ns l i<;>try rfl
  rename_i id off len c kd n
  cases n with
  |
   ofNat j=>
   simp only[hidx,qN_eq,idx?]
   by_cases h:j<len
   ·rw[if_pos h,if_pos (by simp only[Int.ofNat_eq_natCast];omega)];rfl
   ·rw[if_neg h,if_neg (by simp only[Int.ofNat_eq_natCast];omega)];rfl
  |negSucc j=>rfl
 ·rename_i len sz x i
  rw[gK_eq,gK_eq]
  simp only[evalP,idxAQ]
  cases gO ns l x<;>try rfl
  cases gO ns l i<;>try rfl
  rename_i id off kd n
  cases n with
  |
   ofNat j=>
   simp only[hidx,qN_eq,idx?]
   by_cases h:j<len
   ·rw[if_pos h,if_pos (by simp only[Int.ofNat_eq_natCast];omega)];rfl
   ·rw[if_neg h,if_neg (by simp only[Int.ofNat_eq_natCast];omega)];rfl
  |negSucc j=>rfl
 ·rename_i d x
  rw[gK_eq]
  simp only[evalP,fieldQ]
  cases gO ns l x<;>try rfl
  simp only[qN_eq];rfl
 ·rename_i x
  rw[gK_eq]
  simp only[evalP,lenQ]
  cases gO ns l x<;>rfl
 ·rw[someK_eq]
end
abbrev RR:=Option (AV×List Row×Nat)
abbrev KK:=List (Nat×AV)->List Row->Nat->RR
abbrev EX:=Nat->Ctx->List Itm->List (Nat×AV)->List Row->Nat->RR
section
variable (F:Nat->Option IFn)(ex:EX)(ns:Nat)
noncomputable def store1Q(d:Option Nat)(a x:AV)(K:KK)(l:List (Nat×AV))(rows:List Row)(low:Nat):RR:=match a with
 |
  .ptr id off=>bq x.one (rowK rows id fun r=>match r with
  |.cells vs=>setCQ vs off x fun vs=>setQ rows id (.cells vs) fun rows=>qN (lower low id) fun low=>pQ l d (.tup []) fun l=>K l rows low
  |_=>none) none
 |_=>none
noncomputable def storeNQ(d:Option Nat)(n:Nat)(a x:AV)(K:KK)(l:List (Nat×AV))(rows:List Row)(low:Nat):RR:=match a with
 |
  .ptr id off=>match x with
  |
   .agg m=>bq (Nat.beq m.length n&&m.all AV.one) (rowK rows id fun r=>match r with
   |.cells vs=>splK vs off m fun vs=>setQ rows id (.cells vs) fun rows=>qN (lower low id) fun low=>pQ l d (.tup []) fun l=>K l rows low
   |_=>none) none
  |_=>none
 |_=>none
noncomputable def boxQ(d:Option Nat)(x:AV)(K:KK)(l:List (Nat×AV))(rows:List Row)(low:Nat):RR:=bq (x.cells.all AV.one) (frcR (.cells x.cells) fun r=>qN rows.length fun n=>pushQ rows r fun rows=>pQ l d (.ptr n 0) fun l=>K l rows low) none
noncomputable def restQ(d:Option Nat)(o:Option (AV×Dl×Nat))(K:KK)(l:List (Nat×AV))(rows:List Row)(low:Nat):RR:=match o with
 |some (v,dl,lw)=>qV v fun v=>dl.run rows fun rows=>qN lw fun low=>pQ l d v fun l=>K l rows low
 |none=>none
noncomputable def enterQ(fid:Nat)(vs:List AV)(rows:List Row)(low:Nat)(K:AV->List Row->Nat->RR):RR:=match F fid with
 |
  some fn=>bq (Nat.ble vs.length fn.ns) (match iniK vs 0 fun l=>ex fn.ns (.fn fn.res) [.code fn.body] l rows rows.length with
  |
   some (v,rows',low')=>match fin rows v rows' low' with
   |(v,rows2,dd)=>frcW v fun v=>spQ rows2 fun rows2=>qN (lowO low dd) fun low=>K v rows2 low
  |none=>none) none
 |none=>none
noncomputable def roundQ(id:Nat)(vs:List AV)(rows:List Row)(low:Nat)(K:AV->List Row->Nat->RR):RR:=rowK rows id fun r=>match r with
 |
  .loop _ _ sl ps asg body=>bq (Nat.beq ps.length vs.length) (match frcWs (putL sl ps vs) fun sl=>ofK sl 0 fun l1=>ex sl.length (.round id) [.code asg,.rfBegin,.code body] l1 rows rows.length with
  |some (v,rows',low')=>qN (lower low low') fun lw=>spQ (gc rows.length lw v rows') fun rows2=>qV v fun v=>K v rows2 lw
  |none=>none) none
 |_=>none
noncomputable def callQ(d:Option Nat)(tab:List (Nat×Nat))(f:AV)(vs:List AV)(K:KK)(l:List (Nat×AV))(rows:List Row)(low:Nat):RR:=match tab with
 |
  []=>match f with
  |.func fid []=>enterQ F ex fid vs rows low fun v rows low=>pQ l d v fun l=>K l rows low
  |.func fid cs=>frcWs (vs++cs) fun vs=>enterQ F ex fid vs rows low fun v rows low=>pQ l d v fun l=>K l rows low
  |
   .iface t v=>match boundOf t v with
   |some p=>frcWs (p.2++vs) fun vs=>enterQ F ex p.1 vs rows low fun v rows low=>pQ l d v fun l=>K l rows low
   |none=>none
  |.yield id=>roundQ ex id vs rows low fun v rows low=>pQ l d v fun l=>K l rows low
  |_=>none
 |
  p::tab=>match f with
  |
   .iface t v=>bq (Nat.beq t bd) none (match (p::tab).lookup t with
   |some fid=>enterQ F ex fid (v::vs) rows low fun v rows low=>pQ l d v fun l=>K l rows low
   |none=>none)
  |_=>none
noncomputable def runD(d:Option Nat)(op:IOp)(K:KK)(l:List (Nat×AV))(rows:List Row)(low:Nat):RR:=match op with
 |.call tab f args=>gK ns l f fun f=>gsK ns l args fun vs=>callQ F ex d tab f vs K l rows low
 |.store1 a x=>gK ns l a fun a=>gK ns l x fun x=>store1Q d a x K l rows low
 |.storeN n a x=>gK ns l a fun a=>gK ns l x fun x=>storeNQ d n a x K l rows low
 |.box x=>gK ns l x fun x=>boxQ d x K l rows low
 |op=>bq op.pure (pureQ ns op l rows fun v=>pQ l d v fun l=>K l rows low) (restQ d (evalD (gO ns l) rows low op) K l rows low)
noncomputable def beqB(a b:Bool):Bool:=Bool.rec (motive:=fun _=>Bool) (Bool.rec (motive:=fun _=>Bool) true false b) b a
theorem beqB_eq(a b:Bool):beqB a b=(a==b):=by cases a<;>cases b<;>rfl
noncomputable def oneQ(o:IOpx)(K:KK)(l:List (Nat×AV))(rows:List Row)(low:Nat):RR:=match o with
 |
  ⟨d,op,gd⟩=>match gd with
  |none=>runD F ex ns d op K l rows low
  |
   some p=>gK ns l (.t p.1) fun g=>match g with
   |.bool c=>bq (beqB c p.2) (runD F ex ns d op K l rows low) (pQ l d (.tup []) fun l=>K l rows low)
   |.tup []=>pQ l d (.tup []) fun l=>K l rows low
   |_=>none
noncomputable def callF:CallF:=fun f vs rows=>match F f with
 |some fn=>if vs.length<=fn.ns then callD2 rows (iniK vs 0 fun l=>ex fn.ns (.fn fn.res) [.code fn.body] l rows rows.length)else none
 |none=>none
noncomputable def addX{β:Type}(ext:List (Nat×Row))(i:Nat)(rs:List Row)(k:List (Nat×Row)->β):β:=match rs with
 |[]=>k ext
 |r::rs=>frcX (ext++(r::rs).map fun x=>(i,x)) k
theorem addX_eq{β:Type}(ext:List (Nat×Row))(i:Nat)(rs:List Row)(k:List (Nat×Row)->β):addX ext i rs k=k (ext++rs.map fun x=>(i,x)):=by
 cases rs with
 |nil=>simp[addX]
 |cons r rs=>simp only[addX,frcX_eq]
noncomputable def gop1Q(B:Nat->List Row)(b:Nat)(d:Option Nat)(op:IOp)(i:Nat)(l:List (Nat×AV))(ext:List (Nat×Row))(K:List (Nat×AV)->List (Nat×Row)->RR):RR:=
 bq op.pure (pureQ ns op l (baseX (B i) b ext) fun v=>pQ l d v fun l=>K l ext) (match opD (callF F ex) (gO ns l) (baseX (B i) b ext) ((B i).length+ext.length) ⟨d,op,none⟩with
  |some (v,rows',low')=>bq (Nat.beq low' ((B i).length+ext.length)) (frcW v fun v=>addX ext i (rows'.drop ((B i).length+ext.length)) fun ext=>pQ l d v fun l=>K l ext) none
  |none=>none)
noncomputable def gopQ(B:Nat->List Row)(p:IOpx×Nat)(i:Nat)(l:List (Nat×AV))(ext:List (Nat×Row))(K:List (Nat×AV)->List (Nat×Row)->RR):RR:=match p with
 |
  (o,b)=>match o with
  |
   ⟨d,op,gd⟩=>match gd with
   |none=>gop1Q F ex ns B b d op i l ext K
   |
    some q=>gK ns l (.t q.1) fun g=>match g with
    |.bool c=>bq (beqB c q.2) (gop1Q F ex ns B b d op i l ext K) (pQ l d (.tup []) fun l=>K l ext)
    |.tup []=>pQ l d (.tup []) fun l=>K l ext
    |_=>none
noncomputable def grpR(B:Nat->List Row)(g:List (IOpx×Nat)):Nat->List (Nat×AV)->List (Nat×Row)->(List (Nat×AV)->List (Nat×Row)->RR)->RR:=
 List.rec (motive:=fun _=>Nat->List (Nat×AV)->List (Nat×Row)->(List (Nat×AV)->List (Nat×Row)->RR)->RR) (fun _ l ext K=>K l ext) (fun p _ ih i l ext K=>gopQ F ex ns B p i l ext fun l ext=>ih (Nat.succ i) l ext K) g
noncomputable def putX(rows:List Row)(ext:List (Nat×Row))(k:List Row->RR):RR:=match ext with
 |[]=>k rows
 |e::ext=>spQ (rows++(e::ext).map (·.2)) k
theorem putX_eq(rows:List Row)(ext:List (Nat×Row))(k:List Row->RR):putX rows ext k=k (rows++ext.map (·.2)):=by
 cases ext with
 |nil=>simp[putX]
 |cons e ext=>simp only[putX,spQ_eq]
noncomputable def grpQ(g:List (IOpx×Nat))(K:KK)(l:List (Nat×AV))(rows:List Row)(low:Nat):RR:=grpR F ex ns (fun _=>rows) g Nat.zero l [] fun l ext=>putX rows ext fun rows=>K l rows low
noncomputable def grpwQ(a y:Opd)(sz:Option Nat)(b:Nat)(g:List (IOpx×Nat))(K:KK)(l:List (Nat×AV))(rows:List Row)(low:Nat):RR:=
 grpR F ex ns (fun _=>rows) g Nat.zero l [] fun l0 _=>gK ns l0 a fun a0=>match a0 with
  |
   .ptr R off=>spQ (maskR rows R off (sz.getD 1)) fun rm=>grpR F ex ns (baseW rows rm b) g Nat.zero l [] fun l' ext=>match stored (mk ns l') rows R off a y sz with
   |some r'=>frcR r' fun r'=>setQ rows R r' fun rows=>putX rows ext fun rows=>qN (lower low R) fun low=>K l' rows low
   |none=>none
  |_=>none
noncomputable def segQ(sg:Seg)(K:KK)(l:List (Nat×AV))(rows:List Row)(low:Nat):RR:=match sg with
 |.one o=>oneQ F ex ns o K l rows low
 |.grp g=>grpQ F ex ns g K l rows low
 |.grpw a y sz b g=>grpwQ F ex ns a y sz b g K l rows low
 |.stop=>none
noncomputable def segsQ(K:KK)(s:List Seg):KK:=List.rec (motive:=fun _=>KK) K (fun sg _ ih=>segQ F ex ns sg ih) s
noncomputable def rfQ(cx:Ctx)(f:Opd)(ps:List Nat)(asg body:ICode)(k:List Itm)(l:List (Nat×AV))(rows:List Row)(low:Nat):RR:=
 bq (rfOk cx rows) (match target (gO ns l f) [.yield rows.length]with
  |
   some (fid,vs)=>match frcR (.loop .ready none (mk ns l) ps asg body) fun r=>pushQ rows r fun rows1=>frcWs vs fun vs=>callF F ex fid vs rows1 with
   |
    some (_,rows',d)=>match afterLoop rows.length low rows' d with
    |some (k0,rows2,low2)=>spQ rows2 fun rows2=>qN low2 fun low2=>ex ns cx (k0++k) l rows2 low2
    |none=>none
   |none=>none
  |none=>none) none
noncomputable def begQ(cx:Ctx)(k:List Itm)(l:List (Nat×AV))(rows:List Row)(low:Nat):RR:=match cx with
 |
  .round id=>rowK rows id fun r=>match r with
  |.loop .ready pend sl ps asg body=>setQ rows id (.loop .busy pend sl ps asg body) fun rows=>qN (lower low id) fun low=>ex ns cx k l rows low
  |_=>none
 |_=>none
noncomputable def exitQ(cx:Ctx)(id:Nat)(k:List Itm)(l:List (Nat×AV))(rows:List Row)(low:Nat):RR:=match popTo id k with
 |some k'=>ex ns cx k' l rows low
 |none=>leaveD ns cx (some (.exit id)) l rows low
noncomputable def condQ(cx:Ctx)(c:Opd)(a b:ICode)(k:List Itm)(l:List (Nat×AV))(rows:List Row)(low:Nat):RR:=gK ns l c fun c=>match c with
 |.bool t=>Bool.rec (motive:=fun _=>RR) (ex ns cx (.code b::k) l rows low) (ex ns cx (.code a::k) l rows low) t
 |_=>none
noncomputable def codeQ(cx:Ctx)(c:ICode)(k:List Itm)(l:List (Nat×AV))(rows:List Row)(low:Nat):RR:=ICode.casesOn (motive:=fun _=>RR) c
 (ex ns cx k l rows low)
 (leaveD ns cx (some .ret) l rows low)
 (fun id=>exitQ ex ns cx id k l rows low)
 (fun a b=>ex ns cx (.code a::.code b::k) l rows low)
 (fun c a b=>condQ ex ns cx c a b k l rows low)
 (fun id c=>ex ns cx (.code c::.inBlock id::k) l rows low)
 (fun c=>ex ns cx (.code c::.inLoop c::k) l rows low)
 (fun c=>ex ns cx (.code c::.inScope c::k) l rows low)
 (fun s=>segsQ F ex ns (fun l rows low=>ex ns cx k l rows low) s l rows low)
 (fun f ps asg body=>rfQ F ex ns cx f ps asg body k l rows low)
 (fun m ks c=>bq (Nat.beq m ns) (onlyQ l ks fun l=>ex ns cx (.code c::k) l rows low) none)
 none
noncomputable def itmQ(cx:Ctx)(x:Itm)(k:List Itm)(l:List (Nat×AV))(rows:List Row)(low:Nat):RR:=Itm.rec (motive:=fun _=>RR)
 (fun c=>codeQ F ex ns cx c k l rows low)
 (fun _=>ex ns cx k l rows low)
 (fun c=>ex ns cx (.code c::.inLoop c::k) l rows low)
 (fun _=>ex ns cx k l rows low)
 (fun s=>segsQ F ex ns (fun l rows low=>ex ns cx k l rows low) s l rows low)
 (begQ ex ns cx k l rows low) x
noncomputable def stepQ:EX:=fun ns cx k l rows low=>List.rec (motive:=fun _=>RR) (leaveD ns cx none l rows low) (fun x k _=>itmQ F ex ns cx x k l rows low) k
end
noncomputable def execQ(F:Nat->Option IFn)(n:Nat):EX:=Nat.rec (motive:=fun _=>EX) (fun _ _ _ _ _ _=>none) (fun _ ih=>stepQ F ih) n
noncomputable def cQ(F:Nat->Option IFn)(n:Nat):CallF:=callF F (execQ F n)
def SD(F:Nat->Option IFn)(ex:EX):Prop:=∀(ns:Nat) (cx:Ctx) (k:List Itm) (l:List (Nat×AV)) (rows:List Row) (low:Nat) (r:AV×List Row×Nat),ex ns cx k l rows low=some r->Ex F cx k ⟨mk ns l,rows,low⟩ fun q=>q=r
section
variable {F:Nat->Option IFn}{ex:EX}(hS:SD F ex){ns:Nat}{cx:Ctx}{k:List Itm}
include hS
theorem entered{fid:Nat}{fn:IFn}(hF:F fid=some fn){vs:List AV}(hl:vs.length<=fn.ns){rows:List Row}{q:AV×List Row×Nat}(h:ex fn.ns (.fn fn.res) [.code fn.body] (ini 0 vs) rows rows.length=some q):Ret F fid vs rows=some (fin rows q.1 q.2.1 q.2.2):=by
 obtain⟨n,x,e,rfl⟩:=hS _ _ _ _ _ _ _ h
 refine Ret_of (n:=n) ?_
 unfold cF callBy
 simp only[hF]
 rw[mk_ini hl]at e
 rw[show exec F n (.fn fn.res) [.code fn.body] (init fn vs rows)=_ from e]
 rfl
theorem callF_ok:LeC (callF F ex) (Ret F):=by
 intro f vs rows q h
 unfold callF at h
 split at h
 ·rename_i fn hfn
  split at h
  ·rename_i hlen
   rw[callD2_ok,iniK_eq]at h
   unfold callR at h
   split at h
   ·rename_i v rows' low' he
    rw[entered hS hfn hlen he]
    exact h
   ·simp at h
  ·simp at h
 ·simp at h
theorem enterQ_ok{fid:Nat}{vs:List AV}{rows:List Row}{low:Nat}{K:AV->List Row->Nat->RR}{r:AV×List Row×Nat}(h:enterQ F ex fid vs rows low K=some r):∃q,Ret F fid vs rows=some q/\K q.1 q.2.1 (lowO low q.2.2)=some r:=by
 unfold enterQ at h
 split at h
 ·rename_i fn hfn
  cases hb:Nat.ble vs.length fn.ns with
  |false=>rw[hb]at h;simp at h
  |
   true=>
   rw[hb,bq_true,iniK_eq]at h
   split at h
   ·rename_i v rows' low' he
    simp only[frcW_eq,spQ_eq,qN_eq]at h
    exact⟨_,entered hS hfn (Nat.le_of_ble_eq_true hb) he,h⟩
   ·simp at h
 ·simp at h
theorem roundQ_ok{id:Nat}{vs:List AV}{rows:List Row}{low:Nat}{K:AV->List Row->Nat->RR}{r:AV×List Row×Nat}(h:roundQ ex id vs rows low K=some r):∃st pd sl ps asg body,rows[id]?=some (.loop st pd sl ps asg body)/\ps.length=vs.length/\
  Ex F (.round id) [.code asg,.rfBegin,.code body] ⟨putL sl ps vs,rows,rows.length⟩ fun q=>K q.1 (gc rows.length (lower low q.2.2) q.1 q.2.1) (lower low q.2.2)=some r:=by
 unfold roundQ at h
 rw[rowK_eq]at h
 cases hr:rows[id]? with
 |none=>rw[hr]at h;simp at h
 |
  some w=>
  rw[hr]at h
  simp only[Option.bind_some]at h
  split at h
  ·rename_i st pd sl ps asg body
   cases hb:Nat.beq ps.length vs.length with
   |false=>rw[hb]at h;simp at h
   |
    true=>
    rw[hb,bq_true,frcWs_eq,ofK_eq]at h
    split at h
    ·rename_i v rows' low' he
     simp only[qN_eq,spQ_eq,qV_eq]at h
     refine⟨st,pd,sl,ps,asg,body,rfl,Nat.eq_of_beq_eq_true hb,?_⟩
     have:=hS _ _ _ _ _ _ _ he
     rw[mk_ofL]at this
     exact this.imp fun q hq=>by subst hq;exact h
    ·simp at h
  ·simp at h
theorem callQ_ok{d:Option Nat}{tab:List (Nat×Nat)}{f:AV}{vs:List AV}{K:KK}{l:List (Nat×AV)}{rows:List Row}{low:Nat}{s:List Seg}{r:AV×List Row×Nat}(hK:∀l rows low,K l rows low=some r->Ex F cx (.ops s::k) ⟨mk ns l,rows,low⟩ fun q=>q=r)
  (h:callQ F ex d tab f vs K l rows low=some r):callD F cx d s k (mk ns l) rows low (fun q=>q=r) vs tab f:=by
 unfold callQ at h
 split at h
 ·split at h
  ·obtain⟨q,e,h⟩:=enterQ_ok hS h
   rw[pQ_eq]at h
   refine⟨q,by simpa using e,?_⟩
   rw[pO_ok];exact hK _ _ _ h
  ·rw[frcWs_eq]at h
   obtain⟨q,e,h⟩:=enterQ_ok hS h
   rw[pQ_eq]at h
   refine⟨q,e,?_⟩
   rw[pO_ok];exact hK _ _ _ h
  ·split at h
   ·rename_i p hp
    rw[frcWs_eq]at h
    obtain⟨q,e,h⟩:=enterQ_ok hS h
    rw[pQ_eq]at h
    refine⟨p,hp,q,e,?_⟩
    rw[pO_ok];exact hK _ _ _ h
   ·simp at h
  ·obtain⟨st,pd,sl,ps,asg,body,h1,h2,h3⟩:=roundQ_ok hS h
   refine⟨st,pd,sl,ps,asg,body,h1,h2,h3.imp fun q hq=>?_⟩
   rw[pQ_eq]at hq
   rw[pO_ok];exact hK _ _ _ hq
  ·simp at h
 ·split at h
  ·rename_i p tab t v
   cases hb:Nat.beq t bd with
   |true=>rw[hb]at h;simp at h
   |
    false=>
    rw[hb,bq_false]at h
    split at h
    ·rename_i fid hl
     obtain⟨q,e,h⟩:=enterQ_ok hS h
     rw[pQ_eq]at h
     refine⟨fun e=>?_,fid,hl,q,e,?_⟩
     ·subst e
      rw[Nat.beq_refl]at hb
      simp at hb
     ·rw[pO_ok];exact hK _ _ _ h
    ·simp at h
  ·simp at h
theorem runD_ok{d:Option Nat}{op:IOp}{K:KK}{l:List (Nat×AV)}{rows:List Row}{low:Nat}{s:List Seg}{r:AV×List Row×Nat}(hK:∀l rows low,K l rows low=some r->Ex F cx (.ops s::k) ⟨mk ns l,rows,low⟩ fun q=>q=r)
  (h:runD F ex ns d op K l rows low=some r):Ex F cx (.ops (.one ⟨d,op,none⟩::s)::k) ⟨mk ns l,rows,low⟩ fun q=>q=r:=by
 -- an operation that is no call
 have plainOp:∀(o:IOp),o.plain=true->(∃v rows' low',evalE (gO ns l) rows low o=some (v,rows',low')/\K (pO l d v) rows' low'=some r)->Ex F cx (.ops (.one ⟨d,o,none⟩::s)::k) ⟨mk ns l,rows,low⟩ fun q=>q=r:=by
  rintro o ho ⟨v,rows',low',e,hk⟩
  rw[Ex_op ho]
  refine⟨true,rfl,?_⟩
  rw[if_pos rfl]
  refine⟨v,rows',low',?_,?_⟩
  ·rw[gO_ok];exact e
  ·rw[pO_ok];exact hK _ _ _ hk
 unfold runD at h
 split at h
 ·rename_i tab f args
  rw[gK_eq,gsK_eq]at h
  rw[Ex_callD]
  rw[gO_ok]
  exact callQ_ok hS hK h
 ·rename_i a x
  rw[gK_eq,gK_eq]at h
  refine plainOp _ rfl ?_
  unfold store1Q at h
  simp only[evalE]
  split at h
  ·rename_i id off e
   rw[e]
   cases hx:(gO ns l x).one with
   |false=>rw[hx]at h;simp at h
   |
    true=>
    rw[hx,bq_true,rowK_eq]at h
    simp only
    cases hr:rows[id]? with
    |none=>rw[hr]at h;simp at h
    |
     some w=>
     rw[hr]at h
     simp only[Option.bind_some]at h
     split at h
     ·rename_i vs
      rw[setCQ_eq]at h
      split at h
      ·rename_i ho
       simp only[setQ_eq,qN_eq,pQ_eq]at h
       simp only[ho,true_and,and_self,if_true]
       exact⟨_,_,_,rfl,h⟩
      ·simp at h
     ·simp at h
  ·simp at h
 ·rename_i n a x
  rw[gK_eq,gK_eq]at h
  refine plainOp _ rfl ?_
  unfold storeNQ at h
  simp only[evalE]
  split at h
  ·rename_i id off e
   rw[e]
   split at h
   ·rename_i m em
    rw[em]
    cases hx:(Nat.beq m.length n&&m.all AV.one)with
    |false=>rw[hx]at h;simp at h
    |
     true=>
     rw[hx,bq_true,rowK_eq]at h
     simp only[Bool.and_eq_true]at hx
     have hn:=Nat.eq_of_beq_eq_true hx.1
     simp only
     cases hr:rows[id]? with
     |none=>rw[hr]at h;simp at h
     |
      some w=>
      rw[hr]at h
      simp only[Option.bind_some]at h
      split at h
      ·rename_i vs
       rw[splK_eq]at h
       split at h
       ·rename_i ho
        simp only[setQ_eq,qN_eq,pQ_eq]at h
        rw[hn]at ho
        simp only[hn,ho,hx.2,true_and,and_self,if_true]
        exact⟨_,_,_,rfl,h⟩
       ·simp at h
      ·simp at h
   ·simp at h
  ·simp at h
 ·rename_i x
  rw[gK_eq]at h
  refine plainOp _ rfl ?_
  unfold boxQ at h
  simp only[evalE]
  cases hx:(gO ns l x).cells.all AV.one with
  |false=>rw[hx]at h;simp at h
  |
   true=>
   rw[hx,bq_true]at h
   simp only[frcR_eq,qN_eq,pushQ_eq,pQ_eq]at h
   simp only[if_true]
   exact⟨_,_,_,rfl,h⟩
 ·rename_i h1 h2 h3 h4
  have hpl:op.plain=true:=by
   cases op<;>first|rfl|exact absurd rfl (h1 _ _ _)
  refine plainOp _ hpl ?_
  cases hp:op.pure with
  |
   true=>
   rw[hp,bq_true,pureQ_eq]at h
   rw[evalE_pure hp]
   cases he:evalP rows (gO ns l) op with
   |none=>rw[he]at h;simp at h
   |
    some v=>
    rw[he]at h
    simp only[Option.bind_some,pQ_eq]at h
    exact⟨v,rows,low,rfl,h⟩
  |
   false=>
   rw[hp,bq_false]at h
   unfold restQ at h
   split at h
   ·rename_i v dl lw he
    rw[qV_eq,Dl.run_eq,qN_eq,pQ_eq]at h
    exact⟨v,_,_,evalD_ok _ _ _ _ he,h⟩
   ·simp at h
theorem oneQ_ok{o:IOpx}{K:KK}{l:List (Nat×AV)}{rows:List Row}{low:Nat}{s:List Seg}{r:AV×List Row×Nat}(hK:∀l rows low,K l rows low=some r->Ex F cx (.ops s::k) ⟨mk ns l,rows,low⟩ fun q=>q=r)
  (h:oneQ F ex ns o K l rows low=some r):Ex F cx (.ops (.one o::s)::k) ⟨mk ns l,rows,low⟩ fun q=>q=r:=by
 obtain⟨d,op,gd⟩:=o
 unfold oneQ at h
 simp only at h
 cases gd with
 |none=>exact runD_ok hS hK h
 |
  some p=>
  obtain⟨t,b⟩:=p
  simp only[gK_eq]at h
  rw[Ex_guard]
  have hw:want (mk ns l) (some (t,b))=wantG (gO ns l) (some (t,b)):=by rw[wantG_ok,gO_ok]
  rw[hw]
  simp only[wantG]
  split at h
  ·rename_i c e
   first|rw[e]|skip
   try simp only
   rw[beqB_eq]at h
   refine⟨_,rfl,?_⟩
   cases hcb:(c==b)with
   |
    true=>
    rw[hcb,bq_true]at h
    rw[if_pos rfl]
    exact runD_ok hS hK h
   |
    false=>
    rw[hcb,bq_false,pQ_eq]at h
    rw[if_neg (by simp),pO_ok]
    exact hK _ _ _ h
  ·rename_i e
   first|rw[e]|skip
   try simp only
   refine⟨_,rfl,?_⟩
   rw[pQ_eq]at h
   rw[if_neg (by simp),pO_ok]
   exact hK _ _ _ h
  ·simp at h
theorem gop_ok{B:Nat->List Row}{o:IOpx}{b i:Nat}{l:List (Nat×AV)}{ext:List (Nat×Row)}{K:List (Nat×AV)->List (Nat×Row)->RR}{r:AV×List Row×Nat}(h:gopQ F ex ns B (o,b) i l ext K=some r):
  ∃v rows',opR (Ret F) (mk ns l) (B i++maskE b ext) ((B i).length+ext.length) o=some (v,rows',(B i).length+ext.length)/\K (pO l o.dst v) (ext++(rows'.drop ((B i).length+ext.length)).map fun x=>(i,x))=some r:=by
 obtain⟨d,op,gd⟩:=o
 have hdrop:((B i++maskE b ext).drop ((B i).length+ext.length)).map (fun x=>(i,x))=[]:=by
  rw[List.drop_of_length_le (by simp[maskE])];rfl
 have one:∀gd:Option (Nat×Bool),want (mk ns l) gd=some true->gop1Q F ex ns B b d op i l ext K=some r->
   ∃v rows',opR (Ret F) (mk ns l) (B i++maskE b ext) ((B i).length+ext.length) ⟨d,op,gd⟩=some (v,rows',(B i).length+ext.length)/\K (pO l d v) (ext++(rows'.drop ((B i).length+ext.length)).map fun x=>(i,x))=some r:=by
  intro gd hw h
  unfold gop1Q at h
  rw[baseX_eq]at h
  cases hp:op.pure with
  |
   true=>
   rw[hp,bq_true,pureQ_eq]at h
   cases he:evalP (B i++maskE b ext) (gO ns l) op with
   |none=>rw[he]at h;simp at h
   |
    some v=>
    rw[he]at h
    simp only[Option.bind_some,pQ_eq]at h
    refine⟨v,B i++maskE b ext,?_,by rw[hdrop,List.append_nil];exact h⟩
    unfold opR
    rw[hw]
    simp only
    split
    ·simp[IOp.pure]at hp
    ·rw[gO_ok,evalE_pure hp,he];rfl
  |
   false=>
   rw[hp,bq_false]at h
   split at h
   ·rename_i v rows' low' ho
    cases hb:Nat.beq low' ((B i).length+ext.length)with
    |false=>rw[hb]at h;simp at h
    |
     true=>
     rw[hb,bq_true]at h
     have hl:=Nat.eq_of_beq_eq_true hb
     subst hl
     rw[frcW_eq,addX_eq,pQ_eq]at h
     refine⟨v,rows',?_,h⟩
     rw[<-gO_ok]at ho
     have:=opD_ok (callF_ok hS) ho
     unfold opR at this ⊢
     rw[hw]
     exact this
   ·simp at h
 unfold gopQ at h
 simp only at h
 cases gd with
 |none=>exact one none rfl h
 |
  some p=>
  obtain⟨t,b'⟩:=p
  simp only[gK_eq]at h
  have hw:want (mk ns l) (some (t,b'))=wantG (gO ns l) (some (t,b')):=by rw[wantG_ok,gO_ok]
  have no:want (mk ns l) (some (t,b'))=some false->pQ l d (.tup []) (fun l=>K l ext)=some r->
    ∃v rows',opR (Ret F) (mk ns l) (B i++maskE b ext) ((B i).length+ext.length) ⟨d,op,some (t,b')⟩=some (v,rows',(B i).length+ext.length)/\K (pO l d v) (ext++(rows'.drop ((B i).length+ext.length)).map fun x=>(i,x))=some r:=by
   intro hw h
   rw[pQ_eq]at h
   refine⟨.tup [],B i++maskE b ext,?_,by rw[hdrop,List.append_nil];exact h⟩
   unfold opR
   rw[hw]
  split at h
  ·rename_i c e
   rw[beqB_eq]at h
   have hw2:want (mk ns l) (some (t,b'))=some (c==b'):=by rw[hw];simp only[wantG,e]
   cases hcb:(c==b')with
   |
    true=>
    rw[hcb,bq_true]at h
    rw[hcb]at hw2
    exact one _ hw2 h
   |
    false=>
    rw[hcb,bq_false]at h
    rw[hcb]at hw2
    exact no hw2 h
  ·rename_i e
   have hw2:want (mk ns l) (some (t,b'))=some false:=by rw[hw];simp only[wantG,e]
   exact no hw2 h
  ·simp at h
theorem grpR_ok{B:Nat->List Row}:∀(g:List (IOpx×Nat)) (i:Nat) (l:List (Nat×AV)) (ext:List (Nat×Row)) {K:List (Nat×AV)->List (Nat×Row)->RR} {r:AV×List Row×Nat},grpR F ex ns B g i l ext K=some r->
  ∃l' ext',evalG (Ret F) B i g (mk ns l) ext=some (mk ns l',ext')/\K l' ext'=some r
 |[],i,l,ext,K,r,h=>⟨l,ext,rfl,h⟩
 |
  (o,b)::g,i,l,ext,K,r,h=>by
  obtain⟨v,rows',e1,e2⟩:=gop_ok hS h
  obtain⟨l',ext',e3,e4⟩:=grpR_ok g (i+1) _ _ e2
  refine⟨l',ext',?_,e4⟩
  simp only[evalG,e1,if_true,pO_ok]
  exact e3
theorem segQ_ok{sg:Seg}{K:KK}{l:List (Nat×AV)}{rows:List Row}{low:Nat}{s:List Seg}{r:AV×List Row×Nat}(hK:∀l rows low,K l rows low=some r->Ex F cx (.ops s::k) ⟨mk ns l,rows,low⟩ fun q=>q=r)
  (h:segQ F ex ns sg K l rows low=some r):Ex F cx (.ops (sg::s)::k) ⟨mk ns l,rows,low⟩ fun q=>q=r:=by
 unfold segQ at h
 split at h
 ·exact oneQ_ok hS hK h
 ·rename_i g
  unfold grpQ at h
  obtain⟨l',ext,e1,e2⟩:=grpR_ok hS g 0 l [] h
  rw[putX_eq]at e2
  rw[Ex_grpR]
  exact⟨_,e1,hK _ _ _ e2⟩
 ·rename_i a y sz b g
  unfold grpwQ at h
  obtain⟨l0,ext0,e1,e2⟩:=grpR_ok hS g 0 l [] h
  rw[gK_eq]at e2
  rw[Ex_grpwR]
  split at e2
  ·rename_i R off eR
   rw[spQ_eq]at e2
   obtain⟨l',ext,e3,e4⟩:=grpR_ok hS g 0 l [] e2
   refine⟨_,e1,R,off,by rw[gO_ok];exact eR,_,e3,?_⟩
   split at e4
   ·rename_i r' hr
    simp only[frcR_eq,setQ_eq,putX_eq,qN_eq]at e4
    exact⟨r',hr,hK _ _ _ e4⟩
   ·simp at e4
  ·simp at e2
 ·simp at h
theorem segsQ_ok{K:KK}{r:AV×List Row×Nat}(hK:∀l rows low,K l rows low=some r->Ex F cx k ⟨mk ns l,rows,low⟩ fun q=>q=r):∀(s:List Seg) (l:List (Nat×AV)) (rows:List Row) (low:Nat),segsQ F ex ns K s l rows low=some r->Ex F cx (.ops s::k) ⟨mk ns l,rows,low⟩ fun q=>q=r
 |[],l,rows,low,h=>by rw[Ex_opsNil];exact hK _ _ _ h
 |sg::s,l,rows,low,h=>segQ_ok hS (fun l rows low h=>segsQ_ok hK s l rows low h) h
omit hS in
theorem leave_ok'{j:Option Jump}{l:List (Nat×AV)}{rows:List Row}{low:Nat}{r:AV×List Row×Nat}(h:leaveD ns cx j l rows low=some r):leaveV cx j ⟨mk ns l,rows,low⟩=some r:=by rw[leaveD_ok];exact h
theorem codeQ_ok{c:ICode}{l:List (Nat×AV)}{rows:List Row}{low:Nat}{r:AV×List Row×Nat}(h:codeQ F ex ns cx c k l rows low=some r):Ex F cx (.code c::k) ⟨mk ns l,rows,low⟩ fun q=>q=r:=by
 cases c with
 |skip=>rw[Ex_skip];exact hS _ _ _ _ _ _ _ h
 |ret=>rw[Ex_ret];exact⟨r,leave_ok' h,rfl⟩
 |
  exit id=>
  rw[Ex_exit]
  have h:exitQ ex ns cx id k l rows low=some r:=h
  unfold exitQ at h
  split at h
  ·rename_i k' e;rw[e];exact hS _ _ _ _ _ _ _ h
  ·rename_i e;rw[e];exact⟨r,leave_ok' h,rfl⟩
 |seq a b=>rw[Ex_seq];exact hS _ _ _ _ _ _ _ h
 |
  cond c a b=>
  rw[Ex_cond]
  have h:condQ ex ns cx c a b k l rows low=some r:=h
  unfold condQ at h
  rw[gK_eq]at h
  split at h
  ·rename_i t e
   refine⟨t,by rw[gO_ok];exact e,?_⟩
   cases t
   ·exact hS _ _ _ _ _ _ _ h
   ·exact hS _ _ _ _ _ _ _ h
  ·simp at h
 |block id c=>rw[Ex_block];exact hS _ _ _ _ _ _ _ h
 |loop c=>rw[Ex_loop];exact hS _ _ _ _ _ _ _ h
 |scope c=>rw[Ex_scope];exact hS _ _ _ _ _ _ _ h
 |ops s=>rw[Ex_ops];exact segsQ_ok hS (fun l rows low h=>hS _ _ _ _ _ _ _ h) s l rows low h
 |
  rf f ps asg body=>
  have h:rfQ F ex ns cx f ps asg body k l rows low=some r:=h
  unfold rfQ at h
  rw[Ex_rf]
  cases hb:rfOk cx rows with
  |false=>rw[hb]at h;simp at h
  |
   true=>
   rw[hb,bq_true]at h
   refine⟨rfl,?_⟩
   split at h
   ·rename_i fid vs ht
    refine⟨(fid,vs),by rw[gO_ok];exact ht,?_⟩
    simp only[frcR_eq,pushQ_eq,frcWs_eq]at h
    split at h
    ·rename_i v rows' d hx
     refine⟨_,callF_ok hS _ _ _ _ hx,?_⟩
     split at h
     ·rename_i k0 rows2 low2 ha
      simp only[spQ_eq,qN_eq]at h
      exact⟨_,ha,hS _ _ _ _ _ _ _ h⟩
     ·simp at h
    ·simp at h
   ·simp at h
 |
  kill m ks c=>
  have h:bq (Nat.beq m ns) (onlyQ l ks fun l=>ex ns cx (.code c::k) l rows low) none=some r:=h
  rw[Ex_kill]
  cases hb:Nat.beq m ns with
  |false=>rw[hb]at h;simp at h
  |
   true=>
   rw[hb,bq_true,onlyQ_eq]at h
   have hm:=Nat.eq_of_beq_eq_true hb
   subst hm
   rw[kill_dead]
   exact hS _ _ _ _ _ _ _ h
 |stop=>have h:(none:RR)=some r:=h;simp at h
theorem stepQ_ok:SD F (stepQ F ex):=by
 intro ns cx k l rows low r h
 cases k with
 |nil=>rw[Ex_nil];exact⟨r,leave_ok' h,rfl⟩
 |
  cons x k=>
  cases x with
  |code c=>exact codeQ_ok hS h
  |inBlock id=>rw[Ex_inBlock];exact hS _ _ _ _ _ _ _ h
  |inLoop c=>rw[Ex_inLoop];exact hS _ _ _ _ _ _ _ h
  |inScope c=>rw[Ex_inScope];exact hS _ _ _ _ _ _ _ h
  |ops s=>exact segsQ_ok hS (fun l rows low h=>hS _ _ _ _ _ _ _ h) s l rows low h
  |
   rfBegin=>
   have h2:begQ ex ns cx k l rows low=some r:=h
   clear h
   unfold begQ at h2
   split at h2
   ·rename_i id
    rw[rowK_eq]at h2
    cases hr:rows[id]? with
    |none=>rw[hr]at h2;simp at h2
    |
     some w=>
     rw[hr]at h2
     simp only[Option.bind_some]at h2
     split at h2
     ·rename_i pd sl ps asg body
      simp only[setQ_eq,qN_eq]at h2
      rw[Ex_rfBegin]
      exact⟨_,_,_,_,_,hr,hS _ _ _ _ _ _ _ h2⟩
     ·simp at h2
   ·simp at h2
end
theorem execQ_ok(F:Nat->Option IFn):∀n,SD F (execQ F n)
 |
  0=>fun ns cx k l rows low r h=>by
  have h:(none:RR)=some r:=h
  simp at h
 |n+1=>stepQ_ok (execQ_ok F n)
theorem Ret_Q{F:Nat->Option IFn}{n f:Nat}{vs:List AV}{rows:List Row}{q:AV×List Row×Option Nat}(h:cQ F n f vs rows=some q):Ret F f vs rows=some q:=callF_ok (execQ_ok F n) _ _ _ _ h
def okQ:Option (AV×List Row×Option Nat)->Bool
 |some (.bool true,_,none)=>true
 |_=>false
theorem fin_true{rows rows' R:List Row}{v:AV}{low:Nat}(h:fin rows v rows' low=(.bool true,R,none)):R=rows:=by
 unfold fin at h
 split at h
 ·split at h
  ·simp only[Prod.mk.injEq]at h
   exact h.2.1.symm
  ·rename_i hn
   split at h
   ·split at h
    ·split at h
     ·simp only[Prod.mk.injEq]at h
      cases v<;>simp_all[AV.ids,AV.ids.idsL,AV.ren1,AV.ren]
     ·simp only[Prod.mk.injEq]at h
      obtain⟨rfl,_⟩:=h
      simp[AV.ids]at hn
    ·simp only[Prod.mk.injEq]at h
     obtain⟨rfl,_⟩:=h
     simp[AV.ids]at hn
   ·simp only[Prod.mk.injEq]at h
    obtain⟨rfl,_⟩:=h
    simp[AV.ids]at hn
 ·simp at h
theorem Ret_okQ{F:Nat->Option IFn}{n f:Nat}{vs:List AV}{rows:List Row}(h:okQ (cQ F n f vs rows)=true):Ret F f vs rows=some (.bool true,rows,none):=by
 unfold okQ at h
 split at h
 ·rename_i R e
  have e2:=Ret_Q e
  obtain⟨m,hm⟩:=Ret_iff.1 e2
  unfold cF callBy at hm
  split at hm
  ·unfold callR at hm
   split at hm
   ·injection hm with hm
    rw[fin_true hm]at e2
    exact e2
   ·simp at hm
  ·simp at hm
 ·simp at h
end Go.Abs
set_option maxRecDepth 100000
namespace Go.Abs
theorem awT:okQ (cQ F 20000 19 [] gRows)=true:=by kernel_rfl
theorem awake_g:Ret F 19 [] gRows=some (.bool true,gRows,none):=Ret_okQ awT
end Go.Abs
namespace Go.Abs
structure Sh where
 g:Nat
 X:List Row
namespace Sh
variable (S:Sh)
def n(i:Nat):Nat:=if i<S.g then i else i+S.X.length
def v:AV->AV
 |.ptr id off=>.ptr (S.n id) off
 |.slice id off len c=>.slice (S.n id) off len c
 |.map id=>.map (S.n id)
 |.yield id=>.yield (S.n id)
 |.func f cs=>.func f (vL cs)
 |.iface t x=>.iface t (v x)
 |.agg l=>.agg (vL l)
 |.tup l=>.tup (vL l)
 |x=>x
where vL:List AV->List AV
 |[]=>[]
 |x::l=>v x::vL l
theorem vL_map:∀l:List AV,v.vL S l=l.map S.v
 |[]=>rfl
 |x::l=>by simp[v.vL,vL_map l]
theorem v_func(f:Nat)(cs:List AV):S.v (.func f cs) = .func f (cs.map S.v):=by simp[v,vL_map]
theorem v_agg(l:List AV):S.v (.agg l) = .agg (l.map S.v):=by simp[v,vL_map]
theorem v_tup(l:List AV):S.v (.tup l) = .tup (l.map S.v):=by simp[v,vL_map]
theorem n_lt{i j:Nat}:S.n i<S.n j↔i<j:=by unfold n;split<;>split<;>omega
theorem n_inj{i j:Nat}:S.n i=S.n j↔i=j:=by unfold n;split<;>split<;>omega
theorem n_ge{i:Nat}(h:S.g<=i):S.n i=i+S.X.length:=by unfold n;rw[if_neg (by omega)]
theorem n_lo{i:Nat}(h:i<S.g):S.n i=i:=by unfold n;rw[if_pos h]
mutual
theorem ids:∀x:AV,(S.v x).ids=x.ids.map S.n
 |.ptr ..=>by simp[v,AV.ids]
 |.slice ..=>by simp[v,AV.ids]
 |.map ..=>by simp[v,AV.ids]
 |.yield ..=>by simp[v,AV.ids]
 |.func f cs=>by simp only[v,AV.ids];exact idsL cs
 |.iface t x=>by simp only[v,AV.ids];exact ids x
 |.agg l=>by simp only[v,AV.ids];exact idsL l
 |.tup l=>by simp only[v,AV.ids];exact idsL l
 |.bool _=>by simp[v,AV.ids]
 |.int ..=>by simp[v,AV.ids]
 |.str _=>by simp[v,AV.ids]
 |.nilptr=>by simp[v,AV.ids]
 |.nilslice=>by simp[v,AV.ids]
 |.nilmap=>by simp[v,AV.ids]
 |.nilfunc=>by simp[v,AV.ids]
 |.niliface=>by simp[v,AV.ids]
 |.any=>by simp[v,AV.ids]
theorem idsL:∀l:List AV,AV.ids.idsL (v.vL S l)=(AV.ids.idsL l).map S.n
 |[]=>by simp[v.vL,AV.ids.idsL]
 |x::l=>by simp only[v.vL,AV.ids.idsL,List.map_append,ids x,idsL l]
end
@[simp] theorem one(x:AV):(S.v x).one=x.one:=by cases x<;>simp[v,AV.one]
@[simp] theorem cells(x:AV):(S.v x).cells=x.cells.map S.v:=by cases x<;>simp[v,AV.cells,vL_map]
theorem all_one(l:List AV):(l.map S.v).all AV.one=l.all AV.one:=by simp[List.all_map,Function.comp_def]
def o:Opd->Opd
 |.t i=>.t i
 |.c x=>.c (S.v x)
def oo(x:Option Opd):Option Opd:=x.map S.o
def ps(l:List (Nat×Nat×Opd)):List (Nat×Nat×Opd):=l.map fun p=>(p.1,p.2.1,S.o p.2.2)
def i:IOp->IOp
 |.mv x=>.mv (S.o x)
 |.pick c a b=>.pick (S.o c) (S.o a) (S.o b)
 |.box x=>.box (S.o x)
 |.load1 a=>.load1 (S.o a)
 |.loadN k a=>.loadN k (S.o a)
 |.store1 a x=>.store1 (S.o a) (S.o x)
 |.storeN k a x=>.storeN k (S.o a) (S.o x)
 |.nilck x=>.nilck (S.o x)
 |.bin op x y=>.bin op (S.o x) (S.o y)
 |.eqv neg kd x y=>.eqv neg kd (S.o x) (S.o y)
 |.un op x=>.un op (S.o x)
 |.conv k x=>.conv k (S.o x)
 |.part1 off x=>.part1 off (S.o x)
 |.partN off k x=>.partN off k (S.o x)
 |.idxV len sz ag x j=>.idxV len sz ag (S.o x) (S.o j)
 |.fieldA off x=>.fieldA off (S.o x)
 |.idxA len sz x j=>.idxA len sz (S.o x) (S.o j)
 |.idxS sz x j=>.idxS sz (S.o x) (S.o j)
 |.mkagg zero l=>.mkagg (zero.map S.v) (S.ps l)
 |.mkslice len zero l=>.mkslice len (zero.map S.v) (S.ps l)
 |.make zero b l c=>.make (zero.map S.v) b (S.o l) (S.o c)
 |.sliceS sz x lo hi mx=>.sliceS sz (S.o x) (S.oo lo) (S.oo hi) (S.oo mx)
 |.sliceA k sz x lo hi mx=>.sliceA k sz (S.o x) (S.oo lo) (S.oo hi) (S.oo mx)
 |.mkfn f cs=>.mkfn f (cs.map S.o)
 |.bind f cs=>.bind f (cs.map S.o)
 |.mkmap=>.mkmap
 |.look z ok m k=>.look (S.v z) ok (S.o m) (S.o k)
 |.mset m k x=>.mset (S.o m) (S.o k) (S.o x)
 |.lenc k=>.lenc k
 |.len kd x=>.len kd (S.o x)
 |.cap x=>.cap (S.o x)
 |.mx xs=>.mx (xs.map S.o)
 |.mn xs=>.mn (xs.map S.o)
 |.app sz b s x=>.app sz b (S.o s) (S.o x)
 |.appz z s x=>.appz (z.map S.v) (S.o s) (S.o x)
 |.ext x j=>.ext (S.o x) j
 |.mkif t x=>.mkif t (S.o x)
 |.call tab f args=>.call tab (S.o f) (args.map S.o)
 |.bad=>.bad
def x(a:IOpx):IOpx:=⟨a.dst,S.i a.op,a.g⟩
def gl(l:List (IOpx×Nat)):List (IOpx×Nat):=l.map fun p=>(S.x p.1,p.2)
def s:Seg->Seg
 |.one a=>.one (S.x a)
 |.grp l=>.grp (S.gl l)
 |.grpw a y k b l=>.grpw (S.o a) (S.o y) k b (S.gl l)
 |.stop=>.stop
def c:ICode->ICode
 |.skip=>.skip
 |.ret=>.ret
 |.exit id=>.exit id
 |.seq a b=>.seq (c a) (c b)
 |.cond y a b=>.cond (S.o y) (c a) (c b)
 |.block id a=>.block id (c a)
 |.loop a=>.loop (c a)
 |.scope a=>.scope (c a)
 |.ops l=>.ops (l.map S.s)
 |.rf f pl a b=>.rf (S.o f) pl (c a) (c b)
 |.kill m l a=>.kill m l (c a)
 |.stop=>.stop
def t:Itm->Itm
 |.code a=>.code (S.c a)
 |.inBlock id=>.inBlock id
 |.inLoop a=>.inLoop (S.c a)
 |.inScope a=>.inScope (S.c a)
 |.ops l=>.ops (l.map S.s)
 |.rfBegin=>.rfBegin
def e(p:AV×AV):AV×AV:=(S.v p.1,S.v p.2)
def r:Row->Row
 |.cells vs=>.cells (vs.map S.v)
 |.ro vs=>.ro (vs.map S.v)
 |.mp es=>.mp (es.map S.e)
 |.loop st pend sl pl asg body=>.loop st pend (sl.map S.v) pl (S.c asg) (S.c body)
 |.mark=>.mark
 |.dead=>.dead
def h(rows:List Row):List Row:=(rows.take S.g).map S.r++S.X++(rows.drop S.g).map S.r
def x3(q:AV×List Row×Nat):AV×List Row×Nat:=(S.v q.1,S.h q.2.1,S.n q.2.2)
def x3o(q:AV×List Row×Option Nat):AV×List Row×Option Nat:=(S.v q.1,S.h q.2.1,q.2.2.map S.n)
variable {S}
theorem h_len{rows:List Row}(hg:S.g<=rows.length):(S.h rows).length=S.n rows.length:=by
 rw[S.n_ge hg]
 simp[h]
 omega
theorem h_get{rows:List Row}(hg:S.g<=rows.length)(id:Nat):(S.h rows)[S.n id]?=(rows[id]?).map S.r:=by
 unfold h
 have hl:((rows.take S.g).map S.r).length=S.g:=by simp;omega
 by_cases hid:id<S.g
 ·rw[S.n_lo hid,List.append_assoc,List.getElem?_append_left (by omega),List.getElem?_map,List.getElem?_take,if_pos hid]
 ·rw[S.n_ge (by omega),List.getElem?_append_right (by simp;omega),List.getElem?_map,List.getElem?_drop]
  simp only[List.length_append,hl]
  congr 2
  omega
theorem h_set{rows:List Row}(hg:S.g<=rows.length)(id:Nat)(x:Row):(S.h rows).set (S.n id) (S.r x)=S.h (rows.set id x):=by
 unfold h
 have hl:((rows.take S.g).map S.r).length=S.g:=by simp;omega
 by_cases hid:id<S.g
 ·rw[S.n_lo hid,List.append_assoc,List.set_append_left _ _ (by omega),<-List.map_set,List.take_set,List.drop_set_of_lt hid,List.append_assoc]
 ·rw[S.n_ge (by omega),List.set_append_right _ _ (by simp;omega),<-List.map_set]
  simp only[List.length_append,hl]
  rw[List.take_set_of_le (by omega),List.drop_set,if_neg (by omega)]
  congr 3
  omega
theorem h_app{rows L:List Row}(hg:S.g<=rows.length):S.h (rows++L)=S.h rows++L.map S.r:=by
 unfold h
 rw[List.take_append_of_le_length hg,List.drop_append_of_le_length hg,List.map_append]
 simp only[List.append_assoc]
theorem h_row?{rows:List Row}(hg:S.g<=rows.length)(id:Nat):row? (S.h rows) (S.n id)=(row? rows id).map (·.map S.v):=by
 unfold row?
 rw[h_get hg]
 cases rows[id]? with
 |none=>rfl
 |some y=>cases y<;>rfl
variable (S)
theorem getO_ok(sl:List AV)(x:Opd):getO (sl.map S.v) (S.o x)=S.v (getO sl x):=by
 cases x with
 |
  t i=>
  simp only[o,getO,List.getD_eq_getElem?_getD,List.getElem?_map]
  cases sl[i]?<;>simp[v]
 |c y=>rfl
theorem seg_ok(l:List AV)(a b:Nat):seg (l.map S.v) a b=(seg l a b).map (·.map S.v):=by
 unfold seg
 rw[List.length_map]
 split<;>simp
theorem splice_ok(l m:List AV)(a:Nat):splice (l.map S.v) a (m.map S.v)=(splice l a m).map S.v:=by simp[splice]
theorem fill_ok{gg gg':Opd->AV}(hgg:∀x,gg' (S.o x)=S.v (gg x)):∀(l:List (Nat×Nat×Opd)) (cs:List AV),fillA gg' (S.ps l) (cs.map S.v)=(fillA gg l cs).map (·.map S.v)
 |[],cs=>rfl
 |
  (a,b,x)::l,cs=>by
  simp only[ps,List.map_cons,fillA,hgg,cells,List.length_map,all_one]
  split
  ·rw[splice_ok]
   exact fill_ok hgg l _
  ·rfl
theorem bin_ok(op:BinOp)(a b:AV):binA op (S.v a) (S.v b)=(binA op a b).map S.v:=by
 cases a<;>first
  |(simp only[v,binA];rfl)
  |(cases b<;>first
    |(simp only[v,binA];rfl)
    |(
      simp only[v,binA]
      split
      ·cases op<;>simp[shiftI]<;>split<;>simp[v]
      ·split
       ·cases op<;>simp only[binI]<;>first|rfl|(split<;>rfl)
       ·rfl))
theorem eqInts_ok:∀xs ys:List AV,eqInts (xs.map S.v) (ys.map S.v)=eqInts xs ys
 |[],[]=>rfl
 |[],_::_=>by simp[eqInts]
 |_::_,[]=>by simp[eqInts]
 |
  a::xs,b::ys=>by
  cases a<;>cases b<;>simp only[List.map_cons,v,eqInts]
  rw[eqInts_ok xs ys]
theorem eqIfc_ok(t n t1 t2:Nat)(a b:AV):eqIfc t n t1 t2 (S.v a) (S.v b)=eqIfc t n t1 t2 a b:=by
 cases a<;>cases b<;>first|rfl|simp only[v,eqIfc]
 simp only[vL_map,List.length_map,eqInts_ok]
theorem eq_ok(kd:EqK)(a b:AV):eqA kd (S.v a) (S.v b)=eqA kd a b:=by
 cases kd<;>cases a<;>cases b<;>first|rfl|simp only[v,eqA]
 ·simp only[vL_map,List.length_map,eqInts_ok]
 ·exact eqIfc_ok S _ _ _ _ _ _
theorem un_ok(op:UnOp)(a:AV):unA op (S.v a)=(unA op a).map S.v:=by
 cases a<;>cases op<;>simp only[v,unA]<;>rfl
theorem fold_ok{f:AV->AV->Option AV}(hf:∀a b,f (S.v a) (S.v b)=(f a b).map S.v):∀(l:List AV) (a:AV),foldA f (S.v a) (l.map S.v)=(foldA f a l).map S.v
 |[],a=>rfl
 |
  x::l,a=>by
  simp only[List.map_cons,foldA,hf]
  cases f a x with
  |none=>rfl
  |some b=>exact fold_ok hf l b
theorem mx_ok(a b:AV):mxA (S.v a) (S.v b)=(mxA a b).map S.v:=by
 cases a<;>cases b<;>first|rfl|(simp only[v,mxA];split<;>rfl)
theorem mn_ok(a b:AV):mnA (S.v a) (S.v b)=(mnA a b).map S.v:=by
 cases a<;>cases b<;>first|rfl|(simp only[v,mnA];split<;>rfl)
theorem bound_ok(y:Option AV)(d k:Nat):bound? (y.map S.v) d k=bound? y d k:=by
 cases y with
 |none=>rfl
 |some a=>cases a<;>rfl
theorem slice_ok(sz:Nat)(a:AV)(lo hi mx:Option AV):sliceV sz (S.v a) (lo.map S.v) (hi.map S.v) (mx.map S.v)=(sliceV sz a lo hi mx).map S.v:=by
 have e1:∀y:Option AV,(y.map S.v).isSome=y.isSome:=fun y=>by cases y<;>rfl
 have e2:∀y:Option AV,(y.map S.v).isNone=y.isNone:=fun y=>by cases y<;>rfl
 cases a<;>try rfl
 case slice id off len cp=>
  cases cp with
  |
   at_ k=>
   simp only[v,sliceV,bound_ok,e1,e2]
   cases bound? mx k k with
   |none=>rfl
   |
    some q=>
    simp only
    cases bound? hi len q with
    |none=>rfl
    |
     some w=>
     simp only
     cases bound? lo 0 w with
     |none=>rfl
     |some u=>simp only;split<;>rfl
  |
   op k=>
   cases mx with
   |
    none=>
    simp only[v,sliceV,bound_ok,e1,e2,Option.map_none]
    cases bound? hi len len with
    |none=>rfl
    |
     some w=>
     simp only
     cases bound? lo 0 w with
     |none=>rfl
     |some u=>simp only;split<;>rfl
   |
    some y=>
    have e3:=bound_ok S (some y) len len
    simp only[Option.map_some]at e3
    simp only[v,sliceV,bound_ok,e1,e2,Option.map_some,e3]
    cases bound? (some y) len len with
    |none=>rfl
    |
     some q=>
     simp only
     cases bound? hi len q with
     |none=>rfl
     |
      some w=>
      simp only
      cases bound? lo 0 w with
      |none=>rfl
      |
       some u=>
       simp only
       by_cases z1:hi.isNone=true
       ·simp[z1]
       ·by_cases z2:k=sz<;>simp[z1,z2,v]
 case nilslice=>
  simp only[v,sliceV,bound_ok,e1,e2]
  cases bound? mx 0 0<;>cases bound? hi 0 0<;>cases bound? lo 0 0<;>simp only<;>first|rfl|(split<;>rfl)
theorem key_ok(a b:AV):keyEq (S.v a) (S.v b)=keyEq a b:=by cases a<;>cases b<;>rfl
theorem find_ok(k:AV):∀(es:List (AV×AV)) (j:Nat),findK (S.v k) (es.map S.e) j=(findK k es j).map fun q=>q.map fun p=>(p.1,S.v p.2)
 |[],j=>rfl
 |
  p::es,j=>by
  simp only[List.map_cons,findK,e,key_ok]
  cases keyEq k p.1 with
  |none=>rfl
  |
   some b=>
   cases b
   ·exact find_ok k es (j+1)
   ·rfl
end Sh
end Go.Abs
namespace Go.Abs
namespace Sh
variable (S:Sh)
theorem map_ok{gg gg':Opd->AV}(hgg:∀y,gg' (S.o y)=S.v (gg y))(l:List Opd):(l.map S.o).map gg'=(l.map gg).map S.v:=by
 simp[hgg,Function.comp_def]
theorem mapo_ok{gg gg':Opd->AV}(hgg:∀y,gg' (S.o y)=S.v (gg y))(l:Option Opd):(S.oo l).map gg'=(l.map gg).map S.v:=by
 cases l<;>simp[oo,hgg]
theorem evalP_ok{gg gg':Opd->AV}(hgg:∀y,gg' (S.o y)=S.v (gg y)){rows:List Row}(hg:S.g<=rows.length)(op:IOp):evalP (S.h rows) gg' (S.i op)=(evalP rows gg op).map S.v:=by
 cases op with
 |mv y=>simp only[i,evalP,hgg,Option.map_some]
 |
  pick y a b=>
  simp only[i,evalP,hgg]
  cases gg y<;>try rfl
  simp only[v,Option.map_some];split<;>rfl
 |
  load1 a=>
  simp only[i,evalP,hgg]
  cases gg a<;>try rfl
  simp only[v,h_row? hg]
  cases row? rows _ with
  |none=>rfl
  |some vs=>simp
 |
  loadN k a=>
  simp only[i,evalP,hgg]
  cases gg a<;>try rfl
  simp only[v,h_row? hg]
  cases row? rows _ with
  |none=>rfl
  |
   some vs=>
   simp only[Option.map_some,seg_ok]
   cases seg vs _ _<;>simp[v_agg]
 |
  nilck y=>
  simp only[i,evalP,hgg]
  cases gg y<;>rfl
 |bin op a b=>simp only[i,evalP,hgg,bin_ok]
 |
  eqv neg kd a b=>
  simp only[i,evalP,hgg,eq_ok]
  cases eqA kd (gg a) (gg b)<;>rfl
 |un op a=>simp only[i,evalP,hgg,un_ok]
 |
  conv k a=>
  simp only[i,evalP,hgg]
  cases gg a<;>rfl
 |
  part1 off a=>
  simp only[i,evalP,hgg]
  cases gg a<;>try rfl
  simp[v_agg]
 |
  partN off k a=>
  simp only[i,evalP,hgg]
  cases gg a<;>try rfl
  simp only[v_agg,seg_ok]
  cases seg _ off k<;>simp[v_agg]
 |
  idxV len sz ag a j=>
  simp only[i,evalP,hgg]
  cases gg a<;>try rfl
  cases gg j<;>try rfl
  simp only[v_agg,v,vL_map]
  cases idx? _ len with
  |none=>rfl
  |
   some q=>
   simp only
   split
   ·rw[seg_ok];cases seg _ _ _<;>simp[v_agg]
   ·simp
 |
  fieldA off a=>
  simp only[i,evalP,hgg]
  cases gg a<;>rfl
 |
  idxA len sz a j=>
  simp only[i,evalP,hgg]
  cases gg a<;>try rfl
  cases gg j<;>try rfl
  simp only[v]
  cases idx? _ len<;>rfl
 |
  idxS sz a j=>
  simp only[i,evalP,hgg]
  cases gg a<;>try rfl
  cases gg j<;>try rfl
  simp only[v]
  cases idx? _ _<;>rfl
 |
  mkagg z l=>
  simp only[i,evalP,fill_ok S hgg]
  cases fillA gg l z<;>simp[v_agg]
 |sliceS sz a lo hi mx=>simp only[i,evalP,hgg,mapo_ok S hgg,slice_ok]
 |
  sliceA k sz a lo hi mx=>
  simp only[i,evalP,hgg,mapo_ok S hgg]
  cases gg a<;>try rfl
  rename_i id off
  exact slice_ok S sz (.slice id off k (.at_ k)) (lo.map gg) (hi.map gg) (mx.map gg)
 |mkfn f cs=>simp only[i,evalP,map_ok S hgg,Option.map_some,v_func]
 |bind f cs=>simp only[i,evalP,map_ok S hgg,Option.map_some,v,vL_map,List.map_cons]
 |
  look z ok a b=>
  simp only[i,evalP,hgg]
  cases gg a<;>try rfl
  ·rename_i id
   simp only[v,h_get hg]
   cases rows[id]? with
   |none=>rfl
   |
    some y=>
    cases y<;>try rfl
    simp only[Option.map_some,r,find_ok]
    cases findK (gg b) _ 0 with
    |none=>rfl
    |
     some q=>
     cases q with
     |none=>simp only[Option.map_some,Option.map_none];cases ok<;>simp[v_tup,v]
     |some p=>simp only[Option.map_some];cases ok<;>simp[v_tup,v]
  ·simp only[v,key_ok]
   cases keyEq (gg b) (gg b)with
   |none=>rfl
   |some q=>simp only;cases ok<;>simp[v,vL_map]
 |lenc k=>rfl
 |
  len kd a=>
  simp only[i,evalP,hgg]
  cases gg a<;>(try (rcases kd with _|_|_|kd<;>rfl))
  rcases kd with _|_|_|kd<;>try rfl
  rename_i id
  simp only[v,h_get hg]
  cases rows[id]? with
  |none=>rfl
  |some y=>cases y<;>simp[r,v]
 |
  cap a=>
  simp only[i,evalP,hgg]
  cases gg a<;>try rfl
  rename_i c
  cases c<;>rfl
 |
  mx xs=>
  simp only[i,evalP,map_ok S hgg]
  cases xs.map gg with
  |nil=>rfl
  |cons a l=>exact fold_ok S (mx_ok S) l a
 |
  mn xs=>
  simp only[i,evalP,map_ok S hgg]
  cases xs.map gg with
  |nil=>rfl
  |cons a l=>exact fold_ok S (mn_ok S) l a
 |
  ext a j=>
  simp only[i,evalP,hgg]
  cases gg a<;>try rfl
  simp[v_tup]
 |mkif ty a=>simp[i,evalP,hgg,v]
 |_=>rfl
theorem lower_ok(low id:Nat):lower (S.n low) (S.n id)=S.n (lower low id):=by
 unfold lower
 by_cases h:id<low
 ·rw[if_pos h,if_pos (S.n_lt.2 h)]
 ·rw[if_neg h,if_neg (fun e=>h (S.n_lt.1 e))]
theorem elems_ok{rows:List Row}(hg:S.g<=rows.length)(sz:Nat)(a:AV):elems (S.h rows) sz (S.v a)=(elems rows sz a).map fun p=>(p.1.map S.v,p.2):=by
 cases a<;>try rfl
 simp only[v,elems,h_row? hg]
 cases row? rows _ with
 |none=>rfl
 |
  some vs=>
  simp only[Option.map_some,seg_ok]
  cases seg vs _ _<;>simp
theorem rep_ok(k:Nat)(z:List AV):(List.replicate k (z.map S.v)).flatten=((List.replicate k z).flatten).map S.v:=by
 induction k with
 |zero=>rfl
 |succ k ih=>rw[List.replicate_succ,List.replicate_succ,List.flatten_cons,List.flatten_cons,ih,List.map_append]
theorem cells_ok(l:List AV):S.r (.cells l) = .cells (l.map S.v):=rfl
theorem tup0:S.v (.tup []) = .tup []:=by rw[v_tup];rfl
theorem evalE_ok{gg gg':Opd->AV}(hgg:∀y,gg' (S.o y)=S.v (gg y)){rows:List Row}(hg:S.g<=rows.length)(low:Nat)(op:IOp):evalE gg' (S.h rows) (S.n low) (S.i op)=(evalE gg rows low op).map S.x3/\∀q,evalE gg rows low op=some q->rows.length<=q.2.1.length:=by
 have hP:∀op:IOp,(evalP (S.h rows) gg' (S.i op)).map (fun w=>(w,S.h rows,S.n low))=((evalP rows gg op).map fun w=>(w,rows,low)).map S.x3:=by
  intro op
  rw[evalP_ok S hgg hg]
  cases evalP rows gg op<;>rfl
 have hP2:∀op:IOp,∀q,((evalP rows gg op).map fun w=>(w,rows,low))=some q->rows.length<=q.2.1.length:=by
  intro op q e
  rw[Option.map_eq_some_iff]at e
  obtain⟨w,_,rfl⟩:=e
  exact Nat.le_refl _
 have hlen:(S.h rows).length=S.n rows.length:=h_len hg
 cases op with
 |
  box y=>
  simp only[i,evalE,hgg,cells,all_one]
  by_cases h1:(gg y).cells.all AV.one=true
  ·rw[if_pos h1,if_pos h1]
   refine⟨?_,fun q e=>?_⟩
   ·simp only[Option.map_some,x3,v,hlen,h_app hg,List.map_cons,List.map_nil,cells_ok,List.map_append]
   ·injection e with e;subst e;simp
  ·rw[if_neg h1,if_neg h1]
   exact⟨rfl,fun q e=>by simp at e⟩
 |
  store1 a y=>
  simp only[i,evalE,hgg]
  cases gg a<;>try exact⟨rfl,fun q e=>by simp at e⟩
  rename_i id off
  simp only[v,h_get hg]
  cases hr:rows[id]? with
  |none=>exact⟨rfl,fun q e=>by simp at e⟩
  |
   some w=>
   cases w<;>try exact⟨rfl,fun q e=>by simp at e⟩
   rename_i vs
   simp only[Option.map_some,r,List.length_map,one]
   by_cases h1:off<vs.length/\(gg y).one=true
   ·rw[if_pos h1,if_pos h1]
    refine⟨?_,fun q e=>?_⟩
    ·simp only[Option.map_some,x3,tup0,lower_ok,<-h_set hg,cells_ok,List.map_set]
    ·injection e with e;subst e;simp
   ·rw[if_neg h1,if_neg h1]
    exact⟨rfl,fun q e=>by simp at e⟩
 |
  storeN k a y=>
  simp only[i,evalE,hgg]
  cases gg a<;>try exact⟨rfl,fun q e=>by simp at e⟩
  rename_i id off
  cases gg y<;>try exact⟨rfl,fun q e=>by simp at e⟩
  rename_i l
  simp only[v,vL_map,h_get hg]
  cases hr:rows[id]? with
  |none=>exact⟨rfl,fun q e=>by simp at e⟩
  |
   some w=>
   cases w<;>try exact⟨rfl,fun q e=>by simp at e⟩
   rename_i vs
   simp only[Option.map_some,r,List.length_map,all_one]
   by_cases h1:l.length=k/\off+k<=vs.length/\l.all AV.one=true
   ·rw[if_pos h1,if_pos h1]
    refine⟨?_,fun q e=>?_⟩
    ·simp only[Option.map_some,x3,tup0,lower_ok,<-h_set hg,cells_ok,splice_ok]
    ·injection e with e;subst e;simp
   ·rw[if_neg h1,if_neg h1]
    exact⟨rfl,fun q e=>by simp at e⟩
 |
  mkslice k z l=>
  simp only[i,evalE,fill_ok S hgg]
  cases fillA gg l z with
  |none=>exact⟨rfl,fun q e=>by simp at e⟩
  |
   some cs=>
   refine⟨?_,fun q e=>?_⟩
   ·simp only[Option.map_some,x3,v,hlen,h_app hg,List.map_cons,List.map_nil,cells_ok,List.map_append]
   ·simp only[Option.some.injEq]at e;subst e;simp
 |
  make z b l cp=>
  simp only[i,evalE,hgg]
  cases gg l<;>try exact⟨rfl,fun q e=>by simp at e⟩
  cases gg cp<;>try exact⟨rfl,fun q e=>by simp at e⟩
  simp only[v]
  split
  ·refine⟨?_,fun q e=>?_⟩
   ·simp only[Option.map_some,x3,v,hlen,h_app hg,List.map_cons,List.map_nil,cells_ok,rep_ok]
   ·injection e with e;subst e;simp
  ·exact⟨rfl,fun q e=>by simp at e⟩
 |
  appz z a y=>
  simp only[i,evalE,hgg]
  cases gg a<;>try exact⟨rfl,fun q e=>by simp at e⟩
  cases gg y<;>try exact⟨rfl,fun q e=>by simp at e⟩
  simp only[v]
  split
  ·refine⟨?_,fun q e=>?_⟩
   ·simp only[Option.map_some,x3,v,hlen,h_app hg,List.map_cons,List.map_nil,cells_ok,rep_ok]
   ·injection e with e;subst e;simp
  ·exact⟨rfl,fun q e=>by simp at e⟩
 |
  mkmap=>
  refine⟨?_,fun q e=>?_⟩
  ·simp[i,evalE,x3,v,hlen,h_app hg,r]
  ·simp only[evalE,Option.some.injEq]at e;subst e;simp
 |
  mset a k y=>
  simp only[i,evalE,hgg]
  cases gg a<;>try exact⟨rfl,fun q e=>by simp at e⟩
  rename_i id
  simp only[v,h_get hg]
  cases hr:rows[id]? with
  |none=>exact⟨rfl,fun q e=>by simp at e⟩
  |
   some w=>
   cases w<;>try exact⟨rfl,fun q e=>by simp at e⟩
   rename_i es
   simp only[Option.map_some,r,find_ok]
   cases findK (gg k) es 0 with
   |none=>exact⟨rfl,fun q e=>by simp at e⟩
   |
    some q=>
    cases q with
    |
     none=>
     simp only[Option.map_some,Option.map_none,key_ok]
     split
     ·refine⟨?_,fun q e=>?_⟩
      ·simp only[Option.map_some,x3,tup0,lower_ok,<-h_set hg,r,List.map_append,List.map_cons,List.map_nil,Sh.e]
      ·injection e with e;subst e;simp
     ·exact⟨rfl,fun q e=>by simp at e⟩
    |
     some p=>
     obtain⟨j,w⟩:=p
     simp only[Option.map_some]
     refine⟨?_,fun q e=>?_⟩
     ·simp only[x3,tup0,lower_ok,<-h_set hg,r,List.map_set,Sh.e]
     ·injection e with e;subst e;simp
 |
  app sz b a y=>
  simp only[i,evalE,hgg,elems_ok S hg]
  cases elems rows sz (gg y)with
  |none=>exact⟨rfl,fun q e=>by simp at e⟩
  |
   some p=>
   obtain⟨ys,m⟩:=p
   simp only[Option.map_some]
   by_cases hm:m=0
   ·rw[if_pos hm,if_pos hm]
    cases hga:gg a with
    |nilslice=>exact⟨rfl,fun q e=>by injection e with e;subst e;exact Nat.le_refl _⟩
    |slice=>exact⟨rfl,fun q e=>by injection e with e;subst e;exact Nat.le_refl _⟩
    |_=>exact⟨rfl,fun q e=>by simp at e⟩
   ·rw[if_neg hm,if_neg hm]
    by_cases hm2:lim<m
    ·rw[if_pos hm2,if_pos hm2];exact⟨rfl,fun q e=>by simp at e⟩
    ·rw[if_neg hm2,if_neg hm2]
     cases gg a<;>try exact⟨rfl,fun q e=>by simp at e⟩
     ·rename_i id off k cp
      cases cp with
      |
       at_ c=>
       simp only[v]
       by_cases h1:lim<k+m
       ·rw[if_pos h1,if_pos h1];exact⟨rfl,fun q e=>by simp at e⟩
       ·rw[if_neg h1,if_neg h1]
        by_cases h2:k+m<=c
        ·rw[if_pos h2,if_pos h2,h_get hg]
         cases hr:rows[id]? with
         |none=>exact⟨rfl,fun q e=>by simp at e⟩
         |
          some w=>
          cases w<;>try exact⟨rfl,fun q e=>by simp at e⟩
          rename_i vs
          simp only[Option.map_some,r,List.length_map]
          split
          ·refine⟨?_,fun q e=>?_⟩
           ·simp only[Option.map_some,x3,lower_ok,<-h_set hg,cells_ok,splice_ok,v]
           ·injection e with e;subst e;simp
          ·exact⟨rfl,fun q e=>by simp at e⟩
        ·rw[if_neg h2,if_neg h2,h_row? hg]
         cases row? rows id with
         |none=>exact⟨rfl,fun q e=>by simp at e⟩
         |
          some vs=>
          simp only[Option.map_some,seg_ok]
          cases seg vs off (k*sz)with
          |none=>exact⟨rfl,fun q e=>by simp at e⟩
          |
           some xs=>
           refine⟨?_,fun q e=>?_⟩
           ·simp only[Option.map_some,x3,v,hlen,h_app hg,List.map_cons,List.map_nil,cells_ok,List.map_append]
           ·injection e with e;subst e;simp
      |
       op sz'=>
       simp only[v]
       by_cases h1:lim<k+m\/sz'≠sz
       ·rw[if_pos h1,if_pos h1];exact⟨rfl,fun q e=>by simp at e⟩
       ·rw[if_neg h1,if_neg h1,h_get hg]
        cases hr:rows[id]? with
        |none=>exact⟨rfl,fun q e=>by simp at e⟩
        |
         some w=>
         cases w<;>try exact⟨rfl,fun q e=>by simp at e⟩
         rename_i vs
         simp only[Option.map_some,r,seg_ok]
         cases seg vs off (k*sz)with
         |none=>exact⟨rfl,fun q e=>by simp at e⟩
         |
          some xs=>
          refine⟨?_,fun q e=>?_⟩
          ·have hg':S.g<=(rows.set id .dead).length:=by simpa using hg
           have e1:(S.h rows).set (S.n id) .dead=S.h (rows.set id .dead):=h_set (S:=S) hg id .dead
           simp only[Option.map_some,x3,lower_ok,e1,v,hlen,h_app hg',List.map_cons,List.map_nil,cells_ok,List.map_append]
          ·injection e with e;subst e;simp
     ·refine⟨?_,fun q e=>?_⟩
      ·simp only[Option.map_some,x3,v,hlen,h_app hg,List.map_cons,List.map_nil,cells_ok,List.map_append]
      ·injection e with e;subst e;simp
 |call f args=>exact⟨rfl,fun q e=>by simp[evalE,evalP]at e⟩
 |bad=>exact⟨rfl,fun q e=>by simp[evalE,evalP]at e⟩
 |mv y=>exact⟨hP (.mv y),hP2 (.mv y)⟩
 |mkfn f cs=>exact⟨hP (.mkfn f cs),hP2 (.mkfn f cs)⟩
 |bind f cs=>exact⟨hP (.bind f cs),hP2 (.bind f cs)⟩
 |lenc k=>exact⟨hP (.lenc k),hP2 (.lenc k)⟩
 |mkif ty y=>exact⟨hP (.mkif ty y),hP2 (.mkif ty y)⟩
 |_=>exact⟨hP _,hP2 _⟩
end Sh
end Go.Abs
namespace Go.Abs
namespace Sh
variable (S:Sh)
theorem any_ok:S.v .any = .any:=by simp[v]
theorem getT(sl:List AV)(t:Nat):(sl.map S.v).getD t .any=S.v (sl.getD t .any):=getO_ok S sl (.t t)
theorem h_take{rows:List Row}{b:Nat}(h1:S.g<=b)(h2:b<=rows.length):(S.h rows).take (S.n b)=S.h (rows.take b):=by
 have hg:S.g<=rows.length:=by omega
 have e:=h_app (S:=S) (rows:=rows.take b) (L:=rows.drop b) (by simp;omega)
 rw[List.take_append_drop]at e
 have hl:(S.h (rows.take b)).length=S.n b:=by
  rw[h_len (by simp;omega)];congr 1;simp;omega
 rw[e,List.take_append_of_le_length (by omega),List.take_of_length_le (by omega)]
theorem h_drop{rows:List Row}{b:Nat}(h1:S.g<=b)(h2:b<=rows.length):(S.h rows).drop (S.n b)=(rows.drop b).map S.r:=by
 have e:=h_app (S:=S) (rows:=rows.take b) (L:=rows.drop b) (by simp;omega)
 rw[List.take_append_drop]at e
 have hl:(S.h (rows.take b)).length=S.n b:=by
  rw[h_len (by simp;omega)];congr 1;simp;omega
 rw[e,List.drop_append_of_le_length (by omega),List.drop_of_length_le (by omega),List.nil_append]
theorem lt_ok(b:Nat)(l:List Nat):(l.map S.n).all (fun i=>decide (i<S.n b))=l.all fun i=>decide (i<b):=by
 simp only[List.all_map,Function.comp_def,S.n_lt]
theorem under_ok(b:Nat)(a:AV):(S.v a).under (S.n b)=a.under b:=by
 unfold AV.under
 rw[ids]
 exact lt_ok S b a.ids
theorem underL_ok(b:Nat)(l:List AV):(l.map S.v).all (AV.under (S.n b))=l.all (AV.under b):=by
 simp only[List.all_map,Function.comp_def,under_ok]
theorem runder_ok(b:Nat)(y:Row):(S.r y).under (S.n b)=y.under b:=by
 cases y<;>simp only[r,Row.under,underL_ok]
 rename_i es
 simp only[List.all_map,Function.comp_def,Sh.e,under_ok]
theorem runders_ok(b:Nat)(l:List Row):(l.map S.r).all (Row.under (S.n b))=l.all (Row.under b):=by
 simp only[List.all_map,Function.comp_def,runder_ok]
theorem under_mono{b b':Nat}(h:b<=b'){a:AV}(ha:a.under b=true):a.under b'=true:=by
 unfold AV.under at *
 rw[List.all_eq_true]at *
 intro x hx
 have:=ha x hx
 simp at *
 omega
theorem runder_mono{b b':Nat}(h:b<=b'){y:Row}(hy:y.under b=true):y.under b'=true:=by
 have hL:∀l:List AV,l.all (AV.under b)=true->l.all (AV.under b')=true:=by
  intro l hl
  rw[List.all_eq_true]at *
  exact fun x hx=>under_mono h (hl x hx)
 cases y<;>simp only[Row.under]at *<;>try exact hL _ hy
 rw[List.all_eq_true]at *
 intro x hx
 have:=hy x hx
 rw[Bool.and_eq_true]at *
 exact⟨under_mono h this.1,under_mono h this.2⟩
variable (hX:∀y∈S.X,y.under (S.g+S.X.length)=true)
include hX in
theorem gc_ok{b low:Nat}{a:AV}{rows:List Row}(h1:S.g<=b)(h2:b<=rows.length):gc (S.n b) (S.n low) (S.v a) (S.h rows)=S.h (gc b low a rows)/\b<=(gc b low a rows).length:=by
 have hall:(((S.h rows).take (S.n b)).drop (S.n low)).all (Row.under (S.n b))=((rows.take b).drop low).all (Row.under b):=by
  rw[h_take S h1 h2]
  have hl:S.g<=(rows.take b).length:=by simp;omega
  generalize rows.take b=R at hl ⊢
  by_cases hlow:S.g<=low
  ·by_cases hlR:low<=R.length
   ·rw[h_drop S hlow hlR,runders_ok]
   ·rw[List.drop_of_length_le (by rw[h_len hl,S.n_ge hl,S.n_ge hlow];omega),List.drop_of_length_le (by omega)]
    rfl
  ·rw[S.n_lo (by omega)]
   unfold h
   rw[List.append_assoc,List.drop_append_of_le_length (by simp;omega),<-List.map_drop,List.all_append,List.all_append,runders_ok,runders_ok]
   have hx:S.X.all (Row.under (S.n b))=true:=by
    rw[List.all_eq_true]
    exact fun y hy=>runder_mono (by rw[S.n_ge h1];omega) (hX y hy)
   rw[hx,Bool.true_and,<-List.all_append]
   congr 1
   rw[<-List.drop_append_of_le_length (by simp;omega),List.take_append_drop]
 unfold gc
 rw[under_ok,hall]
 split
 ·rw[h_take S h1 h2]
  exact⟨rfl,by simp;omega⟩
 ·exact⟨rfl,h2⟩
theorem plain_ok(a:AV):(S.v a).plain=a.plain:=by
 cases a<;>simp only[v,AV.plain]<;>first
  |rfl
  |(rename_i x;have:=ids S (.func _ x);simp only[v]at this;simp[this])
  |skip
 all_goals
  first
  |(rename_i f cs;have e:=ids S (.func f cs);simp only[v]at e;rw[e];simp)
  |(rename_i f cs;have e:=ids S (.iface f cs);simp only[v]at e;rw[e];simp)
  |(rename_i f;have e:=ids S (.map f);simp only[v]at e;rw[e];simp)
  |(rename_i f;have e:=ids S (.yield f);simp only[v]at e;rw[e];simp)
  |(rename_i f;have e:=ids S (.agg f);simp only[v]at e;rw[e];simp)
  |(rename_i f;have e:=ids S (.tup f);simp only[v]at e;rw[e];simp)
theorem ntup{a:AV}(h:∀l,a ≠ .tup l):∀l,S.v a ≠ .tup l:=by
 intro l
 cases a<;>simp[v]
 exact absurd rfl (h _)
theorem plain1_eq{a:AV}(h:∀l,a ≠ .tup l):a.plain1=a.plain:=by
 cases a<;>first|rfl|exact absurd rfl (h _)
theorem ren1_eq{a:AV}(p q:Nat)(h:∀l,a ≠ .tup l):a.ren1 p q=a.ren p q:=by
 cases a<;>first|rfl|exact absurd rfl (h _)
theorem plain1_ok(a:AV):(S.v a).plain1=a.plain1:=by
 by_cases ht:∃l,a = .tup l
 ·obtain⟨l,rfl⟩:=ht
  rw[v_tup];simp only[AV.plain1,List.all_map,Function.comp_def,plain_ok]
 ·have h1:∀l,a ≠ .tup l:=fun l e=>ht ⟨l,e⟩
  rw[plain1_eq h1,plain1_eq (ntup S h1),plain_ok]
theorem ren_ok(p q:Nat)(a:AV):(S.v a).ren (S.n p) (S.n q)=S.v (a.ren p q):=by
 cases a<;>simp only[v,AV.ren,S.n_inj]<;>first|rfl|(split<;>rfl)
theorem ren1_ok(p q:Nat)(a:AV):(S.v a).ren1 (S.n p) (S.n q)=S.v (a.ren1 p q):=by
 by_cases ht:∃l,a = .tup l
 ·obtain⟨l,rfl⟩:=ht
  rw[v_tup]
  simp only[AV.ren1,v_tup,List.map_map]
  congr 1
  apply List.map_congr_left
  intro x _
  exact ren_ok S p q x
 ·have h1:∀l,a ≠ .tup l:=fun l e=>ht ⟨l,e⟩
  rw[ren1_eq _ _ h1,ren1_eq _ _ (ntup S h1),ren_ok]
include hX in
theorem fin_ok{rows rows':List Row}{low:Nat}{a:AV}(h1:S.g<=rows.length)(h2:rows.length<=rows'.length):fin (S.h rows) (S.v a) (S.h rows') (S.n low)=S.x3o (fin rows a rows' low)/\rows.length<=(fin rows a rows' low).2.1.length:=by
 have hlen:(S.h rows).length=S.n rows.length:=h_len h1
 unfold fin
 rw[hlen]
 simp only[S.n_inj]
 by_cases hl:low=rows.length
 ·rw[if_pos hl,if_pos hl,ids,lt_ok]
  by_cases ha:(a.ids.all fun x=>decide (x<rows.length))=true
  ·rw[if_pos ha,if_pos ha]
   exact⟨rfl,Nat.le_refl _⟩
  ·rw[if_neg ha,if_neg ha]
   cases hi:a.ids with
   |nil=>exact⟨rfl,h2⟩
   |
    cons p l=>
    cases l with
    |cons _ _=>exact⟨rfl,h2⟩
    |
     nil=>
     simp only[List.map_cons,List.map_nil,h_get (Nat.le_trans h1 h2)]
     cases rows'[p]? with
     |none=>exact⟨rfl,h2⟩
     |
      some y=>
      cases y<;>try exact⟨rfl,h2⟩
      rename_i vs
      simp only[Option.map_some,r,plain1_ok]
      have e:(vs.map S.v).all (fun x=>x.ids.isEmpty)=vs.all fun x=>x.ids.isEmpty:=by
       simp only[List.all_map,Function.comp_def,ids,List.isEmpty_map]
      rw[e]
      split
      ·refine⟨?_,by simp⟩
       simp only[x3o,ren1_ok,h_app h1,List.map_cons,List.map_nil,cells_ok,Option.map_none]
      ·exact⟨rfl,h2⟩
 ·rw[if_neg hl,if_neg hl]
  have:=gc_ok S hX (low:=low) (a:=a) h1 h2
  refine⟨?_,this.2⟩
  simp only[x3o,this.1,Option.map_some]
theorem resV_ok{rows:List Row}(hg:S.g<=rows.length)(sl:List AV)(y:RV):resV (S.h rows) (sl.map S.v) y=(resV rows sl y).map S.v:=by
 cases y with
 |t k=>simp only[resV,getT,Option.map_some]
 |cell1 k=>exact evalP_ok S (getO_ok S sl) hg (.load1 (.t k))
 |cellN k sz=>exact evalP_ok S (getO_ok S sl) hg (.loadN sz (.t k))
theorem resVs_ok{rows:List Row}(hg:S.g<=rows.length)(sl:List AV):∀l:List RV,resVs (S.h rows) (sl.map S.v) l=(resVs rows sl l).map (·.map S.v)
 |[]=>rfl
 |
  y::l=>by
  simp only[resVs,resV_ok S hg,resVs_ok hg sl l]
  cases resV rows sl y<;>cases resVs rows sl l<;>simp
theorem results_ok{rows:List Row}(hg:S.g<=rows.length)(sl:List AV)(l:List RV):results (S.h rows) (sl.map S.v) l=(results rows sl l).map S.v:=by
 unfold results
 rw[resVs_ok S hg]
 cases resVs rows sl l with
 |none=>rfl
 |
  some q=>
  match q with
  |[]=>simp[tup0]
  |[a]=>rfl
  |a::b::l=>simp[v_tup]
def cx:Ctx->Ctx
 |.fn res=>.fn res
 |.round id=>.round (S.n id)
theorem leave_ok{cx:Ctx}{j:Option Jump}{sl:List AV}{rows:List Row}{low:Nat}(hg:S.g<=rows.length){q:AV×List Row×Nat}(h:leaveV cx j ⟨sl,rows,low⟩=some q):leaveV (S.cx cx) j ⟨sl.map S.v,S.h rows,S.n low⟩=some (S.x3 q)/\rows.length<=q.2.1.length:=by
 cases cx with
 |
  fn res=>
  simp only[leaveV,Sh.cx]at h ⊢
  split at h
  ·simp at h
  ·rename_i hj
   rw[Option.map_eq_some_iff]at h
   obtain⟨w,hw,rfl⟩:=h
   rw[results_ok S hg,hw]
   exact⟨rfl,Nat.le_refl _⟩
 |
  round id=>
  simp only[leaveV,Sh.cx]at h ⊢
  rw[h_get hg]
  split at h
  ·rename_i hr
   rw[hr]
   injection h with h
   subst h
   simp only[Option.map_some,r]
   refine⟨?_,by simp⟩
   simp only[x3,v,lower_ok,<-h_set hg,r]
  ·simp at h
theorem want_ok(sl:List AV)(gd:Option (Nat×Bool)):want (sl.map S.v) gd=want sl gd:=by
 cases gd with
 |none=>rfl
 |
  some p=>
  obtain⟨t,b⟩:=p
  simp only[want,getT]
  generalize sl.getD t AV.any=y
  cases y<;>simp only[v]
  rename_i l
  cases l<;>simp[v.vL]
def CallSh(call call':CallF):Prop:=∀f vs rows q,call f vs rows=some q->S.g<=rows.length->call' f (vs.map S.v) (S.h rows)=some (S.x3o q)/\rows.length<=q.2.1.length
theorem target_ok(a:AV)(args:List AV):target (S.v a) (args.map S.v)=(target a args).map fun p=>(p.1,p.2.map S.v):=by
 cases a<;>simp only[v,target]<;>try rfl
 simp[vL_map]
theorem boundOf_ok(t:Nat)(a:AV):boundOf t (S.v a)=(boundOf t a).map fun p=>(p.1,p.2.map S.v):=by
 cases a with
 |
  agg l=>
  cases l with
  |nil=>simp[v,v.vL,boundOf]
  |
   cons x l=>
   cases x with
   |
    int k f=>
    cases k<;>simp only[v,v.vL,boundOf,Option.map_none]
    by_cases h:t=bd
    ·simp[h,vL_map]
    ·simp[h]
   |_=>simp[v,v.vL,boundOf]
 |_=>simp[v,boundOf]
theorem targetC_ok(tab:List (Nat×Nat))(a:AV)(args:List AV):targetC tab (S.v a) (args.map S.v)=(targetC tab a args).map fun p=>(p.1,p.2.map S.v):=by
 cases tab with
 |
  nil=>
  cases a<;>simp only[v,targetC]<;>try rfl
  ·simp[vL_map]
  ·rw[boundOf_ok]
   cases boundOf _ _<;>simp
 |
  cons p tab=>
  cases a<;>simp only[v,targetC]<;>try rfl
  split
  ·rfl
  ·cases(p::tab).lookup _<;>simp
theorem lowO_ok(low:Nat)(d:Option Nat):lowO (S.n low) (d.map S.n)=S.n (lowO low d):=by
 cases d with
 |none=>rfl
 |some k=>exact lower_ok S low k
theorem put_ok(sl:List AV)(d:Option Nat)(a:AV):putO (sl.map S.v) d (S.v a)=(putO sl d a).map S.v:=by
 cases d<;>simp[putO]
theorem opR_ok{call call':CallF}(hc:S.CallSh call call'){sl:List AV}{rows:List Row}{low:Nat}{o:IOpx}(hg:S.g<=rows.length){q:AV×List Row×Nat}(h:opR call sl rows low o=some q):opR call' (sl.map S.v) (S.h rows) (S.n low) (S.x o)=some (S.x3 q)/\rows.length<=q.2.1.length:=by
 unfold opR at h ⊢
 simp only[Sh.x,want_ok]
 split at h
 ·simp at h
 ·injection h with h
  subst h
  exact⟨by simp only[x3,tup0],Nat.le_refl _⟩
 ·split at h
  ·rename_i tab f args ho
   rw[ho]
   simp only[i,getO_ok,map_ok S (getO_ok S sl),targetC_ok]
   split at h
   ·rename_i fid vs ht
    rw[ht]
    simp only[Option.map_some]
    split at h
    ·rename_i a rows' d hcall
     injection h with h
     subst h
     obtain⟨e1,e2⟩:=hc _ _ _ _ hcall hg
     simp only[e1,x3o,x3,lowO_ok]
     exact⟨trivial,e2⟩
    ·simp at h
   ·simp at h
  ·rename_i op hne
   have e:=evalE_ok S (getO_ok S sl) hg low o.op
   have e2:=e.2 q h
   have e1:=e.1
   rw[h]at e1
   refine⟨?_,e2⟩
   cases hop:o.op<;>first
    |(rw[hop]at e1;exact e1)
    |(exact absurd hop (hne _ _ _))
def ge(ext:List (Nat×Row)):List (Nat×Row):=ext.map fun p=>(p.1,S.r p.2)
theorem mask_ok(b:Nat)(ext:List (Nat×Row)):maskE b (S.ge ext)=(maskE b ext).map S.r:=by
 simp only[maskE,ge,List.map_map]
 apply List.map_congr_left
 intro p _
 simp only[Function.comp_def]
 split<;>rfl
theorem evalG_ok{call call':CallF}(hc:S.CallSh call call'){B:Nat->List Row}(hg:∀p,S.g<=(B p).length):∀(l:List (IOpx×Nat)) (j:Nat) (sl:List AV) (ext:List (Nat×Row)) (q:List AV×List (Nat×Row)),evalG call B j l sl ext=some q->evalG call' (fun p=>S.h (B p)) j (S.gl l) (sl.map S.v) (S.ge ext)=some (q.1.map S.v,S.ge q.2)
 |
  [],j,sl,ext,q,h=>by
  simp only[evalG,Option.some.injEq]at h
  subst h
  rfl
 |
  (o,b)::l,j,sl,ext,q,h=>by
  simp only[evalG]at h
  simp only[gl,List.map_cons,evalG,mask_ok]
  have hgl:(S.ge ext).length=ext.length:=by simp[ge]
  have hlen:((B j)++maskE b ext).length=(B j).length+ext.length:=by simp[maskE]
  have e0:S.h (B j)++(maskE b ext).map S.r=S.h ((B j)++maskE b ext):=(h_app (hg j)).symm
  have e1:(S.h (B j)).length+(S.ge ext).length=S.n ((B j).length+ext.length):=by
   rw[h_len (hg j),hgl,S.n_ge (hg j),S.n_ge (by have:=hg j;omega)];omega
  rw[e0,e1]
  split at h
  ·rename_i a rows' low' hop
   obtain⟨r1,r2⟩:=opR_ok S hc (by have:=hg j;omega) hop
   rw[r1]
   simp only[x3,S.n_inj]
   split at h
   ·rename_i hl
    rw[if_pos hl]
    have e2:(S.h rows').drop (S.n ((B j).length+ext.length))=(rows'.drop ((B j).length+ext.length)).map S.r:=h_drop S (by have:=hg j;omega) (by simp only at r2;omega)
    rw[e2]
    have:=evalG_ok hc hg l (j+1) _ _ q h
    simp only[gl,put_ok,ge,List.map_append,List.map_map,Function.comp_def]at this ⊢
    simpa[Sh.x,put_ok,Function.comp_def]using this
   ·simp at h
  ·simp at h
theorem maskR_ok{rows:List Row}(hg:S.g<=rows.length)(R off k:Nat):maskR (S.h rows) (S.n R) off k=S.h (maskR rows R off k):=by
 unfold maskR
 rw[h_get hg]
 cases rows[R]? with
 |none=>rfl
 |
  some w=>
  cases w<;>try rfl
  rename_i vs
  simp only[Option.map_some,r]
  rw[<-h_set hg]
  have:List.replicate k AV.any=(List.replicate k AV.any).map S.v:=by simp[v]
  rw[this,splice_ok,<-this]
  rfl
theorem maskR_len(rows:List Row)(R off n:Nat):(maskR rows R off n).length=rows.length:=Abs.maskR_len rows R off n
theorem stored_ok{rows:List Row}(hg:S.g<=rows.length)(sl:List AV)(R off:Nat)(a y:Opd)(k:Option Nat):stored (sl.map S.v) (S.h rows) (S.n R) off (S.o a) (S.o y) k=(stored sl rows R off a y k).map S.r:=by
 unfold stored
 rw[getO_ok]
 cases getO sl a<;>try rfl
 rename_i id off
 simp only[v,S.n_inj,h_get hg]
 split
 ·cases rows[id]? with
  |none=>rfl
  |
   some w=>
   cases w<;>try rfl
   rename_i vs
   simp only[Option.map_some,r]
   cases k with
   |
    none=>
    simp only[getO_ok,one,List.length_map]
    split
    ·simp[r]
    ·rfl
   |
    some m=>
    simp only[getO_ok]
    cases getO sl y<;>try rfl
    rename_i ll
    simp only[v,vL_map,List.length_map,all_one]
    split
    ·simp[r,splice_ok]
    ·rfl
 ·rfl
end Sh
end Go.Abs
namespace Go.Abs
namespace Sh
variable (S:Sh){F:Nat->Option IFn}
def f(fn:IFn):IFn:=⟨fn.ns,fn.res,S.c fn.body⟩
def F'(F:Nat->Option IFn):Nat->Option IFn:=fun k=>(F k).map S.f
theorem pop_ok(id:Nat):∀k:List Itm,popTo id (k.map S.t)=(popTo id k).map (·.map S.t)
 |[]=>rfl
 |
  .inBlock j::k=>by
  simp only[List.map_cons,t,popTo]
  split
  ·rfl
  ·exact pop_ok id k
 |.code _::k=>by simp only[List.map_cons,t,popTo];exact pop_ok id k
 |.inLoop _::k=>by simp only[List.map_cons,t,popTo];exact pop_ok id k
 |.inScope _::k=>by simp only[List.map_cons,t,popTo];exact pop_ok id k
 |.ops _::k=>by simp only[List.map_cons,t,popTo];exact pop_ok id k
 |.rfBegin::k=>by simp only[List.map_cons,t,popTo];exact pop_ok id k
theorem yield_ok(sl:List AV)(o:IOpx):yieldOf (sl.map S.v) (S.x o)=(yieldOf sl o).map fun p=>(S.n p.1,p.2.map S.v):=by
 obtain⟨d,op,gd⟩:=o
 cases op<;>try rfl
 rename_i tab fo args
 cases tab with
 |cons p tab=>rfl
 |nil=>
 simp only[yieldOf,Sh.x,i,getO_ok,want_ok,map_ok S (getO_ok S sl)]
 cases getO sl fo<;>simp only[v]<;>first
  |(
    cases want sl gd with
    |none=>rfl
    |some b=>cases b<;>rfl)
theorem putL_ok(ps:List Nat):∀(sl vs:List AV),putL (sl.map S.v) ps (vs.map S.v)=(putL sl ps vs).map S.v:=by
 unfold putL
 induction ps with
 |nil=>intro sl vs;simp
 |
  cons p ps ih=>
  intro sl vs
  cases vs with
  |nil=>simp
  |
   cons a vs=>
   simp only[List.map_cons,List.zip_cons_cons,List.foldl_cons]
   rw[<-List.map_set]
   exact ih _ _
theorem rfOk_ok{rows:List Row}(hg:S.g<=rows.length)(cx:Ctx):rfOk (S.cx cx) (S.h rows)=rfOk cx rows:=by
 cases cx with
 |fn res=>rfl
 |
  round id=>
  simp only[rfOk,Sh.cx,h_get hg]
  cases rows[id]? with
  |none=>rfl
  |some y=>cases y<;>rfl
theorem kill_ok:∀(l:List Nat) (sl:List AV),killS (sl.map S.v) l=(killS sl l).map S.v
 |[],sl=>rfl
 |
  d::l,sl=>by
  simp only[killS]
  rw[<-kill_ok l,List.map_set,any_ok]
theorem init_ok(fn:IFn)(vs:List AV){rows:List Row}(hg:S.g<=rows.length):init (S.f fn) (vs.map S.v) (S.h rows)=⟨(init fn vs rows).sl.map S.v,S.h rows,S.n rows.length⟩:=by
 simp[init,f,any_ok,h_len hg]
theorem jump_ok(j:Option Jump):(jumpI j).map S.t=jumpI j:=by
 cases j with
 |none=>rfl
 |some j=>cases j<;>rfl
variable (hX:∀y∈S.X,y.under (S.g+S.X.length)=true)
include hX in
theorem after_ok{b low:Nat}{rows:List Row}{d:Option Nat}(h1:S.g<=b)(h2:b<=rows.length){q:List Itm×List Row×Nat}(h:afterLoop b low rows d=some q):afterLoop (S.n b) (S.n low) (S.h rows) (d.map S.n)=some (q.1.map S.t,S.h q.2.1,S.n q.2.2)/\b<=q.2.1.length:=by
 unfold afterLoop at h ⊢
 rw[h_get (by omega)]
 split at h
 ·rename_i hr
  rw[hr]
  simp only[Option.map_some,r]
  split at h
  ·simp at h
  ·rename_i hb
   rw[if_neg hb]
   injection h with h
   subst h
   have e:(S.h rows).set (S.n b) .dead=S.h (rows.set b .dead):=h_set (S:=S) (by omega) b .dead
   have:=gc_ok S hX (b:=b) (low:=lowO low d) (a:=.tup []) (rows:=rows.set b .dead) h1 (by simpa using h2)
   rw[tup0]at this
   rw[e,lowO_ok,this.1]
   exact⟨by simp only[jump_ok],this.2⟩
 ·simp at h
include hX in
theorem call_ok{n:Nat}(ih:∀(cx:Ctx) (k:List Itm) (s:St) (q:AV×List Row×Nat),exec F n cx k s=some q->S.g<=s.rows.length->exec (S.F' F) n (S.cx cx) (k.map S.t) ⟨s.sl.map S.v,S.h s.rows,S.n s.low⟩=some (S.x3 q)/\s.rows.length<=q.2.1.length):S.CallSh (callBy F (exec F n)) (callBy (S.F' F) (exec (S.F' F) n)):=by
 intro fid vs rows q h hg
 unfold callBy at h ⊢
 unfold Sh.F'
 split at h
 ·rename_i fn hfn
  rw[hfn]
  simp only[Option.map_some]
  unfold callR at h
  split at h
  ·rename_i a rows' low' hx
   obtain⟨e1,e2⟩:=ih _ _ _ _ hx (by simpa[init]using hg)
   injection h with h
   subst h
   have e3:=fin_ok S hX (low:=low') (a:=a) hg (by simpa[init]using e2)
   refine⟨?_,e3.2⟩
   rw[init_ok S fn vs hg]
   have e4:exec (S.F' F) n (.fn (S.f fn).res) [.code (S.f fn).body] ⟨(init fn vs rows).sl.map S.v,S.h rows,S.n rows.length⟩=some (S.x3 (a,rows',low')):=e1
   unfold Sh.F' at e4
   rw[e4]
   simp only[callR,x3,e3.1]
  ·simp at h
 ·simp at h
include hX in
theorem exec_ok:∀(n:Nat) (cx:Ctx) (k:List Itm) (s:St) (q:AV×List Row×Nat),exec F n cx k s=some q->S.g<=s.rows.length->exec (S.F' F) n (S.cx cx) (k.map S.t) ⟨s.sl.map S.v,S.h s.rows,S.n s.low⟩=some (S.x3 q)/\s.rows.length<=q.2.1.length:=by
 intro n
 induction n with
 |zero=>intro cx k s q h;simp[exec]at h
 |
  succ n ih=>
  intro cx k s q h hg
  have hc:=call_ok S hX ih
  obtain⟨sl,rows,low⟩:=s
  replace hg:S.g<=rows.length:=hg
  cases k with
  |
   nil=>
   rw[exec]at h
   rw[List.map_nil,exec]
   exact leave_ok S hg h
  |
   cons y k=>
   rw[List.map_cons]
   cases y with
   |inBlock id=>rw[exec]at h;rw[t,exec];exact ih _ _ _ _ h hg
   |inScope c=>rw[exec]at h;rw[t,exec];exact ih _ _ _ _ h hg
   |inLoop c=>rw[exec,St.force_eq]at h;rw[t,exec,St.force_eq];exact ih _ _ _ _ h hg
   |
    rfBegin=>
    cases cx with
    |fn res=>simp[exec]at h
    |
     round id=>
     rw[exec]at h
     rw[t,Sh.cx,exec]
     simp only[h_get hg]at h ⊢
     cases hr:rows[id]? with
     |none=>simp[hr]at h
     |
      some w=>
      simp only[hr]at h
      cases w<;>try (simp at h;done)
      rename_i st pend sl1 ps asg body
      cases st<;>try (simp at h;done)
      simp only at h
      obtain⟨e1,e2⟩:=ih _ _ _ _ h (by simpa using hg)
      refine⟨?_,by simpa using e2⟩
      simp only[Option.map_some,r,lower_ok]
      rw[<-h_set hg]at e1
      exact e1
   |
    ops l=>
    cases l with
    |nil=>rw[exec]at h;rw[t,List.map_nil,exec];exact ih _ _ _ _ h hg
    |
     cons sg l=>
     cases sg with
     |
      one o=>
      rw[exec]at h
      rw[t,List.map_cons,s,exec]
      simp only[yield_ok]at h ⊢
      cases hy:yieldOf sl o with
      |
       some p=>
       obtain⟨id,vs⟩:=p
       rw[hy]at h
       simp only[Option.map_some,h_get hg]at h ⊢
       cases hr:rows[id]? with
       |none=>rw[hr]at h;simp at h
       |
        some w=>
        rw[hr]at h
        cases w<;>try (simp at h;done)
        rename_i st pend sl1 ps asg body
        simp only[Option.map_some,r,List.length_map]at h ⊢
        split at h
        ·rename_i hl
         rw[if_pos hl]
         split at h
         ·rename_i a rows' low' hx
          obtain⟨e1,e2⟩:=ih _ _ _ _ hx hg
          simp only at e2
          have e3:=gc_ok S hX (b:=rows.length) (low:=lower low low') (a:=a) (rows:=rows') hg e2
          obtain⟨e4,e5⟩:=ih _ _ _ _ h (by simp only;omega)
          simp only at e4 e5
          refine⟨?_,by omega⟩
          have e6:exec (S.F' F) n (.round (S.n id)) [.code (S.c asg),.rfBegin,.code (S.c body)] ⟨putL (sl1.map S.v) ps (vs.map S.v),S.h rows,(S.h rows).length⟩=some (S.x3 (a,rows',low')):=by
           rw[putL_ok,h_len hg]
           exact e1
          rw[e6]
          simp only[x3,h_len hg,lower_ok,e3.1,put_ok]
          exact e4
         ·simp at h
        ·simp at h
      |
       none=>
       rw[hy]at h
       simp only[Option.map_none]at h ⊢
       split at h
       ·rename_i a rows' low' hop
        obtain⟨e1,e2⟩:=opR_ok S hc hg hop
        rw[e1]
        simp only[x3]at e2 ⊢
        obtain⟨e4,e5⟩:=ih _ _ _ _ h (by simp only;omega)
        simp only at e4 e5
        refine⟨?_,by omega⟩
        rw[show(S.x o).dst=o.dst from rfl,put_ok]
        exact e4
       ·simp at h
     |
      grp g=>
      rw[exec]at h
      rw[t,List.map_cons,s,exec]
      simp only at h ⊢
      split at h
      ·rename_i sl' ext hop
       have e1:=evalG_ok S hc (fun _=>hg) _ _ _ _ _ hop
       rw[show S.ge []=[]from rfl]at e1
       rw[e1]
       obtain⟨e4,e5⟩:=ih _ _ _ _ h (by simp;omega)
       simp only at e4 e5
       refine⟨?_,by simp at e5;omega⟩
       rw[h_app hg,List.map_map]at e4
       simp only[ge,List.map_map]
       exact e4
      ·simp at h
     |
      grpw a w z bb g=>
      rw[exec]at h
      rw[t,List.map_cons,s,exec]
      simp only at h ⊢
      split at h
      ·rename_i sl0 ext0 hop0
       have e0:=evalG_ok S hc (fun _=>hg) _ _ _ _ _ hop0
       rw[show S.ge []=[]from rfl]at e0
       rw[e0]
       simp only[getO_ok]
       split at h
       ·rename_i R off hR
        rw[hR]
        simp only[v,forceRs_eq]at h ⊢
        split at h
        ·rename_i sl' ext hop
         have e1:=evalG_ok S hc (B:=baseW rows (maskR rows R off (z.getD 1)) bb) (fun p=>by unfold baseW;split;exact hg;rw[maskR_len];exact hg) _ _ _ _ _ hop
         rw[show S.ge []=[]from rfl]at e1
         have eB:baseW (S.h rows) (maskR (S.h rows) (S.n R) off (z.getD 1)) bb=fun p=>S.h (baseW rows (maskR rows R off (z.getD 1)) bb p):=by
          funext p
          unfold baseW
          rw[maskR_ok S hg]
          split<;>rfl
         rw[eB,e1]
         simp only[stored_ok S hg]
         split at h
         ·rename_i r' hr
          rw[hr]
          simp only[Option.map_some]
          obtain⟨e4,e5⟩:=ih _ _ _ _ h (by simp;omega)
          simp only at e4 e5
          refine⟨?_,by simp at e5;omega⟩
          rw[h_app (by simpa using hg),<-h_set hg,List.map_map]at e4
          simp only[ge,List.map_map,lower_ok]
          exact e4
         ·simp at h
        ·simp at h
       ·simp at h
      ·simp at h
     |stop=>simp[exec]at h
   |
    code cc=>
    rw[t]
    cases cc with
    |skip=>rw[exec]at h;rw[c,exec];exact ih _ _ _ _ h hg
    |ret=>rw[exec]at h;rw[c,exec];exact leave_ok S hg h
    |
     exit id=>
     rw[exec]at h
     rw[c,exec]
     simp only[pop_ok]at h ⊢
     cases hp:popTo id k with
     |some k'=>rw[hp]at h;simp only[Option.map_some]at h ⊢;exact ih _ _ _ _ h hg
     |none=>rw[hp]at h;simp only[Option.map_none]at h ⊢;exact leave_ok S hg h
    |seq a b=>rw[exec]at h;rw[c,exec];exact ih _ _ _ _ h hg
    |
     cond y a b=>
     rw[exec]at h
     rw[c,exec]
     simp only[getO_ok]at h ⊢
     cases hy:getO sl y<;>rw[hy]at h<;>try (simp at h;done)
     rename_i tt
     simp only[v]at h ⊢
     have e:=ih _ _ _ _ h hg
     cases tt<;>exact e
    |block id a=>rw[exec]at h;rw[c,exec];exact ih _ _ _ _ h hg
    |loop a=>rw[exec]at h;rw[c,exec];exact ih _ _ _ _ h hg
    |scope a=>rw[exec]at h;rw[c,exec];exact ih _ _ _ _ h hg
    |ops l=>simp only[exec,St.forceS_eq]at h;simp only[c,exec,St.forceS_eq];exact ih _ _ _ _ h hg
    |
     rf fo ps a b=>
     rw[exec]at h
     rw[c,exec]
     simp only[rfOk_ok S hg]at h ⊢
     split at h
     ·rename_i hok
      rw[if_pos hok]
      split at h
      ·rename_i fid vs ht
       have e0:target (getO (sl.map S.v) (S.o fo)) [.yield (S.h rows).length]=some (fid,vs.map S.v):=by
        have:=target_ok S (getO sl fo) [.yield rows.length]
        rw[ht]at this
        rw[getO_ok,h_len hg]
        exact this
       rw[e0]
       simp only
       split at h
       ·rename_i a' rows' d hop
        obtain⟨e1,e2⟩:=hc _ _ _ _ hop (by simp;omega)
        rw[h_app hg]at e1
        have e1':callBy (S.F' F) (exec (S.F' F) n) fid (vs.map S.v) (S.h rows++[.loop .ready none (sl.map S.v) ps (c S a) (c S b)])=some (S.x3o (a',rows',d)):=e1
        rw[e1']
        simp only[x3o]
        split at h
        ·rename_i k0 rows2 low2 ha
         simp at e2
         obtain⟨e3,e4⟩:=after_ok S hX hg (by omega) ha
         rw[h_len hg,e3]
         simp only
         obtain⟨e5,e6⟩:=ih _ _ _ _ h (by simp only at e4 ⊢;omega)
         simp only at e4 e5 e6
         refine⟨?_,by omega⟩
         rw[List.map_append]at e5
         exact e5
        ·simp at h
       ·simp at h
      ·simp at h
     ·simp at h
    |
     kill m l a=>
     rw[exec]at h
     rw[c,exec]
     obtain⟨e1,e2⟩:=ih _ _ _ _ h hg
     refine⟨?_,e2⟩
     simp only[kill_ok]
     exact e1
    |stop=>simp[exec]at h
include hX in
theorem ret_ok(hF:S.F' F=F){fid:Nat}{vs:List AV}{rows:List Row}{q:AV×List Row×Option Nat}(hg:S.g<=rows.length)(h:Ret F fid vs rows=some q):Ret F fid (vs.map S.v) (S.h rows)=some (S.x3o q):=by
 obtain⟨n,hn⟩:=Ret_iff.1 h
 obtain⟨e1,_⟩:=call_ok S hX (exec_ok S hX n) _ _ _ _ hn hg
 rw[hF]at e1
 exact Ret_of (n:=n) e1
end Sh
end Go.Abs
namespace Go.Abs
def shX(X:List Row):Sh:=⟨1,X⟩
set_option maxRecDepth 100000 in
theorem tab_sh(X:List Row):tabF.map (fun p=>(p.1,(shX X).f p.2))=tabF:=by kernel_rfl
theorem lookup_map{α:Type}(g:α->α)(k:Nat):∀l:List (Nat×α),(l.map fun p=>(p.1,g p.2)).lookup k=(l.lookup k).map g
 |[]=>rfl
 |
  (a,b)::l=>by
  simp only[List.map_cons,List.lookup_cons]
  split
  ·rfl
  ·exact lookup_map g k l
theorem F_sh(X:List Row):(shX X).F' F=F:=by
 funext k
 unfold Sh.F' F
 rw[<-lookup_map,tab_sh]
theorem awake_any{X:List Row}(hX:X.all (Row.under (1+X.length))=true):Ret F 19 [] (gRows++X)=some (.bool true,gRows++X,none):=by
 have h:=Sh.ret_ok (shX X) (fun y hy=>List.all_eq_true.1 hX y hy) (F_sh X) (rows:=gRows) (Nat.le_refl 1) awake_g
 have e1:(shX X).h gRows=gRows++X:=by
  have e:∀l:List Int,(nums .i64 l).map (shX X).v=nums .i64 l:=fun l=>by simp[nums,Sh.v,Function.comp_def]
  simp[Sh.h,shX,gRows]
  simp[Sh.r]
  exact e _
 rw[e1]at h
 simpa[Sh.x3o,e1,Sh.v]using h
end Go.Abs
namespace Go.Abs
theorem umodI{x m:Int}(h:0<m)(hm:m<=9223372036854775807):∃r:Nat,IntKind.i64.wrap ((IntKind.u64.wrap x).tmod m)=r/\(r:Int)<m:=by
 have h0:0<=IntKind.u64.wrap x:=by
  simp[IntKind.wrap,IntKind.min,IntKind.max,IntKind.signed,IntKind.bits]
  omega
 have h1:=Int.tmod_lt_of_pos (IntKind.u64.wrap x) h
 have h2:=Int.tmod_nonneg m h0
 refine⟨((IntKind.u64.wrap x).tmod m).toNat,?_,?_⟩
 ·rw[wrap64 (by omega) (by omega)];omega
 ·omega
def Cp(sz:Nat):AV->Prop
 |.slice _ _ n (.at_ c)=>n<=c
 |.slice _ _ _ (.op s)=>s=sz
 |_=>True
theorem lower_ge'{low id:Nat}(h:low<=id):lower low id=low:=by unfold lower;split<;>omega
def Und(B H:List Row):Prop:=∀y∈H,y.under (B.length+H.length)=true
theorem und_mono{y:Row}{a b:Nat}(h:y.under a=true)(hab:a<=b):y.under b=true:=Sh.runder_mono hab h
theorem Und_app{rows X H:List Row}(h1:Und rows X)(h2:Und (rows++X) H):Und rows (X++H):=by
 intro y hy
 rcases List.mem_append.1 hy with hy|hy
 ·exact und_mono (h1 y hy) (by simp<;>omega)
 ·exact und_mono (h2 y hy) (by simp<;>omega)
theorem Und_nil{rows:List Row}:Und rows []:=fun y hy=>by simp at hy
@[simp] theorem nums_und{k:IntKind}{l:List Int}{b:Nat}:(Row.cells (nums k l)).under b=true:=by simp[Row.under,AV.under,nums]
section
variable {rows:List Row}{sz n:Nat}{v:AV}{cs:List AV}{fl:List Int}
theorem El_num_len(h:El rows sz v (nums .i64 fl) n):fl.length=n*sz:=by have:=El_len h;simpa[nums]using this
theorem lenW(h:El rows sz v cs n):evP rows (.len 0 (.c v))=some (.int .i64 n):=evP_lenE h
theorem idxW(h:El rows sz v cs n){i:Nat}(hi:i<n):evP rows (.idxS sz (.c v) (.c (.int .i64 i)))=some (.ptr (sid v) (soff v+i*sz)):=by
 rw[evP_idxE h (by omega) (by omega),Int.toNat_natCast]
theorem ldW1(h:El rows sz v (nums .i64 fl) n){j:Nat}(hj:j<fl.length):evP rows (.load1 (.c (.ptr (sid v) (soff v+j))))=some (.int .i64 (gI fl j)):=by
 rw[evP_loadE h (by simpa[nums]using hj),nums_get,get_at hj];rfl
theorem seg_nums{l:List Int}{j m:Nat}(h:j+m<=l.length):seg (nums .i64 l) j m=some (nums .i64 ((l.drop j).take m)):=by
 unfold seg
 rw[if_pos (by simpa[nums]using h)]
 simp[nums,List.map_drop,List.map_take]
theorem ldWN(h:El rows sz v (nums .i64 fl) n){j m:Nat}(hj:j+m<=fl.length)(hm:0<m):evP rows (.loadN m (.c (.ptr (sid v) (soff v+j))))=some (.agg (nums .i64 ((fl.drop j).take m))):=by
 rw[evP_loadNE h (by simpa[nums]using hj) hm,seg_nums hj];rfl
theorem take2{l:List Int}{j:Nat}(h:j+2<=l.length):(l.drop j).take 2=[gI l j,gI l (j+1)]:=by
 rw[List.drop_eq_getElem_cons (by omega),List.drop_eq_getElem_cons (by omega),gI_eq (by omega),gI_eq (by omega)]
 rfl
theorem take3{l:List Int}{j:Nat}(h:j+3<=l.length):(l.drop j).take 3=[gI l j,gI l (j+1),gI l (j+2)]:=by
 rw[List.drop_eq_getElem_cons (by omega),List.drop_eq_getElem_cons (by omega),List.drop_eq_getElem_cons (by omega),gI_eq (by omega),gI_eq (by omega),gI_eq (by omega)]
 rfl
theorem ldW2(h:El rows 2 v (nums .i64 fl) n){i:Nat}(hi:i<n):evP rows (.loadN 2 (.c (.ptr (sid v) (soff v+i*2))))=some (.agg [.int .i64 (gI fl (i*2)),.int .i64 (gI fl (i*2+1))]):=by
 have hl:=El_num_len h
 rw[ldWN h (by omega) (by omega),take2 (by omega)];rfl
theorem ldW3(h:El rows 3 v (nums .i64 fl) n){i:Nat}(hi:i<n):evP rows (.loadN 3 (.c (.ptr (sid v) (soff v+i*3))))=some (.agg [.int .i64 (gI fl (i*3)),.int .i64 (gI fl (i*3+1)),.int .i64 (gI fl (i*3+2))]):=by
 have hl:=El_num_len h
 rw[ldWN h (by omega) (by omega),take3 (by omega)];rfl
theorem IsL_W(h:El rows sz v (nums .i64 fl) n){i:Nat}(hi:i<n){c:Cap}:IsL rows (.slice (sid v) (soff v+i*sz) sz c) ((fl.drop (i*sz)).take sz):=by
 have hl:=El_num_len h
 have hle:i*sz+sz<=n*sz:=by
  have:=Nat.mul_le_mul_right sz (show i+1<=n from hi)
  rw[Nat.add_mul,Nat.one_mul]at this
  exact this
 have hlen:((fl.drop (i*sz)).take sz).length=sz:=by simp;omega
 rcases El_cases h with ⟨rfl,h1,h0⟩|⟨id,off,c',vs,rfl,hr,hs⟩
 ·omega
 ·have h2:=seg_seg (j:=i*sz) (m:=sz) hs (by omega)
  rw[seg_nums (by omega)]at h2
  have:=IsL_mk (n:=0) (c:=c) (l:=(fl.drop (i*sz)).take sz) (off:=off+i*sz) hr (by rw[hlen];exact h2)
  rw[hlen]at this
  exact this
def accV(rows H:List Row)(sz:Nat)(cs:List AV)(n:Nat):AV:=match cs with
 |[]=>.nilslice
 |_=>.slice (rows.length+H.length) 0 n (.op sz)
def accR(H:List Row)(cs:List AV):List Row:=match cs with
 |[]=>H
 |_=>H++[.cells cs]
@[simp] theorem accV_nil{H:List Row}:accV rows H sz [] n = .nilslice:=rfl
@[simp] theorem accR_nil{H:List Row}:accR H []=H:=rfl
@[simp] theorem accV_cons{H:List Row}{x:AV}:accV rows H sz (x::cs) n = .slice (rows.length+H.length) 0 n (.op sz):=rfl
@[simp] theorem accR_cons{H:List Row}{x:AV}:accR H (x::cs)=H++[.cells (x::cs)]:=rfl
theorem acc_El{H:List Row}(hn:cs.length=n*sz)(hsz:0<sz):El (rows++accR H cs) sz (accV rows H sz cs n) cs n/\Cp sz (accV rows H sz cs n):=by
 cases cs with
 |
  nil=>
  have:n=0:=by
   rcases Nat.mul_eq_zero.1 (show n*sz=0 from hn.symm)with h|h
   ·exact h
   ·omega
  subst this
  exact⟨El_nil,trivial⟩
 |
  cons x cs=>
  refine⟨?_,rfl⟩
  have hr:row? (rows++accR H (x::cs)) (rows.length+H.length)=some (x::cs):=by
   unfold accR row?;simp
  show elems _ _ _=_
  unfold accV elems
  simp only[hr]
  unfold seg
  rw[if_pos (by omega),<-hn]
  simp
theorem acc_und{H:List Row}(hH:H.all (Row.under 0)=true)(hc:(Row.cells cs).under 0=true):(accR H cs).all (Row.under 0)=true:=by
 cases cs with
 |nil=>exact hH
 |cons x cs=>simp only[accR_cons,List.all_append,hH,List.all_cons,hc];rfl
theorem acc_more{H:List Row}{x:List AV}{low b:Nat}(hn:cs.length=n*sz)(hx:x.length=sz)(hsz:0<sz)(hl:n<1000000000)(hlow:low<=rows.length)(hH:H.all (Row.under 0)=true)(hc:(Row.cells cs).under 0=true)(hxu:(Row.cells x).under 0=true):
  ∃H',H'.all (Row.under 0)=true/\evE (rows++(accR H cs++[.cells x])) low (.app sz b (.c (accV rows H sz cs n)) (.c (.slice (rows.length+(accR H cs).length) 0 1 (.at_ 1))))=some (accV rows H' sz (cs++x) (n+1),rows++accR H' (cs++x),low):=by
 have hr:row? (rows++(accR H cs++[.cells x])) (rows.length+(accR H cs).length)=some x:=by
  unfold row?;simp
 have htmp:El (rows++(accR H cs++[.cells x])) sz (.slice (rows.length+(accR H cs).length) 0 1 (.at_ 1)) x 1:=by
  unfold El elems
  simp only[hr]
  unfold seg
  rw[if_pos (by omega)]
  simp only[List.drop_zero,Option.map_some,Nat.one_mul]
  rw[List.take_of_length_le (by omega)]
 cases cs with
 |
  nil=>
  have h0:n=0:=by
   rcases Nat.mul_eq_zero.1 (show n*sz=0 from hn.symm)with h|h
   ·exact h
   ·omega
  subst h0
  refine⟨H++[.cells x],by simp only[List.all_append,hH,List.all_cons,hxu];rfl,?_⟩
  simp only[accR_nil,accV_nil]at htmp ⊢
  rw[app_nil htmp (by omega) (by simp[lim])]
  cases x with
  |nil=>simp at hx;omega
  |cons y x=>simp
 |
  cons y cs=>
  have hn':n*sz=(y::cs).length:=hn.symm
  have hcell:cells? (rows++(accR H (y::cs)++[.cells x])) (rows.length+H.length)=some (y::cs):=by
   unfold cells?;simp
  refine⟨H++[.dead,.cells x],by simp only[List.all_append,hH,List.all_cons,hxu];rfl,?_⟩
  rw[accV_cons,app_op hcell (xs:=y::cs) (by unfold seg;rw[hn',if_pos (by omega)];simp) htmp (by omega) (by simp[lim];omega)]
  simp[lower_ge' (show low<=rows.length+H.length by omega)]
theorem cells_ids(hc:(Row.cells cs).under 0=true):cs.all (·.ids.isEmpty)=true:=by
 simp only[Row.under,List.all_eq_true]at hc ⊢
 intro x hx
 have:=hc x hx
 cases h:x.ids with
 |nil=>rfl
 |cons i is=>simp[AV.under,h]at this
theorem app_copy{x:AV}{low b:Nat}(h:El rows sz x cs n)(hsz:0<sz)(hn:n<=1000000000):evE rows low (.app sz b (.c .nilslice) (.c x))=some (accV rows [] sz cs n,rows++accR [] cs,low):=by
 have hl:=El_len h
 cases n with
 |
  zero=>
  have:cs=[]:=by simpa using hl
  subst this
  rw[app_0 h (.inl rfl)]
  simp
 |
  succ n=>
  rw[app_nil h (by omega) (by simp[lim];omega)]
  cases cs with
  |
   nil=>
   have:=Nat.mul_pos (show 0<n+1 by omega) hsz
   rw[<-hl]at this
   simp at this
  |cons y cs=>simp
end
end Go.Abs
set_option maxRecDepth 10000
namespace Go.Abs
open Go.Proofs Go.RowKit Go.ChangeShapes Go.WideShapes Go.ChangeAt Go.WideElems
structure ArgS where
 b:Nat
 o:Nat
 len:Nat
 cap:Nat
 zs:List Int
def argCl(W:World):Option ArgS->Prop
 |none=>True
 |some a=>(∀(i:Nat) (x:Int),a.zs[i]?=some x->W.cell? ⟨a.b,a.o+i,none⟩=some (.int .i64 x))/\a.b<W.heap.size
def argW(w:Nat):Option ArgS->Prop
 |none=>True
 |some a=>a.len<=a.cap/\a.cap<=maxLen/\a.zs.length=a.cap*w
def argRow:Option ArgS->Row
 |none=>.dead
 |some a=>.ro (nums .i64 a.zs)
def argAV(k:Nat):Option ArgS->AV
 |none=>.nilslice
 |some a=>.slice k 0 a.len (.at_ a.cap)
def argVal:Option ArgS->Value
 |none=>.slice none 0 0
 |some a=>.slice (some ⟨a.b,a.o,none⟩) a.len a.cap
def argLen:Option ArgS->Nat
 |none=>0
 |some a=>a.len
def argList(w:Nat):Option ArgS->List Int
 |none=>[]
 |some a=>a.zs.take (a.len*w)
def argLoc:Option ArgS->Option Loc
 |none=>none
 |some a=>some ⟨a.b,a.o,0⟩
def aRows(l:List (Option ArgS)):List Row:=gRows++l.map argRow
def aTh(l:List (Option ArgS)):Th:=fun id=>if id<1 then gTh id else(l[id-1]?).bind argLoc
theorem aHRel{κ:KRel}{W:World}{l:List (Option ArgS)}(h:laidMetH Tryd.prog laidL W)(hl:∀a∈l,argCl W a):HRel κ (aTh l) (aRows l) W:=by
 have hg:=gHRel (κ:=κ) h
 have hge:∀id L,1<=id->aTh l id=some L->∃a,l[id-1]?=some (some a)/\L=⟨a.b,a.o,0⟩:=by
  intro id L h2 e
  unfold aTh at e
  rw[if_neg (by omega)]at e
  cases hx:l[id-1]? with
  |none=>rw[hx]at e;simp at e
  |
   some y=>
   rw[hx]at e
   cases y with
   |none=>simp[argLoc]at e
   |some a=>simp[argLoc]at e;exact⟨a,rfl,e.symm⟩
 refine⟨?_,?_,?_,?_⟩
 ·intro id L e
  simp only[aRows,gRows,List.length_append,List.length_cons,List.length_nil,List.length_map]
  by_cases h2:id<1
  ·omega
  ·obtain⟨a,ha,_⟩:=hge id L (by omega) e
   have:=(List.getElem?_eq_some_iff.1 ha).1
   omega
 ·intro id L e
  by_cases h2:id<1
  ·unfold aTh at e
   rw[if_pos h2]at e
   exact hg.blk id L e
  ·obtain⟨a,ha,rfl⟩:=hge id L (by omega) e
   exact(hl _ (List.mem_of_getElem? ha)).2
 ·intro id r e
  by_cases h2:id<1
  ·have e2:gRows[id]?=some r:=by
    unfold aRows at e
    rwa[List.getElem?_append_left (by simp[gRows];omega)]at e
   have:=hg.row id r e2
   have ht:aTh l id=gTh id:=by unfold aTh;rw[if_pos h2]
   match id,h2 with
   |
    0,_=>
    injection e2 with e2;subst e2
    obtain⟨L,hL,hc⟩:=this
    refine⟨L,ht.trans hL,fun j x hx=>?_⟩
    rw[nums_get]at hx
    obtain⟨n,hn,rfl⟩:=Option.map_eq_some_iff.1 hx
    obtain⟨x',h1,h3,h4⟩:=hc j (.int .i64 n) (by rw[nums_get,hn];rfl)
    cases h3
    exact⟨_,h1,.int _ _,h4⟩
  ·unfold aRows at e
   rw[List.getElem?_append_right (by simp[gRows];omega),show gRows.length=1 from rfl,List.getElem?_map]at e
   obtain⟨y,hy,rfl⟩:=Option.map_eq_some_iff.1 e
   cases y with
   |none=>trivial
   |
    some a=>
    refine⟨⟨a.b,a.o,0⟩,?_,fun j x hx=>?_⟩
    ·unfold aTh
     rw[if_neg (by omega),hy]
     rfl
    ·rw[nums_get]at hx
     obtain⟨n,hn,rfl⟩:=Option.map_eq_some_iff.1 hx
     exact⟨_,(hl _ (List.mem_of_getElem? hy)).1 j n hn,.int _ _,rfl⟩
 ·intro i j r s L L' hij hr ho
  exfalso
  have hm:=List.mem_of_getElem? hr
  unfold aRows at hm
  rw[List.mem_append]at hm
  rcases hm with hm|hm
  ·simp[gRows]at hm
   rcases hm with rfl|rfl<;>simp[Row.owned]at ho
  ·obtain⟨y,_,rfl⟩:=List.mem_map.1 hm
   cases y<;>simp[argRow,Row.owned]at ho
theorem aGRel{l:List (Option ArgS)}:GRel (aTh l) [0]:=by
 intro i g e
 match i,e with
 |0,e=>injection e with e;subst e;exact⟨⟨0,0,0⟩,rfl,rfl,rfl⟩
 |n+1,e=>simp at e
theorem aV{l:List (Option ArgS)}{w k:Nat}{a:Option ArgS}(ha:l[k]?=some a)(hok:argW w a):V (aTh l) (argAV (1+k) a) (argVal a):=by
 cases a with
 |none=>exact .nilslice
 |
  some a=>
  have e:aTh l (1+k)=some ⟨a.b,a.o,0⟩:=by
   unfold aTh
   rw[if_neg (by omega),show 1+k-1=k from by omega,ha]
   rfl
  exact .sliceAt e (fun _=>rfl) hok.1
theorem argLen_le{w:Nat}{a:Option ArgS}(hok:argW w a):argLen a<=9223372036854775807:=by
 cases a with
 |none=>exact Nat.zero_le _
 |
  some a=>
  obtain⟨h1,h2,_⟩:=hok
  have:maxLen=9223372036854775807:=rfl
  show a.len<=_
  omega
theorem argList_len{w:Nat}{a:Option ArgS}(hok:argW w a):(argList w a).length=argLen a*w:=by
 cases a with
 |none=>simp[argList,argLen]
 |
  some a=>
  obtain⟨h1,h2,h3⟩:=hok
  have:=Nat.mul_le_mul_right w h1
  simp only[argList,argLen,List.length_take]
  omega
theorem aEl{l:List (Option ArgS)}{w k:Nat}{a:Option ArgS}(ha:l[k]?=some a)(hok:argW w a):El (aRows l) w (argAV (1+k) a) (nums .i64 (argList w a)) (argLen a):=by
 have hlen:=argList_len hok
 cases a with
 |none=>exact rfl
 |
  some a=>
  obtain⟨h1,h2,h3⟩:=hok
  have:=Nat.mul_le_mul_right w h1
  have hr:row? (aRows l) (1+k)=some (nums .i64 a.zs):=by
   unfold row? aRows
   rw[List.getElem?_append_right (by simp[gRows]),show 1+k-gRows.length=k from by simp[gRows],List.getElem?_map,ha]
   rfl
  unfold El elems argAV
  simp only[hr,argList,argLen]
  have:seg (nums .i64 a.zs) 0 (a.len*w)=some (nums .i64 (a.zs.take (a.len*w))):=by
   rw[nums_seg,if_pos (by omega)]
   simp
  rw[this]
  rfl
theorem awake_u(l:List (Option ArgS)):∀H,Und (aRows l) H->Ret F 19 [] (aRows l++H)=some (.bool true,aRows l++H,none):=by
 intro H hH
 have:=awake_any (X:=l.map argRow++H) (by
  rw[List.all_eq_true]
  intro y hy
  rw[List.mem_append]at hy
  rcases hy with hy|hy
  ·refine Sh.runder_mono (Nat.zero_le _) ?_
   obtain⟨a,_,rfl⟩:=List.mem_map.1 hy
   cases a<;>simp[argRow,Row.under,AV.under,nums]
  ·refine Sh.runder_mono ?_ (hH y hy)
   simp[aRows,gRows]
   omega)
 simpa[aRows]using this
theorem slice_cells{P:Program}{W:World}{H:Type}{enc:TypeId×Value->H}{spare held:_}{fuel w:Nat}{t e:TypeId}{v:Value}{x:_}(ht:P.underlying t=some (.slice e))(hc:P.cellsOf e=w)(hw:0<w)
  (hel0:∀n cs z,DataW.trod enc P W 0 spare held n e cs=some z->∀i,i<w->∃p:Int,cs[i]?=some (.int .i64 p))
  (hspt:∀y l c,v = .slice (some y) l c->y.spot=none/\y.block<W.heap.size)
  (hs:∀b,spare b=true) (h:DataW.trod enc P W 0 spare held fuel t [v]=some x):∃a:Option ArgS,v=argVal a/\argCl W a/\argW w a:=by
 rcases DataW.trod_slice ht h with ⟨h0,_⟩|⟨y,l,c,elems,rest,n,_,hcs,rfl,_,hl,hm,hlen,hel,hsp,_⟩
 ·simp at h0
  exact⟨none,h0,trivial,trivial⟩
 ·simp at hcs
  subst hcs
  obtain⟨hrl,hr⟩:=hsp (hs _)
  obtain⟨hspt,hb⟩:=hspt _ _ _ rfl
  obtain⟨b,o,sp⟩:=y
  subst hspt
  have ad:∀(b o i:Nat),(⟨b,o,none⟩:Addr).add i=(⟨b,o+i,none⟩:Addr):=by
   intro b o i
   unfold Addr.add
   split
   ·rename_i h0;subst h0;rfl
   ·rfl
  have each:∀j,j<c->∀i,i<w->∃p:Int,W.cell? ⟨b,o+j*w+i,none⟩=some (.int .i64 p):=by
   intro j hj i hi
   have hb:∃z,(W.cells? 0 ((⟨b,o,none⟩:Addr).add (j*w)) w).bind (DataW.trod enc P W 0 spare held n e)=some z:=by
    by_cases h1:j<l
    ·have:=hel j h1
     rw[hc]at this
     rw[this]
     exact⟨_,List.getElem?_eq_getElem (by omega)⟩
    ·have:=hr (j-l) (by omega)
     rw[hc,show l+(j-l)=j by omega]at this
     rw[this]
     exact⟨_,List.getElem?_eq_getElem (by omega)⟩
   obtain⟨z,hz⟩:=hb
   rw[Option.bind_eq_some_iff]at hz
   obtain⟨cs,hcs,hz⟩:=hz
   obtain⟨p,hp⟩:=hel0 _ _ _ hz i hi
   have:=(World.cells?_some hcs).2.2 i hi
   rw[hp,ad,ad]at this
   exact⟨p,this⟩
  have hcell:∀i,i<c*w->∃p:Int,W.cell? ⟨b,o+i,none⟩=some (.int .i64 p):=by
   intro i hi
   obtain⟨p,h1⟩:=each (i/w) ((Nat.div_lt_iff_lt_mul hw).2 hi) (i%w) (Nat.mod_lt _ hw)
   rw[Nat.add_assoc,show i/w*w+i%w=i from by rw[Nat.mul_comm];exact Nat.div_add_mod _ _]at h1
   exact⟨p,h1⟩
  let f:Nat->Int:=fun i=>match W.cell? ⟨b,o+i,none⟩with
   |some (.int .i64 p)=>p
   |_=>0
  refine⟨some ⟨b,o,l,c,(List.range (c*w)).map f⟩,rfl,⟨?_,hb⟩,hl,hm,by simp⟩
  intro i x hx
  have hi:i<c*w:=by have:=(List.getElem?_eq_some_iff.1 hx).1;simpa using this
  obtain⟨p,hp⟩:=hcell i hi
  have:x=p:=by
   have h2:f i=p:=by show(match W.cell? ⟨b,o+i,none⟩with|some (.int .i64 p)=>p|_=>0)=p;rw[hp]
   simp[hi]at hx
   rw[<-hx,h2]
  rw[this]
  exact hp
theorem el_arr{P:Program}{W:World}{H:Type}{enc:TypeId×Value->H}{spare held:_}{e i:TypeId}{w:Nat}(he:P.underlying e=some (.array w i))(hi:P.underlying i=some (.int .i64))(hc1:P.cellsOf i=1)(hcw:P.cellsOf e=w):
  ∀n cs z,DataW.trod enc P W 0 spare held n e cs=some z->∀k,k<w->∃p:Int,cs[k]?=some (.int .i64 p):=by
 intro n cs z h k hk
 obtain⟨xs,m,_,_,hcl,hxl,hx⟩:=DataW.trod_array he h
 have h0:=hx k hk
 rw[hc1,List.getElem?_eq_getElem (by omega)]at h0
 obtain⟨p,hp,_⟩:=DataW.trod_int hi h0
 refine⟨p,?_⟩
 have h1:((cs.drop (k*1)).take 1)[0]?=some (.int .i64 p):=by rw[hp];rfl
 rw[List.getElem?_take_of_lt (by omega),List.getElem?_drop]at h1
 simpa using h1
theorem spot_cell{P:Program}{W:World}{t e:TypeId}{b0:Nat}{v:Value}(ht:P.underlying t=some (.slice e))(hv:Cell.okWide P W .any b0 t v):∀y l c,v = .slice (some y) l c->y.spot=none/\y.block<W.heap.size:=by
 intro y l c e
 subst e
 simp only[ht,Cell.okWide,Cell.ok]at hv
 obtain⟨_,_,_,hsp,row,cells,hsh,_⟩:=hv
 refine⟨hsp,?_⟩
 unfold World.shape? at hsh
 by_cases hlt:y.block<W.heap.size
 ·exact hlt
 ·rw[show W.heap[y.block]?=none from Array.getElem?_eq_none (by omega)]at hsh
  simp at hsh
theorem ground_arg{P:Program}{W:World}{H:Type}{enc:TypeId×Value->H}{spare held:_}{fuel:Nat}{t ti t2 t3 e2 e3:TypeId}{fs:Array Field}{f0 f1 f2:Field}{cs:Array Value}{x:_}{b0:Nat}(ht:P.underlying t=some (.struct fs))(hf0:fs[0]?=some f0)(hf1:fs[1]?=some f1)(hf2:fs[2]?=some f2)
  (h0:f0.type=ti/\f0.offset=0) (h1:f1.type=t2/\f1.offset=1) (h2:f2.type=t3/\f2.offset=2)
  (hi:P.underlying ti=some (.int .i64)) (hci:P.cellsOf ti=1) (ht2:P.underlying t2=some (.slice e2)) (hct2:P.cellsOf t2=1) (ht3:P.underlying t3=some (.slice e3)) (hct3:P.cellsOf t3=1)
  (he2:P.underlying e2=some (.array 2 ti)) (hc2:P.cellsOf e2=2) (he3:P.underlying e3=some (.array 3 ti)) (hc3:P.cellsOf e3=3) (hct:P.cellsOf t=3)
  (hcts:P.cellTypes P.depth t=some [ti,t2,t3])
  (hv:Value.okWide P W .any b0 t (.agg cs)) (hs:∀b,spare b=true) (h:DataW.trod enc P W 0 spare held fuel t cs.toList=some x):
  ∃(n:Int) (a b:Option ArgS),cs = #[.int .i64 n,argVal a,argVal b]/\argCl W a/\argCl W b/\argW 2 a/\argW 3 b:=by
 unfold Value.okWide at hv
 rw[ht]at hv
 obtain⟨cs',e,hsz,ts,hts,_,hcell⟩:=hv
 simp only[Value.agg.injEq]at e
 subst e
 rw[hcts]at hts
 injection hts with hts
 subst hts
 rw[hct]at hsz
 obtain⟨xs,m,_,_,hcl,hxl,hx⟩:=DataW.trod_struct ht h
 have hx0:=hx 0 f0 hf0
 have hx1:=hx 1 f1 hf1
 have hx2:=hx 2 f2 hf2
 rw[h0.1,h0.2,hci]at hx0
 rw[h1.1,h1.2,hct2]at hx1
 rw[h2.1,h2.2,hct3]at hx2
 obtain⟨l⟩:=cs
 match l,hsz with
 |
  [u0,u1,u2],_=>
  simp only[List.drop_zero,List.drop_succ_cons,List.take_succ_cons,List.take_zero]at hx0 hx1 hx2
  have c1:Cell.okWide P W .any b0 t2 u1:=by
   obtain⟨u,hu,hok⟩:=hcell 1 u1 rfl
   injection hu with hu
   subst hu
   exact hok
  have c2:Cell.okWide P W .any b0 t3 u2:=by
   obtain⟨u,hu,hok⟩:=hcell 2 u2 rfl
   injection hu with hu
   subst hu
   exact hok
  have hxl3:2<xs.length:=by
   have:=(Array.getElem?_eq_some_iff.1 hf2).1
   omega
  rw[List.getElem?_eq_getElem (by omega)]at hx0 hx1 hx2
  obtain⟨n,hn,_⟩:=DataW.trod_int hi hx0
  simp only[List.cons.injEq,and_true]at hn
  subst hn
  obtain⟨a,rfl,ha1,ha2⟩:=slice_cells ht2 hc2 (by omega) (el_arr he2 hi hci hc2) (spot_cell ht2 c1) hs hx1
  obtain⟨b,rfl,hb1,hb2⟩:=slice_cells ht3 hc3 (by omega) (el_arr he3 hi hci hc3) (spot_cell ht3 c2) hs hx2
  exact⟨n,a,b,rfl,ha1,hb1,ha2,hb2⟩
end Go.Abs